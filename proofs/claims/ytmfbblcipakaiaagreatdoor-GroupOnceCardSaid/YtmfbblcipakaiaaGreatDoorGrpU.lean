/- What Apply keeps while it goes: appends of items and of numbers; the next groups. No walk here. -/
import Derived.Test.YtmfbblcipakaiaaGreatDoorGrpP
import Derived.Maps.OwnSet
import Derived.Deep.CutBlock
import Derived.Deep.DeepCutAuto
import Derived.Test.YtmfbblcipakaiaaGreatDoorNorm
/-! ### What Apply keeps while it goes: appends of items and of numbers; the next groups. No walk here. -/
namespace Go.Proofs.YtmfbblcipakaiaaGreatDoor
open Go.RowKit

theorem Kept.refl (T base : Nat) (w : World) : Kept T base w w := ⟨Below.refl _ _, fun _ _ _ _ h _ => h⟩
theorem Kept.trans {T base : Nat} {a b c : World} (h : Kept T base a b) (k : Kept T base b c) : Kept T base a c := ⟨h.low.trans k.low, fun p cs T' f hh hT => k.other p cs T' f (h.other p cs T' f hh hT) hT⟩
theorem Kept.then {T base : Nat} {a b c : World} (h : Kept T base a b) (k : Old b c) (hb : base ≤ b.heap.size) : Kept T base a c := ⟨h.low.trans (k.mono hb), fun p cs T' f hh hT => k.heap (h.other p cs T' f hh hT)⟩

/-! ### append of items whose rows are new, too -/
theorem itemVals_cell2 : ∀ (vs : List Value) (l : List Item), (∀ v ∈ vs, v.oneCell' = true) → ∀ u ∈ itemVals vs l, u.oneCell' = true
  | [], l, _, u, hu => by simp [itemVals] at hu
  | _ :: _, [], _, u, hu => by simp [itemVals] at hu
  | v :: vs, x :: l, h, u, hu => by
    simp only [itemVals, List.mem_cons] at hu
    rcases hu with rfl | rfl | hu
    · exact h _ (by simp)
    · rfl
    · exact itemVals_cell2 vs l (fun v hv => h v (by simp [hv])) u hu
theorem step_push_seen {o : Oper} {a : Act} {K : Act → World → Prop} {Q : Exit → Act → World → Prop} (w : World) (s x : Operand)
    (ho : o.op = .call { callee := .builtin .append, args := #[s, x], argTypes := #[33, 33] })
    (base : Nat) (v : Value) (l : List Item) (hs : a.eval s = v) (hown : ItemsOwn 60 65 base w v l) (xv : Value) (m : List Item) (hev : a.eval x = xv) (hx : ItemsT 60 65 base w xv m) (hlen : l.length + m.length ≤ 4194304) (hbase : base ≤ w.heap.size)
    (h : ∀ v' w', ItemsOwn 60 65 base w' v' (l ++ m) → Kept 60 base w w' → w.grownBy w' v.ownBlock → K (a.put o.dst v') w') : o.wp Tryz.prog a w K Q := by
  obtain ⟨i0, hi, hz0, hz1, hz2⟩ := info_parts itemInfo
  obtain ⟨vs, e1, e2, e3⟩ := hown
  obtain ⟨us, g1, g2, g3⟩ := hx
  refine wp_append_sl w s x 33 ho base 60 i0 _ 2 32 Tryz.underlying33 hi hz0 hz1 hz2 rfl (by omega) v l.length (itemVals vs l) hs e2
    xv m.length (itemVals us m) hev g2.sl (itemVals_length us m g1) (itemVals_cell2 us m (fun v hv => ?_)) (by unfold maxLen; omega) (by omega) hbase ?_
  · obtain ⟨i, hi, rfl⟩ := List.getElem_of_mem hv
    obtain ⟨A, c, hh, _⟩ := g3 i (by omega) hi
    rw [hh]
    rfl
  · intro v' w' own' hg
    have hK := Kept.of_grown e2 hg hbase
    refine h v' w' ⟨vs ++ us, by simp [e1, g1], ?_, ?_⟩ hK hg
    · rw [itemVals_append vs l _ _ e1, List.length_append]
      exact own'
    · intro i hi hi'
      rcases Nat.lt_or_ge i l.length with hlt | hge
      · have : i < vs.length := by omega
        rw [List.getElem_append_left this]
        simp only [List.getElem_append_left hlt]
        exact hK.slT (e3 i hlt this) (by decide)
      · rw [List.getElem_append_right (by omega)]
        simp only [List.getElem_append_right hge, e1]
        exact hK.slT (g3 _ (by simp at hi; omega) (by simp at hi'; omega)) (by decide)
/-- items that lie behind the row that was written -/
theorem ItemsT.behind {lo : Nat} {w w' : World} {v xv : Value} {m : List Item} (hx : ItemsT 60 65 lo w xv m) (hg : w.grownBy w' v.ownBlock) (hlt : ∀ g, v.ownBlock = some g → g < lo) : ItemsT 60 65 lo w' xv m := by
  cases hv : v.ownBlock with
  | none =>
    rw [hv] at hg
    exact hx.old ⟨hg.os, hg.tape, hg.output, hg.size, fun j hj => hg.block j hj (by simp)⟩
  | some g =>
    rw [hv] at hg
    exact hx.chg (Chg.of_grown hg) (fun b _ _ _ hb _ e => by have := hlt g hv; omega)
theorem own_lt {base : Nat} {w : World} {v : Value} {l : List Item} (hown : ItemsOwn 60 65 base w v l) : ∀ g, v.ownBlock = some g → g < w.heap.size := by
  intro g hg
  obtain ⟨vs, _, e2, _⟩ := hown
  exact (e2.lt g hg).2

/-! ### append of a number -/
theorem numInfo : (Tryz.prog.info? 2).map (fun i => (i.zero, i.size, i.bytes)) = some (some (.int .i64 0), 1, 8) := by kernel_rfl
theorem numVals_append (a b : List Int) : numVals (a ++ b) = numVals a ++ numVals b := by simp [numVals]
theorem numVals_cell (l : List Int) : ∀ u ∈ numVals l, u.oneCell' = true := by
  intro u hu
  obtain ⟨n, _, rfl⟩ := List.mem_map.1 hu
  rfl
theorem one_num {w : World} {g cap : Nat} {n : Int} (h0 : w.cell? ⟨g, 0, none⟩ = some (.int .i64 n)) (hc : 1 ≤ cap) (hm : cap ≤ maxLen) : Sl w (.slice (some ⟨g, 0, none⟩) 1 cap) 1 (numVals [n]) := by
  refine ⟨_, cap, rfl, hc, hm, fun _ => ⟨g, 0, rfl, fun j u hu => ?_⟩⟩
  match j, hu with
  | 0, hu => simp [numVals] at hu; subst hu; exact h0
  | j + 1, hu => simp [numVals] at hu
theorem step_push_num {o : Oper} {a : Act} {K : Act → World → Prop} {Q : Exit → Act → World → Prop} (w : World) (s x : Operand)
    (ho : o.op = .call { callee := .builtin .append, args := #[s, x], argTypes := #[61, 61] })
    (base : Nat) (v : Value) (m : Nat) (l : List Int) (hs : a.eval s = v) (hown : w.ownsRow base 2 1 v m (numVals l)) (xv : Value) (n : Int) (hev : a.eval x = xv) (hx : Sl w xv 1 (numVals [n])) (hlen : m + 1 ≤ 4194304) (hbase : base ≤ w.heap.size)
    (h : ∀ v' w', w'.ownsRow base 2 1 v' (m + 1) (numVals (l ++ [n])) → Kept 2 base w w' → K (a.put o.dst v') w') : o.wp Tryz.prog a w K Q := by
  obtain ⟨i0, hi, hz0, hz1, hz2⟩ := info_parts numInfo
  refine wp_append_sl w s x 61 ho base 2 i0 _ 1 8 Tryz.underlying61 hi hz0 hz1 hz2 rfl (by omega) v m (numVals l) hs hown
    xv 1 (numVals [n]) hev hx (by simp [numVals]) (numVals_cell _) (by unfold maxLen; omega) (by omega) hbase ?_
  intro v' w' own' hg
  refine h v' w' ?_ (Kept.of_grown hown hg hbase)
  rw [numVals_append]
  exact own'

/-! ### the next groups -/
/-- a group's state, whose slices lie in blocks of their types from lo on -/
def GEntT (w : World) (lo : Nat) (k : List Cell) (ns : List Int) (v : Value) : Prop :=
  ∃ a b, v = stVal a b ∧ SlT 65 lo w a k.length (rowVals k) ∧ SlT 2 lo w b ns.length (numVals ns)
theorem GEntT.old {w w' : World} {lo : Nat} {k : List Cell} {ns : List Int} {v : Value} (h : GEntT w lo k ns v) (o : Old w w') : GEntT w' lo k ns v := by
  obtain ⟨a, b, rfl, h1, h2⟩ := h
  exact ⟨a, b, rfl, h1.old o, h2.old o⟩
theorem GEntT.kept {w w' : World} {lo base : Nat} {k : List Cell} {ns : List Int} {v : Value} (h : GEntT w lo k ns v) (o : Kept 60 base w w') : GEntT w' lo k ns v := by
  obtain ⟨a, b, rfl, h1, h2⟩ := h
  exact ⟨a, b, rfl, o.slT h1 (by decide), o.slT h2 (by decide)⟩
theorem GEntT.turn {w w' : World} {lo : Nat} {k : List Cell} {ns : List Int} {v : Value} (h : GEntT w lo k ns v) {X : Nat → Prop} (c : Chg X w w') (hd : ∀ (b : Nat) cs T f, lo ≤ b → w.heap[b]? = some (.cells cs T f) → ¬ X b) : GEntT w' lo k ns v := by
  obtain ⟨a, b, rfl, h1, h2⟩ := h
  exact ⟨a, b, rfl, h1.chg c (fun b cs f hl hh => hd b cs _ f hl hh), h2.chg c (fun b cs f hl hh => hd b cs _ f hl hh)⟩
/-- the map bn has the groups of the keys `done` -/
structure GNext (w : World) (bn n lo S : Nat) (f : Gf) (done : List (List Cell)) (M : ByteArray → Option Value) : Prop where
  map : MapIs Tryz.prog 9 w bn n M
  at_ : ∀ k ∈ done, ∃ v, M (nameOf k) = some v ∧ GEntT w lo k (numsOf S f k) v
  names : ∀ s v, M s = some v → ∃ k ∈ done, s = nameOf k
section
variable {w w' : World} {bn n lo S : Nat} {f : Gf} {done : List (List Cell)} {M : ByteArray → Option Value}
theorem GNext.old (h : GNext w bn n lo S f done M) (o : Old w w') : GNext w' bn n lo S f done M :=
  ⟨h.map.old o, fun k hk => by obtain ⟨v, h1, h2⟩ := h.at_ k hk; exact ⟨v, h1, h2.old o⟩, h.names⟩
theorem GNext.kept {base : Nat} (h : GNext w bn n lo S f done M) (o : Kept 60 base w w') (hb : bn < base) : GNext w' bn n lo S f done M :=
  ⟨h.map.keep (o.low.block bn hb), fun k hk => by obtain ⟨v, h1, h2⟩ := h.at_ k hk; exact ⟨v, h1, h2.kept o⟩, h.names⟩
theorem GNext.turn {X : Nat → Prop} (h : GNext w bn n lo S f done M) (c : Chg X w w') (hb : ¬ X bn) (hd : ∀ (b : Nat) cs T f, lo ≤ b → w.heap[b]? = some (.cells cs T f) → ¬ X b) : GNext w' bn n lo S f done M :=
  ⟨h.map.chg c hb, fun k hk => by obtain ⟨v, h1, h2⟩ := h.at_ k hk; exact ⟨v, h1, h2.turn c hd⟩, h.names⟩
theorem GNext.made (w : World) (lo S : Nat) (f : Gf) : GNext (w.alloc (.map #[] 0)) w.heap.size 0 lo S f [] (fun _ => none) :=
  ⟨MapIs.made w _ _, fun _ h => (by cases h), fun _ _ h => (by cases h)⟩
theorem GNext.put {k : List Cell} {v : Value} (h : GNext w bn n lo S f done M) (hm : MapIs Tryz.prog 9 w' bn (n + 1) (upd M (nameOf k) (some v))) (hg : w.grownBy w' (some bn)) (hv : GEntT w lo k (numsOf S f k) v) : GNext w' bn (n + 1) lo S f (done ++ [k]) (upd M (nameOf k) (some v)) := by
  obtain ⟨es, cl, hbm⟩ := h.map.isMap
  have hd : ∀ (b : Nat) cs T f, lo ≤ b → w.heap[b]? = some (.cells cs T f) → ¬ b = bn := by
    rintro b cs T f _ hh rfl
    rw [hbm] at hh
    cases hh
  refine ⟨hm, fun j hj => ?_, fun s u hu => ?_⟩
  · unfold upd
    by_cases e : j = k
    · subst e
      exact ⟨v, if_pos rfl, hv.turn (Chg.of_grown hg) hd⟩
    · rw [if_neg (fun hh => e (nameOf_inj hh))]
      obtain ⟨u, h1, h2⟩ := h.at_ j (by simpa [e] using hj)
      exact ⟨u, h1, h2.turn (Chg.of_grown hg) hd⟩
  · unfold upd at hu
    by_cases e : s = nameOf k
    · exact ⟨k, by simp, e⟩
    · rw [if_neg e] at hu
      obtain ⟨j, hj, hs⟩ := h.names s u hu
      exact ⟨j, by simp [hj], hs⟩
end
/-- the groups when some of them have been turned -/
def mixF (f g : Gf) (done : List (List Cell)) : Gf := fun k i => if k ∈ done then g k i else f k i
theorem mix_nums {f g : Gf} {done : List (List Cell)} {S : Nat} (k : List Cell) : numsOf S (mixF f g done) k = if k ∈ done then numsOf S g k else numsOf S f k := by
  unfold numsOf mixF
  split <;> rfl
theorem leftB_mix {f g : Gf} {done : List (List Cell)} {S : Nat} (k : List Cell) : leftB S (mixF f g done) k = if k ∈ done then leftB S g k else leftB S f k := by
  unfold leftB
  rw [mix_nums]
  split <;> rfl
theorem mix_all {f : Gf} {l : List Ent} {done : List (List Cell)} (h : KeysOf l done) : mixF f (gAdd f l) done = gAdd f l := by
  funext k i
  unfold mixF
  split
  · rfl
  · rename_i hk
    unfold gAdd
    rw [tot_none (fun e he hh => hk ((h k).2 ⟨e, he, hh⟩))]
    omega
/-- a group is put into the groups -/
theorem GMap.put {w W w' : World} {bm n K S : Nat} {f g : Gf} {done : List (List Cell)} {B : Nat → Prop} {M : ByteArray → Option Value} {k : List Cell} {v : Value} (h : GMap w bm n K S (mixF f g done) (leftB S (mixF f g done)) B M) (ho : Old w W) (hk : k.length = K) (hL : leftB S g k = true)
    (hm : MapIs Tryz.prog 9 w' bm (n + 1) (upd M (nameOf k) (some v))) (hg : W.grownBy w' (some bm)) (hv : GEnt W B k (numsOf S g k) v) (hB : ¬ B bm) : GMap w' bm (n + 1) K S (mixF f g (done ++ [k])) (leftB S (mixF f g (done ++ [k]))) B (upd M (nameOf k) (some v)) := by
  have hd : ∀ b, b < W.heap.size → B b → ¬ b = bm := by rintro b _ hb rfl; exact hB hb
  have hmem : ∀ j, j ≠ k → (j ∈ done ++ [k] ↔ j ∈ done) := fun j hj => by simp [hj]
  refine ⟨hm, fun j hj => ?_, fun j hj => ?_, fun s u hu => ?_⟩
  · unfold upd
    by_cases e : j = k
    · subst e
      rw [leftB_mix, if_pos (by simp), hL] at hj
      cases hj
    · rw [if_neg (fun hh => e (nameOf_inj hh))]
      refine h.none_ j ?_
      rw [leftB_mix] at hj ⊢
      simpa only [hmem j e] using hj
  · unfold upd
    by_cases e : j = k
    · subst e
      refine ⟨v, if_pos rfl, ?_⟩
      rw [mix_nums, if_pos (by simp)]
      exact hv.chg (Chg.of_grown hg) hd
    · rw [if_neg (fun hh => e (nameOf_inj hh))]
      obtain ⟨u, h1, h2⟩ := h.some_ j (by rw [leftB_mix] at hj ⊢; simpa only [hmem j e] using hj)
      refine ⟨u, h1, ?_⟩
      rw [mix_nums] at h2 ⊢
      simp only [hmem j e]
      exact (h2.old ho).chg (Chg.of_grown hg) hd
  · unfold upd at hu
    by_cases e : s = nameOf k
    · exact ⟨k, hk, e, by rw [leftB_mix, if_pos (by simp), hL]⟩
    · rw [if_neg e] at hu
      obtain ⟨j, hj, hs, h3⟩ := h.names s u hu
      have hne : j ≠ k := by rintro rfl; exact e hs
      refine ⟨j, hj, hs, ?_⟩
      rw [leftB_mix] at h3 ⊢
      simpa only [hmem j hne] using h3
/-- a group of which nothing is left is put in, and taken away -/
theorem GMap.drop {w w' : World} {bm n K S : Nat} {f g : Gf} {done : List (List Cell)} {B : Nat → Prop} {M : ByteArray → Option Value} {k : List Cell} {v : Value} (h : GMap w bm n K S (mixF f g done) (leftB S (mixF f g done)) B M) (hL : leftB S g k = false)
    (hm : MapIs Tryz.prog 9 w' bm (n + 1) (upd (upd M (nameOf k) (some v)) (nameOf k) none)) (hg : Chg (fun b => b = bm) w w') (hB : ¬ B bm) : GMap w' bm (n + 1) K S (mixF f g (done ++ [k])) (leftB S (mixF f g (done ++ [k]))) B (upd (upd M (nameOf k) (some v)) (nameOf k) none) := by
  have hd : ∀ b, b < w.heap.size → B b → ¬ b = bm := by rintro b _ hb rfl; exact hB hb
  have hmem : ∀ j, j ≠ k → (j ∈ done ++ [k] ↔ j ∈ done) := fun j hj => by simp [hj]
  refine ⟨hm, fun j hj => ?_, fun j hj => ?_, fun s u hu => ?_⟩
  · unfold upd
    by_cases e : j = k
    · subst e; rw [if_pos rfl]
    · rw [if_neg (fun hh => e (nameOf_inj hh)), if_neg (fun hh => e (nameOf_inj hh))]
      refine h.none_ j ?_
      rw [leftB_mix] at hj ⊢
      simpa only [hmem j e] using hj
  · have e : j ≠ k := by
      rintro rfl
      rw [leftB_mix, if_pos (by simp), hL] at hj
      cases hj
    unfold upd
    rw [if_neg (fun hh => e (nameOf_inj hh)), if_neg (fun hh => e (nameOf_inj hh))]
    obtain ⟨u, h1, h2⟩ := h.some_ j (by rw [leftB_mix] at hj ⊢; simpa only [hmem j e] using hj)
    refine ⟨u, h1, ?_⟩
    rw [mix_nums] at h2 ⊢
    simp only [hmem j e]
    exact h2.chg hg hd
  · unfold upd at hu
    by_cases e : s = nameOf k
    · rw [if_pos e] at hu; cases hu
    · rw [if_neg e, if_neg e] at hu
      obtain ⟨j, hj, hs, h3⟩ := h.names s u hu
      have hne : j ≠ k := by rintro rfl; exact e hs
      refine ⟨j, hj, hs, ?_⟩
      rw [leftB_mix] at h3 ⊢
      simpa only [hmem j hne] using h3
end Go.Proofs.YtmfbblcipakaiaaGreatDoor

/-! ### The state of Apply's loops. No walk here. -/
namespace Go.Proofs.YtmfbblcipakaiaaGreatDoor
open Go.RowKit

section
variable {w w' : World} {bc r lo n cnt base p0 n0 : Nat} {M : ByteArray → Option Value} {left : ByteArray → Bool} {F : List Cell → List Int} {ks : List (List Cell)} {p nb : List Cell → Nat} {k : List Cell} {ns : List Int}
theorem MapRng.noCells {P : Program} {t : TypeId} (h : MapRng P t w bc r n M left cnt) : ∀ cs T f, w.heap[r]? ≠ some (.cells cs T f) := by
  obtain ⟨D, lf, ⟨es, clock, since, seen, c0, q1, F, q2, q3, q4, rest⟩, _⟩ := h
  intro cs T f hh
  rw [q4] at hh
  cases hh
theorem MapRng.noMap {P : Program} {t : TypeId} (h : MapRng P t w bc r n M left cnt) {b m : Nat} {N : ByteArray → Option Value} (hm : MapIs P t w b m N) : r ≠ b := by
  obtain ⟨D, lf, ⟨es, clock, since, seen, c0, q1, F, q2, q3, q4, rest⟩, _⟩ := h
  obtain ⟨es', c', hh⟩ := hm.isMap
  rintro rfl
  rw [q4] at hh
  cases hh
theorem MapRng.below {P : Program} {t : TypeId} (h : MapRng P t w bc r n M left cnt) {lo : Nat} (o : Below lo w w') (hb : bc < lo) (hr : r < lo) : MapRng P t w' bc r n M left cnt :=
  h.chg (Chg.of_below o) (by omega) (by omega)
theorem ChgAt.kept {T : TypeId} (h : ChgAt w lo p0 n0 k ns) (o : Kept T base w w') (h1 : 79 ≠ T) (h2 : 84 ≠ T) (h3 : 65 ≠ T) : ChgAt w' lo p0 n0 k ns := by
  obtain ⟨⟨kv, a1, a2⟩, a3, a4, a5⟩ := h
  exact ⟨⟨kv, o.other _ _ _ _ a1 h1, o.slT a2 h3⟩, o.other _ _ _ _ a3 h2, a4, a5⟩
theorem CMap.kept (h : CMap w bc lo n F ks p nb M) (o : Kept 60 base w w') (hb : bc < base) : CMap w' bc lo n F ks p nb M :=
  ⟨h.map.keep (o.low.block bc hb), h.val, h.names, fun k hk => (h.at_ k hk).kept o (by decide) (by decide) (by decide), h.apart, h.nodup⟩
end

/-- the state of Apply's first loop: the keys `done` are gone through -/
structure ApSt (w : World) (bc bn r base n S : Nat) (f : Gf) (l : List Ent) (ks : List (List Cell)) (p nb : List Cell → Nat) (M : ByteArray → Option Value) (done : List (List Cell)) (o : Value) (wr : World) : Prop where
  old : Old w wr
  rng : ∃ left, MapRng Tryz.prog 9 wr bc r n M left (wr.rangeLeft bc r) ∧ ∀ k, left (nameOf k) = (decide (k ∈ ks) && !decide (k ∈ done))
  ch : CMap wr bc w.heap.size n (fun x => numsOf S (gAdd f l) x) ks p nb M
  nx : ∃ MN, GNext wr bn done.length w.heap.size S (gAdd f l) done MN
  its : ItemsOwn 60 65 base wr o (bothAll S f (gAdd f l) done)
  nodup : done.Nodup
  sub : ∀ k ∈ done, k ∈ ks
  fits : ∀ k ∈ done, ∀ i, i ≤ S → fit (gAdd f l k i)
  lowc : w.heap.size ≤ bc ∧ bc < base
  lown : w.heap.size ≤ bn ∧ bn < base
  lowr : w.heap.size ≤ r ∧ r < base
  neq : bc ≠ bn
section
variable {w wr w1 wz w6 w7 : World} {bc bn r base n S : Nat} {f : Gf} {l : List Ent} {ks done : List (List Cell)} {p nb : List Cell → Nat} {M MN : ByteArray → Option Value} {o v v7 : Value} {left : ByteArray → Bool} {cnt : Nat} {k : List Cell}
/-- behind the step of the range -/
structure ApMid (w : World) (bc bn r base n S : Nat) (f : Gf) (l : List Ent) (ks : List (List Cell)) (p nb : List Cell → Nat) (M MN : ByteArray → Option Value) (left : ByteArray → Bool) (cnt : Nat) (done : List (List Cell)) (o : Value) (w1 : World) : Prop where
  old : Old w w1
  rng : MapRng Tryz.prog 9 w1 bc r n M left cnt
  ch : CMap w1 bc w.heap.size n (fun x => numsOf S (gAdd f l) x) ks p nb M
  nx : GNext w1 bn done.length w.heap.size S (gAdd f l) done MN
  its : ItemsOwn 60 65 base w1 o (bothAll S f (gAdd f l) done)
  base : base ≤ w1.heap.size
theorem ItemsOwn.chg {tI tC base : Nat} {w w' : World} {v : Value} {l : List Item} {X : Nat → Prop} (h : ItemsOwn tI tC base w v l) (c : Chg X w w') (hd : ∀ (b : Nat) cs T f, w.heap[b]? = some (.cells cs T f) → ¬ X b) : ItemsOwn tI tC base w' v l := by
  obtain ⟨vs, h1, h2, h3⟩ := h
  refine ⟨vs, h1, ⟨h2.1, ?_⟩, fun i hi hi' => (h3 i hi hi').chg c (fun b cs f _ hh => hd b cs _ f hh)⟩
  rcases h2.2 with h | ⟨g, cap, cur, hv, hb, hh, r⟩
  · exact .inl h
  · exact .inr ⟨g, cap, cur, hv, hb, (c.block g (block_lt hh) (hd g _ _ _ hh)).trans hh, r⟩
theorem ApSt.mid (h : ApSt w bc bn r base n S f l ks p nb M done o wr) (hN : GNext wr bn done.length w.heap.size S (gAdd f l) done MN) (hrg : MapRng Tryz.prog 9 w1 bc r n M left cnt) (hg : wr.grownBy w1 (some r)) (hb : base ≤ wr.heap.size) : ApMid w bc bn r base n S f l ks p nb M MN left cnt done o w1 := by
  obtain ⟨lf, h1, _⟩ := h.rng
  have hc : ∀ (b : Nat) cs T f, wr.heap[b]? = some (.cells cs T f) → ¬ b = r := by
    rintro b cs T f hh rfl
    exact h1.noCells cs T f hh
  have hC := Chg.of_grown hg
  refine ⟨?_, hrg, h.ch.chg hC (fun e => h1.noMap h.ch.map e.symm) (fun b cs T f _ hh => hc b cs T f hh), hN.turn hC (fun e => h1.noMap hN.map e.symm) (fun b cs T f _ hh => hc b cs T f hh), ItemsOwn.chg h.its hC hc, Nat.le_trans hb hg.size⟩
  exact Below.trans h.old (Chg.below hC (lo := w.heap.size) h.old.size (by have := h.lowr.1; omega))
theorem ApMid.later (h : ApMid w bc bn r base n S f l ks p nb M MN left cnt done o w1) (ho : Old w1 wz) : ApMid w bc bn r base n S f l ks p nb M MN left cnt done o wz :=
  ⟨h.old.trans ho, h.rng.old ho, h.ch.old ho, h.nx.old ho, h.its.old ho, Nat.le_trans h.base ho.size⟩
theorem ApMid.put (h : ApMid w bc bn r base n S f l ks p nb M MN left cnt done o wz) (hm : MapIs Tryz.prog 9 w6 bn (done.length + 1) (upd MN (nameOf k) (some v))) (hg : wz.grownBy w6 (some bn)) (hv : GEntT wz w.heap.size k (numsOf S (gAdd f l) k) v)
    (hne : bc ≠ bn) (hlow : w.heap.size ≤ bn) : Old w w6 ∧ MapRng Tryz.prog 9 w6 bc r n M left cnt ∧ CMap w6 bc w.heap.size n (fun x => numsOf S (gAdd f l) x) ks p nb M ∧ GNext w6 bn (done.length + 1) w.heap.size S (gAdd f l) (done ++ [k]) (upd MN (nameOf k) (some v)) ∧ ItemsOwn 60 65 base w6 o (bothAll S f (gAdd f l) done) := by
  obtain ⟨es, cl, hbm⟩ := h.nx.map.isMap
  have hc : ∀ (b : Nat) cs T f, wz.heap[b]? = some (.cells cs T f) → ¬ b = bn := by
    rintro b cs T f hh rfl
    rw [hbm] at hh
    cases hh
  have hC := Chg.of_grown hg
  refine ⟨Below.trans h.old (Chg.below hC (lo := w.heap.size) h.old.size (by omega)), h.rng.chg hC hne (fun e => h.rng.noMap h.nx.map e), h.ch.chg hC hne (fun b cs T f _ hh => hc b cs T f hh), h.nx.put hm hg hv, ItemsOwn.chg h.its hC hc⟩
theorem ApSt.next (h : ApSt w bc bn r base n S f l ks p nb M done o wr) (h1 : Old w w6) (h2 : MapRng Tryz.prog 9 w6 bc r n M left cnt) (h3 : CMap w6 bc w.heap.size n (fun x => numsOf S (gAdd f l) x) ks p nb M)
    (h4 : GNext w6 bn (done.length + 1) w.heap.size S (gAdd f l) (done ++ [k]) MN) (kp : Kept 60 base w6 w7) (own : ItemsOwn 60 65 base w7 v7 (bothAll S f (gAdd f l) (done ++ [k]))) (hk : k ∈ ks) (hkd : k ∉ done)
    (hleft : ∀ x, left (nameOf x) = (decide (x ∈ ks) && !decide (x ∈ done ++ [k]))) (hf : ∀ i, i ≤ S → fit (gAdd f l k i)) :
    ApSt w bc bn r base n S f l ks p nb M (done ++ [k]) v7 w7 ∧ w7.rangeLeft bc r = cnt := by
  have hR := h2.below kp.low h.lowc.2 h.lowr.2
  have he := hR.left_eq
  refine ⟨⟨Below.trans h1 (kp.low.mono (by have := h.lowc; omega)), ⟨left, by rw [he]; exact hR, hleft⟩, h3.kept kp h.lowc.2, ⟨MN, ?_⟩, own, ?_, ?_, ?_, h.lowc, h.lown, h.lowr, h.neq⟩, he⟩
  · have : (done ++ [k]).length = done.length + 1 := by simp
    rw [this]
    exact h4.kept kp h.lown.2
  · rw [List.nodup_append]
    exact ⟨h.nodup, by simp, fun a ha b hb => by
      have : b = k := by simpa using hb
      subst this
      rintro rfl
      exact hkd ha⟩
  · intro x hx
    rcases List.mem_append.1 hx with hx | hx
    · exact h.sub x hx
    · have : x = k := by simpa using hx
      subst this; exact hk
  · intro x hx
    rcases List.mem_append.1 hx with hx | hx
    · exact h.fits x hx
    · have : x = k := by simpa using hx
      subst this; exact hf
end
theorem heap_set {w : World} {b i : Nat} {cs : Array Value} {T : TypeId} {f : Nat × Nat} (h : w.heap[b]? = some (.cells cs T f)) (u : Value) : (w.setCell ⟨b, i, none⟩ u).heap[b]? = some (.cells (cs.setIfInBounds i u) T f) := by
  simp [World.setCell, Array.getElem?_modify, h]
theorem own_set {w : World} {base T size n b i : Nat} {v : Value} {xs : List Value} (h : w.ownsRow base T size v n xs) (hb : b < base) (u : Value) : (w.setCell ⟨b, i, none⟩ u).ownsRow base T size v n xs := by
  obtain ⟨hl, h2⟩ := h
  refine ⟨hl, ?_⟩
  rcases h2 with h2 | ⟨g, cap, cur, hv, hg, hh, r⟩
  · exact .inl h2
  · refine .inr ⟨g, cap, cur, hv, hg, ?_, r⟩
    rw [Below.heap_setCell w ⟨b, i, none⟩ u g (show g ≠ b by omega)]
    exact hh
/-- what a look-up of a group gives, for seen -/
structure OldSt (w : World) (S : Nat) (f : Gf) (k : List Cell) (gv : Value) : Prop where
  form : ∃ A0 n0 c0 A9 n9 c9, gv = .agg #[.slice A0 n0 c0, .slice A9 n9 c9]
  seen : ∃ (a b : Value) (kk : List Cell) (ns : List Int), gv = .agg #[a, b] ∧ RowIs w a kk ∧ Sl w b ns.length (numVals ns) ∧ seenV kk ns (-1) = seenIt S f k (-1) ∧ kk.length ≤ k.length ∧ ns.length ≤ S + 1
theorem GMap.oldSt {w : World} {bm n K S : Nat} {f : Gf} {B : Nat → Prop} {M : ByteArray → Option Value} (h : GMap w bm n K S f (leftB S f) B M) (k : List Cell) :
    OldSt w S f k ((M (nameOf k)).getD (.agg #[.slice none 0 0, .slice none 0 0])) := by
  cases hL : leftB S f k
  · rw [h.none_ k hL]
    refine ⟨⟨_, _, _, _, _, _, rfl⟩, _, _, [], [], rfl, Sl.nil_ _, Sl.nil_ _, ?_, by simp, by simp⟩
    rw [seenIt_none (leftB_false.1 hL 0 (by omega))]
    rfl
  · obtain ⟨v, hv1, a, b, rfl, ha, hb⟩ := h.some_ k hL
    rw [hv1]
    obtain ⟨A0, c0, rfl⟩ := ha.form
    obtain ⟨A9, c9, rfl⟩ := hb.form
    exact ⟨⟨_, _, _, _, _, _, rfl⟩, _, _, k, numsOf S f k, rfl, ha.sl, hb.sl, seenV_nums S f k (-1), Nat.le_refl _, by rw [numsOf_length]; exact Nat.le_refl _⟩
/-- a call of seen, with its result in the form of a slice -/
def SeenPost (w : World) (l : List Item) (e : Ending) (w' : World) : Prop :=
  ∃ A c, e = .returned (.slice A l.length c) ∧ ItemsT 60 65 w.heap.size w' (.slice A l.length c) l ∧ Old w w'
theorem NewItems.seen {w w' : World} {l : List Item} {e : Ending} (h : NewItems w l e w') : SeenPost w l e w' := by
  obtain ⟨v, rfl, h1, h2⟩ := h
  obtain ⟨vs, e1, ⟨A, c, rfl, r⟩, e3⟩ := h1
  exact ⟨A, c, rfl, ⟨vs, e1, ⟨A, c, rfl, r⟩, e3⟩, h2⟩
theorem OldSt.call {w w' : World} {S : Nat} {f : Gf} {k : List Cell} {gv : Value} (h : OldSt w S f k gv) (ho : Old w w') (hk : k.length ≤ 64) (hS : S ≤ 64) :
    Calls Tryz.prog 37 #[gv, .int .i64 (-1)] w' (SeenPost w' (seenIt S f k (-1))) := by
  obtain ⟨a, b, kk, ns, rfl, ha, hb, he, h1, h2⟩ := h.seen
  rw [← he]
  exact (seen_run a b kk ns (-1) w' (ha.old ho) (hb.old ho) (by omega) (by omega)).mono fun _ _ h => h.seen
theorem GEntT.call {w w' : World} {lo base S : Nat} {g : Gf} {k : List Cell} {a b : Value} (h : GEntT w lo k (numsOf S g k) (.agg #[a, b])) (kp : Kept 60 base w w') (hk : k.length ≤ 64) (hS : S ≤ 64) :
    Calls Tryz.prog 37 #[.agg #[a, b], .int .i64 1] w' (SeenPost w' (seenIt S g k 1)) := by
  obtain ⟨a', b', e, ha, hb⟩ := h.kept kp
  unfold stVal at e
  injection e with e
  have e1 : a = a' := by injection e with e; injection e
  have e2 : b = b' := by injection e with e; injection e with _ e; injection e
  subst e1 e2
  rw [← seenV_nums]
  exact (seen_run a b k _ 1 w' ha.sl hb.sl (by omega) (by rw [numsOf_length]; omega)).mono fun _ _ h => h.seen
end Go.Proofs.YtmfbblcipakaiaaGreatDoor

/-! ### The state of Apply's last loop. No walk here. -/
namespace Go.Proofs.YtmfbblcipakaiaaGreatDoor
open Go.RowKit

theorem seenIt_fine {K S : Nat} {f : Gf} {k : List Cell} {w : Int} (hk : k.length = K) (hw : fit w) : ∀ x ∈ seenIt S f k w, x.row.length = K + (S + 1) ∧ fit x.w := by
  intro x hx
  unfold seenIt at hx
  split at hx
  · cases hx
  · have : x = ⟨rowOf S f k, w⟩ := by simpa using hx
    subst this
    exact ⟨by rw [rowOf_length, hk], hw⟩
theorem bothAll_fine {K S : Nat} {f g : Gf} {ks : List (List Cell)} (hk : ∀ k ∈ ks, k.length = K) : ∀ x ∈ bothAll S f g ks, x.row.length = K + (S + 1) ∧ fit x.w := by
  intro x hx
  obtain ⟨k, hkm, hx⟩ := List.mem_flatMap.1 hx
  rcases List.mem_append.1 hx with hx | hx
  · exact seenIt_fine (hk k hkm) (by unfold fit; omega) x hx
  · exact seenIt_fine (hk k hkm) (by unfold fit; omega) x hx
theorem seenAll_fine {K S : Nat} {f : Gf} {ks : List (List Cell)} {w : Int} (hk : ∀ k ∈ ks, k.length = K) (hw : fit w) : ∀ x ∈ seenAll S f ks w, x.row.length = K + (S + 1) ∧ fit x.w := by
  intro x hx
  obtain ⟨k, hkm, hx⟩ := List.mem_flatMap.1 hx
  exact seenIt_fine (hk k hkm) hw x hx

/-- what a group's state is as a value: two slices -/
@[reducible] def mkSt (c : (Option Addr × Nat × Nat) × (Option Addr × Nat × Nat)) : Value := .agg #[.slice c.1.1 c.1.2.1 c.1.2.2, .slice c.2.1 c.2.2.1 c.2.2.2]
theorem GEntT.mk {w : World} {lo : Nat} {k : List Cell} {ns : List Int} {v : Value} (h : GEntT w lo k ns v) : ∃ c, v = mkSt c := by
  obtain ⟨a, b, rfl, ⟨A, ca, rfl, _⟩, ⟨B, cb, rfl, _⟩⟩ := h
  exact ⟨((A, _, ca), (B, _, cb)), rfl⟩

/-- the state of Apply's last loop: the groups of `don` have been put in -/
structure Ap3 (w : World) (bm bn r K S m n h1 : Nat) (f : Gf) (l : List Ent) (B : Nat → Prop) (all : List (List Cell)) (MN : ByteArray → Option Value) (out : Value) (z : List Item) (don : List (List Cell)) (wr : World) : Prop where
  chg : Chg (fun b => b = bm) w wr
  rng : ∃ left, MapRng Tryz.prog 9 wr bn r n MN left (wr.rangeLeft bn r) ∧ ∀ k, left (nameOf k) = (decide (k ∈ all) && !decide (k ∈ don))
  nx : GNext wr bn n w.heap.size S (gAdd f l) all MN
  map : ∃ MG, GMap wr bm (m + don.length) K S (mixF f (gAdd f l) don) (leftB S (mixF f (gAdd f l) don)) (fun b => B b ∨ (w.heap.size ≤ b ∧ b < h1)) MG
  its : ItemsT 60 65 h1 wr out z
  nodup : don.Nodup
  sub : ∀ k ∈ don, k ∈ all
  lows : w.heap.size ≤ h1 ∧ h1 ≤ r ∧ bn < h1 ∧ w.heap.size ≤ bn ∧ bm < w.heap.size
  nob : ¬ B bm
  bdd : ∀ b, B b → b < w.heap.size
  early : ∀ k ∈ all, ∃ v, MN (nameOf k) = some v ∧ GEnt wr (fun b => w.heap.size ≤ b ∧ b < h1) k (numsOf S (gAdd f l) k) v
section
variable {w wr w1 wz w6 w7 : World} {bm bn r K S m n h1 cnt : Nat} {f : Gf} {l : List Ent} {B : Nat → Prop} {all don : List (List Cell)} {MN : ByteArray → Option Value} {out : Value} {z : List Item} {left : ByteArray → Bool} {k : List Cell} {v : Value}
/-- what is kept where the step's block, the groups' map and new blocks alone are written -/
structure Ap3K (w : World) (bm bn r K S m n h1 : Nat) (f : Gf) (l : List Ent) (B : Nat → Prop) (all : List (List Cell)) (MN : ByteArray → Option Value) (out : Value) (z : List Item) (left : ByteArray → Bool) (cnt : Nat) (wr : World) : Prop where
  chg : Chg (fun b => b = bm) w wr
  rng : MapRng Tryz.prog 9 wr bn r n MN left cnt
  nx : GNext wr bn n w.heap.size S (gAdd f l) all MN
  its : ItemsT 60 65 h1 wr out z
  early : ∀ k ∈ all, ∃ v, MN (nameOf k) = some v ∧ GEnt wr (fun b => w.heap.size ≤ b ∧ b < h1) k (numsOf S (gAdd f l) k) v
theorem Ap3K.old (h : Ap3K w bm bn r K S m n h1 f l B all MN out z left cnt w1) (o : Old w1 wz) : Ap3K w bm bn r K S m n h1 f l B all MN out z left cnt wz :=
  ⟨h.chg.step o, h.rng.old o, h.nx.old o, h.its.old o, fun k hk => by obtain ⟨v, a, b⟩ := h.early k hk; exact ⟨v, a, b.old o⟩⟩
theorem Ap3K.wrote (h : Ap3K w bm bn r K S m n h1 f l B all MN out z left cnt w1) (c : Chg (fun b => b = bm) w1 wz) (hm : ∃ es cl, w1.heap[bm]? = some (.map es cl)) (hlow : bm < w.heap.size) (hbn : w.heap.size ≤ bn) (hr : w.heap.size ≤ r) : Ap3K w bm bn r K S m n h1 f l B all MN out z left cnt wz := by
  obtain ⟨es, cl, hm⟩ := hm
  have hc : ∀ (b : Nat) cs T f, w1.heap[b]? = some (.cells cs T f) → ¬ b = bm := by
    rintro b cs T f hh rfl
    rw [hm] at hh
    cases hh
  exact ⟨h.chg.trans c (fun _ _ e => e) (fun _ _ e => e), h.rng.chg c (by omega) (by omega), h.nx.turn c (by omega) (fun b cs T f _ hh => hc b cs T f hh), h.its.chg c (fun b cs T f _ hh => hc b cs T f hh), fun k hk => by
    obtain ⟨v, a, b⟩ := h.early k hk
    exact ⟨v, a, b.chg c (fun b _ hb e => by omega)⟩⟩
theorem Ap3.begin (h : Ap3 w bm bn r K S m n h1 f l B all MN out z don wr) (hrg : MapRng Tryz.prog 9 w1 bn r n MN left cnt) (hg : wr.grownBy w1 (some r)) : Ap3K w bm bn r K S m n h1 f l B all MN out z left cnt w1 ∧
    ∃ MG, GMap w1 bm (m + don.length) K S (mixF f (gAdd f l) don) (leftB S (mixF f (gAdd f l) don)) (fun b => B b ∨ (w.heap.size ≤ b ∧ b < h1)) MG := by
  obtain ⟨lf, a1, _⟩ := h.rng
  have hc : ∀ (b : Nat) cs T f, wr.heap[b]? = some (.cells cs T f) → ¬ b = r := by
    rintro b cs T f hh rfl
    exact a1.noCells cs T f hh
  have hC := Chg.of_grown hg
  have hl := h.lows
  refine ⟨⟨⟨hC.os.trans h.chg.os, hC.tape.trans h.chg.tape, hC.output.trans h.chg.output, Nat.le_trans h.chg.size hC.size, fun b hb hx => ?_⟩, hrg, h.nx.turn hC (by omega) (fun b cs T f _ hh => hc b cs T f hh), h.its.chg hC (fun b cs T f _ hh => hc b cs T f hh), fun k hk => ?_⟩, ?_⟩
  · exact (hC.block b (Nat.lt_of_lt_of_le hb h.chg.size) (by omega)).trans (h.chg.block b hb hx)
  · obtain ⟨v, a, b⟩ := h.early k hk
    exact ⟨v, a, b.chg hC (fun b _ hb e => by omega)⟩
  · obtain ⟨MG, hM⟩ := h.map
    exact ⟨MG, hM.chg hC (by omega) (fun b _ hb e => by
      rcases hb with hb | hb
      · have := h.bdd b hb; omega
      · omega)⟩
theorem Ap3.next (h : Ap3 w bm bn r K S m n h1 f l B all MN out z don wr) (hK : Ap3K w bm bn r K S m n h1 f l B all MN out z left cnt w7)
    (hM : ∃ MG, GMap w7 bm (m + don.length + 1) K S (mixF f (gAdd f l) (don ++ [k])) (leftB S (mixF f (gAdd f l) (don ++ [k]))) (fun b => B b ∨ (w.heap.size ≤ b ∧ b < h1)) MG)
    (hk : k ∈ all) (hkd : k ∉ don) (hleft : ∀ x, left (nameOf x) = (decide (x ∈ all) && !decide (x ∈ don ++ [k]))) : Ap3 w bm bn r K S m n h1 f l B all MN out z (don ++ [k]) w7 ∧ w7.rangeLeft bn r = cnt := by
  have he := hK.rng.left_eq
  refine ⟨⟨hK.chg, ⟨left, by rw [he]; exact hK.rng, hleft⟩, hK.nx, ?_, hK.its, ?_, ?_, h.lows, h.nob, h.bdd, hK.early⟩, he⟩
  · have : m + (don ++ [k]).length = m + don.length + 1 := by simp; omega
    rw [this]
    exact hM
  · rw [List.nodup_append]
    exact ⟨h.nodup, by simp, fun a ha b hb => by
      have : b = k := by simpa using hb
      subst this
      rintro rfl
      exact hkd ha⟩
  · intro x hx
    rcases List.mem_append.1 hx with hx | hx
    · exact h.sub x hx
    · have : x = k := by simpa using hx
      subst this; exact hk
end
theorem mix_nil (f g : Gf) : mixF f g [] = f := by
  funext k i
  simp [mixF]
theorem Ap3.start {w wr w6 w8 : World} {bm bn K S m n cnt : Nat} {f : Gf} {l : List Ent} {B : Nat → Prop} {all : List (List Cell)} {MN MG : ByteArray → Option Value} {vo : Value} {z : List Item} (hO : Old w wr) (hN : GNext wr bn n w.heap.size S (gAdd f l) all MN) (hMG : GMap w bm m K S f (leftB S f) B MG)
    (hit : ItemsT 60 65 wr.heap.size w6 vo z) (ho6 : Old wr w6) (hrg : MapRng Tryz.prog 9 w8 bn w6.heap.size n MN (fun s => (MN s).isSome) cnt) (ho8 : Old w6 w8) (h1 : w.heap.size ≤ bn) (h2 : bm < w.heap.size) (hb : ¬ B bm) (hd : ∀ b, B b → b < w.heap.size) :
    Ap3 w bm bn w6.heap.size K S m n wr.heap.size f l B all MN vo z [] w8 := by
  have hbn := hN.map.lt
  have o8 := ho6.trans ho8
  have ow8 := hO.trans o8
  refine ⟨Chg.of_old ow8, ⟨_, by rw [hrg.left_eq]; exact hrg, fun k => ?_⟩, hN.old o8, ⟨MG, ?_⟩, hit.old ho8, List.nodup_nil, fun _ h => (by cases h), ⟨hO.size, ho6.size, hbn, h1, h2⟩, hb, hd, fun k hk => ?_⟩
  · by_cases hk : k ∈ all
    · obtain ⟨v, hv, _⟩ := hN.at_ k hk
      simp [hv, hk]
    · have : MN (nameOf k) = none := by
        cases hv : MN (nameOf k) with
        | none => rfl
        | some v =>
          obtain ⟨j, hj, hs⟩ := hN.names _ v hv
          rw [nameOf_inj hs] at hk
          exact absurd hj hk
      simp [this, hk]
  · rw [mix_nil]
    exact (hMG.old ow8).mono (by simp) (fun b _ hb => .inl hb)
  · obtain ⟨v, a, a0, b0, rfl, s1, s2⟩ := hN.at_ k hk
    exact ⟨_, a, GEnt.old ⟨a0, b0, rfl, s1.slb.mono (fun b hb hl => ⟨hl, hb⟩), s2.slb.mono (fun b hb hl => ⟨hl, hb⟩)⟩ o8⟩
theorem keysIn_len (l : List Item) : ∀ ks : List (List Cell), (keysIn ks l).length ≤ ks.length + l.length := by
  induction l with
  | nil => intro ks; exact Nat.le_refl _
  | cons x l ih =>
    intro ks
    have := ih (insKey x.row ks)
    have h2 : (insKey x.row ks).length ≤ ks.length + 1 := by
      unfold insKey
      split
      · omega
      · have := lowAt_le x.row ks
        simp
        omega
    simp only [keysIn, List.foldl_cons, List.length_cons] at *
    omega

theorem normOut_len (l : List Item) : (normOut l).length ≤ l.length := by
  unfold normOut
  split
  · have h1 : (noZero (withW l (keysOf l))).length ≤ (withW l (keysOf l)).length := List.length_filter_le _ _
    have h2 := keysIn_len l []
    unfold keysOf at *
    simp [withW] at *
    omega
  · simp
end Go.Proofs.YtmfbblcipakaiaaGreatDoor
