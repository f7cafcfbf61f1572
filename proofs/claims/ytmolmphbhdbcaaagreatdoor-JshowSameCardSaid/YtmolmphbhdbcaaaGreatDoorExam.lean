/- Rows of texts, and of rows of nodes, that a call grows. -/
import Derived.Test.YtmolmphbhdbcaaaGreatDoorObj
import Derived.Test.YtmolmphbhdbcaaaGreatDoorSameT
import Derived.Deep.RegionHeld3
import Derived.Deep.RegionWith
/-! ### Rows of texts, and of rows of nodes, that a call grows. -/
namespace Go.Proofs.YtmolmphbhdbcaaaGreatDoor
open Go.RowKit

def PartsOwn (base : Nat) (w : World) (v : Value) (ps : List (List Nd)) : Prop :=
  ∃ vs : List Value, vs.length = ps.length ∧ w.ownsRow base 22 1 v ps.length vs ∧ ∀ i, (h : i < ps.length) → (h' : i < vs.length) → NodesT base w vs[i] ps[i]
abbrev TextsOwn (base : Nat) (w : World) (v : Value) (l : List ByteArray) : Prop := w.ownsRow base 9 1 v l.length (l.map Value.string)
theorem PartsOwn.old {base : Nat} {w w' : World} {v : Value} {ps : List (List Nd)} (h : PartsOwn base w v ps) (k : Old w w') : PartsOwn base w' v ps := by
  obtain ⟨vs, h1, h2, h3⟩ := h
  exact ⟨vs, h1, own_old h2 k, fun i hi hi' => (h3 i hi hi').old k⟩
theorem PartsOwn.is {base : Nat} {w : World} {v : Value} {ps : List (List Nd)} (h : PartsOwn base w v ps) : PartsIs w v ps := by
  obtain ⟨vs, h1, h2, h3⟩ := h
  exact ⟨vs, h1, (SlT.of_own h2).sl, fun i hi hi' => (h3 i hi hi').sl⟩
theorem own_nil (base T size : Nat) (w : World) : w.ownsRow base T size (.slice none 0 0) 0 [] := ⟨by simp, .inl ⟨rfl, rfl⟩⟩
theorem PartsOwn.nil_ (base : Nat) (w : World) : PartsOwn base w (.slice none 0 0) [] := ⟨[], rfl, own_nil _ _ _ _, fun i hi => absurd hi (by simp)⟩
theorem TextsOwn.is {base : Nat} {w : World} {v : Value} {l : List ByteArray} (h : TextsOwn base w v l) : TextsIs w v l := (SlT.of_own h).sl
theorem Kept.own {T T' base base' size n : Nat} {w w' : World} {v : Value} {xs : List Value} (k : Kept T base w w') (h : w.ownsRow base' T' size v n xs) (hne : T' ≠ T) : w'.ownsRow base' T' size v n xs := by
  obtain ⟨hl, h2⟩ := h
  refine ⟨hl, ?_⟩
  rcases h2 with h2 | ⟨g, cap, cur, rfl, hb, hh, r⟩
  · exact .inl h2
  · exact .inr ⟨g, cap, cur, rfl, hb, k.other _ _ _ _ hh hne, r⟩
theorem PartsOwn.kept {T base base' : Nat} {w w' : World} {v : Value} {ps : List (List Nd)} (h : PartsOwn base' w v ps) (k : Kept T base w w') (h1 : 22 ≠ T) (h2 : 57 ≠ T) : PartsOwn base' w' v ps := by
  obtain ⟨vs, g1, g2, g3⟩ := h
  exact ⟨vs, g1, k.own g2 h1, fun i hi hi' => k.slT (g3 i hi hi') h2⟩
theorem partInfo : (Tryz.prog.info? 22).map (fun i => (i.zero, i.size, i.bytes)) = some (some (.slice none 0 0), 1, 24) := by kernel_rfl
theorem textInfo : (Tryz.prog.info? 9).map (fun i => (i.zero, i.size, i.bytes)) = some (some (.string ⟨#[]⟩), 1, 16) := by kernel_rfl
theorem step_push_part {o : Oper} {a : Act} {K : Act → World → Prop} {Q : Exit → Act → World → Prop} (w : World) (s x : Operand)
    (ho : o.op = .call { callee := .builtin .append, args := #[s, x], argTypes := #[93, 93] })
    (base : Nat) (v : Value) (ps : List (List Nd)) (hs : a.eval s = v) (hown : PartsOwn base w v ps) (g cap : Nat) (pv : Value) (p : List Nd) (hx : a.eval x = .slice (some ⟨g, 0, none⟩) 1 cap) (h0 : w.cell? ⟨g, 0, none⟩ = some pv)
    (hp : NodesT base w pv p) (hlen : ps.length + 1 ≤ 4194304) (hbase : base ≤ w.heap.size)
    (h : ∀ v' w', PartsOwn base w' v' (ps ++ [p]) → Kept 22 base w w' → K (a.put o.dst v') w') : o.wp Tryz.prog a w K Q := by
  obtain ⟨i0, hi, hz0, hz1, hz2⟩ := info_parts partInfo
  obtain ⟨vs, g1, g2, g3⟩ := hown
  refine wp_append_own w s x 93 ho base 22 i0 (.slice none 0 0) 1 24 Tryz.underlying93 hi hz0 hz1 hz2 rfl (by omega) v ps.length vs hs g2 ⟨g, 0, none⟩ 1 cap [pv] hx rfl ?_ ?_ (by unfold maxLen; omega) (by omega) hbase ?_
  · intro j u hu
    match j, hu with
    | 0, hu => simp at hu; subst hu; exact h0
    | j + 1, hu => simp at hu
  · intro u hu
    simp at hu
    subst hu
    obtain ⟨A, c, rfl, _⟩ := hp
    rfl
  · intro v' w' own' hg _
    have k := Kept.of_grown g2 hg hbase
    refine h v' w' ⟨vs ++ [pv], by simp [g1], ?_, fun i hi hi' => ?_⟩ k
    · rw [List.length_append]; exact own'
    · rcases Nat.lt_or_ge i ps.length with hl | hl
      · rw [List.getElem_append_left (by omega), List.getElem_append_left hl]
        exact k.slT (g3 i hl (by omega)) (by decide)
      · have e1 : (ps ++ [p])[i] = p := by
          rw [List.getElem_append_right hl]
          simp
        have e2 : (vs ++ [pv])[i] = pv := by
          rw [List.getElem_append_right (by omega)]
          simp
        rw [e1, e2]
        exact k.slT hp (by decide)
theorem step_push_text {o : Oper} {a : Act} {K : Act → World → Prop} {Q : Exit → Act → World → Prop} (w : World) (s x : Operand)
    (ho : o.op = .call { callee := .builtin .append, args := #[s, x], argTypes := #[76, 76] })
    (base : Nat) (v : Value) (l : List ByteArray) (hs : a.eval s = v) (hown : TextsOwn base w v l) (g cap : Nat) (k : ByteArray) (hx : a.eval x = .slice (some ⟨g, 0, none⟩) 1 cap) (h0 : w.cell? ⟨g, 0, none⟩ = some (.string k))
    (hlen : l.length + 1 ≤ 4194304) (hbase : base ≤ w.heap.size)
    (h : ∀ v' w', TextsOwn base w' v' (l ++ [k]) → Kept 9 base w w' → K (a.put o.dst v') w') : o.wp Tryz.prog a w K Q := by
  obtain ⟨i0, hi, hz0, hz1, hz2⟩ := info_parts textInfo
  refine wp_append_own w s x 76 ho base 9 i0 (.string ⟨#[]⟩) 1 16 Tryz.underlying76 hi hz0 hz1 hz2 rfl (by omega) v l.length (l.map Value.string) hs hown ⟨g, 0, none⟩ 1 cap [.string k] hx rfl ?_ ?_ (by unfold maxLen; omega) (by omega) hbase ?_
  · intro j u hu
    match j, hu with
    | 0, hu => simp at hu; subst hu; exact h0
    | j + 1, hu => simp at hu
  · intro u hu
    simp at hu
    subst hu
    rfl
  · intro v' w' own' hg _
    refine h v' w' ?_ (Kept.of_grown hown hg hbase)
    unfold TextsOwn
    rw [List.length_append, List.map_append]
    exact own'
end Go.Proofs.YtmolmphbhdbcaaaGreatDoor

/-! ### The statements' own inputs: few: nodes, 60 at most, of short texts, in memory of their own. -/
namespace Go.Proofs.YtmolmphbhdbcaaaGreatDoor
open Go.RowKit

def cutN (n : Int) (s : ByteArray) : ByteArray := s.extract 0 (min (s.size : Int) n).toNat
def cutKey (x : Nd) : Nd := ⟨x.kind, cutN 40 x.key, x.n, x.s, x.size⟩
def cutNd (x : Nd) : Nd := ⟨x.kind, cutN 40 x.key, x.n, cutN 60 x.s, x.size⟩
def fewL (t : List Nd) : List Nd := (t.take 60).map cutNd
theorem cutN_size (n : Nat) (s : ByteArray) : (cutN n s).size ≤ n := by
  unfold cutN
  rw [ByteArray.size_extract]
  omega
theorem fewL_len (t : List Nd) : (fewL t).length ≤ 60 := by simp [fewL]; omega
theorem fewL_texts (t : List Nd) : TextsOk (fewL t) := by
  intro x hx
  obtain ⟨y, _, rfl⟩ := List.mem_map.1 hx
  have h1 := cutN_size 40 y.key
  have h2 := cutN_size 60 y.s
  unfold maxLen
  have e1 : (cutNd y).key = cutN 40 y.key := rfl
  have e2 : (cutNd y).s = cutN 60 y.s := rfl
  rw [e1, e2]
  simp at h1 h2
  omega
/-- nodes of which the first are cut short -/
def fewTo (l : List Nd) (k : Nat) : List Nd := (l.take k).map cutNd ++ l.drop k
theorem fewTo_zero (l : List Nd) : fewTo l 0 = l := by simp [fewTo]
theorem fewTo_len (l : List Nd) (k : Nat) : (fewTo l k).length = l.length := by simp [fewTo]; omega
theorem fewTo_all (l : List Nd) {k : Nat} (h : l.length ≤ k) : fewTo l k = l.map cutNd := by
  unfold fewTo
  rw [List.take_of_length_le h, List.drop_eq_nil_of_le h, List.append_nil]
theorem fewTo_at {l : List Nd} {k : Nat} (h : k < l.length) : fewTo l k = (l.take k).map cutNd ++ l[k] :: l.drop (k + 1) := by
  unfold fewTo
  rw [List.drop_eq_getElem_cons h]
theorem fewTo_next {l : List Nd} {k : Nat} (h : k < l.length) : fewTo l (k + 1) = (l.take k).map cutNd ++ cutNd l[k] :: l.drop (k + 1) := by
  unfold fewTo
  rw [List.take_succ_eq_append_getElem h, List.map_append, List.append_assoc]
  rfl
theorem nodes_take {w : World} {A : Option Addr} {n cap : Nat} {t : List Nd} (h : NodesIs w (.slice A n cap) t) {m : Nat} (hm : (t.take m).length = m) : NodesIs w (.slice A m cap) (t.take m) := by
  have hmt : m ≤ t.length := by rw [← hm]; simp; omega
  obtain ⟨A', cp, he, h1, h2, h3⟩ := h
  injection he with e1 e2 e3
  subst e1 e2 e3
  refine ⟨A, cap, by rw [hm], by omega, h2, fun hne => ?_⟩
  obtain ⟨b, off, hA, hc⟩ := h3 (by
    intro e
    apply hne
    rw [ndVals_take, e, List.take_nil])
  refine ⟨b, off, hA, fun j u hu => hc j u ?_⟩
  rw [ndVals_take, List.getElem?_take] at hu
  split at hu
  · exact hu
  · cases hu
theorem nodes_form {lo : Nat} {w : World} {v : Value} {l : List Nd} {m : Nat} (h : NodesT lo w v l) (hm : l.length = m) : ∃ A cap, v = .slice A m cap ∧ m ≤ cap ∧ cap ≤ maxLen := by
  obtain ⟨A, cap, rfl, h1, h2, _⟩ := h
  exact ⟨A, cap, by rw [hm], by omega, h2⟩
/-- a text stored into a node of a row of the call's own -/
theorem set_text {lo m cap : Nat} {w : World} {A : Option Addr} {l1 l2 : List Nd} {x y : Nd} (i k : Nat) (s : ByteArray) (h : NodesT lo w (.slice A m cap) (l1 ++ x :: l2)) (hk : l1.length = k) (hi : i < 5) (hy : y.vals = x.vals.set i (.string s)) :
    ∃ g off, A = some ⟨g, off, none⟩ ∧ lo ≤ g ∧ (∀ j u, x.vals[j]? = some u → w.cell? ⟨g, off + k * 5 + j, none⟩ = some u) ∧ (∀ j, w.frozen? ⟨g, j, none⟩ = false) ∧
      NodesT lo (w.setCell ⟨g, off + k * 5 + i, none⟩ (.string s)) (.slice A m cap) (l1 ++ y :: l2) := by
  subst hk
  obtain ⟨A', cp, he, h1, h2, h3⟩ := h
  injection he with e1 e2 e3
  subst e1 e3
  obtain ⟨g, off, cs, rfl, hlo, hh, hc⟩ := h3 (ndVals_ne (by simp; omega))
  have e : ndVals (l1 ++ x :: l2) = ndVals l1 ++ (x.vals ++ ndVals l2) := by simp [ndVals]
  have e' : ndVals (l1 ++ y :: l2) = ndVals l1 ++ (y.vals ++ ndVals l2) := by simp [ndVals]
  have hx5 : x.vals.length = 5 := rfl
  have hcx : ∀ j u, x.vals[j]? = some u → cs[off + l1.length * 5 + j]? = some u := fun j u hu => by
    rw [Nat.add_assoc]
    refine hc _ _ ?_
    rw [e, List.getElem?_append_right (by rw [ndVals_length]; omega), ndVals_length, Nat.add_sub_cancel_left, List.getElem?_append_left (by have := (List.getElem?_eq_some_iff.1 hu).1; omega)]
    exact hu
  have e2' : ndVals (l1 ++ y :: l2) = (ndVals (l1 ++ x :: l2)).set (l1.length * 5 + i) (.string s) := by
    rw [e, e', hy, List.set_append_right _ _ (by rw [ndVals_length]; omega), ndVals_length, Nat.add_sub_cancel_left, List.set_append_left _ _ (by omega)]
  have hl' : (l1 ++ y :: l2).length = (l1 ++ x :: l2).length := by simp
  refine ⟨g, off, rfl, hlo, fun j u hu => by rw [cell_of_heap hh]; exact hcx j u hu, fun j => free_of_heap hh, ?_⟩
  unfold NodesT
  rw [hl']
  refine ⟨_, cap, by rw [e2], h1, h2, fun _ => ⟨g, off, cs.setIfInBounds (off + l1.length * 5 + i) (.string s), rfl, hlo, by simp [World.setCell, Array.getElem?_modify, hh], fun j u hu => ?_⟩⟩
  rw [e2', List.getElem?_set] at hu
  by_cases hj : l1.length * 5 + i = j
  · subst hj
    rw [if_pos rfl] at hu
    split at hu
    · injection hu with hu
      subst hu
      have hlt : off + l1.length * 5 + i < cs.size := by
        obtain ⟨z, hz⟩ : ∃ z, x.vals[i]? = some z := ⟨_, List.getElem?_eq_getElem (by omega)⟩
        exact (Array.getElem?_eq_some_iff.1 (hcx i z hz)).1
      rw [← Nat.add_assoc, Array.getElem?_setIfInBounds_self_of_lt hlt]
    · cases hu
  · rw [if_neg hj] at hu
    rw [Array.getElem?_setIfInBounds_ne (by omega)]
    exact hc j u hu

end Go.Proofs.YtmolmphbhdbcaaaGreatDoor

/-! ### The chapter's examples: what they are. -/
namespace Go.Proofs.YtmolmphbhdbcaaaGreatDoor
open Go.RowKit

def keyA : ByteArray := ⟨#[97]⟩
def exT : List Nd := [⟨7, none_, 0, none_, 5⟩, ⟨6, ⟨#[98]⟩, 0, none_, 3⟩, ⟨4, none_, 1, none_, 1⟩, ⟨1, none_, 0, none_, 1⟩, ⟨3, ⟨#[97]⟩, 0, none_, 1⟩]
def twT : List Nd := [⟨7, none_, 0, none_, 5⟩, ⟨6, ⟨#[98]⟩, 0, none_, 3⟩, ⟨4, none_, 1, none_, 1⟩, ⟨1, none_, 0, none_, 1⟩, ⟨3, ⟨#[98]⟩, 0, none_, 1⟩]
def ptT : List Nd := [⟨6, none_, 0, none_, 3⟩, ⟨4, none_, 1, none_, 1⟩, ⟨1, none_, 0, none_, 1⟩]
def exL : J := .mk ⟨6, ⟨#[98]⟩, 0, none_⟩ [.mk ⟨4, none_, 1, none_⟩ [], .mk ⟨1, none_, 0, none_⟩ []]
def exJ : J := .mk ⟨7, none_, 0, none_⟩ [exL, .mk ⟨3, ⟨#[97]⟩, 0, none_⟩ []]
theorem vU_a : vU ⟨#[97]⟩ = true := by kernel_rfl
theorem vU_b : vU ⟨#[98]⟩ = true := by kernel_rfl
theorem exMay : May exT exJ := by
  refine ⟨⟨?_, rfl, by simp [exT, exJ, exL, J.flat, J.flats]⟩, by simp [exT], by simp [exJ, exL, J.deep, J.deeps]⟩
  simp only [exJ, exL, J.Ok, J.Oks, leafOk, plainHd, keysOk, J.key, J.hd, List.map_cons, List.map_nil, vU_a, vU_b]
  simp [none_]
theorem nodes_cells {w : World} {A : Option Addr} {n c : Nat} {l : List Nd} (h : NodesIs w (.slice A n c) l) {i : Nat} {x : Nd} (hx : l[i]? = some x) : ∃ b off, A = some ⟨b, off, none⟩ ∧ w.cell? ⟨b, off + i * 5, none⟩ = some (.int .i64 x.kind) ∧ w.cell? ⟨b, off + i * 5 + 1, none⟩ = some (.string x.key) ∧
    w.cell? ⟨b, off + i * 5 + 2, none⟩ = some (.int .i64 x.n) ∧ w.cell? ⟨b, off + i * 5 + 3, none⟩ = some (.string x.s) ∧ w.cell? ⟨b, off + i * 5 + 4, none⟩ = some (.int .i64 x.size) := by
  obtain ⟨hi, hx⟩ := List.getElem?_eq_some_iff.1 hx
  obtain ⟨A', cap, he, h1, h2, h3⟩ := h.nodes
  injection he with e1 e2 e3
  subst e1 e2 e3
  obtain ⟨b, off, rfl, hc⟩ := h3.resolve_left (by omega)
  have := hc i hi
  rw [hx] at this
  exact ⟨b, off, rfl, this⟩
/-- nodes that a literal lays -/
theorem nodes_lit (w : World) (l : List Nd) (n : Nat) (h : w.heap.size = n) (lo : Nat) (hlo : lo ≤ n) (hl : l.length ≤ 1048576 := by decide) : NodesT lo (w.alloc (.cells (ndVals l).toArray 57)) (.slice (some ⟨n, 0, none⟩) l.length l.length) l := by
  refine ⟨_, _, rfl, Nat.le_refl _, by unfold maxLen; omega, fun _ => ⟨n, 0, _, rfl, hlo, heap_new _ _ _ h, fun j u hu => ?_⟩⟩
  rw [Nat.zero_add]
  simpa using hu
theorem texts_lit (w : World) (l : List ByteArray) (n : Nat) (h : w.heap.size = n) (hl : l.length ≤ 1048576 := by decide) : TextsIs (w.alloc (.cells (l.map Value.string).toArray 9)) (.slice (some ⟨n, 0, none⟩) l.length l.length) l := by
  refine ⟨_, _, rfl, Nat.le_refl _, by unfold maxLen; omega, fun _ => ⟨n, 0, rfl, fun j u hu => ?_⟩⟩
  rw [Nat.zero_add, cell_of_heap (heap_new _ _ _ h)]
  simpa using hu
theorem ints_lit (w : World) (l : List Nat) (n : Nat) (h : w.heap.size = n) (hl : l.length ≤ 1048576 := by decide) : IntsIs (w.alloc (.cells (intVals l).toArray 3)) (.slice (some ⟨n, 0, none⟩) l.length l.length) l := by
  refine ⟨_, _, rfl, Nat.le_refl _, by unfold maxLen; omega, fun _ => ⟨n, 0, rfl, fun j u hu => ?_⟩⟩
  rw [Nat.zero_add, cell_of_heap (heap_new _ _ _ h)]
  simpa using hu
theorem parts_lit (w : World) (gs : List (Value × List Nd)) (n : Nat) (h : w.heap.size = n) (hp : ∀ p ∈ gs, NodesIs w p.1 p.2) (hl : gs.length ≤ 1048576 := by simp) :
    PartsIs (w.alloc (.cells (gs.map Prod.fst).toArray 22)) (.slice (some ⟨n, 0, none⟩) gs.length gs.length) (gs.map Prod.snd) := by
  refine ⟨gs.map Prod.fst, by simp, ⟨_, _, by rw [List.length_map], by rw [List.length_map]; exact Nat.le_refl _, by unfold maxLen; omega, fun _ => ⟨n, 0, rfl, fun j u hu => ?_⟩⟩, fun i hi hi' => ?_⟩
  · rw [Nat.zero_add, cell_of_heap (heap_new _ _ _ h)]
    simpa using hu
  · have hi2 : i < gs.length := by simpa using hi
    simp only [List.getElem_map]
    exact (hp _ (List.getElem_mem hi2)).old ((Old.refl w).alloc _)
theorem heap_next (w : World) (o : Obj) : (w.alloc o).heap.size = w.heap.size + 1 := by simp
def nuT : List Nd := leafT 1 0 none_
def tyT : List Nd := leafT (if true then 3 else 2) 0 none_
def srT : List Nd := [⟨7, none_, 0, none_, 5⟩, ⟨3, ⟨#[97]⟩, 0, none_, 1⟩, ⟨6, ⟨#[98]⟩, 0, none_, 3⟩, ⟨4, none_, 1, none_, 1⟩, ⟨1, none_, 0, none_, 1⟩]
theorem sizes_ok (t : List Nd) (h : (t.all fun x => decide (x.key.size ≤ 1) && decide (x.s.size ≤ 1)) = true) : TextsOk t := by
  intro x hx
  have := List.all_eq_true.1 h x hx
  simp only [Bool.and_eq_true, decide_eq_true_eq] at this
  unfold maxLen
  omega
theorem exTx : TextsOk exT := sizes_ok _ (by decide)
theorem exTx4 : TextsOk (exT.take 4) := sizes_ok _ (by decide)
theorem twTx : TextsOk twT := sizes_ok _ (by decide)
theorem kTx : ∀ s ∈ ([⟨#[97]⟩, ⟨#[97]⟩] : List ByteArray), s.size ≤ maxLen := by decide
theorem kTx1 : ∀ s ∈ ([⟨#[97]⟩] : List ByteArray), s.size ≤ maxLen := by decide
theorem kTx2 : ∀ s ∈ ([⟨#[98]⟩, ⟨#[97]⟩] : List ByteArray), s.size ≤ maxLen := by decide
theorem two_tx {a b : List Nd} (ha : TextsOk a) (hb : TextsOk b) : ∀ p ∈ [a, b], TextsOk p := by
  intro p hp
  rcases List.mem_cons.1 hp with rfl | hp
  · exact ha
  · simp at hp
    subst hp
    exact hb
theorem two_parts {w : World} {a b : Value} {l m : List Nd} (ha : NodesIs w a l) (hb : NodesIs w b m) : ∀ p ∈ [(a, l), (b, m)], NodesIs w p.1 p.2 := by
  intro p hp
  rcases List.mem_cons.1 hp with rfl | hp
  · exact ha
  · simp at hp
    subst hp
    exact hb
theorem nTx : ∀ p ∈ [nuT, nuT], TextsOk p := two_tx (sizes_ok _ (by decide)) (sizes_ok _ (by decide))
theorem oTx : ∀ p ∈ [leafT 4 1 none_, nuT], TextsOk p := two_tx (sizes_ok _ (by decide)) (sizes_ok _ (by decide))
theorem pTx : ∀ p ∈ [ptT, tyT], TextsOk p := two_tx (sizes_ok _ (by decide)) (sizes_ok _ (by decide))
theorem PartsIs.nil_ (w : World) : PartsIs w (.slice none 0 0) [] := ⟨[], rfl, Sl.nil_ w, fun i hi => absurd hi (by simp)⟩
theorem eq_true (va vb : Value) (a : List Nd) (w : World) (ha : NodesIs w va a) (hb : NodesIs w vb a) : Calls Tryz.prog 9 #[va, vb] w fun e w' => e = .returned (.bool true) ∧ Old w w' := by
  have := law_eq va vb a a w ha hb
  simpa [sameNds] using this
theorem str_as (s : ByteArray) (l : List Nd) (w : World) (hs : s.size ≤ 9223372036854775807) (hT : Tabs w) (e : strT s = l) : Calls Tryz.prog 27 #[.string s] w (NewNodes w l) := by
  subst e
  exact str_run s w hs hT
/-- a leaf -/
def leafJ (k n : Int) (s : ByteArray) : J := .mk ⟨k, none_, n, s⟩ []
theorem leafMay {k n : Int} {s : ByteArray} (h : leafOk vU ⟨k, none_, n, s⟩) : May (leafT k n s) (leafJ k n s) := by
  refine ⟨⟨?_, rfl, by simp [leafT, leafJ, J.flat, J.flats]⟩, by simp [leafT], by simp [leafJ, J.deep, J.deeps]⟩
  simp only [leafJ, J.Ok]
  exact .inl ⟨h, by trivial⟩
theorem nuMay : May nuT (leafJ 1 0 none_) := leafMay (.inl ⟨.inl rfl, rfl, rfl⟩)
theorem tyMay : May tyT (leafJ 3 0 none_) := leafMay (.inl ⟨.inr (.inr rfl), rfl, rfl⟩)
theorem onMay : May (leafT 4 1 none_) (leafJ 4 1 none_) := leafMay (.inr (.inl ⟨rfl, rfl⟩))
def ptJ : J := .mk ⟨6, none_, 0, none_⟩ [leafJ 4 1 none_, leafJ 1 0 none_]
theorem ptMay : May ptT ptJ := by
  refine ⟨⟨?_, rfl, by simp [ptT, ptJ, leafJ, J.flat, J.flats]⟩, by simp [ptT], by simp [ptJ, leafJ, J.deep, J.deeps]⟩
  simp only [ptJ, leafJ, J.Ok, J.Oks, leafOk, plainHd, J.key, J.hd]
  simp
theorem two_may {a b : List Nd} {ja jb : J} (ha : May a ja) (hb : May b jb) : AllMay [a, b] [ja, jb] := by
  refine ⟨rfl, fun i hi hi' => ?_⟩
  match i, hi with
  | 0, _ => exact ha
  | 1, _ => exact hb
theorem exGetA : GetT exT ⟨#[97]⟩ tyT true := .inr ⟨_, _, exMay, rfl, .inr ⟨.mk ⟨3, ⟨#[97]⟩, 0, none_⟩ [], by rfl, by simp [tyT, leafT, J.unkey, J.flat, J.flats], rfl⟩⟩
theorem exGetC : GetT exT ⟨#[99]⟩ [] false := .inr ⟨_, _, exMay, rfl, .inl ⟨by rfl, rfl, rfl⟩⟩
theorem exTwice : ObjT [⟨#[97]⟩, ⟨#[97]⟩] [nuT, nuT] [] 71 := by
  refine .inr ⟨rfl, .inl ⟨1, by simp, fun j hj => ?_, ?_, ?_, rfl⟩⟩
  · have : j = 0 := by omega
    subst this
    rw [objErr_chk (by simp) (by simp) vU_a rfl]
    exact chkT_may nuMay
  · rw [objErr_71 (by simp) vU_a rfl]
    decide
  · rw [objErr_71 (by simp) vU_a rfl]
theorem exArg : ObjT [⟨#[97]⟩] [] [] 2 := .inl ⟨by simp, rfl, rfl⟩
theorem exList : ListT [leafT 4 1 none_, nuT] ptT 0 := .inr ⟨_, two_may onMay nuMay, .inr (.inr ⟨by simp [leafJ, J.flat, J.flats], by simp [leafJ, J.deep, J.deeps], by simp [ptT, leafJ, J.flat, J.flats], rfl⟩)⟩
theorem exObj : ObjT [⟨#[98]⟩, ⟨#[97]⟩] [ptT, tyT] exT 0 := by
  refine .inr ⟨rfl, .inr ⟨fun j hj => ?_, _, two_may ptMay tyMay, .inr (.inr ⟨by simp [rekeys, J.rekey, ptJ, leafJ, J.flat, J.flats], by simp [rekeys, J.rekey, ptJ, leafJ, J.deep, J.deeps], by simp [exT, rekeys, J.rekey, ptJ, leafJ, J.flat, J.flats], rfl⟩)⟩⟩
  match j, hj with
  | 0, _ =>
    rw [objErr_chk (by simp) (by simp) vU_b rfl]
    exact chkT_may ptMay
  | 1, _ =>
    rw [objErr_chk (by simp) (by simp) vU_a (by decide)]
    exact chkT_may tyMay
theorem exKids : kidsT exT [1, 4] := .inl ⟨_, _, exMay, by simp [exL, starts, J.flat, J.flats]⟩
theorem exPart : PartT exT 1 ptT := .inr ⟨exJ, exL, 1, [⟨3, ⟨#[97]⟩, 0, none_, 1⟩], exMay, rfl, by decide, by simp [exT, exL, J.flat, J.flats], (kid_ok exMay.1.1 exL (by simp [exJ, J.kids])), by simp [exL, exJ, J.deep, J.deeps], by simp [ptT, exL, J.unkey, J.flat, J.flats]⟩
theorem exSorted {ps : List Nd} (h : SortedT exT ps) : srT = ps := by
  obtain ⟨j, hj, rfl⟩ := h.good (chkT_may exMay)
  have : j = exJ := flat_inj (hj.1.2.2.symm.trans exMay.1.2.2)
  subst this
  have hb : Op.bytesLess ([98] : List UInt8) [97] = false := by kernel_rfl
  simp [srT, exJ, exL, J.sort, J.sorts, ordJ, insJ, J.flat, J.flats, J.key, J.hd, hb]
def WorksOk : Prop := ∀ w : World, Tabs w → Calls Tryz.prog 8 #[] w fun e w' => e = .returned (.bool true) ∧ Old w w'
end Go.Proofs.YtmolmphbhdbcaaaGreatDoor
