/- The lists that GroupOnce gathers: where they lie. -/
import Derived.Test.YtmfbblcipakaiaaGreatDoorGrpMx
/-! ### The lists that GroupOnce gathers: where they lie. -/
namespace Go.Proofs.YtmfbblcipakaiaaGreatDoor
open Go.RowKit

theorem run_append_sl_at {P : Program} (w : World) (base : Nat) (t ty e : TypeId) (i : TypeInfo) (z : Value) (size bytes : Nat) (ht : P.underlying t = some (.slice e)) (hi : P.info? e = some i) (hz : i.zero = some z)
    (hsize : i.size = size) (hby : i.bytes = bytes) (hzs : z.cells.size = size) (hsz : 0 < size) (v : Value) (n : Nat) (xs : List Value) (hown : w.ownsRow base e size v n xs)
    (x : Value) (m : Nat) (ys : List Value) (hx : Sl w x m ys) (hy : ys.length = m * size) (h1 : ∀ u ∈ ys, u.oneCell' = true) (h63 : n + m ≤ maxLen) (hbytes : (n + m) * bytes ≤ 140737488355328) (hbase : base ≤ w.heap.size) :
    ∃ v' w', (Builtin.append_ #[t, t] ty #[v, x]).run P w = .ok v' w' ∧ w'.ownsRow base e size v' (n + m) (xs ++ ys) ∧ w.grownBy w' v.ownBlock ∧ (v'.ownBlock = v.ownBlock ∨ v'.ownBlock = some w.heap.size) := by
  obtain ⟨A, c, rfl, hc1, hc2, hc3⟩ := hx
  rcases A with _ | ad
  · have hys : ys = [] := Classical.byContradiction fun hne => by
      obtain ⟨b, off, hb, _⟩ := hc3 hne
      cases hb
    subst hys
    have hm : m = 0 := by
      rcases Nat.eq_zero_or_pos m with h | h
      · exact h
      · have := Nat.mul_pos h hsz
        simp at hy
        omega
    subst hm
    refine ⟨v, w, ?_, by simpa using hown, World.grownBy.refl w _, .inl rfl⟩
    rcases hown.2 with ⟨rfl, rfl⟩ | ⟨g, cap, cur, rfl, _, _, hnc, _⟩
    · simp [Builtin.append_, run_underlying ht, sizeOf, typeInfo, hi, Builtin.lenOf, Builtin.firstCells]
    · simp [Builtin.append_, run_underlying ht, sizeOf, typeInfo, hi, Builtin.lenOf, Builtin.firstCells, hnc, storeCells]
  · obtain ⟨v', w', hrun, h2, h3, _, h5⟩ := run_append_own_at (P := P) w base t ty e i z size bytes ht hi hz hsize hby hzs hsz v n xs hown ad m c ys hy (fun j u hu => by
      have hne : ys ≠ [] := by rintro rfl; simp at hu
      obtain ⟨b, off, hb, hcell⟩ := hc3 hne
      injection hb with hb
      subst hb
      have := hcell j u hu
      unfold Addr.add
      split
      · rename_i h0; subst h0; simpa using this
      · exact this) h1 h63 hbytes hbase
    exact ⟨v', w', hrun, h2, h3, h5⟩
theorem wp_append_at {P : Program} {o : Oper} {a : Act} {K : Act → World → Prop} {Q : Exit → Act → World → Prop} (w : World) (s x : Operand) (t : TypeId)
    (ho : o.op = .call { callee := .builtin .append, args := #[s, x], argTypes := #[t, t] })
    (base : Nat) (e : TypeId) (i : TypeInfo) (z : Value) (size bytes : Nat) (ht : P.underlying t = some (.slice e)) (hi : P.info? e = some i) (hz : i.zero = some z)
    (hsize : i.size = size) (hby : i.bytes = bytes) (hzs : z.cells.size = size) (hsz : 0 < size) (v : Value) (n : Nat) (xs : List Value) (hs : a.eval s = v) (hown : w.ownsRow base e size v n xs)
    (xv : Value) (m : Nat) (ys : List Value) (hev : a.eval x = xv) (hx : Sl w xv m ys) (hy : ys.length = m * size) (h1 : ∀ u ∈ ys, u.oneCell' = true) (h63 : n + m ≤ maxLen) (hbytes : (n + m) * bytes ≤ 140737488355328) (hbase : base ≤ w.heap.size)
    (h : ∀ v' w', w'.ownsRow base e size v' (n + m) (xs ++ ys) → w.grownBy w' v.ownBlock → (v'.ownBlock = v.ownBlock ∨ v'.ownBlock = some w.heap.size) → K (a.put o.dst v') w') : o.wp P a w K Q := by
  obtain ⟨v', w', hr, h2, h3, h4⟩ := run_append_sl_at (P := P) w base t o.type e i z size bytes ht hi hz hsize hby hzs hsz v n xs hown xv m ys hx hy h1 h63 hbytes hbase
  unfold Oper.wp execOp
  simp only [ho, resolve, invoke, builtin, Sem.run_bind, Sem.run_pure, Result.andThen_ok, List.map_toArray, List.map_cons, List.map_nil, hs, hev, hr]
  exact h v' w' h2 h3 h4

/-- a list's block lies out of B -/
def Out (B : Nat → Prop) (v : Value) : Prop := ∀ b, v.ownBlock = some b → ¬ B b
theorem own_ge {w : World} {base T size n : Nat} {v : Value} {xs : List Value} (h : w.ownsRow base T size v n xs) : ∀ b, v.ownBlock = some b → base ≤ b ∧ b < w.heap.size := by
  intro b hb
  rcases h.2 with ⟨rfl, _⟩ | ⟨g, cap, cur, rfl, h1, hh, _⟩
  · simp [Value.ownBlock] at hb
  · simp [Value.ownBlock] at hb
    subst hb
    exact ⟨h1, block_lt hh⟩
theorem ownRow_turn {w w' : World} {base T size n bm : Nat} {v : Value} {xs : List Value} (h : w.ownsRow base T size v n xs) (c : Chg (fun b => b = bm) w w') (hb : bm < base) : w'.ownsRow base T size v n xs := by
  obtain ⟨h1, h2⟩ := h
  refine ⟨h1, ?_⟩
  rcases h2 with h2 | ⟨g, cap, cur, rfl, h3, hh, r⟩
  · exact .inl h2
  · exact .inr ⟨g, cap, cur, rfl, h3, by rw [c.block g (block_lt hh) (by omega)]; exact hh, r⟩
section
variable {w w' : World} {base bm : Nat} {v u : Value} {l : List Ent} {z : List Item}
theorem EntsOwn.turn (h : EntsOwn 51 65 base w v l) (c : Chg (fun b => b = bm) w w') (hb : bm < base) : EntsOwn 51 65 base w' v l := by
  obtain ⟨vs, h1, h2, h3⟩ := h
  exact ⟨vs, h1, ownRow_turn h2 c hb, fun i hi hi' => ⟨(h3 i hi hi').1.chg c (fun b cs f hl hh => by omega), (h3 i hi hi').2.chg c (fun b cs f hl hh => by omega)⟩⟩
theorem ItemsOwn.turn (h : ItemsOwn 60 65 base w v z) (c : Chg (fun b => b = bm) w w') (hb : bm < base) : ItemsOwn 60 65 base w' v z := by
  obtain ⟨vs, h1, h2, h3⟩ := h
  exact ⟨vs, h1, ownRow_turn h2 c hb, fun i hi hi' => (h3 i hi hi').chg c (fun b cs f hl hh => by omega)⟩
theorem EntsOwn.kept (h : EntsOwn 51 65 base w v l) (k : Kept 60 base w w') : EntsOwn 51 65 base w' v l := by
  obtain ⟨vs, h1, ⟨h2, h4⟩, h3⟩ := h
  refine ⟨vs, h1, ⟨h2, ?_⟩, fun i hi hi' => ⟨k.slT (h3 i hi hi').1 (by decide), k.slT (h3 i hi hi').2 (by decide)⟩⟩
  rcases h4 with h4 | ⟨g, cap, cur, rfl, h5, hh, r⟩
  · exact .inl h4
  · exact .inr ⟨g, cap, cur, rfl, h5, k.other _ _ _ _ hh (by decide), r⟩
theorem ItemsOwn.kept (h : ItemsOwn 60 65 base w v z) (k : Kept 51 base w w') : ItemsOwn 60 65 base w' v z := by
  obtain ⟨vs, h1, ⟨h2, h4⟩, h3⟩ := h
  refine ⟨vs, h1, ⟨h2, ?_⟩, fun i hi hi' => k.slT (h3 i hi hi') (by decide)⟩
  rcases h4 with h4 | ⟨g, cap, cur, rfl, h5, hh, r⟩
  · exact .inl h4
  · exact .inr ⟨g, cap, cur, rfl, h5, k.other _ _ _ _ hh (by decide), r⟩
theorem GIs.side {g K S m : Nat} {f : Gf} {B : Nat → Prop} (h : GIs w g bm K S m f B) (hg : w.grownBy w' v.ownBlock) (ho : Out B v) (hv : ∀ b, v.ownBlock = some b → base ≤ b) (h1 : g < base) (h2 : bm < base) : GIs w' g bm K S m f B := by
  have c : Chg (fun b => v.ownBlock = some b) w w' := ⟨hg.os, hg.tape, hg.output, hg.size, fun n hn hz => hg.block n hn (fun e => hz e.symm)⟩
  exact h.chg c (fun e => by have := hv _ e; omega) (fun e => by have := hv _ e; omega) (fun b _ hb e => ho b e hb)
theorem Out.next {B : Nat → Prop} {v' : Value} (h : Out B v) (hl : ∀ b, B b → b < w.heap.size) (h2 : v'.ownBlock = v.ownBlock ∨ v'.ownBlock = some w.heap.size) : Out B v' := by
  intro b hb hB
  rcases h2 with h2 | h2
  · exact h b (h2 ▸ hb) hB
  · rw [h2] at hb
    injection hb with hb
    have := hl b hB
    omega
end
theorem push_ents_at {o : Oper} {a : Act} {K : Act → World → Prop} {Q : Exit → Act → World → Prop} (w : World) (s x : Operand)
    (ho : o.op = .call { callee := .builtin .append, args := #[s, x], argTypes := #[31, 31] })
    (base : Nat) (v : Value) (l : List Ent) (hs : a.eval s = v) (hown : EntsOwn 51 65 base w v l) (xv : Value) (m : List Ent) (hev : a.eval x = xv) (hx : EntsT 51 65 base w xv m) (hlen : l.length + m.length ≤ 2097152) (hbase : base ≤ w.heap.size)
    (h : ∀ v' w', EntsOwn 51 65 base w' v' (l ++ m) → Kept 51 base w w' → w.grownBy w' v.ownBlock → (v'.ownBlock = v.ownBlock ∨ v'.ownBlock = some w.heap.size) → K (a.put o.dst v') w') : o.wp Tryz.prog a w K Q := by
  obtain ⟨i0, hi, hz0, hz1, hz2⟩ := info_parts entInfo
  obtain ⟨vs, e1, e2, e3⟩ := hown
  obtain ⟨us, g1, g2, g3⟩ := hx
  refine wp_append_at w s x 31 ho base 51 i0 (.agg #[.slice none 0 0, .slice none 0 0, .int .i64 0]) 3 56 Tryz.underlying31 hi hz0 hz1 hz2 rfl (by omega) v l.length (entVals vs l) hs e2
    xv m.length (entVals us m) hev g2.sl (entVals_length us m g1) (entVals_cell (fun q hq => ?_)) (by unfold maxLen; omega) (by omega) hbase ?_
  · obtain ⟨i, hi, rfl⟩ := List.getElem_of_mem hq
    obtain ⟨⟨A, c, hh, _⟩, ⟨A2, c2, hh2, _⟩⟩ := g3 i (by omega) hi
    rw [hh, hh2]
    exact ⟨rfl, rfl⟩
  · intro v' w' own' hg hat
    have hK := Kept.of_grown e2 hg hbase
    refine h v' w' ⟨vs ++ us, by simp [e1, g1], ?_, ?_⟩ hK hg hat
    · rw [entVals_append vs l _ _ e1, List.length_append]
      exact own'
    · intro i hi hi'
      rcases Nat.lt_or_ge i l.length with hlt | hge
      · have : i < vs.length := by omega
        rw [List.getElem_append_left this]
        simp only [List.getElem_append_left hlt]
        exact ⟨hK.slT (e3 i hlt this).1 (by decide), hK.slT (e3 i hlt this).2 (by decide)⟩
      · rw [List.getElem_append_right (by omega)]
        simp only [List.getElem_append_right hge, e1]
        exact ⟨hK.slT (g3 _ (by simp at hi; omega) (by simp at hi'; omega)).1 (by decide), hK.slT (g3 _ (by simp at hi; omega) (by simp at hi'; omega)).2 (by decide)⟩
theorem push_items_at {o : Oper} {a : Act} {K : Act → World → Prop} {Q : Exit → Act → World → Prop} (w : World) (s x : Operand)
    (ho : o.op = .call { callee := .builtin .append, args := #[s, x], argTypes := #[33, 33] })
    (base : Nat) (v : Value) (l : List Item) (hs : a.eval s = v) (hown : ItemsOwn 60 65 base w v l) (xv : Value) (m : List Item) (hev : a.eval x = xv) (hx : ItemsT 60 65 base w xv m) (hlen : l.length + m.length ≤ 2097152) (hbase : base ≤ w.heap.size)
    (h : ∀ v' w', ItemsOwn 60 65 base w' v' (l ++ m) → Kept 60 base w w' → w.grownBy w' v.ownBlock → (v'.ownBlock = v.ownBlock ∨ v'.ownBlock = some w.heap.size) → K (a.put o.dst v') w') : o.wp Tryz.prog a w K Q := by
  obtain ⟨i0, hi, hz0, hz1, hz2⟩ := info_parts itemInfo
  obtain ⟨vs, e1, e2, e3⟩ := hown
  obtain ⟨us, g1, g2, g3⟩ := hx
  refine wp_append_at w s x 33 ho base 60 i0 _ 2 32 Tryz.underlying33 hi hz0 hz1 hz2 rfl (by omega) v l.length (itemVals vs l) hs e2
    xv m.length (itemVals us m) hev g2.sl (itemVals_length us m g1) (itemVals_cell us m (fun q hq => ?_)) (by unfold maxLen; omega) (by omega) hbase ?_
  · obtain ⟨i, hi, rfl⟩ := List.getElem_of_mem hq
    obtain ⟨A, c, hh, _⟩ := g3 i (by omega) hi
    rw [hh]
    rfl
  · intro v' w' own' hg hat
    have hK := Kept.of_grown e2 hg hbase
    refine h v' w' ⟨vs ++ us, by simp [e1, g1], ?_, ?_⟩ hK hg hat
    · rw [itemVals_append vs l _ _ e1, List.length_append]
      exact own'
    · intro i hi hi'
      rcases Nat.lt_or_ge i l.length with hlt | hge
      · have : i < vs.length := by omega
        rw [List.getElem_append_left this]
        simp only [List.getElem_append_left hlt]
        exact hK.slT (e3 i hlt this) (by decide)
      · rw [List.getElem_append_right (by omega)]
        simp only [List.getElem_append_right hge, e1]
        exact hK.slT (g3 _ (by simp at hi; omega) (by simp at hi'; omega)) (by decide)
end Go.Proofs.YtmfbblcipakaiaaGreatDoor

/-! ### GroupOnce's state: what it gathers. -/
namespace Go.Proofs.YtmfbblcipakaiaaGreatDoor
open Go.RowKit

/-- .. in memory: the groups have taken Lg; the lists L and O are gathered -/
structure OnceM (w0 : World) (base g bm K S m : Nat) (Lg L : List Ent) (O : List Item) (va vo : Value) (w : World) : Prop where
  pow : PowTab w0
  b0 : w0.heap.size ≤ base
  bw : base ≤ w.heap.size
  g0 : w0.heap.size ≤ g
  m0 : w0.heap.size ≤ bm
  gb : g < base
  mb : bm < base
  k3 : K ≤ 3
  s3 : S ≤ 3
  old : Old w0 w
  is : ∃ B, GIs w g bm K S m (gAdd gZero Lg) B ∧ Out B va ∧ Out B vo
  ea : EntsOwn 51 65 base w va L
  eo : ItemsOwn 60 65 base w vo O
/-- .. in plain -/
structure OnceP (K S k : Nat) (L : List Ent) (O : List Item) : Prop where
  may : allMay K S L = true
  fine : ∀ e ∈ L, EntFine e
  chain : ∀ r, wOf O r = rowW K S (gAdd gZero L) r - rowW K S gZero r
  nl : L.length ≤ 12 * k
  fo : Fine (24 * k) O
theorem OnceP.zero (K S : Nat) : OnceP K S 0 [] [] := ⟨rfl, by simp, fun r => by rw [gAdd_nil]; simp [wOf], by simp, ⟨by simp, fun i hi => absurd hi (by simp), by simp⟩⟩
theorem OnceP.skip {K S k : Nat} {L : List Ent} {O : List Item} (h : OnceP K S k L O) : OnceP K S (k + 1) L O := ⟨h.may, h.fine, h.chain, by have := h.nl; omega, h.fo.mono (by omega)⟩
theorem OnceP.next {K S k : Nat} {L l : List Ent} {O z : List Item} (h : OnceP K S k L O) (hf : ∀ e ∈ l, EntFine e) (hl : l.length ≤ 12) (he : appErr K S (gAdd gZero L) l = 0) (hd : Delta K S (gAdd gZero L) (gAdd gZero (L ++ l)) z) (fz : Fine 24 z) : OnceP K S (k + 1) (L ++ l) (O ++ z) where
  may := by rw [allMay_append, h.may, (appErr_zero.1 he).1]; rfl
  fine := fun e hm => (List.mem_append.1 hm).elim (h.fine e) (hf e)
  chain := delta_chain h.chain hd
  nl := by have := h.nl; simp; omega
  fo := (h.fo.append fz).mono (by omega)
section
variable {w0 w w' : World} {base g bm K S m : Nat} {Lg L : List Ent} {O : List Item} {va vo : Value}
theorem OnceM.step (h : OnceM w0 base g bm K S m Lg L O va vo w) (o : Old w w') : OnceM w0 base g bm K S m Lg L O va vo w' :=
  ⟨h.pow, h.b0, Nat.le_trans h.bw o.size, h.g0, h.m0, h.gb, h.mb, h.k3, h.s3, h.old.trans o, by obtain ⟨B, h1, h2, h3⟩ := h.is; exact ⟨B, h1.old o, h2, h3⟩, h.ea.old o, h.eo.old o⟩
theorem OnceM.mono {n : Nat} (h : OnceM w0 base g bm K S m Lg L O va vo w) (hn : m ≤ n) : OnceM w0 base g bm K S n Lg L O va vo w :=
  ⟨h.pow, h.b0, h.bw, h.g0, h.m0, h.gb, h.mb, h.k3, h.s3, h.old, by obtain ⟨B, h1, h2, h3⟩ := h.is; exact ⟨B, h1.mono hn, h2, h3⟩, h.ea, h.eo⟩
theorem OnceM.lst (h : OnceM w0 base g bm K S m Lg L O va vo w) : LSt w0 w g bm K S m (gAdd gZero Lg) :=
  ⟨h.pow, h.g0, h.m0, h.old, h.k3, h.s3, by obtain ⟨B, h1, _⟩ := h.is; exact ⟨B, h1⟩⟩
theorem OnceM.start (hp : PowTab w0) (ho : Old w0 w) (hK : K < 4) (hS : S < 4) (hg : w.heap.size ≤ g) (hb : w.heap.size ≤ bm) (hG : GIs w' g bm K S 0 gZero (fun _ => False)) (o : Old w w') :
    OnceM w0 w'.heap.size g bm K S 0 [] [] [] (.slice none 0 0) (.slice none 0 0) w' :=
  ⟨hp, Nat.le_trans ho.size o.size, Nat.le_refl _, Nat.le_trans ho.size hg, Nat.le_trans ho.size hb, hG.gLt, hG.lt, by omega, by omega, ho.trans o, ⟨_, by rw [gAdd_nil]; exact hG, fun b h => by simp [Value.ownBlock] at h, fun b h => by simp [Value.ownBlock] at h⟩, EntsOwn.nil_ _, ItemsOwn.nil_ _⟩
theorem OnceM.push_all {va' : Value} {l : List Ent} (h : OnceM w0 base g bm K S m Lg L O va vo w) (h1 : EntsOwn 51 65 base w' va' (L ++ l)) (hk : Kept 51 base w w') (hg : w.grownBy w' va.ownBlock) (hat : va'.ownBlock = va.ownBlock ∨ va'.ownBlock = some w.heap.size) :
    OnceM w0 base g bm K S m Lg (L ++ l) O va' vo w' := by
  obtain ⟨B, b1, b2, b3⟩ := h.is
  obtain ⟨vs, _, e2, _⟩ := h.ea
  exact ⟨h.pow, h.b0, Nat.le_trans h.bw hg.size, h.g0, h.m0, h.gb, h.mb, h.k3, h.s3, hk.old h.old h.b0, ⟨B, b1.side hg b2 (fun b hb => (own_ge e2 b hb).1) h.gb h.mb, b2.next b1.low hat, b3⟩, h1, h.eo.kept hk⟩
theorem OnceM.push_outs {vo' : Value} {z : List Item} (h : OnceM w0 base g bm K S m Lg L O va vo w) (h1 : ItemsOwn 60 65 base w' vo' (O ++ z)) (hk : Kept 60 base w w') (hg : w.grownBy w' vo.ownBlock) (hat : vo'.ownBlock = vo.ownBlock ∨ vo'.ownBlock = some w.heap.size) :
    OnceM w0 base g bm K S m Lg L (O ++ z) va vo' w' := by
  obtain ⟨B, b1, b2, b3⟩ := h.is
  obtain ⟨vs, _, e2, _⟩ := h.eo
  exact ⟨h.pow, h.b0, Nat.le_trans h.bw hg.size, h.g0, h.m0, h.gb, h.mb, h.k3, h.s3, hk.old h.old h.b0, ⟨B, b1.side hg b3 (fun b hb => (own_ge e2 b hb).1) h.gb h.mb, b2, b3.next b1.low hat⟩, h.ea.kept hk, h1⟩
end
def nextG (L l : List Ent) (n : Int) : List Ent := if n = 0 then L ++ l else L
theorem once_apply {w0 w : World} {base g bm K S m : Nat} {Lg L : List Ent} {O : List Item} {va vo : Value} (v : Value) (l : List Ent) (n : Int) (hs : OnceM w0 base g bm K S m Lg L O va vo w) (hl : EntsIs w v l) (hm : m ≤ 10000) (hn : l.length ≤ 12) (hf : ∀ e ∈ l, EntFine e) (he : appErr K S (gAdd gZero Lg) l = n) :
    Calls Tryz.prog 12 #[.pointer (some ⟨g, 0, none⟩), v] w fun e w' =>
      ∃ A c z, e = .returned (.tuple #[.slice A z.length c, .int .i64 n]) ∧ z.length ≤ c ∧ c ≤ maxLen ∧ ItemsT 60 65 base w' (.slice A z.length c) z ∧ Delta K S (gAdd gZero Lg) (gAdd gZero (nextG Lg l n)) z ∧ Fine 24 z ∧ OnceM w0 base g bm K S (m + l.length) (nextG Lg l n) L O va vo w' := by
  obtain ⟨B, hB, o1, o2⟩ := hs.is
  have hk := hs.k3
  have h3 := hs.s3
  have hbw := hs.bw
  refine (apply_run g bm K S m _ B v l w hB (by omega) (by omega) (by omega) hl (by omega) hf (hs.pow.old hs.old)).mono ?_
  rintro e w' ⟨h1, out, z, rfl, h8, -, hi, hd, hz, hG, hc⟩
  obtain ⟨A, c, us, rfl, h4, h5, -⟩ := id hi.is.open_
  have hF : appF K S (gAdd gZero Lg) l = gAdd gZero (nextG Lg l n) := by
    unfold appF nextG
    rw [he]
    split
    · rw [gAdd_append]
    · rfl
  rw [hF] at hd hG
  have hb := hs.m0
  obtain ⟨vs, _, e2, _⟩ := id hs.ea
  obtain ⟨us', _, e3, _⟩ := id hs.eo
  rw [he]
  refine ⟨A, c, z, rfl, h4, h5, hi.mono (by omega), hd, delta_fine hd (by omega) (by omega) (by omega), ⟨hs.pow, hs.b0, Nat.le_trans hbw hc.size, hs.g0, hs.m0, hs.gb, hs.mb, hk, h3, Below.trans hs.old (Chg.below (lo := w0.heap.size) hc hs.old.size (fun n hn e => by omega)), ⟨_, hG, ?_, ?_⟩, hs.ea.turn hc hs.mb, hs.eo.turn hc hs.mb⟩⟩
  · rintro b hb2 (h | ⟨h, -⟩)
    · exact o1 b hb2 h
    · have := (own_ge e2 b hb2).2
      omega
  · rintro b hb2 (h | ⟨h, -⟩)
    · exact o2 b hb2 h
    · have := (own_ge e3 b hb2).2
      omega

/-! ### what GroupOnce reckons -/
theorem all_err {K S : Nat} {L : List Ent} (hf : GFit S (gAdd gZero L)) (hm : allMay K S L = true) : appErr K S gZero L = 0 ∧ appF K S gZero L = gAdd gZero L := by
  have h := appErr_ok hm (okB_iff.2 fun e _ i hi => hf e.key i hi)
  exact h
theorem turn_add (L : List Ent) (n : Nat) : gAdd gZero (L.drop n ++ L.take n) = gAdd gZero L := by
  funext k i
  unfold gAdd
  rw [tot_turn]
theorem turn_may {K S : Nat} {L : List Ent} (n : Nat) (h : allMay K S L = true) : allMay K S (L.drop n ++ L.take n) = true := by
  have h2 := h
  rw [← List.take_append_drop n L, allMay_append] at h2
  rw [allMay_append, Bool.and_comm]
  exact h2
theorem turn_err {K S : Nat} {L : List Ent} (n : Nat) (hf : GFit S (gAdd gZero L)) (hm : allMay K S L = true) : appErr K S gZero (L.drop n ++ L.take n) = 0 ∧ appF K S gZero (L.drop n ++ L.take n) = gAdd gZero L := by
  have h := all_err (L := L.drop n ++ L.take n) (by rw [turn_add]; exact hf) (turn_may n hm)
  rw [turn_add] at h
  exact h
theorem turn_fine {L : List Ent} (n : Nat) (h : ∀ e ∈ L, EntFine e) : ∀ e ∈ L.drop n ++ L.take n, EntFine e := fun e he =>
  (List.mem_append.1 he).elim (fun he => h e (List.mem_of_mem_drop he)) (fun he => h e (List.mem_of_mem_take he))
end Go.Proofs.YtmfbblcipakaiaaGreatDoor

/-! ### A list of entries that the call owns, read in parts; lists that grow by lists. -/
namespace Go.Proofs.YtmfbblcipakaiaaGreatDoor
open Go.RowKit

theorem EntsOwn.readN {base N : Nat} {w : World} {v : Value} {l : List Ent} (h : EntsOwn 51 65 base w v l) (hN : l.length = N) : (v = .slice none 0 0 ∧ N = 0) ∨
    ∃ g cap, v = .slice (some ⟨g, 0, none⟩) N cap ∧ N ≤ cap ∧ cap ≤ maxLen ∧ (∀ m, m ≤ N → EntsIs w (.slice (some ⟨g, 0, none⟩) m cap) (l.take m)) ∧
      (∀ m, m ≤ N → ∀ A, (m < cap → A = some ⟨g, m * 3, none⟩) → EntsIs w (.slice A (N - m) (cap - m)) (l.drop m)) := by
  subst hN
  obtain ⟨vs, h1, ⟨hl, h2⟩, h3⟩ := h
  rcases h2 with ⟨rfl, h0⟩ | ⟨g, cap, cur, rfl, hb, hh, hn, hm, hs, ht⟩
  · exact .inl ⟨rfl, h0⟩
  · have hcell : ∀ j u, (entVals vs l)[j]? = some u → w.cell? ⟨g, j, none⟩ = some u := fun j u hu => by
      rw [← ht, List.getElem?_take] at hu
      split at hu
      · rw [cell_of_heap hh]; simpa using hu
      · cases hu
    refine .inr ⟨g, cap, rfl, hn, hm, fun m hml => ?_, fun m hml A hA => ?_⟩
    · refine ⟨vs.take m, by simp [h1], ⟨_, _, by simp [Nat.min_eq_left hml], by simp [Nat.min_eq_left hml]; omega, hm, fun _ => ⟨g, 0, rfl, fun j u hu => ?_⟩⟩, fun i hi hi' => ?_⟩
      · rw [Nat.zero_add]
        refine hcell j u ?_
        have e : entVals vs l = entVals (vs.take m) (l.take m) ++ entVals (vs.drop m) (l.drop m) := by
          rw [← entVals_append _ _ _ _ (by simp [h1]), List.take_append_drop, List.take_append_drop]
        rw [e, List.getElem?_append_left]
        · exact hu
        · exact (List.getElem?_eq_some_iff.1 hu).1
      · simp only [List.getElem_take]
        have := h3 i (by simp at hi; omega) (by simp at hi'; omega)
        exact ⟨this.1.sl, this.2.sl⟩
    · refine ⟨vs.drop m, by simp [h1], ⟨A, cap - m, by simp, by simp; omega, by omega, fun hne => ?_⟩, fun i hi hi' => ?_⟩
      · have hlt : m < l.length := by
          rcases Nat.lt_or_ge m l.length with h | h
          · exact h
          · exfalso
            apply hne
            rw [List.drop_of_length_le h, List.drop_of_length_le (by omega)]
            rfl
        refine ⟨g, m * 3, hA (by omega), fun j u hu => hcell _ u ?_⟩
        have e : entVals vs l = entVals (vs.take m) (l.take m) ++ entVals (vs.drop m) (l.drop m) := by
          rw [← entVals_append _ _ _ _ (by simp [h1]), List.take_append_drop, List.take_append_drop]
        have e2 : (entVals (vs.take m) (l.take m)).length = m * 3 := by rw [entVals_length _ _ (by simp [h1]), List.length_take, Nat.min_eq_left hml]
        rw [e, List.getElem?_append_right (by omega), e2, Nat.add_sub_cancel_left]
        exact hu
      · simp only [List.getElem_drop]
        have := h3 (m + i) (by simp at hi; omega) (by simp at hi'; omega)
        exact ⟨this.1.sl, this.2.sl⟩
theorem ents_none {w : World} {A : Option Addr} {j c : Nat} {l : List Ent} (hl : l = []) (hj : j = 0) (hc : c ≤ 1048576) : EntsIs w (.slice A j c) l := by
  subst hl hj
  exact ⟨[], rfl, ⟨A, c, rfl, Nat.zero_le _, by unfold maxLen; omega, fun h => absurd rfl h⟩, fun i h => absurd h (by simp)⟩
theorem mixE_start {w0 w : World} (ho : Old w0 w) : MixE w0 (w.alloc (.cells #[] 51)) (.slice (some ⟨w.heap.size, 0, none⟩) 0 0) [] :=
  ⟨[], rfl, ⟨rfl, .inr ⟨w.heap.size, 0, #[], rfl, ho.size, heap_alloc_at _, Nat.le_refl _, Nat.zero_le _, rfl, rfl⟩⟩, fun i hi => absurd hi (by simp)⟩
theorem step_push_entsM {o : Oper} {a : Act} {K : Act → World → Prop} {Q : Exit → Act → World → Prop} (w0 w : World) (s x : Operand)
    (ho : o.op = .call { callee := .builtin .append, args := #[s, x], argTypes := #[31, 31] })
    (v : Value) (l : List Ent) (hs : a.eval s = v) (hown : MixE w0 w v l) (xv : Value) (m : List Ent) (hev : a.eval x = xv) (hx : EntsIs w0 xv m) (hold : Old w0 w) (hlen : l.length + m.length ≤ 2097152)
    (h : ∀ v' w', MixE w0 w' v' (l ++ m) → Old w0 w' → K (a.put o.dst v') w') : o.wp Tryz.prog a w K Q := by
  obtain ⟨i0, hi, hz0, hz1, hz2⟩ := info_parts entInfo
  obtain ⟨vs, e1, e2, e3⟩ := hown
  obtain ⟨us, g1, g2, g3⟩ := hx
  refine wp_append_at w s x 31 ho w0.heap.size 51 i0 (.agg #[.slice none 0 0, .slice none 0 0, .int .i64 0]) 3 56 Tryz.underlying31 hi hz0 hz1 hz2 rfl (by omega) v l.length (entVals vs l) hs e2
    xv m.length (entVals us m) hev (g2.old hold) (entVals_length us m g1) (entVals_cell (fun q hq => ?_)) (by unfold maxLen; omega) (by omega) hold.size ?_
  · obtain ⟨i, hi, rfl⟩ := List.getElem_of_mem hq
    obtain ⟨⟨A, c, hh, _⟩, ⟨A2, c2, hh2, _⟩⟩ := g3 i (by omega) hi
    rw [hh, hh2]
    exact ⟨rfl, rfl⟩
  · intro v' w' own' hg _
    refine h v' w' ⟨vs ++ us, by simp [e1, g1], ?_, ?_⟩ ((Kept.of_grown e2 hg hold.size).old hold (Nat.le_refl _))
    · rw [entVals_append vs l _ _ e1, List.length_append]
      exact own'
    · intro i hi hi'
      rcases Nat.lt_or_ge i l.length with hlt | hge
      · have : i < vs.length := by omega
        rw [List.getElem_append_left this]
        simp only [List.getElem_append_left hlt]
        exact e3 i hlt this
      · rw [List.getElem_append_right (by omega)]
        simp only [List.getElem_append_right hge, e1]
        exact g3 _ (by simp at hi; omega) (by simp at hi'; omega)
theorem Turn.gis {w w' : World} {bm g2 b2 K S m : Nat} {f : Gf} {B : Nat → Prop} (t : Turn bm w w') (hG : GIs w g2 b2 K S m f B) (hne : b2 ≠ bm) (hn : ¬ B bm) : GIs w' g2 b2 K S m f B := by
  obtain ⟨n, M, hM⟩ := t.map
  refine hG.chg t.chg (fun e => ?_) hne (fun b _ hb e => hn (e ▸ hb))
  obtain ⟨es, c, hes⟩ := hM.isMap
  have := hG.c0
  rw [e] at this
  unfold World.cell? at this
  simp [hes] at this
theorem LSt.re {w0 w w' : World} {g bm K S m m' : Nat} {f f' : Gf} {B : Nat → Prop} (h : LSt w0 w g bm K S m f) (o : Old w0 w') (hG : GIs w' g bm K S m' f' B) : LSt w0 w' g bm K S m' f' := ⟨h.pow, h.g0, h.b0, o, h.k3, h.s3, B, hG⟩
theorem away_apply {w0 w : World} {g bm K S m : Nat} {f : Gf} {B : Nat → Prop} (v : Value) (l : List Ent) (n : Int) (x : Nat) (hs : LSt w0 w g bm K S m f) (hB : GIs w g bm K S m f B) (hx : ¬ B x) (hxl : x < w.heap.size) (hl : EntsIs w v l) (hm : m ≤ 10000) (hn : l.length ≤ 1000) (hf : ∀ e ∈ l, EntFine e) (he : appErr K S f l = n) :
    Calls Tryz.prog 12 #[.pointer (some ⟨g, 0, none⟩), v] w fun e w' => ApPost w0 w g bm K S m f l n e w' ∧ ∃ B', GIs w' g bm K S (m + l.length) (appF K S f l) B' ∧ ¬ B' x := by
  have hk := hs.k3
  have h3 := hs.s3
  refine (apply_run g bm K S m f B v l w hB (by omega) (by omega) (by omega) hl (by omega) hf hs.pow').mono ?_
  rintro e w' ⟨h1, out, z, rfl, h8, -, hi, hd, hz, hG, hc⟩
  obtain ⟨A, c, us, rfl, h4, h5, -⟩ := id hi.is.open_
  obtain ⟨M, hM⟩ := hB.map
  have hb := hs.b0
  rw [he]
  refine ⟨⟨A, c, z, rfl, h4, h5, hi.is, hd, hz, ⟨hs.pow, hs.g0, hs.b0, Below.trans hs.old (Chg.below (lo := w0.heap.size) hc hs.old.size (fun n hn e => by omega)), hk, h3, _, hG⟩, hc, _, M, hM.map⟩, _, hG, ?_⟩
  rintro (h | ⟨h, -⟩)
  · exact hx h
  · omega
end Go.Proofs.YtmfbblcipakaiaaGreatDoor

/-! ### GroupOnce. -/
namespace Go.Proofs.YtmfbblcipakaiaaGreatDoor
open Go.RowKit

theorem itemsT_kept {lo base : Nat} {w w' : World} {v : Value} {z : List Item} (h : ItemsT 60 65 lo w v z) (k : Kept 51 base w w') : ItemsT 60 65 lo w' v z := by
  obtain ⟨vs, h1, h2, h3⟩ := h
  exact ⟨vs, h1, k.slT h2 (by decide), fun i hi hi' => k.slT (h3 i hi hi') (by decide)⟩
set_option maxRecDepth 100000 in
set_option maxHeartbeats 4000000 in
theorem once_law (k0 k1 : Int) (v : Value) (ls : List (List Ent)) (t : Int) (w : World) (hl : ListsIs w v ls) (hf : ∀ l ∈ ls, EFits l) (hp : PowTab w) :
    Calls Tryz.prog 4 #[.agg #[.int .i64 k0, .int .i64 k1], v, .int .i64 t] w fun e w' => e = .returned (.bool true) ∧ Old w w' := by
  obtain ⟨vs, hvl, ⟨A, ca, rfl, hla, hma, hb⟩, hents⟩ := hl
  unfold maxLen at hma
  have CM := hide (fun w' => made_run k0 k1 w')
  have hK := brg_lt k0 (n := 4) (by omega)
  have hS := brg_lt k1 (n := 4) (by omega)
  obtain ⟨K, hKe⟩ : ∃ K, K = brg k0 4 := ⟨_, rfl⟩
  obtain ⟨S, hSe⟩ : ∃ S, S = brg k1 4 := ⟨_, rfl⟩
  rw [← hKe, ← hSe] at CM
  rw [← hKe] at hK
  rw [← hSe] at hS
  clear hKe hSe
  have HB := hide hb
  have HE := hide hents
  have HF := hide hf
  have HP := hide hp
  clear hb hents hf hp
  go_enter Tryz.func4, Tryz.ntmps4
  go_wp2_with fail
  refine (works_run _ (HP.out.old ((Old.refl w).alloc _))).mono ?_
  rintro e w0 ⟨rfl, o0⟩
  have O0 := hide (((Old.refl w).alloc _).trans o0)
  have hbx := o0.heap (heap_alloc_at (w := w) (.cells #[.int .i64 k0, .int .i64 k1] 22))
  have X0 := hide (fun w' (h : Old w0 w') => (show w'.cell? ⟨w.heap.size, 0, none⟩ = some (.int .i64 k0) from h.cell ((cell_of_heap hbx).trans rfl)))
  have X1 := hide (fun w' (h : Old w0 w') => (show w'.cell? ⟨w.heap.size, 1, none⟩ = some (.int .i64 k1) from h.cell ((cell_of_heap hbx).trans rfl)))
  have c0 := X0.out _ (Old.refl w0)
  have c1 := X1.out _ (Old.refl w0)
  clear o0 hbx
  go_wp2_with fail
  refine (CM.out _).mono ?_
  rintro e w1 ⟨g, bm, rfl, hg, hbm, hG, ho⟩
  have M0 := hide (OnceM.start (HP.out.old O0.out) (Old.refl w0) hK hS hg hbm hG ho)
  have P0 := hide (OnceP.zero K S)
  obtain ⟨base, hbase⟩ : ∃ b, b = w1.heap.size := ⟨_, rfl⟩
  rw [← hbase] at M0
  clear hg hbm hG ho hbase c0 c1
  go_wp2_with fail
  go_loopw [8, 9, 10] (fun va vo i wr => ∃ (k : Nat) (L : List Ent) (O : List Item), i = .int .i64 k ∧ k ≤ ls.length ∧ k ≤ 8 ∧ Hid (OnceM w0 base g bm K S (12 * k) L L O va vo wr) ∧ Hid (OnceP K S k L O)) (fun _ _ i _ => ls.length - (intOf i).toNat)
  case atStart => exact ⟨0, [], [], rfl, by omega, by omega, M0, P0⟩
  case round =>
    obtain ⟨k, L, O, rfl, hk, hk8, HM, HPL⟩ := hrel
    clear M0 P0
    by_cases hin : k < ls.length ∧ k < 8
    · obtain ⟨hlt, h8⟩ := hin
      · have hkv : k < vs.length := by omega
        have hEk := hide (HE.out k hlt hkv)
        have hFk := hide (cutEs_fine (HF.out ls[k] (List.getElem_mem hlt)))
        have hne : vs ≠ [] := fun e => by rw [e] at hkv; simp at hkv
        obtain ⟨b, off, rfl, hcs⟩ := HB.out hne
        have hck := hcs k vs[k] (List.getElem?_eq_getElem hkv)
        have hx := hide (fun w' (o : Old w w') => o.cell hck)
        obtain ⟨l, hlE⟩ : ∃ l, l = cutEs ls[k] := ⟨_, rfl⟩
        have hlen : l.length ≤ 12 := by rw [hlE]; exact cutEs_len _
        rw [← hlE] at hFk
        have CU := hide (fun w' (o : Old w w') => cut_run vs[k] ls[k] w' (hEk.out.old o))
        rw [← hlE] at CU
        have c1 := hx.out _ (O0.out.trans HM.out.old)
        obtain ⟨n, hn⟩ : ∃ n, appErr K S (gAdd gZero L) l = n := ⟨_, rfl⟩
        have HN := hide hn
        have hor := appErr_or K S (gAdd gZero L) l
        rw [hn] at hor
        have HL := hide (show L.length + l.length ≤ 2097152 ∧ O.length + 24 ≤ 2097152 from by have h1 := HPL.out.nl; have h2 := HPL.out.fo.len; omega)
        clear hcs hck hne hEk hlE HB hn
        go_wp2_with fail
        refine (CU.out _ (O0.out.trans HM.out.old)).mono ?_
        rintro e w2 ⟨v2, rfl, i2, o2⟩
        have I2 := hide i2.is
        have M2 := hide (HM.out.step o2)
        obtain ⟨A2, c2, u2, u2', rfl, -⟩ := id i2.is.open_
        clear i2 o2 HM c1
        go_wp2_with fail
        refine (once_apply _ l n M2.out I2.out (by omega) hlen hFk.out HN.out).mono ?_
        rintro e w3 ⟨A3, c3, z, rfl, -, -, i3, d3, f3, m3⟩
        have I3 := hide i3
        have D3 := hide d3
        have F3 := hide f3
        have M3 := hide m3
        have hzl : z.length ≤ 24 := f3.len
        clear i3 d3 f3 m3 M2 I2
        by_cases h0 : n = 0
        · subst h0
          have hNG : nextG L l 0 = L ++ l := by simp [nextG]
          rw [hNG] at D3 M3
          have P3 := hide (HPL.out.next hFk.out hlen HN.out D3.out F3.out)
          have c1 := hx.out _ (O0.out.trans M3.out.old)
          clear hNG HN hor D3 F3
          go_wp2_with fail
          refine (CU.out _ (O0.out.trans M3.out.old)).mono ?_
          rintro e w4 ⟨v4, rfl, i4, o4⟩
          have I4 := hide (i4.mono (Nat.le_trans M3.out.bw (Nat.le_refl _)))
          have M4 := hide (M3.out.step o4)
          have J4 := hide (I3.out.old o4)
          clear i4 o4 M3 I3 c1
          go_wp2_with (at_builtin; refine wpList_plain rfl (fun KK hKK => ?_); first | (refine push_ents_at w4 _ _ rfl base _ L rfl M4.out.ea _ l rfl I4.out HL.out.1 M4.out.bw ?_; intro v5 w5 e5 k5 g5 t5; refine hKK _ _ ?_; clear hKK) | (refine push_items_at w5 _ _ rfl base _ O rfl (M4.out.push_all e5 k5 g5 t5).eo _ z rfl (itemsT_kept J4.out k5) (by have := HL.out.2; omega) (M4.out.push_all e5 k5 g5 t5).bw ?_; intro v6 w6 e6 k6 g6 t6; refine hKK _ _ ?_; clear hKK))
          have M6 := hide ((M4.out.push_all e5 k5 g5 t5).push_outs e6 k6 g6 t6)
          have M7 := hide (M6.out.mono (n := 12 * (k + 1)) (by omega))
          clear e5 k5 g5 t5 e6 k6 g6 t6 M4 I4 J4 M6
          go_roundw
          case rel => exact ⟨k + 1, L ++ l, O ++ z, by go_num, by omega, by omega, M7, P3⟩
          case measure => simp [intOf]; omega
        · have hNG : nextG L l n = L := by simp [nextG, h0]
          rw [hNG] at M3
          have M7 := hide (M3.out.mono (n := 12 * (k + 1)) (by omega))
          have P3 := hide HPL.out.skip
          rcases hor with rfl | rfl | rfl
          · exact absurd rfl h0
          all_goals
            clear hNG HN h0 D3 F3 I3 M3
            go_wp2_with fail
            go_roundw
            case rel => exact ⟨k + 1, L, O, by go_num, by omega, by omega, M7, P3⟩
            case measure => simp [intOf]; omega
    · have hcase : ls.length ≤ k ∨ (k < ls.length ∧ 8 ≤ k) := by omega
      obtain ⟨N, hN⟩ : ∃ N, L.length = N := ⟨_, rfl⟩
      have HR := hide (HM.out.ea.readN hN)
      have hN96 : N ≤ 96 := by have := HPL.out.nl; omega
      have HNN := hide hN
      have BR := hide (fun w' => show Calls Tryz.prog 22 #[.int .i64 t, .int .i64 ((N : Int) + 1)] w' fun e w2 => (∃ m : Nat, m ≤ N ∧ e = .returned (.int .i64 m)) ∧ w' = w2 from (bring_run t (N + 1) w' (by omega) (by omega)).mono fun e w2 ⟨⟨m, h1, h2⟩, h3⟩ => ⟨⟨m, by omega, h2⟩, h3⟩)
      have HOI := hide HM.out.eo.t.is
      obtain ⟨Ao, co, uo, rfl, -⟩ := id HOI.out.open_
      clear hin hN HB HE HF
      rcases hcase with h | ⟨h, h'⟩
      all_goals
        rcases HR.out with ⟨rfl, hn0⟩ | ⟨q, cap, rfl, hNcap, hmax, hpre, hpost⟩
        case' inl =>
          subst hn0
          have NIL := hide (List.eq_nil_of_length_eq_zero HNN.out)
          clear HR
          go_wp2_with fail
          refine (BR.out _).mono ?_
          rintro e w9 ⟨⟨m, hm, rfl⟩, rfl⟩
          obtain rfl : m = 0 := by omega
          clear BR hm
          go_wp2_with fail
          go_cut [14] (fun rv wz => ∃ m : Nat, Hid (EntsIs wz rv (L.drop m ++ L.take m)) ∧ Hid (Old wr wz))
          case first =>
            have L1 := hide (show ([] : List Ent).length + (L.drop 0).length ≤ 2097152 by rw [NIL.out]; simp)
            have L2 := hide (show ([] ++ L.drop 0 : List Ent).length + (L.take 0).length ≤ 2097152 by rw [NIL.out]; simp)
            have N1 := hide (show L.drop 0 = [] by rw [NIL.out]; rfl)
            have N2 := hide (show L.take 0 = [] by rw [NIL.out]; rfl)
            go_region_held3 (fun w' => Old wr w')
              (first | (exact o11) | (exact o10) | (exact Old.drew (Old.refl wr)) | (exact Old.drew (Old.alloc (Old.refl wr) _)) | (exact Old.alloc (by assumption) _) | (exact Old.trans (by assumption) (by assumption)))
              (first
                | (refine step_push_entsM wr _ _ _ rfl _ [] rfl (MixE.old (mixE_start (Old.refl wr)) (Old.drew (Old.refl _))) _ (L.drop 0) rfl (ents_none N1.out (by first | rfl | (simp; done) | omega) (by first | (simp; done) | omega)) (Old.drew (Old.alloc (Old.refl wr) _)) L1.out ?_; intro v10 w10 x10 o10)
                | (refine step_push_entsM wr _ _ _ rfl _ ([] ++ L.drop 0) rfl x10 _ (L.take 0) rfl (ents_none N2.out (by first | rfl | (simp; done) | omega) (by first | (simp; done) | omega)) o10 L2.out ?_; intro v11 w11 x11 o11)
                | (fail "none"))
            go_wp2_with fail
            go_meet
            exact ⟨0, hide (by simpa using x11.is o11), hide o11⟩
        case' inr =>
          have HPRE := hide hpre
          have HPOST := hide hpost
          unfold maxLen at hmax
          clear hpre hpost HR
          go_wp2_with fail
          refine (BR.out _).mono ?_
          rintro e w9 ⟨⟨m, hm, rfl⟩, rfl⟩
          clear BR
          go_wp2_with fail
          go_cut [14] (fun rv wz => ∃ m : Nat, Hid (EntsIs wz rv (L.drop m ++ L.take m)) ∧ Hid (Old wr wz))
          case first =>
            have hkcap : m ≤ cap := by omega
            have hkI : (m : Int) ≤ (cap : Int) := by omega
            have hk0 : (0 : Int) ≤ (m : Int) := by omega
            have L1 := hide (show ([] : List Ent).length + (L.drop m).length ≤ 2097152 by have := HNN.out; simp; omega)
            have L2 := hide (show ([] ++ L.drop m : List Ent).length + (L.take m).length ≤ 2097152 by have := HNN.out; simp; omega)
            have PRE := hide (HPRE.out m (by omega))
            by_cases hkc : m < cap
            · go_region_held3 (fun w' => Old wr w')
                (first | (exact o11) | (exact o10) | (exact Old.drew (Old.refl wr)) | (exact Old.drew (Old.alloc (Old.refl wr) _)) | (exact Old.alloc (by assumption) _) | (exact Old.trans (by assumption) (by assumption)))
                (first
                  | (refine step_push_entsM wr _ _ _ rfl _ [] rfl (MixE.old (mixE_start (Old.refl wr)) (Old.drew (Old.refl _))) _ (L.drop m) rfl (HPOST.out m (by omega) _ (by intro h; first | (simp; done) | (simp; omega) | (split <;> simp <;> omega))) (Old.drew (Old.alloc (Old.refl wr) _)) L1.out ?_; intro v10 w10 x10 o10)
                  | (refine step_push_entsM wr _ _ _ rfl _ ([] ++ L.drop m) rfl x10 _ (L.take m) rfl PRE.out o10 L2.out ?_; intro v11 w11 x11 o11)
                  | (fail "none"))
              go_wp2_with fail
              go_meet
              exact ⟨m, hide (by simpa using x11.is o11), hide o11⟩
            · obtain rfl : m = N := by omega
              obtain rfl : m = cap := by omega
              clear hm hNcap hkc hkcap hkI
              have NIL := hide (show L.drop m = [] from List.drop_of_length_le (by rw [HNN.out]; omega))
              go_region_held3 (fun w' => Old wr w')
                (first | (exact o11) | (exact o10) | (exact Old.drew (Old.refl wr)) | (exact Old.drew (Old.alloc (Old.refl wr) _)) | (exact Old.alloc (by assumption) _) | (exact Old.trans (by assumption) (by assumption)))
                (first
                  | (refine step_push_entsM wr _ _ _ rfl _ [] rfl (MixE.old (mixE_start (Old.refl wr)) (Old.drew (Old.refl _))) _ (L.drop m) rfl (ents_none NIL.out (by first | (simp; done) | omega) (by omega)) (Old.drew (Old.alloc (Old.refl wr) _)) L1.out ?_; intro v10 w10 x10 o10)
                  | (refine step_push_entsM wr _ _ _ rfl _ ([] ++ L.drop m) rfl x10 _ (L.take m) rfl PRE.out o10 L2.out ?_; intro v11 w11 x11 o11)
                  | (fail "none"))
              go_wp2_with fail
              go_meet
              exact ⟨m, hide (by simpa using x11.is o11), hide o11⟩
        all_goals
          obtain ⟨m', HRD, HO6⟩ := hcut
          have HOI6 := hide (HOI.out.old HO6.out)
          have M6 := hide (HM.out.step HO6.out)
          have x0 := fun w' (h : Old wc w') => X0.out w' (M6.out.old.trans h)
          have x1 := fun w' (h : Old wc w') => X1.out w' (M6.out.old.trans h)
          clear HO6 HOI HM
          go_wp2_with fail
          go_region_held3 (fun w' => Old wc w')
            (first | (exact Old.trans (by assumption) oj) | (exact Old.trans (by assumption) oh) | (exact Old.drew (Old.refl _)) | assumption)
            (first
              | (go_at_call 21; have hmark := oh; (with_reducible refine (CM.out _).mono ?_); rintro e w12 ⟨j, bj, rfl, hj1, hj2, hj3, oj⟩)
              | (go_at_call 21; (with_reducible refine (CM.out _).mono ?_); rintro e w11 ⟨h9, bh, rfl, hh1, hh2, hh3, oh⟩)
              | (fail "none"))
          have O12 : Old wc w12 := by assumption
          obtain ⟨B, gB, -, -⟩ := M6.out.is
          have hlow := gB.low
          have q1 : wc.heap.size ≤ bh := hh2
          have q2 : bm < wc.heap.size := gB.lt
          have q3 : bh < w11.heap.size := hh3.lt
          have q4 : bj < w12.heap.size := hj3.lt
          have nBh : ¬ B bh := fun e => by have := hlow _ e; omega
          have nBj : ¬ B bj := fun e => by have h1 := hlow _ e; omega
          have hne1 : bm ≠ bh := by omega
          have hne2 : bj ≠ bh := by omega
          have hne3 : bm ≠ bj := by omega
          have SH := hide ((LSt.made (HP.out.old O0.out) (M6.out.old.trans (Old.drew (Old.refl _))) hK hS hh1 hh2 hh3 oh).step oj)
          have SJ := hide (LSt.made (HP.out.old O0.out) (M6.out.old.trans ((Old.drew (Old.refl _)).trans oh)) hK hS hj1 hj2 hj3 oj)
          have SG := hide (M6.out.lst.step O12)
          have GG := hide (gB.old O12)
          have GH := hide (hh3.old oj)
          have GJ := hide hj3
          have IA := hide ((M6.out.step O12).ea.t.is)
          have IR := hide (HRD.out.old O12)
          have IOH := hide (HOI6.out.old O12)
          have FIT := SG.out.fit
          have EA := hide (all_err FIT HPL.out.may)
          have ER := hide (turn_err m' FIT HPL.out.may)
          have FA := hide HPL.out.fine
          have FR := hide (turn_fine m' HPL.out.fine)
          have FO := hide HPL.out.fo
          have CH := hide (chain_norm HPL.out.chain)
          have hLlen : L.length ≤ 96 := by rw [HNN.out]; exact hN96
          have hRlen : (L.drop m' ++ L.take m').length ≤ 1000 := by simp; omega
          clear hlow q1 q2 q3 hh1 hh2 hh3 hj1 hj2 hj3 oj hmark oh gB O12 FIT M6 HRD HOI6 HPL x0 x1 HNN
          go_wp2_with fail
          refine (away_apply _ L 0 bj SH.out GH.out (fun e => e) q4 IA.out (by omega) (by omega) FA.out EA.out.1).mono ?_
          rintro e w13 ⟨⟨A13, c13, z1, rfl, -, -, i13, d13, -, s13, t13⟩, B', gh13, nb13⟩
          rw [EA.out.2] at d13 s13 gh13
          have GG13 := hide (t13.gis GG.out hne1 nBh)
          have SG13 := hide (SG.out.re s13.old GG13.out)
          have GJ13 := hide (t13.gis GJ.out hne2 (fun e => e))
          have SJ13 := hide (SJ.out.re s13.old GJ13.out)
          have GH13 := hide gh13
          have SH13 := hide s13
          have IR13 := hide (t13.ents IR.out)
          have IO13 := hide (t13.items IOH.out)
          have I13 := hide i13
          have D13 := hide d13
          clear i13 d13 s13 t13 gh13 GG SG GJ SJ GH SH IR IOH IA EA FA
          go_wp2_with fail
          refine (lst_apply _ (L.drop m' ++ L.take m') 0 SJ13.out IR13.out (by omega) hRlen FR.out ER.out.1).mono ?_
          rintro e w14 ⟨A14, c14, z2, rfl, -, -, i14, d14, -, s14, t14⟩
          rw [ER.out.2] at d14 s14
          have SG14 := hide (SG13.out.re s14.old (t14.gis GG13.out hne3 nBj))
          have SH14 := hide (SH13.out.re s14.old (t14.gis GH13.out (Ne.symm hne2) nb13))
          have SJ14 := hide (s14.mono (n := 2000) (by omega))
          have IO14 := hide (t14.items IO13.out)
          have I14 := hide (t14.items I13.out)
          have J14 := hide i14
          have HZ2 := hide (D13.out.unique d14)
          clear i14 d14 s14 t14 SG13 GG13 SH13 GH13 GJ13 SJ13 IR13 IO13 I13 ER FR
          go_wp2_with fail
          have CN := hide (zset_Norm _ O w14 IO14.out (by have := FO.out.len; omega) FO.out.short FO.out.fits)
          rw [CH.out.1] at CN
          refine CN.out.mono ?_
          rintro e w15 ⟨v15, rfl, i15, o15⟩
          obtain ⟨A15, c15, u15, rfl, -⟩ := id i15.is.open_
          have I15 := hide (I14.out.old o15)
          have J15 := hide (J14.out.old o15)
          have N15 := hide i15.is
          have SG15 := hide (SG14.out.step o15)
          have SH15 := hide (SH14.out.step o15)
          have SJ15 := hide (SJ14.out.step o15)
          clear i15 o15 CN IO14 I14 J14 SG14 SH14 SJ14 FO
          go_wp2_with fail
          refine (same_true _ _ z1 z2 _ I15.out J15.out HZ2.out).mono ?_
          rintro e w16 ⟨rfl, o16⟩
          have I16 := hide (I15.out.old o16)
          have N16 := hide (N15.out.old o16)
          have SG16 := hide (SG15.out.step o16)
          have SH16 := hide (SH15.out.step o16)
          have SJ16 := hide (SJ15.out.step o16)
          clear o16 I15 N15 SG15 SH15 SJ15
          go_wp2_with fail
          refine (same_true _ _ z1 _ _ I16.out N16.out (D13.out.unique CH.out.2)).mono ?_
          rintro e w17 ⟨rfl, o17⟩
          have I17 := hide (I16.out.old o17)
          have SG17 := hide (SG16.out.step o17)
          have SH17 := hide (SH16.out.step o17)
          have SJ17 := hide (SJ16.out.step o17)
          clear o17 I16 SG16 SH16 SJ16
          go_wp2_with fail
          refine (lst_rows SG17.out (by omega)).mono ?_
          rintro e w18 ⟨A18, c18, y18, rfl, -, -, i18, r18, -, o18⟩
          have P18 := hide i18
          have PR := hide r18
          have I18 := hide (I17.out.old o18)
          have SG18 := hide (SG17.out.step o18)
          have SH18 := hide (SH17.out.step o18)
          have SJ18 := hide (SJ17.out.step o18)
          clear i18 r18 o18 I17 SG17 SH17 SJ17
          go_wp2_with fail
          refine (same_true _ _ z1 y18 _ I18.out P18.out (D13.out.unique PR.out.delta)).mono ?_
          rintro e w19 ⟨rfl, o19⟩
          have SG19 := hide (SG18.out.step o19)
          have SH19 := hide (SH18.out.step o19)
          have SJ19 := hide (SJ18.out.step o19)
          clear o19 SG18 SH18 SJ18
          go_wp2_with fail
          refine (lst_rows SH19.out (by omega)).mono ?_
          rintro e w20 ⟨A20, c20, y20, rfl, -, -, i20, r20, -, o20⟩
          have Q20 := hide i20
          have QR := hide r20
          have SG20 := hide (SG19.out.step o20)
          have SH20 := hide (SH19.out.step o20)
          have SJ20 := hide (SJ19.out.step o20)
          clear i20 r20 o20 SG19 SH19 SJ19
          go_wp2_with fail
          refine (lst_rows SJ20.out (by omega)).mono ?_
          rintro e w21 ⟨A21, c21, y21, rfl, -, -, i21, r21, -, o21⟩
          have V21 := hide i21
          have VR := hide r21
          have SG21 := hide (SG20.out.step o21)
          have SH21 := hide (SH20.out.step o21)
          have SJ21 := hide (SJ20.out.step o21)
          have Q21 := hide (Q20.out.old o21)
          clear i21 r21 o21 SG20 SH20 SJ20 Q20
          go_wp2_with fail
          refine (same_true _ _ y20 y21 _ Q21.out V21.out (QR.out.unique VR.out)).mono ?_
          rintro e w22 ⟨rfl, o22⟩
          have SG22 := hide (SG21.out.step o22)
          have SH22 := hide (SH21.out.step o22)
          have SJ22 := hide (SJ21.out.step o22)
          clear o22 SG21 SH21 SJ21
          go_wp2_with fail
          refine (lst_rows SH22.out (by omega)).mono ?_
          rintro e w23 ⟨A23, c23, y23, rfl, -, -, i23, r23, -, o23⟩
          have X23 := hide i23
          have XR := hide r23
          have SG23 := hide (SG22.out.step o23)
          have SH23 := hide (SH22.out.step o23)
          have SJ23 := hide (SJ22.out.step o23)
          clear i23 r23 o23 SG22 SH22 SJ22
          go_wp2_with fail
          refine (lst_rows SG23.out (by omega)).mono ?_
          rintro e w24 ⟨A24, c24, y24, rfl, -, -, i24, r24, -, o24⟩
          have Y24 := hide i24
          have YR := hide r24
          have SG24 := hide (SG23.out.step o24)
          have X24 := hide (X23.out.old o24)
          clear i24 r24 o24 SG23 X23
          go_wp2_with fail
          refine (same_true _ _ y23 y24 _ X24.out Y24.out (XR.out.unique YR.out)).mono ?_
          rintro e w25 ⟨rfl, o25⟩
          have OE := hide (O0.out.trans (SG24.out.old.trans o25))
          clear o25
          go_wp2_with fail
          go_ret
          exact ⟨rfl, OE.out⟩
end Go.Proofs.YtmfbblcipakaiaaGreatDoor
