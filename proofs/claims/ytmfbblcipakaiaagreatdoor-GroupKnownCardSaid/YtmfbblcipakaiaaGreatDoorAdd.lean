/- The walks of slices.Grow and slices.Concat of items, and of zset.Add. -/
import Derived.Test.YtmfbblcipakaiaaGreatDoorNorm
import Derived.Lib.AppendZerosOnto
namespace Go.Proofs.YtmfbblcipakaiaaGreatDoor
open Go.RowKit

/-- items in a row of the call's own, their rows where they were in w0 -/
def Mix (w0 w : World) (v : Value) (l : List Item) : Prop :=
  ∃ vs : List Value, vs.length = l.length ∧ w.ownsRow w0.heap.size 60 2 v l.length (itemVals vs l) ∧ ∀ i, (h : i < l.length) → (h' : i < vs.length) → RowIs w0 vs[i] l[i].row
theorem Mix.old {w0 w w' : World} {v : Value} {l : List Item} (h : Mix w0 w v l) (ho : Old w w') : Mix w0 w' v l := by
  obtain ⟨vs, h1, h2, h3⟩ := h
  exact ⟨vs, h1, own_old h2 ho, h3⟩
theorem Mix.is {w0 w : World} {v : Value} {l : List Item} (h : Mix w0 w v l) (ho : Old w0 w) : ItemsIs w v l := by
  obtain ⟨vs, h1, h2, h3⟩ := h
  exact ⟨vs, h1, (SlT.of_own h2).sl, fun i hi hi' => (h3 i hi hi').old ho⟩
theorem Mix.nil_ (w0 w : World) : Mix w0 w (.slice none 0 0) [] := ⟨[], rfl, World.ownsRow_nil w _ _ 2, fun i hi => absurd hi (by simp)⟩
theorem itemVals_cell : ∀ (vs : List Value) (l : List Item), (∀ v ∈ vs, v.oneCell' = true) → ∀ u ∈ itemVals vs l, u.oneCell' = true
  | [], l, _, u, hu => by simp [itemVals] at hu
  | _ :: _, [], _, u, hu => by simp [itemVals] at hu
  | v :: vs, x :: l, h, u, hu => by
    simp only [itemVals, List.mem_cons] at hu
    rcases hu with rfl | rfl | hu
    · exact h _ (by simp)
    · rfl
    · exact itemVals_cell vs l (fun v hv => h v (by simp [hv])) u hu
theorem step_push_items {o : Oper} {a : Act} {K : Act → World → Prop} {Q : Exit → Act → World → Prop} (w0 w : World) (s x : Operand)
    (ho : o.op = .call { callee := .builtin .append, args := #[s, x], argTypes := #[33, 33] })
    (v : Value) (l : List Item) (hs : a.eval s = v) (hown : Mix w0 w v l) (xv : Value) (m : List Item) (hev : a.eval x = xv) (hx : ItemsIs w0 xv m) (hold : Old w0 w) (hlen : l.length + m.length ≤ 4194304)
    (h : ∀ v' w', Mix w0 w' v' (l ++ m) → Old w0 w' → K (a.put o.dst v') w') : o.wp Tryz.prog a w K Q := by
  obtain ⟨i0, hi, hz0, hz1, hz2⟩ := info_parts itemInfo
  obtain ⟨vs, e1, e2, e3⟩ := hown
  obtain ⟨us, g1, g2, g3⟩ := hx
  refine wp_append_sl w s x 33 ho w0.heap.size 60 i0 _ 2 32 Tryz.underlying33 hi hz0 hz1 hz2 rfl (by omega) v l.length (itemVals vs l) hs e2
    xv m.length (itemVals us m) hev (g2.old hold) (itemVals_length us m g1) (itemVals_cell us m (fun v hv => ?_)) (by unfold maxLen; omega) (by omega) hold.size ?_
  · obtain ⟨i, hi, rfl⟩ := List.getElem_of_mem hv
    obtain ⟨A, c, hh, _⟩ := g3 i (by omega) hi
    rw [hh]
    rfl
  · intro v' w' own' hg
    refine h v' w' ⟨vs ++ us, by simp [e1, g1], ?_, ?_⟩ ((Kept.of_grown e2 hg hold.size).old hold (Nat.le_refl _))
    · rw [itemVals_append vs l _ _ e1, List.length_append]
      exact own'
    · intro i hi hi'
      rcases Nat.lt_or_ge i l.length with hlt | hge
      · have : i < vs.length := by omega
        rw [List.getElem_append_left this]
        simp only [List.getElem_append_left hlt]
        exact e3 i hlt this
      · rw [List.getElem_append_right (by omega)]
        simp only [List.getElem_append_right hge, e1]
        exact g3 _ (by simp at hi; omega) (by simp at hi'; omega)

set_option maxRecDepth 100000 in
set_option maxHeartbeats 1000000 in
theorem grow_items (n : Nat) (w : World) (hn : n ≤ 2097152) :
    Calls Tryz.prog 79 #[.slice none 0 0, .int .i64 n] w fun e w' => ∃ v, e = .returned v ∧ w'.ownsRow w.heap.size 60 2 v 0 [] ∧ Old w w' := by
  obtain ⟨i0, hi, hz0, hz1, hz2⟩ := info_parts itemInfo
  by_cases h0 : n = 0
  · subst h0
    go_enter Tryz.func79, Tryz.ntmps79
    go_wp2_with fail
    go_ret
    exact ⟨_, rfl, World.ownsRow_nil _ _ _ _, Old.refl _⟩
  · have hG := grownCap_ge w n 0 60
    have hG2 := grownCap_le_maxLen w n 0 60 (by unfold maxLen; omega)
    have hr : ∀ ty, (Builtin.append_ #[33, 3] ty #[.slice none 0 0, .int .i64 n]).run Tryz.prog w = _ := fun ty =>
      Lib.run_append_grow_zeros w 33 3 ty 60 i0 _ .i64 .i64 Tryz.underlying33 Tryz.underlying3 hi hz0 none 0 0 [] (run_firstCells_none w.drew i0.size 0 0 0) n (by omega) (by rw [hz1]; omega) (by omega) (by omega) (by rw [hz2]; omega) (growslice_fits (by omega) (by rw [hz2]; omega))
    rw [Nat.zero_add] at hr
    obtain ⟨G, hGG⟩ : ∃ G, G = grownCap w n 0 60 := ⟨_, rfl⟩
    rw [← hGG] at hr hG hG2
    have hp : (n : Int) > 0 := by omega
    unfold maxLen at hG2
    clear hGG
    go_enter Tryz.func79, Tryz.ntmps79
    go_wp2_with (at_builtin; refine Lib.wpList_append_run _ rfl _ _ _ _ rfl _ _ rfl rfl _ _ (hr _) ?_)
    go_ret
    refine ⟨_, rfl, ⟨by simp, .inr ⟨_, _, _, rfl, Nat.le_refl _, Array.getElem?_push_size, by omega, by unfold maxLen; omega, ?_, by simp⟩⟩, ((Old.refl w).drew.alloc _)⟩
    simp [size_zeroCells]
    omega

set_option maxRecDepth 100000 in
set_option maxHeartbeats 1000000 in
theorem concat_items (q cap : Nat) (va vb : Value) (a b : List Item) (w : World) (ha : ItemsIs w va a) (hb : ItemsIs w vb b) (x0 : w.cell? ⟨q, 0, none⟩ = some va) (x1 : w.cell? ⟨q, 1, none⟩ = some vb)
    (hn : a.length + b.length ≤ 1048576) :
    Calls Tryz.prog 60 #[.slice (some ⟨q, 0, none⟩) 2 cap] w fun e w' => ∃ v, e = .returned v ∧ ItemsIs w' v (a ++ b) ∧ Old w w' := by
  have HA := hide ha
  have HB := hide hb
  obtain ⟨A, ca, _, rfl, hla, hma, _⟩ := ha.open_
  obtain ⟨B, cb, _, rfl, hlb, hmb, _⟩ := hb.open_
  unfold maxLen at hma hmb
  have GI := hide (show ∀ w, Calls Tryz.prog 79 #[.slice none 0 0, .int .i64 ((a.length : Int) + b.length)] w fun e w' => ∃ v, e = .returned v ∧ w'.ownsRow w.heap.size 60 2 v 0 [] ∧ Old w w' from fun w => by
    have := grow_items (a.length + b.length) w (by omega)
    rwa [Int.natCast_add] at this)
  have X0 := hide x0
  have X1 := hide x1
  clear ha hb
  go_enter Tryz.func60, Tryz.ntmps60
  go_wp2_with fail
  refine wp_loop_rounds 3 ?_
  rw [rounds_succ]
  go_wp2_with fail
  rw [rounds_succ]
  go_wp2_with fail
  rw [rounds_succ]
  go_wp2_with fail
  refine (GI.out _).mono ?_
  rintro e w2 ⟨v, rfl, hown, h2⟩
  have y0 := h2.cell x0
  have y1 := h2.cell x1
  have M0 := hide (show Mix w w2 v [] from ⟨[], rfl, hown, fun i hi => absurd hi (by simp)⟩)
  have O2 := hide h2
  clear x0 x1 hown h2
  go_wp2_with fail
  refine wp_loop_rounds 3 ?_
  rw [rounds_succ]
  go_wp2_with (at_builtin; refine wpList_plain rfl (fun K hK => ?_); refine step_push_items w _ _ _ rfl _ [] rfl M0.out _ a rfl HA.out O2.out (by simp; omega) ?_; intro v3 w3 M3 O3; refine hK _ _ ?_; clear hK)
  rw [rounds_succ]
  clear y0 y1
  have y1 := O3.cell X1.out
  have M3' := hide M3
  have O3' := hide O3
  clear M3 O3
  go_wp2_with (at_builtin; refine wpList_plain rfl (fun K hK => ?_); refine step_push_items w _ _ _ rfl _ _ rfl M3'.out _ b rfl HB.out O3'.out (by simp; omega) ?_; intro v4 w4 M4 O4; refine hK _ _ ?_; clear hK)
  rw [rounds_succ]
  go_wp2_with fail
  go_ret
  exact ⟨_, rfl, by simpa using M4.is O4, O4⟩

/-- items that are few, with short rows and weights of 64 bits -/
structure Fine (n : Nat) (l : List Item) : Prop where
  len : l.length ≤ n
  short : Short l
  fits : ∀ x ∈ l, fit x.w
theorem Fine.append {n m : Nat} {a b : List Item} (ha : Fine n a) (hb : Fine m b) : Fine (n + m) (a ++ b) where
  len := by rw [List.length_append]; exact Nat.add_le_add ha.len hb.len
  short := fun i hi => by
    rcases Nat.lt_or_ge i a.length with h | h
    · rw [List.getElem_append_left h]; exact ha.short i h
    · rw [List.getElem_append_right h]; exact hb.short _ (by simp at hi; omega)
  fits := fun x hx => by
    rcases List.mem_append.1 hx with h | h
    · exact ha.fits x h
    · exact hb.fits x h
theorem Fine.mono {n m : Nat} {a : List Item} (h : Fine n a) (hnm : n ≤ m) : Fine m a := ⟨Nat.le_trans h.len hnm, h.short, h.fits⟩
theorem NewItems2.of_old {w0 w : World} {l : List Item} {n : Int} {e : Ending} {w' : World} (ho : Old w0 w) (h : NewItems2 w l n e w') : NewItems2 w0 l n e w' := by
  obtain ⟨v, h1, h2, h3⟩ := h
  exact ⟨v, h1, h2.mono ho.size, Old.trans ho h3⟩

set_option maxRecDepth 100000 in
set_option maxHeartbeats 1000000 in
theorem zset_Add (va vb : Value) (a b : List Item) (w : World) (ha : ItemsIs w va a) (hb : ItemsIs w vb b) (fa : Fine 262144 a) (fb : Fine 262144 b) :
    Calls Tryz.prog 26 #[va, vb] w (NewItems2 w (addOut a b) (addErr a b)) := by
  have HA := hide ha
  have HB := hide hb
  have FF := hide (fa.append fb)
  have la := fa.len
  have lb := fb.len
  have C1 := hide (show ∀ w', Old w w' → Calls Tryz.prog 27 #[va] w' fun e w2 => e = .returned (.int .i64 (chk a)) ∧ Old w w2 from fun w' h => (zset_Check _ _ _ (HA.out.old h)).mono fun _ _ q => ⟨q.1, Old.trans h q.2⟩)
  have C2 := hide (show ∀ w', Old w w' → Calls Tryz.prog 27 #[vb] w' fun e w2 => e = .returned (.int .i64 (chk b)) ∧ Old w w2 from fun w' h => (zset_Check _ _ _ (HB.out.old h)).mono fun _ _ q => ⟨q.1, Old.trans h q.2⟩)
  obtain ⟨A, ca, _, rfl, hla, hma, _⟩ := ha.open_
  obtain ⟨B, cb, _, rfl, hlb, hmb, _⟩ := hb.open_
  have hN := chk_or a
  have hM := chk_or b
  by_cases h : chk a = 0 ∧ chk b = 0
  · obtain ⟨e1, e2⟩ := h
    have E := hide (show addErr a b = normErr (a ++ b) ∧ addOut a b = normOut (a ++ b) from addErr_ok (chk_zero.1 e1) (chk_zero.1 e2))
    rw [e1] at C1
    rw [e2] at C2
    clear e1 e2 hN hM ha hb fa fb
    go_enter Tryz.func26, Tryz.ntmps26
    go_wp2_with fail
    refine (C1.out _ (Old.refl _)).mono ?_
    rintro e w1 ⟨rfl, h1⟩
    go_wp2_with fail
    refine (C2.out _ h1).mono ?_
    rintro e w2 ⟨rfl, h2⟩
    go_wp2_with fail
    have C3 := concat_items w2.heap.size 2 _ _ a b (w2.alloc (.cells #[.slice A a.length ca, .slice B b.length cb] 33)) (HA.out.old (h2.alloc _)) (HB.out.old (h2.alloc _)) (by go_simp) (by go_simp) (by omega)
    refine C3.mono ?_
    clear C3
    rintro e w3 ⟨v, rfl, h3, h4⟩
    have HI := hide h3
    have HO := hide (Old.trans (h2.alloc _) h4)
    clear h3 h4
    go_wp2_with fail
    refine (zset_Norm v (a ++ b) w3 HI.out (Nat.le_trans FF.out.len (by omega)) FF.out.short FF.out.fits).mono ?_
    rintro e w4 ⟨v4, rfl, h5, h6⟩
    go_wp2_with fail
    go_ret2
    exact ⟨_, ret_pair E.out.1, by rw [E.out.2]; exact h5.mono HO.out.size, Old.trans HO.out h6⟩
  · have E := hide (show addErr a b = 2 ∧ addOut a b = [] from addErr_bad h)
    by_cases e1 : chk a = 0
    · have e2 : chk b = 2 := by omega
      rw [e1] at C1
      rw [e2] at C2
      clear e1 e2 hN hM h ha hb fa fb
      go_enter Tryz.func26, Tryz.ntmps26
      go_wp2_with fail
      refine (C1.out _ (Old.refl _)).mono ?_
      rintro e w1 ⟨rfl, h1⟩
      go_wp2_with fail
      refine (C2.out _ h1).mono ?_
      rintro e w2 ⟨rfl, h2⟩
      go_wp2_with fail
      go_ret2
      exact ⟨_, ret_pair E.out.1, by rw [E.out.2]; exact ⟨[], rfl, SlT.nil_ _, fun i h => absurd h (by simp)⟩, h2⟩
    · have e2 : chk a = 2 := by omega
      rw [e2] at C1
      clear e1 e2 hN hM h ha hb fa fb C2
      go_enter Tryz.func26, Tryz.ntmps26
      go_wp2_with fail
      refine (C1.out _ (Old.refl _)).mono ?_
      rintro e w1 ⟨rfl, h1⟩
      go_wp2_with fail
      go_ret2
      exact ⟨_, ret_pair E.out.1, by rw [E.out.2]; exact ⟨[], rfl, SlT.nil_ _, fun i h => absurd h (by simp)⟩, h1⟩
end Go.Proofs.YtmfbblcipakaiaaGreatDoor

