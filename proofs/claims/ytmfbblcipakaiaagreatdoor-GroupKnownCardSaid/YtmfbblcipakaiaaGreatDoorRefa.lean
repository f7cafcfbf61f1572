/- The document's sums of products, and the weight of a row. -/
import Derived.Test.YtmfbblcipakaiaaGreatDoorSixc
namespace Go.Proofs.YtmfbblcipakaiaaGreatDoor
open Go.RowKit

def pairVals (ws : List Int) : List Value := ws.flatMap fun x => [.int .i64 x, .int .i64 1]
theorem pairVals_get (ws : List Int) (i : Nat) (hi : i < ws.length) : (pairVals ws)[i * 2]? = some (.int .i64 ws[i]) ∧ (pairVals ws)[i * 2 + 1]? = some (.int .i64 1) := by
  induction ws generalizing i with
  | nil => simp at hi
  | cons x ws ih =>
    cases i with
    | zero => simp [pairVals]
    | succ i =>
      have := ih i (by simpa using hi)
      have e1 : (i + 1) * 2 = i * 2 + 1 + 1 := by omega
      rw [e1]
      simp only [pairVals, List.flatMap_cons, List.cons_append, List.nil_append, List.getElem?_cons_succ, List.getElem_cons_succ] at *
      exact this
theorem pairVals_append (a b : List Int) : pairVals (a ++ b) = pairVals a ++ pairVals b := by simp [pairVals]
theorem pairVals_length (ws : List Int) : (pairVals ws).length = ws.length * 2 := by
  induction ws with
  | nil => rfl
  | cons x ws ih => simp [pairVals] at *; omega
def sumTo (ws : List Int) (k : Nat) : Int := (ws.take k).sum
theorem sumTo_next {ws : List Int} {k : Nat} (h : k < ws.length) : sumTo ws (k + 1) = sumTo ws k + ws[k] := by
  unfold sumTo
  rw [List.take_succ_eq_append_getElem h, List.sum_append]
  simp
theorem sum_bd {ws : List Int} (h : ∀ x ∈ ws, fit x) : -(ws.length * 9223372036854775808 : Int) ≤ ws.sum ∧ ws.sum ≤ ws.length * 9223372036854775808 := by
  induction ws with
  | nil => simp
  | cons x ws ih =>
    obtain ⟨h1, h2⟩ := ih (fun y hy => h y (by simp [hy]))
    obtain ⟨h3, h4⟩ := h x (by simp)
    simp only [List.sum_cons, List.length_cons]
    omega

structure DotSt (w : World) (S : Int) (wr : World) : Prop where
  old : Old w wr
  box : wr.heap[w.heap.size]? = some (.cells (firstD S 6) 148 (0, 0))
theorem DotSt.late {w wr w' : World} {S : Int} (h : DotSt w S wr) (ho : Old wr w') : DotSt w S w' := ⟨Old.trans h.old ho, ho.heap h.box⟩
theorem DotSt.step {w wr : World} {S : Int} (h : DotSt w S wr) (t : Int) : DotSt w t
    ((((((wr.setCell ⟨w.heap.size, 0, none⟩ (.int .u64 (dg t 0))).setCell ⟨w.heap.size, 1, none⟩ (.int .u64 (dg t 1))).setCell ⟨w.heap.size, 2, none⟩ (.int .u64 (dg t 2))).setCell ⟨w.heap.size, 3, none⟩ (.int .u64 (dg t 3))).setCell ⟨w.heap.size, 4, none⟩ (.int .u64 (dg t 4))).setCell ⟨w.heap.size, 5, none⟩ (.int .u64 (dg t 5))) :=
  ⟨old_six h.old (Nat.le_refl _) _ _ _ _ _ _, set_six h.box t⟩

set_option maxRecDepth 100000 in
set_option maxHeartbeats 1000000 in
theorem ref_Dot (v : Value) (ws : List Int) (w : World) (hv : Sl w v ws.length (pairVals ws)) (hn : ws.length ≤ 1048576) (hf : ∀ x ∈ ws, fit x) :
    Calls Tryz.prog 68 #[v] w fun e w' => e = .returned (.tuple #[.int .i64 (intOr ws.sum), .int .i64 (intErr ws.sum)]) ∧ Old w w' := by
  obtain ⟨A, ca, rfl, hla, hma, hc⟩ := hv
  unfold maxLen at hma
  have HC := hide hc
  have HF := hide hf
  have CI := hide (fun w => six_Int ws.sum w (by have := sum_bd hf; unfold mid; omega))
  clear hc hf
  go_enter Tryz.func68, Tryz.ntmps68
  go_wp2_with fail
  go_loopw [5] (fun i wr => ∃ k : Nat, i = .int .i64 k ∧ k ≤ ws.length ∧ Hid (DotSt w (sumTo ws k) wr)) (fun i _ => ws.length - (intOf i).toNat)
  case atStart => exact ⟨0, rfl, by omega, hide ⟨(Old.refl w).alloc _, by rw [first_zero]; exact heap_new _ _ _ rfl⟩⟩
  case round =>
    obtain ⟨k, rfl, hk, HD⟩ := hrel
    by_cases hlt : k < ws.length
    · obtain ⟨g1, g2⟩ := pairVals_get ws k hlt
      obtain ⟨b1, o1, rfl, hcell⟩ := HC.out (by intro e; rw [e] at g1; simp at g1)
      have x0 : ∀ p : Later wr, p.world.cell? ⟨b1, o1 + k * 2, none⟩ = some (.int .i64 ws[k]) := fun p => (Old.trans HD.out.old p.old).cell (hcell _ _ g1)
      have x1 : ∀ p : Later wr, p.world.cell? ⟨b1, o1 + k * 2 + 1, none⟩ = some (.int .i64 1) := fun p => by rw [Nat.add_assoc]; exact (Old.trans HD.out.old p.old).cell (hcell _ _ g2)
      obtain ⟨S, hS⟩ : ∃ S, Hid (sumTo ws k = S) := ⟨sumTo ws k, hide rfl⟩
      obtain ⟨T, hT⟩ : ∃ T, Hid (sumTo ws (k + 1) = T) := ⟨sumTo ws (k + 1), hide rfl⟩
      obtain ⟨x, hx⟩ : ∃ x, Hid (ws[k] = x) := ⟨ws[k], hide rfl⟩
      have hfx : fit x := by rw [← hx.out]; exact HF.out _ (List.getElem_mem hlt)
      have CM := hide (show ∀ p : Later wr, Calls Tryz.prog 88 #[.int .i64 x, .int .i64 1] p.world fun e w' => e = .returned (six x) ∧ Old p.world w' from fun p => by
        have := six_Mul x 1 p.world hfx (by decide)
        rw [Int.mul_one] at this
        exact this)
      have CA := hide (show ∀ p : Later wr, Calls Tryz.prog 87 #[six S, six x] p.world fun e w' => e = .returned (six T) ∧ Old p.world w' from fun p => by
        have := six_Add S x p.world
        rw [← hS.out, ← hx.out, ← sumTo_next hlt, hT.out, hS.out, hx.out] at this
        exact this)
      have hb1 : b1 < wr.heap.size := World.block_lt_of_cell? wr _ (x0 ⟨wr, Old.refl wr⟩)
      rw [hx.out] at x0
      rw [hS.out] at HD
      have s0 : ∀ p : Later wr, p.world.cell? ⟨w.heap.size, 0, none⟩ = some (.int .u64 (dg S 0)) := fun p => six_cell (p.old.heap HD.out.box) (by omega)
      have s1 : ∀ p : Later wr, p.world.cell? ⟨w.heap.size, 1, none⟩ = some (.int .u64 (dg S 1)) := fun p => six_cell (p.old.heap HD.out.box) (by omega)
      have s2 : ∀ p : Later wr, p.world.cell? ⟨w.heap.size, 2, none⟩ = some (.int .u64 (dg S 2)) := fun p => six_cell (p.old.heap HD.out.box) (by omega)
      have s3 : ∀ p : Later wr, p.world.cell? ⟨w.heap.size, 3, none⟩ = some (.int .u64 (dg S 3)) := fun p => six_cell (p.old.heap HD.out.box) (by omega)
      have s4 : ∀ p : Later wr, p.world.cell? ⟨w.heap.size, 4, none⟩ = some (.int .u64 (dg S 4)) := fun p => six_cell (p.old.heap HD.out.box) (by omega)
      have s5 : ∀ p : Later wr, p.world.cell? ⟨w.heap.size, 5, none⟩ = some (.int .u64 (dg S 5)) := fun p => six_cell (p.old.heap HD.out.box) (by omega)
      clear g1 g2 hcell hfx
      go_wp2_with fail
      refine region_later_tail 13 (by kernel_rfl) (by kernel_rfl) ?_
      simp only [List.take_succ_cons, List.take_zero, List.drop_succ_cons, List.drop_zero]
      repeat (go_big_quiet_step (first | (go_at_call 88; exact Later.call (CM.out _)) | (go_at_call 87; exact Later.call (CA.out _))))
      refine wpQuiet_nil ?_
      rintro wz ⟨⟨_, hwz⟩, rfl⟩
      clear x0 x1 s0 s1 s2 s3 s4 s5
      have MZ := hide (HD.out.late hwz)
      have o0 := six_cell MZ.out.box (k := 0) (by omega)
      have o1 := six_cell MZ.out.box (k := 1) (by omega)
      have o2 := six_cell MZ.out.box (k := 2) (by omega)
      have o3 := six_cell MZ.out.box (k := 3) (by omega)
      have o4 := six_cell MZ.out.box (k := 4) (by omega)
      have o5 := six_cell MZ.out.box (k := 5) (by omega)
      have fo := six_free MZ.out.box
      go_wp2_with fail
      go_roundw
      case rel => exact ⟨k + 1, by go_num, by omega, hide (by rw [hT.out]; exact MZ.out.step T)⟩
      case measure => simp [intOf]; omega
    · have hkn : k = ws.length := by omega
      have e : sumTo ws k = ws.sum := by unfold sumTo; rw [hkn, List.take_length]
      rw [e] at HD
      obtain ⟨S, hS⟩ : ∃ S, Hid (ws.sum = S) := ⟨ws.sum, hide rfl⟩
      rw [hS.out] at HD CI
      have o0 := six_cell HD.out.box (k := 0) (by omega)
      have o1 := six_cell HD.out.box (k := 1) (by omega)
      have o2 := six_cell HD.out.box (k := 2) (by omega)
      have o3 := six_cell HD.out.box (k := 3) (by omega)
      have o4 := six_cell HD.out.box (k := 4) (by omega)
      have o5 := six_cell HD.out.box (k := 5) (by omega)
      clear e
      go_wp2_with fail
      refine (CI.out _).mono ?_
      rintro e w2 ⟨rfl, h2⟩
      go_wp2_with fail
      go_ret2
      exact ⟨ret_two (by rw [hS.out]) (by rw [hS.out]), Old.trans HD.out.old h2⟩

theorem pairInfo : (Tryz.prog.info? 120).map (fun i => (i.zero, i.size, i.bytes)) = some (some (.agg #[.int .i64 0, .int .i64 0]), 2, 16) := by kernel_rfl
theorem step_push_pair {o : Oper} {a : Act} {K : Act → World → Prop} {Q : Exit → Act → World → Prop} (w : World) (s x : Operand)
    (ho : o.op = .call { callee := .builtin .append, args := #[s, x], argTypes := #[121, 121] })
    (base : Nat) (v : Value) (ws : List Int) (hs : a.eval s = v) (hown : w.ownsRow base 120 2 v ws.length (pairVals ws))
    (g cap : Nat) (y : Int) (hx : a.eval x = .slice (some ⟨g, 0, none⟩) 1 cap)
    (h0 : w.cell? ⟨g, 0, none⟩ = some (.int .i64 y)) (h1 : w.cell? ⟨g, 1, none⟩ = some (.int .i64 1))
    (hlen : ws.length + 1 ≤ 4194304) (hbase : base ≤ w.heap.size)
    (h : ∀ v' w', w'.ownsRow base 120 2 v' (ws ++ [y]).length (pairVals (ws ++ [y])) → Kept 120 base w w' → K (a.put o.dst v') w') : o.wp Tryz.prog a w K Q := by
  obtain ⟨i0, hi, hz0, hz1, hz2⟩ := info_parts pairInfo
  refine wp_append_own w s x 121 ho base 120 i0 (.agg #[.int .i64 0, .int .i64 0]) 2 16 Tryz.underlying121 hi hz0 hz1 hz2 rfl (by omega) v ws.length (pairVals ws) hs hown
    ⟨g, 0, none⟩ 1 cap [.int .i64 y, .int .i64 1] hx rfl ?_ ?_ (by unfold maxLen; omega) (by omega) hbase ?_
  · intro j u hu
    match j, hu with
    | 0, hu => simp at hu; subst hu; exact h0
    | 1, hu => simp at hu; subst hu; simpa [Addr.add] using h1
    | j + 2, hu => simp at hu
  · intro u hu
    simp at hu
    rcases hu with rfl | rfl <;> rfl
  · intro v' w' own' hg _
    refine h v' w' ?_ (Kept.of_grown hown hg hbase)
    rw [pairVals_append, List.length_append]
    exact own'

def weightsOf (l : List Item) (r : List Cell) : List Int := (l.filter fun x => sameRow x.row r).map (·.w)
theorem weights_sum (l : List Item) (r : List Cell) : (weightsOf l r).sum = wOf l r := by
  induction l with
  | nil => rfl
  | cons x l ih =>
    unfold weightsOf at *
    rw [List.filter_cons]
    by_cases h : x.row = r
    · have : sameRow x.row r = true := by simp [sameRow, h]
      rw [if_pos this, List.map_cons, List.sum_cons, ih, wOf, if_pos h]
    · have : ¬ sameRow x.row r = true := by simp [sameRow, h]
      rw [if_neg this, ih, wOf, if_neg h]
      omega
theorem weights_len (l : List Item) (r : List Cell) : (weightsOf l r).length ≤ l.length := by
  unfold weightsOf
  rw [List.length_map]
  exact List.length_filter_le _ _
theorem weights_fit {l : List Item} (h : ∀ x ∈ l, fit x.w) (r : List Cell) : ∀ x ∈ weightsOf l r, fit x := by
  intro x hx
  obtain ⟨y, hy, rfl⟩ := List.mem_map.1 hx
  exact h y (List.mem_filter.1 hy).1
theorem weights_next {l : List Item} {r : List Cell} {k : Nat} (h : k < l.length) : weightsOf (l.take (k + 1)) r = if sameRow l[k].row r then weightsOf (l.take k) r ++ [l[k].w] else weightsOf (l.take k) r := by
  unfold weightsOf
  rw [List.take_succ_eq_append_getElem h, List.filter_append, List.map_append]
  cases hs : sameRow l[k].row r <;> simp [hs]

set_option maxRecDepth 100000 in
set_option maxHeartbeats 1000000 in
theorem ref_weight (v vr : Value) (l : List Item) (r : List Cell) (w : World) (hl : ItemsIs w v l) (hr : RowIs w vr r) (hn : l.length ≤ 1048576) (hf : ∀ x ∈ l, fit x.w) :
    Calls Tryz.prog 70 #[v, vr] w fun e w' => e = .returned (.tuple #[.int .i64 (intOr (wOf l r)), .int .i64 (intErr (wOf l r))]) ∧ Old w w' := by
  obtain ⟨A, ca, us, rfl, hla, hma, hul, hur, ha⟩ := hl.open_
  unfold maxLen at hma
  have HUR := hide hur
  have HR := hide hr
  have HF := hide hf
  clear hur hr hf
  go_enter Tryz.func70, Tryz.ntmps70
  go_wp2_with fail
  go_loopw [6, 7] (fun o i wr => ∃ k : Nat, i = .int .i64 k ∧ k ≤ l.length ∧ Hid (wr.ownsRow w.heap.size 120 2 o (weightsOf (l.take k) r).length (pairVals (weightsOf (l.take k) r))) ∧ Old w wr) (fun _ i _ => l.length - (intOf i).toNat)
  case atStart => exact ⟨0, rfl, by omega, hide (World.ownsRow_nil _ _ _ _), Old.refl _⟩
  case round =>
    obtain ⟨k, rfl, hk, HOWN, hbl⟩ := hrel
    by_cases hlt : k < l.length
    · have hku : k < us.length := by omega
      obtain ⟨b1, o1, rfl, hc1⟩ := ha.resolve_left (by omega)
      obtain ⟨x0, x1⟩ := hc1 k hlt hku
      have hx0 := hbl.cell x0
      have HC := hide (eqRow us[k] vr l[k].row r wr ((HUR.out k hlt hku).old hbl) (HR.out.old hbl))
      have WN := hide (weights_next (r := r) hlt)
      have hlen := weights_len (l.take k) r
      rw [List.length_take] at hlen
      clear ha hc1 x0
      go_wp2_with fail
      refine HC.out.mono ?_
      rintro e w1 ⟨rfl, h1⟩
      have hx1 := (Old.trans hbl h1).cell x1
      have HB := hide (Old.trans hbl h1)
      have HO1 := hide (own_old HOWN.out h1)
      clear hx0 x1 h1
      cases hs : sameRow l[k].row r
      · have WE := hide (show weightsOf (l.take (k + 1)) r = weightsOf (l.take k) r by rw [WN.out, hs]; rfl)
        clear hs
        go_wp2_with fail
        go_roundw
        case rel => exact ⟨k + 1, by go_num, by omega, hide (by rw [WE.out]; exact HO1.out), HB.out⟩
        case measure => simp [intOf]; omega
      · have WE := hide (show weightsOf (l.take (k + 1)) r = weightsOf (l.take k) r ++ [l[k].w] by rw [WN.out, hs]; rfl)
        clear hs
        go_wp2_with (at_builtin; refine wpList_plain rfl (fun K hK => ?_); refine step_push_pair _ _ _ rfl w.heap.size _ _ rfl (own_old HO1.out ((Old.refl w1).alloc _)) _ _ l[k].w rfl (by go_simp) (by go_simp) (by omega) (HB.out.alloc _).size ?_; intro v' w4 own4 kept4; refine hK _ _ ?_; clear hK)
        have H5 := hide (kept4.old (HB.out.alloc _) (Nat.le_refl _))
        clear kept4
        go_roundw
        case rel => exact ⟨k + 1, by go_num, by omega, hide (by rw [WE.out]; exact own4), H5.out⟩
        case measure => simp [intOf]; omega
    · have hkn : k = l.length := by omega
      have HO1 := HOWN.out
      rw [hkn, List.take_length] at HO1
      have CD := hide (ref_Dot _ (weightsOf l r) wr (SlT.of_own HO1).sl (Nat.le_trans (weights_len l r) hn) (weights_fit HF.out r))
      rw [weights_sum] at CD
      clear HO1
      go_wp2_with fail
      refine CD.out.mono ?_
      rintro e w2 ⟨rfl, h2⟩
      go_wp2_with fail
      go_ret2
      exact ⟨rfl, Old.trans hbl h2⟩
end Go.Proofs.YtmfbblcipakaiaaGreatDoor

