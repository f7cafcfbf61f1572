/- The document's sums of products. -/
import Derived.Test.YtmfbblcipakaiaaGreatDoorRefa
namespace Go.Proofs.YtmfbblcipakaiaaGreatDoor
open Go.RowKit

def pairValsG (ws : List (Int × Int)) : List Value := ws.flatMap fun x => [.int .i64 x.1, .int .i64 x.2]
theorem pairG_get (ws : List (Int × Int)) (i : Nat) (hi : i < ws.length) : (pairValsG ws)[i * 2]? = some (.int .i64 ws[i].1) ∧ (pairValsG ws)[i * 2 + 1]? = some (.int .i64 ws[i].2) := by
  induction ws generalizing i with
  | nil => simp at hi
  | cons x ws ih =>
    cases i with
    | zero => simp [pairValsG]
    | succ i =>
      have := ih i (by simpa using hi)
      have e1 : (i + 1) * 2 = i * 2 + 1 + 1 := by omega
      rw [e1]
      simp only [pairValsG, List.flatMap_cons, List.cons_append, List.nil_append, List.getElem?_cons_succ, List.getElem_cons_succ] at *
      exact this
theorem pairG_append (a b : List (Int × Int)) : pairValsG (a ++ b) = pairValsG a ++ pairValsG b := by simp [pairValsG]
theorem pairG_length (ws : List (Int × Int)) : (pairValsG ws).length = ws.length * 2 := by
  induction ws with
  | nil => rfl
  | cons x ws ih => simp [pairValsG] at *; omega
def dotG (ws : List (Int × Int)) : Int := (ws.map fun x => x.1 * x.2).sum
def dotTo (ws : List (Int × Int)) (k : Nat) : Int := dotG (ws.take k)
theorem dotTo_next {ws : List (Int × Int)} {k : Nat} (h : k < ws.length) : dotTo ws (k + 1) = dotTo ws k + ws[k].1 * ws[k].2 := by
  unfold dotTo dotG
  rw [List.take_succ_eq_append_getElem h, List.map_append, List.sum_append]
  simp
theorem mulG_bd {x y : Int} (hx : fit x) (hy : fit y) : -(85070591730234615865843651857942052864 : Int) ≤ x * y ∧ x * y ≤ 85070591730234615865843651857942052864 := by
  have h : (x * y).natAbs ≤ 9223372036854775808 * 9223372036854775808 := by
    rw [Int.natAbs_mul]
    obtain ⟨h1, h2⟩ := hx
    obtain ⟨h3, h4⟩ := hy
    exact Nat.mul_le_mul (by omega) (by omega)
  omega
theorem dot_bd {ws : List (Int × Int)} (h : ∀ x ∈ ws, fit x.1 ∧ fit x.2) : -(ws.length * 85070591730234615865843651857942052864 : Int) ≤ dotG ws ∧ dotG ws ≤ ws.length * 85070591730234615865843651857942052864 := by
  induction ws with
  | nil => simp [dotG]
  | cons x ws ih =>
    obtain ⟨h1, h2⟩ := ih (fun y hy => h y (by simp [hy]))
    obtain ⟨h3, h4⟩ := h x (by simp)
    have h5 := mulG_bd h3 h4
    unfold dotG at *
    simp only [List.map_cons, List.sum_cons, List.length_cons]
    omega
theorem dot_mid {ws : List (Int × Int)} (hn : ws.length ≤ 1048576) (h : ∀ x ∈ ws, fit x.1 ∧ fit x.2) : mid (dotG ws) := by
  have := dot_bd h
  unfold mid
  omega

set_option maxRecDepth 100000 in
set_option maxHeartbeats 1000000 in
theorem ref_DotG (v : Value) (ws : List (Int × Int)) (w : World) (hv : Sl w v ws.length (pairValsG ws)) (hn : ws.length ≤ 1048576) (hf : ∀ x ∈ ws, fit x.1 ∧ fit x.2) :
    Calls Tryz.prog 68 #[v] w fun e w' => e = .returned (.tuple #[.int .i64 (intOr (dotG ws)), .int .i64 (intErr (dotG ws))]) ∧ Old w w' := by
  obtain ⟨A, ca, rfl, hla, hma, hc⟩ := hv
  unfold maxLen at hma
  have HC := hide hc
  have HF := hide hf
  have CI := hide (fun w => six_Int (dotG ws) w (dot_mid hn hf))
  clear hc hf
  go_enter Tryz.func68, Tryz.ntmps68
  go_wp2_with fail
  go_loopw [5] (fun i wr => ∃ k : Nat, i = .int .i64 k ∧ k ≤ ws.length ∧ Hid (DotSt w (dotTo ws k) wr)) (fun i _ => ws.length - (intOf i).toNat)
  case atStart => exact ⟨0, rfl, by omega, hide ⟨(Old.refl w).alloc _, by rw [first_zero]; exact heap_new _ _ _ rfl⟩⟩
  case round =>
    obtain ⟨k, rfl, hk, HD⟩ := hrel
    by_cases hlt : k < ws.length
    · obtain ⟨g1, g2⟩ := pairG_get ws k hlt
      obtain ⟨b1, o1, rfl, hcell⟩ := HC.out (by intro e; rw [e] at g1; simp at g1)
      have x0 : ∀ p : Later wr, p.world.cell? ⟨b1, o1 + k * 2, none⟩ = some (.int .i64 ws[k].1) := fun p => (Old.trans HD.out.old p.old).cell (hcell _ _ g1)
      have x1 : ∀ p : Later wr, p.world.cell? ⟨b1, o1 + k * 2 + 1, none⟩ = some (.int .i64 ws[k].2) := fun p => by rw [Nat.add_assoc]; exact (Old.trans HD.out.old p.old).cell (hcell _ _ g2)
      obtain ⟨S, hS⟩ : ∃ S, Hid (dotTo ws k = S) := ⟨dotTo ws k, hide rfl⟩
      obtain ⟨T, hT⟩ : ∃ T, Hid (dotTo ws (k + 1) = T) := ⟨dotTo ws (k + 1), hide rfl⟩
      obtain ⟨x, hx⟩ : ∃ x, Hid (ws[k].1 = x) := ⟨ws[k].1, hide rfl⟩
      obtain ⟨y, hy⟩ : ∃ y, Hid (ws[k].2 = y) := ⟨ws[k].2, hide rfl⟩
      obtain ⟨z, hz⟩ : ∃ z, Hid (x * y = z) := ⟨x * y, hide rfl⟩
      have hfx : fit x := by rw [← hx.out]; exact (HF.out _ (List.getElem_mem hlt)).1
      have hfy : fit y := by rw [← hy.out]; exact (HF.out _ (List.getElem_mem hlt)).2
      have CM := hide (show ∀ p : Later wr, Calls Tryz.prog 88 #[.int .i64 x, .int .i64 y] p.world fun e w' => e = .returned (six z) ∧ Old p.world w' from fun p => by
        have := six_Mul x y p.world hfx hfy
        rw [hz.out] at this
        exact this)
      have CA := hide (show ∀ p : Later wr, Calls Tryz.prog 87 #[six S, six z] p.world fun e w' => e = .returned (six T) ∧ Old p.world w' from fun p => by
        have := six_Add S z p.world
        rw [show S + z = T by rw [← hS.out, ← hz.out, ← hx.out, ← hy.out, ← dotTo_next hlt, hT.out]] at this
        exact this)
      have hb1 : b1 < wr.heap.size := World.block_lt_of_cell? wr _ (x0 ⟨wr, Old.refl wr⟩)
      rw [hx.out] at x0
      rw [hy.out] at x1
      rw [hS.out] at HD
      have s0 : ∀ p : Later wr, p.world.cell? ⟨w.heap.size, 0, none⟩ = some (.int .u64 (dg S 0)) := fun p => six_cell (p.old.heap HD.out.box) (by omega)
      have s1 : ∀ p : Later wr, p.world.cell? ⟨w.heap.size, 1, none⟩ = some (.int .u64 (dg S 1)) := fun p => six_cell (p.old.heap HD.out.box) (by omega)
      have s2 : ∀ p : Later wr, p.world.cell? ⟨w.heap.size, 2, none⟩ = some (.int .u64 (dg S 2)) := fun p => six_cell (p.old.heap HD.out.box) (by omega)
      have s3 : ∀ p : Later wr, p.world.cell? ⟨w.heap.size, 3, none⟩ = some (.int .u64 (dg S 3)) := fun p => six_cell (p.old.heap HD.out.box) (by omega)
      have s4 : ∀ p : Later wr, p.world.cell? ⟨w.heap.size, 4, none⟩ = some (.int .u64 (dg S 4)) := fun p => six_cell (p.old.heap HD.out.box) (by omega)
      have s5 : ∀ p : Later wr, p.world.cell? ⟨w.heap.size, 5, none⟩ = some (.int .u64 (dg S 5)) := fun p => six_cell (p.old.heap HD.out.box) (by omega)
      clear g1 g2 hcell hfx hfy
      go_wp2_with fail
      refine region_later_tail 13 (by kernel_rfl) (by kernel_rfl) ?_
      simp only [List.take_succ_cons, List.take_zero, List.drop_succ_cons, List.drop_zero]
      repeat (go_big_quiet_step (first | (go_at_call 88; exact Later.call (CM.out _)) | (go_at_call 87; exact Later.call (CA.out _))))
      refine wpQuiet_nil ?_
      rintro wz ⟨⟨_, hwz⟩, rfl⟩
      clear x0 x1 s0 s1 s2 s3 s4 s5
      have MZ := hide (HD.out.late hwz)
      have o0 := six_cell MZ.out.box (k := 0) (by omega)
      have o1 := six_cell MZ.out.box (k := 1) (by omega)
      have o2 := six_cell MZ.out.box (k := 2) (by omega)
      have o3 := six_cell MZ.out.box (k := 3) (by omega)
      have o4 := six_cell MZ.out.box (k := 4) (by omega)
      have o5 := six_cell MZ.out.box (k := 5) (by omega)
      have fo := six_free MZ.out.box
      go_wp2_with fail
      go_roundw
      case rel => exact ⟨k + 1, by go_num, by omega, hide (by rw [hT.out]; exact MZ.out.step T)⟩
      case measure => simp [intOf]; omega
    · have hkn : k = ws.length := by omega
      have e : dotTo ws k = dotG ws := by unfold dotTo; rw [hkn, List.take_length]
      rw [e] at HD
      obtain ⟨S, hS⟩ : ∃ S, Hid (dotG ws = S) := ⟨dotG ws, hide rfl⟩
      rw [hS.out] at HD CI
      have o0 := six_cell HD.out.box (k := 0) (by omega)
      have o1 := six_cell HD.out.box (k := 1) (by omega)
      have o2 := six_cell HD.out.box (k := 2) (by omega)
      have o3 := six_cell HD.out.box (k := 3) (by omega)
      have o4 := six_cell HD.out.box (k := 4) (by omega)
      have o5 := six_cell HD.out.box (k := 5) (by omega)
      clear e
      go_wp2_with fail
      refine (CI.out _).mono ?_
      rintro e w2 ⟨rfl, h2⟩
      go_wp2_with fail
      go_ret2
      exact ⟨ret_two (by rw [hS.out]) (by rw [hS.out]), Old.trans HD.out.old h2⟩
end Go.Proofs.YtmfbblcipakaiaaGreatDoor
