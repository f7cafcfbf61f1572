/- The walks of package wide: sums of 192 bits. -/
import Derived.Test.YtmfbblcipakaiaaGreatDoorProg
import Derived.Test.YtmfbblcipakaiaaGreatDoorLeaf
namespace Go.Proofs.YtmfbblcipakaiaaGreatDoor
open Go.RowKit

/-- the lowest 64 bits, and what is above them -/
def s64 (z : Int) : Int := z % 18446744073709551616
def c64 (z : Int) : Int := z / 18446744073709551616
/-- the three parts of a number of 192 bits -/
def wA (s : Int) : Int := s64 s
def wB (s : Int) : Int := s64 (c64 s)
def wC (s : Int) : Int := s64 (c64 (c64 s))
@[reducible] def wide (s : Int) : Value := .agg #[.int .u64 (wA s), .int .u64 (wB s), .int .u64 (wC s)]

theorem s64_bd (z : Int) : 0 ≤ s64 z ∧ s64 z < 18446744073709551616 := by unfold s64; omega
theorem s64_small {z : Int} (h0 : 0 ≤ z) (h1 : z < 18446744073709551616) : s64 z = z := by unfold s64; omega
theorem c64_small {z : Int} (h0 : 0 ≤ z) (h1 : z < 18446744073709551616) : c64 z = 0 := by unfold c64; omega
theorem c64_two {x y c : Int} (h0 : 0 ≤ x) (h1 : x < 18446744073709551616) (h2 : 0 ≤ y) (h3 : y < 18446744073709551616) (h4 : 0 ≤ c) (h5 : c ≤ 1) : 0 ≤ c64 (x + y + c) ∧ c64 (x + y + c) ≤ 1 := by unfold c64; omega
theorem add64_run (x y c : Int) (hx : 0 ≤ x) (hy : 0 ≤ y) (h0 : 0 ≤ c) (h1 : c ≤ 1) (w : World) :
    (callFunc 95 #[.int .u64 x, .int .u64 y, .int .u64 c]).run Tryz.prog w = .ok (.value (.tuple #[.int .u64 (s64 (x + y + c)), .int .u64 (c64 (x + y + c))])) w := by
  rw [run_callFunc_extern Tryz.func95 (by kernel_rfl) (by kernel_rfl) (by kernel_rfl) (e := add64Entry) (by kernel_rfl), run_add64 x y c hx hy h0 h1]
  rfl

def sumA (xA yA : Int) : Int := s64 (xA + yA + 0)
def sumB (xA xB yA yB : Int) : Int := s64 (xB + yB + c64 (xA + yA + 0))
def sumC (xA xB xC yA yB yC : Int) : Int := s64 (xC + yC + c64 (xB + yB + c64 (xA + yA + 0)))
theorem wide_sum_lemma (s t : Int) : sumA (wA s) (wA t) = wA (s + t) ∧ sumB (wA s) (wB s) (wA t) (wB t) = wB (s + t) ∧ sumC (wA s) (wB s) (wC s) (wA t) (wB t) (wC t) = wC (s + t) := by
  unfold sumA sumB sumC wA wB wC s64 c64
  refine ⟨?_, ?_, ?_⟩ <;> omega

theorem sign_eq (n : Int) (h1 : -9223372036854775808 ≤ n) (h2 : n < 9223372036854775808) : IntKind.u64.wrap (n / 9223372036854775808) = s64 (c64 n) := by
  unfold s64 c64
  simp only [IntKind.wrap, IntKind.bits, IntKind.signed]
  simp
  omega
theorem sign_run (n : Int) (w : World) (h : -9223372036854775808 ≤ n ∧ n < 9223372036854775808) : Calls Tryz.prog 75 #[.int .i64 n] w fun e w' => e = .returned (.int .u64 (s64 (c64 n))) ∧ w = w' := by
  go_enter Tryz.func75, Tryz.ntmps75
  go_wp2
  go_ret
  refine ⟨?_, rfl⟩
  show Ending.returned (Value.int IntKind.u64 (IntKind.u64.wrap (n / 9223372036854775808))) = _
  rw [sign_eq n h.1 h.2]

set_option maxRecDepth 100000 in
set_option maxHeartbeats 800000 in
theorem sum_two (g cap : Nat) (xA xB xC yA yB yC : Int) (w : World)
    (b0 : w.cell? ⟨g, 0, none⟩ = some (.int .u64 xA)) (b1 : w.cell? ⟨g, 1, none⟩ = some (.int .u64 xB)) (b2 : w.cell? ⟨g, 2, none⟩ = some (.int .u64 xC))
    (b3 : w.cell? ⟨g, 3, none⟩ = some (.int .u64 yA)) (b4 : w.cell? ⟨g, 4, none⟩ = some (.int .u64 yB)) (b5 : w.cell? ⟨g, 5, none⟩ = some (.int .u64 yC))
    (e1 : ∀ w, (callFunc 95 #[.int .u64 0, .int .u64 xA, .int .u64 0]).run Tryz.prog w = .ok (.value (.tuple #[.int .u64 xA, .int .u64 0])) w)
    (e2 : ∀ w, (callFunc 95 #[.int .u64 0, .int .u64 xB, .int .u64 0]).run Tryz.prog w = .ok (.value (.tuple #[.int .u64 xB, .int .u64 0])) w)
    (e3 : ∀ w, (callFunc 95 #[.int .u64 0, .int .u64 xC, .int .u64 0]).run Tryz.prog w = .ok (.value (.tuple #[.int .u64 xC, .int .u64 0])) w)
    (sA sB sC k1 k2 k3 : Int)
    (e4 : ∀ w, (callFunc 95 #[.int .u64 xA, .int .u64 yA, .int .u64 0]).run Tryz.prog w = .ok (.value (.tuple #[.int .u64 sA, .int .u64 k1])) w)
    (e5 : ∀ w, (callFunc 95 #[.int .u64 xB, .int .u64 yB, .int .u64 k1]).run Tryz.prog w = .ok (.value (.tuple #[.int .u64 sB, .int .u64 k2])) w)
    (e6 : ∀ w, (callFunc 95 #[.int .u64 xC, .int .u64 yC, .int .u64 k2]).run Tryz.prog w = .ok (.value (.tuple #[.int .u64 sC, .int .u64 k3])) w) :
    Calls Tryz.prog 74 #[.slice (some ⟨g, 0, none⟩) 2 cap] w fun e w' => e = .returned (.agg #[.int .u64 sA, .int .u64 sB, .int .u64 sC]) ∧ Grew w w' := by
  have hg : g < w.heap.size := World.block_lt_of_cell? w _ b0
  go_enter Tryz.func74, Tryz.ntmps74
  go_wp2
  refine wp_loop_rounds 3 ?_
  rw [rounds_succ]
  go_wp2
  rw [rounds_succ]
  go_wp2
  rw [rounds_succ]
  go_wp2
  refine bodyPost_ret (v := .agg #[.int .u64 sA, .int .u64 sB, .int .u64 sC]) (by simp [results, Tryz.results74, go_sem]) rfl ⟨rfl, ?_⟩
  clear e1 e2 e3 e4 e5 e6 b0 b1 b2 b3 b4 b5
  repeat' first | exact Grew.refl _ | refine Grew.setCell ?_ (by simp) _ | refine Grew.alloc ?_ _ | (simp; omega)

/-- wide.sum of two -/
theorem wide_sum (g cap : Nat) (s t : Int) (w : World)
    (b0 : w.cell? ⟨g, 0, none⟩ = some (.int .u64 (wA s))) (b1 : w.cell? ⟨g, 1, none⟩ = some (.int .u64 (wB s))) (b2 : w.cell? ⟨g, 2, none⟩ = some (.int .u64 (wC s)))
    (b3 : w.cell? ⟨g, 3, none⟩ = some (.int .u64 (wA t))) (b4 : w.cell? ⟨g, 4, none⟩ = some (.int .u64 (wB t))) (b5 : w.cell? ⟨g, 5, none⟩ = some (.int .u64 (wC t))) :
    Calls Tryz.prog 74 #[.slice (some ⟨g, 0, none⟩) 2 cap] w fun e w' => e = .returned (wide (s + t)) ∧ Grew w w' := by
  have hA := s64_bd s
  have hB := s64_bd (c64 s)
  have hC := s64_bd (c64 (c64 s))
  have tA := s64_bd t
  have tB := s64_bd (c64 t)
  have tC := s64_bd (c64 (c64 t))
  have one : ∀ z, 0 ≤ z → z < 18446744073709551616 → ∀ w, (callFunc 95 #[.int .u64 0, .int .u64 z, .int .u64 0]).run Tryz.prog w = .ok (.value (.tuple #[.int .u64 z, .int .u64 0])) w := by
    intro z h0 h1 w
    rw [add64_run 0 z 0 (by omega) h0 (by omega) (by omega), show 0 + z + 0 = z from by omega, s64_small h0 h1, c64_small h0 h1]
  obtain ⟨l1, l2, l3⟩ := wide_sum_lemma s t
  have c1 := c64_two hA.1 hA.2 tA.1 tA.2 (c := 0) (by omega) (by omega)
  have c2 := c64_two hB.1 hB.2 tB.1 tB.2 c1.1 c1.2
  have h := sum_two g cap (wA s) (wB s) (wC s) (wA t) (wB t) (wC t) w b0 b1 b2 b3 b4 b5 (one _ hA.1 hA.2) (one _ hB.1 hB.2) (one _ hC.1 hC.2) _ _ _ _ _ _
    (fun w => add64_run (wA s) (wA t) 0 hA.1 tA.1 (by omega) (by omega) w) (fun w => add64_run (wB s) (wB t) _ hB.1 tB.1 c1.1 c1.2 w) (fun w => add64_run (wC s) (wC t) _ hC.1 tC.1 c2.1 c2.2 w)
  refine h.mono fun e w' ⟨he, hg⟩ => ⟨?_, hg⟩
  rw [he, wide, ← l1, ← l2, ← l3]
  rfl

theorem of_eq (n : Int) (h1 : -9223372036854775808 ≤ n) (h2 : n < 9223372036854775808) : IntKind.u64.wrap n = wA n ∧ s64 (c64 n) = wC n := by
  unfold wA wC s64 c64
  simp only [IntKind.wrap, IntKind.bits, IntKind.signed]
  simp
  omega
set_option maxRecDepth 100000 in
theorem wide_Of (n : Int) (w : World) (h : -9223372036854775808 ≤ n ∧ n < 9223372036854775808) : Calls Tryz.prog 54 #[.int .i64 n] w fun e w' => e = .returned (wide n) ∧ Grew w w' := by
  have e1 := (of_eq n h.1 h.2).1
  have e2 := (of_eq n h.1 h.2).2
  have H := h
  go_enter Tryz.func54, Tryz.ntmps54
  go_wp2_with (go_at_call 75; refine (sign_run _ _ ⟨by omega, by omega⟩).mono ?_; rintro e w' ⟨rfl, rfl⟩)
  refine bodyPost_ret (v := .agg #[.int .u64 (wA n), .int .u64 (wC n), .int .u64 (wC n)]) (by simp [results, Tryz.results54, go_sem]) rfl ⟨?_, (Grew.refl w).alloc _⟩
  rw [wide, show wB n = wC n from e2]
set_option maxRecDepth 100000 in
theorem wide_Add (s t : Int) (w : World) : Calls Tryz.prog 53 #[wide s, wide t] w fun e w' => e = .returned (wide (s + t)) ∧ Grew w w' := by
  go_enter Tryz.func53, Tryz.ntmps53
  go_wp2_with fail
  refine (wide_sum _ _ s t _ (by go_simp) (by go_simp) (by go_simp) (by go_simp) (by go_simp) (by go_simp)).mono ?_
  rintro e w1 ⟨rfl, hg⟩
  have hG : Grew w w1 := ((((Grew.refl w).alloc _).alloc _).alloc _ |>.alloc _).trans hg
  have hcell : ∀ j, j < 3 → w1.cell? ⟨w.heap.size + 1 + 1, j, none⟩ = some (.int .u64 0) ∧ w1.frozen? ⟨w.heap.size + 1 + 1, j, none⟩ = false := by
    intro j hj
    have : j = 0 ∨ j = 1 ∨ j = 2 := by omega
    rcases this with rfl | rfl | rfl <;> exact ⟨hg.cell (by go_simp), Old.frozen hg.old (v := .int .u64 0) (by go_simp) (by go_simp)⟩
  obtain ⟨h0, f0⟩ := hcell 0 (by omega)
  obtain ⟨h1, f1⟩ := hcell 1 (by omega)
  obtain ⟨h2, f2⟩ := hcell 2 (by omega)
  have hsz : w.heap.size + 1 + 1 < w1.heap.size := World.block_lt_of_cell? w1 _ h0
  clear hcell hg
  go_wp2
  refine bodyPost_ret (v := wide (s + t)) (by simp [results, Tryz.results53, go_sem, h0, h1, h2]) rfl ⟨rfl, ?_⟩
  exact ((hG.setCell (by simp; omega) _).setCell (by simp; omega) _).setCell (by simp; omega) _

theorem wideGuard : Tryz.prog.eqGuardType Tryz.prog.depth 84 = false := by kernel_rfl
theorem wideStood : Tryz.prog.stoodInHeld 84 = false := by kernel_rfl
theorem wideFields : Tryz.prog.underlying 84 = some (.struct (Tryz.prog.fieldsOf 84)) := by kernel_rfl
def ne3 (a b c a' b' c' : Int) : Bool := !(decide (a = a' ∧ b = b' ∧ c = c'))
theorem neq_wide (a b c a' b' c' : Int) (w : World) : (binOp .neq 84 (.agg #[.int .u64 a, .int .u64 b, .int .u64 c]) (.agg #[.int .u64 a', .int .u64 b', .int .u64 c'])).run Tryz.prog w = .ok (.bool (ne3 a b c a' b' c')) w := by
  unfold ne3
  rw [run_neq_struct, run_equalIn_agg _ _ _ _ _ wideFields wideStood]
  simp only [Program.fieldsOf, Tryz.underlying84]
  simp [go_sem]
  split <;> (try split) <;> (try split) <;> simp_all
theorem i64_of_wA (s : Int) (h1 : -9223372036854775808 ≤ s) (h2 : s < 9223372036854775808) : IntKind.i64.wrap (wA s) = s := by
  unfold wA s64
  simp only [IntKind.wrap, IntKind.bits, IntKind.signed]
  simp
  omega
theorem i64_bd (z : Int) : -9223372036854775808 ≤ IntKind.i64.wrap z ∧ IntKind.i64.wrap z < 9223372036854775808 := by
  simp only [IntKind.wrap, IntKind.bits, IntKind.signed]
  simp
  omega
theorem wide_inj {s t : Int} (hs : -3138550867693340381917894711603833208051177722232017256448 ≤ s ∧ s < 3138550867693340381917894711603833208051177722232017256448) (ht : -9223372036854775808 ≤ t ∧ t < 9223372036854775808) (hA : wA t = wA s) (hB : wB t = wB s) (hC : wC t = wC s) : s = t := by
  unfold wA wB wC s64 c64 at *
  omega
/-- what wide.Int answers -/
def fits (s : Int) : Bool := decide (-9223372036854775808 ≤ s) && decide (s < 9223372036854775808)
def intOr (s : Int) : Int := if fits s then s else 0
def intErr (s : Int) : Int := if fits s then 0 else 50
set_option maxRecDepth 100000 in
theorem wide_Int (s : Int) (w : World) (hs : -3138550867693340381917894711603833208051177722232017256448 ≤ s ∧ s < 3138550867693340381917894711603833208051177722232017256448) :
    Calls Tryz.prog 36 #[wide s] w fun e w' => e = .returned (.tuple #[.int .i64 (intOr s), .int .i64 (intErr s)]) ∧ Grew w w' := by
  have hG := wideGuard
  have hN := neq_wide
  obtain ⟨m, hm⟩ : ∃ m, m = IntKind.i64.wrap (wA s) := ⟨_, rfl⟩
  have hb := i64_bd (wA s)
  rw [← hm] at hb
  have key : ne3 (wA m) (wB m) (wC m) (wA s) (wB s) (wC s) = !fits s := by
    unfold ne3
    congr 1
    by_cases hf : fits s = true
    · have hf' := hf
      simp only [fits, Bool.and_eq_true, decide_eq_true_eq] at hf'
      rw [i64_of_wA s hf'.1 hf'.2] at hm
      subst hm
      simp [hf]
    · have hn : ¬ (wA m = wA s ∧ wB m = wB s ∧ wC m = wC s) := fun ⟨a, b, c⟩ => hf (by
        have := wide_inj hs ⟨hb.1, hb.2⟩ a b c
        subst this
        simp [fits, hb.1, hb.2])
      simp only [hn, decide_false]
      simpa using hf
  have hval : fits s = true → m = s := fun hf => by
    simp only [fits, Bool.and_eq_true, decide_eq_true_eq] at hf
    rw [hm, i64_of_wA s hf.1 hf.2]
  have hm' := hm.symm
  have HV := Lib.hid hval
  have HK := Lib.hid key
  clear hm hs hval key
  go_enter Tryz.func36, Tryz.ntmps36
  go_wp2_with fail
  have x0 : ∀ p : LaterG (w.alloc (.cells #[.int .u64 (wA s), .int .u64 (wB s), .int .u64 (wC s)] 84)), p.world.cell? ⟨w.heap.size, 0, none⟩ = some (.int .u64 (wA s)) := fun p => p.grew.cell (by go_simp)
  have x1 : ∀ p : LaterG (w.alloc (.cells #[.int .u64 (wA s), .int .u64 (wB s), .int .u64 (wC s)] 84)), p.world.cell? ⟨w.heap.size, 1, none⟩ = some (.int .u64 (wB s)) := fun p => p.grew.cell (by go_simp)
  have x2 : ∀ p : LaterG (w.alloc (.cells #[.int .u64 (wA s), .int .u64 (wB s), .int .u64 (wC s)] 84)), p.world.cell? ⟨w.heap.size, 2, none⟩ = some (.int .u64 (wC s)) := fun p => p.grew.cell (by go_simp)
  refine region_laterG (by kernel_rfl) (by kernel_rfl) ?_
  repeat (quiet_step ((go_at_call 54; exact LaterG.call (wide_Of m _ ⟨by omega, by omega⟩))))
  refine wpQuiet_nil ?_
  rintro wq ⟨⟨_, hwq⟩, rfl⟩
  clear x0 x1 x2
  rw [HK.out]
  have hgrew : Grew w wq := ((Grew.refl w).alloc _).trans hwq
  cases hf : fits s
  · go_wp2
    go_ret2
    refine ⟨?_, hgrew⟩
    simp [intOr, intErr, hf]
  · have hms : m = s := HV.out hf
    subst hms
    go_wp2
    go_ret2
    refine ⟨?_, hgrew⟩
    simp [intOr, intErr, hf]
end Go.Proofs.YtmfbblcipakaiaaGreatDoor

