/- The walks of package wide: products, checked sums. -/
import Derived.Test.YtmfbblcipakaiaaGreatDoorWide
import Derived.Test.YtmfbblcipakaiaaGreatDoorMul
namespace Go.Proofs.YtmfbblcipakaiaaGreatDoor
open Go.RowKit

theorem mul64_run (x y : Int) (hx : 0 ≤ x ∧ x < 18446744073709551616) (hy : 0 ≤ y ∧ y < 18446744073709551616) (w : World) :
    Calls Tryz.prog 86 #[.int .u64 x, .int .u64 y] w fun e w' => e = .returned (.tuple #[.int .u64 (c64 (x * y)), .int .u64 (s64 (x * y))]) ∧ w = w' := by
  obtain ⟨X, rfl⟩ := Int.eq_ofNat_of_zero_le hx.1
  obtain ⟨Y, rfl⟩ := Int.eq_ofNat_of_zero_le hy.1
  refine (Tryz.bits_Mul64 X Y (by omega) (by omega) w).mono fun e w' ⟨he, hw⟩ => ⟨?_, hw.symm⟩
  rw [he]
  unfold c64 s64
  simp

theorem and_all (a : Int) (h : 0 ≤ a ∧ a < 18446744073709551616) : bits .and .u64 a 18446744073709551615 = a := by
  rw [u64_and a _ h.1 h.2 (by omega) (by omega)]
  obtain ⟨n, rfl⟩ := Int.eq_ofNat_of_zero_le h.1
  have : (18446744073709551615 : Int).toNat = 2 ^ 64 - 1 := by decide
  rw [this, Nat.and_two_pow_sub_one_eq_mod]
  simp
  omega
theorem and_none (a : Int) (h : 0 ≤ a ∧ a < 18446744073709551616) : bits .and .u64 a 0 = 0 := by
  rw [u64_and a _ h.1 h.2 (by omega) (by omega)]
  simp
theorem and_sign (a b : Int) (h : 0 ≤ a ∧ a < 18446744073709551616) (hb : -9223372036854775808 ≤ b ∧ b < 9223372036854775808) : bits .and .u64 a (s64 (c64 b)) = if b < 0 then a else 0 := by
  split
  · rw [show s64 (c64 b) = 18446744073709551615 from by unfold s64 c64; omega, and_all a h]
  · rw [show s64 (c64 b) = 0 from by unfold s64 c64; omega, and_none a h]
theorem mul_parts (a b : Int) (ha : -9223372036854775808 ≤ a ∧ a < 9223372036854775808) (hb : -9223372036854775808 ≤ b ∧ b < 9223372036854775808) :
    s64 (wA a * wA b) = wA (a * b) ∧ IntKind.u64.wrap (c64 (wA a * wA b) - IntKind.u64.wrap ((if b < 0 then wA a else 0) + (if a < 0 then wA b else 0))) = wB (a * b) := by
  have hw : ∀ z, IntKind.u64.wrap z = z % 18446744073709551616 := fun z => by simp [IntKind.wrap, IntKind.bits, IntKind.signed]
  have e1 : wA a = if a < 0 then a + 18446744073709551616 else a := by unfold wA s64; split <;> omega
  have e2 : wA b = if b < 0 then b + 18446744073709551616 else b := by unfold wA s64; split <;> omega
  rw [hw, hw]
  obtain ⟨p, hp⟩ : ∃ p, p = a * b := ⟨_, rfl⟩
  have m1 : (a + 18446744073709551616) * b = p + 18446744073709551616 * b := by rw [Int.add_mul, hp]
  have m2 : a * (b + 18446744073709551616) = p + 18446744073709551616 * a := by rw [Int.mul_add, hp]; omega
  have m3 : (a + 18446744073709551616) * (b + 18446744073709551616) = p + 18446744073709551616 * b + 18446744073709551616 * a + 18446744073709551616 * 18446744073709551616 := by rw [Int.mul_add, m1]; omega
  rw [← hp]
  unfold wB
  by_cases h1 : a < 0 <;> by_cases h2 : b < 0
  · rw [if_pos h1] at e1; rw [if_pos h2] at e2
    rw [if_pos h2, if_pos h1, e1, e2, m3]; unfold wA s64 c64; omega
  · rw [if_pos h1] at e1; rw [if_neg h2] at e2
    rw [if_neg h2, if_pos h1, e1, e2, m1]; unfold wA s64 c64; omega
  · rw [if_neg h1] at e1; rw [if_pos h2] at e2
    rw [if_pos h2, if_neg h1, e1, e2, m2]; unfold wA s64 c64; omega
  · rw [if_neg h1] at e1; rw [if_neg h2] at e2
    rw [if_neg h2, if_neg h1, e1, e2, ← hp]; unfold wA s64 c64; omega
theorem mul_sign (a b : Int) (ha : -9223372036854775808 ≤ a ∧ a < 9223372036854775808) (hb : -9223372036854775808 ≤ b ∧ b < 9223372036854775808) : s64 (c64 (wrap64 (wB (a * b)))) = wC (a * b) := by
  have h1 : a * b ≤ 85070591730234615865843651857942052864 := by
    rcases Int.le_total 0 a with h | h <;> rcases Int.le_total 0 b with k | k
    · have := Int.mul_le_mul (show a ≤ 9223372036854775808 by omega) (show b ≤ 9223372036854775808 by omega) k (by omega); omega
    · have := Int.mul_nonpos_of_nonneg_of_nonpos h k; omega
    · have := Int.mul_nonpos_of_nonpos_of_nonneg h k; omega
    · have := Int.mul_le_mul (show -a ≤ 9223372036854775808 by omega) (show -b ≤ 9223372036854775808 by omega) (by omega) (by omega); rw [Int.neg_mul_neg] at this; omega
  have h2 : -85070591730234615865843651857942052864 ≤ a * b := by
    rcases Int.le_total 0 a with h | h <;> rcases Int.le_total 0 b with k | k
    · have := Int.mul_nonneg h k; omega
    · have := Int.mul_le_mul (show a ≤ 9223372036854775808 by omega) (show -b ≤ 9223372036854775808 by omega) (by omega) (by omega); rw [Int.mul_neg] at this; omega
    · have := Int.mul_le_mul (show -a ≤ 9223372036854775808 by omega) (show b ≤ 9223372036854775808 by omega) (by omega) (by omega); rw [Int.neg_mul] at this; omega
    · have := Int.mul_nonneg_of_nonpos_of_nonpos h k; omega
  generalize a * b = p at *
  unfold wB wC s64 c64 wrap64
  omega

set_option maxRecDepth 100000 in
theorem wide_Mul (a b : Int) (w : World) (ha : -9223372036854775808 ≤ a ∧ a < 9223372036854775808) (hb : -9223372036854775808 ≤ b ∧ b < 9223372036854775808) :
    Calls Tryz.prog 66 #[.int .i64 a, .int .i64 b] w fun e w' => e = .returned (wide (a * b)) ∧ Grew w w' := by
  have e1 := (of_eq a ha.1 ha.2).1
  have e2 := (of_eq b hb.1 hb.2).1
  have bA := s64_bd a
  have bB := s64_bd b
  obtain ⟨p1, p2⟩ := mul_parts a b ha hb
  rw [← and_sign (wA a) b bA hb, ← and_sign (wA b) a bB ha] at p2
  have p3 := mul_sign a b ha hb
  have p4 : -9223372036854775808 ≤ wrap64 (wB (a * b)) ∧ wrap64 (wB (a * b)) < 9223372036854775808 := by unfold wrap64; omega
  go_enter Tryz.func66, Tryz.ntmps66
  go_wp2_with (first | (go_at_call 75; refine (sign_run _ _ ⟨by omega, by omega⟩).mono ?_; rintro e w' ⟨rfl, rfl⟩) | (go_at_call 86; refine (mul64_run (wA a) (wA b) bA bB _).mono ?_; rintro e w' ⟨rfl, rfl⟩))
  refine bodyPost_ret (v := wide (a * b)) (by simp [results, Tryz.results66, go_sem]) rfl ⟨rfl, (Grew.refl w).alloc _⟩
theorem mul_bd (a b : Int) (ha : -9223372036854775808 ≤ a ∧ a < 9223372036854775808) (hb : -9223372036854775808 ≤ b ∧ b < 9223372036854775808) : -85070591730234615865843651857942052864 ≤ a * b ∧ a * b ≤ 85070591730234615865843651857942052864 := by
  constructor
  · rcases Int.le_total 0 a with h | h <;> rcases Int.le_total 0 b with k | k
    · have := Int.mul_nonneg h k; omega
    · have := Int.mul_le_mul (show a ≤ 9223372036854775808 by omega) (show -b ≤ 9223372036854775808 by omega) (by omega) (by omega); rw [Int.mul_neg] at this; omega
    · have := Int.mul_le_mul (show -a ≤ 9223372036854775808 by omega) (show b ≤ 9223372036854775808 by omega) (by omega) (by omega); rw [Int.neg_mul] at this; omega
    · have := Int.mul_nonneg_of_nonpos_of_nonpos h k; omega
  · rcases Int.le_total 0 a with h | h <;> rcases Int.le_total 0 b with k | k
    · have := Int.mul_le_mul (show a ≤ 9223372036854775808 by omega) (show b ≤ 9223372036854775808 by omega) k (by omega); omega
    · have := Int.mul_nonpos_of_nonneg_of_nonpos h k; omega
    · have := Int.mul_nonpos_of_nonpos_of_nonneg h k; omega
    · have := Int.mul_le_mul (show -a ≤ 9223372036854775808 by omega) (show -b ≤ 9223372036854775808 by omega) (by omega) (by omega); rw [Int.neg_mul_neg] at this; omega

end Go.Proofs.YtmfbblcipakaiaaGreatDoor

