/- The document's number and Put. -/
import Derived.Test.YtkefhhnbkhijgaaDoorRow
import Derived.Test.YtkefhhnbkhijgaaDoorProg
namespace Go.Proofs.YtkefhhnbkhijgaaDoor
open Go.RowKit

def modOf (n : Nat) : Nat := if n = 2 then 32 else if n = 3 then 16 else if n = 4 then 8 else 256
/-- what the first bytes say -/
def numTo (s : ByteArray) : Nat → Nat
  | 0 => 0
  | 1 => (s.get! 0).toNat % modOf s.size
  | k + 2 => 64 * numTo s (k + 1) + (s.get! (k + 1)).toNat % 64
theorem modOf_pos (n : Nat) : 0 < modOf n := by unfold modOf; split <;> (try split) <;> (try split) <;> omega
theorem numTo_bd (s : ByteArray) : ∀ k, numTo s (k + 1) < modOf s.size * 64 ^ k
  | 0 => by
    simp only [numTo, Nat.pow_zero, Nat.mul_one]
    exact Nat.mod_lt _ (modOf_pos _)
  | k + 1 => by
    have := numTo_bd s k
    have h : (s.get! (k + 1)).toNat % 64 < 64 := Nat.mod_lt _ (by omega)
    have e : modOf s.size * 64 ^ (k + 1) = modOf s.size * 64 ^ k * 64 := by rw [Nat.pow_succ, Nat.mul_assoc]
    rw [e]
    simp only [numTo]
    omega
theorem numTo_small (s : ByteArray) (h4 : s.size ≤ 4) {k : Nat} (hk : k ≤ s.size) : numTo s k < 2097152 := by
  cases k with
  | zero => simp [numTo]
  | succ k =>
    have h := numTo_bd s k
    have hp : 64 ^ k ≤ 64 ^ (s.size - 1) := Nat.pow_le_pow_right (by omega) (by omega)
    have h2 : modOf s.size * 64 ^ k ≤ modOf s.size * 64 ^ (s.size - 1) := Nat.mul_le_mul_left _ hp
    have h3 : modOf s.size * 64 ^ (s.size - 1) ≤ 2097152 := by
      generalize s.size = n at *
      match n, h4 with
      | 0, _ => omega
      | 1, _ => decide
      | 2, _ => decide
      | 3, _ => decide
      | 4, _ => decide
    omega
theorem get_at (s : ByteArray) {i : Nat} (h : i < s.size) : s[i] = s.get! i := by
  simp [ByteArray.get!, ByteArray.getElem_eq_getElem_data, h, getElem!_pos]


set_option maxRecDepth 100000 in
set_option maxHeartbeats 400000 in
theorem number_1 (s : ByteArray) (w : World) (hn : s.size = 1) : Calls Tryd.prog 75 #[.string s] w fun e w' => e = .returned (.int .i32 (numTo s s.size)) ∧ Old w w' := by
  have b0 := (s.get! 0).toNat_lt
  have h1 : 1 ≤ s.size := by omega
  have h4 : s.size ≤ 4 := by omega
  have g0 := get_at s (i := 0) h1
  have H1 := hide (show numTo s 1 = (s.get! 0).toNat % 256 by simp [numTo, modOf, hn])
  have f2 : ((s.size : Int) == 2) = false := beq_eq_false_iff_ne.2 (by omega)
  have f3 : ((s.size : Int) == 3) = false := beq_eq_false_iff_ne.2 (by omega)
  have f4 : ((s.size : Int) == 4) = false := beq_eq_false_iff_ne.2 (by omega)
  clear hn
  go_enter Tryd.func75, Tryd.ntmps75
  go_wp2_with fail
  clear f2 f3 f4
  go_loop [3, 4] (fun n i => ∃ k N : Nat, 1 ≤ k ∧ k ≤ s.size ∧ i = .int .i64 k ∧ n = .int .i64 N ∧ N < 2097152 ∧ Hid (numTo s k = N)) (fun _ i => s.size - (intOf i).toNat)
  case atStart => exact ⟨1, numTo s 1, by omega, h1, rfl, by rw [H1.out]; first | rfl | (congr 1; omega), numTo_small s h4 h1, hide rfl⟩
  case round =>
    clear g0 b0
    obtain ⟨k, N, hk1, hk2, rfl, rfl, hbd2, hN⟩ := hrel
    by_cases hlt : k < s.size
    · have gk := get_at s hlt
      have bk := (s.get! k).toNat_lt
      have HST := hide (show numTo s (k + 1) = 64 * N + (s.get! k).toNat % 64 by
        obtain ⟨j, rfl⟩ : ∃ j, k = j + 1 := ⟨k - 1, by omega⟩
        rw [numTo, hN.out])
      have HB2 := hide (numTo_small s h4 (k := k + 1) hlt)
      rw [HST.out] at HB2
      go_wp2_with fail
      go_round
      case rel => exact ⟨k + 1, 64 * N + (s.get! k).toNat % 64, by omega, by omega, by go_num, by go_num, HB2.out, HST⟩
      case measure => simp [intOf]; omega
    · have hkk : k = s.size := by omega
      have FIN := hide (show numTo s s.size = N by rw [← hkk, hN.out])
      clear hkk
      go_wp2_with fail
      go_ret
      exact ⟨ret_int (by rw [FIN.out]), Old.refl _⟩

set_option maxRecDepth 100000 in
set_option maxHeartbeats 400000 in
theorem number_2 (s : ByteArray) (w : World) (hn : s.size = 2) : Calls Tryd.prog 75 #[.string s] w fun e w' => e = .returned (.int .i32 (numTo s s.size)) ∧ Old w w' := by
  have b0 := (s.get! 0).toNat_lt
  have h1 : 1 ≤ s.size := by omega
  have h4 : s.size ≤ 4 := by omega
  have g0 := get_at s (i := 0) h1
  have H1 := hide (show numTo s 1 = (s.get! 0).toNat % 32 by simp [numTo, modOf, hn])
  have f2 : ((s.size : Int) == 2) = true := by rw [hn]; rfl
  clear hn
  go_enter Tryd.func75, Tryd.ntmps75
  go_wp2_with fail
  clear f2
  go_loop [3, 4] (fun n i => ∃ k N : Nat, 1 ≤ k ∧ k ≤ s.size ∧ i = .int .i64 k ∧ n = .int .i64 N ∧ N < 2097152 ∧ Hid (numTo s k = N)) (fun _ i => s.size - (intOf i).toNat)
  case atStart => exact ⟨1, numTo s 1, by omega, h1, rfl, by rw [H1.out]; first | rfl | (congr 1; omega), numTo_small s h4 h1, hide rfl⟩
  case round =>
    clear g0 b0
    obtain ⟨k, N, hk1, hk2, rfl, rfl, hbd2, hN⟩ := hrel
    by_cases hlt : k < s.size
    · have gk := get_at s hlt
      have bk := (s.get! k).toNat_lt
      have HST := hide (show numTo s (k + 1) = 64 * N + (s.get! k).toNat % 64 by
        obtain ⟨j, rfl⟩ : ∃ j, k = j + 1 := ⟨k - 1, by omega⟩
        rw [numTo, hN.out])
      have HB2 := hide (numTo_small s h4 (k := k + 1) hlt)
      rw [HST.out] at HB2
      go_wp2_with fail
      go_round
      case rel => exact ⟨k + 1, 64 * N + (s.get! k).toNat % 64, by omega, by omega, by go_num, by go_num, HB2.out, HST⟩
      case measure => simp [intOf]; omega
    · have hkk : k = s.size := by omega
      have FIN := hide (show numTo s s.size = N by rw [← hkk, hN.out])
      clear hkk
      go_wp2_with fail
      go_ret
      exact ⟨ret_int (by rw [FIN.out]), Old.refl _⟩

set_option maxRecDepth 100000 in
set_option maxHeartbeats 400000 in
theorem number_3 (s : ByteArray) (w : World) (hn : s.size = 3) : Calls Tryd.prog 75 #[.string s] w fun e w' => e = .returned (.int .i32 (numTo s s.size)) ∧ Old w w' := by
  have b0 := (s.get! 0).toNat_lt
  have h1 : 1 ≤ s.size := by omega
  have h4 : s.size ≤ 4 := by omega
  have g0 := get_at s (i := 0) h1
  have H1 := hide (show numTo s 1 = (s.get! 0).toNat % 16 by simp [numTo, modOf, hn])
  have f2 : ((s.size : Int) == 2) = false := beq_eq_false_iff_ne.2 (by omega)
  have f3 : ((s.size : Int) == 3) = true := by rw [hn]; rfl
  clear hn
  go_enter Tryd.func75, Tryd.ntmps75
  go_wp2_with fail
  clear f2 f3
  go_loop [3, 4] (fun n i => ∃ k N : Nat, 1 ≤ k ∧ k ≤ s.size ∧ i = .int .i64 k ∧ n = .int .i64 N ∧ N < 2097152 ∧ Hid (numTo s k = N)) (fun _ i => s.size - (intOf i).toNat)
  case atStart => exact ⟨1, numTo s 1, by omega, h1, rfl, by rw [H1.out]; first | rfl | (congr 1; omega), numTo_small s h4 h1, hide rfl⟩
  case round =>
    clear g0 b0
    obtain ⟨k, N, hk1, hk2, rfl, rfl, hbd2, hN⟩ := hrel
    by_cases hlt : k < s.size
    · have gk := get_at s hlt
      have bk := (s.get! k).toNat_lt
      have HST := hide (show numTo s (k + 1) = 64 * N + (s.get! k).toNat % 64 by
        obtain ⟨j, rfl⟩ : ∃ j, k = j + 1 := ⟨k - 1, by omega⟩
        rw [numTo, hN.out])
      have HB2 := hide (numTo_small s h4 (k := k + 1) hlt)
      rw [HST.out] at HB2
      go_wp2_with fail
      go_round
      case rel => exact ⟨k + 1, 64 * N + (s.get! k).toNat % 64, by omega, by omega, by go_num, by go_num, HB2.out, HST⟩
      case measure => simp [intOf]; omega
    · have hkk : k = s.size := by omega
      have FIN := hide (show numTo s s.size = N by rw [← hkk, hN.out])
      clear hkk
      go_wp2_with fail
      go_ret
      exact ⟨ret_int (by rw [FIN.out]), Old.refl _⟩

set_option maxRecDepth 100000 in
set_option maxHeartbeats 400000 in
theorem number_4 (s : ByteArray) (w : World) (hn : s.size = 4) : Calls Tryd.prog 75 #[.string s] w fun e w' => e = .returned (.int .i32 (numTo s s.size)) ∧ Old w w' := by
  have b0 := (s.get! 0).toNat_lt
  have h1 : 1 ≤ s.size := by omega
  have h4 : s.size ≤ 4 := by omega
  have g0 := get_at s (i := 0) h1
  have H1 := hide (show numTo s 1 = (s.get! 0).toNat % 8 by simp [numTo, modOf, hn])
  have f2 : ((s.size : Int) == 2) = false := beq_eq_false_iff_ne.2 (by omega)
  have f3 : ((s.size : Int) == 3) = false := beq_eq_false_iff_ne.2 (by omega)
  have f4 : ((s.size : Int) == 4) = true := by rw [hn]; rfl
  clear hn
  go_enter Tryd.func75, Tryd.ntmps75
  go_wp2_with fail
  clear f2 f3 f4
  go_loop [3, 4] (fun n i => ∃ k N : Nat, 1 ≤ k ∧ k ≤ s.size ∧ i = .int .i64 k ∧ n = .int .i64 N ∧ N < 2097152 ∧ Hid (numTo s k = N)) (fun _ i => s.size - (intOf i).toNat)
  case atStart => exact ⟨1, numTo s 1, by omega, h1, rfl, by rw [H1.out]; first | rfl | (congr 1; omega), numTo_small s h4 h1, hide rfl⟩
  case round =>
    clear g0 b0
    obtain ⟨k, N, hk1, hk2, rfl, rfl, hbd2, hN⟩ := hrel
    by_cases hlt : k < s.size
    · have gk := get_at s hlt
      have bk := (s.get! k).toNat_lt
      have HST := hide (show numTo s (k + 1) = 64 * N + (s.get! k).toNat % 64 by
        obtain ⟨j, rfl⟩ : ∃ j, k = j + 1 := ⟨k - 1, by omega⟩
        rw [numTo, hN.out])
      have HB2 := hide (numTo_small s h4 (k := k + 1) hlt)
      rw [HST.out] at HB2
      go_wp2_with fail
      go_round
      case rel => exact ⟨k + 1, 64 * N + (s.get! k).toNat % 64, by omega, by omega, by go_num, by go_num, HB2.out, HST⟩
      case measure => simp [intOf]; omega
    · have hkk : k = s.size := by omega
      have FIN := hide (show numTo s s.size = N by rw [← hkk, hN.out])
      clear hkk
      go_wp2_with fail
      go_ret
      exact ⟨ret_int (by rw [FIN.out]), Old.refl _⟩

theorem number_run (s : ByteArray) (w : World) (h1 : 1 ≤ s.size) (h4 : s.size ≤ 4) : Calls Tryd.prog 75 #[.string s] w fun e w' => e = .returned (.int .i32 (numTo s s.size)) ∧ Old w w' := by
  rcases (show s.size = 1 ∨ s.size = 2 ∨ s.size = 3 ∨ s.size = 4 by omega) with h | h | h | h
  · exact number_1 s w h
  · exact number_2 s w h
  · exact number_3 s w h
  · exact number_4 s w h
end Go.Proofs.YtkefhhnbkhijgaaDoor
