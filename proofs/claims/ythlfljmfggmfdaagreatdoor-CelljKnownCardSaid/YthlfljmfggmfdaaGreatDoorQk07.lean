/-  -/
import Derived.Test.YthlfljmfggmfdaaGreatDoorQk02
import Derived.Test.YthlfljmfggmfdaaGreatDoorProg
import Derived.Laws.BytesArg
import Derived.Test.YthlfljmfggmfdaaGreatDoorQk04
/-! ###  -/
namespace Go.Proofs.YthlfljmfggmfdaaGreatDoor
open Go.RowKit
def modOf (n : Nat) : Nat := if n = 2 then 32 else if n = 3 then 16 else if n = 4 then 8 else 256
def numTo (s : ByteArray) : Nat → Nat
 | 0 => 0
 | 1 => (s.get! 0).toNat % modOf s.size
 | k + 2 => 64 * numTo s (k + 1) + (s.get! (k + 1)).toNat % 64
theorem modOf_pos (n : Nat) : 0 < modOf n := by unfold modOf; split <;> (try split) <;> (try split) <;> omega
theorem numTo_bd (s : ByteArray) : ∀ k, numTo s (k + 1) < modOf s.size * 64 ^ k
 | 0 => by
   simp only [numTo, Nat.pow_zero, Nat.mul_one]
   exact Nat.mod_lt _ (modOf_pos _)
 | k + 1 => by
   have := numTo_bd s k
   have h : (s.get! (k + 1)).toNat % 64 < 64 := Nat.mod_lt _ (by omega)
   have e : modOf s.size * 64 ^ (k + 1) = modOf s.size * 64 ^ k * 64 := by rw [Nat.pow_succ, Nat.mul_assoc]
   rw [e]
   simp only [numTo]
   omega
theorem numTo_small (s : ByteArray) (h4 : s.size ≤ 4) {k : Nat} (hk : k ≤ s.size) : numTo s k < 2097152 := by
 cases k with
 | zero => simp [numTo]
 | succ k =>
   have h := numTo_bd s k
   have hp : 64 ^ k ≤ 64 ^ (s.size - 1) := Nat.pow_le_pow_right (by omega) (by omega)
   have h2 : modOf s.size * 64 ^ k ≤ modOf s.size * 64 ^ (s.size - 1) := Nat.mul_le_mul_left _ hp
   have h3 : modOf s.size * 64 ^ (s.size - 1) ≤ 2097152 := by
    generalize s.size = n at *
    match n, h4 with
    | 0, _ => omega
    | 1, _ => decide
    | 2, _ => decide
    | 3, _ => decide
    | 4, _ => decide
   omega
theorem get_at (s : ByteArray) {i : Nat} (h : i < s.size) : s[i] = s.get! i := by
 simp [ByteArray.get!, ByteArray.getElem_eq_getElem_data, h, getElem!_pos]
set_option maxRecDepth 100000 in
set_option maxHeartbeats 400000 in
theorem number_1 (s : ByteArray) (w : World) (hn : s.size = 1) : Calls Tryz.prog 166 #[.string s] w fun e w' => e = .returned (.int .i32 (numTo s s.size)) ∧ Old w w' := by
 have b0 := (s.get! 0).toNat_lt
 have h1 : 1 ≤ s.size := by omega
 have h4 : s.size ≤ 4 := by omega
 have g0 := get_at s (i := 0) h1
 have H1 := hide (show numTo s 1 = (s.get! 0).toNat % 256 by simp [numTo, modOf, hn])
 have f2 : ((s.size : Int) == 2) = false := beq_eq_false_iff_ne.2 (by omega)
 have f3 : ((s.size : Int) == 3) = false := beq_eq_false_iff_ne.2 (by omega)
 have f4 : ((s.size : Int) == 4) = false := beq_eq_false_iff_ne.2 (by omega)
 clear hn
 go_enter Tryz.func166, Tryz.ntmps166
 go_wp2_with fail
 clear f2 f3 f4
 go_loop [3, 4] (fun n i => ∃ k N : Nat, 1 ≤ k ∧ k ≤ s.size ∧ i = .int .i64 k ∧ n = .int .i64 N ∧ N < 2097152 ∧ Hid (numTo s k = N)) (fun _ i => s.size - (intOf i).toNat)
 case atStart => exact ⟨1, numTo s 1, by omega, h1, rfl, by rw [H1.out]; first | rfl | (congr 1; omega), numTo_small s h4 h1, hide rfl⟩
 case round =>
  clear g0 b0
  obtain ⟨k, N, hk1, hk2, rfl, rfl, hbd2, hN⟩ := hrel
  by_cases hlt : k < s.size
  · have gk := get_at s hlt
    have bk := (s.get! k).toNat_lt
    have HST := hide (show numTo s (k + 1) = 64 * N + (s.get! k).toNat % 64 by
     obtain ⟨j, rfl⟩ : ∃ j, k = j + 1 := ⟨k - 1, by omega⟩
     rw [numTo, hN.out])
    have HB2 := hide (numTo_small s h4 (k := k + 1) hlt)
    rw [HST.out] at HB2
    go_wp2_with fail
    go_round
    case rel => exact ⟨k + 1, 64 * N + (s.get! k).toNat % 64, by omega, by omega, by go_num, by go_num, HB2.out, HST⟩
    case measure => simp [intOf]; omega
  · have hkk : k = s.size := by omega
    have FIN := hide (show numTo s s.size = N by rw [← hkk, hN.out])
    clear hkk
    go_wp2_with fail
    go_ret
    exact ⟨ret_int (by rw [FIN.out]), Old.refl _⟩
set_option maxRecDepth 100000 in
set_option maxHeartbeats 400000 in
theorem number_2 (s : ByteArray) (w : World) (hn : s.size = 2) : Calls Tryz.prog 166 #[.string s] w fun e w' => e = .returned (.int .i32 (numTo s s.size)) ∧ Old w w' := by
 have b0 := (s.get! 0).toNat_lt
 have h1 : 1 ≤ s.size := by omega
 have h4 : s.size ≤ 4 := by omega
 have g0 := get_at s (i := 0) h1
 have H1 := hide (show numTo s 1 = (s.get! 0).toNat % 32 by simp [numTo, modOf, hn])
 have f2 : ((s.size : Int) == 2) = true := by rw [hn]; rfl
 clear hn
 go_enter Tryz.func166, Tryz.ntmps166
 go_wp2_with fail
 clear f2
 go_loop [3, 4] (fun n i => ∃ k N : Nat, 1 ≤ k ∧ k ≤ s.size ∧ i = .int .i64 k ∧ n = .int .i64 N ∧ N < 2097152 ∧ Hid (numTo s k = N)) (fun _ i => s.size - (intOf i).toNat)
 case atStart => exact ⟨1, numTo s 1, by omega, h1, rfl, by rw [H1.out]; first | rfl | (congr 1; omega), numTo_small s h4 h1, hide rfl⟩
 case round =>
  clear g0 b0
  obtain ⟨k, N, hk1, hk2, rfl, rfl, hbd2, hN⟩ := hrel
  by_cases hlt : k < s.size
  · have gk := get_at s hlt
    have bk := (s.get! k).toNat_lt
    have HST := hide (show numTo s (k + 1) = 64 * N + (s.get! k).toNat % 64 by
     obtain ⟨j, rfl⟩ : ∃ j, k = j + 1 := ⟨k - 1, by omega⟩
     rw [numTo, hN.out])
    have HB2 := hide (numTo_small s h4 (k := k + 1) hlt)
    rw [HST.out] at HB2
    go_wp2_with fail
    go_round
    case rel => exact ⟨k + 1, 64 * N + (s.get! k).toNat % 64, by omega, by omega, by go_num, by go_num, HB2.out, HST⟩
    case measure => simp [intOf]; omega
  · have hkk : k = s.size := by omega
    have FIN := hide (show numTo s s.size = N by rw [← hkk, hN.out])
    clear hkk
    go_wp2_with fail
    go_ret
    exact ⟨ret_int (by rw [FIN.out]), Old.refl _⟩
set_option maxRecDepth 100000 in
set_option maxHeartbeats 400000 in
theorem number_3 (s : ByteArray) (w : World) (hn : s.size = 3) : Calls Tryz.prog 166 #[.string s] w fun e w' => e = .returned (.int .i32 (numTo s s.size)) ∧ Old w w' := by
 have b0 := (s.get! 0).toNat_lt
 have h1 : 1 ≤ s.size := by omega
 have h4 : s.size ≤ 4 := by omega
 have g0 := get_at s (i := 0) h1
 have H1 := hide (show numTo s 1 = (s.get! 0).toNat % 16 by simp [numTo, modOf, hn])
 have f2 : ((s.size : Int) == 2) = false := beq_eq_false_iff_ne.2 (by omega)
 have f3 : ((s.size : Int) == 3) = true := by rw [hn]; rfl
 clear hn
 go_enter Tryz.func166, Tryz.ntmps166
 go_wp2_with fail
 clear f2 f3
 go_loop [3, 4] (fun n i => ∃ k N : Nat, 1 ≤ k ∧ k ≤ s.size ∧ i = .int .i64 k ∧ n = .int .i64 N ∧ N < 2097152 ∧ Hid (numTo s k = N)) (fun _ i => s.size - (intOf i).toNat)
 case atStart => exact ⟨1, numTo s 1, by omega, h1, rfl, by rw [H1.out]; first | rfl | (congr 1; omega), numTo_small s h4 h1, hide rfl⟩
 case round =>
  clear g0 b0
  obtain ⟨k, N, hk1, hk2, rfl, rfl, hbd2, hN⟩ := hrel
  by_cases hlt : k < s.size
  · have gk := get_at s hlt
    have bk := (s.get! k).toNat_lt
    have HST := hide (show numTo s (k + 1) = 64 * N + (s.get! k).toNat % 64 by
     obtain ⟨j, rfl⟩ : ∃ j, k = j + 1 := ⟨k - 1, by omega⟩
     rw [numTo, hN.out])
    have HB2 := hide (numTo_small s h4 (k := k + 1) hlt)
    rw [HST.out] at HB2
    go_wp2_with fail
    go_round
    case rel => exact ⟨k + 1, 64 * N + (s.get! k).toNat % 64, by omega, by omega, by go_num, by go_num, HB2.out, HST⟩
    case measure => simp [intOf]; omega
  · have hkk : k = s.size := by omega
    have FIN := hide (show numTo s s.size = N by rw [← hkk, hN.out])
    clear hkk
    go_wp2_with fail
    go_ret
    exact ⟨ret_int (by rw [FIN.out]), Old.refl _⟩
set_option maxRecDepth 100000 in
set_option maxHeartbeats 400000 in
theorem number_4 (s : ByteArray) (w : World) (hn : s.size = 4) : Calls Tryz.prog 166 #[.string s] w fun e w' => e = .returned (.int .i32 (numTo s s.size)) ∧ Old w w' := by
 have b0 := (s.get! 0).toNat_lt
 have h1 : 1 ≤ s.size := by omega
 have h4 : s.size ≤ 4 := by omega
 have g0 := get_at s (i := 0) h1
 have H1 := hide (show numTo s 1 = (s.get! 0).toNat % 8 by simp [numTo, modOf, hn])
 have f2 : ((s.size : Int) == 2) = false := beq_eq_false_iff_ne.2 (by omega)
 have f3 : ((s.size : Int) == 3) = false := beq_eq_false_iff_ne.2 (by omega)
 have f4 : ((s.size : Int) == 4) = true := by rw [hn]; rfl
 clear hn
 go_enter Tryz.func166, Tryz.ntmps166
 go_wp2_with fail
 clear f2 f3 f4
 go_loop [3, 4] (fun n i => ∃ k N : Nat, 1 ≤ k ∧ k ≤ s.size ∧ i = .int .i64 k ∧ n = .int .i64 N ∧ N < 2097152 ∧ Hid (numTo s k = N)) (fun _ i => s.size - (intOf i).toNat)
 case atStart => exact ⟨1, numTo s 1, by omega, h1, rfl, by rw [H1.out]; first | rfl | (congr 1; omega), numTo_small s h4 h1, hide rfl⟩
 case round =>
  clear g0 b0
  obtain ⟨k, N, hk1, hk2, rfl, rfl, hbd2, hN⟩ := hrel
  by_cases hlt : k < s.size
  · have gk := get_at s hlt
    have bk := (s.get! k).toNat_lt
    have HST := hide (show numTo s (k + 1) = 64 * N + (s.get! k).toNat % 64 by
     obtain ⟨j, rfl⟩ : ∃ j, k = j + 1 := ⟨k - 1, by omega⟩
     rw [numTo, hN.out])
    have HB2 := hide (numTo_small s h4 (k := k + 1) hlt)
    rw [HST.out] at HB2
    go_wp2_with fail
    go_round
    case rel => exact ⟨k + 1, 64 * N + (s.get! k).toNat % 64, by omega, by omega, by go_num, by go_num, HB2.out, HST⟩
    case measure => simp [intOf]; omega
  · have hkk : k = s.size := by omega
    have FIN := hide (show numTo s s.size = N by rw [← hkk, hN.out])
    clear hkk
    go_wp2_with fail
    go_ret
    exact ⟨ret_int (by rw [FIN.out]), Old.refl _⟩
theorem number_run (s : ByteArray) (w : World) (h1 : 1 ≤ s.size) (h4 : s.size ≤ 4) : Calls Tryz.prog 166 #[.string s] w fun e w' => e = .returned (.int .i32 (numTo s s.size)) ∧ Old w w' := by
 rcases (show s.size = 1 ∨ s.size = 2 ∨ s.size = 3 ∨ s.size = 4 by omega) with h | h | h | h
 · exact number_1 s w h
 · exact number_2 s w h
 · exact number_3 s w h
 · exact number_4 s w h
end Go.Proofs.YthlfljmfggmfdaaGreatDoor
namespace Go.Proofs.YthlfljmfggmfdaaGreatDoor
open Go.RowKit
def putL (n : Nat) : List Int :=
 if 65536 ≤ n then [240 + (n : Int) / 262144, 128 + (n : Int) / 4096 % 64, 128 + (n : Int) / 64 % 64, 128 + (n : Int) % 64]
 else if 2048 ≤ n then [224 + (n : Int) / 4096, 128 + (n : Int) / 64 % 64, 128 + (n : Int) % 64]
 else if 128 ≤ n then [192 + (n : Int) / 64, 128 + (n : Int) % 64]
 else [(n : Int)]
def scalarB (n : Nat) : Bool := decide (n ≤ 1114111) && !(decide (55296 ≤ n) && decide (n ≤ 57343))
def putVal (n : Nat) : Value := if scalarB n then .tuple #[.string (strOfNums (putL n)), .bool true] else .tuple #[.string ⟨#[]⟩, .bool false]
set_option maxRecDepth 100000 in
set_option maxHeartbeats 400000 in
theorem put_4 (n : Nat) (w : World) (h1 : 65536 ≤ n) (h2 : n ≤ 1114111) : Calls Tryz.prog 167 #[.int .i32 n] w fun e w' => e = .returned (.tuple #[.string (strOfNums [240 + (n : Int) / 262144, 128 + (n : Int) / 4096 % 64, 128 + (n : Int) / 64 % 64, 128 + (n : Int) % 64]), .bool true]) ∧ Old w w' := by
 have a0 : ¬ (n : Int) < 0 := by omega
 have a1 : ¬ (1114111 : Int) < (n : Int) := by omega
 have a2 : ¬ (n : Int) ≤ 57343 := by omega
 have a3 : (65536 : Int) ≤ (n : Int) := by omega
 have KC := run_convert_bytes_arg (P := Tryz.prog) ((w.alloc (.cells #[.int .u8 ((n : Int) % 256)] 5)).alloc (.cells #[.int .u8 (240 + (n : Int) / 262144), .int .u8 (128 + (n : Int) / 4096 % 64), .int .u8 (128 + (n : Int) / 64 % 64), .int .u8 (128 + (n : Int) % 64)] 5)) 57 5 Tryz.underlying57 Tryz.underlying5 (w.heap.size + 1) 0 4 4 [240 + (n : Int) / 262144, 128 + (n : Int) / 4096 % 64, 128 + (n : Int) / 64 % 64, 128 + (n : Int) % 64] rfl (fun i hi => by match i, hi with | 0, _ => go_simp | 1, _ => go_simp | 2, _ => go_simp | 3, _ => go_simp) 9 Tryz.underlying9
 go_enter Tryz.func167, Tryz.ntmps167
 go_wp2_with fail
 go_ret2
 exact ⟨rfl, (((Old.refl w).alloc _).alloc _)⟩
set_option maxRecDepth 100000 in
set_option maxHeartbeats 400000 in
theorem put_3a (n : Nat) (w : World) (h1 : 2048 ≤ n) (h2 : n < 55296) : Calls Tryz.prog 167 #[.int .i32 n] w fun e w' => e = .returned (.tuple #[.string (strOfNums [224 + (n : Int) / 4096, 128 + (n : Int) / 64 % 64, 128 + (n : Int) % 64]), .bool true]) ∧ Old w w' := by
 have a0 : ¬ (n : Int) < 0 := by omega
 have a1 : ¬ (1114111 : Int) < (n : Int) := by omega
 have a2 : ¬ (55296 : Int) ≤ (n : Int) := by omega
 have a3 : ¬ (65536 : Int) ≤ (n : Int) := by omega
 have a4 : (2048 : Int) ≤ (n : Int) := by omega
 have KC := run_convert_bytes_arg (P := Tryz.prog) ((w.alloc (.cells #[.int .u8 ((n : Int) % 256)] 5)).alloc (.cells #[.int .u8 (224 + (n : Int) / 4096), .int .u8 (128 + (n : Int) / 64 % 64), .int .u8 (128 + (n : Int) % 64)] 5)) 57 5 Tryz.underlying57 Tryz.underlying5 (w.heap.size + 1) 0 3 3 [224 + (n : Int) / 4096, 128 + (n : Int) / 64 % 64, 128 + (n : Int) % 64] rfl (fun i hi => by match i, hi with | 0, _ => go_simp | 1, _ => go_simp | 2, _ => go_simp) 9 Tryz.underlying9
 go_enter Tryz.func167, Tryz.ntmps167
 go_wp2_with fail
 go_ret2
 exact ⟨rfl, (((Old.refl w).alloc _).alloc _)⟩
set_option maxRecDepth 100000 in
set_option maxHeartbeats 400000 in
theorem put_3b (n : Nat) (w : World) (h1 : 57343 < n) (h2 : n < 65536) : Calls Tryz.prog 167 #[.int .i32 n] w fun e w' => e = .returned (.tuple #[.string (strOfNums [224 + (n : Int) / 4096, 128 + (n : Int) / 64 % 64, 128 + (n : Int) % 64]), .bool true]) ∧ Old w w' := by
 have a0 : ¬ (n : Int) < 0 := by omega
 have a1 : ¬ (1114111 : Int) < (n : Int) := by omega
 have a2 : (55296 : Int) ≤ (n : Int) := by omega
 have a3 : ¬ (n : Int) ≤ 57343 := by omega
 have a4 : ¬ (65536 : Int) ≤ (n : Int) := by omega
 have a5 : (2048 : Int) ≤ (n : Int) := by omega
 have KC := run_convert_bytes_arg (P := Tryz.prog) ((w.alloc (.cells #[.int .u8 ((n : Int) % 256)] 5)).alloc (.cells #[.int .u8 (224 + (n : Int) / 4096), .int .u8 (128 + (n : Int) / 64 % 64), .int .u8 (128 + (n : Int) % 64)] 5)) 57 5 Tryz.underlying57 Tryz.underlying5 (w.heap.size + 1) 0 3 3 [224 + (n : Int) / 4096, 128 + (n : Int) / 64 % 64, 128 + (n : Int) % 64] rfl (fun i hi => by match i, hi with | 0, _ => go_simp | 1, _ => go_simp | 2, _ => go_simp) 9 Tryz.underlying9
 go_enter Tryz.func167, Tryz.ntmps167
 go_wp2_with fail
 go_ret2
 exact ⟨rfl, (((Old.refl w).alloc _).alloc _)⟩
set_option maxRecDepth 100000 in
set_option maxHeartbeats 400000 in
theorem put_2 (n : Nat) (w : World) (h1 : 128 ≤ n) (h2 : n < 2048) : Calls Tryz.prog 167 #[.int .i32 n] w fun e w' => e = .returned (.tuple #[.string (strOfNums [192 + (n : Int) / 64, 128 + (n : Int) % 64]), .bool true]) ∧ Old w w' := by
 have a0 : ¬ (n : Int) < 0 := by omega
 have a1 : ¬ (1114111 : Int) < (n : Int) := by omega
 have a2 : ¬ (55296 : Int) ≤ (n : Int) := by omega
 have a3 : ¬ (65536 : Int) ≤ (n : Int) := by omega
 have a4 : ¬ (2048 : Int) ≤ (n : Int) := by omega
 have a5 : (128 : Int) ≤ (n : Int) := by omega
 have KC := run_convert_bytes_arg (P := Tryz.prog) ((w.alloc (.cells #[.int .u8 ((n : Int) % 256)] 5)).alloc (.cells #[.int .u8 (192 + (n : Int) / 64), .int .u8 (128 + (n : Int) % 64)] 5)) 57 5 Tryz.underlying57 Tryz.underlying5 (w.heap.size + 1) 0 2 2 [192 + (n : Int) / 64, 128 + (n : Int) % 64] rfl (fun i hi => by match i, hi with | 0, _ => go_simp | 1, _ => go_simp) 9 Tryz.underlying9
 go_enter Tryz.func167, Tryz.ntmps167
 go_wp2_with fail
 go_ret2
 exact ⟨rfl, (((Old.refl w).alloc _).alloc _)⟩
set_option maxRecDepth 100000 in
set_option maxHeartbeats 400000 in
theorem put_1 (n : Nat) (w : World) (h2 : n < 128) : Calls Tryz.prog 167 #[.int .i32 n] w fun e w' => e = .returned (.tuple #[.string (strOfNums [(n : Int)]), .bool true]) ∧ Old w w' := by
 have a0 : ¬ (n : Int) < 0 := by omega
 have a1 : ¬ (1114111 : Int) < (n : Int) := by omega
 have a2 : ¬ (55296 : Int) ≤ (n : Int) := by omega
 have a3 : ¬ (65536 : Int) ≤ (n : Int) := by omega
 have a4 : ¬ (2048 : Int) ≤ (n : Int) := by omega
 have a5 : ¬ (128 : Int) ≤ (n : Int) := by omega
 have KC := run_convert_bytes_arg (P := Tryz.prog) (w.alloc (.cells #[.int .u8 (n : Int)] 5)) 57 5 Tryz.underlying57 Tryz.underlying5 w.heap.size 0 1 1 [(n : Int)] rfl (fun i hi => by match i, hi with | 0, _ => go_simp) 9 Tryz.underlying9
 go_enter Tryz.func167, Tryz.ntmps167
 go_wp2_with fail
 go_ret2
 exact ⟨rfl, ((Old.refl w).alloc _)⟩
set_option maxRecDepth 100000 in
set_option maxHeartbeats 400000 in
theorem put_great (n : Nat) (w : World) (h1 : 1114111 < n) (h2 : n < 2147483648) : Calls Tryz.prog 167 #[.int .i32 n] w fun e w' => e = .returned (.tuple #[.string ⟨#[]⟩, .bool false]) ∧ Old w w' := by
 have a0 : ¬ (n : Int) < 0 := by omega
 have a1 : (1114111 : Int) < (n : Int) := by omega
 go_enter Tryz.func167, Tryz.ntmps167
 go_wp2_with fail
 go_ret2
 exact ⟨rfl, Old.refl w⟩
set_option maxRecDepth 100000 in
set_option maxHeartbeats 400000 in
theorem put_half (n : Nat) (w : World) (h1 : 55296 ≤ n) (h2 : n ≤ 57343) : Calls Tryz.prog 167 #[.int .i32 n] w fun e w' => e = .returned (.tuple #[.string ⟨#[]⟩, .bool false]) ∧ Old w w' := by
 have a0 : ¬ (n : Int) < 0 := by omega
 have a1 : ¬ (1114111 : Int) < (n : Int) := by omega
 have a2 : (55296 : Int) ≤ (n : Int) := by omega
 have a3 : (n : Int) ≤ 57343 := by omega
 go_enter Tryz.func167, Tryz.ntmps167
 go_wp2_with fail
 go_ret2
 exact ⟨rfl, Old.refl w⟩
theorem rput_run (n : Nat) (w : World) (hn : n < 2147483648) : Calls Tryz.prog 167 #[.int .i32 n] w fun e w' => e = .returned (putVal n) ∧ Old w w' := by
 by_cases h1 : 1114111 < n
 · have e : putVal n = .tuple #[.string ⟨#[]⟩, .bool false] := by unfold putVal scalarB; rw [if_neg (by simp; omega)]
   rw [e]
   exact put_great n w h1 hn
 · by_cases h2 : 55296 ≤ n ∧ n ≤ 57343
   · have e : putVal n = .tuple #[.string ⟨#[]⟩, .bool false] := by unfold putVal scalarB; rw [if_neg (by simp; omega)]
     rw [e]
     exact put_half n w h2.1 h2.2
   · have e : putVal n = .tuple #[.string (strOfNums (putL n)), .bool true] := by unfold putVal scalarB; rw [if_pos (by simp; omega)]
     rw [e]
     unfold putL
     split
     · exact put_4 n w (by omega) (by omega)
     · split
       · by_cases h3 : n < 55296
         · exact put_3a n w (by omega) h3
         · exact put_3b n w (by omega) (by omega)
       · split
         · exact put_2 n w (by omega) (by omega)
         · exact put_1 n w (by omega)
end Go.Proofs.YthlfljmfggmfdaaGreatDoor
namespace Go.Proofs.YthlfljmfggmfdaaGreatDoor
open Go.RowKit
def numAt (s : ByteArray) (n : Nat) : Nat := numTo (s.extract 0 n) n
def hit (s : ByteArray) (n : Nat) : Bool := decide (n ≤ s.size) && (scalarB (numAt s n) && decide (strOfNums (putL (numAt s n)) = s.extract 0 n))
def nextN (s : ByteArray) : Nat := if hit s 1 then 1 else if hit s 2 then 2 else if hit s 3 then 3 else if hit s 4 then 4 else 0
def nextVal (s : ByteArray) : Value := if nextN s = 0 then .tuple #[.int .i32 0, .int .i64 0, .bool false] else .tuple #[.int .i32 (numAt s (nextN s)), .int .i64 (nextN s), .bool true]
theorem hit_at {s : ByteArray} {n : Nat} (h1 : 1 ≤ n) (h4 : n ≤ 4) (hn : ∀ m, 1 ≤ m → m < n → hit s m = false) (h : hit s n = true) : nextN s = n := by
 unfold nextN
 rcases (show n = 1 ∨ n = 2 ∨ n = 3 ∨ n = 4 by omega) with rfl | rfl | rfl | rfl
 · rw [h]; rfl
 · rw [hn 1 (by omega) (by omega), h]; rfl
 · rw [hn 1 (by omega) (by omega), hn 2 (by omega) (by omega), h]; rfl
 · rw [hn 1 (by omega) (by omega), hn 2 (by omega) (by omega), hn 3 (by omega) (by omega), h]; rfl
theorem hit_none {s : ByteArray} (hn : ∀ m, 1 ≤ m → m ≤ 4 → hit s m = false) : nextN s = 0 := by
 unfold nextN
 rw [hn 1 (by omega) (by omega), hn 2 (by omega) (by omega), hn 3 (by omega) (by omega), hn 4 (by omega) (by omega)]
 rfl
theorem ext_size (s : ByteArray) {n : Nat} (h : n ≤ s.size) : (s.extract 0 n).size = n := by simp [ByteArray.size_extract]; omega
set_option maxRecDepth 100000 in
set_option maxHeartbeats 1000000 in
theorem next_run (s : ByteArray) (w : World) : Calls Tryz.prog 117 #[.string s] w fun e w' => e = .returned (nextVal s) ∧ Old w w' := by
 go_enter Tryz.func117, Tryz.ntmps117
 go_wp2_with fail
 go_loopw [5] (fun i wr => ∃ n : Nat, i = .int .i64 n ∧ 1 ≤ n ∧ n ≤ 5 ∧ Hid (∀ m, 1 ≤ m → m < n → hit s m = false) ∧ Hid (Old w wr)) (fun i _ => 5 - (intOf i).toNat)
 case atStart => exact ⟨1, rfl, by omega, by omega, hide (by intro m h1 h2; omega), hide (Old.refl _)⟩
 case round =>
  obtain ⟨n, rfl, hn1, hn5, HN, HO⟩ := hrel
  by_cases h4 : n ≤ 4
  · have h4' : decide ((n : Int) ≤ 4) = true := decide_eq_true (by omega)
    by_cases hsz : n ≤ s.size
    · have hsz' : decide ((n : Int) ≤ (s.size : Int)) = true := decide_eq_true (by omega)
      have hex := ext_size s hsz
      obtain ⟨r, hr⟩ : ∃ r, Hid (numAt s n = r) := ⟨_, hide rfl⟩
      have CN := hide (show Calls Tryz.prog 166 #[.string (s.extract 0 n)] wr fun e w' => e = .returned (.int .i32 r) ∧ Old wr w' from by
       have := number_run (s.extract 0 n) wr (by omega) (by omega)
       rw [hex] at this
       unfold numAt at hr
       rwa [hr.out] at this)
      have hr2 : r < 2097152 := by
       have := numTo_small (s.extract 0 n) (by omega) (k := n) (by omega)
       unfold numAt at hr
       rwa [hr.out] at this
      have CP := hide (fun w' => rput_run r w' (by omega))
      have NEXT := hide (show hit s n = false → ∀ m, 1 ≤ m → m < n + 1 → hit s m = false from fun h m h1 h2 => by
       rcases Nat.lt_or_ge m n with h3 | h3
       · exact HN.out m h1 h3
       · have : m = n := by omega
         rw [this]; exact h)
      have HHIT := hide (show hit s n = (scalarB r && decide (strOfNums (putL r) = s.extract 0 n)) by unfold hit; rw [decide_eq_true hsz, hr.out]; rfl)
      clear hex
      cases hsc : scalarB r
      · have HF := hide (NEXT.out (by rw [HHIT.out, hsc]; rfl))
        unfold putVal at CP
        rw [hsc] at CP
        simp only [Bool.false_eq_true, if_false] at CP
        clear hsc
        go_wp2_with fail
        refine CN.out.mono ?_
        rintro e w1 ⟨rfl, o1⟩
        go_wp2_with fail
        refine (CP.out _).mono ?_
        rintro e w2 ⟨rfl, o2⟩
        go_wp2_with fail
        go_roundw
        case rel => exact ⟨n + 1, by go_num, by omega, by omega, HF, hide (Old.trans HO.out (Old.trans o1 o2))⟩
        case measure => simp [intOf]; omega
      · unfold putVal at CP
        rw [hsc] at CP
        simp only [if_true] at CP
        rw [hsc] at HHIT
        clear hsc
        obtain ⟨b, hb⟩ : ∃ b, Hid (strOfNums (putL r) = b) := ⟨_, hide rfl⟩
        rw [hb.out] at CP HHIT
        by_cases he : b = s.extract 0 n
        · subst he
          have HT := hide (hit_at hn1 h4 HN.out (by rw [HHIT.out]; simp))
          go_wp2_with fail
          refine CN.out.mono ?_
          rintro e w1 ⟨rfl, o1⟩
          go_wp2_with fail
          refine (CP.out _).mono ?_
          rintro e w2 ⟨rfl, o2⟩
          have O2 := hide (Old.trans HO.out (Old.trans o1 o2))
          clear o1 o2
          go_wp2_with fail
          go_ret3
          exact ⟨by unfold nextVal; rw [HT.out, if_neg (by omega), hr.out]; rfl, O2.out⟩
        · have he1 : ¬ b.toList = (s.extract 0 n).toList := fun h => he (bytes_ext h)
          have he2 : (b.toList == (s.extract 0 n).toList) = false := beq_eq_false_iff_ne.2 he1
          have HF := hide (NEXT.out (by rw [HHIT.out]; simp [he]))
          clear he
          go_wp2_with fail
          refine CN.out.mono ?_
          rintro e w1 ⟨rfl, o1⟩
          go_wp2_with fail
          refine (CP.out _).mono ?_
          rintro e w2 ⟨rfl, o2⟩
          have O2 := hide (Old.trans HO.out (Old.trans o1 o2))
          clear o1 o2
          go_wp2_with fail
          go_roundw
          case rel => exact ⟨n + 1, by go_num, by omega, by omega, HF, O2⟩
          case measure => simp [intOf]; omega
    · have hsz' : decide ((n : Int) ≤ (s.size : Int)) = false := decide_eq_false (by omega)
      have FIN := hide (hit_none (s := s) fun m h1 h2 => by
       rcases Nat.lt_or_ge m n with h3 | h3
       · exact HN.out m h1 h3
       · unfold hit; rw [decide_eq_false (by omega)]; rfl)
      go_wp2_with fail
      go_ret3
      exact ⟨by unfold nextVal; rw [FIN.out]; rfl, HO.out⟩
  · have h4' : decide ((n : Int) ≤ 4) = false := decide_eq_false (by omega)
    have FIN := hide (hit_none (s := s) fun m h1 h2 => HN.out m h1 (by omega))
    go_wp2_with fail
    go_ret3
    exact ⟨by unfold nextVal; rw [FIN.out]; rfl, HO.out⟩
theorem hit_bd {s : ByteArray} {n : Nat} (h : hit s n = true) : n ≤ s.size := by
 unfold hit at h
 simp at h
 exact h.1
theorem nextN_bd (s : ByteArray) : nextN s ≤ s.size := by
 unfold nextN
 split
 · exact hit_bd (by assumption)
 · split
   · exact hit_bd (by assumption)
   · split
     · exact hit_bd (by assumption)
     · split
       · exact hit_bd (by assumption)
       · omega
def validN : Nat → ByteArray → Bool
 | 0, _ => true
 | k + 1, s => if s.size = 0 then true else if nextN s = 0 then false else validN k (s.extract (nextN s) s.size)
def validR (s : ByteArray) : Bool := validN s.size s
theorem ext_rest (s : ByteArray) (n : Nat) : (s.extract n s.size).size = s.size - n := by simp [ByteArray.size_extract]
theorem validN_more : ∀ (k m : Nat) (s : ByteArray), s.size ≤ k → s.size ≤ m → validN k s = validN m s
 | 0, 0, _, _, _ => rfl
 | 0, m + 1, s, h, _ => by rw [validN, validN, if_pos (by omega)]
 | k + 1, 0, s, _, h => by rw [validN, validN, if_pos (by omega)]
 | k + 1, m + 1, s, h1, h2 => by
   rw [validN, validN]
   split
   · rfl
   · split
     · rfl
     · have := ext_rest s (nextN s)
       exact validN_more k m _ (by omega) (by omega)
theorem validR_step {s : ByteArray} (h0 : s.size ≠ 0) (h1 : nextN s ≠ 0) : validR s = validR (s.extract (nextN s) s.size) := by
 unfold validR
 obtain ⟨k, hk⟩ : ∃ k, s.size = k + 1 := ⟨s.size - 1, by omega⟩
 have := ext_rest s (nextN s)
 rw [hk, validN, if_neg (by omega), if_neg h1, ← hk]
 exact validN_more _ _ _ (by omega) (Nat.le_refl _)
theorem validR_none {s : ByteArray} (h0 : s.size = 0) : validR s = true := by unfold validR; rw [h0]; rfl
theorem validR_bad {s : ByteArray} (h0 : s.size ≠ 0) (h1 : nextN s = 0) : validR s = false := by
 unfold validR
 obtain ⟨k, hk⟩ : ∃ k, s.size = k + 1 := ⟨s.size - 1, by omega⟩
 rw [hk, validN, if_neg (by omega), if_pos h1]
theorem nextN_four (s : ByteArray) : nextN s ≤ 4 := by
 unfold nextN
 split <;> (try split) <;> (try split) <;> (try split) <;> omega
set_option maxRecDepth 100000 in
set_option maxHeartbeats 400000 in
theorem ref_Valid (s : ByteArray) (w : World) (hs : s.size ≤ 9223372036854775807) : Calls Tryz.prog 89 #[.string s] w fun e w' => e = .returned (.bool (validR s)) ∧ Old w w' := by
 obtain ⟨ANS, hANS⟩ : ∃ A, Hid (validR s = A) := ⟨_, hide rfl⟩
 rw [hANS.out]
 go_enter Tryz.func89, Tryz.ntmps89
 go_wp2_with fail
 go_loopw [0] (fun v wr => ∃ t : ByteArray, v = .string t ∧ t.size ≤ 9223372036854775807 ∧ Hid (validR t = ANS) ∧ Hid (Old w wr)) (fun v _ => match v with | .string t => t.size | _ => 0)
 case atStart => exact ⟨s, rfl, hs, hANS, hide (Old.refl _)⟩
 case round =>
  clear hs hANS
  obtain ⟨t, rfl, hts, HV, HO⟩ := hrel
  have CN := hide (next_run t wr)
  by_cases h0 : t.size = 0
  · have FIN := hide (show true = ANS by rw [← HV.out, validR_none h0])
    have h0' : ¬ (0 : Int) < (t.size : Int) := by omega
    clear h0
    go_wp2_with fail
    go_ret
    exact ⟨ret_bool FIN.out, HO.out⟩
  · have h0' : (0 : Int) < (t.size : Int) := by omega
    have hbd := nextN_bd t
    have hb4 := nextN_four t
    by_cases h1 : nextN t = 0
    · have FIN := hide (show false = ANS by rw [← HV.out, validR_bad h0 h1])
      unfold nextVal at CN
      rw [if_pos h1] at CN
      clear h0 h1
      go_wp2_with fail
      refine CN.out.mono ?_
      rintro e w1 ⟨rfl, o1⟩
      go_wp2_with fail
      go_ret
      exact ⟨ret_bool FIN.out, Old.trans HO.out o1⟩
    · have HST := hide (validR_step h0 h1)
      unfold nextVal at CN
      rw [if_neg h1] at CN
      have hpos : 1 ≤ nextN t := by omega
      obtain ⟨n, hn⟩ : ∃ n, Hid (nextN t = n) := ⟨_, hide rfl⟩
      obtain ⟨r, hr⟩ : ∃ r, Hid (numAt t (nextN t) = r) := ⟨_, hide rfl⟩
      rw [hr.out, hn.out] at CN
      rw [hn.out] at HST hbd hb4 hpos
      have hrest := ext_rest t n
      have HRS := hide hrest
      clear h0 h1 hrest
      go_wp2_with fail
      refine CN.out.mono ?_
      rintro e w1 ⟨rfl, o1⟩
      have O1 := hide (Old.trans HO.out o1)
      clear o1
      go_wp2_with fail
      go_roundw
      case rel => exact ⟨_, rfl, by rw [HRS.out]; omega, hide (by rw [← HST.out, HV.out]), O1⟩
      case measure =>
       show (t.extract n t.size).size < t.size
       rw [HRS.out]
       omega
end Go.Proofs.YthlfljmfggmfdaaGreatDoor
namespace Go.Proofs.YthlfljmfggmfdaaGreatDoor
open Go.RowKit
theorem strOf_eq (xs : List Int) (ys : List UInt8) (h : ∀ x ∈ xs, 0 ≤ x ∧ x < 256) : strOfNums xs = ⟨ys.toArray⟩ ↔ xs = ys.map (fun y => (y.toNat : Int)) := by
 constructor
 · intro e
   have e2 : xs.map (fun n => UInt8.ofNat n.toNat) = ys := by
    have := congrArg (fun s : ByteArray => s.data.toList) e
    simpa [strOfNums] using this
   rw [← e2, List.map_map]
   symm
   have : ∀ x ∈ xs, ((fun y : UInt8 => (y.toNat : Int)) ∘ fun n : Int => UInt8.ofNat n.toNat) x = x := by
    intro x hx
    obtain ⟨h1, h2⟩ := h x hx
    simp only [Function.comp]
    rw [UInt8.toNat_ofNat']
    omega
   calc xs.map _ = xs.map id := List.map_congr_left this
    _ = xs := List.map_id _
 · rintro rfl
   simp [strOfNums, List.map_map, Function.comp_def]
theorem putL_bd (n : Nat) (h : n ≤ 1114111) : ∀ x ∈ putL n, 0 ≤ x ∧ x < 256 := by
 intro x hx
 unfold putL at hx
 split at hx
 · simp at hx; omega
 · split at hx
   · simp at hx; omega
   · split at hx
     · simp at hx; omega
     · simp at hx; omega
theorem scalar_le {n : Nat} (h : scalarB n = true) : n ≤ 1114111 := by
 unfold scalarB at h
 simp at h
 exact h.1
def txt (l : List UInt8) : ByteArray := ⟨l.toArray⟩
theorem txt_size (l : List UInt8) : (txt l).size = l.length := by simp [txt, ByteArray.size]
theorem txt_ext (l : List UInt8) (n : Nat) : (txt l).extract 0 n = txt (l.take n) := by
 apply bytes_ext
 simp [txt, ByteArray.toList_eq, ByteArray.data_extract]
theorem hit_txt (l : List UInt8) (n : Nat) (hn : n ≤ l.length) : hit (txt l) n = (scalarB (numAt (txt l) n) && decide (putL (numAt (txt l) n) = (l.take n).map (fun y => (y.toNat : Int)))) := by
 unfold hit
 rw [decide_eq_true (by rw [txt_size]; exact hn), Bool.true_and]
 cases hs : scalarB (numAt (txt l) n)
 · rfl
 · rw [Bool.true_and, Bool.true_and, txt_ext]
   rw [decide_eq_decide]
   exact strOf_eq _ _ (putL_bd _ (scalar_le hs))
theorem num1 (a : UInt8) (r : List UInt8) : numAt (txt (a :: r)) 1 = a.toNat := by
 unfold numAt
 rw [txt_ext]
 simp [numTo, modOf, txt, ByteArray.get!, ByteArray.size]
theorem num2 (a b : UInt8) (r : List UInt8) : numAt (txt (a :: b :: r)) 2 = 64 * (a.toNat % 32) + b.toNat % 64 := by
 unfold numAt
 rw [txt_ext]
 simp [numTo, modOf, txt, ByteArray.get!, ByteArray.size]
theorem num3 (a b c : UInt8) (r : List UInt8) : numAt (txt (a :: b :: c :: r)) 3 = 64 * (64 * (a.toNat % 16) + b.toNat % 64) + c.toNat % 64 := by
 unfold numAt
 rw [txt_ext]
 simp [numTo, modOf, txt, ByteArray.get!, ByteArray.size]
theorem num4 (a b c d : UInt8) (r : List UInt8) : numAt (txt (a :: b :: c :: d :: r)) 4 = 64 * (64 * (64 * (a.toNat % 8) + b.toNat % 64) + c.toNat % 64) + d.toNat % 64 := by
 unfold numAt
 rw [txt_ext]
 simp [numTo, modOf, txt, ByteArray.get!, ByteArray.size]
theorem hit1 (a : UInt8) (r : List UInt8) : hit (txt (a :: r)) 1 = decide (a.toNat < 128) := by
 have := a.toNat_lt
 rw [hit_txt _ _ (by simp), num1, Bool.eq_iff_iff]
 unfold scalarB putL
 rw [if_neg (by omega), if_neg (by omega)]
 split <;> simp <;> omega
theorem hit2 (a b : UInt8) (r : List UInt8) : hit (txt (a :: b :: r)) 2 = decide (a.toNat / 32 = 6 ∧ b.toNat / 64 = 2 ∧ 128 ≤ 64 * (a.toNat % 32) + b.toNat % 64) := by
 have := a.toNat_lt
 have := b.toNat_lt
 rw [hit_txt _ _ (by simp), num2, Bool.eq_iff_iff]
 unfold scalarB putL
 rw [if_neg (by omega), if_neg (by omega)]
 split <;> simp <;> omega
theorem hit3 (a b c : UInt8) (r : List UInt8) : hit (txt (a :: b :: c :: r)) 3 = decide (a.toNat / 16 = 14 ∧ b.toNat / 64 = 2 ∧ c.toNat / 64 = 2 ∧ 2048 ≤ 64 * (64 * (a.toNat % 16) + b.toNat % 64) + c.toNat % 64 ∧ ¬ (55296 ≤ 64 * (64 * (a.toNat % 16) + b.toNat % 64) + c.toNat % 64 ∧ 64 * (64 * (a.toNat % 16) + b.toNat % 64) + c.toNat % 64 ≤ 57343)) := by
 have := a.toNat_lt
 have := b.toNat_lt
 have := c.toNat_lt
 rw [hit_txt _ _ (by simp), num3, Bool.eq_iff_iff]
 unfold scalarB putL
 rw [if_neg (by omega)]
 split
 · simp; omega
 · split <;> simp <;> omega
theorem hit4 (a b c d : UInt8) (r : List UInt8) : hit (txt (a :: b :: c :: d :: r)) 4 = decide (a.toNat / 8 = 30 ∧ b.toNat / 64 = 2 ∧ c.toNat / 64 = 2 ∧ d.toNat / 64 = 2 ∧ 65536 ≤ 64 * (64 * (64 * (a.toNat % 8) + b.toNat % 64) + c.toNat % 64) + d.toNat % 64 ∧ 64 * (64 * (64 * (a.toNat % 8) + b.toNat % 64) + c.toNat % 64) + d.toNat % 64 ≤ 1114111) := by
 have := a.toNat_lt
 have := b.toNat_lt
 have := c.toNat_lt
 have := d.toNat_lt
 rw [hit_txt _ _ (by simp), num4, Bool.eq_iff_iff]
 unfold scalarB putL
 split
 · simp; omega
 · split
   · simp; omega
   · split <;> simp <;> omega
theorem hit_short {l : List UInt8} {n : Nat} (h : l.length < n) : hit (txt l) n = false := by
 unfold hit
 rw [decide_eq_false (by rw [txt_size]; omega)]
 rfl
theorem valid_scalar (c : Nat) : Utf8.valid c = (decide (c < 55296) || (decide (57343 < c) && decide (c ≤ 1114111))) := by
 unfold Utf8.valid
 rw [Bool.eq_iff_iff]
 simp
 omega
theorem next_decode (l : List UInt8) (h : l ≠ []) : nextN (txt l) = if Utf8.decode (txt l) 0 = (65533, 1) then 0 else (Utf8.decode (txt l) 0).2 := by
 match l, h with
 | [a], _ =>
   have ha := a.toNat_lt
   unfold nextN
   rw [hit1, hit_short (n := 2) (by simp), hit_short (n := 3) (by simp), hit_short (n := 4) (by simp)]
   simp only [Utf8.decode, Utf8.runeError, txt_size]
   simp [txt, ByteArray.get!]
   split <;> simp <;> omega
 | [a, b], _ =>
   have ha := a.toNat_lt
   have hb := b.toNat_lt
   have e0 : (txt ([a, b])).get! 0 = a := rfl
   have e1 : (txt ([a, b])).get! 1 = b := rfl
   unfold nextN
   rw [hit1, hit2, hit_short (n := 3) (by simp), hit_short (n := 4) (by simp)]
   simp only [Utf8.decode, Utf8.runeError, txt_size, Nat.zero_add, e0, e1, List.length_cons, List.length_nil, valid_scalar]
   clear e0 e1
   generalize a.toNat = A at *
   generalize b.toNat = B at *
   simp only [decide_eq_true_eq, Bool.and_eq_true, Bool.or_eq_true, beq_iff_eq, Bool.false_eq_true, if_false, Nat.lt_irrefl, decide_false, Bool.false_and, Bool.and_false]
   repeat' split
   all_goals first | rfl | omega | exact absurd rfl ‹¬ ((65533, 1) : Nat × Nat) = (65533, 1)› | (simp only [Prod.mk.injEq] at *; omega)
 | [a, b, c], _ =>
   have ha := a.toNat_lt
   have hb := b.toNat_lt
   have hc := c.toNat_lt
   have e0 : (txt ([a, b, c])).get! 0 = a := rfl
   have e1 : (txt ([a, b, c])).get! 1 = b := rfl
   have e2 : (txt ([a, b, c])).get! 2 = c := rfl
   unfold nextN
   rw [hit1, hit2, hit3, hit_short (n := 4) (by simp)]
   simp only [Utf8.decode, Utf8.runeError, txt_size, Nat.zero_add, e0, e1, e2, List.length_cons, List.length_nil, valid_scalar]
   clear e0 e1 e2
   generalize a.toNat = A at *
   generalize b.toNat = B at *
   generalize c.toNat = C at *
   simp only [decide_eq_true_eq, Bool.and_eq_true, Bool.or_eq_true, beq_iff_eq, Bool.false_eq_true, if_false, Nat.lt_irrefl, decide_false, Bool.false_and, Bool.and_false]
   repeat' split
   all_goals first | rfl | omega | exact absurd rfl ‹¬ ((65533, 1) : Nat × Nat) = (65533, 1)› | (simp only [Prod.mk.injEq] at *; omega)
 | a :: b :: c :: d :: r, _ =>
   have ha := a.toNat_lt
   have hb := b.toNat_lt
   have hc := c.toNat_lt
   have hd := d.toNat_lt
   have e0 : (txt (a :: b :: c :: d :: r)).get! 0 = a := rfl
   have e1 : (txt (a :: b :: c :: d :: r)).get! 1 = b := rfl
   have e2 : (txt (a :: b :: c :: d :: r)).get! 2 = c := rfl
   have e3 : (txt (a :: b :: c :: d :: r)).get! 3 = d := rfl
   unfold nextN
   rw [hit1, hit2, hit3, hit4]
   simp only [Utf8.decode, Utf8.runeError, txt_size, Nat.zero_add, e0, e1, e2, e3, List.length_cons, valid_scalar]
   clear e0 e1 e2 e3
   generalize a.toNat = A at *
   generalize b.toNat = B at *
   generalize c.toNat = C at *
   generalize d.toNat = D at *
   simp only [decide_eq_true_eq, Bool.and_eq_true, Bool.or_eq_true, beq_iff_eq]
   repeat' split
   all_goals first | rfl | omega | exact absurd rfl ‹¬ ((65533, 1) : Nat × Nat) = (65533, 1)› | (simp only [Prod.mk.injEq] at *; omega)
theorem txt_of (s : ByteArray) : txt s.data.toList = s := by cases s; simp [txt]
theorem decode_pos (s : ByteArray) : 1 ≤ (Utf8.decode s 0).2 := by
 unfold Utf8.decode
 simp only
 repeat' split
 all_goals simp
theorem valid_steps : ∀ (k : Nat) (l : List UInt8), validN k (txt l) = Lib.validGoD k l
 | 0, _ => rfl
 | k + 1, l => by
   rw [validN, Lib.validGoD, txt_size]
   by_cases h : l = []
   · rw [if_pos (by rw [h]; rfl), if_pos h]
   · have hl : l.length ≠ 0 := fun e => h (List.eq_nil_of_length_eq_zero e)
     rw [if_neg hl, if_neg h, next_decode l h]
     have e : Lib.decodeL l = Utf8.decode (txt l) 0 := rfl
     rw [e]
     have hpos := decode_pos (txt l)
     generalize Utf8.decode (txt l) 0 = d at *
     obtain ⟨x, y⟩ := d
     by_cases hb : x = 65533 ∧ y = 1
     · obtain ⟨rfl, rfl⟩ := hb
       simp
     · have hne : ¬ ((x, y) : Nat × Nat) = (65533, 1) := by
        intro e
        injection e with e1 e2
        exact hb ⟨e1, e2⟩
       rw [if_neg hb, if_neg hne, if_neg (by simp only at hpos ⊢; omega)]
       have : (txt l).extract y l.length = txt (l.drop y) := by
        apply bytes_ext
        simp only [txt, ByteArray.toList_eq, ByteArray.data_extract]
        simp [List.take_of_length_le]
       simp only [this]
       exact valid_steps k _
theorem validR_vU (s : ByteArray) : validR s = vU s := by
 unfold validR vU Lib.validD
 have h := valid_steps s.size s.data.toList
 rw [txt_of] at h
 rw [h]
 rfl
theorem ref_Valid' (s : ByteArray) (w : World) (hs : s.size ≤ 9223372036854775807) : Calls Tryz.prog 89 #[.string s] w fun e w' => e = .returned (.bool (vU s)) ∧ Old w w' := by
 rw [← validR_vU]
 exact ref_Valid s w hs
end Go.Proofs.YthlfljmfggmfdaaGreatDoor
