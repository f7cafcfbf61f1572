/- The document's Put. -/
import Derived.Test.YtkefhhnbkhijgaaDoorRnum
import Derived.Laws.BytesArg
namespace Go.Proofs.YtkefhhnbkhijgaaDoor
open Go.RowKit

/-- a rune's bytes, as numbers -/
def putL (n : Nat) : List Int :=
  if 65536 ≤ n then [240 + (n : Int) / 262144, 128 + (n : Int) / 4096 % 64, 128 + (n : Int) / 64 % 64, 128 + (n : Int) % 64]
  else if 2048 ≤ n then [224 + (n : Int) / 4096, 128 + (n : Int) / 64 % 64, 128 + (n : Int) % 64]
  else if 128 ≤ n then [192 + (n : Int) / 64, 128 + (n : Int) % 64]
  else [(n : Int)]
def scalarB (n : Nat) : Bool := decide (n ≤ 1114111) && !(decide (55296 ≤ n) && decide (n ≤ 57343))
def putVal (n : Nat) : Value := if scalarB n then .tuple #[.string (strOfNums (putL n)), .bool true] else .tuple #[.string ⟨#[]⟩, .bool false]

set_option maxRecDepth 100000 in
set_option maxHeartbeats 400000 in
theorem put_4 (n : Nat) (w : World) (h1 : 65536 ≤ n) (h2 : n ≤ 1114111) : Calls Tryd.prog 76 #[.int .i32 n] w fun e w' => e = .returned (.tuple #[.string (strOfNums [240 + (n : Int) / 262144, 128 + (n : Int) / 4096 % 64, 128 + (n : Int) / 64 % 64, 128 + (n : Int) % 64]), .bool true]) ∧ Old w w' := by
  have a0 : ¬ (n : Int) < 0 := by omega
  have a1 : ¬ (1114111 : Int) < (n : Int) := by omega
  have a2 : ¬ (n : Int) ≤ 57343 := by omega
  have a3 : (65536 : Int) ≤ (n : Int) := by omega
  have KC := run_convert_bytes_arg (P := Tryd.prog) ((w.alloc (.cells #[.int .u8 ((n : Int) % 256)] 5)).alloc (.cells #[.int .u8 (240 + (n : Int) / 262144), .int .u8 (128 + (n : Int) / 4096 % 64), .int .u8 (128 + (n : Int) / 64 % 64), .int .u8 (128 + (n : Int) % 64)] 5)) 108 5 Tryd.underlying108 Tryd.underlying5 (w.heap.size + 1) 0 4 4 [240 + (n : Int) / 262144, 128 + (n : Int) / 4096 % 64, 128 + (n : Int) / 64 % 64, 128 + (n : Int) % 64] rfl (fun i hi => by match i, hi with | 0, _ => go_simp | 1, _ => go_simp | 2, _ => go_simp | 3, _ => go_simp) 9 Tryd.underlying9
  go_enter Tryd.func76, Tryd.ntmps76
  go_wp2_with fail
  go_ret2
  exact ⟨rfl, (((Old.refl w).alloc _).alloc _)⟩

set_option maxRecDepth 100000 in
set_option maxHeartbeats 400000 in
theorem put_3a (n : Nat) (w : World) (h1 : 2048 ≤ n) (h2 : n < 55296) : Calls Tryd.prog 76 #[.int .i32 n] w fun e w' => e = .returned (.tuple #[.string (strOfNums [224 + (n : Int) / 4096, 128 + (n : Int) / 64 % 64, 128 + (n : Int) % 64]), .bool true]) ∧ Old w w' := by
  have a0 : ¬ (n : Int) < 0 := by omega
  have a1 : ¬ (1114111 : Int) < (n : Int) := by omega
  have a2 : ¬ (55296 : Int) ≤ (n : Int) := by omega
  have a3 : ¬ (65536 : Int) ≤ (n : Int) := by omega
  have a4 : (2048 : Int) ≤ (n : Int) := by omega
  have KC := run_convert_bytes_arg (P := Tryd.prog) ((w.alloc (.cells #[.int .u8 ((n : Int) % 256)] 5)).alloc (.cells #[.int .u8 (224 + (n : Int) / 4096), .int .u8 (128 + (n : Int) / 64 % 64), .int .u8 (128 + (n : Int) % 64)] 5)) 108 5 Tryd.underlying108 Tryd.underlying5 (w.heap.size + 1) 0 3 3 [224 + (n : Int) / 4096, 128 + (n : Int) / 64 % 64, 128 + (n : Int) % 64] rfl (fun i hi => by match i, hi with | 0, _ => go_simp | 1, _ => go_simp | 2, _ => go_simp) 9 Tryd.underlying9
  go_enter Tryd.func76, Tryd.ntmps76
  go_wp2_with fail
  go_ret2
  exact ⟨rfl, (((Old.refl w).alloc _).alloc _)⟩

set_option maxRecDepth 100000 in
set_option maxHeartbeats 400000 in
theorem put_3b (n : Nat) (w : World) (h1 : 57343 < n) (h2 : n < 65536) : Calls Tryd.prog 76 #[.int .i32 n] w fun e w' => e = .returned (.tuple #[.string (strOfNums [224 + (n : Int) / 4096, 128 + (n : Int) / 64 % 64, 128 + (n : Int) % 64]), .bool true]) ∧ Old w w' := by
  have a0 : ¬ (n : Int) < 0 := by omega
  have a1 : ¬ (1114111 : Int) < (n : Int) := by omega
  have a2 : (55296 : Int) ≤ (n : Int) := by omega
  have a3 : ¬ (n : Int) ≤ 57343 := by omega
  have a4 : ¬ (65536 : Int) ≤ (n : Int) := by omega
  have a5 : (2048 : Int) ≤ (n : Int) := by omega
  have KC := run_convert_bytes_arg (P := Tryd.prog) ((w.alloc (.cells #[.int .u8 ((n : Int) % 256)] 5)).alloc (.cells #[.int .u8 (224 + (n : Int) / 4096), .int .u8 (128 + (n : Int) / 64 % 64), .int .u8 (128 + (n : Int) % 64)] 5)) 108 5 Tryd.underlying108 Tryd.underlying5 (w.heap.size + 1) 0 3 3 [224 + (n : Int) / 4096, 128 + (n : Int) / 64 % 64, 128 + (n : Int) % 64] rfl (fun i hi => by match i, hi with | 0, _ => go_simp | 1, _ => go_simp | 2, _ => go_simp) 9 Tryd.underlying9
  go_enter Tryd.func76, Tryd.ntmps76
  go_wp2_with fail
  go_ret2
  exact ⟨rfl, (((Old.refl w).alloc _).alloc _)⟩

set_option maxRecDepth 100000 in
set_option maxHeartbeats 400000 in
theorem put_2 (n : Nat) (w : World) (h1 : 128 ≤ n) (h2 : n < 2048) : Calls Tryd.prog 76 #[.int .i32 n] w fun e w' => e = .returned (.tuple #[.string (strOfNums [192 + (n : Int) / 64, 128 + (n : Int) % 64]), .bool true]) ∧ Old w w' := by
  have a0 : ¬ (n : Int) < 0 := by omega
  have a1 : ¬ (1114111 : Int) < (n : Int) := by omega
  have a2 : ¬ (55296 : Int) ≤ (n : Int) := by omega
  have a3 : ¬ (65536 : Int) ≤ (n : Int) := by omega
  have a4 : ¬ (2048 : Int) ≤ (n : Int) := by omega
  have a5 : (128 : Int) ≤ (n : Int) := by omega
  have KC := run_convert_bytes_arg (P := Tryd.prog) ((w.alloc (.cells #[.int .u8 ((n : Int) % 256)] 5)).alloc (.cells #[.int .u8 (192 + (n : Int) / 64), .int .u8 (128 + (n : Int) % 64)] 5)) 108 5 Tryd.underlying108 Tryd.underlying5 (w.heap.size + 1) 0 2 2 [192 + (n : Int) / 64, 128 + (n : Int) % 64] rfl (fun i hi => by match i, hi with | 0, _ => go_simp | 1, _ => go_simp) 9 Tryd.underlying9
  go_enter Tryd.func76, Tryd.ntmps76
  go_wp2_with fail
  go_ret2
  exact ⟨rfl, (((Old.refl w).alloc _).alloc _)⟩

set_option maxRecDepth 100000 in
set_option maxHeartbeats 400000 in
theorem put_1 (n : Nat) (w : World) (h2 : n < 128) : Calls Tryd.prog 76 #[.int .i32 n] w fun e w' => e = .returned (.tuple #[.string (strOfNums [(n : Int)]), .bool true]) ∧ Old w w' := by
  have a0 : ¬ (n : Int) < 0 := by omega
  have a1 : ¬ (1114111 : Int) < (n : Int) := by omega
  have a2 : ¬ (55296 : Int) ≤ (n : Int) := by omega
  have a3 : ¬ (65536 : Int) ≤ (n : Int) := by omega
  have a4 : ¬ (2048 : Int) ≤ (n : Int) := by omega
  have a5 : ¬ (128 : Int) ≤ (n : Int) := by omega
  have KC := run_convert_bytes_arg (P := Tryd.prog) (w.alloc (.cells #[.int .u8 (n : Int)] 5)) 108 5 Tryd.underlying108 Tryd.underlying5 w.heap.size 0 1 1 [(n : Int)] rfl (fun i hi => by match i, hi with | 0, _ => go_simp) 9 Tryd.underlying9
  go_enter Tryd.func76, Tryd.ntmps76
  go_wp2_with fail
  go_ret2
  exact ⟨rfl, ((Old.refl w).alloc _)⟩

set_option maxRecDepth 100000 in
set_option maxHeartbeats 400000 in
theorem put_great (n : Nat) (w : World) (h1 : 1114111 < n) (h2 : n < 2147483648) : Calls Tryd.prog 76 #[.int .i32 n] w fun e w' => e = .returned (.tuple #[.string ⟨#[]⟩, .bool false]) ∧ Old w w' := by
  have a0 : ¬ (n : Int) < 0 := by omega
  have a1 : (1114111 : Int) < (n : Int) := by omega
  go_enter Tryd.func76, Tryd.ntmps76
  go_wp2_with fail
  go_ret2
  exact ⟨rfl, Old.refl w⟩

set_option maxRecDepth 100000 in
set_option maxHeartbeats 400000 in
theorem put_half (n : Nat) (w : World) (h1 : 55296 ≤ n) (h2 : n ≤ 57343) : Calls Tryd.prog 76 #[.int .i32 n] w fun e w' => e = .returned (.tuple #[.string ⟨#[]⟩, .bool false]) ∧ Old w w' := by
  have a0 : ¬ (n : Int) < 0 := by omega
  have a1 : ¬ (1114111 : Int) < (n : Int) := by omega
  have a2 : (55296 : Int) ≤ (n : Int) := by omega
  have a3 : (n : Int) ≤ 57343 := by omega
  go_enter Tryd.func76, Tryd.ntmps76
  go_wp2_with fail
  go_ret2
  exact ⟨rfl, Old.refl w⟩

theorem rput_run (n : Nat) (w : World) (hn : n < 2147483648) : Calls Tryd.prog 76 #[.int .i32 n] w fun e w' => e = .returned (putVal n) ∧ Old w w' := by
  by_cases h1 : 1114111 < n
  · have e : putVal n = .tuple #[.string ⟨#[]⟩, .bool false] := by unfold putVal scalarB; rw [if_neg (by simp; omega)]
    rw [e]
    exact put_great n w h1 hn
  · by_cases h2 : 55296 ≤ n ∧ n ≤ 57343
    · have e : putVal n = .tuple #[.string ⟨#[]⟩, .bool false] := by unfold putVal scalarB; rw [if_neg (by simp; omega)]
      rw [e]
      exact put_half n w h2.1 h2.2
    · have e : putVal n = .tuple #[.string (strOfNums (putL n)), .bool true] := by unfold putVal scalarB; rw [if_pos (by simp; omega)]
      rw [e]
      unfold putL
      split
      · exact put_4 n w (by omega) (by omega)
      · split
        · by_cases h3 : n < 55296
          · exact put_3a n w (by omega) h3
          · exact put_3b n w (by omega) (by omega)
        · split
          · exact put_2 n w (by omega) (by omega)
          · exact put_1 n w (by omega)
end Go.Proofs.YtkefhhnbkhijgaaDoor
