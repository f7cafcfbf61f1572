/- The document's digits of a number: they are those of the library's numeral. -/
import Derived.Test.YtmolmphbhdbcaaaDoorBase
import Derived.Test.YtmolmphbhdbcaaaDoorProg
import Derived.Test.YtmolmphbhdbcaaaDoorShowL
import Derived.Lib.ItoaNum
namespace Go.Proofs.YtmolmphbhdbcaaaDoor
open Go.RowKit

/-- the digits of a number that is not 0; none of 0 -/
def decD (u : Nat) : List UInt8 := if u = 0 then [] else Lib.decDigits u
theorem decD_step {u : Nat} (h : u ≠ 0) : decD u = decD (u / 10) ++ [UInt8.ofNat (48 + u % 10)] := by
  unfold decD
  rw [if_neg h]
  by_cases h10 : u < 10
  · rw [if_pos (by omega), Lib.decDigits_one h10, Nat.mod_eq_of_lt h10]
    rfl
  · rw [if_neg (by omega)]
    conv => lhs; rw [Lib.decDigits]
    rw [dif_neg h10]
theorem decD_len (u : Nat) (h : u ≤ 9223372036854775808) : (decD u).length ≤ 20 := by
  unfold decD
  split
  · simp
  · have h1 := itoa_len (n := -(u : Int)) (by omega) (by omega)
    unfold Lib.itoa at h1
    rw [if_pos (by omega)] at h1
    simp only [List.length_cons, Int.natAbs_neg, Int.natAbs_natCast] at h1
    omega
theorem dig_at {k : Nat} (h : k < 10) : (⟨#[48, 49, 50, 51, 52, 53, 54, 55, 56, 57]⟩ : ByteArray).extract k (k + 1) = ⟨#[UInt8.ofNat (48 + k)]⟩ := by
  have key : ∀ k : Fin 10, (⟨#[48, 49, 50, 51, 52, 53, 54, 55, 56, 57]⟩ : ByteArray).extract k.val (k.val + 1) = ⟨#[UInt8.ofNat (48 + k.val)]⟩ := by decide +kernel
  exact key ⟨k, h⟩
theorem dig_app (k : Nat) (l : List UInt8) : (⟨#[48 + UInt8.ofNat k]⟩ : ByteArray) ++ ⟨l.toArray⟩ = ⟨(UInt8.ofNat (48 + k) :: l).toArray⟩ := by
  apply ByteArray.ext
  simp
theorem bytes_app (a b : List UInt8) : (⟨a.toArray⟩ : ByteArray) ++ ⟨b.toArray⟩ = ⟨(a ++ b).toArray⟩ := by
  apply ByteArray.ext
  simp

set_option maxRecDepth 100000 in
set_option maxHeartbeats 1000000 in
theorem digits_pos (n : Nat) (h0 : 0 < n) (hn : n ≤ 9223372036854775807) (w : World) : Calls Tryd.prog 52 #[.int .i64 n] w fun e w' => e = .returned (.string ⟨(Lib.itoa n).toArray⟩) ∧ Old w w' := by
  have FIN := hide (show decD n = Lib.itoa n by
    unfold decD Lib.itoa
    rw [if_neg (by omega), if_neg (by omega), Int.toNat_natCast])
  go_enter Tryd.func52, Tryd.ntmps52
  go_wp2_with fail
  go_loopw [3, 4] (fun sv kv wr => ∃ (a : Nat) (l : List UInt8), sv = .string ⟨l.toArray⟩ ∧ kv = .int .i64 a ∧ a ≤ n ∧ Hid (decD a ++ l = decD n) ∧ Hid (Old w wr)) (fun _ kv _ => (intOf kv).toNat)
  case atStart => exact ⟨n, [], rfl, rfl, Nat.le_refl _, hide (by simp), hide (Old.refl _)⟩
  case round =>
    obtain ⟨a, l, rfl, rfl, ha, HL, HO⟩ := hrel
    rcases Nat.eq_zero_or_pos a with h | h
    · subst h
      have hl : Lib.itoa n = l := by have := HL.out; rw [FIN.out] at this; simpa [decD] using this.symm
      have hn0 : ((n : Int) == 0) = false := beq_eq_false_iff_ne.2 (by omega)
      have hneg : ¬ (n : Int) < 0 := by omega
      go_wp2_with fail
      go_ret
      exact ⟨by first | rfl | rw [hl], HO.out⟩
    · have ha0 : ((a : Int) == 0) = false := beq_eq_false_iff_ne.2 (by omega)
      have hst := decD_step (u := a) (by omega)
      have HN := hide (show decD (a / 10) ++ (UInt8.ofNat (48 + a % 10) :: l) = decD n by rw [← HL.out, hst]; simp)
      have hlen : l.length ≤ 20 := by
        have h1 := decD_len n (by omega)
        rw [← HL.out, List.length_append] at h1
        omega
      have hd := dig_at (k := a % 10) (by omega)
      have hnn : ¬ ((a % 10 : Nat) : Int) < 0 := by omega
      have HA := hide (bytes_app [UInt8.ofNat (48 + a % 10)] l)
      have hsz : (⟨l.toArray⟩ : ByteArray).size ≤ 20 := by simpa [ByteArray.size] using hlen
      clear hst
      have hd2 : (⟨#[48, 49, 50, 51, 52, 53, 54, 55, 56, 57]⟩ : ByteArray).extract (a % 10) (a % 10 + 1) = ⟨#[48 + UInt8.ofNat (a % 10)]⟩ := by rw [hd]; congr 2; simp
      have he := dig_app (a % 10) l
      clear hd
      go_wp2_with fail
      go_roundw
      case rel => exact ⟨a / 10, UInt8.ofNat (48 + a % 10) :: l, by first | rfl | simp, by go_num, by omega, HN, HO⟩
      case measure => simp [intOf]; omega
set_option maxRecDepth 100000 in
set_option maxHeartbeats 1000000 in
theorem digits_neg (n : Nat) (h0 : 0 < n) (hn : n ≤ 9223372036854775808) (w : World) : Calls Tryd.prog 52 #[.int .i64 (-(n : Int))] w fun e w' => e = .returned (.string ⟨(Lib.itoa (-(n : Int))).toArray⟩) ∧ Old w w' := by
  have FIN := hide (show 45 :: decD n = Lib.itoa (-(n : Int)) by
    unfold decD Lib.itoa
    rw [if_neg (by omega), if_pos (by omega)]
    simp)
  obtain ⟨N, hN⟩ : ∃ N : Int, N = -(n : Int) := ⟨_, rfl⟩
  rw [← hN]
  rw [← hN] at FIN
  go_enter Tryd.func52, Tryd.ntmps52
  go_wp2_with fail
  go_loopw [3, 4] (fun sv kv wr => ∃ (a : Nat) (l : List UInt8) (A : Int), sv = .string ⟨l.toArray⟩ ∧ kv = .int .i64 A ∧ A = -(a : Int) ∧ a ≤ n ∧ Hid (decD a ++ l = decD n) ∧ Hid (Old w wr)) (fun _ kv _ => (intOf kv).natAbs)
  case atStart => exact ⟨n, [], N, rfl, rfl, hN, Nat.le_refl _, hide (by simp), hide (Old.refl _)⟩
  case round =>
    obtain ⟨a, l, A, rfl, rfl, hA, ha, HL, HO⟩ := hrel
    rcases Nat.eq_zero_or_pos a with h | h
    · obtain rfl : A = 0 := by omega
      subst h
      have hl : decD n = l := by have := HL.out; simpa [decD] using this.symm
      have hl2 := FIN.out
      rw [hl] at hl2
      have hsz : (⟨l.toArray⟩ : ByteArray).size ≤ 20 := by
        have := decD_len n hn
        rw [hl] at this
        simpa [ByteArray.size] using this
      have hn0 : (N == 0) = false := beq_eq_false_iff_ne.2 (by omega)
      have hneg : N < 0 := by omega
      have hlen : l.length ≤ 20 := by have := decD_len n hn; rwa [hl] at this
      clear hN hA hl
      go_wp2_with fail
      go_ret
      exact ⟨by rw [← hl2]; first | rfl | simp, HO.out⟩
    · have ha0 : (A == 0) = false := beq_eq_false_iff_ne.2 (by omega)
      have hst := decD_step (u := a) (by omega)
      have HN := hide (show decD (a / 10) ++ (UInt8.ofNat (48 + a % 10) :: l) = decD n by rw [← HL.out, hst]; simp)
      have hlen : l.length ≤ 20 := by
        have h1 := decD_len n (by omega)
        rw [← HL.out, List.length_append] at h1
        omega
      obtain ⟨r, hr⟩ : ∃ r, Hid (a % 10 = r) := ⟨_, hide rfl⟩
      have hr10 : r < 10 := by rw [← hr.out]; omega
      rw [hr.out] at HN
      have hd := dig_at hr10
      have hd2 : (⟨#[48, 49, 50, 51, 52, 53, 54, 55, 56, 57]⟩ : ByteArray).extract r (r + 1) = ⟨#[48 + UInt8.ofNat r]⟩ := by rw [hd]; congr 2; simp
      have he := dig_app r l
      have hm : A.tmod 10 = -(r : Int) := by
        rw [hA, Int.neg_tmod, ← hr.out]
        rfl
      obtain ⟨B, hB⟩ : ∃ B : Int, Hid (B = -((a / 10 : Nat) : Int)) := ⟨_, hide rfl⟩
      have hq : A.tdiv 10 = B := by
        rw [hA, hB.out, Int.neg_tdiv]
        rfl
      have hA2 := hide hA
      have hbd : -9223372036854775808 ≤ A ∧ A ≤ 0 := by omega
      have hbb : -9223372036854775808 ≤ B ∧ B ≤ 0 := by rw [hB.out]; omega
      have hN2 := hide hN
      have hba := hide (show B.natAbs < A.natAbs by rw [hB.out, hA]; omega)
      clear hd hst hA hN
      by_cases hz : r = 0
      · subst hz
        have hm0 : A.tmod 10 = 0 := hm
        clear hm hd2 he
        go_wp2_with fail
        go_roundw
        case rel => exact ⟨a / 10, 48 :: l, B, by first | rfl | simp, rfl, hB.out, by omega, HN, HO⟩
        case measure => simp [intOf]; exact hba.out
      · have hlt : -(r : Int) < 0 := by omega
        go_wp2_with fail
        go_roundw
        case rel => exact ⟨a / 10, UInt8.ofNat (48 + r) :: l, B, by first | rfl | simp, rfl, hB.out, by omega, HN, HO⟩
        case measure => simp [intOf]; exact hba.out
theorem digits_zero (w : World) : Calls Tryd.prog 52 #[.int .i64 0] w fun e w' => e = .returned (.string ⟨(Lib.itoa 0).toArray⟩) ∧ Old w w' := by
  have e : Lib.itoa 0 = [48] := by kernel_rfl
  rw [e]
  go_enter Tryd.func52, Tryd.ntmps52
  go_wp2_with fail
  go_loopw [3, 4] (fun sv kv wr => sv = .string ⟨#[]⟩ ∧ kv = .int .i64 0 ∧ Hid (Old w wr)) (fun _ kv _ => (intOf kv).natAbs)
  case atStart => exact ⟨rfl, rfl, hide (Old.refl _)⟩
  case round =>
    obtain ⟨rfl, rfl, HO⟩ := hrel
    go_wp2_with fail
    go_ret
    exact ⟨rfl, HO.out⟩
theorem digits_run (n : Int) (h0 : -9223372036854775808 ≤ n) (h1 : n ≤ 9223372036854775807) (w : World) : Calls Tryd.prog 52 #[.int .i64 n] w fun e w' => e = .returned (.string ⟨(Lib.itoa n).toArray⟩) ∧ Old w w' := by
  rcases Int.lt_trichotomy n 0 with h | h | h
  · obtain ⟨a, rfl⟩ : ∃ a : Nat, n = -(a : Int) := ⟨n.natAbs, by omega⟩
    exact digits_neg a (by omega) (by omega) w
  · subst h
    exact digits_zero w
  · obtain ⟨a, rfl⟩ : ∃ a : Nat, n = (a : Int) := ⟨n.toNat, by omega⟩
    exact digits_pos a (by omega) (by omega) w
end Go.Proofs.YtmolmphbhdbcaaaDoor
