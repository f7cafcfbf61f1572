/- The document's digits of an escape: digit, half. -/
import Derived.Test.YtdlcibbbebhcoaaGreatDoorUnquW
import Derived.Test.YtdlcibbbebhcoaaGreatDoorRefV
/-! ### The document's digits of an escape: digit, half. -/
namespace Go.Proofs.YtdlcibbbebhcoaaGreatDoor
open Go.RowKit

def lowN (m : Nat) : Nat := if m < 10 then 48 + m else 87 + m
def upN (m : Nat) : Nat := if m < 10 then 48 + m else 55 + m
def hexAt (m : Nat) (c : UInt8) : Prop := c.toNat = lowN m ∨ c.toNat = upN m
def hexI (c : UInt8) : Int := match hexV c with
  | some k => (k : Int)
  | none => -1
theorem hex_yes {m : Nat} {c : UInt8} (hm : m < 16) (h : hexAt m c) : hexI c = (m : Int) := by
  unfold hexAt lowN upN at h
  unfold hexI hexV
  split at h
  · rw [if_pos (by omega)]
    simp only
    omega
  · rcases h with h | h
    · rw [if_neg (by omega), if_pos (by omega)]
      simp only
      omega
    · rw [if_neg (by omega), if_neg (by omega), if_pos (by omega)]
      simp only
      omega
theorem hex_no {c : UInt8} (h : ∀ m, m < 16 → ¬ hexAt m c) : hexI c = -1 := by
  have h1 : ∀ m, m < 16 → c.toNat ≠ lowN m ∧ c.toNat ≠ upN m := fun m hm => ⟨fun e => h m hm (.inl e), fun e => h m hm (.inr e)⟩
  unfold hexI hexV
  have n1 : ¬ (48 ≤ c.toNat ∧ c.toNat ≤ 57) := fun hc => (h1 (c.toNat - 48) (by omega)).1 (by unfold lowN; rw [if_pos (by omega)]; omega)
  have n2 : ¬ (97 ≤ c.toNat ∧ c.toNat ≤ 102) := fun hc => (h1 (c.toNat - 87) (by omega)).1 (by unfold lowN; rw [if_neg (by omega)]; omega)
  have n3 : ¬ (65 ≤ c.toNat ∧ c.toNat ≤ 70) := fun hc => (h1 (c.toNat - 55) (by omega)).2 (by unfold upN; rw [if_neg (by omega)]; omega)
  rw [if_neg n1, if_neg n2, if_neg n3]
set_option maxRecDepth 100000 in
set_option maxHeartbeats 4000000 in
theorem rdigit_run (c : UInt8) (w : World) : Calls Tryz.prog 84 #[.int .u8 (c.toNat : Int)] w fun e w' => e = .returned (.int .i64 (hexI c)) ∧ Old w w' := by
  obtain ⟨x, hx⟩ : ∃ x : Nat, Hid (c.toNat = x) := ⟨_, hide rfl⟩
  have HY := hide (fun (m : Nat) (hm : m < 16) (h : x = lowN m ∨ x = upN m) => hex_yes (c := c) hm (by unfold hexAt; rw [hx.out]; exact h))
  have HNO := hide (fun (h : ∀ m, m < 16 → ¬ (x = lowN m ∨ x = upN m)) => hex_no (c := c) fun m hm => by unfold hexAt; rw [hx.out]; exact h m hm)
  have hxi : (c.toNat : Int) = (x : Int) := by rw [hx.out]
  rw [hxi]
  clear hxi
  go_enter Tryz.func84, Tryz.ntmps84
  go_wp2_with fail
  go_loopw [3] (fun i wr => ∃ k : Nat, i = .int .i64 k ∧ k ≤ 16 ∧ Hid (∀ m, m < k → ¬ (x = lowN m ∨ x = upN m)) ∧ Hid (Old w wr)) (fun i _ => 16 - (intOf i).toNat)
  case atStart => exact ⟨0, rfl, by omega, hide (fun m h => by omega), hide (Old.refl _)⟩
  case round =>
    obtain ⟨k, rfl, hk, HK, HO⟩ := hrel
    by_cases hlt : k < 16
    · by_cases hh : x = lowN k ∨ x = upN k
      · have FIN := hide (HY.out k hlt hh)
        have h16 : k = 0 ∨ k = 1 ∨ k = 2 ∨ k = 3 ∨ k = 4 ∨ k = 5 ∨ k = 6 ∨ k = 7 ∨ k = 8 ∨ k = 9 ∨ k = 10 ∨ k = 11 ∨ k = 12 ∨ k = 13 ∨ k = 14 ∨ k = 15 := by omega
        clear HK hk hlt
        rcases h16 with rfl | rfl | rfl | rfl | rfl | rfl | rfl | rfl | rfl | rfl | rfl | rfl | rfl | rfl | rfl | rfl
        · obtain rfl : x = 48 := by unfold lowN upN at hh; simp at hh; omega
          go_wp2_with fail
          go_ret
          exact ⟨by rw [FIN.out]; rfl, HO.out⟩
        · obtain rfl : x = 49 := by unfold lowN upN at hh; simp at hh; omega
          go_wp2_with fail
          go_ret
          exact ⟨by rw [FIN.out]; rfl, HO.out⟩
        · obtain rfl : x = 50 := by unfold lowN upN at hh; simp at hh; omega
          go_wp2_with fail
          go_ret
          exact ⟨by rw [FIN.out]; rfl, HO.out⟩
        · obtain rfl : x = 51 := by unfold lowN upN at hh; simp at hh; omega
          go_wp2_with fail
          go_ret
          exact ⟨by rw [FIN.out]; rfl, HO.out⟩
        · obtain rfl : x = 52 := by unfold lowN upN at hh; simp at hh; omega
          go_wp2_with fail
          go_ret
          exact ⟨by rw [FIN.out]; rfl, HO.out⟩
        · obtain rfl : x = 53 := by unfold lowN upN at hh; simp at hh; omega
          go_wp2_with fail
          go_ret
          exact ⟨by rw [FIN.out]; rfl, HO.out⟩
        · obtain rfl : x = 54 := by unfold lowN upN at hh; simp at hh; omega
          go_wp2_with fail
          go_ret
          exact ⟨by rw [FIN.out]; rfl, HO.out⟩
        · obtain rfl : x = 55 := by unfold lowN upN at hh; simp at hh; omega
          go_wp2_with fail
          go_ret
          exact ⟨by rw [FIN.out]; rfl, HO.out⟩
        · obtain rfl : x = 56 := by unfold lowN upN at hh; simp at hh; omega
          go_wp2_with fail
          go_ret
          exact ⟨by rw [FIN.out]; rfl, HO.out⟩
        · obtain rfl : x = 57 := by unfold lowN upN at hh; simp at hh; omega
          go_wp2_with fail
          go_ret
          exact ⟨by rw [FIN.out]; rfl, HO.out⟩
        · rcases (show x = 97 ∨ x = 65 by unfold lowN upN at hh; simp at hh; omega) with rfl | rfl
          · go_wp2_with fail
            go_ret
            exact ⟨by rw [FIN.out]; rfl, HO.out⟩
          · go_wp2_with fail
            go_ret
            exact ⟨by rw [FIN.out]; rfl, HO.out⟩
        · rcases (show x = 98 ∨ x = 66 by unfold lowN upN at hh; simp at hh; omega) with rfl | rfl
          · go_wp2_with fail
            go_ret
            exact ⟨by rw [FIN.out]; rfl, HO.out⟩
          · go_wp2_with fail
            go_ret
            exact ⟨by rw [FIN.out]; rfl, HO.out⟩
        · rcases (show x = 99 ∨ x = 67 by unfold lowN upN at hh; simp at hh; omega) with rfl | rfl
          · go_wp2_with fail
            go_ret
            exact ⟨by rw [FIN.out]; rfl, HO.out⟩
          · go_wp2_with fail
            go_ret
            exact ⟨by rw [FIN.out]; rfl, HO.out⟩
        · rcases (show x = 100 ∨ x = 68 by unfold lowN upN at hh; simp at hh; omega) with rfl | rfl
          · go_wp2_with fail
            go_ret
            exact ⟨by rw [FIN.out]; rfl, HO.out⟩
          · go_wp2_with fail
            go_ret
            exact ⟨by rw [FIN.out]; rfl, HO.out⟩
        · rcases (show x = 101 ∨ x = 69 by unfold lowN upN at hh; simp at hh; omega) with rfl | rfl
          · go_wp2_with fail
            go_ret
            exact ⟨by rw [FIN.out]; rfl, HO.out⟩
          · go_wp2_with fail
            go_ret
            exact ⟨by rw [FIN.out]; rfl, HO.out⟩
        · rcases (show x = 102 ∨ x = 70 by unfold lowN upN at hh; simp at hh; omega) with rfl | rfl
          · go_wp2_with fail
            go_ret
            exact ⟨by rw [FIN.out]; rfl, HO.out⟩
          · go_wp2_with fail
            go_ret
            exact ⟨by rw [FIN.out]; rfl, HO.out⟩
      · have HK' := hide (show ∀ m, m < k + 1 → ¬ (x = lowN m ∨ x = upN m) from fun m hm => by
          rcases Nat.lt_or_ge m k with h | h
          · exact HK.out m h
          · have e : m = k := by omega
            rw [e]
            exact hh)
        have h16 : k = 0 ∨ k = 1 ∨ k = 2 ∨ k = 3 ∨ k = 4 ∨ k = 5 ∨ k = 6 ∨ k = 7 ∨ k = 8 ∨ k = 9 ∨ k = 10 ∨ k = 11 ∨ k = 12 ∨ k = 13 ∨ k = 14 ∨ k = 15 := by omega
        clear HK hk hlt
        rcases h16 with rfl | rfl | rfl | rfl | rfl | rfl | rfl | rfl | rfl | rfl | rfl | rfl | rfl | rfl | rfl | rfl
        · have h0 : x ≠ 48 ∧ x ≠ 48 := by unfold lowN upN at hh; simp at hh; omega
          have q1 : ((⟨#[48, 49, 50, 51, 52, 53, 54, 55, 56, 57, 97, 98, 99, 100, 101, 102]⟩ : ByteArray)[0]'(by decide)).toNat = 48 := rfl
          have q2 : ((⟨#[48, 49, 50, 51, 52, 53, 54, 55, 56, 57, 65, 66, 67, 68, 69, 70]⟩ : ByteArray)[0]'(by decide)).toNat = 48 := rfl
          have b1 : ¬ (x : Int) = 48 := by omega
          clear hh h0
          go_wp2_with fail
          go_roundw
          case rel => exact ⟨1, rfl, by omega, HK', HO⟩
          case measure => simp [intOf]
        · have h0 : x ≠ 49 ∧ x ≠ 49 := by unfold lowN upN at hh; simp at hh; omega
          have q1 : ((⟨#[48, 49, 50, 51, 52, 53, 54, 55, 56, 57, 97, 98, 99, 100, 101, 102]⟩ : ByteArray)[1]'(by decide)).toNat = 49 := rfl
          have q2 : ((⟨#[48, 49, 50, 51, 52, 53, 54, 55, 56, 57, 65, 66, 67, 68, 69, 70]⟩ : ByteArray)[1]'(by decide)).toNat = 49 := rfl
          have b1 : ¬ (x : Int) = 49 := by omega
          clear hh h0
          go_wp2_with fail
          go_roundw
          case rel => exact ⟨2, rfl, by omega, HK', HO⟩
          case measure => simp [intOf]
        · have h0 : x ≠ 50 ∧ x ≠ 50 := by unfold lowN upN at hh; simp at hh; omega
          have q1 : ((⟨#[48, 49, 50, 51, 52, 53, 54, 55, 56, 57, 97, 98, 99, 100, 101, 102]⟩ : ByteArray)[2]'(by decide)).toNat = 50 := rfl
          have q2 : ((⟨#[48, 49, 50, 51, 52, 53, 54, 55, 56, 57, 65, 66, 67, 68, 69, 70]⟩ : ByteArray)[2]'(by decide)).toNat = 50 := rfl
          have b1 : ¬ (x : Int) = 50 := by omega
          clear hh h0
          go_wp2_with fail
          go_roundw
          case rel => exact ⟨3, rfl, by omega, HK', HO⟩
          case measure => simp [intOf]
        · have h0 : x ≠ 51 ∧ x ≠ 51 := by unfold lowN upN at hh; simp at hh; omega
          have q1 : ((⟨#[48, 49, 50, 51, 52, 53, 54, 55, 56, 57, 97, 98, 99, 100, 101, 102]⟩ : ByteArray)[3]'(by decide)).toNat = 51 := rfl
          have q2 : ((⟨#[48, 49, 50, 51, 52, 53, 54, 55, 56, 57, 65, 66, 67, 68, 69, 70]⟩ : ByteArray)[3]'(by decide)).toNat = 51 := rfl
          have b1 : ¬ (x : Int) = 51 := by omega
          clear hh h0
          go_wp2_with fail
          go_roundw
          case rel => exact ⟨4, rfl, by omega, HK', HO⟩
          case measure => simp [intOf]
        · have h0 : x ≠ 52 ∧ x ≠ 52 := by unfold lowN upN at hh; simp at hh; omega
          have q1 : ((⟨#[48, 49, 50, 51, 52, 53, 54, 55, 56, 57, 97, 98, 99, 100, 101, 102]⟩ : ByteArray)[4]'(by decide)).toNat = 52 := rfl
          have q2 : ((⟨#[48, 49, 50, 51, 52, 53, 54, 55, 56, 57, 65, 66, 67, 68, 69, 70]⟩ : ByteArray)[4]'(by decide)).toNat = 52 := rfl
          have b1 : ¬ (x : Int) = 52 := by omega
          clear hh h0
          go_wp2_with fail
          go_roundw
          case rel => exact ⟨5, rfl, by omega, HK', HO⟩
          case measure => simp [intOf]
        · have h0 : x ≠ 53 ∧ x ≠ 53 := by unfold lowN upN at hh; simp at hh; omega
          have q1 : ((⟨#[48, 49, 50, 51, 52, 53, 54, 55, 56, 57, 97, 98, 99, 100, 101, 102]⟩ : ByteArray)[5]'(by decide)).toNat = 53 := rfl
          have q2 : ((⟨#[48, 49, 50, 51, 52, 53, 54, 55, 56, 57, 65, 66, 67, 68, 69, 70]⟩ : ByteArray)[5]'(by decide)).toNat = 53 := rfl
          have b1 : ¬ (x : Int) = 53 := by omega
          clear hh h0
          go_wp2_with fail
          go_roundw
          case rel => exact ⟨6, rfl, by omega, HK', HO⟩
          case measure => simp [intOf]
        · have h0 : x ≠ 54 ∧ x ≠ 54 := by unfold lowN upN at hh; simp at hh; omega
          have q1 : ((⟨#[48, 49, 50, 51, 52, 53, 54, 55, 56, 57, 97, 98, 99, 100, 101, 102]⟩ : ByteArray)[6]'(by decide)).toNat = 54 := rfl
          have q2 : ((⟨#[48, 49, 50, 51, 52, 53, 54, 55, 56, 57, 65, 66, 67, 68, 69, 70]⟩ : ByteArray)[6]'(by decide)).toNat = 54 := rfl
          have b1 : ¬ (x : Int) = 54 := by omega
          clear hh h0
          go_wp2_with fail
          go_roundw
          case rel => exact ⟨7, rfl, by omega, HK', HO⟩
          case measure => simp [intOf]
        · have h0 : x ≠ 55 ∧ x ≠ 55 := by unfold lowN upN at hh; simp at hh; omega
          have q1 : ((⟨#[48, 49, 50, 51, 52, 53, 54, 55, 56, 57, 97, 98, 99, 100, 101, 102]⟩ : ByteArray)[7]'(by decide)).toNat = 55 := rfl
          have q2 : ((⟨#[48, 49, 50, 51, 52, 53, 54, 55, 56, 57, 65, 66, 67, 68, 69, 70]⟩ : ByteArray)[7]'(by decide)).toNat = 55 := rfl
          have b1 : ¬ (x : Int) = 55 := by omega
          clear hh h0
          go_wp2_with fail
          go_roundw
          case rel => exact ⟨8, rfl, by omega, HK', HO⟩
          case measure => simp [intOf]
        · have h0 : x ≠ 56 ∧ x ≠ 56 := by unfold lowN upN at hh; simp at hh; omega
          have q1 : ((⟨#[48, 49, 50, 51, 52, 53, 54, 55, 56, 57, 97, 98, 99, 100, 101, 102]⟩ : ByteArray)[8]'(by decide)).toNat = 56 := rfl
          have q2 : ((⟨#[48, 49, 50, 51, 52, 53, 54, 55, 56, 57, 65, 66, 67, 68, 69, 70]⟩ : ByteArray)[8]'(by decide)).toNat = 56 := rfl
          have b1 : ¬ (x : Int) = 56 := by omega
          clear hh h0
          go_wp2_with fail
          go_roundw
          case rel => exact ⟨9, rfl, by omega, HK', HO⟩
          case measure => simp [intOf]
        · have h0 : x ≠ 57 ∧ x ≠ 57 := by unfold lowN upN at hh; simp at hh; omega
          have q1 : ((⟨#[48, 49, 50, 51, 52, 53, 54, 55, 56, 57, 97, 98, 99, 100, 101, 102]⟩ : ByteArray)[9]'(by decide)).toNat = 57 := rfl
          have q2 : ((⟨#[48, 49, 50, 51, 52, 53, 54, 55, 56, 57, 65, 66, 67, 68, 69, 70]⟩ : ByteArray)[9]'(by decide)).toNat = 57 := rfl
          have b1 : ¬ (x : Int) = 57 := by omega
          clear hh h0
          go_wp2_with fail
          go_roundw
          case rel => exact ⟨10, rfl, by omega, HK', HO⟩
          case measure => simp [intOf]
        · have h0 : x ≠ 97 ∧ x ≠ 65 := by unfold lowN upN at hh; simp at hh; omega
          have q1 : ((⟨#[48, 49, 50, 51, 52, 53, 54, 55, 56, 57, 97, 98, 99, 100, 101, 102]⟩ : ByteArray)[10]'(by decide)).toNat = 97 := rfl
          have q2 : ((⟨#[48, 49, 50, 51, 52, 53, 54, 55, 56, 57, 65, 66, 67, 68, 69, 70]⟩ : ByteArray)[10]'(by decide)).toNat = 65 := rfl
          have b1 : ¬ (x : Int) = 97 := by omega
          have b2 : ¬ (x : Int) = 65 := by omega
          have b3 : ((x : Int) == 97) = false := beq_eq_false_iff_ne.2 b1
          have b4 : ((x : Int) == 65) = false := beq_eq_false_iff_ne.2 b2
          clear hh h0
          go_wp2_with fail
          go_roundw
          case rel => exact ⟨11, rfl, by omega, HK', HO⟩
          case measure => simp [intOf]
        · have h0 : x ≠ 98 ∧ x ≠ 66 := by unfold lowN upN at hh; simp at hh; omega
          have q1 : ((⟨#[48, 49, 50, 51, 52, 53, 54, 55, 56, 57, 97, 98, 99, 100, 101, 102]⟩ : ByteArray)[11]'(by decide)).toNat = 98 := rfl
          have q2 : ((⟨#[48, 49, 50, 51, 52, 53, 54, 55, 56, 57, 65, 66, 67, 68, 69, 70]⟩ : ByteArray)[11]'(by decide)).toNat = 66 := rfl
          have b1 : ¬ (x : Int) = 98 := by omega
          have b2 : ¬ (x : Int) = 66 := by omega
          have b3 : ((x : Int) == 98) = false := beq_eq_false_iff_ne.2 b1
          have b4 : ((x : Int) == 66) = false := beq_eq_false_iff_ne.2 b2
          clear hh h0
          go_wp2_with fail
          go_roundw
          case rel => exact ⟨12, rfl, by omega, HK', HO⟩
          case measure => simp [intOf]
        · have h0 : x ≠ 99 ∧ x ≠ 67 := by unfold lowN upN at hh; simp at hh; omega
          have q1 : ((⟨#[48, 49, 50, 51, 52, 53, 54, 55, 56, 57, 97, 98, 99, 100, 101, 102]⟩ : ByteArray)[12]'(by decide)).toNat = 99 := rfl
          have q2 : ((⟨#[48, 49, 50, 51, 52, 53, 54, 55, 56, 57, 65, 66, 67, 68, 69, 70]⟩ : ByteArray)[12]'(by decide)).toNat = 67 := rfl
          have b1 : ¬ (x : Int) = 99 := by omega
          have b2 : ¬ (x : Int) = 67 := by omega
          have b3 : ((x : Int) == 99) = false := beq_eq_false_iff_ne.2 b1
          have b4 : ((x : Int) == 67) = false := beq_eq_false_iff_ne.2 b2
          clear hh h0
          go_wp2_with fail
          go_roundw
          case rel => exact ⟨13, rfl, by omega, HK', HO⟩
          case measure => simp [intOf]
        · have h0 : x ≠ 100 ∧ x ≠ 68 := by unfold lowN upN at hh; simp at hh; omega
          have q1 : ((⟨#[48, 49, 50, 51, 52, 53, 54, 55, 56, 57, 97, 98, 99, 100, 101, 102]⟩ : ByteArray)[13]'(by decide)).toNat = 100 := rfl
          have q2 : ((⟨#[48, 49, 50, 51, 52, 53, 54, 55, 56, 57, 65, 66, 67, 68, 69, 70]⟩ : ByteArray)[13]'(by decide)).toNat = 68 := rfl
          have b1 : ¬ (x : Int) = 100 := by omega
          have b2 : ¬ (x : Int) = 68 := by omega
          have b3 : ((x : Int) == 100) = false := beq_eq_false_iff_ne.2 b1
          have b4 : ((x : Int) == 68) = false := beq_eq_false_iff_ne.2 b2
          clear hh h0
          go_wp2_with fail
          go_roundw
          case rel => exact ⟨14, rfl, by omega, HK', HO⟩
          case measure => simp [intOf]
        · have h0 : x ≠ 101 ∧ x ≠ 69 := by unfold lowN upN at hh; simp at hh; omega
          have q1 : ((⟨#[48, 49, 50, 51, 52, 53, 54, 55, 56, 57, 97, 98, 99, 100, 101, 102]⟩ : ByteArray)[14]'(by decide)).toNat = 101 := rfl
          have q2 : ((⟨#[48, 49, 50, 51, 52, 53, 54, 55, 56, 57, 65, 66, 67, 68, 69, 70]⟩ : ByteArray)[14]'(by decide)).toNat = 69 := rfl
          have b1 : ¬ (x : Int) = 101 := by omega
          have b2 : ¬ (x : Int) = 69 := by omega
          have b3 : ((x : Int) == 101) = false := beq_eq_false_iff_ne.2 b1
          have b4 : ((x : Int) == 69) = false := beq_eq_false_iff_ne.2 b2
          clear hh h0
          go_wp2_with fail
          go_roundw
          case rel => exact ⟨15, rfl, by omega, HK', HO⟩
          case measure => simp [intOf]
        · have h0 : x ≠ 102 ∧ x ≠ 70 := by unfold lowN upN at hh; simp at hh; omega
          have q1 : ((⟨#[48, 49, 50, 51, 52, 53, 54, 55, 56, 57, 97, 98, 99, 100, 101, 102]⟩ : ByteArray)[15]'(by decide)).toNat = 102 := rfl
          have q2 : ((⟨#[48, 49, 50, 51, 52, 53, 54, 55, 56, 57, 65, 66, 67, 68, 69, 70]⟩ : ByteArray)[15]'(by decide)).toNat = 70 := rfl
          have b1 : ¬ (x : Int) = 102 := by omega
          have b2 : ¬ (x : Int) = 70 := by omega
          have b3 : ((x : Int) == 102) = false := beq_eq_false_iff_ne.2 b1
          have b4 : ((x : Int) == 70) = false := beq_eq_false_iff_ne.2 b2
          clear hh h0
          go_wp2_with fail
          go_roundw
          case rel => exact ⟨16, rfl, by omega, HK', HO⟩
          case measure => simp [intOf]
    · obtain rfl : k = 16 := by omega
      have FIN := hide (HNO.out HK.out)
      go_wp2_with fail
      go_ret
      exact ⟨by rw [FIN.out]; rfl, HO.out⟩
end Go.Proofs.YtdlcibbbebhcoaaGreatDoor

/-! ### The document's half: four digits of an escape. -/
namespace Go.Proofs.YtdlcibbbebhcoaaGreatDoor
open Go.RowKit

def badH (sec : Bool) (k n : Nat) : Bool := (k == 0 && sec && n != 13) || (k == 1 && (sec != lowHalf n))
/-- so many digits more -/
def tailH (sec : Bool) : Nat → Nat → Nat → List UInt8 → Except Int (Nat × List UInt8)
  | 0, _, n, l => .ok (n, l)
  | r + 1, k, n, l => match hex1 l with
    | .error e => .error e
    | .ok (m, l') => if badH sec k (16 * n + m) = true then .error 41 else tailH sec r (k + 1) (16 * n + m) l'
theorem half_tail (sec : Bool) (l : List UInt8) : half4 sec l = tailH sec 4 0 0 l := by
  unfold half4
  simp only [tailH]
  cases hex1 l with
  | error e => rfl
  | ok x =>
    obtain ⟨a, l1⟩ := x
    simp only [Nat.mul_zero, Nat.zero_add]
    have h0 : (badH sec 0 a = true) = (sec = true ∧ a ≠ 13) := by unfold badH; cases sec <;> simp
    simp only [h0]
    split
    · rfl
    · cases hex1 l1 with
      | error e => rfl
      | ok x =>
        obtain ⟨b, l2⟩ := x
        have h1 : (badH sec (0 + 1) (16 * a + b) = true) = (sec ≠ lowHalf (16 * a + b)) := by unfold badH; simp
        simp only
        simp only [Nat.zero_add] at h1
        simp only [h1]
        split
        · rfl
        · cases hex1 l2 with
          | error e => rfl
          | ok x =>
            obtain ⟨c, l3⟩ := x
            have h2 : badH sec (1 + 1) (16 * (16 * a + b) + c) = false := by unfold badH; simp
            simp only [h2, Bool.false_eq_true, if_false]
            cases hex1 l3 with
            | error e => rfl
            | ok x =>
              obtain ⟨d, l4⟩ := x
              have h3 : badH sec (1 + 1 + 1) (16 * (16 * (16 * a + b) + c) + d) = false := by unfold badH; simp
              simp only [h3, Bool.false_eq_true, if_false]
              congr 2
              omega
theorem tail_no {sec : Bool} {r k n : Nat} : tailH sec (r + 1) k n [] = .error 3 := rfl
theorem tail_none {sec : Bool} {r k n : Nat} {c : UInt8} {l : List UInt8} (h : hexV c = none) : tailH sec (r + 1) k n (c :: l) = .error 41 := by
  simp only [tailH, hex1, h]
theorem tail_bad {sec : Bool} {r k n m : Nat} {c : UInt8} {l : List UInt8} (h : hexV c = some m) (hb : badH sec k (16 * n + m) = true) : tailH sec (r + 1) k n (c :: l) = .error 41 := by
  simp only [tailH, hex1, h]
  rw [if_pos hb]
theorem tail_go {sec : Bool} {r k n m : Nat} {c : UInt8} {l : List UInt8} (h : hexV c = some m) (hb : badH sec k (16 * n + m) = false) : tailH sec (r + 1) k n (c :: l) = tailH sec r (k + 1) (16 * n + m) l := by
  simp only [tailH, hex1, h]
  rw [if_neg (by rw [hb]; decide)]
def halfE : Except Int (Nat × List UInt8) → Value
  | .error e => .tuple #[.int .i64 0, .int .i64 e]
  | .ok (n, _) => .tuple #[.int .i64 (n : Int), .int .i64 0]
theorem drop_at {s : ByteArray} {k : Nat} (h : k < s.size) : s.data.toList.drop k = s[k] :: s.data.toList.drop (k + 1) := by
  have hl : k < s.data.toList.length := by rw [list_size]; exact h
  rw [List.drop_eq_getElem_cons hl]
  rfl
set_option maxRecDepth 100000 in
set_option maxHeartbeats 4000000 in
theorem rhalf_run (s : ByteArray) (sec : Bool) (w : World) : Calls Tryz.prog 74 #[.string s, .bool sec] w fun e w' => e = .returned (halfE (half4 sec s.data.toList)) ∧ Old w w' := by
  obtain ⟨R, hR⟩ : ∃ R, Hid (half4 sec s.data.toList = R) := ⟨_, hide rfl⟩
  rw [hR.out]
  have H0 := hide (show R = tailH sec 4 0 0 (s.data.toList.drop 0) by rw [← hR.out, half_tail]; rfl)
  go_enter Tryz.func74, Tryz.ntmps74
  go_wp2_with fail
  go_loopw [6, 7] (fun nv i wr => ∃ k n : Nat, i = .int .i64 k ∧ nv = .int .i64 n ∧ k ≤ 4 ∧ n < 65536 ∧ (k < 4 → n < 4096) ∧ (k < 3 → n < 256) ∧ (k < 2 → n < 16) ∧ (k < 1 → n = 0) ∧ Hid (R = tailH sec (4 - k) k n (s.data.toList.drop k)) ∧ Hid (Old w wr)) (fun _ i _ => 4 - (intOf i).toNat)
  case atStart => exact ⟨0, 0, rfl, rfl, by omega, by omega, fun _ => by omega, fun _ => by omega, fun _ => by omega, fun _ => rfl, H0, hide (Old.refl _)⟩
  case round =>
    obtain ⟨k, n, rfl, rfl, hk, hn0, hn1, hn2, hn3, hn4, HR, HO⟩ := hrel
    by_cases h4 : k = 4
    · subst h4
      have FIN := hide (show R = .ok (n, s.data.toList.drop 4) from HR.out)
      go_wp2_with fail
      go_ret2
      exact ⟨by rw [FIN.out]; rfl, HO.out⟩
    by_cases hlen : k < s.size
    · have hd := drop_at hlen
      obtain ⟨c, hc⟩ : ∃ c, Hid (s[k] = c) := ⟨_, hide rfl⟩
      have hc' := hc.out
      rw [hc'] at hd
      have hlen' : (k : Int) < (s.size : Int) := by omega
      have hse : ¬ s = ByteArray.empty := by rintro rfl; simp at hlen
      cases hv : hexV c with
      | none =>
        have FIN := hide (show R = .error 41 by
          rw [HR.out, hd, show 4 - k = (3 - k) + 1 by omega, tail_none hv])
        have CD := hide (rdigit_run c wr)
        rw [show hexI c = -1 by unfold hexI; rw [hv]] at CD
        clear hd HR hn1 hn2 hn3 hn4
        have h5 : k = 0 ∨ k = 1 ∨ k = 2 ∨ k = 3 := by omega
        rcases h5 with rfl | rfl | rfl | rfl
        all_goals
          go_wp2_with fail
          refine CD.out.mono ?_
          rintro e w1 ⟨rfl, o1⟩
          have O1 := hide (Old.trans HO.out o1)
          clear o1
          go_wp2_with fail
          go_ret2
          exact ⟨by rw [FIN.out]; rfl, O1.out⟩
      | some m =>
        have hm := hexV_lt hv
        have CD := hide (rdigit_run c wr)
        rw [show hexI c = (m : Int) by unfold hexI; rw [hv]] at CD
        obtain ⟨n', hn'⟩ : ∃ n', Hid (16 * n + m = n') := ⟨_, hide rfl⟩
        have hni : (16 : Int) * (n : Int) + (m : Int) = (n' : Int) := by have := hn'.out; omega
        have BAD := hide (show badH sec k n' = true → R = .error 41 from fun hb => by
          rw [HR.out, hd, show 4 - k = (3 - k) + 1 by omega]
          exact tail_bad hv (by rw [hn'.out]; exact hb))
        have GO := hide (show badH sec k n' = false → R = tailH sec (4 - (k + 1)) (k + 1) n' (s.data.toList.drop (k + 1)) from fun hb => by
          rw [HR.out, hd, show 4 - k = (3 - k) + 1 by omega, show 4 - (k + 1) = 3 - k by omega, tail_go hv (by rw [hn'.out]; exact hb), hn'.out])
        have hb1 : k < 3 → n' < 4096 := fun h => by have := hn2 h; have := hn'.out; omega
        have hb2 : k < 2 → n' < 256 := fun h => by have := hn3 h; have := hn'.out; omega
        have hb3 : k < 1 → n' < 16 := fun h => by have := hn4 h; have := hn'.out; omega
        have hb0 : n' < 65536 := by have := hn1 (by omega); have := hn'.out; omega
        have hm0 : ¬ (m : Int) < 0 := by omega
        clear hd HR hv hn1 hn2 hn3 hn4
        have h5 : k = 0 ∨ k = 1 ∨ k = 2 ∨ k = 3 := by omega
        rcases h5 with rfl | rfl | rfl | rfl
        · cases sec with
          | false =>
            have FIN := hide (GO.out (by unfold badH; simp))
            go_wp2_with fail
            refine CD.out.mono ?_
            rintro e w1 ⟨rfl, o1⟩
            have O1 := hide (Old.trans HO.out o1)
            clear o1
            go_wp2_with fail
            go_roundw
            case rel => exact ⟨1, n', by first | rfl | go_num, by first | rfl | rw [hni] | rw [hxn], by omega, hb0, fun h => hb1 (by omega), fun h => hb2 (by omega), fun h => hb3 (by omega), fun h => absurd h (by omega), FIN, O1⟩
            case measure => simp [intOf]
          | true =>
            by_cases hx : n' = 13
            · have FIN := hide (GO.out (by unfold badH; simp [hx]))
              have hxi : ((n' : Int) == 13) = true := by simp; omega
              have hxn : (n' : Int) = 13 := by omega
              have hxj : ((n' : Int) != 13) = false := by simp; omega
              go_wp2_with fail
              refine CD.out.mono ?_
              rintro e w1 ⟨rfl, o1⟩
              have O1 := hide (Old.trans HO.out o1)
              clear o1
              go_wp2_with fail
              go_roundw
              case rel => exact ⟨1, n', by first | rfl | go_num, by first | rfl | rw [hni] | rw [hxn], by omega, hb0, fun h => hb1 (by omega), fun h => hb2 (by omega), fun h => hb3 (by omega), fun h => absurd h (by omega), FIN, O1⟩
              case measure => simp [intOf]
            · have FIN := hide (BAD.out (by unfold badH; simp [hx]))
              have hxn : ¬ (n' : Int) = 13 := by omega
              have hxj : ((n' : Int) != 13) = true := by simp; omega
              go_wp2_with fail
              refine CD.out.mono ?_
              rintro e w1 ⟨rfl, o1⟩
              have O1 := hide (Old.trans HO.out o1)
              clear o1
              go_wp2_with fail
              go_ret2
              exact ⟨by rw [FIN.out]; rfl, O1.out⟩
        · by_cases hx : 220 ≤ n' ∧ n' ≤ 223
          · have hl : lowHalf n' = true := by unfold lowHalf; simp; omega
            have x1 : (220 : Int) ≤ (n' : Int) := by omega
            have x2 : (n' : Int) ≤ 223 := by omega
            cases sec with
            | false =>
              have FIN := hide (BAD.out (by unfold badH; rw [hl]; rfl))
              go_wp2_with fail
              refine CD.out.mono ?_
              rintro e w1 ⟨rfl, o1⟩
              have O1 := hide (Old.trans HO.out o1)
              clear o1
              go_wp2_with fail
              go_ret2
              exact ⟨by rw [FIN.out]; rfl, O1.out⟩
            | true =>
              have FIN := hide (GO.out (by unfold badH; rw [hl]; rfl))
              go_wp2_with fail
              refine CD.out.mono ?_
              rintro e w1 ⟨rfl, o1⟩
              have O1 := hide (Old.trans HO.out o1)
              clear o1
              go_wp2_with fail
              go_roundw
              case rel => exact ⟨2, n', by first | rfl | go_num, by first | rfl | rw [hni] | rw [hxn], by omega, hb0, fun h => hb1 (by omega), fun h => hb2 (by omega), fun h => absurd h (by omega), fun h => absurd h (by omega), FIN, O1⟩
              case measure => simp [intOf]
          · have hl : lowHalf n' = false := by unfold lowHalf; simp; omega
            by_cases hx1 : 220 ≤ n'
            · have x1 : (220 : Int) ≤ (n' : Int) := by omega
              have x2 : ¬ (n' : Int) ≤ 223 := by omega
              have x3 : decide ((n' : Int) ≤ 223) = false := decide_eq_false x2
              cases sec with
              | false =>
                have FIN := hide (GO.out (by unfold badH; rw [hl]; rfl))
                go_wp2_with fail
                refine CD.out.mono ?_
                rintro e w1 ⟨rfl, o1⟩
                have O1 := hide (Old.trans HO.out o1)
                clear o1
                go_wp2_with fail
                go_roundw
                case rel => exact ⟨2, n', by first | rfl | go_num, by first | rfl | rw [hni] | rw [hxn], by omega, hb0, fun h => hb1 (by omega), fun h => hb2 (by omega), fun h => absurd h (by omega), fun h => absurd h (by omega), FIN, O1⟩
                case measure => simp [intOf]
              | true =>
                have FIN := hide (BAD.out (by unfold badH; rw [hl]; rfl))
                go_wp2_with fail
                refine CD.out.mono ?_
                rintro e w1 ⟨rfl, o1⟩
                have O1 := hide (Old.trans HO.out o1)
                clear o1
                go_wp2_with fail
                go_ret2
                exact ⟨by rw [FIN.out]; rfl, O1.out⟩
            · have x1 : ¬ (220 : Int) ≤ (n' : Int) := by omega
              cases sec with
              | false =>
                have FIN := hide (GO.out (by unfold badH; rw [hl]; rfl))
                go_wp2_with fail
                refine CD.out.mono ?_
                rintro e w1 ⟨rfl, o1⟩
                have O1 := hide (Old.trans HO.out o1)
                clear o1
                go_wp2_with fail
                go_roundw
                case rel => exact ⟨2, n', by first | rfl | go_num, by first | rfl | rw [hni] | rw [hxn], by omega, hb0, fun h => hb1 (by omega), fun h => hb2 (by omega), fun h => absurd h (by omega), fun h => absurd h (by omega), FIN, O1⟩
                case measure => simp [intOf]
              | true =>
                have FIN := hide (BAD.out (by unfold badH; rw [hl]; rfl))
                go_wp2_with fail
                refine CD.out.mono ?_
                rintro e w1 ⟨rfl, o1⟩
                have O1 := hide (Old.trans HO.out o1)
                clear o1
                go_wp2_with fail
                go_ret2
                exact ⟨by rw [FIN.out]; rfl, O1.out⟩
        · have FIN := hide (GO.out (by unfold badH; simp))
          go_wp2_with fail
          refine CD.out.mono ?_
          rintro e w1 ⟨rfl, o1⟩
          have O1 := hide (Old.trans HO.out o1)
          clear o1
          go_wp2_with fail
          go_roundw
          case rel => exact ⟨3, n', by first | rfl | go_num, by first | rfl | rw [hni] | rw [hxn], by omega, hb0, fun h => hb1 (by omega), fun h => absurd h (by omega), fun h => absurd h (by omega), fun h => absurd h (by omega), FIN, O1⟩
          case measure => simp [intOf]
        · have FIN := hide (GO.out (by unfold badH; simp))
          go_wp2_with fail
          refine CD.out.mono ?_
          rintro e w1 ⟨rfl, o1⟩
          have O1 := hide (Old.trans HO.out o1)
          clear o1
          go_wp2_with fail
          go_roundw
          case rel => exact ⟨4, n', by first | rfl | go_num, by first | rfl | rw [hni] | rw [hxn], by omega, hb0, fun h => absurd h (by omega), fun h => absurd h (by omega), fun h => absurd h (by omega), fun h => absurd h (by omega), FIN, O1⟩
          case measure => simp [intOf]
    · have FIN := hide (show R = .error 3 by
        rw [HR.out, List.drop_eq_nil_of_le (by rw [list_size]; omega), show 4 - k = (3 - k) + 1 by omega]
        rfl)
      have hlen' : ¬ (k : Int) < (s.size : Int) := by omega
      have hlen2 : (s.size : Int) ≤ (k : Int) := by omega
      have hk4 : (k : Int) < 4 := by omega
      go_wp2_with fail
      go_ret2
      exact ⟨by rw [FIN.out]; rfl, HO.out⟩
end Go.Proofs.YtdlcibbbebhcoaaGreatDoor
