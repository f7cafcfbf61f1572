/- The reader of a literal: plain; utf.Unquote. -/
import Derived.Test.YtmolmphbhdbcaaaGreatDoorEscW
/-! ### The reader of a literal: plain; utf.Unquote. -/
namespace Go.Proofs.YtmolmphbhdbcaaaGreatDoor
open Go.RowKit

def plR (l : List UInt8) : RSt := match plainV l with | .ok (_, r) => .ok r | .error c => .error c
def plT (l : List UInt8) : List UInt8 := match plainV l with | .ok (t, _) => t | .error _ => []
theorem ext_list (s : ByteArray) (n : Nat) : (s.extract n s.size).data.toList = s.data.toList.drop n := by
  rw [ByteArray.data_extract, Array.toList_extract]
  simp only [List.extract]
  rw [List.take_of_length_le]
  simp
theorem runeN_le {l : List UInt8} (h : l ≠ []) : runeN l ≤ l.length := by
  unfold runeN
  split
  · omega
  · have h1 := nextN_bd (txt l)
    have h2 := next_decode l h
    have e : bT l = txt l := rfl
    rename_i hne
    rw [e] at hne ⊢
    rw [if_neg hne] at h2
    rw [txt_size] at h1
    omega
set_option maxRecDepth 100000 in
set_option maxHeartbeats 1000000 in
theorem plain_run (rb : Nat) (s : ByteArray) (c : UInt8) (r : List UInt8) (w : World) (hs : s.size ≤ 1073741824) (h : Rd rb s (.ok (c :: r)) w) (hT : Tabs w) :
    Calls Tryz.prog 79 #[.pointer (some ⟨rb, 0, none⟩)] w fun e w' => e = .returned (.string (bT (plT (c :: r)))) ∧ Rd rb s (plR (c :: r)) w' ∧ One rb w w' := by
  have H := hide h
  obtain ⟨h1, h2, h3, k, e, h4, h5, h6⟩ := h
  obtain ⟨rfl, n, rfl, hn, hd⟩ := h6
  have hl := (ext_list s n).trans hd
  have hnlt : n < s.size := by simp only [List.length_cons] at hn; omega
  have hx0 : 0 < (s.extract n s.size).size := by rw [ByteArray.size_extract]; omega
  have hx1 : (s.extract n s.size).size = s.size - n := by rw [ByteArray.size_extract]; omega
  have x0 : (s.extract n s.size)[0]'hx0 = c := by
    have e1 : (s.extract n s.size)[0]'hx0 = (s.extract n s.size).data.toList[0]'(by simpa using hx0) := rfl
    rw [e1]
    simp only [hl]
    rfl
  obtain ⟨N, hN⟩ : ∃ N, Hid (runeN (c :: r) = N) := ⟨_, hide rfl⟩
  have hNle : N ≤ s.size - n := by rw [← hN.out]; have := runeN_le (l := c :: r) (by simp); omega
  have CN := hide (fun w' (o : Tabs w') => unext_run (s.extract n s.size) (c :: r) w' hl (by simp) o)
  rw [hN.out] at CN
  have HT := hide hT
  have PV : plainV (c :: r) = if c.toNat < 32 then .error 41 else if N ≠ 0 then .ok ((c :: r).take N, (c :: r).drop N) else if fullB (c :: r) = false then .error 3 else .error 40 := by
    rw [← hN.out]
    rfl
  have PV := hide PV
  have HN := hide hn
  have HD := hide hd
  have HL := hide hl
  have EF := hide (fun (x : Int) (hx : x ≠ 0) (hp : plainV (c :: r) = .error x) => (show plT (c :: r) = [] ∧ plR (c :: r) = .error x by unfold plT plR; rw [hp]; exact ⟨rfl, rfl⟩))
  have CF := hide (fun (x : Int) (hx : x ≠ 0) (hp : plainV (c :: r) = .error x) w' (rr : Rd rb s (.ok (c :: r)) w') (oo : One rb w w') => (rfail_run rb s (.ok (c :: r)) x w' rr hx).mono fun e w2 (hh : e = .returned (.tuple #[]) ∧ Rd rb s (failR x (.ok (c :: r))) w2 ∧ One rb w' w2) => (show e = .returned (.tuple #[]) ∧ Rd rb s (plR (c :: r)) w2 ∧ One rb w w2 from ⟨hh.1, by rw [(EF.out x hx hp).2]; exact hh.2.1, oo.trans hh.2.2⟩))
  have hin : (0 : Int) ≤ (n : Int) ∧ (n : Int) ≤ (s.size : Int) := by omega
  obtain ⟨hin1, hin2⟩ := hin
  clear hT hn hd hl
  by_cases h32 : c.toNat < 32
  · have h32' : (c.toNat : Int) < 32 := by omega
    have PF := hide (show plainV (c :: r) = .error 41 by rw [PV.out, if_pos h32])
    go_enter Tryz.func79, Tryz.ntmps79
    go_wp2_with fail
    go_quiet (fail)
    go_wp2_with fail
    refine (CN.out _ (HT.out.old (Old.drewN (Old.refl _) _))).mono ?_
    rintro e w1 ⟨⟨rr, rfl⟩, o1⟩
    have O1 := hide (Old.trans (Old.drewN (Old.refl w) _) o1)
    clear o1
    go_wp2_with fail
    refine (CF.out 41 (by decide) PF.out _ (H.out.old O1.out) ((One.refl _ _).old O1.out)).mono ?_
    rintro e w2 ⟨rfl, r2, o2⟩
    have R2 := hide r2
    have O2 := hide o2
    clear r2 o2
    go_wp2_with fail
    go_ret
    exact ⟨by rw [(EF.out 41 (by decide) PF.out).1]; rfl, R2.out, O2.out⟩
  · have h32' : ¬ (c.toNat : Int) < 32 := by omega
    by_cases hz : N ≠ 0
    · have PO := hide (show plT (c :: r) = (c :: r).take N ∧ plR (c :: r) = .ok ((c :: r).drop N) by
        unfold plT plR; rw [PV.out, if_neg h32, if_pos hz]; exact ⟨rfl, rfl⟩)
      have hzd : decide (N ≠ 0) = true := decide_eq_true hz
      have XT := hide (show (s.extract n s.size).extract 0 N = bT (plT (c :: r)) by
        rw [PO.out.1, ← HL.out]
        apply bytes_ext
        simp only [ByteArray.toList_eq, ByteArray.data_extract, bT, Array.toList_extract]
        simp [List.extract])
      have AT := hide (show StR s (plR (c :: r)) ((n : Int) + (N : Int)) 0 by
        rw [PO.out.2]
        refine ⟨rfl, n + N, by simp, ?_, ?_⟩
        · rw [List.length_drop]; have := HN.out; omega
        · rw [← HD.out, List.drop_drop])
      clear hz
      go_enter Tryz.func79, Tryz.ntmps79
      go_wp2_with fail
      go_quiet (fail)
      go_wp2_with fail
      refine (CN.out _ (HT.out.old (Old.drewN (Old.refl _) _))).mono ?_
      rw [hzd]
      rintro e w1 ⟨⟨rr, rfl⟩, o1⟩
      have O1 := hide (Old.trans (Old.drewN (Old.refl w) _) o1)
      have y4 := O1.out.cell h4
      have y2 := O1.out.frozen h4 h2
      have R1 := hide ((H.out.old O1.out).setAt (O1.out.cell h5) AT.out)
      clear o1
      go_wp2_with fail
      go_ret
      exact ⟨by rw [← XT.out]; rfl, R1.out, ((One.refl rb w).old O1.out).set _ _⟩
    · have hzd : decide (N ≠ 0) = false := decide_eq_false hz
      have FU := hide (fun w' (o : Tabs w') => full_run (s.extract n s.size) (c :: r) w' HL.out (by simp) (by omega) o)
      obtain ⟨B, hB⟩ : ∃ B, Hid (fullB (c :: r) = B) := ⟨_, hide rfl⟩
      rw [hB.out] at FU
      have PF := hide (show plainV (c :: r) = .error (if B = false then 3 else 40) by
        rw [PV.out, if_neg h32, if_neg hz, hB.out]; cases B <;> rfl)
      clear hz
      cases B
      · have PF := hide (show plainV (c :: r) = .error 3 from PF.out)
        go_enter Tryz.func79, Tryz.ntmps79
        go_wp2_with fail
        go_quiet (fail)
        go_wp2_with fail
        refine (CN.out _ (HT.out.old (Old.drewN (Old.refl _) _))).mono ?_
        rw [hzd]
        rintro e w1 ⟨⟨rr, rfl⟩, o1⟩
        have O1 := hide (Old.trans (Old.drewN (Old.refl w) _) o1)
        clear o1
        go_wp2_with fail
        refine (FU.out _ (HT.out.old O1.out)).mono ?_
        rintro e w2 ⟨rfl, o2⟩
        have O2 := hide (Old.trans O1.out o2)
        clear o2
        go_wp2_with fail
        refine (CF.out 3 (by decide) PF.out _ (H.out.old O2.out) ((One.refl _ _).old O2.out)).mono ?_
        rintro e w3 ⟨rfl, r3, o3⟩
        have R3 := hide r3
        have O3 := hide o3
        clear r3 o3
        go_wp2_with fail
        go_ret
        exact ⟨by rw [(EF.out 3 (by decide) PF.out).1]; rfl, R3.out, O3.out⟩
      · have PF := hide (show plainV (c :: r) = .error 40 from PF.out)
        go_enter Tryz.func79, Tryz.ntmps79
        go_wp2_with fail
        go_quiet (fail)
        go_wp2_with fail
        refine (CN.out _ (HT.out.old (Old.drewN (Old.refl _) _))).mono ?_
        rw [hzd]
        rintro e w1 ⟨⟨rr, rfl⟩, o1⟩
        have O1 := hide (Old.trans (Old.drewN (Old.refl w) _) o1)
        clear o1
        go_wp2_with fail
        refine (FU.out _ (HT.out.old O1.out)).mono ?_
        rintro e w2 ⟨rfl, o2⟩
        have O2 := hide (Old.trans O1.out o2)
        clear o2
        go_wp2_with fail
        refine (CF.out 40 (by decide) PF.out _ (H.out.old O2.out) ((One.refl _ _).old O2.out)).mono ?_
        rintro e w3 ⟨rfl, r3, o3⟩
        have R3 := hide r3
        have O3 := hide o3
        clear r3 o3
        go_wp2_with fail
        go_ret
        exact ⟨by rw [(EF.out 40 (by decide) PF.out).1]; rfl, R3.out, O3.out⟩
end Go.Proofs.YtmolmphbhdbcaaaGreatDoor
