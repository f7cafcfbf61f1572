/- The document's reader of a text: must, blanks, word, digits, begins, literal. -/
import Derived.Test.YtdlcibbbebhcoaaGreatDoorRr
import Derived.Test.YtdlcibbbebhcoaaGreatDoorJr3
import Derived.Test.YtdlcibbbebhcoaaGreatDoorRUnq
/-! ### The document's reader of a text: must, blanks, word, digits, begins, literal. -/
namespace Go.Proofs.YtdlcibbbebhcoaaGreatDoor
open Go.RowKit

section
variable {base rb n : Nat} {s : ByteArray} {out : List Nd} {wh e : Int} {w w' : World}
theorem RR.left (h : RR base rb s n out wh e w) : jLeft rb s w = s.size + 1 - n := by
  obtain ⟨ov, ⟨x0, x1, _, _, _⟩, _⟩ := h.cells
  unfold jLeft
  rw [x1]
  simp
theorem isX_head {c : UInt8} {X : RX} (h : isX c X = true) : ∃ r, X = .ok (c :: r) := by
  cases X with
  | error b => cases h
  | ok l =>
    cases l with
    | nil => cases h
    | cons d r =>
      have : d = c := of_decide_eq_true h
      subst this
      exact ⟨r, rfl⟩
theorem must_fail {c : UInt8} {X : RX} (h : isX c X = false) : mustX c X = failX (restX X) 70 X := by
  cases X with
  | error b => rfl
  | ok l =>
    cases l with
    | nil => rfl
    | cons d r =>
      have : ¬ d = c := of_decide_eq_false h
      simp only [mustX, if_neg this, failX, restX]
theorem must_go {c : UInt8} {r : List UInt8} : mustX c (.ok (c :: r)) = .ok r := by simp only [mustX, if_true]
theorem blanks_go {c : UInt8} {r : List UInt8} (h : isBlank c = true) : blanksX (.ok (c :: r)) = blanksX (.ok r) := by
  simp only [blanksX, skipB, h, if_true]
theorem blanks_stay {X : RX} (h0 : isX 32 X = false) (h1 : isX 9 X = false) (h2 : isX 10 X = false) (h3 : isX 13 X = false) : blanksX X = X := by
  cases X with
  | error b => rfl
  | ok l =>
    cases l with
    | nil => rfl
    | cons d r =>
      have a0 : ¬ d = 32 := of_decide_eq_false h0
      have a1 : ¬ d = 9 := of_decide_eq_false h1
      have a2 : ¬ d = 10 := of_decide_eq_false h2
      have a3 : ¬ d = 13 := of_decide_eq_false h3
      have hb : isBlank d = false := by unfold isBlank; simp [a0, a1, a2, a3]
      simp only [blanksX, skipB, hb]
      rfl
end
set_option maxRecDepth 100000 in
set_option maxHeartbeats 1000000 in
theorem rmust_run (base rb : Nat) (s : ByteArray) (out : List Nd) (X : RX) (w : World) (h : RS base rb s out X w) (c : UInt8) (hs : s.size ≤ 1073741824) :
    Calls Tryz.prog 52 #[.pointer (some ⟨rb, 0, none⟩), .int .u8 (c.toNat : Int)] w fun x w' => x = .returned (.tuple #[]) ∧ RS base rb s out (mustX c X) w' ∧ Bel base rb w w' := by
  have HS := hide h
  have hbw := hide h.bw
  obtain ⟨B, hB⟩ : ∃ B, isX c X = B := ⟨_, rfl⟩
  have CI := hide (ris_run base rb s out X w h c B hB)
  clear h
  cases B with
  | false =>
    have HM := hide (must_fail hB)
    clear hB
    go_enter Tryz.func52, Tryz.ntmps52
    go_wp2_with fail
    refine CI.out.mono ?_
    rintro x w1 ⟨rfl, o1⟩
    have O1 := hide o1
    have S1 := hide (HS.out.old o1)
    obtain ⟨n, wh, e, hR, _, hJ⟩ := S1.out.open_
    obtain ⟨ov, ⟨_, x1, _, _, _⟩, _, _⟩ := hR.cells
    have CF := hide (rdfail_run base rb s out X w1 S1.out (n : Int) 70 (restX X) (by decide) (fun l e => by have := (hJ l e).1.len; rw [e]; simp only [restX]; omega) S1.out.rest)
    clear o1 hR hJ
    go_wp2_with fail
    refine CF.out.mono ?_
    rintro x w2 ⟨rfl, s2, b2⟩
    have S2 := hide s2
    have B2 := hide ((Bel.ofOld O1.out hbw.out).trans b2)
    clear s2 b2
    go_wp2_with fail
    refine bodyPost_ret (results_none rfl _ _ _) rfl ?_
    exact ⟨rfl, by rw [HM.out]; exact S2.out, B2.out⟩
  | true =>
    obtain ⟨r, rfl⟩ := isX_head hB
    clear hB
    go_enter Tryz.func52, Tryz.ntmps52
    go_wp2_with fail
    refine CI.out.mono ?_
    rintro x w1 ⟨rfl, o1⟩
    have O1 := hide o1
    obtain ⟨n, hA, hR⟩ := HS.out.old o1
    have hn := hA.le
    obtain ⟨ov, ⟨_, x1, _, _, _⟩, hf, _⟩ := hR.cells
    have f1 := hf 1
    have S2 := hide (show RS base rb s out (.ok r) (w1.setCell ⟨rb, 1, none⟩ (.int .i64 ((n : Int) + 1))) from ⟨n + 1, hA.next, hR.setAt (n + 1) (by simp)⟩)
    have B2 := hide ((Bel.ofOld O1.out hbw.out).trans (hR.keepB 1 (.int .i64 ((n : Int) + 1)) (by decide)))
    clear o1 hR hA hf
    go_wp2_with fail
    go_end0
    exact ⟨rfl, by rw [must_go]; exact S2.out, B2.out⟩
set_option maxRecDepth 100000 in
set_option maxHeartbeats 4000000 in
theorem rblanks_run (base rb : Nat) (s : ByteArray) (out : List Nd) (X : RX) (w : World) (h : RS base rb s out X w) (hs : s.size ≤ 1073741824) :
    Calls Tryz.prog 27 #[.pointer (some ⟨rb, 0, none⟩)] w fun x w' => x = .returned (.tuple #[]) ∧ RS base rb s out (blanksX X) w' ∧ Bel base rb w w' := by
  have HS0 := hide h
  have hbw := hide h.bw
  obtain ⟨Y, hY⟩ : ∃ Y, Hid (blanksX X = Y) := ⟨_, hide rfl⟩
  rw [hY.out]
  clear h
  go_enter Tryz.func27, Tryz.ntmps27
  go_wp2_with fail
  go_loopw [] (fun wr => ∃ X, Hid (RS base rb s out X wr) ∧ Hid (blanksX X = Y) ∧ Hid (Bel base rb w wr)) (fun wr => jLeft rb s wr)
  case atStart => exact ⟨X, HS0, hY, hide (Bel.refl _ _ _)⟩
  case round =>
    clear hY HS0 X
    obtain ⟨X, HS, HE, HB⟩ := hrel
    by_cases c0 : isX 32 X = true
    · have CI32 := hide (fun w1 (o1 : Old wr w1) => ris_run base rb s out X w1 (HS.out.old o1) 32 true c0)
      obtain ⟨r, rfl⟩ := isX_head c0
      clear c0
      go_wp2_with fail
      refine (CI32.out wr (Old.refl _)).mono ?_
      rintro x w1 ⟨rfl, o1⟩
      have O1 := hide (o1)
      clear o1
      have S1 := hide (HS.out.old O1.out)
      obtain ⟨m, hA, hR⟩ := S1.out
      have hm := hA.le
      obtain ⟨ov, ⟨_, x1, _, _, _⟩, hf, _⟩ := hR.cells
      have f1 := hf 1
      have J2 := hide (hR.setAt (m + 1) (z := (m : Int) + 1) (by simp))
      have S2 := hide (show RS base rb s out (.ok r) (w1.setCell ⟨rb, 1, none⟩ (.int .i64 ((m : Int) + 1))) from ⟨m + 1, hA.next, J2.out⟩)
      have B2 := hide ((HB.out.trans (Bel.ofOld O1.out (Nat.le_trans hbw.out HB.out.size))).trans (hR.keepB 1 (.int .i64 ((m : Int) + 1)) (by decide)))
      have ML := hide (show jLeft rb s (w1.setCell ⟨rb, 1, none⟩ (.int .i64 ((m : Int) + 1))) < jLeft rb s wr by
        obtain ⟨m0, hA0, hR0⟩ := HS.out
        rw [J2.out.left, hR0.left]
        have := hA0.len
        have := hA.len
        omega)
      have E2 := hide (show blanksX (.ok r) = Y by rw [← HE.out]; exact (blanks_go (by decide)).symm)
      clear hA hR hf
      go_wp2_with fail
      go_roundw
      case rel => exact ⟨.ok r, S2, E2, B2⟩
      case measure => exact ML.out
    by_cases c1 : isX 9 X = true
    · have CI9 := hide (fun w1 (o1 : Old wr w1) => ris_run base rb s out X w1 (HS.out.old o1) 9 true c1)
      obtain ⟨r, rfl⟩ := isX_head c1
      have CI32 := hide (fun w1 (o1 : Old wr w1) => ris_run base rb s out _ w1 (HS.out.old o1) 32 false (Bool.eq_false_iff.2 c0))
      clear c0 c1
      go_wp2_with fail
      refine (CI32.out wr (Old.refl _)).mono ?_
      rintro x w1 ⟨rfl, o1⟩
      have O1 := hide (o1)
      clear o1
      go_wp2_with fail
      refine (CI9.out w1 O1.out).mono ?_
      rintro x w2 ⟨rfl, o2⟩
      have O2 := hide (Old.trans O1.out o2)
      clear o2
      have S2 := hide (HS.out.old O2.out)
      obtain ⟨m, hA, hR⟩ := S2.out
      have hm := hA.le
      obtain ⟨ov, ⟨_, x1, _, _, _⟩, hf, _⟩ := hR.cells
      have f1 := hf 1
      have J2 := hide (hR.setAt (m + 1) (z := (m : Int) + 1) (by simp))
      have S2 := hide (show RS base rb s out (.ok r) (w2.setCell ⟨rb, 1, none⟩ (.int .i64 ((m : Int) + 1))) from ⟨m + 1, hA.next, J2.out⟩)
      have B2 := hide ((HB.out.trans (Bel.ofOld O2.out (Nat.le_trans hbw.out HB.out.size))).trans (hR.keepB 1 (.int .i64 ((m : Int) + 1)) (by decide)))
      have ML := hide (show jLeft rb s (w2.setCell ⟨rb, 1, none⟩ (.int .i64 ((m : Int) + 1))) < jLeft rb s wr by
        obtain ⟨m0, hA0, hR0⟩ := HS.out
        rw [J2.out.left, hR0.left]
        have := hA0.len
        have := hA.len
        omega)
      have E2 := hide (show blanksX (.ok r) = Y by rw [← HE.out]; exact (blanks_go (by decide)).symm)
      clear hA hR hf
      go_wp2_with fail
      go_roundw
      case rel => exact ⟨.ok r, S2, E2, B2⟩
      case measure => exact ML.out
    by_cases c2 : isX 10 X = true
    · have CI10 := hide (fun w1 (o1 : Old wr w1) => ris_run base rb s out X w1 (HS.out.old o1) 10 true c2)
      obtain ⟨r, rfl⟩ := isX_head c2
      have CI32 := hide (fun w1 (o1 : Old wr w1) => ris_run base rb s out _ w1 (HS.out.old o1) 32 false (Bool.eq_false_iff.2 c0))
      have CI9 := hide (fun w1 (o1 : Old wr w1) => ris_run base rb s out _ w1 (HS.out.old o1) 9 false (Bool.eq_false_iff.2 c1))
      clear c0 c1 c2
      go_wp2_with fail
      refine (CI32.out wr (Old.refl _)).mono ?_
      rintro x w1 ⟨rfl, o1⟩
      have O1 := hide (o1)
      clear o1
      go_wp2_with fail
      refine (CI9.out w1 O1.out).mono ?_
      rintro x w2 ⟨rfl, o2⟩
      have O2 := hide (Old.trans O1.out o2)
      clear o2
      go_wp2_with fail
      refine (CI10.out w2 O2.out).mono ?_
      rintro x w3 ⟨rfl, o3⟩
      have O3 := hide (Old.trans O2.out o3)
      clear o3
      have S3 := hide (HS.out.old O3.out)
      obtain ⟨m, hA, hR⟩ := S3.out
      have hm := hA.le
      obtain ⟨ov, ⟨_, x1, _, _, _⟩, hf, _⟩ := hR.cells
      have f1 := hf 1
      have J2 := hide (hR.setAt (m + 1) (z := (m : Int) + 1) (by simp))
      have S2 := hide (show RS base rb s out (.ok r) (w3.setCell ⟨rb, 1, none⟩ (.int .i64 ((m : Int) + 1))) from ⟨m + 1, hA.next, J2.out⟩)
      have B2 := hide ((HB.out.trans (Bel.ofOld O3.out (Nat.le_trans hbw.out HB.out.size))).trans (hR.keepB 1 (.int .i64 ((m : Int) + 1)) (by decide)))
      have ML := hide (show jLeft rb s (w3.setCell ⟨rb, 1, none⟩ (.int .i64 ((m : Int) + 1))) < jLeft rb s wr by
        obtain ⟨m0, hA0, hR0⟩ := HS.out
        rw [J2.out.left, hR0.left]
        have := hA0.len
        have := hA.len
        omega)
      have E2 := hide (show blanksX (.ok r) = Y by rw [← HE.out]; exact (blanks_go (by decide)).symm)
      clear hA hR hf
      go_wp2_with fail
      go_roundw
      case rel => exact ⟨.ok r, S2, E2, B2⟩
      case measure => exact ML.out
    by_cases c3 : isX 13 X = true
    · have CI13 := hide (fun w1 (o1 : Old wr w1) => ris_run base rb s out X w1 (HS.out.old o1) 13 true c3)
      obtain ⟨r, rfl⟩ := isX_head c3
      have CI32 := hide (fun w1 (o1 : Old wr w1) => ris_run base rb s out _ w1 (HS.out.old o1) 32 false (Bool.eq_false_iff.2 c0))
      have CI9 := hide (fun w1 (o1 : Old wr w1) => ris_run base rb s out _ w1 (HS.out.old o1) 9 false (Bool.eq_false_iff.2 c1))
      have CI10 := hide (fun w1 (o1 : Old wr w1) => ris_run base rb s out _ w1 (HS.out.old o1) 10 false (Bool.eq_false_iff.2 c2))
      clear c0 c1 c2 c3
      go_wp2_with fail
      refine (CI32.out wr (Old.refl _)).mono ?_
      rintro x w1 ⟨rfl, o1⟩
      have O1 := hide (o1)
      clear o1
      go_wp2_with fail
      refine (CI9.out w1 O1.out).mono ?_
      rintro x w2 ⟨rfl, o2⟩
      have O2 := hide (Old.trans O1.out o2)
      clear o2
      go_wp2_with fail
      refine (CI10.out w2 O2.out).mono ?_
      rintro x w3 ⟨rfl, o3⟩
      have O3 := hide (Old.trans O2.out o3)
      clear o3
      go_wp2_with fail
      refine (CI13.out w3 O3.out).mono ?_
      rintro x w4 ⟨rfl, o4⟩
      have O4 := hide (Old.trans O3.out o4)
      clear o4
      have S4 := hide (HS.out.old O4.out)
      obtain ⟨m, hA, hR⟩ := S4.out
      have hm := hA.le
      obtain ⟨ov, ⟨_, x1, _, _, _⟩, hf, _⟩ := hR.cells
      have f1 := hf 1
      have J2 := hide (hR.setAt (m + 1) (z := (m : Int) + 1) (by simp))
      have S2 := hide (show RS base rb s out (.ok r) (w4.setCell ⟨rb, 1, none⟩ (.int .i64 ((m : Int) + 1))) from ⟨m + 1, hA.next, J2.out⟩)
      have B2 := hide ((HB.out.trans (Bel.ofOld O4.out (Nat.le_trans hbw.out HB.out.size))).trans (hR.keepB 1 (.int .i64 ((m : Int) + 1)) (by decide)))
      have ML := hide (show jLeft rb s (w4.setCell ⟨rb, 1, none⟩ (.int .i64 ((m : Int) + 1))) < jLeft rb s wr by
        obtain ⟨m0, hA0, hR0⟩ := HS.out
        rw [J2.out.left, hR0.left]
        have := hA0.len
        have := hA.len
        omega)
      have E2 := hide (show blanksX (.ok r) = Y by rw [← HE.out]; exact (blanks_go (by decide)).symm)
      clear hA hR hf
      go_wp2_with fail
      go_roundw
      case rel => exact ⟨.ok r, S2, E2, B2⟩
      case measure => exact ML.out
    have FIN := hide (show blanksX X = X from blanks_stay (Bool.eq_false_iff.2 c0) (Bool.eq_false_iff.2 c1) (Bool.eq_false_iff.2 c2) (Bool.eq_false_iff.2 c3))
    have CI32 := hide (fun w1 (o1 : Old wr w1) => ris_run base rb s out _ w1 (HS.out.old o1) 32 false (Bool.eq_false_iff.2 c0))
    have CI9 := hide (fun w1 (o1 : Old wr w1) => ris_run base rb s out _ w1 (HS.out.old o1) 9 false (Bool.eq_false_iff.2 c1))
    have CI10 := hide (fun w1 (o1 : Old wr w1) => ris_run base rb s out _ w1 (HS.out.old o1) 10 false (Bool.eq_false_iff.2 c2))
    have CI13 := hide (fun w1 (o1 : Old wr w1) => ris_run base rb s out _ w1 (HS.out.old o1) 13 false (Bool.eq_false_iff.2 c3))
    clear c0 c1 c2 c3
    go_wp2_with fail
    refine (CI32.out wr (Old.refl _)).mono ?_
    rintro x w1 ⟨rfl, o1⟩
    have O1 := hide (o1)
    clear o1
    go_wp2_with fail
    refine (CI9.out w1 O1.out).mono ?_
    rintro x w2 ⟨rfl, o2⟩
    have O2 := hide (Old.trans O1.out o2)
    clear o2
    go_wp2_with fail
    refine (CI10.out w2 O2.out).mono ?_
    rintro x w3 ⟨rfl, o3⟩
    have O3 := hide (Old.trans O2.out o3)
    clear o3
    go_wp2_with fail
    refine (CI13.out w3 O3.out).mono ?_
    rintro x w4 ⟨rfl, o4⟩
    have O4 := hide (Old.trans O3.out o4)
    clear o4
    go_wp2_with fail
    go_end0
    exact ⟨rfl, by rw [← HE.out, FIN.out]; exact HS.out.old O4.out, HB.out.trans (Bel.ofOld O4.out (Nat.le_trans hbw.out HB.out.size))⟩
end Go.Proofs.YtdlcibbbebhcoaaGreatDoor
