/- The document's reader of a text: a number: the walk. -/
import Derived.Test.YtdlcibbbebhcoaaGreatDoorRr5
import Derived.Deep.DeepCutAuto
/-! ### The document's reader of a text: a number: the walk. -/
namespace Go.Proofs.YtdlcibbbebhcoaaGreatDoor
open Go.RowKit

def numR : RX → Int
  | .ok l => (match numV l with | .ok (n, _) => n | .error _ => 0)
  | .error _ => 0
def numX : RX → RX
  | .ok l => (match numV l with | .ok (_, r) => .ok r | .error b => .error b)
  | .error b => .error b
theorem ropt1_f {x : UInt8} {l : List UInt8} (h : (opt1 x l).1 = false) : (opt1 x l).2 = l := by
  cases l with
  | nil => rfl
  | cons c r =>
    simp only [opt1] at h ⊢
    split at h
    · cases h
    · rename_i hc
      rw [if_neg hc]
theorem ropt1_t {x : UInt8} {l : List UInt8} (h : (opt1 x l).1 = true) : l.length = (opt1 x l).2.length + 1 := by
  cases l with
  | nil => cases h
  | cons c r =>
    simp only [opt1] at h ⊢
    split at h
    · rename_i hc
      rw [if_pos hc]
      rfl
    · cases h
section
variable {base rb : Nat} {s : ByteArray} {out : List Nd} {w : World}
/-- a byte is gone past -/
theorem RS.step {c : UInt8} {r : List UInt8} (h : RS base rb s out (.ok (c :: r)) w) : ∃ n : Nat, (n : Int) < (s.size : Int) ∧ w.cell? ⟨rb, 1, none⟩ = some (.int .i64 (n : Int)) ∧ w.frozen? ⟨rb, 1, none⟩ = false ∧
    RS base rb s out (.ok r) (w.setCell ⟨rb, 1, none⟩ (.int .i64 ((n : Int) + 1))) ∧ Bel base rb w (w.setCell ⟨rb, 1, none⟩ (.int .i64 ((n : Int) + 1))) := by
  obtain ⟨n, hA, hR⟩ := h
  obtain ⟨ov, ⟨_, x1, _, _, _⟩, hf, _⟩ := hR.cells
  have := hA.len
  simp only [List.length_cons] at this
  exact ⟨n, by omega, x1, hf 1, ⟨n + 1, hA.next, hR.setAt (n + 1) (by simp)⟩, hR.keepB 1 _ (by decide)⟩
theorem RS.at_ {X : RX} (h : RS base rb s out X w) : ∃ n : Nat, w.cell? ⟨rb, 1, none⟩ = some (.int .i64 (n : Int)) ∧ ∀ l, X = .ok l → JAt s n l := by
  obtain ⟨n, wh, e, hR, _, hJ⟩ := h.open_
  obtain ⟨ov, ⟨_, x1, _, _, _⟩, _, _⟩ := hR.cells
  exact ⟨n, x1, fun l e => (hJ l e).1⟩
end
set_option maxRecDepth 100000 in
set_option maxHeartbeats 4000000 in
theorem rnum_run (base rb : Nat) (s : ByteArray) (out : List Nd) (l : List UInt8) (w : World) (h : RS base rb s out (.ok l) w) (hs : s.size ≤ 1073741824) :
    Calls Tryz.prog 44 #[.pointer (some ⟨rb, 0, none⟩)] w fun x w' => x = .returned (.int .i64 (numR (.ok l))) ∧ RS base rb s out (numX (.ok l)) w' ∧ Bel base rb w w' := by
  have HS := hide h
  have hbw := hide h.bw
  obtain ⟨n0, x10, hJ0⟩ := h.at_
  have HJ0 := hide (hJ0 l rfl)
  have hn0 := HJ0.out.le
  obtain ⟨l1, hl1⟩ : ∃ l1, Hid ((opt1 45 l).2 = l1) := ⟨_, hide rfl⟩
  obtain ⟨neg, hneg⟩ : ∃ b, Hid ((opt1 45 l).1 = b) := ⟨_, hide rfl⟩
  obtain ⟨B, hB⟩ : ∃ B, isX 45 (.ok l) = B := ⟨_, rfl⟩
  have CI := hide (ris_run base rb s out _ w h 45 B hB)
  clear h hJ0
  go_enter Tryz.func44, Tryz.ntmps44
  go_wp2_with fail
  refine CI.out.mono ?_
  rintro x w1 ⟨rfl, o1⟩
  have S1 := hide (HS.out.old o1)
  have B1 := hide (Bel.ofOld (rb := rb) o1 hbw.out)
  clear o1 CI x10
  go_upto_if 15 with fail
  go_cut [] (fun wc => Hid (RS base rb s out (.ok l1) wc) ∧ Hid (Bel base rb w wc))
  case first =>
    as_aux_lemma =>
      cases B
      · have S2 := hide (show RS base rb s out (.ok l1) w1 by rw [← hl1.out, ropt1_no hB]; exact S1.out)
        clear hB
        go_wp2_with fail
        go_meet
        exact ⟨S2, B1⟩
      · obtain ⟨r, hr⟩ := isX_head hB
        injection hr with hr
        subst hr
        obtain ⟨n1, g1, x1, f1, s2, b2⟩ := S1.out.step
        have S2 := hide (show RS base rb s out (.ok l1) (w1.setCell ⟨rb, 1, none⟩ (.int .i64 ((n1 : Int) + 1))) by rw [← hl1.out, ropt1_at]; exact s2)
        have B2 := hide (B1.out.trans b2)
        clear hB s2 b2
        go_wp2_with fail
        go_meet
        exact ⟨S2, B2⟩
  case rest =>
    obtain ⟨S2, B2⟩ := hcut
    clear S1 B1 hB
    obtain ⟨wA, hwA⟩ : ∃ x, x = wc := ⟨_, rfl⟩
    subst hwA
    obtain ⟨n1, x1, hJ1⟩ := S2.out.at_
    have HJ1 := hide (hJ1 l1 rfl)
    have hn1 := HJ1.out.le
    obtain ⟨X2, hX2⟩ : ∃ X2, Hid (whX l1 = X2) := ⟨_, hide rfl⟩
    obtain ⟨B, hB⟩ : ∃ B, isX 48 (.ok l1) = B := ⟨_, rfl⟩
    have CI := hide (ris_run base rb s out _ wA S2.out 48 B hB)
    clear hJ1
    go_wp2_with fail
    refine CI.out.mono ?_
    rintro x w2 ⟨rfl, o2⟩
    have S3 := hide (S2.out.old o2)
    have B3 := hide (B2.out.trans (Bel.ofOld (rb := rb) o2 S2.out.bw))
    clear o2 CI x1
    go_upto_if 29 with fail
    go_cut [] (fun wc => Hid (RS base rb s out X2 wc) ∧ Hid (Bel base rb w wc))
    case first =>
      as_aux_lemma =>
        cases B
        · have CD := hide (rdigits_run base rb s out l1 w2 S3.out hs)
          have HW := hide (show X2 = digX (.ok l1) by rw [← hX2.out]; unfold whX; rw [ropt1_no hB])
          obtain ⟨D, hD⟩ : ∃ D, Hid ((digsOf l1).length = D) := ⟨_, hide rfl⟩
          rw [hD.out] at CD
          clear hB
          by_cases hD0 : D = 0
          · subst hD0
            have e0 : digsOf l1 = [] := List.eq_nil_of_length_eq_zero hD.out
            have HX := hide (show X2 = failX l1 70 (.ok l1) ∧ digsEnd l1 = l1 by
              refine ⟨by rw [HW.out]; simp only [digX, failX, e0, if_true], ?_⟩
              have := (rdigs_split l1).1
              rw [e0, List.nil_append] at this
              exact this.symm)
            rw [HX.out.2] at CD
            clear e0
            go_wp2_with fail
            refine CD.out.mono ?_
            rintro x w3 ⟨rfl, s3, b3⟩
            have S4 := hide s3
            have B4 := hide (B3.out.trans b3)
            obtain ⟨n2, x2, hJ2⟩ := s3.at_
            have hj2 := (hJ2 _ rfl).len
            have CF := hide (rdfail_run base rb s out _ w3 s3 (n2 : Int) 70 l1 (by decide) (fun _ _ => by omega) (by omega))
            clear s3 b3 hJ2 hj2
            go_wp2_with fail
            refine CF.out.mono ?_
            rintro x w4 ⟨rfl, s4, b4⟩
            have S5 := hide (show RS base rb s out X2 w4 by rw [HX.out.1]; exact s4)
            have B5 := hide (B4.out.trans b4)
            clear s4 b4
            go_wp2_with fail
            go_meet
            exact ⟨S5, B5⟩
          · have hDi : ((D : Int) == 0) = false := by simp; omega
            have hDj : ¬ (D : Int) = 0 := by omega
            have HX := hide (show X2 = .ok (digsEnd l1) by
              rw [HW.out]
              simp only [digX]
              rw [if_neg]
              intro e
              rw [e] at hD
              exact hD0 hD.out.symm)
            clear hD0
            go_wp2_with fail
            refine CD.out.mono ?_
            rintro x w3 ⟨rfl, s3, b3⟩
            have S4 := hide (show RS base rb s out X2 w3 by rw [HX.out]; exact s3)
            have B4 := hide (B3.out.trans b3)
            clear s3 b3
            go_wp2_with fail
            go_meet
            exact ⟨S4, B4⟩
        · obtain ⟨r, hr⟩ := isX_head hB
          injection hr with hr
          subst hr
          obtain ⟨n2, g2, x2, f2, s4, b4⟩ := S3.out.step
          have S4 := hide (show RS base rb s out X2 (w2.setCell ⟨rb, 1, none⟩ (.int .i64 ((n2 : Int) + 1))) by rw [← hX2.out]; unfold whX; rw [ropt1_at]; exact s4)
          have B4 := hide (B3.out.trans b4)
          clear hB s4 b4
          go_wp2_with fail
          go_meet
          exact ⟨S4, B4⟩
    case rest =>
      obtain ⟨S4, B4⟩ := hcut
      clear S3 B3 hB S2 B2
      obtain ⟨wB, hwB⟩ : ∃ x, x = wc := ⟨_, rfl⟩
      subst hwB
      obtain ⟨n2, x2, hJ2⟩ := S4.out.at_
      have HJ2 := hide hJ2
      obtain ⟨B, hB⟩ : ∃ B, isX 46 X2 = B := ⟨_, rfl⟩
      have CI := hide (ris_run base rb s out _ wB S4.out 46 B hB)
      clear hJ2
      go_wp2_with fail
      refine CI.out.mono ?_
      rintro x w3 ⟨rfl, o3⟩
      have S5 := hide (S4.out.old o3)
      have B5 := hide (B4.out.trans (Bel.ofOld (rb := rb) o3 S4.out.bw))
      clear o3 CI x2
      go_upto_if 52 with fail
      go_cut [4] (fun bv wc => ∃ X3 w3, bv = .bool w3 ∧ Hid (fracX X2 = (X3, w3)) ∧ Hid (RS base rb s out X3 wc) ∧ Hid (Bel base rb w wc))
      case first =>
        as_aux_lemma =>
          cases B
          · have FX := hide (rfrac_no hB)
            clear hB
            go_wp2_with fail
            go_meet
            exact ⟨X2, true, rfl, FX, S5, B5⟩
          · obtain ⟨r, hr⟩ := isX_head hB
            have FX := hide (show fracX X2 = (digX (.ok r), false) by rw [hr]; exact rfrac_yes r)
            obtain ⟨n3, g3, x3, f3, s6, b6⟩ := RS.step (by rw [← hr]; exact S5.out)
            have S6 := hide s6
            have B6 := hide (B5.out.trans b6)
            have CD := hide (rdigits_run base rb s out r _ s6 hs)
            obtain ⟨D, hD⟩ : ∃ D, Hid ((digsOf r).length = D) := ⟨_, hide rfl⟩
            rw [hD.out] at CD
            clear hB hr s6 b6
            by_cases hD0 : D = 0
            · subst hD0
              have e0 : digsOf r = [] := List.eq_nil_of_length_eq_zero hD.out
              have HX := hide (show digX (.ok r) = failX r 70 (.ok r) ∧ digsEnd r = r by
                refine ⟨by simp only [digX, failX, e0, if_true], ?_⟩
                have := (rdigs_split r).1
                rw [e0, List.nil_append] at this
                exact this.symm)
              rw [HX.out.2] at CD
              clear e0
              go_wp2_with fail
              refine CD.out.mono ?_
              rintro x w4 ⟨rfl, s3, b3⟩
              have B7 := hide (B6.out.trans b3)
              obtain ⟨n4, x4, hJ4⟩ := s3.at_
              have hj4 := (hJ4 _ rfl).len
              have CF := hide (rdfail_run base rb s out _ w4 s3 (n4 : Int) 70 r (by decide) (fun _ _ => by omega) (by omega))
              clear s3 b3 hJ4 hj4
              go_wp2_with fail
              refine CF.out.mono ?_
              rintro x w5 ⟨rfl, s4, b4⟩
              have S8 := hide (show RS base rb s out (digX (.ok r)) w5 by rw [HX.out.1]; exact s4)
              have B8 := hide (B7.out.trans b4)
              clear s4 b4
              go_wp2_with fail
              go_meet
              exact ⟨_, false, rfl, FX, S8, B8⟩
            · have hDi : ((D : Int) == 0) = false := by simp; omega
              have hDj : ¬ (D : Int) = 0 := by omega
              have HX := hide (show digX (.ok r) = .ok (digsEnd r) by
                simp only [digX]
                rw [if_neg]
                intro e
                rw [e] at hD
                exact hD0 hD.out.symm)
              clear hD0
              go_wp2_with fail
              refine CD.out.mono ?_
              rintro x w4 ⟨rfl, s3, b3⟩
              have S7 := hide (show RS base rb s out (digX (.ok r)) w4 by rw [HX.out]; exact s3)
              have B7 := hide (B6.out.trans b3)
              clear s3 b3
              go_wp2_with fail
              go_meet
              exact ⟨_, false, rfl, FX, S7, B7⟩
      case rest =>
        obtain ⟨X3, w3b, rfl, FX, S6, B6⟩ := hcut
        clear S5 B5 hB S4 B4
        obtain ⟨wC, hwC⟩ : ∃ x, x = wc := ⟨_, rfl⟩
        subst hwC
        obtain ⟨Ba, hBa⟩ : ∃ B, isX 101 X3 = B := ⟨_, rfl⟩
        obtain ⟨Bb, hBb⟩ : ∃ B, isX 69 X3 = B := ⟨_, rfl⟩
        go_upto_region 16 with fail
        go_cut [75] (fun bv wc => ∃ B, bv = .bool B ∧ Hid ((Ba || Bb) = B) ∧ Hid (RS base rb s out X3 wc) ∧ Hid (Bel base rb w wc))
        case first =>
          as_aux_lemma =>
            have CA := hide (ris_run base rb s out _ wC S6.out 101 Ba hBa)
            have CB := hide (fun w4 (o : Old wC w4) => ris_run base rb s out _ w4 (S6.out.old o) 69 Bb hBb)
            clear hBa hBb
            cases Ba with
            | true =>
              go_wp2_with fail
              refine CA.out.mono ?_
              rintro x w4 ⟨rfl, o4⟩
              have S7 := hide (S6.out.old o4)
              have B7 := hide (B6.out.trans (Bel.ofOld (rb := rb) o4 S6.out.bw))
              clear o4
              go_wp2_with fail
              go_meet
              exact ⟨true, rfl, hide rfl, S7, B7⟩
            | false =>
              go_wp2_with fail
              refine CA.out.mono ?_
              rintro x w4 ⟨rfl, o4⟩
              have CB2 := hide (CB.out w4 o4)
              have O4 := hide o4
              clear o4 CB
              go_wp2_with fail
              refine CB2.out.mono ?_
              rintro x w5 ⟨rfl, o5⟩
              have S7 := hide (S6.out.old (Old.trans O4.out o5))
              have B7 := hide (B6.out.trans (Bel.ofOld (rb := rb) (Old.trans O4.out o5) S6.out.bw))
              clear o5
              go_wp2_with fail
              go_meet
              exact ⟨Bb, rfl, hide rfl, S7, B7⟩
        case rest =>
          obtain ⟨B, rfl, HB, S7, B7⟩ := hcut
          clear S6 B6
          obtain ⟨wD, hwD⟩ : ∃ x, x = wc := ⟨_, rfl⟩
          subst hwD
          go_upto_if 75 with fail
          go_cut [4] (fun bv wc => ∃ X4 w4, bv = .bool (w3b && w4) ∧ Hid (expX X3 = (X4, w4)) ∧ Hid (RS base rb s out X4 wc) ∧ Hid (Bel base rb w wc))
          case first =>
            as_aux_lemma =>
              cases B with
              | false =>
                have EX := hide (show expX X3 = (X3, true) by
                  have h := HB.out
                  rw [Bool.or_eq_false_iff] at h
                  exact rexp_no (hBa.trans h.1) (hBb.trans h.2))
                clear hBa hBb
                go_wp2_with fail
                go_meet
                exact ⟨X3, true, by simp, EX, S7, B7⟩
              | true =>
                obtain ⟨c, r, hc, hr⟩ : ∃ c r, (c = 101 ∨ c = 69) ∧ X3 = .ok (c :: r) := by
                  have h := HB.out
                  rw [Bool.or_eq_true_iff] at h
                  rcases h with h | h
                  · obtain ⟨r, hr⟩ := isX_head (hBa.trans h)
                    exact ⟨101, r, .inl rfl, hr⟩
                  · obtain ⟨r, hr⟩ := isX_head (hBb.trans h)
                    exact ⟨69, r, .inr rfl, hr⟩
                have EX := hide (show expX X3 = (digX (.ok (opt2 43 45 r).2), false) by rw [hr]; exact rexp_yes hc r)
                obtain ⟨n3, g3, x3, f3, s6, b6⟩ := RS.step (by rw [← hr]; exact S7.out)
                have S8 := hide s6
                have B8 := hide (B7.out.trans b6)
                obtain ⟨Bc, hBc⟩ : ∃ B, isX 43 (.ok r) = B := ⟨_, rfl⟩
                obtain ⟨Bd, hBd⟩ : ∃ B, isX 45 (.ok r) = B := ⟨_, rfl⟩
                have SB := hide (fun w4 (e : w4 = wD.setCell ⟨rb, 1, none⟩ (.int .i64 ((n3 : Int) + 1))) => show RS base rb s out (.ok r) w4 ∧ Bel base rb w w4 from by
                  subst e
                  exact ⟨S8.out, B8.out⟩)
                clear hr hc hBa hBb s6 b6
                go_upto_region 19 with fail
                generalize hw4 : wD.setCell ⟨rb, 1, none⟩ (.int .i64 ((n3 : Int) + 1)) = w4
                obtain ⟨s9, b9⟩ := SB.out _ hw4.symm
                have S9 := hide s9
                have B9 := hide b9
                clear SB S8 B8 hw4 x3 f3 s9 b9 S7 B7
                go_cut [89] (fun bv wc => ∃ B, bv = .bool B ∧ Hid ((Bc || Bd) = B) ∧ Hid (RS base rb s out (.ok r) wc) ∧ Hid (Bel base rb w wc))
                case first =>
                  as_aux_lemma =>
                    have CA := hide (ris_run base rb s out _ w4 S9.out 43 Bc hBc)
                    have CB := hide (fun w5 (o : Old w4 w5) => ris_run base rb s out _ w5 (S9.out.old o) 45 Bd hBd)
                    clear hBc hBd
                    cases Bc with
                    | true =>
                      go_wp2_with fail
                      refine CA.out.mono ?_
                      rintro x w5 ⟨rfl, o4⟩
                      have S7 := hide (S9.out.old o4)
                      have B7 := hide (B9.out.trans (Bel.ofOld (rb := rb) o4 S9.out.bw))
                      clear o4
                      go_wp2_with fail
                      go_meet
                      exact ⟨true, rfl, hide rfl, S7, B7⟩
                    | false =>
                      go_wp2_with fail
                      refine CA.out.mono ?_
                      rintro x w5 ⟨rfl, o4⟩
                      have CB2 := hide (CB.out w5 o4)
                      have O4 := hide o4
                      clear o4 CB
                      go_wp2_with fail
                      refine CB2.out.mono ?_
                      rintro x w6 ⟨rfl, o5⟩
                      have S7 := hide (S9.out.old (Old.trans O4.out o5))
                      have B7 := hide (B9.out.trans (Bel.ofOld (rb := rb) (Old.trans O4.out o5) S9.out.bw))
                      clear o5
                      go_wp2_with fail
                      go_meet
                      exact ⟨Bd, rfl, hide rfl, S7, B7⟩
                case rest =>
                  obtain ⟨B, rfl, HB2, S10, B10⟩ := hcut
                  clear S9 B9
                  obtain ⟨wE, hwE⟩ : ∃ x, x = wc := ⟨_, rfl⟩
                  subst hwE
                  obtain ⟨r2, hr2⟩ : ∃ r2, Hid ((opt2 43 45 r).2 = r2) := ⟨_, hide rfl⟩
                  rw [hr2.out] at EX
                  go_upto_if 89 with fail
                  go_cut [] (fun wc => Hid (RS base rb s out (.ok r2) wc) ∧ Hid (Bel base rb w wc))
                  case first =>
                    as_aux_lemma =>
                      cases B with
                      | false =>
                        have S11 := hide (show RS base rb s out (.ok r2) wE by
                          have h := HB2.out
                          rw [Bool.or_eq_false_iff] at h
                          rw [← hr2.out, ropt2_no (hBc.trans h.1) (hBd.trans h.2)]
                          exact S10.out)
                        clear hBc hBd
                        go_wp2_with fail
                        go_meet
                        exact ⟨S11, B10⟩
                      | true =>
                        obtain ⟨c, r0, hc, hr⟩ : ∃ c r0, (c = 43 ∨ c = 45) ∧ r = c :: r0 := by
                          have h := HB2.out
                          rw [Bool.or_eq_true_iff] at h
                          rcases h with h | h
                          · obtain ⟨r0, hr⟩ := isX_head (hBc.trans h)
                            injection hr with hr
                            exact ⟨43, r0, .inl rfl, hr⟩
                          · obtain ⟨r0, hr⟩ := isX_head (hBd.trans h)
                            injection hr with hr
                            exact ⟨45, r0, .inr rfl, hr⟩
                        have e2 : r2 = r0 := by
                          rw [← hr2.out, hr]
                          rcases hc with rfl | rfl
                          · rw [ropt2_a]
                          · rw [ropt2_b]
                        obtain ⟨n4, g4, x4, f4, s11, b11⟩ := RS.step (by rw [← hr]; exact S10.out)
                        have S11 := hide (show RS base rb s out (.ok r2) (wE.setCell ⟨rb, 1, none⟩ (.int .i64 ((n4 : Int) + 1))) by rw [e2]; exact s11)
                        have B11 := hide (B10.out.trans b11)
                        clear hr hc hBc hBd s11 b11 e2
                        go_wp2_with fail
                        go_meet
                        exact ⟨S11, B11⟩
                  case rest =>
                    obtain ⟨S11, B11⟩ := hcut
                    clear S10 B10 hBc hBd HB2
                    obtain ⟨wF, hwF⟩ : ∃ x, x = wc := ⟨_, rfl⟩
                    subst hwF
                    have CD := hide (rdigits_run base rb s out r2 _ S11.out hs)
                    obtain ⟨D, hD⟩ : ∃ D, Hid ((digsOf r2).length = D) := ⟨_, hide rfl⟩
                    rw [hD.out] at CD
                    by_cases hD0 : D = 0
                    · subst hD0
                      have e0 : digsOf r2 = [] := List.eq_nil_of_length_eq_zero hD.out
                      have HX := hide (show digX (.ok r2) = failX r2 70 (.ok r2) ∧ digsEnd r2 = r2 by
                        refine ⟨by simp only [digX, failX, e0, if_true], ?_⟩
                        have := (rdigs_split r2).1
                        rw [e0, List.nil_append] at this
                        exact this.symm)
                      rw [HX.out.2] at CD
                      clear e0
                      go_wp2_with fail
                      refine CD.out.mono ?_
                      rintro x w7 ⟨rfl, s3, b3⟩
                      have B12 := hide (B11.out.trans b3)
                      obtain ⟨n5, x5, hJ5⟩ := s3.at_
                      have hj5 := (hJ5 _ rfl).len
                      have CF := hide (rdfail_run base rb s out _ w7 s3 (n5 : Int) 70 r2 (by decide) (fun _ _ => by omega) (by omega))
                      clear s3 b3 hJ5 hj5
                      go_wp2_with fail
                      refine CF.out.mono ?_
                      rintro x w8 ⟨rfl, s4, b4⟩
                      have S13 := hide (show RS base rb s out (digX (.ok r2)) w8 by rw [HX.out.1]; exact s4)
                      have B13 := hide (B12.out.trans b4)
                      clear s4 b4
                      go_wp2_with fail
                      go_meet
                      exact ⟨_, false, by simp, EX, S13, B13⟩
                    · have hDi : ((D : Int) == 0) = false := by simp; omega
                      have hDj : ¬ (D : Int) = 0 := by omega
                      have HX := hide (show digX (.ok r2) = .ok (digsEnd r2) by
                        simp only [digX]
                        rw [if_neg]
                        intro e
                        rw [e] at hD
                        exact hD0 hD.out.symm)
                      clear hD0
                      go_wp2_with fail
                      refine CD.out.mono ?_
                      rintro x w7 ⟨rfl, s3, b3⟩
                      have S12 := hide (show RS base rb s out (digX (.ok r2)) w7 by rw [HX.out]; exact s3)
                      have B12 := hide (B11.out.trans b3)
                      clear s3 b3
                      go_wp2_with fail
                      go_meet
                      exact ⟨_, false, by simp, EX, S12, B12⟩
          case rest =>
            obtain ⟨X4, w4b, rfl, EX, S8, B8⟩ := hcut
            clear S7 B7 hBa hBb HB
            obtain ⟨wE, hwE⟩ : ∃ x, x = wc := ⟨_, rfl⟩
            subst hwE
            have NS := hide (num_spec hl1.out hX2.out FX.out EX.out)
            rw [hneg.out] at NS
            obtain ⟨wh, hwh⟩ : ∃ b, Hid ((w3b && w4b) = b) := ⟨_, hide rfl⟩
            rw [hwh.out] at NS ⊢
            -- END
            have hn01 : n0 ≤ n1 := by
              have a := opt1_len 45 l
              rw [hl1.out] at a
              have b := HJ0.out.len
              have c := HJ1.out.len
              omega
            clear hX2
            cases X4 with
            | error b =>
              as_aux_lemma =>
                have FIN := hide (show numR (.ok l) = 0 ∧ numX (.ok l) = .error b by simp only [numR, numX, NS.out.1 b rfl, and_self])
                obtain ⟨n5, wh5, e5, hR5, he5, _⟩ := S8.out.open_
                obtain ⟨ov5, ⟨_, _, _, _, x54⟩, _, _⟩ := hR5.cells
                have he5' : e5 ≠ 0 := fun e => by obtain ⟨l', e'⟩ := he5.1 e; cases e'
                have he6 : (e5 == 0) = false := by simp [he5']
                have he7 : ¬ e5 = 0 := he5'
                clear NS hR5 he5
                go_wp2_with fail
                go_loop [4, 7, 8, 9] (fun bv nv iv _ => bv = .bool wh ∧ nv = .int .i64 0 ∧ iv = .int .i64 n1) (fun _ _ _ _ => 0)
                case atStart => exact ⟨rfl, rfl, rfl⟩
                case round =>
                  obtain ⟨rfl, rfl, rfl⟩ := hrel
                  have CF := hide (rdfail_run base rb s out _ wE S8.out (n0 : Int) 73 [] (by decide) (fun l' e => by (cases e)) (by simp))
                  have H1 : (n1 : Int) < (n2 : Int) ∨ ¬ (n1 : Int) < (n2 : Int) := by omega
                  have H2 : n0 = n1 ∨ ¬ n0 = n1 := by omega
                  cases wh with
                  | true =>
                    rcases H1 with H1 | H1 <;> rcases H2 with H2 | H2
                    all_goals
                      first | (have q1 : decide ((n1 : Int) < (n2 : Int)) = true := decide_eq_true H1) | (have q1 : decide ((n1 : Int) < (n2 : Int)) = false := decide_eq_false (by omega))
                      first | (have q3 : ((n0 : Int) == (n1 : Int)) = true := by rw [H2]; simp) | (have q3 : ((n0 : Int) == (n1 : Int)) = false := by simp; omega)
                      clear H2
                      go_wp2_with fail
                      go_ret
                      exact ⟨by rw [FIN.out.1]; rfl, by rw [FIN.out.2]; exact S8.out, B8.out⟩
                  | false =>
                    rcases H1 with H1 | H1 <;> rcases H2 with H2 | H2
                    all_goals
                      first | (have q1 : decide ((n1 : Int) < (n2 : Int)) = true := decide_eq_true H1) | (have q1 : decide ((n1 : Int) < (n2 : Int)) = false := decide_eq_false (by omega))
                      first | (have q3 : ((n0 : Int) == (n1 : Int)) = true := by rw [H2]; simp) | (have q3 : ((n0 : Int) == (n1 : Int)) = false := by simp; omega)
                      clear H2
                      go_wp2_with fail
                      refine CF.out.mono ?_
                      rintro x w9 ⟨rfl, s9, b9⟩
                      have S9 := hide s9
                      have B9 := hide (B8.out.trans b9)
                      obtain ⟨n6, wh6, e6, hR6, he6', _⟩ := s9.open_
                      obtain ⟨ov6, ⟨_, _, _, _, x64⟩, _, _⟩ := hR6.cells
                      have he60 : e6 ≠ 0 := fun e => by obtain ⟨l', e'⟩ := he6'.1 e; cases e'
                      have he61 : (e6 != 0) = true := by simp [he60]
                      have he62 : ¬ e6 = 0 := he60
                      clear s9 b9 hR6 he6' he60
                      go_wp2_with fail
                      go_ret
                      exact ⟨by rw [FIN.out.1]; rfl, by rw [FIN.out.2]; exact S9.out, B9.out⟩
            | ok l4 =>
              obtain ⟨ds, l2, e2, HL1, HDS, NO, YES⟩ := NS.out.2 l4 rfl
              have HJ2' := hide (HJ2.out l2 e2)
              have HN2 := hide (show n1 + ds.length = n2 by
                have a := HJ1.out.len
                have b := HJ2'.out.len
                rw [HL1, List.length_append] at a
                omega)
              have HDI := hide HDS
              have HLL := hide HL1
              obtain ⟨n5, wh5, e5, hR5, he5, _⟩ := S8.out.open_
              obtain ⟨ov5, ⟨x50, _, _, _, x54⟩, _, _⟩ := hR5.cells
              obtain rfl : e5 = 0 := he5.2 ⟨_, rfl⟩
              have CF := hide (rdfail_run base rb s out _ wE S8.out (n0 : Int) 73 l (by decide) (fun _ _ => by have := HJ0.out.len; omega) (by have := HJ0.out.len; omega))
              have H2 : n0 = n1 ∨ ¬ n0 = n1 := by omega
              have NX : Hid (numV l = .error (l, 73)) → Hid (numR (.ok l) = 0 ∧ numX (.ok l) = failX l 73 (.ok l4)) := fun h => hide (by simp only [numR, numX, h.out, failX, and_self])
              clear NS hR5 he5 e2 HL1 HDS
              cases wh with
              | false =>
                as_aux_lemma =>
                  have FIN := NX (hide (NO rfl))
                  have H1 : (n1 : Int) < (n2 : Int) ∨ ¬ (n1 : Int) < (n2 : Int) := by omega
                  clear YES NO NX HJ2'
                  go_wp2_with fail
                  go_loop [4, 7, 8, 9] (fun bv nv iv _ => bv = .bool false ∧ nv = .int .i64 0 ∧ iv = .int .i64 n1) (fun _ _ _ _ => 0)
                  case atStart => exact ⟨rfl, rfl, rfl⟩
                  case round =>
                    obtain ⟨rfl, rfl, rfl⟩ := hrel
                    rcases H1 with H1 | H1 <;> rcases H2 with H2 | H2
                    all_goals
                      first | (have q1 : decide ((n1 : Int) < (n2 : Int)) = true := decide_eq_true H1) | (have q1 : decide ((n1 : Int) < (n2 : Int)) = false := decide_eq_false (by omega))
                      first | (have q3 : ((n0 : Int) == (n1 : Int)) = true := by rw [H2]; simp) | (have q3 : ((n0 : Int) == (n1 : Int)) = false := by simp; omega)
                      clear H2
                      go_wp2_with fail
                      refine CF.out.mono ?_
                      rintro x w9 ⟨rfl, s9, b9⟩
                      have S9 := hide s9
                      have B9 := hide (B8.out.trans b9)
                      obtain ⟨n6, wh6, e6, hR6, he6', _⟩ := s9.open_
                      obtain ⟨ov6, ⟨_, _, _, _, x64⟩, _, _⟩ := hR6.cells
                      have he60 : e6 ≠ 0 := fun e => by obtain ⟨l', e'⟩ := he6'.1 e; cases e'
                      have he61 : (e6 != 0) = true := by simp [he60]
                      have he62 : ¬ e6 = 0 := he60
                      clear s9 b9 hR6 he6' he60
                      go_wp2_with fail
                      go_ret
                      exact ⟨by rw [FIN.out.1]; rfl, by rw [FIN.out.2]; exact S9.out, B9.out⟩
              | true =>
                as_aux_lemma =>
                  have YES2 := hide (YES rfl)
                  obtain ⟨M, hM⟩ : ∃ M : Nat, Hid (9223372036854775808 = M) := ⟨_, hide rfl⟩
                  obtain ⟨V, hV⟩ : ∃ V : Nat, Hid (decV ds = V) := ⟨_, hide rfl⟩
                  rw [hV.out] at YES2
                  clear YES NO
                  have NG := hide (show (neg = false → n0 = n1) ∧ (neg = true → ¬ n0 = n1) by
                    have a := HJ0.out.len
                    have b := HJ1.out.len
                    refine ⟨fun h => ?_, fun h => ?_⟩
                    · have e := ropt1_f (hneg.out.trans h)
                      rw [hl1.out] at e
                      rw [e] at b
                      omega
                    · have e := ropt1_t (hneg.out.trans h)
                      rw [hl1.out] at e
                      omega)
                  have FF := hide (show M < V → numR (.ok l) = 0 ∧ numX (.ok l) = failX l 73 (.ok l4) from fun h => (NX (hide (by
                    have a := hM.out
                    rw [YES2.out, if_pos]
                    unfold signed
                    cases neg
                    · simp only [Bool.false_eq_true, if_false]; omega
                    · simp only [if_true]; omega))).out)
                  have TE := hide (show neg = false → V = M → numR (.ok l) = 0 ∧ numX (.ok l) = failX l 73 (.ok l4) from fun h1 h => (NX (hide (by
                    have a := hM.out
                    subst h1
                    rw [YES2.out, if_pos]
                    unfold signed
                    simp only [Bool.false_eq_true, if_false]; omega))).out)
                  have TP := hide (show neg = false → V < M → numR (.ok l) = (V : Int) ∧ numX (.ok l) = .ok l4 from fun h1 h => by
                    have a := hM.out
                    subst h1
                    have e := YES2.out
                    unfold signed at e
                    simp only [Bool.false_eq_true, if_false] at e
                    rw [if_neg (by omega)] at e
                    simp only [numR, numX, e, and_self])
                  have TN := hide (show neg = true → V ≤ M → numR (.ok l) = -(V : Int) ∧ numX (.ok l) = .ok l4 from fun h1 h => by
                    have a := hM.out
                    subst h1
                    have e := YES2.out
                    unfold signed at e
                    simp only [if_true] at e
                    rw [if_neg (by omega)] at e
                    simp only [numR, numX, e, and_self])
                  clear YES2 NX
                  go_wp2_with fail
                  go_loop [4, 7, 8, 9] (fun bv nv iv _ => ∃ (k m i0 : Nat) (wb : Bool), bv = .bool wb ∧ nv = .int .i64 (-(m : Int)) ∧ iv = .int .i64 (i0 : Int) ∧ i0 ≤ n2 ∧ Hid (n1 + k = i0) ∧ Hid (m ≤ M) ∧ Hid (wb = true → m = decV (ds.take k)) ∧ Hid (wb = false → M < V)) (fun _ _ iv _ => n2 - (intOf iv).toNat)
                  case atStart => exact ⟨0, 0, n1, true, rfl, rfl, rfl, by have := HN2.out; omega, hide rfl, hide (Nat.zero_le _), hide (fun _ => rfl), hide (fun h => by (cases h))⟩
                  case round =>
                    obtain ⟨k, m, i0, wb, rfl, rfl, rfl, hi0, HI, HM, HT, HF⟩ := hrel
                    by_cases hlt : i0 < n2
                    · have hlti : (i0 : Int) < (n2 : Int) := by omega
                      have hltd : decide ((i0 : Int) < (n2 : Int)) = true := decide_eq_true hlti
                      have hltn : decide (i0 < n2) = true := decide_eq_true hlt
                      cases wb with
                      | true =>
                        have hkL : k < ds.length := by have := HI.out; have := HN2.out; omega
                        obtain ⟨c, hc⟩ : ∃ c, Hid (ds[k] = c) := ⟨_, hide rfl⟩
                        obtain ⟨hin, hsc⟩ : ∃ h : i0 < s.size, s[i0]'h = c := by
                          have hr := HJ1.out.rest
                          rw [HLL.out] at hr
                          have hd2 : s.data.toList.drop i0 = c :: (ds.drop (k + 1) ++ l2) := by
                            rw [← HI.out, ← List.drop_drop, hr, List.drop_append_of_le_length (by omega), List.drop_eq_getElem_cons hkL, hc.out]
                            rfl
                          obtain ⟨a, b, _⟩ := byte_at hd2
                          exact ⟨a, by rw [get_at s a, b]⟩
                        obtain ⟨g1, g2⟩ := isDig_yes (HDI.out c (by rw [← hc.out]; exact List.getElem_mem hkL))
                        have hini : (i0 : Int) < (s.size : Int) := by omega
                        have g1i : (48 : Int) ≤ (c.toNat : Int) := by omega
                        have g2i : (c.toNat : Int) ≤ 57 := by omega
                        obtain ⟨d, hd⟩ : ∃ d : Nat, c.toNat = d + 48 := ⟨c.toNat - 48, by omega⟩
                        have hcd : (c.toNat : Int) - 48 = (d : Int) := by omega
                        have hd9 : d ≤ 9 := by omega
                        have HCD := hide hcd
                        have HTK := hide (show decV (ds.take (k + 1)) = 10 * m + d by
                          rw [rdec_take ds k hkL, hc.out, ← HT.out rfl]
                          omega)
                        have HLE := hide (show 10 * m + d ≤ V by rw [← hV.out, ← HTK.out]; exact rdec_le ds (k + 1))
                        have HI2 := hide (show n1 + (k + 1) = i0 + 1 by have := HI.out; omega)
                        have hi1 : i0 + 1 ≤ n2 := by omega
                        clear hcd hd
                        go_upto_region 28 with fail
                        rw [HCD.out]
                        have hdi1 : (0 : Int) ≤ (d : Int) := by omega
                        have hdi2 : (d : Int) ≤ 9 := by omega
                        obtain ⟨T, hT⟩ : ∃ T, Int.tdiv (-9223372036854775808 + (d : Int)) 10 = T := ⟨_, rfl⟩
                        have LIM := rlim_iff m d hd9
                        rw [hT] at LIM
                        have wT : IntKind.i64.wrap T = T := by
                          have e := rlim d hd9
                          rw [hT] at e
                          exact IntWalk.i64_in _ (by omega)
                        have HLIM := hide LIM
                        clear g1 g2 g1i g2i LIM hsc
                        cases hg : goesOn m d with
                        | true =>
                          have c1 : ¬ -(m : Int) < T := fun h => by
                            have := HLIM.out.1 h
                            rw [hg] at this
                            cases this
                          have HM2 := hide (show 10 * m + d ≤ M by rw [← hM.out]; exact of_decide_eq_true hg)
                          obtain ⟨p, hp⟩ : ∃ p : Nat, Hid (10 * m = p) := ⟨_, hide rfl⟩
                          obtain ⟨m', hm'⟩ : ∃ m' : Nat, Hid (p + d = m') := ⟨_, hide rfl⟩
                          have w1 : IntKind.i64.wrap (10 * -(m : Int)) = -(p : Int) := by
                            have a := HM2.out
                            have b := hM.out
                            have e : (10 : Int) * -(m : Int) = -(p : Int) := by rw [← hp.out]; omega
                            rw [e]
                            exact IntWalk.i64_in _ (by have := hp.out; omega)
                          have w1b : IntKind.i64.wrap (-(10 * (m : Int))) = -(p : Int) := by rw [← w1]; congr 1; omega
                          have w2 : IntKind.i64.wrap (-(p : Int) - (d : Int)) = -(m' : Int) := by
                            have a := HM2.out
                            have b := hM.out
                            have e : -(p : Int) - (d : Int) = -(m' : Int) := by rw [← hm'.out]; omega
                            rw [e]
                            exact IntWalk.i64_in _ (by have := hp.out; have := hm'.out; omega)
                          have T2 := hide (show true = true → m' = decV (ds.take (k + 1)) from fun _ => by rw [HTK.out, ← hm'.out, ← hp.out])
                          have M2 := hide (show m' ≤ M by rw [← hm'.out, ← hp.out]; exact HM2.out)
                          clear hg
                          go_wp2_with fail
                          go_round
                          case rel => exact ⟨k + 1, m', i0 + 1, true, rfl, rfl, by go_num, hi1, HI2, M2, T2, hide (fun h => by (cases h))⟩
                          case measure => simp [intOf]; omega
                        | false =>
                          have c1 : -(m : Int) < T := HLIM.out.2 hg
                          have F2 := hide (show false = false → M < V from fun _ => by
                            have a := HLE.out
                            have b : ¬ 10 * m + d ≤ 9223372036854775808 := of_decide_eq_false hg
                            rw [hM.out] at b
                            omega)
                          clear hg
                          go_wp2_with fail
                          go_round
                          case rel => exact ⟨k + 1, m, i0 + 1, false, rfl, rfl, by go_num, hi1, HI2, HM, hide (fun h => by (cases h)), F2⟩
                          case measure => simp [intOf]; omega
                      | false =>
                        have FIN := hide (FF.out (HF.out rfl))
                        have HMM : m = M ∨ ¬ m = M := by omega
                        have HMI := hide hM.out
                        rcases H2 with H2 | H2 <;> rcases HMM with HMM | HMM
                        all_goals
                          first | (have q3 : ((n0 : Int) == (n1 : Int)) = true := by rw [H2]; simp) | (have q3 : ((n0 : Int) == (n1 : Int)) = false := by simp; omega)
                          first | (have q4 : (-(m : Int) == -9223372036854775808) = true := by (have a := HMI.out; simp; omega)) | (have q4 : (-(m : Int) == -9223372036854775808) = false := by (have a := HMI.out; simp; omega))
                          clear H2 HMM
                          go_wp2_with fail
                          refine CF.out.mono ?_
                          rintro x w9 ⟨rfl, s9, b9⟩
                          have S9 := hide s9
                          have B9 := hide (B8.out.trans b9)
                          obtain ⟨n6, wh6, e6, hR6, he6', _⟩ := s9.open_
                          obtain ⟨ov6, ⟨_, _, _, _, x64⟩, _, _⟩ := hR6.cells
                          have he60 : e6 ≠ 0 := fun e => by obtain ⟨l', e'⟩ := he6'.1 e; cases e'
                          have he61 : (e6 != 0) = true := by simp [he60]
                          have he62 : ¬ e6 = 0 := he60
                          clear s9 b9 hR6 he6' he60
                          go_wp2_with fail
                          go_ret
                          exact ⟨by rw [FIN.out.1]; rfl, by rw [FIN.out.2]; exact S9.out, B9.out⟩
                    · have hlti : ¬ (i0 : Int) < (n2 : Int) := by omega
                      have hltd : decide ((i0 : Int) < (n2 : Int)) = false := decide_eq_false hlti
                      have hltn : decide (i0 < n2) = false := decide_eq_false hlt
                      cases wb with
                      | false =>
                        have FIN := hide (FF.out (HF.out rfl))
                        have HMM : m = M ∨ ¬ m = M := by omega
                        have HMI := hide hM.out
                        rcases H2 with H2 | H2 <;> rcases HMM with HMM | HMM
                        all_goals
                          first | (have q3 : ((n0 : Int) == (n1 : Int)) = true := by rw [H2]; simp) | (have q3 : ((n0 : Int) == (n1 : Int)) = false := by simp; omega)
                          first | (have q4 : (-(m : Int) == -9223372036854775808) = true := by (have a := HMI.out; simp; omega)) | (have q4 : (-(m : Int) == -9223372036854775808) = false := by (have a := HMI.out; simp; omega))
                          clear H2 HMM
                          go_wp2_with fail
                          refine CF.out.mono ?_
                          rintro x w9 ⟨rfl, s9, b9⟩
                          have S9 := hide s9
                          have B9 := hide (B8.out.trans b9)
                          obtain ⟨n6, wh6, e6, hR6, he6', _⟩ := s9.open_
                          obtain ⟨ov6, ⟨_, _, _, _, x64⟩, _, _⟩ := hR6.cells
                          have he60 : e6 ≠ 0 := fun e => by obtain ⟨l', e'⟩ := he6'.1 e; cases e'
                          have he61 : (e6 != 0) = true := by simp [he60]
                          have he62 : ¬ e6 = 0 := he60
                          clear s9 b9 hR6 he6' he60
                          go_wp2_with fail
                          go_ret
                          exact ⟨by rw [FIN.out.1]; rfl, by rw [FIN.out.2]; exact S9.out, B9.out⟩
                      | true =>
                        have HV2 := hide (show m = V by
                          have a := HI.out
                          have b := HN2.out
                          rw [HT.out rfl, List.take_of_length_le (by omega), hV.out])
                        have hmV := HV2.out
                        subst hmV
                        have hMM := HM.out
                        rcases Bool.eq_false_or_eq_true neg with hng | hng
                        · have q3 : ((n0 : Int) == (n1 : Int)) = false := by have := NG.out.2 hng; simp; omega
                          have FIN := hide (TN.out hng hMM)
                          clear H2 hng hMM
                          go_wp2_with fail
                          go_ret
                          exact ⟨by rw [FIN.out.1]; rfl, by rw [FIN.out.2]; exact S8.out, B8.out⟩
                        · have q3 : ((n0 : Int) == (n1 : Int)) = true := by rw [NG.out.1 hng]; simp
                          by_cases hme : m = M
                          · have q4 : (-(m : Int) == -9223372036854775808) = true := by (have a := hM.out; simp; omega)
                            have FIN := hide (TE.out hng hme)
                            clear H2 hng hMM hme
                            go_wp2_with fail
                            refine CF.out.mono ?_
                            rintro x w9 ⟨rfl, s9, b9⟩
                            have S9 := hide s9
                            have B9 := hide (B8.out.trans b9)
                            obtain ⟨n6, wh6, e6, hR6, he6', _⟩ := s9.open_
                            obtain ⟨ov6, ⟨_, _, _, _, x64⟩, _, _⟩ := hR6.cells
                            have he60 : e6 ≠ 0 := fun e => by obtain ⟨l', e'⟩ := he6'.1 e; cases e'
                            have he61 : (e6 != 0) = true := by simp [he60]
                            have he62 : ¬ e6 = 0 := he60
                            clear s9 b9 hR6 he6' he60
                            go_wp2_with fail
                            go_ret
                            exact ⟨by rw [FIN.out.1]; rfl, by rw [FIN.out.2]; exact S9.out, B9.out⟩
                          · have q4 : (-(m : Int) == -9223372036854775808) = false := by (have a := hM.out; simp; omega)
                            have FIN := hide (TP.out hng (by omega))
                            have wM : IntKind.i64.wrap (m : Int) = (m : Int) := by
                              have a := hM.out
                              exact IntWalk.i64_in _ (by omega)
                            clear H2 hng hMM hme
                            go_wp2_with fail
                            go_ret
                            exact ⟨by rw [FIN.out.1]; rfl, by rw [FIN.out.2]; exact S8.out, B8.out⟩
