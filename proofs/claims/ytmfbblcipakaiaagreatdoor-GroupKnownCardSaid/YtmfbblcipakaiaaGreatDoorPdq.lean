/- pdqsort and slices.SortFunc over whole blocks of ints, with a function value -/
import Derived.Test.YtmfbblcipakaiaaGreatDoorPins
import Derived.Test.YtmfbblcipakaiaaGreatDoorBreak
import Derived.Sort.LotD3
namespace Go.Proofs.YtmfbblcipakaiaaGreatDoor
open Go.RowKit Go.Sort

def PdqOk (w0 : World) (g cap f : Nat) (rv : Value) (R : Int → Prop) (cf : Int → Int → Int) (n : Nat) : Prop :=
  ∀ (d : Array Int) (a b lim : Nat) (w : World), SW w0 g d w → AllR R d → a ≤ b → b ≤ d.size → b - a ≤ n → lim ≤ 64 → d.size < 1152921504606846976 → Sort.Below (ltOf cf) a b d →
    Calls Tryz.prog 91 #[.slice (some ⟨g, 0, none⟩) d.size cap, .int .i64 a, .int .i64 b, .int .i64 lim, .func (.func f) #[rv] #[]] w fun e w' =>
      e = .returned (.tuple #[]) ∧ ∃ d', PermIn a b d d' ∧ SortedIn (ltOf cf) a b d' ∧ SW w0 g d' w'

theorem eq_perm {lt : Int → Int → Bool} (h : SWO lt) {d3 : Array Int} {a b pivot : Nat} (ha0 : 0 < a) (hp1 : a ≤ pivot) (hp2 : pivot < b) (hb : b ≤ d3.size) (hB : Sort.Below lt a b d3)
    (hnl : lt d3[a - 1]! d3[pivot]! = false) : PermIn a b d3 (partitionEqual lt d3 a b pivot).2 :=
  (partitionEqual_holds lt h d3 a b pivot hp1 hp2 hb (fun i hi hi' => by
    rcases hB with h0 | hB
    · omega
    · exact h.ntrans _ _ _ (hB i hi hi') hnl)).2.2.1

set_option maxRecDepth 100000 in
set_option maxHeartbeats 8000000 in
theorem pdq_round (w0 : World) (g cap f : Nat) (rv : Value) (R : Int → Prop) (cf : Int → Int → Int) (hf : ∀ args w, (callFunc f args).run Tryz.prog w = .ok (.enter f args) w) (hc : CmpOk w0 g f #[rv] #[] R cf)
    (hg : g < w0.heap.size) (hO : SWO (ltOf cf)) (n : Nat) (ih : ∀ m, m < n → PdqOk w0 g cap f rv R cf m) : PdqOk w0 g cap f rv R cf n := by
  intro d a b lim w hw hR hab hb hn hlim hsz hB
  have HC := Lib.hid hc
  have HW := Lib.hid hw
  have HR := Lib.hid hR
  have HB := Lib.hid hB
  have HO := Lib.hid hO
  have IH := Lib.hid ih
  clear hc hw hR hB hO ih
  go_enter Tryz.func91, Tryz.ntmps91
  go_wp2_with fail
  go_loopw [1, 2, 3, 10, 11] (fun av bv lv u1 u2 wr => ∃ (a1 b1 l1 : Nat) (wb wp : Bool) (dk : Array Int), av = .int .i64 a1 ∧ bv = .int .i64 b1 ∧ lv = .int .i64 l1 ∧ u1 = .bool wb ∧ u2 = .bool wp ∧ a ≤ a1 ∧ a1 ≤ b1 ∧ b1 ≤ b ∧ l1 ≤ 64 ∧ Hid (dk.size = d.size) ∧ Hid (SW w0 g dk wr) ∧ Hid (AllR R dk) ∧ Hid (Sort.Below (ltOf cf) a1 b1 dk) ∧ Hid (∀ r, PermIn a1 b1 dk r → SortedIn (ltOf cf) a1 b1 r → PermIn a b d r ∧ SortedIn (ltOf cf) a b r)) (fun av bv _ _ _ _ => (intOf bv).toNat - (intOf av).toNat)
  case atStart => exact ⟨a, b, lim, true, true, d, rfl, rfl, rfl, rfl, rfl, Nat.le_refl _, hab, Nat.le_refl _, hlim, rfl, HW, HR, HB, fun r h1 h2 => ⟨h1, h2⟩⟩
  case round =>
    obtain ⟨a1, b1, l1, wb, wp, dk, rfl, rfl, rfl, rfl, rfl, haa, hab1, hbb, hl1, hsk, HWk, HRk, HBk, HEk⟩ := hrel
    have HBD := hide (show b1 ≤ dk.size by rw [hsk.out]; omega)
    by_cases h12 : b1 ≤ a1 + 12
    · go_wp2_with fail
      have k := insertionSort_run w0 g cap f rv R cf hf HC.out dk a1 b1 wr HWk.out HRk.out hab1 HBD.out (by rw [hsk.out]; omega)
      rw [hsk.out] at k
      refine k.mono ?_
      clear k
      rintro e w' ⟨rfl, h1⟩
      obtain ⟨p1, p2⟩ := insertionSort_holds HO.out dk a1 b1 hab1 HBD.out
      have H1 := hide h1
      have Q := hide (HEk.out _ p1 p2)
      clear h1 p1 p2
      go_wp2_with fail
      exact bodyPost_ret (results_none rfl _ _ _) rfl ⟨rfl, _, Q.out.1, Q.out.2, H1.out⟩
    · by_cases hl0 : l1 = 0
      · subst hl0
        go_wp2_with fail
        have k := heapSort_run w0 g cap f rv R cf hf HC.out dk a1 (b1 - a1) wr HWk.out HRk.out (by have := HBD.out; omega) (by omega) (by rw [hsk.out]; exact hsz)
        rw [hsk.out, show a1 + (b1 - a1) = b1 by omega, show (a1 : Int) + ((b1 - a1 : Nat) : Int) = (b1 : Int) by omega] at k
        refine k.mono ?_
        clear k
        rintro e w' ⟨rfl, h1⟩
        obtain ⟨p1, p2⟩ := heapSort_holds (lt := ltOf cf) HO.out dk a1 b1 hab1 HBD.out
        have H1 := hide h1
        have Q := hide (HEk.out _ p1 p2)
        clear h1 p1 p2
        go_wp2_with fail
        exact bodyPost_ret (results_none rfl _ _ _) rfl ⟨rfl, _, Q.out.1, Q.out.2, H1.out⟩
      · have hl0' : ¬ (l1 : Int) = 0 := by omega
        go_upto_if 39 with fail
        go_cut [3] (fun lv wr2 => ∃ (l2 : Nat) (d1 : Array Int), lv = .int .i64 l2 ∧ l2 ≤ 64 ∧ Hid (PermIn a1 b1 dk d1) ∧ Hid (SW w0 g d1 wr2))
        case first =>
          cases wb
          · go_wp2_with fail
            have k := breakPatterns_run w0 g cap f rv dk a1 b1 wr HWk.out hg (by omega) HBD.out (by rw [hsk.out]; exact hsz)
            rw [hsk.out] at k
            refine k.mono ?_
            clear k
            rintro e w2 ⟨rfl, d1, p1, s1⟩
            have P1 := hide p1
            have S1 := hide s1
            clear p1 s1
            go_wp2_with fail
            go_meet
            exact ⟨l1 - 1, d1, by congr 1; omega, by omega, P1, S1⟩
          · go_wp2_with fail
            go_meet
            exact ⟨l1, dk, rfl, hl1, permIn_refl _ _ _, HWk⟩
        case rest =>
          obtain ⟨l2, d1, rfl, hl2, HP1, HW1⟩ := hcut
          have HR1 := hide (AllR_perm HRk.out HP1.out HBD.out)
          have hs1 := hide (HP1.out.1.trans hsk.out)
          have HBD1 := hide (show b1 ≤ d1.size by rw [hs1.out]; omega)
          have hcp := choosePivot_holds (ltOf cf) d1 a1 b1 (by omega)
          obtain ⟨c, hcc⟩ : ∃ c, Hid (choosePivot (ltOf cf) d1 a1 b1 = c) := ⟨_, rfl⟩
          rw [hcc.out] at hcp
          obtain ⟨p, h⟩ := c
          obtain ⟨hp1, hp2⟩ := hcp
          simp only at hp1 hp2
          go_wp2_with fail
          have k := choosePivot_run w0 g cap f rv R cf hf HC.out d1 a1 b1 _ HW1.out hg HR1.out (by omega) HBD1.out (by rw [hs1.out]; exact hsz)
          rw [hs1.out, hcc.out] at k
          refine k.mono ?_
          clear k
          rintro e w2 ⟨rfl, h2⟩
          have HW2 := hide h2
          clear h2
          go_upto_if 56 with fail
          go_cut [13, 14] (fun pv hv wr2 => ∃ (p2 : Nat) (c2 : Int) (d2 : Array Int), pv = .int .i64 p2 ∧ hv = .int .i64 c2 ∧ a1 ≤ p2 ∧ p2 < b1 ∧ Hid (PermIn a1 b1 d1 d2) ∧ Hid (SW w0 g d2 wr2))
          case first =>
            cases h
            · go_wp2_with fail
              go_meet
              exact ⟨p, _, d1, rfl, rfl, hp1, hp2, permIn_refl _ _ _, HW2⟩
            · go_wp2_with fail
              go_meet
              exact ⟨p, _, d1, rfl, rfl, hp1, hp2, permIn_refl _ _ _, HW2⟩
            · go_wp2_with fail
              have k := reverseRange_run w0 g cap (.func (.func f) #[rv] #[]) R d1 a1 b1 _ HW2.out HR1.out (by omega) HBD1.out (by rw [hs1.out]; exact hsz)
              rw [hs1.out] at k
              refine k.mono ?_
              clear k
              rintro e w3 ⟨rfl, h3⟩
              have HW3 := hide h3
              clear h3
              go_wp2_with fail
              go_meet
              exact ⟨b1 - 1 - (p - a1), 1, reverseRange d1 a1 b1, by congr 1; omega, rfl, by omega, by omega, hide (reverseRange_holds d1 a1 b1 hab1 HBD1.out), HW3⟩
          case rest =>
            obtain ⟨p2, c2, d2, rfl, rfl, hpa, hpb, HP2, HW3⟩ := hcut
            have HR2 := hide (AllR_perm HR1.out HP2.out HBD1.out)
            have hs2 := hide (HP2.out.1.trans hs1.out)
            have HBD2 := hide (show b1 ≤ d2.size by rw [hs2.out]; omega)
            have HB2 := hide ((HBk.out.perm HBD.out HP1.out).perm HBD1.out HP2.out)
            go_upto_region 15 with fail
            go_cut [75] (fun tv wr2 => ∃ t : Bool, tv = .bool t ∧ Hid (SW w0 g d2 wr2))
            case first =>
              cases wb
              · go_wp2_with fail
                go_meet
                exact ⟨_, rfl, HW3⟩
              · cases wp
                · go_wp2_with fail
                  go_meet
                  exact ⟨_, rfl, HW3⟩
                · go_wp2_with fail
                  go_meet
                  exact ⟨_, rfl, HW3⟩
            case rest =>
              obtain ⟨t, rfl, HW4⟩ := hcut
              go_upto_if 75 with fail
              go_cut [] (fun wr2 => ∃ d3 : Array Int, Hid (PermIn a1 b1 d2 d3) ∧ Hid (SW w0 g d3 wr2))
              case first =>
                cases t
                · go_wp2_with fail
                  go_meet
                  exact ⟨d2, permIn_refl _ _ _, HW4⟩
                · go_wp2_with fail
                  have k := partialInsertionSort_run w0 g cap f rv R cf hf HC.out d2 a1 b1 _ HW4.out HR2.out (by omega) HBD2.out (by rw [hs2.out]; exact hsz)
                  have hpi := partialInsertionSort_holds HO.out d2 a1 b1 (by omega) HBD2.out HB2.out
                  obtain ⟨c, hcc2⟩ : ∃ c, Hid (partialInsertionSort (ltOf cf) d2 a1 b1 = c) := ⟨_, rfl⟩
                  rw [hs2.out, hcc2.out] at k
                  rw [hcc2.out] at hpi
                  obtain ⟨dp, r⟩ := c
                  have PI := hide hpi
                  clear hpi
                  refine k.mono ?_
                  clear k
                  rintro e w3 ⟨rfl, h3⟩
                  have HW5 := hide h3
                  clear h3
                  cases r
                  · go_wp2_with fail
                    go_meet
                    exact ⟨dp, PI.out.1, HW5⟩
                  · go_wp2_with fail
                    have Q := HEk.out _ (permIn_trans _ _ _ _ _ (permIn_trans _ _ _ _ _ HP1.out HP2.out) PI.out.1) (PI.out.2 (by trivial))
                    exact bodyPost_ret (results_none rfl _ _ _) rfl ⟨rfl, _, Q.1, Q.2, HW5.out⟩
              case rest =>
                obtain ⟨d3, HP3, HW5⟩ := hcut
                have HR3 := hide (AllR_perm HR2.out HP3.out HBD2.out)
                have hs3 := hide (HP3.out.1.trans hs2.out)
                have HBD3 := hide (show b1 ≤ d3.size by rw [hs3.out]; omega)
                have HB3 := hide (HB2.out.perm HBD2.out HP3.out)
                have HPP := hide (permIn_trans _ _ _ _ _ (permIn_trans _ _ _ _ _ HP1.out HP2.out) HP3.out)
                clear HP1 HP2 HP3
                go_upto_region 17 with fail
                go_cut [97] (fun tv wr2 => ∃ t : Bool, tv = .bool t ∧ Hid (t = true → 0 < a1 ∧ ltOf cf d3[a1 - 1]! d3[p2]! = false) ∧ Hid (SW w0 g d3 wr2))
                case first =>
                  by_cases ha0 : 0 < a1
                  · obtain ⟨am, hx⟩ : ∃ q, a1 = q + 1 := ⟨a1 - 1, by omega⟩
                    have hx1 : (a1 : Int) - 1 = (am : Int) := by omega
                    have B1 := hide (show am < d3.size by rw [hs3.out]; omega)
                    have B2 := hide (show p2 < d3.size by rw [hs3.out]; omega)
                    have b1' : am < d.size := by omega
                    have b2' : p2 < d.size := by omega
                    obtain ⟨vx, hvx, Rx, cx⟩ := look HW5 HR3 _ B1.out
                    obtain ⟨vy, hvy, Ry, cy⟩ := look HW5 HR3 _ B2.out
                    have HA := ask HC HW5.out Rx Ry
                    have HX := hide hx
                    clear hx
                    have hg1 : decide ((a1 : Int) > 0) = true := decide_eq_true (by omega)
                    have hgz : (0 : Int) < (a1 : Int) := by omega
                    go_wp2_with fail
                    refine region_later (by kernel_rfl) (by kernel_rfl) ?_
                    repeat (go_big_quiet_step ((exact Later.call (HA.out _))))
                    refine wpQuiet_nil ?_
                    rintro wq ⟨⟨_, hwq⟩, rfl⟩
                    clear cx cy
                    go_wp2_with fail
                    go_meet
                    refine ⟨_, rfl, hide (fun ht => ⟨ha0, ?_⟩), hide (HW5.out.old hwq)⟩
                    rw [HX.out, Nat.add_sub_cancel, ← hvx.out, ← hvy.out]
                    simpa [ltOf] using ht
                  · have hg1 : decide ((a1 : Int) > 0) = false := decide_eq_false (by omega)
                    have hgz : ¬ (0 : Int) < (a1 : Int) := by omega
                    go_wp2_with fail
                    refine region_later (by kernel_rfl) (by kernel_rfl) ?_
                    repeat (go_big_quiet_step (fail))
                    refine wpQuiet_nil ?_
                    rintro wq ⟨⟨_, hwq⟩, rfl⟩
                    go_wp2_with fail
                    go_meet
                    exact ⟨false, rfl, hide (fun ht => by cases ht), hide (HW5.out.old hwq)⟩
                case rest =>
                  obtain ⟨t, rfl, HT, HW6⟩ := hcut
                  have hb0 : 1 ≤ b1 := by omega
                  have eb : ((b1 - 1 : Nat) : Int) + 1 = (b1 : Int) := by omega
                  have eb' : b1 - 1 + 1 = b1 := by omega
                  cases t
                  · obtain ⟨c, hcc2⟩ : ∃ c, Hid (partition (ltOf cf) d3 a1 b1 p2 = c) := ⟨_, rfl⟩
                    obtain ⟨mid, ap, d4⟩ := c
                    obtain ⟨g1, g2, g3, gA, gB, gL, gR⟩ := round_part HO.out (partition_holds _) hpa hpb HBD3.out HB3.out hcc2.out
                    have gP := (partition_holds (ltOf cf) HO.out d3 a1 b1 p2 hpa hpb HBD3.out).2.2.1
                    rw [hcc2.out] at gP
                    have HR4 := hide (AllR_perm HR3.out gP HBD3.out)
                    have hs4 := hide (g3.trans hs3.out)
                    have GA := hide gA
                    have GB := hide gB
                    have GL := hide gL
                    have GR := hide gR
                    clear gA gB gL gR gP g3
                    go_wp2_with fail
                    have k := partition_run w0 g cap f rv R cf hf HC.out d3 a1 (b1 - 1) p2 _ HW6.out HR3.out hpa (by omega) (by rw [eb']; exact HBD3.out) (by rw [hs3.out]; exact hsz)
                    rw [hs3.out, eb, eb', hcc2.out] at k
                    clear eb eb'
                    refine k.mono ?_
                    clear k
                    rintro e w3 ⟨rfl, h3⟩
                    have HW7 := hide h3
                    clear h3
                    by_cases hlr : mid - a1 < b1 - mid
                    · have hlr' : (mid : Int) - (a1 : Int) < (b1 : Int) - (mid : Int) := by omega
                      go_wp2_with fail
                      have k := IH.out (mid - a1) (by omega) d4 a1 mid l2 _ HW7.out HR4.out g1 (by rw [hs4.out]; omega) (Nat.le_refl _) hl2 (by rw [hs4.out]; exact hsz) GA.out
                      rw [hs4.out] at k
                      refine k.mono ?_
                      clear k
                      rintro e w4 ⟨rfl, dL, q1, q2, h4⟩
                      obtain ⟨m1, m2⟩ := GL.out dL q1 q2
                      have HW8 := hide h4
                      have HR5 := hide (AllR_perm HR4.out q1 (by rw [hs4.out]; omega))
                      have hs5 := hide (q1.1.trans hs4.out)
                      have M1 := hide m1
                      have M2 := hide m2
                      clear h4 q1 q2 m1 m2
                      go_wp2_with fail
                      go_roundw
                      case rel => exact ⟨mid + 1, b1, l2, _, ap, dL, by go_num, rfl, rfl, rfl, rfl, by omega, by omega, hbb, hl2, hs5, HW8, HR5, M1, hide (fun r r1 r2 => by
                        obtain ⟨z1, z2⟩ := M2.out r r1 r2
                        exact HEk.out r (permIn_trans _ _ _ _ _ HPP.out z1) z2)⟩
                      case measure => simp [intOf]; omega
                    · have hlr' : ¬ (mid : Int) - (a1 : Int) < (b1 : Int) - (mid : Int) := by omega
                      go_wp2_with fail
                      have k := IH.out (b1 - (mid + 1)) (by omega) d4 (mid + 1) b1 l2 _ HW7.out HR4.out (by omega) (by rw [hs4.out]; omega) (Nat.le_refl _) hl2 (by rw [hs4.out]; exact hsz) GB.out
                      rw [hs4.out, show ((mid + 1 : Nat) : Int) = (mid : Int) + 1 by omega] at k
                      refine k.mono ?_
                      clear k
                      rintro e w4 ⟨rfl, dL, q1, q2, h4⟩
                      obtain ⟨m1, m2⟩ := GR.out dL q1 q2
                      have HW8 := hide h4
                      have HR5 := hide (AllR_perm HR4.out q1 (by rw [hs4.out]; omega))
                      have hs5 := hide (q1.1.trans hs4.out)
                      have M1 := hide m1
                      have M2 := hide m2
                      clear h4 q1 q2 m1 m2
                      go_wp2_with fail
                      go_roundw
                      case rel => exact ⟨a1, mid, l2, _, ap, dL, rfl, rfl, rfl, rfl, rfl, by omega, by omega, by omega, hl2, hs5, HW8, HR5, M1, hide (fun r r1 r2 => by
                        obtain ⟨z1, z2⟩ := M2.out r r1 r2
                        exact HEk.out r (permIn_trans _ _ _ _ _ HPP.out z1) z2)⟩
                      case measure => simp [intOf]; omega
                  · obtain ⟨ha0, hnl⟩ := HT.out rfl
                    obtain ⟨c, hcc2⟩ : ∃ c, Hid (partitionEqual (ltOf cf) d3 a1 b1 p2 = c) := ⟨_, rfl⟩
                    obtain ⟨mid, d4⟩ := c
                    obtain ⟨g1, g2, g3, gB, gF⟩ := round_eq HO.out (partitionEqual_holds _) ha0 hpa hpb HBD3.out HB3.out hnl hcc2.out
                    have gP := eq_perm HO.out ha0 hpa hpb HBD3.out HB3.out hnl
                    rw [hcc2.out] at gP
                    have HR4 := hide (AllR_perm HR3.out gP HBD3.out)
                    have hs4 := hide (g3.trans hs3.out)
                    have GB := hide gB
                    have GF := hide gF
                    clear gB gF gP g3 hnl
                    go_wp2_with fail
                    have k := partitionEqual_run w0 g cap f rv R cf hf HC.out d3 a1 (b1 - 1) p2 _ HW6.out HR3.out hpa (by omega) (by rw [eb']; exact HBD3.out) (by rw [hs3.out]; exact hsz)
                    rw [hs3.out, eb, eb', hcc2.out] at k
                    clear eb eb'
                    refine k.mono ?_
                    clear k
                    rintro e w3 ⟨rfl, h3⟩
                    have HW7 := hide h3
                    clear h3
                    go_wp2_with fail
                    go_roundw
                    case rel => exact ⟨mid, b1, l2, wb, wp, d4, rfl, rfl, rfl, rfl, rfl, by omega, g2, hbb, hl2, hs4, HW7, HR4, GB, hide (fun r r1 r2 => by
                      obtain ⟨z1, z2⟩ := GF.out r r1 r2
                      exact HEk.out r (permIn_trans _ _ _ _ _ HPP.out z1) z2)⟩
                    case measure => simp [intOf]; omega

theorem pdq_run (w0 : World) (g cap f : Nat) (rv : Value) (R : Int → Prop) (cf : Int → Int → Int) (hf : ∀ args w, (callFunc f args).run Tryz.prog w = .ok (.enter f args) w) (hc : CmpOk w0 g f #[rv] #[] R cf)
    (hg : g < w0.heap.size) (hO : SWO (ltOf cf)) (n : Nat) : PdqOk w0 g cap f rv R cf n := by
  induction n using Nat.strongRecOn with
  | ind n ih => exact pdq_round w0 g cap f rv R cf hf hc hg hO n ih

set_option maxRecDepth 100000 in
set_option maxHeartbeats 1000000 in
theorem SortFunc_run (g cap f : Nat) (rv : Value) (R : Int → Prop) (cf : Int → Int → Int) (hf : ∀ args w, (callFunc f args).run Tryz.prog w = .ok (.enter f args) w)
    (d : Array Int) (w : World) (hd : IntsAt w g d) (hR : AllR R d) (hc : CmpOk w g f #[rv] #[] R cf) (hO : SWO (ltOf cf)) (hsz : d.size < 1152921504606846976) :
    Calls Tryz.prog 72 #[.slice (some ⟨g, 0, none⟩) d.size cap, .func (.func f) #[rv] #[]] w fun e w' =>
      e = .returned (.tuple #[]) ∧ ∃ d', PermIn 0 d.size d d' ∧ SortedIn (ltOf cf) 0 d.size d' ∧ SW w g d' w' := by
  have hg : g < w.heap.size := block_lt hd
  have hLen := fun w => Tryz.bits_Len (d.size : Int) w (by omega) (by omega)
  rw [Int.toNat_natCast] at hLen
  have hle := Tryz.bitLen_le d.size
  have wr : IntKind.u64.wrap (d.size : Int) = d.size := by simp [IntKind.wrap, IntKind.bits, IntKind.signed]; omega
  have k := pdq_run w g cap f rv R cf hf hc hg hO d.size d 0 d.size (Lib.bitLen d.size) w ⟨⟨rfl, rfl, rfl, Nat.le_refl _, fun _ _ _ => rfl⟩, hd⟩ hR (Nat.zero_le _) (Nat.le_refl _) (Nat.le_refl _) hle hsz (Or.inl rfl)
  have K := Lib.hid k
  clear k hc hd hR hO
  go_enter Tryz.func72, Tryz.ntmps72
  go_wp2_with (go_at_call 92; refine (hLen _).mono ?_; rintro e w' ⟨rfl, rfl⟩)
  refine K.out.mono ?_
  rintro e w' ⟨rfl, h1⟩
  go_wp2_with fail
  exact bodyPost_end (results_none rfl _ _ _) rfl ⟨rfl, h1⟩
end Go.Proofs.YtmfbblcipakaiaaGreatDoor

