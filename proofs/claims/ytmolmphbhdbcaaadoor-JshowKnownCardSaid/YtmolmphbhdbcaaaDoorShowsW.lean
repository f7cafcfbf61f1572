/- JshowShows: the walk. -/
import Derived.Test.YtmolmphbhdbcaaaDoorWorks8
namespace Go.Proofs.YtmolmphbhdbcaaaDoor
open Go.RowKit

theorem fewL_may_eq (t : List Nd) : sameNds (fewL t) (fewL t) = true := by simp [sameNds]

set_option maxRecDepth 100000 in
set_option maxHeartbeats 4000000 in
theorem jshows_walk (v : Value) (t : List Nd) (w : World) (hn : NodesIs w v t) (hnum : NumsOk t) (hT : Tabs w) (hP : PowTab w) :
    Calls Tryd.prog 3 #[v] w fun e w' => e = .returned (.bool true) ∧ Old w w' := by
  have CF := few_run v t w hn
  have G := hide (fine_few hnum)
  obtain ⟨l, hl⟩ : ∃ l, Hid (fewL t = l) := ⟨_, hide rfl⟩
  have hlen := fewL_len t
  have SAME := hide (fewL_may_eq t)
  rw [hl.out] at CF G hlen SAME
  obtain ⟨N, hN⟩ : ∃ N, Hid (l.length = N) := ⟨_, hide rfl⟩
  obtain ⟨a, e, hs⟩ := showT_is l
  obtain ⟨b, f, hc⟩ := canonT_is l
  obtain ⟨SA, hSA⟩ : ∃ S : ByteArray, Hid (⟨a.toArray⟩ = S) := ⟨_, hide rfl⟩
  obtain ⟨SB, hSB⟩ : ∃ S : ByteArray, Hid (⟨b.toArray⟩ = S) := ⟨_, hide rfl⟩
  have HS := hide hs
  have HC := hide hc
  have HT := hide hT
  have HP := hide hP
  clear hs hc hT hP hn hnum
  go_enter Tryd.func3, Tryd.ntmps3
  go_wp2_with fail
  refine CF.mono ?_
  rintro x w1 ⟨v1, rfl, n1, o1⟩
  obtain ⟨A1, c1, rfl, _, _⟩ := nodes_form n1 hN.out
  have N1 := hide (SlT.sl n1)
  have HB := hide o1
  clear n1 o1 CF
  go_wp2_with fail
  refine (ref_Copy _ l _ N1.out (by omega)).mono ?_
  rintro x w2 ⟨v2, rfl, n2, o2⟩
  obtain ⟨A2, c2, rfl, _, _⟩ := nodes_form n2 hN.out
  have N2 := hide (SlT.sl n2)
  replace HB := hide (Old.trans HB.out o2)
  replace N1 := hide (N1.out.old o2)
  clear n2 o2
  go_wp2_with fail
  refine (show_run 60 _ l a e _ N1.out G.out (HT.out.old HB.out) (PowTab.old HP.out HB.out) HS.out).mono ?_
  unfold strE
  rintro x w3 ⟨rfl, o3⟩
  rw [hSA.out]
  replace HB := hide (Old.trans HB.out o3)
  replace N1 := hide (N1.out.old o3)
  replace N2 := hide (N2.out.old o3)
  clear o3
  go_wp2_with fail
  refine (ref_Show 60 _ l a e _ N2.out G.out HS.out).mono ?_
  unfold strE
  rintro x w4 ⟨rfl, o4⟩
  rw [hSA.out]
  replace HB := hide (Old.trans HB.out o4)
  replace N1 := hide (N1.out.old o4)
  replace N2 := hide (N2.out.old o4)
  clear o4
  go_wp2_with fail
  refine (canon_run 60 _ l b f _ N1.out G.out (HT.out.old HB.out) (PowTab.old HP.out HB.out) HC.out).mono ?_
  unfold strE
  rintro x w5 ⟨rfl, o5⟩
  rw [hSB.out]
  replace HB := hide (Old.trans HB.out o5)
  replace N1 := hide (N1.out.old o5)
  replace N2 := hide (N2.out.old o5)
  clear o5
  go_wp2_with fail
  refine (ref_Canon 60 _ l b f _ N2.out G.out HC.out).mono ?_
  unfold strE
  rintro x w6 ⟨rfl, o6⟩
  rw [hSB.out]
  replace HB := hide (Old.trans HB.out o6)
  replace N1 := hide (N1.out.old o6)
  replace N2 := hide (N2.out.old o6)
  clear o6
  go_wp2_with fail
  have CE := ref_Eq _ _ l l w6 N1.out N2.out
  rw [SAME.out] at CE
  refine CE.mono ?_
  rintro x w7 ⟨rfl, o7⟩
  replace HB := hide (Old.trans HB.out o7)
  clear o7 CE
  go_wp2_with fail
  refine (works_run w7 (HT.out.old HB.out) (PowTab.old HP.out HB.out)).mono ?_
  rintro x w8 ⟨rfl, o8⟩
  replace HB := hide (Old.trans HB.out o8)
  clear o8
  go_wp2_with fail
  go_ret
  exact ⟨by first | rfl | simp, HB.out⟩
end Go.Proofs.YtmolmphbhdbcaaaDoor
