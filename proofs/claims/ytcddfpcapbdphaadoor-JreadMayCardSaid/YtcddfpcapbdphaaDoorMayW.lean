/- JreadMay's walk. -/
import Derived.Test.YtcddfpcapbdphaaDoorWorks7
import Derived.Test.YtcddfpcapbdphaaDoorMayL
namespace Go.Proofs.YtcddfpcapbdphaaDoor
open Go.RowKit

set_option maxRecDepth 100000 in
set_option maxHeartbeats 1000000 in
theorem jmay_walk (s : ByteArray) (W : World) (hT : Tabs W) (hE : Errs W) : Calls Tryd.prog 4 #[.string s] W fun e w' => e = .returned (.bool true) ∧ Old W w' := by
  have HE := hide hE
  have HT := hide hT
  obtain ⟨k, hk⟩ : ∃ k : Nat, Hid (min s.size 1000 = k) := ⟨_, hide rfl⟩
  have hk1 : k ≤ s.size := by rw [← hk.out]; omega
  have hk2 : k ≤ 1000 := by rw [← hk.out]; omega
  have hmin : min (s.size : Int) 1000 = (k : Int) := by rw [← hk.out]; omega
  obtain ⟨u, hu⟩ : ∃ u, Hid (s.extract 0 k = u) := ⟨_, hide rfl⟩
  have hus : u.size = k := by rw [← hu.out, ByteArray.size_extract]; omega
  have CP := hide (jparse_run u W (by omega) hE hT)
  have HUS := hide hus
  clear hE hT hus
  go_enter Tryd.func4, Tryd.ntmps4
  go_wp2_with fail
  rw [hu.out]
  cases hp : parseV u.data.toList with
  | error x =>
    obtain ⟨p, c⟩ := x
    obtain ⟨hc, hpl⟩ := parseV_no hp
    have CQ := hide (CP.out.mono fun e w' h => (show e = .returned (.tuple #[.slice none 0 0, .int .i64 (p : Int), .int .i64 c]) ∧ Old W w' from ⟨by
      have h1 := h.1
      unfold JParsed at h1
      rw [hp] at h1
      exact h1, h.2⟩))
    rw [list_size, HUS.out] at hpl
    have hc0 : (c != 0) = true := by simp; omega
    have hpk : (p : Int) ≤ (k : Int) := by omega
    have hus : (u.size : Int) = (k : Int) := by rw [HUS.out]
    have hpk2 : (p : Int) ≤ (u.size : Int) := by rw [HUS.out]; exact hpk
    have hpk3 : p ≤ u.size := by rw [HUS.out]; exact hpl
    have hp0 : (0 : Int) ≤ (p : Int) := by omega
    clear hp hus CP hc hpl
    refine CQ.out.mono ?_
    rintro e w1 ⟨rfl, o1⟩
    have O1 := hide o1
    have CW := hide (works_run w1 (HE.out.old o1) (HT.out.old o1))
    clear o1
    go_wp2_with fail
    refine CW.out.mono ?_
    rintro e w2 ⟨rfl, o2⟩
    have O2 := hide (Old.trans O1.out o2)
    clear o2
    go_wp2_with fail
    go_ret
    exact ⟨rfl, O2.out⟩
  | ok j =>
    have HC := hide (chkT_may (parseV_may hp))
    have HX := hide (may_texts hp)
    have CQ := hide (CP.out.mono fun e w' h => (show (∃ v, e = .returned (.tuple #[v, .int .i64 0, .int .i64 0]) ∧ NodesIs w' v j.flat) ∧ Old W w' from ⟨by
      have h1 := h.1
      unfold JParsed at h1
      rw [hp] at h1
      obtain ⟨v, h2, h3⟩ := h1
      exact ⟨v, h2, (SlT.of_own h3).sl⟩, h.2⟩))
    clear hp CP
    refine CQ.out.mono ?_
    rintro e w1 ⟨⟨v, rfl, n1⟩, o1⟩
    have O1 := hide o1
    have CC := hide (check_run v j.flat w1 n1 HX.out (HT.out.old o1))
    rw [HC.out] at CC
    clear o1 n1
    go_wp2_with fail
    refine CC.out.mono ?_
    rintro e w2 ⟨rfl, o2⟩
    have O2 := hide (Old.trans O1.out o2)
    have CW := hide (works_run w2 (HE.out.old O2.out) (HT.out.old O2.out))
    clear o2
    go_wp2_with fail
    refine CW.out.mono ?_
    rintro e w3 ⟨rfl, o3⟩
    have O3 := hide (Old.trans O2.out o3)
    clear o3
    go_wp2_with fail
    go_ret
    exact ⟨rfl, O3.out⟩
end Go.Proofs.YtcddfpcapbdphaaDoor
