/- The document's Sorted, Same and Get. -/
import Derived.Test.YtmolmphbhdbcaaaDoorRsorted
import Derived.Test.YtmolmphbhdbcaaaDoorRdoc
/-! ### The document's Sorted, Same and Get. -/
namespace Go.Proofs.YtmolmphbhdbcaaaDoor
open Go.RowKit

set_option maxRecDepth 100000 in
set_option maxHeartbeats 400000 in
theorem ref_Sorted (v : Value) (t : List Nd) (w : World) (ht : NodesIs w v t) (hk : TextsOk t) :
    Calls Tryd.prog 32 #[v] w fun e w' => ∃ ps, SortedT t ps ∧ NewNodes w ps e w' := by
  have CC := hide (ref_Check v t w ht hk)
  have HT := hide ht
  obtain ⟨A, ca, rfl, hla, hma, _⟩ := ht.nodes
  unfold maxLen at hma
  by_cases hc : chkT t = 0
  · obtain ⟨j, hj⟩ := may_of hc
    have CL := hide (show ∀ w', Old w w' → Calls Tryd.prog 58 #[.slice A t.length ca, .int .i64 0, .int .i64 t.length, .bool false] w' fun e w2 => ∃ v, e = .returned v ∧ NodesT w.heap.size w2 v j.sort.flat ∧ Old w w2 from fun w' h => by
      have := ref_sorted (.slice A t.length ca) t w HT.out hj.2.1 t.length [j] 0 [] false w' h (tape_len hj.1) (tape_root hj.1) (Nat.zero_le _) (by simp only [J.Oks, and_true]; exact hj.1.1) (fun h => by cases h)
      rw [Nat.zero_add, show J.flats (sortedL false [j]) = j.sort.flat by simp [sortedL, J.sorts, J.flats]] at this
      exact this.mono fun _ _ ⟨v, h1, h2, h3⟩ => ⟨v, h1, h2.mono h.size, Old.trans h h3⟩)
    have C0 := hide (num_as CC.out hc)
    have HJ := hide hj
    clear ht hk CC hc hj
    go_enter Tryd.func32, Tryd.ntmps32
    go_wp2_with fail
    refine C0.out.mono ?_
    rintro e w1 ⟨rfl, o1⟩
    go_wp2_with fail
    refine (CL.out _ o1).mono ?_
    rintro e w2 ⟨v2, rfl, n2, o2⟩
    go_wp2_with fail
    go_ret
    exact ⟨_, .inl ⟨j, HJ.out, rfl⟩, _, rfl, n2, o2⟩
  · have hc' : (chkT t != 0) = true := by simpa using hc
    have HC := hide hc
    clear ht hk hc
    go_enter Tryd.func32, Tryd.ntmps32
    go_wp2_with fail
    refine CC.out.mono ?_
    rintro e w1 ⟨rfl, o1⟩
    go_wp2_with fail
    go_ret
    exact ⟨[], .inr ⟨HC.out, rfl⟩, _, rfl, SlT.nil_ _, o1⟩

end Go.Proofs.YtmolmphbhdbcaaaDoor

/-! ### The document's made, List and Obj. -/
namespace Go.Proofs.YtmolmphbhdbcaaaDoor
open Go.RowKit

theorem madeTo_add (kind : Int) (l : List J) (j : J) (z : Int) : madeTo kind (l ++ [j]) z = madeTo kind l z ++ j.flat := by simp [madeTo, flats_append, flats_one]

end Go.Proofs.YtmolmphbhdbcaaaDoor

/-! ### The document's List, Obj and its leaves. -/
namespace Go.Proofs.YtmolmphbhdbcaaaDoor
open Go.RowKit

end Go.Proofs.YtmolmphbhdbcaaaDoor

