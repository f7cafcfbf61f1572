/- tape.Same. -/
import Derived.Test.YtmolmphbhdbcaaaDoorSortedT
namespace Go.Proofs.YtmolmphbhdbcaaaDoor
open Go.RowKit

/-- what Same answers -/
def SameT (a b : List Nd) (B : Bool) : Prop := ((chkT a ≠ 0 ∨ chkT b ≠ 0) ∧ B = false) ∨ ∃ ja jb, May a ja ∧ May b jb ∧ B = sameNds ja.sort.flat jb.sort.flat
theorem SortedT.good {t ps : List Nd} (h : SortedT t ps) (h0 : chkT t = 0) : ∃ j, May t j ∧ ps = j.sort.flat := by
  rcases h with h | ⟨h, _⟩
  · exact h
  · exact absurd h0 h

end Go.Proofs.YtmolmphbhdbcaaaDoor

