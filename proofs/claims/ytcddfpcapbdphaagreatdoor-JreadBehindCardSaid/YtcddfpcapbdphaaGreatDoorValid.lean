/- utf.Valid: the library's ValidString by its contract off the shelf; the tables that it reads. -/
import Derived.Test.YtcddfpcapbdphaaGreatDoorLaid
import Derived.Test.YtcddfpcapbdphaaGreatDoorBase
namespace Go.Proofs.YtcddfpcapbdphaaGreatDoor
open Go.RowKit

/-- the library's tables, as they are laid -/
def Tabs (w : World) : Prop := Lib.Utf8Tabs (Tryz.lays196_ren.g 3) (Tryz.lays196_ren.g 4) w
theorem Tabs.old {w w' : World} (h : Tabs w) (ho : Old w w') : Tabs w' := Utf8Tabs_below h ho
/-- is a text UTF-8? -/
def vU (s : ByteArray) : Bool := Lib.validD s.data.toList

set_option maxRecDepth 100000 in
theorem utf_Valid (s : ByteArray) (w : World) (hs : s.size ≤ 9223372036854775807) (hT : Tabs w) :
    Calls Tryz.prog 77 #[.string s] w fun e w' => e = .returned (.bool (vU s)) ∧ Old w w' := by
  have cV : Calls Tryz.prog 101 #[.string s] w fun e w' => e = .returned (.bool (vU s)) ∧ Old w w' := Any.utf8_ValidString Tryz.lays196 s w hs hT
  have HC := hide cV
  clear cV
  go_enter Tryz.func77, Tryz.ntmps77
  go_wp2_with fail
  refine HC.out.mono ?_
  rintro e w1 ⟨rfl, h1⟩
  go_wp2_with fail
  go_ret
  exact ⟨rfl, h1⟩
end Go.Proofs.YtcddfpcapbdphaaGreatDoor


