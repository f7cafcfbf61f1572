/- The reader of a text: what begins a value. -/
import Derived.Test.YtcddfpcapbdphaaGreatDoorJr11a
import Derived.Test.YtcddfpcapbdphaaGreatDoorJr11b
import Derived.Test.YtcddfpcapbdphaaGreatDoorJr11c
namespace Go.Proofs.YtcddfpcapbdphaaGreatDoor
open Go.RowKit

theorem begin_run (base rb : Nat) (s : ByteArray) (n : Nat) (l : List UInt8) (out : List Nd) (H : List Jh) (key : ByteArray) (e bad : Int) (w : World)
    (h : JR base rb s n out H key e bad w) (ha : JAt s n l) (hs : s.size ≤ 1073741824) (hE : Ever base w) (hH : H.length ≤ 64) (ho : out.length ≤ 4000) :
    Calls Tryz.prog 22 #[.pointer (some ⟨rb, 0, none⟩)] w fun y w' => JBeg base rb s out H key e bad l y w' ∧ RowKit.Below base w w' := by
  by_cases hx : ∃ c r, l = c :: r ∧ (c = 91 ∨ c = 123) ∧ ¬ 4000 ≤ out.length ∧ ¬ 64 ≤ H.length
  · obtain ⟨c, r, rfl, hc | hc, h4, h6⟩ := hx
    · exact begin_list base rb s n c r out H key e bad w h ha hs hE hH ho hc h4 h6
    · exact begin_obj base rb s n c r out H key e bad w h ha hs hE hH ho hc h4 h6
  · refine begin_leaf base rb s n l out H key e bad w h ha hs hE hH ho (fun c r hl => ?_)
    by_cases hc : c = 91 ∨ c = 123
    · by_cases h4 : 4000 ≤ out.length
      · exact .inr (.inl h4)
      · by_cases h6 : 64 ≤ H.length
        · exact .inr (.inr h6)
        · exact absurd ⟨c, r, hl, hc, h4, h6⟩ hx
    · exact .inl hc
end Go.Proofs.YtcddfpcapbdphaaGreatDoor

