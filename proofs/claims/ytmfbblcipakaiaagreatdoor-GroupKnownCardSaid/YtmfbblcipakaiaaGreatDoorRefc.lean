/- The document's Scale and Neg. -/
import Derived.Test.YtmfbblcipakaiaaGreatDoorRefa
namespace Go.Proofs.YtmfbblcipakaiaaGreatDoor
open Go.RowKit

end Go.Proofs.YtmfbblcipakaiaaGreatDoor

