/- print.Line. Condition: the node's numbers are numbers. -/
import Derived.Test.YtejmbbkklhpnaaaGreatDoorMc32
namespace Go.Proofs.YtejmbbkklhpnaaaGreatDoor.prnw
open Go.RowKit
open Go.Shelf
open Go.Sort
open Go.BigFrame
open Go.Proofs.YtejmbbkklhpnaaaGreatDoor.qt
open Go.Proofs.YtejmbbkklhpnaaaGreatDoor.nodew
open Go.Proofs.YtejmbbkklhpnaaaGreatDoor.chkw
open Go.Proofs.YtejmbbkklhpnaaaGreatDoor.flatm

end Go.Proofs.YtejmbbkklhpnaaaGreatDoor.prnw
