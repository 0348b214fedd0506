/- print.Line. Condition: the node's numbers are numbers. -/
import Derived.Test.YtcbgkbidgpemfaaGreatDoorMf17
namespace Go.Proofs.YtcbgkbidgpemfaaGreatDoor.prnw
open Go.RowKit
open Go.Shelf
open Go.Sort
open Go.BigFrame
open qt
open nodew
open chkw
open flatm
end Go.Proofs.YtcbgkbidgpemfaaGreatDoor.prnw
