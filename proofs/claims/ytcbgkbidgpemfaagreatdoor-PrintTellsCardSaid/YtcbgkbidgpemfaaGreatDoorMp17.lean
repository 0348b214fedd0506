/- The walk of the reader's stmt. Conditions: as each theorem states. -/
import Derived.Test.YtcbgkbidgpemfaaGreatDoorMp16
import Derived.Test.YtcbgkbidgpemfaaGreatDoorMp12
import Derived.Deep.RegionHeld3
import Derived.Deep.AppendLies
import Derived.Laws.Pointers
import Derived.Lib.OthersKept
import Derived.StillTactics
import Derived.Deep.Cut
import Derived.Deep.CutRange
import Derived.Deep.RegionWith
import Derived.Deep.RegionLaw
namespace Go.Proofs.YtcbgkbidgpemfaaGreatDoor.parw
open Go.RowKit
open Go.Proofs.YtcbgkbidgpemfaaGreatDoor.lexw
attribute [local go_sem] run_store_float

/-- a statement -/
structure PStmt where
  name : ByteArray
  pos : Int
  kind : Nat
  args : List PArg
def acells (l : List PArg) : List Value := l.flatMap PArg.cells
end Go.Proofs.YtcbgkbidgpemfaaGreatDoor.parw
