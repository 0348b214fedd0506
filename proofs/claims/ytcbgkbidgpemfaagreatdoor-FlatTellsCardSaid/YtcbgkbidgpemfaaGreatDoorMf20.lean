/- The walk of burnishlaw18.Same at any two rows of nodes. Conditions: the nodes lie in memory, within the reach. -/
import Derived.Test.YtcbgkbidgpemfaaGreatDoorMf09
namespace Go.Proofs.YtcbgkbidgpemfaaGreatDoor.chkw
open Go.RowKit
open nodew
open qt
open Go.BigFrame
attribute [local go_sem] nodew.run_store_float fbits_run
end Go.Proofs.YtcbgkbidgpemfaaGreatDoor.chkw
