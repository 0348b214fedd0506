/- The walk of lex.first: what a text begins with. Condition: the text is not empty. -/
import Derived.Test.YtcbgkbidgpemfaaGreatDoorMp02
import Derived.Laws.EntriesVeiled
import Derived.RangeFuncNested
import Derived.RangeFuncBox
namespace Go.Proofs.YtcbgkbidgpemfaaGreatDoor.lexw
open Go.RowKit
open Go.Proofs.YtcbgkbidgpemfaaGreatDoor.lexm

end Go.Proofs.YtcbgkbidgpemfaaGreatDoor.lexw
