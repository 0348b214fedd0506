/- The walks of lex's small functions: letter, digit, the closures, run, first. No conditions. -/
import Derived.Test.YtcbgkbidgpemfaaGreatDoorMp13
import Derived.Test.YtcbgkbidgpemfaaGreatDoorProg
import Derived.WalkKit
import Derived.WalkLawsBesides
import Derived.WalkSpells
import Derived.Lib.Hide
import Derived.Outline
import Derived.Laws.EntriesVeiled
import Derived.RangeFuncNested
import Derived.RangeFuncBox
namespace Go.Proofs.YtcbgkbidgpemfaaGreatDoor.lexw
open Go.RowKit
open Go.Proofs.YtcbgkbidgpemfaaGreatDoor.lexm

-- RUN
end Go.Proofs.YtcbgkbidgpemfaaGreatDoor.lexw

/- The walk of lex.first: what a text begins with. Condition: the text is not empty. -/
namespace Go.Proofs.YtcbgkbidgpemfaaGreatDoor.lexw
open Go.RowKit
open Go.Proofs.YtcbgkbidgpemfaaGreatDoor.lexm

end Go.Proofs.YtcbgkbidgpemfaaGreatDoor.lexw
