/- The contract of lex.tokens: the tokens come one by one. Condition: the text is within the reach. -/
import Derived.Test.YtcbgkbidgpemfaaGreatDoorMp03
import Derived.RangeFuncBound
import Derived.RangeFuncCalls
import Derived.RangeFuncLeaves
import Derived.Shelf.Abstract
import Derived.Shelf.RegionOpen
import Derived.OwnWalkIn
import Derived.TacticsInMore
import Derived.LoopNIn
import Derived.LoopIn
import Derived.Lib.IndexBytes
namespace Go.Proofs.YtcbgkbidgpemfaaGreatDoor.lexw
open Go.RowKit Go.Shelf
open Go.Proofs.YtcbgkbidgpemfaaGreatDoor.lexm
attribute [local go_sem] Oper.semAt_some

theorem tok_text (s : ByteArray) (k n : Nat) : s.extract k (k + n) = ⟨((s.data.toList.drop k).take n).toArray⟩ := by
  have h := Lib.extract_data s k (k + n)
  rw [Nat.add_sub_cancel_left] at h
  rw [← h]

end Go.Proofs.YtcbgkbidgpemfaaGreatDoor.lexw
