/- The walk of check.fields: a kind's numbers. No conditions. -/
import Derived.Test.YtejmbbkklhpnaaaGreatDoorMc22
import Derived.Laws.EntriesVeiled
import Derived.Deep.RegionHeld3
import Derived.Deep.AppendLies
import Derived.Laws.Pointers
import Derived.StillTactics
namespace Go.Proofs.YtejmbbkklhpnaaaGreatDoor.nodew
open Go.RowKit Go.Shelf
open Go.Proofs.YtejmbbkklhpnaaaGreatDoor.words
attribute [local go_sem] run_store_float

abbrev b1f : Nat := 4607182418800017408
abbrev bAlpha : Nat := 4584664420663164928
abbrev bIor : Nat := 4607463893776728064
abbrev bIorM : Nat := 4616189618054758400
/-- the world behind the two boxes of fields -/
def w2 (w1 : World) : World := (w1.alloc (.cells #[.func (.func 85) #[] #[], .float .f64 bAlpha, .float .f64 b1f] 114)).alloc
  (.cells #[.func (.func 86) #[] #[], .float .f64 bIor, .float .f64 bIorM] 114)
end Go.Proofs.YtejmbbkklhpnaaaGreatDoor.nodew
