/- The walks of the reader's word and number. Conditions: as each theorem states. -/
import Derived.Test.YtcbgkbidgpemfaaGreatDoorMp15
namespace Go.Proofs.YtcbgkbidgpemfaaGreatDoor.parw
open Go.RowKit
open Go.Proofs.YtcbgkbidgpemfaaGreatDoor.lexw

theorem run_store_float (P : Program) (w : World) (a : Addr) (m : Mode) (k : FloatKind) (b : Nat) : (store a (.float k b) m).run P w = stored P w a (.float k b) m := run_store P w a _ m rfl
attribute [local go_sem] run_store_float

/-- what stands behind a kind -/
structure PArg where
  pos : Int
  num : Nat
  name : ByteArray
def PArg.cells (a : PArg) : List Value := [.int .i64 a.pos, .float .f64 a.num, .string a.name]
def PArg.val (a : PArg) : Value := .agg #[.int .i64 a.pos, .float .f64 a.num, .string a.name]
def PArg.no : PArg := ⟨0, 0, ⟨#[]⟩⟩

end Go.Proofs.YtcbgkbidgpemfaaGreatDoor.parw
