/- The walk of check.node. Conditions: as each theorem states. -/
import Derived.Test.YtcbgkbidgpemfaaGreatDoorMp13
import Derived.Test.YtcbgkbidgpemfaaGreatDoorMp18
import Derived.Outline
import Derived.Deep.LoopGhost
namespace Go.Proofs.YtcbgkbidgpemfaaGreatDoor.chkw
open Go.RowKit
open Go.Proofs.YtcbgkbidgpemfaaGreatDoor.lexw
open Go.Proofs.YtcbgkbidgpemfaaGreatDoor.parw
open Go.Proofs.YtcbgkbidgpemfaaGreatDoor.nodew
open Go.Proofs.YtcbgkbidgpemfaaGreatDoor.qt
open Go.BigFrame
attribute [local go_sem] parw.run_store_float

def Nd.put (n : Nd) (j v : Nat) : Nd := { n with x := n.x.set (j - 1) v }
/-- the map in block mb knows names -/
def MapAt (W : World) (mb : Nat) (look : ByteArray → Option Nat) : Prop :=
  mb < W.heap.size ∧ ∀ W' : World, W'.heap[mb]? = W.heap[mb]? → ∀ k, (Instr.lookup 116 (.map (some mb)) (.string k) true).run Tryz.prog W' = .ok (.tuple #[.int .i64 ((look k).getD 0 : Nat), .bool (look k).isSome]) W'

/-- a slice's length is within its capacity -/
def CapOk : Value → Prop
  | .slice _ n c => n ≤ c
  | _ => False
/-- all blocks of W but nb are as they were, and those below B are as they were in w -/
structure Kp (B : Nat) (w W : World) (nb : Nat) (u : World) : Prop where
  low : Below B w u
  size : W.heap.size ≤ u.heap.size
  blk : ∀ b, b < W.heap.size → b ≠ nb → u.heap[b]? = W.heap[b]?
theorem Kp.cell {B : Nat} {w W : World} {nb : Nat} {u : World} (h : Kp B w W nb u) {p : Addr} {v : Value} (hc : W.cell? p = some v) (hn : p.block ≠ nb) : u.cell? p = some v :=
  (World.cell?_of_block (h.blk p.block (World.block_lt_of_cell? W p hc) hn)).trans hc

end Go.Proofs.YtcbgkbidgpemfaaGreatDoor.chkw
