/- A node as a list of numbers; the walk of check.Node, its first part. -/
import Derived.Test.YtejmbbkklhpnaaaGreatDoorMc23
import Derived.Laws.BitsAllLaws
import Derived.Deep.Cut
import Derived.Deep.CutRange
namespace Go.Proofs.YtejmbbkklhpnaaaGreatDoor.nodew
open Go.RowKit Go.Shelf
open Go.Proofs.YtejmbbkklhpnaaaGreatDoor.words
attribute [local go_sem] run_store_float

theorem idx_run (a b : Int) (w : World) : (Instr.index 117 (.agg #[.int .i64 a, .int .i64 b]) (.int .i64 0)).run Tryz.prog w = .ok (.int .i64 a) w := by
  simp [Instr.index, asIntOf, run_underlying Tryz.underlying117, go_sem, part, Tryz.sizeOf3, Tryz.isAgg3]
theorem idx_run1 (a b : Int) (w : World) : (Instr.index 117 (.agg #[.int .i64 a, .int .i64 b]) (.int .i64 1)).run Tryz.prog w = .ok (.int .i64 b) w := by
  simp [Instr.index, asIntOf, run_underlying Tryz.underlying117, go_sem, part, Tryz.sizeOf3, Tryz.isAgg3]
attribute [local go_sem] idx_run idx_run1

/-- a node: its kind, its sixteen numbers, its two places -/
structure Nd where
  kind : Nat
  x : List Nat
  a : Int
  b : Int
deriving DecidableEq
def Nd.f (n : Nd) (j : Nat) : Nat := n.x.getD (j - 1) 0
def Nd.cells (n : Nd) : List Value :=
  [.int .u8 n.kind, .float .f64 (n.f 1), .float .f64 (n.f 2), .float .f64 (n.f 3), .float .f64 (n.f 4), .float .f64 (n.f 5), .float .f64 (n.f 6), .float .f64 (n.f 7), .float .f64 (n.f 8), .float .f64 (n.f 9), .float .f64 (n.f 10), .float .f64 (n.f 11), .float .f64 (n.f 12),
   .float .f64 (n.f 13), .float .f64 (n.f 14), .float .f64 (n.f 15), .float .f64 (n.f 16), .int .i64 n.a, .int .i64 n.b]
def Nd.val (n : Nd) : Value := .agg n.cells.toArray
/-- the block nb holds the node n -/
def NBlk (w : World) (nb : Nat) (n : Nd) : Prop := w.heap[nb]? = some (.cells n.cells.toArray 67 (0, 0))
theorem NBlk.cell {w : World} {nb : Nat} {n : Nd} (h : NBlk w nb n) (i : Nat) : w.cell? ⟨nb, i, none⟩ = n.cells[i]? := by
  rw [cell_of_row w nb i n.cells.toArray 67 (0, 0) h]; simp

theorem NBlk.below {w w' : World} {nb : Nat} {n : Nd} {B : Nat} (h : NBlk w nb n) (hb : Below B w w') (hn : nb < B) : NBlk w' nb n := (hb.block nb hn).trans h

theorem below_drewN' {B : Nat} {a w : World} (h : Below B a w) (n : Nat) : Below B a (w.drewN n) := ⟨h.os, h.tape, h.output, h.size, h.block⟩

theorem NBlk.frozen {w : World} {nb : Nat} {n : Nd} (h : NBlk w nb n) (i : Nat) : w.frozen? ⟨nb, i, none⟩ = false := by
  simp [World.frozen?, show w.heap[nb]? = _ from h]
theorem NBlk.alloc {w : World} {nb : Nat} {n : Nd} (h : NBlk w nb n) (o : Obj) : NBlk (w.alloc o) nb n := by
  have hlt := (Array.getElem?_eq_some_iff.1 h).1
  show (w.heap.push o)[nb]? = _
  rw [Array.getElem?_push_lt hlt]
  exact (Array.getElem?_eq_getElem hlt).symm.trans h
theorem NBlk.drewN {w : World} {nb : Nat} {n : Nd} (h : NBlk w nb n) (m : Nat) : NBlk (w.drewN m) nb n := h
theorem or_zero (x y : Nat) (hx : x < 18446744073709551616) (hy : y < 18446744073709551616) : ∃ z : Nat, z < 18446744073709551616 ∧ bits .or .u64 (x : Int) (y : Int) = (z : Int) ∧ (z = 0 ↔ x = 0 ∧ y = 0) :=
  ⟨x ||| y, Nat.or_lt_two_pow (n := 64) hx hy, u64_or_nat x y hx hy, Nat.or_eq_zero_iff⟩
attribute [local go_sem] bits_run
end Go.Proofs.YtejmbbkklhpnaaaGreatDoor.nodew
