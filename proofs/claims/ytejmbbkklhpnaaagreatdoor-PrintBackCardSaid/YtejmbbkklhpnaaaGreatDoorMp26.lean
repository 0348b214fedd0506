/- The walk of burnishlaw18.Same at one row of nodes twice. Conditions: the nodes lie in memory, within the reach. -/
import Derived.Test.YtejmbbkklhpnaaaGreatDoorMp15
import Derived.Laws.FloatBits
import Derived.Laws.FloatArith
import Derived.Laws.Externs
import Derived.Deep.DeepCutAuto
namespace Go.Proofs.YtejmbbkklhpnaaaGreatDoor.chkw
open Go.RowKit
open Go.Proofs.YtejmbbkklhpnaaaGreatDoor.nodew
open Go.Proofs.YtejmbbkklhpnaaaGreatDoor.qt
open Go.BigFrame
attribute [local go_sem] nodew.run_store_float

theorem fbits_run (x : Nat) (w : World) : (callFunc 43 #[.float .f64 x]).run Tryz.prog w = .ok (.value (.int .u64 x)) w := nodew.bits_run x w
attribute [local go_sem] fbits_run
/-- the zero node's cells -/
def zcells : Array Value := #[.int .u8 0, .float .f64 0, .float .f64 0, .float .f64 0, .float .f64 0, .float .f64 0, .float .f64 0, .float .f64 0, .float .f64 0, .float .f64 0, .float .f64 0, .float .f64 0, .float .f64 0, .float .f64 0, .float .f64 0, .float .f64 0, .float .f64 0, .int .i64 0, .int .i64 0]
theorem alloc_nd (w : World) : (Instr.alloc 67 true (.tuple #[])).run Tryz.prog w = .ok (pt w.heap.size 0) (w.alloc (.cells zcells 67)) := by
  kernel_rfl
theorem exec_alloc_nd {o : Oper} (ho : o.op = .alloc 67) (a : Act) (w : World) : (execOp a.eval o).run Tryz.prog w = .ok (.value (pt w.heap.size 0)) (w.alloc (.cells zcells 67)) := by
  unfold execOp
  simp only [ho, Sem.run_bind, alloc_nd, Result.andThen_ok, Sem.run_pure]
theorem exec_store_nd {o : Oper} (x y : Operand) (ho : o.op = .store 67 x y) {a : Act} {w : World} (g : Nat) (n : Nd) (hx : a.eval x = pt g 0) (hy : a.eval y = n.val) (old : Array Value) (hg : w.heap[g]? = some (.cells old 67 (0, 0))) (hold : old.size = 19) :
    (execOp a.eval o).run Tryz.prog w = .ok .skip (w.setRow g n.cells.toArray) := by
  have hr := run_storeVar_row w g 67 67 old n.cells.toArray hg (nd_info n) (by rw [nd_size]; exact hold) (nd_one n)
  have hy' : a.eval y = .agg n.cells.toArray := hy
  have hx' : a.eval x = .pointer (some ⟨g, 0, none⟩) := hx
  unfold execOp
  simp only [ho, hx', hy', Instr.storeAt, Instr.sureAddr, Sem.run_bind, Sem.run_pure, Result.andThen_ok, hr]
/-- a whole node is read in a drawn region, wherever it lies -/
theorem quiet_load_at {C : World → Prop} {ops : Array Oper} {o : Oper} {rest : List Oper} {a : Act} {Q : Act → Prop} (hgd : o.guard = none) (x : Operand) (ho : o.op = .load 67 x) (ad : Value) (hx : a.eval x = ad) (n : Nd)
    (hg : ∀ w, C w → (Instr.loadAt 67 ad).run Tryz.prog w = .ok n.val w) (h : wpQuiet Tryz.prog ops C Q rest (a.put o.dst n.val)) : wpQuiet Tryz.prog ops C Q (o :: rest) a := by
  refine wpQuiet_want (by simp [Region.wanted, hgd]) fun K hK => ⟨n.val, ?_, hK _ h⟩
  intro w' hw'
  unfold Oper.quietAt execOp
  simp only [ho, hx, hg w' hw', Sem.run_bind, Sem.run_pure, Result.andThen_ok, Oper.quietUpon]
  exact ⟨trivial, trivial⟩

theorem NRead.at {W : World} {B : Nat} {l : List Nd} {g off k : Nat} (h : l ≠ [] → ∃ g' off', some (⟨g, off, none⟩ : Addr) = some ⟨g', off', none⟩ ∧ g' < B ∧ g' < W.heap.size ∧ ∀ j u, (ncells l)[j]? = some u → W.cell? ⟨g', off' + j, none⟩ = some u) (hk : k < l.length) :
    g < W.heap.size ∧ ∀ u : World, u.heap[g]? = W.heap[g]? → (Instr.loadAt 67 (.pointer (some ⟨g, off + k * 19, none⟩))).run Tryz.prog u = .ok (l[k]).val u := by
  obtain ⟨g', off', e, _, hgl, hc⟩ := h (by intro e; subst e; simp at hk)
  injection e with e
  injection e with e1 e2
  subst e1 e2
  refine ⟨hgl, fun u hu => (l[k]).load_at u g (off + k * 19) fun j v hj => ?_⟩
  have hj' : j < 19 := by have := (List.getElem?_eq_some_iff.1 hj).1; rwa [nd_cells_len] at this
  rw [Nat.add_assoc]
  exact (World.cell?_of_block (a := ⟨g, off + (k * 19 + j), none⟩) hu).trans (hc (k * 19 + j) v (by rw [ncells_get l k j hk hj']; exact hj))

end Go.Proofs.YtejmbbkklhpnaaaGreatDoor.chkw
