/- Steps of a body of a range, inside its round: a node is made, stored, read. No conditions but those stated. -/
import Derived.Test.YtlhdabpoljoobaaFlaJ
import Derived.Deep.WholeRow
namespace Go.Proofs.Ytlhdabpoljoobaa.flatw
open Go.RowKit Go.Shelf
open Go.Proofs.Ytlhdabpoljoobaa.nodew
open Go.Proofs.Ytlhdabpoljoobaa.chkw
open Go.Proofs.Ytlhdabpoljoobaa.flatm

section
variable {F : Fence} {n : Nat} {ops : Array Oper} {rest : List Oper} {o : Oper} {a : Act} {w w' : World} {Q : Exit → Act → World → Prop}
theorem wli_load (hgd : o.guard = none) (x : Operand) (ho : o.op = .load 37 x) (ad : Value) (hx : a.eval x = ad) (nd : Nd)
    (hl : (Instr.loadAt 37 ad).run Try.prog w = .ok nd.val w) (h : wpListIn F n Try.prog ops Q rest (a.put o.dst nd.val) w) : wpListIn F n Try.prog ops Q (o :: rest) a w := by
  refine wpListIn_plain hgd fun K hK => ?_
  have hr : (execOp a.eval o).run Try.prog w = .ok (.value nd.val) w := by
    unfold execOp
    simp only [ho, hx, hl, Sem.run_bind, Sem.run_pure, Result.andThen_ok]
  unfold Oper.wpIn
  refine ⟨by simp [Oper.about, ho], ?_⟩
  rw [Oper.semAt_plain F _ _ (by rw [ho]; intro c hc'; cases hc'), hr]
  exact hK _ _ h
theorem wli_alloc (hgd : o.guard = none) (ho : o.op = .alloc 37)
    (h : wpListIn F n Try.prog ops Q rest (a.put o.dst (pt w.heap.size 0)) (w.alloc (.cells zcells 37))) : wpListIn F n Try.prog ops Q (o :: rest) a w := by
  refine wpListIn_plain hgd fun K hK => ?_
  unfold Oper.wpIn
  refine ⟨by simp [Oper.about, ho], ?_⟩
  rw [Oper.semAt_plain F _ _ (by rw [ho]; intro c hc'; cases hc'), exec_alloc_nd ho a w]
  exact hK _ _ h
theorem wli_store_new (hgd : o.guard = none) (x y : Operand) (ho : o.op = .store 37 x y) {u : World} (nd : Nd) (hx : a.eval x = pt u.heap.size 0) (hy : a.eval y = nd.val)
    (h : wpListIn F n Try.prog ops Q rest (a.put o.dst undef) (u.alloc (.cells nd.cells.toArray 37))) : wpListIn F n Try.prog ops Q (o :: rest) a (u.alloc (.cells zcells 37)) := by
  refine wpListIn_plain hgd fun K hK => ?_
  have hr : (Instr.storeAt 37 (.pointer (some ⟨u.heap.size, 0, none⟩)) (.agg nd.cells.toArray)).run Try.prog (u.alloc (.cells zcells 37)) = .ok () (u.alloc (.cells nd.cells.toArray 37)) :=
    run_storeAt_new u 37 zcells nd.cells.toArray (nd_info nd) (by rw [nd_size]; rfl) (nd_one nd)
  have hx' : a.eval x = .pointer (some ⟨u.heap.size, 0, none⟩) := hx
  have hy' : a.eval y = .agg nd.cells.toArray := hy
  unfold Oper.wpIn
  refine ⟨by simp [Oper.about, ho], ?_⟩
  rw [Oper.semAt_plain F _ _ (by rw [ho]; intro c hc'; cases hc')]
  unfold execOp
  simp only [ho, hx', hy', hr, Sem.run_bind, Sem.run_pure, Result.andThen_ok]
  exact hK _ _ h
end
end Go.Proofs.Ytlhdabpoljoobaa.flatw
