/- The chapter's examples, in plain words. No conditions. -/
import Derived.Test.YtlhdabpoljoobaaFlbA
namespace Go.Proofs.Ytlhdabpoljoobaa.flatw
open Go.RowKit Go.Shelf
open Go.Proofs.Ytlhdabpoljoobaa.nodew
open Go.Proofs.Ytlhdabpoljoobaa.chkw
open Go.Proofs.Ytlhdabpoljoobaa.flatm

def lamN : Nd := ⟨1, [4602678819172646912, 4602678819172646912, 4602678819172646912, 0, 0, 0, 0, 0, 0, 0, 0, 0, 0, 0, 0, 0], 0, 0⟩
def mixN (b : Int) : Nd := ⟨5, [0, 0, 0, 0, 0, 0, 0, 0, 0, 0, 0, 0, 0, 0, 0, 4602678819172646912], 0, b⟩
def plsN : Nd := ⟨3, [0, 0, 0, 0, 0, 0, 0, 0, 0, 0, 0, 0, 0, 4607182418800017408, 4609434218613702656, 0], 0, 0⟩
def exP : List Nd := [lamN, lamN, plsN, mixN 1]
theorem ex_right : rightP exP = true := by kernel_rfl
theorem ex_nil : rightP [] = false := by kernel_rfl
theorem ex_one : rightP [lamN] = true := by kernel_rfl
theorem ex_flat : flatP exP = [lamN, mixN 0] := by kernel_rfl
theorem ex_used : usedP exP = [0, 1, 3] := by kernel_rfl
theorem ex_dep : depP exP 3 = 2 := by kernel_rfl
theorem ex_dep1 : depP [lamN] 0 = 1 := by kernel_rfl
theorem lam_ok : lamN.ok := ⟨rfl, by decide⟩
theorem pls_ok : plsN.ok := ⟨rfl, by decide⟩
theorem mix_ok (b : Int) : (mixN b).ok := ⟨rfl, by
  intro v hv
  simp only [mixN, List.mem_cons, List.not_mem_nil, or_false] at hv
  omega⟩
theorem ex_ok : ∀ n ∈ exP, n.ok := by
  intro n hn
  simp only [exP, List.mem_cons, List.not_mem_nil, or_false] at hn
  rcases hn with rfl | rfl | rfl | rfl
  · exact lam_ok
  · exact lam_ok
  · exact pls_ok
  · exact mix_ok 1
theorem bld_arr (w : World) : (Instr.build 35 #[(0, .float .f64 4602678819172646912), (1, .float .f64 4602678819172646912), (2, .float .f64 4602678819172646912)]).run Try.prog w = .ok (.agg #[.float .f64 4602678819172646912, .float .f64 4602678819172646912, .float .f64 4602678819172646912]) w := by kernel_rfl
theorem bld_lam (w : World) : (Instr.build 37 #[(0, .int .u8 1), (1, .agg #[.float .f64 4602678819172646912, .float .f64 4602678819172646912, .float .f64 4602678819172646912])]).run Try.prog w = .ok lamN.val w := by kernel_rfl
theorem bld_mix (w : World) : (Instr.build 37 #[(0, .int .u8 5), (8, .float .f64 4602678819172646912), (9, .int .i64 0), (10, .int .i64 1)]).run Try.prog w = .ok (mixN 1).val w := by kernel_rfl
theorem bld_pls (w : World) : (Instr.build 37 #[(0, .int .u8 3), (6, .float .f64 4607182418800017408), (7, .float .f64 4609434218613702656)]).run Try.prog w = .ok plsN.val w := by kernel_rfl
theorem bs4_run (w : World) : (Instr.buildSlice 22 4 #[(0, lamN.val), (1, lamN.val), (2, plsN.val), (3, (mixN 1).val)]).run Try.prog w = .ok (.slice (some ⟨w.heap.size, 0, none⟩) 4 4) (w.alloc (.cells (ncells exP).toArray 37)) := by kernel_rfl
theorem bs2_run (w : World) : (Instr.buildSlice 22 2 #[(0, lamN.val), (1, (mixN 0).val)]).run Try.prog w = .ok (.slice (some ⟨w.heap.size, 0, none⟩) 2 2) (w.alloc (.cells (ncells [lamN, mixN 0]).toArray 37)) := by kernel_rfl
theorem bs3_run (w : World) : (Instr.buildSlice 30 3 #[(0, .int .i64 0), (1, .int .i64 1), (2, .int .i64 3)]).run Try.prog w = .ok (.slice (some ⟨w.heap.size, 0, none⟩) 3 3) (w.alloc (.cells (intsV [0, 1, 3]).toArray 3)) := by kernel_rfl
theorem exec_bs4 {o : Oper} (x0 x1 x2 x3 : Operand) (ho : o.op = .buildSlice 22 4 #[(0, x0), (1, x1), (2, x2), (3, x3)]) {a : Act} {w : World} (h0 : a.eval x0 = lamN.val) (h1 : a.eval x1 = lamN.val) (h2 : a.eval x2 = plsN.val) (h3 : a.eval x3 = (mixN 1).val) :
    (execOp a.eval o).run Try.prog w = .ok (.value (.slice (some ⟨w.heap.size, 0, none⟩) 4 4)) (w.alloc (.cells (ncells exP).toArray 37)) := by
  unfold execOp
  simp only [ho, Sem.run_bind, List.map_toArray, List.map_cons, List.map_nil, h0, h1, h2, h3, bs4_run, Result.andThen_ok, Sem.run_pure]
theorem exec_bs2 {o : Oper} (x0 x1 : Operand) (ho : o.op = .buildSlice 22 2 #[(0, x0), (1, x1)]) {a : Act} {w : World} (h0 : a.eval x0 = lamN.val) (h1 : a.eval x1 = (mixN 0).val) :
    (execOp a.eval o).run Try.prog w = .ok (.value (.slice (some ⟨w.heap.size, 0, none⟩) 2 2)) (w.alloc (.cells (ncells [lamN, mixN 0]).toArray 37)) := by
  unfold execOp
  simp only [ho, Sem.run_bind, List.map_toArray, List.map_cons, List.map_nil, h0, h1, bs2_run, Result.andThen_ok, Sem.run_pure]
theorem exec_bs3 {o : Oper} (ho : o.op = .buildSlice 30 3 #[(0, .const (.int .i64 0)), (1, .const (.int .i64 1)), (2, .const (.int .i64 3))]) {a : Act} {w : World} :
    (execOp a.eval o).run Try.prog w = .ok (.value (.slice (some ⟨w.heap.size, 0, none⟩) 3 3)) (w.alloc (.cells (intsV [0, 1, 3]).toArray 3)) := by
  unfold execOp
  simp only [ho, Sem.run_bind, List.map_toArray, List.map_cons, List.map_nil, Act.eval, bs3_run, Result.andThen_ok, Sem.run_pure]
end Go.Proofs.Ytlhdabpoljoobaa.flatw
