/- The walk of burnishlaw18.CheckRanges. Conditions: three of strconv's variables hold what the program's text lays. -/
import Derived.Test.YtgblgolkajdfbaaGreatDoorProB
import Derived.Test.YtgblgolkajdfbaaGreatDoorRngA
import Derived.Test.YtgblgolkajdfbaaGreatDoorQv
import Derived.Test.YtgblgolkajdfbaaGreatDoorRngM
import Derived.Test.YtgblgolkajdfbaaGreatDoorSam
import Derived.Deep.DeepCutAuto
import Derived.BigCall
namespace Go.Proofs.YtgblgolkajdfbaaGreatDoor.chkw
open Go.RowKit
open Go.Proofs.YtgblgolkajdfbaaGreatDoor.lexw
open Go.Proofs.YtgblgolkajdfbaaGreatDoor.parw
open Go.Proofs.YtgblgolkajdfbaaGreatDoor.flow
open Go.Proofs.YtgblgolkajdfbaaGreatDoor.nodew
open Go.Proofs.YtgblgolkajdfbaaGreatDoor.words
open Go.Proofs.YtgblgolkajdfbaaGreatDoor.qt
open Go.Proofs.YtgblgolkajdfbaaGreatDoor.qv
open Go.BigFrame
def eqF (x y : Nat) : Bool := fo x y == some .eq
theorem ord_eq (x y : Nat) : (FloatKind.f64.format.order x y == some .eq) = eqF x y := rfl
theorem ord_ne (x y : Nat) : (FloatKind.f64.format.order x y != some .eq) = !eqF x y := rfl
theorem ord_geq (x y : Nat) : (FloatKind.f64.format.order x y == some .gt || eqF x y) = geqF x y := rfl
theorem ord_leq (x y : Nat) : (FloatKind.f64.format.order x y == some .lt || eqF x y) = leqF x y := rfl
attribute [local go_sem] parw.run_store_float ord_eq ord_ne ord_geq ord_leq

theorem next_down (d : Nat × Nat) (h : d ∈ rpairs) (w : World) : Calls Tryz.prog 16 #[.float .f64 d.1, .float .f64 13844628204490326016] w fun e w' => e = .returned (.float .f64 (downF d.1)) ∧ w' = w := by
  have h : d = (0, b1f) ∨ d = (bMet, bMetM) ∨ d = (bAlpha, b1f) ∨ d = (bIor, bIorM) := by simpa [rpairs] using h
  rcases h with rfl | rfl | rfl | rfl
  · exact next_0 w
  · exact next_1 w
  · exact next_2 w
  · exact next_3 w
theorem next_up (d : Nat × Nat) (h : d ∈ rpairs) (w : World) : Calls Tryz.prog 16 #[.float .f64 d.2, .float .f64 4636666922610458624] w fun e w' => e = .returned (.float .f64 (upF d.2)) ∧ w' = w := by
  have h : d = (0, b1f) ∨ d = (bMet, bMetM) ∨ d = (bAlpha, b1f) ∨ d = (bIor, bIorM) := by simpa [rpairs] using h
  rcases h with rfl | rfl | rfl | rfl
  · exact next_4 w
  · exact next_5 w
  · exact next_4 w
  · exact next_6 w
theorem negz_any (w : World) : Calls Tryz.prog 18 #[.float .f64 0, .float .f64 13830554455654793216] w fun e w' => e = .returned (.float .f64 9223372036854775808) ∧ w' = w := copysign_any _ _ w

def sumF (x : Nat) : Nat := if x = 0 then 4607182418800017408 else if x = bMet then 4625214409495543808 else if x = bAlpha then 4607323156288372736 else 4617385886705778688
theorem sum_0 (w : World) : (binOp BinOp.add 22 (.float .f64 0) (.float .f64 4607182418800017408)).run Tryz.prog w = .ok (.float .f64 4607182418800017408) w := by kernel_rfl
theorem mid_0 (w : World) : (binOp BinOp.quo 22 (.float .f64 4607182418800017408) (.float .f64 4611686018427387904)).run Tryz.prog w = .ok (.float .f64 4602678819172646912) w := by kernel_rfl
theorem sum_1 (w : World) : (binOp BinOp.add 22 (.float .f64 4589168020290535424) (.float .f64 4625196817309499392)).run Tryz.prog w = .ok (.float .f64 4625214409495543808) w := by kernel_rfl
theorem mid_1 (w : World) : (binOp BinOp.quo 22 (.float .f64 4625214409495543808) (.float .f64 4611686018427387904)).run Tryz.prog w = .ok (.float .f64 4620710809868173312) w := by kernel_rfl
theorem sum_2 (w : World) : (binOp BinOp.add 22 (.float .f64 4584664420663164928) (.float .f64 4607182418800017408)).run Tryz.prog w = .ok (.float .f64 4607323156288372736) w := by kernel_rfl
theorem mid_2 (w : World) : (binOp BinOp.quo 22 (.float .f64 4607323156288372736) (.float .f64 4611686018427387904)).run Tryz.prog w = .ok (.float .f64 4602819556661002240) w := by kernel_rfl
theorem sum_3 (w : World) : (binOp BinOp.add 22 (.float .f64 4607463893776728064) (.float .f64 4616189618054758400)).run Tryz.prog w = .ok (.float .f64 4617385886705778688) w := by kernel_rfl
theorem mid_3 (w : World) : (binOp BinOp.quo 22 (.float .f64 4617385886705778688) (.float .f64 4611686018427387904)).run Tryz.prog w = .ok (.float .f64 4612882287078408192) w := by kernel_rfl
theorem sum_run (lo hi : Nat) (h : (lo, hi) ∈ rpairs) (w : World) : (binOp BinOp.add 22 (.float .f64 lo) (.float .f64 hi)).run Tryz.prog w = .ok (.float .f64 (sumF lo)) w := by
  have h : (lo = 0 ∧ hi = b1f) ∨ (lo = bMet ∧ hi = bMetM) ∨ (lo = bAlpha ∧ hi = b1f) ∨ (lo = bIor ∧ hi = bIorM) := by simpa [rpairs] using h
  rcases h with ⟨rfl, rfl⟩ | ⟨rfl, rfl⟩ | ⟨rfl, rfl⟩ | ⟨rfl, rfl⟩
  · exact sum_0 w
  · exact sum_1 w
  · exact sum_2 w
  · exact sum_3 w
theorem mid_run (lo hi : Nat) (h : (lo, hi) ∈ rpairs) (w : World) : (binOp BinOp.quo 22 (.float .f64 (sumF lo)) (.float .f64 4611686018427387904)).run Tryz.prog w = .ok (.float .f64 (midF lo hi)) w := by
  have h : (lo = 0 ∧ hi = b1f) ∨ (lo = bMet ∧ hi = bMetM) ∨ (lo = bAlpha ∧ hi = b1f) ∨ (lo = bIor ∧ hi = bIorM) := by simpa [rpairs] using h
  rcases h with ⟨rfl, rfl⟩ | ⟨rfl, rfl⟩ | ⟨rfl, rfl⟩ | ⟨rfl, rfl⟩
  · exact mid_0 w
  · exact mid_1 w
  · exact mid_2 w
  · exact mid_3 w
theorem callFunc_enter {f : FuncId} {fn : Func} {c : Code} (hf : Tryz.prog.funcs[f]? = some fn) (hname : (fn.name == "runtime.NumGoroutine") = false) (hb : fn.body = some c) (args : Array Value) (w : World) :
    (callFunc f args).run Tryz.prog w = .ok (.enter f args) w := by
  have h1 : fn.name ≠ "runtime.NumGoroutine" := by simpa using hname
  simp [callFunc, hf, h1, hb]
theorem exec_call {o : Oper} (f : FuncId) (xs : Array Operand) (ats : Array TypeId) (ho : o.op = .call { callee := .value (.func f), args := xs, argTypes := ats }) (a : Act) (args : Array Value) (ha : #[] ++ xs.map a.eval ++ #[] = args) (w : World)
    (hr : (callFunc f args).run Tryz.prog w = .ok (.enter f args) w) : (execOp a.eval o).run Tryz.prog w = .ok (.enter f args) w := by
  obtain ⟨dst, op, ty, pos, after, guard⟩ := o
  simp only at ho
  subst ho
  rw [execOp_call_go, ha]
  exact hr
theorem exec_call2 {o : Oper} (f : FuncId) (x y : Operand) (ats : Array TypeId) (ho : o.op = .call { callee := .value (.func f), args := #[x, y], argTypes := ats }) (a : Act) (vx vy : Value) (hx : a.eval x = vx) (hy : a.eval y = vy) (w : World)
    (hr : (callFunc f #[vx, vy]).run Tryz.prog w = .ok (.enter f #[vx, vy]) w) : (execOp a.eval o).run Tryz.prog w = .ok (.enter f #[vx, vy]) w :=
  exec_call f #[x, y] ats ho a #[vx, vy] (by simp [hx, hy]) w hr
theorem exec_call0 {o : Oper} (f : FuncId) (ats : Array TypeId) (ho : o.op = .call { callee := .value (.func f), args := #[], argTypes := ats }) (a : Act) (w : World)
    (hr : (callFunc f #[]).run Tryz.prog w = .ok (.enter f #[]) w) : (execOp a.eval o).run Tryz.prog w = .ok (.enter f #[]) w :=
  exec_call f #[] ats ho a #[] (by simp) w hr
theorem len7_run (A : Option Addr) (ty : TypeId) (w : World) : (Builtin.len_ #[49] ty #[.slice A 7 7]).run Tryz.prog w = .ok (.int .i64 7) w := by kernel_rfl
theorem exec_len7 {o : Oper} (x : Operand) (ho : o.op = .call { callee := .builtin .len, args := #[x], argTypes := #[49] }) (a : Act) (A : Option Addr) (hx : a.eval x = .slice A 7 7) (w : World) : (execOp a.eval o).run Tryz.prog w = .ok (.value (.int .i64 7)) w := by
  obtain ⟨dst, op, ty, pos, after, guard⟩ := o
  simp only at ho
  subst ho
  rw [execOp_builtin, builtin_len]
  simp only [List.map_toArray, List.map_cons, List.map_nil, hx, Sem.run_bind, len7_run, Result.andThen_ok, Sem.run_pure]
theorem enter_next (args : Array Value) (w : World) : (callFunc 16 args).run Tryz.prog w = .ok (.enter 16 args) w := callFunc_enter Tryz.func16 (by kernel_rfl) rfl args w
theorem enter_nan (args : Array Value) (w : World) : (callFunc 17 args).run Tryz.prog w = .ok (.enter 17 args) w := callFunc_enter Tryz.func17 (by kernel_rfl) rfl args w
theorem enter_copy (args : Array Value) (w : World) : (callFunc 18 args).run Tryz.prog w = .ok (.enter 18 args) w := callFunc_enter Tryz.func18 (by kernel_rfl) rfl args w
theorem exec_bin {o : Oper} (b : BinOp) (t u : TypeId) (x y : Operand) (ho : o.op = .binOp b t x y u) (a : Act) (vx vy v : Value) (hx : a.eval x = vx) (hy : a.eval y = vy) (w : World) (hg : (eqGuard b t x y vx vy).run Tryz.prog w = .ok () w) (h : (binOp b t vx vy).run Tryz.prog w = .ok v w) : (execOp a.eval o).run Tryz.prog w = .ok (.value v) w := by
  unfold execOp
  simp only [ho, hx, hy, Sem.run_bind, hg, h, Result.andThen_ok, Sem.run_pure]
theorem quiet_val {C : World → Prop} {ops : Array Oper} {o : Oper} {rest : List Oper} {a : Act} {Q : Act → Prop} (hgd : o.guard = none) (v : Value) (hr : ∀ w, (execOp a.eval o).run Tryz.prog w = .ok (.value v) w) (h : wpQuiet Tryz.prog ops C Q rest (a.put o.dst v)) : wpQuiet Tryz.prog ops C Q (o :: rest) a := by
  refine wpQuiet_want (by simp [Region.wanted, hgd]) fun K hK => ⟨v, ?_, hK _ h⟩
  intro w' hw'
  unfold Oper.quietAt
  rw [hr w']
  exact ⟨rfl, rfl⟩

/-- the cells of the row of numbers -/
def rcell (nb : Nat) (d : Nat × Nat × Nat × Bool) : List Value := [pt nb d.1, .float .f64 d.2.1, .float .f64 d.2.2.1, .bool d.2.2.2]
def rcells (nb kind p : Nat) : List Value := (rfs kind p).flatMap (rcell nb)
theorem rvs_all : (rpairs.all fun q => (rvs q.1 q.2).all fun x => decide (x < 18446744073709551616)) = true := by kernel_rfl
theorem rvs_lt (lo hi x : Nat) (h : (lo, hi) ∈ rpairs) (hx : x ∈ rvs lo hi) : x < 18446744073709551616 := by
  have M := rvs_all
  rw [List.all_eq_true] at M
  have M := M _ h
  rw [List.all_eq_true] at M
  exact of_decide_eq_true (M x hx)
theorem put_ok (n : Nd) (hn : n.ok) (o x : Nat) (hx : x < 18446744073709551616) : (Nd.put n o x).ok :=
  ⟨(Nd.put_len n o x).trans hn.1, fun v hv => by
    rcases List.mem_or_eq_of_mem_set hv with h | h
    · exact hn.2 v h
    · rw [h]; exact hx⟩
theorem kp_trans {B : Nat} {w W V : World} {nb : Nat} {u : World} (h : Kp B w W nb V) (h' : Kp B w V nb u) : Kp B w W nb u :=
  ⟨h'.low, Nat.le_trans h.size h'.size, fun b hb hne => (h'.blk b (Nat.lt_of_lt_of_le hb h.size) hne).trans (h.blk b hb hne)⟩
theorem put_put (n : Nd) (o x y : Nat) : Nd.put (Nd.put n o x) o y = Nd.put n o y := by simp [Nd.put]
theorem put_self (n : Nd) (hl : n.x.length = 16) (o : Nat) (h1 : 1 ≤ o) (h2 : o ≤ 16) : Nd.put n o (n.f o) = n := by
  have := put_same n hl o (n.f o) h1 h2
  rw [put_put] at this
  exact this
theorem quiet_load_nd_g {C : World → Prop} {ops : Array Oper} {o : Oper} {rest : List Oper} {a : Act} {Q : Act → Prop} (hgd : Region.wanted o (yielded ops a.tmps) = true) (x : Operand) (ho : o.op = .load 25 x) (g : Nat) (hx : a.eval x = .pointer (some ⟨g, 0, none⟩)) (n : Nd) (hg : ∀ w, C w → NBlk w g n)
    (h : wpQuiet Tryz.prog ops C Q rest (a.put o.dst n.val)) : wpQuiet Tryz.prog ops C Q (o :: rest) a := by
  refine wpQuiet_want hgd fun K hK => ⟨n.val, ?_, hK _ h⟩
  intro w' hw'
  unfold Oper.quietAt execOp
  simp only [ho, hx, (hg w' hw').loadAt, Sem.run_bind, Sem.run_pure, Result.andThen_ok, Oper.quietUpon]
  exact ⟨trivial, trivial⟩
theorem dec_cast (k m : Nat) (z : Int) (h : z = (m : Int)) : ((k : Int) == z) = decide (k = m) := by
  rw [Bool.eq_iff_iff, beq_iff_eq, decide_eq_true_eq]
  omega
theorem rcells_ne (nb k p : Nat) (h : ¬ (k : Int) = 3) : rcells nb k p =
    [pt nb (1 + p), .float .f64 0, .float .f64 b1f, .bool (decide ((k : Int) ≤ 2)), pt nb (4 + p), .float .f64 0, .float .f64 b1f, .bool ((k : Int) == 6), pt nb (7 + p), .float .f64 bMet, .float .f64 bMetM, .bool ((k : Int) == 4), pt nb (10 + p), .float .f64 bMet, .float .f64 bMetM, .bool ((k : Int) == 4),
     pt nb 13, .float .f64 0, .float .f64 b1f, .bool ((k : Int) == 2), pt nb 14, .float .f64 bAlpha, .float .f64 b1f, .bool ((k : Int) == 4), pt nb 15, .float .f64 bIor, .float .f64 bIorM, .bool ((k : Int) == 6), pt nb 16, .float .f64 0, .float .f64 b1f, .bool ((k : Int) == 5)] := by
  have e2 : decide ((k : Int) ≤ 2) = decide (k ≤ 2) := decide_eq_decide.2 (by omega)
  have e3 : decide (k = 3) = false := decide_eq_false (by omega)
  have c2 := dec_cast k 2 2 rfl
  have c4 := dec_cast k 4 4 rfl
  have c5 := dec_cast k 5 5 rfl
  have c6 := dec_cast k 6 6 rfl
  rw [e2, c2, c4, c5, c6]
  unfold rcells rfs
  rw [e3]
  rfl
theorem rfs_range (kd p : Nat) (hp : p < 3) : ∀ d ∈ rfs kd p, 1 ≤ d.1 ∧ d.1 ≤ 16 ∧ (d.2.1, d.2.2.1) ∈ rpairs := by
  intro d hd
  have : p = 0 ∨ p = 1 ∨ p = 2 := by omega
  unfold rfs at hd
  simp only [List.mem_cons, List.not_mem_nil, or_false] at hd
  rcases hd with rfl | rfl | rfl | rfl | rfl | rfl | rfl | rfl <;> (refine ⟨?_, ?_, ?_⟩ <;> (first | (show _ ≤ _; simp; omega) | simp [rpairs]))
theorem rcell_at (nb kd p k : Nat) (hk : k < 8) : ∃ d, d ∈ rfs kd p ∧ ∀ j, j < 4 → (rcells nb kd p)[k * 4 + j]? = (rcell nb d)[j]? := by
  have : k = 0 ∨ k = 1 ∨ k = 2 ∨ k = 3 ∨ k = 4 ∨ k = 5 ∨ k = 6 ∨ k = 7 := by omega
  have four : ∀ j, j < 4 → j = 0 ∨ j = 1 ∨ j = 2 ∨ j = 3 := by omega
  unfold rfs
  rcases this with rfl | rfl | rfl | rfl | rfl | rfl | rfl | rfl
  · exact ⟨_, .head _, fun j hj => by rcases four j hj with rfl | rfl | rfl | rfl <;> rfl⟩
  · exact ⟨_, .tail _ (.head _), fun j hj => by rcases four j hj with rfl | rfl | rfl | rfl <;> rfl⟩
  · exact ⟨_, .tail _ (.tail _ (.head _)), fun j hj => by rcases four j hj with rfl | rfl | rfl | rfl <;> rfl⟩
  · exact ⟨_, .tail _ (.tail _ (.tail _ (.head _))), fun j hj => by rcases four j hj with rfl | rfl | rfl | rfl <;> rfl⟩
  · exact ⟨_, .tail _ (.tail _ (.tail _ (.tail _ (.head _)))), fun j hj => by rcases four j hj with rfl | rfl | rfl | rfl <;> rfl⟩
  · exact ⟨_, .tail _ (.tail _ (.tail _ (.tail _ (.tail _ (.head _))))), fun j hj => by rcases four j hj with rfl | rfl | rfl | rfl <;> rfl⟩
  · exact ⟨_, .tail _ (.tail _ (.tail _ (.tail _ (.tail _ (.tail _ (.head _)))))), fun j hj => by rcases four j hj with rfl | rfl | rfl | rfl <;> rfl⟩
  · exact ⟨_, .tail _ (.tail _ (.tail _ (.tail _ (.tail _ (.tail _ (.tail _ (.head _))))))), fun j hj => by rcases four j hj with rfl | rfl | rfl | rfl <;> rfl⟩

set_option maxRecDepth 100000 in
set_option maxHeartbeats 4000000 in
theorem ranges_any (B : Nat) (n : Nd) (hn : n.ok) (at_ : Int) (hat : -9223372036854775808 ≤ at_ ∧ at_ ≤ 9223372036854775807) (which : Nat) (hwh : which ≤ 255) (w : World) (hw : Laid B w) (hB : B ≤ w.heap.size) :
    Calls Tryz.prog 7 #[n.val, .int .i64 at_, .int .u8 which] w fun e w' => e = .returned (.bool true) ∧ Below w.heap.size w w' := by
  have HW := Lib.hid hw
  clear hw
  go_enter Tryz.func7, Tryz.ntmps7
  go_upto_region 0 with (fail)
  refine wp_region_lit ?_
  refine wl_val rfl _ (exec_box (.tmp 0) rfl _ _ n rfl) ?_
  have hbx := (Below.refl w.heap.size w).alloc (Nat.le_refl _) (.cells n.cells.toArray 25)
  have hnb := heap_alloc_new w (.cells n.cells.toArray 25)
  obtain ⟨W, hW⟩ : ∃ W, W = w.alloc (.cells n.cells.toArray 25) := ⟨_, rfl⟩
  have hWz : w.heap.size < W.heap.size := by rw [hW]; simp
  rw [← hW] at hbx hnb ⊢
  have hG : Laid B W := Laid.stable B w W none HW.out (grown_below hbx none) (fun r e => by cases e)
  have hnb : NBlk W w.heap.size n := hnb
  have HBX := Lib.hid hbx
  have HG := Lib.hid hG
  have HNB := Lib.hid hnb
  clear hW hG hbx hnb
  obtain ⟨q, hq⟩ : ∃ q, nodeOk n (at_.tmod 4096) = q := ⟨_, rfl⟩
  have hnode := node_any n hn.2 hn.1 (at_.tmod 4096) W
  rw [hq] at hnode
  have HND := Lib.hid hnode
  have HQ := Lib.hid hq
  clear hnode hq
  go_upto_region 2 with (fail)
  obtain ⟨pl, hpl⟩ : ∃ pl, at_.tmod 4096 = pl := ⟨_, rfl⟩
  rw [hpl] at HND HQ ⊢
  clear hpl
  cases q with
  | false =>
    go_wp2_with (first | (refine wpList_load_nd_g _ ?_ (.tmp 3) rfl w.heap.size rfl n HNB.out ?_; rotate_right) | (go_at_call 11; refine HND.out.mono ?_; rintro e wq ⟨rfl, hBq⟩))
    refine (awake18 B wq (Laid.stable B W wq none HG.out (grown_below hBq none) (fun r e => by cases e)) (by have := hBq.size; omega)).mono ?_
    rintro e wy ⟨rfl, hBy⟩
    go_wp2_with fail
    go_ret
    exact ⟨rfl, HBX.out.trans ((hBq.mono (by omega)).trans (hBy.mono (by have := hBq.size; omega)))⟩
  | true =>
    go_upto_region 4 with (first | (refine wpList_load_nd_g _ ?_ (.tmp 3) rfl w.heap.size rfl n HNB.out ?_; rotate_right) | (go_at_call 11; refine HND.out.mono ?_; rintro e wq ⟨rfl, hBq⟩))
    have hzq := hBq.size
    have hnq : NBlk wq w.heap.size n := (hBq.block w.heap.size hWz).trans HNB.out
    have hGq : Laid B wq := Laid.stable B W wq none HG.out (grown_below hBq none) (fun r e => by cases e)
    have hbw := HBX.out.trans (hBq.mono (show w.heap.size ≤ W.heap.size by omega))
    obtain ⟨nb, hnb⟩ : ∃ nb, nb = w.heap.size := ⟨_, rfl⟩
    rw [← hnb] at hnq ⊢
    have hnbq : nb < wq.heap.size := by omega
    have hnw : w.heap.size ≤ nb := by omega
    clear hnb
    have hk3 : (0 : Int) ≤ (which : Int) % 3 ∧ (which : Int) % 3 < 3 := by omega
    obtain ⟨p, hp⟩ : ∃ p : Nat, which % 3 = p := ⟨_, rfl⟩
    have hp3 : p < 3 := by omega
    have hpi : (which : Int) % 3 = (p : Int) := by omega
    have kc : ∀ u : Ext wq, u.1.cell? ⟨nb, 0, none⟩ = some (.int .u8 n.kind) := fun u => ext_cell ((hnq.cell 0).trans rfl) u
    have HNQ := Lib.hid hnq
    have HGQ := Lib.hid hGq
    have HBW := Lib.hid hbw
    clear hnq hGq hbw HBX HND HG HNB hBq
    have hp0 : (0 : Int) ≤ (p : Int) := by omega
    have hp3' : (p : Int) < 3 := by omega
    go_cut [7] from 23 to 86 (fun s7 wx => ∃ sb, nb < sb ∧ sb < wx.heap.size ∧ s7 = .slice (some ⟨sb, 0, none⟩) 8 8 ∧ wx.heap[sb]? = some (.cells (rcells nb n.kind p).toArray 45 (0, 0)) ∧ Below wq.heap.size wq wx)
    case first =>
      by_cases h3 : (n.kind : Int) = 3
      · have hd : decide ((n.kind : Int) = 3) = true := decide_eq_true h3
        refine region_ext_tail 62 (by kernel_rfl) (by kernel_rfl) ?_
        simp only [List.take_succ_cons, List.take_zero, List.drop_succ_cons, List.drop_zero]
        repeat go_big_quiet_step (fail)
        refine wpQuiet_nil ?_
        intro u
        have hk : n.kind = 3 := by omega
        have hxu := u.2
        obtain ⟨X, hX⟩ : ∃ X, X = u.1 := ⟨_, rfl⟩
        rw [← hX] at hxu ⊢
        clear hX
        have hxz := hxu.size
        have hxa := hxu.alloc hxz (.cells (rcells nb n.kind p).toArray 45)
        have hxn := heap_alloc_new X (.cells (rcells nb n.kind p).toArray 45)
        have hxs : X.heap.size < (X.alloc (.cells (rcells nb n.kind p).toArray 45)).heap.size := by simp
        rw [hk] at hxa hxn hxs
        go_wp2_with fail
        go_meet
        exact ⟨X.heap.size, by omega, hxs, rfl, by rw [hk]; exact hxn, hxa⟩
      · have hd : ((n.kind : Int) == 3) = false := beq_eq_false_iff_ne.2 h3
        refine region_ext_tail 62 (by kernel_rfl) (by kernel_rfl) ?_
        simp only [List.take_succ_cons, List.take_zero, List.drop_succ_cons, List.drop_zero]
        repeat go_big_quiet_step (fail)
        refine wpQuiet_nil ?_
        intro u
        have hxu := u.2
        obtain ⟨X, hX⟩ : ∃ X, X = u.1 := ⟨_, rfl⟩
        rw [← hX] at hxu ⊢
        clear hX
        have hxz := hxu.size
        have hxa := hxu.alloc hxz (.cells (rcells nb n.kind p).toArray 45)
        have hxn := heap_alloc_new X (.cells (rcells nb n.kind p).toArray 45)
        have hxs : X.heap.size < (X.alloc (.cells (rcells nb n.kind p).toArray 45)).heap.size := by simp
        have hrc := rcells_ne nb n.kind p h3
        rw [hrc] at hxa hxn hxs
        go_wp2_with fail
        go_meet
        exact ⟨X.heap.size, by omega, hxs, rfl, by rw [hrc]; exact hxn, hxa⟩
    case rest =>
      obtain ⟨sb, hsn, hss, rfl, hsr, hBc⟩ := hcut
      have hnc : NBlk wc nb n := (hBc.block nb hnbq).trans HNQ.out
      have hGc : Laid B wc := Laid.stable B wq wc none HGQ.out (grown_below hBc none) (fun r e => by cases e)
      have hbc := HBW.out.trans (hBc.mono (show w.heap.size ≤ wq.heap.size by omega))
      have hzc := hBc.size
      have HSR := Lib.hid hsr
      have HGC := Lib.hid hGc
      have hKp : Kp w.heap.size w wc nb wc := ⟨hbc, Nat.le_refl _, fun _ _ _ => rfl⟩
      have HKC := Lib.hid hKp
      have HNC := Lib.hid hnc
      clear hBc hsr hnc hGc hbc hKp HNQ HGQ HBW kc
      obtain ⟨wa, hwa⟩ : ∃ wa, wa = wc := ⟨_, rfl⟩
      subst hwa
      go_wp2_with fail
      go_loopw [88] (fun i wr => ∃ k : Nat, k ≤ 8 ∧ i = .int .i64 k ∧ Kp w.heap.size w wa nb wr ∧ NBlk wr nb n) (fun i _ => 8 - (intOf i).toNat)
      case atStart => exact ⟨0, by omega, rfl, HKC.out, HNC.out⟩
      case round =>
        obtain ⟨k, hk, rfl, hKr, hnr⟩ := hrel
        by_cases hk8 : k < 8
        · have hk0 : (0 : Int) ≤ (k : Int) := by omega
          have hk8' : (k : Int) < 8 := by omega
          obtain ⟨d, hdm, hdc⟩ : ∃ d, d ∈ rfs n.kind p ∧ ∀ j, j < 4 → (rcells nb n.kind p)[k * 4 + j]? = (rcell nb d)[j]? := by
            exact rcell_at nb n.kind p k hk8
          obtain ⟨o, lo, hi, has⟩ := d
          have x0 : wr.cell? ⟨sb, k * 4, none⟩ = some (.pointer (some ⟨nb, o, none⟩)) := hKr.cell ((cell_of_row wa sb (k * 4) _ _ _ HSR.out).trans (by rw [List.getElem?_toArray]; exact hdc 0 (by omega))) (by show sb ≠ nb; omega)
          have x1 : wr.cell? ⟨sb, k * 4 + 1, none⟩ = some (.float .f64 lo) := hKr.cell ((cell_of_row wa sb (k * 4 + 1) _ _ _ HSR.out).trans (by rw [List.getElem?_toArray]; exact hdc 1 (by omega))) (by show sb ≠ nb; omega)
          have x2 : wr.cell? ⟨sb, k * 4 + 2, none⟩ = some (.float .f64 hi) := hKr.cell ((cell_of_row wa sb (k * 4 + 2) _ _ _ HSR.out).trans (by rw [List.getElem?_toArray]; exact hdc 2 (by omega))) (by show sb ≠ nb; omega)
          have x3 : wr.cell? ⟨sb, k * 4 + 3, none⟩ = some (.bool has) := hKr.cell ((cell_of_row wa sb (k * 4 + 3) _ _ _ HSR.out).trans (by rw [List.getElem?_toArray]; exact hdc 3 (by omega))) (by show sb ≠ nb; omega)
          have hor := rfs_range n.kind p hp3 _ hdm
          have cx := (hnr.cell o).trans (n.cell_f o hor.1 hor.2.1)
          have HDM := Lib.hid hdm
          have HKR := Lib.hid hKr
          have HNR := Lib.hid hnr
          have HOR := Lib.hid hor
          clear hdm hdc hKr hnr hor
          go_upto_region 8 with (fail)
          have hb0 := heap_alloc_new wr (.cells #[.pointer (some ⟨nb, o, none⟩), .float .f64 lo, .float .f64 hi, .bool has] 45)
          have hKa := HKR.out.ext (by have := HKR.out.size; omega) ((Below.refl _ wr).alloc (Nat.le_refl _) (.cells #[.pointer (some ⟨nb, o, none⟩), .float .f64 lo, .float .f64 hi, .bool has] 45))
          have hna := HNR.out.alloc (.cells #[.pointer (some ⟨nb, o, none⟩), .float .f64 lo, .float .f64 hi, .bool has] 45)
          have hcx : (wr.alloc (.cells #[.pointer (some ⟨nb, o, none⟩), .float .f64 lo, .float .f64 hi, .bool has] 45)).cell? ⟨nb, o, none⟩ = some (.float .f64 (n.f o)) := (hna.cell o).trans (n.cell_f o HOR.out.1 HOR.out.2.1)
          obtain ⟨W8, hW8⟩ : ∃ W8, W8 = wr.alloc (.cells #[.pointer (some ⟨nb, o, none⟩), .float .f64 lo, .float .f64 hi, .bool has] 45) := ⟨_, rfl⟩
          have hz8 : W8.heap.size = wr.heap.size + 1 := by rw [hW8]; simp
          rw [← hW8] at hb0 hKa hna hcx ⊢
          obtain ⟨fb, hfb⟩ : ∃ fb, fb = wr.heap.size := ⟨_, rfl⟩
          rw [← hfb] at hb0 ⊢
          have hfz : fb < W8.heap.size := by omega
          have hfn : nb < fb := by have := HKR.out.size; omega
          clear hW8 hfb hz8 x0 x1 x2 x3 cx HKR HNR
          have y0 : W8.cell? ⟨fb, 0, none⟩ = some (.pointer (some ⟨nb, o, none⟩)) := (cell_of_row W8 fb 0 _ _ _ hb0).trans rfl
          have y1 : ∀ u : Ext W8, u.1.cell? ⟨fb, 1, none⟩ = some (.float .f64 lo) := fun u => ext_cell ((cell_of_row W8 fb 1 _ _ _ hb0).trans rfl) u
          have y2 : ∀ u : Ext W8, u.1.cell? ⟨fb, 2, none⟩ = some (.float .f64 hi) := fun u => ext_cell ((cell_of_row W8 fb 2 _ _ _ hb0).trans rfl) u
          have HB0 := Lib.hid hb0
          have HKA := Lib.hid hKa
          have HNA := Lib.hid hna
          clear hb0 hKa hna
          go_upto_region 9 with (fail)
          clear y0 hcx
          have cd : ∀ u : Ext W8, Calls Tryz.prog 16 #[.float .f64 lo, .float .f64 13844628204490326016] u.1 fun e w' => e = .returned (.float .f64 (downF lo)) ∧ w' = u.1 := fun u => next_down (lo, hi) HOR.out.2.2 u.1
          have cu : ∀ u : Ext W8, Calls Tryz.prog 16 #[.float .f64 hi, .float .f64 4636666922610458624] u.1 fun e w' => e = .returned (.float .f64 (upF hi)) ∧ w' = u.1 := fun u => next_up (lo, hi) HOR.out.2.2 u.1
          go_cut [115, 116, 114] from 96 to 117 (fun s115 s116 s114 wx => ∃ vb, fb < vb ∧ vb < wx.heap.size ∧ s114 = .slice (some ⟨vb, 0, none⟩) 7 7 ∧ s115 = .int .i64 7 ∧ s116 = .int .i64 0 ∧ wx.heap[vb]? = some (.cells ((rvs lo hi).map (Value.float .f64)).toArray 22 (0, 0)) ∧ Below W8.heap.size W8 wx)
          case first =>
            refine region_calls (C := fun w' => ∃ u : Ext W8, w' = u.1) [0, 1, 2, 3, 4, 5, 6, 7, 8, 9, 10, 11, 13, 14, 20] 6 (by kernel_rfl) (by kernel_rfl) (ext_self W8) ?_
            simp only [List.filterMap_cons, List.filterMap_nil, List.getElem?_cons_zero, List.getElem?_cons_succ]
            change wpQuiet _ _ _ _ (_ :: _ :: _ :: _ :: _ :: _ :: _ :: _ :: _ :: _ :: _ :: _ :: _ :: _ :: _ :: []) _
            repeat go_big_quiet_step (fail)
            refine quiet_val rfl (.float .f64 (sumF lo)) (fun w => exec_bin .add 22 22 (.tmp 101) (.tmp 103) rfl _ (.float .f64 lo) (.float .f64 hi) _ rfl rfl w rfl (sum_run lo hi HOR.out.2.2 w)) ?_
            simp only [Act.put, List.setIfInBounds_toArray, List.set_cons_succ, List.set_cons_zero]
            refine quiet_val rfl (.float .f64 (midF lo hi)) (fun w => exec_bin .quo 22 22 (.tmp 104) (.const (.float .f64 4611686018427387904)) rfl _ (.float .f64 (sumF lo)) (.float .f64 4611686018427387904) _ rfl rfl w rfl (mid_run lo hi HOR.out.2.2 w)) ?_
            simp only [Act.put, List.setIfInBounds_toArray, List.set_cons_succ, List.set_cons_zero]
            repeat go_big_quiet_step (fail)
            refine wpQuiet_nil ?_
            have hx8 : Below W8.heap.size W8 W8.drew := (Below.refl _ _).drew
            obtain ⟨X, hX⟩ : ∃ X, X = W8.drew := ⟨_, rfl⟩
            rw [← hX] at hx8 ⊢
            clear hX
            have hxz := hx8.size
            have hxa := hx8.alloc hxz (.cells ((rvs lo hi).map (Value.float .f64)).toArray 22)
            have hxn := heap_alloc_new X (.cells ((rvs lo hi).map (Value.float .f64)).toArray 22)
            have hxs : X.heap.size < (X.alloc (.cells ((rvs lo hi).map (Value.float .f64)).toArray 22)).heap.size := by simp
            refine anyH_one 12 _ (by kernel_rfl) rfl rfl ?_
            refine goUp_call 16 #[.float .f64 lo, .float .f64 13844628204490326016] (.float .f64 (downF lo)) X (exec_call2 _ (.tmp 107) (.const (.float .f64 13844628204490326016)) #[22, 22] rfl _ (.float .f64 lo) (.float .f64 13844628204490326016) rfl rfl _ (enter_next _ _)) (next_down (lo, hi) HOR.out.2.2 X) ⟨⟨X, hx8⟩, rfl⟩ ?_
            change anyH _ _ _ _ _ _ _ (Act.put _ (some 108) _) _
            simp only [Act.put, List.setIfInBounds_toArray, List.set_cons_succ, List.set_cons_zero]
            refine anyH_one 15 _ (by kernel_rfl) rfl rfl ?_
            refine goUp_call 16 #[.float .f64 hi, .float .f64 4636666922610458624] (.float .f64 (upF hi)) X (exec_call2 _ (.tmp 110) (.const (.float .f64 4636666922610458624)) #[22, 22] rfl _ (.float .f64 hi) (.float .f64 4636666922610458624) rfl rfl _ (enter_next _ _)) (next_up (lo, hi) HOR.out.2.2 X) ⟨⟨X, hx8⟩, rfl⟩ ?_
            change anyH _ _ _ _ _ _ _ (Act.put _ (some 111) _) _
            simp only [Act.put, List.setIfInBounds_toArray, List.set_cons_succ, List.set_cons_zero]
            refine anyH_one 16 _ (by kernel_rfl) rfl rfl ?_
            refine goUp_call 17 #[] (.float .f64 9221120237041090561) X (exec_call0 _ #[] rfl _ _ (enter_nan _ _)) (nan_any X) ⟨⟨X, hx8⟩, rfl⟩ ?_
            change anyH _ _ _ _ _ _ _ (Act.put _ (some 112) _) _
            simp only [Act.put, List.setIfInBounds_toArray, List.set_cons_succ, List.set_cons_zero]
            refine anyH_one 17 _ (by kernel_rfl) rfl rfl ?_
            refine goUp_call 18 #[.float .f64 0, .float .f64 13830554455654793216] (.float .f64 9223372036854775808) X (exec_call2 _ (.const (.float .f64 0)) (.const (.float .f64 13830554455654793216)) #[22, 22] rfl _ (.float .f64 0) (.float .f64 13830554455654793216) rfl rfl _ (enter_copy _ _)) (negz_any X) ⟨⟨X, hx8⟩, rfl⟩ ?_
            change anyH _ _ _ _ _ _ _ (Act.put _ (some 113) _) _
            simp only [Act.put, List.setIfInBounds_toArray, List.set_cons_succ, List.set_cons_zero]
            refine anyH_one 18 _ (by kernel_rfl) rfl rfl ?_
            refine goUp_val (.slice (some ⟨X.heap.size, 0, none⟩) 7 7) (X.alloc (.cells ((rvs lo hi).map (Value.float .f64)).toArray 22)) (by kernel_rfl) ⟨⟨_, hxa⟩, rfl⟩ ?_
            change anyH _ _ _ _ _ _ _ (Act.put _ (some 114) _) _
            simp only [Act.put, List.setIfInBounds_toArray, List.set_cons_succ, List.set_cons_zero]
            refine anyH_one 19 _ (by kernel_rfl) rfl rfl ?_
            refine goUp_val (.int .i64 7) _ (exec_len7 (.tmp 114) rfl _ _ rfl _) ⟨⟨_, hxa⟩, rfl⟩ ?_
            change anyH _ _ _ _ _ _ _ (Act.put _ (some 115) _) _
            simp only [Act.put, List.setIfInBounds_toArray, List.set_cons_succ, List.set_cons_zero]
            refine anyH_end (by kernel_rfl) ?_
            simp only [Exit.then]
            go_wp2_with fail
            go_meet
            exact ⟨X.heap.size, by omega, hxs, rfl, rfl, rfl, hxn, hxa⟩
          case rest =>
            obtain ⟨vb, hvf, hvs, rfl, rfl, rfl, hvr, hBv⟩ := hcut
            obtain ⟨wm, hwm⟩ : ∃ wm, wm = wc := ⟨_, rfl⟩
            subst hwm
            have hKv := HKA.out.ext (by have := HKA.out.size; omega) hBv
            have hnv : NBlk wm nb n := (hBv.block nb (by omega)).trans HNA.out
            have hfv := (hBv.block fb hfz).trans HB0.out
            have hKm : Kp w.heap.size w wm nb wm := ⟨hKv.low, Nat.le_refl _, fun _ _ _ => rfl⟩
            have hzv := hBv.size
            have HKV := Lib.hid hKv
            have HNV := Lib.hid hnv
            have HFV := Lib.hid hfv
            have HVR := Lib.hid hvr
            have HKM := Lib.hid hKm
            clear hBv hKv hnv hfv hvr hKm HKA HNA HB0 cd cu y1 y2
            go_wp2_with fail
            go_loopw [116] (fun i wt => ∃ (j : Nat) (x : Nat), j ≤ 7 ∧ i = .int .i64 j ∧ Kp w.heap.size w wm nb wt ∧ NBlk wt nb (Nd.put n o x)) (fun i _ => 7 - (intOf i).toNat)
            case atStart => exact ⟨0, n.f o, by omega, rfl, HKM.out, by rw [put_self n hn.1 o HOR.out.1 HOR.out.2.1]; exact HNV.out⟩
            case round =>
              obtain ⟨j, y, hj, rfl, hKt, hnt⟩ := hrel
              by_cases hj7 : j < 7
              · have hj0 : (0 : Int) ≤ (j : Int) := by omega
                have hj7' : (j : Int) < 7 := by omega
                obtain ⟨x, hxm, hxc⟩ : ∃ x, x ∈ rvs lo hi ∧ (rvs lo hi)[j]? = some x := ⟨_, List.getElem_mem (show j < (rvs lo hi).length from hj7), List.getElem?_eq_getElem _⟩
                have x0 : wr.cell? ⟨vb, j, none⟩ = some (.float .f64 x) := hKt.cell ((cell_of_row wm vb j _ _ _ HVR.out).trans (by rw [List.getElem?_toArray, List.getElem?_map, hxc]; rfl)) (by show vb ≠ nb; omega)
                have x1 : wr.cell? ⟨fb, 0, none⟩ = some (.pointer (some ⟨nb, o, none⟩)) := hKt.cell ((cell_of_row wm fb 0 _ _ _ HFV.out).trans rfl) (by show fb ≠ nb; omega)
                have cx := (hnt.cell o).trans ((Nd.put n o y).cell_f o HOR.out.1 HOR.out.2.1)
                have fx := hnt.frozen o
                have hn2 : NBlk (wr.setCell ⟨nb, o, none⟩ (.float .f64 x)) nb (Nd.put n o x) := nblk_store hnt o (.float .f64 x) (by rw [← put_put n o y x]; exact nd_put_cells _ ((Nd.put_len n o y).trans hn.1) o x HOR.out.1 HOR.out.2.1)
                have hK2 := hKt.set hnw o (.float .f64 x)
                have HXM := Lib.hid hxm
                have HN2 := Lib.hid hn2
                have HK2 := Lib.hid hK2
                clear hxm hxc hn2 hK2 hKt hnt
                go_upto_region 13 with (fail)
                clear x0 x1 cx fx
                have hf2 : (wr.setCell ⟨nb, o, none⟩ (.float .f64 x)).heap[fb]? = _ := (HK2.out.blk fb (by omega) (by omega)).trans HFV.out
                obtain ⟨X, hX⟩ : ∃ X, X = wr.setCell ⟨nb, o, none⟩ (.float .f64 x) := ⟨_, rfl⟩
                rw [← hX] at HN2 HK2 hf2 ⊢
                clear hX
                have x1 : X.cell? ⟨fb, 1, none⟩ = some (.float .f64 lo) := (cell_of_row X fb 1 _ _ _ hf2).trans rfl
                have x2 : X.cell? ⟨fb, 2, none⟩ = some (.float .f64 hi) := (cell_of_row X fb 2 _ _ _ hf2).trans rfl
                have x3 : X.cell? ⟨fb, 3, none⟩ = some (.bool has) := (cell_of_row X fb 3 _ _ _ hf2).trans rfl
                clear hf2
                go_cut [13] from 124 to 161 (fun s13 wx => s13 = .bool (mayF has lo hi x) ∧ wx = X)
                case first =>
                  obtain ⟨b1, h1⟩ : ∃ b, geqF x lo = b := ⟨_, rfl⟩
                  obtain ⟨b2, h2⟩ : ∃ b, leqF x hi = b := ⟨_, rfl⟩
                  obtain ⟨b3, h3⟩ : ∃ b, eqF x 0 = b := ⟨_, rfl⟩
                  have hm : mayF has lo hi x = ((has && b1 && b2 && (!b3 || !negF x)) || (!has && b3 && !negF x)) := by rw [← h1, ← h2, ← h3]; rfl
                  have HM := Lib.hid hm
                  clear hm
                  cases has with
                  | false =>
                    clear h1 h2
                    cases b3 with
                    | false =>
                      go_wp2_with (first | (go_at_call 19; refine (signbit_any _ _).mono ?_; rintro e w' ⟨rfl, rfl⟩))
                      go_meet
                      exact ⟨by rw [HM.out]; simp, rfl⟩
                    | true =>
                      go_wp2_with (first | (go_at_call 19; refine (signbit_any _ _).mono ?_; rintro e w' ⟨rfl, rfl⟩))
                      go_meet
                      exact ⟨by rw [HM.out]; simp, rfl⟩
                  | true =>
                    cases b1 with
                    | false =>
                      go_wp2_with (first | (go_at_call 19; refine (signbit_any _ _).mono ?_; rintro e w' ⟨rfl, rfl⟩))
                      go_meet
                      exact ⟨by rw [HM.out]; simp, rfl⟩
                    | true =>
                      cases b2 with
                      | false =>
                        go_wp2_with (first | (go_at_call 19; refine (signbit_any _ _).mono ?_; rintro e w' ⟨rfl, rfl⟩))
                        go_meet
                        exact ⟨by rw [HM.out]; simp, rfl⟩
                      | true =>
                        cases b3 with
                        | false =>
                          go_wp2_with (first | (go_at_call 19; refine (signbit_any _ _).mono ?_; rintro e w' ⟨rfl, rfl⟩))
                          go_meet
                          exact ⟨by rw [HM.out]; simp, rfl⟩
                        | true =>
                          have hsb : ∀ u : World, Calls Tryz.prog 19 #[.float .f64 x] u fun e w' => e = .returned (.bool (negF x)) ∧ w' = u := fun u => signbit_any x u
                          obtain ⟨sg, hsg⟩ : ∃ sg, negF x = sg := ⟨_, rfl⟩
                          rw [hsg] at HM
                          simp only [hsg] at hsb
                          clear hsg
                          cases sg with
                          | false =>
                            go_wp2_with (first | (go_at_call 19; refine (hsb _).mono ?_; rintro e w' ⟨rfl, rfl⟩))
                            go_meet
                            exact ⟨by rw [HM.out]; simp, rfl⟩
                          | true =>
                            go_wp2_with (first | (go_at_call 19; refine (hsb _).mono ?_; rintro e w' ⟨rfl, rfl⟩))
                            go_meet
                            exact ⟨by rw [HM.out]; simp, rfl⟩
                case rest =>
                  obtain ⟨rfl, rfl⟩ := hcut
                  clear x1 x2 x3
                  have hlaw := range_law n hn.1 pl HQ.out p hp3 _ HDM.out x HXM.out
                  have hpo := put_ok n hn o x (rvs_lt lo hi x HOR.out.2.2 HXM.out)
                  have hnode : ∀ u : World, Calls Tryz.prog 11 #[(Nd.put n o x).val, .int .i64 pl] u fun e w' => e = .returned (.bool (mayF has lo hi x)) ∧ Below u.heap.size u w' := fun u => by
                    rw [← hlaw]; exact node_any _ hpo.2 hpo.1 pl u
                  clear hlaw hpo
                  obtain ⟨q, hq⟩ : ∃ q, mayF has lo hi x = q := ⟨_, rfl⟩
                  simp only [hq] at hnode ⊢
                  clear hq
                  go_wp2_with (first | (refine wpList_load_nd_g _ ?_ (.tmp 3) rfl nb rfl (Nd.put n o x) HN2.out ?_; rotate_right) | (go_at_call 11; refine (hnode _).mono ?_; rintro e wq2 ⟨rfl, hBq⟩))
                  go_roundw
                  case rel => exact ⟨j + 1, x, by omega, by go_num, HK2.out.ext (by omega) hBq, (hBq.block nb (by have := HK2.out.size; omega)).trans HN2.out⟩
                  case measure => simp [intOf]; omega
              · obtain rfl : j = 7 := by omega
                have x1 : wr.cell? ⟨fb, 0, none⟩ = some (.pointer (some ⟨nb, o, none⟩)) := hKt.cell ((cell_of_row wm fb 0 _ _ _ HFV.out).trans rfl) (by show fb ≠ nb; omega)
                have cx := (hnt.cell o).trans ((Nd.put n o y).cell_f o HOR.out.1 HOR.out.2.1)
                have fx := hnt.frozen o
                have hn2 : NBlk (wr.setCell ⟨nb, o, none⟩ (.float .f64 (n.f o))) nb n := nblk_store hnt o (.float .f64 (n.f o)) (by
                  have := nd_put_cells _ ((Nd.put_len n o y).trans hn.1) o (n.f o) HOR.out.1 HOR.out.2.1
                  rw [put_put, put_self n hn.1 o HOR.out.1 HOR.out.2.1] at this
                  exact this)
                have hK2 := kp_trans HKV.out (hKt.set hnw o (.float .f64 (n.f o)))
                have HN2 := Lib.hid hn2
                have HK2 := Lib.hid hK2
                clear hn2 hK2 hKt hnt
                go_wp2_with fail
                go_roundw
                case rel => exact ⟨k + 1, by omega, by go_num, HK2.out, HN2.out⟩
                case measure => simp [intOf]; omega
        · obtain rfl : k = 8 := by omega
          have hGr : Laid B wr := Laid.stable B w wr none HW.out (grown_below hKr.low none) (fun r e => by cases e)
          have hbr := hKr.low
          have hnr0 : nb < wr.heap.size := by have := hKr.size; omega
          have HGR := Lib.hid hGr
          have HBR := Lib.hid hbr
          have HNR := Lib.hid hnr
          clear hGr hbr hKr hnr hk
          go_upto_region 19 with (fail)
          go_cut [14, 15] from 172 to 174 (fun s6 s7 wx => ∃ b6 b7, s6 = .pointer (some ⟨b6, 0, none⟩) ∧ s7 = .pointer (some ⟨b7, 0, none⟩) ∧ b6 ≠ b7 ∧ wr.heap.size ≤ b6 ∧ wr.heap.size ≤ b7 ∧ NBlk wx b6 n ∧ NBlk wx b7 n ∧ Below wr.heap.size wr wx)
          case first =>
            refine region_reads (C := fun w' => ∃ u : Ext wr, w' = u.1) [0, 1] 4 (by kernel_rfl) (by kernel_rfl) (ext_self wr) ?_
            simp only [List.filterMap_cons, List.filterMap_nil, List.getElem?_cons_zero, List.getElem?_cons_succ]
            change wpQuiet _ _ _ _ (_ :: _ :: []) _
            refine quiet_load_nd rfl (.tmp 3) rfl nb rfl n (by rintro _ ⟨u, rfl⟩; exact (u.2.block nb hnr0).trans HNR.out) ?_
            simp only [Act.put, List.setIfInBounds_toArray, List.set_cons_succ, List.set_cons_zero]
            refine quiet_load_nd rfl (.tmp 3) rfl nb rfl n (by rintro _ ⟨u, rfl⟩; exact (u.2.block nb hnr0).trans HNR.out) ?_
            simp only [Act.put, List.setIfInBounds_toArray, List.set_cons_succ, List.set_cons_zero]
            refine wpQuiet_nil ?_
            obtain ⟨X, hX⟩ : ∃ X, X = wr.drew := ⟨_, rfl⟩
            have hbx : Below wr.heap.size wr X := by rw [hX]; exact (Below.refl _ _).drew
            rw [← hX]
            clear hX
            have hzx := hbx.size
            have a1 := hbx.alloc hzx (.cells zcells 25)
            have a2 := a1.alloc a1.size (.cells zcells 25)
            have n1 : ((X.alloc (.cells zcells 25)).alloc (.cells zcells 25)).heap[X.heap.size]? = some (.cells zcells 25 (0, 0)) := (Below.heap_alloc _ _ _ (by simp)).trans (heap_alloc_new _ _)
            have n2 : ((X.alloc (.cells zcells 25)).alloc (.cells zcells 25)).heap[X.heap.size + 1]? = some (.cells zcells 25 (0, 0)) := heap_alloc2_new _ _ _
            have b1 := below_setRow a2 hzx n.cells.toArray
            have b2 := below_setRow a2 (show wr.heap.size ≤ X.heap.size + 1 by omega) n.cells.toArray
            have c1' := below_setRow b1 (show wr.heap.size ≤ X.heap.size + 1 by omega) n.cells.toArray
            have c2' := below_setRow b2 hzx n.cells.toArray
            have m1 := setRow_heap _ X.heap.size zcells n.cells.toArray _ _ n1
            have m2 := setRow_heap _ (X.heap.size + 1) zcells n.cells.toArray _ _ n2
            have p2 : (((X.alloc (.cells zcells 25)).alloc (.cells zcells 25)).setRow X.heap.size n.cells.toArray).heap[X.heap.size + 1]? = some (.cells zcells 25 (0, 0)) := (setRow_other _ _ _ _ (by omega)).trans n2
            have p1 : (((X.alloc (.cells zcells 25)).alloc (.cells zcells 25)).setRow (X.heap.size + 1) n.cells.toArray).heap[X.heap.size]? = some (.cells zcells 25 (0, 0)) := (setRow_other _ _ _ _ (by omega)).trans n1
            have hsz : (X.alloc (.cells zcells 25)).heap.size = X.heap.size + 1 := by simp
            have q1 := setRow_heap _ (X.heap.size + 1) zcells n.cells.toArray _ _ p2
            have q2 := setRow_heap _ X.heap.size zcells n.cells.toArray _ _ p1
            have r1 := (setRow_other _ (X.heap.size + 1) X.heap.size n.cells.toArray (by omega)).trans m1
            have r2 := (setRow_other _ X.heap.size (X.heap.size + 1) n.cells.toArray (by omega)).trans m2
            refine anyG_two 2 3 _ _ (by kernel_rfl) rfl rfl rfl rfl ?_ ?_
            · refine goUpon_val _ _ (exec_alloc_nd rfl _ _) ⟨⟨_, a1⟩, rfl⟩ ?_
              change anyG _ _ _ _ _ _ _ (Act.put _ (some 14) _) _
              simp only [Act.put, List.setIfInBounds_toArray, List.set_cons_succ, List.set_cons_zero]
              refine anyG_one 3 _ (by kernel_rfl) rfl rfl ?_
              refine goUpon_val _ _ (exec_alloc_nd rfl _ _) ⟨⟨_, a2⟩, rfl⟩ ?_
              rw [hsz]
              change anyG _ _ _ _ _ _ _ (Act.put _ (some 15) _) _
              simp only [Act.put, List.setIfInBounds_toArray, List.set_cons_succ, List.set_cons_zero]
              refine anyG_one 4 _ (by kernel_rfl) rfl rfl ?_
              refine goUpon_skip _ (exec_store_nd (.tmp 14) (.tmp 172) rfl X.heap.size n rfl rfl zcells n1 rfl) ⟨⟨_, b1⟩, rfl⟩ ?_
              change anyG _ _ _ _ _ _ _ (Act.put _ none _) _
              simp only [Act.put]
              refine anyG_one 5 _ (by kernel_rfl) rfl rfl ?_
              refine goUpon_skip _ (exec_store_nd (.tmp 15) (.tmp 173) rfl (X.heap.size + 1) n rfl rfl zcells p2 rfl) ⟨⟨_, c1'⟩, rfl⟩ ?_
              change anyG _ _ _ _ _ _ _ (Act.put _ none _) _
              simp only [Act.put]
              refine anyG_end (by kernel_rfl) ?_
              simp only [Exit.then]
              go_wp2_with fail
              go_meet
              exact ⟨X.heap.size, X.heap.size + 1, rfl, rfl, by omega, by omega, by omega, r1, q1, c1'⟩
            · refine goUpon_val _ _ (exec_alloc_nd rfl _ _) ⟨⟨_, a1⟩, rfl⟩ ?_
              change anyG _ _ _ _ _ _ _ (Act.put _ (some 15) _) _
              simp only [Act.put, List.setIfInBounds_toArray, List.set_cons_succ, List.set_cons_zero]
              refine anyG_one 2 _ (by kernel_rfl) rfl rfl ?_
              refine goUpon_val _ _ (exec_alloc_nd rfl _ _) ⟨⟨_, a2⟩, rfl⟩ ?_
              rw [hsz]
              change anyG _ _ _ _ _ _ _ (Act.put _ (some 14) _) _
              simp only [Act.put, List.setIfInBounds_toArray, List.set_cons_succ, List.set_cons_zero]
              refine anyG_one 4 _ (by kernel_rfl) rfl rfl ?_
              refine goUpon_skip _ (exec_store_nd (.tmp 14) (.tmp 172) rfl (X.heap.size + 1) n rfl rfl zcells n2 rfl) ⟨⟨_, b2⟩, rfl⟩ ?_
              change anyG _ _ _ _ _ _ _ (Act.put _ none _) _
              simp only [Act.put]
              refine anyG_one 5 _ (by kernel_rfl) rfl rfl ?_
              refine goUpon_skip _ (exec_store_nd (.tmp 15) (.tmp 173) rfl X.heap.size n rfl rfl zcells p1 rfl) ⟨⟨_, c2'⟩, rfl⟩ ?_
              change anyG _ _ _ _ _ _ _ (Act.put _ none _) _
              simp only [Act.put]
              refine anyG_end (by kernel_rfl) ?_
              simp only [Exit.then]
              go_wp2_with fail
              go_meet
              exact ⟨X.heap.size + 1, X.heap.size, rfl, rfl, by omega, by omega, by omega, r2, q2, c2'⟩
          case rest =>
            obtain ⟨b6, b7, rfl, rfl, hne, hb6, hb7, h6, h7, hBc⟩ := hcut
            have x6 : wc.cell? ⟨b6, 17, none⟩ = some (.int .i64 n.a) := (h6.cell 17).trans rfl
            have f6 := h6.frozen 17
            have g6 : NBlk (wc.setCell ⟨b6, 17, none⟩ (.int .i64 pl)) b6 { n with a := pl } := nblk_store h6 17 (.int .i64 pl) rfl
            have g7 : NBlk (wc.setCell ⟨b6, 17, none⟩ (.int .i64 pl)) b7 n := (Below.heap_setCell wc ⟨b6, 17, none⟩ (.int .i64 pl) b7 (by show b7 ≠ b6; omega)).trans h7
            have x7 : (wc.setCell ⟨b6, 17, none⟩ (.int .i64 pl)).cell? ⟨b7, 18, none⟩ = some (.int .i64 n.b) := (g7.cell 18).trans rfl
            have f7 := g7.frozen 18
            have k7 : NBlk ((wc.setCell ⟨b6, 17, none⟩ (.int .i64 pl)).setCell ⟨b7, 18, none⟩ (.int .i64 (-1))) b7 { n with b := -1 } := nblk_store g7 18 (.int .i64 (-1)) rfl
            have k6 : NBlk ((wc.setCell ⟨b6, 17, none⟩ (.int .i64 pl)).setCell ⟨b7, 18, none⟩ (.int .i64 (-1))) b6 { n with a := pl } := (Below.heap_setCell _ ⟨b7, 18, none⟩ (.int .i64 (-1)) b6 (by show b6 ≠ b7; omega)).trans g6
            have hBs := (hBc.setCell (p := ⟨b6, 17, none⟩) hb6 (.int .i64 pl)).setCell (p := ⟨b7, 18, none⟩) hb7 (.int .i64 (-1))
            have K6 := Lib.hid k6
            have K7 := Lib.hid k7
            have HBS := Lib.hid hBs
            clear g6 g7 k6 k7 hBs h6 h7 hBc
            go_upto_region 21 with (fail)
            clear x6 f6 x7 f7
            obtain ⟨Y, hY⟩ : ∃ Y, Y = (wc.setCell ⟨b6, 17, none⟩ (.int .i64 pl)).setCell ⟨b7, 18, none⟩ (.int .i64 (-1)) := ⟨_, rfl⟩
            rw [← hY] at K6 K7 HBS ⊢
            clear hY
            have hzY := HBS.out.size
            have hGY : Laid B Y := Laid.stable B wr Y none HGR.out (grown_below HBS.out none) (fun r e => by cases e)
            have hnY : NBlk Y nb n := (HBS.out.block nb hnr0).trans HNR.out
            have HNY := Lib.hid hnY
            have HGY := Lib.hid hGY
            have hk0 : ∀ u : Ext Y, u.1.cell? ⟨nb, 0, none⟩ = some (.int .u8 n.kind) := fun u => ext_cell ((hnY.cell 0).trans rfl) u
            clear hnY hGY
            obtain ⟨n6, hn6⟩ : ∃ n6 : Nd, n6 = { n with a := pl } := ⟨_, rfl⟩
            obtain ⟨n7, hn7⟩ : ∃ n7 : Nd, n7 = { n with b := -1 } := ⟨_, rfl⟩
            have ca : ∀ u : World, Calls Tryz.prog 11 #[n6.val, .int .i64 pl] u fun e w' => e = .returned (.bool (decide (n.kind < 5) && decide (pl = 0))) ∧ Below u.heap.size u w' := fun u => by
              rw [← ranges_last_a n hn.1 pl HQ.out, hn6]; exact node_any { n with a := pl } hn.2 hn.1 pl u
            have cb : ∀ u : World, Calls Tryz.prog 11 #[n7.val, .int .i64 pl] u fun e w' => e = .returned (.bool false) ∧ Below u.heap.size u w' := fun u => by
              rw [← ranges_last_b n hn.1 pl, hn7]; exact node_any { n with b := -1 } hn.2 hn.1 pl u
            have k6 : NBlk Y b6 n6 := by rw [hn6]; exact K6.out
            have k7 : NBlk Y b7 n7 := by rw [hn7]; exact K7.out
            have K6 := Lib.hid k6
            have K7 := Lib.hid k7
            clear hn6 hn7 k6 k7
            have cn : ∀ u : World, Calls Tryz.prog 11 #[n.val, .int .i64 pl] u fun e w' => e = .returned (.bool true) ∧ Below u.heap.size u w' := fun u => by
              rw [← HQ.out]; exact node_any n hn.2 hn.1 pl u
            have cw : ∀ u : Ext Y, Calls Tryz.prog 8 #[] u.1 fun e w' => e = .returned (.bool true) ∧ Below u.1.heap.size u.1 w' := fun u => awake18 B u.1 (Laid.stable B Y u.1 none HGY.out (grown_below u.2 none) (fun r e => by cases e)) (by have := u.2.size; have := HBR.out.size; omega)
            by_cases h5 : (n.kind : Int) < 5
            · have e5 : decide (n.kind < 5) = true := decide_eq_true (by omega)
              by_cases h0 : pl = 0
              · have e0 : decide (pl = 0) = true := decide_eq_true h0
                have e0' : (pl == 0) = true := by rw [h0]; rfl
                clear h0
                simp only [e5, e0, Bool.and_self] at ca
                refine region_ext (by kernel_rfl) (by kernel_rfl) ?_
                refine quiet_load_nd rfl (.tmp 14) rfl b6 rfl n6 (by rintro _ ⟨u, rfl⟩; exact (u.2.block b6 (Array.getElem?_eq_some_iff.1 K6.out).1).trans K6.out) ?_
                simp only [Act.put, List.setIfInBounds_toArray, List.set_cons_succ, List.set_cons_zero]
                repeat go_big_quiet_step (exact ext_call _ (ca _))
                refine quiet_load_nd_g rfl (.tmp 15) rfl b7 rfl n7 (by rintro _ ⟨u, rfl⟩; exact (u.2.block b7 (Array.getElem?_eq_some_iff.1 K7.out).1).trans K7.out) ?_
                simp only [Act.put, List.setIfInBounds_toArray, List.set_cons_succ, List.set_cons_zero]
                repeat go_big_quiet_step (exact ext_call _ (cb _))
                refine quiet_load_nd_g rfl (.tmp 3) rfl nb rfl n (by rintro _ ⟨u, rfl⟩; exact (u.2.block nb (Array.getElem?_eq_some_iff.1 HNY.out).1).trans HNY.out) ?_
                simp only [Act.put, List.setIfInBounds_toArray, List.set_cons_succ, List.set_cons_zero]
                repeat go_big_quiet_step (first | exact ext_call _ (cn _) | exact ext_call _ (cw _))
                refine wpQuiet_nil ?_
                intro u
                have hu := u.2
                obtain ⟨Z, hZ⟩ : ∃ Z, Z = u.1 := ⟨_, rfl⟩
                rw [← hZ] at hu ⊢
                clear hZ
                go_wp2_with fail
                go_ret
                exact ⟨rfl, HBR.out.trans ((HBS.out.trans (hu.mono hzY)).mono HBR.out.size)⟩
              · have e0 : decide (pl = 0) = false := decide_eq_false h0
                have e0' : (pl == 0) = false := beq_eq_false_iff_ne.2 h0
                clear h0
                simp only [e5, e0, Bool.and_false] at ca
                refine region_ext (by kernel_rfl) (by kernel_rfl) ?_
                refine quiet_load_nd rfl (.tmp 14) rfl b6 rfl n6 (by rintro _ ⟨u, rfl⟩; exact (u.2.block b6 (Array.getElem?_eq_some_iff.1 K6.out).1).trans K6.out) ?_
                simp only [Act.put, List.setIfInBounds_toArray, List.set_cons_succ, List.set_cons_zero]
                repeat go_big_quiet_step (exact ext_call _ (ca _))
                refine quiet_load_nd_g rfl (.tmp 15) rfl b7 rfl n7 (by rintro _ ⟨u, rfl⟩; exact (u.2.block b7 (Array.getElem?_eq_some_iff.1 K7.out).1).trans K7.out) ?_
                simp only [Act.put, List.setIfInBounds_toArray, List.set_cons_succ, List.set_cons_zero]
                repeat go_big_quiet_step (exact ext_call _ (cb _))
                refine quiet_load_nd_g rfl (.tmp 3) rfl nb rfl n (by rintro _ ⟨u, rfl⟩; exact (u.2.block nb (Array.getElem?_eq_some_iff.1 HNY.out).1).trans HNY.out) ?_
                simp only [Act.put, List.setIfInBounds_toArray, List.set_cons_succ, List.set_cons_zero]
                repeat go_big_quiet_step (first | exact ext_call _ (cn _) | exact ext_call _ (cw _))
                refine wpQuiet_nil ?_
                intro u
                have hu := u.2
                obtain ⟨Z, hZ⟩ : ∃ Z, Z = u.1 := ⟨_, rfl⟩
                rw [← hZ] at hu ⊢
                clear hZ
                go_wp2_with fail
                go_ret
                exact ⟨rfl, HBR.out.trans ((HBS.out.trans (hu.mono hzY)).mono HBR.out.size)⟩
            · have e5 : decide (n.kind < 5) = false := decide_eq_false (by omega)
              simp only [e5, Bool.false_and] at ca
              refine region_ext (by kernel_rfl) (by kernel_rfl) ?_
              refine quiet_load_nd rfl (.tmp 14) rfl b6 rfl n6 (by rintro _ ⟨u, rfl⟩; exact (u.2.block b6 (Array.getElem?_eq_some_iff.1 K6.out).1).trans K6.out) ?_
              simp only [Act.put, List.setIfInBounds_toArray, List.set_cons_succ, List.set_cons_zero]
              repeat go_big_quiet_step (exact ext_call _ (ca _))
              refine quiet_load_nd_g rfl (.tmp 15) rfl b7 rfl n7 (by rintro _ ⟨u, rfl⟩; exact (u.2.block b7 (Array.getElem?_eq_some_iff.1 K7.out).1).trans K7.out) ?_
              simp only [Act.put, List.setIfInBounds_toArray, List.set_cons_succ, List.set_cons_zero]
              repeat go_big_quiet_step (exact ext_call _ (cb _))
              refine quiet_load_nd_g rfl (.tmp 3) rfl nb rfl n (by rintro _ ⟨u, rfl⟩; exact (u.2.block nb (Array.getElem?_eq_some_iff.1 HNY.out).1).trans HNY.out) ?_
              simp only [Act.put, List.setIfInBounds_toArray, List.set_cons_succ, List.set_cons_zero]
              repeat go_big_quiet_step (first | exact ext_call _ (cn _) | exact ext_call _ (cw _))
              refine wpQuiet_nil ?_
              intro u
              have hu := u.2
              obtain ⟨Z, hZ⟩ : ∃ Z, Z = u.1 := ⟨_, rfl⟩
              rw [← hZ] at hu ⊢
              clear hZ
              go_wp2_with fail
              go_ret
              exact ⟨rfl, HBR.out.trans ((HBS.out.trans (hu.mono hzY)).mono HBR.out.size)⟩
end Go.Proofs.YtgblgolkajdfbaaGreatDoor.chkw
