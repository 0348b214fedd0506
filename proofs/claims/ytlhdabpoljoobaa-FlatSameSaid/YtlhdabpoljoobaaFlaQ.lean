/- What '==' says of two nodes whose numbers are right ones. No conditions but those stated. -/
import Derived.Test.YtlhdabpoljoobaaFlaE
import Derived.Laws.StructEq
import Derived.ChangeKeysEq
namespace Go.Proofs.Ytlhdabpoljoobaa.flatm
open Go.RowKit
open Go.Proofs.Ytlhdabpoljoobaa.nodew

theorem hsNode : Try.prog.stoodInHeld 37 = false := by kernel_rfl
theorem guardNode : Try.prog.eqGuardType Try.prog.depth 37 = false := by kernel_rfl
theorem eq_float (d : Nat) (x y : Nat) (w : World) : (Op.equalIn (d + 1) 34 (.float .f64 x) (.float .f64 y)).run Try.prog w = .ok (fo x y == some .eq) w := by
  simp only [Op.equalIn, Sem.run_bind, run_underlying Try.underlying34, Result.andThen_ok, if_true, Sem.run_pure]
  rfl
theorem agg_f64 (w : World) : (isAgg 34).run Try.prog w = .ok false w := by kernel_rfl
theorem agg_int (w : World) : (isAgg 3).run Try.prog w = .ok false w := by kernel_rfl
theorem agg_u8 (w : World) : (isAgg 5).run Try.prog w = .ok false w := by kernel_rfl
theorem agg_arr (w : World) : (isAgg 35).run Try.prog w = .ok true w := by kernel_rfl
theorem size_arr (w : World) : (sizeOf 35).run Try.prog w = .ok 3 w := by kernel_rfl
def eq3 (a b c x y z : Nat) : Bool := (fo a x == some .eq) && ((fo b y == some .eq) && (fo c z == some .eq))
theorem eq_arr (d : Nat) (a b c x y z : Nat) (w : World) : (Op.equalIn (d + 2) 35 (.agg #[.float .f64 a, .float .f64 b, .float .f64 c]) (.agg #[.float .f64 x, .float .f64 y, .float .f64 z])).run Try.prog w = .ok (eq3 a b c x y z) w := by
  obtain ⟨i, hi⟩ : ∃ i, Try.prog.info? 34 = some i := Option.isSome_iff_exists.1 (by kernel_rfl)
  rw [run_equalIn_array w (d + 1) _ _ Try.underlying35 hi]
  have hc : Try.prog.cellsOf 34 = 1 := by kernel_rfl
  rw [hc]
  show (Op.eqItems (d + 1) _ 1 _ _ [0, 1, 2]).run _ _ = _
  have hp : ∀ (cs : Array Value) (k : Nat) (v : Value) (u : World), cs[k]? = some v → (part 34 cs k).run Try.prog u = .ok v u := fun cs k v u h => by
    simp [part, Sem.run_bind, agg_f64, Result.andThen_ok, h]
  unfold eq3
  simp only [Op.eqItems, Sem.run_bind]
  rw [hp _ (0 * 1) (.float .f64 a) w rfl]
  simp only [Result.andThen_ok]
  rw [hp _ (0 * 1) (.float .f64 x) w rfl]
  simp only [Result.andThen_ok, eq_float]
  cases fo a x == some .eq
  · rfl
  · simp only [Bool.not_true, Bool.false_eq_true, if_false, Bool.true_and]
    simp only [Sem.run_bind]
    rw [hp _ (1 * 1) (.float .f64 b) w rfl]
    simp only [Result.andThen_ok]
    rw [hp _ (1 * 1) (.float .f64 y) w rfl]
    simp only [Result.andThen_ok, eq_float]
    cases fo b y == some .eq
    · rfl
    · simp only [Bool.not_true, Bool.false_eq_true, if_false, Bool.true_and]
      simp only [Sem.run_bind]
      rw [hp _ (2 * 1) (.float .f64 c) w rfl]
      simp only [Result.andThen_ok]
      rw [hp _ (2 * 1) (.float .f64 z) w rfl]
      simp only [Result.andThen_ok, eq_float]
      cases fo c z == some .eq <;> rfl

theorem field_step (d : Nat) (xs ys : Array Value) (f : Field) (fs : List Field) (a b : Value) (r q : Bool) (w : World) (hn : f.name ≠ "_") (ha : (part f.type xs f.offset).run Try.prog w = .ok a w) (hb : (part f.type ys f.offset).run Try.prog w = .ok b w)
    (hr : (Op.equalIn d f.type a b).run Try.prog w = .ok r w) (hq : (Op.eqFields d xs ys fs).run Try.prog w = .ok q w) : (Op.eqFields d xs ys (f :: fs)).run Try.prog w = .ok (r && q) w := by
  simp only [Op.eqFields, Sem.run_bind, Sem.run_ite, if_pos hn, ha, hb, hr, Result.andThen_ok]
  cases r
  · simp
  · simp [hq]
theorem part_cell (t : TypeId) (ht : ∀ w, (isAgg t).run Try.prog w = .ok false w) (cs : Array Value) (k : Nat) (v : Value) (w : World) (h : cs[k]? = some v) : (part t cs k).run Try.prog w = .ok v w := by
  simp [part, Sem.run_bind, ht, h]
theorem part_arr (cs : Array Value) (k : Nat) (v : Array Value) (w : World) (h : cs.extract k (k + 3) = v) : (part 35 cs k).run Try.prog w = .ok (.agg v) w := by
  simp [part, Sem.run_bind, agg_arr, size_arr, h]
theorem eq_int (d : Nat) (x y : Int) (w : World) : (Op.equalIn (d + 1) 3 (.int .i64 x) (.int .i64 y)).run Try.prog w = .ok (x == y) w := run_equalIn_int w d _ _ _ _ _ Try.underlying3
theorem eq_u8 (d : Nat) (x y : Int) (w : World) : (Op.equalIn (d + 1) 5 (.int .u8 x) (.int .u8 y)).run Try.prog w = .ok (x == y) w := run_equalIn_int w d _ _ _ _ _ Try.underlying5
def eqN (n m : Nd) : Bool :=
  ((n.kind : Int) == (m.kind : Int)) && (eq3 (n.f 1) (n.f 2) (n.f 3) (m.f 1) (m.f 2) (m.f 3) && (eq3 (n.f 4) (n.f 5) (n.f 6) (m.f 4) (m.f 5) (m.f 6) && (eq3 (n.f 7) (n.f 8) (n.f 9) (m.f 7) (m.f 8) (m.f 9) && (eq3 (n.f 10) (n.f 11) (n.f 12) (m.f 10) (m.f 11) (m.f 12) &&
    ((fo (n.f 13) (m.f 13) == some .eq) && ((fo (n.f 14) (m.f 14) == some .eq) && ((fo (n.f 15) (m.f 15) == some .eq) && ((fo (n.f 16) (m.f 16) == some .eq) && ((n.a == m.a) && ((n.b == m.b) && true))))))))))
theorem eq_node (n m : Nd) (w : World) : (Op.equalIn 10000 37 n.val m.val).run Try.prog w = .ok (eqN n m) w := by
  show (Op.equalIn (9999 + 1) _ (.agg n.cells.toArray) (.agg m.cells.toArray)).run _ _ = _
  rw [run_equalIn_struct w 9999 _ _ _ (by unfold Program.fieldsOf; rw [Try.underlying37]) hsNode]
  unfold Program.fieldsOf
  rw [Try.underlying37]
  unfold eqN
  refine field_step 9999 _ _ _ _ (.int .u8 n.kind) (.int .u8 m.kind) _ _ w (by decide) (part_cell _ agg_u8 _ _ _ w rfl) (part_cell _ agg_u8 _ _ _ w rfl) (eq_u8 9998 _ _ w) ?_
  refine field_step 9999 _ _ _ _ (.agg #[.float .f64 (n.f 1), .float .f64 (n.f 2), .float .f64 (n.f 3)]) (.agg #[.float .f64 (m.f 1), .float .f64 (m.f 2), .float .f64 (m.f 3)]) _ _ w (by decide) (part_arr _ _ _ w rfl) (part_arr _ _ _ w rfl) (eq_arr 9997 _ _ _ _ _ _ w) ?_
  refine field_step 9999 _ _ _ _ (.agg #[.float .f64 (n.f 4), .float .f64 (n.f 5), .float .f64 (n.f 6)]) (.agg #[.float .f64 (m.f 4), .float .f64 (m.f 5), .float .f64 (m.f 6)]) _ _ w (by decide) (part_arr _ _ _ w rfl) (part_arr _ _ _ w rfl) (eq_arr 9997 _ _ _ _ _ _ w) ?_
  refine field_step 9999 _ _ _ _ (.agg #[.float .f64 (n.f 7), .float .f64 (n.f 8), .float .f64 (n.f 9)]) (.agg #[.float .f64 (m.f 7), .float .f64 (m.f 8), .float .f64 (m.f 9)]) _ _ w (by decide) (part_arr _ _ _ w rfl) (part_arr _ _ _ w rfl) (eq_arr 9997 _ _ _ _ _ _ w) ?_
  refine field_step 9999 _ _ _ _ (.agg #[.float .f64 (n.f 10), .float .f64 (n.f 11), .float .f64 (n.f 12)]) (.agg #[.float .f64 (m.f 10), .float .f64 (m.f 11), .float .f64 (m.f 12)]) _ _ w (by decide) (part_arr _ _ _ w rfl) (part_arr _ _ _ w rfl) (eq_arr 9997 _ _ _ _ _ _ w) ?_
  refine field_step 9999 _ _ _ _ (.float .f64 (n.f 13)) (.float .f64 (m.f 13)) _ _ w (by decide) (part_cell _ agg_f64 _ _ _ w rfl) (part_cell _ agg_f64 _ _ _ w rfl) (eq_float 9998 _ _ w) ?_
  refine field_step 9999 _ _ _ _ (.float .f64 (n.f 14)) (.float .f64 (m.f 14)) _ _ w (by decide) (part_cell _ agg_f64 _ _ _ w rfl) (part_cell _ agg_f64 _ _ _ w rfl) (eq_float 9998 _ _ w) ?_
  refine field_step 9999 _ _ _ _ (.float .f64 (n.f 15)) (.float .f64 (m.f 15)) _ _ w (by decide) (part_cell _ agg_f64 _ _ _ w rfl) (part_cell _ agg_f64 _ _ _ w rfl) (eq_float 9998 _ _ w) ?_
  refine field_step 9999 _ _ _ _ (.float .f64 (n.f 16)) (.float .f64 (m.f 16)) _ _ w (by decide) (part_cell _ agg_f64 _ _ _ w rfl) (part_cell _ agg_f64 _ _ _ w rfl) (eq_float 9998 _ _ w) ?_
  refine field_step 9999 _ _ _ _ (.int .i64 n.a) (.int .i64 m.a) _ _ w (by decide) (part_cell _ agg_int _ _ _ w rfl) (part_cell _ agg_int _ _ _ w rfl) (eq_int 9998 _ _ w) ?_
  refine field_step 9999 _ _ _ _ (.int .i64 n.b) (.int .i64 m.b) _ _ w (by decide) (part_cell _ agg_int _ _ _ w rfl) (part_cell _ agg_int _ _ _ w rfl) (eq_int 9998 _ _ w) ?_
  rfl
/-- a node whose numbers are right ones -/
def Nd.rt (n : Nd) : Prop := n.x.length = 16 ∧ ∀ v ∈ n.x, v < 18446744073709551616 ∧ rightF v = true
theorem rt_f {n : Nd} (h : Nd.rt n) (j : Nat) (h1 : 1 ≤ j) (h2 : j ≤ 16) : n.f j < 18446744073709551616 ∧ rightF (n.f j) = true := by
  unfold Nd.f
  rw [List.getD_eq_getElem?_getD, List.getElem?_eq_getElem (by rw [h.1]; omega)]
  exact h.2 _ (List.getElem_mem _)
theorem nd_ext {n m : Nd} (hn : n.x.length = 16) (hm : m.x.length = 16) (hk : n.kind = m.kind) (ha : n.a = m.a) (hb : n.b = m.b) (hf : ∀ j, 1 ≤ j → j ≤ 16 → n.f j = m.f j) : n = m := by
  obtain ⟨k, x, a, b⟩ := n
  obtain ⟨k', x', a', b'⟩ := m
  simp only at hn hm hk ha hb
  subst hk ha hb
  congr 1
  apply List.ext_getElem (hn.trans hm.symm)
  intro i h1 h2
  have := hf (i + 1) (by omega) (by omega)
  unfold Nd.f at this
  simpa [List.getD_eq_getElem?_getD, h1, h2] using this
theorem eqN_law {n m : Nd} (hn : Nd.rt n) (hm : Nd.rt m) : eqN n m = decide (n = m) := by
  have hfo : ∀ j, 1 ≤ j → j ≤ 16 → (fo (n.f j) (m.f j) == some .eq) = decide (n.f j = m.f j) := fun j h1 h2 =>
    fo_right (rt_f hn j h1 h2).1 (rt_f hm j h1 h2).1 (rt_f hn j h1 h2).2 (rt_f hm j h1 h2).2
  rw [Bool.eq_iff_iff, decide_eq_true_eq]
  unfold eqN eq3
  rw [hfo 1 (by omega) (by omega), hfo 2 (by omega) (by omega), hfo 3 (by omega) (by omega), hfo 4 (by omega) (by omega), hfo 5 (by omega) (by omega), hfo 6 (by omega) (by omega), hfo 7 (by omega) (by omega), hfo 8 (by omega) (by omega), hfo 9 (by omega) (by omega), hfo 10 (by omega) (by omega), hfo 11 (by omega) (by omega), hfo 12 (by omega) (by omega), hfo 13 (by omega) (by omega), hfo 14 (by omega) (by omega), hfo 15 (by omega) (by omega), hfo 16 (by omega) (by omega)]
  constructor
  · intro h
    simp only [Bool.and_eq_true, decide_eq_true_eq, beq_iff_eq, and_true] at h
    obtain ⟨hk, ⟨f1, f2, f3⟩, ⟨f4, f5, f6⟩, ⟨f7, f8, f9⟩, ⟨f10, f11, f12⟩, f13, f14, f15, f16, ha, hb⟩ := h
    refine nd_ext hn.1 hm.1 (by omega) ha hb fun j h1 h2 => ?_
    have : j = 1 ∨ j = 2 ∨ j = 3 ∨ j = 4 ∨ j = 5 ∨ j = 6 ∨ j = 7 ∨ j = 8 ∨ j = 9 ∨ j = 10 ∨ j = 11 ∨ j = 12 ∨ j = 13 ∨ j = 14 ∨ j = 15 ∨ j = 16 := by omega
    rcases this with rfl | rfl | rfl | rfl | rfl | rfl | rfl | rfl | rfl | rfl | rfl | rfl | rfl | rfl | rfl | rfl <;> assumption
  · rintro rfl
    simp
end Go.Proofs.Ytlhdabpoljoobaa.flatm
