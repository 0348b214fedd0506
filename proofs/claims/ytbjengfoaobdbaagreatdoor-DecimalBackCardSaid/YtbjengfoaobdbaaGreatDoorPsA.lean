/- The small functions of unrounded scaling: what each answers. No conditions but those stated. -/
import Derived.Test.YtbjengfoaobdbaaGreatDoorMgB
import Derived.Test.YtbjengfoaobdbaaGreatDoorMgS
namespace Go.Proofs.YtbjengfoaobdbaaGreatDoor.prnw
open Go.RowKit
open Go.Proofs.YtbjengfoaobdbaaGreatDoor.bsw
theorem set_grown (W : World) (b j : Nat) (v : Value) : W.grownBy (W.setCell ⟨b, j, none⟩ v) (some b) := ⟨rfl, rfl, rfl, by simp, fun i _ hne => Below.heap_setCell W ⟨b, j, none⟩ v i (fun e => hne (by rw [e]))⟩
/-- returns this, and the world is as it was -/
def Same (w : World) (v : Value) (e : Ending) (w' : World) : Prop := e = .returned v ∧ w' = w
theorem l2_any (e : Int) (h0 : -3000 ≤ e) (h1 : e ≤ 3000) (w : World) : Calls Tryz.prog 154 #[.int .i64 e] w (Same w (.int .i64 (e * 108853 / 32768))) := by
  go_enter Tryz.func154, Tryz.ntmps154
  go_wp2
  go_ret
  exact ⟨rfl, rfl⟩
theorem b2u (b : Bool) (w : World) : Calls Tryz.prog 145 #[.bool b] w (Same w (.int .u64 (if b then 1 else 0))) := by
  go_enter Tryz.func145, Tryz.ntmps145
  cases b
  all_goals go_wp2
  all_goals go_ret
  all_goals exact ⟨rfl, rfl⟩
def ceilI (u : Int) : Int := IntKind.u64.wrap (u + 3) / 4
def nudgeI (u d : Int) : Int := IntKind.u64.wrap (u + IntKind.u64.wrap d)
def roundI (u : Int) : Int := IntKind.u64.wrap (IntKind.u64.wrap (u + 1) + bits BinOp.and IntKind.u64 (u / 4) 1) / 4
theorem w64 (n : Int) : 0 ≤ IntKind.u64.wrap n ∧ IntKind.u64.wrap n < 18446744073709551616 := by
  rw [IntKind.wrap_u64]
  omega
theorem ceil_bd (u : Int) : 0 ≤ ceilI u ∧ ceilI u < 18446744073709551616 := by have := w64 (u + 3); unfold ceilI; omega
theorem nudge_bd (u d : Int) : 0 ≤ nudgeI u d ∧ nudgeI u d < 18446744073709551616 := w64 _
theorem round_bd (u : Int) : 0 ≤ roundI u ∧ roundI u < 18446744073709551616 := by have := w64 (IntKind.u64.wrap (u + 1) + bits BinOp.and IntKind.u64 (u / 4) 1); unfold roundI; omega
theorem round_any (u : Int) (_h0 : 0 ≤ u) (_h1 : u < 18446744073709551616) (w : World) : Calls Tryz.prog 159 #[.int .u64 u] w (Same w (.int .u64 (roundI u))) := by
  go_enter Tryz.func159, Tryz.ntmps159
  go_wp2
  go_ret
  exact ⟨rfl, rfl⟩
theorem wl_pre {P : Program} {ops : Array Oper} {rest : List Oper} {o : Oper} {a : Act} {w : World} {Q : Exit → Act → World → Prop} (h : wpList P ops Q (o :: rest) a w) : wpList P ops Q (o :: rest) a w := h
theorem wl_set_u64 {ops : Array Oper} {rest : List Oper} {o : Oper} {a : Act} {w : World} {Q : Exit → Act → World → Prop} (hgd : o.guard = none) (x y : Operand) (ho : o.op = .store 67 x y) (b j : Nat) (v : Int) (old : Value) (hx : a.eval x = .pointer (some ⟨b, j, none⟩)) (hy : a.eval y = .int .u64 v)
    (hc : w.cell? ⟨b, j, none⟩ = some old) (hf : w.frozen? ⟨b, j, none⟩ = false)
    (h : wpList Tryz.prog ops Q rest (a.put o.dst undef) (w.setCell ⟨b, j, none⟩ (.int .u64 v))) : wpList Tryz.prog ops Q (o :: rest) a w := by
  have hr : (Instr.storeAt 67 (.pointer (some ⟨b, j, none⟩)) (.int .u64 v)).run Tryz.prog w = .ok () (w.setCell ⟨b, j, none⟩ (.int .u64 v)) := by
    simp [Instr.storeAt, Instr.sureAddr, storeVar, run_store_int, stored, hc, hf, go_sem]
  refine wpList_plain hgd fun K hK => ?_
  unfold Oper.wp execOp
  simp only [ho, hx, hy, hr, Sem.run_bind, Sem.run_pure, Result.andThen_ok]
  exact hK _ _ h
theorem wl_set_i64 {ops : Array Oper} {rest : List Oper} {o : Oper} {a : Act} {w : World} {Q : Exit → Act → World → Prop} (hgd : o.guard = none) (x y : Operand) (ho : o.op = .store 3 x y) (b j : Nat) (v : Int) (old : Value) (hx : a.eval x = .pointer (some ⟨b, j, none⟩)) (hy : a.eval y = .int .i64 v)
    (hc : w.cell? ⟨b, j, none⟩ = some old) (hf : w.frozen? ⟨b, j, none⟩ = false)
    (h : wpList Tryz.prog ops Q rest (a.put o.dst undef) (w.setCell ⟨b, j, none⟩ (.int .i64 v))) : wpList Tryz.prog ops Q (o :: rest) a w := by
  have hr : (Instr.storeAt 3 (.pointer (some ⟨b, j, none⟩)) (.int .i64 v)).run Tryz.prog w = .ok () (w.setCell ⟨b, j, none⟩ (.int .i64 v)) := by
    simp [Instr.storeAt, Instr.sureAddr, storeVar, run_store_int, stored, hc, hf, go_sem]
  refine wpList_plain hgd fun K hK => ?_
  unfold Oper.wp execOp
  simp only [ho, hx, hy, hr, Sem.run_bind, Sem.run_pure, Result.andThen_ok]
  exact hK _ _ h
/-- the table of powers of ten -/
def PT (hi lo : Nat → Nat) (w : World) : Prop := ∀ i, i < 696 → hi i < 18446744073709551616 ∧ lo i < 18446744073709551616 ∧ w.cell? ⟨15, i * 2, none⟩ = some (.int .u64 (hi i : Nat)) ∧ w.cell? ⟨15, i * 2 + 1, none⟩ = some (.int .u64 (lo i : Nat))
/-- a scaler in block pb -/
def SC (w : World) (pb : Nat) (hi lo : Nat) (s : Int) : Prop := w.heap[pb]? = some (.cells #[.int .u64 (hi : Nat), .int .u64 (lo : Nat), .int .i64 s] 193 (0, 0))
set_option maxRecDepth 100000 in
set_option maxHeartbeats 1000000 in
theorem prescale_any (hi lo : Nat → Nat) (pb : Nat) (e : Int) (i : Nat) (lp : Int) (hi6 : i < 696) (e0 : -3000 ≤ e) (e1 : e ≤ 3000) (l0 : -3000 ≤ lp) (l1 : lp ≤ 3000) (h0 l00 : Nat) (s0 : Int) (w : World) (hT : PT hi lo w) (hne : pb ≠ 15) (hb : SC w pb h0 l00 s0) :
    Calls Tryz.prog 153 #[.pointer (some ⟨pb, 0, none⟩), .int .i64 e, .int .i64 ((i : Int) - 348), .int .i64 lp] w fun x w' => x = .returned (.tuple #[]) ∧ SC w' pb (hi i) (lo i) (-(e + lp + 3)) ∧ w.grownBy w' (some pb) := by
  obtain ⟨_, _, c1, c2⟩ := hT i hi6
  have i0 : (0 : Int) ≤ (i : Int) := by omega
  have i6 : (i : Int) < 696 := by omega
  have ce : ∀ (u : World) (cs : Array Value) (j : Nat), u.heap[pb]? = some (.cells cs 193 (0, 0)) → u.frozen? ⟨pb, j, none⟩ = false := fun u cs j h => by simp [World.frozen?, h]
  have hb0 : w.heap[pb]? = some (.cells #[.int .u64 (h0 : Nat), .int .u64 (l00 : Nat), .int .i64 s0] 193 (0, 0)) := hb
  obtain ⟨W1, hW1⟩ : ∃ W1, W1 = w.setCell ⟨pb, 0, none⟩ (.int .u64 (hi i : Nat)) := ⟨_, rfl⟩
  obtain ⟨W2, hW2⟩ : ∃ W2, W2 = W1.setCell ⟨pb, 1, none⟩ (.int .u64 (lo i : Nat)) := ⟨_, rfl⟩
  obtain ⟨W3, hW3⟩ : ∃ W3, W3 = W2.setCell ⟨pb, 2, none⟩ (.int .i64 (-(e + lp + 3))) := ⟨_, rfl⟩
  have hb1 : W1.heap[pb]? = some (.cells #[.int .u64 (hi i : Nat), .int .u64 (l00 : Nat), .int .i64 s0] 193 (0, 0)) := by rw [hW1, heap_set w pb 0 _ _ _ _ hb0]; rfl
  have hb2 : W2.heap[pb]? = some (.cells #[.int .u64 (hi i : Nat), .int .u64 (lo i : Nat), .int .i64 s0] 193 (0, 0)) := by rw [hW2, heap_set W1 pb 1 _ _ _ _ hb1]; rfl
  have hb3 : W3.heap[pb]? = some (.cells #[.int .u64 (hi i : Nat), .int .u64 (lo i : Nat), .int .i64 (-(e + lp + 3))] 193 (0, 0)) := by rw [hW3, heap_set W2 pb 2 _ _ _ _ hb2]; rfl
  have hg : w.grownBy W3 (some pb) := by
    rw [hW3, hW2, hW1]
    exact grown_trans (grown_trans (set_grown _ _ _ _) (set_grown _ _ _ _)) (set_grown _ _ _ _)
  have hk : ∀ (u : World) (j : Nat) (v : Value), (∀ b, b ≠ pb → u.heap[b]? = w.heap[b]?) → w.cell? ⟨15, j, none⟩ = some v → u.cell? ⟨15, j, none⟩ = some v := fun u j v hu hv =>
    (World.cell?_of_block (a := ⟨15, j, none⟩) (hu _ (fun e => hne e.symm))).trans hv
  have u1 : ∀ b, b ≠ pb → W1.heap[b]? = w.heap[b]? := fun b hb => by rw [hW1]; exact Below.heap_setCell w ⟨pb, 0, none⟩ _ b hb
  have c21 := hk W1 _ _ u1 c2
  have C1 := Lib.hid (And.intro ((cell_of_row w pb 0 _ _ _ hb0).trans rfl : w.cell? ⟨pb, 0, none⟩ = some (.int .u64 (h0 : Nat))) (ce w _ 0 hb0))
  have C2 := Lib.hid (And.intro ((cell_of_row W1 pb 1 _ _ _ hb1).trans rfl : W1.cell? ⟨pb, 1, none⟩ = some (.int .u64 (l00 : Nat))) (ce W1 _ 1 hb1))
  have C3 := Lib.hid (And.intro ((cell_of_row W2 pb 2 _ _ _ hb2).trans rfl : W2.cell? ⟨pb, 2, none⟩ = some (.int .i64 s0)) (ce W2 _ 2 hb2))
  have Y1 := Lib.hid hW1
  have Y2 := Lib.hid hW2
  have Y3 := Lib.hid hW3
  have HR := Lib.hid (And.intro (show SC W3 pb (hi i) (lo i) (-(e + lp + 3)) from hb3) hg)
  clear hk u1 hb0 hb1 hb2 hb3 hb hT hg ce hW1 hW2 hW3 c2 hne
  go_enter Tryz.func153, Tryz.ntmps153
  go_wp2_with ((with_reducible refine wl_pre ?_); (first | (refine wl_set_u64 rfl (.tmp 15) (.tmp 13) rfl pb 0 _ _ rfl rfl C1.out.1 C1.out.2 ?_; rw [← Y1.out]) | (refine wl_set_u64 rfl (.tmp 23) (.tmp 21) rfl pb 1 _ _ rfl rfl C2.out.1 C2.out.2 ?_; rw [← Y2.out]) | (refine wl_set_i64 rfl (.tmp 31) (.tmp 29) rfl pb 2 _ _ rfl rfl C3.out.1 C3.out.2 ?_; rw [← Y3.out])); (simp only [Act.put]))
  go_end0
  exact ⟨rfl, HR.out⟩
end Go.Proofs.YtbjengfoaobdbaaGreatDoor.prnw
