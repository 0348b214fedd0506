/- The walk of burnishlaw18.Same at one row of nodes twice. Conditions: the nodes lie in memory, within the reach. -/
import Derived.Test.YtihhhglnnapkoaaGreatDoorFlaB
import Derived.Laws.FloatBits
import Derived.Laws.FloatArith
import Derived.Laws.Externs
import Derived.Deep.DeepCutAuto
namespace Go.Proofs.YtihhhglnnapkoaaGreatDoor.chkw
open Go.RowKit
open Go.Proofs.YtihhhglnnapkoaaGreatDoor.nodew
open Go.Proofs.YtihhhglnnapkoaaGreatDoor.qt
open Go.BigFrame
attribute [local go_sem] nodew.run_store_float

theorem fbits_run (x : Nat) (w : World) : (callFunc 19 #[.float .f64 x]).run Tryz.prog w = .ok (.value (.int .u64 x)) w := nodew.bits_run x w
attribute [local go_sem] fbits_run
theorem same01_self (x : Nat) (w : World) : Calls Tryz.prog 11 #[.float .f64 x, .float .f64 x] w fun e w' => e = .returned (.bool true) ∧ w' = w := by
  go_enter Tryz.func11, Tryz.ntmps11
  go_wp2
  go_ret
  exact ⟨by simp, rfl⟩
/-- the zero node's cells -/
def zcells : Array Value := #[.int .u8 0, .float .f64 0, .float .f64 0, .float .f64 0, .float .f64 0, .float .f64 0, .float .f64 0, .float .f64 0, .float .f64 0, .float .f64 0, .float .f64 0, .float .f64 0, .float .f64 0, .float .f64 0, .float .f64 0, .float .f64 0, .float .f64 0, .int .i64 0, .int .i64 0]
theorem alloc_nd (w : World) : (Instr.alloc 31 true (.tuple #[])).run Tryz.prog w = .ok (pt w.heap.size 0) (w.alloc (.cells zcells 31)) := by
  kernel_rfl
theorem exec_alloc_nd {o : Oper} (ho : o.op = .alloc 31) (a : Act) (w : World) : (execOp a.eval o).run Tryz.prog w = .ok (.value (pt w.heap.size 0)) (w.alloc (.cells zcells 31)) := by
  unfold execOp
  simp only [ho, Sem.run_bind, alloc_nd, Result.andThen_ok, Sem.run_pure]
theorem exec_store_nd {o : Oper} (x y : Operand) (ho : o.op = .store 31 x y) {a : Act} {w : World} (g : Nat) (n : Nd) (hx : a.eval x = pt g 0) (hy : a.eval y = n.val) (old : Array Value) (hg : w.heap[g]? = some (.cells old 31 (0, 0))) (hold : old.size = 19) :
    (execOp a.eval o).run Tryz.prog w = .ok .skip (w.setRow g n.cells.toArray) := by
  have hr := run_storeVar_row w g 31 31 old n.cells.toArray hg (nd_info n) (by rw [nd_size]; exact hold) (nd_one n)
  have hy' : a.eval y = .agg n.cells.toArray := hy
  have hx' : a.eval x = .pointer (some ⟨g, 0, none⟩) := hx
  unfold execOp
  simp only [ho, hx', hy', Instr.storeAt, Instr.sureAddr, Sem.run_bind, Sem.run_pure, Result.andThen_ok, hr]
/-- a whole node is read in a drawn region, wherever it lies -/
theorem quiet_load_at {C : World → Prop} {ops : Array Oper} {o : Oper} {rest : List Oper} {a : Act} {Q : Act → Prop} (hgd : o.guard = none) (x : Operand) (ho : o.op = .load 31 x) (ad : Value) (hx : a.eval x = ad) (n : Nd)
    (hg : ∀ w, C w → (Instr.loadAt 31 ad).run Tryz.prog w = .ok n.val w) (h : wpQuiet Tryz.prog ops C Q rest (a.put o.dst n.val)) : wpQuiet Tryz.prog ops C Q (o :: rest) a := by
  refine wpQuiet_want (by simp [Region.wanted, hgd]) fun K hK => ⟨n.val, ?_, hK _ h⟩
  intro w' hw'
  unfold Oper.quietAt execOp
  simp only [ho, hx, hg w' hw', Sem.run_bind, Sem.run_pure, Result.andThen_ok, Oper.quietUpon]
  exact ⟨trivial, trivial⟩

theorem NRead.at {W : World} {B : Nat} {l : List Nd} {g off k : Nat} (h : l ≠ [] → ∃ g' off', some (⟨g, off, none⟩ : Addr) = some ⟨g', off', none⟩ ∧ g' < B ∧ g' < W.heap.size ∧ ∀ j u, (ncells l)[j]? = some u → W.cell? ⟨g', off' + j, none⟩ = some u) (hk : k < l.length) :
    g < W.heap.size ∧ ∀ u : World, u.heap[g]? = W.heap[g]? → (Instr.loadAt 31 (.pointer (some ⟨g, off + k * 19, none⟩))).run Tryz.prog u = .ok (l[k]).val u := by
  obtain ⟨g', off', e, _, hgl, hc⟩ := h (by intro e; subst e; simp at hk)
  injection e with e
  injection e with e1 e2
  subst e1 e2
  refine ⟨hgl, fun u hu => (l[k]).load_at u g (off + k * 19) fun j v hj => ?_⟩
  have hj' : j < 19 := by have := (List.getElem?_eq_some_iff.1 hj).1; rwa [nd_cells_len] at this
  rw [Nat.add_assoc]
  exact (World.cell?_of_block (a := ⟨g, off + (k * 19 + j), none⟩) hu).trans (hc (k * 19 + j) v (by rw [ncells_get l k j hk hj']; exact hj))

set_option maxRecDepth 100000 in
set_option maxHeartbeats 4000000 in
theorem same18_eq (B : Nat) (v1 v2 : Value) (l : List Nd) (hl : l.length ≤ 1000000000000) (w : World) (h1 : NRead w B v1 l) (h2 : NRead w B v2 l) (_hB : B ≤ w.heap.size) :
    Calls Tryz.prog 6 #[v1, v2] w fun e w' => e = .returned (.bool true) ∧ Below w.heap.size w w' := by
  obtain ⟨A1, c1, rfl, hx1⟩ := h1
  obtain ⟨A2, c2, rfl, hx2⟩ := h2
  have HX1 := Lib.hid hx1
  have HX2 := Lib.hid hx2
  clear hx1 hx2
  go_enter Tryz.func6, Tryz.ntmps6
  go_wp2_with fail
  go_loopg [16] l.length (fun gk i wr => ∃ k : Nat, k + gk = l.length ∧ i = .int .i64 k ∧ Below w.heap.size w wr)
  case atStart => exact ⟨0, Nat.zero_add _, rfl, Below.refl _ _⟩
  case round =>
    obtain ⟨k, hkg, rfl, hBr⟩ := hrel
    have HKG := Lib.hid hkg
    have hk : k ≤ l.length := by omega
    clear hkg
    have hz := hBr.size
    by_cases hkl : k < l.length
    · have hne : l ≠ [] := by intro e; subst e; simp at hkl
      obtain ⟨g1, o1, rfl, -⟩ := HX1.out hne
      obtain ⟨g2, o2, rfl, -⟩ := HX2.out hne
      obtain ⟨hg1, hld1⟩ := NRead.at HX1.out hkl
      obtain ⟨hg2, hld2⟩ := NRead.at HX2.out hkl
      obtain ⟨n, hn⟩ : ∃ n, l[k] = n := ⟨_, rfl⟩
      rw [hn] at hld1 hld2
      have HL1 := Lib.hid hld1
      have HL2 := Lib.hid hld2
      have hk0 : (0 : Int) ≤ (k : Int) := by omega
      have hkl' : (k : Int) < (l.length : Int) := by omega
      clear hld1 hld2 hn hne
      go_upto_region 6 with (fail)
      go_cut [6, 7] from 19 to 26 (fun s6 s7 wx => ∃ b6 b7, s6 = .pointer (some ⟨b6, 0, none⟩) ∧ s7 = .pointer (some ⟨b7, 0, none⟩) ∧ NBlk wx b6 n ∧ NBlk wx b7 n ∧ Below w.heap.size w wx)
      case first =>
        refine region_reads (C := fun w' => ∃ u : Ext wr, w' = u.1) [0, 1, 2, 3, 4, 5, 6, 7] 4 (by kernel_rfl) (by kernel_rfl) (ext_self wr) ?_
        simp only [List.filterMap_cons, List.filterMap_nil, List.getElem?_cons_zero, List.getElem?_cons_succ]
        change wpQuiet _ _ _ _ (_ :: _ :: _ :: _ :: _ :: _ :: _ :: _ :: []) _
        go_big_quiet_step (fail)
        go_big_quiet_step (fail)
        go_big_quiet_step (fail)
        refine quiet_load_at rfl (.tmp 21) rfl (.pointer (some ⟨g1, o1 + k * 19, none⟩)) rfl n (by rintro _ ⟨u, rfl⟩; exact HL1.out u.1 ((u.2.block g1 (by omega)).trans (hBr.block g1 hg1))) ?_
        simp only [Act.put, List.setIfInBounds_toArray, List.set_cons_succ, List.set_cons_zero]
        go_big_quiet_step (fail)
        go_big_quiet_step (fail)
        go_big_quiet_step (fail)
        refine quiet_load_at rfl (.tmp 25) rfl (.pointer (some ⟨g2, o2 + k * 19, none⟩)) rfl n (by rintro _ ⟨u, rfl⟩; exact HL2.out u.1 ((u.2.block g2 (by omega)).trans (hBr.block g2 hg2))) ?_
        simp only [Act.put, List.setIfInBounds_toArray, List.set_cons_succ, List.set_cons_zero]
        refine wpQuiet_nil ?_
        obtain ⟨X, hX⟩ : ∃ X, X = wr.drew := ⟨_, rfl⟩
        have hbx : Below wr.heap.size wr X := by rw [hX]; exact (Below.refl _ _).drew
        rw [← hX]
        clear hX
        have hzx := hbx.size
        have a1 := hbx.alloc hzx (.cells zcells 31)
        have a2 := a1.alloc a1.size (.cells zcells 31)
        have n1 : ((X.alloc (.cells zcells 31)).alloc (.cells zcells 31)).heap[X.heap.size]? = some (.cells zcells 31 (0, 0)) := (Below.heap_alloc _ _ _ (by simp)).trans (heap_alloc_new _ _)
        have n2 : ((X.alloc (.cells zcells 31)).alloc (.cells zcells 31)).heap[X.heap.size + 1]? = some (.cells zcells 31 (0, 0)) := heap_alloc2_new _ _ _
        have b1 := below_setRow a2 hzx n.cells.toArray
        have b2 := below_setRow a2 (show wr.heap.size ≤ X.heap.size + 1 by omega) n.cells.toArray
        have c1' := below_setRow b1 (show wr.heap.size ≤ X.heap.size + 1 by omega) n.cells.toArray
        have c2' := below_setRow b2 hzx n.cells.toArray
        have m1 := setRow_heap _ X.heap.size zcells n.cells.toArray _ _ n1
        have m2 := setRow_heap _ (X.heap.size + 1) zcells n.cells.toArray _ _ n2
        have p2 : (((X.alloc (.cells zcells 31)).alloc (.cells zcells 31)).setRow X.heap.size n.cells.toArray).heap[X.heap.size + 1]? = some (.cells zcells 31 (0, 0)) := (setRow_other _ _ _ _ (by omega)).trans n2
        have p1 : (((X.alloc (.cells zcells 31)).alloc (.cells zcells 31)).setRow (X.heap.size + 1) n.cells.toArray).heap[X.heap.size]? = some (.cells zcells 31 (0, 0)) := (setRow_other _ _ _ _ (by omega)).trans n1
        have hsz : (X.alloc (.cells zcells 31)).heap.size = X.heap.size + 1 := by simp
        have q1 := setRow_heap _ (X.heap.size + 1) zcells n.cells.toArray _ _ p2
        have q2 := setRow_heap _ X.heap.size zcells n.cells.toArray _ _ p1
        have r1 := (setRow_other _ (X.heap.size + 1) X.heap.size n.cells.toArray (by omega)).trans m1
        have r2 := (setRow_other _ X.heap.size (X.heap.size + 1) n.cells.toArray (by omega)).trans m2
        refine anyG_two 8 9 _ _ (by kernel_rfl) rfl rfl rfl rfl ?_ ?_
        · refine goUpon_val _ _ (exec_alloc_nd rfl _ _) ⟨⟨_, a1⟩, rfl⟩ ?_
          change anyG _ _ _ _ _ _ _ (Act.put _ (some 6) _) _
          simp only [Act.put, List.setIfInBounds_toArray, List.set_cons_succ, List.set_cons_zero]
          refine anyG_one 9 _ (by kernel_rfl) rfl rfl ?_
          refine goUpon_val _ _ (exec_alloc_nd rfl _ _) ⟨⟨_, a2⟩, rfl⟩ ?_
          rw [hsz]
          change anyG _ _ _ _ _ _ _ (Act.put _ (some 7) _) _
          simp only [Act.put, List.setIfInBounds_toArray, List.set_cons_succ, List.set_cons_zero]
          refine anyG_one 10 _ (by kernel_rfl) rfl rfl ?_
          refine goUpon_skip _ (exec_store_nd (.tmp 6) (.tmp 22) rfl X.heap.size n rfl rfl zcells n1 rfl) ⟨⟨_, b1⟩, rfl⟩ ?_
          change anyG _ _ _ _ _ _ _ (Act.put _ none _) _
          simp only [Act.put]
          refine anyG_one 11 _ (by kernel_rfl) rfl rfl ?_
          refine goUpon_skip _ (exec_store_nd (.tmp 7) (.tmp 26) rfl (X.heap.size + 1) n rfl rfl zcells p2 rfl) ⟨⟨_, c1'⟩, rfl⟩ ?_
          change anyG _ _ _ _ _ _ _ (Act.put _ none _) _
          simp only [Act.put]
          refine anyG_end (by kernel_rfl) ?_
          simp only [Exit.then]
          go_wp2_with fail
          go_meet
          exact ⟨X.heap.size, X.heap.size + 1, rfl, rfl, r1, q1, hBr.trans (c1'.mono hz)⟩
        · refine goUpon_val _ _ (exec_alloc_nd rfl _ _) ⟨⟨_, a1⟩, rfl⟩ ?_
          change anyG _ _ _ _ _ _ _ (Act.put _ (some 7) _) _
          simp only [Act.put, List.setIfInBounds_toArray, List.set_cons_succ, List.set_cons_zero]
          refine anyG_one 8 _ (by kernel_rfl) rfl rfl ?_
          refine goUpon_val _ _ (exec_alloc_nd rfl _ _) ⟨⟨_, a2⟩, rfl⟩ ?_
          rw [hsz]
          change anyG _ _ _ _ _ _ _ (Act.put _ (some 6) _) _
          simp only [Act.put, List.setIfInBounds_toArray, List.set_cons_succ, List.set_cons_zero]
          refine anyG_one 10 _ (by kernel_rfl) rfl rfl ?_
          refine goUpon_skip _ (exec_store_nd (.tmp 6) (.tmp 22) rfl (X.heap.size + 1) n rfl rfl zcells n2 rfl) ⟨⟨_, b2⟩, rfl⟩ ?_
          change anyG _ _ _ _ _ _ _ (Act.put _ none _) _
          simp only [Act.put]
          refine anyG_one 11 _ (by kernel_rfl) rfl rfl ?_
          refine goUpon_skip _ (exec_store_nd (.tmp 7) (.tmp 26) rfl X.heap.size n rfl rfl zcells p1 rfl) ⟨⟨_, c2'⟩, rfl⟩ ?_
          change anyG _ _ _ _ _ _ _ (Act.put _ none _) _
          simp only [Act.put]
          refine anyG_end (by kernel_rfl) ?_
          simp only [Exit.then]
          go_wp2_with fail
          go_meet
          exact ⟨X.heap.size + 1, X.heap.size, rfl, rfl, r2, q2, hBr.trans (c2'.mono hz)⟩
      case rest =>
        obtain ⟨b6, b7, rfl, rfl, h6, h7, hBc⟩ := hcut
        clear HX1 HX2 HL1 HL2 hBr hz
        have H67 := Lib.hid (And.intro h6 (And.intro h7 hBc))
        clear h6 h7 hBc
        go_wp2_with fail
        go_loopw [27] (fun i wr => ∃ j : Nat, j ≤ 3 ∧ i = .int .i64 j ∧ NBlk wr b6 n ∧ NBlk wr b7 n ∧ Below w.heap.size w wr) (fun i _ => 3 - (intOf i).toNat)
        case atStart => exact ⟨0, by omega, rfl, H67.out.1, H67.out.2.1, H67.out.2.2⟩
        case round =>
          obtain ⟨j, hj, rfl, h6, h7, hBc⟩ := hrel
          have hc6 : ∀ j u, n.cells[j]? = some u → wr.cell? ⟨b6, j, none⟩ = some u := fun j u hu => (h6.cell j).trans hu
          have hc7 : ∀ j u, n.cells[j]? = some u → wr.cell? ⟨b7, j, none⟩ = some u := fun j u hu => (h7.cell j).trans hu
          have HC6 := Lib.hid hc6
          have HC7 := Lib.hid hc7
          have HN := Lib.hid (And.intro h6 (And.intro h7 hBc))
          clear hc6 hc7 h6 h7 hBc H67
          by_cases hj3 : j < 3
          · have hj0 : (0 : Int) ≤ (j : Int) := by omega
            have hj3' : (j : Int) < 3 := by omega
            have x1 := HC6.out (1 + j) _ (n.cell_f (1 + j) (by omega) (by omega))
            have x2 := HC6.out (4 + j) _ (n.cell_f (4 + j) (by omega) (by omega))
            have x3 := HC6.out (7 + j) _ (n.cell_f (7 + j) (by omega) (by omega))
            have x4 := HC6.out (10 + j) _ (n.cell_f (10 + j) (by omega) (by omega))
            have y1 := HC7.out (1 + j) _ (n.cell_f (1 + j) (by omega) (by omega))
            have y2 := HC7.out (4 + j) _ (n.cell_f (4 + j) (by omega) (by omega))
            have y3 := HC7.out (7 + j) _ (n.cell_f (7 + j) (by omega) (by omega))
            have y4 := HC7.out (10 + j) _ (n.cell_f (10 + j) (by omega) (by omega))
            go_wp2_with fail
            go_quiet (exact Calls.quiet_of_same (same01_self _ _))
            go_wp2_with fail
            go_roundw
            case rel => exact ⟨j + 1, by omega, by go_num, HN.out.1.drewN nq, HN.out.2.1.drewN nq, nodew.below_drewN' HN.out.2.2 nq⟩
            case measure => simp [intOf]; omega
          · obtain rfl : j = 3 := by omega
            have x0 := HC6.out 0 _ rfl
            have x5 := HC6.out 13 _ rfl
            have x6 := HC6.out 14 _ rfl
            have x7 := HC6.out 15 _ rfl
            have x8 := HC6.out 16 _ rfl
            have x9 := HC6.out 17 _ rfl
            have xa := HC6.out 18 _ rfl
            have y0 := HC7.out 0 _ rfl
            have y5 := HC7.out 13 _ rfl
            have y6 := HC7.out 14 _ rfl
            have y7 := HC7.out 15 _ rfl
            have y8 := HC7.out 16 _ rfl
            have y9 := HC7.out 17 _ rfl
            have ya := HC7.out 18 _ rfl
            go_wp2_with (first | (go_at_call 11; refine (same01_self _ _).mono ?_; rintro e wy ⟨rfl, rfl⟩))
            have hkg := HKG.out
            go_roundg (gk - 1)
            case measure => omega
            case rel => exact ⟨k + 1, by omega, by go_num, HN.out.2.2⟩
    · obtain rfl : k = l.length := by omega
      go_wp2_with fail
      go_ret
      exact ⟨rfl, hBr⟩

end Go.Proofs.YtihhhglnnapkoaaGreatDoor.chkw
