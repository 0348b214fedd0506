/- trees: two nodes of programs, one of which covers the other, stand for the same tree. No conditions but those stated. -/
import Derived.Test.YtlhdabpoljoobaaFlbD
import Derived.Test.YtlhdabpoljoobaaFlaO
import Derived.Test.YtlhdabpoljoobaaFlaC
namespace Go.Proofs.Ytlhdabpoljoobaa.flatw
open Go.RowKit Go.Shelf
open Go.Proofs.Ytlhdabpoljoobaa.nodew
open Go.Proofs.Ytlhdabpoljoobaa.chkw
open Go.Proofs.Ytlhdabpoljoobaa.flatm
open Go.Proofs.Ytlhdabpoljoobaa.qt
open Go.BigFrame

theorem bld_pair (i k : Int) (w : World) : (Instr.build 51 #[(0, .int .i64 i), (1, .int .i64 k)]).run Try.prog w = .ok (pairV (i, k)) w := by
  unfold pairV
  kernel_rfl
theorem exec_lookX {o : Oper} (x y : Operand) (ho : o.op = .lookup 33 x y false) {a : Act} {w : World} (mv kv v : Value) (hx : a.eval x = mv) (hy : a.eval y = kv) (hl : (Instr.lookup 33 mv kv false).run Try.prog w = .ok v w) : (execOp a.eval o).run Try.prog w = .ok (.value v) w := by
  unfold execOp
  simp only [ho, hx, hy, hl, Sem.run_bind, Sem.run_pure, Result.andThen_ok]
theorem exec_entX {o : Oper} (x y : Operand) (ho : o.op = .mapEntry 33 x y) {a : Act} {w w' : World} (mv kv v : Value) (hx : a.eval x = mv) (hy : a.eval y = kv) (hl : (Instr.mapEntry 33 mv kv).run Try.prog w = .ok v w') : (execOp a.eval o).run Try.prog w = .ok (.value v) w' := by
  unfold execOp
  simp only [ho, hx, hy, hl, Sem.run_bind, Sem.run_pure, Result.andThen_ok]
theorem exec_stoX {o : Oper} (x y z : Operand) (ho : o.op = .entryStore 33 x y z) {a : Act} {w w' : World} (mv sv v : Value) (hx : a.eval x = mv) (hy : a.eval y = sv) (hz : a.eval z = v) (hl : (Instr.entryStore 33 mv sv v).run Try.prog w = .ok () w') : (execOp a.eval o).run Try.prog w = .ok .skip w' := by
  unfold execOp
  simp only [ho, hx, hy, hz, hl, Sem.run_bind, Sem.run_pure, Result.andThen_ok]
attribute [local go_sem] bld_pair

theorem nread_at {w : World} {B : Nat} {A : Option Addr} {c : Nat} {l : List Nd} (h : NArg w B (.slice A l.length c) l) {x : Nat} (hx : x < l.length) :
    ∃ g off, A = some ⟨g, off, none⟩ ∧ ∀ W : World, Below B w W → (Instr.loadAt 37 (.pointer (some ⟨g, off + x * 19, none⟩))).run Try.prog W = .ok (nth l x).val W := by
  obtain ⟨A', c', hv, _, _, hc⟩ := h
  injection hv with e1 _ _
  subst e1
  obtain ⟨g, off, hA, hgB, hgl, hcl⟩ := hc (by intro e; rw [e] at hx; simp at hx)
  refine ⟨g, off, hA, fun W hB => ?_⟩
  have := (NRead.at (B := B) (g := g) (off := off) (W := w) (l := l) (k := x) (fun _ => ⟨g, off, rfl, hgB, hgl, hcl⟩) hx).2 W (hB.block g hgB)
  rw [this]
  unfold nth
  simp [hx]
theorem remap_zero (f : Nat → Nat) (n : Nd) : ({ remap f n with a := 0, b := 0 } : Nd) = { n with a := 0, b := 0 } := by
  unfold remap
  split
  · rfl
  · split <;> rfl
theorem exec_neq_nd {o : Oper} (x y : Operand) (t : TypeId) (ho : o.op = .binOp .neq 37 x y t) {a : Act} {w : World} (n m : Nd) (hx : a.eval x = n.val) (hy : a.eval y = m.val) : (execOp a.eval o).run Try.prog w = .ok (.value (.bool (!eqN n m))) w := by
  have hg : (eqGuard .neq 37 x y n.val m.val).run Try.prog w = .ok () w := run_eqGuard_agg _ _ _ _ _ _ _ guardNode
  have hb : (binOp .neq 37 n.val m.val).run Try.prog w = .ok (.bool (!eqN n m)) w := by
    show (do pure (.bool (!(← Op.equal 37 n.val m.val))) : Sem Value).run Try.prog w = _
    have he : (Op.equal 37 n.val m.val).run Try.prog w = .ok (eqN n m) w := eq_node n m w
    simp only [Sem.run_bind, he, Result.andThen_ok, Sem.run_pure]
  unfold execOp
  simp only [ho, hx, hy, hg, hb, Sem.run_bind, Sem.run_pure, Result.andThen_ok]
theorem wl_set_int {ops : Array Oper} {rest : List Oper} {o : Oper} {a : Act} {w : World} {Q : Exit → Act → World → Prop} (hgd : o.guard = none) (x y : Operand) (ho : o.op = .store 3 x y) (b j : Nat) (v : Int) (old : Value) (hx : a.eval x = .pointer (some ⟨b, j, none⟩)) (hy : a.eval y = .int .i64 v)
    (hc : w.cell? ⟨b, j, none⟩ = some old) (hf : w.frozen? ⟨b, j, none⟩ = false)
    (h : wpList Try.prog ops Q rest (a.put o.dst undef) (w.setCell ⟨b, j, none⟩ (.int .i64 v))) : wpList Try.prog ops Q (o :: rest) a w := by
  have hr : (Instr.storeAt 3 (.pointer (some ⟨b, j, none⟩)) (.int .i64 v)).run Try.prog w = .ok () (w.setCell ⟨b, j, none⟩ (.int .i64 v)) := by
    simp [Instr.storeAt, Instr.sureAddr, storeVar, run_store_int, stored, hc, hf, go_sem]
  refine wpList_plain hgd fun K hK => ?_
  unfold Oper.wp execOp
  simp only [ho, hx, hy, hr, Sem.run_bind, Sem.run_pure, Result.andThen_ok]
  exact hK _ _ h
def TrPost (mb : Nat) (w : World) (e : Ending) (w' : World) : Prop := e = .returned (.bool true) ∧ XS w' mb ∧ w.grownBy w' (some mb)
set_option maxRecDepth 100000 in
set_option maxHeartbeats 4000000 in
theorem trees_any {P Q : List Nd} {S : Nat → Prop} {f : Nat → Nat} (hc : Cover (nth P) (nth Q) P.length Q.length S f) (hrt : ∀ x, S x → Nd.rt (nth P x)) (hac : ∀ x, x < P.length → ∀ c ∈ kids (nth P x), c < x) (hki : ∀ x, x < P.length → kidsI (nth P x) = (kids (nth P x)).map (fun c : Nat => (c : Int))) (hl : P.length ≤ 4096) (hkd : ∀ x, x < P.length → (nth P x).kind ≤ 6)
    (n0 mb : Nat) (vP vQ : Value) (hmb : n0 ≤ mb) :
    ∀ x, S x → ∀ w : World, NArg w n0 vP P → NArg w n0 vQ Q → XS w mb → n0 ≤ w.heap.size → Calls Try.prog 10 #[vP, .int .i64 x, vQ, .int .i64 (f x), .map (some mb)] w (TrPost mb w) := by
  intro x
  induction x using Nat.strongRecOn with
  | ind x ih =>
  intro hx w hP hQ hX hn
  obtain ⟨AP, cP, rfl⟩ := hP.form
  obtain ⟨AQ, cQ, rfl⟩ := hQ.form
  have IH := Lib.hid ih
  have HC := Lib.hid hc
  have HRT := Lib.hid hrt
  have HAC := Lib.hid hac
  have HKI := Lib.hid hki
  have HP := Lib.hid hP
  have HQ := Lib.hid hQ
  have HX := Lib.hid hX
  have hxl : x < P.length := hc.lt x hx
  have hfl : f x < Q.length := hc.top x hx
  obtain ⟨k, hk⟩ : ∃ k, f x = k := ⟨_, rfl⟩
  have HK := Lib.hid hk
  rw [hk] at hfl ⊢
  have HKD := Lib.hid hkd
  clear hkd
  clear ih hc hrt hac hki hP hQ hX hk
  rcases HX.out.ask ((x : Int), (k : Int)) with ⟨v, hv, hlk⟩ | hfr
  · have hlw := Lib.hid (hlk w rfl)
    have hvb : decide (0 < v) = true := by rw [decide_eq_true_iff]; exact hv
    clear hlk
    go_enter Try.func10, Try.ntmps10
    go_wp2_with (refine wl_val rfl _ (exec_lookX (.tmp 15) (.tmp 18) rfl (.map (some mb)) (pairV ((x : Int), (k : Int))) _ rfl rfl hlw.out) ?_)
    go_ret
    exact ⟨rfl, HX.out, World.grownBy.refl _ _⟩
  · have HF := Lib.hid hfr
    have hlw := Lib.hid (hfr.1 w rfl)
    clear hfr
    go_enter Try.func10, Try.ntmps10
    go_upto_region 3 with (refine wl_val rfl _ (exec_lookX (.tmp 15) (.tmp 18) rfl (.map (some mb)) (pairV ((x : Int), (k : Int))) _ rfl rfl hlw.out) ?_)
    go_cut [] from 15 (fun wx => XS wx mb ∧ w.grownBy wx (some mb))
    case first =>
      obtain ⟨hl0, st, o1, o2, he1, hl1, hs1, hx2⟩ := HF.out
      have hml := HX.out.lt
      refine region_reads (C := fun _ => True) [0, 1, 2, 3] 5 (by kernel_rfl) (by kernel_rfl) trivial ?_
      obtain ⟨X, hXd⟩ : ∃ X, X = w.drew := ⟨_, rfl⟩
      have hXm : X.heap[mb]? = w.heap[mb]? := by rw [hXd]; rfl
      have hXB : Below w.heap.size w X := by rw [hXd]; exact (Below.refl _ _).drew
      have hXl : mb < X.heap.size := by rw [hXd]; exact hml
      rw [← hXd]
      have hb1 : (X.putObj mb o1).heap[mb]? = some o1 := World.putObj_heap_same hXl
      have hb2 : ((X.putObj mb o1).putObj mb o2).heap[mb]? = some o2 := World.putObj_heap_same (by simp [World.putObj]; exact hXl)
      have HE1 := Lib.hid (he1 X hXm)
      have HL0 := Lib.hid (hl0 X hXm)
      have HL1 := Lib.hid (hl1 _ hb1)
      have HS1 := Lib.hid (hs1 _ hb1)
      have HX2 := Lib.hid (hx2 _ hb2)
      have HB2 := Lib.hid (grown_trans (grown_trans (grown_below hXB (some mb)) (grownBy_putObj' X mb o1)) (grownBy_putObj' _ mb o2))
      clear hXd hXm hXB hb1 hb2 hl0 he1 hl1 hs1 hx2 hlw
      simp only [List.filterMap_cons, List.filterMap_nil, List.getElem?_cons_zero, List.getElem?_cons_succ]
      change wpQuiet _ _ _ _ (_ :: _ :: _ :: _ :: []) _
      go_big_quiet_step (fail)
      go_big_quiet_step (fail)
      go_big_quiet_step (fail)
      go_big_quiet_step (fail)
      refine wpQuiet_nil ?_
      refine anyG_two 4 6 _ _ (by kernel_rfl) rfl rfl rfl rfl ?_ ?_
      · refine goUpon_val _ _ (exec_lookX (.tmp 21) (.tmp 24) rfl (.map (some mb)) (pairV ((x : Int), (k : Int))) _ rfl rfl HL0.out) trivial ?_
        change anyG _ _ _ _ _ _ _ (Act.put _ (some 25) _) _
        simp only [Act.put, List.setIfInBounds_toArray, List.set_cons_succ, List.set_cons_zero]
        refine anyG_reads (f := 3) (by kernel_rfl) trivial [5] _ _ (by kernel_rfl) ?_
        simp only [List.filterMap_cons, List.filterMap_nil, List.getElem?_toArray, List.getElem?_cons_zero, List.getElem?_cons_succ]
        change wpQuiet _ _ _ _ (_ :: []) _
        go_big_quiet_step (fail)
        refine wpQuiet_nil ?_
        refine anyG_one 6 _ (by kernel_rfl) rfl rfl ?_
        refine goUpon_val _ _ (exec_entX (.tmp 21) (.tmp 24) rfl (.map (some mb)) (pairV ((x : Int), (k : Int))) _ rfl rfl HE1.out) trivial ?_
        change anyG _ _ _ _ _ _ _ (Act.put _ (some 27) _) _
        simp only [Act.put, List.setIfInBounds_toArray, List.set_cons_succ, List.set_cons_zero]
        refine anyG_reads (f := 1) (by kernel_rfl) trivial [7] _ _ (by kernel_rfl) ?_
        simp only [List.filterMap_cons, List.filterMap_nil, List.getElem?_toArray, List.getElem?_cons_zero, List.getElem?_cons_succ]
        change wpQuiet _ _ _ _ (_ :: []) _
        go_big_quiet_step (fail)
        refine wpQuiet_nil ?_
        refine anyG_one 8 _ (by kernel_rfl) rfl rfl ?_
        refine goUpon_skip _ (exec_stoX (.tmp 21) (.tmp 28) (.tmp 26) rfl (.map (some mb)) (.int .i64 st) (.int .i64 1) rfl rfl rfl HS1.out) trivial ?_
        change anyG _ _ _ _ _ _ _ (Act.put _ none _) _
        simp only [Act.put]
        refine anyG_end (by kernel_rfl) ?_
        simp only [Exit.then]
        go_wp2_with fail
        go_meet
        exact ⟨HX2.out, HB2.out⟩
      · refine goUpon_val _ _ (exec_entX (.tmp 21) (.tmp 24) rfl (.map (some mb)) (pairV ((x : Int), (k : Int))) _ rfl rfl HE1.out) trivial ?_
        change anyG _ _ _ _ _ _ _ (Act.put _ (some 27) _) _
        simp only [Act.put, List.setIfInBounds_toArray, List.set_cons_succ, List.set_cons_zero]
        refine anyG_reads (f := 3) (by kernel_rfl) trivial [7] _ _ (by kernel_rfl) ?_
        simp only [List.filterMap_cons, List.filterMap_nil, List.getElem?_toArray, List.getElem?_cons_zero, List.getElem?_cons_succ]
        change wpQuiet _ _ _ _ (_ :: []) _
        go_big_quiet_step (fail)
        refine wpQuiet_nil ?_
        refine anyG_one 4 _ (by kernel_rfl) rfl rfl ?_
        refine goUpon_val _ _ (exec_lookX (.tmp 21) (.tmp 24) rfl (.map (some mb)) (pairV ((x : Int), (k : Int))) _ rfl rfl HL1.out) trivial ?_
        change anyG _ _ _ _ _ _ _ (Act.put _ (some 25) _) _
        simp only [Act.put, List.setIfInBounds_toArray, List.set_cons_succ, List.set_cons_zero]
        refine anyG_reads (f := 1) (by kernel_rfl) trivial [5] _ _ (by kernel_rfl) ?_
        simp only [List.filterMap_cons, List.filterMap_nil, List.getElem?_toArray, List.getElem?_cons_zero, List.getElem?_cons_succ]
        change wpQuiet _ _ _ _ (_ :: []) _
        go_big_quiet_step (fail)
        refine wpQuiet_nil ?_
        refine anyG_one 8 _ (by kernel_rfl) rfl rfl ?_
        refine goUpon_skip _ (exec_stoX (.tmp 21) (.tmp 28) (.tmp 26) rfl (.map (some mb)) (.int .i64 st) (.int .i64 1) rfl rfl rfl HS1.out) trivial ?_
        change anyG _ _ _ _ _ _ _ (Act.put _ none _) _
        simp only [Act.put]
        refine anyG_end (by kernel_rfl) ?_
        simp only [Exit.then]
        go_wp2_with fail
        go_meet
        exact ⟨HX2.out, HB2.out⟩
    case rest =>
      obtain ⟨hXc, hGc⟩ := hcut
      obtain ⟨wa, hwa⟩ : ∃ wa, wa = wc := ⟨_, rfl⟩
      subst hwa
      obtain ⟨g1, o1, rfl, hld1⟩ := nread_at HP.out hxl
      obtain ⟨g2, o2, rfl, hld2⟩ := nread_at HQ.out hfl
      obtain ⟨n1, hn1⟩ : ∃ n1, nth P x = n1 := ⟨_, rfl⟩
      obtain ⟨n2, hn2⟩ : ∃ n2, nth Q k = n2 := ⟨_, rfl⟩
      rw [hn1] at hld1
      rw [hn2] at hld2
      have HL1 := Lib.hid hld1
      have HL2 := Lib.hid hld2
      have HN1 := Lib.hid hn1
      have HN2 := Lib.hid hn2
      have hBc : Below n0 w wa := (Below.refl n0 w).grown hGc hn (fun r e => by obtain rfl := Option.some.inj e; exact hmb)
      have HGC := Lib.hid hGc
      have HXC := Lib.hid hXc
      have HBC := Lib.hid hBc
      have hzc := Nat.le_trans hn hBc.size
      have x0 : (0 : Int) ≤ (x : Int) := by omega
      have xi : (x : Int) < (P.length : Int) := by omega
      have k0 : (0 : Int) ≤ (k : Int) := by omega
      have ki : (k : Int) < (Q.length : Int) := by omega
      clear hld1 hld2 hn1 hn2 hXc hBc hGc hlw
      go_upto_region 4 with (fail)
      go_cut [11, 12] from 15 (fun s11 s12 wx => ∃ b1 b2, s11 = .pointer (some ⟨b1, 0, none⟩) ∧ s12 = .pointer (some ⟨b2, 0, none⟩) ∧ NBlk wx b1 n1 ∧ NBlk wx b2 n2 ∧ b1 ≠ b2 ∧ wa.heap.size ≤ b1 ∧ wa.heap.size ≤ b2 ∧ Below wa.heap.size wa wx)
      case first =>
        refine region_reads (C := fun w' => ∃ u : Ext wa, w' = u.1) [0, 1, 2, 3, 4, 5, 6, 7] 4 (by kernel_rfl) (by kernel_rfl) (ext_self wa) ?_
        simp only [List.filterMap_cons, List.filterMap_nil, List.getElem?_cons_zero, List.getElem?_cons_succ]
        change wpQuiet _ _ _ _ (_ :: _ :: _ :: _ :: _ :: _ :: _ :: _ :: []) _
        go_big_quiet_step (fail)
        go_big_quiet_step (fail)
        go_big_quiet_step (fail)
        refine quiet_load_at rfl (.tmp 31) rfl (.pointer (some ⟨g1, o1 + x * 19, none⟩)) rfl n1 (by rintro _ ⟨u, rfl⟩; exact HL1.out u.1 (HBC.out.trans (u.2.mono hzc))) ?_
        simp only [Act.put, List.setIfInBounds_toArray, List.set_cons_succ, List.set_cons_zero]
        go_big_quiet_step (fail)
        go_big_quiet_step (fail)
        go_big_quiet_step (fail)
        refine quiet_load_at rfl (.tmp 35) rfl (.pointer (some ⟨g2, o2 + k * 19, none⟩)) rfl n2 (by rintro _ ⟨u, rfl⟩; exact HL2.out u.1 (HBC.out.trans (u.2.mono hzc))) ?_
        simp only [Act.put, List.setIfInBounds_toArray, List.set_cons_succ, List.set_cons_zero]
        refine wpQuiet_nil ?_
        obtain ⟨X, hX⟩ : ∃ X, X = wa.drew := ⟨_, rfl⟩
        have hbx : Below wa.heap.size wa X := by rw [hX]; exact (Below.refl _ _).drew
        rw [← hX]
        clear hX
        have hzx := hbx.size
        have a1 := hbx.alloc hzx (.cells zcells 37)
        have a2 := a1.alloc a1.size (.cells zcells 37)
        have k1 : ((X.alloc (.cells zcells 37)).alloc (.cells zcells 37)).heap[X.heap.size]? = some (.cells zcells 37 (0, 0)) := (Below.heap_alloc _ _ _ (by simp)).trans (heap_alloc_new _ _)
        have k2 : ((X.alloc (.cells zcells 37)).alloc (.cells zcells 37)).heap[X.heap.size + 1]? = some (.cells zcells 37 (0, 0)) := heap_alloc2_new _ _ _
        have b1 := below_setRow a2 hzx n1.cells.toArray
        have b2 := below_setRow a2 (show wa.heap.size ≤ X.heap.size + 1 by omega) n1.cells.toArray
        have c1' := below_setRow b1 (show wa.heap.size ≤ X.heap.size + 1 by omega) n2.cells.toArray
        have c2' := below_setRow b2 hzx n2.cells.toArray
        have m1 := setRow_heap _ X.heap.size zcells n1.cells.toArray _ _ k1
        have m2 := setRow_heap _ (X.heap.size + 1) zcells n1.cells.toArray _ _ k2
        have p2 : (((X.alloc (.cells zcells 37)).alloc (.cells zcells 37)).setRow X.heap.size n1.cells.toArray).heap[X.heap.size + 1]? = some (.cells zcells 37 (0, 0)) := (setRow_other _ _ _ _ (by omega)).trans k2
        have p1 : (((X.alloc (.cells zcells 37)).alloc (.cells zcells 37)).setRow (X.heap.size + 1) n1.cells.toArray).heap[X.heap.size]? = some (.cells zcells 37 (0, 0)) := (setRow_other _ _ _ _ (by omega)).trans k1
        have hsz : (X.alloc (.cells zcells 37)).heap.size = X.heap.size + 1 := by simp
        have q1 := setRow_heap _ (X.heap.size + 1) zcells n2.cells.toArray _ _ p2
        have q2 := setRow_heap _ X.heap.size zcells n2.cells.toArray _ _ p1
        have r1 := (setRow_other _ (X.heap.size + 1) X.heap.size n2.cells.toArray (by omega)).trans m1
        have r2 := (setRow_other _ X.heap.size (X.heap.size + 1) n2.cells.toArray (by omega)).trans m2
        refine anyG_two 8 9 _ _ (by kernel_rfl) rfl rfl rfl rfl ?_ ?_
        · refine goUpon_val _ _ (exec_alloc_nd rfl _ _) ⟨⟨_, a1⟩, rfl⟩ ?_
          change anyG _ _ _ _ _ _ _ (Act.put _ (some 11) _) _
          simp only [Act.put, List.setIfInBounds_toArray, List.set_cons_succ, List.set_cons_zero]
          refine anyG_one 9 _ (by kernel_rfl) rfl rfl ?_
          refine goUpon_val _ _ (exec_alloc_nd rfl _ _) ⟨⟨_, a2⟩, rfl⟩ ?_
          rw [hsz]
          change anyG _ _ _ _ _ _ _ (Act.put _ (some 12) _) _
          simp only [Act.put, List.setIfInBounds_toArray, List.set_cons_succ, List.set_cons_zero]
          refine anyG_one 10 _ (by kernel_rfl) rfl rfl ?_
          refine goUpon_skip _ (exec_store_nd (.tmp 11) (.tmp 32) rfl X.heap.size n1 rfl rfl zcells k1 rfl) ⟨⟨_, b1⟩, rfl⟩ ?_
          change anyG _ _ _ _ _ _ _ (Act.put _ none _) _
          simp only [Act.put]
          refine anyG_one 11 _ (by kernel_rfl) rfl rfl ?_
          refine goUpon_skip _ (exec_store_nd (.tmp 12) (.tmp 36) rfl (X.heap.size + 1) n2 rfl rfl zcells p2 rfl) ⟨⟨_, c1'⟩, rfl⟩ ?_
          change anyG _ _ _ _ _ _ _ (Act.put _ none _) _
          simp only [Act.put]
          refine anyG_end (by kernel_rfl) ?_
          simp only [Exit.then]
          go_wp2_with fail
          go_meet
          exact ⟨X.heap.size, X.heap.size + 1, rfl, rfl, r1, q1, by omega, by omega, by omega, c1'⟩
        · refine goUpon_val _ _ (exec_alloc_nd rfl _ _) ⟨⟨_, a1⟩, rfl⟩ ?_
          change anyG _ _ _ _ _ _ _ (Act.put _ (some 12) _) _
          simp only [Act.put, List.setIfInBounds_toArray, List.set_cons_succ, List.set_cons_zero]
          refine anyG_one 8 _ (by kernel_rfl) rfl rfl ?_
          refine goUpon_val _ _ (exec_alloc_nd rfl _ _) ⟨⟨_, a2⟩, rfl⟩ ?_
          rw [hsz]
          change anyG _ _ _ _ _ _ _ (Act.put _ (some 11) _) _
          simp only [Act.put, List.setIfInBounds_toArray, List.set_cons_succ, List.set_cons_zero]
          refine anyG_one 10 _ (by kernel_rfl) rfl rfl ?_
          refine goUpon_skip _ (exec_store_nd (.tmp 11) (.tmp 32) rfl (X.heap.size + 1) n1 rfl rfl zcells k2 rfl) ⟨⟨_, b2⟩, rfl⟩ ?_
          change anyG _ _ _ _ _ _ _ (Act.put _ none _) _
          simp only [Act.put]
          refine anyG_one 11 _ (by kernel_rfl) rfl rfl ?_
          refine goUpon_skip _ (exec_store_nd (.tmp 12) (.tmp 36) rfl X.heap.size n2 rfl rfl zcells p1 rfl) ⟨⟨_, c2'⟩, rfl⟩ ?_
          change anyG _ _ _ _ _ _ _ (Act.put _ none _) _
          simp only [Act.put]
          refine anyG_end (by kernel_rfl) ?_
          simp only [Exit.then]
          go_wp2_with fail
          go_meet
          exact ⟨X.heap.size + 1, X.heap.size, rfl, rfl, r2, q2, by omega, by omega, by omega, c2'⟩
      case rest =>
        obtain ⟨b1, b2, rfl, rfl, h1, h2, hne, hb1, hb2, hBd⟩ := hcut
        obtain ⟨wb, hwb⟩ : ∃ wb, wb = wc := ⟨_, rfl⟩
        subst hwb
        have H1 := Lib.hid h1
        have H2 := Lib.hid h2
        have HBD := Lib.hid hBd
        have hzd := hBd.size
        have l1 : b1 < wb.heap.size := (Array.getElem?_eq_some_iff.1 h1).1
        have l2 : b2 < wb.heap.size := (Array.getElem?_eq_some_iff.1 h2).1
        clear h1 h2 hBd
        go_upto_region 5 with (fail)
        go_cut [13, 14] from 15 (fun s13 s14 wx => ∃ b3 b4, s13 = .pointer (some ⟨b3, 0, none⟩) ∧ s14 = .pointer (some ⟨b4, 0, none⟩) ∧ NBlk wx b3 n1 ∧ NBlk wx b4 n2 ∧ b3 ≠ b4 ∧ wb.heap.size ≤ b3 ∧ wb.heap.size ≤ b4 ∧ Below wb.heap.size wb wx)
        case first =>
          refine region_reads (C := fun w' => ∃ u : Ext wb, w' = u.1) [0, 1] 4 (by kernel_rfl) (by kernel_rfl) (ext_self wb) ?_
          simp only [List.filterMap_cons, List.filterMap_nil, List.getElem?_cons_zero, List.getElem?_cons_succ]
          change wpQuiet _ _ _ _ (_ :: _ :: []) _
          refine quiet_load_at rfl (.tmp 11) rfl (.pointer (some ⟨b1, 0, none⟩)) rfl n1 (by rintro _ ⟨u, rfl⟩; exact NBlk.loadAt ((u.2.block b1 l1).trans H1.out)) ?_
          simp only [Act.put, List.setIfInBounds_toArray, List.set_cons_succ, List.set_cons_zero]
          refine quiet_load_at rfl (.tmp 12) rfl (.pointer (some ⟨b2, 0, none⟩)) rfl n2 (by rintro _ ⟨u, rfl⟩; exact NBlk.loadAt ((u.2.block b2 l2).trans H2.out)) ?_
          simp only [Act.put, List.setIfInBounds_toArray, List.set_cons_succ, List.set_cons_zero]
          refine wpQuiet_nil ?_
          obtain ⟨X, hX⟩ : ∃ X, X = wb.drew := ⟨_, rfl⟩
          have hbx : Below wb.heap.size wb X := by rw [hX]; exact (Below.refl _ _).drew
          rw [← hX]
          clear hX
          have hzx := hbx.size
          have a1 := hbx.alloc hzx (.cells zcells 37)
          have a2 := a1.alloc a1.size (.cells zcells 37)
          have k1 : ((X.alloc (.cells zcells 37)).alloc (.cells zcells 37)).heap[X.heap.size]? = some (.cells zcells 37 (0, 0)) := (Below.heap_alloc _ _ _ (by simp)).trans (heap_alloc_new _ _)
          have k2 : ((X.alloc (.cells zcells 37)).alloc (.cells zcells 37)).heap[X.heap.size + 1]? = some (.cells zcells 37 (0, 0)) := heap_alloc2_new _ _ _
          have b1 := below_setRow a2 hzx n1.cells.toArray
          have b2 := below_setRow a2 (show wb.heap.size ≤ X.heap.size + 1 by omega) n1.cells.toArray
          have c1' := below_setRow b1 (show wb.heap.size ≤ X.heap.size + 1 by omega) n2.cells.toArray
          have c2' := below_setRow b2 hzx n2.cells.toArray
          have m1 := setRow_heap _ X.heap.size zcells n1.cells.toArray _ _ k1
          have m2 := setRow_heap _ (X.heap.size + 1) zcells n1.cells.toArray _ _ k2
          have p2 : (((X.alloc (.cells zcells 37)).alloc (.cells zcells 37)).setRow X.heap.size n1.cells.toArray).heap[X.heap.size + 1]? = some (.cells zcells 37 (0, 0)) := (setRow_other _ _ _ _ (by omega)).trans k2
          have p1 : (((X.alloc (.cells zcells 37)).alloc (.cells zcells 37)).setRow (X.heap.size + 1) n1.cells.toArray).heap[X.heap.size]? = some (.cells zcells 37 (0, 0)) := (setRow_other _ _ _ _ (by omega)).trans k1
          have hsz : (X.alloc (.cells zcells 37)).heap.size = X.heap.size + 1 := by simp
          have q1 := setRow_heap _ (X.heap.size + 1) zcells n2.cells.toArray _ _ p2
          have q2 := setRow_heap _ X.heap.size zcells n2.cells.toArray _ _ p1
          have r1 := (setRow_other _ (X.heap.size + 1) X.heap.size n2.cells.toArray (by omega)).trans m1
          have r2 := (setRow_other _ X.heap.size (X.heap.size + 1) n2.cells.toArray (by omega)).trans m2
          refine anyG_two 2 3 _ _ (by kernel_rfl) rfl rfl rfl rfl ?_ ?_
          · refine goUpon_val _ _ (exec_alloc_nd rfl _ _) ⟨⟨_, a1⟩, rfl⟩ ?_
            change anyG _ _ _ _ _ _ _ (Act.put _ (some 13) _) _
            simp only [Act.put, List.setIfInBounds_toArray, List.set_cons_succ, List.set_cons_zero]
            refine anyG_one 3 _ (by kernel_rfl) rfl rfl ?_
            refine goUpon_val _ _ (exec_alloc_nd rfl _ _) ⟨⟨_, a2⟩, rfl⟩ ?_
            rw [hsz]
            change anyG _ _ _ _ _ _ _ (Act.put _ (some 14) _) _
            simp only [Act.put, List.setIfInBounds_toArray, List.set_cons_succ, List.set_cons_zero]
            refine anyG_one 4 _ (by kernel_rfl) rfl rfl ?_
            refine goUpon_skip _ (exec_store_nd (.tmp 13) (.tmp 37) rfl X.heap.size n1 rfl rfl zcells k1 rfl) ⟨⟨_, b1⟩, rfl⟩ ?_
            change anyG _ _ _ _ _ _ _ (Act.put _ none _) _
            simp only [Act.put]
            refine anyG_one 5 _ (by kernel_rfl) rfl rfl ?_
            refine goUpon_skip _ (exec_store_nd (.tmp 14) (.tmp 38) rfl (X.heap.size + 1) n2 rfl rfl zcells p2 rfl) ⟨⟨_, c1'⟩, rfl⟩ ?_
            change anyG _ _ _ _ _ _ _ (Act.put _ none _) _
            simp only [Act.put]
            refine anyG_end (by kernel_rfl) ?_
            simp only [Exit.then]
            go_wp2_with fail
            go_meet
            exact ⟨X.heap.size, X.heap.size + 1, rfl, rfl, r1, q1, by omega, by omega, by omega, c1'⟩
          · refine goUpon_val _ _ (exec_alloc_nd rfl _ _) ⟨⟨_, a1⟩, rfl⟩ ?_
            change anyG _ _ _ _ _ _ _ (Act.put _ (some 14) _) _
            simp only [Act.put, List.setIfInBounds_toArray, List.set_cons_succ, List.set_cons_zero]
            refine anyG_one 2 _ (by kernel_rfl) rfl rfl ?_
            refine goUpon_val _ _ (exec_alloc_nd rfl _ _) ⟨⟨_, a2⟩, rfl⟩ ?_
            rw [hsz]
            change anyG _ _ _ _ _ _ _ (Act.put _ (some 13) _) _
            simp only [Act.put, List.setIfInBounds_toArray, List.set_cons_succ, List.set_cons_zero]
            refine anyG_one 4 _ (by kernel_rfl) rfl rfl ?_
            refine goUpon_skip _ (exec_store_nd (.tmp 13) (.tmp 37) rfl (X.heap.size + 1) n1 rfl rfl zcells k2 rfl) ⟨⟨_, b2⟩, rfl⟩ ?_
            change anyG _ _ _ _ _ _ _ (Act.put _ none _) _
            simp only [Act.put]
            refine anyG_one 5 _ (by kernel_rfl) rfl rfl ?_
            refine goUpon_skip _ (exec_store_nd (.tmp 14) (.tmp 38) rfl X.heap.size n2 rfl rfl zcells p1 rfl) ⟨⟨_, c2'⟩, rfl⟩ ?_
            change anyG _ _ _ _ _ _ _ (Act.put _ none _) _
            simp only [Act.put]
            refine anyG_end (by kernel_rfl) ?_
            simp only [Exit.then]
            go_wp2_with fail
            go_meet
            exact ⟨X.heap.size + 1, X.heap.size, rfl, rfl, r2, q2, by omega, by omega, by omega, c2'⟩
        case rest =>
          obtain ⟨b3, b4, rfl, rfl, h3, h4, hne2, hb3, hb4, hBe⟩ := hcut
          obtain ⟨w0, hw0⟩ : ∃ w0, w0 = wc := ⟨_, rfl⟩
          subst hw0
          obtain ⟨z, hz⟩ : ∃ z : Nd, z = { n1 with a := 0, b := 0 } := ⟨_, rfl⟩
          have hz2 : ({ n2 with a := 0, b := 0 } : Nd) = z := by
            rw [hz, ← HN2.out, ← HN1.out, ← HK.out, HC.out.node x hx]
            exact remap_zero f (nth P x)
          have hzr : Nd.rt z := by rw [hz, ← HN1.out]; exact HRT.out x hx
          have hq : eqN z z = true := by rw [eqN_law hzr hzr]; simp
          have l3 : b3 < w0.heap.size := (Array.getElem?_eq_some_iff.1 h3).1
          have l4 : b4 < w0.heap.size := (Array.getElem?_eq_some_iff.1 h4).1
          obtain ⟨W1, hW1⟩ : ∃ W1, W1 = w0.setCell ⟨b3, 17, none⟩ (.int .i64 0) := ⟨_, rfl⟩
          obtain ⟨W2, hW2⟩ : ∃ W2, W2 = W1.setCell ⟨b3, 18, none⟩ (.int .i64 0) := ⟨_, rfl⟩
          obtain ⟨W3, hW3⟩ : ∃ W3, W3 = W2.setCell ⟨b4, 17, none⟩ (.int .i64 0) := ⟨_, rfl⟩
          obtain ⟨W4, hW4⟩ : ∃ W4, W4 = W3.setCell ⟨b4, 18, none⟩ (.int .i64 0) := ⟨_, rfl⟩
          have e1 : NBlk W1 b3 { n1 with a := 0 } := by rw [hW1]; exact nblk_store h3 17 _ rfl
          have e2 : NBlk W2 b3 z := by rw [hW2, hz]; exact nblk_store e1 18 _ rfl
          have d1 : NBlk W1 b4 n2 := by rw [hW1]; exact (Below.heap_setCell w0 ⟨b3, 17, none⟩ _ b4 (fun e => hne2 e.symm)).trans h4
          have d2 : NBlk W2 b4 n2 := by rw [hW2]; exact (Below.heap_setCell W1 ⟨b3, 18, none⟩ _ b4 (fun e => hne2 e.symm)).trans d1
          have d3 : NBlk W3 b4 { n2 with a := 0 } := by rw [hW3]; exact nblk_store d2 17 _ rfl
          have d4 : NBlk W4 b4 z := by rw [hW4, ← hz2]; exact nblk_store d3 18 _ rfl
          have e3 : NBlk W3 b3 z := by rw [hW3]; exact (Below.heap_setCell W2 ⟨b4, 17, none⟩ _ b3 hne2).trans e2
          have e4 : NBlk W4 b3 z := by rw [hW4]; exact (Below.heap_setCell W3 ⟨b4, 18, none⟩ _ b3 hne2).trans e3
          have hB4 : Below wb.heap.size wb W4 := by rw [hW4, hW3, hW2, hW1]; exact (((hBe.setCell hb3 _).setCell hb3 _).setCell hb4 _).setCell hb4 _
          have u1 : NBlk W4 b1 n1 := (hB4.block b1 l1).trans H1.out
          have u2 : NBlk W4 b2 n2 := (hB4.block b2 l2).trans H2.out
          have hB04 : Below n0 w W4 := HBC.out.trans ((HBD.out.trans (hB4.mono hzd)).mono hzc)
          have hX4 : XS W4 mb := HXC.out.keep ((HBD.out.trans (hB4.mono hzd)).block mb HXC.out.lt)
          have c1 : w0.cell? ⟨b3, 17, none⟩ = some (.int .i64 n1.a) := (h3.cell 17).trans rfl
          have f1 := nblk_frozen h3 17
          have c2 : W1.cell? ⟨b3, 18, none⟩ = some (.int .i64 n1.b) := (e1.cell 18).trans rfl
          have f2 := nblk_frozen e1 18
          have c3 : W2.cell? ⟨b4, 17, none⟩ = some (.int .i64 n2.a) := (d2.cell 17).trans rfl
          have f3 := nblk_frozen d2 17
          have c4 : W3.cell? ⟨b4, 18, none⟩ = some (.int .i64 n2.b) := (d3.cell 18).trans rfl
          have f4 := nblk_frozen d3 18
          have C1 := Lib.hid (And.intro c1 f1)
          have C2 := Lib.hid (And.intro c2 f2)
          have C3 := Lib.hid (And.intro c3 f3)
          have C4 := Lib.hid (And.intro c4 f4)
          have Y1 := Lib.hid hW1
          have Y2 := Lib.hid hW2
          have Y3 := Lib.hid hW3
          have Y4 := Lib.hid hW4
          have E4 := Lib.hid e4
          have D4 := Lib.hid d4
          have U1 := Lib.hid u1
          have U2 := Lib.hid u2
          have hG04 : w.grownBy W4 (some mb) := grown_trans HGC.out (grown_below (HBD.out.trans (hB4.mono hzd)) (some mb))
          have HG04 := Lib.hid hG04
          have HB04 := Lib.hid hB04
          have HX4 := Lib.hid hX4
          have HQ1 := Lib.hid hq
          clear hG04 hz hz2 hzr hq e1 e2 d1 d2 d3 d4 e3 e4 hB4 u1 u2 hB04 hX4 hBe h3 h4
          clear hW1 hW2 hW3 hW4 c1 f1 c2 f2 c3 f3 c4 f4
          go_upto_region 7 with (first | (refine wl_set_int rfl (.tmp 39) _ rfl b3 17 0 _ rfl rfl C1.out.1 C1.out.2 ?_; rw [← Y1.out]) | (refine wl_set_int rfl (.tmp 40) _ rfl b3 18 0 _ rfl rfl C2.out.1 C2.out.2 ?_; rw [← Y2.out]) | (refine wl_set_int rfl (.tmp 41) _ rfl b4 17 0 _ rfl rfl C3.out.1 C3.out.2 ?_; rw [← Y3.out]) | (refine wl_set_int rfl (.tmp 42) _ rfl b4 18 0 _ rfl rfl C4.out.1 C4.out.2 ?_; rw [← Y4.out]))
          clear C1 C2 C3 C4 Y1 Y2 Y3 Y4
          simp only [Act.put]
          have hki := HKI.out x hxl
          rw [HN1.out] at hki
          have hkr : ∀ c ∈ kids n1, S c ∧ c < x := fun c hcm => by
            rw [← HN1.out] at hcm
            exact ⟨HC.out.down x hx c hcm, HAC.out x hxl c hcm⟩
          have hn2 : n2 = remap f n1 := by rw [← HN2.out, ← HN1.out, ← HK.out]; exact HC.out.node x hx
          have hcall : ∀ (c : Nat) (W : World), S c → c < x → XS W mb → Below n0 w W → Calls Try.prog 10 #[.slice (some ⟨g1, o1, none⟩) P.length cP, .int .i64 c, .slice (some ⟨g2, o2, none⟩) Q.length cQ, .int .i64 (f c), .map (some mb)] W (TrPost mb W) := fun c W hs hcx hXW hBW =>
            IH.out c hcx hs W (HP.out.keep hBW.size (fun g hg _ => hBW.block g hg)) (HQ.out.keep hBW.size (fun g hg _ => hBW.block g hg)) hXW (Nat.le_trans hn hBW.size)
          have HCALL := Lib.hid hcall
          have u1c : ∀ j v, n1.cells[j]? = some v → W4.cell? ⟨b1, j, none⟩ = some v := fun j v hv => (U1.out.cell j).trans hv
          have u2c : ∀ j v, n2.cells[j]? = some v → W4.cell? ⟨b2, j, none⟩ = some v := fun j v hv => (U2.out.cell j).trans hv
          have ck := u1c 0 _ rfl
          by_cases h5 : n1.kind = 5
          · have hkx : kids n1 = [n1.a.toNat, n1.b.toNat] := by unfold kids; rw [if_pos h5]
            have hkI : kidsI n1 = [n1.a, n1.b] := by unfold kidsI; rw [if_pos h5]
            rw [hkI, hkx] at hki
            simp only [List.map_cons, List.map_nil, List.cons.injEq, and_true] at hki
            obtain ⟨hea, heb⟩ := hki
            obtain ⟨ca, hca⟩ : ∃ ca, n1.a.toNat = ca := ⟨_, rfl⟩
            obtain ⟨cb, hcb⟩ : ∃ cb, n1.b.toNat = cb := ⟨_, rfl⟩
            have ka := hkr ca (by rw [hkx, hca]; simp)
            have kb := hkr cb (by rw [hkx, hcb]; simp)
            have ca1 : W4.cell? ⟨b1, 17, none⟩ = some (.int .i64 (ca : Nat)) := by rw [u1c 17 (.int .i64 n1.a) rfl, hea, hca]
            have ca2 : W4.cell? ⟨b2, 17, none⟩ = some (.int .i64 (f ca : Nat)) := by
              rw [u2c 17 (.int .i64 n2.a) rfl, hn2]
              unfold remap
              rw [if_pos h5, hca]
            have cl1 := HCALL.out ca W4 ka.1 ka.2 HX4.out HB04.out
            have ckk : (n1.kind : Int) = 5 := by rw [h5]; rfl
            rw [ckk] at ck
            have CL1 := Lib.hid cl1
            have KB := Lib.hid kb
            have HEB := Lib.hid heb
            have HCB := Lib.hid hcb
            have HN2b := Lib.hid hn2
            have H5 := Lib.hid h5
            have HKR := Lib.hid hkr
            clear cl1 kb ka hea heb hca hcb hn2 hkx hkI u1c u2c hcall ckk hkr
            go_wp2_with (first | (refine wl_load_nd rfl (.tmp 13) rfl (.pointer (some ⟨b3, 0, none⟩)) rfl z E4.out.loadAt ?_) | (refine wl_load_nd rfl (.tmp 14) rfl (.pointer (some ⟨b4, 0, none⟩)) rfl z D4.out.loadAt ?_) | (refine wl_val rfl _ (exec_neq_nd (.tmp 43) (.tmp 44) _ rfl z z rfl rfl) ?_; rw [HQ1.out]))
            (with_reducible refine CL1.out.mono ?_)
            rintro e W5 ⟨rfl, hX5, hG5⟩
            have hbm : b1 ≠ mb := by have := HXC.out.lt; omega
            have hbm2 : b2 ≠ mb := by have := HXC.out.lt; omega
            have cb0 : W5.cell? ⟨b1, 0, none⟩ = some (.int .u8 5) := by
              rw [World.cell?_of_block (a := ⟨b1, 0, none⟩) (hG5.block b1 (Array.getElem?_eq_some_iff.1 U1.out).1 (by simpa using hbm))]
              exact ck
            have cb1 : W5.cell? ⟨b1, 18, none⟩ = some (.int .i64 (cb : Nat)) := by
              rw [World.cell?_of_block (a := ⟨b1, 18, none⟩) (hG5.block b1 (Array.getElem?_eq_some_iff.1 U1.out).1 (by simpa using hbm)), U1.out.cell 18, ← HCB.out, ← HEB.out]
              rfl
            have cb2 : W5.cell? ⟨b2, 18, none⟩ = some (.int .i64 (f cb : Nat)) := by
              rw [World.cell?_of_block (a := ⟨b2, 18, none⟩) (hG5.block b2 (Array.getElem?_eq_some_iff.1 U2.out).1 (by simpa using hbm2)), U2.out.cell 18, HN2b.out]
              unfold remap
              rw [if_pos H5.out, ← HCB.out]
              rfl
            have hG05 := grown_trans HG04.out hG5
            have hB05 : Below n0 w W5 := (Below.refl n0 w).grown hG05 hn (fun r e => by obtain rfl := Option.some.inj e; exact hmb)
            have cl2 := HCALL.out cb W5 KB.out.1 KB.out.2 hX5 hB05
            have CL2 := Lib.hid cl2
            have HG5 := Lib.hid hG05
            clear cl2 hG05 hB05 hG5 hX5 ck ca1 ca2 CL1
            go_wp2_with fail
            (with_reducible refine CL2.out.mono ?_)
            rintro e W6 ⟨rfl, hX6, hG6⟩
            have HX6 := Lib.hid hX6
            have HG6 := Lib.hid (grown_trans HG5.out hG6)
            clear hX6 hG6 cb0 cb1 cb2 CL2
            go_wp2_with fail
            go_ret
            exact ⟨rfl, HX6.out, HG6.out⟩
          · by_cases h6 : n1.kind = 6
            · have hkx : kids n1 = [n1.a.toNat] := by unfold kids; rw [if_neg h5, if_pos h6]
              have hkI : kidsI n1 = [n1.a] := by unfold kidsI; rw [if_neg h5, if_pos h6]
              rw [hkI, hkx] at hki
              simp only [List.map_cons, List.map_nil, List.cons.injEq, and_true] at hki
              obtain ⟨ca, hca⟩ : ∃ ca, n1.a.toNat = ca := ⟨_, rfl⟩
              have ka := hkr ca (by rw [hkx, hca]; simp)
              have ca1 : W4.cell? ⟨b1, 17, none⟩ = some (.int .i64 (ca : Nat)) := by rw [u1c 17 (.int .i64 n1.a) rfl, hki, hca]
              have ca2 : W4.cell? ⟨b2, 17, none⟩ = some (.int .i64 (f ca : Nat)) := by
                rw [u2c 17 (.int .i64 n2.a) rfl, hn2]
                unfold remap
                rw [if_neg h5, if_pos h6, hca]
              have cl1 := HCALL.out ca W4 ka.1 ka.2 HX4.out HB04.out
              have ckk : (n1.kind : Int) = 6 := by rw [h6]; rfl
              rw [ckk] at ck
              have CL1 := Lib.hid cl1
              clear cl1 ka hki hca hn2 hkx hkI u1c u2c hcall ckk hkr h5 h6
              go_wp2_with (first | (refine wl_load_nd rfl (.tmp 13) rfl (.pointer (some ⟨b3, 0, none⟩)) rfl z E4.out.loadAt ?_) | (refine wl_load_nd rfl (.tmp 14) rfl (.pointer (some ⟨b4, 0, none⟩)) rfl z D4.out.loadAt ?_) | (refine wl_val rfl _ (exec_neq_nd (.tmp 43) (.tmp 44) _ rfl z z rfl rfl) ?_; rw [HQ1.out]))
              (with_reducible refine CL1.out.mono ?_)
              rintro e W5 ⟨rfl, hX5, hG5⟩
              have hbm : b1 ≠ mb := by have := HXC.out.lt; omega
              have cb0 : W5.cell? ⟨b1, 0, none⟩ = some (.int .u8 6) := by
                rw [World.cell?_of_block (a := ⟨b1, 0, none⟩) (hG5.block b1 (Array.getElem?_eq_some_iff.1 U1.out).1 (by simpa using hbm))]
                exact ck
              have HX5 := Lib.hid hX5
              have HG5 := Lib.hid (grown_trans HG04.out hG5)
              clear hX5 hG5 ck ca1 ca2 CL1
              go_wp2_with fail
              go_ret
              exact ⟨rfl, HX5.out, HG5.out⟩
            · have h7 : n1.kind < 5 := by have := HKD.out x hxl; rw [HN1.out] at this; omega
              obtain ⟨K, hK⟩ : ∃ K : Int, K = (n1.kind : Int) := ⟨_, rfl⟩
              rw [← hK] at ck
              have k1 : ¬ (5 : Int) ≤ K := by omega
              have k2 : decide ((5 : Int) ≤ K) = false := by rw [decide_eq_false_iff_not]; exact k1
              have k3 : (K == 5) = false := by rw [beq_eq_false_iff_ne]; omega
              have k4 : (K != 5) = true := by rw [bne, k3]; rfl
              have k5 : decide (K ≥ 5) = false := by rw [decide_eq_false_iff_not]; exact k1
              clear hki hn2 u1c u2c hcall hkr h5 h6 h7 hK
              go_wp2_with (first | (refine wl_load_nd rfl (.tmp 13) rfl (.pointer (some ⟨b3, 0, none⟩)) rfl z E4.out.loadAt ?_) | (refine wl_load_nd rfl (.tmp 14) rfl (.pointer (some ⟨b4, 0, none⟩)) rfl z D4.out.loadAt ?_) | (refine wl_val rfl _ (exec_neq_nd (.tmp 43) (.tmp 44) _ rfl z z rfl rfl) ?_; rw [HQ1.out]))
              go_ret
              exact ⟨rfl, HX4.out, HG04.out⟩
end Go.Proofs.Ytlhdabpoljoobaa.flatw
