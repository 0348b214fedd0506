/- The walk of burnishlaw18.CheckPrograms. Conditions: the nodes lie in memory; three of strconv's variables hold what the program's text lays. -/
import Derived.Test.YtgblgolkajdfbaaGreatDoorProA
import Derived.Test.YtgblgolkajdfbaaGreatDoorProM
import Derived.Deep.DeepCutAuto
namespace Go.Proofs.YtgblgolkajdfbaaGreatDoor.chkw
open Go.RowKit
open Go.Proofs.YtgblgolkajdfbaaGreatDoor.lexw
open Go.Proofs.YtgblgolkajdfbaaGreatDoor.parw
open Go.Proofs.YtgblgolkajdfbaaGreatDoor.flow
open Go.Proofs.YtgblgolkajdfbaaGreatDoor.nodew
open Go.Proofs.YtgblgolkajdfbaaGreatDoor.words
open Go.Proofs.YtgblgolkajdfbaaGreatDoor.qt
open Go.BigFrame
attribute [local go_sem] parw.run_store_float

theorem NArg.form {W : World} {B : Nat} {v : Value} {l : List Nd} (h : NArg W B v l) : ∃ A c, v = .slice A l.length c := by
  obtain ⟨A, c, hv, _⟩ := h
  exact ⟨A, c, hv⟩

theorem wl_val_g {P : Program} {ops : Array Oper} {rest : List Oper} {o : Oper} {a : Act} {w w' : World} {Q : Exit → Act → World → Prop} (hgd : Region.wanted o (yielded ops a.tmps) = true) (v : Value) (hr : (execOp a.eval o).run P w = .ok (.value v) w')
    (h : wpList P ops Q rest (a.put o.dst v) w') : wpList P ops Q (o :: rest) a w :=
  wpList_wanted w hgd fun K hK => by
    unfold Oper.wp
    rw [hr]
    exact hK _ _ h
theorem wl_load_nd {ops : Array Oper} {rest : List Oper} {o : Oper} {a : Act} {w : World} {Q : Exit → Act → World → Prop} (hgd : o.guard = none) (x : Operand) (ho : o.op = .load 25 x) (ad : Value) (hx : a.eval x = ad) (n : Nd)
    (hl : (Instr.loadAt 25 ad).run Tryz.prog w = .ok n.val w) (h : wpList Tryz.prog ops Q rest (a.put o.dst n.val) w) : wpList Tryz.prog ops Q (o :: rest) a w := by
  refine wl_val hgd _ ?_ h
  unfold execOp
  simp only [ho, hx, hl, Sem.run_bind, Sem.run_pure, Result.andThen_ok]
theorem nilArg (W : World) (B : Nat) : NRead W B (.slice none 0 0) [] := ⟨none, 0, rfl, fun h => absurd rfl h⟩

set_option maxRecDepth 100000 in
set_option maxHeartbeats 4000000 in
theorem programs_any (B : Nat) (v : Value) (l : List Nd) (hok : ∀ x ∈ l, x.ok) (n : Nd) (hn : n.ok) (at_ : Nat) (hat : at_ ≤ 255) (w : World) (hw : Laid B w) (hr : NArg w B v l) (hB : B ≤ w.heap.size) :
    Calls Tryz.prog 6 #[v, n.val, .int .u8 at_] w fun e w' => e = .returned (.bool true) ∧ Below w.heap.size w w' := by
  obtain ⟨A, c, rfl⟩ := hr.form
  have HW := Lib.hid hw
  have HR := Lib.hid hr
  have HOK := Lib.hid hok
  clear hw hr hok
  go_enter Tryz.func6, Tryz.ntmps6
  go_upto_region 0 with (fail)
  refine wp_region_lit ?_
  refine wl_val rfl _ (exec_box (.tmp 1) rfl _ _ n rfl) ?_
  have hbx := (Below.refl w.heap.size w).alloc (Nat.le_refl _) (.cells n.cells.toArray 25)
  have hnb := heap_alloc_new w (.cells n.cells.toArray 25)
  obtain ⟨W, hW⟩ : ∃ W, W = w.alloc (.cells n.cells.toArray 25) := ⟨_, rfl⟩
  have hWz : w.heap.size < W.heap.size := by rw [hW]; simp
  rw [← hW] at hbx hnb ⊢
  have hG : Laid B W := Laid.stable B w W none HW.out (grown_below hbx none) (fun r e => by cases e)
  have hv : NArg W B (.slice A l.length c) l := NArg.ext HR.out hbx
  have HBX := Lib.hid hbx
  have HG := Lib.hid hG
  have HV := Lib.hid hv
  have HNB := Lib.hid hnb
  clear hW hG hv hbx hnb HW HR
  by_cases h60 : 60 < l.length
  · have h60' : (60 : Int) < (l.length : Int) := by omega
    go_wp2_with fail
    refine (awake18 B W HG.out (by omega)).mono ?_
    rintro e wy ⟨rfl, hBy⟩
    go_wp2_with fail
    go_ret
    exact ⟨rfl, HBX.out.trans (hBy.mono (by omega))⟩
  · have h60' : ¬ (60 : Int) < (l.length : Int) := by omega
    go_upto_region 3 with (fail)
    go_cut [7] (fun s7 wx => wx.ownsRow W.heap.size 25 19 s7 (l ++ [n]).length (ncells (l ++ [n])) ∧ Below W.heap.size W wx)
    case first =>
      refine region_reads (C := fun w' => ∃ u : Ext W, w' = u.1) [1, 3] 5 (by kernel_rfl) (by kernel_rfl) (ext_self W) ?_
      simp only [List.filterMap_cons, List.filterMap_nil, List.getElem?_cons_zero, List.getElem?_cons_succ]
      change wpQuiet _ _ _ _ (_ :: _ :: []) _
      go_big_quiet_step (fail)
      refine quiet_load_nd rfl (.tmp 4) rfl w.heap.size rfl n (by rintro _ ⟨u, rfl⟩; exact (u.2.block w.heap.size (by omega)).trans HNB.out) ?_
      simp only [Act.put, List.setIfInBounds_toArray, List.set_cons_succ, List.set_cons_zero]
      refine wpQuiet_nil ?_
      obtain ⟨X, hX⟩ : ∃ X, X = W.drew := ⟨_, rfl⟩
      have hx0 : Below W.heap.size W X := by rw [hX]; exact (Below.refl _ _).drew
      rw [← hX]
      clear hX
      refine anyG_two 0 4 _ _ (by kernel_rfl) rfl rfl rfl rfl ?_ ?_
      · refine goUpon_val _ _ (exec_bs0 rfl _ _) ⟨⟨_, hx0.alloc hx0.size _⟩, rfl⟩ ?_
        change anyG _ _ _ _ _ _ _ (Act.put _ (some 14) _) _
        simp only [Act.put, List.setIfInBounds_toArray, List.set_cons_succ, List.set_cons_zero]
        have ho1 := own_bs0 X W.heap.size hx0.size
        have hx1 := hx0.alloc hx0.size (.cells #[] 25)
        obtain ⟨X1, hX1⟩ : ∃ Y, Y = X.alloc (.cells #[] 25) := ⟨_, rfl⟩
        have hz1 : X1.heap.size = X.heap.size + 1 := by rw [hX1]; simp
        rw [← hX1] at ho1 hx1 ⊢
        clear hX1
        refine anyG_two 2 4 _ _ (by kernel_rfl) rfl rfl rfl rfl ?_ ?_
        · obtain ⟨v16, X2, hrun, ho2, hg⟩ := app_run W.heap.size _ 0 [] ho1 B (.slice A l.length c) l (NArg.ext HV.out hx1) (by omega) hx1.size
          refine goUpon_val _ _ (hrun _ _ (.tmp 14) (.tmp 15) rfl rfl rfl) ⟨⟨_, hx1.grown hg hx1.size (fun r e => nodew.own_base ho1 e)⟩, rfl⟩ ?_
          change anyG _ _ _ _ _ _ _ (Act.put _ (some 16) _) _
          simp only [Act.put, List.setIfInBounds_toArray, List.set_cons_succ, List.set_cons_zero]
          have hx2 := hx1.grown hg hx1.size (fun r e => nodew.own_base ho1 e)
          refine anyG_one 4 _ (by kernel_rfl) rfl rfl ?_
          refine goUpon_val _ _ (exec_bs1 (.tmp 17) rfl _ _ n rfl) ⟨⟨_, hx2.alloc hx2.size _⟩, rfl⟩ ?_
          change anyG _ _ _ _ _ _ _ (Act.put _ (some 18) _) _
          simp only [Act.put, List.setIfInBounds_toArray, List.set_cons_succ, List.set_cons_zero]
          have hn3 := heap_alloc_new X2 (.cells n.cells.toArray 25)
          have ho3 := ho2.alloc (.cells n.cells.toArray 25)
          have hx3 := hx2.alloc hx2.size (.cells n.cells.toArray 25)
          obtain ⟨X3, hX3⟩ : ∃ Y, Y = X2.alloc (.cells n.cells.toArray 25) := ⟨_, rfl⟩
          have hz3 : X3.heap.size = X2.heap.size + 1 := by rw [hX3]; simp
          rw [← hX3] at hn3 hx3 ho3 ⊢
          clear hX3
          refine anyG_one 5 _ (by kernel_rfl) rfl rfl ?_
          obtain ⟨v19, X4, hrun2, ho4, hg2⟩ := app_run W.heap.size _ (0 + l.length) ([] ++ ncells l) ho3 X3.heap.size _ [n] (NArg.one _ n X3 hn3) (by simp; omega) hx3.size
          refine goUpon_val _ _ (hrun2 _ _ (.tmp 16) (.tmp 18) rfl rfl rfl) ⟨⟨_, hx3.grown hg2 hx3.size (fun r e => nodew.own_base ho3 e)⟩, rfl⟩ ?_
          change anyG _ _ _ _ _ _ _ (Act.put _ (some 19) _) _
          simp only [Act.put, List.setIfInBounds_toArray, List.set_cons_succ, List.set_cons_zero]
          have hx4 := hx3.grown hg2 hx3.size (fun r e => nodew.own_base ho3 e)
          refine anyG_one 6 _ (by kernel_rfl) rfl rfl ?_
          refine goUpon_val v19 _ rfl ⟨⟨_, hx4⟩, rfl⟩ ?_
          change anyG _ _ _ _ _ _ _ (Act.put _ (some 7) _) _
          simp only [Act.put, List.setIfInBounds_toArray, List.set_cons_succ, List.set_cons_zero]
          refine anyG_end (by kernel_rfl) ?_
          simp only [Exit.then]
          go_wp2_with fail
          go_meet
          exact ⟨by rw [ncells_app, List.length_append]; simpa [ncells] using ho4, hx4⟩
        · refine goUpon_val _ _ (exec_bs1 (.tmp 17) rfl _ _ n rfl) ⟨⟨_, hx1.alloc hx1.size _⟩, rfl⟩ ?_
          change anyG _ _ _ _ _ _ _ (Act.put _ (some 18) _) _
          simp only [Act.put, List.setIfInBounds_toArray, List.set_cons_succ, List.set_cons_zero]
          have hn2 := heap_alloc_new X1 (.cells n.cells.toArray 25)
          have ho2 := ho1.alloc (.cells n.cells.toArray 25)
          have hx2 := hx1.alloc hx1.size (.cells n.cells.toArray 25)
          obtain ⟨X2, hX2⟩ : ∃ Y, Y = X1.alloc (.cells n.cells.toArray 25) := ⟨_, rfl⟩
          have hz2 : X2.heap.size = X1.heap.size + 1 := by rw [hX2]; simp
          rw [← hX2] at hn2 hx2 ho2 ⊢
          clear hX2
          refine anyG_one 2 _ (by kernel_rfl) rfl rfl ?_
          obtain ⟨v16, X3, hrun, ho3, hg⟩ := app_run W.heap.size _ 0 [] ho2 B (.slice A l.length c) l (NArg.ext HV.out hx2) (by omega) hx2.size
          refine goUpon_val _ _ (hrun _ _ (.tmp 14) (.tmp 15) rfl rfl rfl) ⟨⟨_, hx2.grown hg hx2.size (fun r e => nodew.own_base ho2 e)⟩, rfl⟩ ?_
          change anyG _ _ _ _ _ _ _ (Act.put _ (some 16) _) _
          simp only [Act.put, List.setIfInBounds_toArray, List.set_cons_succ, List.set_cons_zero]
          have hx3 := hx2.grown hg hx2.size (fun r e => nodew.own_base ho2 e)
          have hn3 := (hg.block _ (Array.getElem?_eq_some_iff.1 hn2).1 (by simp [Value.ownBlock]; omega)).trans hn2
          refine anyG_one 5 _ (by kernel_rfl) rfl rfl ?_
          obtain ⟨v19, X4, hrun2, ho4, hg2⟩ := app_run W.heap.size _ (0 + l.length) ([] ++ ncells l) ho3 X3.heap.size _ [n] (NArg.one _ n X3 hn3) (by simp; omega) hx3.size
          refine goUpon_val _ _ (hrun2 _ _ (.tmp 16) (.tmp 18) rfl rfl rfl) ⟨⟨_, hx3.grown hg2 hx3.size (fun r e => nodew.own_base ho3 e)⟩, rfl⟩ ?_
          change anyG _ _ _ _ _ _ _ (Act.put _ (some 19) _) _
          simp only [Act.put, List.setIfInBounds_toArray, List.set_cons_succ, List.set_cons_zero]
          have hx4 := hx3.grown hg2 hx3.size (fun r e => nodew.own_base ho3 e)
          refine anyG_one 6 _ (by kernel_rfl) rfl rfl ?_
          refine goUpon_val v19 _ rfl ⟨⟨_, hx4⟩, rfl⟩ ?_
          change anyG _ _ _ _ _ _ _ (Act.put _ (some 7) _) _
          simp only [Act.put, List.setIfInBounds_toArray, List.set_cons_succ, List.set_cons_zero]
          refine anyG_end (by kernel_rfl) ?_
          simp only [Exit.then]
          go_wp2_with fail
          go_meet
          exact ⟨by rw [ncells_app, List.length_append]; simpa [ncells] using ho4, hx4⟩
      · refine goUpon_val _ _ (exec_bs1 (.tmp 17) rfl _ _ n rfl) ⟨⟨_, hx0.alloc hx0.size _⟩, rfl⟩ ?_
        change anyG _ _ _ _ _ _ _ (Act.put _ (some 18) _) _
        simp only [Act.put, List.setIfInBounds_toArray, List.set_cons_succ, List.set_cons_zero]
        have hn1 := heap_alloc_new X (.cells n.cells.toArray 25)
        have hx1 := hx0.alloc hx0.size (.cells n.cells.toArray 25)
        obtain ⟨X1, hX1⟩ : ∃ Y, Y = X.alloc (.cells n.cells.toArray 25) := ⟨_, rfl⟩
        have hz1 : X1.heap.size = X.heap.size + 1 := by rw [hX1]; simp
        rw [← hX1] at hn1 hx1 ⊢
        clear hX1
        refine anyG_one 0 _ (by kernel_rfl) rfl rfl ?_
        refine goUpon_val _ _ (exec_bs0 rfl _ _) ⟨⟨_, hx1.alloc hx1.size _⟩, rfl⟩ ?_
        change anyG _ _ _ _ _ _ _ (Act.put _ (some 14) _) _
        simp only [Act.put, List.setIfInBounds_toArray, List.set_cons_succ, List.set_cons_zero]
        have ho2 := own_bs0 X1 W.heap.size hx1.size
        have hn2 := (Below.heap_alloc X1 (.cells #[] 25) _ (Array.getElem?_eq_some_iff.1 hn1).1).trans hn1
        have hx2 := hx1.alloc hx1.size (.cells #[] 25)
        obtain ⟨X2, hX2⟩ : ∃ Y, Y = X1.alloc (.cells #[] 25) := ⟨_, rfl⟩
        have hz2 : X2.heap.size = X1.heap.size + 1 := by rw [hX2]; simp
        rw [← hX2] at ho2 hx2 hn2 ⊢
        clear hX2
        refine anyG_one 2 _ (by kernel_rfl) rfl rfl ?_
        obtain ⟨v16, X3, hrun, ho3, hg⟩ := app_run W.heap.size _ 0 [] ho2 B (.slice A l.length c) l (NArg.ext HV.out hx2) (by omega) hx2.size
        refine goUpon_val _ _ (hrun _ _ (.tmp 14) (.tmp 15) rfl rfl rfl) ⟨⟨_, hx2.grown hg hx2.size (fun r e => nodew.own_base ho2 e)⟩, rfl⟩ ?_
        change anyG _ _ _ _ _ _ _ (Act.put _ (some 16) _) _
        simp only [Act.put, List.setIfInBounds_toArray, List.set_cons_succ, List.set_cons_zero]
        have hx3 := hx2.grown hg hx2.size (fun r e => nodew.own_base ho2 e)
        have hn3 := (hg.block _ (Array.getElem?_eq_some_iff.1 hn2).1 (by simp [Value.ownBlock]; omega)).trans hn2
        refine anyG_one 5 _ (by kernel_rfl) rfl rfl ?_
        obtain ⟨v19, X4, hrun2, ho4, hg2⟩ := app_run W.heap.size _ (0 + l.length) ([] ++ ncells l) ho3 X3.heap.size _ [n] (NArg.one _ n X3 hn3) (by simp; omega) hx3.size
        refine goUpon_val _ _ (hrun2 _ _ (.tmp 16) (.tmp 18) rfl rfl rfl) ⟨⟨_, hx3.grown hg2 hx3.size (fun r e => nodew.own_base ho3 e)⟩, rfl⟩ ?_
        change anyG _ _ _ _ _ _ _ (Act.put _ (some 19) _) _
        simp only [Act.put, List.setIfInBounds_toArray, List.set_cons_succ, List.set_cons_zero]
        have hx4 := hx3.grown hg2 hx3.size (fun r e => nodew.own_base ho3 e)
        refine anyG_one 6 _ (by kernel_rfl) rfl rfl ?_
        refine goUpon_val v19 _ rfl ⟨⟨_, hx4⟩, rfl⟩ ?_
        change anyG _ _ _ _ _ _ _ (Act.put _ (some 7) _) _
        simp only [Act.put, List.setIfInBounds_toArray, List.set_cons_succ, List.set_cons_zero]
        refine anyG_end (by kernel_rfl) ?_
        simp only [Exit.then]
        go_wp2_with fail
        go_meet
        exact ⟨by rw [ncells_app, List.length_append]; simpa [ncells] using ho4, hx4⟩
    case rest =>
      obtain ⟨ho, hx4⟩ := hcut
      have HO := Lib.hid ho
      have hbw := HBX.out.trans (hx4.mono (by omega))
      have hv := NArg.ext HV.out hx4
      have hnb := (hx4.block w.heap.size hWz).trans HNB.out
      have HV := Lib.hid hv
      have HNB := Lib.hid hnb
      have HBW := Lib.hid hbw
      have hzc := hx4.size
      have hG : Laid B wc := Laid.stable B W wc none HG.out (grown_below hx4 none) (fun r e => by cases e)
      have HG := Lib.hid hG
      clear hG ho hx4 hbw hv hnb HBX
      have hokA : ∀ x ∈ l ++ [n], x.ok := fun x hx => by
        rcases List.mem_append.1 hx with hx | hx
        · exact HOK.out x hx
        · have : x = n := by simpa using hx
          rw [this]; exact hn
      have hr1 := right_any wc.heap.size _ (l ++ [n]) hokA (by simp; omega) wc (NRead.of_own HO.out) (Nat.le_refl _)
      have hsn := rightP_snoc l n (by omega)
      obtain ⟨q2, hq2⟩ : ∃ q, rightP l = q := ⟨_, rfl⟩
      have hq20 : l.length = 0 → q2 = false := fun h => by rw [← hq2, List.eq_nil_of_length_eq_zero h]; rfl
      obtain ⟨q3, hq3⟩ : ∃ q, nodeOk n l.length = q := ⟨_, rfl⟩
      rw [hq2, hq3] at hsn
      rw [hsn] at hr1
      have HR1 := Lib.hid hr1
      have HQ2 := Lib.hid hq2
      have HQ3 := Lib.hid hq3
      clear hr1 hsn hq2 hq3 hokA
      go_upto_region 4 with (fail)
      obtain ⟨wd, hwd⟩ : ∃ wd, wd = wc := ⟨_, rfl⟩
      subst hwd
      go_cut [35] (fun s35 wx => s35 = .bool false ∧ Below wd.heap.size wd wx)
      case first =>
        go_wp2_with fail
        refine HR1.out.mono ?_
        rintro e wy ⟨rfl, hBy⟩
        have hvy := NArg.ext HV.out hBy
        have hnby : NBlk wy w.heap.size n := (hBy.block w.heap.size (by omega)).trans HNB.out
        have hry := right_any B _ l HOK.out (by omega) wy hvy.read (by have := hBy.size; omega)
        rw [HQ2.out] at hry
        have HRY := Lib.hid hry
        have HBY := Lib.hid hBy
        have HNBY := Lib.hid hnby
        clear hvy hnby hry hBy
        have hnode : ∀ u : World, Calls Tryz.prog 11 #[n.val, .int .i64 (l.length : Int)] u fun e w' => e = .returned (.bool q3) ∧ Below u.heap.size u w' := fun u => by
          rw [← HQ3.out]; exact node_any n hn.2 hn.1 _ u
        by_cases hl0 : l.length = 0
        · have e0 : ((l.length : Int) == 0) = true := by rw [beq_iff_eq]; omega
          have hd : decide (l.length = 0) = true := decide_eq_true hl0
          rw [hd]
          clear hl0 hd hq20
          cases q3
          all_goals
            go_wp2_with (first | (refine wpList_load_nd_g _ ?_ (.tmp 4) rfl w.heap.size rfl n HNBY.out ?_; rotate_right) | (go_at_call 11; refine (hnode _).mono ?_; rintro e wz ⟨rfl, hBz⟩))
            go_meet
            exact ⟨rfl, HBY.out.trans (hBz.mono HBY.out.size)⟩
        · have e0 : ((l.length : Int) == 0) = false := by rw [beq_eq_false_iff_ne]; omega
          have hd : decide (l.length = 0) = false := decide_eq_false hl0
          rw [hd]
          clear hl0 hd hq20
          cases q2
          · go_wp2_with fail
            refine HRY.out.mono ?_
            rintro e wz ⟨rfl, hBz⟩
            go_wp2_with fail
            go_meet
            exact ⟨rfl, HBY.out.trans (hBz.mono HBY.out.size)⟩
          · cases q3
            all_goals
              go_wp2_with fail
              refine HRY.out.mono ?_
              rintro e wz ⟨rfl, hBz⟩
              have hnz : NBlk wz w.heap.size n := (hBz.block w.heap.size (by have := HBY.out.size; omega)).trans HNBY.out
              go_wp2_with (first | (refine wpList_load_nd_g _ ?_ (.tmp 4) rfl w.heap.size rfl n hnz ?_; rotate_right) | (go_at_call 11; refine (hnode _).mono ?_; rintro e wx ⟨rfl, hBx⟩))
              go_meet
              exact ⟨rfl, HBY.out.trans ((hBz.mono HBY.out.size).trans (hBx.mono (by have := HBY.out.size; have := hBz.size; omega)))⟩
      case rest =>
        obtain ⟨rfl, hBx⟩ := hcut
        have hbw := HBW.out.trans (hBx.mono (by omega))
        have hv := NArg.ext HV.out hBx
        have hG : Laid B wc := Laid.stable B wd wc none HG.out (grown_below hBx none) (fun r e => by cases e)
        have hz2 := hBx.size
        have HBW := Lib.hid hbw
        have HV := Lib.hid hv
        have HG := Lib.hid hG
        have hr2 := right_any B _ l HOK.out (by omega) wc hv.read (by omega)
        rw [HQ2.out] at hr2
        have HR2 := Lib.hid hr2
        clear hbw hv hG hBx hr2 HNB HO HR1 HQ3 hq20
        go_wp2_with fail
        refine HR2.out.mono ?_
        rintro e wy ⟨rfl, hBy⟩
        have hby := HBW.out.trans (hBy.mono (by omega))
        have hvy := NArg.ext HV.out hBy
        have hGy : Laid B wy := Laid.stable B wc wy none HG.out (grown_below hBy none) (fun r e => by cases e)
        have hzy := hBy.size
        have HBY := Lib.hid hby
        have HVY := Lib.hid hvy
        have HGY := Lib.hid hGy
        clear hby hvy hGy hBy HR2 HV HG HBW
        cases q2 with
        | false =>
          go_wp2_with fail
          refine (awake18 B wy HGY.out (by omega)).mono ?_
          rintro e wz ⟨rfl, hBz⟩
          go_wp2_with fail
          go_ret
          exact ⟨rfl, HBY.out.trans (hBz.mono (by omega))⟩
        | true =>
          have hpr := (rightP_iff l).1 HQ2.out
          have hpos := hpr.2.1
          have HPR := Lib.hid hpr
          clear hpr
          go_wp2_with fail
          go_loopw [42] (fun i wr => ∃ k : Nat, k ≤ l.length ∧ i = .int .i64 k ∧ Below wy.heap.size wy wr) (fun i _ => l.length - (intOf i).toNat)
          case atStart => exact ⟨0, Nat.zero_le _, rfl, Below.refl _ _⟩
          case round =>
            obtain ⟨k, hk, rfl, hBr⟩ := hrel
            have hzr := hBr.size
            have hvr := NArg.ext HVY.out hBr
            have hGr : Laid B wr := Laid.stable B wy wr none HGY.out (grown_below hBr none) (fun r e => by cases e)
            have HVR := Lib.hid hvr
            have HGR := Lib.hid hGr
            have HBR := Lib.hid hBr
            clear hvr hGr hBr
            by_cases hkl : k < l.length
            · as_aux_lemma =>
              obtain ⟨x, hx⟩ : ∃ x, l[k] = x := ⟨_, rfl⟩
              have hxok : x.ok := HOK.out x (by rw [← hx]; exact List.getElem_mem hkl)
              have hxn : nodeOk x k = true := by rw [← hx]; exact HPR.out.1 k hkl
              have hA : ∃ g off, A = some (⟨g, off, none⟩ : Addr) := by
                obtain ⟨A', c', hv, _, _, hx'⟩ := HVR.out
                injection hv with e1
                obtain ⟨g, off, e, _⟩ := hx' (by intro e; rw [e] at hkl; simp at hkl)
                exact ⟨g, off, e1.trans e⟩
              obtain ⟨g, off, rfl⟩ := hA
              obtain ⟨A', c', hvA, hvx⟩ := HVR.out.read
              injection hvA with e1 e2 e3
              subst e1
              obtain ⟨hgl, hld⟩ := NRead.at hvx hkl
              have hld := hld wr rfl
              rw [hx] at hld
              have HLD := Lib.hid hld
              have HX := Lib.hid hxok
              have hk0 : (0 : Int) ≤ (k : Int) := by omega
              have hki : (k : Int) < (l.length : Int) := by omega
              obtain ⟨v1, hsl0, hrd⟩ := nd_from HVR.out 1 (by omega)
              have hsl : ∀ wx : World, (Instr.slice 26 (.slice (some ⟨g, off, none⟩) l.length c) (some (.int .i64 1)) none none).run Tryz.prog wx = .ok v1 wx := hsl0
              clear hsl0
              clear hld hxok hxn hvx e2 e3 hx
              go_upto_region 11 with (first
                | (refine wl_load_nd rfl (.tmp 44) rfl (.pointer (some ⟨g, off + k * 19, none⟩)) rfl x HLD.out ?_)
                | (refine wpList_store_row rfl 25 (.tmp 9) (.tmp 45) rfl wr.heap.size x.cells.toArray rfl rfl _ _ (heap_alloc_new wr _) (nd_info _) (by rw [nd_size]; rfl) (nd_one _) ?_))
              simp only [Act.put]
              have hxb : Below wr.heap.size wr ((wr.alloc (.cells zcells 25)).setRow wr.heap.size x.cells.toArray) := below_setRow ((Below.refl _ wr).alloc (Nat.le_refl _) _) (Nat.le_refl _) _
              have hxn : NBlk ((wr.alloc (.cells zcells 25)).setRow wr.heap.size x.cells.toArray) wr.heap.size x := setRow_heap _ _ _ _ _ _ (heap_alloc_new wr _)
              obtain ⟨X, hX⟩ : ∃ X, X = (wr.alloc (.cells zcells 25)).setRow wr.heap.size x.cells.toArray := ⟨_, rfl⟩
              have hXz : wr.heap.size < X.heap.size := by rw [hX]; simp
              have hXe : X = (wr.alloc (.cells #[.int .u8 0, .float .f64 0, .float .f64 0, .float .f64 0, .float .f64 0, .float .f64 0, .float .f64 0, .float .f64 0, .float .f64 0, .float .f64 0, .float .f64 0, .float .f64 0, .float .f64 0, .float .f64 0, .float .f64 0, .float .f64 0, .float .f64 0, .int .i64 0, .int .i64 0] 25)).setRow wr.heap.size x.cells.toArray := hX
              rw [← hX] at hxb hxn
              rw [← hXe]
              clear hX hXe
              obtain ⟨xb, hxb0⟩ : ∃ xb, xb = wr.heap.size := ⟨_, rfl⟩
              have hxbz : xb < X.heap.size := by omega
              rw [← hxb0] at hxn ⊢
              have hrdX := (hrd.keep hxb.size fun g _ hg => hxb.block g hg)
              have hrt := right_any B v1 (l.drop 1) (fun y hy => HOK.out y (List.mem_of_mem_drop hy)) (by rw [List.length_drop]; omega) X hrdX (by omega)
              have HXB := Lib.hid hxb
              have HXN := Lib.hid hxn
              have HRT := Lib.hid hrt
              have hkd : X.cell? ⟨xb, 0, none⟩ = some (.int .u8 x.kind) := (hxn.cell 0).trans rfl
              clear hxb0 hxb hxn hrt hrd hrdX HLD
              by_cases h5 : 5 ≤ x.kind
              · have h5' : (5 : Int) ≤ (x.kind : Int) := by omega
                have hnf := nodeOk_first x h5
                have hnode : ∀ u : World, Calls Tryz.prog 11 #[x.val, .int .i64 0] u fun e w' => e = .returned (.bool false) ∧ Below u.heap.size u w' := fun u => by
                  rw [← hnf]; exact node_any x HX.out.2 HX.out.1 0 u
                clear hnf
                go_wp2_with fail
                (with_reducible refine HRT.out.mono ?_)
                rintro e wz ⟨rfl, hBz⟩
                have hvz := NArg.ext (NArg.ext HVR.out HXB.out) hBz
                have hnz : NBlk wz xb x := (hBz.block xb hxbz).trans HXN.out
                have hzz := hBz.size
                have HBZ := Lib.hid hBz
                have hbs := bs0_run wz
                obtain ⟨q4, hq4⟩ : ∃ q, rightP (l.drop 1) = q := ⟨_, rfl⟩
                rw [hq4]
                have h2z := (Below.refl wz.heap.size wz).alloc (Nat.le_refl _) (.cells #[] 25)
                obtain ⟨v55, w55, hrun, ho5, hg5⟩ := app_run wz.heap.size _ 0 [] (own_bs0 wz wz.heap.size (Nat.le_refl _)) B (.slice (some ⟨g, off, none⟩) l.length c) l (NArg.ext hvz h2z) (by omega) h2z.size
                have h5b := h2z.grown hg5 h2z.size (fun r e => nodew.own_base (own_bs0 wz wz.heap.size (Nat.le_refl _)) e)
                have hz5 := h5b.size
                have hr5 := right_any w55.heap.size v55 l HOK.out (by omega) w55 (NRead.of_own (by simpa using ho5)) (Nat.le_refl _)
                rw [HQ2.out] at hr5
                have HR5 := Lib.hid hr5
                have H5B := Lib.hid h5b
                have HNZ := Lib.hid hnz
                clear hBz hvz hq4 h2z ho5 hg5 h5b hr5 hnz hkd hsl
                cases q4 with
                | true =>
                  go_wp2_with (first | (refine wl_val_g ?_ v55 (hrun _ _ (.tmp 53) (.tmp 54) rfl rfl rfl) ?_; rotate_right))
                  refine HR5.out.mono ?_
                  rintro e w6 ⟨rfl, hB6⟩
                  have hz6 := hB6.size
                  have hn6 : NBlk w6 xb x := (hB6.block xb (by omega)).trans ((H5B.out.block xb (by omega)).trans HNZ.out)
                  have HB6 := Lib.hid hB6
                  clear hB6
                  go_wp2_with (first | (refine wpList_load_nd_g _ ?_ (.tmp 9) rfl xb rfl x hn6 ?_; rotate_right) | (go_at_call 11; refine (hnode _).mono ?_; rintro e wq ⟨rfl, hBq⟩))
                  go_roundw
                  case rel => exact ⟨k + 1, by omega, by go_num, HBR.out.trans ((HXB.out.mono hzr).trans ((HBZ.out.mono (by omega)).trans ((H5B.out.mono (by omega)).trans ((HB6.out.mono (by omega)).trans (hBq.mono (by omega))))))⟩
                  case measure => simp [intOf]; omega
                | false =>
                  go_wp2_with (first | (refine wpList_load_nd_g _ ?_ (.tmp 9) rfl xb rfl x HNZ.out ?_; rotate_right) | (go_at_call 11; refine (hnode _).mono ?_; rintro e wq ⟨rfl, hBq⟩))
                  go_roundw
                  case rel => exact ⟨k + 1, by omega, by go_num, HBR.out.trans ((HXB.out.mono hzr).trans ((HBZ.out.mono (by omega)).trans (hBq.mono (by omega))))⟩
                  case measure => simp [intOf]; omega
              · have h5' : ¬ (5 : Int) ≤ (x.kind : Int) := by omega
                go_wp2_with fail
                go_roundw
                case rel => exact ⟨k + 1, by omega, by go_num, HBR.out.trans (HXB.out.mono hzr)⟩
                case measure => simp [intOf]; omega
            · obtain rfl : k = l.length := by omega
              clear hkl hk
              obtain ⟨kk, hkk⟩ : ∃ kk, 1 + at_ % l.length = kk := ⟨_, rfl⟩
              have hkk1 : 0 < kk ∧ kk ≤ l.length := by have := Nat.mod_lt at_ hpos; omega
              obtain ⟨v', hsl, hrv⟩ := nd_to HVR.out kk hkk1.2
              have hkw : (1 : Int) + (at_ : Int) % (l.length : Int) = (kk : Int) := by rw [← hkk]; simp
              have hrt := right_any B v' (l.take kk) (fun x hx => HOK.out x (List.mem_of_mem_take hx)) (by rw [List.length_take]; omega) wr hrv (by omega)
              rw [rightP_take l kk HQ2.out hkk1.1 hkk1.2] at hrt
              have HRT := Lib.hid hrt
              clear hkk hrt hrv
              have hat0 : (0 : Int) ≤ (at_ : Int) := by omega
              have hl1 : (1 : Int) ≤ (l.length : Int) := by omega
              go_wp2_with fail
              refine HRT.out.mono ?_
              rintro e wz ⟨rfl, hBz⟩
              have hGz : Laid B wz := Laid.stable B wr wz none HGR.out (grown_below hBz none) (fun r e => by cases e)
              have hzz := hBz.size
              have HGZ := Lib.hid hGz
              have HBZ := Lib.hid hBz
              clear hGz hBz HRT
              go_wp2_with fail
              refine (right_any wz.heap.size _ [] (fun x hx => by cases hx) (by decide) wz (nilArg _ _) (Nat.le_refl _)).mono ?_
              rintro e wq ⟨rfl, hBq⟩
              have hGq : Laid B wq := Laid.stable B wz wq none HGZ.out (grown_below hBq none) (fun r e => by cases e)
              have hzq := hBq.size
              have HBQ := Lib.hid hBq
              rw [show rightP [] = false from rfl]
              clear hBq
              go_wp2_with fail
              refine (awake18 B wq hGq (by omega)).mono ?_
              rintro e wp ⟨rfl, hBp⟩
              go_wp2_with fail
              go_ret
              exact ⟨rfl, HBY.out.trans ((HBR.out.mono (by omega)).trans ((HBZ.out.mono (by omega)).trans ((HBQ.out.mono (by omega)).trans (hBp.mono (by omega)))))⟩

end Go.Proofs.YtgblgolkajdfbaaGreatDoor.chkw
