/- twice: each node twice. No conditions but those stated. -/
import Derived.Test.YtlhdabpoljoobaaFlbI
import Derived.Test.YtlhdabpoljoobaaFlbE
import Derived.Deep.CutRange
import Derived.Deep.CutBlock
import Derived.IntWalk
namespace Go.Proofs.Ytlhdabpoljoobaa.flatw
open Go.RowKit Go.Shelf
open Go.Proofs.Ytlhdabpoljoobaa.nodew
open Go.Proofs.Ytlhdabpoljoobaa.chkw
open Go.Proofs.Ytlhdabpoljoobaa.flatm
open Go.Proofs.Ytlhdabpoljoobaa.qt
open Go.BigFrame

def TwPost (w : World) (q : List Nd) (e : Ending) (w' : World) : Prop := ∃ v', e = .returned v' ∧ w'.ownsRow w.heap.size 37 19 v' q.length (ncells q) ∧ Below w.heap.size w w'
/-- what stands at place k of a node's three -/
def rowN (bs : List Nat) (i k : Nat) (n : Nd) : Nd := if k = 1 then plasN else copyF bs i k n
theorem row_take (bs : List Nat) (i : Nat) (n : Nd) : ∀ k, k < 3 → (twRow bs i n).take (k + 1) = (twRow bs i n).take k ++ [rowN bs i k n] := by
  intro k hk
  have : k = 0 ∨ k = 1 ∨ k = 2 := by omega
  rcases this with rfl | rfl | rfl <;> rfl
theorem row_all (bs : List Nat) (i : Nat) (n : Nd) : (twRow bs i n).take 3 = twRow bs i n := rfl
/-- the row up to node i, and k of its three -/
def TwS (n0 : Nat) (w : World) (vB : Value) (v : Value) (done : List Nd) (W : World) : Prop :=
  W.ownsRow n0 37 19 v done.length (ncells done) ∧ Boxed W n0 39 vB ∧ Below n0 w W

theorem TwS.kept {n0 : Nat} {w : World} {vB v : Value} {done : List Nd} {W W' : World} {row : Option Nat} (h : TwS n0 w vB v done W) (hg : W.grownBy W' row) (h0 : n0 ≤ w.heap.size) (hr : ∀ r, row = some r → n0 < r ∧ v.ownBlock ≠ some r) : TwS n0 w vB v done W' := by
  refine ⟨h.1.kept hg ?_, h.2.1.kept hg (fun e => by have := (hr n0 e.symm).1; omega), h.2.2.grown hg (Nat.le_trans h0 h.2.2.size) (fun r e => Nat.le_of_lt (hr r e).1)⟩
  cases hv : v.ownBlock with
  | none => exact .inl rfl
  | some g => exact .inr fun e => (hr g e.symm).2 hv
theorem wl_pre {P : Program} {ops : Array Oper} {rest : List Oper} {o : Oper} {a : Act} {w : World} {Q : Exit → Act → World → Prop} (h : wpList P ops Q (o :: rest) a w) : wpList P ops Q (o :: rest) a w := h
theorem wl_store_at {ops : Array Oper} {rest : List Oper} {o : Oper} {a : Act} {w : World} {Q : Exit → Act → World → Prop} (hgd : o.guard = none) (x y : Operand) (ho : o.op = .store 37 x y) (u : World) (hw : w = u.alloc (.cells zcells 37)) (nd : Nd) (hx : a.eval x = pt u.heap.size 0) (hy : a.eval y = nd.val)
    (h : wpList Try.prog ops Q rest (a.put o.dst undef) (u.alloc (.cells nd.cells.toArray 37))) : wpList Try.prog ops Q (o :: rest) a w := by
  subst hw
  exact wl_store_new hgd x y ho nd hx hy h
theorem wl_store_over {ops : Array Oper} {rest : List Oper} {o : Oper} {a : Act} {w : World} {Q : Exit → Act → World → Prop} (hgd : o.guard = none) (x y : Operand) (ho : o.op = .store 37 x y) (g : Nat) (old : Nd) (hg : NBlk w g old) (nd : Nd) (hx : a.eval x = pt g 0) (hy : a.eval y = nd.val)
    (h : wpList Try.prog ops Q rest (a.put o.dst undef) (w.setRow g nd.cells.toArray)) : wpList Try.prog ops Q (o :: rest) a w := by
  have hr := exec_store_nd x y ho g nd hx hy old.cells.toArray hg (nd_size old)
  refine wpList_plain hgd fun K hK => ?_
  unfold Oper.wp
  rw [hr]
  exact hK _ _ h
theorem setRow_nblk {W : World} {b : Nat} {old : Nd} (h : NBlk W b old) (nd : Nd) : NBlk (W.setRow b nd.cells.toArray) b nd := setRow_heap _ b old.cells.toArray _ _ _ h
theorem setRow_grown (W : World) (b : Nat) (cs : Array Value) : W.grownBy (W.setRow b cs) (some b) := ⟨rfl, rfl, rfl, by simp [World.setRow], fun i _ hne => setRow_other _ _ _ _ (fun e => hne (by rw [e]))⟩
theorem bld_plas (w : World) : (Instr.build 37 #[(0, .int .u8 3), (6, .float .f64 4607182418800017408), (7, .float .f64 4611686018427387904)]).run Try.prog w = .ok plasN.val w := by kernel_rfl
attribute [local go_sem] bld_plas
set_option maxRecDepth 100000 in
set_option maxHeartbeats 4000000 in
theorem twice_any (l : List Nd) (hok : ∀ n ∈ l, n.ok) (hr : rightP l = true) (h40 : l.length ≤ 40) (bs : List Nat) (hb : ∀ b ∈ bs, b < 256) (vP vB : Value) (w : World) (hP : NArg w w.heap.size vP l) (hB : BArg w w.heap.size vB bs) :
    Calls Try.prog 12 #[vP, vB] w (TwPost w (twP bs l)) := by
  obtain ⟨A, c, rfl⟩ := hP.form
  obtain ⟨Ab, cb, rfl⟩ : ∃ Ab cb, vB = .slice Ab bs.length cb := by obtain ⟨Ab, cb, h, _⟩ := hB; exact ⟨Ab, cb, h⟩
  obtain ⟨n0, hn0⟩ : ∃ n0, n0 = w.heap.size := ⟨_, rfl⟩
  obtain ⟨W1, hW1⟩ : ∃ W1, W1 = w.alloc (.cells #[.slice Ab bs.length cb] 39) := ⟨_, rfl⟩
  have hs1 : TwS n0 w (.slice Ab bs.length cb) (.slice none 0 0) [] W1 := by
    refine ⟨World.ownsRow_nil _ _ _ _, ?_, ?_⟩
    · rw [hW1, hn0]; exact Boxed.new w _ _
    · rw [hW1, hn0]; exact (Below.refl _ w).alloc (Nat.le_refl _) _
  have HS1 := Lib.hid hs1
  have HP := Lib.hid hP
  have HB := Lib.hid hB
  have HBB := Lib.hid hb
  have HR := Lib.hid hr
  have HOK := Lib.hid hok
  clear hs1 hP hB hb hr hok
  unfold TwPost
  rw [← hn0]
  go_enter Try.func12, Try.ntmps12
  go_wp2_with (first | (rw [← hW1]) | (rw [← hn0]))
  have HN0 := Lib.hid hn0
  clear hn0 hW1
  go_loopw [5, 14] (fun v i wr => ∃ k : Nat, k ≤ l.length ∧ i = .int .i64 k ∧ TwS n0 w (.slice Ab bs.length cb) v (twF bs 0 (l.take k)) wr) (fun _ i _ => l.length - (intOf i).toNat)
  case atStart => exact ⟨0, Nat.zero_le _, rfl, HS1.out⟩
  case round =>
    obtain ⟨i, hi, rfl, hS⟩ := hrel
    obtain ⟨wo, hwo⟩ : ∃ wo, wo = wr := ⟨_, rfl⟩
    subst hwo
    by_cases hil : i < l.length
    · obtain ⟨g, off, rfl, hld⟩ := nread_at HP.out hil
      obtain ⟨nd, hnd⟩ : ∃ nd, nth l i = nd := ⟨_, rfl⟩
      have hB0 := hS.2.2
      have hld1 := fun (W : World) (h : Below n0 w W) => hld W (by rw [← HN0.out]; exact h)
      rw [hnd] at hld1
      have hld2 := hld1 wo hB0
      obtain ⟨Wa, hWa⟩ : ∃ Wa, Wa = wo.alloc (.cells nd.cells.toArray 37) := ⟨_, rfl⟩
      have hna : NBlk Wa wo.heap.size nd := by rw [hWa]; exact heap_alloc_new wo _
      have hga : wo.grownBy Wa none := by rw [hWa]; exact World.grownBy_alloc wo _ none
      have hSa := hS.kept hga (Nat.le_of_eq HN0.out) (by simp)
      have hob : u5.ownBlock ≠ some wo.heap.size := fun e => by have := (hS.1.lt _ e).2; omega
      have hwz : n0 < wo.heap.size := hS.2.1.lt
      have HLD := Lib.hid hld2
      have HSA := Lib.hid hSa
      have HNA := Lib.hid hna
      have HOB := Lib.hid hob
      have HND := Lib.hid hnd
      have i0 : (0 : Int) ≤ (i : Int) := by omega
      have ii : (i : Int) < (l.length : Int) := by omega
      clear hS hnd hB0 hld hld1 hld2 hna hga hSa hob
      go_wp2_with (first | (rw [← hWa]) | ((with_reducible refine wl_pre ?_); (first | (refine wl_load_nd rfl (.tmp 17) rfl (.pointer (some ⟨g, off + i * 19, none⟩)) rfl nd HLD.out ?_) | (refine wl_alloc_nd rfl rfl ?_) | (refine wl_store_at rfl (.tmp 8) (.tmp 18) rfl wo rfl nd rfl rfl ?_)); (simp only [Act.put, List.setIfInBounds_toArray, List.set_cons_succ, List.set_cons_zero])))
      clear hWa
      go_loopw [5, 19] (fun v k wr => ∃ j : Nat, j ≤ 3 ∧ k = .int .i64 j ∧ TwS n0 w (.slice Ab bs.length cb) v (twF bs 0 (l.take i) ++ (twRow bs i nd).take j) wr ∧ NBlk wr wo.heap.size nd ∧ v.ownBlock ≠ some wo.heap.size) (fun _ k _ => 3 - (intOf k).toNat)
      case atStart => exact ⟨0, by omega, rfl, by rw [List.take_zero, List.append_nil]; exact HSA.out, HNA.out, HOB.out⟩
      case round =>
        obtain ⟨j, hj, rfl, hS, hn8, hob⟩ := hrel
        obtain ⟨wp, hwp⟩ : ∃ wp, wp = wr := ⟨_, rfl⟩
        subst hwp
        by_cases hj3 : j < 3
        · obtain ⟨Wb, hWb⟩ : ∃ Wb, Wb = wp.alloc (.cells nd.cells.toArray 37) := ⟨_, rfl⟩
          have hnb : NBlk Wb wp.heap.size nd := by rw [hWb]; exact heap_alloc_new wp _
          have hgb : wp.grownBy Wb none := by rw [hWb]; exact World.grownBy_alloc wp _ none
          have hSb := hS.kept hgb (Nat.le_of_eq HN0.out) (by simp)
          have h8l : wo.heap.size < wp.heap.size := (Array.getElem?_eq_some_iff.1 hn8).1
          have hn8b : NBlk Wb wo.heap.size nd := (hgb.block _ h8l (by simp)).trans hn8
          have hobm : u5.ownBlock ≠ some wp.heap.size := fun e => by have := (hS.1.lt _ e).2; omega
          have hpz : n0 < wp.heap.size := hS.2.1.lt
          have HN8 := Lib.hid hn8
          have HSB := Lib.hid hSb
          have HNB := Lib.hid hnb
          have HN8B := Lib.hid hn8b
          have HOB := Lib.hid hob
          have HOBM := Lib.hid hobm
          have j0 : (0 : Int) ≤ (j : Int) := by omega
          have j3 : (j : Int) < 3 := by omega
          clear hS hn8 hob hnb hgb hSb hn8b hobm
          go_upto_block 4 with (first | (rw [← hWb]) | ((with_reducible refine wl_pre ?_); (first | (refine wl_load_nd rfl (.tmp 8) rfl (.pointer (some ⟨wo.heap.size, 0, none⟩)) rfl nd HN8.out.loadAt ?_) | (refine wl_alloc_nd rfl rfl ?_) | (refine wl_store_at rfl (.tmp 10) (.tmp 22) rfl wp rfl nd rfl rfl ?_)); (simp only [Act.put, List.setIfInBounds_toArray, List.set_cons_succ, List.set_cons_zero])))
          clear hWb
          go_cut [] from 23 to 56 (fun wx => NBlk wx wp.heap.size (rowN bs i j nd) ∧ Wb.grownBy wx (some wp.heap.size))
          case first =>
            have hmeet : ∀ W' : World, NBlk W' wp.heap.size (rowN bs i j nd) → Wb.grownBy W' (some wp.heap.size) → NBlk W' wp.heap.size (rowN bs i j nd) ∧ Wb.grownBy W' (some wp.heap.size) := fun _ h k => ⟨h, k⟩
            by_cases hj1 : j = 1
            · have hr1 : rowN bs i j nd = plasN := if_pos hj1
              have e1 : ((j : Int) == 1) = true := by rw [beq_iff_eq]; omega
              have HR1 := Lib.hid hr1
              clear hr1 hj1 hmeet
              go_wp2_with ((with_reducible refine wl_pre ?_); (first | (refine wl_store_over rfl (.tmp 10) (.tmp 26) rfl wp.heap.size nd HNB.out plasN rfl rfl ?_)); (simp only [Act.put, List.setIfInBounds_toArray, List.set_cons_succ, List.set_cons_zero]))
              go_meet
              case rel => 
                rw [HR1.out]
                exact ⟨setRow_nblk HNB.out _, setRow_grown _ _ _⟩
            · have e1 : ((j : Int) == 1) = false := by rw [beq_eq_false_iff_ne]; omega
              have hr1 : rowN bs i j nd = copyF bs i j nd := if_neg hj1
              have ck : Wb.cell? ⟨wo.heap.size, 0, none⟩ = some (.int .u8 nd.kind) := (HN8B.out.cell 0).trans rfl
              by_cases h5 : nd.kind = 5
              · obtain ⟨an, han⟩ : ∃ an, nd.a.toNat = an := ⟨_, rfl⟩
                obtain ⟨bn, hbn⟩ : ∃ bn, nd.b.toNat = bn := ⟨_, rfl⟩
                have hki := kidsI_right HR.out i hil
                have hac := right_ac HR.out i hil
                rw [HND.out] at hki hac
                unfold kidsI at hki
                unfold kids at hki hac
                rw [if_pos h5, if_pos h5, han, hbn] at hki
                rw [if_pos h5, han, hbn] at hac
                simp only [List.map_cons, List.map_nil, List.cons.injEq, and_true] at hki
                obtain ⟨hai, hbi⟩ := hki
                have hal : an < i := hac an (by simp)
                have hbl : bn < i := hac bn (by simp)
                obtain ⟨pa, hpa⟩ : ∃ pa, pickF bs i an = pa := ⟨_, rfl⟩
                obtain ⟨pb, hpb⟩ : ∃ pb, pickF bs (i + j) bn = pb := ⟨_, rfl⟩
                have hBw : Below w.heap.size w Wb := by rw [← HN0.out]; exact HSB.out.2.2
                have hbx0 := HSB.out.2.1
                have hpk1 : ∀ u : Ext Wb, Calls Try.prog 19 #[.int .i64 i, .int .i64 an, .pointer (some ⟨n0, 0, none⟩)] u.1 fun e w' => e = .returned (.int .i64 (pa : Nat)) ∧ w' = u.1 := fun u => by
                  have := pick_any bs HBB.out n0 (.slice Ab bs.length cb) i an (by omega) (by omega) w.heap.size u.1 ((u.2.block n0 hbx0.lt).trans hbx0) (HB.out.ext (hBw.trans (u.2.mono hBw.size)))
                  rw [hpa] at this
                  exact this
                have hpk2 : ∀ u : Ext Wb, Calls Try.prog 19 #[.int .i64 ((i : Int) + (j : Int)), .int .i64 bn, .pointer (some ⟨n0, 0, none⟩)] u.1 fun e w' => e = .returned (.int .i64 (pb : Nat)) ∧ w' = u.1 := fun u => by
                  have := pick_any bs HBB.out n0 (.slice Ab bs.length cb) (i + j) bn (by omega) (by omega) w.heap.size u.1 ((u.2.block n0 hbx0.lt).trans hbx0) (HB.out.ext (hBw.trans (u.2.mono hBw.size)))
                  rw [hpb, show ((i + j : Nat) : Int) = (i : Int) + (j : Int) by omega] at this
                  exact this
                have hcp : rowN bs i j nd = { nd with a := (pa : Nat), b := (pb : Nat) } := by rw [hr1]; unfold copyF; rw [if_pos h5, han, hbn, hpa, hpb]
                have ca : Wb.cell? ⟨wo.heap.size, 17, none⟩ = some (.int .i64 (an : Nat)) := by rw [HN8B.out.cell 17, ← hai]; rfl
                have cbn : Wb.cell? ⟨wo.heap.size, 18, none⟩ = some (.int .i64 (bn : Nat)) := by rw [HN8B.out.cell 18, ← hbi]; rfl
                have fa : ∀ u : Ext Wb, u.1.cell? ⟨wo.heap.size, 17, none⟩ = some (.int .i64 (an : Nat)) := fun u => ext_cell ca u
                have fb : ∀ u : Ext Wb, u.1.cell? ⟨wo.heap.size, 18, none⟩ = some (.int .i64 (bn : Nat)) := fun u => ext_cell cbn u
                have hwr : IntKind.i64.wrap ((i : Int) + (j : Int)) = (i : Int) + (j : Int) := IntWalk.i64_in _ (by omega)
                have ckk : (nd.kind : Int) = 5 := by rw [h5]; rfl
                rw [ckk] at ck
                have HPK1 := Lib.hid hpk1
                have HPK2 := Lib.hid hpk2
                have HCP := Lib.hid hcp
                clear hpk1 hpk2 hcp hpa hpb hal hbl hai hbi hac han hbn ckk hr1 hj1 h5 hmeet hBw hbx0 ca cbn
                go_upto_region 13 with (fail)
                refine region_ext_tail 13 (by kernel_rfl) (by kernel_rfl) ?_
                simp only [List.take_succ_cons, List.take_zero, List.drop_succ_cons, List.drop_zero]
                go_big_quiet_step (fail)
                go_big_quiet_step (fail)
                go_big_quiet_step (fail)
                go_big_quiet_step (fail)
                go_big_quiet_step (exact ext_call_same _ (HPK1.out _))
                go_big_quiet_step (fail)
                go_big_quiet_step (fail)
                go_big_quiet_step (fail)
                go_big_quiet_step (fail)
                go_big_quiet_step (fail)
                go_big_quiet_step (fail)
                go_big_quiet_step (exact ext_call_same _ (HPK2.out _))
                go_big_quiet_step (fail)
                refine wpQuiet_nil ?_
                intro u
                obtain ⟨X, hX⟩ := u
                change wpList _ _ _ _ _ X
                have hnx : NBlk X wp.heap.size nd := (hX.block _ (Array.getElem?_eq_some_iff.1 HNB.out).1).trans HNB.out
                have hgx : Wb.grownBy X (some wp.heap.size) := grown_below hX _
                obtain ⟨X1, hX1⟩ : ∃ X1, X1 = X.setCell ⟨wp.heap.size, 17, none⟩ (.int .i64 (pa : Nat)) := ⟨_, rfl⟩
                obtain ⟨X2, hX2⟩ : ∃ X2, X2 = X1.setCell ⟨wp.heap.size, 18, none⟩ (.int .i64 (pb : Nat)) := ⟨_, rfl⟩
                have e1' : NBlk X1 wp.heap.size { nd with a := (pa : Nat) } := by rw [hX1]; exact nblk_store hnx 17 _ rfl
                have e2' : NBlk X2 wp.heap.size { nd with a := (pa : Nat), b := (pb : Nat) } := by rw [hX2]; exact nblk_store e1' 18 _ rfl
                have hg1 : Wb.grownBy X1 (some wp.heap.size) := grown_trans hgx (by rw [hX1]; exact set_keep _ _ _ _ (Array.getElem?_eq_some_iff.1 hnx).1)
                have hg2 : Wb.grownBy X2 (some wp.heap.size) := grown_trans hg1 (by rw [hX2]; exact set_keep _ _ _ _ (Array.getElem?_eq_some_iff.1 e1').1)
                have C1 := Lib.hid (And.intro ((hnx.cell 17).trans rfl : X.cell? ⟨wp.heap.size, 17, none⟩ = some (.int .i64 nd.a)) (nblk_frozen hnx 17))
                have C2 := Lib.hid (And.intro ((e1'.cell 18).trans rfl : X1.cell? ⟨wp.heap.size, 18, none⟩ = some (.int .i64 nd.b)) (nblk_frozen e1' 18))
                have Y1 := Lib.hid hX1
                have Y2 := Lib.hid hX2
                have E2 := Lib.hid (And.intro e2' hg2)
                clear hX hnx hgx hX1 hX2 e1' e2' hg1 hg2 fa fb
                go_wp2_with ((with_reducible refine wl_pre ?_); (first | (refine wl_set_int rfl (.tmp 43) (.tmp 35) rfl wp.heap.size 17 (pa : Nat) _ rfl rfl C1.out.1 C1.out.2 ?_; rw [← Y1.out]) | (refine wl_set_int rfl (.tmp 44) (.tmp 42) rfl wp.heap.size 18 (pb : Nat) _ rfl rfl C2.out.1 C2.out.2 ?_; rw [← Y2.out])); (simp only [Act.put, List.setIfInBounds_toArray, List.set_cons_succ, List.set_cons_zero]))
                go_meet
                case rel =>
                  rw [HCP.out]
                  exact E2.out
              · by_cases h6 : nd.kind = 6
                · obtain ⟨an, han⟩ : ∃ an, nd.a.toNat = an := ⟨_, rfl⟩
                  have hki := kidsI_right HR.out i hil
                  have hac := right_ac HR.out i hil
                  rw [HND.out] at hki hac
                  unfold kidsI at hki
                  unfold kids at hki hac
                  rw [if_neg h5, if_pos h6, if_neg h5, if_pos h6, han] at hki
                  rw [if_neg h5, if_pos h6, han] at hac
                  have hai : nd.a = (an : Int) := by simpa using hki
                  have hal : an < i := by simpa using hac
                  have hpk := pick_any bs HBB.out n0 (.slice Ab bs.length cb) (i + j) an (by omega) (by omega) w.heap.size Wb HSB.out.2.1 (HB.out.ext (by rw [← HN0.out]; exact HSB.out.2.2))
                  rw [show ((i + j : Nat) : Int) = (i : Int) + (j : Int) by omega] at hpk
                  obtain ⟨pa, hpa⟩ : ∃ pa, pickF bs (i + j) an = pa := ⟨_, rfl⟩
                  rw [hpa] at hpk
                  have hcp : rowN bs i j nd = { nd with a := (pa : Nat) } := by rw [hr1]; unfold copyF; rw [if_neg h5, if_pos h6, han, hpa]
                  have ca : Wb.cell? ⟨wo.heap.size, 17, none⟩ = some (.int .i64 (an : Nat)) := by rw [HN8B.out.cell 17, ← hai]; rfl
                  have c10 : Wb.cell? ⟨wp.heap.size, 17, none⟩ = some (.int .i64 nd.a) := (HNB.out.cell 17).trans rfl
                  have f10 := nblk_frozen HNB.out 17
                  have ckk : (nd.kind : Int) = 6 := by rw [h6]; rfl
                  rw [ckk] at ck
                  have i40 : (i : Int) ≤ 40 := by omega
                  have HPK := Lib.hid hpk
                  have HCP := Lib.hid hcp
                  clear hpk hcp hpa hal hai hki hac han ckk hr1 hj1 h5 h6 hmeet
                  go_wp2_with fail
                  (with_reducible refine HPK.out.mono ?_)
                  rintro e w' ⟨rfl, hw'⟩
                  obtain rfl := hw'.symm
                  go_wp2_with fail
                  go_meet
                  case rel =>
                    rw [HCP.out]
                    exact ⟨nblk_store HNB.out 17 _ rfl, set_keep _ _ _ _ (Array.getElem?_eq_some_iff.1 HNB.out).1⟩
                · have hcp : rowN bs i j nd = nd := by rw [hr1]; unfold copyF; rw [if_neg h5, if_neg h6]
                  obtain ⟨K, hK⟩ : ∃ K : Int, K = (nd.kind : Int) := ⟨_, rfl⟩
                  rw [← hK] at ck
                  have k5 : (K == 5) = false := by rw [beq_eq_false_iff_ne]; omega
                  have k6 : (K == 6) = false := by rw [beq_eq_false_iff_ne]; omega
                  have HCP := Lib.hid hcp
                  clear hcp hr1 hj1 h5 h6 hK hmeet
                  go_wp2_with fail
                  go_meet
                  case rel =>
                    rw [HCP.out]
                    exact ⟨HNB.out, World.grownBy.refl _ _⟩
          case rest =>
            obtain ⟨hnc, hgc⟩ := hcut
            obtain ⟨m, hm⟩ : ∃ m, rowN bs i j nd = m := ⟨_, rfl⟩
            rw [hm] at hnc
            have hSc := HSB.out.kept hgc (Nat.le_of_eq HN0.out) (fun r e => by obtain rfl := Option.some.inj e; exact ⟨hpz, HOBM.out⟩)
            have hl8 : wo.heap.size < Wb.heap.size := (Array.getElem?_eq_some_iff.1 HN8B.out).1
            have hn8c : NBlk wc wo.heap.size nd := (hgc.block _ hl8 (by simp; omega)).trans HN8B.out
            have hl8c : wo.heap.size < wc.heap.size := (Array.getElem?_eq_some_iff.1 hn8c).1
            obtain ⟨dn, hdn⟩ : ∃ dn, twF bs 0 (l.take i) ++ (twRow bs i nd).take j = dn := ⟨_, rfl⟩
            rw [hdn] at hSc
            have hdl : dn.length ≤ 123 := by
              rw [← hdn, List.length_append, tw_len]
              have := List.length_take_le 3 (l.take i)
              simp only [List.length_take]
              have : (twRow bs i nd).length = 3 := rfl
              omega
            have hdn2 : twF bs 0 (l.take i) ++ (twRow bs i nd).take (j + 1) = dn ++ [m] := by
              rw [row_take bs i nd j hj3, ← List.append_assoc, hdn, hm]
            obtain ⟨va, vc, rfl⟩ := row_form hSc.1
            obtain ⟨i0', hi0, hz0, hz1, hz2⟩ := info_parts nodeInfo
            have hzw : n0 ≤ wc.heap.size := Nat.le_of_lt hSc.2.1.lt
            have HSC := Lib.hid hSc
            have HNC := Lib.hid hnc
            have HN8C := Lib.hid hn8c
            have HDN := Lib.hid hdn2
            clear hSc hnc hn8c hgc hdn hdn2 hm
            go_wp2_with (first | (at_builtin; go_loud (refine wpList_append_own_at _ rfl (.tmp 57) (.tmp 59) 22 rfl n0 37 i0' _ 19 152 Try.underlying22 hi0 hz0 hz1 hz2 rfl (by decide) _ _ _ rfl (HSC.out.1.alloc _) ⟨wc.heap.size, 0, none⟩ 1 1 m.cells rfl (nd_cells_len m) (cells_nd _ m) (nd_one' m) (by unfold maxLen; omega) (by omega) (by simp; omega) ?_; intro v' w1 hown' hgrow _ hvb)) | ((with_reducible refine wl_pre ?_); (first | (refine wl_load_nd rfl (.tmp 10) rfl (.pointer (some ⟨wp.heap.size, 0, none⟩)) rfl m HNC.out.loadAt ?_) | (refine wl_bs rfl (.tmp 58) rfl m rfl ?_)); (simp only [Act.put, List.setIfInBounds_toArray, List.set_cons_succ, List.set_cons_zero])))
            have hbx : Boxed w1 n0 39 (.slice Ab bs.length cb) := (HSC.out.2.1.alloc _).kept hgrow (HSC.out.2.1.not_row (by decide) HSC.out.1)
            have hBw : Below n0 w w1 := Below.grown (HSC.out.2.2.alloc (Nat.le_of_lt HSC.out.2.1.lt) _) hgrow (by rw [World.size_alloc]; omega) (fun r e => (HSC.out.1.lt r e).1)
            have hn8w : NBlk w1 wo.heap.size nd := (hgrow.block _ (by rw [World.size_alloc]; omega) (fun e => HOB.out e.symm)).trans ((Below.heap_alloc _ _ _ hl8c).trans HN8C.out)
            have hob' : v'.ownBlock ≠ some wo.heap.size := by
              rcases hvb with h | h
              · rw [h]; exact HOB.out
              · rw [h, World.size_alloc]
                intro e
                injection e with e
                omega
            have hS' : TwS n0 w (.slice Ab bs.length cb) v' (twF bs 0 (l.take i) ++ (twRow bs i nd).take (j + 1)) w1 := by
              rw [HDN.out]
              refine ⟨?_, hbx, hBw⟩
              rw [ncells_snoc, List.length_append]
              exact hown'
            have HS' := Lib.hid hS'
            have HN8W := Lib.hid hn8w
            have HOB' := Lib.hid hob'
            clear hbx hBw hn8w hob' hS' hown' hgrow hvb
            go_roundw
            case rel => exact ⟨j + 1, by omega, by go_num, HS'.out, HN8W.out, HOB'.out⟩
            case measure => simp [intOf]; omega
        · obtain rfl : j = 3 := by omega
          have hlen : i < l.length := hil
          have htk : twF bs 0 (l.take i) ++ (twRow bs i nd).take 3 = twF bs 0 (l.take (i + 1)) := by
            rw [row_all, List.take_add_one, List.getElem?_eq_getElem hil, show (some l[i]).toList = [l[i]] from rfl, tw_app, Nat.zero_add, List.length_take, Nat.min_eq_left (Nat.le_of_lt hil), ← HND.out, nth_eq l i l[i] (List.getElem?_eq_getElem hil)]
          rw [htk] at hS
          have HS3 := Lib.hid hS
          clear hS hn8 hob htk
          go_wp2_with fail
          go_roundw
          case rel => exact ⟨i + 1, by omega, by go_num, HS3.out⟩
          case measure => simp [intOf]; omega
    · obtain rfl : i = l.length := by omega
      rw [List.take_length] at hS
      have HS := Lib.hid hS
      clear hS
      go_wp2_with fail
      go_ret
      exact ⟨_, rfl, HS.out.1, HS.out.2.2⟩
end Go.Proofs.Ytlhdabpoljoobaa.flatw
