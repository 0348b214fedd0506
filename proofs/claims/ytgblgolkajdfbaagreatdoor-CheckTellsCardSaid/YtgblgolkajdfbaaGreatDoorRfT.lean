/- The walk of burnishlaw18.CheckTells. Conditions: the nodes and statements lie in memory; three of strconv's variables hold what the program's text lays. -/
import Derived.Test.YtgblgolkajdfbaaGreatDoorRfE
import Derived.Test.YtgblgolkajdfbaaGreatDoorRfR
import Derived.Test.YtgblgolkajdfbaaGreatDoorSam
import Derived.BigCall
namespace Go.Proofs.YtgblgolkajdfbaaGreatDoor.chkw
open Go.RowKit
open Go.Proofs.YtgblgolkajdfbaaGreatDoor.lexw
open Go.Proofs.YtgblgolkajdfbaaGreatDoor.parw
open Go.Proofs.YtgblgolkajdfbaaGreatDoor.flow
open Go.Proofs.YtgblgolkajdfbaaGreatDoor.nodew
open Go.Proofs.YtgblgolkajdfbaaGreatDoor.qt
open Go.BigFrame

theorem quiet_load_nd_w {C : World → Prop} {ops : Array Oper} {o : Oper} {rest : List Oper} {a : Act} {Q : Act → Prop} (hgd : Region.wanted o (yielded ops a.tmps) = true) (x : Operand) (ho : o.op = .load 25 x) (g : Nat) (hx : a.eval x = .pointer (some ⟨g, 0, none⟩)) (n : Nd) (hg : ∀ w, C w → NBlk w g n)
    (h : wpQuiet Tryz.prog ops C Q rest (a.put o.dst n.val)) : wpQuiet Tryz.prog ops C Q (o :: rest) a := by
  refine wpQuiet_want hgd fun K hK => ⟨n.val, ?_, hK _ h⟩
  intro w' hw'
  unfold Oper.quietAt execOp
  simp only [ho, hx, (hg w' hw').loadAt, Sem.run_bind, Sem.run_pure, Result.andThen_ok, Oper.quietUpon]
  exact ⟨trivial, trivial⟩

set_option maxRecDepth 100000 in
set_option maxHeartbeats 4000000 in
theorem tells_any (B : Nat) (n : Nd) (hn : n.ok) (at_ : Int) (v2 v3 : Value) (p : List Nd) (hpo : ∀ x ∈ p, x.ok) (l : List PStmt) (us : List Value) (hk : ∀ s ∈ l, s.kind < 256) (w : World) (hw : Laid B w) (h2 : NArg w B v2 p) (h3 : SArg w B v3 l us) (hB : B ≤ w.heap.size) :
    Calls Tryz.prog 3 #[n.val, .int .i64 at_, v2, v3] w fun e w' => e = .returned (.bool true) ∧ Below w.heap.size w w' := by
  obtain ⟨A2, c2, rfl⟩ : ∃ A c, v2 = .slice A p.length c := by
    obtain ⟨A, c, hv, _⟩ := h2
    exact ⟨A, c, hv⟩
  obtain ⟨A3, c3, rfl⟩ : ∃ A c, v3 = .slice A l.length c := by
    obtain ⟨_, ⟨A, c, hv, _⟩, _⟩ := h3
    exact ⟨A, c, hv⟩
  have HW := Lib.hid hw
  have H2 := Lib.hid h2
  have H3 := Lib.hid h3
  have HK := Lib.hid hk
  have HPO := Lib.hid hpo
  clear hw h2 h3 hk hpo
  have haw : ∀ u : World, Below w.heap.size w u → Calls Tryz.prog 8 #[] u fun e w' => e = .returned (.bool true) ∧ Below u.heap.size u w' := fun u hu =>
    awake18 B u (Laid.stable B w u none HW.out (grown_below hu none) (fun r e => by cases e)) (by have := hu.size; omega)
  have HAW := Lib.hid haw
  clear haw
  go_enter Tryz.func3, Tryz.ntmps3
  go_upto_region 0 with (fail)
  refine wp_region_lit ?_
  refine wl_val rfl _ (exec_box (.tmp 0) rfl _ _ n rfl) ?_
  have hbx := (Below.refl w.heap.size w).alloc (Nat.le_refl _) (.cells n.cells.toArray 25)
  have hnb := heap_alloc_new w (.cells n.cells.toArray 25)
  obtain ⟨W, hW⟩ : ∃ W, W = w.alloc (.cells n.cells.toArray 25) := ⟨_, rfl⟩
  have hWz : w.heap.size < W.heap.size := by rw [hW]; simp
  rw [← hW] at hbx hnb ⊢
  have hnb : NBlk W w.heap.size n := hnb
  obtain ⟨nb, hnbe⟩ : ∃ nb, nb = w.heap.size := ⟨_, rfl⟩
  have hnz : nb < W.heap.size := by omega
  rw [← hnbe] at hnb ⊢
  have HBX := Lib.hid hbx
  have HNB := Lib.hid hnb
  clear hW hbx hnb hnbe
  by_cases hout : 60 < p.length ∨ 60 < l.length
  · by_cases p1 : 60 < p.length
    case' pos =>
      have p1' : decide (60 < p.length) = true := decide_eq_true p1
      have p1i : (60 : Int) < (p.length : Int) := by omega
      clear hout p1
      go_wp2_with fail
    case' neg =>
      have p1' : decide (60 < p.length) = false := decide_eq_false p1
      have p1i : ¬ (60 : Int) < (p.length : Int) := by omega
      have p2i : (60 : Int) < (l.length : Int) := by omega
      have p2' : decide (60 < l.length) = true := decide_eq_true (by omega)
      clear hout p1
      go_wp2_with fail
    all_goals
      refine (HAW.out W HBX.out).mono ?_
      rintro e wy ⟨rfl, hBy⟩
      go_wp2_with fail
      go_ret
      exact ⟨rfl, HBX.out.trans (hBy.mono HBX.out.size)⟩
  · have hp60 : p.length ≤ 60 := by omega
    have hl60 : l.length ≤ 60 := by omega
    have p1' : decide (60 < p.length) = false := decide_eq_false (by omega)
    have p2' : decide (60 < l.length) = false := decide_eq_false (by omega)
    have p1i : ¬ (60 : Int) < (p.length : Int) := by omega
    have p2i : ¬ (60 : Int) < (l.length : Int) := by omega
    have hca := check_any B _ l HK.out W (SArg.ext H3.out HBX.out).sr (by omega)
    obtain ⟨r, hr⟩ : ∃ r, checkS l = r := ⟨_, rfl⟩
    rw [hr] at hca
    have HR := Lib.hid hr
    have HCA := Lib.hid hca
    have hrl : r.1.length ≤ 1000 := by
      rw [← hr]
      by_cases hz : (checkS l).2.2 = 0
      · rw [(checkS_front l hz).2.2.1]; omega
      · rw [checkS_bad l hz]; simp
    obtain ⟨rn, rp, re⟩ := r
    have HRL := Lib.hid hrl
    clear hca hr hout hrl
    go_wp2_with fail
    refine HCA.out.mono ?_
    rintro e w1 ⟨o1, rfl, ho1, hB1⟩
    have hz1 := hB1.size
    have hcb := refcheck_any B _ l HK.out hl60 w1 (SArg.ext (SArg.ext H3.out HBX.out) hB1).sr (by omega)
    rw [HR.out] at hcb
    have HCB := Lib.hid hcb
    have HB1 := Lib.hid hB1
    have HO1 := Lib.hid ho1
    clear hcb hB1 ho1 HCA
    go_wp2_with fail
    refine HCB.out.mono ?_
    rintro e w2 ⟨o2, rfl, ho2, hB2⟩
    have hz2 := hB2.size
    go_upto_region 5 with (fail)
    have hb2 := HBX.out.trans ((HB1.out.mono (show w.heap.size ≤ W.heap.size by omega)).trans (hB2.mono (by omega)))
    have hn2 : NBlk w2 nb n := (hB2.block nb (by omega)).trans ((HB1.out.block nb hnz).trans HNB.out)
    have hr1 : NArg w2 w2.heap.size o1 rn := ((NArg.of_own HO1.out).ext hB2).mono hz2
    have hr2 : NArg w2 w2.heap.size o2 rn := NArg.of_own ho2
    have hp2 := NArg.ext H2.out hb2
    obtain ⟨q1, hq1⟩ : ∃ q, nodeOk n at_ = q := ⟨_, rfl⟩
    obtain ⟨q2, hq2⟩ : ∃ q, rightP p = q := ⟨_, rfl⟩
    have cn : ∀ u : Ext w2, Calls Tryz.prog 11 #[n.val, .int .i64 at_] u.1 fun e w' => e = .returned (.bool q1) ∧ Below u.1.heap.size u.1 w' := fun u => by rw [← hq1]; exact node_any n hn.2 hn.1 at_ u.1
    have cm : ∀ u : Ext w2, Calls Tryz.prog 12 #[n.val, .int .i64 at_] u.1 fun e w' => e = .returned (.bool q1) ∧ Below u.1.heap.size u.1 w' := fun u => by rw [← hq1]; exact refnode_any n hn at_ u.1
    have cr : ∀ u : Ext w2, Calls Tryz.prog 13 #[.slice A2 p.length c2] u.1 fun e w' => e = .returned (.bool q2) ∧ Below u.1.heap.size u.1 w' := fun u => by rw [← hq2]; exact right_any B _ p HPO.out (by omega) u.1 (hp2.ext u.2).read (by have := u.2.size; omega)
    have cs : ∀ u : Ext w2, Calls Tryz.prog 14 #[.slice A2 p.length c2] u.1 fun e w' => e = .returned (.bool q2) ∧ Below u.1.heap.size u.1 w' := fun u => by rw [← hq2]; exact refright_any B _ p HPO.out (by omega) u.1 (hp2.ext u.2).read (by have := u.2.size; omega)
    have ct : ∀ u : Ext w2, Calls Tryz.prog 15 #[o1, o2] u.1 fun e w' => e = .returned (.bool true) ∧ Below u.1.heap.size u.1 w' := fun u => same18_eq w2.heap.size o1 o2 rn (by have h : rn.length ≤ 1000 := HRL.out; omega) u.1 (hr1.ext u.2).read (hr2.ext u.2).read u.2.size
    have cw : ∀ u : Ext w2, Calls Tryz.prog 8 #[] u.1 fun e w' => e = .returned (.bool true) ∧ Below u.1.heap.size u.1 w' := fun u => HAW.out u.1 (hb2.trans (u.2.mono hb2.size))
    have HB2 := Lib.hid hb2
    have HN2 := Lib.hid hn2
    clear hb2 hn2 hr1 hr2 hp2 hq1 hq2 ho2 hB2 HCB
    cases q1 <;> cases q2
    all_goals
      refine region_ext (by kernel_rfl) (by kernel_rfl) ?_
      refine quiet_load_nd_w rfl (.tmp 4) rfl nb rfl n (by rintro _ ⟨u, rfl⟩; exact (u.2.block nb (Array.getElem?_eq_some_iff.1 HN2.out).1).trans HN2.out) ?_
      simp only [Act.put, List.setIfInBounds_toArray, List.set_cons_succ, List.set_cons_zero]
      repeat go_big_quiet_step (exact ext_call _ (cn _))
      refine quiet_load_nd_w rfl (.tmp 4) rfl nb rfl n (by rintro _ ⟨u, rfl⟩; exact (u.2.block nb (Array.getElem?_eq_some_iff.1 HN2.out).1).trans HN2.out) ?_
      simp only [Act.put, List.setIfInBounds_toArray, List.set_cons_succ, List.set_cons_zero]
      repeat go_big_quiet_step (first | exact ext_call _ (cm _) | exact ext_call _ (cr _) | exact ext_call _ (cs _) | exact ext_call _ (ct _) | exact ext_call _ (cw _))
      refine wpQuiet_nil ?_
      intro u
      have hu := u.2
      obtain ⟨Z, hZ⟩ : ∃ Z, Z = u.1 := ⟨_, rfl⟩
      rw [← hZ] at hu ⊢
      clear hZ
      go_wp2_with fail
      go_ret
      exact ⟨rfl, HB2.out.trans (hu.mono HB2.out.size)⟩
end Go.Proofs.YtgblgolkajdfbaaGreatDoor.chkw
