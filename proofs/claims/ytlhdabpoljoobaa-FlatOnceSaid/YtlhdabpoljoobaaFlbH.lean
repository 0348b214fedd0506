/- FlatOnce at a right program: the law's function answers true. No conditions but those stated. -/
import Derived.Test.YtlhdabpoljoobaaFlbG
import Derived.Deep.CutRange
import Derived.Deep.CutBlock
namespace Go.Proofs.Ytlhdabpoljoobaa.flatw
open Go.RowKit Go.Shelf
open Go.Proofs.Ytlhdabpoljoobaa.nodew
open Go.Proofs.Ytlhdabpoljoobaa.chkw
open Go.Proofs.Ytlhdabpoljoobaa.flatm
attribute [local go_sem] mk_mapX

theorem nodup_ne {α : Type} : ∀ {l : List α} (_ : l.Nodup) {i j : Nat} (_ : i ≠ j) (hi : i < l.length) (hj : j < l.length), l[i] ≠ l[j] := by
  intro l h i j hne hi hj
  unfold List.Nodup at h
  rw [List.pairwise_iff_getElem] at h
  rcases Nat.lt_or_gt_of_ne hne with hlt | hlt
  · exact h i j hi hj hlt
  · exact fun e => h j i hj hi hlt e.symm
theorem wl_store_at {ops : Array Oper} {rest : List Oper} {o : Oper} {a : Act} {w : World} {Q : Exit → Act → World → Prop} (hgd : o.guard = none) (x y : Operand) (ho : o.op = .store 37 x y) (u : World) (hw : w = u.alloc (.cells zcells 37)) (nd : Nd) (hx : a.eval x = pt u.heap.size 0) (hy : a.eval y = nd.val)
    (h : wpList Try.prog ops Q rest (a.put o.dst undef) (u.alloc (.cells nd.cells.toArray 37))) : wpList Try.prog ops Q (o :: rest) a w := by
  subst hw
  exact wl_store_new hgd x y ho nd hx hy h
theorem wl_pre {P : Program} {ops : Array Oper} {rest : List Oper} {o : Oper} {a : Act} {w : World} {Q : Exit → Act → World → Prop} (h : wpList P ops Q (o :: rest) a w) : wpList P ops Q (o :: rest) a w := h
theorem exec_eql_nd {o : Oper} (x y : Operand) (t : TypeId) (ho : o.op = .binOp .eql 37 x y t) {a : Act} {w : World} (n m : Nd) (hx : a.eval x = n.val) (hy : a.eval y = m.val) : (execOp a.eval o).run Try.prog w = .ok (.value (.bool (eqN n m))) w := by
  have hg : (eqGuard .eql 37 x y n.val m.val).run Try.prog w = .ok () w := run_eqGuard_agg _ _ _ _ _ _ _ guardNode
  have hb : (binOp .eql 37 n.val m.val).run Try.prog w = .ok (.bool (eqN n m)) w := by
    show (do pure (.bool (← Op.equal 37 n.val m.val)) : Sem Value).run Try.prog w = _
    have he : (Op.equal 37 n.val m.val).run Try.prog w = .ok (eqN n m) w := eq_node n m w
    simp only [Sem.run_bind, he, Result.andThen_ok, Sem.run_pure]
  unfold execOp
  simp only [ho, hx, hy, hg, hb, Sem.run_bind, Sem.run_pure, Result.andThen_ok]
set_option maxRecDepth 100000 in
set_option maxHeartbeats 8000000 in
theorem once_right (l : List Nd) (h60 : l.length ≤ 60) (hok : ∀ n ∈ l, n.ok) (hr : rightP l = true) (v : Value) (w : World) (hn : NArg w w.heap.size v l) :
    Calls Try.prog 3 #[v] w (TruePost w) := by
  obtain ⟨A, c, rfl⟩ := hn.form
  obtain ⟨hnd, h0, h4⟩ := right_nodes hr
  obtain ⟨q, hq⟩ : ∃ q, flatP l = q := ⟨_, rfl⟩
  obtain ⟨N, hN⟩ : ∃ N, (ordP l).length = N := ⟨_, rfl⟩
  have hNl : N ≤ l.length := by rw [← hN]; exact (ord_len hr).2.1
  have hqN : q.length ≤ N := by rw [← hq, ← hN]; exact flat_short hr
  have hq0 : 0 < q.length := by rw [← hq]; exact flat_pos hr
  have hqr : rightP q = true := by rw [← hq]; exact flat_right hr (by rw [hq]; omega)
  have hqd : q.Nodup := by rw [← hq]; exact flat_nodup hr
  have hqq : flatP q = q := by rw [← hq]; exact flat_twice hr (by rw [hq]; omega)
  have hqo : ordP q = List.range q.length := by rw [← hq]; exact flat_ord hr (by rw [hq]; omega)
  have hqp : depP q (q.length - 1) = depP l (l.length - 1) := by rw [← hq]; exact flat_dep hr (by rw [hq]; omega)
  have hqk : ∀ n ∈ q, n.ok := by rw [← hq]; exact flat_okN hr hok
  have hqc : Cover (nth l) (nth q) l.length q.length (fun x => (runP l).1 x = true) (endP l).tm := by rw [← hq]; exact flat_cover hr
  have hqt : (endP l).tm (l.length - 1) = q.length - 1 := by have := flat_root hr; rw [hq] at this; omega
  have hqs : (runP l).1 (l.length - 1) = true := (flat_inv hr).2
  obtain ⟨dp, hdp⟩ : ∃ dp, depP l (l.length - 1) = dp := ⟨_, rfl⟩
  rw [hdp] at hqp
  have hb60 : decide ((60 : Int) < (l.length : Int)) = false := by rw [decide_eq_false_iff_not]; omega
  have hqcap : q.length ≤ 60 := by omega
  have HN := Lib.hid hn
  have HOK := Lib.hid hok
  have HR := Lib.hid hr
  have HQ := Lib.hid hq
  have HNN := Lib.hid hN
  have HQR := Lib.hid hqr
  have HQD := Lib.hid hqd
  have HQQ := Lib.hid hqq
  have HQO := Lib.hid hqo
  have HQP := Lib.hid hqp
  have HQK := Lib.hid hqk
  have HQC := Lib.hid hqc
  have HQT := Lib.hid hqt
  have HQS := Lib.hid hqs
  have HDP := Lib.hid hdp
  have HND := Lib.hid hnd
  clear hn hok hr hq hN hqr hqd hqq hqo hqp hqk hqc hqt hqs hdp hnd
  go_enter Try.func3, Try.ntmps3
  go_wp2_with fail
  have hf := flat_any l HOK.out HR.out _ w HN.out
  rw [HQ.out] at hf
  have HF := Lib.hid hf
  clear hf
  (with_reducible refine HF.out.mono ?_)
  rintro e w1 ⟨v1, rfl, ho1, hB1⟩
  obtain ⟨qa, qc, rfl⟩ := row_form ho1
  have HB1 := Lib.hid hB1
  have HO1 := Lib.hid ho1
  have hq1 : NArg w1 w1.heap.size (.slice qa q.length qc) q := NArg.of_own ho1
  have HQ1 := Lib.hid hq1
  clear hB1 ho1 hq1 HF
  have hd := depth_any l HOK.out HR.out _ w1 ((HN.out.ext HB1.out).mono HB1.out.size)
  rw [HDP.out] at hd
  have HD := Lib.hid hd
  clear hd
  go_wp2_with fail
  (with_reducible refine HD.out.mono ?_)
  rintro e w2 ⟨rfl, hB2⟩
  have H12 := Lib.hid hB2
  have HB2 := Lib.hid (HB1.out.trans (hB2.mono HB1.out.size))
  clear hB2 HD
  have hrt := right_any w2.heap.size _ l HOK.out (by omega) w2 ((HN.out.ext HB2.out).mono HB2.out.size).read (Nat.le_refl _)
  rw [HR.out] at hrt
  have HRT := Lib.hid hrt
  clear hrt
  go_wp2_with fail
  (with_reducible refine HRT.out.mono ?_)
  rintro e w3 ⟨rfl, hB3⟩
  have H13 := Lib.hid (H12.out.trans (hB3.mono H12.out.size))
  have HB3 := Lib.hid (HB2.out.trans (hB3.mono HB2.out.size))
  clear hB3 HB2 H12 HRT
  have hrt := right_any w3.heap.size _ q HQK.out (by omega) w3 ((HQ1.out.ext H13.out).mono H13.out.size).read (Nat.le_refl _)
  rw [HQR.out] at hrt
  have HRT := Lib.hid hrt
  clear hrt
  go_wp2_with fail
  (with_reducible refine HRT.out.mono ?_)
  rintro e w4 ⟨rfl, hB4⟩
  have H14 := Lib.hid (H13.out.trans (hB4.mono H13.out.size))
  have HB4 := Lib.hid (HB3.out.trans (hB4.mono HB3.out.size))
  clear hB4 HB3 H13 HRT
  have hu := used_any l HOK.out (by omega) _ w4 ((HN.out.ext HB4.out).mono HB4.out.size)
  rw [show usedP l = ordP l by unfold usedP; rw [HR.out]; rfl] at hu
  have HU := Lib.hid hu
  clear hu
  go_wp2_with fail
  (with_reducible refine HU.out.mono ?_)
  rintro e w5 ⟨u, rfl, ho, hB5⟩
  have H15 := Lib.hid (H14.out.trans (hB5.mono H14.out.size))
  have HB5 := Lib.hid (HB4.out.trans (hB5.mono HB4.out.size))
  obtain ⟨ua, uc, rfl⟩ := row_form ho
  rw [HNN.out]
  clear hB5 HB4 H14 HU ho
  have hx1 : ((l.length - 1 : Nat) : Int) = (l.length : Int) - 1 := by omega
  have hx2 : ((q.length - 1 : Nat) : Int) = (q.length : Int) - 1 := by omega
  obtain ⟨w6, hw6⟩ : ∃ w6, w6 = w5.alloc (.map #[] 0) := ⟨_, rfl⟩
  have hB56 : Below w5.heap.size w5 w6 := by rw [hw6]; exact (Below.refl _ _).alloc (Nat.le_refl _) _
  have hX6 : XS w6 w5.heap.size := by rw [hw6]; exact XS.new w5
  have htr := trees_any HQC.out (fun x hx => nth_rt HR.out HOK.out (HQC.out.lt x hx)) (right_ac HR.out) (kidsI_right HR.out) h4 (fun x hx => kind_le (HND.out x hx)) w5.heap.size w5.heap.size
    (.slice A l.length c) (.slice qa q.length qc) (Nat.le_refl _) (l.length - 1) HQS.out w6 (((HN.out.ext HB5.out).mono HB5.out.size).ext hB56) (((HQ1.out.ext H15.out).mono H15.out.size).ext hB56) hX6 hB56.size
  rw [HQT.out, hx1, hx2] at htr
  have HTR := Lib.hid htr
  have H56 := Lib.hid hB56
  clear htr hB56 hX6
  have hqb : decide (N < q.length) = false := by rw [decide_eq_false_iff_not]; omega
  have hqb2 : ¬ N < q.length := by omega
  clear hx1 hx2
  go_wp2_with (rw [← hw6])
  (with_reducible refine HTR.out.mono ?_)
  rintro e w7 ⟨rfl, hX7, hG7⟩
  clear hX7
  have hB57 : Below w5.heap.size w5 w7 := H56.out.grown hG7 H56.out.size (fun r e => by obtain rfl := Option.some.inj e; exact Nat.le_refl _)
  have H17 := Lib.hid (H15.out.trans (hB57.mono H15.out.size))
  clear hG7 hB57 HTR H56 H15 hw6 hqb hqb2
  have hqc2 : q.length ≤ qc := by
    obtain ⟨A', c', hv, h1, _, _⟩ := HQ1.out
    injection hv with _ _ e3
    omega
  have HQ0 := Lib.hid hq0
  have H04 := Lib.hid (And.intro h0 (And.intro h4 (And.intro h60 hqN)))
  clear h0 h4 h60 hqN hNl hb60 hq0
  go_upto_block 0 with (fail)
  go_cut [] from 90 (fun wx => Below w1.heap.size w1 wx)
  case first =>
    rename_i Kq hKq J1 K1 hJ1 hK1
    clear hKq Kq
    go_wp2_with fail
    go_loopw [92] (fun i wr => ∃ k : Nat, k ≤ q.length ∧ i = .int .i64 k ∧ Below w1.heap.size w1 wr) (fun i _ => q.length - (intOf i).toNat)
    case atStart => exact ⟨0, Nat.zero_le _, rfl, H17.out⟩
    case round =>
      obtain ⟨k, hk, rfl, hBr⟩ := hrel
      obtain ⟨wo, hwo⟩ : ∃ wo, wo = wr := ⟨_, rfl⟩
      subst hwo
      by_cases hkl : k < q.length
      · obtain ⟨g, off, rfl, hld⟩ := nread_at HQ1.out hkl
        obtain ⟨nk, hnk⟩ : ∃ nk, nth q k = nk := ⟨_, rfl⟩
        have hld1 := hld wo hBr
        rw [hnk] at hld1
        obtain ⟨Wa, hWa⟩ : ∃ Wa, Wa = wo.alloc (.cells nk.cells.toArray 37) := ⟨_, rfl⟩
        have hna : NBlk Wa wo.heap.size nk := by rw [hWa]; exact heap_alloc_new wo _
        have hBa : Below w1.heap.size w1 Wa := by rw [hWa]; exact hBr.alloc hBr.size _
        have HLD := Lib.hid hld1
        have HNA := Lib.hid hna
        have HBA := Lib.hid hBa
        have HNK := Lib.hid hnk
        have hwa : wo.heap.size < Wa.heap.size := (Array.getElem?_eq_some_iff.1 hna).1
        have hwo1 := hBr.size
        have k0 : (0 : Int) ≤ (k : Int) := by omega
        have ki : (k : Int) < (q.length : Int) := by omega
        have kc : (k : Int) ≤ (qc : Int) := by omega
        have kcn : k ≤ qc := by omega
        clear hld hld1 hna hBa hnk hBr
        go_upto_block 1 with (fail)
        go_cut [] from 94 to 108 (fun wx => Below w1.heap.size w1 wx)
        case first =>
          rename_i Kr hKr J2 K2 hJ2 hK2
          clear hKr Kr
          go_wp2_with (first | (rw [← hWa]) | ((with_reducible refine wl_pre ?_); (first | (refine wl_load_nd rfl (.tmp 95) rfl (.pointer (some ⟨g, off + k * 19, none⟩)) rfl nk HLD.out ?_) | (refine wl_alloc_nd rfl rfl ?_) | (refine wl_store_at rfl (.tmp 8) (.tmp 96) rfl wo rfl nk rfl rfl ?_)); (simp only [Act.put, List.setIfInBounds_toArray, List.set_cons_succ, List.set_cons_zero])))
          clear hWa
          go_loopw [101] (fun i wr => ∃ j : Nat, j ≤ k ∧ i = .int .i64 j ∧ NBlk wr wo.heap.size nk ∧ Below w1.heap.size w1 wr) (fun i _ => k - (intOf i).toNat)
          case atStart => exact ⟨0, Nat.zero_le _, rfl, HNA.out, HBA.out⟩
          case round =>
            obtain ⟨j, hj, rfl, hnr, hBr⟩ := hrel
            obtain ⟨wp, hwp⟩ : ∃ wp, wp = wr := ⟨_, rfl⟩
            subst hwp
            by_cases hjk : j < k
            · obtain ⟨g', off', e, hld⟩ := nread_at HQ1.out (x := j) (by omega)
              injection e with e
              injection e with e1 e2
              subst e1 e2
              obtain ⟨nj, hnj⟩ : ∃ nj, nth q j = nj := ⟨_, rfl⟩
              have hld1 := hld wp hBr
              rw [hnj] at hld1
              have hrk : Nd.rt nk := by rw [← HNK.out]; exact nth_rt HQR.out HQK.out hkl
              have hrj : Nd.rt nj := by rw [← hnj]; exact nth_rt HQR.out HQK.out (by omega)
              have hne : eqN nk nj = false := by
                rw [eqN_law hrk hrj, decide_eq_false_iff_not]
                intro e
                rw [← HNK.out, ← hnj, nth_eq q k q[k] (List.getElem?_eq_getElem hkl), nth_eq q j (q[j]'(by omega)) (List.getElem?_eq_getElem (by omega))] at e
                exact absurd e (nodup_ne HQD.out (by omega) hkl (by omega))
              obtain ⟨Wb, hWb⟩ : ∃ Wb, Wb = wp.alloc (.cells nj.cells.toArray 37) := ⟨_, rfl⟩
              have hnb : NBlk Wb wp.heap.size nj := by rw [hWb]; exact heap_alloc_new wp _
              have hlo : wo.heap.size < wp.heap.size := (Array.getElem?_eq_some_iff.1 hnr).1
              have hna : NBlk Wb wo.heap.size nk := by rw [hWb]; exact (Below.heap_alloc _ _ _ hlo).trans hnr
              have hBb : Below w1.heap.size w1 Wb := by rw [hWb]; exact hBr.alloc hBr.size _
              have HLJ := Lib.hid hld1
              have HNB := Lib.hid hnb
              have HNA2 := Lib.hid hna
              have HBB := Lib.hid hBb
              have HNE := Lib.hid hne
              have j0 : (0 : Int) ≤ (j : Int) := by omega
              have ji : (j : Int) < (k : Int) := by omega
              have j60 : j ≤ 60 := by omega
              have HKL := Lib.hid (And.intro hkl (And.intro hk (And.intro hjk (And.intro hqcap (And.intro hqc2 hj)))))
              clear hld hld1 hnj hrk hrj hne hnb hna hBb hnr hBr hwa hwo1 k0 ki kc kcn hlo hj hkl hk hqcap hqc2 hjk
              go_wp2_with (first | (rw [← hWb]) | ((with_reducible refine wl_pre ?_); (first | (refine wl_load_nd rfl (.tmp 103) rfl (.pointer (some ⟨g, off + j * 19, none⟩)) rfl nj HLJ.out ?_) | (refine wl_alloc_nd rfl rfl ?_) | (refine wl_store_at rfl (.tmp 10) (.tmp 104) rfl wp rfl nj rfl rfl ?_) | (refine wl_load_nd rfl (.tmp 8) rfl (.pointer (some ⟨wo.heap.size, 0, none⟩)) rfl nk HNA2.out.loadAt ?_) | (refine wl_load_nd rfl (.tmp 10) rfl (.pointer (some ⟨wp.heap.size, 0, none⟩)) rfl nj HNB.out.loadAt ?_) | (refine wl_val rfl _ (exec_eql_nd (.tmp 105) (.tmp 106) _ rfl nk nj rfl rfl) ?_; rw [HNE.out])); (simp only [Act.put, List.setIfInBounds_toArray, List.set_cons_succ, List.set_cons_zero])))
              go_roundw
              case rel => exact ⟨j + 1, by have := HKL.out.2.2.1; omega, by go_num, HNA2.out, HBB.out⟩
              case measure => have := HKL.out.2.2.1; simp [intOf]; omega
            · obtain rfl : j = k := by omega
              have HBP := Lib.hid hBr
              clear hnr hBr
              go_wp2_with fail
              go_meet
              case rel => exact HBP.out
        case rest =>
          have HBP := Lib.hid hcut
          clear hcut
          go_wp2_with fail
          go_roundw
          case rel => exact ⟨k + 1, by omega, by go_num, HBP.out⟩
          case measure => simp [intOf]; omega
      · obtain rfl : k = q.length := by omega
        have HBP := Lib.hid hBr
        clear hBr
        go_wp2_with fail
        go_meet
        case rel => exact HBP.out
  case rest =>
    obtain ⟨w8, hw8⟩ : ∃ w8, w8 = wc := ⟨_, rfl⟩
    subst hw8
    have H18 := Lib.hid hcut
    have hu := used_any q HQK.out (by omega) _ w8 ((HQ1.out.ext H18.out).mono H18.out.size)
    rw [show usedP q = List.range q.length by unfold usedP; rw [HQR.out, ← HQO.out]; rfl] at hu
    have HU := Lib.hid hu
    clear hu hcut
    go_wp2_with fail
    (with_reducible refine HU.out.mono ?_)
    rintro e w9 ⟨u, rfl, ho, hB9⟩
    have H19 := Lib.hid (H18.out.trans (hB9.mono H18.out.size))
    have hir := IRead.of_own ho
    obtain ⟨va, vc, rfl⟩ := row_form ho
    rw [List.length_range]
    have HIR := Lib.hid hir
    clear hB9 H18 HU ho hir
    go_upto_block 4 with (fail)
    go_cut [] from 111 (fun wx => Below w1.heap.size w1 wx)
    case first =>
      rename_i Kq hKq J1 K1 hJ1 hK1
      clear hKq Kq
      go_wp2_with fail
      go_loopw [113] (fun i wr => ∃ k : Nat, k ≤ q.length ∧ i = .int .i64 k ∧ Below w9.heap.size w9 wr) (fun i _ => q.length - (intOf i).toNat)
      case atStart => exact ⟨0, Nat.zero_le _, rfl, Below.refl _ _⟩
      case round =>
        obtain ⟨k, hk, rfl, hBr⟩ := hrel
        by_cases hkl : k < q.length
        · obtain ⟨A', c', hv, hx⟩ := HIR.out
          obtain ⟨g, off, rfl, hgl, hcl⟩ := hx (by intro e; rw [List.range_eq_nil] at e; omega)
          injection hv with e1 _ _
          subst e1
          have d1 := (World.cell?_of_block (a := ⟨g, off + k, none⟩) (hBr.block g hgl)).trans (hcl k (by rw [List.length_range]; exact hkl))
          rw [List.getElem_range] at d1
          have HB := Lib.hid hBr
          have k0 : (0 : Int) ≤ (k : Int) := by omega
          have ki : (k : Int) < (q.length : Int) := by omega
          clear hx hcl hBr
          go_wp2_with fail
          go_roundw
          case rel => exact ⟨k + 1, by omega, by go_num, HB.out⟩
          case measure => simp [intOf]; omega
        · obtain rfl : k = q.length := by omega
          have HB := Lib.hid (H19.out.trans (hBr.mono H19.out.size))
          clear hBr
          go_wp2_with fail
          go_meet
          case rel => exact HB.out
    case rest =>
      obtain ⟨x0, hx0⟩ : ∃ x0, x0 = wc := ⟨_, rfl⟩
      subst hx0
      have H1x := Lib.hid hcut
      have hf := flat_any q HQK.out HQR.out _ x0 ((HQ1.out.ext H1x.out).mono H1x.out.size)
      rw [HQQ.out] at hf
      have HF := Lib.hid hf
      clear hf hcut H19 HIR
      go_wp2_with fail
      (with_reducible refine HF.out.mono ?_)
      rintro e x1 ⟨va1, rfl, hoa, hBa⟩
      obtain ⟨ya, yc, rfl⟩ := row_form hoa
      have HOA := Lib.hid (NArg.of_own hoa)
      have H1y := Lib.hid (H1x.out.trans (hBa.mono H1x.out.size))
      clear hoa hBa H1x HF
      have hd := depth_any q HQK.out HQR.out _ x1 ((HQ1.out.ext H1y.out).mono H1y.out.size)
      rw [HQP.out] at hd
      have HD := Lib.hid hd
      clear hd
      go_wp2_with fail
      (with_reducible refine HD.out.mono ?_)
      rintro e x2 ⟨rfl, hBb⟩
      have hs := same18_eq x2.heap.size (.slice ya q.length yc) (.slice qa q.length qc) q (by omega) x2 ((HOA.out.ext hBb).mono hBb.size).read ((HQ1.out.ext (H1y.out.trans (hBb.mono H1y.out.size))).mono (H1y.out.trans (hBb.mono H1y.out.size)).size).read (Nat.le_refl _)
      have HS := Lib.hid hs
      have H1z := Lib.hid (H1y.out.trans (hBb.mono H1y.out.size))
      clear hs hBb HOA H1y HD
      go_wp2_with fail
      (with_reducible refine HS.out.mono ?_)
      rintro e x3 ⟨rfl, hBc⟩
      have H13 := Lib.hid (H1z.out.trans (hBc.mono H1z.out.size))
      have hu := used_any q HQK.out (by omega) _ x3 ((HQ1.out.ext H13.out).mono H13.out.size)
      rw [show usedP q = List.range q.length by unfold usedP; rw [HQR.out, ← HQO.out]; rfl] at hu
      have HU := Lib.hid hu
      clear hu hBc H1z HS
      go_wp2_with fail
      (with_reducible refine HU.out.mono ?_)
      rintro e x4 ⟨u, rfl, ho, hBd⟩
      have H14 := Lib.hid (H13.out.trans (hBd.mono H13.out.size))
      obtain ⟨za, zc, rfl⟩ := row_form ho
      rw [List.length_range]
      clear hBd H13 HU ho
      go_wp2_with fail
      refine (awake20 x4).mono ?_
      rintro e x5 ⟨rfl, hBe⟩
      have H15 := Lib.hid (H14.out.trans (hBe.mono H14.out.size))
      clear hBe H14
      go_wp2_with fail
      go_ret
      exact ⟨rfl, HB1.out.trans (H15.out.mono HB1.out.size)⟩
end Go.Proofs.Ytlhdabpoljoobaa.flatw
