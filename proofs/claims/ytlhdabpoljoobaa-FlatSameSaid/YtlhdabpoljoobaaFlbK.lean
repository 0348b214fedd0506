/- FlatSame: the law's function answers true, whatever the nodes and numbers. No conditions but those stated. -/
import Derived.Test.YtlhdabpoljoobaaFlbJ
import Derived.Test.YtlhdabpoljoobaaFlbC
namespace Go.Proofs.Ytlhdabpoljoobaa.flatw
open Go.RowKit Go.Shelf
open Go.Proofs.Ytlhdabpoljoobaa.nodew
open Go.Proofs.Ytlhdabpoljoobaa.chkw
open Go.Proofs.Ytlhdabpoljoobaa.flatm

theorem bmono {W : World} {B B' : Nat} {v : Value} {bs : List Nat} (h : BArg W B v bs) (hb : B ≤ B') : BArg W B' v bs := by
  obtain ⟨A, c, hv, hx⟩ := h
  refine ⟨A, c, hv, fun h0 => ?_⟩
  obtain ⟨g, off, hA, hg, r⟩ := hx h0
  exact ⟨g, off, hA, Nat.lt_of_lt_of_le hg hb, r⟩
set_option maxRecDepth 100000 in
set_option maxHeartbeats 1000000 in
theorem same_long (l : List Nd) (h40 : 40 < l.length) (v vb : Value) (w : World) (hv : ∃ A c, v = .slice A l.length c) :
    Calls Try.prog 4 #[v, vb] w (TruePost w) := by
  obtain ⟨A, c, rfl⟩ := hv
  go_enter Try.func4, Try.ntmps4
  go_wp2_with fail
  refine (awake20 w).mono ?_
  rintro e w' ⟨rfl, hB⟩
  go_wp2_with fail
  go_ret
  exact ⟨rfl, hB⟩
set_option maxRecDepth 100000 in
set_option maxHeartbeats 1000000 in
theorem same_wrong (l : List Nd) (h40 : l.length ≤ 40) (hok : ∀ n ∈ l, n.ok) (hr : rightP l = false) (v vb : Value) (w : World) (hn : NArg w w.heap.size v l) :
    Calls Try.prog 4 #[v, vb] w (TruePost w) := by
  have hrt := right_any w.heap.size v l hok (by omega) w hn.read (Nat.le_refl _)
  obtain ⟨A, c, rfl⟩ := hn.form
  rw [hr] at hrt
  have HRT := Lib.hid hrt
  clear hn hok hr hrt
  go_enter Try.func4, Try.ntmps4
  go_wp2_with fail
  (with_reducible refine HRT.out.mono ?_)
  rintro e w1 ⟨rfl, hB1⟩
  have HB1 := Lib.hid hB1
  clear hB1 HRT
  go_wp2_with fail
  refine (awake20 w1).mono ?_
  rintro e w2 ⟨rfl, hB2⟩
  have HB2 := Lib.hid (HB1.out.trans (hB2.mono HB1.out.size))
  clear hB2 HB1
  go_wp2_with fail
  go_ret
  exact ⟨rfl, HB2.out⟩
set_option maxRecDepth 100000 in
set_option maxHeartbeats 4000000 in
theorem same_right (l : List Nd) (h40 : l.length ≤ 40) (hok : ∀ n ∈ l, n.ok) (hr : rightP l = true) (bs : List Nat) (hb : ∀ b ∈ bs, b < 256) (v vb : Value) (w : World) (hn : NArg w w.heap.size v l) (hbs : BArg w w.heap.size vb bs) :
    Calls Try.prog 4 #[v, vb] w (TruePost w) := by
  obtain ⟨A, c, rfl⟩ := hn.form
  have hb40 : decide ((40 : Int) < (l.length : Int)) = false := by rw [decide_eq_false_iff_not]; omega
  obtain ⟨q, hq⟩ : ∃ q, twP bs l = q := ⟨_, rfl⟩
  have hqr : rightP q = true := by rw [← hq]; exact tw_right hr h40 bs
  have hqf : flatP q = flatP l := by rw [← hq]; exact tw_flat hr h40 bs
  have hqd : depP q (q.length - 1) = depP l (l.length - 1) := by rw [← hq]; exact tw_dep hr h40 bs
  have hqk : ∀ n ∈ q, n.ok := by rw [← hq]; exact tw_okN bs hok
  have hql : q.length ≤ 120 := by rw [← hq]; have := tw_len bs l 0; unfold twP; omega
  obtain ⟨fl, hfl⟩ : ∃ fl, flatP l = fl := ⟨_, rfl⟩
  have hfll : fl.length ≤ 40 := by rw [← hfl]; have := flat_short hr; have := (ord_len hr).2.1; omega
  obtain ⟨dp, hdp⟩ : ∃ dp, depP l (l.length - 1) = dp := ⟨_, rfl⟩
  rw [hfl] at hqf
  rw [hdp] at hqd
  have htw := twice_any l hok hr h40 bs hb _ vb w hn hbs
  have hrt := right_any w.heap.size _ l hok (by omega) w hn.read (Nat.le_refl _)
  rw [hq] at htw
  rw [hr] at hrt
  have HN := Lib.hid hn
  have HOK := Lib.hid hok
  have HR := Lib.hid hr
  have HQR := Lib.hid hqr
  have HQF := Lib.hid hqf
  have HQD := Lib.hid hqd
  have HQK := Lib.hid hqk
  have HFL := Lib.hid hfl
  have HDP := Lib.hid hdp
  have HRT := Lib.hid hrt
  have HTWA := Lib.hid (fun (w1 : World) (h : Below w.heap.size w w1) => twice_any l hok hr h40 bs hb (.slice A l.length c) vb w1 ((hn.ext h).mono h.size) (bmono (hbs.ext h) h.size))
  have HQ := Lib.hid hq
  clear hn hok hr hqr hqf hqd hqk hfl hdp hrt htw hq hbs hb
  go_enter Try.func4, Try.ntmps4
  go_wp2_with fail
  (with_reducible refine HRT.out.mono ?_)
  rintro e w1 ⟨rfl, hB1⟩
  have HB1 := Lib.hid hB1
  have ht := HTWA.out w1 hB1
  rw [HQ.out] at ht
  have HT := Lib.hid ht
  clear hB1 HRT ht
  go_wp2_with fail
  (with_reducible refine HT.out.mono ?_)
  rintro e w2 ⟨vq, rfl, hoq, hB2⟩
  obtain ⟨qa, qc, rfl⟩ := row_form hoq
  have HQ2 := Lib.hid (NArg.of_own hoq)
  have HB2 := Lib.hid (HB1.out.trans (hB2.mono HB1.out.size))
  clear hB2 hoq HB1 HT
  have hf := flat_any l HOK.out HR.out _ w2 ((HN.out.ext HB2.out).mono HB2.out.size)
  rw [HFL.out] at hf
  have HF := Lib.hid hf
  clear hf
  go_wp2_with fail
  (with_reducible refine HF.out.mono ?_)
  rintro e w3 ⟨va, rfl, hoa, hB3⟩
  obtain ⟨aa, ac, rfl⟩ := row_form hoa
  have HA3 := Lib.hid (NArg.of_own hoa)
  have H23 := Lib.hid hB3
  clear hB3 hoa HF
  have hf := flat_any q HQK.out HQR.out _ w3 ((HQ2.out.ext H23.out).mono H23.out.size)
  rw [HQF.out] at hf
  have HF := Lib.hid hf
  clear hf
  go_wp2_with fail
  (with_reducible refine HF.out.mono ?_)
  rintro e w4 ⟨vb4, rfl, hob, hB4⟩
  obtain ⟨ba, bc, rfl⟩ := row_form hob
  have HB4 := Lib.hid (NArg.of_own hob)
  have H34 := Lib.hid hB4
  have H24 := Lib.hid (H23.out.trans (hB4.mono H23.out.size))
  clear hB4 hob HF H23
  have hBw4 := HB2.out.trans (H24.out.mono HB2.out.size)
  have hd := depth_any l HOK.out HR.out _ w4 ((HN.out.ext hBw4).mono hBw4.size)
  rw [HDP.out] at hd
  have HD := Lib.hid hd
  clear hd hBw4
  go_wp2_with fail
  (with_reducible refine HD.out.mono ?_)
  rintro e w5 ⟨rfl, hB5⟩
  have H45 := Lib.hid hB5
  have H25 := Lib.hid (H24.out.trans (hB5.mono H24.out.size))
  clear hB5 HD
  have hd := depth_any q HQK.out HQR.out _ w5 ((HQ2.out.ext H25.out).mono H25.out.size)
  rw [HQD.out] at hd
  have HD := Lib.hid hd
  clear hd
  go_wp2_with fail
  (with_reducible refine HD.out.mono ?_)
  rintro e w6 ⟨rfl, hB6⟩
  have H46 := Lib.hid (H45.out.trans (hB6.mono H45.out.size))
  have H26 := Lib.hid (H25.out.trans (hB6.mono H25.out.size))
  clear hB6 HD H45 H25
  have hrt := right_any w6.heap.size _ q HQK.out (by omega) w6 ((HQ2.out.ext H26.out).mono H26.out.size).read (Nat.le_refl _)
  rw [HQR.out] at hrt
  have HRT := Lib.hid hrt
  clear hrt
  go_wp2_with fail
  (with_reducible refine HRT.out.mono ?_)
  rintro e w7 ⟨rfl, hB7⟩
  have H47 := Lib.hid (H46.out.trans (hB7.mono H46.out.size))
  have H27 := Lib.hid (H26.out.trans (hB7.mono H26.out.size))
  clear hB7 HRT H46 H26
  have h37 := H34.out.trans (H47.out.mono H34.out.size)
  have hs := same18_eq w7.heap.size (.slice aa fl.length ac) (.slice ba fl.length bc) fl (by omega) w7 ((HA3.out.ext h37).mono h37.size).read ((HB4.out.ext H47.out).mono H47.out.size).read (Nat.le_refl _)
  have HS := Lib.hid hs
  clear hs h37
  go_wp2_with fail
  (with_reducible refine HS.out.mono ?_)
  rintro e w8 ⟨rfl, hB8⟩
  have H28 := Lib.hid (H27.out.trans (hB8.mono H27.out.size))
  clear hB8 HS H27
  go_wp2_with fail
  refine (awake20 w8).mono ?_
  rintro e w9 ⟨rfl, hB9⟩
  have H29 := Lib.hid (H28.out.trans (hB9.mono H28.out.size))
  clear hB9 H28
  go_wp2_with fail
  go_ret
  exact ⟨rfl, HB2.out.trans (H29.out.mono HB2.out.size)⟩
end Go.Proofs.Ytlhdabpoljoobaa.flatw
