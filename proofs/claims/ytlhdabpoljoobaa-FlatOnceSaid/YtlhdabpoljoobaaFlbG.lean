/- FlatOnce: the law's function answers true, whatever the nodes. No conditions but those stated. -/
import Derived.Test.YtlhdabpoljoobaaFlbC
import Derived.Test.YtlhdabpoljoobaaFlbE
namespace Go.Proofs.Ytlhdabpoljoobaa.flatw
open Go.RowKit Go.Shelf
open Go.Proofs.Ytlhdabpoljoobaa.nodew
open Go.Proofs.Ytlhdabpoljoobaa.chkw
open Go.Proofs.Ytlhdabpoljoobaa.flatm

theorem mk_mapX (w : World) : (Instr.makeMap 33 none).run Try.prog w = .ok (.map (some w.heap.size)) (w.alloc (.map #[] 0)) := by
  simp [Instr.makeMap, run_underlying Try.underlying33, go_sem]
attribute [local go_sem] mk_mapX
theorem kind_le {n : Nd} {x : Int} (h : nodeOk n x = true) : n.kind ≤ 6 := by
  obtain ⟨_, _, _, h4, _⟩ := nodeOk_parts h
  apply Nat.le_of_not_lt
  intro hk
  unfold fieldList at h4
  rw [if_neg (by omega), if_neg (by omega), if_neg (by omega), if_neg (by omega), if_neg (by omega), if_neg (by omega)] at h4
  simp at h4
set_option maxRecDepth 100000 in
set_option maxHeartbeats 1000000 in
theorem once_long (l : List Nd) (h60 : 60 < l.length) (v : Value) (w : World) (hv : ∃ A c, v = .slice A l.length c) :
    Calls Try.prog 3 #[v] w (TruePost w) := by
  obtain ⟨A, c, rfl⟩ := hv
  go_enter Try.func3, Try.ntmps3
  go_wp2_with fail
  refine (awake20 w).mono ?_
  rintro e w' ⟨rfl, hB⟩
  go_wp2_with fail
  go_ret
  exact ⟨rfl, hB⟩
set_option maxRecDepth 100000 in
set_option maxHeartbeats 2000000 in
theorem once_wrong (l : List Nd) (h60 : l.length ≤ 60) (hok : ∀ n ∈ l, n.ok) (hr : rightP l = false) (v : Value) (w : World) (hn : NArg w w.heap.size v l) :
    Calls Try.prog 3 #[v] w (TruePost w) := by
  obtain ⟨A, c, rfl⟩ := hn.form
  have HN := Lib.hid hn
  have HOK := Lib.hid hok
  have HR := Lib.hid hr
  clear hn hok hr
  go_enter Try.func3, Try.ntmps3
  go_wp2_with fail
  (with_reducible refine (flat_no l HOK.out (by omega) HR.out _ w HN.out).mono ?_)
  rintro e w1 ⟨rfl, hB1⟩
  have HB1 := Lib.hid hB1
  clear hB1
  go_wp2_with fail
  (with_reducible refine (depth_no l HOK.out (by omega) HR.out _ w1 ((HN.out.ext HB1.out).mono HB1.out.size)).mono ?_)
  rintro e w2 ⟨rfl, hB2⟩
  have HB2 := Lib.hid (HB1.out.trans (hB2.mono HB1.out.size))
  clear hB2 HB1
  have hrt := right_any w2.heap.size _ l HOK.out (by omega) w2 ((HN.out.ext HB2.out).mono HB2.out.size).read (Nat.le_refl _)
  rw [HR.out] at hrt
  have HRT := Lib.hid hrt
  clear hrt
  go_wp2_with fail
  (with_reducible refine HRT.out.mono ?_)
  rintro e w3 ⟨rfl, hB3⟩
  have HB3 := Lib.hid (HB2.out.trans (hB3.mono HB2.out.size))
  clear hB3 HB2 HRT
  have hu := used_any l HOK.out (by omega) _ w3 ((HN.out.ext HB3.out).mono HB3.out.size)
  rw [show usedP l = [] by unfold usedP; rw [HR.out]; rfl] at hu
  have HU := Lib.hid hu
  clear hu
  go_wp2_with fail
  (with_reducible refine HU.out.mono ?_)
  rintro e w4 ⟨u, rfl, ho, hB4⟩
  have HB4 := Lib.hid (HB3.out.trans (hB4.mono HB3.out.size))
  obtain ⟨ua, uc, rfl⟩ := row_form ho
  clear hB4 HB3 HU ho
  go_wp2_with fail
  refine (awake20 w4).mono ?_
  rintro e w5 ⟨rfl, hB5⟩
  have HB5 := Lib.hid (HB4.out.trans (hB5.mono HB4.out.size))
  clear hB5 HB4
  go_wp2_with fail
  go_ret
  exact ⟨rfl, HB5.out⟩
end Go.Proofs.Ytlhdabpoljoobaa.flatw
