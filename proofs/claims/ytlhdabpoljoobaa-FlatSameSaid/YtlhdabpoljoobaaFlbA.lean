/- Flat of what is no program; two rows of numbers that are the same. No conditions but those stated. -/
import Derived.Test.YtlhdabpoljoobaaFlaA
import Derived.BigQuiet
namespace Go.Proofs.Ytlhdabpoljoobaa.flatw
open Go.RowKit Go.Shelf
open Go.Proofs.Ytlhdabpoljoobaa.nodew
open Go.Proofs.Ytlhdabpoljoobaa.chkw
open Go.Proofs.Ytlhdabpoljoobaa.flatm

def NoPost (w : World) (x : Ending) (w' : World) : Prop := x = .returned (.tuple #[.slice none 0 0, .int .i64 190]) ∧ Below w.heap.size w w'
set_option maxRecDepth 100000 in
set_option maxHeartbeats 1000000 in
theorem flat_no (l : List Nd) (hok : ∀ n ∈ l, n.ok) (hll : l.length ≤ 1000000000000) (hr : rightP l = false) (v : Value) (w : World) (hn : NArg w w.heap.size v l) :
    Calls Try.prog 6 #[v] w (NoPost w) := by
  obtain ⟨A, c, rfl⟩ := hn.form
  obtain ⟨W1, hW1⟩ : ∃ W1, W1 = w.alloc (.cells #[.slice A l.length c] 22) := ⟨_, rfl⟩
  have hb1 : Boxed W1 w.heap.size 22 (.slice A l.length c) := by rw [hW1]; exact Boxed.new w _ _
  have hB1 : Below w.heap.size w W1 := by rw [hW1]; exact (Below.refl _ w).alloc (Nat.le_refl _) _
  have hrt := right_any w.heap.size _ l hok hll W1 ((hn.ext hB1).read) hB1.size
  rw [hr] at hrt
  have HRT := Lib.hid hrt
  have HB1 := Lib.hid hB1
  have cp1 := hb1.cell
  have cp1r := cp1
  rw [hW1] at cp1r
  clear hrt hn hok hr hB1 hb1
  go_enter Try.func6, Try.ntmps6
  go_wp2_with (rw [← hW1])
  refine HRT.out.mono ?_
  rintro e w' ⟨rfl, hB⟩
  have hB2 := HB1.out.trans (hB.mono HB1.out.size)
  clear hB hW1
  go_wp2_with fail
  go_ret2
  exact ⟨rfl, hB2⟩

/-- a slice that reads as a row of numbers -/
def IRead (W : World) (v : Value) (ks : List Nat) : Prop :=
  ∃ A c, v = .slice A ks.length c ∧ (ks ≠ [] → ∃ g off, A = some ⟨g, off, none⟩ ∧ g < W.heap.size ∧ ∀ j (hj : j < ks.length), W.cell? ⟨g, off + j, none⟩ = some (.int .i64 (ks[j] : Nat)))
theorem IRead.ext {W u : World} {v : Value} {ks : List Nat} (h : IRead W v ks) (hb : Below W.heap.size W u) : IRead u v ks := by
  obtain ⟨A, c, hv, hx⟩ := h
  refine ⟨A, c, hv, fun h0 => ?_⟩
  obtain ⟨g, off, hA, hl, hc⟩ := hx h0
  exact ⟨g, off, hA, by have := hb.size; omega, fun j hj => (World.cell?_of_block (a := ⟨g, off + j, none⟩) (hb.block g hl)).trans (hc j hj)⟩
theorem IRead.of_own {W : World} {base : Nat} {v : Value} {ks : List Nat} (h : W.ownsRow base 3 1 v ks.length (intsV ks)) : IRead W v ks := by
  rcases h.2 with ⟨rfl, hn⟩ | ⟨g, cap, cur, rfl, _, hgg, _⟩
  · exact ⟨_, _, by rw [hn], fun h0 => absurd (List.eq_nil_of_length_eq_zero hn) h0⟩
  · refine ⟨_, _, rfl, fun _ => ⟨g, 0, rfl, (Array.getElem?_eq_some_iff.1 hgg).1, fun j hj => ?_⟩⟩
    have hc := h.cells (g := g) rfl j (.int .i64 (ks[j] : Nat)) (by simp [intsV, hj])
    have hadd : (⟨g, 0, none⟩ : Addr).add j = ⟨g, j, none⟩ := by unfold Addr.add; split <;> simp_all
    rw [hadd] at hc
    rw [Nat.zero_add]
    exact hc
def TruePost (w : World) (x : Ending) (w' : World) : Prop := x = .returned (.bool true) ∧ Below w.heap.size w w'
set_option maxHeartbeats 1000000 in
theorem ints_eq (v1 v2 : Value) (ks : List Nat) (hl : ks.length ≤ 1000000) (w : World) (h1 : IRead w v1 ks) (h2 : IRead w v2 ks) :
    Calls Try.prog 13 #[v1, v2] w (TruePost w) := by
  obtain ⟨A1, c1, rfl, hx1⟩ := h1
  obtain ⟨A2, c2, rfl, hx2⟩ := h2
  have HX1 := Lib.hid hx1
  have HX2 := Lib.hid hx2
  clear hx1 hx2
  go_enter Try.func13, Try.ntmps13
  go_wp2_with fail
  go_loopw [13] (fun i wr => ∃ k : Nat, k ≤ ks.length ∧ i = .int .i64 k ∧ Below w.heap.size w wr) (fun i _ => ks.length - (intOf i).toNat)
  case atStart => exact ⟨0, Nat.zero_le _, rfl, Below.refl _ _⟩
  case round =>
    obtain ⟨k, hk, rfl, hBr⟩ := hrel
    by_cases hkl : k < ks.length
    · have hne : ks ≠ [] := by intro e; subst e; simp at hkl
      obtain ⟨g1, o1, rfl, hg1, hc1⟩ := HX1.out hne
      obtain ⟨g2, o2, rfl, hg2, hc2⟩ := HX2.out hne
      have d1 := (World.cell?_of_block (a := ⟨g1, o1 + k, none⟩) (hBr.block g1 hg1)).trans (hc1 k hkl)
      have d2 := (World.cell?_of_block (a := ⟨g2, o2 + k, none⟩) (hBr.block g2 hg2)).trans (hc2 k hkl)
      have HB := Lib.hid hBr
      obtain ⟨cc, hcc⟩ : ∃ cc, ks[k] = cc := ⟨_, rfl⟩
      rw [hcc] at d1 d2
      have k0 : (0 : Int) ≤ (k : Int) := by omega
      have ki : (k : Int) < (ks.length : Int) := by omega
      clear hc1 hc2 hBr hcc hne
      go_wp2_with fail
      go_quiet (fail)
      go_wp2_with fail
      go_roundw
      case rel => exact ⟨k + 1, by omega, by go_num, nodew.below_drewN' HB.out nq⟩
      case measure => simp [intOf]; omega
    · obtain rfl : k = ks.length := by omega
      go_wp2_with fail
      go_ret
      exact ⟨rfl, hBr⟩
end Go.Proofs.Ytlhdabpoljoobaa.flatw
