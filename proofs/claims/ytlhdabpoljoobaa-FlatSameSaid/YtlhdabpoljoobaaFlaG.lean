/- A box that holds a growing row, as the other side of an iterator. No conditions but those stated. -/
import Derived.Test.YtlhdabpoljoobaaFlaZ
import Derived.Maps.OwnIn
namespace Go.Proofs.Ytlhdabpoljoobaa.flatw
open Go.RowKit Go.Shelf
open Go.Proofs.Ytlhdabpoljoobaa.nodew
open Go.Proofs.Ytlhdabpoljoobaa.chkw
open Go.Proofs.Ytlhdabpoljoobaa.flatm

/-- the box bs and the row that it holds -/
def footR (bs : Nat) (W : World) (k : Nat) : Prop := k = bs ∨ ∃ v, W.cell? ⟨bs, 0, none⟩ = some v ∧ v.ownBlock = some k
/-- the box bs holds a row of its own -/
def HR (n0 bs t e size : Nat) (k : Nat) (xs : List Value) (W : World) : Prop := ∃ v, Boxed W bs t v ∧ W.ownsRow n0 e size v k xs
theorem HR.foot_lt {n0 bs t e size k : Nat} {xs : List Value} {W : World} (h : HR n0 bs t e size k xs W) (hb : n0 ≤ bs) {i : Nat} (hi : footR bs W i) : n0 ≤ i ∧ i < W.heap.size := by
  obtain ⟨v, hv, ho⟩ := h
  rcases hi with rfl | ⟨u, hu, hi⟩
  · exact ⟨hb, hv.lt⟩
  · rw [hv.cell] at hu
    obtain rfl := Option.some.inj hu
    exact ho.lt i hi
/-- others' turns do not reach it -/
theorem HR.own {n0 bs t e size k : Nat} {xs : List Value} {X Y : World} {row : Option Nat} (h : HR n0 bs t e size k xs X) (hg : X.grownBy Y row) (hr : ∀ r, row = some r → ¬ footR bs X r) : HR n0 bs t e size k xs Y ∧ ∀ i, footR bs Y i → footR bs X i := by
  obtain ⟨v, hv, ho⟩ := h
  have hv' : Boxed Y bs t v := hv.kept hg (fun e => hr bs e.symm (.inl rfl))
  refine ⟨⟨v, hv', ho.kept hg ?_⟩, ?_⟩
  · cases hvo : v.ownBlock with
    | none => exact .inl rfl
    | some g => exact .inr fun e => hr g e.symm (.inr ⟨v, hv.cell, hvo⟩)
  · rintro i (rfl | ⟨u, hu, hi⟩)
    · exact .inl rfl
    · rw [hv'.cell] at hu
      exact .inr ⟨u, hv.cell.trans hu, hi⟩
theorem HR.put {n0 bs t e size k : Nat} {xs : List Value} {W : World} (h : HR n0 bs t e size k xs W) {l : Nat} {o o' : Obj} (hl : W.heap[l]? = some o) (ho : isRec o = true) : HR n0 bs t e size k xs (W.putObj l o') := by
  obtain ⟨v, hv, hw⟩ := h
  have hne : ∀ b cs t fr, W.heap[b]? = some (.cells cs t fr) → b ≠ l := by
    rintro b cs t fr hb rfl
    rw [hb] at hl
    injection hl with hl
    subst hl
    cases ho
  refine ⟨v, (World.putObj_heap_other (hne _ _ _ _ hv)).trans hv, hw.1, ?_⟩
  rcases hw.2 with h0 | ⟨g, cap, cur, hg, h2, hh, r⟩
  · exact .inl h0
  · exact .inr ⟨g, cap, cur, hg, h2, (World.putObj_heap_other (hne _ _ _ _ hh)).trans hh, r⟩
theorem footR_put {bs : Nat} {W : World} {k : Nat} {o o' : Obj} (ho : W.heap[k]? = some o) (hr : isRec o = true) (hr' : isRec o' = true) (i : Nat) (h : footR bs (W.putObj k o') i) : footR bs W i := by
  rcases h with rfl | ⟨u, hu, hi⟩
  · exact .inl rfl
  · refine .inr ⟨u, ?_, hi⟩
    by_cases e : bs = k
    · subst e
      exfalso
      unfold World.cell? at hu
      rw [show (W.putObj bs o').heap[bs]? = some o' from World.putObj_heap_same (Array.getElem?_eq_some_iff.1 ho).1] at hu
      cases o' <;> simp_all [isRec]
    · rw [← hu]
      exact (World.cell?_of_block (a := ⟨bs, 0, none⟩) (World.putObj_heap_other e)).symm
/-- the row grows by what a made block holds, and the box is set -/
theorem HR.step {n0 bs t e size k k' : Nat} {xs xs' : List Value} {W w1 : World} {v v' : Value} {tmp : Obj} (hb : n0 ≤ bs) (hte : t ≠ e) (hv : Boxed W bs t v) (ho : W.ownsRow n0 e size v k xs)
    (hg : (W.alloc tmp).grownBy w1 v.ownBlock) (ho' : w1.ownsRow n0 e size v' k' xs') (hvb : v'.ownBlock = v.ownBlock ∨ v'.ownBlock = some (W.alloc tmp).heap.size) :
    HR n0 bs t e size k' xs' (w1.setCell ⟨bs, 0, none⟩ v') ∧ KeepP (footR bs) n0 none W (w1.setCell ⟨bs, 0, none⟩ v') ∧ KeepsRec W (w1.setCell ⟨bs, 0, none⟩ v') ∧ Boxed w1 bs t v := by
  have hv1 : Boxed w1 bs t v := (hv.alloc tmp).kept hg (hv.not_row hte ho)
  have hbs : some bs ≠ v'.ownBlock := hv1.not_row hte ho'
  have hz : (w1.setCell ⟨bs, 0, none⟩ v').heap.size = w1.heap.size := by simp
  have hW1 : W.heap.size < w1.heap.size := by have := hg.size; rw [World.size_alloc] at this; omega
  have hblk : ∀ i, i < W.heap.size → ¬ footR bs W i → (w1.setCell ⟨bs, 0, none⟩ v').heap[i]? = W.heap[i]? := by
    intro i hi hf
    rw [Below.heap_setCell w1 ⟨bs, 0, none⟩ v' i (fun e => hf (.inl e)), hg.block i (by rw [World.size_alloc]; omega) (fun e => hf (.inr ⟨v, hv.cell, e.symm⟩)), Below.heap_alloc W tmp i hi]
  have hv2 : Boxed (w1.setCell ⟨bs, 0, none⟩ v') bs t v' := hv1.set v'
  refine ⟨⟨v', hv2, ho'.kept (grownBy_setCell' w1 bs v') ?_⟩, ⟨by omega, fun i hi hs => hblk i hs ?_, fun i hi => ⟨⟨?_, ?_⟩, fun _ => hblk i hi.lt hi.2⟩⟩, ?_, hv1⟩
  · cases h : v'.ownBlock with
    | none => exact .inl rfl
    | some g => exact .inr fun e => hbs (by rw [h, e])
  · intro hf
    rcases hf with rfl | ⟨u, hu, hf⟩
    · omega
    · rw [hv.cell] at hu
      obtain rfl := Option.some.inj hu
      have := (ho.lt i hf).1
      omega
  · rw [hblk i hi.lt hi.2]; exact hi.1
  · rintro (rfl | ⟨u, hu, hf⟩)
    · exact hi.2 (.inl rfl)
    · rw [hv2.cell] at hu
      obtain rfl := Option.some.inj hu
      rcases hvb with h | h
      · exact hi.2 (.inr ⟨v, hv.cell, h.symm.trans hf⟩)
      · rw [hf] at h
        have := Option.some.inj h
        rw [World.size_alloc] at this
        have := hi.lt
        omega
  · intro i o hi hro
    rw [hblk i (Array.getElem?_eq_some_iff.1 hi).1 ?_]
    · exact hi
    · rintro (rfl | ⟨u, hu, hf⟩)
      · rw [show W.heap[i]? = _ from hv] at hi
        injection hi with hi
        subst hi
        cases hro
      · rw [hv.cell] at hu
        obtain rfl := Option.some.inj hu
        rcases ho.2 with ⟨rfl, _⟩ | ⟨g, cap, cur, rfl, _, hh, _⟩
        · cases hf
        · have : g = i := by simpa [Value.ownBlock] using hf
          subst this
          rw [hh] at hi
          injection hi with hi
          subst hi
          cases hro
end Go.Proofs.Ytlhdabpoljoobaa.flatw
