/- What a slice of bytes that the row reads is. No conditions. -/
import Derived.Test.YtlhdabpoljoobaaFlaD
namespace Go.Proofs.Ytlhdabpoljoobaa.chkw
open Go.RowKit
open Go.Proofs.Ytlhdabpoljoobaa.nodew
open Go.ChangeShapes Go.WideShapes Go.Deep

section
variable {H : Type} {enc : TypeId × Value → H} {w : World} {base : Nat} {held : Bool}
/-- a slice whose elements are rows of k cells -/
theorem rows_of {t e : TypeId} {k : Nat} (ht : Try.prog.underlying t = some (.slice e)) (hC : Try.prog.cellsOf e = k) {α : Type} (f : α → List Value) (hlen : ∀ a, (f a).length = k) (hk : 0 < k) (Pr : α → Prop)
    (hel : ∀ (fuel : Nat) (cs : List Value) (x : DataW H × List MemPlace), DataW.trod enc Try.prog w base (fun _ => true) held fuel e cs = some x → ∃ a, cs = f a ∧ Pr a)
    {fuel : Nat} {v : Value} {x : DataW H × List MemPlace} (h : DataW.trod enc Try.prog w base (fun _ => true) held fuel t [v] = some x) :
    ∃ l : List α, (∃ A c, v = .slice A l.length c ∧ l.length ≤ c ∧ (A = none → c = 0) ∧ (l ≠ [] → ∃ g off, A = some ⟨g, off, none⟩ ∧ g < w.heap.size ∧ ∀ j u, (l.flatMap f)[j]? = some u → w.cell? ⟨g, off + j, none⟩ = some u)) ∧ ∀ a ∈ l, Pr a := by
  rcases open_slice ht h with ⟨hcs, _⟩ | ⟨a, len, cap, m, n, D, Pl, hcs, hb, hl, hm, hmm, hx, hi⟩
  · simp only [List.cons.injEq, and_true] at hcs
    exact ⟨[], ⟨none, 0, hcs, by simp, fun _ => rfl, fun h => absurd rfl h⟩, (fun y hy => by cases hy)⟩
  · simp only [List.cons.injEq, and_true] at hcs
    have hml : len ≤ m := by rw [hmm]; simp; exact hl
    have hnd : ∀ i, i < len → ∃ y : α, Pr y ∧ ∀ j u, (f y)[j]? = some u → w.cell? (a.add (i * k + j)) = some u := fun i hil => by
      obtain ⟨cs', hc, ht⟩ := hi i (by omega)
      rw [hC] at hc
      obtain ⟨y, hy, hyo⟩ := hel _ _ _ ht
      obtain ⟨_, hcl, hat⟩ := World.cells?_some hc
      refine ⟨y, hyo, fun j u hu => ?_⟩
      have hj : j < k := by have := (List.getElem?_eq_some_iff.1 hu).1; rwa [hlen] at this
      have := hat j hj
      rw [Go.Deep.add_add] at this
      rw [this, hy]
      exact hu
    have flen : ∀ l : List α, (l.flatMap f).length = l.length * k := by
      intro l
      induction l with
      | nil => simp
      | cons y r ih => rw [List.flatMap_cons, List.length_append, ih, hlen, List.length_cons, Nat.add_mul]; omega
    have hall : ∀ q, q ≤ len → ∃ l : List α, l.length = q ∧ (∀ y ∈ l, Pr y) ∧ ∀ j u, (l.flatMap f)[j]? = some u → w.cell? (a.add j) = some u := by
      intro q
      induction q with
      | zero => exact fun _ => ⟨[], rfl, (fun y hy => by cases hy), (fun j u hu => by simp at hu)⟩
      | succ q ih =>
        intro hq
        obtain ⟨l, hll, hlo, hlc⟩ := ih (by omega)
        obtain ⟨y, hyo, hyc⟩ := hnd q (by omega)
        refine ⟨l ++ [y], by rw [List.length_append, hll]; rfl, fun z hz => ?_, fun j u hu => ?_⟩
        · rcases List.mem_append.1 hz with hz | hz
          · exact hlo z hz
          · have : z = y := by simpa using hz
            rw [this]; exact hyo
        · rw [List.flatMap_append] at hu
          by_cases hj : j < (l.flatMap f).length
          · rw [List.getElem?_append_left hj] at hu; exact hlc j u hu
          · rw [List.getElem?_append_right (by omega)] at hu
            have hu' : (f y)[j - (l.flatMap f).length]? = some u := by simpa using hu
            have := hyc _ u hu'
            rw [flen, hll] at this hj
            rwa [show q * k + (j - q * k) = j by omega] at this
    obtain ⟨l, hll, hlo, hlc⟩ := hall len (Nat.le_refl _)
    refine ⟨l, ⟨some a, cap, by rw [hcs, hll], by omega, fun h => by simp at h, fun h0 => ?_⟩, hlo⟩
    have hpos : 0 < l.length := List.length_pos_iff.2 h0
    have hfp : 0 < (l.flatMap f).length := by rw [flen]; exact Nat.mul_pos hpos hk
    have hc0 := hlc 0 _ (List.getElem?_eq_getElem hfp)
    have ha0 : a.add 0 = a := by unfold Addr.add; simp
    rw [ha0] at hc0
    obtain ⟨g, off, spot⟩ := a
    have hspot : spot = none := by
      cases spot with
      | none => rfl
      | some p => unfold World.cell? at hc0; split at hc0 <;> simp at hc0
    subst hspot
    have hgl : g < w.heap.size := World.block_lt_of_cell? w _ hc0
    refine ⟨g, off, rfl, hgl, fun j u hu => ?_⟩
    have := hlc j u hu
    have hadd : (⟨g, off, none⟩ : Addr).add j = ⟨g, off + j, none⟩ := by unfold Addr.add; split <;> simp_all
    rwa [hadd] at this
/-- a slice of bytes, in a block below B -/
def BArg (W : World) (B : Nat) (v : Value) (bs : List Nat) : Prop :=
  ∃ A c, v = .slice A bs.length c ∧ (bs ≠ [] → ∃ g off, A = some ⟨g, off, none⟩ ∧ g < B ∧ g < W.heap.size ∧ ∀ j (hj : j < bs.length), W.cell? ⟨g, off + j, none⟩ = some (.int .u8 bs[j]))
theorem BArg.ext {W u : World} {B : Nat} {v : Value} {bs : List Nat} (h : BArg W B v bs) (hb : Below W.heap.size W u) : BArg u B v bs := by
  obtain ⟨A, c, hv, hx⟩ := h
  refine ⟨A, c, hv, fun h0 => ?_⟩
  obtain ⟨g, off, hA, hB, hl, hc⟩ := hx h0
  exact ⟨g, off, hA, hB, by have := hb.size; omega, fun j hj => (World.cell?_of_block (a := ⟨g, off + j, none⟩) (hb.block g hl)).trans (hc j hj)⟩
theorem flat_one (bs : List Nat) (j : Nat) (hj : j < bs.length) : (bs.flatMap fun b : Nat => [Value.int .u8 (b : Int)])[j]? = some (.int .u8 bs[j]) := by
  induction bs generalizing j with
  | nil => simp at hj
  | cons b r ih =>
    rw [List.flatMap_cons]
    cases j with
    | zero => rfl
    | succ j =>
      have hj' : j < r.length := by simpa using hj
      show (r.flatMap fun b : Nat => [Value.int .u8 (b : Int)])[j]? = some (.int .u8 (r[j]'hj'))
      exact ih j hj'
theorem bytes_of {fuel : Nat} {v : Value} {x : DataW H × List MemPlace} (hv : ∃ a len cap, v = .slice a len cap) (h : DataW.trod enc Try.prog w base (fun _ => true) held fuel 39 v.cells.toList = some x) : ∃ bs : List Nat, BArg w w.heap.size v bs ∧ ∀ b ∈ bs, b < 256 := by
  have h' : DataW.trod enc Try.prog w base (fun _ => true) held fuel 39 [v] = some x := by
    obtain ⟨va, vl, vc, rfl⟩ := hv
    exact h
  obtain ⟨bs, ⟨A, c, hv, _, _, hx⟩, hp⟩ := rows_of (k := 1) Try.underlying39 cells_u8 (fun b : Nat => [Value.int .u8 (b : Int)]) (fun a => rfl) (by omega) (fun b => b < 256) (fun fuel cs x h => by
    obtain ⟨k, ek, -, wk⟩ := DataW.trod_int Try.underlying5 h
    have hk : 0 ≤ k ∧ k ≤ 255 := by simpa [Lit.wf, IntKind.min, IntKind.max, IntKind.signed, IntKind.bits] using wk
    refine ⟨k.toNat, ?_, by omega⟩
    rw [ek]
    have hkk : ((k.toNat : Nat) : Int) = k := Int.toNat_of_nonneg hk.1
    rw [hkk]) h'
  refine ⟨bs, ⟨A, c, hv, fun h0 => ?_⟩, hp⟩
  obtain ⟨g, off, hA, hg, hc⟩ := hx h0
  exact ⟨g, off, hA, hg, hg, fun j hj => hc j _ (flat_one bs j hj)⟩
end

end Go.Proofs.Ytlhdabpoljoobaa.chkw
