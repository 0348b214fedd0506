/- A range over what a root needs: the statement, out of one walk of the body. No conditions but those stated. -/
import Derived.Test.YtlhdabpoljoobaaFlaY
namespace Go.Proofs.Ytlhdabpoljoobaa.flatw
open Go.RowKit Go.Shelf
open Go.Proofs.Ytlhdabpoljoobaa.nodew
open Go.Proofs.Ytlhdabpoljoobaa.chkw
open Go.Proofs.Ytlhdabpoljoobaa.flatm

theorem put_rec_priv {foot : World → Nat → Prop} {W : World} {k : Nat} {o o' : Obj} (ho : W.heap[k]? = some o) (hr : isRec o = true) (hf : ∀ i, foot (W.putObj k o') i → foot W i) {i : Nat} (h : Priv foot W i) : Priv foot (W.putObj k o') i ∧ (W.putObj k o').heap[i]? = W.heap[i]? := by
  have hne : i ≠ k := by
    rintro rfl
    obtain ⟨⟨cs, t, fr, hc⟩, _⟩ := h
    rw [hc] at ho
    injection ho with ho
    subst ho
    cases hr
  have he : (W.putObj k o').heap[i]? = W.heap[i]? := World.putObj_heap_other hne
  obtain ⟨⟨cs, t, fr, hc⟩, hn⟩ := h
  exact ⟨⟨⟨cs, t, fr, he.trans hc⟩, fun h => hn (hf i h)⟩, he⟩

theorem range_seq {n : Nat} (h1 : 1 ≤ n) {g : Operand} {p : Tmp} {assign body : Code} {Q : Exit → Act → World → Prop} {a : Act} {w : World} {foot : World → Nat → Prop} {B : Nat} {I : List Nat → World → Prop} (hF : Foot foot B I)
    (hput : ∀ pre W k o o', I pre W → w.heap.size ≤ k → W.heap[k]? = some o → isRec o = true → isRec o' = true → I pre (W.putObj k o'))
    (hputf : ∀ W k o o', W.heap[k]? = some o → isRec o = true → isRec o' = true → ∀ i, foot (W.putObj k o') i → foot W i)
    (l : List Nd) (h0 : 0 < l.length) (hl : l.length ≤ 4096) (hac : ∀ x, x < l.length → ∀ c ∈ kids (nth l x), c < x) (hki : ∀ x, x < l.length → kidsI (nth l x) = (kids (nth l x)).map (fun c : Nat => (c : Int)))
    (pb : Nat) (v : Value) (hB : B ≤ w.heap.size) (hp : Boxed w pb 22 v) (hpp : ¬ foot w pb) (hn : NArg w B v l) (hI : I [] w)
    (hg : a.eval g = .func (.func 20) #[] #[.pointer (some ⟨pb, 0, none⟩)])
    (a₁ : Nat → Act)
    (hassign : ∀ (lb m : Nat) (x : Nat) (W : World) (K : Act → World → Prop), K (a₁ x) W →
      assign.wpIn (Fence.wide.inRound lb) m Try.prog (Exit.then K (fun _ _ _ => False)) { tmps := (#[p].zip #[Value.int .i64 x]).foldl (fun t (p, v) => t.setIfInBounds p v) a.tmps, defers := [] } W)
    (hbody : ∀ (lb m : Nat) (pre : List Nat) (x : Nat) (W : World), I pre W → x < l.length → pre ++ [x] <+: ordP l → body.wpIn (Fence.wide.inRound lb) m Try.prog (bodyEnd I (KeepP foot B none) (pre ++ [x]) W) (a₁ x) W)
    (hdone : ∀ W : World, I (ordP l) W → W.heap[w.heap.size]? = some (.deferred (some [])) → Q .normal { a with defers := { target := .collected w.heap.size, args := #[] } :: a.defers } W) :
    (Code.rangeFunc g #[p] assign body).wpIn Fence.wide n Try.prog Q a w := by
  refine range_law (F := Fence.wide) rfl h1 (gf := 20) (lb := #[.pointer (some ⟨pb, 0, none⟩)]) hg trivial (enters_of Try.func20 (by kernel_rfl) rfl)
    (fun x : Nat => #[Value.int .i64 x]) (fun _ => rfl) I (KeepP foot B none) (fun pre x => pre ++ [x] <+: ordP l ∧ x < l.length) (ordP l) 0 hput ?_ (fun h k => h.trans k) ?_ a₁ hassign ?_ hdone
  · intro W k o o' hk ho hr hr'
    refine ⟨?_, fun i hi hs => World.putObj_heap_other (by omega), fun i hi => ?_⟩
    · simp [World.putObj]
    · obtain ⟨h2, h3⟩ := put_rec_priv ho hr (hputf W k o o' ho hr hr') hi
      exact ⟨h2, fun _ => h3⟩
  · intro r hr hY
    obtain ⟨W1, hW1⟩ : ∃ W1, (w.alloc (.deferred (some []))).alloc (.loop r) = W1 := ⟨_, rfl⟩
    rw [hW1] at hr ⊢
    have hg1 : w.grownBy W1 none := by rw [← hW1]; exact grown_trans (World.grownBy_alloc w _ none) (World.grownBy_alloc _ _ none)
    obtain ⟨hI1, hK1, _⟩ := hF.alloc hI hg1 (fun r e => by cases e)
    have hFJ : Foot foot B (fun pre W => I pre W ∧ Recs w.heap.size r W) := by
      refine ⟨fun pre X k h hf => hF.size pre X k h.1 hf, fun pre X Y row h hg hr => ?_⟩
      obtain ⟨h2, h3⟩ := hF.own pre X Y row h.1 hg hr
      refine ⟨⟨h2, h.2.keep ?_⟩, h3⟩
      intro k o ho hro
      rw [← ho]
      refine hg.block k (Array.getElem?_eq_some_iff.1 ho).1 (fun e => ?_)
      obtain ⟨_, ⟨cs, t, fr, hc⟩, _⟩ := hr k e.symm
      rw [hc] at ho
      injection ho with ho
      subst ho
      cases hro
    refine (seq_any hFJ l h0 hl hac hki pb (w.heap.size + 1) v ?_ (n - 1) W1 (Nat.le_trans hB hg1.size) ?_ ?_ (hn.keep hg1.size (fun g hg hs => hK1.2.1 g hg hs)) ⟨hI1, hr⟩).mono ?_
    · intro m pre x W hJ hx hpre
      obtain ⟨fn, tmps, asg, bd, hy, hR⟩ := hY m pre x W (Nat.zero_le _) hJ.1 hJ.2 ⟨hpre, hx⟩
      refine ⟨fn, tmps, asg, bd, hy, hR.mono ?_⟩
      rintro e W' ⟨he, hi, hk, hrec⟩
      exact ⟨he, ⟨hi, hrec⟩, hk⟩
    · exact hp.kept hg1 (by simp)
    · exact (hK1.2.2 pb (boxed_priv hp hpp)).1.2
    · rintro e W' ⟨hv, hi, hrec⟩
      exact ⟨hv, hi, hrec⟩
  · intro lb m pre x W _ hi hN
    exact hbody lb m pre x W hi hN.2 hN.1
end Go.Proofs.Ytlhdabpoljoobaa.flatw
