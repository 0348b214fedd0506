/- What an iterator keeps private from the one who takes its numbers, and the walk through what a root needs. No conditions but those stated. -/
import Derived.Test.YtlhdabpoljoobaaFlaT
import Derived.Test.YtlhdabpoljoobaaFlaC
namespace Go.Proofs.Ytlhdabpoljoobaa.flatw
open Go.RowKit Go.Shelf
open Go.Proofs.Ytlhdabpoljoobaa.nodew
open Go.Proofs.Ytlhdabpoljoobaa.chkw
open Go.Proofs.Ytlhdabpoljoobaa.flatm
attribute [local go_sem] Oper.semAt_some

/-- a block of cells that the other side does not turn -/
def Priv (foot : World → Nat → Prop) (W : World) (k : Nat) : Prop := (∃ cs t fr, W.heap[k]? = some (.cells cs t fr)) ∧ ¬ foot W k
theorem Priv.lt {foot : World → Nat → Prop} {W : World} {k : Nat} (h : Priv foot W k) : k < W.heap.size := by
  obtain ⟨⟨cs, t, fr, h⟩, _⟩ := h
  exact (Array.getElem?_eq_some_iff.1 h).1
/-- a step that keeps the private blocks, but for x, and the blocks below B -/
def KeepP (foot : World → Nat → Prop) (B : Nat) (x : Option Nat) (W W' : World) : Prop :=
  W.heap.size ≤ W'.heap.size ∧ (∀ k, k < B → k < W.heap.size → W'.heap[k]? = W.heap[k]?) ∧ ∀ k, Priv foot W k → Priv foot W' k ∧ (some k ≠ x → W'.heap[k]? = W.heap[k]?)
theorem KeepP.refl (foot : World → Nat → Prop) (B : Nat) (x : Option Nat) (W : World) : KeepP foot B x W W := ⟨Nat.le_refl _, fun _ _ _ => rfl, fun _ h => ⟨h, fun _ => rfl⟩⟩
theorem KeepP.trans {foot : World → Nat → Prop} {B : Nat} {x : Option Nat} {A C D : World} (h : KeepP foot B x A C) (k : KeepP foot B x C D) : KeepP foot B x A D :=
  ⟨Nat.le_trans h.1 k.1, fun i hi hs => (k.2.1 i hi (Nat.lt_of_lt_of_le hs h.1)).trans (h.2.1 i hi hs), fun i hi =>
    ⟨(k.2.2 i (h.2.2 i hi).1).1, fun hne => ((k.2.2 i (h.2.2 i hi).1).2 hne).trans ((h.2.2 i hi).2 hne)⟩⟩
theorem KeepP.weak {foot : World → Nat → Prop} {B : Nat} {x : Option Nat} {A C : World} (h : KeepP foot B none A C) : KeepP foot B x A C :=
  ⟨h.1, h.2.1, fun i hi => ⟨(h.2.2 i hi).1, fun _ => (h.2.2 i hi).2 (by simp)⟩⟩
/-- what is asked of the other side's state -/
structure Foot (foot : World → Nat → Prop) (B : Nat) (J : List Nat → World → Prop) : Prop where
  size : ∀ pre X k, J pre X → foot X k → B ≤ k ∧ k < X.heap.size
  own : ∀ pre X Y row, J pre X → X.grownBy Y row → (∀ r, row = some r → B ≤ r ∧ Priv foot X r) → J pre Y ∧ ∀ k, foot Y k → foot X k
/-- a new block is private, and all is kept -/
theorem Foot.alloc {foot : World → Nat → Prop} {B : Nat} {J : List Nat → World → Prop} (hF : Foot foot B J) {pre : List Nat} {X Y : World} {row : Option Nat} (hJ : J pre X) (hg : X.grownBy Y row) (hr : ∀ r, row = some r → B ≤ r ∧ Priv foot X r ∧ ∃ cs t fr, Y.heap[r]? = some (.cells cs t fr)) :
    J pre Y ∧ KeepP foot B row X Y ∧ ∀ k cs t fr, X.heap.size ≤ k → Y.heap[k]? = some (.cells cs t fr) → Priv foot Y k := by
  obtain ⟨hJY, hf⟩ := hF.own pre X Y row hJ hg (fun r e => ⟨(hr r e).1, (hr r e).2.1⟩)
  refine ⟨hJY, ⟨hg.size, fun k hk hs => hg.block k hs (fun e => ?_), fun k hp => ⟨⟨?_, fun h => hp.2 (hf k h)⟩, fun hne => hg.block k hp.lt hne⟩⟩, fun k cs t fr hk hc => ⟨⟨cs, t, fr, hc⟩, fun h => ?_⟩⟩
  · have := (hr k e.symm).1; omega
  · by_cases e : some k = row
    · exact (hr k e.symm).2.2
    · rw [hg.block k hp.lt e]; exact hp.1
  · have := (hF.size pre X k hJ (hf k h)).2; omega
/-- the row of marks -/
def metA (n : Nat) (m : Nat → Bool) : Array Value := ((List.range n).map fun i => Value.bool (m i)).toArray
theorem metA_size (n : Nat) (m : Nat → Bool) : (metA n m).size = n := by simp [metA]
theorem metA_at (n : Nat) (m : Nat → Bool) (i : Nat) (h : i < n) : (metA n m)[i]? = some (.bool (m i)) := by simp [metA, h]
theorem metA_set (n : Nat) (m : Nat → Bool) (i : Nat) (h : i < n) : (metA n m).setIfInBounds i (.bool true) = metA n (upd m i true) := by
  apply Array.ext_getElem?
  intro j
  rw [Array.getElem?_setIfInBounds]
  by_cases e : i = j
  · subst e
    rw [if_pos rfl, if_pos (by rw [metA_size]; exact h), metA_at _ _ _ h, upd_same]
  · rw [if_neg e]
    by_cases hj : j < n
    · rw [metA_at _ _ _ hj, metA_at _ _ _ hj, upd_ne _ _ _ _ (fun e' => e e'.symm)]
    · rw [Array.getElem?_eq_none (by rw [metA_size]; omega), Array.getElem?_eq_none (by rw [metA_size]; omega)]

/-- what the iterator holds -/
structure TS (foot : World → Nat → Prop) (B pb mb b1 b3 b4 lp : Nat) (v : Value) (l : List Nd) (m : Nat → Bool) (W : World) : Prop where
  h1 : Boxed W b1 55 (.slice (some ⟨mb, 0, none⟩) l.length l.length)
  hp : Boxed W pb 22 v
  h3 : Boxed W b3 54 (.func (.func 21) #[] #[.pointer (some ⟨b1, 0, none⟩), .pointer (some ⟨pb, 0, none⟩), .pointer (some ⟨b3, 0, none⟩), .pointer (some ⟨b4, 0, none⟩)])
  h4 : Boxed W b4 54 (.func (.yield lp) #[] #[])
  hm : W.heap[mb]? = some (.cells (metA l.length m) 4 (0, 0))
  hn : NArg W B v l
  p1 : ¬ foot W b1
  pp : ¬ foot W pb
  p3 : ¬ foot W b3
  p4 : ¬ foot W b4
  pm : ¬ foot W mb
  bm : B ≤ mb
theorem boxed_priv {foot : World → Nat → Prop} {W : World} {b : Nat} {t : TypeId} {v : Value} (h : Boxed W b t v) (p : ¬ foot W b) : Priv foot W b := ⟨⟨_, _, _, h⟩, p⟩
theorem boxed_ne {W : World} {b mb : Nat} {t t' : TypeId} {v : Value} {cs : Array Value} (h : Boxed W b t v) (hm : W.heap[mb]? = some (.cells cs t' (0, 0))) (hne : t ≠ t') : b ≠ mb := by
  rintro rfl
  rw [show W.heap[b]? = _ from h] at hm
  injection hm with hm
  injection hm with _ e _
  exact hne e
/-- a step that keeps all but the marks -/
theorem TS.step {foot : World → Nat → Prop} {B pb mb b1 b3 b4 lp : Nat} {v : Value} {l : List Nd} {m m' : Nat → Bool} {W W' : World} (h : TS foot B pb mb b1 b3 b4 lp v l m W) (hk : KeepP foot B (some mb) W W')
    (hm : W'.heap[mb]? = some (.cells (metA l.length m') 4 (0, 0))) : TS foot B pb mb b1 b3 b4 lp v l m' W' := by
  have n1 := boxed_ne h.h1 h.hm (by decide)
  have np := boxed_ne h.hp h.hm (by decide)
  have n3 := boxed_ne h.h3 h.hm (by decide)
  have n4 := boxed_ne h.h4 h.hm (by decide)
  have k1 := hk.2.2 b1 (boxed_priv h.h1 h.p1)
  have kp := hk.2.2 pb (boxed_priv h.hp h.pp)
  have k3 := hk.2.2 b3 (boxed_priv h.h3 h.p3)
  have k4 := hk.2.2 b4 (boxed_priv h.h4 h.p4)
  have km := hk.2.2 mb ⟨⟨_, _, _, h.hm⟩, h.pm⟩
  exact ⟨(k1.2 (by simpa using n1)).trans h.h1, (kp.2 (by simpa using np)).trans h.hp, (k3.2 (by simpa using n3)).trans h.h3, (k4.2 (by simpa using n4)).trans h.h4, hm,
    h.hn.keep hk.1 (fun g hg hs => hk.2.1 g hg hs), k1.1.2, kp.1.2, k3.1.2, k4.1.2, km.1.2, h.bm⟩
theorem TS.keep {foot : World → Nat → Prop} {B pb mb b1 b3 b4 lp : Nat} {v : Value} {l : List Nd} {m : Nat → Bool} {W W' : World} (h : TS foot B pb mb b1 b3 b4 lp v l m W) (hk : KeepP foot B none W W') : TS foot B pb mb b1 b3 b4 lp v l m W' :=
  h.step hk.weak (((hk.2.2 mb ⟨⟨_, _, _, h.hm⟩, h.pm⟩).2 (by simp)).trans h.hm)
end Go.Proofs.Ytlhdabpoljoobaa.flatw
