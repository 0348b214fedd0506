/- A range over a function whose iterator turns cells of its own and whose body may turn a map: the statement, out of one walk of the body and the iterator's contract. No conditions but those stated. -/
import Derived.RangeFuncIn
import Derived.RangeFuncRecord
import Derived.RangeFuncSeq
import Derived.RangeFuncNested
import Derived.ControlIn
namespace Go.Proofs.Ytlhdabpoljoobaa.flatw
open Go Go.RowKit

/-- a loop's record, or its block for deferred calls -/
def isRec : Obj → Bool
  | .loop _ => true
  | .deferred _ => true
  | _ => false
/-- a round's word: the records lie as they lay -/
def KeepsRec (W W' : World) : Prop := ∀ (k : Nat) (o : Obj), W.heap[k]? = some o → isRec o = true → W'.heap[k]? = some o
theorem KeepsRec.refl (W : World) : KeepsRec W W := fun _ _ h _ => h
theorem KeepsRec.trans {A B C : World} (h : KeepsRec A B) (k : KeepsRec B C) : KeepsRec A C := fun i o h1 h2 => k i o (h i o h1 h2) h2
/-- what is asked where a round's body ends -/
def bodyEnd {α : Type} (I : List α → World → Prop) (Kp : World → World → Prop) (xs : List α) (W : World) : Exit → Act → World → Prop
  | .normal, _, W' => I xs W' ∧ Kp W W' ∧ KeepsRec W W'
  | _, _, _ => False
/-- the loop's two blocks -/
def Recs (b : Nat) (r : Loop) (W : World) : Prop := W.heap[b + 1]? = some (.loop r) ∧ W.heap[b]? = some (.deferred (some []))
theorem Recs.keep {b : Nat} {r : Loop} {W W' : World} (h : Recs b r W) (hk : KeepsRec W W') : Recs b r W' := ⟨hk _ _ h.1 rfl, hk _ _ h.2 rfl⟩

variable {F : Fence} {n : Nat} {P : Program}
theorem range_law {α : Type} {g : Operand} {ps : Array Tmp} {assign body : Code} {Q : Exit → Act → World → Prop} {a : Act} {w : World}
    (hro : F.round = none) (h1 : 1 ≤ n) {gf : Nat} {lb : Array Value} (hg : a.eval g = .func (.func gf) #[] lb) (hFg : F.fn gf) (eg : ∀ args w, (callFunc gf args).run P w = .ok (.enter gf args) w)
    (encs : α → Array Value) (hps : ∀ x, (encs x).size = ps.size) (I : List α → World → Prop) (Kp : World → World → Prop) (N : List α → α → Prop) (xs : List α) (m0 : Nat)
    (hIr : ∀ pre W l o o', I pre W → w.heap.size ≤ l → W.heap[l]? = some o → isRec o = true → isRec o' = true → I pre (W.putObj l o'))
    (hKr : ∀ W l o o', w.heap.size ≤ l → W.heap[l]? = some o → isRec o = true → isRec o' = true → Kp W (W.putObj l o'))
    (hKt : ∀ {A B C : World}, Kp A B → Kp B C → Kp A C)
    (hcall : ∀ r : Loop, Recs w.heap.size r ((w.alloc (.deferred (some []))).alloc (.loop r)) →
      (∀ (m : Nat) (pre : List α) (x : α) (W : World), m0 ≤ m → I pre W → Recs w.heap.size r W → N pre x → YieldAt F m P (w.heap.size + 1) (encs x) W fun e W' => e = .returned (.bool true) ∧ I (pre ++ [x]) W' ∧ Kp W W' ∧ Recs w.heap.size r W') →
      CallsIn F (n - 1) P gf (#[.func (.yield (w.heap.size + 1)) #[] #[]] ++ lb) ((w.alloc (.deferred (some []))).alloc (.loop r)) fun e W' => (∃ v, e = .returned v) ∧ I xs W' ∧ Recs w.heap.size r W')
    (a₁ : α → Act)
    (hassign : ∀ (l m : Nat) (x : α) (W : World) (K : Act → World → Prop), K (a₁ x) W →
      assign.wpIn (F.inRound l) m P (Exit.then K (fun _ _ _ => False)) { tmps := (ps.zip (encs x)).foldl (fun t (p, v) => t.setIfInBounds p v) a.tmps, defers := [] } W)
    (hbody : ∀ (l m : Nat) (pre : List α) (x : α) (W : World), m0 ≤ m → I pre W → N pre x → body.wpIn (F.inRound l) m P (bodyEnd I Kp (pre ++ [x]) W) (a₁ x) W)
    (hdone : ∀ W : World, I xs W → W.heap[w.heap.size]? = some (.deferred (some [])) → Q .normal { a with defers := { target := .collected w.heap.size, args := #[] } :: a.defers } W) :
    (Code.rangeFunc g ps assign body).wpIn F n P Q a w := by
  refine wpIn_rangeFunc ?_
  intro fn hfn
  rw [hro]
  obtain ⟨rec, hrec⟩ : ∃ rec : LoopState → Option Code → Loop, rec = fun st pe => { state := st, pending := pe, fn, tmps := a.tmps, params := ps, assign, body, defers := w.heap.size } := ⟨_, rfl⟩
  obtain ⟨W1, hW1⟩ : ∃ W1, (w.alloc (.deferred (some []))).alloc (.loop (rec .ready none)) = W1 := ⟨_, rfl⟩
  have hR1 : Recs w.heap.size (rec .ready none) W1 := by
    refine ⟨?_, ?_⟩
    · rw [← hW1]
      have := World.alloc_heap_new (w.alloc (.deferred (some []))) (.loop (rec .ready none))
      rwa [World.size_alloc] at this
    · rw [← hW1]
      exact (Below.heap_alloc _ _ _ (by simp)).trans (World.alloc_heap_new w _)
  refine ⟨w.heap.size + 1, [{ target := .collected w.heap.size, args := #[] }], W1, { target := .fn (.func gf) lb, args := #[.func (.yield (w.heap.size + 1)) #[] #[]] }, W1, gf,
    #[.func (.yield (w.heap.size + 1)) #[] #[]] ++ lb, W1, ?_, ?_, ?_, ?_, fun _ => h1, ?_⟩
  · rw [← hW1, hrec]; exact run_enterLoop_outer _ _ _ _ _
  · simp only [resolve, hg]
    simp [go_sem]
  · intro f' hf'
    simp [Target.leads] at hf'
    subst hf'
    exact hFg
  · simp [invoke, go_sem, eg]
  · have hc := hcall (rec .ready none) (by rw [hW1]; exact hR1) ?_
    · rw [hW1] at hc
      refine hc.mono ?_
      rintro e W2 ⟨⟨v, rfl⟩, hi, hl, hk⟩
      have hend := run_endLoop (P := P) hl (by rw [hrec]; simp)
      rw [hrec] at hend
      refine ⟨none, _, hend, ?_⟩
      rw [hrec] at hl
      exact hdone _ (hIr _ _ _ _ _ hi (by omega) hl rfl rfl) ((World.putObj_heap_other (by omega)).trans hk)
    · intro m pre x W hm hi hr hN
      obtain ⟨hl, hk⟩ := hr
      have hlt : w.heap.size + 1 < W.heap.size := (Array.getElem?_eq_some_iff.1 hl).1
      have hy := run_yield (P := P) (args := encs x) hl (by rw [hrec]; exact hps x)
      rw [hrec] at hy
      have hbg := run_beginRound (P := P) hl (by rw [hrec])
      obtain ⟨W', hW'⟩ : ∃ W', W.putObj (w.heap.size + 1) (.loop { rec .ready none with state := .busy }) = W' := ⟨_, rfl⟩
      have hl2 : W'.heap[w.heap.size + 1]? = some (.loop { rec .ready none with state := .busy }) := by rw [← hW']; exact World.putObj_heap_same hlt
      have hk2 : W'.heap[w.heap.size]? = some (.deferred (some [])) := by rw [← hW']; exact (World.putObj_heap_other (by omega)).trans hk
      have hi2 : I pre W' := by rw [← hW']; exact hIr _ _ _ _ _ hi (by omega) hl rfl rfl
      have hK2 : Kp W W' := by rw [← hW']; exact hKr _ _ _ _ (by omega) hl rfl rfl
      refine ⟨fn, _, assign, body, hy, roundIn_of_wpIn hfn (hassign _ m x W _ ⟨_, hbg, ?_⟩)⟩
      rw [hW']
      refine wpIn_mono (hbody _ m pre x W' hm hi2 hN) ?_
      rintro e a3 W3 hp
      cases e with
      | normal =>
        obtain ⟨hi3, hK3, hR3⟩ := hp
        have hl3 := hR3 _ _ hl2 rfl
        have hk3 := hR3 _ _ hk2 rfl
        have hend := run_endRound (P := P) none hl3
        refine ⟨_, _, hend, rfl, hIr _ _ _ _ _ hi3 (by omega) hl3 rfl rfl, hKt (hKt hK2 hK3) (hKr _ _ _ _ (by omega) hl3 rfl rfl), ?_, ?_⟩
        · have := World.putObj_heap_same (w := W3) (o := .loop { ({ rec .ready none with state := .busy } : Loop) with state := .ready, pending := none }) (Array.getElem?_eq_some_iff.1 hl3).1
          rw [hrec] at this ⊢
          exact this
        · exact (World.putObj_heap_other (by omega)).trans hk3
      | ret => exact hp.elim
      | exit id => exact hp.elim
      | goto t => exact hp.elim
      | panic ch => exact hp.elim
      | outgrown => exact hp.elim
end Go.Proofs.Ytlhdabpoljoobaa.flatw
