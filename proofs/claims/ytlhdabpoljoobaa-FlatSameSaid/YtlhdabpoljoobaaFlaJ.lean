/- Flat's state beside the iterator: what it holds, and that others' turns do not reach it. No conditions but those stated. -/
import Derived.Test.YtlhdabpoljoobaaFlaI
import Derived.Test.YtlhdabpoljoobaaFlaP
namespace Go.Proofs.Ytlhdabpoljoobaa.flatw
open Go.RowKit Go.Shelf
open Go.Proofs.Ytlhdabpoljoobaa.nodew
open Go.Proofs.Ytlhdabpoljoobaa.chkw
open Go.Proofs.Ytlhdabpoljoobaa.flatm

/-- the new places as cells -/
def toA (n : Nat) (tm : Nat → Nat) : Array Value := ((List.range n).map fun i => Value.int .i64 (tm i : Nat)).toArray
theorem toA_at (n : Nat) (tm : Nat → Nat) (i : Nat) (h : i < n) : (toA n tm)[i]? = some (.int .i64 (tm i : Nat)) := by simp [toA, h]
theorem toA_set (n : Nat) (tm : Nat → Nat) (i k : Nat) (h : i < n) : (toA n tm).setIfInBounds i (.int .i64 k) = toA n (upd tm i k) := by
  have hs : ∀ m, (toA n m).size = n := fun m => by simp [toA]
  apply Array.ext_getElem?
  intro j
  rw [Array.getElem?_setIfInBounds]
  by_cases e : i = j
  · subst e
    rw [if_pos rfl, if_pos (by rw [hs]; exact h), toA_at _ _ _ h, upd_same]
  · rw [if_neg e]
    by_cases hj : j < n
    · rw [toA_at _ _ _ hj, toA_at _ _ _ hj, upd_ne _ _ _ _ (fun e' => e e'.symm)]
    · rw [Array.getElem?_eq_none (by rw [hs]; omega), Array.getElem?_eq_none (by rw [hs]; omega)]
/-- the blocks of Flat -/
def footF (b1 mb b4 tb b5 bo : Nat) (W : World) (k : Nat) : Prop := footR bo W k ∨ k = b1 ∨ k = mb ∨ k = b4 ∨ k = tb ∨ k = b5
/-- what Flat holds -/
structure FSt (n0 b1 mb b4 tb b5 bo n : Nat) (v : Value) (w : World) (s : FS) (W : World) : Prop where
  row : HR n0 bo 22 37 19 s.out.length (ncells s.out) W
  h1 : Boxed W b1 22 v
  hm : NM W mb (entsN 0 s.out)
  h4 : Boxed W b4 43 (.map (some mb))
  ht : W.heap[tb]? = some (.cells (toA n s.tm) 3 (0, 0))
  h5 : Boxed W b5 30 (.slice (some ⟨tb, 0, none⟩) n n)
  below : Below n0 w W
theorem footFS (n0 b1 mb b4 tb b5 bo n : Nat) (v : Value) (w : World) (l : List Nd) (s0 : FS) (hn : n0 ≤ w.heap.size) (k1 : n0 ≤ b1) (km : n0 ≤ mb) (k4 : n0 ≤ b4) (kt : n0 ≤ tb) (k5 : n0 ≤ b5) (ko : n0 ≤ bo) :
    Foot (footF b1 mb b4 tb b5 bo) n0 (fun pre W => FSt n0 b1 mb b4 tb b5 bo n v w (pre.foldl (stepF (nth l)) s0) W) := by
  refine ⟨fun pre X k h hk => ?_, fun pre X Y row h hg hr => ?_⟩
  · rcases hk with hk | rfl | rfl | rfl | rfl | rfl
    · exact h.row.foot_lt ko hk
    · exact ⟨k1, h.h1.lt⟩
    · exact ⟨km, h.hm.lt⟩
    · exact ⟨k4, h.h4.lt⟩
    · exact ⟨kt, (Array.getElem?_eq_some_iff.1 h.ht).1⟩
    · exact ⟨k5, h.h5.lt⟩
  · have hne : ∀ b, footF b1 mb b4 tb b5 bo X b → some b ≠ row := fun b hb e => (hr b e.symm).2.2 hb
    obtain ⟨r1, r2⟩ := h.row.own hg (fun r e hf => (hr r e).2.2 (.inl hf))
    have e1 := hne b1 (.inr (.inl rfl))
    have em := hne mb (.inr (.inr (.inl rfl)))
    have e4 := hne b4 (.inr (.inr (.inr (.inl rfl))))
    have et := hne tb (.inr (.inr (.inr (.inr (.inl rfl)))))
    have e5 := hne b5 (.inr (.inr (.inr (.inr (.inr rfl)))))
    refine ⟨⟨r1, h.h1.kept hg e1, h.hm.keep (hg.block mb h.hm.lt em), h.h4.kept hg e4, (hg.block tb (Array.getElem?_eq_some_iff.1 h.ht).1 et).trans h.ht, h.h5.kept hg e5, h.below.grown hg (Nat.le_trans hn h.below.size) (fun r e => (hr r e).1)⟩, ?_⟩
    rintro k (hk | hk)
    · exact .inl (r2 k hk)
    · exact .inr hk
theorem rec_ne {W : World} {b k : Nat} {o p : Obj} (hb : W.heap[b]? = some p) (hp : isRec p = false) (hk : W.heap[k]? = some o) (ho : isRec o = true) : b ≠ k := by
  rintro rfl
  rw [hb] at hk
  injection hk with hk
  subst hk
  rw [hp] at ho
  cases ho
/-- the loop's records are turned: nothing of Flat's is -/
theorem FSt.put {n0 b1 mb b4 tb b5 bo n : Nat} {v : Value} {w : World} {s : FS} {W : World} (h : FSt n0 b1 mb b4 tb b5 bo n v w s W) (hn : n0 ≤ w.heap.size) {k : Nat} {o o' : Obj} (hk0 : n0 ≤ k) (hk : W.heap[k]? = some o) (ho : isRec o = true) :
    FSt n0 b1 mb b4 tb b5 bo n v w s (W.putObj k o') := by
  have hs : ∀ b p, W.heap[b]? = some p → isRec p = false → (W.putObj k o').heap[b]? = W.heap[b]? := fun b p hb hp => World.putObj_heap_other (rec_ne hb hp hk ho)
  obtain ⟨es, c, hm, _⟩ := h.hm
  exact ⟨h.row.put hk ho, (hs _ _ h.h1 rfl).trans h.h1, h.hm.keep (hs _ _ hm rfl), (hs _ _ h.h4 rfl).trans h.h4, (hs _ _ h.ht rfl).trans h.ht, (hs _ _ h.h5 rfl).trans h.h5,
    h.below.grown (grownBy_putObj' W k o') (Nat.le_trans hn h.below.size) (fun r e => by injection e with e; omega)⟩
theorem footF_put {b1 mb b4 tb b5 bo : Nat} {W : World} {k : Nat} {o o' : Obj} (ho : W.heap[k]? = some o) (hr : isRec o = true) (hr' : isRec o' = true) (i : Nat) (h : footF b1 mb b4 tb b5 bo (W.putObj k o') i) : footF b1 mb b4 tb b5 bo W i := by
  rcases h with h | h
  · exact .inl (footR_put ho hr hr' i h)
  · exact .inr h
theorem fold_len (p : Nat → Nd) (pre : List Nat) : ∀ s : FS, (pre.foldl (stepF p) s).out.length ≤ s.out.length + pre.length := by
  induction pre with
  | nil => intro s; simp
  | cons x r ih =>
    intro s
    rw [List.foldl_cons]
    refine Nat.le_trans (ih _) ?_
    have : (stepF p s x).out.length ≤ s.out.length + 1 := by
      unfold stepF
      split
      · exact Nat.le_succ _
      · simp
    rw [List.length_cons]
    omega
theorem fold_rt (p : Nat → Nd) (pre : List Nat) : ∀ s : FS, (∀ x ∈ pre, Nd.rt (p x)) → (∀ m ∈ s.out, Nd.rt m) → ∀ m ∈ (pre.foldl (stepF p) s).out, Nd.rt m := by
  induction pre with
  | nil => intro s _ h; exact h
  | cons x r ih =>
    intro s hp h
    rw [List.foldl_cons]
    refine ih _ (fun y hy => hp y (.tail _ hy)) ?_
    unfold stepF
    split
    · exact h
    · intro m hm
      rcases List.mem_append.1 hm with hm | hm
      · exact h m hm
      · have : m = remap s.tm (p x) := by simpa using hm
        rw [this]
        exact remap_rt _ (hp x (.head _))
/-- a round of Flat's: the blocks that are not its own stay -/
theorem keepF {n0 b1 mb b4 tb b5 bo n : Nat} {v : Value} {w : World} {s : FS} {W W' : World} (h : FSt n0 b1 mb b4 tb b5 bo n v w s W) (k1 : n0 ≤ b1) (km : n0 ≤ mb) (k4 : n0 ≤ b4) (kt : n0 ≤ tb) (k5 : n0 ≤ b5) (ko : n0 ≤ bo)
    (hz : W.heap.size ≤ W'.heap.size) (hb : ∀ k, k < W.heap.size → ¬ footF b1 mb b4 tb b5 bo W k → W'.heap[k]? = W.heap[k]?) (hf : ∀ k, footR bo W' k → footR bo W k ∨ W.heap.size ≤ k) :
    KeepP (footF b1 mb b4 tb b5 bo) n0 none W W' ∧ KeepsRec W W' := by
  have hlow : ∀ k, footF b1 mb b4 tb b5 bo W k → n0 ≤ k := by
    rintro k (hk | rfl | rfl | rfl | rfl | rfl)
    · exact (h.row.foot_lt ko hk).1
    all_goals assumption
  refine ⟨⟨hz, fun k hk hs => hb k hs (fun hf => by have := hlow k hf; omega), fun k hk => ⟨⟨?_, ?_⟩, fun _ => hb k hk.lt hk.2⟩⟩, ?_⟩
  · rw [hb k hk.lt hk.2]; exact hk.1
  · rintro (hk2 | hk2)
    · rcases hf k hk2 with h3 | h3
      · exact hk.2 (.inl h3)
      · have := hk.lt; omega
    · exact hk.2 (.inr hk2)
  · intro i o hi hro
    obtain ⟨es, c, hm, _⟩ := h.hm
    have hno : ∀ b p, W.heap[b]? = some p → isRec p = false → i ≠ b := fun b p hb hp e => rec_ne hb hp hi hro e.symm
    rw [hb i (Array.getElem?_eq_some_iff.1 hi).1]
    · exact hi
    · rintro ((e | ⟨u, hu, hf⟩) | e | e | e | e | e)
      · obtain ⟨u, hu, _⟩ := h.row
        exact hno _ _ hu rfl e
      · obtain ⟨u', hu', ho⟩ := h.row
        rw [hu'.cell] at hu
        obtain rfl := Option.some.inj hu
        rcases ho.2 with ⟨rfl, _⟩ | ⟨g, cap, cur, rfl, _, hh, _⟩
        · cases hf
        · have : g = i := by simpa [Value.ownBlock] using hf
          exact hno _ _ hh rfl this.symm
      · exact hno _ _ h.h1 rfl e
      · exact hno _ _ hm rfl e
      · exact hno _ _ h.h4 rfl e
      · exact hno _ _ h.ht rfl e
      · exact hno _ _ h.h5 rfl e
end Go.Proofs.Ytlhdabpoljoobaa.flatw
