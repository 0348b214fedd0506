/- A map whose keys are nodes: what a look-up and a store do. Condition: the keys' numbers are right ones. -/
import Derived.Test.YtlhdabpoljoobaaFlaR
import Derived.MapKept
import Derived.Carry
namespace Go.Proofs.Ytlhdabpoljoobaa.flatm
open Go.RowKit
open Go.Proofs.Ytlhdabpoljoobaa.nodew

theorem ck_node (em : Bool) (n : Nd) (w : World) : (Instr.checkKey em 10000 37 n.val).run Try.prog w = .ok () w := by
  unfold Nd.val Nd.cells
  kernel_rfl
def lookN (ents : List (Nd × Nat)) (k : Nd) : Option Nat := (ents.find? fun p => eqN k p.1).map (·.2)
def kvN (p : Nd × Nat) : Value × Value := (p.1.val, .int .i64 p.2)
theorem ask_run (k : Nd) (w : World) : ∀ (es : List MapEntry) (ents : List (Nd × Nat)) (i : Nat), es.map (fun e => (e.key, e.val)) = ents.map kvN →
    ∃ r, (Instr.findAsking 37 k.val es i).run Try.prog w = .ok r w ∧ r.map (·.2) = (lookN ents k).map (fun p => Value.int .i64 p)
  | [], [], i, _ => ⟨none, rfl, rfl⟩
  | [], a :: r, i, h => by simp at h
  | e :: es, [], i, h => by simp at h
  | e :: es, a :: r, i, h => by
    simp only [List.map_cons, List.cons.injEq, kvN, Prod.mk.injEq] at h
    obtain ⟨⟨h1, h2⟩, h3⟩ := h
    have he : (Op.equal 37 k.val e.key).run Try.prog w = .ok (eqN k a.1) w := by rw [h1]; exact eq_node k a.1 w
    unfold Instr.findAsking
    rw [Sem.run_bind, he]
    cases hq : eqN k a.1 with
    | true =>
      refine ⟨some (i, e.val), by simp, ?_⟩
      unfold lookN
      rw [List.find?_cons_of_pos (by simpa using hq)]
      simp [h2]
    | false =>
      obtain ⟨r', hr, hv⟩ := ask_run k w es r (i + 1) h3
      refine ⟨r', by simpa using hr, ?_⟩
      unfold lookN at hv ⊢
      rw [List.find?_cons_of_neg (by simpa using hq)]
      exact hv
theorem findKeyN (k : Nd) (es : List MapEntry) (ents : List (Nd × Nat)) (h : es.map (fun e => (e.key, e.val)) = ents.map kvN) (w : World) :
    ∃ r, (Instr.findKey 37 k.val es).run Try.prog w = .ok r w ∧ r.map (·.2) = (lookN ents k).map (fun p => Value.int .i64 p) := by
  unfold Instr.findKey
  rw [Sem.run_bind, run_underlying Try.underlying37]
  simp only [Result.andThen_ok]
  cases es with
  | nil =>
    refine ⟨none, rfl, ?_⟩
    have : ents = [] := by simpa using h.symm
    subst this
    rfl
  | cons e es =>
    obtain ⟨r, hr, hv⟩ := ask_run k w (e :: es) ents 0 h
    refine ⟨r, ?_, hv⟩
    have hk : ∃ vs, e.key = .agg vs := by
      cases ents with
      | nil => simp at h
      | cons a q =>
        simp only [List.map_cons, List.cons.injEq, kvN, Prod.mk.injEq] at h
        exact ⟨_, h.1.1⟩
    obtain ⟨vs, hk⟩ := hk
    have hn : ∀ fs, Instr.findNow (.struct fs) k.val (e :: es) 0 = none := fun fs => by
      unfold Instr.findNow
      rw [hk]
      rfl
    rw [hn]
    exact hr
/-- the entries of a row of nodes, each with its place -/
def entsN : Nat → List Nd → List (Nd × Nat)
  | _, [] => []
  | i, n :: r => (n, i) :: entsN (i + 1) r
theorem entsN_app : ∀ (l : List Nd) (i : Nat) (n : Nd), entsN i (l ++ [n]) = entsN i l ++ [(n, i + l.length)]
  | [], i, n => rfl
  | m :: r, i, n => by
    show (m, i) :: entsN (i + 1) (r ++ [n]) = (m, i) :: (entsN (i + 1) r ++ _)
    rw [entsN_app r (i + 1) n, List.length_cons, show i + 1 + r.length = i + (r.length + 1) by omega]
theorem look_ents (k : Nd) (hk : Nd.rt k) : ∀ (l : List Nd) (i : Nat), (∀ n ∈ l, Nd.rt n) → lookN (entsN i l) k = if k ∈ l then some (i + l.idxOf k) else none
  | [], i, _ => by simp [lookN, entsN]
  | m :: r, i, h => by
    have ih := look_ents k hk r (i + 1) (fun n hn => h n (.tail _ hn))
    have he := eqN_law hk (h m (.head _))
    unfold lookN at ih ⊢
    show Option.map _ (List.find? _ ((m, i) :: entsN (i + 1) r)) = _
    by_cases e : k = m
    · subst e
      rw [List.find?_cons_of_pos (by show eqN k k = true; rw [he]; simp)]
      simp
    · rw [List.find?_cons_of_neg (by show ¬ eqN k m = true; rw [he]; simp [e]), ih]
      by_cases hm : k ∈ r
      · have hi : (m :: r).idxOf k = r.idxOf k + 1 := by
          rw [List.idxOf_cons]
          have : (m == k) = false := by rw [beq_eq_false_iff_ne]; exact fun e' => e e'.symm
          rw [this]
          rfl
        rw [if_pos hm, if_pos (List.mem_cons_of_mem _ hm), hi]
        congr 1
        omega
      · rw [if_neg hm, if_neg (by simp [e, hm])]
theorem look_idx (k : Nd) (hk : Nd.rt k) (l : List Nd) (h : ∀ n ∈ l, Nd.rt n) : lookN (entsN 0 l) k = idxN l k := by
  rw [look_ents k hk l 0 h]
  unfold idxN
  simp
/-- the map in block mb has these entries -/
def NM (W : World) (mb : Nat) (ents : List (Nd × Nat)) : Prop :=
  ∃ (es : Array MapEntry) (clock : Nat), W.heap[mb]? = some (.map es clock) ∧ es.toList.map (fun e => (e.key, e.val)) = ents.map kvN
theorem NM.lt {W : World} {mb : Nat} {ents : List (Nd × Nat)} (h : NM W mb ents) : mb < W.heap.size := by
  obtain ⟨es, c, hb, _⟩ := h
  exact (Array.getElem?_eq_some_iff.1 hb).1
theorem NM.keep {W W' : World} {mb : Nat} {ents : List (Nd × Nat)} (h : NM W mb ents) (hk : W'.heap[mb]? = W.heap[mb]?) : NM W' mb ents := by
  obtain ⟨es, c, hb, he⟩ := h
  exact ⟨es, c, hk.trans hb, he⟩
theorem zero_intN (w : World) : (zeroValue 3).run Try.prog w = .ok (.int .i64 0) w := by kernel_rfl
theorem NM.lookup {W : World} {mb : Nat} {ents : List (Nd × Nat)} (h : NM W mb ents) (k : Nd) :
    (Instr.lookup 43 (.map (some mb)) k.val true).run Try.prog W = .ok (.tuple #[.int .i64 ((lookN ents k).getD 0 : Nat), .bool (lookN ents k).isSome]) W := by
  obtain ⟨es, c, hb, he⟩ := h
  obtain ⟨r, hr, hv⟩ := findKeyN k es.toList ents he W
  cases hl : lookN ents k with
  | none =>
    rw [hl] at hv
    cases r with
    | none => simp [Instr.lookup, run_underlying Try.underlying43, run_getObj_map _ _ _ _ hb, ck_node, hr, zero_intN]
    | some x => simp at hv
  | some p =>
    rw [hl] at hv
    cases r with
    | none => simp at hv
    | some x =>
      obtain ⟨i, v⟩ := x
      simp at hv
      subst hv
      simp [Instr.lookup, run_underlying Try.underlying43, run_getObj_map _ _ _ _ hb, ck_node, hr]
/-- a node that is new is stored -/
theorem NM.store {W : World} {mb : Nat} {ents : List (Nd × Nat)} (h : NM W mb ents) (k : Nd) (p : Nat) (hk : lookN ents k = none) :
    ∃ W', (Instr.mapUpdate 43 (.map (some mb)) k.val (.int .i64 p)).run Try.prog W = .ok () W' ∧ NM W' mb (ents ++ [(k, p)]) ∧ W'.heap.size = W.heap.size ∧ (∀ b, b ≠ mb → W'.heap[b]? = W.heap[b]?) ∧ W'.os = W.os ∧ W'.tape = W.tape ∧ W'.output = W.output := by
  obtain ⟨es, c, hb, he⟩ := h
  obtain ⟨r, hr, hv⟩ := findKeyN k es.toList ents he W
  rw [hk] at hv
  cases r with
  | some x => simp at hv
  | none =>
    refine ⟨{ W with heap := W.heap.setIfInBounds mb (.map (es.push { key := k.val, val := .int .i64 p, born := c }) (c + 1)) }, ?_, ?_, by simp, ?_, rfl, rfl, rfl⟩
    · simp [Instr.mapUpdate, run_underlying Try.underlying43, run_getObj_map _ _ _ _ hb, ck_node, hr, MapKept.run_setObj_map _ hb]
    · have hlt := (Array.getElem?_eq_some_iff.1 hb).1
      refine ⟨es.push { key := k.val, val := .int .i64 p, born := c }, c + 1, by simp [hlt], ?_⟩
      rw [Array.toList_push, List.map_append, he, List.map_append]
      rfl
    · intro b hbn
      show (W.heap.setIfInBounds mb _)[b]? = _
      rw [Array.getElem?_setIfInBounds_ne (fun e => hbn e.symm)]
end Go.Proofs.Ytlhdabpoljoobaa.flatm
