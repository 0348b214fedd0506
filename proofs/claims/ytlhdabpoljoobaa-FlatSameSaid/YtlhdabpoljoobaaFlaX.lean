/- A map whose keys are pairs of numbers, all of whose entries are above 0: what a look-up and a store do. No conditions but those stated. -/
import Derived.Test.YtlhdabpoljoobaaFlaP
namespace Go.Proofs.Ytlhdabpoljoobaa.flatm
open Go.RowKit
open Go.Proofs.Ytlhdabpoljoobaa.nodew

def pairV (p : Int × Int) : Value := .agg #[.int .i64 p.1, .int .i64 p.2]
theorem eq_pair (a b : Int × Int) (w : World) : (Op.equal 51 (pairV a) (pairV b)).run Try.prog w = .ok ((a.1 == b.1) && (a.2 == b.2)) w := by
  show (Op.equalIn (9999 + 1) _ (.agg #[.int .i64 a.1, .int .i64 a.2]) (.agg #[.int .i64 b.1, .int .i64 b.2])).run _ _ = _
  obtain ⟨i, hi⟩ : ∃ i, Try.prog.info? 3 = some i := Option.isSome_iff_exists.1 (by kernel_rfl)
  rw [run_equalIn_array w 9999 _ _ Try.underlying51 hi]
  have hc : Try.prog.cellsOf 3 = 1 := by kernel_rfl
  rw [hc]
  show (Op.eqItems (9998 + 1) _ 1 _ _ [0, 1]).run _ _ = _
  simp only [Op.eqItems, Sem.run_bind]
  rw [part_cell _ agg_int _ (0 * 1) (.int .i64 a.1) w rfl]
  simp only [Result.andThen_ok]
  rw [part_cell _ agg_int _ (0 * 1) (.int .i64 b.1) w rfl]
  simp only [Result.andThen_ok, eq_int]
  cases a.1 == b.1
  · rfl
  · simp only [Bool.not_true, Bool.false_eq_true, if_false, Bool.true_and]
    simp only [Sem.run_bind]
    rw [part_cell _ agg_int _ (1 * 1) (.int .i64 a.2) w rfl]
    simp only [Result.andThen_ok]
    rw [part_cell _ agg_int _ (1 * 1) (.int .i64 b.2) w rfl]
    simp only [Result.andThen_ok, eq_int]
    cases a.2 == b.2 <;> rfl
theorem ck_pair (em : Bool) (p : Int × Int) (w : World) : (Instr.checkKey em 10000 51 (pairV p)).run Try.prog w = .ok () w := by
  unfold pairV
  kernel_rfl
def lookX (ents : List ((Int × Int) × Int)) (k : Int × Int) : Option Int := (ents.find? fun p => (k.1 == p.1.1) && (k.2 == p.1.2)).map (·.2)
def kvX (p : (Int × Int) × Int) : Value × Value := (pairV p.1, .int .i64 p.2)
theorem askX (k : Int × Int) (w : World) : ∀ (es : List MapEntry) (ents : List ((Int × Int) × Int)) (i : Nat), es.map (fun e => (e.key, e.val)) = ents.map kvX →
    ∃ r, (Instr.findAsking 51 (pairV k) es i).run Try.prog w = .ok r w ∧ r.map (·.2) = (lookX ents k).map (fun p => Value.int .i64 p)
  | [], [], i, _ => ⟨none, rfl, rfl⟩
  | [], a :: r, i, h => by simp at h
  | e :: es, [], i, h => by simp at h
  | e :: es, a :: r, i, h => by
    simp only [List.map_cons, List.cons.injEq, kvX, Prod.mk.injEq] at h
    obtain ⟨⟨h1, h2⟩, h3⟩ := h
    have he : (Op.equal 51 (pairV k) e.key).run Try.prog w = .ok ((k.1 == a.1.1) && (k.2 == a.1.2)) w := by rw [h1]; exact eq_pair k a.1 w
    unfold Instr.findAsking
    rw [Sem.run_bind, he]
    cases hq : ((k.1 == a.1.1) && (k.2 == a.1.2)) with
    | true =>
      refine ⟨some (i, e.val), by simp, ?_⟩
      unfold lookX
      rw [List.find?_cons_of_pos (by show ((k.1 == a.1.1) && (k.2 == a.1.2)) = true; exact hq)]
      simp [h2]
    | false =>
      obtain ⟨r', hr, hv⟩ := askX k w es r (i + 1) h3
      refine ⟨r', by simpa using hr, ?_⟩
      unfold lookX at hv ⊢
      rw [List.find?_cons_of_neg (by show ¬ ((k.1 == a.1.1) && (k.2 == a.1.2)) = true; rw [hq]; decide)]
      exact hv
theorem findKeyX (k : Int × Int) (es : List MapEntry) (ents : List ((Int × Int) × Int)) (h : es.map (fun e => (e.key, e.val)) = ents.map kvX) (w : World) :
    ∃ r, (Instr.findKey 51 (pairV k) es).run Try.prog w = .ok r w ∧ r.map (·.2) = (lookX ents k).map (fun p => Value.int .i64 p) := by
  unfold Instr.findKey
  rw [Sem.run_bind, run_underlying Try.underlying51]
  simp only [Result.andThen_ok]
  cases es with
  | nil =>
    refine ⟨none, rfl, ?_⟩
    have : ents = [] := by simpa using h.symm
    subst this
    rfl
  | cons e es =>
    obtain ⟨r, hr, hv⟩ := askX k w (e :: es) ents 0 h
    refine ⟨r, ?_, hv⟩
    have hk : ∃ vs, e.key = .agg vs := by
      cases ents with
      | nil => simp at h
      | cons a q =>
        simp only [List.map_cons, List.cons.injEq, kvX, Prod.mk.injEq] at h
        exact ⟨_, h.1.1⟩
    obtain ⟨vs, hk⟩ := hk
    have hn : ∀ n t, Instr.findNow (.array n t) (pairV k) (e :: es) 0 = none := fun n t => by
      unfold Instr.findNow
      rw [hk]
      rfl
    rw [hn]
    exact hr
/-- the map in block mb has entries above 0 -/
def XM (W : World) (mb : Nat) : Prop :=
  ∃ (es : Array MapEntry) (clock : Nat) (ents : List ((Int × Int) × Int)), W.heap[mb]? = some (.map es clock) ∧ es.toList.map (fun e => (e.key, e.val)) = ents.map kvX ∧ ∀ p ∈ ents, 0 < p.2
theorem XM.lt {W : World} {mb : Nat} (h : XM W mb) : mb < W.heap.size := by
  obtain ⟨es, c, ents, hb, _⟩ := h
  exact (Array.getElem?_eq_some_iff.1 hb).1
theorem XM.keep {W W' : World} {mb : Nat} (h : XM W mb) (hk : W'.heap[mb]? = W.heap[mb]?) : XM W' mb := by
  obtain ⟨es, c, ents, hb, he⟩ := h
  exact ⟨es, c, ents, hk.trans hb, he⟩
theorem XM.new (w : World) : XM (w.alloc (.map #[] 0)) w.heap.size := ⟨#[], 0, [], heap_alloc_new w _, rfl, fun p hp => by cases hp⟩
/-- a look-up: a number above 0, or 0 and then a store makes it one -/
theorem XM.lookup {W : World} {mb : Nat} (h : XM W mb) (k : Int × Int) :
    (∃ v : Int, 0 < v ∧ (Instr.lookup 33 (.map (some mb)) (pairV k) false).run Try.prog W = .ok (.int .i64 v) W) ∨
    ((Instr.lookup 33 (.map (some mb)) (pairV k) false).run Try.prog W = .ok (.int .i64 0) W ∧
      ∃ W', (Instr.mapUpdate 33 (.map (some mb)) (pairV k) (.int .i64 1)).run Try.prog W = .ok () W' ∧ XM W' mb ∧ W'.heap.size = W.heap.size ∧ (∀ b, b ≠ mb → W'.heap[b]? = W.heap[b]?) ∧ W'.os = W.os ∧ W'.tape = W.tape ∧ W'.output = W.output) := by
  obtain ⟨es, c, ents, hb, he, hpos⟩ := h
  obtain ⟨r, hr, hv⟩ := findKeyX k es.toList ents he W
  cases hl : lookX ents k with
  | some p =>
    refine .inl ⟨p, ?_, ?_⟩
    · unfold lookX at hl
      rw [Option.map_eq_some_iff] at hl
      obtain ⟨q, hq, rfl⟩ := hl
      exact hpos q (List.mem_of_find?_eq_some hq)
    · rw [hl] at hv
      cases r with
      | none => simp at hv
      | some x =>
        obtain ⟨i, v⟩ := x
        simp at hv
        subst hv
        simp [Instr.lookup, run_underlying Try.underlying33, run_getObj_map _ _ _ _ hb, ck_pair, hr]
  | none =>
    rw [hl] at hv
    cases r with
    | some x => simp at hv
    | none =>
      refine .inr ⟨by simp [Instr.lookup, run_underlying Try.underlying33, run_getObj_map _ _ _ _ hb, ck_pair, hr, zero_intN], ?_⟩
      refine ⟨{ W with heap := W.heap.setIfInBounds mb (.map (es.push { key := pairV k, val := .int .i64 1, born := c }) (c + 1)) }, ?_, ?_, by simp, ?_, rfl, rfl, rfl⟩
      · simp [Instr.mapUpdate, run_underlying Try.underlying33, run_getObj_map _ _ _ _ hb, ck_pair, hr, MapKept.run_setObj_map _ hb]
      · have hlt := (Array.getElem?_eq_some_iff.1 hb).1
        refine ⟨es.push { key := pairV k, val := .int .i64 1, born := c }, c + 1, ents ++ [(k, 1)], by simp [hlt], ?_, fun p hp => ?_⟩
        · rw [Array.toList_push, List.map_append, he, List.map_append]
          rfl
        · rcases List.mem_append.1 hp with hp | hp
          · exact hpos p hp
          · have : p = (k, 1) := by simpa using hp
            rw [this]; exact Int.one_pos
      · intro b hbn
        show (W.heap.setIfInBounds mb _)[b]? = _
        rw [Array.getElem?_setIfInBounds_ne (fun e => hbn e.symm)]
end Go.Proofs.Ytlhdabpoljoobaa.flatm
