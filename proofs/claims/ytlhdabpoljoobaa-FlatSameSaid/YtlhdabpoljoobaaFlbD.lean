/- A map of pairs of numbers, counted up: what the steps of 'met[k]++' do. No conditions but those stated. -/
import Derived.Test.YtlhdabpoljoobaaFlbA
import Derived.Test.YtlhdabpoljoobaaFlaX
namespace Go.Proofs.Ytlhdabpoljoobaa.flatm
open Go.RowKit
open Go.Proofs.Ytlhdabpoljoobaa.nodew

/-- the map in block mb: entries above 0, each with its stamp -/
def XS (W : World) (mb : Nat) : Prop :=
  ∃ (es : Array MapEntry) (clock : Nat) (ents : List ((Int × Int) × Int)), W.heap[mb]? = some (.map es clock) ∧ es.toList.map (fun e => (e.key, e.val)) = ents.map kvX ∧ (∀ p ∈ ents, 0 < p.2) ∧ ∀ e ∈ es.toList, e.born < clock
theorem XS.lt {W : World} {mb : Nat} (h : XS W mb) : mb < W.heap.size := by
  obtain ⟨es, c, ents, hb, _⟩ := h
  exact (Array.getElem?_eq_some_iff.1 hb).1
theorem XS.keep {W W' : World} {mb : Nat} (h : XS W mb) (hk : W'.heap[mb]? = W.heap[mb]?) : XS W' mb := by
  obtain ⟨es, c, ents, hb, he⟩ := h
  exact ⟨es, c, ents, hk.trans hb, he⟩
theorem XS.new (w : World) : XS (w.alloc (.map #[] 0)) w.heap.size := ⟨#[], 0, [], heap_alloc_new w _, rfl, (fun p hp => by cases hp), (fun p hp => by simp at hp)⟩
/-- what a look-up finds, and what the three steps do where it finds nothing -/
def Fresh (mb : Nat) (k : Int × Int) (W : World) : Prop :=
  (∀ u : World, u.heap[mb]? = W.heap[mb]? → (Instr.lookup 33 (.map (some mb)) (pairV k) false).run Try.prog u = .ok (.int .i64 0) u) ∧
  ∃ (st : Nat) (o1 o2 : Obj), (∀ u : World, u.heap[mb]? = W.heap[mb]? → (Instr.mapEntry 33 (.map (some mb)) (pairV k)).run Try.prog u = .ok (.tuple #[.int .i64 0, .int .i64 st]) (u.putObj mb o1)) ∧
    (∀ u : World, u.heap[mb]? = some o1 → (Instr.lookup 33 (.map (some mb)) (pairV k) false).run Try.prog u = .ok (.int .i64 0) u) ∧
    (∀ u : World, u.heap[mb]? = some o1 → (Instr.entryStore 33 (.map (some mb)) (.int .i64 st) (.int .i64 1)).run Try.prog u = .ok () (u.putObj mb o2)) ∧
    ∀ u : World, u.heap[mb]? = some o2 → XS u mb
theorem look_some {W : World} {mb : Nat} {es : Array MapEntry} {c : Nat} {ents : List ((Int × Int) × Int)} (hb : W.heap[mb]? = some (.map es c)) (he : es.toList.map (fun e => (e.key, e.val)) = ents.map kvX) (k : Int × Int) {p : Int} (hl : lookX ents k = some p) :
    (Instr.lookup 33 (.map (some mb)) (pairV k) false).run Try.prog W = .ok (.int .i64 p) W := by
  obtain ⟨r, hr, hv⟩ := findKeyX k es.toList ents he W
  rw [hl] at hv
  cases r with
  | none => simp at hv
  | some x =>
    obtain ⟨i, v⟩ := x
    simp at hv
    subst hv
    simp [Instr.lookup, run_underlying Try.underlying33, run_getObj_map _ _ _ _ hb, ck_pair, hr]
theorem look_none {W : World} {mb : Nat} {es : Array MapEntry} {c : Nat} {ents : List ((Int × Int) × Int)} (hb : W.heap[mb]? = some (.map es c)) (he : es.toList.map (fun e => (e.key, e.val)) = ents.map kvX) (k : Int × Int) (hl : lookX ents k = none) :
    (Instr.lookup 33 (.map (some mb)) (pairV k) false).run Try.prog W = .ok (.int .i64 0) W := by
  obtain ⟨r, hr, hv⟩ := findKeyX k es.toList ents he W
  rw [hl] at hv
  cases r with
  | some x => simp at hv
  | none => simp [Instr.lookup, run_underlying Try.underlying33, run_getObj_map _ _ _ _ hb, ck_pair, hr, zero_intN]
theorem find_last {α : Type} (p : α → Bool) (a : α) (hp : p a = true) : ∀ l : List α, (∀ x ∈ l, p x = false) → (l ++ [a]).findIdx? p = some l.length
  | [], _ => by simp [List.findIdx?_cons, hp]
  | b :: r, h => by
    rw [List.cons_append, List.findIdx?_cons, h b (.head _), find_last p a hp r (fun x hx => h x (.tail _ hx))]
    simp
theorem mod_last {α : Type} (f : α → α) (a : α) : ∀ l : List α, (l ++ [a]).modify l.length f = l ++ [f a]
  | [] => rfl
  | b :: r => by simp [List.modify_succ_cons, mod_last f a r]
theorem XS.ask {W : World} {mb : Nat} (h : XS W mb) (k : Int × Int) :
    (∃ v : Int, 0 < v ∧ ∀ u : World, u.heap[mb]? = W.heap[mb]? → (Instr.lookup 33 (.map (some mb)) (pairV k) false).run Try.prog u = .ok (.int .i64 v) u) ∨ Fresh mb k W := by
  obtain ⟨es, c, ents, hb, he, hpos, hst⟩ := h
  cases hl : lookX ents k with
  | some p =>
    refine .inl ⟨p, ?_, fun u hu => look_some (hu.trans hb) he k hl⟩
    unfold lookX at hl
    rw [Option.map_eq_some_iff] at hl
    obtain ⟨q, hq, rfl⟩ := hl
    exact hpos q (List.mem_of_find?_eq_some hq)
  | none =>
    have he2 : ∀ v : Int, (es.push { key := pairV k, val := .int .i64 v, born := c }).toList.map (fun e => (e.key, e.val)) = (ents ++ [(k, v)]).map kvX := fun v => by
      rw [Array.toList_push, List.map_append, he, List.map_append]
      rfl
    have hl2 : lookX (ents ++ [(k, 0)]) k = some 0 := by
      unfold lookX at hl ⊢
      rw [Option.map_eq_none_iff] at hl
      rw [List.find?_append, hl]
      simp
    refine .inr ⟨fun u hu => look_none (hu.trans hb) he k hl, c, .map (es.push { key := pairV k, val := .int .i64 0, born := c }) (c + 1), .map (es.push { key := pairV k, val := .int .i64 1, born := c }) (c + 1), fun u hu => ?_, fun u hu => look_some hu (he2 0) k hl2, fun u hu => ?_, fun u hu => ?_⟩
    · have hbu := hu.trans hb
      obtain ⟨r, hr, hv⟩ := findKeyX k es.toList ents he u
      rw [hl] at hv
      cases r with
      | some x => simp at hv
      | none => simp [Instr.mapEntry, run_underlying Try.underlying33, run_getObj_map _ _ _ _ hbu, ck_pair, hr, zero_intN, MapKept.run_setObj_map _ hbu, goInt, World.putObj]
    · have hidx : (es.push { key := pairV k, val := .int .i64 0, born := c }).findIdx? (fun e => ((e.born : Nat) : Int) == ((c : Nat) : Int)) = some es.size := by
        have h1 : (es.push { key := pairV k, val := Value.int .i64 0, born := c }).findIdx? (fun e => ((e.born : Nat) : Int) == ((c : Nat) : Int)) = (es.push { key := pairV k, val := Value.int .i64 0, born := c }).toList.findIdx? (fun e => ((e.born : Nat) : Int) == ((c : Nat) : Int)) := by
          generalize es.push { key := pairV k, val := Value.int .i64 0, born := c } = xs
          cases xs
          simp
        rw [h1, Array.toList_push, find_last _ _ (by simp) _ (fun x hx => by
          have := hst x hx
          simp only [beq_eq_false_iff_ne, ne_eq]
          omega), Array.length_toList]
      have hmod : (es.push { key := pairV k, val := .int .i64 0, born := c }).modify es.size (fun e => { e with val := .int .i64 1 }) = es.push { key := pairV k, val := .int .i64 1, born := c } := by
        apply Array.ext'
        rw [Array.toList_modify, Array.toList_push, Array.toList_push, ← Array.length_toList, mod_last]
      simp [Instr.entryStore, run_getObj_map _ _ _ _ hu, asInt, asIntOf, hidx, hmod, MapKept.run_setObj_map _ hu, World.putObj]
    · refine ⟨_, _, ents ++ [(k, 1)], hu, he2 1, fun p hp => ?_, fun e hm => ?_⟩
      · rcases List.mem_append.1 hp with hp | hp
        · exact hpos p hp
        · have : p = (k, 1) := by simpa using hp
          rw [this]; exact Int.one_pos
      · rw [Array.toList_push] at hm
        rcases List.mem_append.1 hm with hm | hm
        · have := hst e hm; omega
        · have : e = { key := pairV k, val := .int .i64 1, born := c } := by simpa using hm
          rw [this]
          exact Nat.lt_succ_self _
end Go.Proofs.Ytlhdabpoljoobaa.flatm
