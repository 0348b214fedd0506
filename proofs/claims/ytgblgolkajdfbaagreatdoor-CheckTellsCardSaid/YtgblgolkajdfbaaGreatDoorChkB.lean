/- A map[string]int that the call makes: what a look-up and a store do; a slice of one node. No conditions but those stated. -/
import Derived.Test.YtgblgolkajdfbaaGreatDoorChkA
import Derived.MapKept
import Derived.Carry
namespace Go.Proofs.YtgblgolkajdfbaaGreatDoor.chkw
open Go.RowKit
open Go.Proofs.YtgblgolkajdfbaaGreatDoor.lexw
open Go.Proofs.YtgblgolkajdfbaaGreatDoor.parw
open Go.Proofs.YtgblgolkajdfbaaGreatDoor.nodew
open Go.Proofs.YtgblgolkajdfbaaGreatDoor.qt

def kv (p : ByteArray × Nat) : Value × Value := (.string p.1, .int .i64 p.2)
/-- the map in block mb has these entries -/
def MB (W : World) (mb : Nat) (ents : List (ByteArray × Nat)) : Prop :=
  ∃ (es : Array MapEntry) (clock : Nat), W.heap[mb]? = some (.map es clock) ∧ es.toList.map (fun e => (e.key, e.val)) = ents.map kv
def lookE (ents : List (ByteArray × Nat)) (k : ByteArray) : Option Nat := (ents.find? fun p => k == p.1).map (·.2)

theorem ck_run' (em : Bool) (m : Nat) (k : ByteArray) (w : World) : (Instr.checkKey em (m + 1) 9 (.string k)).run Tryz.prog w = .ok () w := by
  simp [Instr.checkKey, run_underlying Tryz.underlying9]
theorem ck_run (em : Bool) (k : ByteArray) (w : World) : (Instr.checkKey em 10000 9 (.string k)).run Tryz.prog w = .ok () w := by
  exact ck_run' em 9999 k w
theorem find_run (k : ByteArray) : ∀ (es : List MapEntry) (ents : List (ByteArray × Nat)) (i : Nat), es.map (fun e => (e.key, e.val)) = ents.map kv →
    ∃ r, Instr.findNow .string (.string k) es i = some r ∧ r.map (·.2) = (lookE ents k).map (fun p => Value.int .i64 p)
  | [], [], i, _ => ⟨none, rfl, rfl⟩
  | [], a :: r, i, h => by simp at h
  | e :: es, [], i, h => by simp at h
  | e :: es, a :: r, i, h => by
    simp only [List.map_cons, List.cons.injEq, kv, Prod.mk.injEq] at h
    obtain ⟨⟨h1, h2⟩, h3⟩ := h
    unfold Instr.findNow
    rw [h1]
    show ∃ r', (match some (k == a.1) with | some true => some (some (i, e.val)) | some false => Instr.findNow .string (.string k) es (i + 1) | none => none) = some r' ∧ _
    cases hq : k == a.1 with
    | true =>
      refine ⟨_, rfl, ?_⟩
      unfold lookE
      rw [List.find?_cons_of_pos (by simpa using hq)]
      simp [h2]
    | false =>
      obtain ⟨r', hr, hv⟩ := find_run k es r (i + 1) h3
      refine ⟨r', hr, ?_⟩
      unfold lookE at hv ⊢
      rw [List.find?_cons_of_neg (by simpa using hq)]
      exact hv
theorem findKey_run (k : ByteArray) (es : List MapEntry) (ents : List (ByteArray × Nat)) (h : es.map (fun e => (e.key, e.val)) = ents.map kv) (w : World) :
    ∃ r, (Instr.findKey 9 (.string k) es).run Tryz.prog w = .ok r w ∧ r.map (·.2) = (lookE ents k).map (fun p => Value.int .i64 p) := by
  obtain ⟨r, hr, hv⟩ := find_run k es ents 0 h
  refine ⟨r, ?_, hv⟩
  simp [Instr.findKey, run_underlying Tryz.underlying9, hr]
theorem zero_int (w : World) : (zeroValue 3).run Tryz.prog w = .ok (.int .i64 0) w := by kernel_rfl
theorem MB.lookup {W : World} {mb : Nat} {ents : List (ByteArray × Nat)} (h : MB W mb ents) (k : ByteArray) :
    (Instr.lookup 55 (.map (some mb)) (.string k) true).run Tryz.prog W = .ok (.tuple #[.int .i64 ((lookE ents k).getD 0 : Nat), .bool (lookE ents k).isSome]) W := by
  obtain ⟨es, c, hb, he⟩ := h
  obtain ⟨r, hr, hv⟩ := findKey_run k es.toList ents he W
  cases hl : lookE ents k with
  | none =>
    rw [hl] at hv
    cases r with
    | none => simp [Instr.lookup, run_underlying Tryz.underlying55, run_getObj_map _ _ _ _ hb, ck_run, hr]
    | some x => simp at hv
  | some p =>
    rw [hl] at hv
    cases r with
    | none => simp at hv
    | some x =>
      obtain ⟨i, v⟩ := x
      simp at hv
      subst hv
      simp [Instr.lookup, run_underlying Tryz.underlying55, run_getObj_map _ _ _ _ hb, ck_run, hr]
theorem MB.at {W : World} {mb : Nat} {ents : List (ByteArray × Nat)} (h : MB W mb ents) : MapAt W mb (lookE ents) := by
  obtain ⟨es, c, hb, he⟩ := h
  exact ⟨(Array.getElem?_eq_some_iff.1 hb).1, fun W' hW k => MB.lookup ⟨es, c, hW.trans hb, he⟩ k⟩
theorem MB.keep {W W' : World} {mb : Nat} {ents : List (ByteArray × Nat)} (h : MB W mb ents) (hk : W'.heap[mb]? = W.heap[mb]?) : MB W' mb ents := by
  obtain ⟨es, c, hb, he⟩ := h
  exact ⟨es, c, hk.trans hb, he⟩
/-- a name that is new is stored -/
theorem MB.store {W : World} {mb : Nat} {ents : List (ByteArray × Nat)} (h : MB W mb ents) (k : ByteArray) (p : Nat) (hk : lookE ents k = none) :
    ∃ W', (Instr.mapUpdate 55 (.map (some mb)) (.string k) (.int .i64 p)).run Tryz.prog W = .ok () W' ∧ MB W' mb (ents ++ [(k, p)]) ∧ W'.heap.size = W.heap.size ∧ (∀ b, b ≠ mb → W'.heap[b]? = W.heap[b]?) ∧ W'.os = W.os ∧ W'.tape = W.tape ∧ W'.output = W.output := by
  obtain ⟨es, c, hb, he⟩ := h
  obtain ⟨r, hr, hv⟩ := findKey_run k es.toList ents he W
  rw [hk] at hv
  cases r with
  | some x => simp at hv
  | none =>
    refine ⟨{ W with heap := W.heap.setIfInBounds mb (.map (es.push { key := .string k, val := .int .i64 p, born := c }) (c + 1)) }, ?_, ?_, by simp, ?_, rfl, rfl, rfl⟩
    · simp [Instr.mapUpdate, run_underlying Tryz.underlying55, run_getObj_map _ _ _ _ hb, ck_run, hr, MapKept.run_setObj_map _ hb]
    · have hlt := (Array.getElem?_eq_some_iff.1 hb).1
      refine ⟨es.push { key := .string k, val := .int .i64 p, born := c }, c + 1, by simp [hlt], ?_⟩
      rw [Array.toList_push, List.map_append, he, List.map_append]
      rfl
    · intro b hbn
      show (W.heap.setIfInBounds mb _)[b]? = _
      rw [Array.getElem?_setIfInBounds_ne (fun e => hbn e.symm)]

/-- a slice of one node -/
theorem bs_run (n : Nd) (w : World) : (Instr.buildSlice 26 1 #[(0, n.val)]).run Tryz.prog w = .ok (.slice (some ⟨w.heap.size, 0, none⟩) 1 1) (w.alloc (.cells n.cells.toArray 25)) := by
  unfold Nd.val Nd.cells
  kernel_rfl

end Go.Proofs.YtgblgolkajdfbaaGreatDoor.chkw
