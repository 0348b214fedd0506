/- A map[string]int that the call makes: what a look-up and a store do; a slice of one node. No conditions but those stated. -/
import Derived.Test.YtejmbbkklhpnaaaGreatDoorMc26
import Derived.Test.YtejmbbkklhpnaaaGreatDoorMc25
import Derived.MapKept
import Derived.Carry
import Derived.Deep.AppendLies
import Derived.Outline
import Derived.Deep.LoopGhost
import Derived.Laws.OwnMore
import Derived.Lib.Hide
import Derived.WalkKit
import Derived.BigQuiet
namespace Go.Proofs.YtejmbbkklhpnaaaGreatDoor.chkw
open Go.RowKit
open Go.Proofs.YtejmbbkklhpnaaaGreatDoor.lexw
open Go.Proofs.YtejmbbkklhpnaaaGreatDoor.parw
open Go.Proofs.YtejmbbkklhpnaaaGreatDoor.nodew
open Go.Proofs.YtejmbbkklhpnaaaGreatDoor.qt

def kv (p : ByteArray × Nat) : Value × Value := (.string p.1, .int .i64 p.2)
/-- the map in block mb has these entries -/
def MB (W : World) (mb : Nat) (ents : List (ByteArray × Nat)) : Prop :=
  ∃ (es : Array MapEntry) (clock : Nat), W.heap[mb]? = some (.map es clock) ∧ es.toList.map (fun e => (e.key, e.val)) = ents.map kv
def lookE (ents : List (ByteArray × Nat)) (k : ByteArray) : Option Nat := (ents.find? fun p => k == p.1).map (·.2)

theorem ck_run' (em : Bool) (m : Nat) (k : ByteArray) (w : World) : (Instr.checkKey em (m + 1) 9 (.string k)).run Tryz.prog w = .ok () w := by
  simp [Instr.checkKey, run_underlying Tryz.underlying9]
theorem ck_run (em : Bool) (k : ByteArray) (w : World) : (Instr.checkKey em 10000 9 (.string k)).run Tryz.prog w = .ok () w := by
  exact ck_run' em 9999 k w
theorem find_run (k : ByteArray) : ∀ (es : List MapEntry) (ents : List (ByteArray × Nat)) (i : Nat), es.map (fun e => (e.key, e.val)) = ents.map kv →
    ∃ r, Instr.findNow .string (.string k) es i = some r ∧ r.map (·.2) = (lookE ents k).map (fun p => Value.int .i64 p)
  | [], [], i, _ => ⟨none, rfl, rfl⟩
  | [], a :: r, i, h => by simp at h
  | e :: es, [], i, h => by simp at h
  | e :: es, a :: r, i, h => by
    simp only [List.map_cons, List.cons.injEq, kv, Prod.mk.injEq] at h
    obtain ⟨⟨h1, h2⟩, h3⟩ := h
    unfold Instr.findNow
    rw [h1]
    show ∃ r', (match some (k == a.1) with | some true => some (some (i, e.val)) | some false => Instr.findNow .string (.string k) es (i + 1) | none => none) = some r' ∧ _
    cases hq : k == a.1 with
    | true =>
      refine ⟨_, rfl, ?_⟩
      unfold lookE
      rw [List.find?_cons_of_pos (by simpa using hq)]
      simp [h2]
    | false =>
      obtain ⟨r', hr, hv⟩ := find_run k es r (i + 1) h3
      refine ⟨r', hr, ?_⟩
      unfold lookE at hv ⊢
      rw [List.find?_cons_of_neg (by simpa using hq)]
      exact hv
theorem findKey_run (k : ByteArray) (es : List MapEntry) (ents : List (ByteArray × Nat)) (h : es.map (fun e => (e.key, e.val)) = ents.map kv) (w : World) :
    ∃ r, (Instr.findKey 9 (.string k) es).run Tryz.prog w = .ok r w ∧ r.map (·.2) = (lookE ents k).map (fun p => Value.int .i64 p) := by
  obtain ⟨r, hr, hv⟩ := find_run k es ents 0 h
  refine ⟨r, ?_, hv⟩
  simp [Instr.findKey, run_underlying Tryz.underlying9, hr]
theorem MB.lookup {W : World} {mb : Nat} {ents : List (ByteArray × Nat)} (h : MB W mb ents) (k : ByteArray) :
    (Instr.lookup 123 (.map (some mb)) (.string k) true).run Tryz.prog W = .ok (.tuple #[.int .i64 ((lookE ents k).getD 0 : Nat), .bool (lookE ents k).isSome]) W := by
  obtain ⟨es, c, hb, he⟩ := h
  obtain ⟨r, hr, hv⟩ := findKey_run k es.toList ents he W
  cases hl : lookE ents k with
  | none =>
    rw [hl] at hv
    cases r with
    | none => simp [Instr.lookup, run_underlying Tryz.underlying123, run_getObj_map _ _ _ _ hb, ck_run, hr]
    | some x => simp at hv
  | some p =>
    rw [hl] at hv
    cases r with
    | none => simp at hv
    | some x =>
      obtain ⟨i, v⟩ := x
      simp at hv
      subst hv
      simp [Instr.lookup, run_underlying Tryz.underlying123, run_getObj_map _ _ _ _ hb, ck_run, hr]
theorem MB.at {W : World} {mb : Nat} {ents : List (ByteArray × Nat)} (h : MB W mb ents) : MapAt W mb (lookE ents) := by
  obtain ⟨es, c, hb, he⟩ := h
  exact ⟨(Array.getElem?_eq_some_iff.1 hb).1, fun W' hW k => MB.lookup ⟨es, c, hW.trans hb, he⟩ k⟩
theorem MB.keep {W W' : World} {mb : Nat} {ents : List (ByteArray × Nat)} (h : MB W mb ents) (hk : W'.heap[mb]? = W.heap[mb]?) : MB W' mb ents := by
  obtain ⟨es, c, hb, he⟩ := h
  exact ⟨es, c, hk.trans hb, he⟩
/-- a name that is new is stored -/
theorem MB.store {W : World} {mb : Nat} {ents : List (ByteArray × Nat)} (h : MB W mb ents) (k : ByteArray) (p : Nat) (hk : lookE ents k = none) :
    ∃ W', (Instr.mapUpdate 123 (.map (some mb)) (.string k) (.int .i64 p)).run Tryz.prog W = .ok () W' ∧ MB W' mb (ents ++ [(k, p)]) ∧ W'.heap.size = W.heap.size ∧ (∀ b, b ≠ mb → W'.heap[b]? = W.heap[b]?) ∧ W'.os = W.os ∧ W'.tape = W.tape ∧ W'.output = W.output := by
  obtain ⟨es, c, hb, he⟩ := h
  obtain ⟨r, hr, hv⟩ := findKey_run k es.toList ents he W
  rw [hk] at hv
  cases r with
  | some x => simp at hv
  | none =>
    refine ⟨{ W with heap := W.heap.setIfInBounds mb (.map (es.push { key := .string k, val := .int .i64 p, born := c }) (c + 1)) }, ?_, ?_, by simp, ?_, rfl, rfl, rfl⟩
    · simp [Instr.mapUpdate, run_underlying Tryz.underlying123, run_getObj_map _ _ _ _ hb, ck_run, hr, MapKept.run_setObj_map _ hb]
    · have hlt := (Array.getElem?_eq_some_iff.1 hb).1
      refine ⟨es.push { key := .string k, val := .int .i64 p, born := c }, c + 1, by simp [hlt], ?_⟩
      rw [Array.toList_push, List.map_append, he, List.map_append]
      rfl
    · intro b hbn
      show (W.heap.setIfInBounds mb _)[b]? = _
      rw [Array.getElem?_setIfInBounds_ne (fun e => hbn e.symm)]

end Go.Proofs.YtejmbbkklhpnaaaGreatDoor.chkw

/- The walk of check.Check. Conditions: the statements lie in memory; their lengths are within the reach. -/
namespace Go.Proofs.YtejmbbkklhpnaaaGreatDoor.chkw
open Go.RowKit
open Go.Proofs.YtejmbbkklhpnaaaGreatDoor.lexw
open Go.Proofs.YtejmbbkklhpnaaaGreatDoor.parw
open Go.Proofs.YtejmbbkklhpnaaaGreatDoor.nodew
open Go.Proofs.YtejmbbkklhpnaaaGreatDoor.qt
open Go.BigFrame
attribute [local go_sem] parw.run_store_float

/-- the slice value v holds the statements l, in blocks below B, and no slice is longer than its capacity -/
def SR (W : World) (B : Nat) (v : Value) (l : List PStmt) : Prop :=
  ∃ (vs : List Value) (A : Option Addr) (c : Nat), vs.length = l.length ∧ v = .slice A l.length c ∧
    (l ≠ [] → ∃ g off, A = some ⟨g, off, none⟩ ∧ g < B ∧ ∀ j u, (scells l vs)[j]? = some u → W.cell? ⟨g, off + j, none⟩ = some u) ∧
    ∀ i (h1 : i < vs.length) (h2 : i < l.length), ARead W B vs[i] l[i].args ∧ CapOk vs[i]
theorem SR.keep {W W' : World} {B : Nat} {v : Value} {l : List PStmt} (h : SR W B v l) (hg : ∀ g, g < B → g < W.heap.size → W'.heap[g]? = W.heap[g]?) : SR W' B v l := by
  obtain ⟨vs, A, c, hl, hv, hx, ha⟩ := h
  refine ⟨vs, A, c, hl, hv, fun h0 => ?_, fun i h1 h2 => ⟨(ha i h1 h2).1.keep hg, (ha i h1 h2).2⟩⟩
  obtain ⟨g, off, hA, hB, hcell⟩ := hx h0
  exact ⟨g, off, hA, hB, fun j u hu => (World.cell?_of_block (a := ⟨g, off + j, none⟩) (hg g hB (World.block_lt_of_cell? W _ (hcell j u hu)))).trans (hcell j u hu)⟩
theorem MB.lt {W : World} {mb : Nat} {ents : List (ByteArray × Nat)} (h : MB W mb ents) : mb < W.heap.size := by
  obtain ⟨es, c, hb, _⟩ := h
  exact (Array.getElem?_eq_some_iff.1 hb).1
end Go.Proofs.YtejmbbkklhpnaaaGreatDoor.chkw

/- Nodes in memory, as the walks of chapter 20 want them. Conditions: as each theorem states. -/
namespace Go.Proofs.YtejmbbkklhpnaaaGreatDoor.chkw
open Go.RowKit
open Go.Proofs.YtejmbbkklhpnaaaGreatDoor.nodew
open Go.Proofs.YtejmbbkklhpnaaaGreatDoor.words
open Go.Proofs.YtejmbbkklhpnaaaGreatDoor.qt
open Go.BigFrame
attribute [local go_sem] nodew.run_store_float

theorem grown_below {w w' : World} (h : Below w.heap.size w w') (row : Option Nat) : w.grownBy w' row := ⟨h.os, h.tape, h.output, h.size, fun k hk _ => h.block k hk⟩
theorem heap_set (w : World) (g j : Nat) (cs : Array Value) (t : TypeId) (fr : Nat × Nat) (v : Value) (h : w.heap[g]? = some (.cells cs t fr)) :
    (w.setCell ⟨g, j, none⟩ v).heap[g]? = some (.cells (cs.setIfInBounds j v) t fr) := by
  obtain ⟨hlt, hk⟩ := Array.getElem?_eq_some_iff.1 h
  show (w.heap.modify g _)[g]? = _
  rw [Array.getElem?_eq_getElem (by rw [Array.size_modify]; exact hlt), Array.getElem_modify_self, hk]
  simp
theorem heap_at (w : World) (o : Obj) (k : Nat) (h : w.heap.size = k) : (w.alloc o).heap[k]? = some o := by subst h; exact heap_alloc_new w o
/-- a slice of nodes, in a block below B, no longer than its capacity -/
def NArg (W : World) (B : Nat) (v : Value) (l : List Nd) : Prop :=
  ∃ A c, v = .slice A l.length c ∧ l.length ≤ c ∧ (A = none → c = 0) ∧ (l ≠ [] → ∃ g off, A = some ⟨g, off, none⟩ ∧ g < B ∧ g < W.heap.size ∧ ∀ j u, (ncells l)[j]? = some u → W.cell? ⟨g, off + j, none⟩ = some u)
theorem NArg.keep {W W' : World} {B : Nat} {v : Value} {l : List Nd} (h : NArg W B v l) (hz : W.heap.size ≤ W'.heap.size) (hg : ∀ g, g < B → g < W.heap.size → W'.heap[g]? = W.heap[g]?) : NArg W' B v l := by
  obtain ⟨A, c, hv, hc, hn, hx⟩ := h
  refine ⟨A, c, hv, hc, hn, fun h0 => ?_⟩
  obtain ⟨g, off, hA, hB, hl, hx⟩ := hx h0
  exact ⟨g, off, hA, hB, by omega, fun j u hu => (World.cell?_of_block (a := ⟨g, off + j, none⟩) (hg g hB hl)).trans (hx j u hu)⟩
theorem NArg.mono {W : World} {B B' : Nat} {v : Value} {l : List Nd} (h : NArg W B v l) (hb : B ≤ B') : NArg W B' v l := by
  obtain ⟨A, c, hv, hc, hn, hx⟩ := h
  refine ⟨A, c, hv, hc, hn, fun h0 => ?_⟩
  obtain ⟨g, off, hA, hB, r⟩ := hx h0
  exact ⟨g, off, hA, by omega, r⟩
theorem NArg.read {W : World} {B : Nat} {v : Value} {l : List Nd} (h : NArg W B v l) : NRead W B v l := by
  obtain ⟨A, c, hv, hc, hn, hx⟩ := h
  exact ⟨A, c, hv, hx⟩
theorem NArg.one (w : World) (n : Nd) (u : World) (hu : u.heap[w.heap.size]? = some (.cells n.cells.toArray 67 (0, 0))) : NArg u u.heap.size (.slice (some ⟨w.heap.size, 0, none⟩) 1 1) [n] := by
  have hl := (Array.getElem?_eq_some_iff.1 hu).1
  refine ⟨_, 1, rfl, Nat.le_refl _, fun h => by simp at h, fun _ => ⟨w.heap.size, 0, rfl, hl, hl, fun j v hv => ?_⟩⟩
  rw [cell_of_row u w.heap.size _ _ _ _ hu, Nat.zero_add]
  simpa [ncells] using hv
end Go.Proofs.YtejmbbkklhpnaaaGreatDoor.chkw
