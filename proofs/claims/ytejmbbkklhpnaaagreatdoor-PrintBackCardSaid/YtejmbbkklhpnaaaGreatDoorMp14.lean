/- A map[string]int that the call makes: what a look-up and a store do; a slice of one node. No conditions but those stated. -/
import Derived.Test.YtejmbbkklhpnaaaGreatDoorMp13
import Derived.Test.YtejmbbkklhpnaaaGreatDoorMp04
import Derived.MapKept
import Derived.Carry
import Derived.Deep.AppendLies
namespace Go.Proofs.YtejmbbkklhpnaaaGreatDoor.chkw
open Go.RowKit
open Go.Proofs.YtejmbbkklhpnaaaGreatDoor.lexw
open Go.Proofs.YtejmbbkklhpnaaaGreatDoor.parw
open Go.Proofs.YtejmbbkklhpnaaaGreatDoor.nodew
open Go.Proofs.YtejmbbkklhpnaaaGreatDoor.qt

def kv (p : ByteArray × Nat) : Value × Value := (.string p.1, .int .i64 p.2)
/-- the map in block mb has these entries -/
def MB (W : World) (mb : Nat) (ents : List (ByteArray × Nat)) : Prop :=
  ∃ (es : Array MapEntry) (clock : Nat), W.heap[mb]? = some (.map es clock) ∧ es.toList.map (fun e => (e.key, e.val)) = ents.map kv
def lookE (ents : List (ByteArray × Nat)) (k : ByteArray) : Option Nat := (ents.find? fun p => k == p.1).map (·.2)

theorem ck_run' (em : Bool) (m : Nat) (k : ByteArray) (w : World) : (Instr.checkKey em (m + 1) 9 (.string k)).run Tryz.prog w = .ok () w := by
  simp [Instr.checkKey, run_underlying Tryz.underlying9]
theorem ck_run (em : Bool) (k : ByteArray) (w : World) : (Instr.checkKey em 10000 9 (.string k)).run Tryz.prog w = .ok () w := by
  exact ck_run' em 9999 k w
theorem find_run (k : ByteArray) : ∀ (es : List MapEntry) (ents : List (ByteArray × Nat)) (i : Nat), es.map (fun e => (e.key, e.val)) = ents.map kv →
    ∃ r, Instr.findNow .string (.string k) es i = some r ∧ r.map (·.2) = (lookE ents k).map (fun p => Value.int .i64 p)
  | [], [], i, _ => ⟨none, rfl, rfl⟩
  | [], a :: r, i, h => by simp at h
  | e :: es, [], i, h => by simp at h
  | e :: es, a :: r, i, h => by
    simp only [List.map_cons, List.cons.injEq, kv, Prod.mk.injEq] at h
    obtain ⟨⟨h1, h2⟩, h3⟩ := h
    unfold Instr.findNow
    rw [h1]
    show ∃ r', (match some (k == a.1) with | some true => some (some (i, e.val)) | some false => Instr.findNow .string (.string k) es (i + 1) | none => none) = some r' ∧ _
    cases hq : k == a.1 with
    | true =>
      refine ⟨_, rfl, ?_⟩
      unfold lookE
      rw [List.find?_cons_of_pos (by simpa using hq)]
      simp [h2]
    | false =>
      obtain ⟨r', hr, hv⟩ := find_run k es r (i + 1) h3
      refine ⟨r', hr, ?_⟩
      unfold lookE at hv ⊢
      rw [List.find?_cons_of_neg (by simpa using hq)]
      exact hv
theorem findKey_run (k : ByteArray) (es : List MapEntry) (ents : List (ByteArray × Nat)) (h : es.map (fun e => (e.key, e.val)) = ents.map kv) (w : World) :
    ∃ r, (Instr.findKey 9 (.string k) es).run Tryz.prog w = .ok r w ∧ r.map (·.2) = (lookE ents k).map (fun p => Value.int .i64 p) := by
  obtain ⟨r, hr, hv⟩ := find_run k es ents 0 h
  refine ⟨r, ?_, hv⟩
  simp [Instr.findKey, run_underlying Tryz.underlying9, hr]
theorem MB.lookup {W : World} {mb : Nat} {ents : List (ByteArray × Nat)} (h : MB W mb ents) (k : ByteArray) :
    (Instr.lookup 123 (.map (some mb)) (.string k) true).run Tryz.prog W = .ok (.tuple #[.int .i64 ((lookE ents k).getD 0 : Nat), .bool (lookE ents k).isSome]) W := by
  obtain ⟨es, c, hb, he⟩ := h
  obtain ⟨r, hr, hv⟩ := findKey_run k es.toList ents he W
  cases hl : lookE ents k with
  | none =>
    rw [hl] at hv
    cases r with
    | none => simp [Instr.lookup, run_underlying Tryz.underlying123, run_getObj_map _ _ _ _ hb, ck_run, hr]
    | some x => simp at hv
  | some p =>
    rw [hl] at hv
    cases r with
    | none => simp at hv
    | some x =>
      obtain ⟨i, v⟩ := x
      simp at hv
      subst hv
      simp [Instr.lookup, run_underlying Tryz.underlying123, run_getObj_map _ _ _ _ hb, ck_run, hr]
theorem MB.at {W : World} {mb : Nat} {ents : List (ByteArray × Nat)} (h : MB W mb ents) : MapAt W mb (lookE ents) := by
  obtain ⟨es, c, hb, he⟩ := h
  exact ⟨(Array.getElem?_eq_some_iff.1 hb).1, fun W' hW k => MB.lookup ⟨es, c, hW.trans hb, he⟩ k⟩
theorem MB.keep {W W' : World} {mb : Nat} {ents : List (ByteArray × Nat)} (h : MB W mb ents) (hk : W'.heap[mb]? = W.heap[mb]?) : MB W' mb ents := by
  obtain ⟨es, c, hb, he⟩ := h
  exact ⟨es, c, hk.trans hb, he⟩
/-- a name that is new is stored -/
theorem MB.store {W : World} {mb : Nat} {ents : List (ByteArray × Nat)} (h : MB W mb ents) (k : ByteArray) (p : Nat) (hk : lookE ents k = none) :
    ∃ W', (Instr.mapUpdate 123 (.map (some mb)) (.string k) (.int .i64 p)).run Tryz.prog W = .ok () W' ∧ MB W' mb (ents ++ [(k, p)]) ∧ W'.heap.size = W.heap.size ∧ (∀ b, b ≠ mb → W'.heap[b]? = W.heap[b]?) ∧ W'.os = W.os ∧ W'.tape = W.tape ∧ W'.output = W.output := by
  obtain ⟨es, c, hb, he⟩ := h
  obtain ⟨r, hr, hv⟩ := findKey_run k es.toList ents he W
  rw [hk] at hv
  cases r with
  | some x => simp at hv
  | none =>
    refine ⟨{ W with heap := W.heap.setIfInBounds mb (.map (es.push { key := .string k, val := .int .i64 p, born := c }) (c + 1)) }, ?_, ?_, by simp, ?_, rfl, rfl, rfl⟩
    · simp [Instr.mapUpdate, run_underlying Tryz.underlying123, run_getObj_map _ _ _ _ hb, ck_run, hr, MapKept.run_setObj_map _ hb]
    · have hlt := (Array.getElem?_eq_some_iff.1 hb).1
      refine ⟨es.push { key := .string k, val := .int .i64 p, born := c }, c + 1, by simp [hlt], ?_⟩
      rw [Array.toList_push, List.map_append, he, List.map_append]
      rfl
    · intro b hbn
      show (W.heap.setIfInBounds mb _)[b]? = _
      rw [Array.getElem?_setIfInBounds_ne (fun e => hbn e.symm)]

/-- a slice of one node -/
theorem bs_run (n : Nd) (w : World) : (Instr.buildSlice 43 1 #[(0, n.val)]).run Tryz.prog w = .ok (.slice (some ⟨w.heap.size, 0, none⟩) 1 1) (w.alloc (.cells n.cells.toArray 67)) := by
  unfold Nd.val Nd.cells
  kernel_rfl

end Go.Proofs.YtejmbbkklhpnaaaGreatDoor.chkw

/- The walk of check.Check. Conditions: the statements lie in memory; their lengths are within the reach. -/
namespace Go.Proofs.YtejmbbkklhpnaaaGreatDoor.chkw
open Go.RowKit
open Go.Proofs.YtejmbbkklhpnaaaGreatDoor.lexw
open Go.Proofs.YtejmbbkklhpnaaaGreatDoor.parw
open Go.Proofs.YtejmbbkklhpnaaaGreatDoor.nodew
open Go.Proofs.YtejmbbkklhpnaaaGreatDoor.qt
open Go.BigFrame
attribute [local go_sem] parw.run_store_float

/-- the slice value v holds the statements l, in blocks below B, and no slice is longer than its capacity -/
def SR (W : World) (B : Nat) (v : Value) (l : List PStmt) : Prop :=
  ∃ (vs : List Value) (A : Option Addr) (c : Nat), vs.length = l.length ∧ v = .slice A l.length c ∧
    (l ≠ [] → ∃ g off, A = some ⟨g, off, none⟩ ∧ g < B ∧ ∀ j u, (scells l vs)[j]? = some u → W.cell? ⟨g, off + j, none⟩ = some u) ∧
    ∀ i (h1 : i < vs.length) (h2 : i < l.length), ARead W B vs[i] l[i].args ∧ CapOk vs[i]
theorem SR.keep {W W' : World} {B : Nat} {v : Value} {l : List PStmt} (h : SR W B v l) (hg : ∀ g, g < B → g < W.heap.size → W'.heap[g]? = W.heap[g]?) : SR W' B v l := by
  obtain ⟨vs, A, c, hl, hv, hx, ha⟩ := h
  refine ⟨vs, A, c, hl, hv, fun h0 => ?_, fun i h1 h2 => ⟨(ha i h1 h2).1.keep hg, (ha i h1 h2).2⟩⟩
  obtain ⟨g, off, hA, hB, hcell⟩ := hx h0
  exact ⟨g, off, hA, hB, fun j u hu => (World.cell?_of_block (a := ⟨g, off + j, none⟩) (hg g hB (World.block_lt_of_cell? W _ (hcell j u hu)))).trans (hcell j u hu)⟩
theorem cap_own {W : World} {base e k n : Nat} {v : Value} {xs : List Value} (h : W.ownsRow base e k v n xs) : CapOk v := by
  rcases h.2 with ⟨rfl, _⟩ | ⟨g, cap, cur, rfl, _, _, hc, _⟩
  · exact Nat.le_refl _
  · exact hc
theorem SR.of_row {W : World} {base : Nat} {v : Value} {l : List PStmt} (h : SRow W base v l) : SR W W.heap.size v l := by
  obtain ⟨vs, hl, ho, ha⟩ := h
  rcases ho.2 with ⟨rfl, hn⟩ | ⟨g, cap, cur, rfl, _, hgg, _⟩
  · exact ⟨vs, _, _, hl, by rw [hn], fun h0 => absurd (List.eq_nil_of_length_eq_zero hn) h0, fun i h1 h2 => ⟨.of_own (ha i h1 h2), cap_own (ha i h1 h2)⟩⟩
  · refine ⟨vs, _, _, hl, rfl, fun _ => ⟨g, 0, rfl, (Array.getElem?_eq_some_iff.1 hgg).1, fun j u hu => ?_⟩, fun i h1 h2 => ⟨.of_own (ha i h1 h2), cap_own (ha i h1 h2)⟩⟩
    have hc := ho.cells (g := g) rfl j u hu
    have hadd : (⟨g, 0, none⟩ : Addr).add j = ⟨g, j, none⟩ := by unfold Addr.add; split <;> simp_all
    rw [hadd] at hc
    rw [Nat.zero_add]
    exact hc

/-- the program of statements, or the first error and its place -/
def chkA (ents : List (ByteArray × Nat)) (out : List Nd) : List PStmt → List Nd × Int × Nat
  | [] => (out, 0, 0)
  | s :: r =>
    if 4096 ≤ out.length then ([], s.pos, 181)
    else if (lookE ents s.name).isSome = true ∨ 0 < kindF s.name then ([], s.pos, 182)
    else if (nodeS (lookE ents) s).2.2 = 0 then chkA (ents ++ [(s.name, out.length)]) (out ++ [(nodeS (lookE ents) s).1]) r
    else ([], (nodeS (lookE ents) s).2.1, (nodeS (lookE ents) s).2.2)
def checkS (l : List PStmt) : List Nd × Int × Nat := if l.length = 0 then ([], 0, 180) else chkA [] [] l

/-- what Check hands back -/
def CkPost (w : World) (r : List Nd × Int × Nat) (e : Ending) (w' : World) : Prop :=
  ∃ o, e = .returned (.tuple #[o, .int .i64 r.2.1, .int .i64 r.2.2]) ∧ w'.ownsRow w.heap.size 67 19 o r.1.length (ncells r.1) ∧ Below w.heap.size w w'

/-- what holds in the loop -/
structure CI (w : World) (ents : List (ByteArray × Nat)) (o : Value) (out : List Nd) (X : World) : Prop where
  mp : MB X w.heap.size ents
  own : X.ownsRow (w.heap.size + 1) 67 19 o out.length (ncells out)
  low : Below w.heap.size w X
theorem MB.lt {W : World} {mb : Nat} {ents : List (ByteArray × Nat)} (h : MB W mb ents) : mb < W.heap.size := by
  obtain ⟨es, c, hb, _⟩ := h
  exact (Array.getElem?_eq_some_iff.1 hb).1
theorem CI.ext {w : World} {ents : List (ByteArray × Nat)} {o : Value} {out : List Nd} {X Y : World} (h : CI w ents o out X) (hb : Below X.heap.size X Y) : CI w ents o out Y :=
  ⟨h.mp.keep (hb.block _ h.mp.lt), own_below h.own hb, h.low.trans (hb.mono h.low.size)⟩
theorem ncells_snoc (l : List Nd) (n : Nd) : ncells (l ++ [n]) = ncells l ++ n.cells := by simp [ncells]
theorem nodeInfo : (Tryz.prog.info? 67).map (fun i => (i.zero, i.size, i.bytes)) = some (some (.agg #[.int .u8 0, .float .f64 0, .float .f64 0, .float .f64 0, .float .f64 0, .float .f64 0, .float .f64 0, .float .f64 0, .float .f64 0, .float .f64 0, .float .f64 0, .float .f64 0, .float .f64 0, .float .f64 0, .float .f64 0, .float .f64 0, .float .f64 0, .int .i64 0, .int .i64 0]), 19, 152) := by kernel_rfl
theorem nd_one' (n : Nd) : ∀ u ∈ n.cells, u.oneCell' = true := by
  intro u hu
  have := Array.all_eq_true_iff_forall_mem.1 (nd_one n) u (by simpa using hu)
  exact this

theorem kind_below (s : ByteArray) (w : World) : Calls Tryz.prog 46 #[.string s] w fun e w' => e = .returned (.int .u8 (kindF s)) ∧ Below w.heap.size w w' :=
  (kind_any s w).mono fun _ _ ⟨he, hw⟩ => ⟨he, hw ▸ (Below.refl _ w).alloc (Nat.le_refl _) _⟩
theorem own_of {W W' : World} {base e k n : Nat} {v : Value} {xs : List Value} (h : W.ownsRow base e k v n xs) (hk : ∀ b, base ≤ b → W'.heap[b]? = W.heap[b]?) : W'.ownsRow base e k v n xs := by
  refine ⟨h.1, ?_⟩
  rcases h.2 with h0 | ⟨g, cap, cur, hv, hg, hh, r⟩
  · exact .inl h0
  · exact .inr ⟨g, cap, cur, hv, hg, (hk g hg).trans hh, r⟩
theorem own_lt {W : World} {base e k n : Nat} {v : Value} {xs : List Value} (h : W.ownsRow base e k v n xs) {r : Nat} (hr : v.ownBlock = some r) : r < W.heap.size := by
  rcases h.2 with ⟨rfl, _⟩ | ⟨g, cap, cur, rfl, _, hh, _⟩
  · cases hr
  · cases hr; exact (Array.getElem?_eq_some_iff.1 hh).1
/-- an operation that yields a value -/
theorem wl_val {P : Program} {ops : Array Oper} {rest : List Oper} {o : Oper} {a : Act} {w w' : World} {Q : Exit → Act → World → Prop} (hgd : o.guard = none) (v : Value) (hr : (execOp a.eval o).run P w = .ok (.value v) w')
    (h : wpList P ops Q rest (a.put o.dst v) w') : wpList P ops Q (o :: rest) a w :=
  wpList_plain hgd fun K hK => by
    unfold Oper.wp
    rw [hr]
    exact hK _ _ h
theorem wl_bs {ops : Array Oper} {rest : List Oper} {o : Oper} {a : Act} {w : World} {Q : Exit → Act → World → Prop} (hgd : o.guard = none) (x : Operand) (ho : o.op = .buildSlice 43 1 #[(0, x)]) (n : Nd) (hx : a.eval x = .agg n.cells.toArray)
    (h : wpList Tryz.prog ops Q rest (a.put o.dst (.slice (some ⟨w.heap.size, 0, none⟩) 1 1)) (w.alloc (.cells n.cells.toArray 67))) : wpList Tryz.prog ops Q (o :: rest) a w := by
  refine wl_val hgd _ ?_ h
  have hb : (Instr.buildSlice 43 1 #[(0, .agg n.cells.toArray)]).run Tryz.prog w = .ok (.slice (some ⟨w.heap.size, 0, none⟩) 1 1) (w.alloc (.cells n.cells.toArray 67)) := bs_run n w
  unfold execOp
  simp only [ho, Sem.run_bind, List.map_toArray, List.map_cons, List.map_nil, hx, hb, Result.andThen_ok, Sem.run_pure]
/-- behind the append of a node and the store of its name -/
theorem ci_step {w X wz : World} {ents : List (ByteArray × Nat)} {o : Value} {out : List Nd} {n : Nd} (h : CI w ents o out X) (hg : (X.alloc (.cells n.cells.toArray 67)).grownBy wz o.ownBlock) (g cap : Nat)
    (ho : wz.ownsRow (w.heap.size + 1) 67 19 (.slice (some ⟨g, 0, none⟩) (out.length + 1) cap) (out.length + 1) (ncells out ++ n.cells)) (name : ByteArray) (hn : lookE ents name = none) :
    (∀ b, b < X.heap.size → o.ownBlock ≠ some b → wz.heap[b]? = X.heap[b]?) ∧
    ∃ W', (Instr.mapUpdate 123 (.map (some w.heap.size)) (.string name) (.int .i64 out.length)).run Tryz.prog wz = .ok () W' ∧ CI w (ents ++ [(name, out.length)]) (.slice (some ⟨g, 0, none⟩) (out.length + 1) cap) (out ++ [n]) W' := by
  have hz := h.low.size
  have hm := h.mp.lt
  have hne : ∀ r, o.ownBlock = some r → w.heap.size + 1 ≤ r := fun r e => nodew.own_base h.own e
  have hmz : MB wz w.heap.size ents := h.mp.keep ((hg.block _ (by simp; omega) (fun e => by have := hne _ e.symm; omega)).trans (Below.heap_alloc _ _ _ hm))
  obtain ⟨W', hu, hmb, hsz, hblk, h1, h2, h3⟩ := hmz.store name out.length hn
  have hlow : Below w.heap.size w wz := (h.low.alloc hz _).grown hg (by simp; omega) (fun r e => by have := hne r e; omega)
  refine ⟨fun b hb hr => (hg.block b (by simp; omega) (fun e => hr e.symm)).trans (Below.heap_alloc _ _ _ hb), W', hu, ⟨hmb, ?_, ?_⟩⟩
  · rw [ncells_snoc, List.length_append]
    exact own_of ho fun b hb => hblk b (by omega)
  · exact hlow.trans ⟨h1, h2, h3, by rw [hsz]; exact Nat.le_refl _, fun b hb => hblk b (by omega)⟩

set_option maxRecDepth 100000 in
set_option maxHeartbeats 3000000 in
theorem check_any (B : Nat) (v : Value) (l : List PStmt) (hkd : ∀ s ∈ l, s.kind < 256) (w : World) (hr : SR w B v l) (hB : B ≤ w.heap.size) :
    Calls Tryz.prog 30 #[v] w (CkPost w (checkS l)) := by
  obtain ⟨R, hR⟩ : ∃ R, R = checkS l := ⟨_, rfl⟩
  rw [← hR]
  have HR := Lib.hid hR
  clear hR
  obtain ⟨vs, A, c, hvl, rfl, hx, ha⟩ := hr
  have HX := Lib.hid hx
  have HA := Lib.hid ha
  have HVL := Lib.hid hvl
  have HKD := Lib.hid hkd
  clear hx ha hvl hkd
  have hmm := @run_makeMap Tryz.prog
  go_enter Tryz.func30, Tryz.ntmps30
  by_cases h0 : l.length = 0
  · have hR : R = ([], 0, 180) := by rw [HR.out]; unfold checkS; rw [if_pos h0]
    subst hR
    have e0 : ((l.length : Int) == 0) = true := by rw [beq_iff_eq]; omega
    clear h0
    go_wp2_with fail
    go_ret3
    exact ⟨_, rfl, World.ownsRow_nil _ _ _ _, Below.refl _ _⟩
  · have e0 : ((l.length : Int) == 0) = false := by rw [beq_eq_false_iff_ne]; omega
    have hR : R = chkA [] [] l := by rw [HR.out]; unfold checkS; rw [if_neg h0]
    have HR := Lib.hid hR
    clear hR
    go_wp2_with fail
    obtain ⟨i0, hi0, hz0, hz1, hz2⟩ := info_parts nodeInfo
    have hRC := HR
    go_loopw [20, 6] (fun i o wr => ∃ (k : Nat) (ents : List (ByteArray × Nat)) (out : List Nd), k ≤ l.length ∧ i = .int .i64 k ∧ out.length = k ∧ CI w ents o out wr ∧ chkA ents out (l.drop k) = chkA [] [] l)
      (fun i _ _ => l.length - (intOf i).toNat)
    case atStart => exact ⟨0, [], [], Nat.zero_le _, rfl, rfl, ⟨⟨#[], 0, heap_alloc_new w _, rfl⟩, World.ownsRow_nil _ _ _ _, (Below.refl _ w).alloc (Nat.le_refl _) _⟩, rfl⟩
    case round =>
      obtain ⟨k, ents, out, hk, rfl, hok, hci, hch⟩ := hrel
      have HOK := Lib.hid hok
      have HCH := Lib.hid hch
      clear hok hch
      have hz := hci.low.size
      have hmz := hci.mp.lt
      by_cases hkl : k < l.length
      · as_aux_lemma =>
        obtain ⟨g, off, rfl, hgB, hcell⟩ := HX.out (by intro e; rw [e] at hkl; simp at hkl)
        have hkv : k < vs.length := by rw [HVL.out]; exact hkl
        obtain ⟨st, hst⟩ : ∃ st, st = l[k] := ⟨_, rfl⟩
        obtain ⟨av, hav⟩ : ∃ av, av = vs[k] := ⟨_, rfl⟩
        obtain ⟨har, hac⟩ := HA.out k hkv hkl
        have hsk : st.kind < 256 := HKD.out st (by rw [hst]; exact List.getElem_mem hkl)
        have hcw : ∀ j u, (stCells st av)[j]? = some u → j < 4 → wr.cell? ⟨g, off + k * 4 + j, none⟩ = some u := fun j u hu hj => by
          have := hcell (k * 4 + j) u ((scells_get l vs k j hkv hkl hj HVL.out).trans (by rw [← hst, ← hav]; exact hu))
          rw [← Nat.add_assoc] at this
          exact (hci.low.cell (p := ⟨g, off + k * 4 + j, none⟩) (by show g < w.heap.size; omega)).trans this
        have r0 : wr.cell? ⟨g, off + k * 4, none⟩ = some (.string st.name) := hcw 0 _ rfl (by omega)
        have r1 : wr.cell? ⟨g, off + k * 4 + 1, none⟩ = some (.int .i64 st.pos) := hcw 1 _ rfl (by omega)
        have r2 : wr.cell? ⟨g, off + k * 4 + 2, none⟩ = some (.int .u8 st.kind) := hcw 2 _ rfl (by omega)
        have r3 : wr.cell? ⟨g, off + k * 4 + 3, none⟩ = some av := hcw 3 _ rfl (by omega)
        rw [← hst, ← hav] at har
        rw [← hav] at hac
        have hch : chkA [] [] l = if 4096 ≤ out.length then ([], st.pos, 181) else if (lookE ents st.name).isSome = true ∨ 0 < kindF st.name then ([], st.pos, 182) else if (nodeS (lookE ents) st).2.2 = 0 then chkA (ents ++ [(st.name, out.length)]) (out ++ [(nodeS (lookE ents) st).1]) (l.drop (k + 1)) else ([], (nodeS (lookE ents) st).2.1, (nodeS (lookE ents) st).2.2) := by
          rw [← HCH.out, List.drop_eq_getElem_cons hkl, ← hst]; rfl
        have HC2 := Lib.hid hch
        have HAR := Lib.hid har
        have HAC := Lib.hid hac
        clear hcw hcell hch hst hav har hac hkv HCH HX HA HVL HKD
        have hk0 : (0 : Int) ≤ (k : Int) := by omega
        obtain ⟨Ac, ac, hav, -⟩ := HAR.out
        subst hav
        have hcx := hci.ext ((Below.refl _ wr).alloc (Nat.le_refl _) (.cells #[.string st.name, .int .i64 st.pos, .int .u8 st.kind, .slice Ac st.args.length ac] 28))
        have hbx := heap_alloc_new wr (.cells #[.string st.name, .int .i64 st.pos, .int .u8 st.kind, .slice Ac st.args.length ac] 28)
        have hlk := hcx.mp.lookup st.name
        have HOWN := Lib.hid hci.own
        have HCX := Lib.hid hcx
        have HBX := Lib.hid hbx
        clear hcx hbx hci
        by_cases h1 : 4096 ≤ k
        · have hR : R = ([], st.pos, 181) := by rw [HR.out, HC2.out, if_pos (by rw [HOK.out]; exact h1)]
          subst hR
          clear HR HC2 hlk
          have h1' : (4096 : Int) ≤ (k : Int) := by omega
          go_wp2_with fail
          go_quiet (fail)
          go_wp2_with fail
          go_ret3
          exact ⟨_, rfl, World.ownsRow_nil _ _ _ _, nodew.below_drewN' HCX.out.low _⟩
        · have h1' : ¬ (4096 : Int) ≤ (k : Int) := by omega
          obtain ⟨lk, hlk0⟩ : ∃ lk, lookE ents st.name = lk := ⟨_, rfl⟩
          rw [hlk0] at hlk
          have HLK := Lib.hid hlk0
          clear hlk0
          cases lk with
          | some p =>
            simp only [Option.isSome, Option.getD] at hlk
            have hR : R = ([], st.pos, 182) := by rw [HR.out, HC2.out, if_neg (by rw [HOK.out]; exact h1), if_pos (.inl (by rw [HLK.out]; rfl))]
            subst hR
            clear HR HC2
            go_wp2_with fail
            go_quiet (fail)
            go_wp2_with fail
            go_ret3
            exact ⟨_, rfl, World.ownsRow_nil _ _ _ _, nodew.below_drewN' HCX.out.low _⟩
          | none =>
            simp only [Option.isSome, Option.getD] at hlk
            go_wp2_with fail
            refine (kind_below st.name _).mono ?_
            rintro e X2 ⟨rfl, hb2⟩
            have hci2 := HCX.out.ext hb2
            have hbx2 := (hb2.block wr.heap.size (by simp)).trans HBX.out
            obtain ⟨sb, hsb⟩ : ∃ sb, sb = wr.heap.size := ⟨_, rfl⟩
            have hsz2 : sb < X2.heap.size := by have := hb2.size; simp at this; omega
            have hnr : u6.ownBlock ≠ some sb := by
              intro e
              have := own_lt HOWN.out e
              omega
            rw [← hsb] at hbx2 ⊢
            clear hlk hb2 HBX HCX hsb r0 r1 r2 r3 hz hmz
            have s0 : X2.cell? ⟨sb, 0, none⟩ = some (.string st.name) := (cell_of_row X2 sb 0 _ _ _ hbx2).trans rfl
            have s1 : X2.cell? ⟨sb, 1, none⟩ = some (.int .i64 st.pos) := (cell_of_row X2 sb 1 _ _ _ hbx2).trans rfl
            have s2 : X2.cell? ⟨sb, 2, none⟩ = some (.int .u8 st.kind) := (cell_of_row X2 sb 2 _ _ _ hbx2).trans rfl
            have s3 : X2.cell? ⟨sb, 3, none⟩ = some (.slice Ac st.args.length ac) := (cell_of_row X2 sb 3 _ _ _ hbx2).trans rfl
            have HCI := Lib.hid hci2
            have HBX := Lib.hid hbx2
            clear hci2 hbx2
            by_cases h2 : 0 < kindF st.name
            · have hR : R = ([], st.pos, 182) := by rw [HR.out, HC2.out, if_neg (by rw [HOK.out]; exact h1), if_pos (.inr h2)]
              subst hR
              clear HR HC2
              have h2' : (0 : Int) < (kindF st.name : Int) := by omega
              go_wp2_with fail
              go_quiet (fail)
              go_wp2_with fail
              go_ret3
              exact ⟨_, rfl, World.ownsRow_nil _ _ _ _, nodew.below_drewN' HCI.out.low _⟩
            · have h2' : ¬ (0 : Int) < (kindF st.name : Int) := by omega
              have hr1 : R = if (nodeS (lookE ents) st).2.2 = 0 then chkA (ents ++ [(st.name, out.length)]) (out ++ [(nodeS (lookE ents) st).1]) (l.drop (k + 1)) else ([], (nodeS (lookE ents) st).2.1, (nodeS (lookE ents) st).2.2) := by
                rw [HR.out, HC2.out, if_neg (by rw [HOK.out]; exact h1), if_neg (by rw [HLK.out]; simp; omega)]
              have hnode := node_s (lookE ents) st hsk B (.slice Ac st.args.length ac) w.heap.size X2 (HAR.out.keep fun g h1 h2 => HCI.out.low.block g (by omega)) HAC.out (by have := HCI.out.low.size; omega) HCI.out.mp.at
              obtain ⟨x, hx⟩ : ∃ x, nodeS (lookE ents) st = x := ⟨_, rfl⟩
              rw [hx] at hr1 hnode
              obtain ⟨n, np, ne⟩ := x
              have HR1 := Lib.hid hr1
              clear HR HC2 hx hr1 h2 HAR HAC
              go_wp2_with fail
              refine hnode.mono ?_
              rintro e X3 ⟨rfl, hb3⟩
              have hci3 := HCI.out.ext hb3
              have hbx3 := (hb3.block sb hsz2).trans HBX.out
              have hz3 := hb3.size
              have HCI3 := Lib.hid hci3
              have HBX3 := Lib.hid hbx3
              clear HCI HBX s0 s1 s2 s3 hnode hb3 hci3 hbx3
              by_cases h3 : ne = 0
              · have h3' : ((ne : Int) != 0) = false := by rw [bne_eq_false_iff_eq]; omega
                have hR : R = chkA (ents ++ [(st.name, out.length)]) (out ++ [n]) (l.drop (k + 1)) := by rw [HR1.out, if_pos h3]
                have HR := Lib.hid hR
                clear HR1 h3 hR
                go_upto_region 14 with (refine wpList_store_row rfl 67 (.tmp 11) (.tmp 49) rfl X3.heap.size n.cells.toArray rfl rfl _ _ (heap_alloc_new X3 _) (nd_info _) (by rw [nd_size]; rfl) (nd_one _) ?_)
                have hci4 := HCI3.out.ext (below_setRow ((Below.refl _ X3).alloc (Nat.le_refl _) (.cells #[.int .u8 0, .float .f64 0, .float .f64 0, .float .f64 0, .float .f64 0, .float .f64 0, .float .f64 0, .float .f64 0, .float .f64 0, .float .f64 0, .float .f64 0, .float .f64 0, .float .f64 0, .float .f64 0, .float .f64 0, .float .f64 0, .float .f64 0, .int .i64 0, .int .i64 0] 67)) (Nat.le_refl _) n.cells.toArray)
                have hn4 : NBlk ((X3.alloc (.cells #[.int .u8 0, .float .f64 0, .float .f64 0, .float .f64 0, .float .f64 0, .float .f64 0, .float .f64 0, .float .f64 0, .float .f64 0, .float .f64 0, .float .f64 0, .float .f64 0, .float .f64 0, .float .f64 0, .float .f64 0, .float .f64 0, .float .f64 0, .int .i64 0, .int .i64 0] 67)).setRow X3.heap.size n.cells.toArray) X3.heap.size n := setRow_heap _ _ _ _ _ _ (heap_alloc_new X3 _)
                have hb4 : ((X3.alloc (.cells #[.int .u8 0, .float .f64 0, .float .f64 0, .float .f64 0, .float .f64 0, .float .f64 0, .float .f64 0, .float .f64 0, .float .f64 0, .float .f64 0, .float .f64 0, .float .f64 0, .float .f64 0, .float .f64 0, .float .f64 0, .float .f64 0, .float .f64 0, .int .i64 0, .int .i64 0] 67)).setRow X3.heap.size n.cells.toArray).heap[sb]? = _ := (setRow_other _ _ _ _ (by omega)).trans ((Below.heap_alloc X3 _ sb (by omega)).trans HBX3.out)
                obtain ⟨X4, hX4⟩ : ∃ X4, X4 = (X3.alloc (.cells #[.int .u8 0, .float .f64 0, .float .f64 0, .float .f64 0, .float .f64 0, .float .f64 0, .float .f64 0, .float .f64 0, .float .f64 0, .float .f64 0, .float .f64 0, .float .f64 0, .float .f64 0, .float .f64 0, .float .f64 0, .float .f64 0, .float .f64 0, .int .i64 0, .int .i64 0] 67)).setRow X3.heap.size n.cells.toArray := ⟨_, rfl⟩
                have hz4 : X3.heap.size < X4.heap.size := by rw [hX4]; simp
                rw [← hX4] at hci4 hn4 hb4 ⊢
                clear hX4
                obtain ⟨nb, hnb⟩ : ∃ nb, nb = X3.heap.size := ⟨_, rfl⟩
                rw [← hnb] at hn4 ⊢
                have hsb4 : sb < X4.heap.size := by omega
                clear hnb HCI3 HBX3 hz3 hz4 hsz2
                have hz4 := hci4.low.size
                have hok : out.length = k := HOK.out
                have hk96 : k < 4096 := by omega
                have HCI4 := Lib.hid hci4
                have HB4 := Lib.hid hb4
                have HN4 : Hid (X4.heap[nb]? = some (.cells n.cells.toArray 67 (0, 0))) := Lib.hid hn4
                clear hci4 hb4 hn4
                go_upto_region 16 with (fail)
                refine wp_region_lit ?_
                refine wl_val rfl u6 rfl ?_
                refine wpList_load_row rfl 67 (.tmp 11) rfl nb rfl _ n.cells.toArray _ _ HN4.out Tryz.underlying67 rfl (by kernel_rfl) ?_
                refine wl_bs rfl (.tmp 57) rfl n rfl ?_
                refine wpList_append_lies _ rfl (.tmp 56) (.tmp 58) 43 rfl (w.heap.size + 1) 67 i0 _ 19 152 Tryz.underlying43 hi0 hz0 hz1 hz2 rfl (by omega) u6 out.length (ncells out) rfl (HCI4.out.own.alloc _) ⟨X4.heap.size, 0, none⟩ 1 1 n.cells rfl rfl (World.news_of_block (heap_at X4 (.cells n.cells.toArray 67) _ rfl)) (nd_one' n) (by omega) (by unfold maxLen; omega) (by omega) (by simp; omega) _ rfl ?_
                intro gz capz wz hownz hgz hatz hltz
                obtain ⟨hkeep, W7, hup, hci7⟩ := ci_step HCI4.out hgz gz capz hownz st.name HLK.out
                have hb7 := (hkeep sb hsb4 hnr).trans HB4.out
                have s0 : wz.cell? ⟨sb, 0, none⟩ = some (.string st.name) := (cell_of_row wz sb 0 _ _ _ hb7).trans rfl
                rw [hok] at hup
                have HCI7 := Lib.hid hci7
                clear hkeep hci7 hb7 hownz hgz hatz hltz HCI4 HB4 HN4 hok
                go_wp2_with fail
                go_roundw
                case rel => exact ⟨k + 1, ents ++ [(st.name, out.length)], out ++ [n], by omega, by go_num, by rw [List.length_append, HOK.out]; rfl, HCI7.out, by rw [← HR.out]; exact hRC.out⟩
                case measure => simp [intOf]; omega
              · have h3' : ((ne : Int) != 0) = true := by rw [bne_iff_ne]; omega
                have hR : R = ([], np, ne) := by rw [HR1.out, if_neg h3]
                subst hR
                clear HR1 h3
                go_wp2_with (first | (refine wpList_store_row rfl 67 (.tmp 11) (.tmp 49) rfl X3.heap.size n.cells.toArray rfl rfl _ _ (heap_alloc_new X3 _) (nd_info _) (by rw [nd_size]; rfl) (nd_one _) ?_))
                go_ret3
                exact ⟨_, rfl, World.ownsRow_nil _ _ _ _, below_setRow (HCI3.out.low.alloc HCI3.out.low.size _) HCI3.out.low.size _⟩
      · obtain rfl : k = l.length := by omega
        have hR : R = (out, 0, 0) := by
          rw [HR.out, ← HCH.out, List.drop_length]; rfl
        subst hR
        clear HR HCH HX HA HVL HKD
        go_wp2_with fail
        go_ret3
        exact ⟨_, rfl, nodew.own_le hci.own (by omega), hci.low⟩

end Go.Proofs.YtejmbbkklhpnaaaGreatDoor.chkw
