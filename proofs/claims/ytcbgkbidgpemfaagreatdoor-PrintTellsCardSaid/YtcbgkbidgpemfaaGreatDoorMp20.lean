/- A map[string]int that the call makes: what a look-up and a store do; a slice of one node. No conditions but those stated. -/
import Derived.Test.YtcbgkbidgpemfaaGreatDoorMp19
import Derived.Test.YtcbgkbidgpemfaaGreatDoorMp13
import Derived.Test.YtcbgkbidgpemfaaGreatDoorMp18
import Derived.Test.YtcbgkbidgpemfaaGreatDoorMp01
import Derived.Test.YtcbgkbidgpemfaaGreatDoorMp12
import Derived.Test.YtcbgkbidgpemfaaGreatDoorMp06
import Derived.MapKept
import Derived.Carry
import Derived.Deep.AppendLies
import Derived.Outline
import Derived.Deep.LoopGhost
import Derived.Laws.OwnMore
import Derived.Lib.Hide
import Derived.WalkKit
import Derived.BigQuiet
import Derived.WalkLawsBesides
import Derived.IntWalk
import Derived.Lib.ItoaLen
namespace Go.Proofs.YtcbgkbidgpemfaaGreatDoor.chkw
open Go.RowKit
open Go.Proofs.YtcbgkbidgpemfaaGreatDoor.lexw
open Go.Proofs.YtcbgkbidgpemfaaGreatDoor.parw
open Go.Proofs.YtcbgkbidgpemfaaGreatDoor.nodew
open Go.Proofs.YtcbgkbidgpemfaaGreatDoor.qt

def kv (p : ByteArray × Nat) : Value × Value := (.string p.1, .int .i64 p.2)
/-- the map in block mb has these entries -/
def MB (W : World) (mb : Nat) (ents : List (ByteArray × Nat)) : Prop :=
  ∃ (es : Array MapEntry) (clock : Nat), W.heap[mb]? = some (.map es clock) ∧ es.toList.map (fun e => (e.key, e.val)) = ents.map kv
def lookE (ents : List (ByteArray × Nat)) (k : ByteArray) : Option Nat := (ents.find? fun p => k == p.1).map (·.2)

theorem ck_run' (em : Bool) (m : Nat) (k : ByteArray) (w : World) : (Instr.checkKey em (m + 1) 9 (.string k)).run Tryz.prog w = .ok () w := by
  simp [Instr.checkKey, run_underlying Tryz.underlying9]
theorem ck_run (em : Bool) (k : ByteArray) (w : World) : (Instr.checkKey em 10000 9 (.string k)).run Tryz.prog w = .ok () w := by
  exact ck_run' em 9999 k w
theorem find_run (k : ByteArray) : ∀ (es : List MapEntry) (ents : List (ByteArray × Nat)) (i : Nat), es.map (fun e => (e.key, e.val)) = ents.map kv →
    ∃ r, Instr.findNow .string (.string k) es i = some r ∧ r.map (·.2) = (lookE ents k).map (fun p => Value.int .i64 p)
  | [], [], i, _ => ⟨none, rfl, rfl⟩
  | [], a :: r, i, h => by simp at h
  | e :: es, [], i, h => by simp at h
  | e :: es, a :: r, i, h => by
    simp only [List.map_cons, List.cons.injEq, kv, Prod.mk.injEq] at h
    obtain ⟨⟨h1, h2⟩, h3⟩ := h
    unfold Instr.findNow
    rw [h1]
    show ∃ r', (match some (k == a.1) with | some true => some (some (i, e.val)) | some false => Instr.findNow .string (.string k) es (i + 1) | none => none) = some r' ∧ _
    cases hq : k == a.1 with
    | true =>
      refine ⟨_, rfl, ?_⟩
      unfold lookE
      rw [List.find?_cons_of_pos (by simpa using hq)]
      simp [h2]
    | false =>
      obtain ⟨r', hr, hv⟩ := find_run k es r (i + 1) h3
      refine ⟨r', hr, ?_⟩
      unfold lookE at hv ⊢
      rw [List.find?_cons_of_neg (by simpa using hq)]
      exact hv
theorem findKey_run (k : ByteArray) (es : List MapEntry) (ents : List (ByteArray × Nat)) (h : es.map (fun e => (e.key, e.val)) = ents.map kv) (w : World) :
    ∃ r, (Instr.findKey 9 (.string k) es).run Tryz.prog w = .ok r w ∧ r.map (·.2) = (lookE ents k).map (fun p => Value.int .i64 p) := by
  obtain ⟨r, hr, hv⟩ := find_run k es ents 0 h
  refine ⟨r, ?_, hv⟩
  simp [Instr.findKey, run_underlying Tryz.underlying9, hr]
theorem MB.lookup {W : World} {mb : Nat} {ents : List (ByteArray × Nat)} (h : MB W mb ents) (k : ByteArray) :
    (Instr.lookup 116 (.map (some mb)) (.string k) true).run Tryz.prog W = .ok (.tuple #[.int .i64 ((lookE ents k).getD 0 : Nat), .bool (lookE ents k).isSome]) W := by
  obtain ⟨es, c, hb, he⟩ := h
  obtain ⟨r, hr, hv⟩ := findKey_run k es.toList ents he W
  cases hl : lookE ents k with
  | none =>
    rw [hl] at hv
    cases r with
    | none => simp [Instr.lookup, run_underlying Tryz.underlying116, run_getObj_map _ _ _ _ hb, ck_run, hr]
    | some x => simp at hv
  | some p =>
    rw [hl] at hv
    cases r with
    | none => simp at hv
    | some x =>
      obtain ⟨i, v⟩ := x
      simp at hv
      subst hv
      simp [Instr.lookup, run_underlying Tryz.underlying116, run_getObj_map _ _ _ _ hb, ck_run, hr]
theorem MB.at {W : World} {mb : Nat} {ents : List (ByteArray × Nat)} (h : MB W mb ents) : MapAt W mb (lookE ents) := by
  obtain ⟨es, c, hb, he⟩ := h
  exact ⟨(Array.getElem?_eq_some_iff.1 hb).1, fun W' hW k => MB.lookup ⟨es, c, hW.trans hb, he⟩ k⟩
theorem MB.keep {W W' : World} {mb : Nat} {ents : List (ByteArray × Nat)} (h : MB W mb ents) (hk : W'.heap[mb]? = W.heap[mb]?) : MB W' mb ents := by
  obtain ⟨es, c, hb, he⟩ := h
  exact ⟨es, c, hk.trans hb, he⟩
/-- a name that is new is stored -/
theorem MB.store {W : World} {mb : Nat} {ents : List (ByteArray × Nat)} (h : MB W mb ents) (k : ByteArray) (p : Nat) (hk : lookE ents k = none) :
    ∃ W', (Instr.mapUpdate 116 (.map (some mb)) (.string k) (.int .i64 p)).run Tryz.prog W = .ok () W' ∧ MB W' mb (ents ++ [(k, p)]) ∧ W'.heap.size = W.heap.size ∧ (∀ b, b ≠ mb → W'.heap[b]? = W.heap[b]?) ∧ W'.os = W.os ∧ W'.tape = W.tape ∧ W'.output = W.output := by
  obtain ⟨es, c, hb, he⟩ := h
  obtain ⟨r, hr, hv⟩ := findKey_run k es.toList ents he W
  rw [hk] at hv
  cases r with
  | some x => simp at hv
  | none =>
    refine ⟨{ W with heap := W.heap.setIfInBounds mb (.map (es.push { key := .string k, val := .int .i64 p, born := c }) (c + 1)) }, ?_, ?_, by simp, ?_, rfl, rfl, rfl⟩
    · simp [Instr.mapUpdate, run_underlying Tryz.underlying116, run_getObj_map _ _ _ _ hb, ck_run, hr, MapKept.run_setObj_map _ hb]
    · have hlt := (Array.getElem?_eq_some_iff.1 hb).1
      refine ⟨es.push { key := .string k, val := .int .i64 p, born := c }, c + 1, by simp [hlt], ?_⟩
      rw [Array.toList_push, List.map_append, he, List.map_append]
      rfl
    · intro b hbn
      show (W.heap.setIfInBounds mb _)[b]? = _
      rw [Array.getElem?_setIfInBounds_ne (fun e => hbn e.symm)]

end Go.Proofs.YtcbgkbidgpemfaaGreatDoor.chkw

/- The walk of check.Check. Conditions: the statements lie in memory; their lengths are within the reach. -/
namespace Go.Proofs.YtcbgkbidgpemfaaGreatDoor.chkw
open Go.RowKit
open Go.Proofs.YtcbgkbidgpemfaaGreatDoor.lexw
open Go.Proofs.YtcbgkbidgpemfaaGreatDoor.parw
open Go.Proofs.YtcbgkbidgpemfaaGreatDoor.nodew
open Go.Proofs.YtcbgkbidgpemfaaGreatDoor.qt
open Go.BigFrame
attribute [local go_sem] parw.run_store_float

/-- the slice value v holds the statements l, in blocks below B, and no slice is longer than its capacity -/
def SR (W : World) (B : Nat) (v : Value) (l : List PStmt) : Prop :=
  ∃ (vs : List Value) (A : Option Addr) (c : Nat), vs.length = l.length ∧ v = .slice A l.length c ∧
    (l ≠ [] → ∃ g off, A = some ⟨g, off, none⟩ ∧ g < B ∧ ∀ j u, (scells l vs)[j]? = some u → W.cell? ⟨g, off + j, none⟩ = some u) ∧
    ∀ i (h1 : i < vs.length) (h2 : i < l.length), ARead W B vs[i] l[i].args ∧ CapOk vs[i]
theorem SR.keep {W W' : World} {B : Nat} {v : Value} {l : List PStmt} (h : SR W B v l) (hg : ∀ g, g < B → g < W.heap.size → W'.heap[g]? = W.heap[g]?) : SR W' B v l := by
  obtain ⟨vs, A, c, hl, hv, hx, ha⟩ := h
  refine ⟨vs, A, c, hl, hv, fun h0 => ?_, fun i h1 h2 => ⟨(ha i h1 h2).1.keep hg, (ha i h1 h2).2⟩⟩
  obtain ⟨g, off, hA, hB, hcell⟩ := hx h0
  exact ⟨g, off, hA, hB, fun j u hu => (World.cell?_of_block (a := ⟨g, off + j, none⟩) (hg g hB (World.block_lt_of_cell? W _ (hcell j u hu)))).trans (hcell j u hu)⟩
theorem MB.lt {W : World} {mb : Nat} {ents : List (ByteArray × Nat)} (h : MB W mb ents) : mb < W.heap.size := by
  obtain ⟨es, c, hb, _⟩ := h
  exact (Array.getElem?_eq_some_iff.1 hb).1
theorem ncells_snoc (l : List Nd) (n : Nd) : ncells (l ++ [n]) = ncells l ++ n.cells := by simp [ncells]
/-- an operation that yields a value -/
theorem wl_val {P : Program} {ops : Array Oper} {rest : List Oper} {o : Oper} {a : Act} {w w' : World} {Q : Exit → Act → World → Prop} (hgd : o.guard = none) (v : Value) (hr : (execOp a.eval o).run P w = .ok (.value v) w')
    (h : wpList P ops Q rest (a.put o.dst v) w') : wpList P ops Q (o :: rest) a w :=
  wpList_plain hgd fun K hK => by
    unfold Oper.wp
    rw [hr]
    exact hK _ _ h
end Go.Proofs.YtcbgkbidgpemfaaGreatDoor.chkw

/- Nodes in memory, as the walks of chapter 20 want them. Conditions: as each theorem states. -/
namespace Go.Proofs.YtcbgkbidgpemfaaGreatDoor.chkw
open Go.RowKit
open Go.Proofs.YtcbgkbidgpemfaaGreatDoor.nodew
open Go.Proofs.YtcbgkbidgpemfaaGreatDoor.words
open Go.Proofs.YtcbgkbidgpemfaaGreatDoor.qt
open Go.BigFrame
attribute [local go_sem] nodew.run_store_float

theorem grown_below {w w' : World} (h : Below w.heap.size w w') (row : Option Nat) : w.grownBy w' row := ⟨h.os, h.tape, h.output, h.size, fun k hk _ => h.block k hk⟩
theorem grown_trans {a b c : World} {row : Option Nat} (h : a.grownBy b row) (k : b.grownBy c row) : a.grownBy c row :=
  ⟨k.os.trans h.os, k.tape.trans h.tape, k.output.trans h.output, Nat.le_trans h.size k.size, fun i hi hr => (k.block i (Nat.lt_of_lt_of_le hi h.size) hr).trans (h.block i hi hr)⟩
theorem heap_set (w : World) (g j : Nat) (cs : Array Value) (t : TypeId) (fr : Nat × Nat) (v : Value) (h : w.heap[g]? = some (.cells cs t fr)) :
    (w.setCell ⟨g, j, none⟩ v).heap[g]? = some (.cells (cs.setIfInBounds j v) t fr) := by
  obtain ⟨hlt, hk⟩ := Array.getElem?_eq_some_iff.1 h
  show (w.heap.modify g _)[g]? = _
  rw [Array.getElem?_eq_getElem (by rw [Array.size_modify]; exact hlt), Array.getElem_modify_self, hk]
  simp
/-- a slice of nodes, in a block below B, no longer than its capacity -/
def NArg (W : World) (B : Nat) (v : Value) (l : List Nd) : Prop :=
  ∃ A c, v = .slice A l.length c ∧ l.length ≤ c ∧ (A = none → c = 0) ∧ (l ≠ [] → ∃ g off, A = some ⟨g, off, none⟩ ∧ g < B ∧ g < W.heap.size ∧ ∀ j u, (ncells l)[j]? = some u → W.cell? ⟨g, off + j, none⟩ = some u)
theorem NArg.keep {W W' : World} {B : Nat} {v : Value} {l : List Nd} (h : NArg W B v l) (hz : W.heap.size ≤ W'.heap.size) (hg : ∀ g, g < B → g < W.heap.size → W'.heap[g]? = W.heap[g]?) : NArg W' B v l := by
  obtain ⟨A, c, hv, hc, hn, hx⟩ := h
  refine ⟨A, c, hv, hc, hn, fun h0 => ?_⟩
  obtain ⟨g, off, hA, hB, hl, hx⟩ := hx h0
  exact ⟨g, off, hA, hB, by omega, fun j u hu => (World.cell?_of_block (a := ⟨g, off + j, none⟩) (hg g hB hl)).trans (hx j u hu)⟩
theorem NArg.mono {W : World} {B B' : Nat} {v : Value} {l : List Nd} (h : NArg W B v l) (hb : B ≤ B') : NArg W B' v l := by
  obtain ⟨A, c, hv, hc, hn, hx⟩ := h
  refine ⟨A, c, hv, hc, hn, fun h0 => ?_⟩
  obtain ⟨g, off, hA, hB, r⟩ := hx h0
  exact ⟨g, off, hA, by omega, r⟩
theorem NArg.read {W : World} {B : Nat} {v : Value} {l : List Nd} (h : NArg W B v l) : NRead W B v l := by
  obtain ⟨A, c, hv, hc, hn, hx⟩ := h
  exact ⟨A, c, hv, hx⟩
theorem NArg.one (w : World) (n : Nd) (u : World) (hu : u.heap[w.heap.size]? = some (.cells n.cells.toArray 49 (0, 0))) : NArg u u.heap.size (.slice (some ⟨w.heap.size, 0, none⟩) 1 1) [n] := by
  have hl := (Array.getElem?_eq_some_iff.1 hu).1
  refine ⟨_, 1, rfl, Nat.le_refl _, fun h => by simp at h, fun _ => ⟨w.heap.size, 0, rfl, hl, hl, fun j v hv => ?_⟩⟩
  rw [cell_of_row u w.heap.size _ _ _ _ hu, Nat.zero_add]
  simpa [ncells] using hv
theorem ncells_len (l : List Nd) : (ncells l).length = l.length * 19 := by
  induction l with
  | nil => rfl
  | cons a r ih => show (a.cells ++ ncells r).length = _; rw [List.length_append, ih, nd_cells_len, List.length_cons]; omega
theorem box_run (n : Nd) (w : World) : (Instr.box 49 n.val).run Tryz.prog w = .ok (pt w.heap.size 0) (w.alloc (.cells n.cells.toArray 49)) := by
  kernel_rfl
theorem exec_box {o : Oper} (x : Operand) (ho : o.op = .box 49 x) (a : Act) (w : World) (n : Nd) (hx : a.eval x = n.val) : (execOp a.eval o).run Tryz.prog w = .ok (.value (pt w.heap.size 0)) (w.alloc (.cells n.cells.toArray 49)) := by
  unfold execOp
  simp only [ho, Sem.run_bind, hx, box_run, Result.andThen_ok, Sem.run_pure]

end Go.Proofs.YtcbgkbidgpemfaaGreatDoor.chkw

/- The small functions of unrounded scaling: what each answers. No conditions but those stated. -/
namespace Go.Proofs.YtcbgkbidgpemfaaGreatDoor.prnw
open Go.RowKit
open Go.Proofs.YtcbgkbidgpemfaaGreatDoor.nodew
open Go.Proofs.YtcbgkbidgpemfaaGreatDoor.chkw

theorem skew_any (e : Int) (h0 : -3000 ≤ e) (h1 : e ≤ 3000) (w : World) : Calls Tryz.prog 218 #[.int .i64 e] w (Same w (.int .i64 ((e * 631305 - 261663) / 2097152))) := by
  go_enter Tryz.func218, Tryz.ntmps218
  go_wp2
  go_ret
  exact ⟨rfl, rfl⟩
theorem l10_any (e : Int) (h0 : -3000 ≤ e) (h1 : e ≤ 3000) (w : World) : Calls Tryz.prog 189 #[.int .i64 e] w (Same w (.int .i64 (e * 78913 / 262144))) := by
  go_enter Tryz.func189, Tryz.ntmps189
  go_wp2
  go_ret
  exact ⟨rfl, rfl⟩
theorem floor_any (u : Int) (h0 : 0 ≤ u) (h1 : u < 18446744073709551616) (w : World) : Calls Tryz.prog 224 #[.int .u64 u] w (Same w (.int .u64 (u / 4))) := by
  go_enter Tryz.func224, Tryz.ntmps224
  go_wp2
  go_ret
  exact ⟨rfl, rfl⟩
theorem ceil_any (u : Int) (_h0 : 0 ≤ u) (_h1 : u < 18446744073709551616) (w : World) : Calls Tryz.prog 223 #[.int .u64 u] w (Same w (.int .u64 (ceilI u))) := by
  go_enter Tryz.func223, Tryz.ntmps223
  go_wp2
  go_ret
  exact ⟨rfl, rfl⟩
theorem nudge_any (u d : Int) (_h0 : 0 ≤ u) (_h1 : u < 18446744073709551616) (_d0 : -1 ≤ d) (_d1 : d ≤ 1) (w : World) : Calls Tryz.prog 222 #[.int .u64 u, .int .i64 d] w (Same w (.int .u64 (nudgeI u d))) := by
  go_enter Tryz.func222, Tryz.ntmps222
  go_wp2
  go_ret
  exact ⟨rfl, rfl⟩
end Go.Proofs.YtcbgkbidgpemfaaGreatDoor.prnw

/- Unrounded scaling, and the small functions about it. No conditions but those stated. -/


/- Shortest digits: bounds of what unrounded scaling answers (plain), and the number itself. No conditions but those stated. -/
namespace Go.Proofs.YtcbgkbidgpemfaaGreatDoor.prnw
open Go.RowKit
open Go.Proofs.YtcbgkbidgpemfaaGreatDoor.nodew
open Go.Proofs.YtcbgkbidgpemfaaGreatDoor.chkw

theorem or_ge (a b : Int) (ha : 0 ≤ a) (ha2 : a < 9223372036854775808) (hb : 0 ≤ b) (hb2 : b < 9223372036854775808) : a ≤ bits BinOp.or IntKind.u64 a b ∧ bits BinOp.or IntKind.u64 a b < 9223372036854775808 := by
  have h : bits BinOp.or IntKind.u64 a b = IntKind.u64.wrap (((BitVec.ofInt 64 a ||| BitVec.ofInt 64 b).toNat : Nat) : Int) := rfl
  have h1 : (BitVec.ofInt 64 a).toNat = a.toNat := by
    rw [BitVec.toNat_ofInt]
    congr 1
    omega
  have h2 : (BitVec.ofInt 64 b).toNat = b.toNat := by
    rw [BitVec.toNat_ofInt]
    congr 1
    omega
  rw [h, IntKind.wrap_u64, BitVec.toNat_or, h1, h2]
  have h3 : a.toNat ||| b.toNat < 2 ^ 63 := Nat.or_lt_two_pow (by omega) (by omega)
  have h4 : a.toNat ≤ a.toNat ||| b.toNat := Nat.left_le_or
  omega
/-- unrounded scaling of a big number by a normal power -/
theorem us_lo (x hi lo : Nat) (s : Int) (hx : 4611686018427387904 ≤ x) (hx2 : x < 18446744073709551616) (hh : 9223372036854775808 ≤ hi) (hh2 : hi < 18446744073709551616) (s0 : 1 ≤ s) (s1 : s ≤ 58) : 7 ≤ usI x hi lo s ∧ usI x hi lo s < 9223372036854775808 := by
  have hk := toNat_bits63 s (by omega) (by omega)
  unfold usI
  rw [hk]
  have hH : 2305843009213693952 ≤ x * hi / 18446744073709551616 := by
    have : 4611686018427387904 * 9223372036854775808 ≤ x * hi := Nat.mul_le_mul hx hh
    omega
  have hH2 : x * hi / 18446744073709551616 < 18446744073709551616 := by
    have h1 : x * hi < 18446744073709551616 * 18446744073709551616 := Nat.mul_lt_mul_of_lt_of_lt hx2 hh2
    exact Nat.div_lt_of_lt_mul h1
  obtain ⟨H, hHe⟩ : ∃ H, x * hi / 18446744073709551616 = H := ⟨_, rfl⟩
  rw [hHe] at hH hH2 ⊢
  obtain ⟨k, rfl⟩ := Int.eq_ofNat_of_zero_le (show 0 ≤ s by omega)
  rw [Int.toNat_natCast]
  have e2 : ((2 : Int) ^ k) = ((2 ^ k : Nat) : Int) := by norm_cast
  have p1 : 2 ≤ 2 ^ k := by
    have := Nat.pow_le_pow_right (show 0 < 2 by decide) (show 1 ≤ k by omega)
    simpa using this
  have p2 : 2 ^ k ≤ 288230376151711744 := by
    have := Nat.pow_le_pow_right (show 0 < 2 by decide) (show k ≤ 58 by omega)
    simpa using this
  have q : ∀ c : Nat, 2305843009213693951 ≤ c → c < 18446744073709551616 → (7 : Int) ≤ (c : Int) / 2 ^ k ∧ (c : Int) / 2 ^ k < 9223372036854775808 := fun c h1 h2 => by
    have a1 : 7 ≤ c / 2 ^ k := (Nat.le_div_iff_mul_le (by omega)).2 (by omega)
    have a2 : c / 2 ^ k < 9223372036854775808 := Nat.div_lt_of_lt_mul (by
      have : 2 * 9223372036854775808 ≤ 2 ^ k * 9223372036854775808 := Nat.mul_le_mul_right _ p1
      omega)
    rw [e2]
    have e3 : ((c : Int) / ((2 ^ k : Nat) : Int)) = ((c / 2 ^ k : Nat) : Int) := by norm_cast
    rw [e3]
    omega
  split
  · obtain ⟨a, b⟩ := q H (by omega) hH2
    have := or_ge _ 1 (by omega) b (by decide) (by decide)
    omega
  · have hw : ∃ c : Nat, IntKind.u64.wrap ((H : Int) - (if x * hi % 18446744073709551616 < x * lo / 18446744073709551616 then 1 else 0)) = (c : Int) ∧ 2305843009213693951 ≤ c ∧ c < 18446744073709551616 := by
      split
      · exact ⟨H - 1, by rw [IntKind.wrap_u64]; omega, by omega, by omega⟩
      · exact ⟨H, by rw [IntKind.wrap_u64]; omega, by omega, by omega⟩
    obtain ⟨c, hc, c1, c2⟩ := hw
    rw [hc]
    obtain ⟨a, b⟩ := q c c1 c2
    have := or_ge ((c : Int) / 2 ^ k) (if 1 < IntKind.u64.wrap (((x * hi % 18446744073709551616 : Nat) : Int) - ((x * lo / 18446744073709551616 : Nat) : Int)) then 1 else 0) (by omega) b (by split <;> decide) (by split <;> decide)
    omega
end Go.Proofs.YtcbgkbidgpemfaaGreatDoor.prnw

/- The shortest digits of a number. No conditions but those stated. -/
namespace Go.Proofs.YtcbgkbidgpemfaaGreatDoor.prnw
open Go.RowKit
open Go.Proofs.YtcbgkbidgpemfaaGreatDoor.nodew
open Go.Proofs.YtcbgkbidgpemfaaGreatDoor.chkw

def sfB (m e : Int) : Bool := m == 9223372036854775808 && decide (-1085 < e)
def sfZ (e : Int) : Int := if -1085 ≤ e then 11 else 11 + (-1085 - e)
def sfP (m e : Int) : Int := if sfB m e then -(((e + 11) * 631305 - 261663) / 2097152) else -((e + sfZ e) * 78913 / 262144)
def sfMn (m e : Int) : Int := if sfB m e then IntKind.u64.wrap (m - 512) else if -1085 ≤ e then IntKind.u64.wrap (m - 1024) else IntKind.u64.wrap (m - IntKind.u64.wrap (2 ^ ((sfZ e).toNat - 1)))
def sfMx (m e : Int) : Int := if -1085 ≤ e then IntKind.u64.wrap (m + 1024) else IntKind.u64.wrap (m + IntKind.u64.wrap (2 ^ ((sfZ e).toNat - 1)))
def sfO (m e : Int) : Int := bits BinOp.and IntKind.i64 (wrap64 (m / 2 ^ (sfZ e).toNat)) 1

theorem and1 (s : Int) : 0 ≤ bits BinOp.and IntKind.i64 s 1 ∧ bits BinOp.and IntKind.i64 s 1 ≤ 1 := by
  have h : bits BinOp.and IntKind.i64 s 1 = IntKind.i64.wrap (((BitVec.ofInt 64 s &&& BitVec.ofInt 64 1).toNat : Nat) : Int) := rfl
  have h2 : (BitVec.ofInt 64 s &&& BitVec.ofInt 64 1).toNat ≤ 1 := by
    rw [BitVec.toNat_and]
    exact Nat.le_trans Nat.and_le_right (by decide)
  rw [h, IntKind.wrap_i64]
  omega
def sfI (m e : Int) : Nat := (sfP m e + 348).toNat
def sfS (m e : Int) : Int := -(e + sfP m e * 108853 / 32768 + 3)
def sfU (hi lo : Nat → Nat) (m e x : Int) : Int := usI x.toNat (hi (sfI m e)) (lo (sfI m e)) (sfS m e)
def sfDn (hi lo : Nat → Nat) (m e : Int) : Int := ceilI (nudgeI (sfU hi lo m e (sfMn m e)) (sfO m e))
def sfDx (hi lo : Nat → Nat) (m e : Int) : Int := nudgeI (sfU hi lo m e (sfMx m e)) (-(sfO m e)) / 4
/-- the digits and the power of ten -/
def sfR (hi lo : Nat → Nat) (m e : Int) : Int × Int :=
  if sfDn hi lo m e ≤ sfDx hi lo m e / 10 * 10 then (sfDx hi lo m e / 10, -(sfP m e - 1))
  else if sfDn hi lo m e < sfDx hi lo m e then (roundI (sfU hi lo m e m), -(sfP m e))
  else (sfDn hi lo m e, -(sfP m e))
theorem sf_p (m e : Int) (e0 : -1137 ≤ e) (e1 : e ≤ 960) : -347 ≤ sfP m e ∧ sfP m e ≤ 347 ∧ 1 ≤ sfS m e ∧ sfS m e ≤ 58 := by
  unfold sfS
  by_cases hb : sfB m e = true
  · have he : -1085 < e := by
      unfold sfB at hb
      simp only [Bool.and_eq_true, decide_eq_true_eq] at hb
      exact hb.2
    have r1 : sfP m e = -(((e + 11) * 631305 - 261663) / 2097152) := if_pos hb
    rw [r1]
    omega
  · by_cases he : -1085 ≤ e
    · have r1 : sfP m e = -((e + 11) * 78913 / 262144) := by unfold sfP sfZ; rw [if_neg hb, if_pos he]
      rw [r1]
      omega
    · have rz : sfZ e = 11 + (-1085 - e) := if_neg he
      have r1 : sfP m e = -((e + (11 + (-1085 - e))) * 78913 / 262144) := by unfold sfP; rw [if_neg hb, rz]
      have r2 : e + (11 + (-1085 - e)) = -1074 := by omega
      rw [r1, r2]
      omega
theorem sf_mn (m e : Int) (hm0 : 9223372036854775808 ≤ m) (hm : m < 18446744073709551616) (e0 : -1137 ≤ e) (e1 : e ≤ 960) : 4611686018427387904 ≤ sfMn m e ∧ sfMn m e < 18446744073709551616 := by
  unfold sfMn
  split
  · rw [IntKind.wrap_u64]; omega
  · split
    · rw [IntKind.wrap_u64]; omega
    · rename_i he
      have rz : sfZ e = 11 + (-1085 - e) := if_neg he
      rw [rz]
      obtain ⟨k, hk⟩ : ∃ k, k = (11 + (-1085 - e)).toNat - 1 := ⟨_, rfl⟩
      rw [← hk]
      have hk2 : k ≤ 62 := by omega
      have e2 : ((2 : Int) ^ k) = ((2 ^ k : Nat) : Int) := by norm_cast
      have p2 : 2 ^ k ≤ 4611686018427387904 := by
        have := Nat.pow_le_pow_right (show 0 < 2 by decide) hk2
        simpa using this
      obtain ⟨q, hq⟩ : ∃ q, q = 2 ^ k := ⟨_, rfl⟩
      rw [e2, ← hq, IntKind.wrap_u64, IntKind.wrap_u64]
      rw [← hq] at p2
      clear hq e2
      omega
theorem sf_mx (m e : Int) : 0 ≤ sfMx m e ∧ sfMx m e < 18446744073709551616 := by
  unfold sfMx
  split
  · exact w64 _
  · exact w64 _
/-- the digits are a number from 1 on -/
theorem sf_d (hi lo : Nat → Nat) (m e : Int) (hm0 : 9223372036854775808 ≤ m) (hm : m < 18446744073709551616) (e0 : -1137 ≤ e) (e1 : e ≤ 960) (hh : ∀ i, i < 696 → 9223372036854775808 ≤ hi i ∧ hi i < 18446744073709551616) :
    1 ≤ (sfR hi lo m e).1 ∧ (sfR hi lo m e).1 < 18446744073709551616 ∧ -348 ≤ (sfR hi lo m e).2 ∧ (sfR hi lo m e).2 ≤ 348 := by
  obtain ⟨p0, p1, s0, s1⟩ := sf_p m e e0 e1
  obtain ⟨n0, n1⟩ := sf_mn m e hm0 hm e0 e1
  obtain ⟨o0, o1⟩ := and1 (wrap64 (m / 2 ^ (sfZ e).toNat))
  have hi0 : sfI m e < 696 := by unfold sfI; omega
  obtain ⟨t0, t1⟩ := hh _ hi0
  obtain ⟨u0, u1⟩ := us_lo (sfMn m e).toNat (hi (sfI m e)) (lo (sfI m e)) (sfS m e) (by omega) (by omega) t0 t1 s0 s1
  obtain ⟨v0, v1⟩ := us_lo m.toNat (hi (sfI m e)) (lo (sfI m e)) (sfS m e) (by omega) (by omega) t0 t1 s0 s1
  have hn1 : 1 ≤ sfDn hi lo m e ∧ sfDn hi lo m e < 18446744073709551616 := by
    unfold sfDn ceilI nudgeI sfU sfO
    rw [IntKind.wrap_u64, IntKind.wrap_u64, IntKind.wrap_u64]
    omega
  have hx := nudge_bd (sfU hi lo m e (sfMx m e)) (-(sfO m e))
  have hx2 : 0 ≤ sfDx hi lo m e ∧ sfDx hi lo m e < 18446744073709551616 := by unfold sfDx; omega
  have hr : 1 ≤ roundI (sfU hi lo m e m) ∧ roundI (sfU hi lo m e m) < 18446744073709551616 := by
    refine ⟨?_, (round_bd _).2⟩
    unfold roundI sfU
    obtain ⟨c, hc⟩ : ∃ c, bits BinOp.and IntKind.u64 (usI m.toNat (hi (sfI m e)) (lo (sfI m e)) (sfS m e) / 4) 1 = c := ⟨_, rfl⟩
    have hc2 : 0 ≤ c ∧ c ≤ 1 := by
      rw [← hc]
      have h : ∀ a : Int, bits BinOp.and IntKind.u64 a 1 = IntKind.u64.wrap (((BitVec.ofInt 64 a &&& BitVec.ofInt 64 1).toNat : Nat) : Int) := fun _ => rfl
      have h2 : ∀ a : Int, (BitVec.ofInt 64 a &&& BitVec.ofInt 64 1).toNat ≤ 1 := fun a => by
        rw [BitVec.toNat_and]
        exact Nat.le_trans Nat.and_le_right (by decide)
      rw [h, IntKind.wrap_u64]
      have := h2 (usI m.toNat (hi (sfI m e)) (lo (sfI m e)) (sfS m e) / 4)
      omega
    rw [hc, IntKind.wrap_u64, IntKind.wrap_u64]
    omega
  unfold sfR
  split
  · refine ⟨?_, ?_, ?_, ?_⟩ <;> dsimp only <;> omega
  · split
    · refine ⟨?_, ?_, ?_, ?_⟩ <;> dsimp only <;> omega
    · refine ⟨?_, ?_, ?_, ?_⟩ <;> dsimp only <;> omega
/-- returns the two, and what lay there lies there -/
def SfPost (w : World) (r : Int × Int) (x : Ending) (w' : World) : Prop := x = .returned (.tuple #[.int .u64 r.1, .int .i64 r.2]) ∧ Below w.heap.size w w'
set_option maxRecDepth 100000 in
set_option maxHeartbeats 1000000 in
theorem short_any (hi lo : Nat → Nat) (m : Nat) (e : Int) (hm0 : 9223372036854775808 ≤ m) (hm : m < 18446744073709551616) (e0 : -1137 ≤ e) (e1 : e ≤ 960) (w : World) (hT : PT hi lo w) (hTn : 8 < w.heap.size) :
    Calls Tryz.prog 194 #[.int .u64 m, .int .i64 e] w (SfPost w (sfR hi lo m e)) := by
  have HM := Lib.hid (And.intro hm0 hm)
  have HT := Lib.hid (And.intro hT hTn)
  obtain ⟨mi, hmi⟩ : ∃ mi : Int, mi = (m : Int) := ⟨_, rfl⟩
  have pb := sf_p mi e e0 e1
  have nb := sf_mn mi e (by omega) (by omega) e0 e1
  have xb := sf_mx mi e
  rw [← hmi]
  obtain ⟨R, hR⟩ : ∃ R, R = sfR hi lo mi e := ⟨_, rfl⟩
  rw [← hR]
  unfold sfR at hR
  have HR0 := Lib.hid hR
  have HB := Lib.hid (And.intro pb (And.intro nb xb))
  have HMi := Lib.hid hmi
  clear hm0 hm hT hmi pb nb xb hR hTn
  go_enter Tryz.func194, Tryz.ntmps194
  go_upto_region 12 with (fail)
  go_cut [28] from 22 to 28 (fun s28 wx => s28 = .bool (sfB mi e) ∧ wx = w)
  case first =>
    cases hb : (mi == 9223372036854775808) with
    | true =>
      go_wp2_with fail
      all_goals go_meet
      all_goals refine ⟨?_, rfl⟩
      all_goals unfold sfB
      all_goals rw [hb]
      all_goals rfl
    | false =>
      go_wp2_with fail
      all_goals go_meet
      all_goals refine ⟨?_, rfl⟩
      all_goals unfold sfB
      all_goals rw [hb]
      all_goals rfl
  case rest =>
    obtain ⟨rfl, rfl⟩ := hcut
    go_upto_if 28 with (fail)
    go_cut [5, 8, 9, 10] from 5 to 96 (fun s5 s8 s9 s10 wx => s5 = .int .i64 (sfP mi e) ∧ s8 = .int .u64 (sfMn mi e) ∧ s9 = .int .u64 (sfMx mi e) ∧ s10 = .int .i64 (sfO mi e) ∧ wx = wc)
    case first =>
      cases hb : sfB mi e with
      | true =>
        have he : -1085 < e := by
          unfold sfB at hb
          simp only [Bool.and_eq_true, decide_eq_true_eq] at hb
          exact hb.2
        have r1 : sfP mi e = -(((e + 11) * 631305 - 261663) / 2097152) := if_pos hb
        have r2 : sfMn mi e = IntKind.u64.wrap (mi - 512) := if_pos hb
        have r3 : sfMx mi e = IntKind.u64.wrap (mi + 1024) := if_pos (by omega)
        have rz : sfZ e = 11 := if_pos (by omega)
        have r4 : sfO mi e = bits BinOp.and IntKind.i64 (wrap64 (mi / 2048)) 1 := by unfold sfO; rw [rz]; rfl
        have HR := Lib.hid (And.intro r1 (And.intro r2 (And.intro r3 r4)))
        clear r1 r2 r3 r4 rz
        go_wp2_with (first | (go_at_call 218; (with_reducible refine (skew_any _ (by omega) (by omega) _).mono ?_); rintro e w' ⟨rfl, hw'⟩; obtain rfl := hw'.symm))
        go_meet
        exact ⟨by rw [HR.out.1], by rw [HR.out.2.1], by rw [HR.out.2.2.1], by rw [HR.out.2.2.2], rfl⟩
      | false =>
        by_cases he : -1085 ≤ e
        · have r1 : sfP mi e = -((e + 11) * 78913 / 262144) := by unfold sfP sfZ; rw [if_neg (by rw [hb]; decide), if_pos he]
          have r2 : sfMn mi e = IntKind.u64.wrap (mi - 1024) := by unfold sfMn; rw [if_neg (by rw [hb]; decide), if_pos he]
          have r3 : sfMx mi e = IntKind.u64.wrap (mi + 1024) := if_pos (by omega)
          have rz : sfZ e = 11 := if_pos (by omega)
          have r4 : sfO mi e = bits BinOp.and IntKind.i64 (wrap64 (mi / 2048)) 1 := by unfold sfO; rw [rz]; rfl
          have HR := Lib.hid (And.intro r1 (And.intro r2 (And.intro r3 r4)))
          clear r1 r2 r3 r4 rz
          go_wp2_with (first | (go_at_call 189; (with_reducible refine (l10_any _ (by omega) (by omega) _).mono ?_); rintro e w' ⟨rfl, hw'⟩; obtain rfl := hw'.symm))
          go_meet
          exact ⟨by rw [HR.out.1], by rw [HR.out.2.1], by rw [HR.out.2.2.1], by rw [HR.out.2.2.2], rfl⟩
        · have rz : sfZ e = 11 + (-1085 - e) := if_neg he
          have r1 : sfP mi e = -((e + (11 + (-1085 - e))) * 78913 / 262144) := by unfold sfP; rw [if_neg (by rw [hb]; decide), rz]
          have r2 : sfMn mi e = IntKind.u64.wrap (mi - IntKind.u64.wrap (2 ^ ((11 + (-1085 - e)).toNat - 1))) := by unfold sfMn; rw [if_neg (by rw [hb]; decide), if_neg he, rz]
          have r3 : sfMx mi e = IntKind.u64.wrap (mi + IntKind.u64.wrap (2 ^ ((11 + (-1085 - e)).toNat - 1))) := by unfold sfMx; rw [if_neg he, rz]
          have r4 : sfO mi e = bits BinOp.and IntKind.i64 (wrap64 (mi / 2 ^ (11 + (-1085 - e)).toNat)) 1 := by unfold sfO; rw [rz]
          have HR := Lib.hid (And.intro r1 (And.intro r2 (And.intro r3 r4)))
          have he2 : e < -1085 := by omega
          clear r1 r2 r3 r4 rz he
          go_wp2_with (first | (go_at_call 189; (with_reducible refine (l10_any _ (by omega) (by omega) _).mono ?_); rintro e w' ⟨rfl, hw'⟩; obtain rfl := hw'.symm))
          go_meet
          exact ⟨by rw [HR.out.1], by rw [HR.out.2.1], by rw [HR.out.2.2.1], by rw [HR.out.2.2.2], rfl⟩
    case rest =>
      obtain ⟨rfl, rfl, rfl, rfl, hwc⟩ := hcut
      obtain rfl := hwc.symm
      obtain ⟨⟨p0, p1, s0, s1⟩, ⟨n0, n1⟩, ⟨x0, x1⟩⟩ := HB.out
      obtain ⟨hT, hTn⟩ := HT.out
      obtain ⟨hm0, hm⟩ := HM.out
      have hmi := HMi.out
      have hI : sfP mi e = (sfI mi e : Int) - 348 := by unfold sfI; omega
      have hi0 : sfI mi e < 696 := by omega
      obtain ⟨t0, t1, _, _⟩ := hT _ hi0
      obtain ⟨w1, hw1⟩ : ∃ w1, w1 = wc.alloc (.cells #[.int .u64 0, .int .u64 0, .int .i64 0] 258) := ⟨_, rfl⟩
      have hb1 : Below wc.heap.size wc w1 := by rw [hw1]; exact (Below.refl _ _).alloc (Nat.le_refl _) _
      have hsc : SC w1 wc.heap.size 0 0 0 := by rw [hw1]; exact heap_alloc_new wc _
      have hT1 : PT hi lo w1 := fun i hi6 => by
        obtain ⟨a, b, c, d⟩ := hT i hi6
        exact ⟨a, b, (hb1.cell hTn).trans c, (hb1.cell hTn).trans d⟩
      have CP := prescale_any hi lo wc.heap.size e (sfI mi e) (sfP mi e * 108853 / 32768) hi0 (by omega) (by omega) (by omega) (by omega) 0 0 0 w1 hT1 (by omega) hsc
      rw [← hI] at CP
      have CL := fun W => l2_any (sfP mi e) (by omega) (by omega) W
      have CU : ∀ (W : World) (x : Int), SC W wc.heap.size (hi (sfI mi e)) (lo (sfI mi e)) (sfS mi e) → 0 ≤ x → x < 18446744073709551616 → Calls Tryz.prog 221 #[.int .u64 x, .pointer (some ⟨wc.heap.size, 0, none⟩)] W (UsPost W (sfU hi lo mi e x)) := fun W x hs h0 h1 => by
        have := uscale_any x.toNat _ _ _ (by omega) t0 t1 _ W hs
        rw [show ((x.toNat : Nat) : Int) = x by omega] at this
        exact this
      have ob := and1 (wrap64 (mi / 2 ^ (sfZ e).toNat))
      have CN1 := fun W => nudge_any (sfU hi lo mi e (sfMn mi e)) (sfO mi e) (us_bd _ _ _ _).1 (us_bd _ _ _ _).2 (by unfold sfO; omega) (by unfold sfO; omega) W
      have CN2 := fun W => nudge_any (sfU hi lo mi e (sfMx mi e)) (-(sfO mi e)) (us_bd _ _ _ _).1 (us_bd _ _ _ _).2 (by unfold sfO; omega) (by unfold sfO; omega) W
      have CC : ∀ W, Calls _ _ _ W (Same W (.int .u64 (sfDn hi lo mi e))) := fun W => ceil_any (nudgeI (sfU hi lo mi e (sfMn mi e)) (sfO mi e)) (nudge_bd _ _).1 (nudge_bd _ _).2 W
      have CF : ∀ W, Calls _ _ _ W (Same W (.int .u64 (sfDx hi lo mi e))) := fun W => floor_any (nudgeI (sfU hi lo mi e (sfMx mi e)) (-(sfO mi e))) (nudge_bd _ _).1 (nudge_bd _ _).2 W
      have CR := fun W => round_any (sfU hi lo mi e mi) (us_bd _ _ _ _).1 (us_bd _ _ _ _).2 W
      have dnb : 0 ≤ sfDn hi lo mi e ∧ sfDn hi lo mi e < 18446744073709551616 := ceil_bd _
      have dxb : 0 ≤ sfDx hi lo mi e ∧ sfDx hi lo mi e < 18446744073709551616 := by
        have := nudge_bd (sfU hi lo mi e (sfMx mi e)) (-(sfO mi e))
        unfold sfDx
        omega
      have hR := HR0.out
      have cu1 := fun W h => CU W (sfMn mi e) h (by omega) n1
      have cu2 := fun W h => CU W (sfMx mi e) h x0 x1
      have cu3 := fun W h => CU W mi h (by omega) (by omega)
      have o0 : 0 ≤ sfO mi e := ob.1
      have o1 : sfO mi e ≤ 1 := ob.2
      have ub1 := us_bd (sfMn mi e).toNat (hi (sfI mi e)) (lo (sfI mi e)) (sfS mi e)
      have u1b : 0 ≤ sfU hi lo mi e (sfMn mi e) ∧ sfU hi lo mi e (sfMn mi e) < 18446744073709551616 := us_bd _ _ _ _
      have u2b : 0 ≤ sfU hi lo mi e (sfMx mi e) ∧ sfU hi lo mi e (sfMx mi e) < 18446744073709551616 := us_bd _ _ _ _
      have rb := round_bd (sfU hi lo mi e mi)
      change Calls _ _ _ _ (fun x w' => x = .returned (.tuple #[]) ∧ SC w' wc.heap.size (hi (sfI mi e)) (lo (sfI mi e)) (sfS mi e) ∧ w1.grownBy w' (some wc.heap.size)) at CP
      clear ub1 CU ob hI hi0 hT hT1 hsc s0 s1 t0 t1 hm0 hm hmi hTn
      obtain ⟨P, hP⟩ : ∃ P, sfP mi e = P := ⟨_, rfl⟩
      obtain ⟨S, hS⟩ : ∃ S : World → Prop, S = fun W => SC W wc.heap.size (hi (sfI mi e)) (lo (sfI mi e)) (sfS mi e) := ⟨_, rfl⟩
      have hSd : ∀ W n, S W → S (W.drewN n) := fun W n h => by rw [hS] at h ⊢; exact h
      have cu1' : ∀ W, S W → Calls Tryz.prog 221 #[.int .u64 (sfMn mi e), .pointer (some ⟨wc.heap.size, 0, none⟩)] W (UsPost W (sfU hi lo mi e (sfMn mi e))) := fun W h => cu1 W (by rw [hS] at h; exact h)
      have cu2' : ∀ W, S W → Calls Tryz.prog 221 #[.int .u64 (sfMx mi e), .pointer (some ⟨wc.heap.size, 0, none⟩)] W (UsPost W (sfU hi lo mi e (sfMx mi e))) := fun W h => cu2 W (by rw [hS] at h; exact h)
      have cu3' : ∀ W, S W → Calls Tryz.prog 221 #[.int .u64 mi, .pointer (some ⟨wc.heap.size, 0, none⟩)] W (UsPost W (sfU hi lo mi e mi)) := fun W h => cu3 W (by rw [hS] at h; exact h)
      have CP' : Calls Tryz.prog 219 #[.pointer (some ⟨wc.heap.size, 0, none⟩), .int .i64 e, .int .i64 (sfP mi e), .int .i64 (sfP mi e * 108853 / 32768)] w1 fun x w' => x = .returned (.tuple #[]) ∧ S w' ∧ w1.grownBy w' (some wc.heap.size) := CP.mono fun x w' h => ⟨h.1, by rw [hS]; exact h.2.1, h.2.2⟩
      clear CP cu1 cu2 cu3 hS
      rw [hP] at CP' CL hR p0 p1 ⊢
      obtain ⟨O, hO⟩ : ∃ O, sfO mi e = O := ⟨_, rfl⟩
      rw [hO] at CN1 CN2 CC CF o0 o1 ⊢
      obtain ⟨U1, hU1⟩ : ∃ U1, sfU hi lo mi e (sfMn mi e) = U1 := ⟨_, rfl⟩
      rw [hU1] at CN1 CC cu1' u1b
      obtain ⟨U2, hU2⟩ : ∃ U2, sfU hi lo mi e (sfMx mi e) = U2 := ⟨_, rfl⟩
      rw [hU2] at CN2 CF cu2' u2b
      obtain ⟨U3, hU3⟩ : ∃ U3, sfU hi lo mi e mi = U3 := ⟨_, rfl⟩
      rw [hU3] at CR cu3' hR rb
      obtain ⟨MN, hMN⟩ : ∃ MN, sfMn mi e = MN := ⟨_, rfl⟩
      rw [hMN] at cu1' n0 n1 ⊢
      obtain ⟨MX, hMX⟩ : ∃ MX, sfMx mi e = MX := ⟨_, rfl⟩
      rw [hMX] at cu2' x0 x1 ⊢
      obtain ⟨dn, hdn⟩ : ∃ dn, sfDn hi lo mi e = dn := ⟨_, rfl⟩
      rw [hdn] at CC hR dnb
      obtain ⟨dx, hdx⟩ : ∃ dx, sfDx hi lo mi e = dx := ⟨_, rfl⟩
      rw [hdx] at CF hR dxb
      obtain ⟨V1, hV1⟩ : ∃ V1, nudgeI U1 O = V1 := ⟨_, rfl⟩
      rw [hV1] at CN1 CC
      obtain ⟨V2, hV2⟩ : ∃ V2, nudgeI U2 (-O) = V2 := ⟨_, rfl⟩
      rw [hV2] at CN2 CF
      have K1 := Lib.hid CP'
      have K2 := Lib.hid CL
      have K3 := Lib.hid cu1'
      have K4 := Lib.hid cu2'
      have K5 := Lib.hid cu3'
      have K6 := Lib.hid CN1
      have K7 := Lib.hid CN2
      have K8 := Lib.hid CC
      have K9 := Lib.hid CF
      have K10 := Lib.hid CR
      have K11 := Lib.hid hR
      have K12 := Lib.hid hSd
      have K13 := Lib.hid hb1
      have Y1 := Lib.hid hw1
      obtain ⟨dn0, dn1⟩ := dnb
      obtain ⟨dx0, dx1⟩ := dxb
      clear CP' CL cu1' cu2' cu3' CN1 CN2 CC CF CR hR hSd hb1 hw1 hP hO hU1 hU2 hU3 hMN hMX hdn hdx hV1 hV2 u1b u2b rb n0 n1 x0 x1
      go_upto_region 28 with (first | (rw [← Y1.out]))
      go_upto_region 29 with (first | (go_at_call 220; (with_reducible refine (K2.out _).mono ?_); rintro e w' ⟨rfl, hw'⟩; obtain rfl := hw'.symm) | (go_at_call 219; (with_reducible refine K1.out.mono ?_); rintro e w2 ⟨rfl, hS2, hG2⟩))
      have hB2 : Below wc.heap.size wc w2 := K13.out.grown hG2 K13.out.size (fun k e => by obtain rfl := Option.some.inj e; exact Nat.le_refl _)
      have HS2 := Lib.hid hS2
      have HB2 := Lib.hid hB2
      have HP := Lib.hid (And.intro p0 p1)
      clear hS2 hB2 hG2 hw'
      go_wp2_with (first
        | (go_at_call 221; (first | (with_reducible refine (K3.out _ (by (repeat (first | exact HS2.out | refine K12.out _ _ ?_)))).mono ?_) | (with_reducible refine (K4.out _ (by (repeat (first | exact HS2.out | refine K12.out _ _ ?_)))).mono ?_) | (with_reducible refine (K5.out _ (by (repeat (first | exact HS2.out | refine K12.out _ _ ?_)))).mono ?_)); rintro e w' ⟨rfl, nd, hw'⟩; obtain rfl := hw'.symm; clear hw')
        | (go_at_call 222; (first | (with_reducible refine (K6.out _).mono ?_) | (with_reducible refine (K7.out _).mono ?_)); rintro e w' ⟨rfl, hw'⟩; obtain rfl := hw'.symm; clear hw')
        | (go_at_call 223; (with_reducible refine (K8.out _).mono ?_); rintro e w' ⟨rfl, hw'⟩; obtain rfl := hw'.symm; clear hw')
        | (go_at_call 224; (with_reducible refine (K9.out _).mono ?_); rintro e w' ⟨rfl, hw'⟩; obtain rfl := hw'.symm; clear hw')
        | (go_at_call 225; (with_reducible refine (K10.out _).mono ?_); rintro e w' ⟨rfl, hw'⟩; obtain rfl := hw'.symm; clear hw'))
      all_goals go_ret2
      all_goals refine ⟨?_, below_drewN' HB2.out _⟩
      · rw [K11.out, if_pos (by assumption)]; rfl
      · rw [K11.out, if_neg (by omega), if_pos (by assumption)]; rfl
      · rw [K11.out, if_neg (by omega), if_neg (by omega)]; rfl
end Go.Proofs.YtcbgkbidgpemfaaGreatDoor.prnw

/- setDigits. No conditions but those stated. -/
namespace Go.Proofs.YtcbgkbidgpemfaaGreatDoor.prnw
open Go.RowKit
open Go.Shelf
open Go.Sort
open Go.Proofs.YtcbgkbidgpemfaaGreatDoor.nodew
open Go.Proofs.YtcbgkbidgpemfaaGreatDoor.chkw

/-- a byte as a value -/
def bV (b : UInt8) : Value := Value.int .u8 (b.toNat : Int)
/-- how many of the first n digits of u stay, without the noughts behind -/
def trimTo (u : Nat) : Nat → Nat
  | 0 => 0
  | n + 1 => if Lib.dg u (Lib.nDigits u - 1 - n) = 48 then trimTo u n else n + 1
theorem trim_le (u : Nat) : ∀ n, trimTo u n ≤ n
  | 0 => Nat.le_refl _
  | n + 1 => by
    unfold trimTo
    split
    · exact Nat.le_succ_of_le (trim_le u n)
    · exact Nat.le_refl _
/-- the digits of u lie in the block, and how many of them count -/
def SdPost (w : World) (bb u : Nat) (p : Int) (x : Ending) (w' : World) : Prop :=
  x = .returned (.tuple #[.int .i64 ((Lib.nDigits u : Nat) + p), .int .i64 (trimTo u (Lib.nDigits u) : Nat)]) ∧
    (∀ t, t < Lib.nDigits u → w'.cell? ⟨bb, t, none⟩ = some (bV (Lib.dg u (Lib.nDigits u - 1 - t)))) ∧ w.grownBy w' (some bb)
set_option maxRecDepth 100000 in
set_option maxHeartbeats 1000000 in
theorem setd_any (bb u : Nat) (p : Int) (_hu : 1 ≤ u) (hu2 : u < 18446744073709551616) (p0 : -400 ≤ p) (p1 : p ≤ 400) (w : World) (hb : Holds bV w bb 0 (Array.replicate 32 0)) :
    Calls Tryz.prog 188 #[.slice (some ⟨bb, 0, none⟩) 32 32, .int .u64 u, .int .i64 p, .int .i64 (Lib.nDigits u : Nat)] w (SdPost w bb u p) := by
  have hn := Lib.nDigits_le20 u hu2
  have hn1 := Lib.nDigits_pos u
  have hlt := Lib.lt_pow_nDigits u
  obtain ⟨N, hN⟩ : ∃ N, Lib.nDigits u = N := ⟨_, rfl⟩
  have hH : Holds bV w bb 0 (Array.replicate N 0) := fun j hj => by
    have h1 : j < N := by simpa using hj
    have := hb j (by simp; omega)
    rw [getElem!_pos _ j (by simp; omega), Array.getElem_replicate] at this
    rw [getElem!_pos _ j hj, Array.getElem_replicate]
    exact this
  have C := Tryz.internal_strconv_formatBase10 bb 0 32 u (Array.replicate N 0) w hH (by rw [Array.size_replicate, ← hN]; exact hlt) hu2 (by rw [Array.size_replicate]; omega)
  rw [Array.size_replicate] at C
  have C2 : Calls Tryz.prog 176 #[.slice (some ⟨bb, 0, none⟩) N 32, .int .u64 u] w fun e w' => e = .returned (.tuple #[]) ∧ (∀ t, t < N → w'.cell? ⟨bb, t, none⟩ = some (bV (Lib.dg u (N - 1 - t)))) ∧ w.grownBy w' (some bb) := C.mono fun e w' h => by
    obtain ⟨he, n, v, dk, hw, hf⟩ := h
    have hds : dk.size = (Array.replicate N (0 : UInt8)).size := by rw [hf.size, Array.size_replicate]
    refine ⟨he, fun t ht => ?_, ?_⟩
    · rw [hw]
      have h1 := cell?_putRow bV w bb 0 (Array.replicate N 0) dk hH hds t (by rw [hf.size]; exact ht)
      have h2 := hf.done t (Nat.zero_le _) ht
      rw [Nat.zero_add, h2] at h1
      exact h1
    · rw [hw]
      refine ⟨rfl, rfl, rfl, by simp [World.drewN], fun i hi hne => ?_⟩
      show (w.heap.modify bb _)[i]? = _
      rw [Array.getElem?_modify, if_neg (fun e => hne (by rw [e]))]
  have hfz : ∀ (w' : World) (t : Nat), w.grownBy w' (some bb) → True := fun _ _ _ => trivial
  unfold SdPost
  rw [hN]
  have C3 := Lib.hid C2
  have hN20 : N ≤ 20 := by omega
  have hN1 : 1 ≤ N := by omega
  have HN := Lib.hid hN
  have hNi : (N : Int) ≤ 32 := by omega
  have hN0 : (0 : Int) ≤ (N : Int) := by omega
  have hNN : N ≤ 32 := by omega
  clear hn hn1 hlt hN hH C C2 hfz hb _hu hu2
  go_enter Tryz.func188, Tryz.ntmps188
  go_wp2_with (go_at_call 176; (with_reducible refine C3.out.mono ?_); rintro e w' ⟨rfl, hc, hg⟩)
  obtain ⟨W, hW⟩ : ∃ W, W = w' := ⟨_, rfl⟩
  rw [← hW] at hc hg ⊢
  have hcn : ∀ n : Nat, n < N → W.cell? ⟨bb, n, none⟩ = some (.int .u8 ((Lib.dg u (N - 1 - n)).toNat : Int)) := hc
  have HC := Lib.hid hc
  have HG := Lib.hid hg
  have HCN := Lib.hid hcn
  clear hW hc hg hcn
  go_loopw [3] (fun i wr => ∃ n : Nat, n ≤ N ∧ i = .int .i64 n ∧ trimTo u n = trimTo u N ∧ wr = W) (fun i _ => (intOf i).toNat)
  case atStart => exact ⟨N, Nat.le_refl _, rfl, rfl, rfl⟩
  case round =>
    obtain ⟨n, hnN, rfl, hq, rfl⟩ := hrel
    obtain ⟨wx, hwx⟩ : ∃ wx, wx = wr := ⟨_, rfl⟩
    cases n with
    | zero =>
      have hq1 : trimTo u N = 0 := by rw [← hq]; rfl
      have HQ := Lib.hid hq1
      clear hq hq1 hwx
      go_wp2_with fail
      go_ret2
      exact ⟨by rw [HQ.out]; rfl, HC.out, HG.out⟩
    | succ n =>
      have c1 := HCN.out n (by omega)
      have hn0 : (0 : Int) ≤ (n : Int) := by omega
      have hn1 : (n : Int) + 1 ≤ 32 := by omega
      have hn2 : (n : Int) < 32 := by omega
      have ec : ((n + 1 : Nat) : Int) = (n : Int) + 1 := by omega
      have et : trimTo u (n + 1) = if Lib.dg u (Lib.nDigits u - 1 - n) = 48 then trimTo u n else n + 1 := rfl
      rw [HN.out] at et
      rw [ec]
      obtain ⟨b, hb⟩ : ∃ b, Lib.dg u (N - 1 - n) = b := ⟨_, rfl⟩
      rw [hb] at c1 et
      have hb0 : (0 : Int) ≤ (b.toNat : Int) := by omega
      by_cases h48 : b = 48
      · rw [if_pos h48] at et
        have hq2 : trimTo u n = trimTo u N := by rw [← et]; exact hq
        have e48 : ((b.toNat : Int) == 48) = true := by rw [h48]; rfl
        have HQ := Lib.hid hq2
        clear hq hq2 et hb ec h48 hwx
        go_wp2_with fail
        exact ⟨⟨n, by omega, rfl, HQ.out, trivial⟩, by show ((n : Int)).toNat < ((n : Int) + 1).toNat; omega⟩
      · rw [if_neg h48] at et
        have hq2 : trimTo u N = n + 1 := by rw [← hq]; exact et
        have e48 : ((b.toNat : Int) == 48) = false := by
          rw [beq_eq_false_iff_ne]
          intro h
          exact h48 (UInt8.toNat_inj.1 (by have : (48 : UInt8).toNat = 48 := rfl; omega))
        have HQ := Lib.hid hq2
        clear hq hq2 et hb ec h48 hwx
        go_wp2_with fail
        go_ret2
        exact ⟨by rw [HQ.out]; rfl, HC.out, HG.out⟩
end Go.Proofs.YtcbgkbidgpemfaaGreatDoor.prnw

/- A row of bytes that grows: what an append leaves. No conditions but those stated. -/
namespace Go.Proofs.YtcbgkbidgpemfaaGreatDoor.prnw
open Go.RowKit
open Go.Shelf
open Go.Sort
open Go.Proofs.YtcbgkbidgpemfaaGreatDoor.nodew
open Go.Proofs.YtcbgkbidgpemfaaGreatDoor.chkw

theorem u8Info : (Tryz.prog.info? 5).map (fun i => (i.zero, i.size, i.bytes)) = some (some (.int .u8 0), 1, 1) := by kernel_rfl
/-- a row of bytes of the call's own, in block g -/
def Buf (w : World) (base g cap : Nat) (l : List UInt8) : Prop := w.ownsRow base 5 1 (.slice (some ⟨g, 0, none⟩) l.length cap) l.length (l.map bV)
theorem bV_one (l : List UInt8) : ∀ u ∈ l.map bV, u.oneCell' = true := by
  intro u hu
  obtain ⟨b, _, rfl⟩ := List.mem_map.1 hu
  rfl
theorem Buf.lt {w : World} {base g cap : Nat} {l : List UInt8} (h : Buf w base g cap l) : base ≤ g ∧ g < w.heap.size := World.ownsRow.lt h g rfl
/-- bytes are put behind -/
theorem wl_app8 {ops : Array Oper} {rest : List Oper} {o : Oper} {a : Act} {w : World} {Q : Exit → Act → World → Prop} (hgd : o.guard = none) (s x : Operand)
    (ho : o.op = .call { callee := .builtin .append, args := #[s, x], argTypes := #[92, 92] }) (base g cap : Nat) (l : List UInt8) (hs : a.eval s = .slice (some ⟨g, 0, none⟩) l.length cap) (hown : Buf w base g cap l)
    (ad : Addr) (m c : Nat) (news : List UInt8) (hx : a.eval x = .slice (some ad) m c) (hm : news.length = m) (hm0 : 0 < m) (hnews : ∀ j b, news[j]? = some b → w.cell? (ad.add j) = some (bV b)) (hlen : l.length + m ≤ 1000) (hbase : base ≤ w.heap.size)
    (h : ∀ g' cap' w', Buf w' base g' cap' (l ++ news) → w.grownBy w' (some g) → (g' = g ∨ g' = w.heap.size) → wpList Tryz.prog ops Q rest (a.put o.dst (.slice (some ⟨g', 0, none⟩) (l ++ news).length cap')) w') :
    wpList Tryz.prog ops Q (o :: rest) a w := by
  obtain ⟨i0, hi, hz1, hz2, hz3⟩ := info_parts u8Info
  refine wpList_append_lies w hgd s x 92 ho base 5 i0 _ 1 1 Tryz.underlying92 hi hz1 hz2 hz3 rfl (by decide) _ _ _ hs hown ad m c (news.map bV) hx (by rw [List.length_map, hm]; omega) (fun j u hu => ?_) (bV_one _) hm0 (by unfold maxLen; omega) (by omega) hbase _ rfl ?_
  · rw [List.getElem?_map, Option.map_eq_some_iff] at hu
    obtain ⟨b, hb, rfl⟩ := hu
    exact hnews j b hb
  · intro g' cap' w' how hg hgg _
    have e : l.length + m = (l ++ news).length := by rw [List.length_append, hm]
    rw [e, ← List.map_append] at how
    rw [e]
    refine h g' cap' w' how hg ?_
    rcases hgg with h1 | h1
    · exact .inl (Option.some.inj h1).symm
    · exact .inr h1
/-- the row grows, the digits' block bb and what lies below base stay as in w0 -/
structure St (w0 : World) (base bb : Nat) (w : World) (g cap : Nat) (l : List UInt8) : Prop where
  buf : Buf w base g cap l
  ne : g ≠ bb
  blk : w.heap[bb]? = w0.heap[bb]?
  below : Below base w0 w
  le : base ≤ w0.heap.size
  lt : bb < w0.heap.size
theorem cells_new8 (W : World) (news : List UInt8) (t : TypeId) : ∀ j b, news[j]? = some b → (W.alloc (.cells (news.map bV).toArray t)).cell? ((⟨W.heap.size, 0, none⟩ : Addr).add j) = some (bV b) := by
  intro j b hb
  have hadd : (⟨W.heap.size, 0, none⟩ : Addr).add j = ⟨W.heap.size, j, none⟩ := by unfold Addr.add; split <;> simp_all
  rw [hadd, cell_of_row _ _ j _ _ _ (heap_alloc_new W _)]
  simp [hb]
/-- single bytes are put behind -/
theorem wl_put8 {ops : Array Oper} {rest : List Oper} {o : Oper} {a : Act} {W : World} {Q : Exit → Act → World → Prop} {w0 : World} {base bb g cap : Nat} {l : List UInt8} (hS : St w0 base bb W g cap l) (hgd : o.guard = none) (s x : Operand)
    (ho : o.op = .call { callee := .builtin .append, args := #[s, x], argTypes := #[92, 92] }) (news : List UInt8) (m : Nat) (vals : Array Value) (hv : vals = (news.map bV).toArray) (hm : news.length = m) (hm0 : 0 < m) (L : Nat) (hL : l.length = L) (hlen : L + m ≤ 1000)
    (hs : a.eval s = .slice (some ⟨g, 0, none⟩) L cap) (hx : a.eval x = .slice (some ⟨W.heap.size, 0, none⟩) m m)
    (h : ∀ g' cap' w', St w0 base bb w' g' cap' (l ++ news) → wpList Tryz.prog ops Q rest (a.put o.dst (.slice (some ⟨g', 0, none⟩) (L + m) cap')) w') :
    wpList Tryz.prog ops Q (o :: rest) a (W.alloc (.cells vals 5)) := by
  subst hv
  subst hL
  have hsz := hS.below.size
  have hle := hS.le
  have hlt := hS.lt
  have hg := hS.buf.lt
  refine wl_app8 hgd s x ho base g cap l hs (World.ownsRow.alloc hS.buf _) ⟨W.heap.size, 0, none⟩ m m news hx hm hm0 (cells_new8 W news _) hlen (by simp; omega) fun g' cap' w' hb hgr hgg => ?_
  have hne := hS.ne
  rw [List.length_append, hm]
  refine h g' cap' w' ⟨hb, ?_, ?_, ?_, hS.le, hS.lt⟩
  · rcases hgg with rfl | rfl
    · exact hne
    · simp; omega
  · rw [hgr.block bb (by simp; omega) (fun e => hS.ne (Option.some.inj e).symm), Below.heap_alloc _ _ _ (by omega)]
    exact hS.blk
  · exact (hS.below.alloc (by omega) _).grown hgr (by simp; omega) (fun k e => by obtain rfl := Option.some.inj e; exact hg.1)
/-- a piece of the digits is put behind -/
theorem wl_digs8 {ops : Array Oper} {rest : List Oper} {o : Oper} {a : Act} {W : World} {Q : Exit → Act → World → Prop} {w0 : World} {base bb g cap : Nat} {l : List UInt8} (hS : St w0 base bb W g cap l) (hgd : o.guard = none) (s x : Operand)
    (ho : o.op = .call { callee := .builtin .append, args := #[s, x], argTypes := #[92, 92] }) (news : List UInt8) (off m c : Nat) (hm : news.length = m) (hm0 : 0 < m) (L : Nat) (hL : l.length = L) (hlen : L + m ≤ 1000) (hd : ∀ j b, news[j]? = some b → w0.cell? ⟨bb, off + j, none⟩ = some (bV b))
    (hs : a.eval s = .slice (some ⟨g, 0, none⟩) L cap) (hx : a.eval x = .slice (some ⟨bb, off, none⟩) m c)
    (h : ∀ g' cap' w', St w0 base bb w' g' cap' (l ++ news) → wpList Tryz.prog ops Q rest (a.put o.dst (.slice (some ⟨g', 0, none⟩) (L + m) cap')) w') :
    wpList Tryz.prog ops Q (o :: rest) a W := by
  subst hL
  have hsz := hS.below.size
  have hle := hS.le
  have hlt := hS.lt
  have hg := hS.buf.lt
  refine wl_app8 hgd s x ho base g cap l hs hS.buf ⟨bb, off, none⟩ m c news hx hm hm0 (fun j b hb => ?_) hlen (by omega) fun g' cap' w' hb hgr hgg => ?_
  · have hadd : (⟨bb, off, none⟩ : Addr).add j = ⟨bb, off + j, none⟩ := by unfold Addr.add; split <;> simp_all
    rw [hadd, World.cell?_of_block (w := w0) (a := ⟨bb, off + j, none⟩) hS.blk]
    exact hd j b hb
  · have hne := hS.ne
    rw [List.length_append, hm]
    refine h g' cap' w' ⟨hb, ?_, ?_, ?_, hS.le, hS.lt⟩
    · rcases hgg with rfl | rfl
      · exact hne
      · omega
    · rw [hgr.block bb (by omega) (fun e => hS.ne (Option.some.inj e).symm)]
      exact hS.blk
    · exact hS.below.grown hgr (by omega) (fun k e => by obtain rfl := Option.some.inj e; exact hg.1)
end Go.Proofs.YtcbgkbidgpemfaaGreatDoor.prnw
