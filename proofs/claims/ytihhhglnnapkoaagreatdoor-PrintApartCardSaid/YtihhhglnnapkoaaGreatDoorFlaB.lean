/- Nodes in memory, as the walks of chapter 20 want them. Conditions: as each theorem states. -/
import Derived.Test.YtihhhglnnapkoaaGreatDoorNodeB
import Derived.Test.YtihhhglnnapkoaaGreatDoorQt
import Derived.Outline
import Derived.Deep.LoopGhost
import Derived.Laws.OwnMore
import Derived.Lib.Hide
import Derived.WalkKit
import Derived.BigQuiet
namespace Go.Proofs.YtihhhglnnapkoaaGreatDoor.chkw
open Go.RowKit
open Go.Proofs.YtihhhglnnapkoaaGreatDoor.nodew
open Go.Proofs.YtihhhglnnapkoaaGreatDoor.words
open Go.Proofs.YtihhhglnnapkoaaGreatDoor.qt
open Go.BigFrame
attribute [local go_sem] nodew.run_store_float

theorem ret_int {k : IntKind} {a b : Int} (h : a = b) : Ending.returned (.int k a) = .returned (.int k b) := by rw [h]
theorem row_form {W : World} {base : Nat} {e : TypeId} {size : Nat} {v : Value} {k : Nat} {xs : List Value} (h : W.ownsRow base e size v k xs) : ∃ a c, v = .slice a k c := by
  rcases h.2 with ⟨rfl, h0⟩ | ⟨g, cap, _, rfl, _⟩
  · subst h0; exact ⟨_, _, rfl⟩
  · exact ⟨_, _, rfl⟩
theorem grown_below {w w' : World} (h : Below w.heap.size w w') (row : Option Nat) : w.grownBy w' row := ⟨h.os, h.tape, h.output, h.size, fun k hk _ => h.block k hk⟩
theorem grown_trans {a b c : World} {row : Option Nat} (h : a.grownBy b row) (k : b.grownBy c row) : a.grownBy c row :=
  ⟨k.os.trans h.os, k.tape.trans h.tape, k.output.trans h.output, Nat.le_trans h.size k.size, fun i hi hr => (k.block i (Nat.lt_of_lt_of_le hi h.size) hr).trans (h.block i hi hr)⟩
theorem heap_set (w : World) (g j : Nat) (cs : Array Value) (t : TypeId) (fr : Nat × Nat) (v : Value) (h : w.heap[g]? = some (.cells cs t fr)) :
    (w.setCell ⟨g, j, none⟩ v).heap[g]? = some (.cells (cs.setIfInBounds j v) t fr) := by
  obtain ⟨hlt, hk⟩ := Array.getElem?_eq_some_iff.1 h
  show (w.heap.modify g _)[g]? = _
  rw [Array.getElem?_eq_getElem (by rw [Array.size_modify]; exact hlt), Array.getElem_modify_self, hk]
  simp
theorem below_of_grown {w w' : World} (h : w.grownBy w' none) : Below w.heap.size w w' := ⟨h.os, h.tape, h.output, h.size, fun k hk => h.block k hk (by simp)⟩
theorem own_ne {W : World} {b1 b2 e1 e2 s1 s2 n1 n2 : Nat} {v1 v2 : Value} {x1 x2 : List Value} (h1 : W.ownsRow b1 e1 s1 v1 n1 x1) (h2 : W.ownsRow b2 e2 s2 v2 n2 x2) (he : e1 ≠ e2) : v1.ownBlock = none ∨ v1.ownBlock ≠ v2.ownBlock := by
  rcases h1.2 with ⟨rfl, _⟩ | ⟨g, cap, cur, rfl, hb, hh, _⟩
  · exact .inl rfl
  · refine .inr fun e => ?_
    rcases h2.2 with ⟨rfl, _⟩ | ⟨g', cap', cur', rfl, hb', hh', _⟩
    · cases e
    · have : g = g' := by simpa [Value.ownBlock] using e
      subst this
      rw [hh] at hh'
      injection hh' with hh'
      injection hh' with _ h _
      exact he h
theorem heap_at (w : World) (o : Obj) (k : Nat) (h : w.heap.size = k) : (w.alloc o).heap[k]? = some o := by subst h; exact heap_alloc_new w o
/-- a slice of one node -/
theorem bs_run (n : Nd) (w : World) : (Instr.buildSlice 22 1 #[(0, n.val)]).run Tryz.prog w = .ok (.slice (some ⟨w.heap.size, 0, none⟩) 1 1) (w.alloc (.cells n.cells.toArray 31)) := by
  unfold Nd.val Nd.cells
  kernel_rfl
theorem nblk_store {w : World} {nb : Nat} {n n' : Nd} (h : NBlk w nb n) (j : Nat) (v : Value) (hc : n'.cells = n.cells.set j v) : NBlk (w.setCell ⟨nb, j, none⟩ v) nb n' := by
  obtain ⟨hlt, hk⟩ := Array.getElem?_eq_some_iff.1 h
  show (w.heap.modify nb _)[nb]? = _
  rw [Array.getElem?_eq_getElem (by rw [Array.size_modify]; exact hlt), Array.getElem_modify_self, hk, hc]
  simp
/-- a whole node is read in a drawn region -/
theorem quiet_load_nd {C : World → Prop} {ops : Array Oper} {o : Oper} {rest : List Oper} {a : Act} {Q : Act → Prop} (hgd : o.guard = none) (x : Operand) (ho : o.op = .load 31 x) (g : Nat) (hx : a.eval x = .pointer (some ⟨g, 0, none⟩)) (n : Nd) (hg : ∀ w, C w → NBlk w g n)
    (h : wpQuiet Tryz.prog ops C Q rest (a.put o.dst n.val)) : wpQuiet Tryz.prog ops C Q (o :: rest) a := by
  refine wpQuiet_want (by simp [Region.wanted, hgd]) fun K hK => ⟨n.val, ?_, hK _ h⟩
  intro w' hw'
  unfold Oper.quietAt execOp
  simp only [ho, hx, (hg w' hw').loadAt, Sem.run_bind, Sem.run_pure, Result.andThen_ok, Oper.quietUpon]
  exact ⟨trivial, trivial⟩
theorem ncells_snoc (l : List Nd) (n : Nd) : ncells (l ++ [n]) = ncells l ++ n.cells := by simp [ncells]
theorem nodeInfo : (Tryz.prog.info? 31).map (fun i => (i.zero, i.size, i.bytes)) = some (some (.agg #[.int .u8 0, .float .f64 0, .float .f64 0, .float .f64 0, .float .f64 0, .float .f64 0, .float .f64 0, .float .f64 0, .float .f64 0, .float .f64 0, .float .f64 0, .float .f64 0, .float .f64 0, .float .f64 0, .float .f64 0, .float .f64 0, .float .f64 0, .int .i64 0, .int .i64 0]), 19, 152) := by kernel_rfl
theorem nd_one' (n : Nd) : ∀ u ∈ n.cells, u.oneCell' = true := by
  intro u hu
  have := Array.all_eq_true_iff_forall_mem.1 (nd_one n) u (by simpa using hu)
  exact this
theorem own_of {W W' : World} {base e k n : Nat} {v : Value} {xs : List Value} (h : W.ownsRow base e k v n xs) (hk : ∀ b, base ≤ b → W'.heap[b]? = W.heap[b]?) : W'.ownsRow base e k v n xs := by
  refine ⟨h.1, ?_⟩
  rcases h.2 with h0 | ⟨g, cap, cur, hv, hg, hh, r⟩
  · exact .inl h0
  · exact .inr ⟨g, cap, cur, hv, hg, (hk g hg).trans hh, r⟩
theorem own_lt {W : World} {base e k n : Nat} {v : Value} {xs : List Value} (h : W.ownsRow base e k v n xs) {r : Nat} (hr : v.ownBlock = some r) : r < W.heap.size := by
  rcases h.2 with ⟨rfl, _⟩ | ⟨g, cap, cur, rfl, _, hh, _⟩
  · cases hr
  · cases hr; exact (Array.getElem?_eq_some_iff.1 hh).1
/-- an operation that yields a value -/
theorem wl_val {P : Program} {ops : Array Oper} {rest : List Oper} {o : Oper} {a : Act} {w w' : World} {Q : Exit → Act → World → Prop} (hgd : o.guard = none) (v : Value) (hr : (execOp a.eval o).run P w = .ok (.value v) w')
    (h : wpList P ops Q rest (a.put o.dst v) w') : wpList P ops Q (o :: rest) a w :=
  wpList_plain hgd fun K hK => by
    unfold Oper.wp
    rw [hr]
    exact hK _ _ h
theorem wl_bs {ops : Array Oper} {rest : List Oper} {o : Oper} {a : Act} {w : World} {Q : Exit → Act → World → Prop} (hgd : o.guard = none) (x : Operand) (ho : o.op = .buildSlice 22 1 #[(0, x)]) (n : Nd) (hx : a.eval x = .agg n.cells.toArray)
    (h : wpList Tryz.prog ops Q rest (a.put o.dst (.slice (some ⟨w.heap.size, 0, none⟩) 1 1)) (w.alloc (.cells n.cells.toArray 31))) : wpList Tryz.prog ops Q (o :: rest) a w := by
  refine wl_val hgd _ ?_ h
  have hb : (Instr.buildSlice 22 1 #[(0, .agg n.cells.toArray)]).run Tryz.prog w = .ok (.slice (some ⟨w.heap.size, 0, none⟩) 1 1) (w.alloc (.cells n.cells.toArray 31)) := bs_run n w
  unfold execOp
  simp only [ho, Sem.run_bind, List.map_toArray, List.map_cons, List.map_nil, hx, hb, Result.andThen_ok, Sem.run_pure]
/-- a slice of nodes, in a block below B, no longer than its capacity -/
def NArg (W : World) (B : Nat) (v : Value) (l : List Nd) : Prop :=
  ∃ A c, v = .slice A l.length c ∧ l.length ≤ c ∧ (A = none → c = 0) ∧ (l ≠ [] → ∃ g off, A = some ⟨g, off, none⟩ ∧ g < B ∧ g < W.heap.size ∧ ∀ j u, (ncells l)[j]? = some u → W.cell? ⟨g, off + j, none⟩ = some u)
theorem NArg.keep {W W' : World} {B : Nat} {v : Value} {l : List Nd} (h : NArg W B v l) (hz : W.heap.size ≤ W'.heap.size) (hg : ∀ g, g < B → g < W.heap.size → W'.heap[g]? = W.heap[g]?) : NArg W' B v l := by
  obtain ⟨A, c, hv, hc, hn, hx⟩ := h
  refine ⟨A, c, hv, hc, hn, fun h0 => ?_⟩
  obtain ⟨g, off, hA, hB, hl, hx⟩ := hx h0
  exact ⟨g, off, hA, hB, by omega, fun j u hu => (World.cell?_of_block (a := ⟨g, off + j, none⟩) (hg g hB hl)).trans (hx j u hu)⟩
theorem NArg.ext {W u : World} {B : Nat} {v : Value} {l : List Nd} (h : NArg W B v l) (hb : Below W.heap.size W u) : NArg u B v l := h.keep hb.size fun g _ hg => hb.block g hg
theorem NArg.mono {W : World} {B B' : Nat} {v : Value} {l : List Nd} (h : NArg W B v l) (hb : B ≤ B') : NArg W B' v l := by
  obtain ⟨A, c, hv, hc, hn, hx⟩ := h
  refine ⟨A, c, hv, hc, hn, fun h0 => ?_⟩
  obtain ⟨g, off, hA, hB, r⟩ := hx h0
  exact ⟨g, off, hA, by omega, r⟩
theorem NArg.read {W : World} {B : Nat} {v : Value} {l : List Nd} (h : NArg W B v l) : NRead W B v l := by
  obtain ⟨A, c, hv, hc, hn, hx⟩ := h
  exact ⟨A, c, hv, hx⟩
theorem NArg.of_own {W : World} {base : Nat} {v : Value} {l : List Nd} (h : W.ownsRow base 31 19 v l.length (ncells l)) : NArg W W.heap.size v l := by
  rcases h.2 with ⟨rfl, hn⟩ | ⟨g, cap, cur, rfl, _, hgg, hc, _⟩
  · exact ⟨none, 0, by rw [hn], by omega, fun _ => rfl, fun h0 => absurd (List.eq_nil_of_length_eq_zero hn) h0⟩
  · refine ⟨_, cap, rfl, hc, fun h => by simp at h, fun _ => ⟨g, 0, rfl, (Array.getElem?_eq_some_iff.1 hgg).1, (Array.getElem?_eq_some_iff.1 hgg).1, fun j u hu => ?_⟩⟩
    have hc := h.cells (g := g) rfl j u hu
    have hadd : (⟨g, 0, none⟩ : Addr).add j = ⟨g, j, none⟩ := by unfold Addr.add; split <;> simp_all
    rw [hadd] at hc
    rw [Nat.zero_add]
    exact hc
theorem NArg.one (w : World) (n : Nd) (u : World) (hu : u.heap[w.heap.size]? = some (.cells n.cells.toArray 31 (0, 0))) : NArg u u.heap.size (.slice (some ⟨w.heap.size, 0, none⟩) 1 1) [n] := by
  have hl := (Array.getElem?_eq_some_iff.1 hu).1
  refine ⟨_, 1, rfl, Nat.le_refl _, fun h => by simp at h, fun _ => ⟨w.heap.size, 0, rfl, hl, hl, fun j v hv => ?_⟩⟩
  rw [cell_of_row u w.heap.size _ _ _ _ hu, Nat.zero_add]
  simpa [ncells] using hv
theorem ncells_len (l : List Nd) : (ncells l).length = l.length * 19 := by
  induction l with
  | nil => rfl
  | cons a r ih => show (a.cells ++ ncells r).length = _; rw [List.length_append, ih, nd_cells_len, List.length_cons]; omega
theorem ncells_one (l : List Nd) : ∀ u ∈ ncells l, u.oneCell' = true := by
  intro u hu
  obtain ⟨n, _, hn⟩ := List.mem_flatMap.1 hu
  exact nd_one' n u hn
theorem ncells_app (l m : List Nd) : ncells (l ++ m) = ncells l ++ ncells m := by simp [ncells]

theorem app_run {w : World} (base : Nat) (v : Value) (n : Nat) (xs : List Value) (hown : w.ownsRow base 31 19 v n xs)
    (B : Nat) (sv : Value) (l : List Nd) (hr : NArg w B sv l) (hn : n + l.length ≤ 1000000) (hbase : base ≤ w.heap.size) :
    ∃ v' w', (∀ (o : Oper) (a : Act) (s x : Operand), o.op = .call { callee := .builtin .append, args := #[s, x], argTypes := #[22, 22] } → a.eval s = v → a.eval x = sv → (execOp a.eval o).run Tryz.prog w = .ok (.value v') w') ∧
      w'.ownsRow base 31 19 v' (n + l.length) (xs ++ ncells l) ∧ w.grownBy w' v.ownBlock := by
  obtain ⟨i0, hi0, hz0, hz1, hz2⟩ := info_parts nodeInfo
  obtain ⟨A, c, rfl, hc, hnil, hcell⟩ := hr
  cases A with
  | none =>
    have h0 := hnil rfl
    have hl0 : l.length = 0 := by omega
    obtain rfl := List.eq_nil_of_length_eq_zero hl0
    subst h0
    refine ⟨v, w, fun o a s x ho hs hx => ?_, by simpa [ncells] using hown, World.grownBy.refl _ _⟩
    have hrun := run_append_owned_none (P := Tryz.prog) (w := w) base 22 o.type 31 i0 19 Tryz.underlying22 hi0 v n xs hown
    have hx' : a.eval x = .slice none 0 0 := hx
    unfold execOp
    simp only [ho, resolve, invoke, builtin, Sem.run_bind, Sem.run_pure, Result.andThen_ok, List.map_toArray, List.map_cons, List.map_nil, hs, hx', hrun]
  | some ad =>
    obtain ⟨v', w', hrun, h2, h3, _⟩ := run_append_own (P := Tryz.prog) w base 22 0 31 i0 _ 19 152 Tryz.underlying22 hi0 hz0 hz1 hz2 rfl (by omega) v n xs hown ad l.length c (ncells l) (ncells_len l)
      (fun j u hu => by
        obtain ⟨g, off, e, _, _, hx⟩ := hcell (by intro e; subst e; simp [ncells] at hu)
        obtain rfl := Option.some.inj e
        have hadd : (⟨g, off, none⟩ : Addr).add j = ⟨g, off + j, none⟩ := by unfold Addr.add; split <;> simp_all
        rw [hadd]; exact hx j u hu) (ncells_one l) (by unfold maxLen; omega) (by omega) hbase
    refine ⟨v', w', fun o a s x ho hs hx => ?_, h2, h3⟩
    have hrun' : (Builtin.append_ #[22, 22] o.type #[v, .slice (some ad) l.length c]).run Tryz.prog w = .ok v' w' := hrun
    unfold execOp
    simp only [ho, resolve, invoke, builtin, Sem.run_bind, Sem.run_pure, Result.andThen_ok, List.map_toArray, List.map_cons, List.map_nil, hs, hx, hrun']
theorem bs0_run (w : World) : (Instr.buildSlice 22 0 #[]).run Tryz.prog w = .ok (.slice (some ⟨w.heap.size, 0, none⟩) 0 0) (w.alloc (.cells #[] 31)) := by
  kernel_rfl
theorem exec_bs0 {o : Oper} (ho : o.op = .buildSlice 22 0 #[]) (a : Act) (w : World) : (execOp a.eval o).run Tryz.prog w = .ok (.value (.slice (some ⟨w.heap.size, 0, none⟩) 0 0)) (w.alloc (.cells #[] 31)) := by
  unfold execOp
  simp only [ho, Sem.run_bind, List.map_toArray, List.map_nil, bs0_run, Result.andThen_ok, Sem.run_pure]
theorem exec_bs1 {o : Oper} (x : Operand) (ho : o.op = .buildSlice 22 1 #[(0, x)]) (a : Act) (w : World) (n : Nd) (hx : a.eval x = n.val) :
    (execOp a.eval o).run Tryz.prog w = .ok (.value (.slice (some ⟨w.heap.size, 0, none⟩) 1 1)) (w.alloc (.cells n.cells.toArray 31)) := by
  unfold execOp
  simp only [ho, Sem.run_bind, List.map_toArray, List.map_cons, List.map_nil, hx, bs_run, Result.andThen_ok, Sem.run_pure]
theorem own_bs0 (w : World) (base : Nat) (hb : base ≤ w.heap.size) : (w.alloc (.cells #[] 31)).ownsRow base 31 19 (.slice (some ⟨w.heap.size, 0, none⟩) 0 0) 0 [] :=
  own_new w w.heap.size base rfl hb _ 19 0 [] rfl (by decide)

theorem ncells_drop : ∀ (l : List Nd) (k : Nat), ncells (l.drop k) = (ncells l).drop (k * 19)
  | l, 0 => by simp
  | [], k + 1 => by simp [ncells]
  | a :: r, k + 1 => by
    show ncells (r.drop k) = (a.cells ++ ncells r).drop ((k + 1) * 19)
    have h0 : a.cells.drop ((k + 1) * 19) = [] := List.drop_of_length_le (by rw [nd_cells_len]; omega)
    rw [ncells_drop r k, List.drop_append, h0, nd_cells_len, List.nil_append, show (k + 1) * 19 - 19 = k * 19 by omega]
theorem ncells_take : ∀ (l : List Nd) (k j : Nat) (u : Value), (ncells (l.take k))[j]? = some u → (ncells l)[j]? = some u
  | l, 0, j, u, h => by simp [ncells] at h
  | [], k + 1, j, u, h => by simp [ncells] at h
  | a :: r, k + 1, j, u, h => by
    have h' : (a.cells ++ ncells (r.take k))[j]? = some u := h
    show (a.cells ++ ncells r)[j]? = some u
    by_cases hj : j < a.cells.length
    · rw [List.getElem?_append_left hj] at h' ⊢; exact h'
    · rw [List.getElem?_append_right (by omega)] at h' ⊢
      exact ncells_take r k _ u h'
theorem nslice_from (A : Option Addr) (len cap k : Nat) (h : k ≤ len) (wx : World) :
    (Instr.slice 22 (.slice A len cap) (some (.int .i64 (k : Int))) none none).run Tryz.prog wx = .ok (.slice (if cap = k then A else A.map (·.add (k * 19))) (len - k) (cap - k)) wx := by
  have h0 : (0 : Int) ≤ (k : Int) := by omega
  have h1 : (k : Int) ≤ (len : Int) := by omega
  simp [Instr.slice, run_underlying Tryz.underlying22, Instr.sliceBounds, run_sliceBound, h, Tryz.sizeOf31]
theorem nslice_to (A : Option Addr) (len cap k : Nat) (h : k ≤ cap) (wx : World) :
    (Instr.slice 22 (.slice A len cap) none (some (.int .i64 (k : Int))) none).run Tryz.prog wx = .ok (.slice (if cap = 0 then A else A.map (·.add (0 * 19))) k cap) wx := by
  have h0 : (0 : Int) ≤ (k : Int) := by omega
  have h1 : (k : Int) ≤ (cap : Int) := by omega
  simp [Instr.slice, run_underlying Tryz.underlying22, Instr.sliceBounds, run_sliceBound, h, Tryz.sizeOf31]
theorem nd_from {W : World} {B : Nat} {A : Option Addr} {c : Nat} {l : List Nd} (h : NArg W B (.slice A l.length c) l) (k : Nat) (hk : k ≤ l.length) :
    ∃ v', (∀ wx : World, (Instr.slice 22 (.slice A l.length c) (some (.int .i64 (k : Int))) none none).run Tryz.prog wx = .ok v' wx) ∧ NRead W B v' (l.drop k) := by
  refine ⟨_, fun wx => nslice_from A l.length c k hk wx, _, _, by rw [List.length_drop], fun h0 => ?_⟩
  have hkl : k < l.length := by
    rcases Nat.lt_or_ge k l.length with h' | h'
    · exact h'
    · exact absurd (List.drop_of_length_le h') h0
  obtain ⟨A', c', hv, hc, _, hx⟩ := h
  injection hv with e1 e2 e3
  subst e1 e3
  obtain ⟨g, off, rfl, hB, hl, hx⟩ := hx (by intro e; subst e; simp at hkl)
  refine ⟨g, off + k * 19, ?_, hB, hl, fun j u hu => ?_⟩
  · rw [if_neg (by omega)]; simp [Addr.add]
  · rw [Nat.add_assoc]
    refine hx (k * 19 + j) u ?_
    rw [ncells_drop, List.getElem?_drop] at hu
    exact hu
theorem nd_to {W : World} {B : Nat} {A : Option Addr} {c : Nat} {l : List Nd} (h : NArg W B (.slice A l.length c) l) (k : Nat) (hk : k ≤ l.length) :
    ∃ v', (∀ wx : World, (Instr.slice 22 (.slice A l.length c) none (some (.int .i64 (k : Int))) none).run Tryz.prog wx = .ok v' wx) ∧ NRead W B v' (l.take k) := by
  obtain ⟨A', c', hv, hc, _, hx⟩ := h
  injection hv with e1 e2 e3
  subst e1 e3
  have hc0 : k ≤ c := by omega
  refine ⟨_, fun wx => nslice_to A l.length c k hc0 wx, _, _, by rw [List.length_take, Nat.min_eq_left hk], fun h0 => ?_⟩
  have hkl : 0 < k := by
    rcases Nat.eq_zero_or_pos k with h' | h'
    · subst h'; exact absurd rfl h0
    · exact h'
  obtain ⟨g, off, rfl, hB, hl, hx⟩ := hx (by intro e; subst e; simp at hk; omega)
  refine ⟨g, off, ?_, hB, hl, fun j u hu => hx j u (ncells_take l k j u hu)⟩
  rw [if_neg (by omega)]; simp [Addr.add]
theorem box_run (n : Nd) (w : World) : (Instr.box 31 n.val).run Tryz.prog w = .ok (pt w.heap.size 0) (w.alloc (.cells n.cells.toArray 31)) := by
  kernel_rfl
theorem exec_box {o : Oper} (x : Operand) (ho : o.op = .box 31 x) (a : Act) (w : World) (n : Nd) (hx : a.eval x = n.val) : (execOp a.eval o).run Tryz.prog w = .ok (.value (pt w.heap.size 0)) (w.alloc (.cells n.cells.toArray 31)) := by
  unfold execOp
  simp only [ho, Sem.run_bind, hx, box_run, Result.andThen_ok, Sem.run_pure]

theorem NArg.form {W : World} {B : Nat} {v : Value} {l : List Nd} (h : NArg W B v l) : ∃ A c, v = .slice A l.length c := by
  obtain ⟨A, c, hv, _⟩ := h
  exact ⟨A, c, hv⟩
theorem wl_val_g {P : Program} {ops : Array Oper} {rest : List Oper} {o : Oper} {a : Act} {w w' : World} {Q : Exit → Act → World → Prop} (hgd : Region.wanted o (yielded ops a.tmps) = true) (v : Value) (hr : (execOp a.eval o).run P w = .ok (.value v) w')
    (h : wpList P ops Q rest (a.put o.dst v) w') : wpList P ops Q (o :: rest) a w :=
  wpList_wanted w hgd fun K hK => by
    unfold Oper.wp
    rw [hr]
    exact hK _ _ h
theorem wl_load_nd {ops : Array Oper} {rest : List Oper} {o : Oper} {a : Act} {w : World} {Q : Exit → Act → World → Prop} (hgd : o.guard = none) (x : Operand) (ho : o.op = .load 31 x) (ad : Value) (hx : a.eval x = ad) (n : Nd)
    (hl : (Instr.loadAt 31 ad).run Tryz.prog w = .ok n.val w) (h : wpList Tryz.prog ops Q rest (a.put o.dst n.val) w) : wpList Tryz.prog ops Q (o :: rest) a w := by
  refine wl_val hgd _ ?_ h
  unfold execOp
  simp only [ho, hx, hl, Sem.run_bind, Sem.run_pure, Result.andThen_ok]
theorem nilArg (W : World) (B : Nat) : NRead W B (.slice none 0 0) [] := ⟨none, 0, rfl, fun h => absurd rfl h⟩
theorem NRead.of_own {W : World} {base : Nat} {v : Value} {l : List Nd} (h : W.ownsRow base 31 19 v l.length (ncells l)) : NRead W W.heap.size v l := by
  rcases h.2 with ⟨rfl, hn⟩ | ⟨g, cap, cur, rfl, _, hgg, _⟩
  · exact ⟨_, _, by rw [hn], fun h0 => absurd (List.eq_nil_of_length_eq_zero hn) h0⟩
  · refine ⟨_, _, rfl, fun _ => ⟨g, 0, rfl, (Array.getElem?_eq_some_iff.1 hgg).1, (Array.getElem?_eq_some_iff.1 hgg).1, fun j u hu => ?_⟩⟩
    have hc := h.cells (g := g) rfl j u hu
    have hadd : (⟨g, 0, none⟩ : Addr).add j = ⟨g, j, none⟩ := by unfold Addr.add; split <;> simp_all
    rw [hadd] at hc
    rw [Nat.zero_add]
    exact hc
end Go.Proofs.YtihhhglnnapkoaaGreatDoor.chkw
