/- Slices of nodes that come in; what an append of them does. Conditions: as each theorem states. -/
import Derived.Test.YtgblgolkajdfbaaGreatDoorAwl
import Derived.Laws.OwnMore
namespace Go.Proofs.YtgblgolkajdfbaaGreatDoor.chkw
open Go.RowKit
open Go.Proofs.YtgblgolkajdfbaaGreatDoor.lexw
open Go.Proofs.YtgblgolkajdfbaaGreatDoor.parw
open Go.Proofs.YtgblgolkajdfbaaGreatDoor.nodew
open Go.Proofs.YtgblgolkajdfbaaGreatDoor.qt

/-- a slice of nodes, in a block below B, no longer than its capacity -/
def NArg (W : World) (B : Nat) (v : Value) (l : List Nd) : Prop :=
  ∃ A c, v = .slice A l.length c ∧ l.length ≤ c ∧ (A = none → c = 0) ∧ (l ≠ [] → ∃ g off, A = some ⟨g, off, none⟩ ∧ g < B ∧ g < W.heap.size ∧ ∀ j u, (ncells l)[j]? = some u → W.cell? ⟨g, off + j, none⟩ = some u)
theorem NArg.keep {W W' : World} {B : Nat} {v : Value} {l : List Nd} (h : NArg W B v l) (hz : W.heap.size ≤ W'.heap.size) (hg : ∀ g, g < B → g < W.heap.size → W'.heap[g]? = W.heap[g]?) : NArg W' B v l := by
  obtain ⟨A, c, hv, hc, hn, hx⟩ := h
  refine ⟨A, c, hv, hc, hn, fun h0 => ?_⟩
  obtain ⟨g, off, hA, hB, hl, hx⟩ := hx h0
  exact ⟨g, off, hA, hB, by omega, fun j u hu => (World.cell?_of_block (a := ⟨g, off + j, none⟩) (hg g hB hl)).trans (hx j u hu)⟩
theorem NArg.ext {W u : World} {B : Nat} {v : Value} {l : List Nd} (h : NArg W B v l) (hb : Below W.heap.size W u) : NArg u B v l := h.keep hb.size fun g _ hg => hb.block g hg
theorem NArg.mono {W : World} {B B' : Nat} {v : Value} {l : List Nd} (h : NArg W B v l) (hb : B ≤ B') : NArg W B' v l := by
  obtain ⟨A, c, hv, hc, hn, hx⟩ := h
  refine ⟨A, c, hv, hc, hn, fun h0 => ?_⟩
  obtain ⟨g, off, hA, hB, r⟩ := hx h0
  exact ⟨g, off, hA, by omega, r⟩
theorem NArg.read {W : World} {B : Nat} {v : Value} {l : List Nd} (h : NArg W B v l) : NRead W B v l := by
  obtain ⟨A, c, hv, hc, hn, hx⟩ := h
  exact ⟨A, c, hv, hx⟩
theorem NArg.of_own {W : World} {base : Nat} {v : Value} {l : List Nd} (h : W.ownsRow base 25 19 v l.length (ncells l)) : NArg W W.heap.size v l := by
  rcases h.2 with ⟨rfl, hn⟩ | ⟨g, cap, cur, rfl, _, hgg, hc, _⟩
  · exact ⟨none, 0, by rw [hn], by omega, fun _ => rfl, fun h0 => absurd (List.eq_nil_of_length_eq_zero hn) h0⟩
  · refine ⟨_, cap, rfl, hc, fun h => by simp at h, fun _ => ⟨g, 0, rfl, (Array.getElem?_eq_some_iff.1 hgg).1, (Array.getElem?_eq_some_iff.1 hgg).1, fun j u hu => ?_⟩⟩
    have hc := h.cells (g := g) rfl j u hu
    have hadd : (⟨g, 0, none⟩ : Addr).add j = ⟨g, j, none⟩ := by unfold Addr.add; split <;> simp_all
    rw [hadd] at hc
    rw [Nat.zero_add]
    exact hc
theorem NArg.one (w : World) (n : Nd) (u : World) (hu : u.heap[w.heap.size]? = some (.cells n.cells.toArray 25 (0, 0))) : NArg u u.heap.size (.slice (some ⟨w.heap.size, 0, none⟩) 1 1) [n] := by
  have hl := (Array.getElem?_eq_some_iff.1 hu).1
  refine ⟨_, 1, rfl, Nat.le_refl _, fun h => by simp at h, fun _ => ⟨w.heap.size, 0, rfl, hl, hl, fun j v hv => ?_⟩⟩
  rw [cell_of_row u w.heap.size _ _ _ _ hu, Nat.zero_add]
  simpa [ncells] using hv
theorem ncells_len (l : List Nd) : (ncells l).length = l.length * 19 := by
  induction l with
  | nil => rfl
  | cons a r ih => show (a.cells ++ ncells r).length = _; rw [List.length_append, ih, nd_cells_len, List.length_cons]; omega
theorem ncells_one (l : List Nd) : ∀ u ∈ ncells l, u.oneCell' = true := by
  intro u hu
  obtain ⟨n, _, hn⟩ := List.mem_flatMap.1 hu
  exact nd_one' n u hn
theorem ncells_app (l m : List Nd) : ncells (l ++ m) = ncells l ++ ncells m := by simp [ncells]

theorem app_run {w : World} (base : Nat) (v : Value) (n : Nat) (xs : List Value) (hown : w.ownsRow base 25 19 v n xs)
    (B : Nat) (sv : Value) (l : List Nd) (hr : NArg w B sv l) (hn : n + l.length ≤ 1000000) (hbase : base ≤ w.heap.size) :
    ∃ v' w', (∀ (o : Oper) (a : Act) (s x : Operand), o.op = .call { callee := .builtin .append, args := #[s, x], argTypes := #[26, 26] } → a.eval s = v → a.eval x = sv → (execOp a.eval o).run Tryz.prog w = .ok (.value v') w') ∧
      w'.ownsRow base 25 19 v' (n + l.length) (xs ++ ncells l) ∧ w.grownBy w' v.ownBlock := by
  obtain ⟨i0, hi0, hz0, hz1, hz2⟩ := info_parts nodeInfo
  obtain ⟨A, c, rfl, hc, hnil, hcell⟩ := hr
  cases A with
  | none =>
    have h0 := hnil rfl
    have hl0 : l.length = 0 := by omega
    obtain rfl := List.eq_nil_of_length_eq_zero hl0
    subst h0
    refine ⟨v, w, fun o a s x ho hs hx => ?_, by simpa [ncells] using hown, World.grownBy.refl _ _⟩
    have hrun := run_append_owned_none (P := Tryz.prog) (w := w) base 26 o.type 25 i0 19 Tryz.underlying26 hi0 v n xs hown
    have hx' : a.eval x = .slice none 0 0 := hx
    unfold execOp
    simp only [ho, resolve, invoke, builtin, Sem.run_bind, Sem.run_pure, Result.andThen_ok, List.map_toArray, List.map_cons, List.map_nil, hs, hx', hrun]
  | some ad =>
    obtain ⟨v', w', hrun, h2, h3, _⟩ := run_append_own (P := Tryz.prog) w base 26 0 25 i0 _ 19 152 Tryz.underlying26 hi0 hz0 hz1 hz2 rfl (by omega) v n xs hown ad l.length c (ncells l) (ncells_len l)
      (fun j u hu => by
        obtain ⟨g, off, e, _, _, hx⟩ := hcell (by intro e; subst e; simp [ncells] at hu)
        obtain rfl := Option.some.inj e
        have hadd : (⟨g, off, none⟩ : Addr).add j = ⟨g, off + j, none⟩ := by unfold Addr.add; split <;> simp_all
        rw [hadd]; exact hx j u hu) (ncells_one l) (by unfold maxLen; omega) (by omega) hbase
    refine ⟨v', w', fun o a s x ho hs hx => ?_, h2, h3⟩
    have hrun' : (Builtin.append_ #[26, 26] o.type #[v, .slice (some ad) l.length c]).run Tryz.prog w = .ok v' w' := hrun
    unfold execOp
    simp only [ho, resolve, invoke, builtin, Sem.run_bind, Sem.run_pure, Result.andThen_ok, List.map_toArray, List.map_cons, List.map_nil, hs, hx, hrun']
theorem bs0_run (w : World) : (Instr.buildSlice 26 0 #[]).run Tryz.prog w = .ok (.slice (some ⟨w.heap.size, 0, none⟩) 0 0) (w.alloc (.cells #[] 25)) := by
  kernel_rfl
theorem exec_bs0 {o : Oper} (ho : o.op = .buildSlice 26 0 #[]) (a : Act) (w : World) : (execOp a.eval o).run Tryz.prog w = .ok (.value (.slice (some ⟨w.heap.size, 0, none⟩) 0 0)) (w.alloc (.cells #[] 25)) := by
  unfold execOp
  simp only [ho, Sem.run_bind, List.map_toArray, List.map_nil, bs0_run, Result.andThen_ok, Sem.run_pure]
theorem exec_bs1 {o : Oper} (x : Operand) (ho : o.op = .buildSlice 26 1 #[(0, x)]) (a : Act) (w : World) (n : Nd) (hx : a.eval x = n.val) :
    (execOp a.eval o).run Tryz.prog w = .ok (.value (.slice (some ⟨w.heap.size, 0, none⟩) 1 1)) (w.alloc (.cells n.cells.toArray 25)) := by
  unfold execOp
  simp only [ho, Sem.run_bind, List.map_toArray, List.map_cons, List.map_nil, hx, bs_run, Result.andThen_ok, Sem.run_pure]
theorem own_bs0 (w : World) (base : Nat) (hb : base ≤ w.heap.size) : (w.alloc (.cells #[] 25)).ownsRow base 25 19 (.slice (some ⟨w.heap.size, 0, none⟩) 0 0) 0 [] :=
  own_new w w.heap.size base rfl hb _ 19 0 [] rfl (by decide)

theorem ncells_drop : ∀ (l : List Nd) (k : Nat), ncells (l.drop k) = (ncells l).drop (k * 19)
  | l, 0 => by simp
  | [], k + 1 => by simp [ncells]
  | a :: r, k + 1 => by
    show ncells (r.drop k) = (a.cells ++ ncells r).drop ((k + 1) * 19)
    have h0 : a.cells.drop ((k + 1) * 19) = [] := List.drop_of_length_le (by rw [nd_cells_len]; omega)
    rw [ncells_drop r k, List.drop_append, h0, nd_cells_len, List.nil_append, show (k + 1) * 19 - 19 = k * 19 by omega]
theorem ncells_take : ∀ (l : List Nd) (k j : Nat) (u : Value), (ncells (l.take k))[j]? = some u → (ncells l)[j]? = some u
  | l, 0, j, u, h => by simp [ncells] at h
  | [], k + 1, j, u, h => by simp [ncells] at h
  | a :: r, k + 1, j, u, h => by
    have h' : (a.cells ++ ncells (r.take k))[j]? = some u := h
    show (a.cells ++ ncells r)[j]? = some u
    by_cases hj : j < a.cells.length
    · rw [List.getElem?_append_left hj] at h' ⊢; exact h'
    · rw [List.getElem?_append_right (by omega)] at h' ⊢
      exact ncells_take r k _ u h'
theorem nslice_from (A : Option Addr) (len cap k : Nat) (h : k ≤ len) (wx : World) :
    (Instr.slice 26 (.slice A len cap) (some (.int .i64 (k : Int))) none none).run Tryz.prog wx = .ok (.slice (if cap = k then A else A.map (·.add (k * 19))) (len - k) (cap - k)) wx := by
  have h0 : (0 : Int) ≤ (k : Int) := by omega
  have h1 : (k : Int) ≤ (len : Int) := by omega
  simp [Instr.slice, run_underlying Tryz.underlying26, Instr.sliceBounds, run_sliceBound, h, Tryz.sizeOf25]
theorem nslice_to (A : Option Addr) (len cap k : Nat) (h : k ≤ cap) (wx : World) :
    (Instr.slice 26 (.slice A len cap) none (some (.int .i64 (k : Int))) none).run Tryz.prog wx = .ok (.slice (if cap = 0 then A else A.map (·.add (0 * 19))) k cap) wx := by
  have h0 : (0 : Int) ≤ (k : Int) := by omega
  have h1 : (k : Int) ≤ (cap : Int) := by omega
  simp [Instr.slice, run_underlying Tryz.underlying26, Instr.sliceBounds, run_sliceBound, h, Tryz.sizeOf25]
theorem nd_from {W : World} {B : Nat} {A : Option Addr} {c : Nat} {l : List Nd} (h : NArg W B (.slice A l.length c) l) (k : Nat) (hk : k ≤ l.length) :
    ∃ v', (∀ wx : World, (Instr.slice 26 (.slice A l.length c) (some (.int .i64 (k : Int))) none none).run Tryz.prog wx = .ok v' wx) ∧ NRead W B v' (l.drop k) := by
  refine ⟨_, fun wx => nslice_from A l.length c k hk wx, _, _, by rw [List.length_drop], fun h0 => ?_⟩
  have hkl : k < l.length := by
    rcases Nat.lt_or_ge k l.length with h' | h'
    · exact h'
    · exact absurd (List.drop_of_length_le h') h0
  obtain ⟨A', c', hv, hc, _, hx⟩ := h
  injection hv with e1 e2 e3
  subst e1 e3
  obtain ⟨g, off, rfl, hB, hl, hx⟩ := hx (by intro e; subst e; simp at hkl)
  refine ⟨g, off + k * 19, ?_, hB, hl, fun j u hu => ?_⟩
  · rw [if_neg (by omega)]; simp [Addr.add]
  · rw [Nat.add_assoc]
    refine hx (k * 19 + j) u ?_
    rw [ncells_drop, List.getElem?_drop] at hu
    exact hu
theorem nd_to {W : World} {B : Nat} {A : Option Addr} {c : Nat} {l : List Nd} (h : NArg W B (.slice A l.length c) l) (k : Nat) (hk : k ≤ l.length) :
    ∃ v', (∀ wx : World, (Instr.slice 26 (.slice A l.length c) none (some (.int .i64 (k : Int))) none).run Tryz.prog wx = .ok v' wx) ∧ NRead W B v' (l.take k) := by
  obtain ⟨A', c', hv, hc, _, hx⟩ := h
  injection hv with e1 e2 e3
  subst e1 e3
  have hc0 : k ≤ c := by omega
  refine ⟨_, fun wx => nslice_to A l.length c k hc0 wx, _, _, by rw [List.length_take, Nat.min_eq_left hk], fun h0 => ?_⟩
  have hkl : 0 < k := by
    rcases Nat.eq_zero_or_pos k with h' | h'
    · subst h'; exact absurd rfl h0
    · exact h'
  obtain ⟨g, off, rfl, hB, hl, hx⟩ := hx (by intro e; subst e; simp at hk; omega)
  refine ⟨g, off, ?_, hB, hl, fun j u hu => hx j u (ncells_take l k j u hu)⟩
  rw [if_neg (by omega)]; simp [Addr.add]
theorem box_run (n : Nd) (w : World) : (Instr.box 25 n.val).run Tryz.prog w = .ok (pt w.heap.size 0) (w.alloc (.cells n.cells.toArray 25)) := by
  kernel_rfl
theorem exec_box {o : Oper} (x : Operand) (ho : o.op = .box 25 x) (a : Act) (w : World) (n : Nd) (hx : a.eval x = n.val) : (execOp a.eval o).run Tryz.prog w = .ok (.value (pt w.heap.size 0)) (w.alloc (.cells n.cells.toArray 25)) := by
  unfold execOp
  simp only [ho, Sem.run_bind, hx, box_run, Result.andThen_ok, Sem.run_pure]

end Go.Proofs.YtgblgolkajdfbaaGreatDoor.chkw
