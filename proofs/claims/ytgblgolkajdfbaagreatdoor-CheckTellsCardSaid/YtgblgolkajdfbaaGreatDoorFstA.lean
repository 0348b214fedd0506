/- Slices of statements that come in; what an append of them does; what the row reads of them. Conditions: as each theorem states. -/
import Derived.Test.YtgblgolkajdfbaaGreatDoorAwl
import Derived.Test.YtgblgolkajdfbaaGreatDoorFstM
import Derived.Laws.OwnMore
import Derived.Deep.Slices
import Derived.ChangeSame
import Derived.ChangeArms
import Derived.OpenShut
import Derived.WideShapes
namespace Go.Proofs.YtgblgolkajdfbaaGreatDoor.chkw
open Go.RowKit
open Go.Proofs.YtgblgolkajdfbaaGreatDoor.lexw
open Go.Proofs.YtgblgolkajdfbaaGreatDoor.parw
open Go.Proofs.YtgblgolkajdfbaaGreatDoor.nodew
open Go.Proofs.YtgblgolkajdfbaaGreatDoor.qt
open Go.ChangeShapes Go.WideShapes Go.Deep

/-- a slice of statements, in blocks below B, no longer than its capacity; vs: what their slices of arguments are -/
def SArg (W : World) (B : Nat) (v : Value) (l : List PStmt) (vs : List Value) : Prop :=
  vs.length = l.length ∧ (∃ A c, v = .slice A l.length c ∧ l.length ≤ c ∧ (A = none → c = 0) ∧ (l ≠ [] → ∃ g off, A = some ⟨g, off, none⟩ ∧ g < B ∧ g < W.heap.size ∧ ∀ j u, (scells l vs)[j]? = some u → W.cell? ⟨g, off + j, none⟩ = some u)) ∧
    ∀ i (h1 : i < vs.length) (h2 : i < l.length), ARead W B vs[i] l[i].args ∧ CapOk vs[i]
theorem SArg.ext {W u : World} {B : Nat} {v : Value} {l : List PStmt} {vs : List Value} (h : SArg W B v l vs) (hb : Below W.heap.size W u) : SArg u B v l vs := by
  obtain ⟨hl, ⟨A, c, hv, hc, hn, hx⟩, ha⟩ := h
  refine ⟨hl, ⟨A, c, hv, hc, hn, fun h0 => ?_⟩, fun i h1 h2 => ⟨(ha i h1 h2).1.keep fun g _ hg => hb.block g hg, (ha i h1 h2).2⟩⟩
  obtain ⟨g, off, hA, hB, hgl, hx⟩ := hx h0
  exact ⟨g, off, hA, hB, by have := hb.size; omega, fun j u hu => (World.cell?_of_block (a := ⟨g, off + j, none⟩) (hb.block g hgl)).trans (hx j u hu)⟩
theorem SArg.sr {W : World} {B : Nat} {v : Value} {l : List PStmt} {vs : List Value} (h : SArg W B v l vs) : SR W B v l := by
  obtain ⟨hl, ⟨A, c, hv, hc, hn, hx⟩, ha⟩ := h
  refine ⟨vs, A, c, hl, hv, fun h0 => ?_, ha⟩
  obtain ⟨g, off, hA, hB, _, hx⟩ := hx h0
  exact ⟨g, off, hA, hB, hx⟩
theorem scells_len : ∀ (l : List PStmt) (vs : List Value), vs.length = l.length → (scells l vs).length = l.length * 4
  | [], [], _ => rfl
  | a :: r, b :: q, h => by
    show (stCells a b ++ scells r q).length = _
    rw [List.length_append, scells_len r q (by simpa using h)]
    simp [stCells]; omega
  | [], b :: q, h => by simp at h
  | a :: r, [], h => by simp at h
theorem scells_app : ∀ (l : List PStmt) (vs : List Value) (m : List PStmt) (us : List Value), vs.length = l.length → scells (l ++ m) (vs ++ us) = scells l vs ++ scells m us
  | [], [], m, us, _ => rfl
  | a :: r, b :: q, m, us, h => by
    show stCells a b ++ scells (r ++ m) (q ++ us) = (stCells a b ++ scells r q) ++ scells m us
    rw [scells_app r q m us (by simpa using h), List.append_assoc]
  | [], b :: q, m, us, h => by simp at h
  | a :: r, [], m, us, h => by simp at h
theorem scells_take : ∀ (l : List PStmt) (vs : List Value) (k j : Nat) (u : Value), (scells (l.take k) (vs.take k))[j]? = some u → (scells l vs)[j]? = some u
  | l, vs, 0, j, u, h => by simp [scells] at h
  | [], vs, k + 1, j, u, h => by simp [scells] at h
  | a :: r, [], k + 1, j, u, h => by simp [scells] at h
  | a :: r, b :: q, k + 1, j, u, h => by
    have h' : (stCells a b ++ scells (r.take k) (q.take k))[j]? = some u := h
    show (stCells a b ++ scells r q)[j]? = some u
    by_cases hj : j < (stCells a b).length
    · rw [List.getElem?_append_left hj] at h' ⊢; exact h'
    · rw [List.getElem?_append_right (by omega)] at h' ⊢
      exact scells_take r q k _ u h'
theorem scells_one (l : List PStmt) (vs : List Value) (hv : ∀ v ∈ vs, v.oneCell' = true) : ∀ u ∈ scells l vs, u.oneCell' = true := by
  induction l generalizing vs with
  | nil => intro u hu; simp [scells] at hu
  | cons a r ih =>
    intro u hu
    cases vs with
    | nil => simp [scells] at hu
    | cons b q =>
      have hu' : u ∈ stCells a b ++ scells r q := hu
      rcases List.mem_append.1 hu' with hu | hu
      · simp only [stCells, List.mem_cons, List.not_mem_nil, or_false] at hu
        rcases hu with rfl | rfl | rfl | rfl
        · rfl
        · rfl
        · rfl
        · exact hv _ (by simp)
      · exact ih q (fun v h => hv v (by simp [h])) u hu
theorem cap_one {v : Value} (h : CapOk v) : v.oneCell' = true := by
  cases v <;> first | rfl | exact h.elim
theorem stmtInfo : (Tryz.prog.info? 38).map (fun i => (i.zero, i.size, i.bytes)) = some (some (.agg #[.string ⟨#[]⟩, .int .i64 0, .int .u8 0, .slice none 0 0]), 4, 56) := by kernel_rfl

theorem sapp_run {w : World} (base : Nat) (v : Value) (n : Nat) (xs : List Value) (hown : w.ownsRow base 38 4 v n xs)
    (B : Nat) (sv : Value) (l : List PStmt) (vs : List Value) (hr : SArg w B sv l vs) (hn : n + l.length ≤ 1000000) (hbase : base ≤ w.heap.size) :
    ∃ v' w', (∀ (o : Oper) (a : Act) (s x : Operand), o.op = .call { callee := .builtin .append, args := #[s, x], argTypes := #[27, 27] } → a.eval s = v → a.eval x = sv → (execOp a.eval o).run Tryz.prog w = .ok (.value v') w') ∧
      w'.ownsRow base 38 4 v' (n + l.length) (xs ++ scells l vs) ∧ w.grownBy w' v.ownBlock := by
  obtain ⟨i0, hi0, hz0, hz1, hz2⟩ := info_parts stmtInfo
  obtain ⟨hvl, ⟨A, c, rfl, hc, hnil, hcell⟩, hargs⟩ := hr
  cases A with
  | none =>
    have h0 := hnil rfl
    have hl0 : l.length = 0 := by omega
    obtain rfl := List.eq_nil_of_length_eq_zero hl0
    subst h0
    refine ⟨v, w, fun o a s x ho hs hx => ?_, by simpa [scells] using hown, World.grownBy.refl _ _⟩
    have hrun := run_append_owned_none (P := Tryz.prog) (w := w) base 27 o.type 38 i0 4 Tryz.underlying27 hi0 v n xs hown
    have hx' : a.eval x = .slice none 0 0 := hx
    unfold execOp
    simp only [ho, resolve, invoke, builtin, Sem.run_bind, Sem.run_pure, Result.andThen_ok, List.map_toArray, List.map_cons, List.map_nil, hs, hx', hrun]
  | some ad =>
    obtain ⟨v', w', hrun, h2, h3, _⟩ := run_append_own (P := Tryz.prog) w base 27 0 38 i0 _ 4 56 Tryz.underlying27 hi0 hz0 hz1 hz2 rfl (by omega) v n xs hown ad l.length c (scells l vs) (scells_len l vs hvl)
      (fun j u hu => by
        obtain ⟨g, off, e, _, _, hx⟩ := hcell (by intro e; subst e; simp [scells] at hu)
        obtain rfl := Option.some.inj e
        have hadd : (⟨g, off, none⟩ : Addr).add j = ⟨g, off + j, none⟩ := by unfold Addr.add; split <;> simp_all
        rw [hadd]; exact hx j u hu) (scells_one l vs fun v hv => by
          obtain ⟨i, hi, rfl⟩ := List.getElem_of_mem hv
          exact cap_one (hargs i hi (by omega)).2) (by unfold maxLen; omega) (by omega) hbase
    refine ⟨v', w', fun o a s x ho hs hx => ?_, h2, h3⟩
    have hrun' : (Builtin.append_ #[27, 27] o.type #[v, .slice (some ad) l.length c]).run Tryz.prog w = .ok v' w' := hrun
    unfold execOp
    simp only [ho, resolve, invoke, builtin, Sem.run_bind, Sem.run_pure, Result.andThen_ok, List.map_toArray, List.map_cons, List.map_nil, hs, hx, hrun']
theorem sbs0_run (w : World) : (Instr.buildSlice 27 0 #[]).run Tryz.prog w = .ok (.slice (some ⟨w.heap.size, 0, none⟩) 0 0) (w.alloc (.cells #[] 38)) := by
  kernel_rfl
theorem exec_sbs0 {o : Oper} (ho : o.op = .buildSlice 27 0 #[]) (a : Act) (w : World) : (execOp a.eval o).run Tryz.prog w = .ok (.value (.slice (some ⟨w.heap.size, 0, none⟩) 0 0)) (w.alloc (.cells #[] 38)) := by
  unfold execOp
  simp only [ho, Sem.run_bind, List.map_toArray, List.map_nil, sbs0_run, Result.andThen_ok, Sem.run_pure]
theorem own_sbs0 (w : World) (base : Nat) (hb : base ≤ w.heap.size) : (w.alloc (.cells #[] 38)).ownsRow base 38 4 (.slice (some ⟨w.heap.size, 0, none⟩) 0 0) 0 [] :=
  own_new w w.heap.size base rfl hb _ 4 0 [] rfl (by decide)
theorem ARead.mono {W : World} {B B' : Nat} {v : Value} {l : List PArg} (h : ARead W B v l) (hb : B ≤ B') : ARead W B' v l := by
  obtain ⟨A, c, hv, hx⟩ := h
  refine ⟨A, c, hv, fun h0 => ?_⟩
  obtain ⟨g, off, hA, hg, hcell⟩ := hx h0
  exact ⟨g, off, hA, by omega, hcell⟩
theorem SR.of_own {W : World} {base B : Nat} {v : Value} {l : List PStmt} {vs : List Value} (hvl : vs.length = l.length) (h : W.ownsRow base 38 4 v l.length (scells l vs)) (hB : B ≤ W.heap.size) (ha : ∀ i (h1 : i < vs.length) (h2 : i < l.length), ARead W B vs[i] l[i].args ∧ CapOk vs[i]) : SR W W.heap.size v l := by
  have ha' : ∀ i (h1 : i < vs.length) (h2 : i < l.length), ARead W W.heap.size vs[i] l[i].args ∧ CapOk vs[i] := fun i h1 h2 => ⟨ARead.mono (ha i h1 h2).1 hB, (ha i h1 h2).2⟩
  rcases h.2 with ⟨rfl, hn⟩ | ⟨g, cap, cur, rfl, _, hgg, _⟩
  · exact ⟨vs, _, _, hvl, by rw [hn], fun h0 => absurd (List.eq_nil_of_length_eq_zero hn) h0, ha'⟩
  · refine ⟨vs, _, _, hvl, rfl, fun _ => ⟨g, 0, rfl, (Array.getElem?_eq_some_iff.1 hgg).1, fun j u hu => ?_⟩, ha'⟩
    have hc := h.cells (g := g) rfl j u hu
    have hadd : (⟨g, 0, none⟩ : Addr).add j = ⟨g, j, none⟩ := by unfold Addr.add; split <;> simp_all
    rw [hadd] at hc
    rw [Nat.zero_add]
    exact hc
theorem sslice_to (A : Option Addr) (len cap k : Nat) (h : k ≤ cap) (wx : World) :
    (Instr.slice 27 (.slice A len cap) none (some (.int .i64 (k : Int))) none).run Tryz.prog wx = .ok (.slice (if cap = 0 then A else A.map (·.add (0 * 4))) k cap) wx := by
  have h0 : (0 : Int) ≤ (k : Int) := by omega
  have h1 : (k : Int) ≤ (cap : Int) := by omega
  simp [Instr.slice, run_underlying Tryz.underlying27, Instr.sliceBounds, run_sliceBound, h, Tryz.sizeOf38]
theorem sd_to {W : World} {B : Nat} {A : Option Addr} {c : Nat} {l : List PStmt} {vs : List Value} (h : SArg W B (.slice A l.length c) l vs) (k : Nat) (hk : k ≤ l.length) :
    ∃ v', (∀ wx : World, (Instr.slice 27 (.slice A l.length c) none (some (.int .i64 (k : Int))) none).run Tryz.prog wx = .ok v' wx) ∧ SR W B v' (l.take k) := by
  obtain ⟨hvl, ⟨A', c', hv, hc, _, hx⟩, ha⟩ := h
  injection hv with e1 e2 e3
  subst e1 e3
  refine ⟨_, fun wx => sslice_to A l.length c k (by omega) wx, vs.take k, _, _, by rw [List.length_take, List.length_take, hvl], by rw [List.length_take, Nat.min_eq_left hk], fun h0 => ?_, fun i h1 h2 => ?_⟩
  · obtain ⟨g, off, rfl, hB, hl, hx⟩ := hx (by intro e; subst e; simp at h0)
    have hkl : 0 < k := by
      rcases Nat.eq_zero_or_pos k with h' | h'
      · subst h'; exact absurd rfl h0
      · exact h'
    refine ⟨g, off, ?_, hB, fun j u hu => hx j u (scells_take l vs k j u hu)⟩
    rw [if_neg (by omega)]; simp [Addr.add]
  · rw [List.length_take] at h1 h2
    rw [List.getElem_take, List.getElem_take]
    exact ha i (by omega) (by omega)

end Go.Proofs.YtgblgolkajdfbaaGreatDoor.chkw
