/- Slices of tokens that come in, and what an append of them does; the same of statements that parse.Parse hands back. Conditions: as each theorem states. -/
import Derived.Test.YtdmhebibnnemnaaDoorSevA
import Derived.Laws.OwnMore
import Derived.Deep.Slices
import Derived.ChangeSame
import Derived.ChangeArms
import Derived.OpenShut
import Derived.WideShapes
namespace Go.Proofs.YtdmhebibnnemnaaDoor.pft
open Go.RowKit
open Go.Proofs.YtdmhebibnnemnaaDoor.lexw
open Go.Proofs.YtdmhebibnnemnaaDoor.parw
open Go.ChangeShapes Go.WideShapes Go.Deep

theorem own_new (W : World) (B base : Nat) (hB : W.heap.size = B) (hb : base ≤ B) (t : TypeId) (size n : Nat) (cs : List Value) (hl : cs.length = n * size) (hn : n ≤ maxLen) : (W.alloc (.cells cs.toArray t)).ownsRow base t size (.slice (some ⟨B, 0, none⟩) n n) n cs := by
  subst hB
  exact ⟨hl, .inr ⟨_, n, cs.toArray, rfl, hb, heap_alloc_new W _, Nat.le_refl _, hn, by simpa using hl, by simp [← hl]⟩⟩
/-- a slice of tokens, in blocks below B, no longer than its capacity -/
def TArg (W : World) (B : Nat) (v : Value) (ts : List PTok) : Prop :=
  ∃ A c, v = .slice A ts.length c ∧ ts.length ≤ c ∧ (A = none → c = 0) ∧ (ts ≠ [] → ∃ g off, A = some ⟨g, off, none⟩ ∧ g < B ∧ g < W.heap.size ∧ ∀ j u, (pcells ts)[j]? = some u → W.cell? ⟨g, off + j, none⟩ = some u)
theorem TArg.ext {W u : World} {B : Nat} {v : Value} {ts : List PTok} (h : TArg W B v ts) (hb : Below W.heap.size W u) : TArg u B v ts := by
  obtain ⟨A, c, hv, hc, hn, hx⟩ := h
  refine ⟨A, c, hv, hc, hn, fun h0 => ?_⟩
  obtain ⟨g, off, hA, hB, hgl, hx⟩ := hx h0
  exact ⟨g, off, hA, hB, by have := hb.size; omega, fun j u hu => (World.cell?_of_block (a := ⟨g, off + j, none⟩) (hb.block g hgl)).trans (hx j u hu)⟩
theorem TArg.row {W : World} {B : Nat} {v : Value} {ts : List PTok} (h : TArg W B v ts) (_hB : B ≤ W.heap.size) : PRow W W.heap.size v ts := by
  obtain ⟨A, c, hv, hc, hn, hx⟩ := h
  refine ⟨A, c, hv, hc, fun h0 => ?_⟩
  obtain ⟨g, off, hA, hg, _, hx⟩ := hx h0
  exact ⟨g, off, hA, by omega, hx⟩
theorem TArg.form {W : World} {B : Nat} {v : Value} {ts : List PTok} (h : TArg W B v ts) : ∃ A c, v = .slice A ts.length c := by
  obtain ⟨A, c, hv, _⟩ := h
  exact ⟨A, c, hv⟩
theorem TArg.of_own {W : World} {base : Nat} {v : Value} {ts : List PTok} (h : W.ownsRow base 24 3 v ts.length (pcells ts)) : TArg W W.heap.size v ts := by
  rcases h.2 with ⟨rfl, hn⟩ | ⟨g, cap, cur, rfl, _, hgg, hc, _⟩
  · exact ⟨none, 0, by rw [hn], by rw [hn]; exact Nat.le_refl _, fun _ => rfl, fun h0 => absurd (List.eq_nil_of_length_eq_zero hn) h0⟩
  · refine ⟨_, cap, rfl, hc, fun h0 => by simp at h0, fun _ => ⟨g, 0, rfl, (Array.getElem?_eq_some_iff.1 hgg).1, (Array.getElem?_eq_some_iff.1 hgg).1, fun j u hu => ?_⟩⟩
    have hc := h.cells (g := g) rfl j u hu
    have hadd : (⟨g, 0, none⟩ : Addr).add j = ⟨g, j, none⟩ := by unfold Addr.add; split <;> simp_all
    rw [hadd] at hc
    rw [Nat.zero_add]
    exact hc
theorem TArg.one (w : World) (t : PTok) (u : World) (hu : u.heap[w.heap.size]? = some (.cells t.cells.toArray 24 (0, 0))) : TArg u u.heap.size (.slice (some ⟨w.heap.size, 0, none⟩) 1 1) [t] := by
  have hl := (Array.getElem?_eq_some_iff.1 hu).1
  refine ⟨_, 1, rfl, Nat.le_refl _, fun h => by simp at h, fun _ => ⟨w.heap.size, 0, rfl, hl, hl, fun j v hv => ?_⟩⟩
  rw [cell_of_row u w.heap.size _ _ _ _ hu, Nat.zero_add]
  simpa [pcells] using hv
theorem pcells_one (ts : List PTok) : ∀ u ∈ pcells ts, u.oneCell' = true := by
  intro u hu
  obtain ⟨t, _, ht⟩ := List.mem_flatMap.1 hu
  simp only [PTok.cells, List.mem_cons, List.not_mem_nil, or_false] at ht
  rcases ht with rfl | rfl | rfl <;> rfl
theorem tokInfo : (Tryd.prog.info? 24).map (fun i => (i.zero, i.size, i.bytes)) = some (some (.agg #[.int .u8 0, .int .i64 0, .string ⟨#[]⟩]), 3, 32) := by kernel_rfl
theorem tapp_run {w : World} (base : Nat) (v : Value) (n : Nat) (xs : List Value) (hown : w.ownsRow base 24 3 v n xs)
    (B : Nat) (sv : Value) (l : List PTok) (hr : TArg w B sv l) (hn : n + l.length ≤ 1000000) (hbase : base ≤ w.heap.size) :
    ∃ v' w', (∀ (o : Oper) (a : Act) (s x : Operand), o.op = .call { callee := .builtin .append, args := #[s, x], argTypes := #[22, 22] } → a.eval s = v → a.eval x = sv → (execOp a.eval o).run Tryd.prog w = .ok (.value v') w') ∧
      w'.ownsRow base 24 3 v' (n + l.length) (xs ++ pcells l) ∧ w.grownBy w' v.ownBlock := by
  obtain ⟨i0, hi0, hz0, hz1, hz2⟩ := info_parts tokInfo
  obtain ⟨A, c, rfl, hc, hnil, hcell⟩ := hr
  cases A with
  | none =>
    have h0 := hnil rfl
    have hl0 : l.length = 0 := by omega
    obtain rfl := List.eq_nil_of_length_eq_zero hl0
    subst h0
    refine ⟨v, w, fun o a s x ho hs hx => ?_, by simpa [pcells] using hown, World.grownBy.refl _ _⟩
    have hrun := run_append_owned_none (P := Tryd.prog) (w := w) base 22 o.type 24 i0 3 Tryd.underlying22 hi0 v n xs hown
    have hx' : a.eval x = .slice none 0 0 := hx
    unfold execOp
    simp only [ho, resolve, invoke, builtin, Sem.run_bind, Sem.run_pure, Result.andThen_ok, List.map_toArray, List.map_cons, List.map_nil, hs, hx', hrun]
  | some ad =>
    obtain ⟨v', w', hrun, h2, h3, _⟩ := run_append_own (P := Tryd.prog) w base 22 0 24 i0 _ 3 32 Tryd.underlying22 hi0 hz0 hz1 hz2 rfl (by omega) v n xs hown ad l.length c (pcells l) (by
        induction l with
        | nil => rfl
        | cons a r ih => exact pcells_length (a :: r))
      (fun j u hu => by
        obtain ⟨g, off, e, _, _, hx⟩ := hcell (by intro e; subst e; simp [pcells] at hu)
        obtain rfl := Option.some.inj e
        have hadd : (⟨g, off, none⟩ : Addr).add j = ⟨g, off + j, none⟩ := by unfold Addr.add; split <;> simp_all
        rw [hadd]; exact hx j u hu) (pcells_one l) (by unfold maxLen; omega) (by omega) hbase
    refine ⟨v', w', fun o a s x ho hs hx => ?_, h2, h3⟩
    have hrun' : (Builtin.append_ #[22, 22] o.type #[v, .slice (some ad) l.length c]).run Tryd.prog w = .ok v' w' := hrun
    unfold execOp
    simp only [ho, resolve, invoke, builtin, Sem.run_bind, Sem.run_pure, Result.andThen_ok, List.map_toArray, List.map_cons, List.map_nil, hs, hx, hrun']
theorem tbs0_run (w : World) : (Instr.buildSlice 22 0 #[]).run Tryd.prog w = .ok (.slice (some ⟨w.heap.size, 0, none⟩) 0 0) (w.alloc (.cells #[] 24)) := by
  kernel_rfl
theorem exec_tbs0 {o : Oper} (ho : o.op = .buildSlice 22 0 #[]) (a : Act) (w : World) : (execOp a.eval o).run Tryd.prog w = .ok (.value (.slice (some ⟨w.heap.size, 0, none⟩) 0 0)) (w.alloc (.cells #[] 24)) := by
  unfold execOp
  simp only [ho, Sem.run_bind, List.map_toArray, List.map_nil, tbs0_run, Result.andThen_ok, Sem.run_pure]
theorem own_tbs0 (w : World) (base : Nat) (hb : base ≤ w.heap.size) : (w.alloc (.cells #[] 24)).ownsRow base 24 3 (.slice (some ⟨w.heap.size, 0, none⟩) 0 0) 0 [] :=
  own_new w w.heap.size base rfl hb _ 3 0 [] rfl (by decide)
theorem tbs1_run (t : PTok) (w : World) : (Instr.buildSlice 22 1 #[(0, t.val)]).run Tryd.prog w = .ok (.slice (some ⟨w.heap.size, 0, none⟩) 1 1) (w.alloc (.cells t.cells.toArray 24)) := by
  kernel_rfl
theorem exec_tbs1 {o : Oper} (x : Operand) (ho : o.op = .buildSlice 22 1 #[(0, x)]) (a : Act) (w : World) (t : PTok) (hx : a.eval x = t.val) :
    (execOp a.eval o).run Tryd.prog w = .ok (.value (.slice (some ⟨w.heap.size, 0, none⟩) 1 1)) (w.alloc (.cells t.cells.toArray 24)) := by
  unfold execOp
  simp only [ho, Sem.run_bind, List.map_toArray, List.map_cons, List.map_nil, hx, tbs1_run, Result.andThen_ok, Sem.run_pure]
/-! statements -/
/-- a slice of statements, in blocks below B, no longer than its capacity; vs: what their slices of arguments are -/
def SArg (W : World) (B : Nat) (v : Value) (l : List PStmt) (vs : List Value) : Prop :=
  vs.length = l.length ∧ (∃ A c, v = .slice A l.length c ∧ l.length ≤ c ∧ (A = none → c = 0) ∧ (l ≠ [] → ∃ g off, A = some ⟨g, off, none⟩ ∧ g < B ∧ g < W.heap.size ∧ ∀ j u, (scells l vs)[j]? = some u → W.cell? ⟨g, off + j, none⟩ = some u)) ∧
    ∀ i (h1 : i < vs.length) (h2 : i < l.length), ARead W B vs[i] l[i].args ∧ vs[i].oneCell' = true
theorem own_one {W : World} {base : Nat} {e : TypeId} {size : Nat} {v : Value} {k : Nat} {xs : List Value} (h : W.ownsRow base e size v k xs) : v.oneCell' = true := by
  rcases h.2 with ⟨rfl, _⟩ | ⟨_, _, _, rfl, _⟩ <;> rfl
theorem SArg.of_row {W : World} {base : Nat} {v : Value} {l : List PStmt} (h : SRow W base v l) : ∃ vs, SArg W W.heap.size v l vs := by
  obtain ⟨vs, hl, ho, ha⟩ := h
  refine ⟨vs, hl, ?_, fun i h1 h2 => ⟨.of_own (ha i h1 h2), own_one (ha i h1 h2)⟩⟩
  rcases ho.2 with ⟨rfl, hn⟩ | ⟨g, cap, cur, rfl, _, hgg, hcap, _⟩
  · exact ⟨_, _, by rw [hn], by rw [hn]; exact Nat.le_refl _, fun _ => rfl, fun h0 => absurd (List.eq_nil_of_length_eq_zero hn) h0⟩
  · refine ⟨_, _, rfl, hcap, fun h0 => by simp at h0, fun _ => ⟨g, 0, rfl, (Array.getElem?_eq_some_iff.1 hgg).1, (Array.getElem?_eq_some_iff.1 hgg).1, fun j u hu => ?_⟩⟩
    have hc := ho.cells (g := g) rfl j u hu
    have hadd : (⟨g, 0, none⟩ : Addr).add j = ⟨g, j, none⟩ := by unfold Addr.add; split <;> simp_all
    rw [hadd] at hc
    rw [Nat.zero_add]
    exact hc
theorem SArg.ext {W u : World} {B : Nat} {v : Value} {l : List PStmt} {vs : List Value} (h : SArg W B v l vs) (hb : Below W.heap.size W u) : SArg u B v l vs := by
  obtain ⟨hl, ⟨A, c, hv, hc, hn, hx⟩, ha⟩ := h
  refine ⟨hl, ⟨A, c, hv, hc, hn, fun h0 => ?_⟩, fun i h1 h2 => ⟨(ha i h1 h2).1.keep fun g _ hg => hb.block g hg, (ha i h1 h2).2⟩⟩
  obtain ⟨g, off, hA, hB, hgl, hx⟩ := hx h0
  exact ⟨g, off, hA, hB, by have := hb.size; omega, fun j u hu => (World.cell?_of_block (a := ⟨g, off + j, none⟩) (hb.block g hgl)).trans (hx j u hu)⟩
theorem SArg.read {W : World} {B : Nat} {v : Value} {l : List PStmt} {vs : List Value} (h : SArg W B v l vs) : SRead W B v l := by
  obtain ⟨hl, ⟨A, c, hv, hc, hn, hx⟩, ha⟩ := h
  refine ⟨vs, A, c, hl, hv, fun h0 => ?_, fun i h1 h2 => (ha i h1 h2).1⟩
  obtain ⟨g, off, hA, hB, _, hx⟩ := hx h0
  exact ⟨g, off, hA, hB, hx⟩
theorem scells_len : ∀ (l : List PStmt) (vs : List Value), vs.length = l.length → (scells l vs).length = l.length * 4
  | [], [], _ => rfl
  | a :: r, b :: q, h => by
    show (stCells a b ++ scells r q).length = _
    rw [List.length_append, scells_len r q (by simpa using h)]
    simp [stCells]; omega
  | [], b :: q, h => by simp at h
  | a :: r, [], h => by simp at h
theorem scells_app : ∀ (l : List PStmt) (vs : List Value) (m : List PStmt) (us : List Value), vs.length = l.length → scells (l ++ m) (vs ++ us) = scells l vs ++ scells m us
  | [], [], m, us, _ => rfl
  | a :: r, b :: q, m, us, h => by
    show stCells a b ++ scells (r ++ m) (q ++ us) = (stCells a b ++ scells r q) ++ scells m us
    rw [scells_app r q m us (by simpa using h), List.append_assoc]
  | [], b :: q, m, us, h => by simp at h
  | a :: r, [], m, us, h => by simp at h
theorem scells_one (l : List PStmt) (vs : List Value) (hv : ∀ v ∈ vs, v.oneCell' = true) : ∀ u ∈ scells l vs, u.oneCell' = true := by
  induction l generalizing vs with
  | nil => intro u hu; simp [scells] at hu
  | cons a r ih =>
    intro u hu
    cases vs with
    | nil => simp [scells] at hu
    | cons b q =>
      have hu' : u ∈ stCells a b ++ scells r q := hu
      rcases List.mem_append.1 hu' with hu | hu
      · simp only [stCells, List.mem_cons, List.not_mem_nil, or_false] at hu
        rcases hu with rfl | rfl | rfl | rfl
        · rfl
        · rfl
        · rfl
        · exact hv _ (by simp)
      · exact ih q (fun v h => hv v (by simp [h])) u hu
theorem stInfo : (Tryd.prog.info? 38).map (fun i => (i.zero, i.size, i.bytes)) = some (some (.agg #[.string ⟨#[]⟩, .int .i64 0, .int .u8 0, .slice none 0 0]), 4, 56) := by kernel_rfl
theorem sapp_run {w : World} (base : Nat) (v : Value) (n : Nat) (xs : List Value) (hown : w.ownsRow base 38 4 v n xs)
    (B : Nat) (sv : Value) (l : List PStmt) (vs : List Value) (hr : SArg w B sv l vs) (hn : n + l.length ≤ 1000000) (hbase : base ≤ w.heap.size) :
    ∃ v' w', (∀ (o : Oper) (a : Act) (s x : Operand), o.op = .call { callee := .builtin .append, args := #[s, x], argTypes := #[26, 26] } → a.eval s = v → a.eval x = sv → (execOp a.eval o).run Tryd.prog w = .ok (.value v') w') ∧
      w'.ownsRow base 38 4 v' (n + l.length) (xs ++ scells l vs) ∧ w.grownBy w' v.ownBlock := by
  obtain ⟨i0, hi0, hz0, hz1, hz2⟩ := info_parts stInfo
  obtain ⟨hvl, ⟨A, c, rfl, hc, hnil, hcell⟩, hargs⟩ := hr
  cases A with
  | none =>
    have h0 := hnil rfl
    have hl0 : l.length = 0 := by omega
    obtain rfl := List.eq_nil_of_length_eq_zero hl0
    subst h0
    refine ⟨v, w, fun o a s x ho hs hx => ?_, by simpa [scells] using hown, World.grownBy.refl _ _⟩
    have hrun := run_append_owned_none (P := Tryd.prog) (w := w) base 26 o.type 38 i0 4 Tryd.underlying26 hi0 v n xs hown
    have hx' : a.eval x = .slice none 0 0 := hx
    unfold execOp
    simp only [ho, resolve, invoke, builtin, Sem.run_bind, Sem.run_pure, Result.andThen_ok, List.map_toArray, List.map_cons, List.map_nil, hs, hx', hrun]
  | some ad =>
    obtain ⟨v', w', hrun, h2, h3, _⟩ := run_append_own (P := Tryd.prog) w base 26 0 38 i0 _ 4 56 Tryd.underlying26 hi0 hz0 hz1 hz2 rfl (by omega) v n xs hown ad l.length c (scells l vs) (scells_len l vs hvl)
      (fun j u hu => by
        obtain ⟨g, off, e, _, _, hx⟩ := hcell (by intro e; subst e; simp [scells] at hu)
        obtain rfl := Option.some.inj e
        have hadd : (⟨g, off, none⟩ : Addr).add j = ⟨g, off + j, none⟩ := by unfold Addr.add; split <;> simp_all
        rw [hadd]; exact hx j u hu) (scells_one l vs fun v hv => by
          obtain ⟨i, hi, rfl⟩ := List.getElem_of_mem hv
          exact (hargs i hi (by omega)).2) (by unfold maxLen; omega) (by omega) hbase
    refine ⟨v', w', fun o a s x ho hs hx => ?_, h2, h3⟩
    have hrun' : (Builtin.append_ #[26, 26] o.type #[v, .slice (some ad) l.length c]).run Tryd.prog w = .ok v' w' := hrun
    unfold execOp
    simp only [ho, resolve, invoke, builtin, Sem.run_bind, Sem.run_pure, Result.andThen_ok, List.map_toArray, List.map_cons, List.map_nil, hs, hx, hrun']
theorem sbs0_run (w : World) : (Instr.buildSlice 26 0 #[]).run Tryd.prog w = .ok (.slice (some ⟨w.heap.size, 0, none⟩) 0 0) (w.alloc (.cells #[] 38)) := by
  kernel_rfl
theorem exec_sbs0 {o : Oper} (ho : o.op = .buildSlice 26 0 #[]) (a : Act) (w : World) : (execOp a.eval o).run Tryd.prog w = .ok (.value (.slice (some ⟨w.heap.size, 0, none⟩) 0 0)) (w.alloc (.cells #[] 38)) := by
  unfold execOp
  simp only [ho, Sem.run_bind, List.map_toArray, List.map_nil, sbs0_run, Result.andThen_ok, Sem.run_pure]
theorem own_sbs0 (w : World) (base : Nat) (hb : base ≤ w.heap.size) : (w.alloc (.cells #[] 38)).ownsRow base 38 4 (.slice (some ⟨w.heap.size, 0, none⟩) 0 0) 0 [] :=
  own_new w w.heap.size base rfl hb _ 4 0 [] rfl (by decide)
theorem aread_mono {W : World} {B B' : Nat} {v : Value} {l : List PArg} (h : ARead W B v l) (hb : B ≤ B') : ARead W B' v l := by
  obtain ⟨A, c, hv, hx⟩ := h
  refine ⟨A, c, hv, fun h0 => ?_⟩
  obtain ⟨g, off, hA, hg, hcell⟩ := hx h0
  exact ⟨g, off, hA, by omega, hcell⟩
/-- two rows of statements, one behind the other in a row of the call's own -/
theorem sread_app {W : World} {base B : Nat} {v v1 v2 : Value} {a b : List PStmt} {us vs : List Value} (h1 : SArg W B v1 a us) (h2 : SArg W B v2 b vs) (hB : B ≤ W.heap.size) (h : W.ownsRow base 38 4 v (a ++ b).length (scells (a ++ b) (us ++ vs))) : SRead W W.heap.size v (a ++ b) := by
  have hl : (us ++ vs).length = (a ++ b).length := by rw [List.length_append, List.length_append, h1.1, h2.1]
  have ha : ∀ i (x1 : i < (us ++ vs).length) (x2 : i < (a ++ b).length), ARead W W.heap.size (us ++ vs)[i] (a ++ b)[i].args := fun i x1 x2 => by
    by_cases hi : i < us.length
    · have hi' : i < a.length := by rw [← h1.1]; exact hi
      rw [List.getElem_append_left hi, List.getElem_append_left hi']
      exact aread_mono (h1.2.2 i hi hi').1 hB
    · have hi' : ¬ i < a.length := by rw [← h1.1]; exact hi
      rw [List.getElem_append_right (by omega), List.getElem_append_right (by omega)]
      have e : i - us.length = i - a.length := by rw [h1.1]
      have hb' : i - a.length < b.length := by rw [List.length_append] at x2; omega
      have := aread_mono (h2.2.2 (i - a.length) (by rw [h2.1]; exact hb') hb').1 hB
      simpa [e] using this
  rcases h.2 with ⟨rfl, hn⟩ | ⟨g, cap, cur, rfl, _, hgg, _⟩
  · exact ⟨us ++ vs, _, _, hl, by rw [hn], fun h0 => absurd (List.eq_nil_of_length_eq_zero hn) h0, ha⟩
  · refine ⟨us ++ vs, _, _, hl, rfl, fun _ => ⟨g, 0, rfl, (Array.getElem?_eq_some_iff.1 hgg).1, fun j u hu => ?_⟩, ha⟩
    have hc := h.cells (g := g) rfl j u hu
    have hadd : (⟨g, 0, none⟩ : Addr).add j = ⟨g, j, none⟩ := by unfold Addr.add; split <;> simp_all
    rw [hadd] at hc
    rw [Nat.zero_add]
    exact hc

section
variable {H : Type} {enc : TypeId × Value → H} {w : World} {base : Nat} {held : Bool}
/-- a slice whose elements are rows of k cells -/
theorem rows_of {t e : TypeId} {k : Nat} (ht : Tryd.prog.underlying t = some (.slice e)) (hC : Tryd.prog.cellsOf e = k) {α : Type} (f : α → List Value) (hlen : ∀ a, (f a).length = k) (hk : 0 < k) (Pr : α → Prop)
    (hel : ∀ (fuel : Nat) (cs : List Value) (x : DataW H × List MemPlace), DataW.trod enc Tryd.prog w base (fun _ => true) held fuel e cs = some x → ∃ a, cs = f a ∧ Pr a)
    {fuel : Nat} {v : Value} {x : DataW H × List MemPlace} (h : DataW.trod enc Tryd.prog w base (fun _ => true) held fuel t [v] = some x) :
    ∃ l : List α, (∃ A c, v = .slice A l.length c ∧ l.length ≤ c ∧ (A = none → c = 0) ∧ (l ≠ [] → ∃ g off, A = some ⟨g, off, none⟩ ∧ g < w.heap.size ∧ ∀ j u, (l.flatMap f)[j]? = some u → w.cell? ⟨g, off + j, none⟩ = some u)) ∧ ∀ a ∈ l, Pr a := by
  rcases open_slice ht h with ⟨hcs, _⟩ | ⟨a, len, cap, m, n, D, Pl, hcs, hb, hl, hm, hmm, hx, hi⟩
  · simp only [List.cons.injEq, and_true] at hcs
    exact ⟨[], ⟨none, 0, hcs, by simp, fun _ => rfl, fun h => absurd rfl h⟩, (fun y hy => by cases hy)⟩
  · simp only [List.cons.injEq, and_true] at hcs
    have hml : len ≤ m := by rw [hmm]; simp; exact hl
    have hnd : ∀ i, i < len → ∃ y : α, Pr y ∧ ∀ j u, (f y)[j]? = some u → w.cell? (a.add (i * k + j)) = some u := fun i hil => by
      obtain ⟨cs', hc, ht⟩ := hi i (by omega)
      rw [hC] at hc
      obtain ⟨y, hy, hyo⟩ := hel _ _ _ ht
      obtain ⟨_, hcl, hat⟩ := World.cells?_some hc
      refine ⟨y, hyo, fun j u hu => ?_⟩
      have hj : j < k := by have := (List.getElem?_eq_some_iff.1 hu).1; rwa [hlen] at this
      have := hat j hj
      rw [Go.Deep.add_add] at this
      rw [this, hy]
      exact hu
    have flen : ∀ l : List α, (l.flatMap f).length = l.length * k := by
      intro l
      induction l with
      | nil => simp
      | cons y r ih => rw [List.flatMap_cons, List.length_append, ih, hlen, List.length_cons, Nat.add_mul]; omega
    have hall : ∀ q, q ≤ len → ∃ l : List α, l.length = q ∧ (∀ y ∈ l, Pr y) ∧ ∀ j u, (l.flatMap f)[j]? = some u → w.cell? (a.add j) = some u := by
      intro q
      induction q with
      | zero => exact fun _ => ⟨[], rfl, (fun y hy => by cases hy), (fun j u hu => by simp at hu)⟩
      | succ q ih =>
        intro hq
        obtain ⟨l, hll, hlo, hlc⟩ := ih (by omega)
        obtain ⟨y, hyo, hyc⟩ := hnd q (by omega)
        refine ⟨l ++ [y], by rw [List.length_append, hll]; rfl, fun z hz => ?_, fun j u hu => ?_⟩
        · rcases List.mem_append.1 hz with hz | hz
          · exact hlo z hz
          · have : z = y := by simpa using hz
            rw [this]; exact hyo
        · rw [List.flatMap_append] at hu
          by_cases hj : j < (l.flatMap f).length
          · rw [List.getElem?_append_left hj] at hu; exact hlc j u hu
          · rw [List.getElem?_append_right (by omega)] at hu
            have hu' : (f y)[j - (l.flatMap f).length]? = some u := by simpa using hu
            have := hyc _ u hu'
            rw [flen, hll] at this hj
            rwa [show q * k + (j - q * k) = j by omega] at this
    obtain ⟨l, hll, hlo, hlc⟩ := hall len (Nat.le_refl _)
    refine ⟨l, ⟨some a, cap, by rw [hcs, hll], by omega, fun h => by simp at h, fun h0 => ?_⟩, hlo⟩
    have hpos : 0 < l.length := List.length_pos_iff.2 h0
    have hfp : 0 < (l.flatMap f).length := by rw [flen]; exact Nat.mul_pos hpos hk
    have hc0 := hlc 0 _ (List.getElem?_eq_getElem hfp)
    have ha0 : a.add 0 = a := by unfold Addr.add; simp
    rw [ha0] at hc0
    obtain ⟨g, off, spot⟩ := a
    have hspot : spot = none := by
      cases spot with
      | none => rfl
      | some p => unfold World.cell? at hc0; split at hc0 <;> simp at hc0
    subst hspot
    have hgl : g < w.heap.size := World.block_lt_of_cell? w _ hc0
    refine ⟨g, off, rfl, hgl, fun j u hu => ?_⟩
    have := hlc j u hu
    have hadd : (⟨g, off, none⟩ : Addr).add j = ⟨g, off + j, none⟩ := by unfold Addr.add; split <;> simp_all
    rwa [hadd] at this
theorem cells_u8 : Tryd.prog.cellsOf 5 = 1 := by kernel_rfl
theorem cells_int : Tryd.prog.cellsOf 3 = 1 := by kernel_rfl
theorem cells_str : Tryd.prog.cellsOf 9 = 1 := by kernel_rfl
theorem cells_tok : Tryd.prog.cellsOf 24 = 3 := by kernel_rfl
set_option maxRecDepth 100000 in
theorem tok_of_trod {sp : Nat → Bool} {fuel : Nat} {cs : List Value} {x : DataW H × List MemPlace} (h : DataW.trod enc Tryd.prog w base sp held fuel 24 cs = some x) : ∃ a : PTok, cs = a.cells := by
  obtain ⟨xs, m, _, _, hl, hlen, hf⟩ := DataW.trod_struct Tryd.underlying24 h
  rw [cells_tok] at hl
  match cs, hl with
  | [c0, c1, c2], _ =>
    have g := fun i (hi : i < xs.length) => List.getElem?_eq_getElem hi
    have hlen' : xs.length = 3 := hlen
    have h0 := (hf 0 _ rfl).trans (g 0 (by omega))
    change DataW.trod enc Tryd.prog w base sp held m 5 ((List.drop 0 [c0, c1, c2]).take (Tryd.prog.cellsOf 5)) = _ at h0
    rw [cells_u8] at h0
    change DataW.trod enc Tryd.prog w base sp held m 5 [c0] = _ at h0
    have h1 := (hf 1 _ rfl).trans (g 1 (by omega))
    change DataW.trod enc Tryd.prog w base sp held m 3 ((List.drop 1 [c0, c1, c2]).take (Tryd.prog.cellsOf 3)) = _ at h1
    rw [cells_int] at h1
    change DataW.trod enc Tryd.prog w base sp held m 3 [c1] = _ at h1
    have h2 := (hf 2 _ rfl).trans (g 2 (by omega))
    change DataW.trod enc Tryd.prog w base sp held m 9 ((List.drop 2 [c0, c1, c2]).take (Tryd.prog.cellsOf 9)) = _ at h2
    rw [cells_str] at h2
    change DataW.trod enc Tryd.prog w base sp held m 9 [c2] = _ at h2
    obtain ⟨k, ek, -, wk⟩ := DataW.trod_int Tryd.underlying5 h0
    obtain ⟨p, ep, -, -⟩ := DataW.trod_int Tryd.underlying3 h1
    obtain ⟨s, es, -, -⟩ := DataW.trod_string Tryd.underlying9 h2
    have ek : c0 = .int .u8 k := by simpa using ek
    have ep : c1 = .int .i64 p := by simpa using ep
    have es : c2 = .string s := by simpa using es
    subst ek ep es
    have hk : 0 ≤ k ∧ k ≤ 255 := by simpa [Lit.wf, IntKind.min, IntKind.max, IntKind.signed, IntKind.bits] using wk
    have hkk : ((k.toNat : Nat) : Int) = k := Int.toNat_of_nonneg hk.1
    exact ⟨⟨k.toNat, p, s⟩, by simp [PTok.cells, hkk]⟩
/-- a slice of tokens that comes in -/
theorem toks_of {fuel : Nat} {v : Value} {x : DataW H × List MemPlace} (hv : ∃ a len cap, v = .slice a len cap) (h : DataW.trod enc Tryd.prog w base (fun _ => true) held fuel 22 v.cells.toList = some x) :
    ∃ l : List PTok, TArg w w.heap.size v l := by
  have h' : DataW.trod enc Tryd.prog w base (fun _ => true) held fuel 22 [v] = some x := by
    obtain ⟨va, vl, vc, rfl⟩ := hv
    exact h
  obtain ⟨l, ⟨A, c, hv, hc, hn, hx⟩, _⟩ := rows_of (k := 3) Tryd.underlying22 cells_tok PTok.cells (fun a => rfl) (by omega) (fun _ => True) (fun fuel cs x h => by
    obtain ⟨a, ha⟩ := tok_of_trod h
    exact ⟨a, ha, trivial⟩) h'
  refine ⟨l, A, c, hv, hc, hn, fun h0 => ?_⟩
  obtain ⟨g, off, hA, hg, hcell⟩ := hx h0
  exact ⟨g, off, hA, hg, hg, hcell⟩
end
end Go.Proofs.YtdmhebibnnemnaaDoor.pft
