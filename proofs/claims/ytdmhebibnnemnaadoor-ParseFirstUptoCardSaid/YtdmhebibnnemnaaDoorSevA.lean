/- Rows of statements that lie in memory; burnishlaw01.Same at one number twice. Conditions: as each theorem states. -/
import Derived.Test.YtdmhebibnnemnaaDoorParE
import Derived.Laws.FloatBits
import Derived.Laws.FloatArith
import Derived.Laws.Externs
namespace Go.Proofs.YtdmhebibnnemnaaDoor.parw
open Go.RowKit
open Go.Proofs.YtdmhebibnnemnaaDoor.lexw
attribute [local go_sem] run_store_float

theorem fbits_run (x : Nat) (w : World) : (callFunc 17 #[.float .f64 x]).run Tryd.prog w = .ok (.value (.int .u64 x)) w := by
  rw [@run_callFunc_extern Tryd.prog 17 _ Extern.MathFloatBits.float64bits Tryd.func17 (by kernel_rfl) (by kernel_rfl) (by kernel_rfl) (by kernel_rfl)]
  rfl
attribute [local go_sem] fbits_run

theorem same01_self (x : Nat) (w : World) : Calls Tryd.prog 9 #[.float .f64 x, .float .f64 x] w fun e w' => e = .returned (.bool true) ∧ w' = w := by
  go_enter Tryd.func9, Tryd.ntmps9
  go_wp2
  go_ret
  exact ⟨by simp, rfl⟩

/-- the slice value v holds the arguments l, in blocks below B -/
def ARead (W : World) (B : Nat) (v : Value) (l : List PArg) : Prop :=
  ∃ A c, v = .slice A l.length c ∧ (l ≠ [] → ∃ g off, A = some ⟨g, off, none⟩ ∧ g < B ∧ ∀ j u, (acells l)[j]? = some u → W.cell? ⟨g, off + j, none⟩ = some u)
/-- the slice value v holds the statements l, in blocks below B -/
def SRead (W : World) (B : Nat) (v : Value) (l : List PStmt) : Prop :=
  ∃ (vs : List Value) (A : Option Addr) (c : Nat), vs.length = l.length ∧ v = .slice A l.length c ∧
    (l ≠ [] → ∃ g off, A = some ⟨g, off, none⟩ ∧ g < B ∧ ∀ j u, (scells l vs)[j]? = some u → W.cell? ⟨g, off + j, none⟩ = some u) ∧
    ∀ i (h1 : i < vs.length) (h2 : i < l.length), ARead W B vs[i] l[i].args
theorem ARead.keep {W W' : World} {B : Nat} {v : Value} {l : List PArg} (h : ARead W B v l) (hg : ∀ g, g < B → g < W.heap.size → W'.heap[g]? = W.heap[g]?) : ARead W' B v l := by
  obtain ⟨A, c, hv, hx⟩ := h
  refine ⟨A, c, hv, fun h0 => ?_⟩
  obtain ⟨g, off, hA, hB, hcell⟩ := hx h0
  exact ⟨g, off, hA, hB, fun j u hu => (World.cell?_of_block (a := ⟨g, off + j, none⟩) (hg g hB (World.block_lt_of_cell? W _ (hcell j u hu)))).trans (hcell j u hu)⟩
theorem SRead.keep {W W' : World} {B : Nat} {v : Value} {l : List PStmt} (h : SRead W B v l) (hg : ∀ g, g < B → g < W.heap.size → W'.heap[g]? = W.heap[g]?) : SRead W' B v l := by
  obtain ⟨vs, A, c, hl, hv, hx, ha⟩ := h
  refine ⟨vs, A, c, hl, hv, fun h0 => ?_, fun i h1 h2 => (ha i h1 h2).keep hg⟩
  obtain ⟨g, off, hA, hB, hcell⟩ := hx h0
  exact ⟨g, off, hA, hB, fun j u hu => (World.cell?_of_block (a := ⟨g, off + j, none⟩) (hg g hB (World.block_lt_of_cell? W _ (hcell j u hu)))).trans (hcell j u hu)⟩
theorem ARead.of_own {W : World} {base : Nat} {v : Value} {l : List PArg} (h : W.ownsRow base 35 3 v l.length (acells l)) : ARead W W.heap.size v l := by
  rcases h.2 with ⟨rfl, hn⟩ | ⟨g, cap, cur, rfl, _, hgg, _⟩
  · exact ⟨_, _, by rw [hn], fun h0 => absurd (List.eq_nil_of_length_eq_zero hn) h0⟩
  · refine ⟨_, _, rfl, fun _ => ⟨g, 0, rfl, (Array.getElem?_eq_some_iff.1 hgg).1, fun j u hu => ?_⟩⟩
    have hc := h.cells (g := g) rfl j u hu
    have hadd : (⟨g, 0, none⟩ : Addr).add j = ⟨g, j, none⟩ := by unfold Addr.add; split <;> simp_all
    rw [hadd] at hc
    rw [Nat.zero_add]
    exact hc
theorem SRead.of_row {W : World} {base : Nat} {v : Value} {l : List PStmt} (h : SRow W base v l) : SRead W W.heap.size v l := by
  obtain ⟨vs, hl, ho, ha⟩ := h
  rcases ho.2 with ⟨rfl, hn⟩ | ⟨g, cap, cur, rfl, _, hgg, _⟩
  · exact ⟨vs, _, _, hl, by rw [hn], fun h0 => absurd (List.eq_nil_of_length_eq_zero hn) h0, fun i h1 h2 => .of_own (ha i h1 h2)⟩
  · refine ⟨vs, _, _, hl, rfl, fun _ => ⟨g, 0, rfl, (Array.getElem?_eq_some_iff.1 hgg).1, fun j u hu => ?_⟩, fun i h1 h2 => .of_own (ha i h1 h2)⟩
    have hc := ho.cells (g := g) rfl j u hu
    have hadd : (⟨g, 0, none⟩ : Addr).add j = ⟨g, j, none⟩ := by unfold Addr.add; split <;> simp_all
    rw [hadd] at hc
    rw [Nat.zero_add]
    exact hc

theorem scells_get : ∀ (l : List PStmt) (vs : List Value) (i j : Nat) (h1 : i < vs.length) (h2 : i < l.length), j < 4 → vs.length = l.length → (scells l vs)[i * 4 + j]? = (stCells l[i] vs[i])[j]?
  | s :: r, v :: q, 0, j, _, _, hj, _ => by
    simp only [scells, Nat.zero_mul, Nat.zero_add, List.getElem_cons_zero]
    rw [List.getElem?_append_left (by simpa [stCells] using hj)]
  | s :: r, v :: q, i + 1, j, h1, h2, hj, hl => by
    simp only [scells, List.getElem_cons_succ]
    rw [List.getElem?_append_right (by simp [stCells]; omega)]
    have := scells_get r q i j (by simpa using h1) (by simpa using h2) hj (by simpa using hl)
    rw [← this]
    congr 1
    simp [stCells]; omega
  | [], _, i, j, _, h2, _, _ => by simp at h2
  | _ :: _, [], i, j, h1, _, _, _ => by simp at h1
theorem acells_get : ∀ (l : List PArg) (i j : Nat) (h : i < l.length), j < 3 → (acells l)[i * 3 + j]? = (l[i].cells)[j]?
  | a :: r, 0, j, _, hj => by
    show (a.cells ++ acells r)[0 * 3 + j]? = _
    rw [Nat.zero_mul, Nat.zero_add, List.getElem?_append_left (by simpa [PArg.cells] using hj)]; rfl
  | a :: r, i + 1, j, h, hj => by
    show (a.cells ++ acells r)[(i + 1) * 3 + j]? = _
    rw [List.getElem?_append_right (by simp [PArg.cells]; omega)]
    have := acells_get r i j (by simpa using h) hj
    rw [List.getElem_cons_succ, ← this]
    congr 1
    simp [PArg.cells]; omega
  | [], i, j, h, _ => by simp at h

end Go.Proofs.YtdmhebibnnemnaaDoor.parw
