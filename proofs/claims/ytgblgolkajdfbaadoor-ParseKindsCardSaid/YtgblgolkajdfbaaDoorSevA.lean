/- The walk of burnishlaw17.Same at two rows that are the same. Condition: both lie in memory, within the reach. -/
import Derived.Test.YtgblgolkajdfbaaDoorParE
import Derived.Laws.FloatBits
import Derived.Laws.FloatArith
import Derived.Laws.Externs
namespace Go.Proofs.YtgblgolkajdfbaaDoor.parw
open Go.RowKit
open Go.Proofs.YtgblgolkajdfbaaDoor.lexw
attribute [local go_sem] run_store_float

theorem fbits_run (x : Nat) (w : World) : (callFunc 21 #[.float .f64 x]).run Tryd.prog w = .ok (.value (.int .u64 x)) w := by
  rw [@run_callFunc_extern Tryd.prog 21 _ Extern.MathFloatBits.float64bits Tryd.func21 (by kernel_rfl) (by kernel_rfl) (by kernel_rfl) (by kernel_rfl)]
  rfl
attribute [local go_sem] fbits_run

theorem same01_self (x : Nat) (w : World) : Calls Tryd.prog 12 #[.float .f64 x, .float .f64 x] w fun e w' => e = .returned (.bool true) ∧ w' = w := by
  go_enter Tryd.func12, Tryd.ntmps12
  go_wp2
  go_ret
  exact ⟨by simp, rfl⟩

/-- the slice value v holds the arguments l, in blocks below B -/
def ARead (W : World) (B : Nat) (v : Value) (l : List PArg) : Prop :=
  ∃ A c, v = .slice A l.length c ∧ (l ≠ [] → ∃ g off, A = some ⟨g, off, none⟩ ∧ g < B ∧ ∀ j u, (acells l)[j]? = some u → W.cell? ⟨g, off + j, none⟩ = some u)
/-- the slice value v holds the statements l, in blocks below B -/
def SRead (W : World) (B : Nat) (v : Value) (l : List PStmt) : Prop :=
  ∃ (vs : List Value) (A : Option Addr) (c : Nat), vs.length = l.length ∧ v = .slice A l.length c ∧
    (l ≠ [] → ∃ g off, A = some ⟨g, off, none⟩ ∧ g < B ∧ ∀ j u, (scells l vs)[j]? = some u → W.cell? ⟨g, off + j, none⟩ = some u) ∧
    ∀ i (h1 : i < vs.length) (h2 : i < l.length), ARead W B vs[i] l[i].args
theorem ARead.keep {W W' : World} {B : Nat} {v : Value} {l : List PArg} (h : ARead W B v l) (hg : ∀ g, g < B → g < W.heap.size → W'.heap[g]? = W.heap[g]?) : ARead W' B v l := by
  obtain ⟨A, c, hv, hx⟩ := h
  refine ⟨A, c, hv, fun h0 => ?_⟩
  obtain ⟨g, off, hA, hB, hcell⟩ := hx h0
  exact ⟨g, off, hA, hB, fun j u hu => (World.cell?_of_block (a := ⟨g, off + j, none⟩) (hg g hB (World.block_lt_of_cell? W _ (hcell j u hu)))).trans (hcell j u hu)⟩
theorem SRead.keep {W W' : World} {B : Nat} {v : Value} {l : List PStmt} (h : SRead W B v l) (hg : ∀ g, g < B → g < W.heap.size → W'.heap[g]? = W.heap[g]?) : SRead W' B v l := by
  obtain ⟨vs, A, c, hl, hv, hx, ha⟩ := h
  refine ⟨vs, A, c, hl, hv, fun h0 => ?_, fun i h1 h2 => (ha i h1 h2).keep hg⟩
  obtain ⟨g, off, hA, hB, hcell⟩ := hx h0
  exact ⟨g, off, hA, hB, fun j u hu => (World.cell?_of_block (a := ⟨g, off + j, none⟩) (hg g hB (World.block_lt_of_cell? W _ (hcell j u hu)))).trans (hcell j u hu)⟩
theorem ARead.of_own {W : World} {base : Nat} {v : Value} {l : List PArg} (h : W.ownsRow base 38 3 v l.length (acells l)) : ARead W W.heap.size v l := by
  rcases h.2 with ⟨rfl, hn⟩ | ⟨g, cap, cur, rfl, _, hgg, _⟩
  · exact ⟨_, _, by rw [hn], fun h0 => absurd (List.eq_nil_of_length_eq_zero hn) h0⟩
  · refine ⟨_, _, rfl, fun _ => ⟨g, 0, rfl, (Array.getElem?_eq_some_iff.1 hgg).1, fun j u hu => ?_⟩⟩
    have hc := h.cells (g := g) rfl j u hu
    have hadd : (⟨g, 0, none⟩ : Addr).add j = ⟨g, j, none⟩ := by unfold Addr.add; split <;> simp_all
    rw [hadd] at hc
    rw [Nat.zero_add]
    exact hc
theorem SRead.of_row {W : World} {base : Nat} {v : Value} {l : List PStmt} (h : SRow W base v l) : SRead W W.heap.size v l := by
  obtain ⟨vs, hl, ho, ha⟩ := h
  rcases ho.2 with ⟨rfl, hn⟩ | ⟨g, cap, cur, rfl, _, hgg, _⟩
  · exact ⟨vs, _, _, hl, by rw [hn], fun h0 => absurd (List.eq_nil_of_length_eq_zero hn) h0, fun i h1 h2 => .of_own (ha i h1 h2)⟩
  · refine ⟨vs, _, _, hl, rfl, fun _ => ⟨g, 0, rfl, (Array.getElem?_eq_some_iff.1 hgg).1, fun j u hu => ?_⟩, fun i h1 h2 => .of_own (ha i h1 h2)⟩
    have hc := ho.cells (g := g) rfl j u hu
    have hadd : (⟨g, 0, none⟩ : Addr).add j = ⟨g, j, none⟩ := by unfold Addr.add; split <;> simp_all
    rw [hadd] at hc
    rw [Nat.zero_add]
    exact hc

theorem scells_get : ∀ (l : List PStmt) (vs : List Value) (i j : Nat) (h1 : i < vs.length) (h2 : i < l.length), j < 4 → vs.length = l.length → (scells l vs)[i * 4 + j]? = (stCells l[i] vs[i])[j]?
  | s :: r, v :: q, 0, j, _, _, hj, _ => by
    simp only [scells, Nat.zero_mul, Nat.zero_add, List.getElem_cons_zero]
    rw [List.getElem?_append_left (by simpa [stCells] using hj)]
  | s :: r, v :: q, i + 1, j, h1, h2, hj, hl => by
    simp only [scells, List.getElem_cons_succ]
    rw [List.getElem?_append_right (by simp [stCells]; omega)]
    have := scells_get r q i j (by simpa using h1) (by simpa using h2) hj (by simpa using hl)
    rw [← this]
    congr 1
    simp [stCells]; omega
  | [], _, i, j, _, h2, _, _ => by simp at h2
  | _ :: _, [], i, j, h1, _, _, _ => by simp at h1
theorem acells_get : ∀ (l : List PArg) (i j : Nat) (h : i < l.length), j < 3 → (acells l)[i * 3 + j]? = (l[i].cells)[j]?
  | a :: r, 0, j, _, hj => by
    show (a.cells ++ acells r)[0 * 3 + j]? = _
    rw [Nat.zero_mul, Nat.zero_add, List.getElem?_append_left (by simpa [PArg.cells] using hj)]; rfl
  | a :: r, i + 1, j, h, hj => by
    show (a.cells ++ acells r)[(i + 1) * 3 + j]? = _
    rw [List.getElem?_append_right (by simp [PArg.cells]; omega)]
    have := acells_get r i j (by simpa using h) hj
    rw [List.getElem_cons_succ, ← this]
    congr 1
    simp [PArg.cells]; omega
  | [], i, j, h, _ => by simp at h

set_option maxRecDepth 100000 in
set_option maxHeartbeats 4000000 in
theorem same17_eq (B : Nat) (v1 v2 : Value) (l : List PStmt) (w : World) (h1 : SRead w B v1 l) (h2 : SRead w B v2 l) (hB : B ≤ w.heap.size) (hl : l.length ≤ 1000000000000) (hal : ∀ s ∈ l, s.args.length ≤ 1000000000000) :
    Calls Tryd.prog 7 #[v1, v2] w fun e w' => e = .returned (.bool true) ∧ Below w.heap.size w w' := by
  obtain ⟨vs1, A1, c1, hl1, rfl, hx1, ha1⟩ := h1
  obtain ⟨vs2, A2, c2, hl2, rfl, hx2, ha2⟩ := h2
  go_enter Tryd.func7, Tryd.ntmps7
  go_wp2_with fail
  go_loopw [18] (fun i wr => ∃ k : Nat, k ≤ l.length ∧ i = .int .i64 k ∧ w.grownBy wr none) (fun i _ => l.length - (intOf i).toNat)
  case atStart => exact ⟨0, Nat.zero_le _, rfl, World.grownBy.refl _ _⟩
  case round =>
    obtain ⟨k, hk, rfl, hg⟩ := hrel
    by_cases hkl : k < l.length
    · obtain ⟨g1, o1, rfl, hb1, hc1⟩ := hx1 (by intro e; subst e; simp at hkl)
      obtain ⟨g2, o2, rfl, hb2, hc2⟩ := hx2 (by intro e; subst e; simp at hkl)
      have hK : ∀ g, g < B → g < w.heap.size → wr.heap[g]? = w.heap[g]? := fun g _ h => hg.block g h (by simp)
      obtain ⟨s, hs⟩ : ∃ s, l[k] = s := ⟨_, rfl⟩
      obtain ⟨u1, hu1⟩ : ∃ u, vs1[k]'(by omega) = u := ⟨_, rfl⟩
      obtain ⟨u2, hu2⟩ : ∃ u, vs2[k]'(by omega) = u := ⟨_, rfl⟩
      have r1 := (ha1 k (by omega) hkl).keep hK
      have r2 := (ha2 k (by omega) hkl).keep hK
      rw [hs, hu1] at r1
      rw [hs, hu2] at r2
      have q1 : ∀ j u, (stCells s u1)[j]? = some u → wr.cell? ⟨g1, o1 + k * 4 + j, none⟩ = some u := fun j u hu => by
        have hj : j < 4 := by have := (List.getElem?_eq_some_iff.1 hu).1; simpa [stCells] using this
        have h := hc1 (k * 4 + j) u (by rw [scells_get l vs1 k j (by omega) hkl hj hl1, hs, hu1]; exact hu)
        rw [Nat.add_assoc]
        exact (World.cell?_of_block (a := ⟨g1, o1 + (k * 4 + j), none⟩) (hK g1 hb1 (by omega))).trans h
      have q2 : ∀ j u, (stCells s u2)[j]? = some u → wr.cell? ⟨g2, o2 + k * 4 + j, none⟩ = some u := fun j u hu => by
        have hj : j < 4 := by have := (List.getElem?_eq_some_iff.1 hu).1; simpa [stCells] using this
        have h := hc2 (k * 4 + j) u (by rw [scells_get l vs2 k j (by omega) hkl hj hl2, hs, hu2]; exact hu)
        rw [Nat.add_assoc]
        exact (World.cell?_of_block (a := ⟨g2, o2 + (k * 4 + j), none⟩) (hK g2 hb2 (by omega))).trans h
      have hsl : s.args.length ≤ 1000000000000 := hal s (by rw [← hs]; exact List.getElem_mem hkl)
      have x0 := q1 0 _ rfl
      have x1 := q1 1 _ rfl
      have x2 := q1 2 _ rfl
      have x3 := q1 3 _ rfl
      have y0 := q2 0 _ rfl
      have y1 := q2 1 _ rfl
      have y2 := q2 2 _ rfl
      have y3 := q2 3 _ rfl
      rw [Nat.add_zero] at x0 y0
      obtain ⟨D1, d1, rfl, hr1⟩ := r1
      obtain ⟨D2, d2, rfl, hr2⟩ := r2
      have hsz := hg.size
      have hg1l : g1 < wr.heap.size := by omega
      have hg2l : g2 < wr.heap.size := by omega
      clear q1 q2 hc1 hc2 hs hu1 hu2 hK
      go_upto_region 6 with (fail)
      go_cut [6, 7] from 21 to 28 (fun x y wx => ∃ bx by_, x = .pointer (some ⟨bx, 0, none⟩) ∧ y = .pointer (some ⟨by_, 0, none⟩) ∧ wr.heap.size ≤ bx ∧ wr.heap.size ≤ by_ ∧ wr.grownBy wx none ∧
        wx.heap[bx]? = some (.cells #[.string s.name, .int .i64 s.pos, .int .u8 s.kind, .slice D1 s.args.length d1] 41 (0, 0)) ∧ wx.heap[by_]? = some (.cells #[.string s.name, .int .i64 s.pos, .int .u8 s.kind, .slice D2 s.args.length d2] 41 (0, 0)))
      case first =>
        go_region
        · go_wp2_with fail
          go_meet
          exact ⟨wr.heap.size, wr.heap.size + 1, rfl, rfl, Nat.le_refl _, by omega, grown_drew (grown_trans (World.grownBy_alloc wr _ _) (World.grownBy_alloc _ _ _)), (World.heap_alloc_lt' _ _ _ (by simp)).trans (heap_at wr _ _ rfl), heap_at _ _ _ (by simp)⟩
        · go_wp2_with fail
          go_meet
          exact ⟨wr.heap.size + 1, wr.heap.size, rfl, rfl, by omega, Nat.le_refl _, grown_drew (grown_trans (World.grownBy_alloc wr _ _) (World.grownBy_alloc _ _ _)), heap_at _ _ _ (by simp), (World.heap_alloc_lt' _ _ _ (by simp)).trans (heap_at wr _ _ rfl)⟩
      case rest =>
        obtain ⟨bx, by_, rfl, rfl, hbx, hby, gx, kx, ky⟩ := hcut
        have hgx := grown_trans hg gx
        have hbxl : bx < wc.heap.size := (Array.getElem?_eq_some_iff.1 kx).1
        have hbyl : by_ < wc.heap.size := (Array.getElem?_eq_some_iff.1 ky).1
        have hr1' : ARead wc B (.slice D1 s.args.length d1) s.args := ARead.keep ⟨D1, d1, rfl, hr1⟩ fun g _ h => gx.block g h (by simp)
        have hr2' : ARead wc B (.slice D2 s.args.length d2) s.args := ARead.keep ⟨D2, d2, rfl, hr2⟩ fun g _ h => gx.block g h (by simp)
        have X0 := (cell_of_row wc bx 0 _ _ _ kx).trans rfl
        have X1 := (cell_of_row wc bx 1 _ _ _ kx).trans rfl
        have X2 := (cell_of_row wc bx 2 _ _ _ kx).trans rfl
        have X3 := (cell_of_row wc bx 3 _ _ _ kx).trans rfl
        have Y0 := (cell_of_row wc by_ 0 _ _ _ ky).trans rfl
        have Y1 := (cell_of_row wc by_ 1 _ _ _ ky).trans rfl
        have Y2 := (cell_of_row wc by_ 2 _ _ _ ky).trans rfl
        have Y3 := (cell_of_row wc by_ 3 _ _ _ ky).trans rfl
        have hse : (s.name.toList == s.name.toList) = true := by simp
        clear x0 x1 x2 x3 y0 y1 y2 y3 hr1 hr2 gx hx1 hx2 ha1 ha2
        have hwc : B ≤ wc.heap.size := by have := hgx.size; omega
        generalize hWC : wc = w2 at *
        clear hWC
        go_wp2_with fail
        go_loopw [60] (fun i wr => ∃ j : Nat, j ≤ s.args.length ∧ i = .int .i64 j ∧ w2.grownBy wr none) (fun i _ => s.args.length - (intOf i).toNat)
        case atStart => exact ⟨0, Nat.zero_le _, rfl, World.grownBy.refl _ _⟩
        case round =>
          obtain ⟨j, hj, rfl, hg2⟩ := hrel
          have hz2 := hg2.size
          have kx2 := (hg2.block bx hbxl (by simp)).trans kx
          have ky2 := (hg2.block by_ hbyl (by simp)).trans ky
          by_cases hjl : j < s.args.length
          · obtain ⟨_, _, e1, hq1⟩ := hr1'
            obtain ⟨_, _, e2, hq2⟩ := hr2'
            injection e1 with e1 _ e1'
            injection e2 with e2 _ e2'
            subst e1 e2 e1' e2'
            obtain ⟨ga, oa, rfl, hga, hca⟩ := hq1 (by intro e; rw [e] at hjl; simp at hjl)
            obtain ⟨gb, ob, rfl, hgb, hcb⟩ := hq2 (by intro e; rw [e] at hjl; simp at hjl)
            obtain ⟨a, ha⟩ : ∃ a, s.args[j] = a := ⟨_, rfl⟩
            have p1 : ∀ i u, a.cells[i]? = some u → wr.cell? ⟨ga, oa + j * 3 + i, none⟩ = some u := fun i u hu => by
              have hi : i < 3 := by have := (List.getElem?_eq_some_iff.1 hu).1; simpa [PArg.cells] using this
              rw [Nat.add_assoc]
              exact (World.cell?_of_block (a := ⟨ga, oa + (j * 3 + i), none⟩) (hg2.block ga (by omega) (by simp))).trans (hca (j * 3 + i) u (by rw [acells_get _ j i hjl hi, ha]; exact hu))
            have p2 : ∀ i u, a.cells[i]? = some u → wr.cell? ⟨gb, ob + j * 3 + i, none⟩ = some u := fun i u hu => by
              have hi : i < 3 := by have := (List.getElem?_eq_some_iff.1 hu).1; simpa [PArg.cells] using this
              rw [Nat.add_assoc]
              exact (World.cell?_of_block (a := ⟨gb, ob + (j * 3 + i), none⟩) (hg2.block gb (by omega) (by simp))).trans (hcb (j * 3 + i) u (by rw [acells_get _ j i hjl hi, ha]; exact hu))
            have a0 := p1 0 _ rfl
            have a1 := p1 1 _ rfl
            have a2 := p1 2 _ rfl
            have b0 := p2 0 _ rfl
            have b1 := p2 1 _ rfl
            have b2 := p2 2 _ rfl
            rw [Nat.add_zero] at a0 b0
            have Y3' := (cell_of_row wr by_ 3 _ _ _ ky2).trans rfl
            have hgal : ga < wr.heap.size := by omega
            have hgbl : gb < wr.heap.size := by omega
            have hbyl2 : by_ < wr.heap.size := by omega
            have hne : (a.name.toList == a.name.toList) = true := by simp
            clear p1 p2 hca hcb hq1 hq2 ha kx2 ky2 X0 X1 X2 X3 Y0 Y1 Y2 Y3
            go_wp2_with (go_at_call 12; refine (same01_self _ _).mono ?_; rintro e wq ⟨rfl, rfl⟩)
            go_roundw
            case rel => exact ⟨j + 1, by omega, by go_num, grown_trans hg2 (grown_trans (World.grownBy_alloc wr _ _) (World.grownBy_alloc _ _ _))⟩
            case measure => simp [intOf]; omega
          · obtain rfl : j = s.args.length := by omega
            go_wp2_with fail
            go_roundw
            case rel => exact ⟨k + 1, by omega, by go_num, grown_trans hgx hg2⟩
            case measure => simp [intOf]; omega
    · obtain rfl : k = l.length := by omega
      go_wp2_with fail
      go_ret
      exact ⟨rfl, below_of_grown hg⟩

end Go.Proofs.YtgblgolkajdfbaaDoor.parw
