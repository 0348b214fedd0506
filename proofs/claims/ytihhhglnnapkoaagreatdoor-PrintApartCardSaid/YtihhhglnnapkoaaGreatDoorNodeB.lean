/- The walk of check.Right. Condition: the nodes lie in memory, within the reach. -/
import Derived.Test.YtihhhglnnapkoaaGreatDoorNodeA
import Derived.Deep.MidRow
import Derived.Laws.CopyOwn
import Derived.Laws.Tables
namespace Go.Proofs.YtihhhglnnapkoaaGreatDoor.nodew
open Go.RowKit Go.Shelf
open Go.Proofs.YtihhhglnnapkoaaGreatDoor.words
attribute [local go_sem] run_store_float

def ncells (l : List Nd) : List Value := l.flatMap Nd.cells
theorem nd_cells_len (n : Nd) : n.cells.length = 19 := rfl
theorem ncells_get : ∀ (l : List Nd) (i j : Nat) (h : i < l.length), j < 19 → (ncells l)[i * 19 + j]? = (l[i].cells)[j]?
  | a :: r, 0, j, _, hj => by
    show (a.cells ++ ncells r)[0 * 19 + j]? = _
    rw [Nat.zero_mul, Nat.zero_add, List.getElem?_append_left (by rw [nd_cells_len]; exact hj)]; rfl
  | a :: r, i + 1, j, h, hj => by
    show (a.cells ++ ncells r)[(i + 1) * 19 + j]? = _
    rw [List.getElem?_append_right (by rw [nd_cells_len]; omega)]
    have := ncells_get r i j (by simpa using h) hj
    rw [List.getElem_cons_succ, ← this, nd_cells_len]
    congr 1
    omega
  | [], i, j, h, _ => by simp at h

/-- the slice value v holds the nodes l, in blocks below B -/
def NRead (W : World) (B : Nat) (v : Value) (l : List Nd) : Prop :=
  ∃ A c, v = .slice A l.length c ∧ (l ≠ [] → ∃ g off, A = some ⟨g, off, none⟩ ∧ g < B ∧ g < W.heap.size ∧ ∀ j u, (ncells l)[j]? = some u → W.cell? ⟨g, off + j, none⟩ = some u)
theorem NRead.keep {W W' : World} {B : Nat} {v : Value} {l : List Nd} (h : NRead W B v l) (hz : W.heap.size ≤ W'.heap.size) (hg : ∀ g, g < B → g < W.heap.size → W'.heap[g]? = W.heap[g]?) : NRead W' B v l := by
  obtain ⟨A, c, hv, hx⟩ := h
  refine ⟨A, c, hv, fun h0 => ?_⟩
  obtain ⟨g, off, hA, hB, hgl, hcell⟩ := hx h0
  exact ⟨g, off, hA, hB, by omega, fun j u hu => (World.cell?_of_block (a := ⟨g, off + j, none⟩) (hg g hB hgl)).trans (hcell j u hu)⟩
/-- a node's numbers are numbers -/
def Nd.ok (n : Nd) : Prop := n.x.length = 16 ∧ ∀ v ∈ n.x, v < 18446744073709551616
theorem Nd.load_at (n : Nd) (W : World) (g off : Nat) (h : ∀ j u, n.cells[j]? = some u → W.cell? ⟨g, off + j, none⟩ = some u) : (Instr.loadAt 31 (.pointer (some ⟨g, off, none⟩))).run Tryz.prog W = .ok n.val W :=
  run_loadAt_mid W g off 31 n.cells _ h Tryz.underlying31 rfl (by kernel_rfl)

/-- are nodes a program -/
def rightP (l : List Nd) : Bool := ((List.range l.length).all fun i => match l[i]? with | some n => nodeOk n i | none => true) && decide (0 < l.length) && decide (l.length ≤ 4096)
theorem rightP_bad {l : List Nd} {k : Nat} (hk : k < l.length) (h : nodeOk l[k] k = false) : rightP l = false := by
  unfold rightP
  have : ((List.range l.length).all fun i => match l[i]? with | some n => nodeOk n i | none => true) = false := by
    rw [List.all_eq_false]
    exact ⟨k, List.mem_range.2 hk, by simp [hk, h]⟩
  rw [this]; rfl
theorem rightP_good {l : List Nd} (h : ∀ k (hk : k < l.length), nodeOk l[k] k = true) : rightP l = (decide (0 < l.length) && decide (l.length ≤ 4096)) := by
  unfold rightP
  have : ((List.range l.length).all fun i => match l[i]? with | some n => nodeOk n i | none => true) = true := by
    rw [List.all_eq_true]
    intro i hi
    have hi := List.mem_range.1 hi
    simp [hi, h i hi]
  rw [this]; rfl

theorem nd_info (n : Nd) : (Tryz.prog.info? 31).map (·.size) = some n.cells.toArray.size := by kernel_rfl
theorem nd_one (n : Nd) : n.cells.toArray.all (·.oneCell') = true := by simp [Nd.cells, Value.oneCell']
theorem nd_size (n : Nd) : n.cells.toArray.size = 19 := by rw [List.size_toArray]; rfl
theorem nblk_new (W : World) (n : Nd) : NBlk (W.alloc (.cells n.cells.toArray 31)) W.heap.size n := heap_alloc_new W _

set_option maxRecDepth 100000 in
set_option maxHeartbeats 4000000 in
theorem right_any (B : Nat) (v : Value) (l : List Nd) (hok : ∀ n ∈ l, n.ok) (hl : l.length ≤ 1000000000000) (w : World) (hr : NRead w B v l) (_hB : B ≤ w.heap.size) :
    Calls Tryz.prog 8 #[v] w fun e w' => e = .returned (.bool (rightP l)) ∧ Below w.heap.size w w' := by
  obtain ⟨A, c, rfl, hx⟩ := hr
  go_enter Tryz.func8, Tryz.ntmps8
  go_wp2_with fail
  go_loopw [7] (fun i wr => ∃ k : Nat, k ≤ l.length ∧ i = .int .i64 k ∧ Below w.heap.size w wr ∧ ∀ j (hj : j < l.length), j < k → nodeOk l[j] j = true) (fun i _ => l.length - (intOf i).toNat)
  case atStart => exact ⟨0, Nat.zero_le _, rfl, Below.refl _ _, fun _ _ h => by omega⟩
  case round =>
    obtain ⟨k, hk, rfl, hBr, hall⟩ := hrel
    have hz := hBr.size
    by_cases hkl : k < l.length
    · obtain ⟨g, off, rfl, hgB, hgl, hcell⟩ := hx (by intro e; subst e; simp at hkl)
      obtain ⟨n, hn⟩ : ∃ n, l[k] = n := ⟨_, rfl⟩
      have hno : n.ok := hok n (by rw [← hn]; exact List.getElem_mem hkl)
      have hrg : wr.rangeAt g (off + k * 19) n.cells := fun j u hu => by
        have hj : j < 19 := by have := (List.getElem?_eq_some_iff.1 hu).1; rwa [nd_cells_len] at this
        rw [Nat.add_assoc]
        exact (World.cell?_of_block (a := ⟨g, off + (k * 19 + j), none⟩) (hBr.block g hgl)).trans (hcell (k * 19 + j) u (by rw [ncells_get l k j hkl hj, hn]; exact hu))
      have HA := Lib.hid hall
      have HNO := Lib.hid hno
      have HN := Lib.hid hn
      have HR := Lib.hid hrg
      clear hall hno hn hcell hrg
      go_wp2_with (first
        | (refine wpList_load_mid rfl 31 (.tmp 10) rfl g (off + k * 19) rfl n.cells _ HR.out Tryz.underlying31 rfl (by kernel_rfl) ?_)
        | (refine wpList_store_row rfl 31 (.tmp 4) (.tmp 11) rfl wr.heap.size n.cells.toArray rfl rfl _ _ (heap_alloc_new wr _) (nd_info n) (by rw [nd_size]; rfl) (nd_one n) ?_)
        | (refine wpList_load_row rfl 31 (.tmp 4) rfl wr.heap.size rfl _ n.cells.toArray _ _ (setRow_heap _ _ _ _ _ _ (heap_alloc_new wr _)) Tryz.underlying31 rfl (by kernel_rfl) ?_))
      obtain ⟨W, hW⟩ : ∃ W, W = (wr.alloc (.cells #[.int .u8 0, .float .f64 0, .float .f64 0, .float .f64 0, .float .f64 0, .float .f64 0, .float .f64 0, .float .f64 0, .float .f64 0, .float .f64 0, .float .f64 0, .float .f64 0, .float .f64 0, .float .f64 0, .float .f64 0, .float .f64 0, .float .f64 0, .int .i64 0, .int .i64 0] 31)).setRow wr.heap.size n.cells.toArray := ⟨_, rfl⟩
      have hBW : Below w.heap.size w W := by rw [hW]; exact below_setRow (hBr.alloc hz _) hz _
      rw [← hW]
      clear hW
      have hno := HNO.out
      refine (node_any n hno.2 hno.1 k W).mono ?_
      rintro e wy ⟨rfl, hBy⟩
      have hBz := hBW.trans (hBy.mono hBW.size)
      cases hq : nodeOk n k with
      | true =>
        have H1 := Lib.hid hq
        clear hq hno hBW hBy
        go_wp2_with fail
        go_roundw
        case rel =>
          refine ⟨k + 1, by omega, by go_num, hBz, fun j hj hjk => ?_⟩
          by_cases e : j = k
          · subst e; rw [HN.out]; exact H1.out
          · exact HA.out j hj (by omega)
        case measure => simp [intOf]; omega
      | false =>
        have hbad : rightP l = false := rightP_bad hkl (by rw [HN.out]; exact hq)
        have HB := Lib.hid hbad
        clear hq hno hbad hBW hBy
        go_wp2_with fail
        go_ret
        exact ⟨ret_bool HB.out.symm, hBz⟩
    · obtain rfl : k = l.length := by omega
      have hg := rightP_good fun j hj => hall j hj hj
      have HG := Lib.hid hg
      clear hg hall
      go_wp2_with fail
      all_goals go_ret
      all_goals refine ⟨ret_bool ?_, hBr⟩
      all_goals rw [HG.out]
      all_goals by_cases h1 : 0 < l.length
      all_goals by_cases h2 : l.length ≤ 4096
      all_goals simp [h1, h2]
      all_goals omega

end Go.Proofs.YtihhhglnnapkoaaGreatDoor.nodew
