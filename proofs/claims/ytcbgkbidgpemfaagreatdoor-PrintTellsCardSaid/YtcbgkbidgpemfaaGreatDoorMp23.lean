/- print.Line. Condition: the node's numbers are numbers. -/
import Derived.Test.YtcbgkbidgpemfaaGreatDoorMp22
namespace Go.Proofs.YtcbgkbidgpemfaaGreatDoor.prnw
open Go.RowKit
open Go.Shelf
open Go.Sort
open Go.BigFrame
open Go.Proofs.YtcbgkbidgpemfaaGreatDoor.qt
open Go.Proofs.YtcbgkbidgpemfaaGreatDoor.nodew
open Go.Proofs.YtcbgkbidgpemfaaGreatDoor.chkw
open Go.Proofs.YtcbgkbidgpemfaaGreatDoor.flatm

def eqB : ByteArray := ⟨#[61]⟩
theorem nm_enter (args : Array Value) (w : World) : (callFunc 47 args).run Tryz.prog w = .ok (.enter 47 args) w := callFunc_enter Tryz.func47 (by kernel_rfl) rfl args w
theorem wd_enter (args : Array Value) (w : World) : (callFunc 8 args).run Tryz.prog w = .ok (.enter 8 args) w := callFunc_enter Tryz.func8 (by kernel_rfl) rfl args w
theorem exec_nm {o : Oper} (x : Operand) (ats : Array TypeId) (ho : o.op = .call { callee := .value (.func 47), args := #[x], argTypes := ats }) (a : Act) (vx : Value) (hx : a.eval x = vx) (w : World) : (execOp a.eval o).run Tryz.prog w = .ok (.enter 47 #[vx]) w :=
  exec_call _ #[x] ats ho a #[vx] (by simp [hx]) w (nm_enter _ w)
theorem exec_wd {o : Oper} (x : Operand) (ats : Array TypeId) (ho : o.op = .call { callee := .value (.func 8), args := #[x], argTypes := ats }) (a : Act) (vx : Value) (hx : a.eval x = vx) (w : World) : (execOp a.eval o).run Tryz.prog w = .ok (.enter 8 #[vx]) w :=
  exec_call _ #[x] ats ho a #[vx] (by simp [hx]) w (wd_enter _ w)
theorem alS_run (w : World) : (Instr.alloc 55 true (.tuple #[])).run Tryz.prog w = .ok (.pointer (some ⟨w.heap.size, 0, none⟩)) (w.alloc (.cells #[.slice none 0 0] 55)) := by
  kernel_rfl
theorem exec_alS {o : Oper} (ho : o.op = .alloc 55) (a : Act) (w : World) : (execOp a.eval o).run Tryz.prog w = .ok (.value (.pointer (some ⟨w.heap.size, 0, none⟩))) (w.alloc (.cells #[.slice none 0 0] 55)) := by
  unfold execOp
  simp only [ho, Sem.run_bind, alS_run, Result.andThen_ok, Sem.run_pure]
theorem bsS3_run (w : World) (S1 S2 S3 : ByteArray) : (Instr.buildSlice 55 3 #[(0, .string S1), (1, .string S2), (2, .string S3)]).run Tryz.prog w = .ok (.slice (some ⟨w.heap.size, 0, none⟩) 3 3) (w.alloc (.cells #[.string S1, .string S2, .string S3] 9)) := by
  kernel_rfl
theorem exec_bsS3 {o : Oper} (x0 x2 : Operand) (ho : o.op = .buildSlice 55 3 #[(0, x0), (1, .const (.string ⟨#[61]⟩)), (2, x2)]) (a : Act) (w : World) (S1 S3 : ByteArray) (h0 : a.eval x0 = .string S1) (h2 : a.eval x2 = .string S3) :
    (execOp a.eval o).run Tryz.prog w = .ok (.value (.slice (some ⟨w.heap.size, 0, none⟩) 3 3)) (w.alloc (.cells (List.map Value.string [S1, eqB, S3]).toArray 9)) := by
  have h1 : a.eval (.const (.string ⟨#[61]⟩)) = .string eqB := rfl
  unfold execOp
  simp only [ho, Sem.run_bind, List.map_toArray, List.map_cons, List.map_nil, h0, h1, h2, bsS3_run, Result.andThen_ok, Sem.run_pure]
theorem exec_stS {o : Oper} (x y : Operand) (ho : o.op = .store 55 x y) (a : Act) (w : World) (lb : Nat) (v old : Value) (hx : a.eval x = .pointer (some ⟨lb, 0, none⟩)) (hy : a.eval y = v) (hv : ∃ ad n c, v = .slice ad n c) (hb : w.heap[lb]? = some (.cells #[old] 55 (0, 0))) :
    (execOp a.eval o).run Tryz.prog w = .ok .skip (w.setCell ⟨lb, 0, none⟩ v) := by
  obtain ⟨ad, n, c, rfl⟩ := hv
  have hc : w.cell? ⟨lb, 0, none⟩ = some old := by rw [cell_of_row w lb 0 _ _ _ hb]; rfl
  have hf : w.frozen? ⟨lb, 0, none⟩ = false := by
    simp only [World.frozen?, hb]
    simp
  have hr : (Instr.storeAt 55 (.pointer (some ⟨lb, 0, none⟩)) (.slice ad n c)).run Tryz.prog w = .ok () (w.setCell ⟨lb, 0, none⟩ (.slice ad n c)) := by
    simp [Instr.storeAt, Instr.sureAddr, storeVar, stored, hc, hf, go_sem]
  unfold execOp
  simp only [ho, hx, hy, hr, Sem.run_bind, Sem.run_pure, Result.andThen_ok]
theorem bsS1_run (w : World) (S1 : ByteArray) : (Instr.buildSlice 55 1 #[(0, .string S1)]).run Tryz.prog w = .ok (.slice (some ⟨w.heap.size, 0, none⟩) 1 1) (w.alloc (.cells #[.string S1] 9)) := by
  kernel_rfl
theorem exec_bsS1 {o : Oper} (x0 : Operand) (ho : o.op = .buildSlice 55 1 #[(0, x0)]) (a : Act) (w : World) (S1 : ByteArray) (h0 : a.eval x0 = .string S1) :
    (execOp a.eval o).run Tryz.prog w = .ok (.value (.slice (some ⟨w.heap.size, 0, none⟩) 1 1)) (w.alloc (.cells (List.map Value.string [S1]).toArray 9)) := by
  unfold execOp
  simp only [ho, Sem.run_bind, List.map_toArray, List.map_cons, List.map_nil, h0, bsS1_run, Result.andThen_ok, Sem.run_pure]
theorem bsS2_run (w : World) (S1 S2 : ByteArray) : (Instr.buildSlice 55 2 #[(0, .string S1), (1, .string S2)]).run Tryz.prog w = .ok (.slice (some ⟨w.heap.size, 0, none⟩) 2 2) (w.alloc (.cells #[.string S1, .string S2] 9)) := by
  kernel_rfl
theorem exec_bsS2 {o : Oper} (x0 x1 : Operand) (ho : o.op = .buildSlice 55 2 #[(0, x0), (1, x1)]) (a : Act) (w : World) (S1 S2 : ByteArray) (h0 : a.eval x0 = .string S1) (h1 : a.eval x1 = .string S2) :
    (execOp a.eval o).run Tryz.prog w = .ok (.value (.slice (some ⟨w.heap.size, 0, none⟩) 2 2)) (w.alloc (.cells (List.map Value.string [S1, S2]).toArray 9)) := by
  unfold execOp
  simp only [ho, Sem.run_bind, List.map_toArray, List.map_cons, List.map_nil, h0, h1, bsS2_run, Result.andThen_ok, Sem.run_pure]
theorem blk_lt {w : World} {b : Nat} {o : Obj} (h : w.heap[b]? = some o) : b < w.heap.size := (Array.getElem?_eq_some_iff.1 h).1
theorem ls_new {w : World} {base lb g : Nat} {l : List ByteArray} {old : Value} (hL : w.heap[lb]? = some (.cells #[old] 55 (0, 0))) (hS : SBuf w base g 3 l) (hne : g ≠ lb) (hle : base ≤ lb) (hl : l.length = 3) :
    LS (w.setCell ⟨lb, 0, none⟩ (.slice (some ⟨g, 0, none⟩) 3 3)) base lb g 3 l := by
  refine ⟨?_, World.ownsRow.kept hS (set_grown _ _ _ _) (.inr (fun e => hne (Option.some.inj e))), hne, hle⟩
  rw [heap_set w lb 0 _ _ _ _ hL, hl]
  rfl
/-- the variable in block lb holds the words l; what w1 held is as it was -/
def LnS (w1 v : World) (lb : Nat) (l : List ByteArray) : Prop := (∃ g cap, LS v w1.heap.size lb g cap l) ∧ Below w1.heap.size w1 v
theorem put_nd {hi lo : Nat → Nat} {w1 v : World} {nb lb : Nat} {n : Nd} {l : List ByteArray} (hn : n.ok) (hE : Env hi lo w1) (hG : Gl w1.heap.size) (hN : NBlk w1 nb n) (hl : l.length ≤ 90) (h : LnS w1 v lb l) (off c : Nat) (ho : 1 ≤ off) (ho2 : off ≤ 14) :
    Calls Tryz.prog 48 #[.slice (some ⟨nb, off, none⟩) 3 c, .pointer (some ⟨lb, 0, none⟩)] v fun e v' => e = .returned (.tuple #[]) ∧ LnS w1 v' lb (l ++ [n.f off, n.f (off + 1), n.f (off + 2)].map (prB hi lo)) := by
  obtain ⟨⟨g, cap, hL⟩, hB⟩ := h
  have hnb : nb < w1.heap.size := blk_lt hN
  have hg := hL.buf.lt
  have hle := hL.le
  have hz := hB.size
  refine (put_any hi lo w1.heap.size lb nb off c g cap [n.f off, n.f (off + 1), n.f (off + 2)] l (fun x hx => ?_) (by simp; omega) v (hE.under hG hB) hG hz hL (fun j x hx => ?_) (by omega) (by omega) (by omega)).mono fun e v' h => ?_
  · have h16 : ∀ j, 1 ≤ j → j ≤ 16 → n.f j < 18446744073709551616 := fun j h1 h2 => by
      refine hn.2 _ ?_
      unfold Nd.f
      have hj : j - 1 < n.x.length := by rw [hn.1]; omega
      rw [List.getD_eq_getElem?_getD, List.getElem?_eq_getElem hj]
      exact List.getElem_mem hj
    simp only [List.mem_cons, List.not_mem_nil, or_false] at hx
    rcases hx with rfl | rfl | rfl
    · exact h16 _ ho (by omega)
    · exact h16 _ (by omega) (by omega)
    · exact h16 _ (by omega) (by omega)
  · rw [hB.cell (p := ⟨nb, off + j, none⟩) hnb, hN.cell]
    match j, hx with
    | 0, hx => rw [← Option.some.inj hx]; exact n.cell_f _ ho (by omega)
    | 1, hx => rw [← Option.some.inj hx]; exact n.cell_f _ (by omega) (by omega)
    | 2, hx => rw [← Option.some.inj hx]; exact n.cell_f _ (by omega) (by omega)
    | k + 3, hx => cases hx
  · exact ⟨h.1, h.2.1.imp fun g h => h.imp fun c h => h.1, hB.trans h.2.2⟩
theorem put_fr {hi lo : Nat → Nat} {w1 v : World} {lb : Nat} {l : List ByteArray} (hE : Env hi lo w1) (hG : Gl w1.heap.size) (hl : l.length ≤ 90) (h : LnS w1 v lb l) (xs : List Nat) (hxs : ∀ x ∈ xs, x < 18446744073709551616) (hx9 : xs.length ≤ 9) (vals : Array Value) (hv : vals = (xs.map (Value.float .f64)).toArray) (m : Nat) (hm : xs.length = m) :
    Calls Tryz.prog 48 #[.slice (some ⟨v.heap.size, 0, none⟩) m m, .pointer (some ⟨lb, 0, none⟩)] (v.alloc (.cells vals 46)) fun e v' => e = .returned (.tuple #[]) ∧ LnS w1 v' lb (l ++ xs.map (prB hi lo)) := by
  subst hv hm
  obtain ⟨⟨g, cap, hL⟩, hB⟩ := h
  have hg := hL.buf.lt
  have hlt := hL.lt
  have hz := hB.size
  have hBa : Below w1.heap.size w1 (v.alloc (.cells (xs.map (Value.float .f64)).toArray 46)) := hB.alloc hz _
  refine (put_any hi lo w1.heap.size lb v.heap.size 0 xs.length g cap xs l hxs (by omega) _ (hE.under hG hBa) hG hBa.size (hL.grown (World.grownBy_alloc v _ none)) (fun j x hx => ?_) (by omega) (by omega) (by simp)).mono fun e v' h => ?_
  · rw [Nat.zero_add, cell_of_row _ _ j _ _ _ (heap_alloc_new v _)]
    simp [hx]
  · exact ⟨h.1, h.2.1.imp fun g h => h.imp fun c h => h.1, hBa.trans h.2.2⟩
theorem join_c {w1 v : World} {lb g cap : Nat} {l : List ByteArray} (hL : LS v w1.heap.size lb g cap l) (sep : ByteArray) (hl : l.length ≤ 100) (hlen : (Lib.join (l.map (·.data.toList)) sep.data.toList).length ≤ 140737488355328) :
    Calls Tryz.prog 50 #[.slice (some ⟨g, 0, none⟩) l.length cap, .string sep] v (Bel v (.string (bA (Lib.join (l.map (·.data.toList)) sep.data.toList)))) := by
  have hcap : l.length ≤ cap := by
    rcases hL.buf.2 with ⟨h, _⟩ | ⟨g', cap', cur, hv, _, _, h1, _⟩
    · cases h
    · cases hv; exact h1
  refine Tryz.strings_Join g 0 cap l sep v (fun j x hx => ?_) hL.buf.lt.2 (by omega) hcap hlen
  have := World.ownsRow.cells hL.buf rfl j (.string x) (by rw [List.getElem?_map, hx]; rfl)
  have hadd : (⟨g, 0, none⟩ : Addr).add j = ⟨g, 0 + j, none⟩ := by unfold Addr.add; split <;> simp_all
  rw [hadd] at this
  exact this
/-- is a line told -/
def lineOk (n : Nd) (at_ : Int) : Bool := decide (0 ≤ at_) && decide (at_ < 4096) && nodeOk n at_
/-- which numbers, and which places, a kind tells -/
def numsK (k : Nat) : List Nat :=
  match k with
  | 1 => [1, 2, 3]
  | 2 => [13, 1, 2, 3]
  | 3 => [14, 15]
  | 4 => [14, 7, 8, 9, 10, 11, 12]
  | 5 => [16]
  | 6 => [15, 4, 5, 6]
  | _ => []
def subsN (n : Nd) : List Int :=
  match n.kind with
  | 5 => [n.a, n.b]
  | 6 => [n.a]
  | _ => []
/-- the words of a line -/
def lineL (hi lo : Nat → Nat) (n : Nd) (at_ : Int) : List ByteArray := [nmB at_, eqB, wordF n.kind] ++ ((numsK n.kind).map n.f).map (prB hi lo) ++ (subsN n).map nmB
def lineT (hi lo : Nat → Nat) (n : Nd) (at_ : Int) : List UInt8 := if lineOk n at_ = true then Lib.join ((lineL hi lo n at_).map (·.data.toList)) [32] else []
def lineE (n : Nd) (at_ : Int) : Int := if lineOk n at_ = true then 0 else 190
theorem joinTail_len (sep : List UInt8) : ∀ r : List (List UInt8), (∀ x ∈ r, x.length ≤ 200) → (Lib.joinTail sep r).length ≤ (200 + sep.length) * r.length
  | [], _ => by simp [Lib.joinTail]
  | x :: r, h => by
    have h1 := joinTail_len sep r (fun y hy => h y (by simp [hy]))
    have h2 := h x (by simp)
    have e : Lib.joinTail sep (x :: r) = (sep ++ x) ++ Lib.joinTail sep r := by simp [Lib.joinTail]
    rw [e, List.length_append, List.length_append, List.length_cons, Nat.mul_succ]
    omega
theorem join_len (sep : List UInt8) (xs : List (List UInt8)) (h : ∀ x ∈ xs, x.length ≤ 200) : (Lib.join xs sep).length ≤ (200 + sep.length) * xs.length := by
  cases xs with
  | nil => rw [Lib.join_nil]; simp
  | cons x r =>
    have h1 := joinTail_len sep r (fun y hy => h y (by simp [hy]))
    have h2 := h x (by simp)
    rw [Lib.join_cons, List.length_append, List.length_cons, Nat.mul_succ]
    omega
theorem nmB_size (k : Int) (k0 : -4000000000000000000 ≤ k) (k1 : k ≤ 4000000000000000000) : (nmB k).size ≤ 22 := by
  have := Lib.itoa_length_le k (by omega) (by omega)
  unfold nmB
  rw [bA_size, List.length_cons]
  omega
theorem wordF_size (k : Nat) : (wordF k).size ≤ 7 := by
  by_cases h : k < 7
  · have : k = 0 ∨ k = 1 ∨ k = 2 ∨ k = 3 ∨ k = 4 ∨ k = 5 ∨ k = 6 := by omega
    rcases this with rfl | rfl | rfl | rfl | rfl | rfl | rfl <;> decide
  · unfold wordF
    rw [List.getD_eq_getElem?_getD, List.getElem?_eq_none (by show 7 ≤ k; omega)]
    decide
theorem bl_len (B : ByteArray) : B.data.toList.length = B.size := by simp
theorem lineL_len (hi lo : Nat → Nat) (n : Nd) (at_ : Int) : (lineL hi lo n at_).length ≤ 12 := by
  unfold lineL
  rw [List.length_append, List.length_append, List.length_map, List.length_map, List.length_map]
  have h1 : (numsK n.kind).length ≤ 7 := by unfold numsK; split <;> simp
  have h2 : (subsN n).length ≤ 2 := by unfold subsN; split <;> simp
  simp only [List.length_cons, List.length_nil]
  omega
theorem lineL_size {hi lo : Nat → Nat} (hh : ∀ i, i < 696 → 9223372036854775808 ≤ hi i ∧ hi i < 18446744073709551616) (n : Nd) (hf : ∀ j, 1 ≤ j → j ≤ 16 → n.f j < 18446744073709551616) (ha : -4000000000000000000 ≤ n.a ∧ n.a ≤ 4000000000000000000) (hb : -4000000000000000000 ≤ n.b ∧ n.b ≤ 4000000000000000000) (at_ : Int) (k0 : -4000000000000000000 ≤ at_) (k1 : at_ ≤ 4000000000000000000) :
    ∀ s ∈ lineL hi lo n at_, s.size ≤ 200 := by
  intro s hs
  unfold lineL at hs
  rcases List.mem_append.1 hs with hs | hs
  · rcases List.mem_append.1 hs with hs | hs
    · simp only [List.mem_cons, List.not_mem_nil, or_false] at hs
      rcases hs with rfl | rfl | rfl
      · exact Nat.le_trans (nmB_size _ k0 k1) (by decide)
      · decide
      · exact Nat.le_trans (wordF_size _) (by decide)
    · obtain ⟨x, hx, rfl⟩ := List.mem_map.1 hs
      obtain ⟨j, hj, rfl⟩ := List.mem_map.1 hx
      have hj2 : 1 ≤ j ∧ j ≤ 16 := by
        unfold numsK at hj
        split at hj <;> simp only [List.mem_cons, List.not_mem_nil, or_false] at hj <;> omega
      exact Nat.le_trans (prB_size hh _ (hf j hj2.1 hj2.2)) (by decide)
  · obtain ⟨x, hx, rfl⟩ := List.mem_map.1 hs
    have hx2 : x = n.a ∨ x = n.b := by
      unfold subsN at hx
      split at hx <;> simp only [List.mem_cons, List.not_mem_nil, or_false] at hx
      · exact hx
      · exact .inl hx
    rcases hx2 with rfl | rfl
    · exact Nat.le_trans (nmB_size _ ha.1 ha.2) (by decide)
    · exact Nat.le_trans (nmB_size _ hb.1 hb.2) (by decide)
theorem line_join {hi lo : Nat → Nat} {w1 v : World} {lb : Nat} {n : Nd} {at_ : Int} (hok : lineOk n at_ = true) (hsz : ∀ s ∈ lineL hi lo n at_, s.size ≤ 200) {l : List ByteArray} (h : LnS w1 v lb l) (hl : l = lineL hi lo n at_) :
    ∃ g cap nl : Nat, v.cell? ⟨lb, 0, none⟩ = some (.slice (some ⟨g, 0, none⟩) nl cap) ∧ Calls Tryz.prog 50 #[.slice (some ⟨g, 0, none⟩) nl cap, .string ⟨#[32]⟩] v (Bel v (.string (bA (lineT hi lo n at_)))) ∧ Below w1.heap.size w1 v := by
  subst hl
  obtain ⟨⟨g, cap, hL⟩, hB⟩ := h
  have h12 := lineL_len hi lo n at_
  have hj := join_len [32] ((lineL hi lo n at_).map (·.data.toList)) (fun x hx => by
    obtain ⟨s, hs, rfl⟩ := List.mem_map.1 hx
    rw [bl_len]
    exact hsz s hs)
  rw [List.length_map] at hj
  have hj2 : (200 + [(32 : UInt8)].length) * (lineL hi lo n at_).length ≤ 201 * 12 := Nat.mul_le_mul_left 201 h12
  refine ⟨g, cap, (lineL hi lo n at_).length, by rw [cell_of_row v lb 0 _ _ _ hL.blk]; rfl, ?_, hB⟩
  have := join_c hL ⟨#[32]⟩ (by omega) (by show (Lib.join _ [32]).length ≤ _; omega)
  unfold lineT
  rw [if_pos hok]
  exact this
theorem place_bd {b : Bool} {k at_ : Int} (h : placeOk b k at_ = true) (h2 : at_ < 4096) : 0 ≤ k ∧ k < 4096 := by
  unfold placeOk at h
  cases b
  · simp at h
    omega
  · simp at h
    omega
theorem node_facts {n : Nd} {at_ : Int} (h : nodeOk n at_ = true) (h2 : at_ < 4096) : (n.kind = 1 ∨ n.kind = 2 ∨ n.kind = 3 ∨ n.kind = 4 ∨ n.kind = 5 ∨ n.kind = 6) ∧ (0 ≤ n.a ∧ n.a < 4096) ∧ (0 ≤ n.b ∧ n.b < 4096) := by
  unfold nodeOk at h
  simp only [Bool.and_eq_true] at h
  obtain ⟨⟨⟨⟨_, ha⟩, hb⟩, hf⟩, _⟩ := h
  refine ⟨?_, place_bd ha h2, place_bd hb h2⟩
  have hf2 : 0 < (fieldList n.kind).length := of_decide_eq_true hf
  unfold fieldList at hf2
  by_cases h1 : n.kind = 1
  · exact .inl h1
  by_cases h2 : n.kind = 2
  · exact .inr (.inl h2)
  by_cases h3 : n.kind = 3
  · exact .inr (.inr (.inl h3))
  by_cases h4 : n.kind = 4
  · exact .inr (.inr (.inr (.inl h4)))
  by_cases h5 : n.kind = 5
  · exact .inr (.inr (.inr (.inr (.inl h5))))
  by_cases h6 : n.kind = 6
  · exact .inr (.inr (.inr (.inr (.inr h6))))
  rw [if_neg h1, if_neg h2, if_neg h3, if_neg h4, if_neg h5, if_neg h6] at hf2
  exact absurd hf2 (by decide)
set_option maxRecDepth 100000 in
set_option maxHeartbeats 4000000 in
theorem line_all (hi lo : Nat → Nat) (n : Nd) (hn : n.ok) (hkd : n.kind < 256) (at_ : Int) (w : World) (hE : Env hi lo w) (hG : Gl w.heap.size) :
    Calls Tryz.prog 26 #[n.val, .int .i64 at_] w (Bel w (.tuple #[.string (bA (lineT hi lo n at_)), .int .i64 (lineE n at_)])) := by
  obtain ⟨W, hW⟩ : ∃ W, W = w.alloc (.cells n.cells.toArray 49) := ⟨_, rfl⟩
  have hBW : Below w.heap.size w W := by rw [hW]; exact (Below.refl _ _).alloc (Nat.le_refl _) _
  have hNB : NBlk W w.heap.size n := by rw [hW]; exact heap_alloc_new w _
  have hWs : W.heap.size = w.heap.size + 1 := by rw [hW]; simp
  have CN := fun W => node_any n hn.2 hn.1 at_ W
  obtain ⟨kd, hk⟩ : ∃ kd, kd = n.kind := ⟨_, rfl⟩
  have HW := Lib.hid hW
  have HB := Lib.hid (And.intro hBW (And.intro hNB hWs))
  have HE := Lib.hid (And.intro hE hG)
  have HK := Lib.hid (And.intro hk (And.intro hkd hn))
  by_cases hat : 0 ≤ at_ ∧ at_ < 4096
  · cases hno : nodeOk n at_ with
    | false =>
      rw [hno] at CN
      have hok : lineOk n at_ = false := by unfold lineOk; rw [hno, Bool.and_false]
      have e1 : lineT hi lo n at_ = [] := by unfold lineT; rw [if_neg (by rw [hok]; decide)]
      have e2 : lineE n at_ = 190 := by unfold lineE; rw [if_neg (by rw [hok]; decide)]
      have HQ := Lib.hid (And.intro e1 e2)
      have HN := Lib.hid CN
      obtain ⟨at0, at1⟩ := hat
      have at2 : decide (at_ < 0) = false := decide_eq_false (by omega)
      have at3 : decide (4096 ≤ at_) = false := decide_eq_false (by omega)
      clear hok hno CN hW hBW hNB hWs hE hG hk hkd hn e1 e2
      go_enter Tryz.func26, Tryz.ntmps26
      unfold Nd.val Nd.cells
      go_upto_region 1 with fail
      have hW2 : w.alloc (.cells n.cells.toArray 49) = W := HW.out.symm
      unfold Nd.cells at hW2
      rw [hW2]
      clear hW2
      go_wp2_with (first
        | (refine wpList_load_nd_g _ ?_ (.tmp 2) rfl w.heap.size rfl n HB.out.2.1 ?_; rotate_right)
        | (go_at_call 46; (with_reducible refine (HN.out _).mono ?_); rintro e w1 ⟨rfl, hb1⟩; have HB1 := Lib.hid hb1; clear hb1))
      go_ret2
      exact ⟨by rw [HQ.out.1, HQ.out.2]; rfl, HB.out.1.trans (HB1.out.mono HB.out.1.size)⟩
    | true =>
      obtain ⟨hkind, hab⟩ := node_facts hno hat.2
      have HKI := Lib.hid hkind
      have HAB := Lib.hid (show (-4000000000000000000 ≤ n.a ∧ n.a ≤ 4000000000000000000) ∧ (-4000000000000000000 ≤ n.b ∧ n.b ≤ 4000000000000000000) from by omega)
      have HNA := Lib.hid (show 5 ≤ n.kind → 0 ≤ n.a ∧ n.a < 4096 from fun _ => hab.1)
      have HNBB := Lib.hid (show n.kind = 5 → 0 ≤ n.b ∧ n.b < 4096 from fun _ => hab.2)
      clear hkind hab
      rw [hno] at CN
      have HN := Lib.hid CN
      have hok : lineOk n at_ = true := by unfold lineOk; rw [hno, decide_eq_true hat.1, decide_eq_true hat.2]; rfl
      have HO := Lib.hid hok
      obtain ⟨at0, at1⟩ := hat
      clear hok hno CN hW hBW hNB hWs hE hG hk hkd hn
      go_enter Tryz.func26, Tryz.ntmps26
      unfold Nd.val Nd.cells
      have at2 : decide (at_ < 0) = false := decide_eq_false (by omega)
      have at3 : decide (4096 ≤ at_) = false := decide_eq_false (by omega)
      go_upto_region 1 with fail
      have hW2 : w.alloc (.cells n.cells.toArray 49) = W := HW.out.symm
      unfold Nd.cells at hW2
      rw [hW2]
      clear hW2
      go_upto_region 3 with (first
        | (refine wpList_load_nd_g _ ?_ (.tmp 2) rfl w.heap.size rfl n HB.out.2.1 ?_; rotate_right)
        | (go_at_call 46; (with_reducible refine (HN.out _).mono ?_); rintro e w1 ⟨rfl, hb1⟩; have HB1 := Lib.hid hb1; clear hb1))
      obtain ⟨hBW, hNB, hWs⟩ := HB.out
      have hN1 : NBlk w1 w.heap.size n := hNB.below HB1.out (by omega)
      have hE1 : Env hi lo w1 := HE.out.1.later (hBW.trans (HB1.out.mono hBW.size))
      have hz1 := HB1.out.size
      have HE1 := Lib.hid hE1
      have HN1 := Lib.hid hN1
      have CNM := Lib.hid (fun (v : World) (hb : Below w1.heap.size w1 v) => name_any at_ (by omega) (by omega) v (hE1.later hb))
      have CWD := Lib.hid (fun (v : World) (_ : Below w1.heap.size w1 v) => word_any kd (by rw [HK.out.1]; exact HK.out.2.1) v)
      have hkc : ∀ u : Ext w1, u.1.cell? ⟨w.heap.size, 0, none⟩ = some (.int .u8 (kd : Int)) := fun u => ext_cell (by rw [hN1.cell, HK.out.1]; rfl) u
      have HKC := Lib.hid hkc
      have hG1 : Gl w1.heap.size := ⟨Nat.lt_of_lt_of_le HE.out.2.1 (by omega), Nat.lt_of_lt_of_le HE.out.2.2.1 (by omega), Nat.lt_of_lt_of_le HE.out.2.2.2 (by omega)⟩
      have HG1 := Lib.hid (And.intro hG1 hz1)
      clear hBW hNB hWs hN1 hE1 hz1 hkc hG1
      go_cut [6] from 20 to 26 (fun s6 wx => ∃ lb g cap, s6 = .pointer (some ⟨lb, 0, none⟩) ∧ LS wx w1.heap.size lb g cap [nmB at_, eqB, wordF kd] ∧ Below w1.heap.size w1 wx)
      case first =>
       as_aux_lemma =>
        have hkc := HKC.out
        refine region_reads (C := fun w' => ∃ u : Ext w1, w' = u.1) [0, 2, 3] 5 (by kernel_rfl) (by kernel_rfl) (ext_self w1) ?_
        simp only [List.filterMap_cons, List.filterMap_nil, List.getElem?_cons_zero, List.getElem?_cons_succ]
        change wpQuiet _ _ _ _ (_ :: _ :: _ :: []) _
        go_big_quiet_step (fail)
        go_big_quiet_step (fail)
        go_big_quiet_step (fail)
        refine wpQuiet_nil ?_
        clear hkc
        obtain ⟨v0, hv0⟩ : ∃ v0, v0 = w1.drew := ⟨_, rfl⟩
        have BV0 := Lib.hid (show Below w1.heap.size w1 v0 from by rw [hv0]; exact (Below.refl _ _).drew)
        rw [← hv0]
        clear hv0
        refine anyG_two 1 6 _ _ (by kernel_rfl) rfl rfl rfl rfl ?_ ?_
        · skip
          refine goUpon_call _ _ _ (exec_nm (.tmp 20) _ rfl _ (.int .i64 at_) rfl _) ?_
          (with_reducible refine (CNM.out v0 BV0.out).mono ?_)
          rintro e v1 ⟨rfl, hb1⟩
          have BV1 := Lib.hid (BV0.out.trans (hb1.mono BV0.out.size))
          clear hb1
          refine ⟨_, rfl, ⟨⟨v1, BV1.out⟩, rfl⟩, ?_⟩
          change anyG _ _ _ _ _ _ _ (Act.put _ (some 21) _) _
          simp only [Act.put, List.setIfInBounds_toArray, List.set_cons_succ, List.set_cons_zero]
          refine anyG_two 4 6 _ _ (by kernel_rfl) rfl rfl rfl rfl ?_ ?_
          · skip
            refine goUpon_call _ _ _ (exec_wd (.tmp 23) _ rfl _ (.int .u8 (kd : Int)) rfl _) ?_
            (with_reducible refine (CWD.out v1 BV1.out).mono ?_)
            rintro e v2 ⟨rfl, hb2⟩
            have BV2 := Lib.hid (BV1.out.trans (hb2.mono BV1.out.size))
            clear hb2
            refine ⟨_, rfl, ⟨⟨v2, BV2.out⟩, rfl⟩, ?_⟩
            change anyG _ _ _ _ _ _ _ (Act.put _ (some 24) _) _
            simp only [Act.put, List.setIfInBounds_toArray, List.set_cons_succ, List.set_cons_zero]
            refine anyG_two 5 6 _ _ (by kernel_rfl) rfl rfl rfl rfl ?_ ?_
            · skip
              obtain ⟨v3, hv3⟩ : ∃ v3, v3 = World.alloc v2 (.cells (List.map Value.string [nmB at_, eqB, wordF kd]).toArray 9) := ⟨_, rfl⟩
              have BV3 := Lib.hid (show Below w1.heap.size w1 v3 from by rw [hv3]; exact BV2.out.alloc BV2.out.size _)
              obtain ⟨g3, hg3⟩ : ∃ g3, g3 = v2.heap.size := ⟨_, rfl⟩
              have GV3 := Lib.hid (show SBuf v3 w1.heap.size g3 3 [nmB at_, eqB, wordF kd] from by rw [hg3, hv3]; exact World.ownsRow_lit _ _ 3 BV2.out.size (by unfold maxLen; omega) rfl)
              refine goUpon_val _ _ (exec_bsS3 (.tmp 21) (.tmp 24) rfl _ _ (nmB at_) (wordF kd) rfl rfl) ⟨⟨_, BV2.out.alloc BV2.out.size _⟩, rfl⟩ ?_
              rw [← hv3, ← hg3]
              clear hv3 hg3
              change anyG _ _ _ _ _ _ _ (Act.put _ (some 25) _) _
              simp only [Act.put, List.setIfInBounds_toArray, List.set_cons_succ, List.set_cons_zero]
              refine anyG_one 6 _ (by kernel_rfl) rfl rfl ?_
              obtain ⟨v4, hv4⟩ : ∃ v4, v4 = World.alloc v3 (.cells #[.slice none 0 0] 55) := ⟨_, rfl⟩
              have BV4 := Lib.hid (show Below w1.heap.size w1 v4 from by rw [hv4]; exact BV3.out.alloc BV3.out.size _)
              obtain ⟨lb4, hlb4⟩ : ∃ lb4, lb4 = v3.heap.size := ⟨_, rfl⟩
              have LV4 := Lib.hid (show v4.heap[lb4]? = some (.cells #[.slice none 0 0] 55 (0, 0)) from by rw [hlb4, hv4]; exact heap_alloc_new _ _)
              have LE4 := Lib.hid (show w1.heap.size ≤ lb4 from by rw [hlb4]; exact BV3.out.size)
              have GV4 := Lib.hid (show SBuf v4 w1.heap.size g3 3 [nmB at_, eqB, wordF kd] ∧ g3 ≠ lb4 from by rw [hlb4, hv4]; exact ⟨World.ownsRow.alloc GV3.out _, Nat.ne_of_lt GV3.out.lt.2⟩)
              refine goUpon_val _ _ (exec_alS rfl _ _) ⟨⟨_, BV3.out.alloc BV3.out.size _⟩, rfl⟩ ?_
              rw [← hv4, ← hlb4]
              clear hv4 hlb4
              change anyG _ _ _ _ _ _ _ (Act.put _ (some 6) _) _
              simp only [Act.put, List.setIfInBounds_toArray, List.set_cons_succ, List.set_cons_zero]
              refine anyG_one 7 _ (by kernel_rfl) rfl rfl ?_
              have hls := ls_new LV4.out GV4.out.1 GV4.out.2 LE4.out rfl
              refine goUpon_skip _ (exec_stS (.tmp 6) (.tmp 25) rfl _ _ lb4 (.slice (some ⟨g3, 0, none⟩) 3 3) _ rfl rfl ⟨_, _, _, rfl⟩ LV4.out) ⟨⟨_, BV4.out.grown (set_grown _ _ _ _) BV4.out.size (fun k e => by obtain rfl := Option.some.inj e; exact LE4.out)⟩, rfl⟩ ?_
              have HLS := Lib.hid hls
              have hbf := BV4.out.grown (set_grown v4 lb4 0 (.slice (some ⟨g3, 0, none⟩) 3 3)) BV4.out.size (fun k e => by obtain rfl := Option.some.inj e; exact LE4.out)
              have HBF := Lib.hid hbf
              clear hls hbf
              change anyG _ _ _ _ _ _ _ (Act.put _ none _) _
              simp only [Act.put]
              refine anyG_end (by kernel_rfl) ?_
              simp only [Exit.then]
              go_wp2_with fail
              go_meet
              exact ⟨lb4, g3, 3, rfl, HLS.out, HBF.out⟩
            · skip
              obtain ⟨v5, hv5⟩ : ∃ v5, v5 = World.alloc v2 (.cells #[.slice none 0 0] 55) := ⟨_, rfl⟩
              have BV5 := Lib.hid (show Below w1.heap.size w1 v5 from by rw [hv5]; exact BV2.out.alloc BV2.out.size _)
              obtain ⟨lb5, hlb5⟩ : ∃ lb5, lb5 = v2.heap.size := ⟨_, rfl⟩
              have LV5 := Lib.hid (show v5.heap[lb5]? = some (.cells #[.slice none 0 0] 55 (0, 0)) from by rw [hlb5, hv5]; exact heap_alloc_new _ _)
              have LE5 := Lib.hid (show w1.heap.size ≤ lb5 from by rw [hlb5]; exact BV2.out.size)
              refine goUpon_val _ _ (exec_alS rfl _ _) ⟨⟨_, BV2.out.alloc BV2.out.size _⟩, rfl⟩ ?_
              rw [← hv5, ← hlb5]
              clear hv5 hlb5
              change anyG _ _ _ _ _ _ _ (Act.put _ (some 6) _) _
              simp only [Act.put, List.setIfInBounds_toArray, List.set_cons_succ, List.set_cons_zero]
              refine anyG_one 5 _ (by kernel_rfl) rfl rfl ?_
              obtain ⟨v6, hv6⟩ : ∃ v6, v6 = World.alloc v5 (.cells (List.map Value.string [nmB at_, eqB, wordF kd]).toArray 9) := ⟨_, rfl⟩
              have BV6 := Lib.hid (show Below w1.heap.size w1 v6 from by rw [hv6]; exact BV5.out.alloc BV5.out.size _)
              obtain ⟨g6, hg6⟩ : ∃ g6, g6 = v5.heap.size := ⟨_, rfl⟩
              have GV6 := Lib.hid (show SBuf v6 w1.heap.size g6 3 [nmB at_, eqB, wordF kd] ∧ g6 ≠ lb5 from by rw [hg6, hv6]; exact ⟨World.ownsRow_lit _ _ 3 BV5.out.size (by unfold maxLen; omega) rfl, Nat.ne_of_gt (blk_lt LV5.out)⟩)
              have LV6 := Lib.hid ((show v6.heap[lb5]? = v5.heap[lb5]? from by rw [hv6]; exact Below.heap_alloc _ _ _ (blk_lt LV5.out)).trans LV5.out)
              refine goUpon_val _ _ (exec_bsS3 (.tmp 21) (.tmp 24) rfl _ _ (nmB at_) (wordF kd) rfl rfl) ⟨⟨_, BV5.out.alloc BV5.out.size _⟩, rfl⟩ ?_
              rw [← hv6, ← hg6]
              clear hv6 hg6
              change anyG _ _ _ _ _ _ _ (Act.put _ (some 25) _) _
              simp only [Act.put, List.setIfInBounds_toArray, List.set_cons_succ, List.set_cons_zero]
              refine anyG_one 7 _ (by kernel_rfl) rfl rfl ?_
              have hls := ls_new LV6.out GV6.out.1 GV6.out.2 LE5.out rfl
              refine goUpon_skip _ (exec_stS (.tmp 6) (.tmp 25) rfl _ _ lb5 (.slice (some ⟨g6, 0, none⟩) 3 3) _ rfl rfl ⟨_, _, _, rfl⟩ LV6.out) ⟨⟨_, BV6.out.grown (set_grown _ _ _ _) BV6.out.size (fun k e => by obtain rfl := Option.some.inj e; exact LE5.out)⟩, rfl⟩ ?_
              have HLS := Lib.hid hls
              have hbf := BV6.out.grown (set_grown v6 lb5 0 (.slice (some ⟨g6, 0, none⟩) 3 3)) BV6.out.size (fun k e => by obtain rfl := Option.some.inj e; exact LE5.out)
              have HBF := Lib.hid hbf
              clear hls hbf
              change anyG _ _ _ _ _ _ _ (Act.put _ none _) _
              simp only [Act.put]
              refine anyG_end (by kernel_rfl) ?_
              simp only [Exit.then]
              go_wp2_with fail
              go_meet
              exact ⟨lb5, g6, 3, rfl, HLS.out, HBF.out⟩
          · skip
            obtain ⟨v7, hv7⟩ : ∃ v7, v7 = World.alloc v1 (.cells #[.slice none 0 0] 55) := ⟨_, rfl⟩
            have BV7 := Lib.hid (show Below w1.heap.size w1 v7 from by rw [hv7]; exact BV1.out.alloc BV1.out.size _)
            obtain ⟨lb7, hlb7⟩ : ∃ lb7, lb7 = v1.heap.size := ⟨_, rfl⟩
            have LV7 := Lib.hid (show v7.heap[lb7]? = some (.cells #[.slice none 0 0] 55 (0, 0)) from by rw [hlb7, hv7]; exact heap_alloc_new _ _)
            have LE7 := Lib.hid (show w1.heap.size ≤ lb7 from by rw [hlb7]; exact BV1.out.size)
            refine goUpon_val _ _ (exec_alS rfl _ _) ⟨⟨_, BV1.out.alloc BV1.out.size _⟩, rfl⟩ ?_
            rw [← hv7, ← hlb7]
            clear hv7 hlb7
            change anyG _ _ _ _ _ _ _ (Act.put _ (some 6) _) _
            simp only [Act.put, List.setIfInBounds_toArray, List.set_cons_succ, List.set_cons_zero]
            refine anyG_one 4 _ (by kernel_rfl) rfl rfl ?_
            refine goUpon_call _ _ _ (exec_wd (.tmp 23) _ rfl _ (.int .u8 (kd : Int)) rfl _) ?_
            (with_reducible refine (CWD.out v7 BV7.out).mono ?_)
            rintro e v8 ⟨rfl, hb8⟩
            have BV8 := Lib.hid (BV7.out.trans (hb8.mono BV7.out.size))
            have LV8 := Lib.hid ((hb8.block _ (blk_lt LV7.out)).trans LV7.out)
            clear hb8
            refine ⟨_, rfl, ⟨⟨v8, BV8.out⟩, rfl⟩, ?_⟩
            change anyG _ _ _ _ _ _ _ (Act.put _ (some 24) _) _
            simp only [Act.put, List.setIfInBounds_toArray, List.set_cons_succ, List.set_cons_zero]
            refine anyG_one 5 _ (by kernel_rfl) rfl rfl ?_
            obtain ⟨v9, hv9⟩ : ∃ v9, v9 = World.alloc v8 (.cells (List.map Value.string [nmB at_, eqB, wordF kd]).toArray 9) := ⟨_, rfl⟩
            have BV9 := Lib.hid (show Below w1.heap.size w1 v9 from by rw [hv9]; exact BV8.out.alloc BV8.out.size _)
            obtain ⟨g9, hg9⟩ : ∃ g9, g9 = v8.heap.size := ⟨_, rfl⟩
            have GV9 := Lib.hid (show SBuf v9 w1.heap.size g9 3 [nmB at_, eqB, wordF kd] ∧ g9 ≠ lb7 from by rw [hg9, hv9]; exact ⟨World.ownsRow_lit _ _ 3 BV8.out.size (by unfold maxLen; omega) rfl, Nat.ne_of_gt (blk_lt LV8.out)⟩)
            have LV9 := Lib.hid ((show v9.heap[lb7]? = v8.heap[lb7]? from by rw [hv9]; exact Below.heap_alloc _ _ _ (blk_lt LV8.out)).trans LV8.out)
            refine goUpon_val _ _ (exec_bsS3 (.tmp 21) (.tmp 24) rfl _ _ (nmB at_) (wordF kd) rfl rfl) ⟨⟨_, BV8.out.alloc BV8.out.size _⟩, rfl⟩ ?_
            rw [← hv9, ← hg9]
            clear hv9 hg9
            change anyG _ _ _ _ _ _ _ (Act.put _ (some 25) _) _
            simp only [Act.put, List.setIfInBounds_toArray, List.set_cons_succ, List.set_cons_zero]
            refine anyG_one 7 _ (by kernel_rfl) rfl rfl ?_
            have hls := ls_new LV9.out GV9.out.1 GV9.out.2 LE7.out rfl
            refine goUpon_skip _ (exec_stS (.tmp 6) (.tmp 25) rfl _ _ lb7 (.slice (some ⟨g9, 0, none⟩) 3 3) _ rfl rfl ⟨_, _, _, rfl⟩ LV9.out) ⟨⟨_, BV9.out.grown (set_grown _ _ _ _) BV9.out.size (fun k e => by obtain rfl := Option.some.inj e; exact LE7.out)⟩, rfl⟩ ?_
            have HLS := Lib.hid hls
            have hbf := BV9.out.grown (set_grown v9 lb7 0 (.slice (some ⟨g9, 0, none⟩) 3 3)) BV9.out.size (fun k e => by obtain rfl := Option.some.inj e; exact LE7.out)
            have HBF := Lib.hid hbf
            clear hls hbf
            change anyG _ _ _ _ _ _ _ (Act.put _ none _) _
            simp only [Act.put]
            refine anyG_end (by kernel_rfl) ?_
            simp only [Exit.then]
            go_wp2_with fail
            go_meet
            exact ⟨lb7, g9, 3, rfl, HLS.out, HBF.out⟩
        · skip
          obtain ⟨v10, hv10⟩ : ∃ v10, v10 = World.alloc v0 (.cells #[.slice none 0 0] 55) := ⟨_, rfl⟩
          have BV10 := Lib.hid (show Below w1.heap.size w1 v10 from by rw [hv10]; exact BV0.out.alloc BV0.out.size _)
          obtain ⟨lb10, hlb10⟩ : ∃ lb10, lb10 = v0.heap.size := ⟨_, rfl⟩
          have LV10 := Lib.hid (show v10.heap[lb10]? = some (.cells #[.slice none 0 0] 55 (0, 0)) from by rw [hlb10, hv10]; exact heap_alloc_new _ _)
          have LE10 := Lib.hid (show w1.heap.size ≤ lb10 from by rw [hlb10]; exact BV0.out.size)
          refine goUpon_val _ _ (exec_alS rfl _ _) ⟨⟨_, BV0.out.alloc BV0.out.size _⟩, rfl⟩ ?_
          rw [← hv10, ← hlb10]
          clear hv10 hlb10
          change anyG _ _ _ _ _ _ _ (Act.put _ (some 6) _) _
          simp only [Act.put, List.setIfInBounds_toArray, List.set_cons_succ, List.set_cons_zero]
          refine anyG_one 1 _ (by kernel_rfl) rfl rfl ?_
          refine goUpon_call _ _ _ (exec_nm (.tmp 20) _ rfl _ (.int .i64 at_) rfl _) ?_
          (with_reducible refine (CNM.out v10 BV10.out).mono ?_)
          rintro e v11 ⟨rfl, hb11⟩
          have BV11 := Lib.hid (BV10.out.trans (hb11.mono BV10.out.size))
          have LV11 := Lib.hid ((hb11.block _ (blk_lt LV10.out)).trans LV10.out)
          clear hb11
          refine ⟨_, rfl, ⟨⟨v11, BV11.out⟩, rfl⟩, ?_⟩
          change anyG _ _ _ _ _ _ _ (Act.put _ (some 21) _) _
          simp only [Act.put, List.setIfInBounds_toArray, List.set_cons_succ, List.set_cons_zero]
          refine anyG_one 4 _ (by kernel_rfl) rfl rfl ?_
          refine goUpon_call _ _ _ (exec_wd (.tmp 23) _ rfl _ (.int .u8 (kd : Int)) rfl _) ?_
          (with_reducible refine (CWD.out v11 BV11.out).mono ?_)
          rintro e v12 ⟨rfl, hb12⟩
          have BV12 := Lib.hid (BV11.out.trans (hb12.mono BV11.out.size))
          have LV12 := Lib.hid ((hb12.block _ (blk_lt LV11.out)).trans LV11.out)
          clear hb12
          refine ⟨_, rfl, ⟨⟨v12, BV12.out⟩, rfl⟩, ?_⟩
          change anyG _ _ _ _ _ _ _ (Act.put _ (some 24) _) _
          simp only [Act.put, List.setIfInBounds_toArray, List.set_cons_succ, List.set_cons_zero]
          refine anyG_one 5 _ (by kernel_rfl) rfl rfl ?_
          obtain ⟨v13, hv13⟩ : ∃ v13, v13 = World.alloc v12 (.cells (List.map Value.string [nmB at_, eqB, wordF kd]).toArray 9) := ⟨_, rfl⟩
          have BV13 := Lib.hid (show Below w1.heap.size w1 v13 from by rw [hv13]; exact BV12.out.alloc BV12.out.size _)
          obtain ⟨g13, hg13⟩ : ∃ g13, g13 = v12.heap.size := ⟨_, rfl⟩
          have GV13 := Lib.hid (show SBuf v13 w1.heap.size g13 3 [nmB at_, eqB, wordF kd] ∧ g13 ≠ lb10 from by rw [hg13, hv13]; exact ⟨World.ownsRow_lit _ _ 3 BV12.out.size (by unfold maxLen; omega) rfl, Nat.ne_of_gt (blk_lt LV12.out)⟩)
          have LV13 := Lib.hid ((show v13.heap[lb10]? = v12.heap[lb10]? from by rw [hv13]; exact Below.heap_alloc _ _ _ (blk_lt LV12.out)).trans LV12.out)
          refine goUpon_val _ _ (exec_bsS3 (.tmp 21) (.tmp 24) rfl _ _ (nmB at_) (wordF kd) rfl rfl) ⟨⟨_, BV12.out.alloc BV12.out.size _⟩, rfl⟩ ?_
          rw [← hv13, ← hg13]
          clear hv13 hg13
          change anyG _ _ _ _ _ _ _ (Act.put _ (some 25) _) _
          simp only [Act.put, List.setIfInBounds_toArray, List.set_cons_succ, List.set_cons_zero]
          refine anyG_one 7 _ (by kernel_rfl) rfl rfl ?_
          have hls := ls_new LV13.out GV13.out.1 GV13.out.2 LE10.out rfl
          refine goUpon_skip _ (exec_stS (.tmp 6) (.tmp 25) rfl _ _ lb10 (.slice (some ⟨g13, 0, none⟩) 3 3) _ rfl rfl ⟨_, _, _, rfl⟩ LV13.out) ⟨⟨_, BV13.out.grown (set_grown _ _ _ _) BV13.out.size (fun k e => by obtain rfl := Option.some.inj e; exact LE10.out)⟩, rfl⟩ ?_
          have HLS := Lib.hid hls
          have hbf := BV13.out.grown (set_grown v13 lb10 0 (.slice (some ⟨g13, 0, none⟩) 3 3)) BV13.out.size (fun k e => by obtain rfl := Option.some.inj e; exact LE10.out)
          have HBF := Lib.hid hbf
          clear hls hbf
          change anyG _ _ _ _ _ _ _ (Act.put _ none _) _
          simp only [Act.put]
          refine anyG_end (by kernel_rfl) ?_
          simp only [Exit.then]
          go_wp2_with fail
          go_meet
          exact ⟨lb10, g13, 3, rfl, HLS.out, HBF.out⟩
      case rest =>
        obtain ⟨lb, g, cap, rfl, hLS, hBl⟩ := hcut
        have hN1 := HN1.out
        have hnb : w.heap.size < w1.heap.size := blk_lt hN1
        have H0 := Lib.hid (show LnS w1 wc lb [nmB at_, eqB, wordF kd] from ⟨⟨g, cap, hLS⟩, hBl⟩)
        have hkx : wc.cell? ⟨w.heap.size, 0, none⟩ = some (.int .u8 (kd : Int)) := by rw [hBl.cell (p := ⟨w.heap.size, 0, none⟩) hnb, hN1.cell, HK.out.1]; rfl
        have cx : ∀ j, 1 ≤ j → j ≤ 16 → wc.cell? ⟨w.heap.size, j, none⟩ = some (.float .f64 (n.f j)) := fun j h1 h2 => by rw [hBl.cell (p := ⟨w.heap.size, j, none⟩) hnb, hN1.cell]; exact n.cell_f j h1 h2
        have f64 : ∀ j, 1 ≤ j → j ≤ 16 → n.f j < 18446744073709551616 := fun j h1 h2 => by
          refine HK.out.2.2.2 _ ?_
          unfold Nd.f
          have hj : j - 1 < n.x.length := by rw [HK.out.2.2.1]; omega
          rw [List.getD_eq_getElem?_getD, List.getElem?_eq_getElem hj]
          exact List.getElem_mem hj
        have JN := Lib.hid (fun (v : World) (l : List ByteArray) (h : LnS w1 v lb l) => h)
        have PN := Lib.hid (fun (v : World) (l : List ByteArray) (hl : l.length ≤ 90) (h : LnS w1 v lb l) (off c : Nat) (ho : 1 ≤ off) (ho2 : off ≤ 14) => put_nd (hi := hi) (lo := lo) HK.out.2.2 HE1.out HG1.out.1 hN1 hl h off c ho ho2)
        have PF := Lib.hid (fun (v : World) (l : List ByteArray) (hl : l.length ≤ 90) (h : LnS w1 v lb l) (xs : List Nat) (hxs : ∀ x ∈ xs, x < 18446744073709551616) (hx9 : xs.length ≤ 9) (vals : Array Value) (hv : vals = (xs.map (Value.float .f64)).toArray) (m : Nat) (hm : xs.length = m) => put_fr (hi := hi) (lo := lo) HE1.out HG1.out.1 hl h xs hxs hx9 vals hv m hm)
        have CX := Lib.hid cx
        have HSZ := Lib.hid (lineL_size (hi := hi) (lo := lo) HE1.out.tabs.2.1 n f64 HAB.out.1 HAB.out.2 at_ (by omega) (by omega))
        have HOE := Lib.hid (show lineE n at_ = 0 from by unfold lineE; rw [if_pos HO.out])
        have HBW := Lib.hid (HB.out.1.trans (HB1.out.mono HB.out.1.size))
        have F64 := Lib.hid f64
        have hkind : kd = 1 ∨ kd = 2 ∨ kd = 3 ∨ kd = 4 ∨ kd = 5 ∨ kd = 6 := by rw [HK.out.1]; exact HKI.out
        clear hLS hBl hN1 hnb cx f64
        rcases hkind with hk | hk | hk | hk | hk | hk
        · as_aux_lemma =>
          have q1 : ((kd : Int) == 1) = true := by rw [hk]; rfl
          have q2 : ((kd : Int) == 2) = false := by rw [hk]; rfl
          have q3 : ((kd : Int) == 3) = false := by rw [hk]; rfl
          have q4 : ((kd : Int) == 4) = false := by rw [hk]; rfl
          have q5 : ((kd : Int) == 5) = false := by rw [hk]; rfl
          have q6 : ((kd : Int) == 6) = false := by rw [hk]; rfl
          have HKD := Lib.hid hk
          clear hk
          go_upto_region 23 with (first | (go_at_call 48; (with_reducible refine (PN.out _ _ (by simp) H0.out 1 3 (by omega) (by omega)).mono ?_); rintro e v1 ⟨rfl, hv1⟩; have H1 := Lib.hid hv1; clear hv1))
          obtain ⟨g9, c9, nl, hc9, hJ9, hB9⟩ := line_join HO.out HSZ.out H1.out (by unfold lineL subsN; rw [← HK.out.1, HKD.out]; simp [numsK])
          have HJ9 := Lib.hid hJ9
          have HB9 := Lib.hid hB9
          clear hJ9 hB9
          go_wp2_with (go_at_call 50; (with_reducible refine HJ9.out.mono ?_); rintro e v9 ⟨rfl, hv9⟩)
          go_ret2
          have hbF := HBW.out.trans ((HB9.out.trans (hv9.mono HB9.out.size)).mono (Nat.le_trans HB.out.1.size HG1.out.2))
          exact ⟨by rw [HOE.out]; rfl, hbF⟩
        · as_aux_lemma =>
          have q1 : ((kd : Int) == 1) = false := by rw [hk]; rfl
          have q2 : ((kd : Int) == 2) = true := by rw [hk]; rfl
          have q3 : ((kd : Int) == 3) = false := by rw [hk]; rfl
          have q4 : ((kd : Int) == 4) = false := by rw [hk]; rfl
          have q5 : ((kd : Int) == 5) = false := by rw [hk]; rfl
          have q6 : ((kd : Int) == 6) = false := by rw [hk]; rfl
          have c13 := CX.out 13 (by omega) (by omega)
          have HKD := Lib.hid hk
          clear hk
          go_upto_region 23 with (first | (go_at_call 48; (with_reducible refine (PF.out _ _ (by simp) H0.out [n.f 13] (fun x hx => by simp only [List.mem_cons, List.not_mem_nil, or_false] at hx; rcases hx with rfl <;> exact F64.out _ (by omega) (by omega)) (by simp) #[.float .f64 (n.f 13)] rfl 1 rfl).mono ?_); rintro e v1 ⟨rfl, hv1⟩; have H1 := Lib.hid hv1; clear hv1) | (go_at_call 48; (with_reducible refine (PN.out _ _ (by simp) H1.out 1 3 (by omega) (by omega)).mono ?_); rintro e v2 ⟨rfl, hv2⟩; have H2 := Lib.hid hv2; clear hv2))
          obtain ⟨g9, c9, nl, hc9, hJ9, hB9⟩ := line_join HO.out HSZ.out H2.out (by unfold lineL subsN; rw [← HK.out.1, HKD.out]; simp [numsK])
          have HJ9 := Lib.hid hJ9
          have HB9 := Lib.hid hB9
          clear hJ9 hB9
          go_wp2_with (go_at_call 50; (with_reducible refine HJ9.out.mono ?_); rintro e v9 ⟨rfl, hv9⟩)
          go_ret2
          have hbF := HBW.out.trans ((HB9.out.trans (hv9.mono HB9.out.size)).mono (Nat.le_trans HB.out.1.size HG1.out.2))
          exact ⟨by rw [HOE.out]; rfl, hbF⟩
        · as_aux_lemma =>
          have q1 : ((kd : Int) == 1) = false := by rw [hk]; rfl
          have q2 : ((kd : Int) == 2) = false := by rw [hk]; rfl
          have q3 : ((kd : Int) == 3) = true := by rw [hk]; rfl
          have q4 : ((kd : Int) == 4) = false := by rw [hk]; rfl
          have q5 : ((kd : Int) == 5) = false := by rw [hk]; rfl
          have q6 : ((kd : Int) == 6) = false := by rw [hk]; rfl
          have c14 := CX.out 14 (by omega) (by omega)
          have c15 := CX.out 15 (by omega) (by omega)
          have HKD := Lib.hid hk
          clear hk
          go_upto_region 23 with (first | (go_at_call 48; (with_reducible refine (PF.out _ _ (by simp) H0.out [n.f 14, n.f 15] (fun x hx => by simp only [List.mem_cons, List.not_mem_nil, or_false] at hx; rcases hx with rfl | rfl <;> exact F64.out _ (by omega) (by omega)) (by simp) #[.float .f64 (n.f 14), .float .f64 (n.f 15)] rfl 2 rfl).mono ?_); rintro e v1 ⟨rfl, hv1⟩; have H1 := Lib.hid hv1; clear hv1))
          obtain ⟨g9, c9, nl, hc9, hJ9, hB9⟩ := line_join HO.out HSZ.out H1.out (by unfold lineL subsN; rw [← HK.out.1, HKD.out]; simp [numsK])
          have HJ9 := Lib.hid hJ9
          have HB9 := Lib.hid hB9
          clear hJ9 hB9
          go_wp2_with (go_at_call 50; (with_reducible refine HJ9.out.mono ?_); rintro e v9 ⟨rfl, hv9⟩)
          go_ret2
          have hbF := HBW.out.trans ((HB9.out.trans (hv9.mono HB9.out.size)).mono (Nat.le_trans HB.out.1.size HG1.out.2))
          exact ⟨by rw [HOE.out]; rfl, hbF⟩
        · as_aux_lemma =>
          have q1 : ((kd : Int) == 1) = false := by rw [hk]; rfl
          have q2 : ((kd : Int) == 2) = false := by rw [hk]; rfl
          have q3 : ((kd : Int) == 3) = false := by rw [hk]; rfl
          have q4 : ((kd : Int) == 4) = true := by rw [hk]; rfl
          have q5 : ((kd : Int) == 5) = false := by rw [hk]; rfl
          have q6 : ((kd : Int) == 6) = false := by rw [hk]; rfl
          have c14 := CX.out 14 (by omega) (by omega)
          have HKD := Lib.hid hk
          clear hk
          go_upto_region 23 with (first | (go_at_call 48; (with_reducible refine (PF.out _ _ (by simp) H0.out [n.f 14] (fun x hx => by simp only [List.mem_cons, List.not_mem_nil, or_false] at hx; rcases hx with rfl <;> exact F64.out _ (by omega) (by omega)) (by simp) #[.float .f64 (n.f 14)] rfl 1 rfl).mono ?_); rintro e v1 ⟨rfl, hv1⟩; have H1 := Lib.hid hv1; clear hv1) | (go_at_call 48; (with_reducible refine (PN.out _ _ (by simp) H1.out 7 3 (by omega) (by omega)).mono ?_); rintro e v2 ⟨rfl, hv2⟩; have H2 := Lib.hid hv2; clear hv2) | (go_at_call 48; (with_reducible refine (PN.out _ _ (by simp) H2.out 10 3 (by omega) (by omega)).mono ?_); rintro e v3 ⟨rfl, hv3⟩; have H3 := Lib.hid hv3; clear hv3))
          obtain ⟨g9, c9, nl, hc9, hJ9, hB9⟩ := line_join HO.out HSZ.out H3.out (by unfold lineL subsN; rw [← HK.out.1, HKD.out]; simp [numsK])
          have HJ9 := Lib.hid hJ9
          have HB9 := Lib.hid hB9
          clear hJ9 hB9
          go_wp2_with (go_at_call 50; (with_reducible refine HJ9.out.mono ?_); rintro e v9 ⟨rfl, hv9⟩)
          go_ret2
          have hbF := HBW.out.trans ((HB9.out.trans (hv9.mono HB9.out.size)).mono (Nat.le_trans HB.out.1.size HG1.out.2))
          exact ⟨by rw [HOE.out]; rfl, hbF⟩
        · as_aux_lemma =>
          have q1 : ((kd : Int) == 1) = false := by rw [hk]; rfl
          have q2 : ((kd : Int) == 2) = false := by rw [hk]; rfl
          have q3 : ((kd : Int) == 3) = false := by rw [hk]; rfl
          have q4 : ((kd : Int) == 4) = false := by rw [hk]; rfl
          have q5 : ((kd : Int) == 5) = true := by rw [hk]; rfl
          have q6 : ((kd : Int) == 6) = false := by rw [hk]; rfl
          have c16 := CX.out 16 (by omega) (by omega)
          have HKD := Lib.hid hk
          clear hk
          go_upto_region 19 with (first | (go_at_call 48; (with_reducible refine (PF.out _ _ (by simp) H0.out [n.f 16] (fun x hx => by simp only [List.mem_cons, List.not_mem_nil, or_false] at hx; rcases hx with rfl <;> exact F64.out _ (by omega) (by omega)) (by simp) #[.float .f64 (n.f 16)] rfl 1 rfl).mono ?_); rintro e v1 ⟨rfl, hv1⟩; have H1 := Lib.hid hv1; clear hv1))
          obtain ⟨L, hL⟩ : ∃ L, L = [nmB at_, eqB, wordF kd] ++ List.map (prB hi lo) [n.f 16] := ⟨_, rfl⟩
          have hl1 := H1.out
          have hLL : [nmB at_, eqB, wordF kd] ++ List.map (prB hi lo) [n.f 16] = L := hL.symm
          rw [hLL] at hl1
          obtain ⟨⟨g5, c5, hl5⟩, hb5⟩ := hl1
          have hL12 : L.length ≤ 12 := by rw [hL]; simp
          have HLL := Lib.hid hL
          have HL5 := Lib.hid hl5
          have HB5 := Lib.hid hb5
          have hn1 := HN1.out
          have hnb := blk_lt hn1
          have cl : ∀ u : Ext v1, u.1.cell? ⟨lb, 0, none⟩ = some (.slice (some ⟨g5, 0, none⟩) L.length c5) := fun u => ext_cell (by rw [cell_of_row v1 lb 0 _ _ _ hl5.blk]; rfl) u
          have ca : ∀ u : Ext v1, u.1.cell? ⟨w.heap.size, 17, none⟩ = some (.int .i64 n.a) := fun u => ext_cell (by rw [hb5.cell (p := ⟨w.heap.size, 17, none⟩) hnb, hn1.cell]; rfl) u
          have cb : ∀ u : Ext v1, u.1.cell? ⟨w.heap.size, 18, none⟩ = some (.int .i64 n.b) := fun u => ext_cell (by rw [hb5.cell (p := ⟨w.heap.size, 18, none⟩) hnb, hn1.cell]; rfl) u
          have na := HNA.out (by rw [← HK.out.1, HKD.out]; decide)
          have nb9 := HNBB.out (by rw [← HK.out.1, HKD.out])
          have CA := Lib.hid (fun (u : Ext v1) => name_any n.a (by omega) (by omega) u.1 (HE1.out.under HG1.out.1 (hb5.trans (u.2.mono hb5.size))))
          have CB := Lib.hid (fun (u : Ext v1) => name_any n.b (by omega) (by omega) u.1 (HE1.out.under HG1.out.1 (hb5.trans (u.2.mono hb5.size))))
          clear hL hLL hl5 hb5 hn1 hnb na nb9
          refine region_head (C := fun w' => ∃ u : Ext v1, w' = u.1) 8 [0, 1, 2, 4, 5] 3 (by kernel_rfl) (by kernel_rfl) (ext_self v1) ?_
          simp only [List.filterMap_cons, List.filterMap_nil, List.getElem?_cons_zero, List.getElem?_cons_succ, List.drop_succ_cons, List.drop_zero]
          change wpQuiet _ _ _ _ (_ :: _ :: _ :: _ :: _ :: []) _
          repeat go_big_quiet_step (fail)
          refine wpQuiet_nil ?_
          clear cl ca cb
          obtain ⟨x0, hx0⟩ : ∃ x0, x0 = v1.drew := ⟨_, rfl⟩
          have X0 := Lib.hid (show Below v1.heap.size v1 x0 from by rw [hx0]; exact (Below.refl _ _).drew)
          rw [← hx0]
          clear hx0
          refine headG_one 3 _ (by kernel_rfl) (by kernel_rfl) rfl rfl ?_
          refine goUpon_call _ _ _ (exec_nm (.tmp 77) _ rfl _ (.int .i64 n.a) rfl _) ?_
          (with_reducible refine (CA.out ⟨x0, X0.out⟩).mono ?_)
          rintro e x1 ⟨rfl, hx1⟩
          have X1 := Lib.hid (X0.out.trans (hx1.mono X0.out.size))
          clear hx1
          refine ⟨_, rfl, ⟨⟨x1, X1.out⟩, rfl⟩, ?_⟩
          change headG _ _ _ _ _ _ _ _ (Act.put _ (some 78) _) _
          simp only [Act.put, List.setIfInBounds_toArray, List.set_cons_succ, List.set_cons_zero]
          refine headG_one 6 _ (by kernel_rfl) (by kernel_rfl) rfl rfl ?_
          refine goUpon_call _ _ _ (exec_nm (.tmp 80) _ rfl _ (.int .i64 n.b) rfl _) ?_
          (with_reducible refine (CB.out ⟨x1, X1.out⟩).mono ?_)
          rintro e x2 ⟨rfl, hx2⟩
          have X2 := Lib.hid (X1.out.trans (hx2.mono X1.out.size))
          clear hx2
          refine ⟨_, rfl, ⟨⟨x2, X2.out⟩, rfl⟩, ?_⟩
          change headG _ _ _ _ _ _ _ _ (Act.put _ (some 81) _) _
          simp only [Act.put, List.setIfInBounds_toArray, List.set_cons_succ, List.set_cons_zero]
          have hxB := X2.out.alloc X2.out.size (.cells (List.map Value.string [nmB n.a, nmB n.b]).toArray 9)
          refine headG_one 7 _ (by kernel_rfl) (by kernel_rfl) rfl rfl ?_
          refine goUpon_val _ _ (exec_bsS2 (.tmp 78) (.tmp 81) rfl _ _ (nmB n.a) (nmB n.b) rfl rfl) ⟨⟨_, hxB⟩, rfl⟩ ?_
          change headG _ _ _ _ _ _ _ _ (Act.put _ (some 82) _) _
          simp only [Act.put, List.setIfInBounds_toArray, List.set_cons_succ, List.set_cons_zero]
          refine headG_end (by kernel_rfl) ?_
          have hxu := X2.out
          obtain ⟨X, hX⟩ : ∃ X, X = x2 := ⟨_, rfl⟩
          rw [← hX] at hxu ⊢
          clear hX hxB
          change wpList _ _ _ _ _ (World.alloc X (.cells #[.string (nmB n.a), .string (nmB n.b)] 9))
          have hLX := HL5.out.later hxu
          have HXU := Lib.hid hxu
          have HLX := Lib.hid hLX
          clear hxu hLX
          go_upto_region 23 with (at_builtin; refine wl_appS rfl (.tmp 75) (.tmp 82) rfl w1.heap.size g5 c5 L rfl (World.ownsRow.alloc HLX.out.buf _) ⟨X.heap.size, 0, none⟩ 2 2 [nmB n.a, nmB n.b] rfl rfl (by decide) (cells_newS X [nmB n.a, nmB n.b] _) (by omega) (by have := HB5.out.size; have := HXU.out.size; simp; omega) ?_; intro g6 c6 w6 hS6 hg6 hgg6; have hL6 := (HLX.out.grown (World.grownBy_alloc X _ none)).put hg6 hS6 hgg6; have cl6 := lb_cell (HLX.out.grown (World.grownBy_alloc X _ none)) hg6; have HL6 := Lib.hid hL6; have HG6 := Lib.hid (And.intro hg6 (And.intro hgg6 hS6)); clear hS6 hg6 hgg6 hL6)
          obtain ⟨hg6, hgg6, hS6⟩ := HG6.out
          have hL6 := HL6.out
          have hbl6 := (HLX.out.grown (World.grownBy_alloc X (.cells #[.string (nmB n.a), .string (nmB n.b)] 9) none)).below (l' := L ++ [nmB n.a, nmB n.b]) (g' := g6) (cap' := c6) (B := w1.heap.size) hg6 (Nat.le_refl _) (by have := HB5.out.size; have := HXU.out.size; simp; omega)
          rw [List.length_append] at hL6 hbl6
          obtain ⟨X2, hX2⟩ : ∃ X2, X2 = w6.setCell ⟨lb, 0, none⟩ (.slice (some ⟨g6, 0, none⟩) (L.length + 2) c6) := ⟨_, rfl⟩
          have hbX := ((HB5.out.trans (HXU.out.mono HB5.out.size)).alloc (by have := HB5.out.size; have := HXU.out.size; omega) (.cells #[.string (nmB n.a), .string (nmB n.b)] 9)).trans hbl6
          have hln : LnS w1 X2 lb (L ++ [nmB n.a, nmB n.b]) := by rw [hX2]; exact ⟨⟨g6, c6, hL6⟩, hbX⟩
          rw [← hX2]
          have H9 := Lib.hid hln
          clear hg6 hgg6 hS6 hL6 hbl6 hX2 hbX hln cl6
          obtain ⟨g9, c9, nl, hc9, hJ9, hB9⟩ := line_join HO.out HSZ.out H9.out (by rw [HLL.out]; unfold lineL subsN; rw [← HK.out.1, HKD.out]; simp [numsK])
          have HJ9 := Lib.hid hJ9
          have HB9 := Lib.hid hB9
          clear hJ9 hB9
          go_wp2_with (go_at_call 50; (with_reducible refine HJ9.out.mono ?_); rintro e v9 ⟨rfl, hv9⟩)
          go_ret2
          have hbF := HBW.out.trans ((HB9.out.trans (hv9.mono HB9.out.size)).mono (Nat.le_trans HB.out.1.size HG1.out.2))
          exact ⟨by rw [HOE.out]; rfl, hbF⟩
        · as_aux_lemma =>
          have q1 : ((kd : Int) == 1) = false := by rw [hk]; rfl
          have q2 : ((kd : Int) == 2) = false := by rw [hk]; rfl
          have q3 : ((kd : Int) == 3) = false := by rw [hk]; rfl
          have q4 : ((kd : Int) == 4) = false := by rw [hk]; rfl
          have q5 : ((kd : Int) == 5) = false := by rw [hk]; rfl
          have q6 : ((kd : Int) == 6) = true := by rw [hk]; rfl
          have c15 := CX.out 15 (by omega) (by omega)
          have HKD := Lib.hid hk
          clear hk
          go_upto_region 22 with (first | (go_at_call 48; (with_reducible refine (PF.out _ _ (by simp) H0.out [n.f 15] (fun x hx => by simp only [List.mem_cons, List.not_mem_nil, or_false] at hx; rcases hx with rfl <;> exact F64.out _ (by omega) (by omega)) (by simp) #[.float .f64 (n.f 15)] rfl 1 rfl).mono ?_); rintro e v1 ⟨rfl, hv1⟩; have H1 := Lib.hid hv1; clear hv1) | (go_at_call 48; (with_reducible refine (PN.out _ _ (by simp) H1.out 4 3 (by omega) (by omega)).mono ?_); rintro e v2 ⟨rfl, hv2⟩; have H2 := Lib.hid hv2; clear hv2))
          obtain ⟨L, hL⟩ : ∃ L, L = [nmB at_, eqB, wordF kd] ++ List.map (prB hi lo) [n.f 15] ++ List.map (prB hi lo) [n.f 4, n.f (4 + 1), n.f (4 + 2)] := ⟨_, rfl⟩
          have hl1 := H2.out
          have hLL : [nmB at_, eqB, wordF kd] ++ List.map (prB hi lo) [n.f 15] ++ List.map (prB hi lo) [n.f 4, n.f (4 + 1), n.f (4 + 2)] = L := hL.symm
          rw [hLL] at hl1
          obtain ⟨⟨g5, c5, hl5⟩, hb5⟩ := hl1
          have hL12 : L.length ≤ 12 := by rw [hL]; simp
          have HLL := Lib.hid hL
          have HL5 := Lib.hid hl5
          have HB5 := Lib.hid hb5
          have hn1 := HN1.out
          have hnb := blk_lt hn1
          have cl : ∀ u : Ext v2, u.1.cell? ⟨lb, 0, none⟩ = some (.slice (some ⟨g5, 0, none⟩) L.length c5) := fun u => ext_cell (by rw [cell_of_row v2 lb 0 _ _ _ hl5.blk]; rfl) u
          have ca : ∀ u : Ext v2, u.1.cell? ⟨w.heap.size, 17, none⟩ = some (.int .i64 n.a) := fun u => ext_cell (by rw [hb5.cell (p := ⟨w.heap.size, 17, none⟩) hnb, hn1.cell]; rfl) u
          have cb : ∀ u : Ext v2, u.1.cell? ⟨w.heap.size, 18, none⟩ = some (.int .i64 n.b) := fun u => ext_cell (by rw [hb5.cell (p := ⟨w.heap.size, 18, none⟩) hnb, hn1.cell]; rfl) u
          have na := HNA.out (by rw [← HK.out.1, HKD.out]; decide)
          have CA := Lib.hid (fun (u : Ext v2) => name_any n.a (by omega) (by omega) u.1 (HE1.out.under HG1.out.1 (hb5.trans (u.2.mono hb5.size))))
          clear hL hLL hl5 hb5 hn1 hnb na
          refine region_head (C := fun w' => ∃ u : Ext v2, w' = u.1) 5 [0, 1, 2] 2 (by kernel_rfl) (by kernel_rfl) (ext_self v2) ?_
          simp only [List.filterMap_cons, List.filterMap_nil, List.getElem?_cons_zero, List.getElem?_cons_succ, List.drop_succ_cons, List.drop_zero]
          change wpQuiet _ _ _ _ (_ :: _ :: _ :: []) _
          repeat go_big_quiet_step (fail)
          refine wpQuiet_nil ?_
          clear cl ca cb
          obtain ⟨x0, hx0⟩ : ∃ x0, x0 = v2.drew := ⟨_, rfl⟩
          have X0 := Lib.hid (show Below v2.heap.size v2 x0 from by rw [hx0]; exact (Below.refl _ _).drew)
          rw [← hx0]
          clear hx0
          refine headG_one 3 _ (by kernel_rfl) (by kernel_rfl) rfl rfl ?_
          refine goUpon_call _ _ _ (exec_nm (.tmp 95) _ rfl _ (.int .i64 n.a) rfl _) ?_
          (with_reducible refine (CA.out ⟨x0, X0.out⟩).mono ?_)
          rintro e x1 ⟨rfl, hx1⟩
          have X1 := Lib.hid (X0.out.trans (hx1.mono X0.out.size))
          clear hx1
          refine ⟨_, rfl, ⟨⟨x1, X1.out⟩, rfl⟩, ?_⟩
          change headG _ _ _ _ _ _ _ _ (Act.put _ (some 96) _) _
          simp only [Act.put, List.setIfInBounds_toArray, List.set_cons_succ, List.set_cons_zero]
          have hxB := X1.out.alloc X1.out.size (.cells (List.map Value.string [nmB n.a]).toArray 9)
          refine headG_one 4 _ (by kernel_rfl) (by kernel_rfl) rfl rfl ?_
          refine goUpon_val _ _ (exec_bsS1 (.tmp 96) rfl _ _ (nmB n.a) rfl) ⟨⟨_, hxB⟩, rfl⟩ ?_
          change headG _ _ _ _ _ _ _ _ (Act.put _ (some 97) _) _
          simp only [Act.put, List.setIfInBounds_toArray, List.set_cons_succ, List.set_cons_zero]
          refine headG_end (by kernel_rfl) ?_
          have hxu := X1.out
          obtain ⟨X, hX⟩ : ∃ X, X = x1 := ⟨_, rfl⟩
          rw [← hX] at hxu ⊢
          clear hX hxB
          change wpList _ _ _ _ _ (World.alloc X (.cells #[.string (nmB n.a)] 9))
          have hLX := HL5.out.later hxu
          have HXU := Lib.hid hxu
          have HLX := Lib.hid hLX
          clear hxu hLX
          go_upto_region 23 with (at_builtin; refine wl_appS rfl (.tmp 93) (.tmp 97) rfl w1.heap.size g5 c5 L rfl (World.ownsRow.alloc HLX.out.buf _) ⟨X.heap.size, 0, none⟩ 1 1 [nmB n.a] rfl rfl (by decide) (cells_newS X [nmB n.a] _) (by omega) (by have := HB5.out.size; have := HXU.out.size; simp; omega) ?_; intro g6 c6 w6 hS6 hg6 hgg6; have hL6 := (HLX.out.grown (World.grownBy_alloc X _ none)).put hg6 hS6 hgg6; have cl6 := lb_cell (HLX.out.grown (World.grownBy_alloc X _ none)) hg6; have HL6 := Lib.hid hL6; have HG6 := Lib.hid (And.intro hg6 (And.intro hgg6 hS6)); clear hS6 hg6 hgg6 hL6)
          obtain ⟨hg6, hgg6, hS6⟩ := HG6.out
          have hL6 := HL6.out
          have hbl6 := (HLX.out.grown (World.grownBy_alloc X (.cells #[.string (nmB n.a)] 9) none)).below (l' := L ++ [nmB n.a]) (g' := g6) (cap' := c6) (B := w1.heap.size) hg6 (Nat.le_refl _) (by have := HB5.out.size; have := HXU.out.size; simp; omega)
          rw [List.length_append] at hL6 hbl6
          obtain ⟨X2, hX2⟩ : ∃ X2, X2 = w6.setCell ⟨lb, 0, none⟩ (.slice (some ⟨g6, 0, none⟩) (L.length + 1) c6) := ⟨_, rfl⟩
          have hbX := ((HB5.out.trans (HXU.out.mono HB5.out.size)).alloc (by have := HB5.out.size; have := HXU.out.size; omega) (.cells #[.string (nmB n.a)] 9)).trans hbl6
          have hln : LnS w1 X2 lb (L ++ [nmB n.a]) := by rw [hX2]; exact ⟨⟨g6, c6, hL6⟩, hbX⟩
          rw [← hX2]
          have H9 := Lib.hid hln
          clear hg6 hgg6 hS6 hL6 hbl6 hX2 hbX hln cl6
          obtain ⟨g9, c9, nl, hc9, hJ9, hB9⟩ := line_join HO.out HSZ.out H9.out (by rw [HLL.out]; unfold lineL subsN; rw [← HK.out.1, HKD.out]; simp [numsK])
          have HJ9 := Lib.hid hJ9
          have HB9 := Lib.hid hB9
          clear hJ9 hB9
          go_wp2_with (go_at_call 50; (with_reducible refine HJ9.out.mono ?_); rintro e v9 ⟨rfl, hv9⟩)
          go_ret2
          have hbF := HBW.out.trans ((HB9.out.trans (hv9.mono HB9.out.size)).mono (Nat.le_trans HB.out.1.size HG1.out.2))
          exact ⟨by rw [HOE.out]; rfl, hbF⟩
  · as_aux_lemma =>
    have hok : lineOk n at_ = false := by
      unfold lineOk
      by_cases h1 : 0 ≤ at_
      · rw [decide_eq_false (show ¬ at_ < 4096 by omega), Bool.and_false, Bool.false_and]
      · rw [decide_eq_false h1, Bool.false_and, Bool.false_and]
    have e1 : lineT hi lo n at_ = [] := by unfold lineT; rw [if_neg (by rw [hok]; decide)]
    have e2 : lineE n at_ = 190 := by unfold lineE; rw [if_neg (by rw [hok]; decide)]
    have HQ := Lib.hid (And.intro e1 e2)
    have hcase : at_ < 0 ∨ 4096 ≤ at_ := by omega
    clear hok CN hW hBW hNB hWs hE hG hk hkd hn e1 e2 hat
    rcases hcase with hc | hc
    · have at2 : decide (at_ < 0) = true := decide_eq_true hc
      clear hc
      go_enter Tryz.func26, Tryz.ntmps26
      unfold Nd.val Nd.cells
      go_upto_region 1 with fail
      have hW2 : w.alloc (.cells n.cells.toArray 49) = W := HW.out.symm
      unfold Nd.cells at hW2
      rw [hW2]
      clear hW2
      go_wp2_with fail
      go_ret2
      exact ⟨by rw [HQ.out.1, HQ.out.2]; rfl, HB.out.1⟩
    · have at2 : decide (at_ < 0) = false := decide_eq_false (by omega)
      have at3 : decide (4096 ≤ at_) = true := decide_eq_true hc
      clear hc
      go_enter Tryz.func26, Tryz.ntmps26
      unfold Nd.val Nd.cells
      go_upto_region 1 with fail
      have hW2 : w.alloc (.cells n.cells.toArray 49) = W := HW.out.symm
      unfold Nd.cells at hW2
      rw [hW2]
      clear hW2
      go_wp2_with fail
      go_ret2
      exact ⟨by rw [HQ.out.1, HQ.out.2]; rfl, HB.out.1⟩
theorem line_any (hi lo : Nat → Nat) (n : Nd) (hn : n.ok) (hkd : n.kind < 256) (at_ : Int) (_a0 : -4611686018427387904 ≤ at_) (_a1 : at_ ≤ 4611686018427387904) (w : World) (hE : Env hi lo w) (hG : Gl w.heap.size) :
    Calls Tryz.prog 26 #[n.val, .int .i64 at_] w (Bel w (.tuple #[.string (bA (lineT hi lo n at_)), .int .i64 (lineE n at_)])) :=
  line_all hi lo n hn hkd at_ w hE hG
end Go.Proofs.YtcbgkbidgpemfaaGreatDoor.prnw
