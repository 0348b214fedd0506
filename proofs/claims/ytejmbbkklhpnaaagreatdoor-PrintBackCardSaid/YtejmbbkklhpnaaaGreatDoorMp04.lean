/- The walk of check.Right. Condition: the nodes lie in memory, within the reach. -/
import Derived.Test.YtejmbbkklhpnaaaGreatDoorMp03
import Derived.Test.YtejmbbkklhpnaaaGreatDoorMp01
import Derived.Deep.MidRow
import Derived.Laws.CopyOwn
import Derived.Laws.Tables
import Derived.WalkKit
namespace Go.Proofs.YtejmbbkklhpnaaaGreatDoor.nodew
open Go.RowKit Go.Shelf
open Go.Proofs.YtejmbbkklhpnaaaGreatDoor.words
attribute [local go_sem] run_store_float

def ncells (l : List Nd) : List Value := l.flatMap Nd.cells
theorem nd_cells_len (n : Nd) : n.cells.length = 19 := rfl
theorem ncells_get : ∀ (l : List Nd) (i j : Nat) (h : i < l.length), j < 19 → (ncells l)[i * 19 + j]? = (l[i].cells)[j]?
  | a :: r, 0, j, _, hj => by
    show (a.cells ++ ncells r)[0 * 19 + j]? = _
    rw [Nat.zero_mul, Nat.zero_add, List.getElem?_append_left (by rw [nd_cells_len]; exact hj)]; rfl
  | a :: r, i + 1, j, h, hj => by
    show (a.cells ++ ncells r)[(i + 1) * 19 + j]? = _
    rw [List.getElem?_append_right (by rw [nd_cells_len]; omega)]
    have := ncells_get r i j (by simpa using h) hj
    rw [List.getElem_cons_succ, ← this, nd_cells_len]
    congr 1
    omega
  | [], i, j, h, _ => by simp at h

/-- the slice value v holds the nodes l, in blocks below B -/
def NRead (W : World) (B : Nat) (v : Value) (l : List Nd) : Prop :=
  ∃ A c, v = .slice A l.length c ∧ (l ≠ [] → ∃ g off, A = some ⟨g, off, none⟩ ∧ g < B ∧ g < W.heap.size ∧ ∀ j u, (ncells l)[j]? = some u → W.cell? ⟨g, off + j, none⟩ = some u)
theorem NRead.keep {W W' : World} {B : Nat} {v : Value} {l : List Nd} (h : NRead W B v l) (hz : W.heap.size ≤ W'.heap.size) (hg : ∀ g, g < B → g < W.heap.size → W'.heap[g]? = W.heap[g]?) : NRead W' B v l := by
  obtain ⟨A, c, hv, hx⟩ := h
  refine ⟨A, c, hv, fun h0 => ?_⟩
  obtain ⟨g, off, hA, hB, hgl, hcell⟩ := hx h0
  exact ⟨g, off, hA, hB, by omega, fun j u hu => (World.cell?_of_block (a := ⟨g, off + j, none⟩) (hg g hB hgl)).trans (hcell j u hu)⟩
/-- a node's numbers are numbers -/
def Nd.ok (n : Nd) : Prop := n.x.length = 16 ∧ ∀ v ∈ n.x, v < 18446744073709551616
theorem Nd.load_at (n : Nd) (W : World) (g off : Nat) (h : ∀ j u, n.cells[j]? = some u → W.cell? ⟨g, off + j, none⟩ = some u) : (Instr.loadAt 67 (.pointer (some ⟨g, off, none⟩))).run Tryz.prog W = .ok n.val W :=
  run_loadAt_mid W g off 67 n.cells _ h Tryz.underlying67 rfl (by kernel_rfl)

/-- are nodes a program -/
def rightP (l : List Nd) : Bool := ((List.range l.length).all fun i => match l[i]? with | some n => nodeOk n i | none => true) && decide (0 < l.length) && decide (l.length ≤ 4096)
theorem rightP_bad {l : List Nd} {k : Nat} (hk : k < l.length) (h : nodeOk l[k] k = false) : rightP l = false := by
  unfold rightP
  have : ((List.range l.length).all fun i => match l[i]? with | some n => nodeOk n i | none => true) = false := by
    rw [List.all_eq_false]
    exact ⟨k, List.mem_range.2 hk, by simp [hk, h]⟩
  rw [this]; rfl
theorem rightP_good {l : List Nd} (h : ∀ k (hk : k < l.length), nodeOk l[k] k = true) : rightP l = (decide (0 < l.length) && decide (l.length ≤ 4096)) := by
  unfold rightP
  have : ((List.range l.length).all fun i => match l[i]? with | some n => nodeOk n i | none => true) = true := by
    rw [List.all_eq_true]
    intro i hi
    have hi := List.mem_range.1 hi
    simp [hi, h i hi]
  rw [this]; rfl

theorem nd_info (n : Nd) : (Tryz.prog.info? 67).map (·.size) = some n.cells.toArray.size := by kernel_rfl
theorem nd_one (n : Nd) : n.cells.toArray.all (·.oneCell') = true := by simp [Nd.cells, Value.oneCell']
theorem nd_size (n : Nd) : n.cells.toArray.size = 19 := by rw [List.size_toArray]; rfl
set_option maxRecDepth 100000 in
set_option maxHeartbeats 4000000 in
theorem right_any (B : Nat) (v : Value) (l : List Nd) (hok : ∀ n ∈ l, n.ok) (hl : l.length ≤ 1000000000000) (w : World) (hr : NRead w B v l) (_hB : B ≤ w.heap.size) :
    Calls Tryz.prog 14 #[v] w fun e w' => e = .returned (.bool (rightP l)) ∧ Below w.heap.size w w' := by
  obtain ⟨A, c, rfl, hx⟩ := hr
  go_enter Tryz.func14, Tryz.ntmps14
  go_wp2_with fail
  go_loopw [7] (fun i wr => ∃ k : Nat, k ≤ l.length ∧ i = .int .i64 k ∧ Below w.heap.size w wr ∧ ∀ j (hj : j < l.length), j < k → nodeOk l[j] j = true) (fun i _ => l.length - (intOf i).toNat)
  case atStart => exact ⟨0, Nat.zero_le _, rfl, Below.refl _ _, fun _ _ h => by omega⟩
  case round =>
    obtain ⟨k, hk, rfl, hBr, hall⟩ := hrel
    have hz := hBr.size
    by_cases hkl : k < l.length
    · obtain ⟨g, off, rfl, hgB, hgl, hcell⟩ := hx (by intro e; subst e; simp at hkl)
      obtain ⟨n, hn⟩ : ∃ n, l[k] = n := ⟨_, rfl⟩
      have hno : n.ok := hok n (by rw [← hn]; exact List.getElem_mem hkl)
      have hrg : wr.rangeAt g (off + k * 19) n.cells := fun j u hu => by
        have hj : j < 19 := by have := (List.getElem?_eq_some_iff.1 hu).1; rwa [nd_cells_len] at this
        rw [Nat.add_assoc]
        exact (World.cell?_of_block (a := ⟨g, off + (k * 19 + j), none⟩) (hBr.block g hgl)).trans (hcell (k * 19 + j) u (by rw [ncells_get l k j hkl hj, hn]; exact hu))
      have HA := Lib.hid hall
      have HNO := Lib.hid hno
      have HN := Lib.hid hn
      have HR := Lib.hid hrg
      clear hall hno hn hcell hrg
      go_wp2_with (first
        | (refine wpList_load_mid rfl 67 (.tmp 10) rfl g (off + k * 19) rfl n.cells _ HR.out Tryz.underlying67 rfl (by kernel_rfl) ?_)
        | (refine wpList_store_row rfl 67 (.tmp 4) (.tmp 11) rfl wr.heap.size n.cells.toArray rfl rfl _ _ (heap_alloc_new wr _) (nd_info n) (by rw [nd_size]; rfl) (nd_one n) ?_)
        | (refine wpList_load_row rfl 67 (.tmp 4) rfl wr.heap.size rfl _ n.cells.toArray _ _ (setRow_heap _ _ _ _ _ _ (heap_alloc_new wr _)) Tryz.underlying67 rfl (by kernel_rfl) ?_))
      obtain ⟨W, hW⟩ : ∃ W, W = (wr.alloc (.cells #[.int .u8 0, .float .f64 0, .float .f64 0, .float .f64 0, .float .f64 0, .float .f64 0, .float .f64 0, .float .f64 0, .float .f64 0, .float .f64 0, .float .f64 0, .float .f64 0, .float .f64 0, .float .f64 0, .float .f64 0, .float .f64 0, .float .f64 0, .int .i64 0, .int .i64 0] 67)).setRow wr.heap.size n.cells.toArray := ⟨_, rfl⟩
      have hBW : Below w.heap.size w W := by rw [hW]; exact below_setRow (hBr.alloc hz _) hz _
      rw [← hW]
      clear hW
      have hno := HNO.out
      refine (node_any n hno.2 hno.1 k W).mono ?_
      rintro e wy ⟨rfl, hBy⟩
      have hBz := hBW.trans (hBy.mono hBW.size)
      cases hq : nodeOk n k with
      | true =>
        have H1 := Lib.hid hq
        clear hq hno hBW hBy
        go_wp2_with fail
        go_roundw
        case rel =>
          refine ⟨k + 1, by omega, by go_num, hBz, fun j hj hjk => ?_⟩
          by_cases e : j = k
          · subst e; rw [HN.out]; exact H1.out
          · exact HA.out j hj (by omega)
        case measure => simp [intOf]; omega
      | false =>
        have hbad : rightP l = false := rightP_bad hkl (by rw [HN.out]; exact hq)
        have HB := Lib.hid hbad
        clear hq hno hbad hBW hBy
        go_wp2_with fail
        go_ret
        exact ⟨ret_bool HB.out.symm, hBz⟩
    · obtain rfl : k = l.length := by omega
      have hg := rightP_good fun j hj => hall j hj hj
      have HG := Lib.hid hg
      clear hg hall
      go_wp2_with fail
      all_goals go_ret
      all_goals refine ⟨ret_bool ?_, hBr⟩
      all_goals rw [HG.out]
      all_goals by_cases h1 : 0 < l.length
      all_goals by_cases h2 : l.length ≤ 4096
      all_goals simp [h1, h2]
      all_goals omega

end Go.Proofs.YtejmbbkklhpnaaaGreatDoor.nodew

/- The plain mathematics of layer 15 (lex): what the tokens of a list of bytes are. No program in sight. No conditions. -/
namespace Go.Proofs.YtejmbbkklhpnaaaGreatDoor.lexm

/-- a letter -/
def ltrI (c : Int) : Bool := (decide (65 ≤ c) && decide (c ≤ 90)) || (decide (97 ≤ c) && decide (c ≤ 122)) || c == 95
/-- a digit -/
def digI (c : Int) : Bool := decide (48 ≤ c) && decide (c ≤ 57)
/-- a byte of a word -/
def namI (c : Int) : Bool := ltrI c || digI c
/-- a byte of a number -/
def numI (c : Int) : Bool := (!(c == 95) && namI c) || c == 45 || c == 43 || c == 46
/-- a byte of a remark -/
def remI (c : Int) : Bool := !(c == 10)

/-- how many bytes a text begins with that may be -/
def runL (p : Int → Bool) : List UInt8 → Nat
  | [] => 0
  | c :: r => if p c.toNat then runL p r + 1 else 0

theorem runL_le (p : Int → Bool) (l : List UInt8) : runL p l ≤ l.length := by
  induction l with
  | nil => simp [runL]
  | cons c r ih => simp only [runL, List.length_cons]; split <;> omega

theorem runL_pos {p : Int → Bool} {c : UInt8} {r : List UInt8} (h : p c.toNat = true) : runL p (c :: r) = runL p r + 1 := by simp [runL, h]
theorem runL_neg {p : Int → Bool} {c : UInt8} {r : List UInt8} (h : p c.toNat = false) : runL p (c :: r) = 0 := by simp [runL, h]

/-- what a text begins with: a kind (0: nothing), how many bytes, and whether it may be -/
def firstL : List UInt8 → Nat × Nat × Bool
  | [] => (0, 0, false)
  | c :: r =>
    if c.toNat = 32 then (0, 1, true)
    else if c.toNat = 35 then (0, runL remI (c :: r), true)
    else if c.toNat = 10 then (4, 1, true)
    else if c.toNat = 61 then (3, 1, true)
    else if ltrI c.toNat = true then (1, runL namI (c :: r), decide (runL namI (c :: r) ≤ 32))
    else if (digI c.toNat || (c.toNat : Int) == 45 || (c.toNat : Int) == 46) = true then (2, runL numI (c :: r), decide (runL numI (c :: r) ≤ 40))
    else (0, 0, false)

theorem firstL_le (l : List UInt8) : (firstL l).2.1 ≤ l.length := by
  cases l with
  | nil => simp [firstL]
  | cons c r =>
    have h1 := runL_le remI (c :: r)
    have h2 := runL_le namI (c :: r)
    have h3 := runL_le numI (c :: r)
    simp only [List.length_cons] at *
    simp only [firstL]
    repeat' split
    all_goals simp only
    all_goals omega

theorem firstL_kind (l : List UInt8) : (firstL l).1 ≤ 4 := by
  cases l with
  | nil => simp [firstL]
  | cons c r =>
    unfold firstL
    repeat' split
    all_goals simp only
    all_goals omega

theorem ltr_nam {c : Int} (h : ltrI c = true) : namI c = true := by simp [namI, h]
theorem dig_num {c : Int} (h : (digI c || c == 45 || c == 46) = true) : numI c = true := by
  simp only [Bool.or_eq_true, beq_iff_eq] at h
  rcases h with (h | h) | h
  · have h2 := h
    simp only [digI, Bool.and_eq_true, decide_eq_true_eq] at h2
    have h3 : ¬ c = 95 := by omega
    simp [numI, namI, h, h3]
  · simp [numI, h]
  · simp [numI, h]

/-- what is there takes a byte at least -/
theorem firstL_pos {l : List UInt8} (hl : l ≠ []) (h : (firstL l).2.2 = true ∨ (firstL l).1 ≠ 0) : 1 ≤ (firstL l).2.1 := by
  cases l with
  | nil => exact absurd rfl hl
  | cons c r =>
    simp only [firstL] at h ⊢
    split at h
    · simp [*]
    · rename_i h32
      rw [if_neg h32]
      split at h
      · rename_i h35
        rw [if_pos h35, runL_pos (by simp [remI, h35])]
        simp
      · rename_i h35
        rw [if_neg h35]
        split at h
        · simp [*]
        · rename_i h10
          rw [if_neg h10]
          split at h
          · simp [*]
          · rename_i h61
            rw [if_neg h61]
            split at h
            · rename_i hlt
              rw [if_pos hlt, runL_pos (ltr_nam hlt)]
              simp
            · rename_i hlt
              rw [if_neg hlt]
              split at h
              · rename_i hd
                rw [if_pos hd, runL_pos (dig_num hd)]
                simp
              · simp at h

/-- a token -/
structure Tok where
  kind : Nat
  pos : Nat
  text : List UInt8
deriving DecidableEq

def Tok.cells (t : Tok) : List Value := [.int .u8 t.kind, .int .i64 t.pos, .string ⟨t.text.toArray⟩]
def Tok.val (t : Tok) : Value := .agg #[.int .u8 t.kind, .int .i64 t.pos, .string ⟨t.text.toArray⟩]
def cellsOf (ts : List Tok) : List Value := ts.flatMap Tok.cells

theorem cellsOf_snoc (ts : List Tok) (t : Tok) : cellsOf (ts ++ [t]) = cellsOf ts ++ t.cells := by simp [cellsOf]

/-- the tokens from place 'at' on, the last one's kind being 'last': each with true; or, at an error, with false as the last one -/
def lexG : Nat → List UInt8 → Nat → Nat → List (Tok × Bool)
  | _, [], i, last => if last = 4 then [] else [(⟨4, i, []⟩, true)]
  | 0, _ :: _, _, _ => []
  | f + 1, c :: r, i, last =>
    match firstL (c :: r) with
    | (k, n, true) => if k = 0 then lexG f ((c :: r).drop n) (i + n) last else (⟨k, i, (c :: r).take n⟩, true) :: lexG f ((c :: r).drop n) (i + n) k
    | (k, n, false) => [(⟨k, i, (c :: r).take n⟩, false)]

theorem lexG_more : ∀ (f g : Nat) (l : List UInt8) (i last : Nat), l.length ≤ f → l.length ≤ g → lexG f l i last = lexG g l i last := by
  intro f
  induction f with
  | zero =>
    intro g l i last hf hg
    obtain rfl : l = [] := List.eq_nil_of_length_eq_zero (by omega)
    cases g <;> rfl
  | succ f ih =>
    intro g l i last hf hg
    cases l with
    | nil => cases g <;> rfl
    | cons c r =>
      cases g with
      | zero => simp at hg
      | succ g =>
        have hp := firstL_pos (l := c :: r) (by simp)
        unfold lexG
        generalize firstL (c :: r) = q at *
        obtain ⟨k, n, b⟩ := q
        cases b with
        | false => rfl
        | true =>
          have hn : 1 ≤ n := hp (.inl rfl)
          have hd : ((c :: r).drop n).length ≤ f := by rw [List.length_drop]; omega
          have hd' : ((c :: r).drop n).length ≤ g := by rw [List.length_drop]; omega
          simp only
          rw [ih g _ _ last hd hd', ih g _ _ k hd hd']

def lexT (l : List UInt8) (i last : Nat) : List (Tok × Bool) := lexG l.length l i last

theorem lexT_nil (i last : Nat) : lexT [] i last = if last = 4 then [] else [(⟨4, i, []⟩, true)] := rfl
theorem lexT_skip {l : List UInt8} {n i last : Nat} (hl : l ≠ []) (h : firstL l = (0, n, true)) : lexT l i last = lexT (l.drop n) (i + n) last := by
  cases l with
  | nil => exact absurd rfl hl
  | cons c r =>
    have hn : 1 ≤ n := by have := firstL_pos (l := c :: r) (by simp) (.inl (by rw [h])); rwa [h] at this
    unfold lexT
    rw [List.length_cons]
    conv => lhs; unfold lexG
    rw [h]
    simp only [if_true]
    exact lexG_more _ _ _ _ _ (by rw [List.length_drop, List.length_cons]; omega) (Nat.le_refl _)
theorem lexT_tok {l : List UInt8} {k n i last : Nat} (hl : l ≠ []) (h : firstL l = (k, n, true)) (hk : k ≠ 0) : lexT l i last = (⟨k, i, l.take n⟩, true) :: lexT (l.drop n) (i + n) k := by
  cases l with
  | nil => exact absurd rfl hl
  | cons c r =>
    have hn : 1 ≤ n := by have := firstL_pos (l := c :: r) (by simp) (.inl (by rw [h])); rwa [h] at this
    unfold lexT
    rw [List.length_cons]
    conv => lhs; unfold lexG
    rw [h]
    simp only [if_neg hk]
    rw [lexG_more r.length _ _ _ k (by rw [List.length_drop, List.length_cons]; omega) (Nat.le_refl _)]
theorem lexT_bad {l : List UInt8} {k n i last : Nat} (hl : l ≠ []) (h : firstL l = (k, n, false)) : lexT l i last = [(⟨k, i, l.take n⟩, false)] := by
  cases l with
  | nil => exact absurd rfl hl
  | cons c r =>
    unfold lexT
    rw [List.length_cons]
    conv => lhs; unfold lexG
    rw [h]

/-- the place of the first error -/
def errOf : List (Tok × Bool) → Option Nat
  | [] => none
  | (_, true) :: r => errOf r
  | (t, false) :: _ => some t.pos
/-- the tokens ahead of the first error -/
def toksOf : List (Tok × Bool) → List Tok
  | [] => []
  | (t, true) :: r => t :: toksOf r
  | (_, false) :: _ => []

theorem errOf_app (ts : List Tok) (r : List (Tok × Bool)) : errOf (ts.map (fun t => (t, true)) ++ r) = errOf r := by
  induction ts with
  | nil => rfl
  | cons t ts ih => simpa [errOf] using ih
theorem toksOf_app (ts : List Tok) (r : List (Tok × Bool)) : toksOf (ts.map (fun t => (t, true)) ++ r) = ts ++ toksOf r := by
  induction ts with
  | nil => rfl
  | cons t ts ih => simpa [toksOf] using ih

/-- what Lex answers: the tokens, the place, the error -/
def lexRes (l : List UInt8) : List Tok × Nat × Nat :=
  if 1048576 < l.length then ([], 1048576, 151)
  else match errOf (lexT l 0 4) with
    | some i => ([], i, 150)
    | none => (toksOf (lexT l 0 4), 0, 0)

theorem lexG_len (f : Nat) : ∀ (l : List UInt8) (i last : Nat), l.length ≤ f → (lexG f l i last).length ≤ l.length + 1 := by
  induction f with
  | zero =>
    intro l i last hf
    obtain rfl : l = [] := List.eq_nil_of_length_eq_zero (by omega)
    unfold lexG; split <;> simp
  | succ f ih =>
    intro l i last hf
    cases l with
    | nil => unfold lexG; split <;> simp
    | cons c r =>
      have hp := firstL_pos (l := c :: r) (by simp)
      unfold lexG
      generalize firstL (c :: r) = q at *
      obtain ⟨k, n, b⟩ := q
      cases b with
      | false => simp
      | true =>
        have hn : 1 ≤ n := hp (.inl rfl)
        have hd : ((c :: r).drop n).length ≤ f := by rw [List.length_drop]; omega
        have hl : ((c :: r).drop n).length + 1 ≤ (c :: r).length := by rw [List.length_drop]; simp only [List.length_cons] at *; omega
        simp only
        split
        · exact Nat.le_trans (ih _ _ _ hd) (by omega)
        · have := ih _ (i + n) k hd
          simp only [List.length_cons] at *
          omega
theorem lexT_len (l : List UInt8) (i last : Nat) : (lexT l i last).length ≤ l.length + 1 := lexG_len _ _ _ _ (Nat.le_refl _)

end Go.Proofs.YtejmbbkklhpnaaaGreatDoor.lexm

/- The contracts of library functions: in ShfP. -/

