/- A node as a list of numbers; the walk of check.Node, its first part. -/
import Derived.Test.YtcbgkbidgpemfaaGreatDoorMp12
import Derived.Test.YtcbgkbidgpemfaaGreatDoorMp01
import Derived.Laws.BitsAllLaws
import Derived.Deep.Cut
import Derived.Deep.CutRange
import Derived.Deep.MidRow
import Derived.Laws.CopyOwn
import Derived.Laws.Tables
import Derived.WalkKit
namespace Go.Proofs.YtcbgkbidgpemfaaGreatDoor.nodew
open Go.RowKit Go.Shelf
open Go.Proofs.YtcbgkbidgpemfaaGreatDoor.words
attribute [local go_sem] run_store_float

theorem idx_run (a b : Int) (w : World) : (Instr.index 121 (.agg #[.int .i64 a, .int .i64 b]) (.int .i64 0)).run Tryz.prog w = .ok (.int .i64 a) w := by
  simp [Instr.index, asIntOf, run_underlying Tryz.underlying121, go_sem, part, Tryz.sizeOf3, Tryz.isAgg3]
theorem idx_run1 (a b : Int) (w : World) : (Instr.index 121 (.agg #[.int .i64 a, .int .i64 b]) (.int .i64 1)).run Tryz.prog w = .ok (.int .i64 b) w := by
  simp [Instr.index, asIntOf, run_underlying Tryz.underlying121, go_sem, part, Tryz.sizeOf3, Tryz.isAgg3]
attribute [local go_sem] idx_run idx_run1

/-- a node: its kind, its sixteen numbers, its two places -/
structure Nd where
  kind : Nat
  x : List Nat
  a : Int
  b : Int
deriving DecidableEq
def Nd.f (n : Nd) (j : Nat) : Nat := n.x.getD (j - 1) 0
def Nd.cells (n : Nd) : List Value :=
  [.int .u8 n.kind, .float .f64 (n.f 1), .float .f64 (n.f 2), .float .f64 (n.f 3), .float .f64 (n.f 4), .float .f64 (n.f 5), .float .f64 (n.f 6), .float .f64 (n.f 7), .float .f64 (n.f 8), .float .f64 (n.f 9), .float .f64 (n.f 10), .float .f64 (n.f 11), .float .f64 (n.f 12),
   .float .f64 (n.f 13), .float .f64 (n.f 14), .float .f64 (n.f 15), .float .f64 (n.f 16), .int .i64 n.a, .int .i64 n.b]
def Nd.val (n : Nd) : Value := .agg n.cells.toArray
def Nd.zero (n : Nd) (j : Nat) : Nd := { n with x := n.x.set (j - 1) 0 }
theorem Nd.cell_f (n : Nd) (j : Nat) (h1 : 1 ≤ j) (h2 : j ≤ 16) : n.cells[j]? = some (.float .f64 (n.f j)) := by
  have : j = 1 ∨ j = 2 ∨ j = 3 ∨ j = 4 ∨ j = 5 ∨ j = 6 ∨ j = 7 ∨ j = 8 ∨ j = 9 ∨ j = 10 ∨ j = 11 ∨ j = 12 ∨ j = 13 ∨ j = 14 ∨ j = 15 ∨ j = 16 := by omega
  rcases this with rfl | rfl | rfl | rfl | rfl | rfl | rfl | rfl | rfl | rfl | rfl | rfl | rfl | rfl | rfl | rfl <;> rfl

/-- the block nb holds the node n -/
def NBlk (w : World) (nb : Nat) (n : Nd) : Prop := w.heap[nb]? = some (.cells n.cells.toArray 49 (0, 0))
theorem NBlk.cell {w : World} {nb : Nat} {n : Nd} (h : NBlk w nb n) (i : Nat) : w.cell? ⟨nb, i, none⟩ = n.cells[i]? := by
  rw [cell_of_row w nb i n.cells.toArray 49 (0, 0) h]; simp

theorem fieldList_range (k : Nat) : ∀ d ∈ fieldList k, 1 ≤ d.1 ∧ d.1 ≤ 16 := by
  intro d hd
  unfold fieldList at hd
  repeat' split at hd
  all_goals simp only [List.mem_cons, List.not_mem_nil, or_false] at hd
  all_goals (repeat' rcases hd with rfl | hd)
  all_goals first | (subst hd; decide) | decide | (cases hd)

def ndOk (n : Nd) (l : List (Nat × Nat × Nat)) : Bool := l.all fun d => withinF d.2.1 d.2.2 (n.f d.1)

theorem NBlk.below {w w' : World} {nb : Nat} {n : Nd} {B : Nat} (h : NBlk w nb n) (hb : Below B w w') (hn : nb < B) : NBlk w' nb n := (hb.block nb hn).trans h

theorem NBlk.load {w : World} {nb : Nat} {n : Nd} (h : NBlk w nb n) : (loadVar 49 ⟨nb, 0, none⟩).run Tryz.prog w = .ok n.val w :=
  run_loadVar_row w nb _ _ _ _ _ h Tryz.underlying49 rfl (by kernel_rfl)
theorem NBlk.loadAt {w : World} {nb : Nat} {n : Nd} (h : NBlk w nb n) : (Instr.loadAt 49 (.pointer (some ⟨nb, 0, none⟩))).run Tryz.prog w = .ok n.val w := by
  simp only [Instr.loadAt, Instr.sureAddr, Sem.run_bind, Sem.run_pure, Result.andThen_ok, h.load]

theorem wpList_load_nd_g (w : World) {ops : Array Oper} {rest : List Oper} {o : Oper} {a : Act} {Q : Exit → Act → World → Prop} (hgd : Region.wanted o (yielded ops a.tmps) = true) (x : Operand)
    (ho : o.op = .load 49 x) (g : Nat) (hx : a.eval x = .pointer (some ⟨g, 0, none⟩)) (n : Nd) (hg : NBlk w g n)
    (h : wpList Tryz.prog ops Q rest (a.put o.dst n.val) w) : wpList Tryz.prog ops Q (o :: rest) a w :=
  wpList_wanted w hgd fun _ hK => wp_load_row _ x ho g hx _ _ _ _ hg Tryz.underlying49 rfl (by kernel_rfl) (hK _ _ h)

theorem below_drewN' {B : Nat} {a w : World} (h : Below B a w) (n : Nat) : Below B a (w.drewN n) := ⟨h.os, h.tape, h.output, h.size, h.block⟩

/-- the slice v holds the numbers' rows l -/
def FRow (w : World) (B : Nat) (v : Value) (l : List Fd) : Prop := ∃ A c, v = .slice A l.length c ∧ ∀ k (hk : k < l.length), ∃ g, A = some ⟨g, 0, none⟩ ∧ B ≤ g ∧ g < w.heap.size ∧
  w.cell? ⟨g, k * 3, none⟩ = some l[k].F ∧ w.cell? ⟨g, k * 3 + 1, none⟩ = some (.float .f64 l[k].lo) ∧ w.cell? ⟨g, k * 3 + 2, none⟩ = some (.float .f64 l[k].hi)
theorem FRow.of_own {w : World} {B : Nat} {v : Value} {l : List Fd} (h : w.ownsRow B 129 3 v l.length (fcells l)) : FRow w B v l := by
  rcases Nat.eq_zero_or_pos l.length with h0 | h0
  · rcases h.2 with ⟨rfl, _⟩ | ⟨g, cap, _, rfl, _⟩
    · exact ⟨_, _, by rw [h0], fun k hk => by omega⟩
    · exact ⟨_, _, rfl, fun k hk => by omega⟩
  · obtain ⟨g, cap, rfl, hg, hgl, hxl, hc⟩ := row_at h h0
    refine ⟨_, _, rfl, fun k hk => ⟨g, rfl, hg, hgl, ?_⟩⟩
    have hadd : ∀ j, (⟨g, 0, none⟩ : Addr).add j = ⟨g, j, none⟩ := fun j => by unfold Addr.add; split <;> simp_all
    have h0 := hc (k * 3 + 0) _ ((fcells_get l k 0 hk (by omega)).trans rfl)
    have h1 := hc (k * 3 + 1) _ ((fcells_get l k 1 hk (by omega)).trans rfl)
    have h2 := hc (k * 3 + 2) _ ((fcells_get l k 2 hk (by omega)).trans rfl)
    rw [hadd] at h0 h1 h2
    exact ⟨h0, h1, h2⟩

theorem list_all_take {α : Type} (p : α → Bool) (l : List α) (k : Nat) (hk : k < l.length) (h : (l.take k).all p = true) : ((l.take (k + 1)).all p = true) ↔ p l[k] = true := by
  rw [List.take_add_one, List.all_append, h, List.getElem?_eq_getElem hk]
  simp

theorem nd_zero_cells (n : Nd) (hl : n.x.length = 16) (j : Nat) (h1 : 1 ≤ j) (h2 : j ≤ 16) : (n.zero j).cells = n.cells.set j (.float .f64 0) := by
  obtain ⟨k, x, a, b⟩ := n
  simp only at hl
  match x, hl with
  | [x1, x2, x3, x4, x5, x6, x7, x8, x9, x10, x11, x12, x13, x14, x15, x16], _ =>
    have : j = 1 ∨ j = 2 ∨ j = 3 ∨ j = 4 ∨ j = 5 ∨ j = 6 ∨ j = 7 ∨ j = 8 ∨ j = 9 ∨ j = 10 ∨ j = 11 ∨ j = 12 ∨ j = 13 ∨ j = 14 ∨ j = 15 ∨ j = 16 := by omega
    rcases this with rfl | rfl | rfl | rfl | rfl | rfl | rfl | rfl | rfl | rfl | rfl | rfl | rfl | rfl | rfl | rfl <;> rfl
theorem NBlk.frozen {w : World} {nb : Nat} {n : Nd} (h : NBlk w nb n) (i : Nat) : w.frozen? ⟨nb, i, none⟩ = false := by
  simp [World.frozen?, show w.heap[nb]? = _ from h]
theorem NBlk.zero {w : World} {nb : Nat} {n : Nd} (h : NBlk w nb n) (hl : n.x.length = 16) (j : Nat) (h1 : 1 ≤ j) (h2 : j ≤ 16) : NBlk (w.setCell ⟨nb, j, none⟩ (.float .f64 0)) nb (n.zero j) := by
  obtain ⟨hlt, hk⟩ := Array.getElem?_eq_some_iff.1 h
  show (w.heap.modify nb _)[nb]? = _
  rw [Array.getElem?_eq_getElem (by rw [Array.size_modify]; exact hlt), Array.getElem_modify_self, hk, nd_zero_cells n hl j h1 h2]
  simp
theorem NBlk.alloc {w : World} {nb : Nat} {n : Nd} (h : NBlk w nb n) (o : Obj) : NBlk (w.alloc o) nb n := by
  have hlt := (Array.getElem?_eq_some_iff.1 h).1
  show (w.heap.push o)[nb]? = _
  rw [Array.getElem?_push_lt hlt]
  exact (Array.getElem?_eq_getElem hlt).symm.trans h
theorem NBlk.drewN {w : World} {nb : Nat} {n : Nd} (h : NBlk w nb n) (m : Nat) : NBlk (w.drewN m) nb n := h
def Nd.zeros (n : Nd) (l : List Nat) : Nd := l.foldl Nd.zero n
theorem Nd.zero_len (n : Nd) (j : Nat) : (n.zero j).x.length = n.x.length := by simp [Nd.zero]
theorem Nd.zeros_len (n : Nd) (l : List Nat) : (n.zeros l).x.length = n.x.length := by
  induction l generalizing n with
  | nil => rfl
  | cons j r ih => exact (ih (n.zero j)).trans (n.zero_len j)
theorem Nd.zeros_kind (n : Nd) (l : List Nat) : (n.zeros l).kind = n.kind ∧ (n.zeros l).a = n.a ∧ (n.zeros l).b = n.b := by
  induction l generalizing n with
  | nil => exact ⟨rfl, rfl, rfl⟩
  | cons j r ih => exact ih (n.zero j)
theorem Nd.zeros_snoc (n : Nd) (l : List Nat) (j : Nat) : n.zeros (l ++ [j]) = (n.zeros l).zero j := by simp [Nd.zeros]

/-- the node n has its numbers in range -/
def inOk (n : Nd) (d : Fd) : Bool := withinF d.lo d.hi (n.f d.off)

def belowN (k : Nat) : Nat := if k = 5 then 2 else if k = 6 then 1 else 0
theorem cbelow_any (k : Nat) (w : World) : Calls Tryz.prog 77 #[.int .u8 k] w fun e w' => e = .returned (.int .i64 (belowN k)) ∧ w' = w := by
  by_cases h5 : k = 5
  · subst h5
    go_enter Tryz.func77, Tryz.ntmps77
    go_wp2
    go_ret
    exact ⟨rfl, rfl⟩
  · by_cases h6 : k = 6
    · subst h6
      go_enter Tryz.func77, Tryz.ntmps77
      go_wp2
      go_ret
      exact ⟨rfl, rfl⟩
    · have e5 : ((k : Int) == 5) = false := by rw [beq_eq_false_iff_ne]; omega
      have e6 : ((k : Int) == 6) = false := by rw [beq_eq_false_iff_ne]; omega
      have hb : belowN k = 0 := by unfold belowN; rw [if_neg h5, if_neg h6]
      rw [hb]
      go_enter Tryz.func77, Tryz.ntmps77
      go_wp2
      go_ret
      exact ⟨rfl, rfl⟩
/-- may a place be one of a node below -/
def placeOk (used : Bool) (k at_ : Int) : Bool := if used then decide (0 ≤ k) && decide (k < at_) else decide (k = 0)
/-- is nothing left of a node's numbers -/
def bare (n : Nd) : Bool := (List.range 16).all fun j => n.f (j + 1) == 0
def offs (k : Nat) : List Nat := (fieldList k).map (·.1)
/-- is a node right at a place -/
def nodeOk (n : Nd) (at_ : Int) : Bool :=
  ndOk n (fieldList n.kind) && placeOk (decide (0 < belowN n.kind)) n.a at_ && placeOk (decide (1 < belowN n.kind)) n.b at_ && decide (0 < (fieldList n.kind).length) && bare (n.zeros (offs n.kind))

theorem nodeOk_a (n nz : Nd) (hz : nz.kind = n.kind ∧ nz.a = n.a ∧ nz.b = n.b) (at_ : Int) (h : placeOk (decide (0 < belowN nz.kind)) nz.a at_ = false) : nodeOk n at_ = false := by
  rw [hz.1, hz.2.1] at h; simp [nodeOk, h]
theorem nodeOk_b (n nz : Nd) (hz : nz.kind = n.kind ∧ nz.a = n.a ∧ nz.b = n.b) (at_ : Int) (h : placeOk (decide (1 < belowN nz.kind)) nz.b at_ = false) : nodeOk n at_ = false := by
  rw [hz.1, hz.2.2] at h; simp [nodeOk, h]
theorem place_a1 (q : Nat) (k at_ : Int) (h1 : 0 < q) (h : 0 ≤ k ∧ k < at_) : placeOk (decide (0 < q)) k at_ = true := by simp [placeOk, h1, h.1, h.2]
theorem place_a2 (q : Nat) (k at_ : Int) (h1 : ¬ 0 < q) (h : (k != 0) = false) : placeOk (decide (0 < q)) k at_ = true := by simp at h; simp [placeOk, h1, h]
theorem place_b1 (q : Nat) (k at_ : Int) (h1 : 1 < (q : Int)) (h : 0 ≤ k ∧ k < at_) : placeOk (decide (1 < q)) k at_ = true := by
  have h2 : 1 < q := by omega
  simp [placeOk, h2, h.1, h.2]
theorem place_b2 (q : Nat) (k at_ : Int) (h1 : ¬ 1 < (q : Int)) (h : (k != 0) = false) : placeOk (decide (1 < q)) k at_ = true := by
  have h2 : ¬ 1 < q := by omega
  simp at h
  simp [placeOk, h2, h]
theorem place_a3 (q : Nat) (k at_ : Int) (h1 : 0 < q) (h : k < 0 ∨ at_ ≤ k) : placeOk (decide (0 < q)) k at_ = false := by simp [placeOk, h1]; omega
theorem place_a4 (q : Nat) (k at_ : Int) (h1 : ¬ 0 < q) (h : (k != 0) = true) : placeOk (decide (0 < q)) k at_ = false := by simp at h; simp [placeOk, h1, h]
theorem place_b3 (q : Nat) (k at_ : Int) (h1 : 1 < (q : Int)) (h : k < 0 ∨ at_ ≤ k) : placeOk (decide (1 < q)) k at_ = false := by
  have h2 : 1 < q := by omega
  simp [placeOk, h2]; omega
theorem place_b4 (q : Nat) (k at_ : Int) (h1 : ¬ 1 < (q : Int)) (h : (k != 0) = true) : placeOk (decide (1 < q)) k at_ = false := by
  have h2 : ¬ 1 < q := by omega
  simp at h
  simp [placeOk, h2, h]
theorem Nd.zeros_lt (n : Nd) (hx : ∀ v ∈ n.x, v < 18446744073709551616) (l : List Nat) : ∀ v ∈ (n.zeros l).x, v < 18446744073709551616 := by
  induction l generalizing n with
  | nil => exact hx
  | cons j r ih =>
    refine ih (n.zero j) fun v hv => ?_
    rcases List.mem_or_eq_of_mem_set hv with h | h
    · exact hx v h
    · omega

theorem or_zero (x y : Nat) (hx : x < 18446744073709551616) (hy : y < 18446744073709551616) : ∃ z : Nat, z < 18446744073709551616 ∧ bits .or .u64 (x : Int) (y : Int) = (z : Int) ∧ (z = 0 ↔ x = 0 ∧ y = 0) :=
  ⟨x ||| y, Nat.or_lt_two_pow (n := 64) hx hy, u64_or_nat x y hx hy, Nat.or_eq_zero_iff⟩
theorem Nd.f_lt (n : Nd) (hx : ∀ v ∈ n.x, v < 18446744073709551616) (j : Nat) : n.f j < 18446744073709551616 := by
  unfold Nd.f
  rw [List.getD_eq_getElem?_getD]
  cases h : n.x[j - 1]? with
  | none => simp
  | some v => exact hx v (List.mem_of_getElem? h)
theorem bare_iff (n : Nd) : bare n = true ↔ ∀ j, j < 16 → n.f (j + 1) = 0 := by
  simp [bare]

attribute [local go_sem] bits_run
set_option maxHeartbeats 4000000 in
/-- the bits of a node: no number is left -/
theorem bits_any (n : Nd) (hx : ∀ v ∈ n.x, v < 18446744073709551616) (_hx16 : n.x.length = 16) (w : World) :
    Calls Tryz.prog 78 #[n.val] w fun e w' => e = .returned (.bool (bare n)) ∧ Below w.heap.size w w' := by
  have hf := n.f_lt hx
  obtain ⟨z1, l1, e1, q1⟩ := or_zero (n.f 13) (n.f 14) (hf _) (hf _)
  obtain ⟨z2, l2, e2, q2⟩ := or_zero z1 (n.f 15) l1 (hf _)
  obtain ⟨z3, l3, e3, q3⟩ := or_zero z2 (n.f 16) l2 (hf _)
  have hb0 : NBlk (w.alloc (.cells n.cells.toArray 49)) w.heap.size n := heap_alloc_new w _
  have hB0 : Below w.heap.size w (w.alloc (.cells n.cells.toArray 49)) := (Below.refl _ w).alloc (Nat.le_refl _) _
  have HF := Lib.hid hf
  have Q1 := Lib.hid (And.intro q1 (And.intro q2 q3))
  clear hf hx q1 q2 q3
  go_enter Tryz.func78, Tryz.ntmps78
  unfold Nd.val
  go_upto_region 1 with (fail)
  have hc : ∀ j, 1 ≤ j → j ≤ 16 → (w.alloc (.cells n.cells.toArray 49)).cell? ⟨w.heap.size, j, none⟩ = some (.float .f64 (n.f j)) := fun j h1 h2 => (hb0.cell j).trans (n.cell_f j h1 h2)
  obtain ⟨W, hW⟩ : ∃ W, w.alloc (.cells n.cells.toArray 49) = W := ⟨_, rfl⟩
  rw [hW] at hc hB0 ⊢
  clear hW hb0
  have HC := Lib.hid hc
  have c13 := hc 13 (by omega) (by omega)
  have c14 := hc 14 (by omega) (by omega)
  have c15 := hc 15 (by omega) (by omega)
  have c16 := hc 16 (by omega) (by omega)
  clear hc
  go_quiet (fail)
  clear c13 c14 c15 c16 e1 e2 e3
  go_wp2_with fail
  go_loopw [3, 20] (fun u3 i wr => ∃ (j S : Nat), j ≤ 3 ∧ i = .int .i64 j ∧ u3 = .int .u64 S ∧ S < 18446744073709551616 ∧ wr.heap = W.heap ∧ Below w.heap.size w wr ∧ (S = 0 ↔ (z3 = 0 ∧ ∀ i, i < j → n.f (1 + i) = 0 ∧ n.f (4 + i) = 0 ∧ n.f (7 + i) = 0 ∧ n.f (10 + i) = 0)))
    (fun _ i _ => 3 - (intOf i).toNat)
  case atStart => exact ⟨0, z3, by omega, rfl, rfl, l3, rfl, below_drewN' hB0 _, by simp⟩
  case round =>
    obtain ⟨j, S, hj, rfl, rfl, hS, hh, hBr, hq⟩ := hrel
    have hf := HF.out
    have hcr : ∀ j, 1 ≤ j → j ≤ 16 → wr.cell? ⟨w.heap.size, j, none⟩ = some (.float .f64 (n.f j)) := fun j h1 h2 => by
      have := HC.out j h1 h2
      unfold World.cell? at this ⊢
      rw [hh]; exact this
    by_cases h3 : j = 3
    · subst h3
      have hS0 : (S = 0) ↔ bare n = true := by
        rw [hq, bare_iff, Q1.out.2.2, Q1.out.2.1, Q1.out.1]
        constructor
        · rintro ⟨⟨⟨⟨h13, h14⟩, h15⟩, h16⟩, h⟩ j hj
          have h0 := h 0 (by omega)
          have h1 := h 1 (by omega)
          have h2 := h 2 (by omega)
          have hj' : j = 0 ∨ j = 1 ∨ j = 2 ∨ j = 3 ∨ j = 4 ∨ j = 5 ∨ j = 6 ∨ j = 7 ∨ j = 8 ∨ j = 9 ∨ j = 10 ∨ j = 11 ∨ j = 12 ∨ j = 13 ∨ j = 14 ∨ j = 15 := by omega
          rcases hj' with rfl | rfl | rfl | rfl | rfl | rfl | rfl | rfl | rfl | rfl | rfl | rfl | rfl | rfl | rfl | rfl
          · exact h0.1
          · exact h1.1
          · exact h2.1
          · exact h0.2.1
          · exact h1.2.1
          · exact h2.2.1
          · exact h0.2.2.1
          · exact h1.2.2.1
          · exact h2.2.2.1
          · exact h0.2.2.2
          · exact h1.2.2.2
          · exact h2.2.2.2
          · exact h13
          · exact h14
          · exact h15
          · exact h16
        · intro h
          refine ⟨⟨⟨⟨h 12 (by omega), h 13 (by omega)⟩, h 14 (by omega)⟩, h 15 (by omega)⟩, fun i hi => ?_⟩
          have hi' : i = 0 ∨ i = 1 ∨ i = 2 := by omega
          rcases hi' with rfl | rfl | rfl
          · exact ⟨h 0 (by omega), h 3 (by omega), h 6 (by omega), h 9 (by omega)⟩
          · exact ⟨h 1 (by omega), h 4 (by omega), h 7 (by omega), h 10 (by omega)⟩
          · exact ⟨h 2 (by omega), h 5 (by omega), h 8 (by omega), h 11 (by omega)⟩
      have HS0 := Lib.hid hS0
      clear hq hS0 hcr
      by_cases h0 : S = 0
      · have e0 : ((S : Int) == 0) = true := by rw [h0]; rfl
        have hb : true = bare n := (HS0.out.1 h0).symm
        have HBB := Lib.hid hb
        clear hb
        go_wp2_with fail
        go_ret
        exact ⟨ret_bool HBB.out, hBr⟩
      · have e0 : ((S : Int) == 0) = false := by rw [beq_eq_false_iff_ne]; omega
        have hb : false = bare n := by
          cases h : bare n with
          | false => rfl
          | true => exact absurd (HS0.out.2 h) h0
        have HBB := Lib.hid hb
        clear hb
        go_wp2_with fail
        go_ret
        exact ⟨ret_bool HBB.out, hBr⟩
    · obtain ⟨a1, k1, r1, s1⟩ := or_zero (n.f (1 + j)) (n.f (4 + j)) (hf _) (hf _)
      obtain ⟨a2, k2, r2, s2⟩ := or_zero a1 (n.f (7 + j)) k1 (hf _)
      obtain ⟨a3, k3, r3, s3⟩ := or_zero a2 (n.f (10 + j)) k2 (hf _)
      obtain ⟨a4, k4, r4, s4⟩ := or_zero S a3 hS k3
      have d1 := hcr (1 + j) (by omega) (by omega)
      have d2 := hcr (4 + j) (by omega) (by omega)
      have d3 := hcr (7 + j) (by omega) (by omega)
      have d4 := hcr (10 + j) (by omega) (by omega)
      have hjj : j < 3 := by omega
      have SS := Lib.hid (And.intro s1 (And.intro s2 (And.intro s3 s4)))
      have HQ := Lib.hid hq
      clear s1 s2 s3 s4 hq hf h3 hcr
      go_upto_region 5 with (fail)
      go_quiet (fail)
      go_wp2_with fail
      go_roundw
      case rel =>
        refine ⟨j + 1, a4, by omega, by go_num, rfl, k4, hh, below_drewN' hBr _, ?_⟩
        have hs := SS.out
        have hq := HQ.out
        rw [hs.2.2.2, hq, hs.2.2.1, hs.2.1, hs.1]
        constructor
        · rintro ⟨⟨h0, h1⟩, ⟨⟨h2, h3⟩, h4⟩, h5⟩
          refine ⟨h0, fun i hi => ?_⟩
          by_cases e : i = j
          · subst e; exact ⟨h2, h3, h4, h5⟩
          · exact h1 i (by omega)
        · rintro ⟨h0, h1⟩
          obtain ⟨g1, g2, g3, g4⟩ := h1 j (by omega)
          exact ⟨⟨h0, fun i hi => h1 i (by omega)⟩, ⟨⟨g1, g2⟩, g3⟩, g4⟩
      case measure => simp [intOf]; omega

set_option maxRecDepth 100000 in
set_option maxHeartbeats 4000000 in
theorem node_any (n : Nd) (hx : ∀ v ∈ n.x, v < 18446744073709551616) (hx16 : n.x.length = 16) (at_ : Int) (w : World) :
    Calls Tryz.prog 46 #[n.val, .int .i64 at_] w fun e w' => e = .returned (.bool (nodeOk n at_)) ∧ Below w.heap.size w w' := by
  go_enter Tryz.func46, Tryz.ntmps46
  unfold Nd.val Nd.cells
  go_wp2_with fail
  refine (fields_any n.kind _).mono ?_
  rintro e w1 ⟨v, l, rfl, hown, hF, htri, hB⟩
  have hb0 : NBlk (w.alloc (.cells n.cells.toArray 49)) w.heap.size n := heap_alloc_new w _
  have hnb : NBlk w1 w.heap.size n := hb0.below hB (by simp)
  have hrow := FRow.of_own hown
  have hs1 := hB.size
  have hBw : Below w.heap.size w w1 := (((Below.refl _ w).alloc (Nat.le_refl _) _).trans (hB.mono (by simp)))
  simp only [World.size_alloc] at hrow hF hs1
  obtain ⟨A, c, rfl, hcell⟩ := hrow
  have hoff : ∀ d ∈ l, 1 ≤ d.off ∧ d.off ≤ 16 := fun d hd => by
    have := fieldList_range n.kind (d.off, d.lo, d.hi) (by rw [← htri]; exact List.mem_map_of_mem (f := Fd.tri) hd)
    exact this
  have hl7 : l.length ≤ 7 := by
    rw [tri_len htri]; unfold fieldList; repeat' split
    all_goals simp
  clear hown hB hb0
  go_wp2_with fail
  go_loopw [18] (fun i wr => ∃ k : Nat, k ≤ l.length ∧ i = .int .i64 k ∧ Below w1.heap.size w1 wr ∧ (l.take k).all (inOk n) = true)
    (fun i _ => l.length - (intOf i).toNat)
  case atStart => exact ⟨0, Nat.zero_le _, rfl, Below.refl _ _, rfl⟩
  case round =>
    obtain ⟨k, hk, rfl, hBr, hall⟩ := hrel
    by_cases hkl : k < l.length
    · as_aux_lemma =>
      obtain ⟨g, rfl, hg, hgl, c0, c1, c2⟩ := hcell k hkl
      obtain ⟨d, hd⟩ : ∃ d, d = l[k] := ⟨_, rfl⟩
      have hdl : d ∈ l := by rw [hd]; exact List.getElem_mem hkl
      have hFd : FieldFn wr (w.heap.size + 1) d.F d.off := (hF.below hBr (Nat.le_refl _)) d hdl
      have ho := hoff d hdl
      obtain ⟨f, caps, hFf, hE, hC⟩ := hFd.calls
      have hE' : ∀ (args : Array Value) (w : World), (callFunc f args).run Tryz.prog w = .ok (.enter f args) w := hE
      have hnr : NBlk wr w.heap.size n := hnb.below hBr (by omega)
      have cx := (hnr.cell d.off).trans (n.cell_f d.off ho.1 ho.2)
      rw [← hd] at c0 c1 c2
      have r0 := (hBr.cell (p := ⟨g, k * 3, none⟩) hgl).trans c0
      have r1 := (hBr.cell (p := ⟨g, k * 3 + 1, none⟩) hgl).trans c1
      have r2 := (hBr.cell (p := ⟨g, k * 3 + 2, none⟩) hgl).trans c2
      clear c0 c1 c2
      obtain ⟨F, off, lo, hi⟩ := d
      simp only at hFf hFd ho hC cx r0 r1 r2
      subst hFf
      have hFa := (hFd.alloc (.cells #[.func (.func f) #[] caps, .float .f64 lo, .float .f64 hi] 129)).drew
      have hwr := hBr.size
      have cxa : (wr.alloc (.cells #[.func (.func f) #[] caps, .float .f64 lo, .float .f64 hi] 129)).cell? ⟨w.heap.size, off, none⟩ = some (.float .f64 (n.f off)) := by
        rw [World.cell?_alloc_lt _ _ _ (by show w.heap.size < wr.heap.size; omega)]; exact cx
      have hBa := hBr.alloc (Nat.le_trans (Nat.le_refl _) hwr) (.cells #[.func (.func f) #[] caps, .float .f64 lo, .float .f64 hi] 129)
      go_wp2_with fail
      go_region_held3 (fun w' => w'.cell? ⟨wr.heap.size, 0, none⟩ = some (.func (.func f) #[] caps) ∧ w'.cell? ⟨wr.heap.size, 1, none⟩ = some (.float .f64 lo) ∧ w'.cell? ⟨wr.heap.size, 2, none⟩ = some (.float .f64 hi) ∧ w'.cell? ⟨w.heap.size, off, none⟩ = some (.float .f64 (n.f off)))
        (first
          | go_keep
          | (go_split_ands
             refine ⟨?_, ?_, ?_, ?_⟩ <;> (first | assumption | (rw [hBz.cell (by simp; try omega)]; assumption))))
        (first
          | (go_at_call 76; refine (within_any _ _ _ _ _).mono ?_; rintro e wz ⟨rfl, hBz⟩)
          | (refine (hC _ _ hFa).mono ?_; rintro e wy ⟨rfl, m, rfl⟩))
      have hBq : Below w1.heap.size w1 wz := (below_drewN' hBa _).trans (hBz.mono (by show w1.heap.size ≤ (wr.alloc _).heap.size; simp; omega))
      have hBq' : Below w.heap.size w wz := hBw.trans (hBq.mono (by omega))
      have hin : inOk n l[k] = withinF lo hi (n.f off) := by rw [← hd]; rfl
      clear hBz hBa cxa hFa
      obtain ⟨q, hq⟩ : ∃ q, withinF lo hi (n.f off) = q := ⟨_, rfl⟩
      rw [hq]
      rw [hq] at hin
      cases q with
      | true =>
        go_wp2
        go_roundw
        case rel => exact ⟨k + 1, by omega, by go_num, hBq, (list_all_take _ l k hkl hall).2 hin⟩
        case measure => simp [intOf]; omega
      | false =>
        go_wp2
        go_ret
        refine ⟨ret_bool ?_, hBq'⟩
        have hall0 : ndOk n (fieldList n.kind) = false := by
          rw [← htri]
          simp only [ndOk, List.all_map]
          rw [List.all_eq_false]
          exact ⟨l[k], List.getElem_mem hkl, by rw [Bool.not_eq_true]; exact hin⟩
        simp [nodeOk, hall0]
    · obtain rfl : k = l.length := by omega
      have hnr : NBlk wr w.heap.size n := hnb.below hBr (by omega)
      have hFr := hF.below hBr (Nat.le_refl _)
      have hcr : ∀ k (hk : k < l.length), ∃ g, A = some ⟨g, 0, none⟩ ∧ w.heap.size + 1 ≤ g ∧ g < w1.heap.size ∧ wr.cell? ⟨g, k * 3, none⟩ = some l[k].F ∧ wr.cell? ⟨g, k * 3 + 1, none⟩ = some (.float .f64 l[k].lo) ∧ wr.cell? ⟨g, k * 3 + 2, none⟩ = some (.float .f64 l[k].hi) := fun k hk => by
        obtain ⟨g, hA, hg, hgl, c0, c1, c2⟩ := hcell k hk
        exact ⟨g, hA, hg, hgl, (hBr.cell (p := ⟨g, k * 3, none⟩) hgl).trans c0, (hBr.cell (p := ⟨g, k * 3 + 1, none⟩) hgl).trans c1, (hBr.cell (p := ⟨g, k * 3 + 2, none⟩) hgl).trans c2⟩
      have hBwr : Below w.heap.size w wr := hBw.trans (hBr.mono (by omega))
      have hwr := hBr.size
      clear hcell hnb hBw hBr hF
      obtain ⟨wa, hwa⟩ : ∃ wa, wa = wr := ⟨_, rfl⟩
      subst hwa
      go_wp2_with fail
      go_loopw [33] (fun i wt => ∃ k : Nat, k ≤ l.length ∧ i = .int .i64 k ∧ Below w.heap.size w wt ∧ NBlk wt w.heap.size (n.zeros ((l.take k).map Fd.off)) ∧ wa.heap.size ≤ wt.heap.size ∧ ∀ b, w.heap.size + 1 ≤ b → b < wa.heap.size → wt.heap[b]? = wa.heap[b]?)
        (fun i _ => l.length - (intOf i).toNat)
      case atStart => exact ⟨0, Nat.zero_le _, rfl, hBwr, hnr, Nat.le_refl _, fun _ _ _ => rfl⟩
      case round =>
        obtain ⟨k, hk, rfl, hBt, hnt, hst, hkt⟩ := hrel
        by_cases hkl : k < l.length
        · as_aux_lemma =>
          obtain ⟨g, rfl, hg, hgl, c0, c1, c2⟩ := hcr k hkl
          obtain ⟨d, hd⟩ : ∃ d, d = l[k] := ⟨_, rfl⟩
          have hdl : d ∈ l := by rw [hd]; exact List.getElem_mem hkl
          have hFd : FieldFn wr (w.heap.size + 1) d.F d.off := (hFr d hdl).kept fun b t v hb hx _ => (hkt b hb hx.lt).trans hx
          have ho := hoff d hdl
          obtain ⟨f, caps, hFf, hE, hC⟩ := hFd.calls
          have hE' : ∀ (args : Array Value) (w : World), (callFunc f args).run Tryz.prog w = .ok (.enter f args) w := hE
          obtain ⟨n', hn'⟩ : ∃ n', n.zeros ((l.take k).map Fd.off) = n' := ⟨_, rfl⟩
          have hnl : n'.x.length = 16 := by rw [← hn', Nd.zeros_len]; exact hx16
          have hsn : n.zeros ((l.take (k + 1)).map Fd.off) = n'.zero d.off := by
            rw [List.take_add_one, List.getElem?_eq_getElem hkl, List.map_append, ← hn', hd]; exact Nd.zeros_snoc _ _ _
          rw [hn'] at hnt
          rw [← hd] at c0 c1 c2
          have r0 := (World.cell?_of_block (a := ⟨g, k * 3, none⟩) (hkt g hg (by omega))).trans c0
          have r1 := (World.cell?_of_block (a := ⟨g, k * 3 + 1, none⟩) (hkt g hg (by omega))).trans c1
          have r2 := (World.cell?_of_block (a := ⟨g, k * 3 + 2, none⟩) (hkt g hg (by omega))).trans c2
          clear c0 c1 c2
          obtain ⟨F, off, lo, hi⟩ := d
          simp only at hFf hFd ho hC r0 r1 r2 hsn
          subst hFf
          have hFa := (hFd.alloc (.cells #[.func (.func f) #[] caps, .float .f64 lo, .float .f64 hi] 129))
          have hna := hnt.alloc (.cells #[.func (.func f) #[] caps, .float .f64 lo, .float .f64 hi] 129)
          have cx := (hna.cell off).trans (n'.cell_f off ho.1 ho.2)
          have fx := hna.frozen off
          go_wp2_with (first | (refine (hC _ _ hFa).mono ?_; rintro e wy ⟨rfl, m, rfl⟩))
          have hnz := (hna.drewN m).zero hnl off ho.1 ho.2
          have hBz : Below w.heap.size w (((wr.alloc (.cells #[.func (.func f) #[] caps, .float .f64 lo, .float .f64 hi] 129)).drewN m).setCell ⟨w.heap.size, off, none⟩ (.float .f64 0)) :=
            (below_drewN' (hBt.alloc (Nat.le_trans (by omega) hst) _) m).setCell (by simp) _
          have hkz : wa.heap.size ≤ (((wr.alloc (.cells #[.func (.func f) #[] caps, .float .f64 lo, .float .f64 hi] 129)).drewN m).setCell ⟨w.heap.size, off, none⟩ (.float .f64 0)).heap.size ∧
              ∀ b, w.heap.size + 1 ≤ b → b < wa.heap.size → (((wr.alloc (.cells #[.func (.func f) #[] caps, .float .f64 lo, .float .f64 hi] 129)).drewN m).setCell ⟨w.heap.size, off, none⟩ (.float .f64 0)).heap[b]? = wa.heap[b]? := by
            refine ⟨?_, fun b h1 h2 => ?_⟩
            · show wa.heap.size ≤ (Array.modify _ _ _).size
              rw [Array.size_modify]
              show wa.heap.size ≤ (wr.heap.push _).size
              rw [Array.size_push]; omega
            · rw [Below.heap_setCell _ _ _ _ (by simp; omega)]
              show (wr.heap.push _)[b]? = _
              rw [Array.getElem?_push_lt (by omega)]
              exact (Array.getElem?_eq_getElem (by omega)).symm.trans (hkt b h1 h2)
          clear hna cx fx hFa hBt hnt hkt hFd
          go_roundw
          case rel => exact ⟨k + 1, by omega, by go_num, hBz, by rw [hsn]; exact hnz, hkz.1, hkz.2⟩
          case measure => simp [intOf]; omega
        · obtain rfl : k = l.length := by omega
          obtain ⟨nz, hnz⟩ : ∃ nz, n.zeros ((l.take l.length).map Fd.off) = nz := ⟨_, rfl⟩
          obtain ⟨hk1, ha1, hb1⟩ := n.zeros_kind ((l.take l.length).map Fd.off)
          rw [hnz] at hnt hk1 ha1 hb1
          have cn : ∀ j u, nz.cells[j]? = some u → wr.cell? ⟨w.heap.size, j, none⟩ = some u := fun j u hu => (hnt.cell j).trans hu
          have n0 := cn 0 _ rfl
          have na := cn 17 _ rfl
          have nb := cn 18 _ rfl
          have n1 := cn 1 _ rfl
          have n2 := cn 2 _ rfl
          have n3 := cn 3 _ rfl
          have n4 := cn 4 _ rfl
          have n5 := cn 5 _ rfl
          have n6 := cn 6 _ rfl
          have n7 := cn 7 _ rfl
          have n8 := cn 8 _ rfl
          have n9 := cn 9 _ rfl
          have n10 := cn 10 _ rfl
          have n11 := cn 11 _ rfl
          have n12 := cn 12 _ rfl
          have n13 := cn 13 _ rfl
          have n14 := cn 14 _ rfl
          have n15 := cn 15 _ rfl
          have n16 := cn 16 _ rfl
          clear cn
          have hlz : nz.x.length = 16 := by rw [← hnz, Nd.zeros_len]; exact hx16
          have hxz : ∀ v ∈ nz.x, v < 18446744073709551616 := by rw [← hnz]; exact Nd.zeros_lt n hx _
          have hall1 : ndOk n (fieldList n.kind) = true := by
            rw [← htri]
            simp only [ndOk, List.all_map]
            rw [List.take_length] at hall
            exact hall
          have hlen : (fieldList n.kind).length = l.length := by rw [← htri, List.length_map]
          have hoz : n.zeros (offs n.kind) = nz := by
            rw [← hnz, List.take_length, offs, ← htri, List.map_map]; rfl
          have HK := Lib.hid (And.intro hk1 (And.intro ha1 hb1))
          have HO := Lib.hid (And.intro hall1 (And.intro hlen hoz))
          clear hk1 ha1 hb1 hall1 hlen hoz hnz hall htri
          go_wp2_with fail
          go_loopw [47] (fun i wt => ∃ k : Nat, k ≤ 2 ∧ i = .int .i64 k ∧ wt = wr ∧ (1 ≤ k → placeOk (decide (0 < belowN nz.kind)) nz.a at_ = true) ∧ (2 ≤ k → placeOk (decide (1 < belowN nz.kind)) nz.b at_ = true))
            (fun i _ => 2 - (intOf i).toNat)
          case atStart => exact ⟨0, by omega, rfl, rfl, by omega, by omega⟩
          case round =>
            obtain ⟨k, hk, rfl, rfl, hP1, hP2⟩ := hrel
            have hk3 : k = 0 ∨ k = 1 ∨ k = 2 := by omega
            rcases hk3 with rfl | rfl | rfl
            · as_aux_lemma =>
              go_wp2_with (first | (go_at_call 77; refine (cbelow_any _ _).mono ?_; rintro e wy ⟨rfl, rfl⟩))
              all_goals first
                | (go_ret
                   refine ⟨ret_bool ?_, hBt⟩
                   exact (nodeOk_a n nz HK.out at_ (by first | exact place_a3 _ _ _ (by assumption) (.inl (by assumption)) | exact place_a3 _ _ _ (by assumption) (.inr (by assumption)) | exact place_a4 _ _ _ (by assumption) (by assumption))).symm)
                | (have pa : placeOk (decide (0 < belowN nz.kind)) nz.a at_ = true := by first | exact place_a1 _ _ _ (by assumption) (by assumption) | exact place_a2 _ _ _ (by assumption) (by assumption)
                   have PA := Lib.hid pa
                   clear pa
                   go_roundw
                   case rel => exact ⟨1, by omega, by go_num, by first | rfl | trivial, fun _ => PA.out, by omega⟩
                   case measure => simp [intOf])
            · as_aux_lemma =>
              have pa := hP1 (by omega)
              have PA := Lib.hid pa
              clear pa hP1 hP2
              go_wp2_with (first | (go_at_call 77; refine (cbelow_any _ _).mono ?_; rintro e wy ⟨rfl, rfl⟩))
              all_goals first
                | (go_ret
                   refine ⟨ret_bool ?_, hBt⟩
                   exact (nodeOk_b n nz HK.out at_ (by first | exact place_b3 _ _ _ (by assumption) (.inl (by assumption)) | exact place_b3 _ _ _ (by assumption) (.inr (by assumption)) | exact place_b4 _ _ _ (by first | assumption | exact Int.not_lt.mpr (by assumption)) (by assumption))).symm)
                | (have pb : placeOk (decide (1 < belowN nz.kind)) nz.b at_ = true := by first | exact place_b1 _ _ _ (by assumption) (by assumption) | exact place_b2 _ _ _ (by first | assumption | exact Int.not_lt.mpr (by assumption)) (by assumption)
                   have PB := Lib.hid pb
                   clear pb
                   go_roundw
                   case rel => exact ⟨2, by omega, by go_num, by first | rfl | trivial, fun _ => PA.out, fun _ => PB.out⟩
                   case measure => simp [intOf])
            · as_aux_lemma =>
              have PA := hP1 (by omega)
              have PB := hP2 (by omega)
              have ho := HO.out
              by_cases h0 : 0 < l.length
              · have hP : nodeOk n at_ = bare nz := by
                  unfold nodeOk
                  rw [ho.1, ho.2.2, ho.2.1, ← HK.out.1, ← HK.out.2.1, ← HK.out.2.2, PA, PB]
                  simp [h0]
                clear PA PB hP1 hP2 ho
                have HP := Lib.hid hP
                clear hP HO HK hcr hFr hoff hkt hnr n0 n1 n2 n3 n4 n5 n6 n7 n8 n9 n10 n11 n12 n13 n14 n15 n16 na nb
                go_wp2_with (first | (refine wpList_load_nd_g _ ?_ (.tmp 2) rfl _ rfl nz hnt ?_; rotate_right) | (go_at_call 78; refine (bits_any nz hxz hlz _).mono ?_; rintro e wy ⟨rfl, hBy⟩))
                go_ret
                exact ⟨ret_bool HP.out.symm, hBt.trans (hBy.mono hBt.size)⟩
              · have hP : nodeOk n at_ = false := by
                  unfold nodeOk
                  rw [ho.2.1]
                  simp [h0]
                clear PA PB hP1 hP2 ho
                have HP := Lib.hid hP
                clear hP
                go_wp2_with fail
                go_ret
                exact ⟨ret_bool HP.out.symm, hBt⟩

end Go.Proofs.YtcbgkbidgpemfaaGreatDoor.nodew

/- The walk of check.Right. Condition: the nodes lie in memory, within the reach. -/
namespace Go.Proofs.YtcbgkbidgpemfaaGreatDoor.nodew
open Go.RowKit Go.Shelf
open Go.Proofs.YtcbgkbidgpemfaaGreatDoor.words
attribute [local go_sem] run_store_float

def ncells (l : List Nd) : List Value := l.flatMap Nd.cells
theorem nd_cells_len (n : Nd) : n.cells.length = 19 := rfl
theorem ncells_get : ∀ (l : List Nd) (i j : Nat) (h : i < l.length), j < 19 → (ncells l)[i * 19 + j]? = (l[i].cells)[j]?
  | a :: r, 0, j, _, hj => by
    show (a.cells ++ ncells r)[0 * 19 + j]? = _
    rw [Nat.zero_mul, Nat.zero_add, List.getElem?_append_left (by rw [nd_cells_len]; exact hj)]; rfl
  | a :: r, i + 1, j, h, hj => by
    show (a.cells ++ ncells r)[(i + 1) * 19 + j]? = _
    rw [List.getElem?_append_right (by rw [nd_cells_len]; omega)]
    have := ncells_get r i j (by simpa using h) hj
    rw [List.getElem_cons_succ, ← this, nd_cells_len]
    congr 1
    omega
  | [], i, j, h, _ => by simp at h

/-- the slice value v holds the nodes l, in blocks below B -/
def NRead (W : World) (B : Nat) (v : Value) (l : List Nd) : Prop :=
  ∃ A c, v = .slice A l.length c ∧ (l ≠ [] → ∃ g off, A = some ⟨g, off, none⟩ ∧ g < B ∧ g < W.heap.size ∧ ∀ j u, (ncells l)[j]? = some u → W.cell? ⟨g, off + j, none⟩ = some u)
theorem NRead.keep {W W' : World} {B : Nat} {v : Value} {l : List Nd} (h : NRead W B v l) (hz : W.heap.size ≤ W'.heap.size) (hg : ∀ g, g < B → g < W.heap.size → W'.heap[g]? = W.heap[g]?) : NRead W' B v l := by
  obtain ⟨A, c, hv, hx⟩ := h
  refine ⟨A, c, hv, fun h0 => ?_⟩
  obtain ⟨g, off, hA, hB, hgl, hcell⟩ := hx h0
  exact ⟨g, off, hA, hB, by omega, fun j u hu => (World.cell?_of_block (a := ⟨g, off + j, none⟩) (hg g hB hgl)).trans (hcell j u hu)⟩
/-- a node's numbers are numbers -/
def Nd.ok (n : Nd) : Prop := n.x.length = 16 ∧ ∀ v ∈ n.x, v < 18446744073709551616
theorem Nd.load_at (n : Nd) (W : World) (g off : Nat) (h : ∀ j u, n.cells[j]? = some u → W.cell? ⟨g, off + j, none⟩ = some u) : (Instr.loadAt 49 (.pointer (some ⟨g, off, none⟩))).run Tryz.prog W = .ok n.val W :=
  run_loadAt_mid W g off 49 n.cells _ h Tryz.underlying49 rfl (by kernel_rfl)

/-- are nodes a program -/
def rightP (l : List Nd) : Bool := ((List.range l.length).all fun i => match l[i]? with | some n => nodeOk n i | none => true) && decide (0 < l.length) && decide (l.length ≤ 4096)
theorem rightP_bad {l : List Nd} {k : Nat} (hk : k < l.length) (h : nodeOk l[k] k = false) : rightP l = false := by
  unfold rightP
  have : ((List.range l.length).all fun i => match l[i]? with | some n => nodeOk n i | none => true) = false := by
    rw [List.all_eq_false]
    exact ⟨k, List.mem_range.2 hk, by simp [hk, h]⟩
  rw [this]; rfl
theorem rightP_good {l : List Nd} (h : ∀ k (hk : k < l.length), nodeOk l[k] k = true) : rightP l = (decide (0 < l.length) && decide (l.length ≤ 4096)) := by
  unfold rightP
  have : ((List.range l.length).all fun i => match l[i]? with | some n => nodeOk n i | none => true) = true := by
    rw [List.all_eq_true]
    intro i hi
    have hi := List.mem_range.1 hi
    simp [hi, h i hi]
  rw [this]; rfl

theorem nd_info (n : Nd) : (Tryz.prog.info? 49).map (·.size) = some n.cells.toArray.size := by kernel_rfl
theorem nd_one (n : Nd) : n.cells.toArray.all (·.oneCell') = true := by simp [Nd.cells, Value.oneCell']
theorem nd_size (n : Nd) : n.cells.toArray.size = 19 := by rw [List.size_toArray]; rfl
set_option maxRecDepth 100000 in
set_option maxHeartbeats 4000000 in
theorem right_any (B : Nat) (v : Value) (l : List Nd) (hok : ∀ n ∈ l, n.ok) (hl : l.length ≤ 1000000000000) (w : World) (hr : NRead w B v l) (_hB : B ≤ w.heap.size) :
    Calls Tryz.prog 36 #[v] w fun e w' => e = .returned (.bool (rightP l)) ∧ Below w.heap.size w w' := by
  obtain ⟨A, c, rfl, hx⟩ := hr
  go_enter Tryz.func36, Tryz.ntmps36
  go_wp2_with fail
  go_loopw [7] (fun i wr => ∃ k : Nat, k ≤ l.length ∧ i = .int .i64 k ∧ Below w.heap.size w wr ∧ ∀ j (hj : j < l.length), j < k → nodeOk l[j] j = true) (fun i _ => l.length - (intOf i).toNat)
  case atStart => exact ⟨0, Nat.zero_le _, rfl, Below.refl _ _, fun _ _ h => by omega⟩
  case round =>
    obtain ⟨k, hk, rfl, hBr, hall⟩ := hrel
    have hz := hBr.size
    by_cases hkl : k < l.length
    · obtain ⟨g, off, rfl, hgB, hgl, hcell⟩ := hx (by intro e; subst e; simp at hkl)
      obtain ⟨n, hn⟩ : ∃ n, l[k] = n := ⟨_, rfl⟩
      have hno : n.ok := hok n (by rw [← hn]; exact List.getElem_mem hkl)
      have hrg : wr.rangeAt g (off + k * 19) n.cells := fun j u hu => by
        have hj : j < 19 := by have := (List.getElem?_eq_some_iff.1 hu).1; rwa [nd_cells_len] at this
        rw [Nat.add_assoc]
        exact (World.cell?_of_block (a := ⟨g, off + (k * 19 + j), none⟩) (hBr.block g hgl)).trans (hcell (k * 19 + j) u (by rw [ncells_get l k j hkl hj, hn]; exact hu))
      have HA := Lib.hid hall
      have HNO := Lib.hid hno
      have HN := Lib.hid hn
      have HR := Lib.hid hrg
      clear hall hno hn hcell hrg
      go_wp2_with (first
        | (refine wpList_load_mid rfl 49 (.tmp 10) rfl g (off + k * 19) rfl n.cells _ HR.out Tryz.underlying49 rfl (by kernel_rfl) ?_)
        | (refine wpList_store_row rfl 49 (.tmp 4) (.tmp 11) rfl wr.heap.size n.cells.toArray rfl rfl _ _ (heap_alloc_new wr _) (nd_info n) (by rw [nd_size]; rfl) (nd_one n) ?_)
        | (refine wpList_load_row rfl 49 (.tmp 4) rfl wr.heap.size rfl _ n.cells.toArray _ _ (setRow_heap _ _ _ _ _ _ (heap_alloc_new wr _)) Tryz.underlying49 rfl (by kernel_rfl) ?_))
      obtain ⟨W, hW⟩ : ∃ W, W = (wr.alloc (.cells #[.int .u8 0, .float .f64 0, .float .f64 0, .float .f64 0, .float .f64 0, .float .f64 0, .float .f64 0, .float .f64 0, .float .f64 0, .float .f64 0, .float .f64 0, .float .f64 0, .float .f64 0, .float .f64 0, .float .f64 0, .float .f64 0, .float .f64 0, .int .i64 0, .int .i64 0] 49)).setRow wr.heap.size n.cells.toArray := ⟨_, rfl⟩
      have hBW : Below w.heap.size w W := by rw [hW]; exact below_setRow (hBr.alloc hz _) hz _
      rw [← hW]
      clear hW
      have hno := HNO.out
      refine (node_any n hno.2 hno.1 k W).mono ?_
      rintro e wy ⟨rfl, hBy⟩
      have hBz := hBW.trans (hBy.mono hBW.size)
      cases hq : nodeOk n k with
      | true =>
        have H1 := Lib.hid hq
        clear hq hno hBW hBy
        go_wp2_with fail
        go_roundw
        case rel =>
          refine ⟨k + 1, by omega, by go_num, hBz, fun j hj hjk => ?_⟩
          by_cases e : j = k
          · subst e; rw [HN.out]; exact H1.out
          · exact HA.out j hj (by omega)
        case measure => simp [intOf]; omega
      | false =>
        have hbad : rightP l = false := rightP_bad hkl (by rw [HN.out]; exact hq)
        have HB := Lib.hid hbad
        clear hq hno hbad hBW hBy
        go_wp2_with fail
        go_ret
        exact ⟨ret_bool HB.out.symm, hBz⟩
    · obtain rfl : k = l.length := by omega
      have hg := rightP_good fun j hj => hall j hj hj
      have HG := Lib.hid hg
      clear hg hall
      go_wp2_with fail
      all_goals go_ret
      all_goals refine ⟨ret_bool ?_, hBr⟩
      all_goals rw [HG.out]
      all_goals by_cases h1 : 0 < l.length
      all_goals by_cases h2 : l.length ≤ 4096
      all_goals simp [h1, h2]
      all_goals omega

end Go.Proofs.YtcbgkbidgpemfaaGreatDoor.nodew

/- The plain mathematics of layer 15 (lex): what the tokens of a list of bytes are. No program in sight. No conditions. -/
namespace Go.Proofs.YtcbgkbidgpemfaaGreatDoor.lexm

/-- a token -/
structure Tok where
  kind : Nat
  pos : Nat
  text : List UInt8
deriving DecidableEq

def Tok.cells (t : Tok) : List Value := [.int .u8 t.kind, .int .i64 t.pos, .string ⟨t.text.toArray⟩]
def Tok.val (t : Tok) : Value := .agg #[.int .u8 t.kind, .int .i64 t.pos, .string ⟨t.text.toArray⟩]
def cellsOf (ts : List Tok) : List Value := ts.flatMap Tok.cells

end Go.Proofs.YtcbgkbidgpemfaaGreatDoor.lexm

/- The contracts of library functions: in ShfP. -/

