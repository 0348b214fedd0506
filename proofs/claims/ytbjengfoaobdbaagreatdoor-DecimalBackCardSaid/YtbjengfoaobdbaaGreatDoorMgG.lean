/- The walks of math.Abs, IsNaN, IsInf, Signbit and of dir.Right. No conditions. -/
import Derived.Test.YtbjengfoaobdbaaGreatDoorMgB
import Derived.WalkKit
import Derived.WalkLawsBesides
import Derived.WalkSpells
import Derived.Lib.Hide
import Derived.Outline
import Derived.Laws.FloatBits
import Derived.Laws.FloatArith
import Derived.Laws.Externs
import Derived.Below
import Derived.Laws.OwnMore
import Derived.Deep.AppendLies
import Derived.Deep.Draws
import Derived.Maps.AppendAt
import Derived.RegionTactic
import Derived.OwnWalk
import Derived.BigQuiet
import Derived.Deep.QuietTactic
import Derived.Deep.RegionHeld3
import Derived.Laws.EntriesVeiled
import Derived.Laws.Pointers
import Derived.Lib.SmallJoins
import Derived.RangeFuncBox
import Derived.Shelf.Abstract
import Derived.StillTactics
import Derived.Laws.BitsAllLaws
import Derived.Deep.Cut
import Derived.Deep.CutRange
import Derived.Deep.MidRow
import Derived.Laws.CopyOwn
import Derived.Laws.Tables
namespace Go.Proofs.YtbjengfoaobdbaaGreatDoor.nodew
open Go.RowKit
theorem bits_run (x : Nat) (w : World) : (callFunc 37 #[.float .f64 x]).run Tryz.prog w = .ok (.value (.int .u64 x)) w := by
  rw [@run_callFunc_extern Tryz.prog 37 _ Extern.MathFloatBits.float64bits Tryz.func37 (by kernel_rfl) (by kernel_rfl) (by kernel_rfl) (by kernel_rfl)]
  rfl
theorem frombits_run (n : Int) (w : World) : (callFunc 42 #[.int .u64 n]).run Tryz.prog w = .ok (.value (.float .f64 n.toNat)) w := by
  rw [@run_callFunc_extern Tryz.prog 42 _ Extern.MathFloatBits.float64frombits Tryz.func42 (by kernel_rfl) (by kernel_rfl) (by kernel_rfl) (by kernel_rfl)]
  rfl
attribute [local go_sem] bits_run frombits_run
theorem run_store_float (P : Program) (w : World) (a : Addr) (m : Mode) (k : FloatKind) (b : Nat) : (store a (.float k b) m).run P w = stored P w a (.float k b) m := run_store P w a _ m rfl

attribute [local go_sem] fo_eq
def absF (x : Nat) : Nat := (bits BinOp.andNot IntKind.u64 (x : Int) 9223372036854775808).toNat
def nanF (x : Nat) : Bool := fo x x != some .eq
def infF (x : Nat) : Bool := fo (absF x) 9218868437227405311 == some .gt
def negF (x : Nat) : Bool := decide (wrap64 (x : Int) < 0)
def rightF (x : Nat) : Bool := !nanF x && !infF x && !(fo x 0 == some .eq && negF x)
def geqF (x y : Nat) : Bool := fo x y == some .gt || fo x y == some .eq
def leqF (x y : Nat) : Bool := fo x y == some .lt || fo x y == some .eq
def withinF (lo hi x : Nat) : Bool := rightF x && geqF x lo && leqF x hi

theorem ret_bool {a b : Bool} (h : a = b) : Ending.returned (.bool a) = .returned (.bool b) := by rw [h]

theorem abs_any (x : Nat) (w : World) : Calls Tryz.prog 15 #[.float .f64 x] w fun e w' => e = .returned (.float .f64 (absF x)) ∧ w' = w := by
  go_enter Tryz.func15, Tryz.ntmps15
  go_wp2
  go_ret
  exact ⟨rfl, rfl⟩

theorem isNaN_any (x : Nat) (w : World) : Calls Tryz.prog 26 #[.float .f64 x] w fun e w' => e = .returned (.bool (nanF x)) ∧ w' = w := by
  go_enter Tryz.func26, Tryz.ntmps26
  go_wp2
  go_ret
  exact ⟨rfl, rfl⟩

theorem signbit_any (x : Nat) (w : World) : Calls Tryz.prog 28 #[.float .f64 x] w fun e w' => e = .returned (.bool (negF x)) ∧ w' = w := by
  go_enter Tryz.func28, Tryz.ntmps28
  go_wp2
  go_ret
  exact ⟨rfl, rfl⟩

theorem isInf_any (x : Nat) (w : World) : Calls Tryz.prog 27 #[.float .f64 x, .int .i64 0] w fun e w' => e = .returned (.bool (infF x)) ∧ w' = w := by
  go_enter Tryz.func27, Tryz.ntmps27
  go_wp2_with (first | (go_at_call 15; refine (abs_any _ _).mono ?_; rintro e w' ⟨rfl, rfl⟩))
  go_ret
  exact ⟨rfl, rfl⟩

theorem right_num (x : Nat) (w : World) : Calls Tryz.prog 8 #[.float .f64 x] w fun e w' => e = .returned (.bool (rightF x)) ∧ w' = w := by
  go_enter Tryz.func8, Tryz.ntmps8
  go_wp2_with (first | (go_at_call 26; refine (isNaN_any _ _).mono ?_; rintro e w' ⟨rfl, rfl⟩) | (go_at_call 27; refine (isInf_any _ _).mono ?_; rintro e w' ⟨rfl, rfl⟩) | (go_at_call 28; refine (signbit_any _ _).mono ?_; rintro e w' ⟨rfl, rfl⟩))
  all_goals go_ret
  all_goals exact ⟨ret_bool (by simp_all [rightF]), rfl⟩

end Go.Proofs.YtbjengfoaobdbaaGreatDoor.nodew

/- Small lemmas on slices for every law of this seat: a slice that reads as a list, an append onto a row of the call's own. The texts are the guide's (extra-words), as the guide bids to copy them. -/
namespace Go.Proofs.YtbjengfoaobdbaaGreatDoor.words
open Go.RowKit
theorem block_of_add (a : Addr) (n : Nat) : (a.add n).block = a.block := by unfold Addr.add; split <;> rfl
theorem add_of_add (a : Addr) (i j : Nat) : (a.add i).add j = a.add (i + j) := by
  unfold Addr.add
  by_cases hi : i = 0 <;> by_cases hj : j = 0 <;> simp [hi, hj, Nat.add_assoc]

def Reads (w : World) (B size : Nat) (A : Option Addr) (n : Nat) (xs : List Value) : Prop :=
  xs.length = n * size ∧ (0 < n → ∃ ad, A = some ad ∧ ad.block < B ∧ ∀ j u, xs[j]? = some u → w.cell? (ad.add j) = some u)

section
variable {w w' : World} {B B' size n : Nat} {A : Option Addr} {xs : List Value}
theorem Reads.none_ : Reads w B size A 0 [] := ⟨by simp, fun h => absurd h (by omega)⟩
theorem Reads.at_ {k : Nat} (h : Reads w B 1 A n xs) (hk : k < n) : ∃ ad u, A = some ad ∧ ad.block < B ∧ xs[k]? = some u ∧ w.cell? (ad.add k) = some u := by
  obtain ⟨ad, e, hb, hc⟩ := h.2 (by omega)
  have hl : k < xs.length := by have := h.1; omega
  exact ⟨ad, xs[k], e, hb, List.getElem?_eq_getElem hl, hc k _ (List.getElem?_eq_getElem hl)⟩
theorem Reads.keep (h : Reads w B size A n xs) (hk : ∀ p : Addr, p.block < B → w'.cell? p = w.cell? p) : Reads w' B size A n xs :=
  ⟨h.1, fun hn => by
    obtain ⟨ad, e, hb, hc⟩ := h.2 hn
    exact ⟨ad, e, hb, fun j u hu => (hk _ (by rw [block_of_add]; exact hb)).trans (hc j u hu)⟩⟩
theorem Reads.more (h : Reads w B size A n xs) (hB : B ≤ B') : Reads w B' size A n xs :=
  ⟨h.1, fun hn => by
    obtain ⟨ad, e, hb, hc⟩ := h.2 hn
    exact ⟨ad, e, by omega, hc⟩⟩
theorem Reads.below (h : Reads w B size A n xs) (hb : Below B w w') : Reads w' B size A n xs := h.keep fun _ hp => hb.cell hp
theorem Reads.drew (h : Reads w B size A n xs) : Reads w.drew B size A n xs := h
theorem Reads.drewN (h : Reads w B size A n xs) (k : Nat) : Reads (w.drewN k) B size A n xs := h
theorem Reads.alloc (h : Reads w B size A n xs) (hB : B ≤ w.heap.size) (o : Obj) : Reads (w.alloc o) B size A n xs := h.keep fun p hp => World.cell?_alloc_lt w o p (by omega)
theorem Reads.setCell (h : Reads w B size A n xs) {p : Addr} (hB : B ≤ p.block) (u : Value) : Reads (w.setCell p u) B size A n xs :=
  h.keep fun q hq => World.cell?_setCell_other w p q u (fun e => by subst e; omega)
theorem Reads.grown (h : Reads w B size A n xs) {row : Option Nat} (hg : w.grownBy w' row) (hB : B ≤ w.heap.size) (hr : ∀ g, row = some g → B ≤ g) : Reads w' B size A n xs :=
  h.keep fun p hp => World.cell?_of_block (hg.block p.block (by omega) (fun e => by have := hr _ e.symm; omega))
theorem Reads.cut (h : Reads w B size A n xs) {k cap : Nat} (hk : k ≤ n) (hc : n ≤ cap) :
    Reads w B size (if cap = k then A else A.map (·.add (k * size))) (n - k) (xs.drop (k * size)) := by
  refine ⟨by rw [List.length_drop, h.1, Nat.sub_mul], fun hn => ?_⟩
  obtain ⟨ad, rfl, hb, hcell⟩ := h.2 (by omega)
  rw [if_neg (by omega)]
  refine ⟨ad.add (k * size), rfl, by rw [block_of_add]; exact hb, fun j u hu => ?_⟩
  rw [add_of_add]
  exact hcell _ u (by rw [← hu, List.getElem?_drop])
theorem Reads.of_own {base : Nat} {e : TypeId} {c : Nat} (h : w.ownsRow base e size (.slice A n c) n xs) : Reads w w.heap.size size A n xs := by
  refine ⟨h.1, fun hn => ?_⟩
  obtain ⟨g, cap, hv, _, hlt⟩ := h.form hn
  have hA : A = some ⟨g, 0, none⟩ := by injection hv
  subst hA
  exact ⟨_, rfl, hlt, h.cells (g := g) rfl⟩
end
section
variable {P : Program} (w : World)

theorem run_append_of_nil (base : Nat) (t ty e : TypeId) (i : TypeInfo) (size : Nat) (ht : P.underlying t = some (.slice e)) (hi : P.info? e = some i)
    (v : Value) (n : Nat) (xs : List Value) (hown : w.ownsRow base e size v n xs) (c : Nat) : (Builtin.append_ #[t, t] ty #[v, .slice none 0 c]).run P w = .ok v w := by
  rcases hown.2 with ⟨rfl, rfl⟩ | ⟨g, cap, cur, rfl, _, _, hnc, _⟩
  · simp [Builtin.append_, run_underlying ht, sizeOf, typeInfo, hi, Builtin.lenOf, Builtin.firstCells]
  · simp [Builtin.append_, run_underlying ht, sizeOf, typeInfo, hi, Builtin.lenOf, Builtin.firstCells, hnc, storeCells]

theorem run_append_any (base : Nat) (t ty e : TypeId) (i : TypeInfo) (z : Value) (size bytes : Nat) (ht : P.underlying t = some (.slice e)) (hi : P.info? e = some i) (hz : i.zero = some z)
    (hsize : i.size = size) (hby : i.bytes = bytes) (hzs : z.cells.size = size) (hsz : 0 < size)
    (v : Value) (n : Nat) (xs : List Value) (hown : w.ownsRow base e size v n xs)
    (B : Nat) (A : Option Addr) (m c : Nat) (news : List Value) (hr : Reads w B size A m news) (h1 : ∀ u ∈ news, u.oneCell' = true)
    (h63 : n + m ≤ maxLen) (hbytes : (n + m) * bytes ≤ 140737488355328) (hbase : base ≤ w.heap.size) :
    ∃ v' w', (Builtin.append_ #[t, t] ty #[v, .slice A m c]).run P w = .ok v' w' ∧ w'.ownsRow base e size v' (n + m) (xs ++ news) ∧ w.grownBy w' v.ownBlock ∧
      (v'.ownBlock = v.ownBlock ∨ v'.ownBlock = some w.heap.size) := by
  rcases A with _ | ad
  · have hm : m = 0 := by
      rcases Nat.eq_zero_or_pos m with h0 | h0
      · exact h0
      · obtain ⟨ad, h, _⟩ := hr.2 h0
        cases h
    subst hm
    have hn : news = [] := List.eq_nil_of_length_eq_zero (by simpa using hr.1)
    subst hn
    exact ⟨v, w, run_append_of_nil w base t ty e i size ht hi v n xs hown c, by simpa using hown, World.grownBy.refl w _, .inl rfl⟩
  · have hcells : ∀ j u, news[j]? = some u → w.cell? (ad.add j) = some u := by
      intro j u hu
      rcases Nat.eq_zero_or_pos m with h0 | h0
      · subst h0
        have hn : news = [] := List.eq_nil_of_length_eq_zero (by simpa using hr.1)
        subst hn
        simp at hu
      · obtain ⟨ad', h, _, hc⟩ := hr.2 h0
        injection h with h
        subst h
        exact hc j u hu
    obtain ⟨v', w', hrun, h2, h3, _, h5⟩ := run_append_own_at (P := P) w base t ty e i z size bytes ht hi hz hsize hby hzs hsz v n xs hown ad m c news hr.1 hcells h1 h63 hbytes hbase
    exact ⟨v', w', hrun, h2, h3, h5⟩

theorem wp_append_any {o : Oper} {a : Act} {K : Act → World → Prop} {Q : Exit → Act → World → Prop} (s x : Operand) (t : TypeId)
    (ho : o.op = .call { callee := .builtin .append, args := #[s, x], argTypes := #[t, t] })
    (base : Nat) (e : TypeId) (i : TypeInfo) (z : Value) (size bytes : Nat) (ht : P.underlying t = some (.slice e)) (hi : P.info? e = some i) (hz : i.zero = some z)
    (hsize : i.size = size) (hby : i.bytes = bytes) (hzs : z.cells.size = size) (hsz : 0 < size)
    (v : Value) (n : Nat) (xs : List Value) (hs : a.eval s = v) (hown : w.ownsRow base e size v n xs)
    (B : Nat) (A : Option Addr) (m c : Nat) (news : List Value) (hx : a.eval x = .slice A m c) (hr : Reads w B size A m news) (h1 : ∀ u ∈ news, u.oneCell' = true)
    (h63 : n + m ≤ maxLen) (hbytes : (n + m) * bytes ≤ 140737488355328) (hbase : base ≤ w.heap.size)
    (h : ∀ v' w', w'.ownsRow base e size v' (n + m) (xs ++ news) → w.grownBy w' v.ownBlock → (v'.ownBlock = v.ownBlock ∨ v'.ownBlock = some w.heap.size) → K (a.put o.dst v') w') : o.wp P a w K Q := by
  obtain ⟨v', w', hrun, h2, h3, h4⟩ := run_append_any (P := P) w base t o.type e i z size bytes ht hi hz hsize hby hzs hsz v n xs hown B A m c news hr h1 h63 hbytes hbase
  unfold Oper.wp execOp
  simp only [ho, resolve, invoke, builtin, Sem.run_bind, Sem.run_pure, Result.andThen_ok, List.map_toArray, List.map_cons, List.map_nil, hs, hx, hrun]
  exact h v' w' h2 h3 h4

theorem wpList_append_any {ops : Array Oper} {rest : List Oper} {o : Oper} {a : Act} {Q : Exit → Act → World → Prop} (hgd : o.guard = none) (s x : Operand) (t : TypeId)
    (ho : o.op = .call { callee := .builtin .append, args := #[s, x], argTypes := #[t, t] })
    (base : Nat) (e : TypeId) (i : TypeInfo) (z : Value) (size bytes : Nat) (ht : P.underlying t = some (.slice e)) (hi : P.info? e = some i) (hz : i.zero = some z)
    (hsize : i.size = size) (hby : i.bytes = bytes) (hzs : z.cells.size = size) (hsz : 0 < size)
    (v : Value) (n : Nat) (xs : List Value) (hs : a.eval s = v) (hown : w.ownsRow base e size v n xs)
    (B : Nat) (A : Option Addr) (m c : Nat) (news : List Value) (hx : a.eval x = .slice A m c) (hr : Reads w B size A m news) (h1 : ∀ u ∈ news, u.oneCell' = true)
    (h63 : n + m ≤ maxLen) (hbytes : (n + m) * bytes ≤ 140737488355328) (hbase : base ≤ w.heap.size)
    (h : ∀ v' w', w'.ownsRow base e size v' (n + m) (xs ++ news) → w.grownBy w' v.ownBlock → (v'.ownBlock = v.ownBlock ∨ v'.ownBlock = some w.heap.size) → wpList P ops Q rest (a.put o.dst v') w') : wpList P ops Q (o :: rest) a w :=
  wpList_plain hgd fun _ hK => wp_append_any w s x t ho base e i z size bytes ht hi hz hsize hby hzs hsz v n xs hs hown B A m c news hx hr h1 h63 hbytes hbase fun v' w' h2 h3 h4 => hK _ _ (h v' w' h2 h3 h4)

theorem wpList_wanted {ops : Array Oper} {rest : List Oper} {o : Oper} {a : Act} {Q : Exit → Act → World → Prop} (hw : Region.wanted o (yielded ops a.tmps) = true)
    (h : ∀ K : Act → World → Prop, (∀ a w, wpList P ops Q rest a w → K a w) → o.wp P a w K Q) : wpList P ops Q (o :: rest) a w :=
  wpList_step fun K hK => by rw [if_pos hw]; exact h K hK
theorem wpList_append_any_g {ops : Array Oper} {rest : List Oper} {o : Oper} {a : Act} {Q : Exit → Act → World → Prop} (hgd : Region.wanted o (yielded ops a.tmps) = true) (s x : Operand) (t : TypeId)
    (ho : o.op = .call { callee := .builtin .append, args := #[s, x], argTypes := #[t, t] })
    (base : Nat) (e : TypeId) (i : TypeInfo) (z : Value) (size bytes : Nat) (ht : P.underlying t = some (.slice e)) (hi : P.info? e = some i) (hz : i.zero = some z)
    (hsize : i.size = size) (hby : i.bytes = bytes) (hzs : z.cells.size = size) (hsz : 0 < size)
    (v : Value) (n : Nat) (xs : List Value) (hs : a.eval s = v) (hown : w.ownsRow base e size v n xs)
    (B : Nat) (A : Option Addr) (m c : Nat) (news : List Value) (hx : a.eval x = .slice A m c) (hr : Reads w B size A m news) (h1 : ∀ u ∈ news, u.oneCell' = true)
    (h63 : n + m ≤ maxLen) (hbytes : (n + m) * bytes ≤ 140737488355328) (hbase : base ≤ w.heap.size)
    (h : ∀ v' w', w'.ownsRow base e size v' (n + m) (xs ++ news) → w.grownBy w' v.ownBlock → (v'.ownBlock = v.ownBlock ∨ v'.ownBlock = some w.heap.size) → wpList P ops Q rest (a.put o.dst v') w') : wpList P ops Q (o :: rest) a w :=
  wpList_wanted w hgd fun _ hK => wp_append_any w s x t ho base e i z size bytes ht hi hz hsize hby hzs hsz v n xs hs hown B A m c news hx hr h1 h63 hbytes hbase fun v' w' h2 h3 h4 => hK _ _ (h v' w' h2 h3 h4)

theorem step_append_any {ops : Array Oper} {o : Oper} {a : Act} {K : Act → World → Prop} {Q : Exit → Act → World → Prop} {E : Prop} (hgd : o.guard = none) (s x : Operand) (t : TypeId)
    (ho : o.op = .call { callee := .builtin .append, args := #[s, x], argTypes := #[t, t] })
    (base : Nat) (e : TypeId) (i : TypeInfo) (z : Value) (size bytes : Nat) (ht : P.underlying t = some (.slice e)) (hi : P.info? e = some i) (hz : i.zero = some z)
    (hsize : i.size = size) (hby : i.bytes = bytes) (hzs : z.cells.size = size) (hsz : 0 < size)
    (v : Value) (n : Nat) (xs : List Value) (hs : a.eval s = v) (hown : w.ownsRow base e size v n xs)
    (B : Nat) (A : Option Addr) (m c : Nat) (news : List Value) (hx : a.eval x = .slice A m c) (hr : Reads w B size A m news) (h1 : ∀ u ∈ news, u.oneCell' = true)
    (h63 : n + m ≤ maxLen) (hbytes : (n + m) * bytes ≤ 140737488355328) (hbase : base ≤ w.heap.size)
    (h : ∀ v' w', w'.ownsRow base e size v' (n + m) (xs ++ news) → w.grownBy w' v.ownBlock → (v'.ownBlock = v.ownBlock ∨ v'.ownBlock = some w.heap.size) → K (a.put o.dst v') w') :
    if Region.wanted o (yielded ops a.tmps) = true then Oper.wp P o a w K Q else E := by
  have hw : Region.wanted o (yielded ops a.tmps) = true := by simp [Region.wanted, hgd]
  rw [if_pos hw]
  exact wp_append_any w s x t ho base e i z size bytes ht hi hz hsize hby hzs hsz v n xs hs hown B A m c news hx hr h1 h63 hbytes hbase h
end
end Go.Proofs.YtbjengfoaobdbaaGreatDoor.words

/- Small laws about worlds. No condition but those stated. -/
namespace Go.Proofs.YtbjengfoaobdbaaGreatDoor.nodew
open Go.RowKit Go.Shelf
open Go.Proofs.YtbjengfoaobdbaaGreatDoor.words
attribute [local go_sem] run_store_float
theorem below_drewN' {B : Nat} {a w : World} (h : Below B a w) (n : Nat) : Below B a (w.drewN n) := ⟨h.os, h.tape, h.output, h.size, h.block⟩

theorem list_all_take {α : Type} (p : α → Bool) (l : List α) (k : Nat) (hk : k < l.length) (h : (l.take k).all p = true) : ((l.take (k + 1)).all p = true) ↔ p l[k] = true := by
  rw [List.take_add_one, List.all_append, h, List.getElem?_eq_getElem hk]
  simp

/-- the blocks from B to M are as they were -/
def KB (B M : Nat) (w w' : World) : Prop := w.heap.size ≤ w'.heap.size ∧ ∀ b, B ≤ b → b < M → w'.heap[b]? = w.heap[b]?

def belowN (k : Nat) : Nat := if k = 5 then 2 else if k = 6 then 1 else 0
/-- may a place be one of a node below -/
def placeOk (used : Bool) (k at_ : Int) : Bool := if used then decide (0 ≤ k) && decide (k < at_) else decide (k = 0)
theorem place_a1 (q : Nat) (k at_ : Int) (h1 : 0 < q) (h : 0 ≤ k ∧ k < at_) : placeOk (decide (0 < q)) k at_ = true := by simp [placeOk, h1, h.1, h.2]
theorem place_a2 (q : Nat) (k at_ : Int) (h1 : ¬ 0 < q) (h : (k != 0) = false) : placeOk (decide (0 < q)) k at_ = true := by simp at h; simp [placeOk, h1, h]
theorem place_b1 (q : Nat) (k at_ : Int) (h1 : 1 < (q : Int)) (h : 0 ≤ k ∧ k < at_) : placeOk (decide (1 < q)) k at_ = true := by
  have h2 : 1 < q := by omega
  simp [placeOk, h2, h.1, h.2]
theorem place_b2 (q : Nat) (k at_ : Int) (h1 : ¬ 1 < (q : Int)) (h : (k != 0) = false) : placeOk (decide (1 < q)) k at_ = true := by
  have h2 : ¬ 1 < q := by omega
  simp at h
  simp [placeOk, h2, h]
theorem place_a3 (q : Nat) (k at_ : Int) (h1 : 0 < q) (h : k < 0 ∨ at_ ≤ k) : placeOk (decide (0 < q)) k at_ = false := by simp [placeOk, h1]; omega
theorem place_a4 (q : Nat) (k at_ : Int) (h1 : ¬ 0 < q) (h : (k != 0) = true) : placeOk (decide (0 < q)) k at_ = false := by simp at h; simp [placeOk, h1, h]
theorem place_b3 (q : Nat) (k at_ : Int) (h1 : 1 < (q : Int)) (h : k < 0 ∨ at_ ≤ k) : placeOk (decide (1 < q)) k at_ = false := by
  have h2 : 1 < q := by omega
  simp [placeOk, h2]; omega
theorem place_b4 (q : Nat) (k at_ : Int) (h1 : ¬ 1 < (q : Int)) (h : (k != 0) = true) : placeOk (decide (1 < q)) k at_ = false := by
  have h2 : ¬ 1 < q := by omega
  simp at h
  simp [placeOk, h2, h]
theorem or_zero (x y : Nat) (hx : x < 18446744073709551616) (hy : y < 18446744073709551616) : ∃ z : Nat, z < 18446744073709551616 ∧ bits .or .u64 (x : Int) (y : Int) = (z : Int) ∧ (z = 0 ↔ x = 0 ∧ y = 0) :=
  ⟨x ||| y, Nat.or_lt_two_pow (n := 64) hx hy, u64_or_nat x y hx hy, Nat.or_eq_zero_iff⟩
attribute [local go_sem] bits_run
end Go.Proofs.YtbjengfoaobdbaaGreatDoor.nodew

/- Small laws about worlds, second part. -/
namespace Go.Proofs.YtbjengfoaobdbaaGreatDoor.nodew
open Go.RowKit Go.Shelf
open Go.Proofs.YtbjengfoaobdbaaGreatDoor.words
attribute [local go_sem] run_store_float
end Go.Proofs.YtbjengfoaobdbaaGreatDoor.nodew

/- Two right numbers are equal just where their bits are. Condition: neither is a NaN, an infinity or minus 0. -/
namespace Go.Proofs.YtbjengfoaobdbaaGreatDoor.flatm
open Go.Proofs.YtbjengfoaobdbaaGreatDoor.nodew

theorem fo_inj {x y : Nat} (hx : x < 18446744073709551616) (hy : y < 18446744073709551616) (fx : x % 9223372036854775808 < 9218868437227405312) (fy : y % 9223372036854775808 < 9218868437227405312) (nx : x ≠ 9223372036854775808) (ny : y ≠ 9223372036854775808) (h : fo x y = some .eq) : x = y := by
  obtain ⟨m, a, e1, v1⟩ := read_num x fx
  obtain ⟨n, b, e2, v2⟩ := read_num y fy
  have h' : Ieee.Datum.order (Ieee.Format.read Ieee.double x) (Ieee.Format.read Ieee.double y) = some .eq := h
  rw [e1, e2] at h'
  obtain ⟨h1, h2⟩ := order_scale h'
  rw [v1, v2] at h1
  have hr := val_inj h1
  rw [v1] at h2
  rcases h2 with h2 | h2
  · have : (x / 9223372036854775808 % 2 = 1) ↔ (y / 9223372036854775808 % 2 = 1) := by
      rw [← beq_iff_eq, ← beq_iff_eq (a := y / 9223372036854775808 % 2), h2]
    omega
  · have h0 : x % 9223372036854775808 = 0 := val_inj (h2.trans (val_low (by decide)).symm)
    omega
theorem fo_self {x : Nat} (fx : x % 9223372036854775808 < 9218868437227405312) : fo x x = some .eq := by
  obtain ⟨m, a, e1, _⟩ := read_num x fx
  show Ieee.Datum.order (Ieee.Format.read Ieee.double x) (Ieee.Format.read Ieee.double x) = some .eq
  rw [e1]
  unfold Ieee.Datum.order
  simp only [Option.some.injEq]
  exact Std.ReflCmp.compare_self
/-- right numbers -/
theorem right_word {x : Nat} (hx : x < 18446744073709551616) (h : rightF x = true) : x % 9223372036854775808 < 9218868437227405312 ∧ x ≠ 9223372036854775808 := by
  have h63 : rightF 9223372036854775808 = false := by kernel_rfl
  have hi1 : rightF 9218868437227405312 = false := by kernel_rfl
  have hi2 : rightF 18442240474082181120 = false := by kernel_rfl
  have hne : x ≠ 9223372036854775808 := fun e => by rw [e, h63] at h; cases h
  refine ⟨?_, hne⟩
  apply Nat.lt_of_not_le
  intro hge
  by_cases he : x % 9223372036854775808 = 9218868437227405312
  · have : x = 9218868437227405312 ∨ x = 18442240474082181120 := by omega
    rcases this with e | e
    · rw [e, hi1] at h; cases h
    · rw [e, hi2] at h; cases h
  · have hw : Ieee.double.signWeight = 9223372036854775808 := by kernel_rfl
    have hb : Ieee.double.binade = 4503599627370496 := by kernel_rfl
    have hi : Ieee.double.infRung = 9218868437227405312 := by kernel_rfl
    have hr : ∃ s f, Ieee.Format.read Ieee.double x = .nan s f := by
      unfold Ieee.Format.read
      simp only [hw, hb, hi]
      rw [if_neg (by omega), if_neg (by omega), if_neg he]
      exact ⟨_, _, rfl⟩
    obtain ⟨s, f, hr⟩ := hr
    have hn : nanF x = true := by
      unfold nanF
      show (Ieee.Datum.order (Ieee.Format.read Ieee.double x) (Ieee.Format.read Ieee.double x) != some .eq) = true
      rw [hr]
      rfl
    unfold rightF at h
    rw [hn] at h
    cases h
/-- two right numbers are equal just where their bits are -/
theorem fo_right {x y : Nat} (hx : x < 18446744073709551616) (hy : y < 18446744073709551616) (rx : rightF x = true) (ry : rightF y = true) : (fo x y == some .eq) = decide (x = y) := by
  obtain ⟨fx, nx⟩ := right_word hx rx
  obtain ⟨fy, ny⟩ := right_word hy ry
  by_cases e : x = y
  · subst e
    rw [fo_self fx, decide_eq_true rfl]
    rfl
  · rw [decide_eq_false e, beq_eq_false_iff_ne]
    exact fun h => e (fo_inj hx hy fx fy nx ny h)
end Go.Proofs.YtbjengfoaobdbaaGreatDoor.flatm
