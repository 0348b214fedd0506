/- What a laid text of digits says when it is read: the digits times ten to a power. Plain. -/
import Derived.Test.YtcbgkbidgpemfaaGreatDoorMp09
import Derived.Test.YtcbgkbidgpemfaaGreatDoorMp01
import Derived.Test.YtcbgkbidgpemfaaGreatDoorMp10
import Derived.Lib.ItoaNum
import Derived.Lib.Repeat
import Derived.Below
import Derived.Laws.OwnMore
import Derived.Deep.AppendLies
import Derived.Deep.Draws
import Derived.Maps.AppendAt
import Derived.RegionTactic
import Derived.OwnWalk
import Derived.RangeFuncBox
import Derived.Deep.QuietTactic
import Derived.BigQuiet
import Derived.Shelf.Abstract
import Derived.Lib.SmallJoins
import Derived.Laws.EntriesVeiled
import Derived.Deep.RegionHeld3
import Derived.Laws.Pointers
import Derived.StillTactics
namespace Go.Proofs.YtcbgkbidgpemfaaGreatDoor.rdf
open Go.RowKit
open Go.Proofs.YtcbgkbidgpemfaaGreatDoor.dmx
open Go.Proofs.YtcbgkbidgpemfaaGreatDoor.fpm

/-- a row of digits as a number -/
def dval (l : List UInt8) : Nat := l.foldl (fun N c => N * 10 + (c.toNat - 48)) 0
theorem foldN : ∀ (l : List UInt8) (N : Nat), l.foldl (fun N c => N * 10 + (c.toNat - 48)) N = N * 10 ^ l.length + dval l
  | [], N => by simp [dval]
  | c :: l, N => by
    show l.foldl _ (N * 10 + (c.toNat - 48)) = _
    rw [foldN l]
    have h : dval (c :: l) = (0 * 10 + (c.toNat - 48)) * 10 ^ l.length + dval l := foldN l _
    rw [h, List.length_cons, Nat.pow_succ, Nat.add_mul, Nat.zero_mul, Nat.zero_add, Nat.add_assoc, Nat.mul_assoc, Nat.mul_comm 10]
theorem dval_cons (c : UInt8) (l : List UInt8) : dval (c :: l) = (0 * 10 + (c.toNat - 48)) * 10 ^ l.length + dval l := by
  conv => lhs; unfold dval
  exact foldN l (0 * 10 + (c.toNat - 48))
theorem dval_app (a b : List UInt8) : dval (a ++ b) = dval a * 10 ^ b.length + dval b := by
  show (a ++ b).foldl _ 0 = _
  rw [List.foldl_append, foldN]
  rfl
def DigL (l : List UInt8) : Prop := ∀ c ∈ l, isD c = true
end Go.Proofs.YtcbgkbidgpemfaaGreatDoor.rdf

/- The contracts of library functions: in ShfP. -/


/- Small lemmas on slices for every law of this seat: a slice that reads as a list, an append onto a row of the call's own. The texts are the guide's (extra-words), as the guide bids to copy them. -/
namespace Go.Proofs.YtcbgkbidgpemfaaGreatDoor.words
open Go.RowKit
theorem block_of_add (a : Addr) (n : Nat) : (a.add n).block = a.block := by unfold Addr.add; split <;> rfl
theorem add_of_add (a : Addr) (i j : Nat) : (a.add i).add j = a.add (i + j) := by
  unfold Addr.add
  by_cases hi : i = 0 <;> by_cases hj : j = 0 <;> simp [hi, hj, Nat.add_assoc]

def Reads (w : World) (B size : Nat) (A : Option Addr) (n : Nat) (xs : List Value) : Prop :=
  xs.length = n * size ∧ (0 < n → ∃ ad, A = some ad ∧ ad.block < B ∧ ∀ j u, xs[j]? = some u → w.cell? (ad.add j) = some u)

section
variable {w w' : World} {B B' size n : Nat} {A : Option Addr} {xs : List Value}
theorem Reads.at_ {k : Nat} (h : Reads w B 1 A n xs) (hk : k < n) : ∃ ad u, A = some ad ∧ ad.block < B ∧ xs[k]? = some u ∧ w.cell? (ad.add k) = some u := by
  obtain ⟨ad, e, hb, hc⟩ := h.2 (by omega)
  have hl : k < xs.length := by have := h.1; omega
  exact ⟨ad, xs[k], e, hb, List.getElem?_eq_getElem hl, hc k _ (List.getElem?_eq_getElem hl)⟩
theorem Reads.keep (h : Reads w B size A n xs) (hk : ∀ p : Addr, p.block < B → w'.cell? p = w.cell? p) : Reads w' B size A n xs :=
  ⟨h.1, fun hn => by
    obtain ⟨ad, e, hb, hc⟩ := h.2 hn
    exact ⟨ad, e, hb, fun j u hu => (hk _ (by rw [block_of_add]; exact hb)).trans (hc j u hu)⟩⟩
theorem Reads.below (h : Reads w B size A n xs) (hb : Below B w w') : Reads w' B size A n xs := h.keep fun _ hp => hb.cell hp
theorem Reads.drew (h : Reads w B size A n xs) : Reads w.drew B size A n xs := h
theorem Reads.drewN (h : Reads w B size A n xs) (k : Nat) : Reads (w.drewN k) B size A n xs := h
theorem Reads.alloc (h : Reads w B size A n xs) (hB : B ≤ w.heap.size) (o : Obj) : Reads (w.alloc o) B size A n xs := h.keep fun p hp => World.cell?_alloc_lt w o p (by omega)
theorem Reads.setCell (h : Reads w B size A n xs) {p : Addr} (hB : B ≤ p.block) (u : Value) : Reads (w.setCell p u) B size A n xs :=
  h.keep fun q hq => World.cell?_setCell_other w p q u (fun e => by subst e; omega)
theorem Reads.cut (h : Reads w B size A n xs) {k cap : Nat} (hk : k ≤ n) (hc : n ≤ cap) :
    Reads w B size (if cap = k then A else A.map (·.add (k * size))) (n - k) (xs.drop (k * size)) := by
  refine ⟨by rw [List.length_drop, h.1, Nat.sub_mul], fun hn => ?_⟩
  obtain ⟨ad, rfl, hb, hcell⟩ := h.2 (by omega)
  rw [if_neg (by omega)]
  refine ⟨ad.add (k * size), rfl, by rw [block_of_add]; exact hb, fun j u hu => ?_⟩
  rw [add_of_add]
  exact hcell _ u (by rw [← hu, List.getElem?_drop])
end
section
variable {P : Program} (w : World)

theorem wpList_wanted {ops : Array Oper} {rest : List Oper} {o : Oper} {a : Act} {Q : Exit → Act → World → Prop} (hw : Region.wanted o (yielded ops a.tmps) = true)
    (h : ∀ K : Act → World → Prop, (∀ a w, wpList P ops Q rest a w → K a w) → o.wp P a w K Q) : wpList P ops Q (o :: rest) a w :=
  wpList_step fun K hK => by rw [if_pos hw]; exact h K hK
end
end Go.Proofs.YtcbgkbidgpemfaaGreatDoor.words

/- The walks of check's fields, part one: the closures that say where a number of a node lies; three. No conditions. -/
namespace Go.Proofs.YtcbgkbidgpemfaaGreatDoor.nodew
open Go.RowKit Go.Shelf
open Go.Proofs.YtcbgkbidgpemfaaGreatDoor.words

/-- the place of a cell of a node -/
abbrev pt (n off : Nat) : Value := .pointer (some ⟨n, off, none⟩)

def singleF : List (FuncId × Nat) := [(102, 14), (103, 15), (104, 13), (107, 16)]
def tripleF : List (FuncId × Nat) := [(101, 1), (108, 4), (105, 7), (106, 10)]

theorem single_any : ∀ fc ∈ singleF, Enters Tryz.prog fc.1 ∧ ∀ n w, Calls Tryz.prog fc.1 #[pt n 0] w fun e w' => e = .returned (pt n fc.2) ∧ w' = w := by
  intro fc h
  simp only [singleF, List.mem_cons, List.not_mem_nil, or_false] at h
  rcases h with rfl | rfl | rfl | rfl
  · refine ⟨enters_of Tryz.func102 (by kernel_rfl) rfl, fun n w => ?_⟩
    go_enter Tryz.func102, Tryz.ntmps102
    go_wp2
    go_ret
    exact ⟨rfl, rfl⟩
  · refine ⟨enters_of Tryz.func103 (by kernel_rfl) rfl, fun n w => ?_⟩
    go_enter Tryz.func103, Tryz.ntmps103
    go_wp2
    go_ret
    exact ⟨rfl, rfl⟩
  · refine ⟨enters_of Tryz.func104 (by kernel_rfl) rfl, fun n w => ?_⟩
    go_enter Tryz.func104, Tryz.ntmps104
    go_wp2
    go_ret
    exact ⟨rfl, rfl⟩
  · refine ⟨enters_of Tryz.func107 (by kernel_rfl) rfl, fun n w => ?_⟩
    go_enter Tryz.func107, Tryz.ntmps107
    go_wp2
    go_ret
    exact ⟨rfl, rfl⟩

theorem triple_any : ∀ fc ∈ tripleF, Enters Tryz.prog fc.1 ∧ ∀ n w, Calls Tryz.prog fc.1 #[pt n 0] w fun e w' => e = .returned (pt n fc.2) ∧ w' = w := by
  intro fc h
  simp only [tripleF, List.mem_cons, List.not_mem_nil, or_false] at h
  rcases h with rfl | rfl | rfl | rfl
  · refine ⟨enters_of Tryz.func101 (by kernel_rfl) rfl, fun n w => ?_⟩
    go_enter Tryz.func101, Tryz.ntmps101
    go_wp2
    go_ret
    exact ⟨rfl, rfl⟩
  · refine ⟨enters_of Tryz.func108 (by kernel_rfl) rfl, fun n w => ?_⟩
    go_enter Tryz.func108, Tryz.ntmps108
    go_wp2
    go_ret
    exact ⟨rfl, rfl⟩
  · refine ⟨enters_of Tryz.func105 (by kernel_rfl) rfl, fun n w => ?_⟩
    go_enter Tryz.func105, Tryz.ntmps105
    go_wp2
    go_ret
    exact ⟨rfl, rfl⟩
  · refine ⟨enters_of Tryz.func106 (by kernel_rfl) rfl, fun n w => ?_⟩
    go_enter Tryz.func106, Tryz.ntmps106
    go_wp2
    go_ret
    exact ⟨rfl, rfl⟩

/-- three's closure: the i-th of what the captured closure says -/
theorem pick_any (g : FuncId) (c b1 b2 i n : Nat) (hg : (g, c) ∈ tripleF) (hi : i < 3) (w : World) (h1 : Boxed w b1 158 (.func (.func g) #[] #[])) (h2 : Boxed w b2 3 (.int .i64 i)) :
    Calls Tryz.prog 140 #[pt n 0, pt b1 0, pt b2 0] w fun e w' => e = .returned (pt n (c + i)) ∧ ∃ m, w' = w.drewN m := by
  obtain ⟨hE, hC⟩ := triple_any _ hg
  dsimp only at hE hC
  have c1 := h1.cell
  have c2 := h2.cell
  have hE' : ∀ (args : Array Value) (w : World), (callFunc g args).run Tryz.prog w = .ok (.enter g args) w := hE
  have hi0 : (0 : Int) ≤ (i : Int) := by omega
  have hi3 : (i : Int) < 3 := by omega
  go_enter Tryz.func140, Tryz.ntmps140
  go_wp2_with fail
  go_quiet (first | (refine Calls.quiet_of_same (hC _ _)))
  go_wp2
  go_ret
  exact ⟨rfl, nq, rfl⟩

/-- F says of a node where its cell 'off' lies; what it captured lies in the boxes of w -/
def FieldFn (w : World) (B : Nat) (F : Value) (off : Nat) : Prop :=
  (∃ f, F = .func (.func f) #[] #[] ∧ (f, off) ∈ singleF) ∨
  (∃ g b1 b2 c i, F = .func (.func 140) #[] #[pt b1 0, pt b2 0] ∧ (g, c) ∈ tripleF ∧ B ≤ b1 ∧ B ≤ b2 ∧ i < 3 ∧ off = c + i ∧
    Boxed w b1 158 (.func (.func g) #[] #[]) ∧ Boxed w b2 3 (.int .i64 i))

theorem FieldFn.kept {w w' : World} {B : Nat} {F : Value} {off : Nat} (h : FieldFn w B F off) (hk : ∀ b t v, B ≤ b → Boxed w b t v → t ≠ 129 → Boxed w' b t v) : FieldFn w' B F off := by
  rcases h with h | ⟨g, b1, b2, c, i, hF, hg, h1, h2, hi, ho, x1, x2⟩
  · exact .inl h
  · exact .inr ⟨g, b1, b2, c, i, hF, hg, h1, h2, hi, ho, hk _ _ _ h1 x1 (by decide), hk _ _ _ h2 x2 (by decide)⟩

theorem FieldFn.drew {w : World} {B : Nat} {F : Value} {off : Nat} (h : FieldFn w B F off) : FieldFn w.drew B F off := h
theorem FieldFn.drewN {w : World} {B : Nat} {F : Value} {off : Nat} (h : FieldFn w B F off) (n : Nat) : FieldFn (w.drewN n) B F off := h
theorem FieldFn.alloc {w : World} {B : Nat} {F : Value} {off : Nat} (h : FieldFn w B F off) (o : Obj) : FieldFn (w.alloc o) B F off := h.kept fun _ _ _ _ hb _ => hb.alloc o
theorem FieldFn.calls {w : World} {B : Nat} {F : Value} {off : Nat} (h : FieldFn w B F off) : ∃ f caps, F = .func (.func f) #[] caps ∧ Enters Tryz.prog f ∧
    ∀ w' n, FieldFn w' B F off → Calls Tryz.prog f (#[pt n 0] ++ caps) w' fun e w'' => e = .returned (pt n off) ∧ ∃ m, w'' = w'.drewN m := by
  have key : ∃ f caps, F = .func (.func f) #[] caps ∧ Enters Tryz.prog f := by
    rcases h with ⟨f, hF, hf⟩ | ⟨g, b1, b2, c, i, hF, hg, h1, h2, hi, rfl, x1, x2⟩
    · exact ⟨f, #[], hF, (single_any _ hf).1⟩
    · exact ⟨_, _, hF, enters_of Tryz.func140 (by kernel_rfl) rfl⟩
  obtain ⟨f, caps, hF, hE⟩ := key
  refine ⟨f, caps, hF, hE, fun w' n h' => ?_⟩
  rcases h' with ⟨f', hF', hf⟩ | ⟨g, b1, b2, c, i, hF', hg, h1, h2, hi, rfl, x1, x2⟩
  · rw [hF] at hF'
    injection hF' with e1 e2 e3
    injection e1 with e1
    subst e1 e3
    obtain ⟨hE, hC⟩ := single_any _ hf
    exact (hC n w').mono fun e w'' ⟨he, hw⟩ => ⟨he, 0, hw⟩
  · rw [hF] at hF'
    injection hF' with e1 e2 e3
    injection e1 with e1
    subst e1 e3
    exact pick_any g c b1 b2 i n hg hi w' x1 x2

/-- one of a kind's numbers: the function, the cell of the node, the range -/
structure Fd where
  F : Value
  off : Nat
  lo : Nat
  hi : Nat
def Fd.cells (d : Fd) : List Value := [d.F, .float .f64 d.lo, .float .f64 d.hi]
def Fd.val (d : Fd) : Value := .agg #[d.F, .float .f64 d.lo, .float .f64 d.hi]
def Fd.tri (d : Fd) : Nat × Nat × Nat := (d.off, d.lo, d.hi)
def fcells (l : List Fd) : List Value := l.flatMap Fd.cells
def FOk (w : World) (B : Nat) (l : List Fd) : Prop := ∀ d ∈ l, FieldFn w B d.F d.off
theorem fcells_app (l m : List Fd) : fcells (l ++ m) = fcells l ++ fcells m := by simp [fcells]
theorem fcells_get (l : List Fd) (i j : Nat) (hi : i < l.length) (hj : j < 3) : (fcells l)[i * 3 + j]? = (l[i]).cells[j]? := by
  induction l generalizing i with
  | nil => simp at hi
  | cons t r ih =>
    have hc : (fcells (t :: r)) = t.cells ++ fcells r := by simp [fcells]
    have hl : t.cells.length = 3 := rfl
    rw [hc]
    cases i with
    | zero => rw [List.getElem?_append_left (by omega), Nat.zero_mul, Nat.zero_add]; rfl
    | succ i =>
      rw [List.getElem?_append_right (by omega), hl, show (i + 1) * 3 + j - 3 = i * 3 + j from by omega, ih i (by simpa using hi)]
      rfl
theorem fcells_one (l : List Fd) : ∀ u ∈ fcells l, (∀ d ∈ l, d.F.oneCell' = true) → u.oneCell' = true := by
  intro u hu hF
  simp only [fcells, List.mem_flatMap] at hu
  obtain ⟨d, hd, hu⟩ := hu
  simp only [Fd.cells, List.mem_cons, List.not_mem_nil, or_false] at hu
  rcases hu with rfl | rfl | rfl
  · exact hF d hd
  · rfl
  · rfl
theorem FieldFn.one {w : World} {B : Nat} {F : Value} {off : Nat} (h : FieldFn w B F off) : F.oneCell' = true := by
  rcases h with ⟨f, rfl, _⟩ | ⟨g, b1, b2, c, i, rfl, _⟩
  · rfl
  · rfl
theorem FOk.one {w : World} {B : Nat} {l : List Fd} (h : FOk w B l) : ∀ u ∈ fcells l, u.oneCell' = true := fun u hu => fcells_one l u hu fun d hd => (h d hd).one
theorem FOk.kept {w w' : World} {B : Nat} {l : List Fd} (h : FOk w B l) (hk : ∀ b t v, B ≤ b → Boxed w b t v → t ≠ 129 → Boxed w' b t v) : FOk w' B l := fun d hd => (h d hd).kept hk
theorem FOk.grown {w w' : World} {B base n : Nat} {l : List Fd} {v : Value} {xs : List Value} (h : FOk w B l) (hr : w.ownsRow base 129 3 v n xs) (hg : w.grownBy w' v.ownBlock) : FOk w' B l :=
  h.kept fun _ _ _ _ hb ht => hb.kept hg (hb.not_row ht hr)
theorem FOk.alloc {w : World} {B : Nat} {l : List Fd} (h : FOk w B l) (o : Obj) : FOk (w.alloc o) B l := h.kept fun _ _ _ _ hb _ => hb.alloc o
theorem FOk.below {w w' : World} {B B' : Nat} {l : List Fd} (h : FOk w B l) (hb : Below B' w w') (hs : w.heap.size ≤ B') : FOk w' B l :=
  h.kept fun b _ _ _ hx _ => (hb.block b (Nat.lt_of_lt_of_le hx.lt hs)).trans hx
theorem FOk.le {w : World} {B B' : Nat} {l : List Fd} (h : FOk w B l) (hB : B' ≤ B) : FOk w B' l := fun d hd => by
  rcases h d hd with h | ⟨g, b1, b2, c, i, hF, hg, h1, h2, r⟩
  · exact .inl h
  · exact .inr ⟨g, b1, b2, c, i, hF, hg, Nat.le_trans hB h1, Nat.le_trans hB h2, r⟩
theorem FOk.app {w : World} {B : Nat} {l m : List Fd} (h : FOk w B l) (h' : FOk w B m) : FOk w B (l ++ m) := fun d hd => by
  rcases List.mem_append.1 hd with hd | hd
  · exact h d hd
  · exact h' d hd

theorem own_base {W : World} {base : Nat} {e : TypeId} {size : Nat} {v : Value} {k : Nat} {xs : List Value} (h : W.ownsRow base e size v k xs) {r : Nat} (hr : v.ownBlock = some r) : base ≤ r := by
  rcases h.2 with ⟨rfl, h0⟩ | ⟨g, cap, _, rfl, hb, _⟩
  · cases hr
  · cases hr; exact hb

theorem cells_new (W : World) (news : List Value) (t : TypeId) : ∀ j u, news[j]? = some u → (W.alloc (.cells news.toArray t)).cell? ((⟨W.heap.size, 0, none⟩ : Addr).add j) = some u := by
  intro j u hu
  have hadd : (⟨W.heap.size, 0, none⟩ : Addr).add j = ⟨W.heap.size, j, none⟩ := by unfold Addr.add; split <;> simp_all
  have hb : (W.alloc (.cells news.toArray t)).heap[W.heap.size]? = some (.cells news.toArray t (0, 0)) := heap_alloc_new W _
  rw [hadd, cell_of_row _ _ j news.toArray t (0, 0) hb]
  simpa using hu

theorem Tryz.fieldInfo : (Tryz.prog.info? 129).map (fun i => (i.zero, i.size, i.bytes)) = some (some (.agg #[.nilFunc, .float .f64 0, .float .f64 0]), 3, 24) := by kernel_rfl

set_option maxRecDepth 100000 in
set_option maxHeartbeats 2000000 in
theorem three_any (g : FuncId) (c lo hi : Nat) (hg : (g, c) ∈ tripleF) (w : World) :
    Calls Tryz.prog 100 #[.func (.func g) #[] #[], .float .f64 lo, .float .f64 hi] w fun e w' => ∃ v l, e = .returned v ∧ w'.ownsRow w.heap.size 129 3 v l.length (fcells l) ∧ FOk w' w.heap.size l ∧
      l.map Fd.tri = (List.range 3).map (fun j => (c + j, lo, hi)) ∧ Below w.heap.size w w' := by
  obtain ⟨i0, hi0, hz0, hz1, hz2⟩ := info_parts Tryz.fieldInfo
  go_enter Tryz.func100, Tryz.ntmps100
  go_wp2
  go_loopw [7, 9] (fun v i wr => ∃ (k : Nat) (l : List Fd), k ≤ 3 ∧ i = .int .i64 k ∧ l.length = k ∧ wr.ownsRow w.heap.size 129 3 v k (fcells l) ∧ FOk wr w.heap.size l ∧ l.map Fd.tri = (List.range k).map (fun j => (c + j, lo, hi)) ∧
      Boxed wr w.heap.size 158 (.func (.func g) #[] #[]) ∧ Below w.heap.size w wr)
    (fun _ i _ => 3 - (intOf i).toNat)
  case atStart => exact ⟨0, [], by omega, rfl, rfl, World.ownsRow_nil _ _ _ _, by intro d hd; simp at hd, rfl, Boxed.new _ _ _, (Below.refl _ _).alloc (Nat.le_refl _) _⟩
  case round =>
    obtain ⟨k, l, hk, rfl, hl, hown, hF, htri, hbx, hB⟩ := hrel
    have hmf : ∀ (fn : Fn) (first cap : Array Value) (w : World), (Instr.makeFunc fn first cap).run Tryz.prog w = .ok (.func fn first cap) w := fun _ _ _ _ => rfl
    have hbs := hB.size
    by_cases hk3 : k < 3
    · obtain ⟨d, hd⟩ : ∃ d : Fd, d = ⟨.func (.func 140) #[] #[pt w.heap.size 0, pt wr.heap.size 0], c + k, lo, hi⟩ := ⟨_, rfl⟩
      have ho2 := (hown.alloc (.cells #[.int .i64 k] 3)).alloc (.cells d.cells.toArray 129)
      have hF2 := (hF.alloc (.cells #[.int .i64 k] 3)).alloc (.cells d.cells.toArray 129)
      have hbx2 := (hbx.alloc (.cells #[.int .i64 k] 3)).alloc (.cells d.cells.toArray 129)
      have hbi := (Boxed.new wr 3 (.int .i64 k)).alloc (.cells d.cells.toArray 129)
      have hB2 := (hB.alloc (by omega) (.cells #[.int .i64 k] 3)).alloc (by simp; omega) (.cells d.cells.toArray 129)
      have hnews := cells_new (wr.alloc (.cells #[.int .i64 k] 3)) d.cells 129
      subst hd
      dsimp only [Fd.cells] at ho2 hF2 hbx2 hbi hB2 hnews
      go_wp2_with (first
        | (at_builtin; refine wpList_append_own _ rfl _ _ 125 rfl w.heap.size 129 i0 (.agg #[.nilFunc, .float .f64 0, .float .f64 0]) 3 24 Tryz.underlying125 hi0 hz0 hz1 hz2 rfl (by decide) _ _ _ rfl ho2 ⟨wr.heap.size + 1, 0, none⟩ 1 1 [.func (.func 140) #[] #[pt w.heap.size 0, pt wr.heap.size 0], .float .f64 lo, .float .f64 hi] rfl rfl ?c1 ?c2 ?c3 ?c4 ?c5 ?_))
      case c1 => simpa using hnews
      case c2 => intro u hu; simp at hu; rcases hu with rfl | rfl | rfl <;> rfl
      case c3 => unfold maxLen; omega
      case c4 => omega
      case c5 => simp; omega
      intro v' w1 hown' hgrow _
      have hgr := hgrow
      have hFd : FOk w1 w.heap.size (l ++ [⟨.func (.func 140) #[] #[pt w.heap.size 0, pt wr.heap.size 0], c + k, lo, hi⟩]) := by
        refine (hF2.grown ho2 hgr).app ?_
        intro d hd
        simp only [List.mem_cons, List.not_mem_nil, or_false] at hd
        subst hd
        exact .inr ⟨g, _, _, c, k, rfl, hg, Nat.le_refl _, hbs, hk3, rfl, hbx2.kept hgr (hbx2.not_row (by decide) ho2), hbi.kept hgr (hbi.not_row (by decide) ho2)⟩
      have hbx3 : Boxed w1 w.heap.size 158 (.func (.func g) #[] #[]) := hbx2.kept hgr (hbx2.not_row (by decide) ho2)
      have hB3 : Below w.heap.size w w1 := hB2.grown hgr (by simp; omega) (fun r e => own_base ho2 e)
      have ho3 : w1.ownsRow w.heap.size 129 3 v' (k + 1) (fcells (l ++ [⟨.func (.func 140) #[] #[pt w.heap.size 0, pt wr.heap.size 0], c + k, lo, hi⟩])) := by
        rw [fcells_app]; exact hown'
      have htri' : (l ++ [(⟨.func (.func 140) #[] #[pt w.heap.size 0, pt wr.heap.size 0], c + k, lo, hi⟩ : Fd)]).map Fd.tri = (List.range (k + 1)).map (fun j => (c + j, lo, hi)) := by
        rw [List.map_append, htri, List.range_succ, List.map_append]; rfl
      clear hown' hgrow hgr ho2 hF2 hbx2 hbi hB2 hnews hF hown hbx
      go_wp2

      go_roundw
      case rel => exact ⟨k + 1, _, by omega, by go_num, by rw [List.length_append, hl]; rfl, ho3, hFd, htri', hbx3, hB3⟩
      case measure => simp [intOf]; omega
    · obtain rfl : k = 3 := by omega
      go_wp2_with fail
      go_ret
      exact ⟨_, l, rfl, by rw [hl]; exact hown, hF, htri, hB⟩

end Go.Proofs.YtcbgkbidgpemfaaGreatDoor.nodew

/- The walk of check.fields: a kind's numbers. No conditions. -/
namespace Go.Proofs.YtcbgkbidgpemfaaGreatDoor.nodew
open Go.RowKit Go.Shelf
open Go.Proofs.YtcbgkbidgpemfaaGreatDoor.words
attribute [local go_sem] run_store_float

abbrev b1f : Nat := 4607182418800017408
abbrev bAlpha : Nat := 4584664420663164928
abbrev bIor : Nat := 4607463893776728064
abbrev bIorM : Nat := 4616189618054758400
abbrev bMet : Nat := 4589168020290535424
abbrev bMetM : Nat := 4625196817309499392

/-- a kind's numbers: the cell of a node, the range -/
def fieldList (k : Nat) : List (Nat × Nat × Nat) :=
  if k = 1 then [(1, 0, b1f), (2, 0, b1f), (3, 0, b1f)]
  else if k = 2 then [(13, 0, b1f), (1, 0, b1f), (2, 0, b1f), (3, 0, b1f)]
  else if k = 3 then [(14, bAlpha, b1f), (15, bIor, bIorM)]
  else if k = 4 then [(14, bAlpha, b1f), (7, bMet, bMetM), (8, bMet, bMetM), (9, bMet, bMetM), (10, bMet, bMetM), (11, bMet, bMetM), (12, bMet, bMetM)]
  else if k = 5 then [(16, 0, b1f)]
  else if k = 6 then [(15, bIor, bIorM), (4, 0, b1f), (5, 0, b1f), (6, 0, b1f)]
  else []

theorem own_new (W : World) (B base : Nat) (hB : W.heap.size = B) (hb : base ≤ B) (t : TypeId) (size n : Nat) (cs : List Value) (hl : cs.length = n * size) (hn : n ≤ maxLen) : (W.alloc (.cells cs.toArray t)).ownsRow base t size (.slice (some ⟨B, 0, none⟩) n n) n cs := by
  subst hB
  exact ⟨hl, .inr ⟨_, n, cs.toArray, rfl, hb, heap_alloc_new W _, Nat.le_refl _, hn, by simpa using hl, by simp [← hl]⟩⟩

def FldPost (w : World) (k : Nat) (e : Ending) (w' : World) : Prop :=
  ∃ v l, e = .returned v ∧ w'.ownsRow w.heap.size 129 3 v l.length (fcells l) ∧ FOk w' w.heap.size l ∧ l.map Fd.tri = fieldList k ∧ Below w.heap.size w w'

theorem own_below {B : Nat} {e : TypeId} {k : Nat} {v : Value} {n : Nat} {xs : List Value} {w w' : World} (h : w.ownsRow B e k v n xs) (hb : Below w.heap.size w w') : w'.ownsRow B e k v n xs := by
  refine ⟨h.1, ?_⟩
  rcases h.2 with h0 | ⟨g, cap, cur, hv, hg, hh, r⟩
  · exact .inl h0
  · exact .inr ⟨g, cap, cur, hv, hg, (hb.block g (Array.getElem?_eq_some_iff.1 hh).1).trans hh, r⟩
theorem row_at {W : World} {base n : Nat} {t : TypeId} {v : Value} {xs : List Value} (h : W.ownsRow base t 3 v n xs) (hn : 0 < n) : ∃ g cap, v = .slice (some ⟨g, 0, none⟩) n cap ∧ base ≤ g ∧ g < W.heap.size ∧ xs.length = n * 3 ∧ ∀ j u, xs[j]? = some u → W.cell? ((⟨g, 0, none⟩ : Addr).add j) = some u := by
  obtain ⟨g, cap, hv, hb, hlt⟩ := h.form hn
  subst hv
  exact ⟨g, cap, rfl, hb, hlt, h.1, h.cells (g := g) rfl⟩
theorem single_ok (w : World) (B : Nat) (f : FuncId) (off lo hi : Nat) (h : (f, off) ∈ singleF) : FOk w B [⟨.func (.func f) #[] #[], off, lo, hi⟩] := by
  intro d hd
  simp only [List.mem_cons, List.not_mem_nil, or_false] at hd
  subst hd
  exact .inl ⟨f, rfl, h⟩
abbrev dA : Fd := ⟨.func (.func 102) #[] #[], 14, bAlpha, b1f⟩
abbrev dI : Fd := ⟨.func (.func 103) #[] #[], 15, bIor, bIorM⟩
abbrev dS : Fd := ⟨.func (.func 104) #[] #[], 13, 0, b1f⟩
abbrev dW : Fd := ⟨.func (.func 107) #[] #[], 16, 0, b1f⟩
/-- the world behind the two boxes of fields -/
def w2 (w1 : World) : World := (w1.alloc (.cells #[.func (.func 102) #[] #[], .float .f64 bAlpha, .float .f64 b1f] 129)).alloc
  (.cells #[.func (.func 103) #[] #[], .float .f64 bIor, .float .f64 bIorM] 129)
theorem tri_len {l : List Fd} {r : List (Nat × Nat × Nat)} (h : l.map Fd.tri = r) : l.length = r.length := by rw [← h, List.length_map]

set_option maxRecDepth 100000 in
set_option maxHeartbeats 4000000 in
theorem fields1 (w : World) : Calls Tryz.prog 75 #[.int .u8 1] w (FldPost w 1) := by
  go_enter Tryz.func75, Tryz.ntmps75
  go_wp2_with fail
  refine (three_any _ 1 _ _ (by decide) w).mono ?_
  rintro e w1 ⟨v, l, rfl, hown, hF, htri, hB⟩
  have hs := hB.size
  go_wp2_with fail
  go_ret
  exact ⟨v, l, rfl, (hown.alloc _).alloc _, (hF.alloc _).alloc _, by rw [htri]; rfl, (hB.alloc hs _).alloc (by simp; omega) _⟩

set_option maxRecDepth 100000 in
set_option maxHeartbeats 4000000 in
theorem fields2 (w : World) : Calls Tryz.prog 75 #[.int .u8 2] w (FldPost w 2) := by
  obtain ⟨i0, hi0, hz0, hz1, hz2⟩ := info_parts Tryz.fieldInfo
  go_enter Tryz.func75, Tryz.ntmps75
  go_wp2_with fail
  refine (three_any _ 1 _ _ (by decide) w).mono ?_
  rintro e w1 ⟨v, l, rfl, hown, hF, htri, hB⟩
  have hs := hB.size
  have hl : l.length = 3 := tri_len htri
  rw [hl] at hown
  have ho2 := ((hown.alloc (.cells (dA.cells).toArray 129)).alloc (.cells (dI.cells).toArray 129)).alloc (.cells (dS.cells).toArray 129)
  have hF2 := ((hF.alloc (.cells (dA.cells).toArray 129)).alloc (.cells (dI.cells).toArray 129)).alloc (.cells (dS.cells).toArray 129)
  have hB2 := ((hB.alloc hs (.cells (dA.cells).toArray 129)).alloc (by simp; omega) (.cells (dI.cells).toArray 129)).alloc (by simp; omega) (.cells (dS.cells).toArray 129)
  have hn2 := own_new ((w1.alloc (.cells (dA.cells).toArray 129)).alloc (.cells (dI.cells).toArray 129)) (w1.heap.size + 1 + 1) w.heap.size (by simp) (by omega) 129 3 1 dS.cells rfl (by decide)
  obtain ⟨g, cap, rfl, hg, hgl, hxl, hcell⟩ := row_at ho2 (by omega)
  clear hown hF hB
  go_wp2_with (first
    | (at_builtin; refine wpList_append_own _ rfl _ _ 125 rfl w.heap.size 129 i0 (.agg #[.nilFunc, .float .f64 0, .float .f64 0]) 3 24 Tryz.underlying125 hi0 hz0 hz1 hz2 rfl (by decide) _ _ _ rfl hn2 ⟨g, 0, none⟩ 3 cap (fcells l) rfl hxl hcell hF2.one (by decide) (by decide) ?c5 ?_))
  case c5 => simp; omega
  intro v' w3 ho3 hg3 _
  have hF3 := hF2.grown hn2 hg3
  have hB3 := hB2.grown hg3 (by simp; omega) (fun r e => own_base hn2 e)
  go_wp2_with fail
  go_ret
  exact ⟨v', dS :: l, rfl, by rw [List.length_cons, hl]; exact ho3, (single_ok _ _ _ _ _ _ (by decide)).app hF3, by rw [List.map_cons, htri]; rfl, hB3⟩

set_option maxRecDepth 100000 in
set_option maxHeartbeats 4000000 in
theorem fields3 (w : World) : Calls Tryz.prog 75 #[.int .u8 3] w (FldPost w 3) := by
  go_enter Tryz.func75, Tryz.ntmps75
  go_wp2_with fail
  refine (three_any _ 1 _ _ (by decide) w).mono ?_
  rintro e w1 ⟨v, l, rfl, hown, hF, htri, hB⟩
  have hs := hB.size
  have hB2 := ((hB.alloc hs (.cells (dA.cells).toArray 129)).alloc (by simp; omega) (.cells (dI.cells).toArray 129)).alloc (by simp; omega) (.cells (fcells [dA, dI]).toArray 129)
  have hn2 := own_new ((w1.alloc (.cells (dA.cells).toArray 129)).alloc (.cells (dI.cells).toArray 129)) (w1.heap.size + 1 + 1) w.heap.size (by simp) (by omega) 129 3 2 (fcells [dA, dI]) rfl (by decide)
  clear hown hF
  go_wp2_with fail
  go_ret
  exact ⟨_, [dA, dI], rfl, hn2, (single_ok _ _ _ _ _ _ (by decide)).app (single_ok _ _ _ _ _ _ (by decide)), rfl, hB2⟩

set_option maxRecDepth 100000 in
set_option maxHeartbeats 4000000 in
theorem fields5 (w : World) : Calls Tryz.prog 75 #[.int .u8 5] w (FldPost w 5) := by
  go_enter Tryz.func75, Tryz.ntmps75
  go_wp2_with fail
  refine (three_any _ 1 _ _ (by decide) w).mono ?_
  rintro e w1 ⟨v, l, rfl, hown, hF, htri, hB⟩
  have hs := hB.size
  have hB2 := ((hB.alloc hs (.cells (dA.cells).toArray 129)).alloc (by simp; omega) (.cells (dI.cells).toArray 129)).alloc (by simp; omega) (.cells (fcells [dW]).toArray 129)
  have hn2 := own_new ((w1.alloc (.cells (dA.cells).toArray 129)).alloc (.cells (dI.cells).toArray 129)) (w1.heap.size + 1 + 1) w.heap.size (by simp) (by omega) 129 3 1 (fcells [dW]) rfl (by decide)
  clear hown hF
  go_wp2_with fail
  go_ret
  exact ⟨_, [dW], rfl, hn2, single_ok _ _ _ _ _ _ (by decide), rfl, hB2⟩

set_option maxRecDepth 100000 in
set_option maxHeartbeats 4000000 in
theorem fields0 (k : Nat) (hk : k = 0 ∨ 6 < k) (w : World) : Calls Tryz.prog 75 #[.int .u8 k] w (FldPost w k) := by
  have h1 : ((k : Int) == 1) = false := by rw [beq_eq_false_iff_ne]; omega
  have h2 : ((k : Int) == 2) = false := by rw [beq_eq_false_iff_ne]; omega
  have h3 : ((k : Int) == 3) = false := by rw [beq_eq_false_iff_ne]; omega
  have h4 : ((k : Int) == 4) = false := by rw [beq_eq_false_iff_ne]; omega
  have h5 : ((k : Int) == 5) = false := by rw [beq_eq_false_iff_ne]; omega
  have h6 : ((k : Int) == 6) = false := by rw [beq_eq_false_iff_ne]; omega
  go_enter Tryz.func75, Tryz.ntmps75
  go_wp2_with fail
  refine (three_any _ 1 _ _ (by decide) w).mono ?_
  rintro e w1 ⟨v, l, rfl, hown, hF, htri, hB⟩
  have hs := hB.size
  have hB2 := ((hB.alloc hs (.cells (dA.cells).toArray 129)).alloc (by simp; omega) (.cells (dI.cells).toArray 129))
  clear hown hF
  go_wp2_with fail
  go_ret
  exact ⟨_, [], rfl, World.ownsRow_nil _ _ _ _, by intro d hd; simp at hd, by unfold fieldList; rw [if_neg (by omega), if_neg (by omega), if_neg (by omega), if_neg (by omega), if_neg (by omega), if_neg (by omega)]; rfl, hB2⟩

set_option maxRecDepth 100000 in
set_option maxHeartbeats 4000000 in
theorem fields4 (w : World) : Calls Tryz.prog 75 #[.int .u8 4] w (FldPost w 4) := by
  obtain ⟨i0, hi0, hz0, hz1, hz2⟩ := info_parts Tryz.fieldInfo
  go_enter Tryz.func75, Tryz.ntmps75
  go_wp2_with fail
  refine (three_any _ 1 _ _ (by decide) w).mono ?_
  rintro e w1 ⟨v, l, rfl, hown, hF, htri, hB⟩
  have hs := hB.size
  have hB1 := (hB.alloc hs (.cells (dA.cells).toArray 129)).alloc (by simp; omega) (.cells (dI.cells).toArray 129)
  have c0 : ∀ j, j < 3 → ((w1.alloc (.cells (dA.cells).toArray 129)).alloc (.cells (dI.cells).toArray 129)).cell? ⟨w1.heap.size, j, none⟩ = (dA.cells)[j]? := fun j hj => by
    rw [World.cell?_alloc_past _ _ _ (by simp), World.cell?_alloc_at _ _ _ _ rfl]; simp
  clear hown hF htri
  go_wp2_with fail
  refine (three_any _ 7 _ _ (by decide) _).mono ?_
  rintro e w2 ⟨v2, l2, rfl, ho2, hF2, ht2, hB2⟩
  have hs2 := hB2.size
  simp only [World.size_alloc] at hs2 ho2 hF2 hB2
  have c2 : ∀ j, j < 3 → w2.cell? ⟨w1.heap.size, j, none⟩ = (dA.cells)[j]? := fun j hj => (hB2.cell (p := ⟨w1.heap.size, j, none⟩) (by simp; omega)).trans (c0 j hj)
  clear c0
  go_wp2_with fail
  refine (three_any _ 10 _ _ (by decide) _).mono ?_
  rintro e w3 ⟨v3, l3, rfl, ho3, hF3, ht3, hB3⟩
  have hs3 := hB3.size
  have c3 : ∀ j, j < 3 → w3.cell? ⟨w1.heap.size, j, none⟩ = (dA.cells)[j]? := fun j hj => (hB3.cell (p := ⟨w1.heap.size, j, none⟩) (by simp; omega)).trans (c2 j hj)
  have cA0 : w3.cell? ⟨w1.heap.size, 0, none⟩ = some dA.F := c3 0 (by omega)
  have cA1 : w3.cell? ⟨w1.heap.size, 1, none⟩ = some (.float .f64 bAlpha) := c3 1 (by omega)
  have cA2 : w3.cell? ⟨w1.heap.size, 2, none⟩ = some (.float .f64 b1f) := c3 2 (by omega)
  clear c2 c3
  have hl2 : l2.length = 3 := tri_len ht2
  have hl3 : l3.length = 3 := tri_len ht3
  rw [hl2] at ho2
  rw [hl3] at ho3
  have o2 := (own_below ho2 hB3).alloc (.cells dA.cells.toArray 129)
  have F2 := ((hF2.below hB3 (Nat.le_refl _)).alloc (.cells dA.cells.toArray 129)).le (B' := w.heap.size) (by omega)
  have F3 := (hF3.alloc (.cells dA.cells.toArray 129)).le (B' := w.heap.size) (by omega)
  have hn := own_new w3 w3.heap.size w.heap.size rfl (by omega) 129 3 1 dA.cells rfl (by decide)
  have hB4 := ((hB1.trans (hB2.mono (by omega))).trans (hB3.mono (by omega))).alloc (by omega) (.cells dA.cells.toArray 129)
  obtain ⟨g3, cap3, rfl, hg3, hgl3, hxl3, hcell3⟩ := row_at ho3 (by omega)
  obtain ⟨g2, cap2, rfl, hg2, hgl2, hxl2, hcell2⟩ := row_at o2 (by omega)
  clear ho2 hF2 hB2 ho3 hF3 hB1 hB3 hB
  go_wp2_with (first
    | (at_builtin; refine wpList_append_own _ rfl _ _ 125 rfl w.heap.size 129 i0 (.agg #[.nilFunc, .float .f64 0, .float .f64 0]) 3 24 Tryz.underlying125 hi0 hz0 hz1 hz2 rfl (by decide) _ _ _ rfl hn ⟨g2, 0, none⟩ 3 cap2 (fcells l2) rfl hxl2 hcell2 F2.one (by decide) (by decide) ?c5 ?_))
  case c5 => simp; omega
  intro v4 w4 ho4 hg4 _
  have hcell4 : ∀ j u, (fcells l3)[j]? = some u → w4.cell? ((⟨g3, 0, none⟩ : Addr).add j) = some u := fun j u hu => by
    rw [World.cell?_of_block (hg4.block _ (by rw [block_of_add]; simp; omega) (by rw [block_of_add]; simp [Value.ownBlock]; omega)), World.cell?_alloc_lt _ _ _ (by rw [block_of_add]; exact hgl3)]
    exact hcell3 j u hu
  have F24 := F2.grown hn hg4
  have F34 := F3.grown hn hg4
  have hB5 := hB4.grown hg4 (by simp; omega) (fun r e => own_base hn e)
  have hw4 := hB5.size
  clear F2 F3 hB4 hn hcell3 hcell2 hg4 o2
  go_wp2_with (first
    | (at_builtin; refine wpList_append_own _ rfl _ _ 125 rfl w.heap.size 129 i0 (.agg #[.nilFunc, .float .f64 0, .float .f64 0]) 3 24 Tryz.underlying125 hi0 hz0 hz1 hz2 rfl (by decide) _ _ _ rfl ho4 ⟨g3, 0, none⟩ 3 cap3 (fcells l3) rfl hxl3 hcell4 F34.one (by decide) (by decide) ?c6 ?_))
  case c6 => omega
  intro v5 w5 ho5 hg5 _
  have F25 := F24.grown ho4 hg5
  have F35 := F34.grown ho4 hg5
  have hB6 := hB5.grown hg5 (by omega) (fun r e => own_base ho4 e)
  go_wp2_with fail
  go_ret
  exact ⟨v5, (dA :: l2) ++ l3, rfl, by rw [List.length_append, List.length_cons, hl2, hl3, fcells_app]; exact ho5, ((single_ok _ _ _ _ _ _ (by decide)).app F25).app F35, by rw [List.map_append, List.map_cons, ht2, ht3]; rfl, hB6⟩

set_option maxRecDepth 100000 in
set_option maxHeartbeats 4000000 in
theorem fields6 (w : World) : Calls Tryz.prog 75 #[.int .u8 6] w (FldPost w 6) := by
  obtain ⟨i0, hi0, hz0, hz1, hz2⟩ := info_parts Tryz.fieldInfo
  go_enter Tryz.func75, Tryz.ntmps75
  go_wp2_with fail
  refine (three_any _ 1 _ _ (by decide) w).mono ?_
  rintro e w1 ⟨v, l, rfl, hown, hF, htri, hB⟩
  have hs := hB.size
  have hB1 := (hB.alloc hs (.cells (dA.cells).toArray 129)).alloc (by simp; omega) (.cells (dI.cells).toArray 129)
  clear hown hF htri
  have hs1 : ((w1.alloc (.cells dA.cells.toArray 129)).alloc (.cells dI.cells.toArray 129)).heap.size = w1.heap.size + 1 + 1 := by simp
  have c0 : ∀ j, j < 3 → ((w1.alloc (.cells dA.cells.toArray 129)).alloc (.cells dI.cells.toArray 129)).cell? ⟨w1.heap.size + 1, j, none⟩ = (dI.cells)[j]? := fun j hj => by
    rw [World.cell?_alloc_at _ _ _ _ (by simp)]; simp
  have cI0 := c0 0 (by omega)
  have cI1 := c0 1 (by omega)
  have cI2 := c0 2 (by omega)
  go_wp2_with fail
  go_region_held3 (fun w' => w'.cell? ⟨w1.heap.size + 1, 0, none⟩ = some (.func (.func 103) #[] #[]) ∧ w'.cell? ⟨w1.heap.size + 1, 1, none⟩ = some (.float .f64 bIor) ∧ w'.cell? ⟨w1.heap.size + 1, 2, none⟩ = some (.float .f64 bIorM))
    (first
      | go_keep
      | (go_split_ands
         refine ⟨?_, ?_, ?_⟩
         · (rw [hB2.cell (by simp)]; assumption)
         · (rw [hB2.cell (by simp)]; assumption)
         · (rw [hB2.cell (by simp)]; assumption))
      | (go_split_ands
         refine ⟨?_, ?_, ?_⟩
         · (rw [hgrowz.cell_far _ (by simp; omega) (by simp [Value.ownBlock]; try omega)]; assumption)
         · (rw [hgrowz.cell_far _ (by simp; omega) (by simp [Value.ownBlock]; try omega)]; assumption)
         · (rw [hgrowz.cell_far _ (by simp; omega) (by simp [Value.ownBlock]; try omega)]; assumption)))
    (first
      | (go_at_call 100; refine (three_any _ 4 _ _ (by decide) _).mono ?_; rintro e w2 ⟨v2, l2, rfl, ho2, hF2, ht2, hB2⟩; have hl2 : l2.length = 3 := tri_len ht2; rw [hl2] at ho2; obtain ⟨g2, cap2, rfl, hg2, hgl2, hxl2, hcell2⟩ := row_at ho2 (by decide); have hs2 : w1.heap.size + 1 + 1 ≤ w2.heap.size := (by have := hB2.size; simp at this; omega))
      | (guard_hyp hl2; refine step_append_lies _ (by rfl) _ _ _ (by rfl) w.heap.size 129 i0 (.agg #[.nilFunc, .float .f64 0, .float .f64 0]) 3 24 Tryz.underlying125 hi0 hz0 hz1 hz2 rfl (by omega) (.slice (some ⟨w2.heap.size, 0, none⟩) 1 1) 1 dI.cells (by rfl)
          (own_new w2 w2.heap.size w.heap.size rfl (by omega) 129 3 1 dI.cells rfl (by decide)) ⟨g2, 0, none⟩ 3 cap2 (fcells l2) (by rfl) hxl2 (fun j u hu => by rw [World.cell?_alloc_lt _ _ _ (by rw [block_of_add]; exact hgl2)]; exact hcell2 j u hu) hF2.one (by omega) (by decide) (by decide) (by simp; omega) (w2.heap.size + 1) (by simp) ?_; intro gg cap wz hownz hgrowz hatz hltz)
      | (guard_hyp hl2; refine step_append_lies _ (by rfl) _ _ _ (by rfl) w.heap.size 129 i0 (.agg #[.nilFunc, .float .f64 0, .float .f64 0]) 3 24 Tryz.underlying125 hi0 hz0 hz1 hz2 rfl (by omega) (.slice (some ⟨w1.heap.size + 1 + 1, 0, none⟩) 1 1) 1 dI.cells (by rfl)
          (own_below (own_new ((w1.alloc (.cells dA.cells.toArray 129)).alloc (.cells dI.cells.toArray 129)) (w1.heap.size + 1 + 1) w.heap.size (by simp) (by omega) 129 3 1 dI.cells rfl (by decide)).drew hB2) ⟨g2, 0, none⟩ 3 cap2 (fcells l2) (by rfl) hxl2 hcell2 hF2.one (by omega) (by decide) (by decide) (by omega) w2.heap.size (by simp) ?_; intro gg cap wz hownz hgrowz hatz hltz))
  · have hn := (own_below (own_new ((w1.alloc (.cells dA.cells.toArray 129)).alloc (.cells dI.cells.toArray 129)) (w1.heap.size + 1 + 1) w.heap.size (by simp) (by omega) 129 3 1 dI.cells rfl (by decide)).drew hB2)
    have F3 := (hF2.le (B' := w.heap.size) (by simp; omega)).grown hn hgrowz
    have hb := (((hB1.alloc (by simp; omega) (.cells dI.cells.toArray 129)).drew.trans (hB2.mono (by simp; omega))).grown hgrowz (by omega) (fun r e => own_base hn e))
    go_wp2
    go_ret
    exact ⟨_, dI :: l2, rfl, by rw [List.length_cons, hl2]; exact hownz, (single_ok _ _ _ _ _ _ (by decide)).app F3, by rw [List.map_cons, ht2]; rfl, hb⟩
  · have hn := (own_new w2 w2.heap.size w.heap.size rfl (by omega) 129 3 1 dI.cells rfl (by decide))
    have F3 := ((hF2.le (B' := w.heap.size) (by simp; omega)).alloc (.cells dI.cells.toArray 129)).grown hn hgrowz
    have hb := (((hB1.drew.trans (hB2.mono (by simp; omega))).alloc (by omega) (.cells dI.cells.toArray 129)).grown hgrowz (by simp; omega) (fun r e => own_base hn e))
    go_wp2
    go_ret
    exact ⟨_, dI :: l2, rfl, by rw [List.length_cons, hl2]; exact hownz, (single_ok _ _ _ _ _ _ (by decide)).app F3, by rw [List.map_cons, ht2]; rfl, hb⟩

theorem fields_any (k : Nat) (w : World) : Calls Tryz.prog 75 #[.int .u8 k] w (FldPost w k) := by
  by_cases h : k = 0 ∨ 6 < k
  · exact fields0 k h w
  · have : k = 1 ∨ k = 2 ∨ k = 3 ∨ k = 4 ∨ k = 5 ∨ k = 6 := by omega
    rcases this with rfl | rfl | rfl | rfl | rfl | rfl
    · exact fields1 w
    · exact fields2 w
    · exact fields3 w
    · exact fields4 w
    · exact fields5 w
    · exact fields6 w

end Go.Proofs.YtcbgkbidgpemfaaGreatDoor.nodew
