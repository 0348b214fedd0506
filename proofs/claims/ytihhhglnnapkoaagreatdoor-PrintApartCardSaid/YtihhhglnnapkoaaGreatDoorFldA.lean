/- The walks of check's fields, part one: the closures that say where a number of a node lies; three. No conditions. -/
import Derived.Test.YtihhhglnnapkoaaGreatDoorNum
import Derived.Test.YtihhhglnnapkoaaGreatDoorWords
import Derived.RangeFuncBox
import Derived.Deep.QuietTactic
import Derived.BigQuiet
import Derived.Shelf.Abstract
import Derived.Lib.SmallJoins
namespace Go.Proofs.YtihhhglnnapkoaaGreatDoor.nodew
open Go.RowKit Go.Shelf
open Go.Proofs.YtihhhglnnapkoaaGreatDoor.words

/-- the place of a cell of a node -/
abbrev pt (n off : Nat) : Value := .pointer (some ⟨n, off, none⟩)

def singleF : List (FuncId × Nat) := [(37, 14), (38, 15), (39, 13), (42, 16)]
def tripleF : List (FuncId × Nat) := [(36, 1), (43, 4), (40, 7), (41, 10)]

theorem single_any : ∀ fc ∈ singleF, Enters Tryz.prog fc.1 ∧ ∀ n w, Calls Tryz.prog fc.1 #[pt n 0] w fun e w' => e = .returned (pt n fc.2) ∧ w' = w := by
  intro fc h
  simp only [singleF, List.mem_cons, List.not_mem_nil, or_false] at h
  rcases h with rfl | rfl | rfl | rfl
  · refine ⟨enters_of Tryz.func37 (by kernel_rfl) rfl, fun n w => ?_⟩
    go_enter Tryz.func37, Tryz.ntmps37
    go_wp2
    go_ret
    exact ⟨rfl, rfl⟩
  · refine ⟨enters_of Tryz.func38 (by kernel_rfl) rfl, fun n w => ?_⟩
    go_enter Tryz.func38, Tryz.ntmps38
    go_wp2
    go_ret
    exact ⟨rfl, rfl⟩
  · refine ⟨enters_of Tryz.func39 (by kernel_rfl) rfl, fun n w => ?_⟩
    go_enter Tryz.func39, Tryz.ntmps39
    go_wp2
    go_ret
    exact ⟨rfl, rfl⟩
  · refine ⟨enters_of Tryz.func42 (by kernel_rfl) rfl, fun n w => ?_⟩
    go_enter Tryz.func42, Tryz.ntmps42
    go_wp2
    go_ret
    exact ⟨rfl, rfl⟩

theorem triple_any : ∀ fc ∈ tripleF, Enters Tryz.prog fc.1 ∧ ∀ n w, Calls Tryz.prog fc.1 #[pt n 0] w fun e w' => e = .returned (pt n fc.2) ∧ w' = w := by
  intro fc h
  simp only [tripleF, List.mem_cons, List.not_mem_nil, or_false] at h
  rcases h with rfl | rfl | rfl | rfl
  · refine ⟨enters_of Tryz.func36 (by kernel_rfl) rfl, fun n w => ?_⟩
    go_enter Tryz.func36, Tryz.ntmps36
    go_wp2
    go_ret
    exact ⟨rfl, rfl⟩
  · refine ⟨enters_of Tryz.func43 (by kernel_rfl) rfl, fun n w => ?_⟩
    go_enter Tryz.func43, Tryz.ntmps43
    go_wp2
    go_ret
    exact ⟨rfl, rfl⟩
  · refine ⟨enters_of Tryz.func40 (by kernel_rfl) rfl, fun n w => ?_⟩
    go_enter Tryz.func40, Tryz.ntmps40
    go_wp2
    go_ret
    exact ⟨rfl, rfl⟩
  · refine ⟨enters_of Tryz.func41 (by kernel_rfl) rfl, fun n w => ?_⟩
    go_enter Tryz.func41, Tryz.ntmps41
    go_wp2
    go_ret
    exact ⟨rfl, rfl⟩

/-- three's closure: the i-th of what the captured closure says -/
theorem pick_any (g : FuncId) (c b1 b2 i n : Nat) (hg : (g, c) ∈ tripleF) (hi : i < 3) (w : World) (h1 : Boxed w b1 78 (.func (.func g) #[] #[])) (h2 : Boxed w b2 3 (.int .i64 i)) :
    Calls Tryz.prog 58 #[pt n 0, pt b1 0, pt b2 0] w fun e w' => e = .returned (pt n (c + i)) ∧ ∃ m, w' = w.drewN m := by
  obtain ⟨hE, hC⟩ := triple_any _ hg
  dsimp only at hE hC
  have c1 := h1.cell
  have c2 := h2.cell
  have hE' : ∀ (args : Array Value) (w : World), (callFunc g args).run Tryz.prog w = .ok (.enter g args) w := hE
  have hi0 : (0 : Int) ≤ (i : Int) := by omega
  have hi3 : (i : Int) < 3 := by omega
  go_enter Tryz.func58, Tryz.ntmps58
  go_wp2_with fail
  go_quiet (first | (refine Calls.quiet_of_same (hC _ _)))
  go_wp2
  go_ret
  exact ⟨rfl, nq, rfl⟩

/-- F says of a node where its cell 'off' lies; what it captured lies in the boxes of w -/
def FieldFn (w : World) (B : Nat) (F : Value) (off : Nat) : Prop :=
  (∃ f, F = .func (.func f) #[] #[] ∧ (f, off) ∈ singleF) ∨
  (∃ g b1 b2 c i, F = .func (.func 58) #[] #[pt b1 0, pt b2 0] ∧ (g, c) ∈ tripleF ∧ B ≤ b1 ∧ B ≤ b2 ∧ i < 3 ∧ off = c + i ∧
    Boxed w b1 78 (.func (.func g) #[] #[]) ∧ Boxed w b2 3 (.int .i64 i))

theorem FieldFn.kept {w w' : World} {B : Nat} {F : Value} {off : Nat} (h : FieldFn w B F off) (hk : ∀ b t v, B ≤ b → Boxed w b t v → t ≠ 59 → Boxed w' b t v) : FieldFn w' B F off := by
  rcases h with h | ⟨g, b1, b2, c, i, hF, hg, h1, h2, hi, ho, x1, x2⟩
  · exact .inl h
  · exact .inr ⟨g, b1, b2, c, i, hF, hg, h1, h2, hi, ho, hk _ _ _ h1 x1 (by decide), hk _ _ _ h2 x2 (by decide)⟩

theorem FieldFn.drew {w : World} {B : Nat} {F : Value} {off : Nat} (h : FieldFn w B F off) : FieldFn w.drew B F off := h
theorem FieldFn.drewN {w : World} {B : Nat} {F : Value} {off : Nat} (h : FieldFn w B F off) (n : Nat) : FieldFn (w.drewN n) B F off := h
theorem FieldFn.alloc {w : World} {B : Nat} {F : Value} {off : Nat} (h : FieldFn w B F off) (o : Obj) : FieldFn (w.alloc o) B F off := h.kept fun _ _ _ _ hb _ => hb.alloc o
theorem FieldFn.calls {w : World} {B : Nat} {F : Value} {off : Nat} (h : FieldFn w B F off) : ∃ f caps, F = .func (.func f) #[] caps ∧ Enters Tryz.prog f ∧
    ∀ w' n, FieldFn w' B F off → Calls Tryz.prog f (#[pt n 0] ++ caps) w' fun e w'' => e = .returned (pt n off) ∧ ∃ m, w'' = w'.drewN m := by
  have key : ∃ f caps, F = .func (.func f) #[] caps ∧ Enters Tryz.prog f := by
    rcases h with ⟨f, hF, hf⟩ | ⟨g, b1, b2, c, i, hF, hg, h1, h2, hi, rfl, x1, x2⟩
    · exact ⟨f, #[], hF, (single_any _ hf).1⟩
    · exact ⟨_, _, hF, enters_of Tryz.func58 (by kernel_rfl) rfl⟩
  obtain ⟨f, caps, hF, hE⟩ := key
  refine ⟨f, caps, hF, hE, fun w' n h' => ?_⟩
  rcases h' with ⟨f', hF', hf⟩ | ⟨g, b1, b2, c, i, hF', hg, h1, h2, hi, rfl, x1, x2⟩
  · rw [hF] at hF'
    injection hF' with e1 e2 e3
    injection e1 with e1
    subst e1 e3
    obtain ⟨hE, hC⟩ := single_any _ hf
    exact (hC n w').mono fun e w'' ⟨he, hw⟩ => ⟨he, 0, hw⟩
  · rw [hF] at hF'
    injection hF' with e1 e2 e3
    injection e1 with e1
    subst e1 e3
    exact pick_any g c b1 b2 i n hg hi w' x1 x2

/-- one of a kind's numbers: the function, the cell of the node, the range -/
structure Fd where
  F : Value
  off : Nat
  lo : Nat
  hi : Nat
def Fd.cells (d : Fd) : List Value := [d.F, .float .f64 d.lo, .float .f64 d.hi]
def Fd.val (d : Fd) : Value := .agg #[d.F, .float .f64 d.lo, .float .f64 d.hi]
def Fd.tri (d : Fd) : Nat × Nat × Nat := (d.off, d.lo, d.hi)
def fcells (l : List Fd) : List Value := l.flatMap Fd.cells
def FOk (w : World) (B : Nat) (l : List Fd) : Prop := ∀ d ∈ l, FieldFn w B d.F d.off
theorem fcells_len (l : List Fd) : (fcells l).length = l.length * 3 := by
  induction l with
  | nil => rfl
  | cons d r ih => simp only [fcells, List.flatMap_cons, List.length_append, List.length_cons] at ih ⊢; rw [ih]; simp [Fd.cells]; omega
theorem fcells_app (l m : List Fd) : fcells (l ++ m) = fcells l ++ fcells m := by simp [fcells]
theorem fcells_get (l : List Fd) (i j : Nat) (hi : i < l.length) (hj : j < 3) : (fcells l)[i * 3 + j]? = (l[i]).cells[j]? := by
  induction l generalizing i with
  | nil => simp at hi
  | cons t r ih =>
    have hc : (fcells (t :: r)) = t.cells ++ fcells r := by simp [fcells]
    have hl : t.cells.length = 3 := rfl
    rw [hc]
    cases i with
    | zero => rw [List.getElem?_append_left (by omega), Nat.zero_mul, Nat.zero_add]; rfl
    | succ i =>
      rw [List.getElem?_append_right (by omega), hl, show (i + 1) * 3 + j - 3 = i * 3 + j from by omega, ih i (by simpa using hi)]
      rfl
theorem fcells_one (l : List Fd) : ∀ u ∈ fcells l, (∀ d ∈ l, d.F.oneCell' = true) → u.oneCell' = true := by
  intro u hu hF
  simp only [fcells, List.mem_flatMap] at hu
  obtain ⟨d, hd, hu⟩ := hu
  simp only [Fd.cells, List.mem_cons, List.not_mem_nil, or_false] at hu
  rcases hu with rfl | rfl | rfl
  · exact hF d hd
  · rfl
  · rfl
theorem FieldFn.one {w : World} {B : Nat} {F : Value} {off : Nat} (h : FieldFn w B F off) : F.oneCell' = true := by
  rcases h with ⟨f, rfl, _⟩ | ⟨g, b1, b2, c, i, rfl, _⟩
  · rfl
  · rfl
theorem FOk.one {w : World} {B : Nat} {l : List Fd} (h : FOk w B l) : ∀ u ∈ fcells l, u.oneCell' = true := fun u hu => fcells_one l u hu fun d hd => (h d hd).one
theorem FOk.kept {w w' : World} {B : Nat} {l : List Fd} (h : FOk w B l) (hk : ∀ b t v, B ≤ b → Boxed w b t v → t ≠ 59 → Boxed w' b t v) : FOk w' B l := fun d hd => (h d hd).kept hk
theorem FOk.grown {w w' : World} {B base n : Nat} {l : List Fd} {v : Value} {xs : List Value} (h : FOk w B l) (hr : w.ownsRow base 59 3 v n xs) (hg : w.grownBy w' v.ownBlock) : FOk w' B l :=
  h.kept fun _ _ _ _ hb ht => hb.kept hg (hb.not_row ht hr)
theorem FOk.alloc {w : World} {B : Nat} {l : List Fd} (h : FOk w B l) (o : Obj) : FOk (w.alloc o) B l := h.kept fun _ _ _ _ hb _ => hb.alloc o
theorem FOk.below {w w' : World} {B B' : Nat} {l : List Fd} (h : FOk w B l) (hb : Below B' w w') (hs : w.heap.size ≤ B') : FOk w' B l :=
  h.kept fun b _ _ _ hx _ => (hb.block b (Nat.lt_of_lt_of_le hx.lt hs)).trans hx
theorem FOk.le {w : World} {B B' : Nat} {l : List Fd} (h : FOk w B l) (hB : B' ≤ B) : FOk w B' l := fun d hd => by
  rcases h d hd with h | ⟨g, b1, b2, c, i, hF, hg, h1, h2, r⟩
  · exact .inl h
  · exact .inr ⟨g, b1, b2, c, i, hF, hg, Nat.le_trans hB h1, Nat.le_trans hB h2, r⟩
theorem FOk.app {w : World} {B : Nat} {l m : List Fd} (h : FOk w B l) (h' : FOk w B m) : FOk w B (l ++ m) := fun d hd => by
  rcases List.mem_append.1 hd with hd | hd
  · exact h d hd
  · exact h' d hd

theorem own_base {W : World} {base : Nat} {e : TypeId} {size : Nat} {v : Value} {k : Nat} {xs : List Value} (h : W.ownsRow base e size v k xs) {r : Nat} (hr : v.ownBlock = some r) : base ≤ r := by
  rcases h.2 with ⟨rfl, h0⟩ | ⟨g, cap, _, rfl, hb, _⟩
  · cases hr
  · cases hr; exact hb

theorem cells_new (W : World) (news : List Value) (t : TypeId) : ∀ j u, news[j]? = some u → (W.alloc (.cells news.toArray t)).cell? ((⟨W.heap.size, 0, none⟩ : Addr).add j) = some u := by
  intro j u hu
  have hadd : (⟨W.heap.size, 0, none⟩ : Addr).add j = ⟨W.heap.size, j, none⟩ := by unfold Addr.add; split <;> simp_all
  have hb : (W.alloc (.cells news.toArray t)).heap[W.heap.size]? = some (.cells news.toArray t (0, 0)) := heap_alloc_new W _
  rw [hadd, cell_of_row _ _ j news.toArray t (0, 0) hb]
  simpa using hu

theorem Tryz.fieldInfo : (Tryz.prog.info? 59).map (fun i => (i.zero, i.size, i.bytes)) = some (some (.agg #[.nilFunc, .float .f64 0, .float .f64 0]), 3, 24) := by kernel_rfl

set_option maxRecDepth 100000 in
set_option maxHeartbeats 2000000 in
theorem three_any (g : FuncId) (c lo hi : Nat) (hg : (g, c) ∈ tripleF) (w : World) :
    Calls Tryz.prog 35 #[.func (.func g) #[] #[], .float .f64 lo, .float .f64 hi] w fun e w' => ∃ v l, e = .returned v ∧ w'.ownsRow w.heap.size 59 3 v l.length (fcells l) ∧ FOk w' w.heap.size l ∧
      l.map Fd.tri = (List.range 3).map (fun j => (c + j, lo, hi)) ∧ Below w.heap.size w w' := by
  obtain ⟨i0, hi0, hz0, hz1, hz2⟩ := info_parts Tryz.fieldInfo
  go_enter Tryz.func35, Tryz.ntmps35
  go_wp2
  go_loopw [7, 9] (fun v i wr => ∃ (k : Nat) (l : List Fd), k ≤ 3 ∧ i = .int .i64 k ∧ l.length = k ∧ wr.ownsRow w.heap.size 59 3 v k (fcells l) ∧ FOk wr w.heap.size l ∧ l.map Fd.tri = (List.range k).map (fun j => (c + j, lo, hi)) ∧
      Boxed wr w.heap.size 78 (.func (.func g) #[] #[]) ∧ Below w.heap.size w wr)
    (fun _ i _ => 3 - (intOf i).toNat)
  case atStart => exact ⟨0, [], by omega, rfl, rfl, World.ownsRow_nil _ _ _ _, by intro d hd; simp at hd, rfl, Boxed.new _ _ _, (Below.refl _ _).alloc (Nat.le_refl _) _⟩
  case round =>
    obtain ⟨k, l, hk, rfl, hl, hown, hF, htri, hbx, hB⟩ := hrel
    have hmf : ∀ (fn : Fn) (first cap : Array Value) (w : World), (Instr.makeFunc fn first cap).run Tryz.prog w = .ok (.func fn first cap) w := fun _ _ _ _ => rfl
    have hbs := hB.size
    by_cases hk3 : k < 3
    · obtain ⟨d, hd⟩ : ∃ d : Fd, d = ⟨.func (.func 58) #[] #[pt w.heap.size 0, pt wr.heap.size 0], c + k, lo, hi⟩ := ⟨_, rfl⟩
      have ho2 := (hown.alloc (.cells #[.int .i64 k] 3)).alloc (.cells d.cells.toArray 59)
      have hF2 := (hF.alloc (.cells #[.int .i64 k] 3)).alloc (.cells d.cells.toArray 59)
      have hbx2 := (hbx.alloc (.cells #[.int .i64 k] 3)).alloc (.cells d.cells.toArray 59)
      have hbi := (Boxed.new wr 3 (.int .i64 k)).alloc (.cells d.cells.toArray 59)
      have hB2 := (hB.alloc (by omega) (.cells #[.int .i64 k] 3)).alloc (by simp; omega) (.cells d.cells.toArray 59)
      have hnews := cells_new (wr.alloc (.cells #[.int .i64 k] 3)) d.cells 59
      subst hd
      dsimp only [Fd.cells] at ho2 hF2 hbx2 hbi hB2 hnews
      go_wp2_with (first
        | (at_builtin; refine wpList_append_own _ rfl _ _ 55 rfl w.heap.size 59 i0 (.agg #[.nilFunc, .float .f64 0, .float .f64 0]) 3 24 Tryz.underlying55 hi0 hz0 hz1 hz2 rfl (by decide) _ _ _ rfl ho2 ⟨wr.heap.size + 1, 0, none⟩ 1 1 [.func (.func 58) #[] #[pt w.heap.size 0, pt wr.heap.size 0], .float .f64 lo, .float .f64 hi] rfl rfl ?c1 ?c2 ?c3 ?c4 ?c5 ?_))
      case c1 => simpa using hnews
      case c2 => intro u hu; simp at hu; rcases hu with rfl | rfl | rfl <;> rfl
      case c3 => unfold maxLen; omega
      case c4 => omega
      case c5 => simp; omega
      intro v' w1 hown' hgrow _
      have hgr := hgrow
      have hFd : FOk w1 w.heap.size (l ++ [⟨.func (.func 58) #[] #[pt w.heap.size 0, pt wr.heap.size 0], c + k, lo, hi⟩]) := by
        refine (hF2.grown ho2 hgr).app ?_
        intro d hd
        simp only [List.mem_cons, List.not_mem_nil, or_false] at hd
        subst hd
        exact .inr ⟨g, _, _, c, k, rfl, hg, Nat.le_refl _, hbs, hk3, rfl, hbx2.kept hgr (hbx2.not_row (by decide) ho2), hbi.kept hgr (hbi.not_row (by decide) ho2)⟩
      have hbx3 : Boxed w1 w.heap.size 78 (.func (.func g) #[] #[]) := hbx2.kept hgr (hbx2.not_row (by decide) ho2)
      have hB3 : Below w.heap.size w w1 := hB2.grown hgr (by simp; omega) (fun r e => own_base ho2 e)
      have ho3 : w1.ownsRow w.heap.size 59 3 v' (k + 1) (fcells (l ++ [⟨.func (.func 58) #[] #[pt w.heap.size 0, pt wr.heap.size 0], c + k, lo, hi⟩])) := by
        rw [fcells_app]; exact hown'
      have htri' : (l ++ [(⟨.func (.func 58) #[] #[pt w.heap.size 0, pt wr.heap.size 0], c + k, lo, hi⟩ : Fd)]).map Fd.tri = (List.range (k + 1)).map (fun j => (c + j, lo, hi)) := by
        rw [List.map_append, htri, List.range_succ, List.map_append]; rfl
      clear hown' hgrow hgr ho2 hF2 hbx2 hbi hB2 hnews hF hown hbx
      go_wp2

      go_roundw
      case rel => exact ⟨k + 1, _, by omega, by go_num, by rw [List.length_append, hl]; rfl, ho3, hFd, htri', hbx3, hB3⟩
      case measure => simp [intOf]; omega
    · obtain rfl : k = 3 := by omega
      go_wp2_with fail
      go_ret
      exact ⟨_, l, rfl, by rw [hl]; exact hown, hF, htri, hB⟩

end Go.Proofs.YtihhhglnnapkoaaGreatDoor.nodew
