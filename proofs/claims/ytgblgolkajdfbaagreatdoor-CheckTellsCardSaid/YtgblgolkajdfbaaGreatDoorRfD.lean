/- The walks of burnishref18's three and beyond. Conditions: the statement's arguments lie in memory. -/
import Derived.Test.YtgblgolkajdfbaaGreatDoorRfC
import Derived.Test.YtgblgolkajdfbaaGreatDoorProB
namespace Go.Proofs.YtgblgolkajdfbaaGreatDoor.chkw
open Go.RowKit
open Go.Proofs.YtgblgolkajdfbaaGreatDoor.lexw
open Go.Proofs.YtgblgolkajdfbaaGreatDoor.parw
open Go.Proofs.YtgblgolkajdfbaaGreatDoor.nodew
open Go.Proofs.YtgblgolkajdfbaaGreatDoor.qt
open Go.BigFrame
attribute [local go_sem] parw.run_store_float

def argN (l : List PArg) (i : Nat) : Nat := (l[i]?.map (·.num)).getD 0
theorem argN_lt (l : List PArg) (i : Nat) (h : i < l.length) : argN l i = l[i].num := by simp [argN, h]
/-- a statement as a value -/
def stVal (s : PStmt) (av : Value) : Value := .agg #[.string s.name, .int .i64 s.pos, .int .u8 s.kind, av]
/-- the number of an argument that is read -/
theorem ARead.num {W : World} {B : Nat} {l : List PArg} {A : Option Addr} {c : Nat} (h : ARead W B (.slice A l.length c) l) (hl : 0 < l.length) :
    ∃ g off, A = some ⟨g, off, none⟩ ∧ g < B ∧ ∀ i (hi : i < l.length), W.cell? ⟨g, off + i * 3, none⟩ = some (.int .i64 l[i].pos) ∧ W.cell? ⟨g, off + i * 3 + 1, none⟩ = some (.float .f64 l[i].num) ∧ W.cell? ⟨g, off + i * 3 + 2, none⟩ = some (.string l[i].name) := by
  obtain ⟨A', c', he, hx⟩ := h
  injection he with e1 _ _
  subst e1
  obtain ⟨g, off, hA, hg, hc⟩ := hx (by intro e; subst e; simp at hl)
  refine ⟨g, off, hA, hg, fun i hi => ⟨?_, ?_, ?_⟩⟩
  · have := hc (i * 3 + 0) _ ((acells_get l i 0 hi (by omega)).trans rfl)
    rwa [← Nat.add_assoc, Nat.add_zero] at this
  · have := hc (i * 3 + 1) _ ((acells_get l i 1 hi (by omega)).trans rfl)
    rwa [← Nat.add_assoc] at this
  · have := hc (i * 3 + 2) _ ((acells_get l i 2 hi (by omega)).trans rfl)
    rwa [← Nat.add_assoc] at this

set_option maxRecDepth 100000 in
set_option maxHeartbeats 2000000 in
theorem three_ref (B : Nat) (s : PStmt) (A : Option Addr) (c at_ : Nat) (h : at_ + 2 < s.args.length) (hl : s.args.length ≤ 1000) (w : World) (ha : ARead w B (.slice A s.args.length c) s.args) (hB : B ≤ w.heap.size) :
    Calls Tryz.prog 44 #[.agg #[.string s.name, .int .i64 s.pos, .int .u8 s.kind, .slice A s.args.length c], .int .i64 at_] w fun e w' =>
      e = .returned (.agg #[.float .f64 (argN s.args at_), .float .f64 (argN s.args (at_ + 1)), .float .f64 (argN s.args (at_ + 2))]) ∧ Below w.heap.size w w' := by
  obtain ⟨g, off, rfl, hg, hc⟩ := ARead.num ha (by omega)
  have w1 : IntKind.i64.wrap ((at_ : Int) + 1) = (at_ : Int) + 1 := IntWalk.i64_in _ (by omega)
  have w2 : IntKind.i64.wrap ((at_ : Int) + 2) = (at_ : Int) + 2 := IntWalk.i64_in _ (by omega)
  have p0 : (0 : Int) ≤ (at_ : Int) := by omega
  have p1 : (0 : Int) ≤ (at_ : Int) + 1 := by omega
  have p2 : (0 : Int) ≤ (at_ : Int) + 2 := by omega
  have l0 : (at_ : Int) < (s.args.length : Int) := by omega
  have l1 : (at_ : Int) + 1 < (s.args.length : Int) := by omega
  have l2 : (at_ : Int) + 2 < (s.args.length : Int) := by omega
  have m0 : at_ < s.args.length := by omega
  have m1 : at_ + 1 < s.args.length := by omega
  have m2 : at_ + 2 < s.args.length := by omega
  have t1 : ((at_ : Int) + 1).toNat = at_ + 1 := by omega
  have t2 : ((at_ : Int) + 2).toNat = at_ + 2 := by omega
  have c0 := (hc at_ m0).2.1
  have c1 := (hc (at_ + 1) m1).2.1
  have c2 := (hc (at_ + 2) m2).2.1
  rw [← argN_lt] at c0 c1 c2
  obtain ⟨x0, hx0⟩ : ∃ x, argN s.args at_ = x := ⟨_, rfl⟩
  obtain ⟨x1, hx1⟩ : ∃ x, argN s.args (at_ + 1) = x := ⟨_, rfl⟩
  obtain ⟨x2, hx2⟩ : ∃ x, argN s.args (at_ + 2) = x := ⟨_, rfl⟩
  rw [hx0] at c0
  rw [hx1] at c1
  rw [hx2] at c2
  rw [hx0, hx1, hx2]
  clear hx0 hx1 hx2 hc ha h hl
  go_enter Tryz.func44, Tryz.ntmps44
  go_upto_region 1 with (fail)
  have hb1 := (Below.refl w.heap.size w).alloc (Nat.le_refl _) (.cells #[.string s.name, .int .i64 s.pos, .int .u8 s.kind, .slice (some ⟨g, off, none⟩) s.args.length c] 38)
  have hb2 := hb1.alloc hb1.size (.cells #[.float .f64 0, .float .f64 0, .float .f64 0] 23)
  have hs1 := (Below.heap_alloc _ (.cells #[.float .f64 0, .float .f64 0, .float .f64 0] 23) w.heap.size (by simp)).trans (heap_alloc_new w (.cells #[.string s.name, .int .i64 s.pos, .int .u8 s.kind, .slice (some ⟨g, off, none⟩) s.args.length c] 38))
  have hr1 := heap_alloc_new (w.alloc (.cells #[.string s.name, .int .i64 s.pos, .int .u8 s.kind, .slice (some ⟨g, off, none⟩) s.args.length c] 38)) (.cells #[.float .f64 0, .float .f64 0, .float .f64 0] 23)
  rw [World.size_alloc] at hr1
  obtain ⟨X, hX⟩ : ∃ X, X = (w.alloc (.cells #[.string s.name, .int .i64 s.pos, .int .u8 s.kind, .slice (some ⟨g, off, none⟩) s.args.length c] 38)).alloc (.cells #[.float .f64 0, .float .f64 0, .float .f64 0] 23) := ⟨_, rfl⟩
  rw [← hX] at hb2 hs1 hr1 ⊢
  clear hX hb1
  obtain ⟨rb, hrb⟩ : ∃ rb, rb = w.heap.size + 1 := ⟨_, rfl⟩
  rw [← hrb] at hr1 ⊢
  have hrw : w.heap.size ≤ rb := by omega
  obtain ⟨sb, hsb⟩ : ∃ sb, sb = w.heap.size := ⟨_, rfl⟩
  rw [← hsb] at hs1 ⊢
  have S3 : ∀ u : Ext X, u.1.cell? ⟨sb, 3, none⟩ = some (.slice (some ⟨g, off, none⟩) s.args.length c) := fun u => ext_cell ((cell_of_row X sb 3 _ _ _ hs1).trans rfl) u
  have C0 : ∀ u : Ext X, u.1.cell? ⟨g, off + at_ * 3 + 1, none⟩ = some (.float .f64 x0) := fun u => ext_cell ((hb2.cell (p := ⟨g, off + at_ * 3 + 1, none⟩) (by show g < w.heap.size; omega)).trans c0) u
  have C1 : ∀ u : Ext X, u.1.cell? ⟨g, off + (at_ + 1) * 3 + 1, none⟩ = some (.float .f64 x1) := fun u => ext_cell ((hb2.cell (p := ⟨g, off + (at_ + 1) * 3 + 1, none⟩) (by show g < w.heap.size; omega)).trans c1) u
  have C2 : ∀ u : Ext X, u.1.cell? ⟨g, off + (at_ + 2) * 3 + 1, none⟩ = some (.float .f64 x2) := fun u => ext_cell ((hb2.cell (p := ⟨g, off + (at_ + 2) * 3 + 1, none⟩) (by show g < w.heap.size; omega)).trans c2) u
  have HB := Lib.hid hb2
  have HR := Lib.hid hr1
  have HRW := Lib.hid hrw
  clear hb2 hs1 hr1 c0 c1 c2 hrb hrw hsb
  refine region_ext_tail 21 (by kernel_rfl) (by kernel_rfl) ?_
  simp only [List.take_succ_cons, List.take_zero, List.drop_succ_cons, List.drop_zero]
  repeat go_big_quiet_step (fail)
  refine wpQuiet_nil ?_
  intro u
  have hu := u.2
  obtain ⟨Z, hZ⟩ : ∃ Z, Z = u.1 := ⟨_, rfl⟩
  rw [← hZ] at hu ⊢
  clear hZ S3 C0 C1 C2
  have hbz := HB.out.trans (hu.mono HB.out.size)
  have hrz := (hu.block rb (Array.getElem?_eq_some_iff.1 HR.out).1).trans HR.out
  have k0 : Z.cell? ⟨rb, 0, none⟩ = some (.float .f64 0) := (cell_of_row Z rb 0 _ _ _ hrz).trans rfl
  have k1 : Z.cell? ⟨rb, 1, none⟩ = some (.float .f64 0) := (cell_of_row Z rb 1 _ _ _ hrz).trans rfl
  have k2 : Z.cell? ⟨rb, 2, none⟩ = some (.float .f64 0) := (cell_of_row Z rb 2 _ _ _ hrz).trans rfl
  have f0 : Z.frozen? ⟨rb, 0, none⟩ = false := frozen_of_row Z rb 0 _ _ hrz
  have f1 : Z.frozen? ⟨rb, 1, none⟩ = false := frozen_of_row Z rb 1 _ _ hrz
  have f2 : Z.frozen? ⟨rb, 2, none⟩ = false := frozen_of_row Z rb 2 _ _ hrz
  have hst := store3 Z rb _ _ (.float .f64 x0) (.float .f64 x1) (.float .f64 x2) hrz rfl
  have hbf := ((hbz.setCell (p := ⟨rb, 0, none⟩) HRW.out (.float .f64 x0)).setCell (p := ⟨rb, 1, none⟩) HRW.out (.float .f64 x1)).setCell (p := ⟨rb, 2, none⟩) HRW.out (.float .f64 x2)
  have HST := Lib.hid hst.1
  have HBF := Lib.hid hbf
  clear hbz hrz hst hbf hu HB HR
  go_wp2_with fail
  exact bodyPost_ret (results_cell_row (ty := 23) (p := 4) rfl _ _ rb _ _ _ _ rfl HST.out Tryz.underlying23 rfl (by kernel_rfl)) rfl ⟨rfl, HBF.out⟩

set_option maxRecDepth 100000 in
set_option maxHeartbeats 2000000 in
theorem beyond_ref (B : Nat) (s : PStmt) (A : Option Addr) (c i : Nat) (d : Nat × Nat × Nat) (hd : (fieldList s.kind)[i]? = some d) (h : i < s.args.length) (w : World) (ha : ARead w B (.slice A s.args.length c) s.args) (hB : B ≤ w.heap.size) :
    Calls Tryz.prog 26 #[.agg #[.string s.name, .int .i64 s.pos, .int .u8 s.kind, .slice A s.args.length c], .int .i64 i] w fun e w' =>
      e = .returned (.bool !(withinF d.2.1 d.2.2 (argN s.args i))) ∧ Below w.heap.size w w' := by
  obtain ⟨g, off, rfl, hg, hc⟩ := ARead.num ha (by omega)
  have c0 := (hc i h).2.1
  rw [← argN_lt] at c0
  obtain ⟨x0, hx0⟩ : ∃ x, argN s.args i = x := ⟨_, rfl⟩
  rw [hx0] at c0 ⊢
  obtain ⟨nm, pos, k, args⟩ := s
  simp only at hd h c0 ⊢
  obtain ⟨ll, hll⟩ : ∃ ll, args.length = ll := ⟨_, rfl⟩
  rw [hll] at h ⊢
  obtain ⟨K, hK⟩ : ∃ K : Int, (k : Int) = K := ⟨_, rfl⟩
  rw [hK]
  have c0 : (w.alloc (.cells #[.string nm, .int .i64 pos, .int .u8 K, .slice (some ⟨g, off, none⟩) ll c] 38)).cell? ⟨g, off + i * 3 + 1, none⟩ = some (.float .f64 x0) := (World.cell?_of_block (a := ⟨g, off + i * 3 + 1, none⟩) (Below.heap_alloc w _ g (by omega))).trans c0
  have hi0 : (0 : Int) ≤ (i : Int) := by omega
  have hil : (i : Int) < (ll : Int) := by omega
  obtain ⟨o, lo, up⟩ := d
  obtain ⟨q, hq⟩ : ∃ q, withinF lo up x0 = q := ⟨_, rfl⟩
  have rq : ∀ u : World, Calls Tryz.prog 34 #[.float .f64 x0, .float .f64 lo, .float .f64 up] u fun e w' => e = .returned (.bool q) ∧ w' = u := fun u => by rw [← hq]; exact within_ref lo up x0 u
  show Calls _ _ _ _ fun e w' => e = .returned (.bool !(withinF lo up x0)) ∧ _
  rw [hq]
  have hkk : ((k = 1 ∨ k = 2 ∨ k = 5) ∧ (lo = 0 ∧ up = b1f)) ∨ (k = 3 ∧ i = 0 ∧ lo = bAlpha ∧ up = b1f) ∨ (k = 3 ∧ i = 1 ∧ lo = bIor ∧ up = bIorM) ∨ (k = 4 ∧ i = 0 ∧ lo = bAlpha ∧ up = b1f) ∨ (k = 4 ∧ i ≠ 0 ∧ lo = bMet ∧ up = bMetM) ∨ (k = 6 ∧ i = 0 ∧ lo = bIor ∧ up = bIorM) ∨ (k = 6 ∧ i ≠ 0 ∧ lo = 0 ∧ up = b1f) := by
    have hk := kinds_six k (by
      rcases hfl : fieldList k with _ | ⟨a, r⟩
      · rw [hfl] at hd; simp at hd
      · simp)
    have hi7 : i < 7 := by
      have h1 := (List.getElem?_eq_some_iff.1 hd).1
      have : (fieldList k).length ≤ 7 := by
        unfold fieldList; repeat' split
        all_goals simp
      omega
    have hi : i = 0 ∨ i = 1 ∨ i = 2 ∨ i = 3 ∨ i = 4 ∨ i = 5 ∨ i = 6 := by omega
    have hk : k = 1 ∨ k = 2 ∨ k = 3 ∨ k = 4 ∨ k = 5 ∨ k = 6 := by simpa using hk
    clear hq rq hK
    rcases hk with rfl | rfl | rfl | rfl | rfl | rfl <;> rcases hi with rfl | rfl | rfl | rfl | rfl | rfl | rfl <;> simp [fieldList] at hd <;> (obtain ⟨-, rfl, rfl⟩ := hd; simp)
  clear hd hq hx0 hll h
  have HRQ := Lib.hid rq
  clear rq
  rcases hkk with ⟨hk, rfl, rfl⟩ | ⟨hk, hi, rfl, rfl⟩ | ⟨hk, hi, rfl, rfl⟩ | ⟨hk, hi, rfl, rfl⟩ | ⟨hk, hi, rfl, rfl⟩ | ⟨hk, hi, rfl, rfl⟩ | ⟨hk, hi, rfl, rfl⟩
  all_goals (first | (have e3 : (K == 3) = true := by rw [beq_iff_eq]; omega) | (have e3 : (K == 3) = false := by rw [beq_eq_false_iff_ne]; omega))
  all_goals (first | (have e4 : (K == 4) = true := by rw [beq_iff_eq]; omega) | (have e4 : (K == 4) = false := by rw [beq_eq_false_iff_ne]; omega))
  all_goals (first | (have e6 : (K == 6) = true := by rw [beq_iff_eq]; omega) | (have e6 : (K == 6) = false := by rw [beq_eq_false_iff_ne]; omega))
  all_goals (first | (have e0 : ((i : Int) == 0) = true := by rw [beq_iff_eq]; omega) | (have e0 : ((i : Int) == 0) = false := by rw [beq_eq_false_iff_ne]; omega) | skip)
  all_goals clear hk hK
  all_goals try clear hi
  all_goals
    go_enter Tryz.func26, Tryz.ntmps26
    go_wp2_with fail
    refine (HRQ.out _).mono ?_
    rintro e u ⟨rfl, rfl⟩
    go_wp2_with fail
    go_ret
    exact ⟨rfl, (Below.refl _ _).alloc (Nat.le_refl _) _⟩
end Go.Proofs.YtgblgolkajdfbaaGreatDoor.chkw
