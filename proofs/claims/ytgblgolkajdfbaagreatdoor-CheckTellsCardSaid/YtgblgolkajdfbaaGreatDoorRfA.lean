/- The walks of burnishref18's within, nothing, all, none, and of burnishref01.Right; which numbers are nothing. No conditions but those stated. -/
import Derived.Test.YtgblgolkajdfbaaGreatDoorRngM
namespace Go.Proofs.YtgblgolkajdfbaaGreatDoor.chkw
open Go.RowKit
open Go.Proofs.YtgblgolkajdfbaaGreatDoor.nodew
attribute [local go_sem] nodew.fo_eq nodew.run_store_float

/-! which word is equal to 0 -/
theorem signed_zero (s : Bool) (m k : Nat) : Ieee.signed s m k = 0 ↔ m = 0 := by
  have h : m <<< k = 0 ↔ m = 0 := by
    rw [Nat.shiftLeft_eq]
    constructor
    · intro h
      rcases Nat.mul_eq_zero.1 h with h | h
      · exact h
      · exact absurd h (Nat.ne_of_gt (Nat.two_pow_pos k))
    · intro h; rw [h, Nat.zero_mul]
  unfold Ieee.signed
  cases s <;> simp <;> omega
theorem order_zero (s t : Bool) (m : Nat) (i j : Int) (h : Ieee.Datum.order (.number s m i) (.number t 0 j) = some .eq) : m = 0 := by
  unfold Ieee.Datum.order at h
  simp only [Option.some.injEq] at h
  have hc := Std.LawfulEqOrd.eq_of_compare h
  rw [(signed_zero t 0 _).2 rfl] at hc
  exact (signed_zero s m _).1 hc
theorem fo_nz (x : Nat) (h : x % 9223372036854775808 ≠ 0) : fo x 0 ≠ some .eq := by
  intro he
  have hz : Ieee.Format.read Ieee.double 0 = .number false 0 (-1074) := by kernel_rfl
  have he' : Ieee.Datum.order (Ieee.Format.read Ieee.double x) (Ieee.Format.read Ieee.double 0) = some .eq := he
  rw [hz] at he'
  have hw : Ieee.double.signWeight = 9223372036854775808 := by kernel_rfl
  unfold Ieee.Format.read at he'
  simp only [hw] at he'
  split at he'
  · exact h (order_zero _ _ _ _ _ he')
  · split at he'
    · have := order_zero _ _ _ _ _ he'
      have hb : Ieee.double.binade = 4503599627370496 := by kernel_rfl
      rw [hb] at this
      omega
    · split at he'
      · cases hs : (x / 9223372036854775808 % 2 == 1) <;> rw [hs] at he' <;> cases he'
      · cases he'
theorem nothing_law (x : Nat) (hx : x < 18446744073709551616) : (fo x 0 == some .eq && rightF x) = decide (x = 0) := by
  by_cases h0 : x = 0
  · subst h0; kernel_rfl
  · rw [decide_eq_false h0]
    by_cases h1 : x = 9223372036854775808
    · subst h1; kernel_rfl
    · have := fo_nz x (by omega)
      have e : (fo x 0 == some .eq) = false := by rw [beq_eq_false_iff_ne]; exact this
      rw [e]; rfl

/-! the walks -/
theorem right_ref (x : Nat) (w : World) : Calls Tryz.prog 55 #[.float .f64 x] w fun e w' => e = .returned (.bool (rightF x)) ∧ w' = w := by
  go_enter Tryz.func55, Tryz.ntmps55
  go_wp2_with (first | (go_at_call 37; refine (isNaN_any _ _).mono ?_; rintro e w' ⟨rfl, rfl⟩) | (go_at_call 59; refine (isInf_any _ _).mono ?_; rintro e w' ⟨rfl, rfl⟩) | (go_at_call 19; refine (signbit_any _ _).mono ?_; rintro e w' ⟨rfl, rfl⟩))
  all_goals go_ret
  all_goals exact ⟨ret_bool (by simp_all [rightF]), rfl⟩
theorem within_ref (lo hi x : Nat) (w : World) : Calls Tryz.prog 34 #[.float .f64 x, .float .f64 lo, .float .f64 hi] w fun e w' => e = .returned (.bool (withinF lo hi x)) ∧ w' = w := by
  go_enter Tryz.func34, Tryz.ntmps34
  go_wp2_with (first | (go_at_call 55; refine (right_ref _ _).mono ?_; rintro e w' ⟨rfl, rfl⟩))
  all_goals go_ret
  all_goals exact ⟨ret_bool (by simp_all [withinF, geqF, leqF]), rfl⟩
theorem nothing_ref (x : Nat) (hx : x < 18446744073709551616) (w : World) : Calls Tryz.prog 35 #[.float .f64 x] w fun e w' => e = .returned (.bool (decide (x = 0))) ∧ w' = w := by
  rw [← nothing_law x hx]
  clear hx
  go_enter Tryz.func35, Tryz.ntmps35
  go_wp2_with (first | (go_at_call 55; refine (right_ref _ _).mono ?_; rintro e w' ⟨rfl, rfl⟩))
  all_goals go_ret
  all_goals exact ⟨ret_bool (by simp_all), rfl⟩
def all3 (lo hi a b c : Nat) : Bool := withinF lo hi a && (withinF lo hi b && withinF lo hi c)
def none3 (a b c : Nat) : Bool := decide (a = 0) && (decide (b = 0) && decide (c = 0))
theorem all_ref (lo hi a b c : Nat) (w : World) : Calls Tryz.prog 32 #[.agg #[.float .f64 a, .float .f64 b, .float .f64 c], .float .f64 lo, .float .f64 hi] w fun e w' => e = .returned (.bool (all3 lo hi a b c)) ∧ Below w.heap.size w w' := by
  obtain ⟨qa, ha⟩ : ∃ q, withinF lo hi a = q := ⟨_, rfl⟩
  obtain ⟨qb, hb⟩ : ∃ q, withinF lo hi b = q := ⟨_, rfl⟩
  obtain ⟨qc, hc⟩ : ∃ q, withinF lo hi c = q := ⟨_, rfl⟩
  have ra : ∀ u : World, Calls Tryz.prog 34 #[.float .f64 a, .float .f64 lo, .float .f64 hi] u fun e w' => e = .returned (.bool qa) ∧ w' = u := fun u => by rw [← ha]; exact within_ref lo hi a u
  have rb : ∀ u : World, Calls Tryz.prog 34 #[.float .f64 b, .float .f64 lo, .float .f64 hi] u fun e w' => e = .returned (.bool qb) ∧ w' = u := fun u => by rw [← hb]; exact within_ref lo hi b u
  have rc : ∀ u : World, Calls Tryz.prog 34 #[.float .f64 c, .float .f64 lo, .float .f64 hi] u fun e w' => e = .returned (.bool qc) ∧ w' = u := fun u => by rw [← hc]; exact within_ref lo hi c u
  have hr : all3 lo hi a b c = (qa && (qb && qc)) := by unfold all3; rw [ha, hb, hc]
  rw [hr]
  clear hr ha hb hc
  cases qa
  case' true => cases qb
  all_goals
    go_enter Tryz.func32, Tryz.ntmps32
    go_wp2_with (first
      | (with_reducible refine (ra _).mono ?_; rintro e w' ⟨rfl, rfl⟩)
      | (with_reducible refine (rb _).mono ?_; rintro e w' ⟨rfl, rfl⟩)
      | (with_reducible refine (rc _).mono ?_; rintro e w' ⟨rfl, rfl⟩))
    go_ret
    exact ⟨rfl, (Below.refl _ _).alloc (Nat.le_refl _) _⟩
theorem none_ref (a b c : Nat) (la : a < 18446744073709551616) (lb : b < 18446744073709551616) (lc : c < 18446744073709551616) (w : World) : Calls Tryz.prog 33 #[.agg #[.float .f64 a, .float .f64 b, .float .f64 c]] w fun e w' => e = .returned (.bool (none3 a b c)) ∧ Below w.heap.size w w' := by
  obtain ⟨qa, ha⟩ : ∃ q, decide (a = 0) = q := ⟨_, rfl⟩
  obtain ⟨qb, hb⟩ : ∃ q, decide (b = 0) = q := ⟨_, rfl⟩
  obtain ⟨qc, hc⟩ : ∃ q, decide (c = 0) = q := ⟨_, rfl⟩
  have ra : ∀ u : World, Calls Tryz.prog 35 #[.float .f64 a] u fun e w' => e = .returned (.bool qa) ∧ w' = u := fun u => by rw [← ha]; exact nothing_ref a la u
  have rb : ∀ u : World, Calls Tryz.prog 35 #[.float .f64 b] u fun e w' => e = .returned (.bool qb) ∧ w' = u := fun u => by rw [← hb]; exact nothing_ref b lb u
  have rc : ∀ u : World, Calls Tryz.prog 35 #[.float .f64 c] u fun e w' => e = .returned (.bool qc) ∧ w' = u := fun u => by rw [← hc]; exact nothing_ref c lc u
  have hr : none3 a b c = (qa && (qb && qc)) := by unfold none3; rw [ha, hb, hc]
  rw [hr]
  clear hr ha hb hc la lb lc
  cases qa
  case' true => cases qb
  all_goals
    go_enter Tryz.func33, Tryz.ntmps33
    go_wp2_with (first
      | (with_reducible refine (ra _).mono ?_; rintro e w' ⟨rfl, rfl⟩)
      | (with_reducible refine (rb _).mono ?_; rintro e w' ⟨rfl, rfl⟩)
      | (with_reducible refine (rc _).mono ?_; rintro e w' ⟨rfl, rfl⟩))
    go_ret
    exact ⟨rfl, (Below.refl _ _).alloc (Nat.le_refl _) _⟩
/-! how many numbers and names a kind has -/
theorem many_ref (k : Nat) (w : World) : Calls Tryz.prog 25 #[.int .u8 k] w fun e w' => e = .returned (.tuple #[.int .i64 ((fieldList k).length : Nat), .int .i64 (belowN k : Nat)]) ∧ w' = w := by
  by_cases h1 : k = 1
  case' neg => by_cases h2 : k = 2
  case' neg => by_cases h3 : k = 3
  case' neg => by_cases h4 : k = 4
  case' neg => by_cases h5 : k = 5
  case' neg => by_cases h6 : k = 6
  case neg =>
    have e1 : ((k : Int) == 1) = false := by rw [beq_eq_false_iff_ne]; omega
    have e2 : ((k : Int) == 2) = false := by rw [beq_eq_false_iff_ne]; omega
    have e3 : ((k : Int) == 3) = false := by rw [beq_eq_false_iff_ne]; omega
    have e4 : ((k : Int) == 4) = false := by rw [beq_eq_false_iff_ne]; omega
    have e5 : ((k : Int) == 5) = false := by rw [beq_eq_false_iff_ne]; omega
    have e6 : ((k : Int) == 6) = false := by rw [beq_eq_false_iff_ne]; omega
    have ef : (fieldList k).length = 0 := by
      unfold fieldList
      repeat' split
      all_goals first | omega | rfl
    have eb : belowN k = 0 := by unfold belowN; rw [if_neg h5, if_neg h6]
    rw [ef, eb]
    clear ef eb h1 h2 h3 h4 h5 h6
    go_enter Tryz.func25, Tryz.ntmps25
    go_wp2
    go_ret2
    exact ⟨rfl, rfl⟩
  all_goals
    subst_vars
    go_enter Tryz.func25, Tryz.ntmps25
    go_wp2
    go_ret2
    exact ⟨rfl, rfl⟩
end Go.Proofs.YtgblgolkajdfbaaGreatDoor.chkw
