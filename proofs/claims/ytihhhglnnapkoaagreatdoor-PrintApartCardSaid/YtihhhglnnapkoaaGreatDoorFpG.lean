/- A positive float's digits lie in its interval. Plain. -/
import Derived.Test.YtihhhglnnapkoaaGreatDoorFpF
namespace Go.Proofs.YtihhhglnnapkoaaGreatDoor.fpm
open Go Go.RowKit Go.Proofs.YtihhhglnnapkoaaGreatDoor.prnw

/-- the interval's lower end, in quarters of the last place -/
def loQ (M : Nat) (E : Int) : Nat := if M = 4503599627370496 ∧ -1074 < E then 4 * M - 1 else 4 * M - 2
theorem ft_range (X : Nat) (hX0 : 0 < X) (hX : X < 9218868437227405312) : 1 ≤ ftM X ∧ ftM X < 9007199254740992 ∧ -1074 ≤ ftE X - 52 ∧ ftE X - 52 ≤ 971 ∧ (ftM X < 4503599627370496 → ftE X - 52 = -1074) := by
  obtain ⟨a, b⟩ := ftM_pos X hX0
  unfold ftM ftE at *
  split at a
  · rename_i h
    rw [if_pos h] at b ⊢
    rw [if_pos h]
    omega
  · rename_i h
    rw [if_neg h] at b ⊢
    rw [if_neg h]
    omega
theorem bl_norm (M : Nat) (h1 : 4503599627370496 ≤ M) (h2 : M < 9007199254740992) : Lib.bitLen M = 53 := by
  obtain ⟨a, b, c, d⟩ := bl_bd 64 M (by omega) (by omega)
  change 2 ^ (Lib.bitLen M - 1) ≤ M at c
  change M < 2 ^ Lib.bitLen M at d
  have h53 : ¬ Lib.bitLen M ≤ 52 := fun h => by
    have := Nat.pow_le_pow_right (show 0 < 2 by decide) h
    have e : (2 : Nat) ^ 52 = 4503599627370496 := by decide
    omega
  have h54 : ¬ 54 ≤ Lib.bitLen M := fun h => by
    have := Nat.pow_le_pow_right (show 0 < 2 by decide) (show 53 ≤ Lib.bitLen M - 1 by omega)
    have e : (2 : Nat) ^ 53 = 9007199254740992 := by decide
    omega
  omega
theorem bl_sub (M : Nat) (h0 : 1 ≤ M) (h1 : M < 4503599627370496) : Lib.bitLen M ≤ 52 := by
  obtain ⟨a, b, c, d⟩ := bl_bd 64 M (by omega) (by omega)
  change 2 ^ (Lib.bitLen M - 1) ≤ M at c
  apply Nat.le_of_not_lt
  intro h
  have := Nat.pow_le_pow_right (show 0 < 2 by decide) (show 52 ≤ Lib.bitLen M - 1 by omega)
  have e : (2 : Nat) ^ 52 = 4503599627370496 := by decide
  omega
def powS (E : Int) : Bool := decide (E = 0) || decide (10 ^ (E * 78913 / 262144).toNat * 2 ^ (-E).toNat < 10 ^ (-(E * 78913 / 262144)).toNat * 2 ^ E.toNat)
theorem powSAll : (List.range 2046).all (fun j => powS ((j : Int) - 1074)) = true := by kernel_rfl
theorem powS_at (E : Int) (h0 : -1074 ≤ E) (h1 : E ≤ 971) : powS E = true := by
  have := List.all_eq_true.1 powSAll (E + 1074).toNat (List.mem_range.2 (by omega))
  rw [show (((E + 1074).toNat : Nat) : Int) - 1074 = E by omega] at this
  exact this
/-- the width of an interval, scaled -/
theorem width (P E : Int) (W c : Nat) (hE : -1074 ≤ E) (h : c * (10 ^ (-P).toNat * 2 ^ (-E).toNat) ≤ W * (10 ^ P.toNat * 2 ^ E.toNat)) (hc : c = 4) : 1 * 2 ^ upB * 10 ^ (-P).toNat ≤ W * 2 ^ (E + 1074).toNat * 10 ^ P.toNat := by
  subst hc
  have hB := upB_eq
  obtain ⟨t, ht⟩ : ∃ t, t = 1074 - (-E).toNat := ⟨_, rfl⟩
  have e1 : 2 ^ upB = 4 * (2 ^ (-E).toNat * 2 ^ t) := by
    rw [show (4 : Nat) = 2 ^ 2 by decide, ← Nat.pow_add, ← Nat.pow_add]
    exact congrArg (fun z : Nat => 2 ^ z) (by omega)
  have e2 : 2 ^ (E + 1074).toNat = 2 ^ E.toNat * 2 ^ t := by
    rw [← Nat.pow_add]
    exact congrArg (fun z : Nat => 2 ^ z) (by omega)
  rw [e1, e2]
  generalize 10 ^ (-P).toNat = x1 at *
  generalize 10 ^ P.toNat = x2 at *
  generalize 2 ^ (-E).toNat = x3 at *
  generalize 2 ^ E.toNat = x4 at *
  generalize 2 ^ t = x5 at *
  have := Nat.mul_le_mul_right x5 h
  have a1 : 1 * (4 * (x3 * x5)) * x1 = 4 * (x1 * x3) * x5 := by rw [Nat.one_mul]; ac_rfl
  have a2 : W * (x4 * x5) * x2 = W * (x2 * x4) * x5 := by ac_rfl
  rw [a1, a2]
  exact this
theorem width_lt (P E : Int) (hE : -1074 ≤ E) (h : 10 ^ (-P).toNat * 2 ^ (-E).toNat < 10 ^ P.toNat * 2 ^ E.toNat) : 1 * 2 ^ upB * 10 ^ (-P).toNat < 4 * 2 ^ (E + 1074).toNat * 10 ^ P.toNat := by
  have hB := upB_eq
  obtain ⟨t, ht⟩ : ∃ t, t = 1074 - (-E).toNat := ⟨_, rfl⟩
  have e1 : 2 ^ upB = 4 * (2 ^ (-E).toNat * 2 ^ t) := by
    rw [show (4 : Nat) = 2 ^ 2 by decide, ← Nat.pow_add, ← Nat.pow_add]
    exact congrArg (fun z : Nat => 2 ^ z) (by omega)
  have e2 : 2 ^ (E + 1074).toNat = 2 ^ E.toNat * 2 ^ t := by
    rw [← Nat.pow_add]
    exact congrArg (fun z : Nat => 2 ^ z) (by omega)
  have h5 : 0 < 2 ^ t := Nat.two_pow_pos t
  rw [e1, e2]
  generalize 10 ^ (-P).toNat = x1 at *
  generalize 10 ^ P.toNat = x2 at *
  generalize 2 ^ (-E).toNat = x3 at *
  generalize 2 ^ E.toNat = x4 at *
  generalize 2 ^ t = x5 at *
  have := (Nat.mul_lt_mul_right h5).2 h
  have a1 : 1 * (4 * (x3 * x5)) * x1 = 4 * (x1 * x3 * x5) := by rw [Nat.one_mul]; ac_rfl
  have a2 : 4 * (x4 * x5) * x2 = 4 * (x2 * x4 * x5) := by ac_rfl
  rw [a1, a2]
  omega
/-- two comparisons, scaled -/
theorem le_scaled {a b c d α β : Nat} (hα : 0 < α) (hβ : 0 < β) (h1 : a * α = c * β) (h2 : b * α = d * β) : a ≤ b ↔ c ≤ d := by
  refine ⟨fun h => ?_, fun h => ?_⟩
  · have := Nat.mul_le_mul_right α h
    rw [h1, h2] at this
    exact Nat.le_of_mul_le_mul_right this hβ
  · have := Nat.mul_le_mul_right β h
    rw [← h1, ← h2] at this
    exact Nat.le_of_mul_le_mul_right this hα
end Go.Proofs.YtihhhglnnapkoaaGreatDoor.fpm
