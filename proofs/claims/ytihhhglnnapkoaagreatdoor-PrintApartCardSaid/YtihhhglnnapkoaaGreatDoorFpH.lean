/- The digits of a positive float lie in its interval. Plain. -/
import Derived.Test.YtihhhglnnapkoaaGreatDoorFpG
namespace Go.Proofs.YtihhhglnnapkoaaGreatDoor.fpm
open Go Go.RowKit Go.Proofs.YtihhhglnnapkoaaGreatDoor.prnw

/-- unrounded scaling at a printed number -/
theorem us_at (i s x : Nat) (h1 : 56 ≤ i) (h2 : i < 673) (hs : 5 ≤ s) (hs2 : s < 59) (hx0 : 4611686018427387904 ≤ x) (hx : x < 18446744073709551616) (hd : x % 512 = 0) :
    ∃ u : Nat, usI x (hiT i) (loT i) (s : Int) = (u : Int) ∧ u = unr (x * nT i) (dT i * 2 ^ (128 + s)) ∧ 7 ≤ u ∧ u < 9223372036854775808 := by
  obtain ⟨r1, r2, r3, r4, r5⟩ := row_spec i (by omega)
  have e := us_eq x (hiT i) (loT i) s hx r1 r2 r3 (by omega)
  have b := us_lo x (hiT i) (loT i) (s : Int) hx0 hx r1 r2 (by omega) (by omega)
  refine ⟨usN x (hiT i) (loT i) s, e, ?_, ?_, ?_⟩
  · have := us_print i s (x / 512) h1 h2 hs (by omega) (by omega)
    rw [show 512 * (x / 512) = x by omega] at this
    exact this
  · rw [e] at b; omega
  · rw [e] at b; omega
theorem ceil_n (u o : Nat) (h : u < 9223372036854775808) (ho : o ≤ 1) : ceilI (nudgeI (u : Int) (o : Int)) = (((u + o + 3) / 4 : Nat) : Int) := by
  unfold ceilI nudgeI
  rw [IntKind.wrap_u64, IntKind.wrap_u64, IntKind.wrap_u64]
  omega
theorem lt_scaled {a b c d α β : Nat} (hα : 0 < α) (hβ : 0 < β) (h1 : a * α = c * β) (h2 : b * α = d * β) : a < b ↔ c < d := by
  have := le_scaled hα hβ h2 h1
  omega
theorem floor_n (u o : Nat) (h : u < 9223372036854775808) (h7 : 7 ≤ u) (ho : o ≤ 1) : nudgeI (u : Int) (-(o : Int)) / 4 = (((u - o) / 4 : Nat) : Int) := by
  unfold nudgeI
  rw [IntKind.wrap_u64, IntKind.wrap_u64]
  omega
/-- a float's mantissa, normalized: what the code has set up -/
structure Base (M S m p2 : Nat) (E e : Int) (bd : Bool) : Prop where
  s11 : 11 ≤ S ∧ S ≤ 63
  hm : m = M * 2 ^ S
  he : e = E - S
  norm : 4503599627370496 ≤ M → S = 11 ∧ p2 = 512
  deno : M < 4503599627370496 → 12 ≤ S ∧ E = -1074
  hp2 : p2 = 2 ^ (S - 2)
  e2S : 2 ^ S = 4 * p2
  p512 : ∃ r, p2 = 512 * r ∧ 1 ≤ r
  hm4 : m = 4 * M * p2
  lo : 9223372036854775808 ≤ m
  hi : m + 4 * p2 ≤ 18446744073709551616
  hbd : bd = (decide (M = 4503599627370496) && decide (-1074 < E))
  hB : sfB (m : Int) e = bd
  hz : sfZ e = (S : Int)
  hE : -1074 ≤ E ∧ E ≤ 971
theorem sf_base (M S : Nat) (E : Int) (hM1 : 1 ≤ M) (hM2 : M < 9007199254740992) (hE0 : -1074 ≤ E) (hE1 : E ≤ 971) (hsub : M < 4503599627370496 → E = -1074) (hS : S = 64 - Lib.bitLen M) :
    ∃ m p2 e bd, Base M S m p2 E e bd := by
  obtain ⟨sl0, sl1, sl2, sl3⟩ := shl_bd M hM1 hM2
  rw [← hS] at sl2 sl3
  have hS11 : 11 ≤ S ∧ S ≤ 63 := by omega
  have hnorm : 4503599627370496 ≤ M → S = 11 := fun h => by have := bl_norm M h hM2; omega
  have hdeno : M < 4503599627370496 → 12 ≤ S := fun h => by have := bl_sub M hM1 h; omega
  obtain ⟨m, hm⟩ : ∃ m, m = M * 2 ^ S := ⟨_, rfl⟩
  rw [← hm] at sl2 sl3
  obtain ⟨e, he⟩ : ∃ e : Int, e = E - S := ⟨_, rfl⟩
  have hz : sfZ e = (S : Int) := by
    unfold sfZ
    by_cases h : M < 4503599627370496
    · have := hsub h
      have := hdeno h
      rw [if_neg (by omega)]
      omega
    · have := hnorm (by omega)
      rw [if_pos (by omega)]
      omega
  obtain ⟨p2, hp2⟩ : ∃ p2, p2 = 2 ^ (S - 2) := ⟨_, rfl⟩
  have e2S : 2 ^ S = 4 * p2 := by
    rw [hp2, show (4 : Nat) = 2 ^ 2 by decide, ← Nat.pow_add]
    exact congrArg (fun z : Nat => 2 ^ z) (by omega)
  have hp512 : ∃ r, p2 = 512 * r ∧ 1 ≤ r := ⟨2 ^ (S - 11), by
    rw [hp2, show (512 : Nat) = 2 ^ 9 by decide, ← Nat.pow_add]
    exact congrArg (fun z : Nat => 2 ^ z) (by omega), Nat.two_pow_pos _⟩
  have hm4 : m = 4 * M * p2 := by rw [hm, e2S, ← Nat.mul_assoc, Nat.mul_comm M 4]
  -- is it the lower end of a binade?
  obtain ⟨bd, hbd⟩ : ∃ bd : Bool, bd = (decide (M = 4503599627370496) && decide (-1074 < E)) := ⟨_, rfl⟩
  have hB : sfB (m : Int) e = bd := by
    rw [hbd]
    unfold sfB
    by_cases h : M < 4503599627370496
    · have h1 := hsub h
      have h2 := hdeno h
      rw [decide_eq_false (show ¬ -1085 < e by omega), decide_eq_false (show ¬ M = 4503599627370496 by omega), Bool.and_false, Bool.false_and]
    · have h1 := hnorm (by omega)
      have h2 : p2 = 512 := by rw [hp2, h1]
      have h3 : ((m : Int) == 9223372036854775808) = decide (M = 4503599627370496) := by
        rw [Bool.eq_iff_iff, beq_iff_eq, decide_eq_true_eq]
        rw [h2] at hm4
        omega
      have h4 : decide (-1085 < e) = decide (-1074 < E) := by
        rw [Bool.eq_iff_iff, decide_eq_true_eq, decide_eq_true_eq]
        omega
      rw [h3, h4]
  refine ⟨m, p2, e, bd, hS11, hm, he, fun h => ⟨hnorm h, ?_⟩, fun h => ⟨hdeno h, hsub h⟩, hp2, e2S, hp512, hm4, sl2, ?_, hbd, hB, hz, hE0, hE1⟩
  · rw [hp2, hnorm h]
  · obtain ⟨b1, b2, b3, b4⟩ := bl_bd 64 M (by omega) (by omega)
    change M < 2 ^ Lib.bitLen M at b4
    have h1 : (M + 1) * 2 ^ S ≤ 2 ^ Lib.bitLen M * 2 ^ S := Nat.mul_le_mul_right _ b4
    rw [← Nat.pow_add, show Lib.bitLen M + S = 64 by omega] at h1
    rw [hm, ← e2S, ← Nat.succ_mul]
    exact h1
end Go.Proofs.YtihhhglnnapkoaaGreatDoor.fpm
