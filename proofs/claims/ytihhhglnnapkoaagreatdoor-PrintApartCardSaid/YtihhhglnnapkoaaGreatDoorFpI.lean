/- The set-up of shortFloat: power, shift, ends. Plain. -/
import Derived.Test.YtihhhglnnapkoaaGreatDoorFpH
namespace Go.Proofs.YtihhhglnnapkoaaGreatDoor.fpm
open Go Go.RowKit Go.Proofs.YtihhhglnnapkoaaGreatDoor.prnw

theorem ba_P {M S m p2 : Nat} {E e : Int} {bd : Bool} (b : Base M S m p2 E e bd) : sfP (m : Int) e = if bd then -((E * 631305 - 261663) / 2097152) else -(E * 78913 / 262144) := by
  have h1 := b.he
  have hE := b.hE
  unfold sfP
  rw [b.hB, b.hz, show e + (S : Int) = E by omega]
  cases hb : bd
  · rfl
  · have hbd := b.hbd
    rw [hb] at hbd
    have hb2 := hbd.symm
    rw [Bool.and_eq_true, decide_eq_true_eq, decide_eq_true_eq] at hb2
    have := (b.norm (by omega)).1
    rw [show e + 11 = E by omega]
theorem ba_rng (E P : Int) (S : Nat) (bd : Bool) (h0 : -1074 ≤ E) (h1 : E ≤ 971) (hS : 11 ≤ S) (hP : P = if bd then -((E * 631305 - 261663) / 2097152) else -(E * 78913 / 262144)) :
    -292 ≤ P ∧ P ≤ 324 ∧ 5 ≤ (S : Int) - 3 - E - P * 108853 / 32768 := by
  cases bd
  · simp only [Bool.false_eq_true, if_false] at hP
    omega
  · simp only [if_true] at hP
    omega
theorem ba_W {M S m p2 : Nat} {E e : Int} {bd : Bool} (b : Base M S m p2 E e bd) : loQ M E = if bd then 4 * M - 1 else 4 * M - 2 := by
  rw [b.hbd]
  unfold loQ
  by_cases h : M = 4503599627370496 ∧ -1074 < E
  · rw [if_pos h, if_pos (by rw [Bool.and_eq_true, decide_eq_true_eq, decide_eq_true_eq]; exact h)]
  · rw [if_neg h, if_neg (by rw [Bool.and_eq_true, decide_eq_true_eq, decide_eq_true_eq]; exact h)]
theorem loQ_bd (M : Nat) (E : Int) : 4 * M - 2 ≤ loQ M E ∧ loQ M E ≤ 4 * M - 1 ∧ (M % 2 = 1 → loQ M E = 4 * M - 2) := by
  unfold loQ
  by_cases h : M = 4503599627370496 ∧ -1074 < E
  · rw [if_pos h]
    have := h.1
    exact ⟨by omega, by omega, fun h2 => by omega⟩
  · rw [if_neg h]
    exact ⟨Nat.le_refl _, by omega, fun _ => rfl⟩
theorem pw_half (S p2 : Nat) (hS : 11 ≤ S) (hp2 : p2 = 2 ^ (S - 2)) : (2 : Int) ^ (((S : Int)).toNat - 1) = ((2 * p2 : Nat) : Int) := by
  have : 2 * p2 = 2 ^ (S - 1) := by
    rw [hp2, show S - 1 = (S - 2) + 1 by omega, Nat.pow_succ, Nat.mul_comm 2]
  rw [this, show ((S : Int)).toNat - 1 = S - 1 by omega]
  simp
theorem ba_Mx {M S m p2 : Nat} {E e : Int} {bd : Bool} (b : Base M S m p2 E e bd) : sfMx (m : Int) e = ((m + 2 * p2 : Nat) : Int) := by
  have h1 := b.he
  have hE := b.hE
  have h2 := b.hi
  have h3 := b.lo
  obtain ⟨r, h4, h5⟩ := b.p512
  unfold sfMx
  by_cases h : M < 4503599627370496
  · have h6 := b.deno h
    rw [if_neg (by omega), b.hz, pw_half S p2 b.s11.1 b.hp2, IntKind.wrap_u64, IntKind.wrap_u64]
    omega
  · have h6 := b.norm (by omega)
    rw [if_pos (by omega), IntKind.wrap_u64]
    omega
theorem ba_Mn {M S m p2 : Nat} {E e : Int} {bd : Bool} (b : Base M S m p2 E e bd) : sfMn (m : Int) e = (((if bd then m - p2 else m - 2 * p2) : Nat) : Int) := by
  have h1 := b.he
  have hE := b.hE
  have h2 := b.hi
  have h3 := b.lo
  obtain ⟨r, h4, h5⟩ := b.p512
  unfold sfMn
  rw [b.hB]
  cases hb : bd
  · simp only [Bool.false_eq_true, if_false]
    by_cases h : M < 4503599627370496
    · have h6 := b.deno h
      have h7 : 4 * p2 ≤ m := by
        rw [b.hm4, Nat.mul_assoc, Nat.mul_left_comm]
        have : 1 ≤ M := by
          have := b.hm4
          by_cases h0 : M = 0
          · rw [h0] at this; omega
          · omega
        exact Nat.le_mul_of_pos_left _ this
      rw [if_neg (by omega), b.hz, pw_half S p2 b.s11.1 b.hp2, IntKind.wrap_u64, IntKind.wrap_u64]
      omega
    · have h6 := b.norm (by omega)
      rw [if_pos (by omega), IntKind.wrap_u64]
      omega
  · have hbd := b.hbd
    rw [hb] at hbd
    have hb2 := hbd.symm
    rw [Bool.and_eq_true, decide_eq_true_eq, decide_eq_true_eq] at hb2
    have h6 := b.norm (by omega)
    simp only [if_true]
    rw [IntKind.wrap_u64]
    omega
theorem ba_O {M S m p2 : Nat} {E e : Int} {bd : Bool} (b : Base M S m p2 E e bd) (hM : M < 9007199254740992) : sfO (m : Int) e = ((M % 2 : Nat) : Int) := by
  unfold sfO
  rw [b.hz, show ((S : Int)).toNat = S by omega]
  have h1 : (m : Int) / 2 ^ S = (M : Int) := by
    have : ((m / 2 ^ S : Nat) : Int) = (m : Int) / 2 ^ S := by simp
    rw [← this, b.hm, Nat.mul_div_cancel _ (Nat.two_pow_pos _)]
  rw [h1]
  have h2 : wrap64 (M : Int) = (M : Int) := by
    unfold wrap64
    omega
  rw [h2]
  have := and_mask .i64 (Or.inl rfl) M 1 (by omega) (by decide)
  simpa using this
theorem ba_S {M S m p2 : Nat} {E e : Int} {bd : Bool} (b : Base M S m p2 E e bd) (P : Int) (hP : P = sfP (m : Int) e) : sfS (m : Int) e = S - 3 - E - P * 108853 / 32768 := by
  unfold sfS
  rw [← hP, b.he]
  omega
end Go.Proofs.YtihhhglnnapkoaaGreatDoor.fpm
