/- Unrounded scaling at the table's powers, and rounding of what it answers. Plain. -/
import Derived.Test.YtihhhglnnapkoaaGreatDoorFpC
namespace Go.Proofs.YtihhhglnnapkoaaGreatDoor.fpm

theorem pow_split (D j s k : Nat) (h : k ≤ s) : j * (2 * (D * 2 ^ (128 + s))) = (j * 2 ^ (s - k)) * (2 * (D * 2 ^ (128 + k))) := by
  have e : (2 : Nat) ^ (128 + s) = 2 ^ (s - k) * 2 ^ (128 + k) := by rw [← Nat.pow_add]; congr 1; omega
  rw [e]
  generalize 2 ^ (s - k) = a
  generalize 2 ^ (128 + k) = b
  rw [Nat.mul_assoc j a, ← Nat.mul_assoc D a, Nat.mul_comm D a, Nat.mul_assoc a D, ← Nat.mul_assoc 2 a, Nat.mul_comm 2 a, Nat.mul_assoc a 2]
theorem us_print (i s y : Nat) (h1 : 56 ≤ i) (h2 : i < 673) (hs : 5 ≤ s) (hy0 : 0 < y) (hy : y < 36028797018963968) :
    usN (512 * y) (hiT i) (loT i) s = unr (512 * y * nT i) (dT i * 2 ^ (128 + s)) := by
  obtain ⟨r1, r2, r3, r4, r5⟩ := row_spec i (by omega)
  refine us_spec _ _ _ _ _ _ (by omega) r3 (dT_pos i) r4 r5 fun j => ?_
  obtain ⟨a, b, c, d, hc⟩ := quad_at prB certPr 56 (i - 56) prAll (by rw [prLen]; omega)
  rw [show 56 + (i - 56) = i by omega] at hc
  have h := nm_of_cert hc y (j * 2 ^ (s - 5)) hy0 hy (Nat.zero_le _)
  rw [pow_split (dT i) j s 5 hs]
  have e : y * (512 * nT i) = 512 * y * nT i := by rw [← Nat.mul_assoc, Nat.mul_comm y 512]
  rw [e] at h
  exact h
theorem us_parse (i s x : Nat) (h1 : 1 ≤ i) (h2 : i < 696) (hs : 8 ≤ s) (hx0 : 9223372036854775808 ≤ x) (hx : x < 18446744073709551616) :
    usN x (hiT i) (loT i) s = unr (x * nT i) (dT i * 2 ^ (128 + s)) := by
  obtain ⟨r1, r2, r3, r4, r5⟩ := row_spec i (by omega)
  refine us_spec _ _ _ _ _ _ hx r3 (dT_pos i) r4 r5 fun j => ?_
  obtain ⟨a, b, c, d, hc⟩ := quad_at paB certPa 1 (i - 1) paAll (by rw [paLen]; omega)
  rw [show 1 + (i - 1) = i by omega] at hc
  have h := nm_of_cert hc x (j * 2 ^ (s - 8)) (by omega) hx hx0
  rw [pow_split (dT i) j s 8 hs]
  exact h
/-! rounding: v = A / (4 Q) -/
theorem unr_parts (A Q : Nat) (hQ : 0 < Q) : ∃ k r, A = 4 * Q * k + r ∧ r < 4 * Q ∧ unr A Q / 4 = k ∧
    (unr A Q % 4 = 0 ↔ r = 0) ∧ (unr A Q % 4 = 1 ↔ 0 < r ∧ r < 2 * Q) ∧ (unr A Q % 4 = 2 ↔ r = 2 * Q) ∧ (unr A Q % 4 = 3 ↔ 2 * Q < r) := by
  obtain ⟨F, hF⟩ : ∃ F, F = A / Q := ⟨_, rfl⟩
  obtain ⟨t, ht⟩ : ∃ t, t = A % Q := ⟨_, rfl⟩
  have e := Nat.div_add_mod A Q
  rw [← hF, ← ht] at e
  have bt : t < Q := by rw [ht]; exact Nat.mod_lt _ hQ
  obtain ⟨k, hk⟩ : ∃ k, k = F / 4 := ⟨_, rfl⟩
  obtain ⟨f, hf⟩ : ∃ f, f = F % 4 := ⟨_, rfl⟩
  have eF : F = 4 * k + f := by omega
  have eQ : Q * F = 4 * Q * k + Q * f := by rw [eF, Nat.mul_add, ← Nat.mul_assoc, Nat.mul_comm Q 4]
  have hf4 : f = 0 ∨ f = 1 ∨ f = 2 ∨ f = 3 := by omega
  have hu : unr A Q = if t = 0 then F else F / 2 * 2 + 1 := by unfold unr; rw [← hF, ← ht]
  refine ⟨k, Q * f + t, by omega, ?_, ?_, ?_, ?_, ?_, ?_⟩
  all_goals rcases hf4 with rfl | rfl | rfl | rfl
  all_goals try rw [hu]
  all_goals try split
  all_goals omega
/-- the greatest whole number not above -/
theorem r_floor (A Q : Nat) (hQ : 0 < Q) : unr A Q / 4 * (4 * Q) ≤ A ∧ A < (unr A Q / 4 + 1) * (4 * Q) := by
  obtain ⟨k, r, e, hr, h, _⟩ := unr_parts A Q hQ
  rw [h, Nat.mul_comm k, Nat.mul_comm (k + 1), Nat.mul_add, Nat.mul_one]
  omega
/-- the least whole number not below -/
theorem r_ceil (A Q : Nat) (hQ : 0 < Q) (n : Nat) : (unr A Q + 3) / 4 ≤ n ↔ A ≤ n * (4 * Q) := by
  obtain ⟨k, r, e, hr, h, h0, h1, h2, h3⟩ := unr_parts A Q hQ
  obtain ⟨P, hP⟩ : ∃ P, P = 4 * Q := ⟨_, rfl⟩
  rw [← hP] at e hr ⊢
  by_cases hz : r = 0
  · have h4 := h0.2 hz
    have : (unr A Q + 3) / 4 = k := by omega
    rw [this, e, hz, Nat.add_zero, Nat.mul_comm P k]
    exact ⟨fun h => Nat.mul_le_mul_right P h, fun h => Nat.le_of_mul_le_mul_right h (by omega)⟩
  · have h4 : unr A Q % 4 ≠ 0 := fun hh => hz (h0.1 hh)
    have : (unr A Q + 3) / 4 = k + 1 := by omega
    rw [this, e, Nat.mul_comm P k]
    refine ⟨fun h => ?_, fun h => ?_⟩
    · have := Nat.mul_le_mul_right P h
      rw [Nat.add_mul, Nat.one_mul] at this
      omega
    · apply Nat.lt_of_mul_lt_mul_right (a := P)
      omega
/-- the least whole number above -/
theorem r_above (A Q : Nat) (hQ : 0 < Q) (n : Nat) : (unr A Q + 1 + 3) / 4 ≤ n ↔ A < n * (4 * Q) := by
  obtain ⟨k, r, e, hr, h, _⟩ := unr_parts A Q hQ
  obtain ⟨P, hP⟩ : ∃ P, P = 4 * Q := ⟨_, rfl⟩
  rw [← hP] at e hr ⊢
  have : (unr A Q + 1 + 3) / 4 = k + 1 := by omega
  rw [this, e, Nat.mul_comm P k]
  refine ⟨fun h => ?_, fun h => ?_⟩
  · have := Nat.mul_le_mul_right P h
    rw [Nat.add_mul, Nat.one_mul] at this
    omega
  · apply Nat.lt_of_mul_lt_mul_right (a := P)
    omega
/-- the greatest whole number below -/
theorem r_below (A Q : Nat) (hQ : 0 < Q) (hA : 0 < A) (n : Nat) : n ≤ (unr A Q - 1) / 4 ↔ n * (4 * Q) < A := by
  obtain ⟨k, r, e, hr, h, h0, _⟩ := unr_parts A Q hQ
  obtain ⟨P, hP⟩ : ∃ P, P = 4 * Q := ⟨_, rfl⟩
  rw [← hP] at e hr ⊢
  by_cases hz : r = 0
  · have h4 := h0.2 hz
    have hk : k ≠ 0 := by
      intro e0
      rw [e0] at e
      simp at e
      omega
    have : (unr A Q - 1) / 4 = k - 1 := by omega
    rw [this, e, hz, Nat.add_zero, Nat.mul_comm P k]
    refine ⟨fun h => (Nat.mul_lt_mul_right (by omega)).2 (by omega), fun h => ?_⟩
    have := (Nat.mul_lt_mul_right (show 0 < P by omega)).1 h
    omega
  · have h4 : unr A Q % 4 ≠ 0 := fun hh => hz (h0.1 hh)
    have : (unr A Q - 1) / 4 = k := by omega
    rw [this, e, Nat.mul_comm P k]
    refine ⟨fun h => ?_, fun h => ?_⟩
    · have := Nat.mul_le_mul_right P h
      omega
    · apply Nat.le_of_lt_succ
      apply Nat.lt_of_mul_lt_mul_right (a := P)
      rw [Nat.succ_mul]
      omega
/-- not above -/
theorem r_under (A Q : Nat) (hQ : 0 < Q) (n : Nat) : n ≤ unr A Q / 4 ↔ n * (4 * Q) ≤ A := by
  obtain ⟨h1, h2⟩ := r_floor A Q hQ
  refine ⟨fun h => Nat.le_trans (Nat.mul_le_mul_right _ h) h1, fun h => ?_⟩
  exact Nat.le_of_lt_succ (Nat.lt_of_mul_lt_mul_right (Nat.lt_of_le_of_lt h h2))
/-- rounded to the nearest, between two to the even one -/
def rnd (u : Nat) : Nat := (u + 1 + u / 4 % 2) / 4
theorem r_round (A Q : Nat) (hQ : 0 < Q) : 2 * (rnd (unr A Q) * (4 * Q)) ≤ 2 * A + 4 * Q ∧ 2 * A ≤ 2 * (rnd (unr A Q) * (4 * Q)) + 4 * Q ∧
    ((2 * (rnd (unr A Q) * (4 * Q)) = 2 * A + 4 * Q ∨ 2 * A = 2 * (rnd (unr A Q) * (4 * Q)) + 4 * Q) → rnd (unr A Q) % 2 = 0) := by
  obtain ⟨k, r, e, hr, h, h0, h1, h2, h3⟩ := unr_parts A Q hQ
  obtain ⟨P, hP⟩ : ∃ P, P = 4 * Q := ⟨_, rfl⟩
  rw [← hP] at e hr ⊢
  have hm : unr A Q % 4 = 0 ∨ unr A Q % 4 = 1 ∨ unr A Q % 4 = 2 ∨ unr A Q % 4 = 3 := by omega
  have ek : (k + 1) * P = k * P + P := by rw [Nat.add_mul, Nat.one_mul]
  rw [Nat.mul_comm P k] at e
  unfold rnd
  rcases hm with m | m | m | m
  · have hr0 := h0.1 m
    have : (unr A Q + 1 + unr A Q / 4 % 2) / 4 = k := by omega
    rw [this]
    omega
  · have hr1 := h1.1 m
    have : (unr A Q + 1 + unr A Q / 4 % 2) / 4 = k := by omega
    rw [this]
    omega
  · have hr2 := h2.1 m
    by_cases hk : k % 2 = 0
    · have : (unr A Q + 1 + unr A Q / 4 % 2) / 4 = k := by omega
      rw [this]
      omega
    · have : (unr A Q + 1 + unr A Q / 4 % 2) / 4 = k + 1 := by omega
      rw [this, ek]
      omega
  · have hr3 := h3.1 m
    have : (unr A Q + 1 + unr A Q / 4 % 2) / 4 = k + 1 := by omega
    rw [this, ek]
    omega
end Go.Proofs.YtihhhglnnapkoaaGreatDoor.fpm
