/- No near misses: a certificate of two neighbouring fractions. Plain. -/
namespace Go.Proofs.YtihhhglnnapkoaaGreatDoor.fpm

theorem mulI_pos {a b : Int} (ha : 1 ≤ a) (hb : 0 ≤ b) : b ≤ a * b := by
  have h := Int.mul_le_mul_of_nonneg_right ha hb
  rwa [Int.one_mul] at h
/-- the certificate: q1/p1 and q2/p2 are neighbours, one on each side of den/num -/
def certB (num den T q1 p1 q2 p2 X Y : Nat) : Bool :=
  decide (p2 * q1 = p1 * q2 + 1) && decide (p1 * den ≤ q1 * num) && decide (q2 * num ≤ p2 * den) &&
  (decide (q1 * num = p1 * den) || decide (p1 * den + T ≤ q1 * num)) &&
  (decide (q2 * num = p2 * den) || decide (q2 * num + T ≤ p2 * den) || (decide (p1 * den + T ≤ q1 * num) && decide (T + Y / q2 * (q2 * num) ≤ Y / q2 * (p2 * den)))) &&
  (decide (X ≤ q1 + q2) || decide (q1 * num = p1 * den) || decide (q2 * num = p2 * den))
theorem nm_of_cert {num den T q1 p1 q2 p2 X Y : Nat} (hc : certB num den T q1 p1 q2 p2 X Y = true) (y j : Nat) (hy0 : 0 < y) (hyX : y < X) (hyY : Y ≤ y) :
    y * num = j * den ∨ y * num + T ≤ j * den ∨ j * den + T ≤ y * num := by
  unfold certB at hc
  simp only [Bool.and_eq_true, Bool.or_eq_true, decide_eq_true_eq] at hc
  obtain ⟨⟨⟨⟨⟨hdet, hl⟩, hu⟩, hd1⟩, hd2⟩, hX⟩ := hc
  -- the coordinates
  obtain ⟨a, ha⟩ : ∃ a : Int, a = (y : Int) * p2 - (j : Int) * q2 := ⟨_, rfl⟩
  obtain ⟨b, hb⟩ : ∃ b : Int, b = (j : Int) * q1 - (y : Int) * p1 := ⟨_, rfl⟩
  have hdetI : (p2 : Int) * q1 = p1 * q2 + 1 := by exact_mod_cast hdet
  have ey : (y : Int) = a * q1 + b * q2 := by
    rw [ha, hb, Int.sub_mul, Int.sub_mul, Int.mul_assoc, Int.mul_assoc (y : Int), hdetI, Int.mul_add, Int.mul_one]
    have : (j : Int) * q2 * q1 = j * q1 * q2 := by rw [Int.mul_assoc, Int.mul_comm (q2 : Int), ← Int.mul_assoc]
    omega
  have ej : (j : Int) = a * p1 + b * p2 := by
    rw [ha, hb, Int.sub_mul, Int.sub_mul, Int.mul_assoc (j : Int) q1, Int.mul_comm (q1 : Int) p2, hdetI, Int.mul_add, Int.mul_one]
    have e1 : (y : Int) * p2 * p1 = y * p1 * p2 := by rw [Int.mul_assoc, Int.mul_comm (p2 : Int), ← Int.mul_assoc]
    have e2 : (j : Int) * q2 * p1 = j * (p1 * q2) := by rw [Int.mul_assoc, Int.mul_comm (q2 : Int)]
    omega
  obtain ⟨d1, hd1e⟩ : ∃ d1 : Int, d1 = (q1 : Int) * num - p1 * den := ⟨_, rfl⟩
  obtain ⟨d2, hd2e⟩ : ∃ d2 : Int, d2 = (p2 : Int) * den - q2 * num := ⟨_, rfl⟩
  have hd1p : 0 ≤ d1 := by
    have : (p1 : Int) * den ≤ q1 * num := by exact_mod_cast hl
    omega
  have hd2p : 0 ≤ d2 := by
    have : (q2 : Int) * num ≤ p2 * den := by exact_mod_cast hu
    omega
  have ev : (y : Int) * num - j * den = a * d1 - b * d2 := by
    rw [ey, ej, hd1e, hd2e, Int.add_mul, Int.add_mul, Int.mul_sub, Int.mul_sub, Int.mul_assoc, Int.mul_assoc, Int.mul_assoc, Int.mul_assoc]
    omega
  have c1 : d1 = 0 ∨ (T : Int) ≤ d1 := by
    rcases hd1 with h | h
    · left
      have : (q1 : Int) * num = p1 * den := by exact_mod_cast h
      omega
    · right
      have : (p1 : Int) * den + T ≤ q1 * num := by exact_mod_cast h
      omega
  have c2 : d2 = 0 ∨ (T : Int) ≤ d2 ∨ ((T : Int) ≤ d1 ∧ (T : Int) ≤ ((Y / q2 : Nat) : Int) * d2) := by
    rcases hd2 with (h | h) | ⟨h, h'⟩
    · left
      have : (q2 : Int) * num = p2 * den := by exact_mod_cast h
      omega
    · right; left
      have : (q2 : Int) * num + T ≤ p2 * den := by exact_mod_cast h
      omega
    · right; right
      refine ⟨?_, ?_⟩
      · have : (p1 : Int) * den + T ≤ q1 * num := by exact_mod_cast h
        omega
      · have : (T : Int) + ((Y / q2 : Nat) : Int) * (q2 * num) ≤ ((Y / q2 : Nat) : Int) * (p2 * den) := by exact_mod_cast h'
        rw [hd2e, Int.mul_sub]
        omega
  -- what is to be shown, in integers
  suffices hS : a * d1 - b * d2 = 0 ∨ a * d1 - b * d2 ≤ -(T : Int) ∨ (T : Int) ≤ a * d1 - b * d2 by
    rcases hS with h | h | h
    · left
      have : (y : Int) * num = j * den := by omega
      exact_mod_cast this
    · right; left
      have : (y : Int) * num + T ≤ j * den := by omega
      exact_mod_cast this
    · right; right
      have : (j : Int) * den + T ≤ y * num := by omega
      exact_mod_cast this
  by_cases ha1 : 1 ≤ a
  · have m1 : d1 ≤ a * d1 := mulI_pos ha1 hd1p
    by_cases hb1 : 1 ≤ b
    · have m2 : d2 ≤ b * d2 := mulI_pos hb1 hd2p
      have hz : d1 = 0 ∨ d2 = 0 := by
        rcases hX with (h | h) | h
        · exfalso
          have n1 : (q1 : Int) ≤ a * q1 := mulI_pos ha1 (by omega)
          have n2 : (q2 : Int) ≤ b * q2 := mulI_pos hb1 (by omega)
          omega
        · left
          have : (q1 : Int) * num = p1 * den := by exact_mod_cast h
          omega
        · right
          have : (q2 : Int) * num = p2 * den := by exact_mod_cast h
          omega
      rcases hz with h | h
      · rw [h, Int.mul_zero]
        rcases c2 with g | g | ⟨g, _⟩
        · rw [g, Int.mul_zero]; omega
        · omega
        · have hT : (T : Int) ≤ 0 := by omega
          omega
      · rw [h, Int.mul_zero]
        rcases c1 with g | g
        · rw [g, Int.mul_zero]; omega
        · omega
    · -- b ≤ 0
      have m2 : b * d2 ≤ 0 := by
        have := Int.mul_le_mul_of_nonneg_right (show b ≤ 0 by omega) hd2p
        rwa [Int.zero_mul] at this
      rcases c1 with g | g
      · rw [g, Int.mul_zero]
        by_cases hb0 : b = 0
        · left; rw [hb0]; omega
        · have hbn : 1 ≤ -b := by omega
          have m3 : d2 ≤ (-b) * d2 := mulI_pos hbn hd2p
          rw [Int.neg_mul] at m3
          rcases c2 with k | k | ⟨k, _⟩
          · left; rw [k]; omega
          · omega
          · have hT : (T : Int) ≤ 0 := by omega
            omega
      · omega
  · have m1 : a * d1 ≤ 0 := by
      have := Int.mul_le_mul_of_nonneg_right (show a ≤ 0 by omega) hd1p
      rwa [Int.zero_mul] at this
    by_cases hb1 : 1 ≤ b
    · have m2 : d2 ≤ b * d2 := mulI_pos hb1 hd2p
      rcases c2 with g | g | ⟨g, g'⟩
      · rw [g, Int.mul_zero]
        by_cases ha0 : a = 0
        · left; rw [ha0]; omega
        · have han : 1 ≤ -a := by omega
          have m3 : d1 ≤ (-a) * d1 := mulI_pos han hd1p
          rw [Int.neg_mul] at m3
          rcases c1 with k | k
          · left; rw [k]; omega
          · omega
      · omega
      · by_cases ha0 : a = 0
        · -- y = b * q2, and y is great
          have e1 : (y : Int) = b * q2 := by rw [ey, ha0]; omega
          have hq : ((Y / q2 : Nat) : Int) ≤ b := by
            obtain ⟨bn, rfl⟩ := Int.eq_ofNat_of_zero_le (show 0 ≤ b by omega)
            have e2 : y = bn * q2 := by exact_mod_cast e1
            have : Y / q2 ≤ bn := by
              have h3 : Y ≤ bn * q2 := by omega
              by_cases hq0 : q2 = 0
              · rw [hq0]; simp
              · calc Y / q2 ≤ bn * q2 / q2 := Nat.div_le_div_right h3
                  _ = bn := Nat.mul_div_cancel _ (by omega)
            omega
          have := Int.mul_le_mul_of_nonneg_right hq hd2p
          omega
        · have han : 1 ≤ -a := by omega
          have m3 : d1 ≤ (-a) * d1 := mulI_pos han hd1p
          rw [Int.neg_mul] at m3
          omega
    · exfalso
      have n1 : a * q1 ≤ 0 := by
        have := Int.mul_le_mul_of_nonneg_right (show a ≤ 0 by omega) (show (0 : Int) ≤ q1 by omega)
        rwa [Int.zero_mul] at this
      have n2 : b * q2 ≤ 0 := by
        have := Int.mul_le_mul_of_nonneg_right (show b ≤ 0 by omega) (show (0 : Int) ≤ q2 by omega)
        rwa [Int.zero_mul] at this
      omega
end Go.Proofs.YtihhhglnnapkoaaGreatDoor.fpm
