/- Unrounded scaling: what it answers is right. Plain. -/
namespace Go.Proofs.YtihhhglnnapkoaaGreatDoor.fpm

/-- a quotient, with a mark in its last bit if something is left over -/
def unr (A Q : Nat) : Nat := if A % Q = 0 then A / Q else A / Q / 2 * 2 + 1
/-- unrounded scaling, in plain numbers -/
def usN (x hi lo s : Nat) : Nat :=
  if x * hi / 18446744073709551616 % 2 ^ s ≠ 0 then x * hi / 18446744073709551616 / 2 ^ s / 2 * 2 + 1
  else if x * hi % 18446744073709551616 < x * lo / 18446744073709551616 then (x * hi / 18446744073709551616 - 1) / 2 ^ s / 2 * 2 + 1
  else if x * lo / 18446744073709551616 + 1 < x * hi % 18446744073709551616 then x * hi / 18446744073709551616 / 2 ^ s / 2 * 2 + 1
  else x * hi / 18446744073709551616 / 2 ^ s
theorem unr_in {A Q F : Nat} (h1 : F * Q < A) (h2 : A < (F + 1) * Q) : unr A Q = F / 2 * 2 + 1 := by
  have hQ : 0 < Q := by
    apply Nat.pos_of_ne_zero
    intro e
    rw [e] at h2
    omega
  have hd : A / Q = F := by
    apply Nat.le_antisymm
    · exact Nat.le_of_lt_succ ((Nat.div_lt_iff_lt_mul hQ).2 h2)
    · exact (Nat.le_div_iff_mul_le hQ).2 (Nat.le_of_lt h1)
  have hm : A % Q ≠ 0 := by
    intro e
    have := Nat.div_add_mod A Q
    rw [hd, e, Nat.mul_comm] at this
    omega
  unfold unr
  rw [if_neg hm, hd]
theorem unr_eq {F Q : Nat} (hQ : 0 < Q) : unr (F * Q) Q = F := by
  unfold unr
  rw [if_pos (Nat.mul_mod_left F Q), Nat.mul_div_cancel _ hQ]
/-- the law: no near miss of an even number -/
theorem us_spec (x hi lo s N D : Nat) (hx : x < 18446744073709551616) (hlo : lo < 18446744073709551616) (hD : 0 < D)
    (h1 : N + lo * D ≤ hi * 18446744073709551616 * D) (h2 : hi * 18446744073709551616 * D < N + lo * D + D)
    (hnm : ∀ j, x * N = j * (2 * (D * 2 ^ (128 + s))) ∨ x * N + 36893488147419103232 * D ≤ j * (2 * (D * 2 ^ (128 + s))) ∨ j * (2 * (D * 2 ^ (128 + s))) + 36893488147419103232 * D ≤ x * N) :
    usN x hi lo s = unr (x * N) (D * 2 ^ (128 + s)) := by
  by_cases hx0 : x = 0
  · subst hx0
    unfold usN unr
    simp
  obtain ⟨P2, hP2⟩ : ∃ P2, P2 = 18446744073709551616 * D := ⟨_, rfl⟩
  obtain ⟨P1, hP1⟩ : ∃ P1, P1 = 18446744073709551616 * P2 := ⟨_, rfl⟩
  have hQ : D * 2 ^ (128 + s) = 2 ^ s * P1 := by
    rw [hP1, hP2, Nat.pow_add, show (2 : Nat) ^ 128 = 18446744073709551616 * 18446744073709551616 by decide]
    generalize 2 ^ s = z
    rw [Nat.mul_comm D, Nat.mul_comm _ z, Nat.mul_assoc z, Nat.mul_assoc]
  rw [hQ] at hnm ⊢
  have p2 : 0 < P2 := by omega
  have p1 : 0 < P1 := by omega
  have ps : 0 < 2 ^ s := Nat.two_pow_pos s
  -- the parts
  obtain ⟨H, hH⟩ : ∃ H, H = x * hi / 18446744073709551616 := ⟨_, rfl⟩
  obtain ⟨M, hM⟩ : ∃ M, M = x * hi % 18446744073709551616 := ⟨_, rfl⟩
  obtain ⟨L, hL⟩ : ∃ L, L = x * lo / 18446744073709551616 := ⟨_, rfl⟩
  obtain ⟨r, hr⟩ : ∃ r, r = x * lo % 18446744073709551616 := ⟨_, rfl⟩
  have eH : x * hi = 18446744073709551616 * H + M := by omega
  have eL : x * lo = 18446744073709551616 * L + r := by omega
  have bM : M < 18446744073709551616 := by omega
  have br : r < 18446744073709551616 := by omega
  obtain ⟨A, hA⟩ : ∃ A, A = x * N := ⟨_, rfl⟩
  have k1 : A + (L * P2 + r * D) ≤ H * P1 + M * P2 := by
    have h := Nat.mul_le_mul_left x h1
    rw [Nat.mul_add, ← Nat.mul_assoc x lo, ← hA, eL, ← Nat.mul_assoc x, ← Nat.mul_assoc x, eH] at h
    have e1 : (18446744073709551616 * L + r) * D = L * P2 + r * D := by rw [hP2, Nat.add_mul, Nat.mul_comm _ L, Nat.mul_assoc]
    have e2 : (18446744073709551616 * H + M) * 18446744073709551616 * D = H * P1 + M * P2 := by
      rw [hP1, hP2, Nat.mul_assoc, Nat.add_mul, Nat.mul_comm _ H, Nat.mul_assoc]
    rw [e1, e2] at h
    exact h
  have k2 : H * P1 + M * P2 < A + (L * P2 + r * D) + x * D := by
    have h := (Nat.mul_lt_mul_left (show 0 < x by omega)).2 h2
    rw [Nat.mul_add, Nat.mul_add, ← Nat.mul_assoc x lo, ← hA, eL, ← Nat.mul_assoc x, ← Nat.mul_assoc x, eH] at h
    have e1 : (18446744073709551616 * L + r) * D = L * P2 + r * D := by rw [hP2, Nat.add_mul, Nat.mul_comm _ L, Nat.mul_assoc]
    have e2 : (18446744073709551616 * H + M) * 18446744073709551616 * D = H * P1 + M * P2 := by
      rw [hP1, hP2, Nat.mul_assoc, Nat.add_mul, Nat.mul_comm _ H, Nat.mul_assoc]
    rw [e1, e2] at h
    exact h
  have k3 : L * P2 + r * D + x * D ≤ x * P2 := by
    have h : x * (lo + 1) ≤ x * 18446744073709551616 := Nat.mul_le_mul_left x hlo
    rw [Nat.mul_add, Nat.mul_one, eL] at h
    have h := Nat.mul_le_mul_right D h
    rw [Nat.mul_assoc x, ← hP2] at h
    have e1 : (18446744073709551616 * L + r + x) * D = L * P2 + r * D + x * D := by rw [hP2, Nat.add_mul, Nat.add_mul, Nat.mul_comm _ L, Nat.mul_assoc]
    rw [e1] at h
    exact h
  have k4 : x * P2 + P2 ≤ P1 := by
    have h := Nat.mul_le_mul_right P2 (show x + 1 ≤ 18446744073709551616 by omega)
    rw [Nat.add_mul, Nat.one_mul, ← hP1] at h
    exact h
  have k5 : M * P2 + P2 ≤ P1 := by
    have h := Nat.mul_le_mul_right P2 (show M + 1 ≤ 18446744073709551616 by omega)
    rw [Nat.add_mul, Nat.one_mul, ← hP1] at h
    exact h
  have k6 : r * D + D ≤ P2 := by
    have h := Nat.mul_le_mul_right D (show r + 1 ≤ 18446744073709551616 by omega)
    rw [Nat.add_mul, Nat.one_mul, ← hP2] at h
    exact h
  have k7 : x * D + D ≤ P2 := by
    have h := Nat.mul_le_mul_right D (show x + 1 ≤ 18446744073709551616 by omega)
    rw [Nat.add_mul, Nat.one_mul, ← hP2] at h
    exact h
  obtain ⟨F, hF⟩ : ∃ F, F = H / 2 ^ s := ⟨_, rfl⟩
  obtain ⟨h', hh⟩ : ∃ h', h' = H % 2 ^ s := ⟨_, rfl⟩
  have eF : H = F * 2 ^ s + h' := by
    have := Nat.div_add_mod H (2 ^ s)
    rw [← hF, ← hh, Nat.mul_comm] at this
    exact this.symm
  have bh : h' < 2 ^ s := by rw [hh]; exact Nat.mod_lt _ ps
  obtain ⟨Q, hQd⟩ : ∃ Q, Q = 2 ^ s * P1 := ⟨_, rfl⟩
  have eHP : H * P1 = F * Q + h' * P1 := by rw [hQd, eF, Nat.add_mul, Nat.mul_assoc]
  have eF1 : (F + 1) * Q = F * Q + Q := by rw [Nat.add_mul, Nat.one_mul]
  unfold usN
  rw [← hQd] at hnm ⊢
  rw [← hH, ← hM, ← hL, ← hF, ← hh, ← hA]
  rw [← hA] at hnm
  by_cases c1 : h' = 0
  · rw [if_neg (by omega)]
    rw [c1, Nat.zero_mul, Nat.add_zero] at eHP
    by_cases c2 : M < L
    · -- the part behind the point is below nothing
      rw [if_pos c2]
      have q1 : (M + 1) * P2 ≤ L * P2 := Nat.mul_le_mul_right P2 c2
      rw [Nat.add_mul, Nat.one_mul] at q1
      have hF0 : F ≠ 0 := by
        intro e
        rw [e, Nat.zero_mul] at eHP
        omega
      obtain ⟨F', rfl⟩ : ∃ F', F = F' + 1 := ⟨F - 1, by omega⟩
      have hd : (H - 1) / 2 ^ s = F' := by
        rw [eF, c1, Nat.add_zero, Nat.add_mul, Nat.one_mul]
        apply Nat.le_antisymm
        · exact Nat.le_of_lt_succ ((Nat.div_lt_iff_lt_mul ps).2 (by rw [Nat.succ_mul]; omega))
        · exact (Nat.le_div_iff_mul_le ps).2 (by omega)
      rw [hd]
      have qq : P1 ≤ Q := by rw [hQd]; exact Nat.le_mul_of_pos_left P1 ps
      have e2 : (F' + 1) * Q = F' * Q + Q := by rw [Nat.add_mul, Nat.one_mul]
      exact (unr_in (by omega) (by omega)).symm
    · rw [if_neg c2]
      by_cases c3 : L + 1 < M
      · rw [if_pos c3]
        have q1 : (L + 2) * P2 ≤ M * P2 := Nat.mul_le_mul_right P2 c3
        rw [Nat.add_mul] at q1
        have qq : P1 ≤ Q := by rw [hQd]; exact Nat.le_mul_of_pos_left P1 ps
        exact (unr_in (by omega) (by omega)).symm
      · rw [if_neg c3]
        have q1 : L * P2 ≤ M * P2 := Nat.mul_le_mul_right P2 (by omega)
        have q2 : M * P2 ≤ (L + 1) * P2 := Nat.mul_le_mul_right P2 (by omega)
        rw [Nat.add_mul, Nat.one_mul] at q2
        have qq : P1 ≤ Q := by rw [hQd]; exact Nat.le_mul_of_pos_left P1 ps
        have hQ0 : 0 < Q := by omega
        rcases Nat.mod_two_eq_zero_or_one F with ev | od
        · obtain ⟨j, rfl⟩ : ∃ j, F = 2 * j := ⟨F / 2, by omega⟩
          have hj : 2 * j * Q = j * (2 * Q) := by rw [Nat.mul_comm 2 j, Nat.mul_assoc]
          have he : A = 2 * j * Q := by
            rcases hnm j with h | h | h
            · rw [hj]; exact h
            · omega
            · omega
          rw [he, unr_eq hQ0]
        · by_cases c4 : A = F * Q
          · rw [c4, unr_eq hQ0]
          · by_cases c5 : F * Q < A
            · rw [unr_in c5 (by omega)]
              omega
            · obtain ⟨F', rfl⟩ : ∃ F', F = F' + 1 := ⟨F - 1, by omega⟩
              have e2 : (F' + 1) * Q = F' * Q + Q := by rw [Nat.add_mul, Nat.one_mul]
              rw [unr_in (F := F') (by omega) (by omega)]
              omega
  · rw [if_pos c1]
    have q1 : 1 * P1 ≤ h' * P1 := Nat.mul_le_mul_right P1 (by omega)
    rw [Nat.one_mul] at q1
    have q2 : (h' + 1) * P1 ≤ Q := by rw [hQd]; exact Nat.mul_le_mul_right P1 bh
    rw [Nat.add_mul, Nat.one_mul] at q2
    exact (unr_in (by omega) (by omega)).symm
end Go.Proofs.YtihhhglnnapkoaaGreatDoor.fpm
