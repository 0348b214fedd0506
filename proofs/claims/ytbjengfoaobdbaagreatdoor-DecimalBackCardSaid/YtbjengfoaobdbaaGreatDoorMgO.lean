/- The printed digits: the model's words in plain numbers. -/
import Derived.Test.YtbjengfoaobdbaaGreatDoorMgI
import Derived.Test.YtbjengfoaobdbaaGreatDoorMgE
namespace Go.Proofs.YtbjengfoaobdbaaGreatDoor.fpm
open Go Go.RowKit Go.Proofs.YtbjengfoaobdbaaGreatDoor.prnw

end Go.Proofs.YtbjengfoaobdbaaGreatDoor.fpm

/- The digits that are printed lie in the number's interval. Plain. -/
namespace Go.Proofs.YtbjengfoaobdbaaGreatDoor.fpm
open Go Go.RowKit Go.Proofs.YtbjengfoaobdbaaGreatDoor.prnw

/-- how many binary places below one the halves of halves of the least unit are -/
def upB : Nat := 1076
theorem upB_eq : upB = 1076 := rfl
/-- a whole number of the power P against a whole number of halves: two spellings of one comparison -/
theorem scale_id (P E : Int) (h0 : -348 ≤ P) (i : Nat) (hi : i = (P + 348).toNat) (lp : Int) (hlp : lp = P * 108853 / 32768) (hE : -1074 ≤ E) (S s : Nat) (hS : 2 ≤ S) (hs : (s : Int) = S - 3 - E - lp) (k W : Nat) :
    ∃ α β : Nat, 0 < α ∧ 0 < β ∧ k * (4 * (dT i * 2 ^ (128 + s))) * α = k * 2 ^ upB * 10 ^ (-P).toNat * β ∧ W * 2 ^ (S - 2) * nT i * α = W * 2 ^ (E + 1074).toNat * 10 ^ P.toNat * β := by
  have hid := nd_id P h0 i hi lp hlp
  have hd := dT_pos i
  have hB := upB_eq
  obtain ⟨u, hu⟩ : ∃ u, u = (lp - 127).toNat := ⟨_, rfl⟩
  obtain ⟨v, hv⟩ : ∃ v, v = (127 - lp).toNat := ⟨_, rfl⟩
  obtain ⟨t, ht⟩ : ∃ t, t = (E + 1074).toNat := ⟨_, rfl⟩
  rw [← hu, ← hv] at hid
  rw [← ht]
  refine ⟨10 ^ (-P).toNat * 2 ^ u * 2 ^ (S - 2 + v + upB), dT i * 2 ^ (130 + s + u + (S - 2 + v)), ?_, ?_, ?_, ?_⟩
  · exact Nat.mul_pos (Nat.mul_pos (Nat.pow_pos (by decide)) (Nat.two_pow_pos _)) (Nat.two_pow_pos _)
  · exact Nat.mul_pos hd (Nat.two_pow_pos _)
  · have e : 4 * 2 ^ (128 + s) * 2 ^ u * 2 ^ (S - 2 + v + upB) = 2 ^ upB * 2 ^ (130 + s + u + (S - 2 + v)) := by
      rw [show (4 : Nat) = 2 ^ 2 by decide, ← Nat.pow_add, ← Nat.pow_add, ← Nat.pow_add, ← Nat.pow_add]
      exact congrArg (fun z : Nat => 2 ^ z) (by omega)
    generalize 10 ^ (-P).toNat = T at *
    generalize 2 ^ (128 + s) = x1 at *
    generalize 2 ^ u = x2 at *
    generalize 2 ^ (S - 2 + v + upB) = x3 at *
    generalize 2 ^ upB = x4 at *
    generalize 2 ^ (130 + s + u + (S - 2 + v)) = x5 at *
    have e1 : k * (4 * (dT i * x1)) * (T * x2 * x3) = (k * T * dT i) * (4 * x1 * x2 * x3) := by ac_rfl
    have e2 : k * x4 * T * (dT i * x5) = (k * T * dT i) * (x4 * x5) := by ac_rfl
    rw [e1, e2, e]
  · have e : 2 ^ (S - 2) * 2 ^ v * 2 ^ (S - 2 + v + upB) = 2 ^ t * 2 ^ (130 + s + u + (S - 2 + v)) := by
      rw [← Nat.pow_add, ← Nat.pow_add, ← Nat.pow_add]
      exact congrArg (fun z : Nat => 2 ^ z) (by omega)
    generalize 10 ^ (-P).toNat = T at *
    generalize 10 ^ P.toNat = T' at *
    generalize 2 ^ (S - 2) = x1 at *
    generalize 2 ^ u = x2 at *
    generalize 2 ^ v = x6 at *
    generalize 2 ^ (S - 2 + v + upB) = x3 at *
    generalize 2 ^ t = x4 at *
    generalize 2 ^ (130 + s + u + (S - 2 + v)) = x5 at *
    have e1 : W * x1 * nT i * (T * x2 * x3) = (W * x1 * x3) * (nT i * T * x2) := by ac_rfl
    have e2 : W * x4 * T' * (dT i * x5) = (W * T' * dT i) * (x4 * x5) := by ac_rfl
    have e3 : (W * x1 * x3) * (dT i * T' * x6) = (W * T' * dT i) * (x1 * x6 * x3) := by ac_rfl
    rw [e1, hid, e2, e3, e]
/-- the power of ten and the shift for a number's last place E -/
def powB (E : Int) : Bool := decide (10 ^ (E * 78913 / 262144).toNat * 2 ^ (-E).toNat ≤ 10 ^ (-(E * 78913 / 262144)).toNat * 2 ^ E.toNat)
def powC (E : Int) : Bool := decide (4 * (10 ^ ((E * 631305 - 261663) / 2097152).toNat * 2 ^ (-E).toNat) ≤ 3 * (10 ^ (-((E * 631305 - 261663) / 2097152)).toNat * 2 ^ E.toNat))
theorem powAll : (List.range 2046).all (fun j => powB ((j : Int) - 1074) && powC ((j : Int) - 1074)) = true := by kernel_rfl
theorem pow_at (E : Int) (h0 : -1074 ≤ E) (h1 : E ≤ 971) : powB E = true ∧ powC E = true := by
  have := List.all_eq_true.1 powAll (E + 1074).toNat (List.mem_range.2 (by omega))
  rw [show (((E + 1074).toNat : Nat) : Int) - 1074 = E by omega] at this
  simpa using this
/-- the number that is picked lies between -/
theorem pick (Q Amin Am Amax o : Nat) (hQ : 0 < Q) (ho : o ≤ 1) (hA0 : 0 < Amin) (h1 : Amin < Am) (hs1 : Amax + 2 * Amin ≤ 3 * Am) (hs2 : 2 * Am ≤ Amax + Amin) (hw : Amin + 4 * Q ≤ Amax)
    (hodd : o = 1 → Amin + 4 * Q < Amax ∨ ∃ n, Amin < n * (4 * Q) ∧ n * (4 * Q) < Amax) (k : Nat)
    (hk : k = if (unr Amin Q + o + 3) / 4 ≤ (unr Amax Q - o) / 4 / 10 * 10 then (unr Amax Q - o) / 4 / 10 * 10 else if (unr Amin Q + o + 3) / 4 < (unr Amax Q - o) / 4 then rnd (unr Am Q) else (unr Amin Q + o + 3) / 4) :
    (Amin ≤ k * (4 * Q) ∧ k * (4 * Q) ≤ Amax) ∧ (o = 1 → Amin < k * (4 * Q) ∧ k * (4 * Q) < Amax) := by
  have hdn : ∀ n, (unr Amin Q + o + 3) / 4 ≤ n ↔ (if o = 1 then Amin < n * (4 * Q) else Amin ≤ n * (4 * Q)) := fun n => by
    have ho2 : o = 0 ∨ o = 1 := by omega
    rcases ho2 with rfl | rfl
    · simp only [Nat.add_zero, Nat.zero_ne_one, if_false]; exact r_ceil Amin Q hQ n
    · simp only [if_true]; exact r_above Amin Q hQ n
  have hdx : ∀ n, n ≤ (unr Amax Q - o) / 4 ↔ (if o = 1 then n * (4 * Q) < Amax else n * (4 * Q) ≤ Amax) := fun n => by
    have ho2 : o = 0 ∨ o = 1 := by omega
    rcases ho2 with rfl | rfl
    · simp only [Nat.sub_zero, Nat.zero_ne_one, if_false]; exact r_under Amax Q hQ n
    · simp only [if_true]; exact r_below Amax Q hQ (by omega) n
  obtain ⟨dn, hdne⟩ : ∃ dn, dn = (unr Amin Q + o + 3) / 4 := ⟨_, rfl⟩
  obtain ⟨dx, hdxe⟩ : ∃ dx, dx = (unr Amax Q - o) / 4 := ⟨_, rfl⟩
  rw [← hdne, ← hdxe] at hk
  rw [← hdne] at hdn
  rw [← hdxe] at hdx
  obtain ⟨P, hP⟩ : ∃ P, P = 4 * Q := ⟨_, rfl⟩
  rw [← hP] at hw hodd hdn hdx ⊢
  -- it is enough that dn ≤ k ≤ dx
  suffices hkk : dn ≤ k ∧ k ≤ dx by
    have a := (hdn k).1 hkk.1
    have b := (hdx k).1 hkk.2
    by_cases h : o = 1
    · rw [if_pos h] at a b
      exact ⟨⟨by omega, by omega⟩, fun _ => ⟨a, b⟩⟩
    · rw [if_neg h] at a b
      exact ⟨⟨a, b⟩, fun h' => absurd h' h⟩
  have mono : ∀ n, (n + 1) * P = n * P + P := fun n => by rw [Nat.add_mul, Nat.one_mul]
  by_cases c1 : dn ≤ dx / 10 * 10
  · rw [if_pos c1] at hk
    omega
  · rw [if_neg c1] at hk
    by_cases c2 : dn < dx
    · rw [if_pos c2] at hk
      obtain ⟨q1, q2, _⟩ := r_round Am Q hQ
      rw [← hk, ← hP] at q1 q2
      refine ⟨?_, ?_⟩
      · apply Nat.le_of_not_lt
        intro hlt
        have n1 := (hdx (k + 2)).1 (by omega)
        have n3 : ¬ dn ≤ k := by omega
        rw [hdn k] at n3
        have e2 : (k + 2) * P = k * P + P + P := by rw [Nat.add_mul]; omega
        rw [e2] at n1
        split at n1 <;> split at n3 <;> omega
      · apply Nat.le_of_not_lt
        intro hlt
        obtain ⟨k', rfl⟩ : ∃ k', k = k' + 2 := ⟨k - 2, by omega⟩
        have n1 := (hdn k').1 (by omega)
        have n3 : ¬ k' + 2 ≤ dx := by omega
        rw [hdx (k' + 2)] at n3
        have e2 : (k' + 2) * P = k' * P + P + P := by rw [Nat.add_mul]; omega
        rw [e2] at n3 q1 q2
        split at n1 <;> split at n3 <;> omega
    · rw [if_neg c2] at hk
      rw [hk]
      refine ⟨Nat.le_refl _, ?_⟩
      -- there is a whole number between
      have hex : ∃ n, dn ≤ n ∧ n ≤ dx := by
        by_cases h : o = 1
        · rcases hodd h with hh | ⟨n, ha, hb⟩
          · refine ⟨dx, ?_, Nat.le_refl _⟩
            rw [hdn dx, if_pos h]
            have n3 : ¬ dx + 1 ≤ dx := by omega
            rw [hdx (dx + 1), if_pos h, mono] at n3
            omega
          · exact ⟨n, by rw [hdn n, if_pos h]; exact ha, by rw [hdx n, if_pos h]; exact hb⟩
        · refine ⟨dx, ?_, Nat.le_refl _⟩
          rw [hdn dx, if_neg h]
          have n3 : ¬ dx + 1 ≤ dx := by omega
          rw [hdx (dx + 1), if_neg h, mono] at n3
          omega
      obtain ⟨n, ha, hb⟩ := hex
      omega
end Go.Proofs.YtbjengfoaobdbaaGreatDoor.fpm

/- A positive float's digits lie in its interval. Plain. -/
namespace Go.Proofs.YtbjengfoaobdbaaGreatDoor.fpm
open Go Go.RowKit Go.Proofs.YtbjengfoaobdbaaGreatDoor.prnw

theorem ft_range (X : Nat) (hX0 : 0 < X) (hX : X < 9218868437227405312) : 1 ≤ ftM X ∧ ftM X < 9007199254740992 ∧ -1074 ≤ ftE X - 52 ∧ ftE X - 52 ≤ 971 ∧ (ftM X < 4503599627370496 → ftE X - 52 = -1074) := by
  obtain ⟨a, b⟩ := ftM_pos X hX0
  unfold ftM ftE at *
  split at a
  · rename_i h
    rw [if_pos h] at b ⊢
    rw [if_pos h]
    omega
  · rename_i h
    rw [if_neg h] at b ⊢
    rw [if_neg h]
    omega
theorem bl_norm (M : Nat) (h1 : 4503599627370496 ≤ M) (h2 : M < 9007199254740992) : Lib.bitLen M = 53 := by
  obtain ⟨a, b, c, d⟩ := bl_bd 64 M (by omega) (by omega)
  change 2 ^ (Lib.bitLen M - 1) ≤ M at c
  change M < 2 ^ Lib.bitLen M at d
  have h53 : ¬ Lib.bitLen M ≤ 52 := fun h => by
    have := Nat.pow_le_pow_right (show 0 < 2 by decide) h
    have e : (2 : Nat) ^ 52 = 4503599627370496 := by decide
    omega
  have h54 : ¬ 54 ≤ Lib.bitLen M := fun h => by
    have := Nat.pow_le_pow_right (show 0 < 2 by decide) (show 53 ≤ Lib.bitLen M - 1 by omega)
    have e : (2 : Nat) ^ 53 = 9007199254740992 := by decide
    omega
  omega
theorem bl_sub (M : Nat) (h0 : 1 ≤ M) (h1 : M < 4503599627370496) : Lib.bitLen M ≤ 52 := by
  obtain ⟨a, b, c, d⟩ := bl_bd 64 M (by omega) (by omega)
  change 2 ^ (Lib.bitLen M - 1) ≤ M at c
  apply Nat.le_of_not_lt
  intro h
  have := Nat.pow_le_pow_right (show 0 < 2 by decide) (show 52 ≤ Lib.bitLen M - 1 by omega)
  have e : (2 : Nat) ^ 52 = 4503599627370496 := by decide
  omega
def powS (E : Int) : Bool := decide (E = 0) || decide (10 ^ (E * 78913 / 262144).toNat * 2 ^ (-E).toNat < 10 ^ (-(E * 78913 / 262144)).toNat * 2 ^ E.toNat)
theorem powSAll : (List.range 2046).all (fun j => powS ((j : Int) - 1074)) = true := by kernel_rfl
theorem powS_at (E : Int) (h0 : -1074 ≤ E) (h1 : E ≤ 971) : powS E = true := by
  have := List.all_eq_true.1 powSAll (E + 1074).toNat (List.mem_range.2 (by omega))
  rw [show (((E + 1074).toNat : Nat) : Int) - 1074 = E by omega] at this
  exact this
/-- the width of an interval, scaled -/
theorem width (P E : Int) (W c : Nat) (hE : -1074 ≤ E) (h : c * (10 ^ (-P).toNat * 2 ^ (-E).toNat) ≤ W * (10 ^ P.toNat * 2 ^ E.toNat)) (hc : c = 4) : 1 * 2 ^ upB * 10 ^ (-P).toNat ≤ W * 2 ^ (E + 1074).toNat * 10 ^ P.toNat := by
  subst hc
  have hB := upB_eq
  obtain ⟨t, ht⟩ : ∃ t, t = 1074 - (-E).toNat := ⟨_, rfl⟩
  have e1 : 2 ^ upB = 4 * (2 ^ (-E).toNat * 2 ^ t) := by
    rw [show (4 : Nat) = 2 ^ 2 by decide, ← Nat.pow_add, ← Nat.pow_add]
    exact congrArg (fun z : Nat => 2 ^ z) (by omega)
  have e2 : 2 ^ (E + 1074).toNat = 2 ^ E.toNat * 2 ^ t := by
    rw [← Nat.pow_add]
    exact congrArg (fun z : Nat => 2 ^ z) (by omega)
  rw [e1, e2]
  generalize 10 ^ (-P).toNat = x1 at *
  generalize 10 ^ P.toNat = x2 at *
  generalize 2 ^ (-E).toNat = x3 at *
  generalize 2 ^ E.toNat = x4 at *
  generalize 2 ^ t = x5 at *
  have := Nat.mul_le_mul_right x5 h
  have a1 : 1 * (4 * (x3 * x5)) * x1 = 4 * (x1 * x3) * x5 := by rw [Nat.one_mul]; ac_rfl
  have a2 : W * (x4 * x5) * x2 = W * (x2 * x4) * x5 := by ac_rfl
  rw [a1, a2]
  exact this
theorem width_lt (P E : Int) (hE : -1074 ≤ E) (h : 10 ^ (-P).toNat * 2 ^ (-E).toNat < 10 ^ P.toNat * 2 ^ E.toNat) : 1 * 2 ^ upB * 10 ^ (-P).toNat < 4 * 2 ^ (E + 1074).toNat * 10 ^ P.toNat := by
  have hB := upB_eq
  obtain ⟨t, ht⟩ : ∃ t, t = 1074 - (-E).toNat := ⟨_, rfl⟩
  have e1 : 2 ^ upB = 4 * (2 ^ (-E).toNat * 2 ^ t) := by
    rw [show (4 : Nat) = 2 ^ 2 by decide, ← Nat.pow_add, ← Nat.pow_add]
    exact congrArg (fun z : Nat => 2 ^ z) (by omega)
  have e2 : 2 ^ (E + 1074).toNat = 2 ^ E.toNat * 2 ^ t := by
    rw [← Nat.pow_add]
    exact congrArg (fun z : Nat => 2 ^ z) (by omega)
  have h5 : 0 < 2 ^ t := Nat.two_pow_pos t
  rw [e1, e2]
  generalize 10 ^ (-P).toNat = x1 at *
  generalize 10 ^ P.toNat = x2 at *
  generalize 2 ^ (-E).toNat = x3 at *
  generalize 2 ^ E.toNat = x4 at *
  generalize 2 ^ t = x5 at *
  have := (Nat.mul_lt_mul_right h5).2 h
  have a1 : 1 * (4 * (x3 * x5)) * x1 = 4 * (x1 * x3 * x5) := by rw [Nat.one_mul]; ac_rfl
  have a2 : 4 * (x4 * x5) * x2 = 4 * (x2 * x4 * x5) := by ac_rfl
  rw [a1, a2]
  omega
/-- two comparisons, scaled -/
theorem le_scaled {a b c d α β : Nat} (hα : 0 < α) (hβ : 0 < β) (h1 : a * α = c * β) (h2 : b * α = d * β) : a ≤ b ↔ c ≤ d := by
  refine ⟨fun h => ?_, fun h => ?_⟩
  · have := Nat.mul_le_mul_right α h
    rw [h1, h2] at this
    exact Nat.le_of_mul_le_mul_right this hβ
  · have := Nat.mul_le_mul_right β h
    rw [← h1, ← h2] at this
    exact Nat.le_of_mul_le_mul_right this hα
end Go.Proofs.YtbjengfoaobdbaaGreatDoor.fpm

/- The digits of a positive float lie in its interval. Plain. -/
namespace Go.Proofs.YtbjengfoaobdbaaGreatDoor.fpm
open Go Go.RowKit Go.Proofs.YtbjengfoaobdbaaGreatDoor.prnw

/-- unrounded scaling at a printed number -/
theorem us_at (i s x : Nat) (h1 : 56 ≤ i) (h2 : i < 673) (hs : 5 ≤ s) (hs2 : s < 59) (hx0 : 4611686018427387904 ≤ x) (hx : x < 18446744073709551616) (hd : x % 512 = 0) :
    ∃ u : Nat, usI x (hiT i) (loT i) (s : Int) = (u : Int) ∧ u = unr (x * nT i) (dT i * 2 ^ (128 + s)) ∧ 7 ≤ u ∧ u < 9223372036854775808 := by
  obtain ⟨r1, r2, r3, r4, r5⟩ := row_spec i (by omega)
  have e := us_eq x (hiT i) (loT i) s hx r1 r2 r3 (by omega)
  have b := us_lo x (hiT i) (loT i) (s : Int) hx0 hx r1 r2 (by omega) (by omega)
  refine ⟨usN x (hiT i) (loT i) s, e, ?_, ?_, ?_⟩
  · have := us_print i s (x / 512) h1 h2 hs (by omega) (by omega)
    rw [show 512 * (x / 512) = x by omega] at this
    exact this
  · rw [e] at b; omega
  · rw [e] at b; omega
theorem ceil_n (u o : Nat) (h : u < 9223372036854775808) (ho : o ≤ 1) : ceilI (nudgeI (u : Int) (o : Int)) = (((u + o + 3) / 4 : Nat) : Int) := by
  unfold ceilI nudgeI
  rw [IntKind.wrap_u64, IntKind.wrap_u64, IntKind.wrap_u64]
  omega
theorem lt_scaled {a b c d α β : Nat} (hα : 0 < α) (hβ : 0 < β) (h1 : a * α = c * β) (h2 : b * α = d * β) : a < b ↔ c < d := by
  have := le_scaled hα hβ h2 h1
  omega
theorem floor_n (u o : Nat) (h : u < 9223372036854775808) (h7 : 7 ≤ u) (ho : o ≤ 1) : nudgeI (u : Int) (-(o : Int)) / 4 = (((u - o) / 4 : Nat) : Int) := by
  unfold nudgeI
  rw [IntKind.wrap_u64, IntKind.wrap_u64]
  omega
/-- a float's mantissa, normalized: what the code has set up -/
structure Base (M S m p2 : Nat) (E e : Int) (bd : Bool) : Prop where
  s11 : 11 ≤ S ∧ S ≤ 63
  hm : m = M * 2 ^ S
  he : e = E - S
  norm : 4503599627370496 ≤ M → S = 11 ∧ p2 = 512
  deno : M < 4503599627370496 → 12 ≤ S ∧ E = -1074
  hp2 : p2 = 2 ^ (S - 2)
  e2S : 2 ^ S = 4 * p2
  p512 : ∃ r, p2 = 512 * r ∧ 1 ≤ r
  hm4 : m = 4 * M * p2
  lo : 9223372036854775808 ≤ m
  hi : m + 4 * p2 ≤ 18446744073709551616
  hbd : bd = (decide (M = 4503599627370496) && decide (-1074 < E))
  hB : sfB (m : Int) e = bd
  hz : sfZ e = (S : Int)
  hE : -1074 ≤ E ∧ E ≤ 971
theorem sf_base (M S : Nat) (E : Int) (hM1 : 1 ≤ M) (hM2 : M < 9007199254740992) (hE0 : -1074 ≤ E) (hE1 : E ≤ 971) (hsub : M < 4503599627370496 → E = -1074) (hS : S = 64 - Lib.bitLen M) :
    ∃ m p2 e bd, Base M S m p2 E e bd := by
  obtain ⟨sl0, sl1, sl2, sl3⟩ := shl_bd M hM1 hM2
  rw [← hS] at sl2 sl3
  have hS11 : 11 ≤ S ∧ S ≤ 63 := by omega
  have hnorm : 4503599627370496 ≤ M → S = 11 := fun h => by have := bl_norm M h hM2; omega
  have hdeno : M < 4503599627370496 → 12 ≤ S := fun h => by have := bl_sub M hM1 h; omega
  obtain ⟨m, hm⟩ : ∃ m, m = M * 2 ^ S := ⟨_, rfl⟩
  rw [← hm] at sl2 sl3
  obtain ⟨e, he⟩ : ∃ e : Int, e = E - S := ⟨_, rfl⟩
  have hz : sfZ e = (S : Int) := by
    unfold sfZ
    by_cases h : M < 4503599627370496
    · have := hsub h
      have := hdeno h
      rw [if_neg (by omega)]
      omega
    · have := hnorm (by omega)
      rw [if_pos (by omega)]
      omega
  obtain ⟨p2, hp2⟩ : ∃ p2, p2 = 2 ^ (S - 2) := ⟨_, rfl⟩
  have e2S : 2 ^ S = 4 * p2 := by
    rw [hp2, show (4 : Nat) = 2 ^ 2 by decide, ← Nat.pow_add]
    exact congrArg (fun z : Nat => 2 ^ z) (by omega)
  have hp512 : ∃ r, p2 = 512 * r ∧ 1 ≤ r := ⟨2 ^ (S - 11), by
    rw [hp2, show (512 : Nat) = 2 ^ 9 by decide, ← Nat.pow_add]
    exact congrArg (fun z : Nat => 2 ^ z) (by omega), Nat.two_pow_pos _⟩
  have hm4 : m = 4 * M * p2 := by rw [hm, e2S, ← Nat.mul_assoc, Nat.mul_comm M 4]
  -- is it the lower end of a binade?
  obtain ⟨bd, hbd⟩ : ∃ bd : Bool, bd = (decide (M = 4503599627370496) && decide (-1074 < E)) := ⟨_, rfl⟩
  have hB : sfB (m : Int) e = bd := by
    rw [hbd]
    unfold sfB
    by_cases h : M < 4503599627370496
    · have h1 := hsub h
      have h2 := hdeno h
      rw [decide_eq_false (show ¬ -1085 < e by omega), decide_eq_false (show ¬ M = 4503599627370496 by omega), Bool.and_false, Bool.false_and]
    · have h1 := hnorm (by omega)
      have h2 : p2 = 512 := by rw [hp2, h1]
      have h3 : ((m : Int) == 9223372036854775808) = decide (M = 4503599627370496) := by
        rw [Bool.eq_iff_iff, beq_iff_eq, decide_eq_true_eq]
        rw [h2] at hm4
        omega
      have h4 : decide (-1085 < e) = decide (-1074 < E) := by
        rw [Bool.eq_iff_iff, decide_eq_true_eq, decide_eq_true_eq]
        omega
      rw [h3, h4]
  refine ⟨m, p2, e, bd, hS11, hm, he, fun h => ⟨hnorm h, ?_⟩, fun h => ⟨hdeno h, hsub h⟩, hp2, e2S, hp512, hm4, sl2, ?_, hbd, hB, hz, hE0, hE1⟩
  · rw [hp2, hnorm h]
  · obtain ⟨b1, b2, b3, b4⟩ := bl_bd 64 M (by omega) (by omega)
    change M < 2 ^ Lib.bitLen M at b4
    have h1 : (M + 1) * 2 ^ S ≤ 2 ^ Lib.bitLen M * 2 ^ S := Nat.mul_le_mul_right _ b4
    rw [← Nat.pow_add, show Lib.bitLen M + S = 64 by omega] at h1
    rw [hm, ← e2S, ← Nat.succ_mul]
    exact h1
end Go.Proofs.YtbjengfoaobdbaaGreatDoor.fpm

/- The set-up of shortFloat: power, shift, ends. Plain. -/
namespace Go.Proofs.YtbjengfoaobdbaaGreatDoor.fpm
open Go Go.RowKit Go.Proofs.YtbjengfoaobdbaaGreatDoor.prnw

theorem ba_P {M S m p2 : Nat} {E e : Int} {bd : Bool} (b : Base M S m p2 E e bd) : sfP (m : Int) e = if bd then -((E * 631305 - 261663) / 2097152) else -(E * 78913 / 262144) := by
  have h1 := b.he
  have hE := b.hE
  unfold sfP
  rw [b.hB, b.hz, show e + (S : Int) = E by omega]
  cases hb : bd
  · rfl
  · have hbd := b.hbd
    rw [hb] at hbd
    have hb2 := hbd.symm
    rw [Bool.and_eq_true, decide_eq_true_eq, decide_eq_true_eq] at hb2
    have := (b.norm (by omega)).1
    rw [show e + 11 = E by omega]
theorem ba_rng (E P : Int) (S : Nat) (bd : Bool) (h0 : -1074 ≤ E) (h1 : E ≤ 971) (hS : 11 ≤ S) (hP : P = if bd then -((E * 631305 - 261663) / 2097152) else -(E * 78913 / 262144)) :
    -292 ≤ P ∧ P ≤ 324 ∧ 5 ≤ (S : Int) - 3 - E - P * 108853 / 32768 := by
  cases bd
  · simp only [Bool.false_eq_true, if_false] at hP
    omega
  · simp only [if_true] at hP
    omega
theorem ba_W {M S m p2 : Nat} {E e : Int} {bd : Bool} (b : Base M S m p2 E e bd) : loQ M E = if bd then 4 * M - 1 else 4 * M - 2 := by
  rw [b.hbd]
  unfold loQ
  by_cases h : M = 4503599627370496 ∧ -1074 < E
  · rw [if_pos h, if_pos (by rw [Bool.and_eq_true, decide_eq_true_eq, decide_eq_true_eq]; exact h)]
  · rw [if_neg h, if_neg (by rw [Bool.and_eq_true, decide_eq_true_eq, decide_eq_true_eq]; exact h)]
theorem pw_half (S p2 : Nat) (hS : 11 ≤ S) (hp2 : p2 = 2 ^ (S - 2)) : (2 : Int) ^ (((S : Int)).toNat - 1) = ((2 * p2 : Nat) : Int) := by
  have : 2 * p2 = 2 ^ (S - 1) := by
    rw [hp2, show S - 1 = (S - 2) + 1 by omega, Nat.pow_succ, Nat.mul_comm 2]
  rw [this, show ((S : Int)).toNat - 1 = S - 1 by omega]
  simp
theorem ba_Mx {M S m p2 : Nat} {E e : Int} {bd : Bool} (b : Base M S m p2 E e bd) : sfMx (m : Int) e = ((m + 2 * p2 : Nat) : Int) := by
  have h1 := b.he
  have hE := b.hE
  have h2 := b.hi
  have h3 := b.lo
  obtain ⟨r, h4, h5⟩ := b.p512
  unfold sfMx
  by_cases h : M < 4503599627370496
  · have h6 := b.deno h
    rw [if_neg (by omega), b.hz, pw_half S p2 b.s11.1 b.hp2, IntKind.wrap_u64, IntKind.wrap_u64]
    omega
  · have h6 := b.norm (by omega)
    rw [if_pos (by omega), IntKind.wrap_u64]
    omega
theorem ba_Mn {M S m p2 : Nat} {E e : Int} {bd : Bool} (b : Base M S m p2 E e bd) : sfMn (m : Int) e = (((if bd then m - p2 else m - 2 * p2) : Nat) : Int) := by
  have h1 := b.he
  have hE := b.hE
  have h2 := b.hi
  have h3 := b.lo
  obtain ⟨r, h4, h5⟩ := b.p512
  unfold sfMn
  rw [b.hB]
  cases hb : bd
  · simp only [Bool.false_eq_true, if_false]
    by_cases h : M < 4503599627370496
    · have h6 := b.deno h
      have h7 : 4 * p2 ≤ m := by
        rw [b.hm4, Nat.mul_assoc, Nat.mul_left_comm]
        have : 1 ≤ M := by
          have := b.hm4
          by_cases h0 : M = 0
          · rw [h0] at this; omega
          · omega
        exact Nat.le_mul_of_pos_left _ this
      rw [if_neg (by omega), b.hz, pw_half S p2 b.s11.1 b.hp2, IntKind.wrap_u64, IntKind.wrap_u64]
      omega
    · have h6 := b.norm (by omega)
      rw [if_pos (by omega), IntKind.wrap_u64]
      omega
  · have hbd := b.hbd
    rw [hb] at hbd
    have hb2 := hbd.symm
    rw [Bool.and_eq_true, decide_eq_true_eq, decide_eq_true_eq] at hb2
    have h6 := b.norm (by omega)
    simp only [if_true]
    rw [IntKind.wrap_u64]
    omega
theorem ba_O {M S m p2 : Nat} {E e : Int} {bd : Bool} (b : Base M S m p2 E e bd) (hM : M < 9007199254740992) : sfO (m : Int) e = ((M % 2 : Nat) : Int) := by
  unfold sfO
  rw [b.hz, show ((S : Int)).toNat = S by omega]
  have h1 : (m : Int) / 2 ^ S = (M : Int) := by
    have : ((m / 2 ^ S : Nat) : Int) = (m : Int) / 2 ^ S := by simp
    rw [← this, b.hm, Nat.mul_div_cancel _ (Nat.two_pow_pos _)]
  rw [h1]
  have h2 : wrap64 (M : Int) = (M : Int) := by
    unfold wrap64
    omega
  rw [h2]
  have := and_mask .i64 (Or.inl rfl) M 1 (by omega) (by decide)
  simpa using this
theorem ba_S {M S m p2 : Nat} {E e : Int} {bd : Bool} (b : Base M S m p2 E e bd) (P : Int) (hP : P = sfP (m : Int) e) : sfS (m : Int) e = S - 3 - E - P * 108853 / 32768 := by
  unfold sfS
  rw [← hP, b.he]
  omega
end Go.Proofs.YtbjengfoaobdbaaGreatDoor.fpm
