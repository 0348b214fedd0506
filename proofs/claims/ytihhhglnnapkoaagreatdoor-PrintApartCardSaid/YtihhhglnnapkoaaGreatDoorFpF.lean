/- The digits that are printed lie in the number's interval. Plain. -/
import Derived.Test.YtihhhglnnapkoaaGreatDoorFpE
namespace Go.Proofs.YtihhhglnnapkoaaGreatDoor.fpm
open Go Go.RowKit Go.Proofs.YtihhhglnnapkoaaGreatDoor.prnw

theorem nd_id (P : Int) (h0 : -348 ≤ P) (i : Nat) (hi : i = (P + 348).toNat) (lp : Int) (hlp : lp = P * 108853 / 32768) :
    nT i * 10 ^ (-P).toNat * 2 ^ (lp - 127).toNat = dT i * 10 ^ P.toNat * 2 ^ (127 - lp).toNat := by
  have hl : lpT i = lp := by
    unfold lpT
    rw [hlp]
    congr 2
    omega
  unfold nT dT
  rw [hl]
  by_cases h : 348 ≤ i
  · rw [if_pos h, if_pos h, show i - 348 = P.toNat by omega, show (-P).toNat = 0 by omega, Nat.pow_zero, Nat.mul_one]
    ac_rfl
  · rw [if_neg h, if_neg h, show 348 - i = (-P).toNat by omega, show P.toNat = 0 by omega, show (lp - 127).toNat = 0 by omega, Nat.pow_zero, Nat.mul_one]
    ac_rfl
/-- how many binary places below one the halves of halves of the least unit are -/
def upB : Nat := 1076
theorem upB_eq : upB = 1076 := rfl
/-- a whole number of the power P against a whole number of halves: two spellings of one comparison -/
theorem scale_id (P E : Int) (h0 : -348 ≤ P) (i : Nat) (hi : i = (P + 348).toNat) (lp : Int) (hlp : lp = P * 108853 / 32768) (hE : -1074 ≤ E) (S s : Nat) (hS : 2 ≤ S) (hs : (s : Int) = S - 3 - E - lp) (k W : Nat) :
    ∃ α β : Nat, 0 < α ∧ 0 < β ∧ k * (4 * (dT i * 2 ^ (128 + s))) * α = k * 2 ^ upB * 10 ^ (-P).toNat * β ∧ W * 2 ^ (S - 2) * nT i * α = W * 2 ^ (E + 1074).toNat * 10 ^ P.toNat * β := by
  have hid := nd_id P h0 i hi lp hlp
  have hd := dT_pos i
  have hB := upB_eq
  obtain ⟨u, hu⟩ : ∃ u, u = (lp - 127).toNat := ⟨_, rfl⟩
  obtain ⟨v, hv⟩ : ∃ v, v = (127 - lp).toNat := ⟨_, rfl⟩
  obtain ⟨t, ht⟩ : ∃ t, t = (E + 1074).toNat := ⟨_, rfl⟩
  rw [← hu, ← hv] at hid
  rw [← ht]
  refine ⟨10 ^ (-P).toNat * 2 ^ u * 2 ^ (S - 2 + v + upB), dT i * 2 ^ (130 + s + u + (S - 2 + v)), ?_, ?_, ?_, ?_⟩
  · exact Nat.mul_pos (Nat.mul_pos (Nat.pow_pos (by decide)) (Nat.two_pow_pos _)) (Nat.two_pow_pos _)
  · exact Nat.mul_pos hd (Nat.two_pow_pos _)
  · have e : 4 * 2 ^ (128 + s) * 2 ^ u * 2 ^ (S - 2 + v + upB) = 2 ^ upB * 2 ^ (130 + s + u + (S - 2 + v)) := by
      rw [show (4 : Nat) = 2 ^ 2 by decide, ← Nat.pow_add, ← Nat.pow_add, ← Nat.pow_add, ← Nat.pow_add]
      exact congrArg (fun z : Nat => 2 ^ z) (by omega)
    generalize 10 ^ (-P).toNat = T at *
    generalize 2 ^ (128 + s) = x1 at *
    generalize 2 ^ u = x2 at *
    generalize 2 ^ (S - 2 + v + upB) = x3 at *
    generalize 2 ^ upB = x4 at *
    generalize 2 ^ (130 + s + u + (S - 2 + v)) = x5 at *
    have e1 : k * (4 * (dT i * x1)) * (T * x2 * x3) = (k * T * dT i) * (4 * x1 * x2 * x3) := by ac_rfl
    have e2 : k * x4 * T * (dT i * x5) = (k * T * dT i) * (x4 * x5) := by ac_rfl
    rw [e1, e2, e]
  · have e : 2 ^ (S - 2) * 2 ^ v * 2 ^ (S - 2 + v + upB) = 2 ^ t * 2 ^ (130 + s + u + (S - 2 + v)) := by
      rw [← Nat.pow_add, ← Nat.pow_add, ← Nat.pow_add]
      exact congrArg (fun z : Nat => 2 ^ z) (by omega)
    generalize 10 ^ (-P).toNat = T at *
    generalize 10 ^ P.toNat = T' at *
    generalize 2 ^ (S - 2) = x1 at *
    generalize 2 ^ u = x2 at *
    generalize 2 ^ v = x6 at *
    generalize 2 ^ (S - 2 + v + upB) = x3 at *
    generalize 2 ^ t = x4 at *
    generalize 2 ^ (130 + s + u + (S - 2 + v)) = x5 at *
    have e1 : W * x1 * nT i * (T * x2 * x3) = (W * x1 * x3) * (nT i * T * x2) := by ac_rfl
    have e2 : W * x4 * T' * (dT i * x5) = (W * T' * dT i) * (x4 * x5) := by ac_rfl
    have e3 : (W * x1 * x3) * (dT i * T' * x6) = (W * T' * dT i) * (x1 * x6 * x3) := by ac_rfl
    rw [e1, hid, e2, e3, e]
/-- the power of ten and the shift for a number's last place E -/
def powB (E : Int) : Bool := decide (10 ^ (E * 78913 / 262144).toNat * 2 ^ (-E).toNat ≤ 10 ^ (-(E * 78913 / 262144)).toNat * 2 ^ E.toNat)
def powC (E : Int) : Bool := decide (4 * (10 ^ ((E * 631305 - 261663) / 2097152).toNat * 2 ^ (-E).toNat) ≤ 3 * (10 ^ (-((E * 631305 - 261663) / 2097152)).toNat * 2 ^ E.toNat))
theorem powAll : (List.range 2046).all (fun j => powB ((j : Int) - 1074) && powC ((j : Int) - 1074)) = true := by kernel_rfl
theorem pow_at (E : Int) (h0 : -1074 ≤ E) (h1 : E ≤ 971) : powB E = true ∧ powC E = true := by
  have := List.all_eq_true.1 powAll (E + 1074).toNat (List.mem_range.2 (by omega))
  rw [show (((E + 1074).toNat : Nat) : Int) - 1074 = E by omega] at this
  simpa using this
/-- the number that is picked lies between -/
theorem pick (Q Amin Am Amax o : Nat) (hQ : 0 < Q) (ho : o ≤ 1) (hA0 : 0 < Amin) (h1 : Amin < Am) (hs1 : Amax + 2 * Amin ≤ 3 * Am) (hs2 : 2 * Am ≤ Amax + Amin) (hw : Amin + 4 * Q ≤ Amax)
    (hodd : o = 1 → Amin + 4 * Q < Amax ∨ ∃ n, Amin < n * (4 * Q) ∧ n * (4 * Q) < Amax) (k : Nat)
    (hk : k = if (unr Amin Q + o + 3) / 4 ≤ (unr Amax Q - o) / 4 / 10 * 10 then (unr Amax Q - o) / 4 / 10 * 10 else if (unr Amin Q + o + 3) / 4 < (unr Amax Q - o) / 4 then rnd (unr Am Q) else (unr Amin Q + o + 3) / 4) :
    (Amin ≤ k * (4 * Q) ∧ k * (4 * Q) ≤ Amax) ∧ (o = 1 → Amin < k * (4 * Q) ∧ k * (4 * Q) < Amax) := by
  have hdn : ∀ n, (unr Amin Q + o + 3) / 4 ≤ n ↔ (if o = 1 then Amin < n * (4 * Q) else Amin ≤ n * (4 * Q)) := fun n => by
    have ho2 : o = 0 ∨ o = 1 := by omega
    rcases ho2 with rfl | rfl
    · simp only [Nat.add_zero, Nat.zero_ne_one, if_false]; exact r_ceil Amin Q hQ n
    · simp only [if_true]; exact r_above Amin Q hQ n
  have hdx : ∀ n, n ≤ (unr Amax Q - o) / 4 ↔ (if o = 1 then n * (4 * Q) < Amax else n * (4 * Q) ≤ Amax) := fun n => by
    have ho2 : o = 0 ∨ o = 1 := by omega
    rcases ho2 with rfl | rfl
    · simp only [Nat.sub_zero, Nat.zero_ne_one, if_false]; exact r_under Amax Q hQ n
    · simp only [if_true]; exact r_below Amax Q hQ (by omega) n
  obtain ⟨dn, hdne⟩ : ∃ dn, dn = (unr Amin Q + o + 3) / 4 := ⟨_, rfl⟩
  obtain ⟨dx, hdxe⟩ : ∃ dx, dx = (unr Amax Q - o) / 4 := ⟨_, rfl⟩
  rw [← hdne, ← hdxe] at hk
  rw [← hdne] at hdn
  rw [← hdxe] at hdx
  obtain ⟨P, hP⟩ : ∃ P, P = 4 * Q := ⟨_, rfl⟩
  rw [← hP] at hw hodd hdn hdx ⊢
  -- it is enough that dn ≤ k ≤ dx
  suffices hkk : dn ≤ k ∧ k ≤ dx by
    have a := (hdn k).1 hkk.1
    have b := (hdx k).1 hkk.2
    by_cases h : o = 1
    · rw [if_pos h] at a b
      exact ⟨⟨by omega, by omega⟩, fun _ => ⟨a, b⟩⟩
    · rw [if_neg h] at a b
      exact ⟨⟨a, b⟩, fun h' => absurd h' h⟩
  have mono : ∀ n, (n + 1) * P = n * P + P := fun n => by rw [Nat.add_mul, Nat.one_mul]
  by_cases c1 : dn ≤ dx / 10 * 10
  · rw [if_pos c1] at hk
    omega
  · rw [if_neg c1] at hk
    by_cases c2 : dn < dx
    · rw [if_pos c2] at hk
      obtain ⟨q1, q2, _⟩ := r_round Am Q hQ
      rw [← hk, ← hP] at q1 q2
      refine ⟨?_, ?_⟩
      · apply Nat.le_of_not_lt
        intro hlt
        have n1 := (hdx (k + 2)).1 (by omega)
        have n3 : ¬ dn ≤ k := by omega
        rw [hdn k] at n3
        have e2 : (k + 2) * P = k * P + P + P := by rw [Nat.add_mul]; omega
        rw [e2] at n1
        split at n1 <;> split at n3 <;> omega
      · apply Nat.le_of_not_lt
        intro hlt
        obtain ⟨k', rfl⟩ : ∃ k', k = k' + 2 := ⟨k - 2, by omega⟩
        have n1 := (hdn k').1 (by omega)
        have n3 : ¬ k' + 2 ≤ dx := by omega
        rw [hdx (k' + 2)] at n3
        have e2 : (k' + 2) * P = k' * P + P + P := by rw [Nat.add_mul]; omega
        rw [e2] at n3 q1 q2
        split at n1 <;> split at n3 <;> omega
    · rw [if_neg c2] at hk
      rw [hk]
      refine ⟨Nat.le_refl _, ?_⟩
      -- there is a whole number between
      have hex : ∃ n, dn ≤ n ∧ n ≤ dx := by
        by_cases h : o = 1
        · rcases hodd h with hh | ⟨n, ha, hb⟩
          · refine ⟨dx, ?_, Nat.le_refl _⟩
            rw [hdn dx, if_pos h]
            have n3 : ¬ dx + 1 ≤ dx := by omega
            rw [hdx (dx + 1), if_pos h, mono] at n3
            omega
          · exact ⟨n, by rw [hdn n, if_pos h]; exact ha, by rw [hdx n, if_pos h]; exact hb⟩
        · refine ⟨dx, ?_, Nat.le_refl _⟩
          rw [hdn dx, if_neg h]
          have n3 : ¬ dx + 1 ≤ dx := by omega
          rw [hdx (dx + 1), if_neg h, mono] at n3
          omega
      obtain ⟨n, ha, hb⟩ := hex
      omega
end Go.Proofs.YtihhhglnnapkoaaGreatDoor.fpm
