/- The printed digits: the model's words in plain numbers. -/
import Derived.Test.YtihhhglnnapkoaaGreatDoorPrnH
import Derived.Test.YtihhhglnnapkoaaGreatDoorFpD
namespace Go.Proofs.YtihhhglnnapkoaaGreatDoor.fpm
open Go Go.RowKit Go.Proofs.YtihhhglnnapkoaaGreatDoor.prnw

theorem or_one (a : Nat) (h : a < 18446744073709551616) : bits BinOp.or IntKind.u64 (a : Int) 1 = ((a / 2 * 2 + 1 : Nat) : Int) := by
  have e : bits BinOp.or IntKind.u64 (a : Int) 1 = IntKind.u64.wrap (((BitVec.ofInt 64 (a : Int) ||| BitVec.ofInt 64 1).toNat : Nat) : Int) := rfl
  have h2 : (BitVec.ofInt 64 (a : Int)).toNat = a := by
    rw [BitVec.toNat_ofInt]
    omega
  have h3 : (BitVec.ofInt 64 1).toNat = 1 := by decide
  have h4 : a ||| 1 = a / 2 * 2 + 1 := by
    apply Nat.eq_of_testBit_eq
    intro i
    rw [Nat.testBit_or]
    cases i with
    | zero => simp [Nat.testBit_zero]
    | succ i =>
      rw [Nat.testBit_succ, Nat.testBit_succ, Nat.testBit_succ]
      rw [show (a / 2 * 2 + 1) / 2 = a / 2 by omega]
      simp
  rw [e, BitVec.toNat_or, h2, h3, h4, IntKind.wrap_u64]
  omega
theorem or_zero (a : Nat) (h : a < 18446744073709551616) : bits BinOp.or IntKind.u64 (a : Int) 0 = (a : Int) := by
  have e : bits BinOp.or IntKind.u64 (a : Int) 0 = IntKind.u64.wrap (((BitVec.ofInt 64 (a : Int) ||| BitVec.ofInt 64 0).toNat : Nat) : Int) := rfl
  have h2 : (BitVec.ofInt 64 (a : Int)).toNat = a := by
    rw [BitVec.toNat_ofInt]
    omega
  have h3 : (BitVec.ofInt 64 0).toNat = 0 := by decide
  rw [e, BitVec.toNat_or, h2, h3, Nat.or_zero, IntKind.wrap_u64]
  omega
theorem us_eq (x hi lo s : Nat) (hx : x < 18446744073709551616) (hh : 9223372036854775808 ≤ hi) (hh2 : hi < 18446744073709551616) (hl : lo < 18446744073709551616) (hs : s < 64) : usI x hi lo (s : Int) = (usN x hi lo s : Int) := by
  have hk := toNat_bits63 (s : Int) (by omega) (by omega)
  unfold usI usN
  rw [hk, Int.toNat_natCast]
  have bH : x * hi / 18446744073709551616 < 18446744073709551616 := by
    have h1 : x * hi < 18446744073709551616 * 18446744073709551616 := Nat.mul_lt_mul_of_lt_of_lt hx hh2
    exact Nat.div_lt_of_lt_mul h1
  have bL : x * lo / 18446744073709551616 < 18446744073709551616 := by
    have h1 : x * lo < 18446744073709551616 * 18446744073709551616 := Nat.mul_lt_mul_of_lt_of_lt hx hl
    exact Nat.div_lt_of_lt_mul h1
  have bL2 : x * lo / 18446744073709551616 + 2 ≤ 18446744073709551616 := by
    have h1 : x * lo ≤ 18446744073709551615 * 18446744073709551615 := Nat.mul_le_mul (by omega) (by omega)
    omega
  have hHL : x * hi / 18446744073709551616 = 0 → ¬ x * hi % 18446744073709551616 < x * lo / 18446744073709551616 := by
    intro h0 h1
    have h2 : x * lo ≤ x * 18446744073709551615 := Nat.mul_le_mul_left x (by omega)
    have h3 : x * 9223372036854775808 ≤ x * hi := Nat.mul_le_mul_left x hh
    omega
  obtain ⟨H, hH⟩ : ∃ H, H = x * hi / 18446744073709551616 := ⟨_, rfl⟩
  obtain ⟨M, hM⟩ : ∃ M, M = x * hi % 18446744073709551616 := ⟨_, rfl⟩
  obtain ⟨L, hL⟩ : ∃ L, L = x * lo / 18446744073709551616 := ⟨_, rfl⟩
  have bM : M < 18446744073709551616 := by rw [hM]; exact Nat.mod_lt _ (by decide)
  rw [← hH] at bH
  rw [← hL] at bL bL2
  rw [← hH, ← hM, ← hL] at hHL ⊢
  have e2 : ((2 : Int) ^ s) = ((2 ^ s : Nat) : Int) := by norm_cast
  obtain ⟨z, hz⟩ : ∃ z, z = 2 ^ s := ⟨_, rfl⟩
  have pz : 0 < z := by rw [hz]; exact Nat.two_pow_pos s
  rw [e2, ← hz]
  have d1 : ((H : Int) / (z : Int)) = ((H / z : Nat) : Int) := by norm_cast
  have d2 : (((H / z : Nat) : Int) * (z : Int)) = ((H / z * z : Nat) : Int) := by norm_cast
  have dm := Nat.div_add_mod H z
  rw [Nat.mul_comm] at dm
  have bz : H / z ≤ H := Nat.div_le_self _ _
  have hw : IntKind.u64.wrap (((H / z * z : Nat) : Int)) = ((H / z * z : Nat) : Int) := by rw [IntKind.wrap_u64]; omega
  rw [d1, d2, hw]
  by_cases c1 : H % z = 0
  · rw [if_neg (by rw [bne_iff_ne]; intro h; apply h; omega), if_neg (show ¬ (H % z ≠ 0) from fun h => h c1)]
    by_cases c2 : M < L
    · have hH0 : H ≠ 0 := fun h => hHL h c2
      rw [if_pos c2, if_pos c2]
      have e3 : IntKind.u64.wrap ((H : Int) - 1) = ((H - 1 : Nat) : Int) := by rw [IntKind.wrap_u64]; omega
      have e4 : (((H - 1 : Nat) : Int) / (z : Int)) = (((H - 1) / z : Nat) : Int) := by norm_cast
      have b4 : (H - 1) / z ≤ H - 1 := Nat.div_le_self _ _
      have e5 : (1 : Int) < IntKind.u64.wrap ((M : Int) - (L : Int)) := by rw [IntKind.wrap_u64]; omega
      rw [e3, e4, if_pos e5, or_one _ (by omega)]
    · rw [if_neg c2, if_neg c2]
      have e3 : IntKind.u64.wrap ((H : Int) - 0) = (H : Int) := by rw [IntKind.wrap_u64]; omega
      have e5 : IntKind.u64.wrap ((M : Int) - (L : Int)) = (M : Int) - (L : Int) := by rw [IntKind.wrap_u64]; omega
      rw [e3, d1, e5]
      by_cases c3 : L + 1 < M
      · rw [if_pos (by omega), if_pos c3, or_one _ (by omega)]
      · rw [if_neg (by omega), if_neg c3, or_zero _ (by omega)]
  · rw [if_pos (by rw [bne_iff_ne]; intro h; apply c1; omega), if_pos (show H % z ≠ 0 from c1), or_one _ (by omega)]
theorem round_eq (u : Nat) (h : u < 9223372036854775808) : roundI (u : Int) = (rnd u : Int) := by
  unfold roundI rnd
  have e1 : IntKind.u64.wrap ((u : Int) + 1) = ((u + 1 : Nat) : Int) := by rw [IntKind.wrap_u64]; omega
  have e2 : bits BinOp.and IntKind.u64 ((u : Int) / 4) 1 = ((u / 4 % 2 : Nat) : Int) := by
    have := and_mask .u64 (.inr rfl) (u / 4) 1 (by omega) (by decide)
    have e : ((u : Int) / 4) = ((u / 4 : Nat) : Int) := by norm_cast
    rw [e]
    exact this
  rw [e1, e2, IntKind.wrap_u64]
  omega
end Go.Proofs.YtihhhglnnapkoaaGreatDoor.fpm
