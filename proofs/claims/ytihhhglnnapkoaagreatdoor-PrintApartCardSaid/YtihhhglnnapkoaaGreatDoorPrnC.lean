/- Shortest digits: bounds of what unrounded scaling answers (plain), and the number itself. No conditions but those stated. -/
import Derived.Test.YtihhhglnnapkoaaGreatDoorPrnB
namespace Go.Proofs.YtihhhglnnapkoaaGreatDoor.prnw
open Go.RowKit
open Go.Proofs.YtihhhglnnapkoaaGreatDoor.nodew
open Go.Proofs.YtihhhglnnapkoaaGreatDoor.chkw

theorem or_ge (a b : Int) (ha : 0 ≤ a) (ha2 : a < 9223372036854775808) (hb : 0 ≤ b) (hb2 : b < 9223372036854775808) : a ≤ bits BinOp.or IntKind.u64 a b ∧ bits BinOp.or IntKind.u64 a b < 9223372036854775808 := by
  have h : bits BinOp.or IntKind.u64 a b = IntKind.u64.wrap (((BitVec.ofInt 64 a ||| BitVec.ofInt 64 b).toNat : Nat) : Int) := rfl
  have h1 : (BitVec.ofInt 64 a).toNat = a.toNat := by
    rw [BitVec.toNat_ofInt]
    congr 1
    omega
  have h2 : (BitVec.ofInt 64 b).toNat = b.toNat := by
    rw [BitVec.toNat_ofInt]
    congr 1
    omega
  rw [h, IntKind.wrap_u64, BitVec.toNat_or, h1, h2]
  have h3 : a.toNat ||| b.toNat < 2 ^ 63 := Nat.or_lt_two_pow (by omega) (by omega)
  have h4 : a.toNat ≤ a.toNat ||| b.toNat := Nat.left_le_or
  omega
theorem toNat_bits63 (s : Int) (h0 : 0 ≤ s) (h1 : s ≤ 63) : bits BinOp.and IntKind.i64 s 63 = s := by
  obtain ⟨n, rfl⟩ := Int.eq_ofNat_of_zero_le h0
  have hn : n < 64 := by omega
  revert hn
  revert n
  intro n _ _ hn
  have h : bits BinOp.and IntKind.i64 (n : Int) 63 = IntKind.i64.wrap (((BitVec.ofInt 64 (n : Int) &&& BitVec.ofInt 64 63).toNat : Nat) : Int) := rfl
  have h2 : (BitVec.ofInt 64 (n : Int)).toNat = n := by
    rw [BitVec.toNat_ofInt]
    omega
  have h3 : (BitVec.ofInt 64 63).toNat = 2 ^ 6 - 1 := by decide
  rw [h, BitVec.toNat_and, h2, h3, Nat.and_two_pow_sub_one_eq_mod, IntKind.wrap_i64]
  omega
/-- unrounded scaling of a big number by a normal power -/
theorem us_lo (x hi lo : Nat) (s : Int) (hx : 4611686018427387904 ≤ x) (hx2 : x < 18446744073709551616) (hh : 9223372036854775808 ≤ hi) (hh2 : hi < 18446744073709551616) (s0 : 1 ≤ s) (s1 : s ≤ 58) : 7 ≤ usI x hi lo s ∧ usI x hi lo s < 9223372036854775808 := by
  have hk := toNat_bits63 s (by omega) (by omega)
  unfold usI
  rw [hk]
  have hH : 2305843009213693952 ≤ x * hi / 18446744073709551616 := by
    have : 4611686018427387904 * 9223372036854775808 ≤ x * hi := Nat.mul_le_mul hx hh
    omega
  have hH2 : x * hi / 18446744073709551616 < 18446744073709551616 := by
    have h1 : x * hi < 18446744073709551616 * 18446744073709551616 := Nat.mul_lt_mul_of_lt_of_lt hx2 hh2
    exact Nat.div_lt_of_lt_mul h1
  obtain ⟨H, hHe⟩ : ∃ H, x * hi / 18446744073709551616 = H := ⟨_, rfl⟩
  rw [hHe] at hH hH2 ⊢
  obtain ⟨k, rfl⟩ := Int.eq_ofNat_of_zero_le (show 0 ≤ s by omega)
  rw [Int.toNat_natCast]
  have e2 : ((2 : Int) ^ k) = ((2 ^ k : Nat) : Int) := by norm_cast
  have p1 : 2 ≤ 2 ^ k := by
    have := Nat.pow_le_pow_right (show 0 < 2 by decide) (show 1 ≤ k by omega)
    simpa using this
  have p2 : 2 ^ k ≤ 288230376151711744 := by
    have := Nat.pow_le_pow_right (show 0 < 2 by decide) (show k ≤ 58 by omega)
    simpa using this
  have q : ∀ c : Nat, 2305843009213693951 ≤ c → c < 18446744073709551616 → (7 : Int) ≤ (c : Int) / 2 ^ k ∧ (c : Int) / 2 ^ k < 9223372036854775808 := fun c h1 h2 => by
    have a1 : 7 ≤ c / 2 ^ k := (Nat.le_div_iff_mul_le (by omega)).2 (by omega)
    have a2 : c / 2 ^ k < 9223372036854775808 := Nat.div_lt_of_lt_mul (by
      have : 2 * 9223372036854775808 ≤ 2 ^ k * 9223372036854775808 := Nat.mul_le_mul_right _ p1
      omega)
    rw [e2]
    have e3 : ((c : Int) / ((2 ^ k : Nat) : Int)) = ((c / 2 ^ k : Nat) : Int) := by norm_cast
    rw [e3]
    omega
  split
  · obtain ⟨a, b⟩ := q H (by omega) hH2
    have := or_ge _ 1 (by omega) b (by decide) (by decide)
    omega
  · have hw : ∃ c : Nat, IntKind.u64.wrap ((H : Int) - (if x * hi % 18446744073709551616 < x * lo / 18446744073709551616 then 1 else 0)) = (c : Int) ∧ 2305843009213693951 ≤ c ∧ c < 18446744073709551616 := by
      split
      · exact ⟨H - 1, by rw [IntKind.wrap_u64]; omega, by omega, by omega⟩
      · exact ⟨H, by rw [IntKind.wrap_u64]; omega, by omega, by omega⟩
    obtain ⟨c, hc, c1, c2⟩ := hw
    rw [hc]
    obtain ⟨a, b⟩ := q c c1 c2
    have := or_ge ((c : Int) / 2 ^ k) (if 1 < IntKind.u64.wrap (((x * hi % 18446744073709551616 : Nat) : Int) - ((x * lo / 18446744073709551616 : Nat) : Int)) then 1 else 0) (by omega) b (by split <;> decide) (by split <;> decide)
    omega
end Go.Proofs.YtihhhglnnapkoaaGreatDoor.prnw
