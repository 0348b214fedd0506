/- Plain mathematics ahead of ftoa64: digits, the parts of a float. No conditions but those stated. -/
import Derived.Test.YtihhhglnnapkoaaGreatDoorPrnG
namespace Go.Proofs.YtihhhglnnapkoaaGreatDoor.prnw
open Go.RowKit
open Go.Shelf
open Go.Sort
open Go.Proofs.YtihhhglnnapkoaaGreatDoor.nodew
open Go.Proofs.YtihhhglnnapkoaaGreatDoor.chkw

theorem pow_nDigits (u : Nat) (h : 1 ≤ u) : 10 ^ (Lib.nDigits u - 1) ≤ u := by
  induction u using Nat.strongRecOn with
  | _ u ih =>
    by_cases h1 : u < 10
    · rw [Lib.nDigits_small h1]; simpa using h
    · have h2 := ih (u / 10) (by omega) (by omega)
      have h3 := Lib.nDigits_pos (u / 10)
      rw [Lib.nDigits_big h1, show Lib.nDigits (u / 10) + 1 - 1 = (Lib.nDigits (u / 10) - 1) + 1 by omega, Nat.pow_succ]
      omega
theorem dg_first (u : Nat) (h : 1 ≤ u) : Lib.dg u (Lib.nDigits u - 1 - 0) ≠ 48 := by
  have h1 := pow_nDigits u h
  have h2 := Lib.lt_pow_nDigits u
  have h3 := Lib.nDigits_pos u
  obtain ⟨k, hk⟩ : ∃ k, Lib.nDigits u = k + 1 := ⟨Lib.nDigits u - 1, by omega⟩
  rw [hk] at h1 h2 ⊢
  rw [show k + 1 - 1 = k by omega] at h1
  rw [show k + 1 - 1 - 0 = k by omega]
  rw [Nat.pow_succ] at h2
  have p : 0 < 10 ^ k := Nat.pow_pos (by decide)
  have q1 : 1 ≤ u / 10 ^ k := (Nat.le_div_iff_mul_le p).2 (by omega)
  have q2 : u / 10 ^ k < 10 := Nat.div_lt_of_lt_mul h2
  unfold Lib.dg
  intro e
  have e2 := congrArg UInt8.toNat e
  rw [UInt8.toNat_ofNat', Nat.mod_eq_of_lt q2] at e2
  have : (48 : UInt8).toNat = 48 := rfl
  omega
theorem trim_pos (u : Nat) (h : 1 ≤ u) : ∀ n, 1 ≤ n → 1 ≤ trimTo u n
  | 0, h0 => by omega
  | 1, _ => by
    unfold trimTo
    rw [if_neg (dg_first u h)]
    exact Nat.le_refl _
  | n + 2, _ => by
    unfold trimTo
    split
    · exact trim_pos u h (n + 1) (by omega)
    · omega
theorem dg_digit (u j : Nat) : 48 ≤ (Lib.dg u j).toNat ∧ (Lib.dg u j).toNat ≤ 57 := by
  unfold Lib.dg
  rw [UInt8.toNat_ofNat']
  omega
/-- the first digit, and the others that count -/
def sdH (u : Nat) : UInt8 := Lib.dg u (Lib.nDigits u - 1)
def sdL (u : Nat) : List UInt8 := (List.range (trimTo u (Lib.nDigits u) - 1)).map fun t => Lib.dg u (Lib.nDigits u - 1 - (t + 1))
theorem sdL_len (u : Nat) (h : 1 ≤ u) : (sdL u).length + 1 = trimTo u (Lib.nDigits u) := by
  have := trim_pos u h _ (Lib.nDigits_pos u)
  unfold sdL
  rw [List.length_map, List.length_range]
  omega
theorem sd_at (u j : Nat) (b : UInt8) (h : (sdH u :: sdL u)[j]? = some b) (hu : 1 ≤ u) : j < Lib.nDigits u ∧ b = Lib.dg u (Lib.nDigits u - 1 - j) := by
  have ht := trim_le u (Lib.nDigits u)
  have hl := sdL_len u hu
  cases j with
  | zero =>
    rw [List.getElem?_cons_zero] at h
    exact ⟨Lib.nDigits_pos u, (Option.some.inj h).symm⟩
  | succ j =>
    rw [List.getElem?_cons_succ] at h
    obtain ⟨hj, he⟩ := List.getElem?_eq_some_iff.1 h
    refine ⟨by omega, ?_⟩
    rw [← he]
    simp [sdL]
theorem and_mask (k : IntKind) (hk : k = .i64 ∨ k = .u64) (a n : Nat) (ha : a < 9223372036854775808) (hn : n ≤ 62) : bits BinOp.and k (a : Int) ((2 ^ n - 1 : Nat) : Int) = ((a % 2 ^ n : Nat) : Int) := by
  have hp : 2 ^ n ≤ 4611686018427387904 := by
    have := Nat.pow_le_pow_right (show 0 < 2 by decide) hn
    simpa using this
  have hp0 : 0 < 2 ^ n := Nat.pow_pos (by decide)
  obtain ⟨q, hq⟩ : ∃ q, q = 2 ^ n := ⟨_, rfl⟩
  have h2 : (BitVec.ofInt 64 (a : Int)).toNat = a := by
    rw [BitVec.toNat_ofInt]
    omega
  have h3 : (BitVec.ofInt 64 ((2 ^ n - 1 : Nat) : Int)).toNat = 2 ^ n - 1 := by
    rw [BitVec.toNat_ofInt, ← hq]
    rw [← hq] at hp hp0
    omega
  have hm : a % 2 ^ n < 2 ^ n := Nat.mod_lt _ hp0
  rcases hk with rfl | rfl
  · have h : bits BinOp.and IntKind.i64 (a : Int) ((2 ^ n - 1 : Nat) : Int) = IntKind.i64.wrap (((BitVec.ofInt 64 (a : Int) &&& BitVec.ofInt 64 ((2 ^ n - 1 : Nat) : Int)).toNat : Nat) : Int) := rfl
    rw [h, BitVec.toNat_and, h2, h3, Nat.and_two_pow_sub_one_eq_mod, IntKind.wrap_i64]
    obtain ⟨r, hr⟩ : ∃ r, r = a % 2 ^ n := ⟨_, rfl⟩
    rw [← hr] at hm ⊢
    rw [← hq] at hp hm
    omega
  · have h : bits BinOp.and IntKind.u64 (a : Int) ((2 ^ n - 1 : Nat) : Int) = IntKind.u64.wrap (((BitVec.ofInt 64 (a : Int) &&& BitVec.ofInt 64 ((2 ^ n - 1 : Nat) : Int)).toNat : Nat) : Int) := rfl
    rw [h, BitVec.toNat_and, h2, h3, Nat.and_two_pow_sub_one_eq_mod, IntKind.wrap_u64]
    obtain ⟨r, hr⟩ : ∃ r, r = a % 2 ^ n := ⟨_, rfl⟩
    rw [← hr] at hm ⊢
    rw [← hq] at hp hm
    omega
theorem or_top (a : Nat) (ha : a < 4503599627370496) : bits BinOp.or IntKind.u64 (a : Int) 4503599627370496 = ((a + 4503599627370496 : Nat) : Int) := by
  have h : bits BinOp.or IntKind.u64 (a : Int) 4503599627370496 = IntKind.u64.wrap (((BitVec.ofInt 64 (a : Int) ||| BitVec.ofInt 64 4503599627370496).toNat : Nat) : Int) := rfl
  have h2 : (BitVec.ofInt 64 (a : Int)).toNat = a := by
    rw [BitVec.toNat_ofInt]
    omega
  have h3 : (BitVec.ofInt 64 4503599627370496).toNat = 2 ^ 52 * 1 := by decide
  have h4 : a ||| 2 ^ 52 * 1 = 2 ^ 52 * 1 + a := by
    rw [Nat.or_comm]
    exact (Nat.two_pow_add_eq_or_of_lt (by simpa using ha) 1).symm
  rw [h, BitVec.toNat_or, h2, h3, h4, IntKind.wrap_u64]
  omega
/-- a float's mantissa and exponent -/
def ftM (X : Nat) : Nat := if X / 4503599627370496 = 0 then X % 4503599627370496 else X % 4503599627370496 + 4503599627370496
def ftE (X : Nat) : Int := if X / 4503599627370496 = 0 then -1022 else ((X / 4503599627370496 : Nat) : Int) - 1023
theorem ftM_pos (X : Nat) (h : 0 < X) : 1 ≤ ftM X ∧ ftM X < 9007199254740992 := by
  unfold ftM
  split
  · omega
  · omega
theorem bl_bd : ∀ (f x : Nat), x < 2 ^ f → 0 < x → 1 ≤ Lib.bitLenAux f x ∧ Lib.bitLenAux f x ≤ f ∧ 2 ^ (Lib.bitLenAux f x - 1) ≤ x ∧ x < 2 ^ Lib.bitLenAux f x
  | 0, x, h, h0 => by
    have : x < 1 := by simpa using h
    omega
  | f + 1, x, h, h0 => by
    rw [Lib.bitLenAux, if_neg (by omega)]
    by_cases h2 : x / 2 = 0
    · have e : x = 1 := by omega
      have : Lib.bitLenAux f (x / 2) = 0 := by
        rw [h2]
        cases f with
        | zero => rfl
        | succ f => rw [Lib.bitLenAux, if_pos rfl]
      rw [this, e]
      refine ⟨?_, ?_, ?_, ?_⟩
      · omega
      · omega
      · decide
      · decide
    · obtain ⟨a, b, c, d⟩ := bl_bd f (x / 2) (by rw [Nat.pow_succ] at h; omega) (by omega)
      obtain ⟨k, hk⟩ : ∃ k, Lib.bitLenAux f (x / 2) = k + 1 := ⟨Lib.bitLenAux f (x / 2) - 1, by omega⟩
      rw [hk] at a b c d ⊢
      rw [show k + 1 - 1 = k by omega] at c
      rw [Nat.pow_succ] at d
      refine ⟨by omega, by omega, ?_, ?_⟩
      · rw [show 1 + (k + 1) - 1 = k + 1 by omega, Nat.pow_succ]
        omega
      · rw [show 1 + (k + 1) = k + 1 + 1 by omega, Nat.pow_succ, Nat.pow_succ]
        omega
/-- a mantissa set to the left end -/
theorem shl_bd (M : Nat) (h : 1 ≤ M) (h2 : M < 9007199254740992) : 1 ≤ Lib.bitLen M ∧ Lib.bitLen M ≤ 53 ∧ 9223372036854775808 ≤ M * 2 ^ (64 - Lib.bitLen M) ∧ M * 2 ^ (64 - Lib.bitLen M) < 18446744073709551616 := by
  obtain ⟨a, b, c, d⟩ := bl_bd 64 M (by omega) (by omega)
  change 1 ≤ Lib.bitLen M at a
  change Lib.bitLen M ≤ 64 at b
  change 2 ^ (Lib.bitLen M - 1) ≤ M at c
  change M < 2 ^ Lib.bitLen M at d
  obtain ⟨L, hL⟩ : ∃ L, Lib.bitLen M = L := ⟨_, rfl⟩
  rw [hL] at a b c d ⊢
  have h53 : L ≤ 53 := by
    apply Nat.le_of_not_lt
    intro h
    have h5 := Nat.pow_le_pow_right (show 0 < 2 by decide) (show 53 ≤ L - 1 by omega)
    have : (2 : Nat) ^ 53 = 9007199254740992 := by decide
    omega
  have p : 0 < 2 ^ (64 - L) := Nat.pow_pos (by decide)
  have e1 : 2 ^ (L - 1) * 2 ^ (64 - L) = 9223372036854775808 := by
    rw [← Nat.pow_add, show L - 1 + (64 - L) = 63 by omega]
  have e2 : 2 ^ L * 2 ^ (64 - L) = 18446744073709551616 := by
    rw [← Nat.pow_add, show L + (64 - L) = 64 by omega]
  have q1 := Nat.mul_le_mul_right (2 ^ (64 - L)) c
  have q2 := (Nat.mul_lt_mul_right p).2 d
  exact ⟨a, h53, by omega, by omega⟩
end Go.Proofs.YtihhhglnnapkoaaGreatDoor.prnw
