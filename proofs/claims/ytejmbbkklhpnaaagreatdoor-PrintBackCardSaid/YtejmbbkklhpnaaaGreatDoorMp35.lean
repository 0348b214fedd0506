/- A decimal scaled to a half and one, and rounded: plain arithmetic. No conditions but those stated. -/
import Derived.Test.YtejmbbkklhpnaaaGreatDoorMp34
import Derived.Test.YtejmbbkklhpnaaaGreatDoorMp01
import Derived.ScopeJumps
namespace Go.Proofs.YtejmbbkklhpnaaaGreatDoor.dmx
open Go.Proofs.YtejmbbkklhpnaaaGreatDoor.fpm

/-- what a shift is taken for so many digits ahead of the point -/
def powT (d : Nat) : Nat := match d with | 0 => 1 | 1 => 3 | 2 => 6 | 3 => 9 | 4 => 13 | 5 => 16 | 6 => 19 | 7 => 23 | 8 => 26 | _ => 27
theorem powT_bd (d : Nat) : 1 ≤ powT d ∧ powT d ≤ 27 := by
  unfold powT
  split <;> decide
theorem powT_up : ∀ d, 1 ≤ d → 2 ^ powT d ≤ 16 * 10 ^ (d - 1)
  | 0, h => absurd h (by decide)
  | 1, _ => by decide
  | 2, _ => by decide
  | 3, _ => by decide
  | 4, _ => by decide
  | 5, _ => by decide
  | 6, _ => by decide
  | 7, _ => by decide
  | 8, _ => by decide
  | d + 9, _ => by
    have h : (10 : Nat) ^ 8 ≤ 10 ^ (d + 9 - 1) := Nat.pow_le_pow_right (by decide) (by omega)
    have h2 : 2 ^ powT (d + 9) ≤ 16 * 10 ^ 8 := by
      show 2 ^ 27 ≤ 16 * 10 ^ 8
      decide
    omega
theorem powT_dn : ∀ d, 1 ≤ d → 2 ^ powT d ≤ 10 ^ d
  | 0, h => absurd h (by decide)
  | 1, _ => by decide
  | 2, _ => by decide
  | 3, _ => by decide
  | 4, _ => by decide
  | 5, _ => by decide
  | 6, _ => by decide
  | 7, _ => by decide
  | 8, _ => by decide
  | d + 9, _ => by
    have h : (10 : Nat) ^ 9 ≤ 10 ^ (d + 9) := Nat.pow_le_pow_right (by decide) (by omega)
    have h2 : 2 ^ powT (d + 9) ≤ 10 ^ 9 := by
      show 2 ^ 27 ≤ 10 ^ 9
      decide
    omega
def tenA : Nat := 310
theorem tenA_eq : tenA = 310 := rfl
def tenB : Nat := 1669
theorem tenB_eq : tenB = 1669 := rfl
def tenC : Nat := 331
theorem tenC_eq : tenC = 331 := rfl
def twoD : Nat := 1034
theorem twoD_eq : twoD = 1034 := rfl
/-- the first loop: halves are taken until it is below one -/
structure L1 (V0 N0 n0 q0 V N n : Nat) (dp : Int) (s : Nat) : Prop where
  g : WGood N n
  m : (s = 0 ∧ n ≤ 30) ∨ N % 10 ≠ 0
  nd : (n : Int) ≤ dp + 2000
  hv : val N n dp = V
  e : V * 2 ^ s = V0
  c : s = 0 ∨ one ≤ 16 * V
  d0 : -330 ≤ dp
  d1 : dp ≤ 310
  h0 : V0 = N0 * 10 ^ q0
  hn : N0 < 10 ^ n0
  n30 : n0 ≤ 30
  b : V0 < 10 ^ tenA * one
theorem L1.s_bd {V0 N0 n0 q0 V N n s : Nat} {dp : Int} (h : L1 V0 N0 n0 q0 V N n dp s) : s ≤ 1033 := by
  rcases h.c with h0 | h1
  · omega
  · have h2 : one * 2 ^ s ≤ 16 * V0 := by
      rw [← h.e, ← Nat.mul_assoc]
      exact Nat.mul_le_mul_right _ h1
    have h3 : one * 2 ^ s < one * (16 * 10 ^ tenA) := by
      have := h.b
      rw [show one * (16 * 10 ^ tenA) = 16 * (10 ^ tenA * one) by rw [Nat.mul_comm one, Nat.mul_assoc]]
      exact Nat.lt_of_le_of_lt h2 (Nat.mul_lt_mul_of_pos_left this (by decide))
    have h4 := Nat.lt_of_mul_lt_mul_left h3
    have h5 : 16 * 10 ^ tenA ≤ 2 ^ twoD := by decide +kernel
    refine Nat.le_of_not_lt fun h6 => ?_
    have h7 : (2 : Nat) ^ twoD ≤ 2 ^ s := Nat.pow_le_pow_right (by decide) (by have := twoD_eq; omega)
    exact absurd (Nat.le_trans h5 h7) (Nat.not_le_of_lt h4)
theorem L1.n_bd {V0 N0 n0 q0 V N n s : Nat} {dp : Int} (h : L1 V0 N0 n0 q0 V N n dp s) : n ≤ 760 := by
  have hs := h.s_bd
  rcases h.m with h9 | h9
  · omega
  have h1 : N * 10 ^ (dp - (n : Int) + 2000).toNat * 2 ^ s = N0 * 10 ^ q0 := by
    rw [← h.h0, ← h.e, ← h.hv]
    rfl
  have h2 := right_n ⟨h.g, h9⟩ h.hn h1
  have := h.n30
  omega
theorem L1.step {V0 N0 n0 q0 V N n s : Nat} {dp : Int} (h : L1 V0 N0 n0 q0 V N n dp s) (hd : 0 < dp) {N' n' : Nat} {dp' : Int} (g' : DGood N' n') (nd' : (n' : Int) ≤ dp' + 2000) (hv' : val N' n' dp' = V / 2 ^ powT dp.toNat)
    (hx : V / 2 ^ powT dp.toNat * 2 ^ powT dp.toNat = V) : L1 V0 N0 n0 q0 (V / 2 ^ powT dp.toNat) N' n' dp' (s + powT dp.toNat) := by
  obtain ⟨p, hp⟩ : ∃ p : Nat, dp = (p : Int) := ⟨dp.toNat, by omega⟩
  subst hp
  rw [Int.toNat_natCast] at hv' hx ⊢
  have hV := val_ge h.g p (p - 1) h.nd (by omega)
  rw [h.hv] at hV
  have ht := powT_up p (by omega)
  obtain ⟨V', hV'⟩ : ∃ V', V / 2 ^ powT p = V' := ⟨_, rfl⟩
  rw [hV'] at hv' hx ⊢
  have hc : one ≤ 16 * V' := by
    have h1 : 10 ^ (p - 1) * one ≤ V' * (16 * 10 ^ (p - 1)) := by
      rw [← hx] at hV
      exact Nat.le_trans hV (Nat.mul_le_mul_left _ ht)
    rw [Nat.mul_comm, show V' * (16 * 10 ^ (p - 1)) = 16 * V' * 10 ^ (p - 1) by ac_rfl] at h1
    exact Nat.le_of_mul_le_mul_right h1 (Nat.pow_pos (by decide))
  have hle : V' ≤ V := by rw [← hx]; exact Nat.le_mul_of_pos_right _ (two_pos _)
  have hb1 := val_bd g'.toWGood dp' nd'
  have hb2 := val_bd h.g p h.nd
  rw [hv'] at hb1
  rw [h.hv] at hb2
  refine ⟨g'.toWGood, .inr g'.md, nd', hv', ?_, .inr hc, ?_, ?_, h.h0, h.hn, h.n30, h.b⟩
  · rw [Nat.pow_add, Nat.mul_comm (2 ^ s), ← Nat.mul_assoc, hx, h.e]
  · refine Int.not_lt.1 fun hl => ?_
    have h3 := val_small g'.toWGood dp' 2 nd' (by omega) (by decide)
    rw [hv'] at h3
    omega
  · have h4 := pow_lt_inv (Nat.lt_of_le_of_lt (Nat.le_trans hb1.1 hle) hb2.2)
    have := h.d1
    omega
/-- the second loop: it is doubled until it is a half -/
structure L2 (V0 V N n : Nat) (dp : Int) (s j : Nat) : Prop where
  g : WGood N n
  nd : (n : Int) ≤ dp + 2000
  hv : val N n dp = V
  e : V * 2 ^ s = V0 * 2 ^ j
  l : dp ≤ 0
  d0 : -330 ≤ dp
  a : (s = 0 ∧ (n : Int) - dp ≤ 361) ∨ (one * 2 ^ j ≤ 16 * V ∧ (n : Int) - dp ≤ 762)
  lo : 10 ^ tenB ≤ V0
theorem L1.two {V0 N0 n0 q0 V N n s : Nat} {dp : Int} (h : L1 V0 N0 n0 q0 V N n dp s) (hd : dp ≤ 0) (hs0 : s = 0 → n ≤ 30) (lo : 10 ^ tenB ≤ V0) : L2 V0 V N n dp s 0 := by
  refine ⟨h.g, h.nd, h.hv, by rw [h.e, Nat.pow_zero, Nat.mul_one], hd, h.d0, ?_, lo⟩
  have hn := h.n_bd
  have := h.d0
  by_cases h0 : s = 0
  · exact .inl ⟨h0, by have := hs0 h0; omega⟩
  · have h1 := h.c.resolve_left h0
    have h2 : -1 ≤ dp := by
      refine Int.not_lt.1 fun hl => ?_
      have h3 := val_small h.g dp 2 h.nd (by omega) (by decide)
      rw [h.hv] at h3
      omega
    exact .inr ⟨by rw [Nat.pow_zero, Nat.mul_one]; exact h1, by omega⟩
theorem L2.j_bd {V0 V N n s j : Nat} {dp : Int} (h : L2 V0 V N n dp s j) : j ≤ s + 1100 := by
  have hV := val_lt h.g dp 0 h.nd h.l
  rw [h.hv, Nat.pow_zero, Nat.one_mul] at hV
  refine Nat.le_of_not_lt fun hl => ?_
  obtain ⟨i, hi⟩ : ∃ i, j = s + 1100 + i := ⟨j - (s + 1100), by omega⟩
  have h1 := h.e
  rw [hi, Nat.pow_add, Nat.pow_add] at h1
  have h2 : V = V0 * 2 ^ 1100 * 2 ^ i := by
    refine Nat.eq_of_mul_eq_mul_right (two_pos s) ?_
    rw [h1]
    generalize (2 : Nat) ^ 1100 = x
    generalize (2 : Nat) ^ s = y
    generalize (2 : Nat) ^ i = z
    ac_rfl
  have h3 : one ≤ V0 * 2 ^ 1100 := by
    have h4 : one = 10 ^ tenB * 10 ^ tenC := by
      unfold one
      have he := oneE_eq
      have hb := tenB_eq
      have hc := tenC_eq
      rw [← Nat.pow_add]
      exact congrArg (fun z : Nat => 10 ^ z) (by omega)
    have h5 : (10 : Nat) ^ tenC ≤ 2 ^ 1100 := by decide +kernel
    rw [h4]
    exact Nat.mul_le_mul h.lo h5
  have h6 : V0 * 2 ^ 1100 ≤ V := by rw [h2]; exact Nat.le_mul_of_pos_right _ (two_pos i)
  omega
theorem L2.n_bd {V0 V N n s j : Nat} {dp : Int} (h : L2 V0 V N n dp s j) : n ≤ 762 := by
  have := h.l
  rcases h.a with h1 | h1 <;> omega
/-- in the second loop it may go far down only without halves taken before -/
theorem L2.far {V0 V N n s j : Nat} {dp : Int} (h : L2 V0 V N n dp s j) : (s = 0 ∧ (n : Int) - dp ≤ 361) ∨ j ≤ 3 := by
  rcases h.a with h1 | h1
  · exact .inl h1
  · refine .inr (Nat.le_of_not_lt fun hl => ?_)
    have hV := val_lt h.g dp 0 h.nd h.l
    rw [h.hv, Nat.pow_zero, Nat.one_mul] at hV
    have h2 : (2 : Nat) ^ 4 ≤ 2 ^ j := Nat.pow_le_pow_right (by decide) hl
    have h3 : one * 2 ^ 4 ≤ one * 2 ^ j := Nat.mul_le_mul_left _ h2
    omega
theorem L2.step {V0 V N n s j k : Nat} {dp : Int} (h : L2 V0 V N n dp s j) (hk : V * 2 ^ k < one) {N' n' : Nat} {dp' : Int} (g' : DGood N' n') (nd' : (n' : Int) ≤ dp' + 2000) (hv' : val N' n' dp' = V * 2 ^ k) :
    L2 V0 (V * 2 ^ k) N' n' dp' s (j + k) := by
  have hb1 := val_bd g'.toWGood dp' nd'
  have hb2 := val_bd h.g dp h.nd
  rw [hv'] at hb1
  rw [h.hv] at hb2
  have hq : N' * 10 ^ (dp' - (n' : Int) + 2000).toNat = N * 10 ^ (dp - (n : Int) + 2000).toNat * 2 ^ k := by
    have e1 : val N' n' dp' = val N n dp * 2 ^ k := by rw [hv', h.hv]
    exact e1
  have hlq := left_q g'.md hq
  have hnd := h.nd
  have hd1 : dp ≤ dp' := by
    have h1 : V ≤ V * 2 ^ k := Nat.le_mul_of_pos_right _ (two_pos k)
    have := pow_lt_inv (Nat.lt_of_le_of_lt (Nat.le_trans hb2.1 h1) hb1.2)
    have := h.d0
    omega
  have hd2 : dp' ≤ 0 := by
    refine Int.not_lt.1 fun hl => ?_
    have h3 := val_ge g'.toWGood dp' 0 nd' (by omega)
    rw [hv'] at h3
    omega
  refine ⟨g'.toWGood, nd', hv', ?_, hd2, by have := h.d0; omega, ?_, h.lo⟩
  · have := h.e
    rw [Nat.pow_add, ← Nat.mul_assoc, ← this]
    generalize 2 ^ k = y
    generalize 2 ^ s = z
    ac_rfl
  · rcases h.a with ⟨a1, a2⟩ | ⟨a1, a2⟩
    · exact .inl ⟨a1, by omega⟩
    · refine .inr ⟨?_, by omega⟩
      rw [Nat.pow_add, ← Nat.mul_assoc, ← Nat.mul_assoc]
      exact Nat.mul_le_mul_right _ a1
/-- the doubling that is chosen stays below one -/
theorem L2.small {V0 V N n s j : Nat} {dp : Int} (h : L2 V0 V N n dp s j) (hd : dp < 0) : V * 2 ^ powT (-dp).toNat < one := by
  obtain ⟨p, hp⟩ : ∃ p : Nat, -dp = (p : Int) := ⟨(-dp).toNat, by omega⟩
  rw [hp, Int.toNat_natCast]
  have h1 := val_small h.g dp p h.nd (by omega) (by have := h.d0; omega)
  rw [h.hv] at h1
  have h2 := powT_dn p (by omega)
  exact Nat.lt_of_le_of_lt (Nat.mul_le_mul_left _ h2) h1
/-- at dp = 0 the first digit tells whether it is below a half -/
theorem half_digit {N n : Nat} (g : WGood N n) (h : n ≤ 2000) : (N / 10 ^ (n - 1) < 5 → 2 * val N n 0 < one) ∧ (5 ≤ N / 10 ^ (n - 1) → one ≤ 2 * val N n 0) := by
  have h1 := g.n1
  have he := oneE_eq
  obtain ⟨c, hc⟩ : ∃ c, oneE = n + c := ⟨oneE - n, by omega⟩
  have hv : val N n 0 = N * 10 ^ c := by
    unfold val
    rw [show ((0 : Int) - (n : Int) + 2000).toNat = c by omega]
  have ho : one = 10 * 10 ^ (n - 1) * 10 ^ c := by
    unfold one
    rw [hc, Nat.pow_add, show n = n - 1 + 1 by omega, Nat.pow_succ, Nat.mul_comm (10 ^ (n - 1)) 10]
    rfl
  have hp : 0 < 10 ^ (n - 1) := Nat.pow_pos (by decide)
  rw [hv, ho]
  constructor
  · intro h2
    have h3 : N < 5 * 10 ^ (n - 1) := (Nat.div_lt_iff_lt_mul hp).1 h2
    rw [← Nat.mul_assoc]
    exact Nat.mul_lt_mul_of_pos_right (by omega) (Nat.pow_pos (by decide))
  · intro h2
    have h3 : 5 * 10 ^ (n - 1) ≤ N := (Nat.le_div_iff_mul_le hp).1 h2
    rw [← Nat.mul_assoc]
    exact Nat.mul_le_mul_right _ (by omega)
end Go.Proofs.YtejmbbkklhpnaaaGreatDoor.dmx

/- A scaled decimal, rounded, is the nearest float: plain arithmetic. No conditions but those stated. -/
namespace Go.Proofs.YtejmbbkklhpnaaaGreatDoor.dmx
open Go.Proofs.YtejmbbkklhpnaaaGreatDoor.fpm

theorem L2.v_lt {V0 V N n s j : Nat} {dp : Int} (h : L2 V0 V N n dp s j) : V < one := by
  have hV := val_lt h.g dp 0 h.nd h.l
  rw [h.hv, Nat.pow_zero, Nat.one_mul] at hV
  exact hV
theorem fb_norm {V0 V N n s j : Nat} {dp : Int} (h : L2 V0 V N n dp s j) (h2 : one ≤ 2 * V) (hj : j ≤ s + 1021) :
    nearX V0 one = (s + 1021 - j) * 4503599627370496 + rne (V * 2 ^ 53) one ∧ 4503599627370496 ≤ rne (V * 2 ^ 53) one ∧ rne (V * 2 ^ 53) one ≤ 9007199254740992 := by
  have ho := one_pos
  have hV := h.v_lt
  obtain ⟨t, ht⟩ : ∃ t, t = s + 1021 - j := ⟨_, rfl⟩
  rw [← ht]
  have h53 : (2 : Nat) ^ 53 = 9007199254740992 := by decide
  obtain ⟨a, b, c⟩ := rne_spec (V * 2 ^ 53) one ho
  have hle : rne (V * 2 ^ 53) one ≤ 9007199254740992 := rne_le ho (by rw [h53]; omega)
  have hge : 4503599627370496 ≤ rne (V * 2 ^ 53) one := by
    refine Nat.le_of_not_lt fun hl => ?_
    have h1 : rne (V * 2 ^ 53) one * one ≤ 4503599627370495 * one := Nat.mul_le_mul_right _ (by omega)
    rw [h53] at a b c h1 hl
    generalize rne (V * 9007199254740992) one * one = x at *
    generalize one = o at *
    omega
  refine ⟨(near_eq ho (near_mk V0 one one (V * 2 ^ 53) t _ ho ho ?_ a b c hle (.inr ?_))).symm, hge, hle⟩
  · have he := h.e
    have hle2 := leB_eq
    refine Nat.eq_of_mul_eq_mul_right (two_pos j) ?_
    have e1 : (2 : Nat) ^ 53 * 2 ^ t * 2 ^ j = 2 ^ s * 2 ^ leB := by
      rw [← Nat.pow_add, ← Nat.pow_add, ← Nat.pow_add]
      exact congrArg (fun z : Nat => 2 ^ z) (by omega)
    generalize (2 : Nat) ^ leB = x1 at *
    generalize (2 : Nat) ^ 53 = x2 at *
    generalize (2 : Nat) ^ t = x3 at *
    generalize (2 : Nat) ^ j = x4 at *
    generalize (2 : Nat) ^ s = x5 at *
    generalize one = o at *
    rw [show V0 * x1 * o * x4 = V0 * x4 * x1 * o by ac_rfl, ← he, show V * x2 * x3 * o * x4 = V * (x2 * x3 * x4) * o by ac_rfl, e1]
    ac_rfl
  · rw [h53]
    generalize one = o at *
    omega
theorem fb_den {V0 V N n s j n2 : Nat} {dp : Int} (h : L2 V0 V N n dp s j) (hj : j = s + 1021 + n2) (hx : V / 2 ^ n2 * 2 ^ n2 = V) :
    nearX V0 one = rne (V / 2 ^ n2 * 2 ^ 53) one ∧ rne (V / 2 ^ n2 * 2 ^ 53) one ≤ 9007199254740992 := by
  have ho := one_pos
  have hV := h.v_lt
  have h53 : (2 : Nat) ^ 53 = 9007199254740992 := by decide
  obtain ⟨a, b, c⟩ := rne_spec (V / 2 ^ n2 * 2 ^ 53) one ho
  have hle3 : V / 2 ^ n2 ≤ V := Nat.div_le_self _ _
  have hle : rne (V / 2 ^ n2 * 2 ^ 53) one ≤ 9007199254740992 := rne_le ho (by rw [h53]; omega)
  refine ⟨?_, hle⟩
  have hn := near_mk V0 one one (V / 2 ^ n2 * 2 ^ 53) 0 _ ho ho ?_ a b c hle (.inl rfl)
  · rw [Nat.zero_mul, Nat.zero_add] at hn
    exact (near_eq ho hn).symm
  · have he := h.e
    have hle2 := leB_eq
    obtain ⟨V', hV'⟩ : ∃ V', V / 2 ^ n2 = V' := ⟨_, rfl⟩
    rw [hV'] at hx ⊢
    refine Nat.eq_of_mul_eq_mul_right (two_pos j) ?_
    have e1 : (2 : Nat) ^ 53 * 2 ^ j = 2 ^ n2 * 2 ^ s * 2 ^ leB := by
      rw [← Nat.pow_add, ← Nat.pow_add, ← Nat.pow_add]
      exact congrArg (fun z : Nat => 2 ^ z) (by omega)
    rw [Nat.pow_zero, Nat.mul_one]
    rw [← hx] at he
    generalize (2 : Nat) ^ leB = x1 at *
    generalize (2 : Nat) ^ 53 = x2 at *
    generalize (2 : Nat) ^ n2 = x3 at *
    generalize (2 : Nat) ^ j = x4 at *
    generalize (2 : Nat) ^ s = x5 at *
    generalize one = o at *
    rw [show V0 * x1 * o * x4 = V0 * x4 * x1 * o by ac_rfl, ← he, show V' * x2 * o * x4 = V' * (x2 * x4) * o by ac_rfl, e1]
    ac_rfl
def twoC : Nat := 1024
theorem twoC_eq : twoC = 1024 := rfl
def twoT : Nat := 2046
theorem twoT_eq : twoT = 2046 := rfl
/-- infinity -/
def infX : Nat := 9218868437227405312
theorem near_inf : Near infX (2 ^ twoC) 1 := by
  have h := near_mk (2 ^ twoC) 1 1 4503599627370496 twoT 4503599627370496 (by decide) (by decide) (by
    rw [Nat.mul_one, Nat.mul_one, show (4503599627370496 : Nat) = 2 ^ 52 from rfl, ← Nat.pow_add, ← Nat.pow_add]
    have := leB_eq
    have := twoC_eq
    have := twoT_eq
    exact congrArg (fun z : Nat => 2 ^ z) (by omega)) (by omega) (by omega) (fun h => by omega) (by omega) (.inr (by omega))
  exact h
theorem near_big {A B : Nat} (hB : 0 < B) (h : 2 ^ twoC * B ≤ A) : infX ≤ nearX A B :=
  near_mono (by decide) hB near_inf (near_of A B hB) (by rw [Nat.mul_one]; exact h)
def lowE : Nat := 1075
theorem near_low {A B : Nat} (hB : 0 < B) (h : A * 2 ^ lowE ≤ B) : nearX A B = 0 := by
  have h1 := near_mk A B B (A * 2 ^ leB) 0 0 hB hB (by rw [Nat.pow_zero, Nat.mul_one]) (by omega) (by
    rw [Nat.zero_mul, Nat.mul_zero, Nat.zero_add]
    have e : (2 : Nat) ^ lowE = 2 * 2 ^ leB := by rw [show lowE = leB + 1 from rfl, Nat.pow_succ, Nat.mul_comm]
    rw [e] at h
    generalize (2 : Nat) ^ leB = x at *
    rw [Nat.mul_left_comm] at h
    exact h) (fun h => by omega) (by omega) (.inl rfl)
  exact (near_eq hB h1).symm
end Go.Proofs.YtejmbbkklhpnaaaGreatDoor.dmx

/- A scope with two labels that the run jumps forward to. No conditions but those stated. -/
namespace Go.Proofs.YtejmbbkklhpnaaaGreatDoor.scp
open Go

/-- As Q; by a goto to l1: J1; to l2: J2; by no other goto. -/
def jump2 (l1 : Nat) (J1 : Act → World → Prop) (l2 : Nat) (J2 : Act → World → Prop) (Q : Exit → Act → World → Prop) : Exit → Act → World → Prop
  | .goto l', a, w => (l' = l1 ∧ J1 a w) ∨ (l' = l2 ∧ J2 a w)
  | e, a, w => Q e a w
section
variable {Q : Exit → Act → World → Prop} {a : Act} {w : World} {l1 l2 : Nat} {J1 J2 : Act → World → Prop}
end
theorem wp_scope_two {P : Program} {a : Act} {w : World} {Q : Exit → Act → World → Prop} {c r1 r2 : Code} (l1 l2 : Nat) (hf1 : findLabel c l1 = some r1) (hf2 : findLabel c l2 = some r2)
    (first : c.wp P (jump2 l1 (fun a w => r1.wp P (Exit.noGoto Q) a w) l2 (fun a w => r2.wp P (Exit.noGoto Q) a w) Q) a w) : (Code.scope c).wp P Q a w := by
  intro b k cs
  have hg1 : gotoIn l1 (.inScope c :: k) = some (.code r1 :: .inScope c :: k) := by simp [gotoIn, hf1]
  have hg2 : gotoIn l2 (.inScope c :: k) = some (.code r2 :: .inScope c :: k) := by simp [gotoIn, hf2]
  have key : ∀ (r : Code) (a : Act) (w : World), r.wp P (Exit.noGoto Q) a w → ∃ e a' w', Q e a' w' ∧ Arrives P (lone (b.at a (.code r :: .inScope c :: k)) cs w) b k cs e a' w' := by
    intro r a w hr
    obtain ⟨e, a₁, w₁, hq, harr⟩ := hr b (.inScope c :: k) cs
    cases e with
    | normal => exact ⟨.normal, a₁, w₁, hq, Steps.trans harr (.one step_inScope)⟩
    | exit id => exact ⟨.exit id, a₁, w₁, hq, fun k' hk => harr k' (by simp [exitTo, hk])⟩
    | goto l' => exact absurd hq (by simp [Exit.noGoto])
    | ret => exact ⟨_, a₁, w₁, hq, harr⟩
    | panic ch => exact ⟨_, a₁, w₁, hq, harr⟩
    | outgrown => exact ⟨_, a₁, w₁, hq, harr⟩
  obtain ⟨e, a₁, w₁, hq, harr⟩ := first b (.inScope c :: k) cs
  cases e with
  | normal => exact ⟨.normal, a₁, w₁, hq, .head step_scope (Steps.trans harr (.one step_inScope))⟩
  | exit id => exact ⟨.exit id, a₁, w₁, hq, fun k' hk => .head step_scope (harr k' (by simp [exitTo, hk]))⟩
  | goto l' =>
    rcases hq with ⟨rfl, hJ⟩ | ⟨rfl, hJ⟩
    · obtain ⟨e₂, a₂, w₂, hq₂, harr₂⟩ := key _ a₁ w₁ hJ
      exact ⟨e₂, a₂, w₂, hq₂, .of_steps (.head step_scope (harr _ hg1)) harr₂⟩
    · obtain ⟨e₂, a₂, w₂, hq₂, harr₂⟩ := key _ a₁ w₁ hJ
      exact ⟨e₂, a₂, w₂, hq₂, .of_steps (.head step_scope (harr _ hg2)) harr₂⟩
  | ret => exact ⟨_, a₁, w₁, hq, .of_steps (.one step_scope) harr⟩
  | panic ch => exact ⟨_, a₁, w₁, hq, .of_steps (.one step_scope) harr⟩
  | outgrown => exact ⟨_, a₁, w₁, hq, .of_steps (.one step_scope) harr⟩
end Go.Proofs.YtejmbbkklhpnaaaGreatDoor.scp
