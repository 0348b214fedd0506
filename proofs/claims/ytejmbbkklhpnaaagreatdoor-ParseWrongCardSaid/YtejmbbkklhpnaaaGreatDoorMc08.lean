/- What rows of tokens say when they are parsed: groups of tokens, one a statement, with ends between. Plain; no condition but those stated. -/
import Derived.Test.YtejmbbkklhpnaaaGreatDoorMc07
import Derived.Test.YtejmbbkklhpnaaaGreatDoorProg
import Derived.Test.YtejmbbkklhpnaaaGreatDoorMc01
import Derived.WalkKit
import Derived.Outline
import Derived.Deep.LoopGhost
import Derived.Laws.OwnMore
import Derived.Laws.FloatBits
import Derived.Laws.FloatArith
import Derived.Laws.Externs
import Derived.Lib.Hide
import Derived.WalkLawsBesides
import Derived.Handy
import Derived.WalkMore
import Derived.IntWalk
import Derived.BigQuiet
import Derived.Lib.BitFns
import Derived.Below
import Derived.Deep.AppendLies
import Derived.Deep.Cut
import Derived.Deep.CutBlock
import Derived.Deep.CutRange
import Derived.Deep.Draws
import Derived.Deep.MidRow
import Derived.Deep.QuietTactic
import Derived.Deep.RegionHeld3
import Derived.Deep.DeepFit
import Derived.Laws.BitsAllLaws
import Derived.Laws.Pointers
import Derived.Laws.Tables
import Derived.OwnWalk
import Derived.RegionTactic
import Derived.StillTactics
import Derived.WalkSpells
namespace Go.Proofs.YtejmbbkklhpnaaaGreatDoor.bkp
open Go.RowKit
open Go.Proofs.YtejmbbkklhpnaaaGreatDoor.parw

variable {dec : ByteArray → Nat × Nat} {en : Int}
/-- tokens that fit a form -/
def fitB (dec : ByteArray → Nat × Nat) : List Bool → List PTok → Prop
  | [], [] => True
  | b :: bs, t :: ts => t.kind = (if b then 2 else 1) ∧ (b = true → (dec t.text).2 = 0) ∧ fitB dec bs ts
  | _, _ => False
/-- what they say -/
def argsOf (dec : ByteArray → Nat × Nat) : List Bool → List PTok → List PArg
  | b :: bs, t :: ts => (if b then ⟨t.pos, (dec t.text).1, ⟨#[]⟩⟩ else ⟨t.pos, 0, t.text⟩) :: argsOf dec bs ts
  | _, _ => []
end Go.Proofs.YtejmbbkklhpnaaaGreatDoor.bkp

/- Multiprecision decimals: plain arithmetic of their digits. No conditions but those stated. -/
namespace Go.Proofs.YtejmbbkklhpnaaaGreatDoor.dmx

/-- the number that the first r of the n digits of N spell, with noughts behind -/
def preN (N n r : Nat) : Nat := N * 10 ^ r / 10 ^ n
/-- the digit at place r -/
def dgN (N n r : Nat) : Nat := N * 10 ^ (r + 1) / 10 ^ n % 10
theorem dgN_lt (N n r : Nat) : dgN N n r < 10 := Nat.mod_lt _ (by decide)
theorem pre_zero {N n : Nat} (h : N < 10 ^ n) : preN N n 0 = 0 := by
  unfold preN
  rw [Nat.pow_zero, Nat.mul_one]
  exact Nat.div_eq_of_lt h
theorem pre_all (N n : Nat) : preN N n n = N := Nat.mul_div_cancel _ (Nat.pow_pos (by decide))
theorem pre_div (N n r : Nat) : preN N n (r + 1) / 10 = preN N n r := by
  unfold preN
  rw [Nat.div_div_eq_div_mul, Nat.pow_succ, ← Nat.mul_assoc, Nat.mul_div_mul_right _ _ (by decide)]
theorem pre_succ (N n r : Nat) : preN N n (r + 1) = 10 * preN N n r + dgN N n r := by
  have h1 := pre_div N n r
  have h2 : dgN N n r = preN N n (r + 1) % 10 := rfl
  omega
theorem dg_beyond {N n r : Nat} (h : n ≤ r) : dgN N n r = 0 := by
  unfold dgN
  obtain ⟨d, rfl⟩ := Nat.exists_eq_add_of_le h
  have e : N * 10 ^ (n + d + 1) = N * 10 ^ d * 10 * 10 ^ n := by
    rw [Nat.pow_succ, Nat.pow_add]
    ac_rfl
  rw [e, Nat.mul_div_cancel _ (Nat.pow_pos (by decide))]
  exact Nat.mul_mod_left _ _
theorem pre_beyond (N n d : Nat) : preN N n (n + d) = N * 10 ^ d := by
  unfold preN
  rw [Nat.pow_add, Nat.mul_comm (10 ^ n), ← Nat.mul_assoc]
  exact Nat.mul_div_cancel _ (Nat.pow_pos (by decide))
theorem pre_mono (N n r d : Nat) : preN N n r ≤ preN N n (r + d) := by
  induction d with
  | zero => exact Nat.le_refl _
  | succ d ih =>
    have := pre_succ N n (r + d)
    rw [← Nat.add_assoc]
    omega
/-- the digit in the usual form -/
theorem dg_usual {N n r : Nat} (h : r < n) : dgN N n r = N / 10 ^ (n - 1 - r) % 10 := by
  unfold dgN
  obtain ⟨d, hd⟩ : ∃ d, n = d + (r + 1) := ⟨n - (r + 1), by omega⟩
  have e : n - 1 - r = d := by omega
  have e2 : 10 ^ n = 10 ^ d * 10 ^ (r + 1) := by rw [hd, Nat.pow_add 10 d (r + 1)]
  rw [e, e2, Nat.mul_div_mul_right _ _ (Nat.pow_pos (by decide))]

/-- the shift to the right: what is written when r digits are read -/
def quR (N n k r : Nat) : Nat := preN N n r / (10 * 2 ^ k)
def reR (N n k r : Nat) : Nat := preN N n r % (10 * 2 ^ k)
theorem two_pos (k : Nat) : 0 < 2 ^ k := Nat.pow_pos (by decide)
theorem re_lt (N n k r : Nat) : reR N n k r < 10 * 2 ^ k := Nat.mod_lt _ (Nat.mul_pos (by decide) (two_pos k))
theorem qu_div (N n k r : Nat) : quR N n k (r + 1) / 10 = quR N n k r := by
  unfold quR
  rw [Nat.div_div_eq_div_mul, Nat.mul_comm, ← Nat.div_div_eq_div_mul, pre_div]
/-- one step: the digit that is put down, and what is left -/
theorem step_R (N n k r : Nat) : quR N n k (r + 1) % 10 = reR N n k r / 2 ^ k ∧ reR N n k (r + 1) = reR N n k r % 2 ^ k * 10 + dgN N n r := by
  have hp := two_pos k
  have h1 := pre_succ N n r
  have hd := dgN_lt N n r
  obtain ⟨T, hT⟩ : ∃ T, T = 2 ^ k := ⟨_, rfl⟩
  obtain ⟨q, hq⟩ : ∃ q, q = quR N n k r := ⟨_, rfl⟩
  obtain ⟨m, hm⟩ : ∃ m, m = reR N n k r := ⟨_, rfl⟩
  have h2 : preN N n r = 10 * T * q + m := by rw [hT, hq, hm]; exact (Nat.div_add_mod _ _).symm
  obtain ⟨g, hg⟩ : ∃ g, g = m / T := ⟨_, rfl⟩
  obtain ⟨s, hs⟩ : ∃ s, s = m % T := ⟨_, rfl⟩
  have h3 : m = T * g + s := by rw [hg, hs]; exact (Nat.div_add_mod _ _).symm
  have hs2 : s < T := by rw [hs]; exact Nat.mod_lt _ (by rw [hT]; exact hp)
  have hm2 : m < 10 * T := by rw [hm, hT]; exact re_lt N n k r
  have hg2 : g < 10 := by
    rw [hg]
    exact Nat.div_lt_of_lt_mul (by rw [Nat.mul_comm]; exact hm2)
  have h4 : preN N n (r + 1) = 10 * T * (10 * q + g) + (s * 10 + dgN N n r) := by
    rw [h1, h2, h3]
    have e1 : 10 * (10 * T * q + (T * g + s)) = 10 * T * (10 * q + g) + s * 10 := by
      simp only [Nat.mul_add]
      ac_rfl
    rw [e1, Nat.add_assoc]
  have h5 : s * 10 + dgN N n r < 10 * T := by omega
  constructor
  · unfold quR
    rw [← hm, ← hT, ← hg, h4, Nat.mul_add_div (by rw [hT]; exact Nat.mul_pos (by decide) hp), Nat.div_eq_of_lt h5]
    omega
  · rw [← hm, ← hT, ← hs]
    unfold reR
    rw [← hT, h4, Nat.mul_add_mod, Nat.mod_eq_of_lt h5]
/-- at the end nothing is left -/
theorem re_end {N n k d : Nat} (h : k < d) : reR N n k (n + d) = 0 := by
  unfold reR
  rw [pre_beyond]
  obtain ⟨c, rfl⟩ : ∃ c, d = k + 1 + c := ⟨d - (k + 1), by omega⟩
  have e : N * 10 ^ (k + 1 + c) = 10 * 2 ^ k * (N * 5 ^ k * 10 ^ c) := by
    rw [Nat.pow_add, Nat.pow_succ, show (10 : Nat) ^ k = 2 ^ k * 5 ^ k by rw [← Nat.mul_pow]]
    ac_rfl
  rw [e, Nat.mul_mod_right]
theorem qu_end {N n k r : Nat} (h : reR N n k r = 0) : preN N n r = quR N n k r * (10 * 2 ^ k) := by
  have := Nat.div_add_mod (preN N n r) (10 * 2 ^ k)
  unfold reR at h
  rw [h, Nat.add_zero, Nat.mul_comm] at this
  exact this.symm
end Go.Proofs.YtejmbbkklhpnaaaGreatDoor.dmx

/- Multiprecision decimals: the shift to the left, noughts at the end, values: plain arithmetic. No conditions but those stated. -/
namespace Go.Proofs.YtejmbbkklhpnaaaGreatDoor.dmx

/-- without noughts at the end, and how many digits stay -/
def trN : Nat → Nat → Nat × Nat
  | N, 0 => (N, 0)
  | N, n + 1 => if N % 10 = 0 then trN (N / 10) n else (N, n + 1)
theorem tr_le : ∀ (n N : Nat), (trN N n).2 ≤ n
  | 0, _ => Nat.le_refl _
  | n + 1, N => by
    unfold trN
    split
    · exact Nat.le_succ_of_le (tr_le n _)
    · exact Nat.le_refl _
theorem tr_val : ∀ (n N : Nat), (trN N n).1 * 10 ^ (n - (trN N n).2) = N
  | 0, N => by simp [trN]
  | n + 1, N => by
    unfold trN
    split
    · rename_i h
      have h1 := tr_val n (N / 10)
      have h2 := tr_le n (N / 10)
      rw [show n + 1 - (trN (N / 10) n).2 = n - (trN (N / 10) n).2 + 1 by omega, Nat.pow_succ, ← Nat.mul_assoc, h1]
      omega
    · simp
theorem tr_mod : ∀ (n N : Nat), 0 < (trN N n).2 → (trN N n).1 % 10 ≠ 0
  | 0, N, h => by simp [trN] at h
  | n + 1, N, h => by
    unfold trN at h ⊢
    split
    · rename_i h0
      rw [if_pos h0] at h
      exact tr_mod n _ h
    · rename_i h0
      exact h0
theorem tr_pos : ∀ (n N : Nat), 0 < N → N < 10 ^ n → 0 < (trN N n).2
  | 0, N, h0, h => by simp at h; omega
  | n + 1, N, h0, h => by
    unfold trN
    split
    · rw [Nat.pow_succ] at h
      exact tr_pos n _ (by omega) (by omega)
    · exact Nat.succ_pos _
theorem tr_bd (n N : Nat) (h : N < 10 ^ n) : (trN N n).1 < 10 ^ (trN N n).2 := by
  have h1 := tr_val n N
  have h2 := tr_le n N
  obtain ⟨d, hd⟩ : ∃ d, n = (trN N n).2 + d := ⟨n - (trN N n).2, by omega⟩
  have e : n - (trN N n).2 = d := by omega
  rw [e] at h1
  have h3 : (trN N n).1 * 10 ^ d < 10 ^ (trN N n).2 * 10 ^ d := by
    rw [h1, ← Nat.pow_add, ← hd]
    exact h
  exact Nat.lt_of_mul_lt_mul_right h3
/-- the digits that stay are those that were -/
theorem tr_dig : ∀ (n N j : Nat), j < (trN N n).2 → (trN N n).1 / 10 ^ ((trN N n).2 - 1 - j) % 10 = N / 10 ^ (n - 1 - j) % 10
  | 0, N, j, h => by simp [trN] at h
  | n + 1, N, j, h => by
    unfold trN at h ⊢
    split
    · rename_i h0
      rw [if_pos h0] at h
      have h1 := tr_dig n (N / 10) j h
      have h2 := tr_le n (N / 10)
      have e : 10 * 10 ^ (n - 1 - j) = 10 ^ (n + 1 - 1 - j) := by
        rw [show n + 1 - 1 - j = n - 1 - j + 1 by omega, Nat.pow_succ, Nat.mul_comm]
      rw [h1, Nat.div_div_eq_div_mul, e]
    · rfl
/-- a number that is written: digits N of so many, 0.N by ten to dp; good: it begins with no nought, and ends with none -/
structure WGood (N n : Nat) : Prop where
  n1 : 1 ≤ n
  lo : 10 ^ (n - 1) ≤ N
  hi : N < 10 ^ n
structure DGood (N n : Nat) : Prop extends WGood N n where
  md : N % 10 ≠ 0
theorem tr_lo (n N : Nat) (h1 : 1 ≤ n) (h : 10 ^ (n - 1) ≤ N) (h2 : N < 10 ^ n) : DGood (trN N n).1 (trN N n).2 := by
  have hp := tr_pos n N (Nat.lt_of_lt_of_le (Nat.pow_pos (by decide)) h) h2
  refine ⟨⟨hp, ?_, tr_bd n N h2⟩, tr_mod n N hp⟩
  have a1 := tr_val n N
  have a2 := tr_le n N
  obtain ⟨d, hd⟩ : ∃ d, n = (trN N n).2 + d := ⟨n - (trN N n).2, by omega⟩
  have e : n - (trN N n).2 = d := by omega
  rw [e] at a1
  have h3 : 10 ^ ((trN N n).2 - 1) * 10 ^ d ≤ (trN N n).1 * 10 ^ d := by
    rw [a1, ← Nat.pow_add, show (trN N n).2 - 1 + d = n - 1 by omega]
    exact h
  exact Nat.le_of_mul_le_mul_right h3 (Nat.pow_pos (by decide))
/-- its value, by ten to 2000 -/
def val (N n : Nat) (dp : Int) : Nat := N * 10 ^ (dp - n + 2000).toNat
theorem val_tr (N n : Nat) (dp : Int) (h : (n : Int) ≤ dp + 2000) : val (trN N n).1 (trN N n).2 dp = val N n dp := by
  have a1 := tr_val n N
  have a2 := tr_le n N
  unfold val
  obtain ⟨d, hd⟩ : ∃ d, n = (trN N n).2 + d := ⟨n - (trN N n).2, by omega⟩
  have e : n - (trN N n).2 = d := by omega
  rw [e] at a1
  rw [show (dp - ((trN N n).2 : Int) + 2000).toNat = d + (dp - (n : Int) + 2000).toNat by omega, Nat.pow_add, ← Nat.mul_assoc, a1]
/-- the shift to the right keeps the value -/
theorem val_R (N n k r1 T : Nat) (dp : Int) (h0 : reR N n k T = 0) (hT : n ≤ T) (h1 : r1 ≤ T) (hd : (T : Int) ≤ dp + 2000) (hd1 : (n : Int) ≤ dp + 1999) :
    val (quR N n k T) (T - r1) (dp - r1 + 1) * 2 ^ k = val N n dp := by
  have hq := qu_end h0
  obtain ⟨d, rfl⟩ := Nat.exists_eq_add_of_le hT
  rw [pre_beyond] at hq
  unfold val
  obtain ⟨a, ha⟩ : ∃ a : Nat, (dp - (n : Int) + 2000).toNat = a + d := ⟨(dp - (n : Int) + 2000).toNat - d, by omega⟩
  rw [show (dp - (r1 : Int) + 1 - ((n + d - r1 : Nat) : Int) + 2000).toNat = a + 1 by omega, ha, Nat.pow_add 10 a d, Nat.pow_succ]
  generalize quR N n k (n + d) = q at *
  generalize 2 ^ k = t at *
  generalize (10 : Nat) ^ a = b at *
  generalize (10 : Nat) ^ d = c at *
  have e1 : q * (b * 10) * t = q * (10 * t) * b := by ac_rfl
  have e2 : N * (b * c) = N * c * b := by ac_rfl
  rw [e1, e2, hq]
end Go.Proofs.YtejmbbkklhpnaaaGreatDoor.dmx

/- Multiprecision decimals: the shift to the left: plain arithmetic. No conditions but those stated. -/
namespace Go.Proofs.YtejmbbkklhpnaaaGreatDoor.dmx

/-- what is carried when e digits are shifted -/
def caL (N k e : Nat) : Nat := N % 10 ^ e * 2 ^ k / 10 ^ e
theorem ca_zero (N k : Nat) : caL N k 0 = 0 := by
  unfold caL
  rw [Nat.pow_zero, Nat.mod_one, Nat.zero_mul]
theorem mod_step (N e : Nat) : N % 10 ^ (e + 1) = N / 10 ^ e % 10 * 10 ^ e + N % 10 ^ e := by
  rw [Nat.pow_succ, Nat.mod_mul, Nat.add_comm, Nat.mul_comm]
theorem step_L (N k e : Nat) : (caL N k e + N / 10 ^ e % 10 * 2 ^ k) % 10 = N * 2 ^ k / 10 ^ e % 10 ∧ (caL N k e + N / 10 ^ e % 10 * 2 ^ k) / 10 = caL N k (e + 1) := by
  have hp : 0 < 10 ^ e := Nat.pow_pos (by decide)
  have t : caL N k e + N / 10 ^ e % 10 * 2 ^ k = N % 10 ^ (e + 1) * 2 ^ k / 10 ^ e := by
    unfold caL
    rw [mod_step, Nat.add_mul, Nat.mul_assoc, Nat.mul_comm (10 ^ e), ← Nat.mul_assoc, Nat.add_comm (N / 10 ^ e % 10 * 2 ^ k * 10 ^ e), Nat.add_mul_div_right _ _ hp]
  rw [t]
  constructor
  · have e1 : N * 2 ^ k = N % 10 ^ (e + 1) * 2 ^ k + 10 * (N / 10 ^ (e + 1) * 2 ^ k) * 10 ^ e := by
      have h := Nat.div_add_mod N (10 ^ (e + 1))
      have h2 : 10 * (N / 10 ^ (e + 1) * 2 ^ k) * 10 ^ e = 10 ^ (e + 1) * (N / 10 ^ (e + 1)) * 2 ^ k := by
        rw [Nat.pow_succ]
        ac_rfl
      rw [h2, Nat.add_comm, ← Nat.add_mul, h]
    rw [e1, Nat.add_mul_div_right _ _ hp, Nat.add_mul_mod_self_left]
  · unfold caL
    rw [Nat.div_div_eq_div_mul, Nat.pow_succ]
theorem ca_all {N n : Nat} (h : N < 10 ^ n) (k e : Nat) (he : n ≤ e) : caL N k e = N * 2 ^ k / 10 ^ e := by
  unfold caL
  rw [Nat.mod_eq_of_lt (Nat.lt_of_lt_of_le h (Nat.pow_le_pow_right (by decide) he))]
theorem ca_bd (N k e : Nat) : caL N k e < 2 ^ k := by
  unfold caL
  rw [Nat.div_lt_iff_lt_mul (Nat.pow_pos (by decide)), Nat.mul_comm (2 ^ k)]
  exact Nat.mul_lt_mul_of_pos_right (Nat.mod_lt _ (Nat.pow_pos (by decide))) (two_pos k)

theorem lt_of_div {a p b q : Nat} (hp : 0 < p) (hq : 0 < q) (h : a / p < b / q) : a * q < b * p := by
  have h1 : a < (a / p + 1) * p := by
    have := Nat.lt_mul_div_succ a hp
    rw [Nat.mul_comm]
    exact this
  have h2 : (a / p + 1) * p ≤ b / q * p := Nat.mul_le_mul_right _ h
  have h3 : b / q * q ≤ b := Nat.div_mul_le_self b q
  calc a * q < b / q * p * q := Nat.mul_lt_mul_of_pos_right (Nat.lt_of_lt_of_le h1 h2) hq
    _ = b / q * q * p := Nat.mul_right_comm _ _ _
    _ ≤ b * p := Nat.mul_le_mul_right _ h3
/-- is 0.N below 0.C? -/
def lessB (N n C c : Nat) : Bool := decide (N * 10 ^ c < C * 10 ^ n)
theorem less_lt {N n C c i : Nat} (h : preN N n i = preN C c i) (hd : dgN N n i < dgN C c i) : lessB N n C c = true := by
  unfold lessB
  have h1 := pre_succ N n i
  have h2 := pre_succ C c i
  have h3 : preN N n (i + 1) < preN C c (i + 1) := by omega
  have h4 := lt_of_div (Nat.pow_pos (by decide)) (Nat.pow_pos (by decide)) h3
  rw [Nat.mul_right_comm, Nat.mul_right_comm C] at h4
  exact decide_eq_true (Nat.lt_of_mul_lt_mul_right h4)
theorem less_gt {N n C c i : Nat} (h : preN N n i = preN C c i) (hd : dgN C c i < dgN N n i) : lessB N n C c = false := by
  unfold lessB
  have h1 := pre_succ N n i
  have h2 := pre_succ C c i
  have h3 : preN C c (i + 1) < preN N n (i + 1) := by omega
  have h4 := lt_of_div (Nat.pow_pos (by decide)) (Nat.pow_pos (by decide)) h3
  rw [Nat.mul_right_comm, Nat.mul_right_comm N] at h4
  exact decide_eq_false (Nat.not_lt_of_lt (Nat.lt_of_mul_lt_mul_right h4))
theorem less_end {N n C c : Nat} (h : preN N n c = preN C c c) : lessB N n C c = false := by
  unfold lessB
  rw [pre_all] at h
  refine decide_eq_false (Nat.not_lt_of_le ?_)
  unfold preN at h
  rw [← h]
  exact Nat.div_mul_le_self _ _
theorem less_out {N n C c : Nat} (h : preN N n n = preN C c n) (hc : n < c) (hm : C % 10 ≠ 0) : lessB N n C c = true := by
  unfold lessB
  rw [pre_all] at h
  refine decide_eq_true ?_
  unfold preN at h
  have h1 : N * 10 ^ c ≤ C * 10 ^ n := by rw [h]; exact Nat.div_mul_le_self _ _
  refine Nat.lt_of_le_of_ne h1 fun e => hm ?_
  obtain ⟨d, rfl⟩ : ∃ d, c = d + 1 + n := ⟨c - n - 1, by omega⟩
  rw [Nat.pow_add, ← Nat.mul_assoc] at e
  have e2 : N * 10 ^ (d + 1) = C := Nat.eq_of_mul_eq_mul_right (Nat.pow_pos (by decide)) e
  rw [← e2, Nat.pow_succ, ← Nat.mul_assoc]
  exact Nat.mul_mod_left _ _

/-- how many digits more the shift makes -/
theorem delta_no {N n k c : Nat} (hN : N < 10 ^ n) (h1 : 10 ^ c ≤ 10 * 5 ^ k) (hc : c ≤ k + 1) (h : lessB N n (5 ^ k) c = false) :
    10 ^ (n + k) ≤ N * 2 ^ k * 10 ^ c ∧ N * 2 ^ k < 10 ^ (n + (k + 1 - c)) := by
  have h2 : 5 ^ k * 10 ^ n ≤ N * 10 ^ c := Nat.le_of_not_lt (of_decide_eq_false h)
  have ht : (10 : Nat) ^ k = 2 ^ k * 5 ^ k := by rw [← Nat.mul_pow]
  constructor
  · have : 5 ^ k * 10 ^ n * 2 ^ k ≤ N * 10 ^ c * 2 ^ k := Nat.mul_le_mul_right _ h2
    rw [Nat.pow_add, ht]
    have e1 : 10 ^ n * (2 ^ k * 5 ^ k) = 5 ^ k * 10 ^ n * 2 ^ k := by ac_rfl
    have e2 : N * 2 ^ k * 10 ^ c = N * 10 ^ c * 2 ^ k := by ac_rfl
    rw [e1, e2]
    exact this
  · have h3 : N * 2 ^ k < 10 ^ n * 2 ^ k := Nat.mul_lt_mul_of_pos_right hN (two_pos k)
    have h4 : 2 ^ k * 10 ^ c ≤ 10 ^ (k + 1 - c) * 10 ^ c := by
      rw [← Nat.pow_add, show k + 1 - c + c = k + 1 by omega, Nat.pow_succ, ht]
      have := Nat.mul_le_mul_left (2 ^ k) h1
      rw [← Nat.mul_assoc, Nat.mul_comm (2 ^ k) 10, Nat.mul_assoc, Nat.mul_comm 10] at this
      exact this
    have h5 : 2 ^ k ≤ 10 ^ (k + 1 - c) := Nat.le_of_mul_le_mul_right h4 (Nat.pow_pos (by decide))
    rw [Nat.pow_add]
    exact Nat.lt_of_lt_of_le h3 (Nat.mul_le_mul_left _ h5)
theorem delta_yes {N n k c : Nat} (hN : 10 ^ n ≤ 10 * N) (h1 : 5 ^ k < 10 ^ c) (h : lessB N n (5 ^ k) c = true) :
    N * 2 ^ k * 10 ^ c < 10 ^ (n + k) ∧ 10 ^ (n + k) ≤ 10 * (N * 2 ^ k) * 10 ^ c := by
  have h2 : N * 10 ^ c < 5 ^ k * 10 ^ n := of_decide_eq_true h
  have ht : (10 : Nat) ^ k = 2 ^ k * 5 ^ k := by rw [← Nat.mul_pow]
  constructor
  · have : N * 10 ^ c * 2 ^ k < 5 ^ k * 10 ^ n * 2 ^ k := Nat.mul_lt_mul_of_pos_right h2 (two_pos k)
    rw [Nat.pow_add, ht]
    have e1 : 10 ^ n * (2 ^ k * 5 ^ k) = 5 ^ k * 10 ^ n * 2 ^ k := by ac_rfl
    have e2 : N * 2 ^ k * 10 ^ c = N * 10 ^ c * 2 ^ k := by ac_rfl
    rw [e1, e2]
    exact this
  · rw [Nat.pow_add, ht]
    have e1 : 10 * (N * 2 ^ k) * 10 ^ c = 10 * N * (2 ^ k * 10 ^ c) := by ac_rfl
    rw [e1]
    exact Nat.mul_le_mul hN (Nat.mul_le_mul_left _ (Nat.le_of_lt h1))
end Go.Proofs.YtejmbbkklhpnaaaGreatDoor.dmx

/- Multiprecision decimals: how many digits there can be, and rounding to a whole number: plain arithmetic. No conditions but those stated. -/
namespace Go.Proofs.YtejmbbkklhpnaaaGreatDoor.dmx

theorem five_ten (s : Nat) : 5 ^ s ≤ 10 ^ (7 * (s / 10) + 7) := by
  have h1 : (5 : Nat) ^ s ≤ 5 ^ (10 * (s / 10 + 1)) := Nat.pow_le_pow_right (by decide) (by omega)
  have h2 : (5 : Nat) ^ (10 * (s / 10 + 1)) ≤ 10 ^ (7 * (s / 10 + 1)) := by
    rw [Nat.pow_mul, Nat.pow_mul]
    exact Nat.pow_le_pow_left (by decide) _
  have e : 7 * (s / 10 + 1) = 7 * (s / 10) + 7 := by omega
  rw [e] at h2
  exact Nat.le_trans h1 h2
theorem pow_lt_inv {a b : Nat} (h : 10 ^ a < 10 ^ b) : a < b := by
  refine Nat.lt_of_not_le fun hl => ?_
  exact absurd (Nat.pow_le_pow_right (n := 10) (by decide) hl) (Nat.not_le_of_lt h)
theorem d10 : ∀ d : Nat, d ≠ 0 → 10 ∣ 10 ^ d
  | 0, h => absurd rfl h
  | d + 1, _ => Nat.dvd_mul_left 10 (10 ^ d)
/-- shifts to the right: how great the digits' number can be -/
theorem right_bd {N N0 q q0 s : Nat} (hm : N % 10 ≠ 0) (h : N * 10 ^ q * 2 ^ s = N0 * 10 ^ q0) : N ≤ N0 * 5 ^ s := by
  by_cases hq : q0 ≤ q
  · obtain ⟨d, rfl⟩ := Nat.exists_eq_add_of_le hq
    have h1 : N * 10 ^ d * 2 ^ s = N0 := by
      rw [Nat.pow_add] at h
      have e : N * (10 ^ q0 * 10 ^ d) * 2 ^ s = N * 10 ^ d * 2 ^ s * 10 ^ q0 := by ac_rfl
      rw [e] at h
      exact Nat.eq_of_mul_eq_mul_right (Nat.pow_pos (by decide)) h
    have h2 : N ≤ N0 := by
      rw [← h1, Nat.mul_assoc]
      exact Nat.le_mul_of_pos_right _ (Nat.mul_pos (Nat.pow_pos (by decide)) (two_pos s))
    exact Nat.le_trans h2 (Nat.le_mul_of_pos_right _ (Nat.pow_pos (by decide)))
  · obtain ⟨d, hd⟩ : ∃ d, q0 = q + d := ⟨q0 - q, by omega⟩
    subst hd
    have hd0 : d ≠ 0 := by omega
    have h1 : N * 2 ^ s = N0 * 10 ^ d := by
      rw [Nat.pow_add] at h
      have e : N * 10 ^ q * 2 ^ s = N * 2 ^ s * 10 ^ q := by ac_rfl
      have e2 : N0 * (10 ^ q * 10 ^ d) = N0 * 10 ^ d * 10 ^ q := by ac_rfl
      rw [e, e2] at h
      exact Nat.eq_of_mul_eq_mul_right (Nat.pow_pos (by decide)) h
    have ht : (10 : Nat) ^ d = 2 ^ d * 5 ^ d := by rw [← Nat.mul_pow]
    have c5 : Nat.Coprime 5 (2 ^ s) := Nat.Coprime.pow_right s (by decide)
    have f5 : 5 ∣ N := by
      have : 5 ∣ N * 2 ^ s := by
        rw [h1]
        exact Nat.dvd_mul_left_of_dvd (Nat.dvd_trans (by decide : 5 ∣ 10) (d10 d hd0)) _
      exact c5.dvd_of_dvd_mul_right this
    have n2 : N % 2 = 1 := by
      obtain ⟨c, rfl⟩ := f5
      omega
    have c2 : Nat.Coprime (2 ^ d) N := Nat.Coprime.pow_left d (by
      rw [Nat.coprime_comm, Nat.Coprime, Nat.gcd_comm, Nat.gcd_rec, n2]
      decide)
    have h2d : 2 ^ d ∣ 2 ^ s := by
      have : 2 ^ d ∣ N * 2 ^ s := by
        rw [h1, ht]
        exact Nat.dvd_mul_left_of_dvd (Nat.dvd_mul_right _ _) _
      exact c2.dvd_of_dvd_mul_left this
    have hds : d ≤ s := (Nat.pow_dvd_pow_iff_le_right (by decide)).1 h2d
    obtain ⟨c, rfl⟩ := Nat.exists_eq_add_of_le hds
    have h3 : N * 2 ^ c = N0 * 5 ^ d := by
      rw [Nat.pow_add, ht] at h1
      have e : N * (2 ^ d * 2 ^ c) = N * 2 ^ c * 2 ^ d := by ac_rfl
      have e2 : N0 * (2 ^ d * 5 ^ d) = N0 * 5 ^ d * 2 ^ d := by ac_rfl
      rw [e, e2] at h1
      exact Nat.eq_of_mul_eq_mul_right (two_pos d) h1
    have h4 : N ≤ N0 * 5 ^ d := by
      rw [← h3]
      exact Nat.le_mul_of_pos_right _ (two_pos c)
    exact Nat.le_trans h4 (Nat.mul_le_mul_left _ (Nat.pow_le_pow_right (by decide) (by omega)))
theorem right_n {N n N0 n0 q q0 s : Nat} (g : DGood N n) (h0 : N0 < 10 ^ n0) (h : N * 10 ^ q * 2 ^ s = N0 * 10 ^ q0) : n ≤ n0 + 7 * (s / 10) + 7 := by
  have h1 := right_bd g.md h
  have h2 := five_ten s
  have h3 : N0 * 5 ^ s < 10 ^ (n0 + (7 * (s / 10) + 7)) := by
    rw [Nat.pow_add]
    exact Nat.lt_of_lt_of_le (Nat.mul_lt_mul_of_pos_right h0 (Nat.pow_pos (by decide))) (Nat.mul_le_mul_left _ h2)
  have h4 := pow_lt_inv (Nat.lt_of_le_of_lt (Nat.le_trans g.lo h1) h3)
  have := g.n1
  omega
/-- shifts to the left: the last place does not move down -/
theorem left_q {N N1 q q1 j : Nat} (hm : N % 10 ≠ 0) (h : N * 10 ^ q = N1 * 10 ^ q1 * 2 ^ j) : q1 ≤ q := by
  refine Nat.le_of_not_lt fun hl => hm ?_
  obtain ⟨d, rfl⟩ : ∃ d, q1 = q + (d + 1) := ⟨q1 - q - 1, by omega⟩
  rw [Nat.pow_add] at h
  have e : N1 * (10 ^ q * 10 ^ (d + 1)) * 2 ^ j = N1 * 10 ^ (d + 1) * 2 ^ j * 10 ^ q := by ac_rfl
  rw [e] at h
  have h1 := Nat.eq_of_mul_eq_mul_right (Nat.pow_pos (by decide)) h
  rw [h1, Nat.pow_succ]
  have e2 : N1 * (10 ^ d * 10) * 2 ^ j = N1 * 10 ^ d * 2 ^ j * 10 := by ac_rfl
  rw [e2]
  exact Nat.mul_mod_left _ _

/-- ten to the power 2000: one -/
def oneE : Nat := 2000
theorem oneE_eq : oneE = 2000 := rfl
def one : Nat := 10 ^ oneE
theorem one_pos : 0 < one := Nat.pow_pos (by decide)
theorem val_bd {N n : Nat} (g : WGood N n) (dp : Int) (h : (n : Int) ≤ dp + 2000) : 10 ^ (dp + 1999).toNat ≤ val N n dp ∧ val N n dp < 10 ^ (dp + 2000).toNat := by
  have h1 := g.n1
  unfold val
  constructor
  · rw [show (dp + 1999).toNat = n - 1 + (dp - n + 2000).toNat by omega, Nat.pow_add]
    exact Nat.mul_le_mul_right _ g.lo
  · rw [show (dp + 2000).toNat = n + (dp - n + 2000).toNat by omega, Nat.pow_add]
    exact Nat.mul_lt_mul_of_pos_right g.hi (Nat.pow_pos (by decide))
theorem val_ge {N n : Nat} (g : WGood N n) (dp : Int) (k : Nat) (h : (n : Int) ≤ dp + 2000) (hk : (k : Int) + 1 ≤ dp) : 10 ^ k * one ≤ val N n dp := by
  refine Nat.le_trans ?_ (val_bd g dp h).1
  unfold one
  have he := oneE_eq
  rw [← Nat.pow_add]
  exact Nat.pow_le_pow_right (by decide) (by omega)
theorem val_lt {N n : Nat} (g : WGood N n) (dp : Int) (k : Nat) (h : (n : Int) ≤ dp + 2000) (hk : dp ≤ (k : Int)) : val N n dp < 10 ^ k * one := by
  refine Nat.lt_of_lt_of_le (val_bd g dp h).2 ?_
  unfold one
  have he := oneE_eq
  rw [← Nat.pow_add]
  exact Nat.pow_le_pow_right (by decide) (by omega)
theorem val_small {N n : Nat} (g : WGood N n) (dp : Int) (k : Nat) (h : (n : Int) ≤ dp + 2000) (hk : dp + (k : Int) ≤ 0) (hk2 : k ≤ 2000) : val N n dp * 10 ^ k < one := by
  have h1 := (val_bd g dp h).2
  refine Nat.lt_of_lt_of_le (Nat.mul_lt_mul_of_pos_right h1 (Nat.pow_pos (by decide))) ?_
  unfold one
  have he := oneE_eq
  rw [← Nat.pow_add]
  exact Nat.pow_le_pow_right (by decide) (by omega)
end Go.Proofs.YtejmbbkklhpnaaaGreatDoor.dmx

/- What decimal.right and strconv's readFloat read in a text: plain. -/
namespace Go.Proofs.YtejmbbkklhpnaaaGreatDoor.rdf

def isD (c : UInt8) : Bool := decide (48 ≤ c.toNat) && decide (c.toNat ≤ 57)
/-- how many digits a text begins with -/
def dgs : List UInt8 → Nat
  | [] => 0
  | c :: l => if isD c then dgs l + 1 else 0
theorem dgs_le : ∀ l, dgs l ≤ l.length
  | [] => Nat.le_refl _
  | c :: l => by
    unfold dgs
    have := dgs_le l
    split <;> simp <;> omega
/-- is what is left behind the digits an exponent, with its e? -/
def expB : List UInt8 → Bool
  | [] => false
  | c :: l => (c == 101 || c == 69) && (let r := if l.head? = some 43 ∨ l.head? = some 45 then l.drop 1 else l
      decide (1 ≤ dgs r) && decide (dgs r ≤ 3) && decide (dgs r = r.length))
def unsg (l : List UInt8) : List UInt8 := if l.head? = some 45 then l.drop 1 else l
/-- whole digits, digits behind the point, and what is left -/
def cutN (l : List UInt8) : Nat × List UInt8 :=
  let r := l.drop (dgs l)
  if r.head? = some 46 then (dgs l + dgs (r.drop 1), (r.drop 1).drop (dgs (r.drop 1))) else (dgs l, r)
/-- is a text a decimal? -/
def rightL (l : List UInt8) : Bool :=
  if 40 < l.length then false
  else let q := cutN (unsg l)
    if q.1 < 1 ∨ 30 < q.1 ∨ q.2 = [] then decide (1 ≤ q.1) && decide (q.1 ≤ 30) else expB q.2

/-- readFloat's mantissa; N: the whole number that the digits spell -/
structure MS where
  N : Nat
  m : Nat
  dot : Bool
  sd : Bool
  nd : Nat
  nm : Nat
  dp : Int
  tr : Bool
def ms0 : MS := ⟨0, 0, false, false, 0, 0, 0, false⟩
def dgS (c : UInt8) (x : MS) : MS :=
  if c.toNat = 48 ∧ x.nd = 0 then { x with sd := true, dp := x.dp - 1 }
  else if x.nm < 19 then { x with N := x.N * 10 + (c.toNat - 48), sd := true, nd := x.nd + 1, m := x.m * 10 + (c.toNat - 48), nm := x.nm + 1 }
  else { x with N := x.N * 10 + (c.toNat - 48), sd := true, nd := x.nd + 1, tr := x.tr || decide (c.toNat ≠ 48) }
def dotS (x : MS) : MS := { x with dot := true, dp := x.nd }
def mL : List UInt8 → MS → MS × List UInt8
  | [], x => (x, [])
  | c :: l, x => if c.toNat = 46 then (if x.dot then (x, c :: l) else mL l (dotS x))
      else if isD c then mL l (dgS c x) else (x, c :: l)
theorem isD_iff (c : UInt8) : isD c = true ↔ 48 ≤ c.toNat ∧ c.toNat ≤ 57 := by
  unfold isD
  rw [Bool.and_eq_true, decide_eq_true_eq, decide_eq_true_eq]
/-- what holds of it when n bytes are read -/
structure MOk (n : Nat) (x : MS) : Prop where
  m : x.m < 10 ^ x.nm
  nm : x.nm ≤ 19
  nd : x.nd ≤ n
  d0 : -(n : Int) ≤ x.dp
  d1 : x.dp ≤ n
  mn : x.nm ≤ x.nd
  full : x.nm < 19 → x.nm = x.nd
  hN : x.N < 10 ^ x.nd
  lo : 0 < x.nd → 10 ^ (x.nd - 1) ≤ x.N
  q : x.m = x.N / 10 ^ (x.nd - x.nm)
  t : x.tr = decide (x.N % 10 ^ (x.nd - x.nm) ≠ 0)
theorem mok0 : MOk 0 ms0 := ⟨by decide, by decide, by decide, by decide, by decide, by decide, by decide, by decide, by decide, by decide, by decide⟩
theorem mok_mono {n k : Nat} {x : MS} (h : MOk n x) (hk : n ≤ k) : MOk k x :=
  ⟨h.m, h.nm, Nat.le_trans h.nd hk, by have := h.d0; omega, by have := h.d1; omega, h.mn, h.full, h.hN, h.lo, h.q, h.t⟩
theorem mok_dg {n : Nat} {x : MS} (h : MOk n x) (c : UInt8) (hc : isD c = true) : MOk (n + 1) (dgS c x) := by
  have hc2 := (isD_iff c).1 hc
  obtain ⟨a, b, d, e, f, g, i, j, k, q, t⟩ := h
  obtain ⟨y, hy⟩ : ∃ y, c.toNat - 48 = y := ⟨_, rfl⟩
  have hy9 : y ≤ 9 := by omega
  unfold dgS
  rw [hy]
  have hlow : 0 < x.nd → 10 ^ (x.nd + 1 - 1) ≤ x.N * 10 + y := fun h0 => by
    have h1 := k h0
    rw [show x.nd + 1 - 1 = x.nd - 1 + 1 by omega, Nat.pow_succ]
    omega
  have hhi : x.N * 10 + y < 10 ^ (x.nd + 1) := by
    rw [Nat.pow_succ]
    omega
  split
  · exact ⟨a, b, Nat.le_succ_of_le d, by show -((n + 1 : Nat) : Int) ≤ x.dp - 1; omega, by show x.dp - 1 ≤ ((n + 1 : Nat) : Int); omega, g, i, j, k, q, t⟩
  · rename_i hns
    have hlo2 : 0 < x.nd + 1 → 10 ^ (x.nd + 1 - 1) ≤ x.N * 10 + y := fun _ => by
      by_cases h0 : 0 < x.nd
      · exact hlow h0
      · have h1 : x.nd = 0 := by omega
        have h2 : ¬ c.toNat = 48 := fun h => hns ⟨h, h1⟩
        rw [h1]
        show 1 ≤ _
        omega
    split
    · rename_i hm
      have hf := i hm
      have hd0 : x.nd - x.nm = 0 := by omega
      rw [hd0, Nat.pow_zero, Nat.div_one] at q
      rw [hd0, Nat.pow_zero, Nat.mod_one] at t
      refine ⟨?_, by show x.nm + 1 ≤ 19; omega, by show x.nd + 1 ≤ n + 1; omega, by show -((n + 1 : Nat) : Int) ≤ x.dp; omega, by show x.dp ≤ ((n + 1 : Nat) : Int); omega, by show x.nm + 1 ≤ x.nd + 1; omega, fun _ => by show x.nm + 1 = x.nd + 1; omega, hhi, hlo2, ?_, ?_⟩
      · show x.m * 10 + y < 10 ^ (x.nm + 1)
        rw [Nat.pow_succ]
        omega
      · show x.m * 10 + y = (x.N * 10 + y) / 10 ^ (x.nd + 1 - (x.nm + 1))
        rw [show x.nd + 1 - (x.nm + 1) = 0 by omega, Nat.pow_zero, Nat.div_one, q]
      · show x.tr = decide ((x.N * 10 + y) % 10 ^ (x.nd + 1 - (x.nm + 1)) ≠ 0)
        rw [show x.nd + 1 - (x.nm + 1) = 0 by omega, Nat.pow_zero, Nat.mod_one, t]
    · rename_i hm
      have hm19 : x.nm = 19 := by omega
      have he : x.nd + 1 - x.nm = x.nd - x.nm + 1 := by omega
      have hp : 0 < 10 ^ (x.nd - x.nm) := Nat.pow_pos (by decide)
      refine ⟨a, b, by show x.nd + 1 ≤ n + 1; omega, by show -((n + 1 : Nat) : Int) ≤ x.dp; omega, by show x.dp ≤ ((n + 1 : Nat) : Int); omega, Nat.le_succ_of_le g, fun h => absurd h hm, hhi, hlo2, ?_, ?_⟩
      · show x.m = (x.N * 10 + y) / 10 ^ (x.nd + 1 - x.nm)
        rw [he, Nat.pow_succ, Nat.mul_comm (10 ^ (x.nd - x.nm)) 10, ← Nat.div_div_eq_div_mul, show (x.N * 10 + y) / 10 = x.N by omega, q]
      · show (x.tr || decide (c.toNat ≠ 48)) = decide ((x.N * 10 + y) % 10 ^ (x.nd + 1 - x.nm) ≠ 0)
        rw [he, Nat.pow_succ, Nat.mul_comm (10 ^ (x.nd - x.nm)) 10, Nat.mod_mul, show (x.N * 10 + y) % 10 = y by omega, show (x.N * 10 + y) / 10 = x.N by omega, t]
        have h48 : decide (c.toNat ≠ 48) = decide (y ≠ 0) := by
          by_cases h : c.toNat = 48
          · rw [decide_eq_false (by omega), decide_eq_false (by omega)]
          · rw [decide_eq_true (by omega), decide_eq_true (by omega)]
        rw [h48]
        generalize x.N % 10 ^ (x.nd - x.nm) = Z
        by_cases h1 : Z = 0
        · by_cases h2 : y = 0
          · rw [h1, h2]; rfl
          · have e1 : decide (y + 10 * Z ≠ 0) = true := decide_eq_true (by omega)
            have e2 : decide (y ≠ 0) = true := decide_eq_true h2
            rw [e1, e2, Bool.or_true]
        · have e1 : decide (y + 10 * Z ≠ 0) = true := decide_eq_true (by omega)
          have e2 : decide (Z ≠ 0) = true := decide_eq_true h1
          rw [e1, e2, Bool.true_or]
theorem mok_dot {n : Nat} {x : MS} (h : MOk n x) : MOk (n + 1) (dotS x) :=
  ⟨h.m, h.nm, Nat.le_succ_of_le h.nd, by show -((n + 1 : Nat) : Int) ≤ (x.nd : Int); omega, by have := h.nd; show (x.nd : Int) ≤ ((n + 1 : Nat) : Int); omega, h.mn, h.full, h.hN, h.lo, h.q, h.t⟩
/-- an exponent's digits -/
def eL : List UInt8 → Nat → Nat
  | [], e => e
  | c :: l, e => eL l (e * 10 + (c.toNat - 48))
/-- an exponent, without its e -/
def exV (l : List UInt8) : Int := if l.head? = some 45 then -(eL (l.drop 1) 0 : Int) else if l.head? = some 43 then (eL (l.drop 1) 0 : Int) else (eL l 0 : Int)
end Go.Proofs.YtejmbbkklhpnaaaGreatDoor.rdf

/- Small laws of worlds and of operations. No conditions but those stated. -/
namespace Go.Proofs.YtejmbbkklhpnaaaGreatDoor.bsw
open Go.RowKit
theorem grown_below {w w' : World} (h : Below w.heap.size w w') (row : Option Nat) : w.grownBy w' row := ⟨h.os, h.tape, h.output, h.size, fun k hk _ => h.block k hk⟩
theorem grown_trans {a b c : World} {row : Option Nat} (h : a.grownBy b row) (k : b.grownBy c row) : a.grownBy c row :=
  ⟨k.os.trans h.os, k.tape.trans h.tape, k.output.trans h.output, Nat.le_trans h.size k.size, fun i hi hr => (k.block i (Nat.lt_of_lt_of_le hi h.size) hr).trans (h.block i hi hr)⟩
theorem heap_set (w : World) (g j : Nat) (cs : Array Value) (t : TypeId) (fr : Nat × Nat) (v : Value) (h : w.heap[g]? = some (.cells cs t fr)) :
    (w.setCell ⟨g, j, none⟩ v).heap[g]? = some (.cells (cs.setIfInBounds j v) t fr) := by
  obtain ⟨hlt, hk⟩ := Array.getElem?_eq_some_iff.1 h
  show (w.heap.modify g _)[g]? = _
  rw [Array.getElem?_eq_getElem (by rw [Array.size_modify]; exact hlt), Array.getElem_modify_self, hk]
  simp
theorem heap_at (w : World) (o : Obj) (k : Nat) (h : w.heap.size = k) : (w.alloc o).heap[k]? = some o := by subst h; exact heap_alloc_new w o
/-- an operation that yields a value -/
theorem wl_val {P : Program} {ops : Array Oper} {rest : List Oper} {o : Oper} {a : Act} {w w' : World} {Q : Exit → Act → World → Prop} (hgd : o.guard = none) (v : Value) (hr : (execOp a.eval o).run P w = .ok (.value v) w')
    (h : wpList P ops Q rest (a.put o.dst v) w') : wpList P ops Q (o :: rest) a w :=
  wpList_plain hgd fun K hK => by
    unfold Oper.wp
    rw [hr]
    exact hK _ _ h
theorem not_frozen {w : World} {g : Nat} {cs : Array Value} {t : TypeId} (h : w.heap[g]? = some (.cells cs t (0, 0))) (j : Nat) : w.frozen? ⟨g, j, none⟩ = false := by
  simp [World.frozen?, h]
end Go.Proofs.YtejmbbkklhpnaaaGreatDoor.bsw

/- A float's mantissa, exponent and interval. Plain. -/
namespace Go.Proofs.YtejmbbkklhpnaaaGreatDoor.prnw
open Go.RowKit
theorem and_mask (k : IntKind) (hk : k = .i64 ∨ k = .u64) (a n : Nat) (ha : a < 9223372036854775808) (hn : n ≤ 62) : bits BinOp.and k (a : Int) ((2 ^ n - 1 : Nat) : Int) = ((a % 2 ^ n : Nat) : Int) := by
  have hp : 2 ^ n ≤ 4611686018427387904 := by
    have := Nat.pow_le_pow_right (show 0 < 2 by decide) hn
    simpa using this
  have hp0 : 0 < 2 ^ n := Nat.pow_pos (by decide)
  obtain ⟨q, hq⟩ : ∃ q, q = 2 ^ n := ⟨_, rfl⟩
  have h2 : (BitVec.ofInt 64 (a : Int)).toNat = a := by
    rw [BitVec.toNat_ofInt]
    omega
  have h3 : (BitVec.ofInt 64 ((2 ^ n - 1 : Nat) : Int)).toNat = 2 ^ n - 1 := by
    rw [BitVec.toNat_ofInt, ← hq]
    rw [← hq] at hp hp0
    omega
  have hm : a % 2 ^ n < 2 ^ n := Nat.mod_lt _ hp0
  rcases hk with rfl | rfl
  · have h : bits BinOp.and IntKind.i64 (a : Int) ((2 ^ n - 1 : Nat) : Int) = IntKind.i64.wrap (((BitVec.ofInt 64 (a : Int) &&& BitVec.ofInt 64 ((2 ^ n - 1 : Nat) : Int)).toNat : Nat) : Int) := rfl
    rw [h, BitVec.toNat_and, h2, h3, Nat.and_two_pow_sub_one_eq_mod, IntKind.wrap_i64]
    obtain ⟨r, hr⟩ : ∃ r, r = a % 2 ^ n := ⟨_, rfl⟩
    rw [← hr] at hm ⊢
    rw [← hq] at hp hm
    omega
  · have h : bits BinOp.and IntKind.u64 (a : Int) ((2 ^ n - 1 : Nat) : Int) = IntKind.u64.wrap (((BitVec.ofInt 64 (a : Int) &&& BitVec.ofInt 64 ((2 ^ n - 1 : Nat) : Int)).toNat : Nat) : Int) := rfl
    rw [h, BitVec.toNat_and, h2, h3, Nat.and_two_pow_sub_one_eq_mod, IntKind.wrap_u64]
    obtain ⟨r, hr⟩ : ∃ r, r = a % 2 ^ n := ⟨_, rfl⟩
    rw [← hr] at hm ⊢
    rw [← hq] at hp hm
    omega
theorem or_top (a : Nat) (ha : a < 4503599627370496) : bits BinOp.or IntKind.u64 (a : Int) 4503599627370496 = ((a + 4503599627370496 : Nat) : Int) := by
  have h : bits BinOp.or IntKind.u64 (a : Int) 4503599627370496 = IntKind.u64.wrap (((BitVec.ofInt 64 (a : Int) ||| BitVec.ofInt 64 4503599627370496).toNat : Nat) : Int) := rfl
  have h2 : (BitVec.ofInt 64 (a : Int)).toNat = a := by
    rw [BitVec.toNat_ofInt]
    omega
  have h3 : (BitVec.ofInt 64 4503599627370496).toNat = 2 ^ 52 * 1 := by decide
  have h4 : a ||| 2 ^ 52 * 1 = 2 ^ 52 * 1 + a := by
    rw [Nat.or_comm]
    exact (Nat.two_pow_add_eq_or_of_lt (by simpa using ha) 1).symm
  rw [h, BitVec.toNat_or, h2, h3, h4, IntKind.wrap_u64]
  omega
/-- a float's mantissa and exponent -/
def ftM (X : Nat) : Nat := if X / 4503599627370496 = 0 then X % 4503599627370496 else X % 4503599627370496 + 4503599627370496
def ftE (X : Nat) : Int := if X / 4503599627370496 = 0 then -1022 else ((X / 4503599627370496 : Nat) : Int) - 1023
theorem ftM_pos (X : Nat) (h : 0 < X) : 1 ≤ ftM X ∧ ftM X < 9007199254740992 := by
  unfold ftM
  split
  · omega
  · omega
theorem bl_bd : ∀ (f x : Nat), x < 2 ^ f → 0 < x → 1 ≤ Lib.bitLenAux f x ∧ Lib.bitLenAux f x ≤ f ∧ 2 ^ (Lib.bitLenAux f x - 1) ≤ x ∧ x < 2 ^ Lib.bitLenAux f x
  | 0, x, h, h0 => by
    have : x < 1 := by simpa using h
    omega
  | f + 1, x, h, h0 => by
    rw [Lib.bitLenAux, if_neg (by omega)]
    by_cases h2 : x / 2 = 0
    · have e : x = 1 := by omega
      have : Lib.bitLenAux f (x / 2) = 0 := by
        rw [h2]
        cases f with
        | zero => rfl
        | succ f => rw [Lib.bitLenAux, if_pos rfl]
      rw [this, e]
      refine ⟨?_, ?_, ?_, ?_⟩
      · omega
      · omega
      · decide
      · decide
    · obtain ⟨a, b, c, d⟩ := bl_bd f (x / 2) (by rw [Nat.pow_succ] at h; omega) (by omega)
      obtain ⟨k, hk⟩ : ∃ k, Lib.bitLenAux f (x / 2) = k + 1 := ⟨Lib.bitLenAux f (x / 2) - 1, by omega⟩
      rw [hk] at a b c d ⊢
      rw [show k + 1 - 1 = k by omega] at c
      rw [Nat.pow_succ] at d
      refine ⟨by omega, by omega, ?_, ?_⟩
      · rw [show 1 + (k + 1) - 1 = k + 1 by omega, Nat.pow_succ]
        omega
      · rw [show 1 + (k + 1) = k + 1 + 1 by omega, Nat.pow_succ, Nat.pow_succ]
        omega
theorem toNat_bits63 (s : Int) (h0 : 0 ≤ s) (h1 : s ≤ 63) : bits BinOp.and IntKind.i64 s 63 = s := by
  obtain ⟨n, rfl⟩ := Int.eq_ofNat_of_zero_le h0
  have hn : n < 64 := by omega
  revert hn
  revert n
  intro n _ _ hn
  have h : bits BinOp.and IntKind.i64 (n : Int) 63 = IntKind.i64.wrap (((BitVec.ofInt 64 (n : Int) &&& BitVec.ofInt 64 63).toNat : Nat) : Int) := rfl
  have h2 : (BitVec.ofInt 64 (n : Int)).toNat = n := by
    rw [BitVec.toNat_ofInt]
    omega
  have h3 : (BitVec.ofInt 64 63).toNat = 2 ^ 6 - 1 := by decide
  rw [h, BitVec.toNat_and, h2, h3, Nat.and_two_pow_sub_one_eq_mod, IntKind.wrap_i64]
  omega
end Go.Proofs.YtejmbbkklhpnaaaGreatDoor.prnw
namespace Go.Proofs.YtejmbbkklhpnaaaGreatDoor.fpm
open Go Go.RowKit Go.Proofs.YtejmbbkklhpnaaaGreatDoor.prnw
/-- the interval's lower end, in quarters of the last place -/
def loQ (M : Nat) (E : Int) : Nat := if M = 4503599627370496 ∧ -1074 < E then 4 * M - 1 else 4 * M - 2
theorem loQ_bd (M : Nat) (E : Int) : 4 * M - 2 ≤ loQ M E ∧ loQ M E ≤ 4 * M - 1 ∧ (M % 2 = 1 → loQ M E = 4 * M - 2) := by
  unfold loQ
  by_cases h : M = 4503599627370496 ∧ -1074 < E
  · rw [if_pos h]
    have := h.1
    exact ⟨by omega, by omega, fun h2 => by omega⟩
  · rw [if_neg h]
    exact ⟨Nat.le_refl _, by omega, fun _ => rfl⟩
/-- the ends of a float's interval, in quarters of the least unit -/
def endL (X : Nat) : Nat := loQ (ftM X) (ftE X - 52) * 2 ^ (ftE X - 52 + 1074).toNat
def endU (X : Nat) : Nat := (4 * ftM X + 2) * 2 ^ (ftE X - 52 + 1074).toNat
theorem ends_meet (X : Nat) : endL (X + 1) = endU X := by
  unfold endL endU
  obtain ⟨q, hq⟩ : ∃ q, q = X / 4503599627370496 := ⟨_, rfl⟩
  obtain ⟨r, hr⟩ : ∃ r, r = X % 4503599627370496 := ⟨_, rfl⟩
  by_cases hl : r + 1 < 4503599627370496
  · have e1 : (X + 1) / 4503599627370496 = q := by omega
    have e2 : (X + 1) % 4503599627370496 = r + 1 := by omega
    have hM : ftM (X + 1) = ftM X + 1 := by
      unfold ftM
      rw [e1, e2, ← hq, ← hr]
      split <;> omega
    have hE : ftE (X + 1) = ftE X := by
      unfold ftE
      rw [e1, ← hq]
    have hM0 : ftM X + 1 ≠ 4503599627370496 ∨ ¬ -1074 < ftE X - 52 := by
      unfold ftM ftE
      rw [← hq, ← hr]
      split <;> omega
    rw [hM, hE]
    congr 1
    unfold loQ
    rw [if_neg (by omega)]
    omega
  · have e1 : (X + 1) / 4503599627370496 = q + 1 := by omega
    have e2 : (X + 1) % 4503599627370496 = 0 := by omega
    have hM : ftM (X + 1) = 4503599627370496 := by
      unfold ftM
      rw [e1, e2, if_neg (by omega)]
    have hE : ftE (X + 1) = (q : Int) - 1022 := by
      unfold ftE
      rw [e1, if_neg (by omega)]
      omega
    rw [hM, hE]
    by_cases h0 : q = 0
    · have hM2 : ftM X = 4503599627370495 := by
        unfold ftM
        rw [← hq, ← hr, if_pos h0]
        omega
      have hE2 : ftE X = -1022 := by unfold ftE; rw [← hq, if_pos h0]
      rw [hM2, hE2, h0]
      decide
    · have hM2 : ftM X = 9007199254740991 := by
        unfold ftM
        rw [← hq, ← hr, if_neg h0]
        omega
      have hE2 : ftE X = (q : Int) - 1023 := by unfold ftE; rw [← hq, if_neg h0]
      rw [hM2, hE2]
      unfold loQ
      rw [if_pos ⟨rfl, by omega⟩, show ((q : Int) - 1022 - 52 + 1074).toNat = q - 1 + 1 by omega, show ((q : Int) - 1023 - 52 + 1074).toNat = q - 1 by omega, Nat.pow_succ]
      generalize 2 ^ (q - 1) = t
      omega
theorem ends_lt (X : Nat) (h : 0 < X) : endL X < endU X := by
  unfold endL endU
  refine (Nat.mul_lt_mul_right (Nat.two_pow_pos _)).2 ?_
  have := loQ_bd (ftM X) (ftE X - 52)
  have := ftM_pos X h
  omega
theorem ends_mono (X : Nat) (h : 0 < X) : ∀ n, endL X + n ≤ endL (X + n)
  | 0 => Nat.le_refl _
  | n + 1 => by
    have h1 := ends_mono X h n
    have h2 := ends_lt (X + n) (by omega)
    rw [← Nat.add_assoc X, ends_meet (X + n)]
    omega
theorem ftM_odd (X : Nat) : ftM X % 2 = X % 2 := by
  unfold ftM
  split <;> omega
end Go.Proofs.YtejmbbkklhpnaaaGreatDoor.fpm

/- The small functions of unrounded scaling: what each answers. No conditions but those stated. -/
namespace Go.Proofs.YtejmbbkklhpnaaaGreatDoor.prnw
open Go.RowKit
open Go.Proofs.YtejmbbkklhpnaaaGreatDoor.bsw
theorem set_grown (W : World) (b j : Nat) (v : Value) : W.grownBy (W.setCell ⟨b, j, none⟩ v) (some b) := ⟨rfl, rfl, rfl, by simp, fun i _ hne => Below.heap_setCell W ⟨b, j, none⟩ v i (fun e => hne (by rw [e]))⟩
/-- returns this, and the world is as it was -/
def Same (w : World) (v : Value) (e : Ending) (w' : World) : Prop := e = .returned v ∧ w' = w
theorem l2_any (e : Int) (h0 : -3000 ≤ e) (h1 : e ≤ 3000) (w : World) : Calls Tryz.prog 161 #[.int .i64 e] w (Same w (.int .i64 (e * 108853 / 32768))) := by
  go_enter Tryz.func161, Tryz.ntmps161
  go_wp2
  go_ret
  exact ⟨rfl, rfl⟩
theorem b2u (b : Bool) (w : World) : Calls Tryz.prog 183 #[.bool b] w (Same w (.int .u64 (if b then 1 else 0))) := by
  go_enter Tryz.func183, Tryz.ntmps183
  cases b
  all_goals go_wp2
  all_goals go_ret
  all_goals exact ⟨rfl, rfl⟩
def ceilI (u : Int) : Int := IntKind.u64.wrap (u + 3) / 4
def nudgeI (u d : Int) : Int := IntKind.u64.wrap (u + IntKind.u64.wrap d)
def roundI (u : Int) : Int := IntKind.u64.wrap (IntKind.u64.wrap (u + 1) + bits BinOp.and IntKind.u64 (u / 4) 1) / 4
theorem w64 (n : Int) : 0 ≤ IntKind.u64.wrap n ∧ IntKind.u64.wrap n < 18446744073709551616 := by
  rw [IntKind.wrap_u64]
  omega
theorem ceil_bd (u : Int) : 0 ≤ ceilI u ∧ ceilI u < 18446744073709551616 := by have := w64 (u + 3); unfold ceilI; omega
theorem nudge_bd (u d : Int) : 0 ≤ nudgeI u d ∧ nudgeI u d < 18446744073709551616 := w64 _
theorem round_bd (u : Int) : 0 ≤ roundI u ∧ roundI u < 18446744073709551616 := by have := w64 (IntKind.u64.wrap (u + 1) + bits BinOp.and IntKind.u64 (u / 4) 1); unfold roundI; omega
theorem round_any (u : Int) (_h0 : 0 ≤ u) (_h1 : u < 18446744073709551616) (w : World) : Calls Tryz.prog 166 #[.int .u64 u] w (Same w (.int .u64 (roundI u))) := by
  go_enter Tryz.func166, Tryz.ntmps166
  go_wp2
  go_ret
  exact ⟨rfl, rfl⟩
theorem wl_pre {P : Program} {ops : Array Oper} {rest : List Oper} {o : Oper} {a : Act} {w : World} {Q : Exit → Act → World → Prop} (h : wpList P ops Q (o :: rest) a w) : wpList P ops Q (o :: rest) a w := h
theorem wl_set_u64 {ops : Array Oper} {rest : List Oper} {o : Oper} {a : Act} {w : World} {Q : Exit → Act → World → Prop} (hgd : o.guard = none) (x y : Operand) (ho : o.op = .store 96 x y) (b j : Nat) (v : Int) (old : Value) (hx : a.eval x = .pointer (some ⟨b, j, none⟩)) (hy : a.eval y = .int .u64 v)
    (hc : w.cell? ⟨b, j, none⟩ = some old) (hf : w.frozen? ⟨b, j, none⟩ = false)
    (h : wpList Tryz.prog ops Q rest (a.put o.dst undef) (w.setCell ⟨b, j, none⟩ (.int .u64 v))) : wpList Tryz.prog ops Q (o :: rest) a w := by
  have hr : (Instr.storeAt 96 (.pointer (some ⟨b, j, none⟩)) (.int .u64 v)).run Tryz.prog w = .ok () (w.setCell ⟨b, j, none⟩ (.int .u64 v)) := by
    simp [Instr.storeAt, Instr.sureAddr, storeVar, run_store_int, stored, hc, hf, go_sem]
  refine wpList_plain hgd fun K hK => ?_
  unfold Oper.wp execOp
  simp only [ho, hx, hy, hr, Sem.run_bind, Sem.run_pure, Result.andThen_ok]
  exact hK _ _ h
theorem wl_set_i64 {ops : Array Oper} {rest : List Oper} {o : Oper} {a : Act} {w : World} {Q : Exit → Act → World → Prop} (hgd : o.guard = none) (x y : Operand) (ho : o.op = .store 3 x y) (b j : Nat) (v : Int) (old : Value) (hx : a.eval x = .pointer (some ⟨b, j, none⟩)) (hy : a.eval y = .int .i64 v)
    (hc : w.cell? ⟨b, j, none⟩ = some old) (hf : w.frozen? ⟨b, j, none⟩ = false)
    (h : wpList Tryz.prog ops Q rest (a.put o.dst undef) (w.setCell ⟨b, j, none⟩ (.int .i64 v))) : wpList Tryz.prog ops Q (o :: rest) a w := by
  have hr : (Instr.storeAt 3 (.pointer (some ⟨b, j, none⟩)) (.int .i64 v)).run Tryz.prog w = .ok () (w.setCell ⟨b, j, none⟩ (.int .i64 v)) := by
    simp [Instr.storeAt, Instr.sureAddr, storeVar, run_store_int, stored, hc, hf, go_sem]
  refine wpList_plain hgd fun K hK => ?_
  unfold Oper.wp execOp
  simp only [ho, hx, hy, hr, Sem.run_bind, Sem.run_pure, Result.andThen_ok]
  exact hK _ _ h
/-- the table of powers of ten -/
def PT (hi lo : Nat → Nat) (w : World) : Prop := ∀ i, i < 696 → hi i < 18446744073709551616 ∧ lo i < 18446744073709551616 ∧ w.cell? ⟨8, i * 2, none⟩ = some (.int .u64 (hi i : Nat)) ∧ w.cell? ⟨8, i * 2 + 1, none⟩ = some (.int .u64 (lo i : Nat))
/-- a scaler in block pb -/
def SC (w : World) (pb : Nat) (hi lo : Nat) (s : Int) : Prop := w.heap[pb]? = some (.cells #[.int .u64 (hi : Nat), .int .u64 (lo : Nat), .int .i64 s] 220 (0, 0))
set_option maxRecDepth 100000 in
set_option maxHeartbeats 1000000 in
theorem prescale_any (hi lo : Nat → Nat) (pb : Nat) (e : Int) (i : Nat) (lp : Int) (hi6 : i < 696) (e0 : -3000 ≤ e) (e1 : e ≤ 3000) (l0 : -3000 ≤ lp) (l1 : lp ≤ 3000) (h0 l00 : Nat) (s0 : Int) (w : World) (hT : PT hi lo w) (hne : pb ≠ 8) (hb : SC w pb h0 l00 s0) :
    Calls Tryz.prog 160 #[.pointer (some ⟨pb, 0, none⟩), .int .i64 e, .int .i64 ((i : Int) - 348), .int .i64 lp] w fun x w' => x = .returned (.tuple #[]) ∧ SC w' pb (hi i) (lo i) (-(e + lp + 3)) ∧ w.grownBy w' (some pb) := by
  obtain ⟨_, _, c1, c2⟩ := hT i hi6
  have i0 : (0 : Int) ≤ (i : Int) := by omega
  have i6 : (i : Int) < 696 := by omega
  have ce : ∀ (u : World) (cs : Array Value) (j : Nat), u.heap[pb]? = some (.cells cs 220 (0, 0)) → u.frozen? ⟨pb, j, none⟩ = false := fun u cs j h => by simp [World.frozen?, h]
  have hb0 : w.heap[pb]? = some (.cells #[.int .u64 (h0 : Nat), .int .u64 (l00 : Nat), .int .i64 s0] 220 (0, 0)) := hb
  obtain ⟨W1, hW1⟩ : ∃ W1, W1 = w.setCell ⟨pb, 0, none⟩ (.int .u64 (hi i : Nat)) := ⟨_, rfl⟩
  obtain ⟨W2, hW2⟩ : ∃ W2, W2 = W1.setCell ⟨pb, 1, none⟩ (.int .u64 (lo i : Nat)) := ⟨_, rfl⟩
  obtain ⟨W3, hW3⟩ : ∃ W3, W3 = W2.setCell ⟨pb, 2, none⟩ (.int .i64 (-(e + lp + 3))) := ⟨_, rfl⟩
  have hb1 : W1.heap[pb]? = some (.cells #[.int .u64 (hi i : Nat), .int .u64 (l00 : Nat), .int .i64 s0] 220 (0, 0)) := by rw [hW1, heap_set w pb 0 _ _ _ _ hb0]; rfl
  have hb2 : W2.heap[pb]? = some (.cells #[.int .u64 (hi i : Nat), .int .u64 (lo i : Nat), .int .i64 s0] 220 (0, 0)) := by rw [hW2, heap_set W1 pb 1 _ _ _ _ hb1]; rfl
  have hb3 : W3.heap[pb]? = some (.cells #[.int .u64 (hi i : Nat), .int .u64 (lo i : Nat), .int .i64 (-(e + lp + 3))] 220 (0, 0)) := by rw [hW3, heap_set W2 pb 2 _ _ _ _ hb2]; rfl
  have hg : w.grownBy W3 (some pb) := by
    rw [hW3, hW2, hW1]
    exact grown_trans (grown_trans (set_grown _ _ _ _) (set_grown _ _ _ _)) (set_grown _ _ _ _)
  have hk : ∀ (u : World) (j : Nat) (v : Value), (∀ b, b ≠ pb → u.heap[b]? = w.heap[b]?) → w.cell? ⟨8, j, none⟩ = some v → u.cell? ⟨8, j, none⟩ = some v := fun u j v hu hv =>
    (World.cell?_of_block (a := ⟨8, j, none⟩) (hu _ (fun e => hne e.symm))).trans hv
  have u1 : ∀ b, b ≠ pb → W1.heap[b]? = w.heap[b]? := fun b hb => by rw [hW1]; exact Below.heap_setCell w ⟨pb, 0, none⟩ _ b hb
  have c21 := hk W1 _ _ u1 c2
  have C1 := Lib.hid (And.intro ((cell_of_row w pb 0 _ _ _ hb0).trans rfl : w.cell? ⟨pb, 0, none⟩ = some (.int .u64 (h0 : Nat))) (ce w _ 0 hb0))
  have C2 := Lib.hid (And.intro ((cell_of_row W1 pb 1 _ _ _ hb1).trans rfl : W1.cell? ⟨pb, 1, none⟩ = some (.int .u64 (l00 : Nat))) (ce W1 _ 1 hb1))
  have C3 := Lib.hid (And.intro ((cell_of_row W2 pb 2 _ _ _ hb2).trans rfl : W2.cell? ⟨pb, 2, none⟩ = some (.int .i64 s0)) (ce W2 _ 2 hb2))
  have Y1 := Lib.hid hW1
  have Y2 := Lib.hid hW2
  have Y3 := Lib.hid hW3
  have HR := Lib.hid (And.intro (show SC W3 pb (hi i) (lo i) (-(e + lp + 3)) from hb3) hg)
  clear hk u1 hb0 hb1 hb2 hb3 hb hT hg ce hW1 hW2 hW3 c2 hne
  go_enter Tryz.func160, Tryz.ntmps160
  go_wp2_with ((with_reducible refine wl_pre ?_); (first | (refine wl_set_u64 rfl (.tmp 15) (.tmp 13) rfl pb 0 _ _ rfl rfl C1.out.1 C1.out.2 ?_; rw [← Y1.out]) | (refine wl_set_u64 rfl (.tmp 23) (.tmp 21) rfl pb 1 _ _ rfl rfl C2.out.1 C2.out.2 ?_; rw [← Y2.out]) | (refine wl_set_i64 rfl (.tmp 31) (.tmp 29) rfl pb 2 _ _ rfl rfl C3.out.1 C3.out.2 ?_; rw [← Y3.out])); (simp only [Act.put]))
  go_end0
  exact ⟨rfl, HR.out⟩
end Go.Proofs.YtejmbbkklhpnaaaGreatDoor.prnw
