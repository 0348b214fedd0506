/- Multiprecision decimals: plain arithmetic of their digits. No conditions but those stated. -/
import Derived.WalkKit
namespace Go.Proofs.YtbjengfoaobdbaaGreatDoor.dmx

/-- the number that the first r of the n digits of N spell, with noughts behind -/
def preN (N n r : Nat) : Nat := N * 10 ^ r / 10 ^ n
/-- the digit at place r -/
def dgN (N n r : Nat) : Nat := N * 10 ^ (r + 1) / 10 ^ n % 10
theorem dgN_lt (N n r : Nat) : dgN N n r < 10 := Nat.mod_lt _ (by decide)
theorem pre_zero {N n : Nat} (h : N < 10 ^ n) : preN N n 0 = 0 := by
  unfold preN
  rw [Nat.pow_zero, Nat.mul_one]
  exact Nat.div_eq_of_lt h
theorem pre_all (N n : Nat) : preN N n n = N := Nat.mul_div_cancel _ (Nat.pow_pos (by decide))
theorem pre_div (N n r : Nat) : preN N n (r + 1) / 10 = preN N n r := by
  unfold preN
  rw [Nat.div_div_eq_div_mul, Nat.pow_succ, ← Nat.mul_assoc, Nat.mul_div_mul_right _ _ (by decide)]
theorem pre_succ (N n r : Nat) : preN N n (r + 1) = 10 * preN N n r + dgN N n r := by
  have h1 := pre_div N n r
  have h2 : dgN N n r = preN N n (r + 1) % 10 := rfl
  omega
theorem dg_beyond {N n r : Nat} (h : n ≤ r) : dgN N n r = 0 := by
  unfold dgN
  obtain ⟨d, rfl⟩ := Nat.exists_eq_add_of_le h
  have e : N * 10 ^ (n + d + 1) = N * 10 ^ d * 10 * 10 ^ n := by
    rw [Nat.pow_succ, Nat.pow_add]
    ac_rfl
  rw [e, Nat.mul_div_cancel _ (Nat.pow_pos (by decide))]
  exact Nat.mul_mod_left _ _
theorem pre_beyond (N n d : Nat) : preN N n (n + d) = N * 10 ^ d := by
  unfold preN
  rw [Nat.pow_add, Nat.mul_comm (10 ^ n), ← Nat.mul_assoc]
  exact Nat.mul_div_cancel _ (Nat.pow_pos (by decide))
theorem pre_lt {N n : Nat} (h : N < 10 ^ n) (r : Nat) : preN N n r < 10 ^ r := by
  unfold preN
  rw [Nat.div_lt_iff_lt_mul (Nat.pow_pos (by decide)), Nat.mul_comm (10 ^ r)]
  exact Nat.mul_lt_mul_of_pos_right h (Nat.pow_pos (by decide))
theorem pre_mono (N n r d : Nat) : preN N n r ≤ preN N n (r + d) := by
  induction d with
  | zero => exact Nat.le_refl _
  | succ d ih =>
    have := pre_succ N n (r + d)
    rw [← Nat.add_assoc]
    omega
/-- the digit in the usual form -/
theorem dg_usual {N n r : Nat} (h : r < n) : dgN N n r = N / 10 ^ (n - 1 - r) % 10 := by
  unfold dgN
  obtain ⟨d, hd⟩ : ∃ d, n = d + (r + 1) := ⟨n - (r + 1), by omega⟩
  have e : n - 1 - r = d := by omega
  have e2 : 10 ^ n = 10 ^ d * 10 ^ (r + 1) := by rw [hd, Nat.pow_add 10 d (r + 1)]
  rw [e, e2, Nat.mul_div_mul_right _ _ (Nat.pow_pos (by decide))]

/-- the shift to the right: what is written when r digits are read -/
def quR (N n k r : Nat) : Nat := preN N n r / (10 * 2 ^ k)
def reR (N n k r : Nat) : Nat := preN N n r % (10 * 2 ^ k)
theorem two_pos (k : Nat) : 0 < 2 ^ k := Nat.pow_pos (by decide)
theorem re_lt (N n k r : Nat) : reR N n k r < 10 * 2 ^ k := Nat.mod_lt _ (Nat.mul_pos (by decide) (two_pos k))
theorem qu_div (N n k r : Nat) : quR N n k (r + 1) / 10 = quR N n k r := by
  unfold quR
  rw [Nat.div_div_eq_div_mul, Nat.mul_comm, ← Nat.div_div_eq_div_mul, pre_div]
/-- one step: the digit that is put down, and what is left -/
theorem step_R (N n k r : Nat) : quR N n k (r + 1) % 10 = reR N n k r / 2 ^ k ∧ reR N n k (r + 1) = reR N n k r % 2 ^ k * 10 + dgN N n r := by
  have hp := two_pos k
  have h1 := pre_succ N n r
  have hd := dgN_lt N n r
  obtain ⟨T, hT⟩ : ∃ T, T = 2 ^ k := ⟨_, rfl⟩
  obtain ⟨q, hq⟩ : ∃ q, q = quR N n k r := ⟨_, rfl⟩
  obtain ⟨m, hm⟩ : ∃ m, m = reR N n k r := ⟨_, rfl⟩
  have h2 : preN N n r = 10 * T * q + m := by rw [hT, hq, hm]; exact (Nat.div_add_mod _ _).symm
  obtain ⟨g, hg⟩ : ∃ g, g = m / T := ⟨_, rfl⟩
  obtain ⟨s, hs⟩ : ∃ s, s = m % T := ⟨_, rfl⟩
  have h3 : m = T * g + s := by rw [hg, hs]; exact (Nat.div_add_mod _ _).symm
  have hs2 : s < T := by rw [hs]; exact Nat.mod_lt _ (by rw [hT]; exact hp)
  have hm2 : m < 10 * T := by rw [hm, hT]; exact re_lt N n k r
  have hg2 : g < 10 := by
    rw [hg]
    exact Nat.div_lt_of_lt_mul (by rw [Nat.mul_comm]; exact hm2)
  have h4 : preN N n (r + 1) = 10 * T * (10 * q + g) + (s * 10 + dgN N n r) := by
    rw [h1, h2, h3]
    have e1 : 10 * (10 * T * q + (T * g + s)) = 10 * T * (10 * q + g) + s * 10 := by
      simp only [Nat.mul_add]
      ac_rfl
    rw [e1, Nat.add_assoc]
  have h5 : s * 10 + dgN N n r < 10 * T := by omega
  constructor
  · unfold quR
    rw [← hm, ← hT, ← hg, h4, Nat.mul_add_div (by rw [hT]; exact Nat.mul_pos (by decide) hp), Nat.div_eq_of_lt h5]
    omega
  · rw [← hm, ← hT, ← hs]
    unfold reR
    rw [← hT, h4, Nat.mul_add_mod, Nat.mod_eq_of_lt h5]
/-- at the end nothing is left -/
theorem re_end {N n k d : Nat} (h : k < d) : reR N n k (n + d) = 0 := by
  unfold reR
  rw [pre_beyond]
  obtain ⟨c, rfl⟩ : ∃ c, d = k + 1 + c := ⟨d - (k + 1), by omega⟩
  have e : N * 10 ^ (k + 1 + c) = 10 * 2 ^ k * (N * 5 ^ k * 10 ^ c) := by
    rw [Nat.pow_add, Nat.pow_succ, show (10 : Nat) ^ k = 2 ^ k * 5 ^ k by rw [← Nat.mul_pow]]
    ac_rfl
  rw [e, Nat.mul_mod_right]
theorem qu_end {N n k r : Nat} (h : reR N n k r = 0) : preN N n r = quR N n k r * (10 * 2 ^ k) := by
  have := Nat.div_add_mod (preN N n r) (10 * 2 ^ k)
  unfold reR at h
  rw [h, Nat.add_zero, Nat.mul_comm] at this
  exact this.symm
end Go.Proofs.YtbjengfoaobdbaaGreatDoor.dmx

/- Multiprecision decimals: the shift to the left, noughts at the end, values: plain arithmetic. No conditions but those stated. -/
namespace Go.Proofs.YtbjengfoaobdbaaGreatDoor.dmx

/-- without noughts at the end, and how many digits stay -/
def trN : Nat → Nat → Nat × Nat
  | N, 0 => (N, 0)
  | N, n + 1 => if N % 10 = 0 then trN (N / 10) n else (N, n + 1)
theorem tr_le : ∀ (n N : Nat), (trN N n).2 ≤ n
  | 0, _ => Nat.le_refl _
  | n + 1, N => by
    unfold trN
    split
    · exact Nat.le_succ_of_le (tr_le n _)
    · exact Nat.le_refl _
theorem tr_val : ∀ (n N : Nat), (trN N n).1 * 10 ^ (n - (trN N n).2) = N
  | 0, N => by simp [trN]
  | n + 1, N => by
    unfold trN
    split
    · rename_i h
      have h1 := tr_val n (N / 10)
      have h2 := tr_le n (N / 10)
      rw [show n + 1 - (trN (N / 10) n).2 = n - (trN (N / 10) n).2 + 1 by omega, Nat.pow_succ, ← Nat.mul_assoc, h1]
      omega
    · simp
theorem tr_mod : ∀ (n N : Nat), 0 < (trN N n).2 → (trN N n).1 % 10 ≠ 0
  | 0, N, h => by simp [trN] at h
  | n + 1, N, h => by
    unfold trN at h ⊢
    split
    · rename_i h0
      rw [if_pos h0] at h
      exact tr_mod n _ h
    · rename_i h0
      exact h0
theorem tr_pos : ∀ (n N : Nat), 0 < N → N < 10 ^ n → 0 < (trN N n).2
  | 0, N, h0, h => by simp at h; omega
  | n + 1, N, h0, h => by
    unfold trN
    split
    · rw [Nat.pow_succ] at h
      exact tr_pos n _ (by omega) (by omega)
    · exact Nat.succ_pos _
theorem tr_bd (n N : Nat) (h : N < 10 ^ n) : (trN N n).1 < 10 ^ (trN N n).2 := by
  have h1 := tr_val n N
  have h2 := tr_le n N
  obtain ⟨d, hd⟩ : ∃ d, n = (trN N n).2 + d := ⟨n - (trN N n).2, by omega⟩
  have e : n - (trN N n).2 = d := by omega
  rw [e] at h1
  have h3 : (trN N n).1 * 10 ^ d < 10 ^ (trN N n).2 * 10 ^ d := by
    rw [h1, ← Nat.pow_add, ← hd]
    exact h
  exact Nat.lt_of_mul_lt_mul_right h3
theorem tr_zero : ∀ (n : Nat), trN 0 n = (0, 0)
  | 0 => rfl
  | n + 1 => by
    unfold trN
    rw [if_pos (by decide)]
    exact tr_zero n
/-- the digits that stay are those that were -/
theorem tr_dig : ∀ (n N j : Nat), j < (trN N n).2 → (trN N n).1 / 10 ^ ((trN N n).2 - 1 - j) % 10 = N / 10 ^ (n - 1 - j) % 10
  | 0, N, j, h => by simp [trN] at h
  | n + 1, N, j, h => by
    unfold trN at h ⊢
    split
    · rename_i h0
      rw [if_pos h0] at h
      have h1 := tr_dig n (N / 10) j h
      have h2 := tr_le n (N / 10)
      have e : 10 * 10 ^ (n - 1 - j) = 10 ^ (n + 1 - 1 - j) := by
        rw [show n + 1 - 1 - j = n - 1 - j + 1 by omega, Nat.pow_succ, Nat.mul_comm]
      rw [h1, Nat.div_div_eq_div_mul, e]
    · rfl
/-- a number that is written: digits N of so many, 0.N by ten to dp; good: it begins with no nought, and ends with none -/
structure WGood (N n : Nat) : Prop where
  n1 : 1 ≤ n
  lo : 10 ^ (n - 1) ≤ N
  hi : N < 10 ^ n
structure DGood (N n : Nat) : Prop extends WGood N n where
  md : N % 10 ≠ 0
theorem tr_lo (n N : Nat) (h1 : 1 ≤ n) (h : 10 ^ (n - 1) ≤ N) (h2 : N < 10 ^ n) : DGood (trN N n).1 (trN N n).2 := by
  have hp := tr_pos n N (Nat.lt_of_lt_of_le (Nat.pow_pos (by decide)) h) h2
  refine ⟨⟨hp, ?_, tr_bd n N h2⟩, tr_mod n N hp⟩
  have a1 := tr_val n N
  have a2 := tr_le n N
  obtain ⟨d, hd⟩ : ∃ d, n = (trN N n).2 + d := ⟨n - (trN N n).2, by omega⟩
  have e : n - (trN N n).2 = d := by omega
  rw [e] at a1
  have h3 : 10 ^ ((trN N n).2 - 1) * 10 ^ d ≤ (trN N n).1 * 10 ^ d := by
    rw [a1, ← Nat.pow_add, show (trN N n).2 - 1 + d = n - 1 by omega]
    exact h
  exact Nat.le_of_mul_le_mul_right h3 (Nat.pow_pos (by decide))
/-- its value, by ten to 2000 -/
def val (N n : Nat) (dp : Int) : Nat := N * 10 ^ (dp - n + 2000).toNat
theorem val_tr (N n : Nat) (dp : Int) (h : (n : Int) ≤ dp + 2000) : val (trN N n).1 (trN N n).2 dp = val N n dp := by
  have a1 := tr_val n N
  have a2 := tr_le n N
  unfold val
  obtain ⟨d, hd⟩ : ∃ d, n = (trN N n).2 + d := ⟨n - (trN N n).2, by omega⟩
  have e : n - (trN N n).2 = d := by omega
  rw [e] at a1
  rw [show (dp - ((trN N n).2 : Int) + 2000).toNat = d + (dp - (n : Int) + 2000).toNat by omega, Nat.pow_add, ← Nat.mul_assoc, a1]
/-- the shift to the right keeps the value -/
theorem val_R (N n k r1 T : Nat) (dp : Int) (h0 : reR N n k T = 0) (hT : n ≤ T) (h1 : r1 ≤ T) (hd : (T : Int) ≤ dp + 2000) (hd1 : (n : Int) ≤ dp + 1999) :
    val (quR N n k T) (T - r1) (dp - r1 + 1) * 2 ^ k = val N n dp := by
  have hq := qu_end h0
  obtain ⟨d, rfl⟩ := Nat.exists_eq_add_of_le hT
  rw [pre_beyond] at hq
  unfold val
  obtain ⟨a, ha⟩ : ∃ a : Nat, (dp - (n : Int) + 2000).toNat = a + d := ⟨(dp - (n : Int) + 2000).toNat - d, by omega⟩
  rw [show (dp - (r1 : Int) + 1 - ((n + d - r1 : Nat) : Int) + 2000).toNat = a + 1 by omega, ha, Nat.pow_add 10 a d, Nat.pow_succ]
  generalize quR N n k (n + d) = q at *
  generalize 2 ^ k = t at *
  generalize (10 : Nat) ^ a = b at *
  generalize (10 : Nat) ^ d = c at *
  have e1 : q * (b * 10) * t = q * (10 * t) * b := by ac_rfl
  have e2 : N * (b * c) = N * c * b := by ac_rfl
  rw [e1, e2, hq]
end Go.Proofs.YtbjengfoaobdbaaGreatDoor.dmx

/- Multiprecision decimals: the shift to the left: plain arithmetic. No conditions but those stated. -/
namespace Go.Proofs.YtbjengfoaobdbaaGreatDoor.dmx

/-- what is carried when e digits are shifted -/
def caL (N k e : Nat) : Nat := N % 10 ^ e * 2 ^ k / 10 ^ e
theorem ca_zero (N k : Nat) : caL N k 0 = 0 := by
  unfold caL
  rw [Nat.pow_zero, Nat.mod_one, Nat.zero_mul]
theorem mod_step (N e : Nat) : N % 10 ^ (e + 1) = N / 10 ^ e % 10 * 10 ^ e + N % 10 ^ e := by
  rw [Nat.pow_succ, Nat.mod_mul, Nat.add_comm, Nat.mul_comm]
theorem step_L (N k e : Nat) : (caL N k e + N / 10 ^ e % 10 * 2 ^ k) % 10 = N * 2 ^ k / 10 ^ e % 10 ∧ (caL N k e + N / 10 ^ e % 10 * 2 ^ k) / 10 = caL N k (e + 1) := by
  have hp : 0 < 10 ^ e := Nat.pow_pos (by decide)
  have t : caL N k e + N / 10 ^ e % 10 * 2 ^ k = N % 10 ^ (e + 1) * 2 ^ k / 10 ^ e := by
    unfold caL
    rw [mod_step, Nat.add_mul, Nat.mul_assoc, Nat.mul_comm (10 ^ e), ← Nat.mul_assoc, Nat.add_comm (N / 10 ^ e % 10 * 2 ^ k * 10 ^ e), Nat.add_mul_div_right _ _ hp]
  rw [t]
  constructor
  · have e1 : N * 2 ^ k = N % 10 ^ (e + 1) * 2 ^ k + 10 * (N / 10 ^ (e + 1) * 2 ^ k) * 10 ^ e := by
      have h := Nat.div_add_mod N (10 ^ (e + 1))
      have h2 : 10 * (N / 10 ^ (e + 1) * 2 ^ k) * 10 ^ e = 10 ^ (e + 1) * (N / 10 ^ (e + 1)) * 2 ^ k := by
        rw [Nat.pow_succ]
        ac_rfl
      rw [h2, Nat.add_comm, ← Nat.add_mul, h]
    rw [e1, Nat.add_mul_div_right _ _ hp, Nat.add_mul_mod_self_left]
  · unfold caL
    rw [Nat.div_div_eq_div_mul, Nat.pow_succ]
theorem ca_all {N n : Nat} (h : N < 10 ^ n) (k e : Nat) (he : n ≤ e) : caL N k e = N * 2 ^ k / 10 ^ e := by
  unfold caL
  rw [Nat.mod_eq_of_lt (Nat.lt_of_lt_of_le h (Nat.pow_le_pow_right (by decide) he))]
theorem ca_bd (N k e : Nat) : caL N k e < 2 ^ k := by
  unfold caL
  rw [Nat.div_lt_iff_lt_mul (Nat.pow_pos (by decide)), Nat.mul_comm (2 ^ k)]
  exact Nat.mul_lt_mul_of_pos_right (Nat.mod_lt _ (Nat.pow_pos (by decide))) (two_pos k)

theorem lt_of_div {a p b q : Nat} (hp : 0 < p) (hq : 0 < q) (h : a / p < b / q) : a * q < b * p := by
  have h1 : a < (a / p + 1) * p := by
    have := Nat.lt_mul_div_succ a hp
    rw [Nat.mul_comm]
    exact this
  have h2 : (a / p + 1) * p ≤ b / q * p := Nat.mul_le_mul_right _ h
  have h3 : b / q * q ≤ b := Nat.div_mul_le_self b q
  calc a * q < b / q * p * q := Nat.mul_lt_mul_of_pos_right (Nat.lt_of_lt_of_le h1 h2) hq
    _ = b / q * q * p := Nat.mul_right_comm _ _ _
    _ ≤ b * p := Nat.mul_le_mul_right _ h3
/-- is 0.N below 0.C? -/
def lessB (N n C c : Nat) : Bool := decide (N * 10 ^ c < C * 10 ^ n)
theorem less_lt {N n C c i : Nat} (h : preN N n i = preN C c i) (hd : dgN N n i < dgN C c i) : lessB N n C c = true := by
  unfold lessB
  have h1 := pre_succ N n i
  have h2 := pre_succ C c i
  have h3 : preN N n (i + 1) < preN C c (i + 1) := by omega
  have h4 := lt_of_div (Nat.pow_pos (by decide)) (Nat.pow_pos (by decide)) h3
  rw [Nat.mul_right_comm, Nat.mul_right_comm C] at h4
  exact decide_eq_true (Nat.lt_of_mul_lt_mul_right h4)
theorem less_gt {N n C c i : Nat} (h : preN N n i = preN C c i) (hd : dgN C c i < dgN N n i) : lessB N n C c = false := by
  unfold lessB
  have h1 := pre_succ N n i
  have h2 := pre_succ C c i
  have h3 : preN C c (i + 1) < preN N n (i + 1) := by omega
  have h4 := lt_of_div (Nat.pow_pos (by decide)) (Nat.pow_pos (by decide)) h3
  rw [Nat.mul_right_comm, Nat.mul_right_comm N] at h4
  exact decide_eq_false (Nat.not_lt_of_lt (Nat.lt_of_mul_lt_mul_right h4))
theorem less_end {N n C c : Nat} (h : preN N n c = preN C c c) : lessB N n C c = false := by
  unfold lessB
  rw [pre_all] at h
  refine decide_eq_false (Nat.not_lt_of_le ?_)
  unfold preN at h
  rw [← h]
  exact Nat.div_mul_le_self _ _
theorem less_out {N n C c : Nat} (h : preN N n n = preN C c n) (hc : n < c) (hm : C % 10 ≠ 0) : lessB N n C c = true := by
  unfold lessB
  rw [pre_all] at h
  refine decide_eq_true ?_
  unfold preN at h
  have h1 : N * 10 ^ c ≤ C * 10 ^ n := by rw [h]; exact Nat.div_mul_le_self _ _
  refine Nat.lt_of_le_of_ne h1 fun e => hm ?_
  obtain ⟨d, rfl⟩ : ∃ d, c = d + 1 + n := ⟨c - n - 1, by omega⟩
  rw [Nat.pow_add, ← Nat.mul_assoc] at e
  have e2 : N * 10 ^ (d + 1) = C := Nat.eq_of_mul_eq_mul_right (Nat.pow_pos (by decide)) e
  rw [← e2, Nat.pow_succ, ← Nat.mul_assoc]
  exact Nat.mul_mod_left _ _

/-- how many digits more the shift makes -/
theorem delta_no {N n k c : Nat} (hN : N < 10 ^ n) (h1 : 10 ^ c ≤ 10 * 5 ^ k) (hc : c ≤ k + 1) (h : lessB N n (5 ^ k) c = false) :
    10 ^ (n + k) ≤ N * 2 ^ k * 10 ^ c ∧ N * 2 ^ k < 10 ^ (n + (k + 1 - c)) := by
  have h2 : 5 ^ k * 10 ^ n ≤ N * 10 ^ c := Nat.le_of_not_lt (of_decide_eq_false h)
  have ht : (10 : Nat) ^ k = 2 ^ k * 5 ^ k := by rw [← Nat.mul_pow]
  constructor
  · have : 5 ^ k * 10 ^ n * 2 ^ k ≤ N * 10 ^ c * 2 ^ k := Nat.mul_le_mul_right _ h2
    rw [Nat.pow_add, ht]
    have e1 : 10 ^ n * (2 ^ k * 5 ^ k) = 5 ^ k * 10 ^ n * 2 ^ k := by ac_rfl
    have e2 : N * 2 ^ k * 10 ^ c = N * 10 ^ c * 2 ^ k := by ac_rfl
    rw [e1, e2]
    exact this
  · have h3 : N * 2 ^ k < 10 ^ n * 2 ^ k := Nat.mul_lt_mul_of_pos_right hN (two_pos k)
    have h4 : 2 ^ k * 10 ^ c ≤ 10 ^ (k + 1 - c) * 10 ^ c := by
      rw [← Nat.pow_add, show k + 1 - c + c = k + 1 by omega, Nat.pow_succ, ht]
      have := Nat.mul_le_mul_left (2 ^ k) h1
      rw [← Nat.mul_assoc, Nat.mul_comm (2 ^ k) 10, Nat.mul_assoc, Nat.mul_comm 10] at this
      exact this
    have h5 : 2 ^ k ≤ 10 ^ (k + 1 - c) := Nat.le_of_mul_le_mul_right h4 (Nat.pow_pos (by decide))
    rw [Nat.pow_add]
    exact Nat.lt_of_lt_of_le h3 (Nat.mul_le_mul_left _ h5)
theorem delta_yes {N n k c : Nat} (hN : 10 ^ n ≤ 10 * N) (h1 : 5 ^ k < 10 ^ c) (h : lessB N n (5 ^ k) c = true) :
    N * 2 ^ k * 10 ^ c < 10 ^ (n + k) ∧ 10 ^ (n + k) ≤ 10 * (N * 2 ^ k) * 10 ^ c := by
  have h2 : N * 10 ^ c < 5 ^ k * 10 ^ n := of_decide_eq_true h
  have ht : (10 : Nat) ^ k = 2 ^ k * 5 ^ k := by rw [← Nat.mul_pow]
  constructor
  · have : N * 10 ^ c * 2 ^ k < 5 ^ k * 10 ^ n * 2 ^ k := Nat.mul_lt_mul_of_pos_right h2 (two_pos k)
    rw [Nat.pow_add, ht]
    have e1 : 10 ^ n * (2 ^ k * 5 ^ k) = 5 ^ k * 10 ^ n * 2 ^ k := by ac_rfl
    have e2 : N * 2 ^ k * 10 ^ c = N * 10 ^ c * 2 ^ k := by ac_rfl
    rw [e1, e2]
    exact this
  · rw [Nat.pow_add, ht]
    have e1 : 10 * (N * 2 ^ k) * 10 ^ c = 10 * N * (2 ^ k * 10 ^ c) := by ac_rfl
    rw [e1]
    exact Nat.mul_le_mul hN (Nat.mul_le_mul_left _ (Nat.le_of_lt h1))
end Go.Proofs.YtbjengfoaobdbaaGreatDoor.dmx

/- Multiprecision decimals: how many digits there can be, and rounding to a whole number: plain arithmetic. No conditions but those stated. -/
namespace Go.Proofs.YtbjengfoaobdbaaGreatDoor.dmx

theorem five_ten (s : Nat) : 5 ^ s ≤ 10 ^ (7 * (s / 10) + 7) := by
  have h1 : (5 : Nat) ^ s ≤ 5 ^ (10 * (s / 10 + 1)) := Nat.pow_le_pow_right (by decide) (by omega)
  have h2 : (5 : Nat) ^ (10 * (s / 10 + 1)) ≤ 10 ^ (7 * (s / 10 + 1)) := by
    rw [Nat.pow_mul, Nat.pow_mul]
    exact Nat.pow_le_pow_left (by decide) _
  have e : 7 * (s / 10 + 1) = 7 * (s / 10) + 7 := by omega
  rw [e] at h2
  exact Nat.le_trans h1 h2
theorem pow_lt_inv {a b : Nat} (h : 10 ^ a < 10 ^ b) : a < b := by
  refine Nat.lt_of_not_le fun hl => ?_
  exact absurd (Nat.pow_le_pow_right (n := 10) (by decide) hl) (Nat.not_le_of_lt h)
theorem d10 : ∀ d : Nat, d ≠ 0 → 10 ∣ 10 ^ d
  | 0, h => absurd rfl h
  | d + 1, _ => Nat.dvd_mul_left 10 (10 ^ d)
/-- shifts to the right: how great the digits' number can be -/
theorem right_bd {N N0 q q0 s : Nat} (hm : N % 10 ≠ 0) (h : N * 10 ^ q * 2 ^ s = N0 * 10 ^ q0) : N ≤ N0 * 5 ^ s := by
  by_cases hq : q0 ≤ q
  · obtain ⟨d, rfl⟩ := Nat.exists_eq_add_of_le hq
    have h1 : N * 10 ^ d * 2 ^ s = N0 := by
      rw [Nat.pow_add] at h
      have e : N * (10 ^ q0 * 10 ^ d) * 2 ^ s = N * 10 ^ d * 2 ^ s * 10 ^ q0 := by ac_rfl
      rw [e] at h
      exact Nat.eq_of_mul_eq_mul_right (Nat.pow_pos (by decide)) h
    have h2 : N ≤ N0 := by
      rw [← h1, Nat.mul_assoc]
      exact Nat.le_mul_of_pos_right _ (Nat.mul_pos (Nat.pow_pos (by decide)) (two_pos s))
    exact Nat.le_trans h2 (Nat.le_mul_of_pos_right _ (Nat.pow_pos (by decide)))
  · obtain ⟨d, hd⟩ : ∃ d, q0 = q + d := ⟨q0 - q, by omega⟩
    subst hd
    have hd0 : d ≠ 0 := by omega
    have h1 : N * 2 ^ s = N0 * 10 ^ d := by
      rw [Nat.pow_add] at h
      have e : N * 10 ^ q * 2 ^ s = N * 2 ^ s * 10 ^ q := by ac_rfl
      have e2 : N0 * (10 ^ q * 10 ^ d) = N0 * 10 ^ d * 10 ^ q := by ac_rfl
      rw [e, e2] at h
      exact Nat.eq_of_mul_eq_mul_right (Nat.pow_pos (by decide)) h
    have ht : (10 : Nat) ^ d = 2 ^ d * 5 ^ d := by rw [← Nat.mul_pow]
    have c5 : Nat.Coprime 5 (2 ^ s) := Nat.Coprime.pow_right s (by decide)
    have f5 : 5 ∣ N := by
      have : 5 ∣ N * 2 ^ s := by
        rw [h1]
        exact Nat.dvd_mul_left_of_dvd (Nat.dvd_trans (by decide : 5 ∣ 10) (d10 d hd0)) _
      exact c5.dvd_of_dvd_mul_right this
    have n2 : N % 2 = 1 := by
      obtain ⟨c, rfl⟩ := f5
      omega
    have c2 : Nat.Coprime (2 ^ d) N := Nat.Coprime.pow_left d (by
      rw [Nat.coprime_comm, Nat.Coprime, Nat.gcd_comm, Nat.gcd_rec, n2]
      decide)
    have h2d : 2 ^ d ∣ 2 ^ s := by
      have : 2 ^ d ∣ N * 2 ^ s := by
        rw [h1, ht]
        exact Nat.dvd_mul_left_of_dvd (Nat.dvd_mul_right _ _) _
      exact c2.dvd_of_dvd_mul_left this
    have hds : d ≤ s := (Nat.pow_dvd_pow_iff_le_right (by decide)).1 h2d
    obtain ⟨c, rfl⟩ := Nat.exists_eq_add_of_le hds
    have h3 : N * 2 ^ c = N0 * 5 ^ d := by
      rw [Nat.pow_add, ht] at h1
      have e : N * (2 ^ d * 2 ^ c) = N * 2 ^ c * 2 ^ d := by ac_rfl
      have e2 : N0 * (2 ^ d * 5 ^ d) = N0 * 5 ^ d * 2 ^ d := by ac_rfl
      rw [e, e2] at h1
      exact Nat.eq_of_mul_eq_mul_right (two_pos d) h1
    have h4 : N ≤ N0 * 5 ^ d := by
      rw [← h3]
      exact Nat.le_mul_of_pos_right _ (two_pos c)
    exact Nat.le_trans h4 (Nat.mul_le_mul_left _ (Nat.pow_le_pow_right (by decide) (by omega)))
theorem right_n {N n N0 n0 q q0 s : Nat} (g : DGood N n) (h0 : N0 < 10 ^ n0) (h : N * 10 ^ q * 2 ^ s = N0 * 10 ^ q0) : n ≤ n0 + 7 * (s / 10) + 7 := by
  have h1 := right_bd g.md h
  have h2 := five_ten s
  have h3 : N0 * 5 ^ s < 10 ^ (n0 + (7 * (s / 10) + 7)) := by
    rw [Nat.pow_add]
    exact Nat.lt_of_lt_of_le (Nat.mul_lt_mul_of_pos_right h0 (Nat.pow_pos (by decide))) (Nat.mul_le_mul_left _ h2)
  have h4 := pow_lt_inv (Nat.lt_of_le_of_lt (Nat.le_trans g.lo h1) h3)
  have := g.n1
  omega
/-- shifts to the left: the last place does not move down -/
theorem left_q {N N1 q q1 j : Nat} (hm : N % 10 ≠ 0) (h : N * 10 ^ q = N1 * 10 ^ q1 * 2 ^ j) : q1 ≤ q := by
  refine Nat.le_of_not_lt fun hl => hm ?_
  obtain ⟨d, rfl⟩ : ∃ d, q1 = q + (d + 1) := ⟨q1 - q - 1, by omega⟩
  rw [Nat.pow_add] at h
  have e : N1 * (10 ^ q * 10 ^ (d + 1)) * 2 ^ j = N1 * 10 ^ (d + 1) * 2 ^ j * 10 ^ q := by ac_rfl
  rw [e] at h
  have h1 := Nat.eq_of_mul_eq_mul_right (Nat.pow_pos (by decide)) h
  rw [h1, Nat.pow_succ]
  have e2 : N1 * (10 ^ d * 10) * 2 ^ j = N1 * 10 ^ d * 2 ^ j * 10 := by ac_rfl
  rw [e2]
  exact Nat.mul_mod_left _ _

/-- ten to the power 2000: one -/
def oneE : Nat := 2000
theorem oneE_eq : oneE = 2000 := rfl
def one : Nat := 10 ^ oneE
theorem one_pos : 0 < one := Nat.pow_pos (by decide)
theorem val_bd {N n : Nat} (g : WGood N n) (dp : Int) (h : (n : Int) ≤ dp + 2000) : 10 ^ (dp + 1999).toNat ≤ val N n dp ∧ val N n dp < 10 ^ (dp + 2000).toNat := by
  have h1 := g.n1
  unfold val
  constructor
  · rw [show (dp + 1999).toNat = n - 1 + (dp - n + 2000).toNat by omega, Nat.pow_add]
    exact Nat.mul_le_mul_right _ g.lo
  · rw [show (dp + 2000).toNat = n + (dp - n + 2000).toNat by omega, Nat.pow_add]
    exact Nat.mul_lt_mul_of_pos_right g.hi (Nat.pow_pos (by decide))
theorem val_ge {N n : Nat} (g : WGood N n) (dp : Int) (k : Nat) (h : (n : Int) ≤ dp + 2000) (hk : (k : Int) + 1 ≤ dp) : 10 ^ k * one ≤ val N n dp := by
  refine Nat.le_trans ?_ (val_bd g dp h).1
  unfold one
  have he := oneE_eq
  rw [← Nat.pow_add]
  exact Nat.pow_le_pow_right (by decide) (by omega)
theorem val_lt {N n : Nat} (g : WGood N n) (dp : Int) (k : Nat) (h : (n : Int) ≤ dp + 2000) (hk : dp ≤ (k : Int)) : val N n dp < 10 ^ k * one := by
  refine Nat.lt_of_lt_of_le (val_bd g dp h).2 ?_
  unfold one
  have he := oneE_eq
  rw [← Nat.pow_add]
  exact Nat.pow_le_pow_right (by decide) (by omega)
theorem val_small {N n : Nat} (g : WGood N n) (dp : Int) (k : Nat) (h : (n : Int) ≤ dp + 2000) (hk : dp + (k : Int) ≤ 0) (hk2 : k ≤ 2000) : val N n dp * 10 ^ k < one := by
  have h1 := (val_bd g dp h).2
  refine Nat.lt_of_lt_of_le (Nat.mul_lt_mul_of_pos_right h1 (Nat.pow_pos (by decide))) ?_
  unfold one
  have he := oneE_eq
  rw [← Nat.pow_add]
  exact Nat.pow_le_pow_right (by decide) (by omega)
end Go.Proofs.YtbjengfoaobdbaaGreatDoor.dmx

/- Multiprecision decimals: what the shift to the right writes, whole: plain arithmetic. No conditions but those stated. -/
namespace Go.Proofs.YtbjengfoaobdbaaGreatDoor.dmx

theorem qu_pow (N n k r : Nat) : ∀ d, quR N n k (r + d) / 10 ^ d = quR N n k r
  | 0 => by simp
  | d + 1 => by
    rw [Nat.pow_succ, Nat.mul_comm, ← Nat.div_div_eq_div_mul, ← Nat.add_assoc, qu_div]
    exact qu_pow N n k r d
theorem pre_10 {N n k r : Nat} (h0 : 1 ≤ r) (h2 : preN N n (r - 1) < 2 ^ k) : preN N n r < 10 * 2 ^ k := by
  obtain ⟨q, rfl⟩ : ∃ q, r = q + 1 := ⟨r - 1, by omega⟩
  have h1 := pre_succ N n q
  have hd := dgN_lt N n q
  rw [Nat.add_sub_cancel] at h2
  omega
theorem re_first {N n k r : Nat} (h : preN N n r < 10 * 2 ^ k) : reR N n k r = preN N n r ∧ quR N n k r = 0 := ⟨Nat.mod_eq_of_lt h, Nat.div_eq_of_lt h⟩
theorem sr_fin {N n k r1 T : Nat} (h0 : 1 ≤ r1) (h1 : 2 ^ k ≤ preN N n r1) (h2 : preN N n (r1 - 1) < 2 ^ k) (hT : reR N n k T = 0) (hr : r1 ≤ T) :
    r1 < T ∧ 10 ^ (T - r1 - 1) ≤ quR N n k T ∧ quR N n k T < 10 ^ (T - r1) := by
  have h3 := pre_10 h0 h2
  obtain ⟨e1, e2⟩ := re_first h3
  have hp := two_pos k
  have hlt : r1 < T := by
    refine Nat.lt_of_le_of_ne hr fun e => ?_
    rw [← e, e1] at hT
    omega
  obtain ⟨d, rfl⟩ : ∃ d, T = r1 + 1 + d := ⟨T - (r1 + 1), by omega⟩
  have q1 := qu_pow N n k (r1 + 1) d
  obtain ⟨s1, s2⟩ := step_R N n k r1
  have s3 := qu_div N n k r1
  rw [e2] at s3
  rw [e1] at s1
  have hq : 1 ≤ preN N n r1 / 2 ^ k := Nat.div_pos h1 hp
  have hq1 : 1 ≤ quR N n k (r1 + 1) ∧ quR N n k (r1 + 1) < 10 := by omega
  refine ⟨hlt, ?_, ?_⟩
  · rw [show r1 + 1 + d - r1 - 1 = d by omega]
    refine Nat.le_of_not_lt fun h => ?_
    rw [Nat.div_eq_of_lt h] at q1
    omega
  · rw [show r1 + 1 + d - r1 = d + 1 by omega, Nat.pow_succ, Nat.mul_comm]
    refine Nat.lt_of_not_le fun h => ?_
    have h5 : 10 ≤ quR N n k (r1 + 1 + d) / 10 ^ d := (Nat.le_div_iff_mul_le (Nat.pow_pos (by decide))).2 h
    omega
theorem sr_dig {N n k r1 T j : Nat} (h : r1 + j < T) : quR N n k (r1 + j + 1) % 10 = quR N n k T / 10 ^ (T - r1 - 1 - j) % 10 := by
  obtain ⟨d, rfl⟩ : ∃ d, T = r1 + j + 1 + d := ⟨T - (r1 + j + 1), by omega⟩
  rw [show r1 + j + 1 + d - r1 - 1 - j = d by omega, qu_pow]
theorem pre_lo {N n : Nat} (h : 10 ^ (n - 1) ≤ N) (hn : 1 ≤ n) (r : Nat) : 10 ^ r ≤ preN N n (r + 1) := by
  unfold preN
  rw [Nat.le_div_iff_mul_le (Nat.pow_pos (by decide)), ← Nat.pow_add, show r + n = n - 1 + (r + 1) by omega, Nat.pow_add]
  exact Nat.mul_le_mul_right _ h
theorem pre_fewk {N n k q : Nat} (h : 10 ^ (n - 1) ≤ N) (hn : 1 ≤ n) (hq : preN N n q < 2 ^ k) : q ≤ k + 1 := by
  refine Nat.le_of_not_lt fun hl => ?_
  obtain ⟨r, rfl⟩ : ∃ r, q = r + 1 := ⟨q - 1, by omega⟩
  have h1 := pre_lo h hn r
  have h2 : (10 : Nat) ^ k ≤ 10 ^ r := Nat.pow_le_pow_right (by decide) (by omega)
  have h3 : (2 : Nat) ^ k ≤ 10 ^ k := Nat.pow_le_pow_left (by decide) k
  omega
theorem pre_few {N n k q : Nat} (h : 10 ^ (n - 1) ≤ N) (hn : 1 ≤ n) (hk : k ≤ 60) (hq : preN N n q < 2 ^ k) : q ≤ 19 := by
  refine Nat.le_of_not_lt fun hl => ?_
  obtain ⟨r, rfl⟩ : ∃ r, q = r + 1 := ⟨q - 1, by omega⟩
  have h1 := pre_lo h hn r
  have h2 : (10 : Nat) ^ 19 ≤ 10 ^ r := Nat.pow_le_pow_right (by decide) (by omega)
  have h3 : (2 : Nat) ^ k ≤ 2 ^ 60 := Nat.pow_le_pow_right (by decide) hk
  have h4 : (2 : Nat) ^ 60 < 10 ^ 19 := by decide
  omega
end Go.Proofs.YtbjengfoaobdbaaGreatDoor.dmx
