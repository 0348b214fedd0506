/- Plain laws ahead of decimal.Print: a float's order by its bits, and the pieces of a number's text. No conditions but those stated. -/
import Derived.Test.YtihhhglnnapkoaaGreatDoorPrnK
import Derived.Test.YtihhhglnnapkoaaGreatDoorFlaE
namespace Go.Proofs.YtihhhglnnapkoaaGreatDoor.prnw
open Go.RowKit
open Go.Shelf
open Go.Proofs.YtihhhglnnapkoaaGreatDoor.nodew
open Go.Proofs.YtihhhglnnapkoaaGreatDoor.flatm

theorem val_lt {r s : Nat} (h : r < s) : valR r < valR s := by
  by_cases hr : r < 4503599627370496
  · rw [val_low hr]
    by_cases hs : s < 4503599627370496
    · rw [val_low hs]; exact h
    · have b := val_high hs
      have hp := Nat.two_pow_pos (s / 4503599627370496 - 1)
      have h2 : 4503599627370496 * 1 ≤ 4503599627370496 * 2 ^ (s / 4503599627370496 - 1) := Nat.mul_le_mul_left _ hp
      omega
  · have hs : ¬ s < 4503599627370496 := by omega
    have a := val_high hr
    have b := val_high hs
    by_cases hq : r / 4503599627370496 = s / 4503599627370496
    · unfold valR
      rw [if_neg hr, if_neg hs, hq]
      exact (Nat.mul_lt_mul_right (Nat.two_pow_pos _)).2 (by omega)
    · have hlt : r / 4503599627370496 < s / 4503599627370496 := by omega
      have h2 : (2 : Nat) ^ (r / 4503599627370496) ≤ 2 ^ (s / 4503599627370496 - 1) := Nat.pow_le_pow_right (by decide) (by omega)
      have h3 := Nat.mul_le_mul_left 4503599627370496 h2
      omega
theorem val_le {r s : Nat} (h : r ≤ s) : valR r ≤ valR s := by
  rcases Nat.lt_or_ge r s with h1 | h1
  · exact Nat.le_of_lt (val_lt h1)
  · rw [show r = s by omega]; exact Nat.le_refl _
/-- what a word stands for, in the least unit -/
def sv (x : Nat) : Int := if x / 9223372036854775808 % 2 = 1 then -(valR (x % 9223372036854775808) : Int) else (valR (x % 9223372036854775808) : Int)
theorem cmp_scale (a b : Int) (k : Nat) (hk : 0 < k) : compare (a * k) (b * k) = compare a b := by
  have hk' : (0 : Int) < (k : Int) := by omega
  rcases Int.lt_trichotomy a b with h | h | h
  · have h2 : a * k < b * k := Int.mul_lt_mul_of_pos_right h hk'
    rw [Int.compare_eq_ite_lt, Int.compare_eq_ite_lt, if_pos h, if_pos h2]
  · subst h
    simp
  · have h2 : b * k < a * k := Int.mul_lt_mul_of_pos_right h hk'
    rw [Int.compare_eq_ite_lt, Int.compare_eq_ite_lt, if_neg (by omega), if_pos h2, if_neg (by omega), if_pos h]
theorem fo_sv {x y : Nat} (fx : x % 9223372036854775808 < 9218868437227405312) (fy : y % 9223372036854775808 < 9218868437227405312) : fo x y = some (compare (sv x) (sv y)) := by
  obtain ⟨m, a, e1, v1⟩ := read_num x fx
  obtain ⟨n, b, e2, v2⟩ := read_num y fy
  show Ieee.Datum.order (Ieee.Format.read Ieee.double x) (Ieee.Format.read Ieee.double y) = _
  rw [e1, e2]
  unfold Ieee.Datum.order
  simp only [Option.some.injEq]
  have q1 : ((-1074 : Int) + (a : Int) - min (-1074 + (a : Int)) (-1074 + (b : Int))).toNat = a - min a b := by omega
  have q2 : ((-1074 : Int) + (b : Int) - min (-1074 + (a : Int)) (-1074 + (b : Int))).toNat = b - min a b := by omega
  rw [q1, q2, ← cmp_scale _ _ (2 ^ min a b) (Nat.two_pow_pos _)]
  have p1 : (2 : Nat) ^ a = 2 ^ (a - min a b) * 2 ^ (min a b) := by rw [← Nat.pow_add]; congr 1; omega
  have p2 : (2 : Nat) ^ b = 2 ^ (b - min a b) * 2 ^ (min a b) := by rw [← Nat.pow_add]; congr 1; omega
  have r1 : Ieee.signed (x / 9223372036854775808 % 2 == 1) m (a - min a b) * ((2 ^ min a b : Nat) : Int) = sv x := by
    unfold sv
    rw [← v1, p1, signed_nat]
    by_cases h : x / 9223372036854775808 % 2 = 1
    · rw [if_pos (beq_iff_eq.2 h), if_pos h, Int.neg_mul, ← Nat.mul_assoc]; norm_cast
    · rw [if_neg (by rw [beq_iff_eq]; exact h), if_neg h, ← Nat.mul_assoc]; norm_cast
  have r2 : Ieee.signed (y / 9223372036854775808 % 2 == 1) n (b - min a b) * ((2 ^ min a b : Nat) : Int) = sv y := by
    unfold sv
    rw [← v2, p2, signed_nat]
    by_cases h : y / 9223372036854775808 % 2 = 1
    · rw [if_pos (beq_iff_eq.2 h), if_pos h, Int.neg_mul, ← Nat.mul_assoc]; norm_cast
    · rw [if_neg (by rw [beq_iff_eq]; exact h), if_neg h, ← Nat.mul_assoc]; norm_cast
  rw [r1, r2]
theorem abs_w (x : Nat) (hx : x < 18446744073709551616) : absF x = x % 9223372036854775808 := by
  unfold absF
  have h : bits BinOp.andNot IntKind.u64 (x : Int) 9223372036854775808 = IntKind.u64.wrap (((BitVec.ofInt 64 (x : Int) &&& ~~~ (BitVec.ofInt 64 9223372036854775808)).toNat : Nat) : Int) := rfl
  have h2 : (BitVec.ofInt 64 (x : Int)).toNat = x := by
    rw [BitVec.toNat_ofInt]
    omega
  have h3 : (~~~ (BitVec.ofInt 64 9223372036854775808)).toNat = 2 ^ 63 - 1 := by decide
  rw [h, BitVec.toNat_and, h2, h3, Nat.and_two_pow_sub_one_eq_mod, IntKind.wrap_u64]
  omega
theorem neg_w (x : Nat) (hx : x < 18446744073709551616) : Op.negFloat .f64 x = if 9223372036854775808 ≤ x then x - 9223372036854775808 else x + 9223372036854775808 := by
  have e : Op.negFloat .f64 x = x ^^^ 9223372036854775808 := rfl
  rw [e]
  have h2 : (9223372036854775808 : Nat) = 2 ^ 63 := by decide
  have h3 := Nat.xor_mod_two_pow (a := x) (b := 9223372036854775808) (n := 63)
  have h4 := Nat.xor_div_two_pow (a := x) (b := 9223372036854775808) (n := 63)
  have h5 : (9223372036854775808 : Nat) % 2 ^ 63 = 0 := by decide
  have h6 : (9223372036854775808 : Nat) / 2 ^ 63 = 1 := by decide
  rw [h5, Nat.xor_zero] at h3
  rw [h6] at h4
  rw [← h2] at h3 h4
  have h7 : x / 9223372036854775808 = 0 ∨ x / 9223372036854775808 = 1 := by omega
  split
  · have h8 : x / 9223372036854775808 = 1 := by omega
    rw [h8] at h4
    have : (1 ^^^ 1 : Nat) = 0 := by decide
    omega
  · have h8 : x / 9223372036854775808 = 0 := by omega
    rw [h8] at h4
    have : (0 ^^^ 1 : Nat) = 1 := by decide
    omega
theorem sv_zero : sv 0 = 0 := by
  unfold sv
  rw [if_neg (by decide), val_low (by decide)]
  rfl
theorem val_zero {r : Nat} (h : valR r = 0) : r = 0 := val_inj (h.trans (val_low (by decide)).symm)
theorem fo_zero {x : Nat} (hx : x < 18446744073709551616) (fx : x % 9223372036854775808 < 9218868437227405312) (nx : x ≠ 9223372036854775808) :
    (fo x 0 == some .eq) = decide (x = 0) ∧ (fo x 0 == some .lt) = decide (9223372036854775808 ≤ x) := by
  rw [fo_sv fx (by decide), sv_zero]
  unfold sv
  by_cases h : 9223372036854775808 ≤ x
  · rw [if_pos (by omega), decide_eq_true h, decide_eq_false (by omega)]
    have : 0 < valR (x % 9223372036854775808) := by
      apply Nat.pos_of_ne_zero
      intro e
      have := val_zero e
      omega
    rw [Int.compare_eq_ite_lt, if_pos (by omega)]
    exact ⟨rfl, rfl⟩
  · rw [if_neg (by omega), decide_eq_false h]
    by_cases h0 : x = 0
    · subst h0
      rw [show (0 : Nat) % 9223372036854775808 = 0 by decide, val_low (by decide)]
      exact ⟨rfl, rfl⟩
    · have : 0 < valR (x % 9223372036854775808) := by
        apply Nat.pos_of_ne_zero
        intro e
        have := val_zero e
        omega
      rw [Int.compare_eq_ite_lt, if_neg (by omega), if_pos (by omega), decide_eq_false h0]
      exact ⟨rfl, rfl⟩
theorem right_pos {x : Nat} (fx : x < 9218868437227405312) : rightF x = true := by
  have hm : x % 9223372036854775808 = x := Nat.mod_eq_of_lt (by omega)
  have h1 : nanF x = false := by
    unfold nanF
    rw [fo_self (by omega)]
    rfl
  have h2 : infF x = false := by
    unfold infF
    rw [abs_w x (by omega), hm, fo_sv (by omega) (by decide)]
    unfold sv
    rw [if_neg (by omega), if_neg (by decide), hm]
    have := val_le (show x ≤ 9218868437227405311 % 9223372036854775808 by omega)
    rw [Int.compare_eq_ite_lt]
    split
    · rfl
    · rw [if_neg (by omega)]; rfl
  have h3 : negF x = false := by
    unfold negF
    rw [decide_eq_false]
    unfold wrap64
    omega
  unfold rightF
  rw [h1, h2, h3]
  simp
/-- is a number beyond 2^30? -/
def bigF (x : Nat) : Bool := fo (absF x) 4742290407621132288 == some .gt
theorem big_w {x : Nat} (hx : x < 18446744073709551616) (fx : x % 9223372036854775808 < 9218868437227405312) : bigF x = decide (4742290407621132288 < x % 9223372036854775808) := by
  unfold bigF
  have hm : x % 9223372036854775808 % 9223372036854775808 = x % 9223372036854775808 := Nat.mod_mod _ _
  rw [abs_w x hx, fo_sv (by omega) (by decide)]
  unfold sv
  rw [if_neg (by omega), if_neg (by decide), hm, show (4742290407621132288 : Nat) % 9223372036854775808 = 4742290407621132288 by decide]
  rw [Int.compare_eq_ite_lt]
  by_cases h : 4742290407621132288 < x % 9223372036854775808
  · have := val_lt h
    rw [if_neg (by omega), if_pos (by omega), decide_eq_true h]
    rfl
  · have := val_le (show x % 9223372036854775808 ≤ 4742290407621132288 by omega)
    rw [decide_eq_false h]
    split
    · rfl
    · rw [if_neg (by omega)]; rfl

/-! texts -/
theorem idx_skip (c : UInt8) : ∀ (p q : List UInt8), (∀ b ∈ p, b ≠ c) → Lib.index (p ++ c :: q) [c] = p.length
  | [], q, _ => by
    rw [List.nil_append, Lib.index]
    rw [if_pos (by simp)]
    rfl
  | b :: p, q, h => by
    have h1 : b ≠ c := h b (by simp)
    have h2 := idx_skip c p q (fun x hx => h x (by simp [hx]))
    rw [List.cons_append, Lib.index, if_neg (by simp [Ne.symm h1]), h2, if_neg (by rw [beq_iff_eq]; omega)]
    rfl
theorem idx_none (c : UInt8) : ∀ (p : List UInt8), (∀ b ∈ p, b ≠ c) → Lib.index p [c] = -1
  | [], _ => rfl
  | b :: p, h => by
    have h1 : b ≠ c := h b (by simp)
    have h2 := idx_none c p (fun x hx => h x (by simp [hx]))
    rw [Lib.index, if_neg (by simp [Ne.symm h1]), h2]
    rfl
theorem cut_skip (c : UInt8) (p q : List UInt8) (h : ∀ b ∈ p, b ≠ c) : Lib.cut (p ++ c :: q) [c] = (p, q, true) := by
  have h1 := idx_skip c p q h
  unfold Lib.cut
  rw [h1, if_pos (by omega)]
  simp
/-- a digit -/
def isDg (b : UInt8) : Prop := 48 ≤ b.toNat ∧ b.toNat ≤ 57
theorem isDg.ne {b : UInt8} (h : isDg b) {c : UInt8} (hc : c.toNat < 48 ∨ 57 < c.toNat) : b ≠ c := by
  intro e
  subst e
  unfold isDg at h
  omega
theorem sd_dg (u : Nat) : ∀ b ∈ sdH u :: sdL u, isDg b := by
  intro b hb
  rcases List.mem_cons.1 hb with rfl | hb
  · exact dg_digit _ _
  · obtain ⟨t, _, rfl⟩ := List.mem_map.1 hb
    exact dg_digit _ _
/-- the digits with their point -/
def efgH (d0 : UInt8) (ds : List UInt8) : List UInt8 := [d0] ++ (if ds = [] then [] else 46 :: ds)
def efgP (dp : Int) : List UInt8 := [if dp - 1 < 0 then 45 else 43] ++ expD (dp - 1).natAbs
theorem efg_parts (d0 : UInt8) (ds : List UInt8) (dp : Int) : efgT d0 ds dp = efgH d0 ds ++ 101 :: efgP dp := by
  unfold efgT efgH efgP
  simp
theorem efg_cut (d0 : UInt8) (ds : List UInt8) (dp : Int) (h : ∀ b ∈ d0 :: ds, isDg b) : Lib.cut (efgT d0 ds dp) [101] = (efgH d0 ds, efgP dp, true) := by
  rw [efg_parts]
  refine cut_skip _ _ _ fun b hb => ?_
  unfold efgH at hb
  rcases List.mem_append.1 hb with hb | hb
  · have : b = d0 := by simpa using hb
    exact (h b (by rw [this]; simp)).ne (.inr (by decide))
  · split at hb
    · cases hb
    · rcases List.mem_cons.1 hb with rfl | hb
      · decide
      · exact (h b (by simp [hb])).ne (.inr (by decide))
theorem efg_replace (d0 : UInt8) (ds : List UInt8) (h : ∀ b ∈ d0 :: ds, isDg b) : Lib.replace (efgH d0 ds) [46] [] 1 = d0 :: ds := by
  have h0 : d0 ≠ 46 := (h d0 (by simp)).ne (.inl (by decide))
  unfold Lib.replace
  rw [if_neg (by decide)]
  by_cases hd : ds = []
  · subst hd
    have e : efgH d0 [] = [d0] := rfl
    have hi := idx_none 46 [d0] (fun b hb => by rw [show b = d0 by simpa using hb]; exact h0)
    have hc : Lib.count [d0] [46] = 0 := by
      unfold Lib.count
      rw [show [d0].length + 1 = 1 + 1 from rfl, Lib.countFrom, hi]
      rfl
    rw [e]
    unfold Lib.replaceNum
    rw [hc, if_pos (by decide)]
    rfl
  · have e : efgH d0 ds = [d0] ++ 46 :: ds := by unfold efgH; rw [if_neg hd]
    have hi := idx_skip 46 [d0] ds (fun b hb => by rw [show b = d0 by simpa using hb]; exact h0)
    rw [e]
    have hc : 1 ≤ Lib.count ([d0] ++ 46 :: ds) [46] := by
      unfold Lib.count
      rw [Lib.countFrom, hi, if_neg (by simp)]
      omega
    unfold Lib.replaceNum
    rw [if_neg (by omega), show (1 : Int).toNat = 0 + 1 from rfl, Lib.replaceK_hit _ _ _ _ 1 hi]
    simp [Lib.replaceK]
theorem dv (n : Nat) (h : n < 10) : Lib.digitVal (UInt8.ofNat (48 + n)) = some n := by
  have h1 : (UInt8.ofNat (48 + n)).toNat = 48 + n := by rw [UInt8.toNat_ofNat']; omega
  unfold Lib.digitVal
  rw [h1, if_pos (by omega)]
  congr 1
  omega
theorem exp_num (n : Nat) (h : n < 1000) : Lib.decNat (expD n) = some n := by
  unfold expD
  split
  · rename_i h1
    have e48 : Lib.digitVal 48 = some 0 := by decide
    show Lib.decFrom 0 [48, UInt8.ofNat (48 + n)] = some n
    rw [Lib.decFrom, e48]
    simp only
    rw [Lib.decFrom, dv n h1]
    simp only [Lib.decFrom]
    congr 1
    omega
  · split
    · rename_i h1 h2
      show Lib.decFrom 0 [UInt8.ofNat (48 + n / 10), UInt8.ofNat (48 + n % 10)] = some n
      rw [Lib.decFrom, dv (n / 10) (by omega)]
      simp only
      rw [Lib.decFrom, dv (n % 10) (by omega)]
      simp only [Lib.decFrom]
      congr 1
      omega
    · show Lib.decFrom 0 [UInt8.ofNat (48 + n / 100), UInt8.ofNat (48 + n / 10 % 10), UInt8.ofNat (48 + n % 10)] = some n
      rw [Lib.decFrom, dv (n / 100) (by omega)]
      simp only
      rw [Lib.decFrom, dv (n / 10 % 10) (by omega)]
      simp only
      rw [Lib.decFrom, dv (n % 10) (by omega)]
      simp only [Lib.decFrom]
      congr 1
      omega
theorem efg_atoi (dp : Int) (h0 : -400 ≤ dp) (h1 : dp ≤ 400) : Lib.atoi (efgP dp) = some (dp - 1) := by
  have h := exp_num (dp - 1).natAbs (by omega)
  unfold efgP
  by_cases hn : dp - 1 < 0
  · rw [if_pos hn]
    show Lib.atoi (45 :: expD _) = _
    rw [Lib.atoi, if_pos (by decide), h]
    simp only [Option.map_some]
    congr 1
    omega
  · rw [if_neg hn]
    show Lib.atoi (43 :: expD _) = _
    rw [Lib.atoi, if_neg (by decide), if_pos (by decide), h]
    simp only [Option.map_some]
    congr 1
    omega
theorem efg_len (d0 : UInt8) (ds : List UInt8) (dp : Int) (h : ds.length ≤ 20) : (efgT d0 ds dp).length ≤ 40 ∧ (efgP dp).length ≤ 18 ∧ (efgH d0 ds).length ≤ 30 := by
  have he : (expD (dp - 1).natAbs).length ≤ 3 := by
    unfold expD
    split
    · simp
    · split <;> simp
  unfold efgT efgP efgH
  split <;> simp only [List.length_append, List.length_cons, List.length_nil] <;> omega
end Go.Proofs.YtihhhglnnapkoaaGreatDoor.prnw
