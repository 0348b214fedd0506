/- Two right numbers are equal just where their bits are. Condition: neither is a NaN, an infinity or minus 0. -/
import Derived.Test.YtihhhglnnapkoaaGreatDoorNodeB
namespace Go.Proofs.YtihhhglnnapkoaaGreatDoor.flatm
open Go.Proofs.YtihhhglnnapkoaaGreatDoor.nodew

/-- the size of a rung, in the least unit -/
def valR (r : Nat) : Nat := if r < 4503599627370496 then r else (4503599627370496 + r % 4503599627370496) * 2 ^ (r / 4503599627370496 - 1)
theorem val_low {r : Nat} (h : r < 4503599627370496) : valR r = r := if_pos h
theorem val_high {r : Nat} (h : ¬ r < 4503599627370496) : 4503599627370496 * 2 ^ (r / 4503599627370496 - 1) ≤ valR r ∧ valR r < 4503599627370496 * 2 ^ (r / 4503599627370496) ∧ 1 ≤ r / 4503599627370496 := by
  have hq : 1 ≤ r / 4503599627370496 := by omega
  have hp := Nat.two_pow_pos (r / 4503599627370496 - 1)
  have hs : (2 : Nat) ^ (r / 4503599627370496) = 2 * 2 ^ (r / 4503599627370496 - 1) := by
    conv => lhs; rw [show r / 4503599627370496 = (r / 4503599627370496 - 1) + 1 by omega]
    rw [Nat.pow_succ]; omega
  have hf : r % 4503599627370496 < 4503599627370496 := Nat.mod_lt _ (by decide)
  unfold valR
  rw [if_neg h]
  refine ⟨Nat.mul_le_mul_right _ (by omega), ?_, hq⟩
  rw [hs, ← Nat.mul_assoc]
  exact Nat.mul_lt_mul_of_pos_right (by omega) hp
theorem val_inj {r s : Nat} (h : valR r = valR s) : r = s := by
  by_cases hr : r < 4503599627370496
  · by_cases hs : s < 4503599627370496
    · rwa [val_low hr, val_low hs] at h
    · have h1 := val_high hs
      have hp := Nat.two_pow_pos (s / 4503599627370496 - 1)
      have h2 : 4503599627370496 * 1 ≤ 4503599627370496 * 2 ^ (s / 4503599627370496 - 1) := Nat.mul_le_mul_left _ hp
      rw [val_low hr] at h
      omega
  · have a1 := val_high hr
    by_cases hs : s < 4503599627370496
    · have hp := Nat.two_pow_pos (r / 4503599627370496 - 1)
      have h2 : 4503599627370496 * 1 ≤ 4503599627370496 * 2 ^ (r / 4503599627370496 - 1) := Nat.mul_le_mul_left _ hp
      rw [val_low hs] at h
      omega
    · have b1 := val_high hs
      have hq : r / 4503599627370496 = s / 4503599627370496 := by
        rcases Nat.lt_trichotomy (r / 4503599627370496) (s / 4503599627370496) with hlt | heq | hlt
        · exfalso
          have h2 : (2 : Nat) ^ (r / 4503599627370496) ≤ 2 ^ (s / 4503599627370496 - 1) := Nat.pow_le_pow_right (by decide) (by omega)
          have h3 := Nat.mul_le_mul_left 4503599627370496 h2
          omega
        · exact heq
        · exfalso
          have h2 : (2 : Nat) ^ (s / 4503599627370496) ≤ 2 ^ (r / 4503599627370496 - 1) := Nat.pow_le_pow_right (by decide) (by omega)
          have h3 := Nat.mul_le_mul_left 4503599627370496 h2
          omega
      unfold valR at h
      rw [if_neg hr, if_neg hs, hq] at h
      have := Nat.eq_of_mul_eq_mul_right (Nat.two_pow_pos _) h
      omega
theorem signed_nat (s : Bool) (m k : Nat) : Ieee.signed s m k = if s then -((m * 2 ^ k : Nat) : Int) else ((m * 2 ^ k : Nat) : Int) := by
  unfold Ieee.signed
  rw [Nat.shiftLeft_eq]
theorem signed_inj {s t : Bool} {m n a b : Nat} (h : Ieee.signed s m a = Ieee.signed t n b) : m * 2 ^ a = n * 2 ^ b ∧ (s = t ∨ m * 2 ^ a = 0) := by
  rw [signed_nat, signed_nat] at h
  cases s <;> cases t <;> simp only [if_true, if_false, Bool.false_eq_true] at h
  · exact ⟨by omega, .inl rfl⟩
  · exact ⟨by omega, .inr (by omega)⟩
  · exact ⟨by omega, .inr (by omega)⟩
  · exact ⟨by omega, .inl rfl⟩
theorem order_scale {s t : Bool} {m n a b : Nat} {c : Int} (h : Ieee.Datum.order (.number s m (c + a)) (.number t n (c + b)) = some .eq) : m * 2 ^ a = n * 2 ^ b ∧ (s = t ∨ m * 2 ^ a = 0) := by
  unfold Ieee.Datum.order at h
  simp only [Option.some.injEq] at h
  have hc := Std.LawfulEqOrd.eq_of_compare h
  have e1 : (c + (a : Int) - min (c + (a : Int)) (c + (b : Int))).toNat = a - min a b := by omega
  have e2 : (c + (b : Int) - min (c + (a : Int)) (c + (b : Int))).toNat = b - min a b := by omega
  rw [e1, e2] at hc
  obtain ⟨h1, h2⟩ := signed_inj hc
  have p1 : (2 : Nat) ^ a = 2 ^ (a - min a b) * 2 ^ (min a b) := by rw [← Nat.pow_add]; congr 1; omega
  have p2 : (2 : Nat) ^ b = 2 ^ (b - min a b) * 2 ^ (min a b) := by rw [← Nat.pow_add]; congr 1; omega
  refine ⟨by rw [p1, p2, ← Nat.mul_assoc, ← Nat.mul_assoc, h1], ?_⟩
  rcases h2 with h2 | h2
  · exact .inl h2
  · exact .inr (by rw [p1, ← Nat.mul_assoc, h2, Nat.zero_mul])
/-- what a word below infinity stands for -/
theorem read_num (x : Nat) (h : x % 9223372036854775808 < 9218868437227405312) : ∃ m a : Nat, Ieee.Format.read Ieee.double x = .number (x / 9223372036854775808 % 2 == 1) m ((-1074 : Int) + a) ∧ m * 2 ^ a = valR (x % 9223372036854775808) := by
  have hw : Ieee.double.signWeight = 9223372036854775808 := by kernel_rfl
  have hb : Ieee.double.binade = 4503599627370496 := by kernel_rfl
  have hi : Ieee.double.infRung = 9218868437227405312 := by kernel_rfl
  have hl : Ieee.double.leastPlace = -1074 := by kernel_rfl
  unfold Ieee.Format.read
  simp only [hw, hb, hi, hl]
  by_cases h1 : x % 9223372036854775808 < 4503599627370496
  · rw [if_pos h1]
    exact ⟨x % 9223372036854775808, 0, rfl, by rw [val_low h1]; simp⟩
  · rw [if_neg h1, if_pos h]
    refine ⟨_, _, rfl, ?_⟩
    unfold valR
    rw [if_neg h1]
theorem fo_inj {x y : Nat} (hx : x < 18446744073709551616) (hy : y < 18446744073709551616) (fx : x % 9223372036854775808 < 9218868437227405312) (fy : y % 9223372036854775808 < 9218868437227405312) (nx : x ≠ 9223372036854775808) (ny : y ≠ 9223372036854775808) (h : fo x y = some .eq) : x = y := by
  obtain ⟨m, a, e1, v1⟩ := read_num x fx
  obtain ⟨n, b, e2, v2⟩ := read_num y fy
  have h' : Ieee.Datum.order (Ieee.Format.read Ieee.double x) (Ieee.Format.read Ieee.double y) = some .eq := h
  rw [e1, e2] at h'
  obtain ⟨h1, h2⟩ := order_scale h'
  rw [v1, v2] at h1
  have hr := val_inj h1
  rw [v1] at h2
  rcases h2 with h2 | h2
  · have : (x / 9223372036854775808 % 2 = 1) ↔ (y / 9223372036854775808 % 2 = 1) := by
      rw [← beq_iff_eq, ← beq_iff_eq (a := y / 9223372036854775808 % 2), h2]
    omega
  · have h0 : x % 9223372036854775808 = 0 := val_inj (h2.trans (val_low (by decide)).symm)
    omega
theorem fo_self {x : Nat} (fx : x % 9223372036854775808 < 9218868437227405312) : fo x x = some .eq := by
  obtain ⟨m, a, e1, _⟩ := read_num x fx
  show Ieee.Datum.order (Ieee.Format.read Ieee.double x) (Ieee.Format.read Ieee.double x) = some .eq
  rw [e1]
  unfold Ieee.Datum.order
  simp only [Option.some.injEq]
  exact Std.ReflCmp.compare_self
/-- right numbers -/
theorem right_word {x : Nat} (hx : x < 18446744073709551616) (h : rightF x = true) : x % 9223372036854775808 < 9218868437227405312 ∧ x ≠ 9223372036854775808 := by
  have h63 : rightF 9223372036854775808 = false := by kernel_rfl
  have hi1 : rightF 9218868437227405312 = false := by kernel_rfl
  have hi2 : rightF 18442240474082181120 = false := by kernel_rfl
  have hne : x ≠ 9223372036854775808 := fun e => by rw [e, h63] at h; cases h
  refine ⟨?_, hne⟩
  apply Nat.lt_of_not_le
  intro hge
  by_cases he : x % 9223372036854775808 = 9218868437227405312
  · have : x = 9218868437227405312 ∨ x = 18442240474082181120 := by omega
    rcases this with e | e
    · rw [e, hi1] at h; cases h
    · rw [e, hi2] at h; cases h
  · have hw : Ieee.double.signWeight = 9223372036854775808 := by kernel_rfl
    have hb : Ieee.double.binade = 4503599627370496 := by kernel_rfl
    have hi : Ieee.double.infRung = 9218868437227405312 := by kernel_rfl
    have hr : ∃ s f, Ieee.Format.read Ieee.double x = .nan s f := by
      unfold Ieee.Format.read
      simp only [hw, hb, hi]
      rw [if_neg (by omega), if_neg (by omega), if_neg he]
      exact ⟨_, _, rfl⟩
    obtain ⟨s, f, hr⟩ := hr
    have hn : nanF x = true := by
      unfold nanF
      show (Ieee.Datum.order (Ieee.Format.read Ieee.double x) (Ieee.Format.read Ieee.double x) != some .eq) = true
      rw [hr]
      rfl
    unfold rightF at h
    rw [hn] at h
    cases h
/-- two right numbers are equal just where their bits are -/
theorem fo_right {x y : Nat} (hx : x < 18446744073709551616) (hy : y < 18446744073709551616) (rx : rightF x = true) (ry : rightF y = true) : (fo x y == some .eq) = decide (x = y) := by
  obtain ⟨fx, nx⟩ := right_word hx rx
  obtain ⟨fy, ny⟩ := right_word hy ry
  by_cases e : x = y
  · subst e
    rw [fo_self fx, decide_eq_true rfl]
    rfl
  · rw [decide_eq_false e, beq_eq_false_iff_ne]
    exact fun h => e (fo_inj hx hy fx fy nx ny h)
end Go.Proofs.YtihhhglnnapkoaaGreatDoor.flatm
