/- Two positive floats' digits are of two values. Plain. -/
import Derived.Test.YtihhhglnnapkoaaGreatDoorFpJ
import Derived.Test.YtihhhglnnapkoaaGreatDoorPrnS
namespace Go.Proofs.YtihhhglnnapkoaaGreatDoor.fpm
open Go Go.RowKit Go.Proofs.YtihhhglnnapkoaaGreatDoor.prnw

/-- the ends of a float's interval, in quarters of the least unit -/
def endL (X : Nat) : Nat := loQ (ftM X) (ftE X - 52) * 2 ^ (ftE X - 52 + 1074).toNat
def endU (X : Nat) : Nat := (4 * ftM X + 2) * 2 ^ (ftE X - 52 + 1074).toNat
theorem ends_meet (X : Nat) : endL (X + 1) = endU X := by
  unfold endL endU
  obtain ⟨q, hq⟩ : ∃ q, q = X / 4503599627370496 := ⟨_, rfl⟩
  obtain ⟨r, hr⟩ : ∃ r, r = X % 4503599627370496 := ⟨_, rfl⟩
  by_cases hl : r + 1 < 4503599627370496
  · have e1 : (X + 1) / 4503599627370496 = q := by omega
    have e2 : (X + 1) % 4503599627370496 = r + 1 := by omega
    have hM : ftM (X + 1) = ftM X + 1 := by
      unfold ftM
      rw [e1, e2, ← hq, ← hr]
      split <;> omega
    have hE : ftE (X + 1) = ftE X := by
      unfold ftE
      rw [e1, ← hq]
    have hM0 : ftM X + 1 ≠ 4503599627370496 ∨ ¬ -1074 < ftE X - 52 := by
      unfold ftM ftE
      rw [← hq, ← hr]
      split <;> omega
    rw [hM, hE]
    congr 1
    unfold loQ
    rw [if_neg (by omega)]
    omega
  · have e1 : (X + 1) / 4503599627370496 = q + 1 := by omega
    have e2 : (X + 1) % 4503599627370496 = 0 := by omega
    have hM : ftM (X + 1) = 4503599627370496 := by
      unfold ftM
      rw [e1, e2, if_neg (by omega)]
    have hE : ftE (X + 1) = (q : Int) - 1022 := by
      unfold ftE
      rw [e1, if_neg (by omega)]
      omega
    rw [hM, hE]
    by_cases h0 : q = 0
    · have hM2 : ftM X = 4503599627370495 := by
        unfold ftM
        rw [← hq, ← hr, if_pos h0]
        omega
      have hE2 : ftE X = -1022 := by unfold ftE; rw [← hq, if_pos h0]
      rw [hM2, hE2, h0]
      decide
    · have hM2 : ftM X = 9007199254740991 := by
        unfold ftM
        rw [← hq, ← hr, if_neg h0]
        omega
      have hE2 : ftE X = (q : Int) - 1023 := by unfold ftE; rw [← hq, if_neg h0]
      rw [hM2, hE2]
      unfold loQ
      rw [if_pos ⟨rfl, by omega⟩, show ((q : Int) - 1022 - 52 + 1074).toNat = q - 1 + 1 by omega, show ((q : Int) - 1023 - 52 + 1074).toNat = q - 1 by omega, Nat.pow_succ]
      generalize 2 ^ (q - 1) = t
      omega
theorem ends_lt (X : Nat) (h : 0 < X) : endL X < endU X := by
  unfold endL endU
  refine (Nat.mul_lt_mul_right (Nat.two_pow_pos _)).2 ?_
  have := loQ_bd (ftM X) (ftE X - 52)
  have := ftM_pos X h
  omega
theorem ends_mono (X : Nat) (h : 0 < X) : ∀ n, endL X + n ≤ endL (X + n)
  | 0 => Nat.le_refl _
  | n + 1 => by
    have h1 := ends_mono X h n
    have h2 := ends_lt (X + n) (by omega)
    rw [← Nat.add_assoc X, ends_meet (X + n)]
    omega
theorem ftM_odd (X : Nat) : ftM X % 2 = X % 2 := by
  unfold ftM
  split <;> omega
def tB : Nat := 400
theorem tB_eq : tB = 400 := rfl
/-- a float's digits, as one number -/
def ftV (X : Nat) : Nat := (ftR hiP loP X).1.toNat * 10 ^ ((ftR hiP loP X).2 + 400).toNat
theorem hiP_T : hiP = hiT := rfl
theorem loP_T : loP = loT := rfl
theorem ft_in (X : Nat) (hX0 : 0 < X) (hX : X < 9218868437227405312) :
    endL X * 10 ^ tB ≤ ftV X * 2 ^ upB ∧ ftV X * 2 ^ upB ≤ endU X * 10 ^ tB ∧ (X % 2 = 1 → endL X * 10 ^ tB < ftV X * 2 ^ upB ∧ ftV X * 2 ^ upB < endU X * 10 ^ tB) := by
  obtain ⟨r1, r2, r3, r4, r5⟩ := ft_range X hX0 hX
  obtain ⟨S, hS⟩ : ∃ S, S = 64 - Lib.bitLen (ftM X) := ⟨_, rfl⟩
  obtain ⟨k, P, p1, p2, p3, i1, i2, i3⟩ := sf_in (ftM X) S (ftE X - 52) r1 r2 r3 r4 r5 hS
  have hR : ftR hiP loP X = sfR hiT loT ((ftM X * 2 ^ S : Nat) : Int) (ftE X - 52 - S) := by
    unfold ftR
    rw [← hS, show ftE X - (S : Int) - 52 = ftE X - 52 - S by omega]
    rfl
  rw [← hR] at p3
  have hV : ftV X = k * 10 ^ (400 - P).toNat := by
    unfold ftV
    rcases p3 with h | ⟨k', h1, h2⟩
    · rw [h, Int.toNat_natCast, show -P + 400 = 400 - P by omega]
    · rw [h2, h1, Int.toNat_natCast]
      show k' * 10 ^ (-(P - 1) + 400).toNat = _
      rw [show (-(P - 1) + 400).toNat = (400 - P).toNat + 1 by omega, Nat.pow_succ, Nat.mul_assoc, Nat.mul_comm 10]
  have hp10 : 0 < 10 ^ P.toNat := Nat.pow_pos (by decide)
  have htB := tB_eq
  have e1 : ftV X * 2 ^ upB * 10 ^ P.toNat = k * 2 ^ upB * 10 ^ (-P).toNat * 10 ^ tB := by
    rw [hV]
    have : 10 ^ (400 - P).toNat * 10 ^ P.toNat = 10 ^ (-P).toNat * 10 ^ tB := by
      rw [← Nat.pow_add, ← Nat.pow_add]
      exact congrArg (fun z : Nat => 10 ^ z) (by omega)
    generalize 10 ^ (400 - P).toNat = t1 at *
    generalize 10 ^ P.toNat = t2 at *
    generalize 10 ^ (-P).toNat = t3 at *
    generalize 10 ^ tB = t4 at *
    generalize 2 ^ upB = t5 at *
    have a1 : k * t1 * t5 * t2 = k * t5 * (t1 * t2) := by ac_rfl
    rw [a1, this]
    ac_rfl
  have sc : ∀ A, A * 10 ^ tB * 10 ^ P.toNat = A * 10 ^ P.toNat * 10 ^ tB := fun A => Nat.mul_right_comm _ _ _
  have h400 : 0 < 10 ^ tB := Nat.pow_pos (by decide)
  change endL X * 10 ^ P.toNat ≤ _ at i1
  change _ ≤ endU X * 10 ^ P.toNat at i2
  change _ → endL X * 10 ^ P.toNat < _ ∧ _ < endU X * 10 ^ P.toNat at i3
  rw [ftM_odd] at i3
  refine ⟨(le_scaled hp10 h400 (sc _) e1).2 i1, (le_scaled hp10 h400 e1 (sc _)).2 i2, fun h => ?_⟩
  obtain ⟨j1, j2⟩ := i3 h
  exact ⟨(lt_scaled hp10 h400 (sc _) e1).2 j1, (lt_scaled hp10 h400 e1 (sc _)).2 j2⟩
theorem ftV_lt (X n : Nat) (hX0 : 0 < X) (hY : X + (n + 1) < 9218868437227405312) : ftV X ≠ ftV (X + (n + 1)) := by
  intro h
  obtain ⟨a1, a2, a3⟩ := ft_in X hX0 (by omega)
  obtain ⟨b1, b2, b3⟩ := ft_in (X + (n + 1)) (by omega) hY
  have hm := ends_mono (X + 1) (by omega) n
  rw [Nat.add_assoc X 1 n, Nat.add_comm 1 n, ends_meet X] at hm
  rw [h] at a2 a3
  have h400 : 0 < 10 ^ tB := Nat.pow_pos (by decide)
  have hle := Nat.le_trans b1 a2
  have hle2 := Nat.le_of_mul_le_mul_right hle h400
  have hn : n = 0 := by omega
  subst hn
  have he : endL (X + (0 + 1)) = endU X := by omega
  by_cases ho : X % 2 = 1
  · have := (a3 ho).2
    rw [he] at b1
    exact absurd b1 (Nat.not_le_of_lt this)
  · have := (b3 (by omega)).1
    rw [he] at this
    exact absurd a2 (Nat.not_le_of_lt this)
theorem ftV_inj (X Y : Nat) (hX0 : 0 < X) (hX : X < 9218868437227405312) (hY0 : 0 < Y) (hY : Y < 9218868437227405312) (h : ftV X = ftV Y) : X = Y := by
  rcases Nat.lt_trichotomy X Y with hl | he | hg
  · obtain ⟨n, rfl⟩ : ∃ n, Y = X + (n + 1) := ⟨Y - X - 1, by omega⟩
    exact absurd h (ftV_lt X n hX0 hY)
  · exact he
  · obtain ⟨n, rfl⟩ : ∃ n, X = Y + (n + 1) := ⟨X - Y - 1, by omega⟩
    exact absurd h.symm (ftV_lt Y n hY0 hX)
end Go.Proofs.YtihhhglnnapkoaaGreatDoor.fpm
