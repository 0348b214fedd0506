/- Rounding to a float64, and the product and the quotient of two, are the nearest floats of what is exact. Plain. -/
import Derived.Test.YtejmbbkklhpnaaaGreatDoorMc12
import Derived.Test.YtejmbbkklhpnaaaGreatDoorMc18
namespace Go.Proofs.YtejmbbkklhpnaaaGreatDoor.fpm
open Go Go.RowKit Go.Proofs.YtejmbbkklhpnaaaGreatDoor.prnw Go.Proofs.YtejmbbkklhpnaaaGreatDoor.flatm

theorem cut_rne (neg : Bool) (n v : Nat) : Ieee.Toward.cut .even neg n v = rne n (2 ^ v) := by
  have e : Ieee.Toward.cut .even neg n v = rne n (2 ^ min v (n.log2 + 2)) := by
    unfold Ieee.Toward.cut rne
    rw [Nat.shiftLeft_eq, Nat.one_mul]
    generalize 2 ^ min v (n.log2 + 2) = g
    simp only
    congr 1
    by_cases h1 : g < 2 * (n % g)
    · rw [decide_eq_true h1, if_pos (.inl h1)]
      rfl
    · rw [decide_eq_false h1, Bool.false_or]
      by_cases h2 : 2 * (n % g) = g ∧ n / g % 2 = 1
      · rw [if_pos (.inr h2)]
        have a1 : (g == 2 * (n % g)) = true := beq_iff_eq.2 h2.1.symm
        have a2 : (n / g % 2 == 1) = true := beq_iff_eq.2 h2.2
        rw [a1, a2]
        rfl
      · rw [if_neg (fun h => h.elim h1 h2)]
        have a1 : ((g == 2 * (n % g)) && (n / g % 2 == 1)) = false := by
          rw [Bool.and_eq_false_iff]
          by_cases h3 : 2 * (n % g) = g
          · exact .inr (beq_eq_false_iff_ne.2 fun h => h2 ⟨h3, h⟩)
          · exact .inl (beq_eq_false_iff_ne.2 fun h => h3 h.symm)
        rw [a1]
        rfl
  rw [e]
  by_cases h : v ≤ n.log2 + 2
  · rw [Nat.min_eq_left h]
  · rw [Nat.min_eq_right (by omega)]
    have small : ∀ k, n.log2 + 2 ≤ k → rne n (2 ^ k) = 0 := fun k hk => by
      have h1 : n < 2 ^ (n.log2 + 1) := Nat.lt_log2_self
      have h2 : (2 : Nat) ^ (n.log2 + 1) * 2 ≤ 2 ^ k := by
        rw [← Nat.pow_succ]
        exact Nat.pow_le_pow_right (by decide) hk
      generalize 2 ^ k = g at *
      generalize 2 ^ (n.log2 + 1) = l at *
      unfold rne
      rw [Nat.div_eq_of_lt (by omega), Nat.mod_eq_of_lt (by omega), if_neg (by omega)]
    rw [small _ (Nat.le_refl _), small v (by omega)]

def infW : Nat := 9218868437227405312
theorem infW_eq : infW = 9218868437227405312 := rfl
/-- rounding: the place, and the digits that are kept -/
theorem near_core (neg : Bool) (m : Nat) (p : Int) (hm : 0 < m) : ∃ t u v : Nat, (t : Int) = p - u + v + 1074 ∧ (t = 0 ∨ 4503599627370496 * 2 ^ v ≤ m * 2 ^ u) ∧ m * 2 ^ u ≤ 9007199254740992 * 2 ^ v ∧ (54 ≤ m.log2 → u = 0 ∧ 2 ≤ v) ∧
    Ieee.Format.nearest Ieee.double neg m p = Ieee.double.word neg (min (t * 4503599627370496 + rne (m * 2 ^ u) (2 ^ v)) infW) := by
  have hf : Ieee.double.fractionBits = 52 := rfl
  have hb : Ieee.double.binade = 4503599627370496 := by kernel_rfl
  have hi : Ieee.double.infRung = infW := by kernel_rfl
  have hl : Ieee.double.leastPlace = -1074 := by kernel_rfl
  obtain ⟨L, hL⟩ : ∃ L, m.log2 = L := ⟨_, rfl⟩
  obtain ⟨last, hlast⟩ : ∃ last : Int, last = max (p + (L : Int) - 52) (-1074) := ⟨_, rfl⟩
  have h1 : m < 2 ^ (L + 1) := by rw [← hL]; exact Nat.lt_log2_self
  have h2 : 2 ^ L ≤ m := by rw [← hL]; exact Nat.log2_self_le (by omega)
  refine ⟨(last + 1074).toNat, (p - last).toNat, (last - p).toNat, by omega, ?_, ?_, fun h => by omega, ?_⟩
  · by_cases h0 : last = -1074
    · left; omega
    · right
      have e : last = p + (L : Int) - 52 := by omega
      by_cases h52 : L ≤ 52
      · have e1 : (p - last).toNat = 52 - L := by omega
        have e2 : (last - p).toNat = 0 := by omega
        rw [e1, e2, Nat.pow_zero, Nat.mul_one]
        have := Nat.mul_le_mul_right (2 ^ (52 - L)) h2
        rw [← Nat.pow_add, show L + (52 - L) = 52 by omega] at this
        exact Nat.le_trans (by decide) this
      · have e1 : (p - last).toNat = 0 := by omega
        have e2 : (last - p).toNat = L - 52 := by omega
        rw [e1, e2, Nat.pow_zero, Nat.mul_one]
        have : (4503599627370496 : Nat) * 2 ^ (L - 52) = 2 ^ L := by
          rw [show (4503599627370496 : Nat) = 2 ^ 52 by decide, ← Nat.pow_add, show 52 + (L - 52) = L by omega]
        omega
  · have hu : L + 1 + (p - last).toNat ≤ 53 + (last - p).toNat := by omega
    have h3 : m * 2 ^ (p - last).toNat ≤ 2 ^ (L + 1) * 2 ^ (p - last).toNat := Nat.mul_le_mul_right _ (Nat.le_of_lt h1)
    rw [← Nat.pow_add] at h3
    have h4 : (2 : Nat) ^ (L + 1 + (p - last).toNat) ≤ 2 ^ (53 + (last - p).toNat) := Nat.pow_le_pow_right (by decide) hu
    rw [Nat.pow_add 2 53] at h4
    exact Nat.le_trans h3 (Nat.le_trans h4 (Nat.le_of_eq (by congr 1)))
  · unfold Ieee.Format.nearest
    rw [if_neg (by omega)]
    simp only [hf, hb, hi, hl]
    rw [hL, show ((52 : Nat) : Int) = 52 by rfl, ← hlast, cut_rne, Nat.shiftLeft_eq, show last - -1074 = last + 1074 by omega]
theorem two_cancel {a b k : Nat} (h : a * 2 ^ k = b * 2 ^ k) : a = b := Nat.eq_of_mul_eq_mul_right (Nat.two_pow_pos k) h
theorem pw3 (m x y z : Nat) : m * 2 ^ x * 2 ^ y * 2 ^ z = m * 2 ^ (x + y + z) := by rw [Nat.pow_add, Nat.pow_add, ← Nat.mul_assoc, ← Nat.mul_assoc]
theorem nearest_eq (neg : Bool) (m : Nat) (p : Int) (hm : 0 < m) : Ieee.Format.nearest Ieee.double neg m p = Ieee.double.word neg (min (nearX (m * 2 ^ p.toNat) (2 ^ (-p).toNat)) infW) := by
  obtain ⟨t, u, v, e1, e2, e3, _, e5⟩ := near_core neg m p hm
  obtain ⟨a, b, c⟩ := rne_spec (m * 2 ^ u) (2 ^ v) (Nat.two_pow_pos v)
  rw [e5]
  refine congrArg (fun x => Ieee.double.word neg (min x infW)) ?_
  refine near_eq (Nat.two_pow_pos _) (near_mk _ _ (2 ^ v) (m * 2 ^ u) t _ (Nat.two_pow_pos _) (Nat.two_pow_pos v) ?_ a b c (rne_le (Nat.two_pow_pos v) e3) e2)
  have hk : p.toNat + leB + v = u + t + (-p).toNat := by
    have := leB_eq
    omega
  rw [pw3, pw3, hk]
/-- a quotient with a digit that tells whether anything is left -/
theorem nearest_frac (neg : Bool) (E n : Nat) (p : Int) (hn : 0 < n) (hq : 9007199254740992 ≤ E / n) (C D : Nat) (hD : 0 < D) (h : E * 2 ^ (p + 1).toNat * D = C * n * 2 ^ (-(p + 1)).toNat) :
    Ieee.Format.nearest Ieee.double neg (2 * (E / n) + (E % n != 0).toNat) p = Ieee.double.word neg (min (nearX C D) infW) := by
  obtain ⟨q, hqd⟩ : ∃ q, E / n = q := ⟨_, rfl⟩
  obtain ⟨r, hr⟩ : ∃ r, E % n = r := ⟨_, rfl⟩
  have hEn : E = n * q + r := by rw [← hqd, ← hr]; exact (Nat.div_add_mod E n).symm
  have hrn : r < n := by rw [← hr]; exact Nat.mod_lt _ hn
  rw [hqd] at hq ⊢
  rw [hr]
  obtain ⟨s, hs⟩ : ∃ s, (r != 0).toNat = s := ⟨_, rfl⟩
  have hs1 : (s = 0 ∧ r = 0) ∨ (s = 1 ∧ 0 < r) := by
    by_cases h0 : r = 0
    · left; rw [← hs, h0]; exact ⟨rfl, rfl⟩
    · right
      rw [← hs, show (r != 0) = true from bne_iff_ne.2 h0]
      exact ⟨rfl, by omega⟩
  rw [hs]
  obtain ⟨t, u, v, e1, e2, e3, e4, e5⟩ := near_core neg (2 * q + s) p (by omega)
  rw [e5]
  have hlog : 54 ≤ (2 * q + s).log2 := by
    rw [Nat.le_log2 (by omega)]
    exact Nat.le_trans (show (2 : Nat) ^ 54 ≤ 2 * 9007199254740992 by decide) (by omega)
  obtain ⟨hu, hv⟩ := e4 hlog
  subst hu
  rw [Nat.pow_zero, Nat.mul_one] at e2 e3 ⊢
  obtain ⟨a, b, c⟩ := rne_spec (2 * q + s) (2 ^ v) (Nat.two_pow_pos v)
  have hR := rne_le (Nat.two_pow_pos v) e3
  refine congrArg (fun x => Ieee.double.word neg (min x infW)) ?_
  obtain ⟨R, hRd⟩ : ∃ R, rne (2 * q + s) (2 ^ v) = R := ⟨_, rfl⟩
  rw [hRd] at a b c hR ⊢
  refine near_eq hD (near_mk C D (n * 2 ^ v) (2 * E) t R hD (Nat.mul_pos hn (Nat.two_pow_pos v)) ?_ ?_ ?_ ?_ hR ?_)
  · have hk2 : (p + 1).toNat + (leB + v) = 1 + t + (-(p + 1)).toNat := by
      have := leB_eq
      omega
    have hp2 : 2 ^ (p + 1).toNat * (2 ^ leB * 2 ^ v) = 2 * 2 ^ t * 2 ^ (-(p + 1)).toNat := by
      rw [← Nat.pow_add, ← Nat.pow_add, hk2, Nat.pow_add, Nat.pow_add, Nat.pow_one]
    have hK : 0 < 2 ^ (-(p + 1)).toNat := Nat.two_pow_pos _
    generalize 2 ^ leB = Z at *
    generalize 2 ^ (p + 1).toNat = P at *
    generalize 2 ^ (-(p + 1)).toNat = K at *
    generalize 2 ^ t = T at *
    generalize 2 ^ v = V at *
    clear e1 e2 e3 e5 a b c
    refine Nat.eq_of_mul_eq_mul_right hK ?_
    calc C * Z * (n * V) * K = C * n * K * (Z * V) := by ac_rfl
      _ = E * D * (P * (Z * V)) := by rw [← h]; ac_rfl
      _ = E * D * (2 * T * K) := by rw [hp2]
      _ = 2 * E * T * D * K := by ac_rfl
  all_goals
    obtain ⟨z, hz⟩ : ∃ z, 2 ^ v = 4 * z := ⟨2 ^ (v - 2), by
      have h4 : (2 : Nat) ^ v = 2 ^ (2 + (v - 2)) := by congr 1; omega
      rw [h4, Nat.pow_add]⟩
    rw [hz] at a b c e2 ⊢
    obtain ⟨Q, hQ⟩ : ∃ Q, Q = R * z := ⟨_, rfl⟩
    obtain ⟨Qn, hQn⟩ : ∃ Qn, Qn = Q * n := ⟨_, rfl⟩
    obtain ⟨zn, hzn⟩ : ∃ zn, zn = z * n := ⟨_, rfl⟩
    obtain ⟨qn, hqn⟩ : ∃ qn, qn = q * n := ⟨_, rfl⟩
    have k1 : R * (4 * z) = 4 * Q := by rw [hQ]; ac_rfl
    have k2 : R * (n * (4 * z)) = 4 * Qn := by rw [hQn, hQ]; ac_rfl
    have k3 : n * (4 * z) = 4 * zn := by rw [hzn]; ac_rfl
    have k4 : E = qn + r := by rw [hqn, Nat.mul_comm q n]; exact hEn
    have mul_le : ∀ x y : Nat, x ≤ y → x * n ≤ y * n := fun x y h => Nat.mul_le_mul_right n h
  · rw [k1] at a b
    rw [k2, k3, k4]
    have f1 := mul_le (4 * Q) (2 * q + 2 * z) (by omega)
    rw [Nat.add_mul, Nat.mul_assoc, Nat.mul_assoc, Nat.mul_assoc, ← hQn, ← hqn, ← hzn] at f1
    omega
  · rw [k1] at a b
    rw [k2, k3, k4]
    rcases hs1 with ⟨s0, r0⟩ | ⟨s1, r1⟩
    · have f1 := mul_le (2 * q) (4 * Q + 2 * z) (by omega)
      rw [Nat.add_mul, Nat.mul_assoc, Nat.mul_assoc, Nat.mul_assoc, ← hQn, ← hqn, ← hzn] at f1
      omega
    · have f1 := mul_le (2 * q + 2) (4 * Q + 2 * z) (by omega)
      rw [Nat.add_mul, Nat.add_mul, Nat.mul_assoc, Nat.mul_assoc, Nat.mul_assoc, ← hQn, ← hqn, ← hzn] at f1
      omega
  · intro ho
    have hc := c ho
    rw [k1] at hc
    rw [k2, k3, k4]
    rcases hs1 with ⟨s0, r0⟩ | ⟨s1, r1⟩
    · have f1 := mul_le (4 * Q + 1) (2 * q + 2 * z) (by omega)
      have f2 := mul_le (2 * q + 1) (4 * Q + 2 * z) (by omega)
      rw [Nat.add_mul, Nat.add_mul, Nat.mul_assoc, Nat.mul_assoc, Nat.mul_assoc, ← hQn, ← hqn, ← hzn] at f1 f2
      omega
    · have f1 := mul_le (4 * Q) (2 * q + 2 * z) (by omega)
      have f2 := mul_le (2 * q + 2) (4 * Q + 2 * z) (by omega)
      rw [Nat.add_mul, Nat.mul_assoc, Nat.mul_assoc, Nat.mul_assoc, ← hQn, ← hqn, ← hzn] at f1
      rw [Nat.add_mul, Nat.add_mul, Nat.mul_assoc, Nat.mul_assoc, Nat.mul_assoc, ← hQn, ← hqn, ← hzn] at f2
      omega
  · rw [k3, k4]
    refine e2.imp_right fun h2 => ?_
    have f1 := mul_le (4503599627370496 * (2 * z)) q (by omega)
    have e : 4503599627370496 * (2 * z) * n = 4503599627370496 * (2 * zn) := by rw [hzn]; ac_rfl
    rw [e, ← hqn] at f1
    omega

/-- what a sign and a size below infinity are read as -/
theorem word_eq (s : Bool) (X : Nat) : Ieee.double.word s X = if s then 9223372036854775808 + X else X := by
  have hw : Ieee.double.signWeight = 9223372036854775808 := by kernel_rfl
  unfold Ieee.Format.word
  rw [hw]
theorem word_read (s : Bool) (X : Nat) (hX : X < infW) : ∃ m a : Nat, Ieee.Format.read Ieee.double (Ieee.double.word s X) = .number s m ((-1074 : Int) + a) ∧ m * 2 ^ a = valR X := by
  have hi := infW_eq
  have hm : Ieee.double.word s X % 9223372036854775808 = X := by
    rw [word_eq]
    split <;> omega
  obtain ⟨m, a, h1, h2⟩ := read_num (Ieee.double.word s X) (by rw [hm]; omega)
  rw [hm] at h2
  refine ⟨m, a, ?_, h2⟩
  rw [h1]
  congr 1
  rw [word_eq]
  cases s
  · rw [if_neg (by decide), beq_eq_false_iff_ne]
    omega
  · rw [if_pos rfl, beq_iff_eq]
    omega
theorem val_pos {X : Nat} (h : 0 < X) : 0 < valR X := Nat.pos_of_ne_zero fun e => by have := val_zero e; omega
theorem mul_near (s t : Bool) (X Y C D : Nat) (hX0 : 0 < X) (hX : X < infW) (hY0 : 0 < Y) (hY : Y < infW) (hD : 0 < D) (h : valR X * valR Y * D = C * 2 ^ leB * 2 ^ leB) :
    Ieee.double.mul (Ieee.double.word s X) (Ieee.double.word t Y) = some (Ieee.double.word (s ^^ t) (min (nearX C D) infW)) := by
  obtain ⟨m, a, e1, v1⟩ := word_read s X hX
  obtain ⟨n, b, e2, v2⟩ := word_read t Y hY
  have hm : 0 < m := Nat.pos_of_ne_zero fun e => by
    have := val_pos hX0
    rw [← v1, e, Nat.zero_mul] at this
    omega
  have hn : 0 < n := Nat.pos_of_ne_zero fun e => by
    have := val_pos hY0
    rw [← v2, e, Nat.zero_mul] at this
    omega
  unfold Ieee.Format.mul
  rw [e1, e2]
  show some (Ieee.Format.nearest Ieee.double (s ^^ t) (m * n) _) = _
  rw [nearest_eq _ _ _ (Nat.mul_pos hm hn)]
  refine congrArg (fun x => some (Ieee.double.word (s ^^ t) (min x infW))) ?_
  refine near_same (Nat.two_pow_pos _) hD ?_
  obtain ⟨p, hp⟩ : ∃ p : Int, (-1074 : Int) + a + (-1074 + b) = p := ⟨_, rfl⟩
  rw [hp]
  have hk : p.toNat + (leB + leB) = a + b + (-p).toNat := by
    have := leB_eq
    omega
  have hp2 : 2 ^ p.toNat * (2 ^ leB * 2 ^ leB) = 2 ^ a * 2 ^ b * 2 ^ (-p).toNat := by
    rw [← Nat.pow_add, ← Nat.pow_add, hk, Nat.pow_add, Nat.pow_add]
  rw [← v1, ← v2] at h
  have hZ : 0 < 2 ^ leB := Nat.two_pow_pos _
  generalize 2 ^ leB = Z at *
  generalize 2 ^ p.toNat = P at *
  generalize 2 ^ (-p).toNat = K at *
  generalize 2 ^ a = u at *
  generalize 2 ^ b = v at *
  refine Nat.eq_of_mul_eq_mul_right (Nat.mul_pos hZ hZ) ?_
  calc m * n * P * D * (Z * Z) = m * n * D * (P * (Z * Z)) := by ac_rfl
    _ = m * u * (n * v) * D * K := by rw [hp2]; ac_rfl
    _ = C * K * (Z * Z) := by rw [h]; ac_rfl
theorem div_near (s t : Bool) (X Y C D : Nat) (hX0 : 0 < X) (hX : X < infW) (hY0 : 0 < Y) (hY : Y < infW) (hD : 0 < D) (h : valR X * D = C * valR Y) :
    Ieee.double.div (Ieee.double.word s X) (Ieee.double.word t Y) = some (Ieee.double.word (s ^^ t) (min (nearX C D) infW)) := by
  obtain ⟨m, a, e1, v1⟩ := word_read s X hX
  obtain ⟨n, b, e2, v2⟩ := word_read t Y hY
  have hm : 0 < m := Nat.pos_of_ne_zero fun e => by
    have := val_pos hX0
    rw [← v1, e, Nat.zero_mul] at this
    omega
  have hn : 0 < n := Nat.pos_of_ne_zero fun e => by
    have := val_pos hY0
    rw [← v2, e, Nat.zero_mul] at this
    omega
  unfold Ieee.Format.div
  rw [e1, e2]
  unfold Ieee.Datum.quotient
  dsimp only
  rw [if_neg (by omega)]
  obtain ⟨k, hk⟩ : ∃ k, Ieee.double.fractionBits + 2 + n.log2 - m.log2 = k := ⟨_, rfl⟩
  simp only [hk, Nat.shiftLeft_eq]
  have hk2 : 54 + n.log2 ≤ m.log2 + k := by
    have : Ieee.double.fractionBits = 52 := rfl
    omega
  show some (Ieee.Format.nearest Ieee.double (s ^^ t) _ _) = _
  rw [nearest_frac (s ^^ t) (m * 2 ^ k) n _ hn ?_ C D hD ?_]
  · rw [Nat.le_div_iff_mul_le hn]
    have f1 : n < 2 ^ (n.log2 + 1) := Nat.lt_log2_self
    have f2 : 2 ^ m.log2 ≤ m := Nat.log2_self_le (by omega)
    have f3 : 2 ^ m.log2 * 2 ^ k ≤ m * 2 ^ k := Nat.mul_le_mul_right _ f2
    rw [← Nat.pow_add] at f3
    have f4 : (2 : Nat) ^ (54 + n.log2) ≤ 2 ^ (m.log2 + k) := Nat.pow_le_pow_right (by decide) hk2
    rw [show 54 + n.log2 = 53 + (n.log2 + 1) by omega, Nat.pow_add 2 53] at f4
    have f5 : 9007199254740992 * n ≤ 2 ^ 53 * 2 ^ (n.log2 + 1) := Nat.mul_le_mul (by decide) (Nat.le_of_lt f1)
    omega
  · rw [← v1, ← v2] at h
    obtain ⟨p, hp⟩ : ∃ p : Int, (-1074 : Int) + a - (-1074 + b) - k - 1 = p := ⟨_, rfl⟩
    rw [hp]
    have hk3 : k + (p + 1).toNat + b = a + (-(p + 1)).toNat := by omega
    refine two_cancel (k := b) ?_
    calc m * 2 ^ k * 2 ^ (p + 1).toNat * D * 2 ^ b = m * D * 2 ^ (k + (p + 1).toNat + b) := by rw [Nat.pow_add, Nat.pow_add]; ac_rfl
      _ = m * D * 2 ^ (a + (-(p + 1)).toNat) := by rw [hk3]
      _ = m * 2 ^ a * D * 2 ^ (-(p + 1)).toNat := by rw [Nat.pow_add]; ac_rfl
      _ = C * n * 2 ^ (-(p + 1)).toNat * 2 ^ b := by rw [h]; ac_rfl

/-- a whole number below 2^53 is a float -/
theorem ex_int (d : Nat) (h0 : 0 < d) (hd : d ≤ 9007199254740992) : ∃ X, 0 < X ∧ X < infW ∧ valR X = d * 2 ^ leB ∧ nearX d 1 = X := by
  by_cases he : d = 9007199254740992
  · refine ⟨4845873199050653696, by decide, by decide, by rw [he]; decide +kernel, by rw [he]; decide +kernel⟩
  obtain ⟨L, hL⟩ : ∃ L, d.log2 = L := ⟨_, rfl⟩
  have h1 : d < 2 ^ (L + 1) := by rw [← hL]; exact Nat.lt_log2_self
  have h2 : 2 ^ L ≤ d := by rw [← hL]; exact Nat.log2_self_le (by omega)
  have hL52 : L ≤ 52 := by
    have : (2 : Nat) ^ L < 2 ^ 53 := Nat.lt_of_le_of_lt h2 (Nat.lt_of_lt_of_le (show d < 9007199254740992 by omega) (by decide))
    have := (Nat.pow_lt_pow_iff_right (show 1 < 2 by decide)).1 this
    omega
  obtain ⟨R, hR⟩ : ∃ R, R = d * 2 ^ (52 - L) := ⟨_, rfl⟩
  obtain ⟨t, ht⟩ : ∃ t, t = 1022 + L := ⟨_, rfl⟩
  have hR0 : 4503599627370496 ≤ R := by
    have := Nat.mul_le_mul_right (2 ^ (52 - L)) h2
    rw [← Nat.pow_add, show L + (52 - L) = 52 by omega, ← hR] at this
    exact Nat.le_trans (by decide) this
  have hR1 : R < 9007199254740992 := by
    have := Nat.mul_lt_mul_of_pos_right h1 (Nat.two_pow_pos (52 - L))
    rw [← Nat.pow_add, show L + 1 + (52 - L) = 53 by omega, ← hR] at this
    exact Nat.lt_of_lt_of_le this (by decide)
  have hv : R * 2 ^ t = d * 2 ^ leB := by
    rw [hR, Nat.mul_assoc, ← Nat.pow_add]
    congr 2
    have := leB_eq
    omega
  refine ⟨t * 4503599627370496 + R, by omega, by have := infW_eq; omega, ?_, ?_⟩
  · unfold valR
    rw [if_neg (by omega), show (t * 4503599627370496 + R) / 4503599627370496 = t + 1 by omega, show 4503599627370496 + (t * 4503599627370496 + R) % 4503599627370496 = R by omega, Nat.add_sub_cancel, hv]
  · refine (near_eq (by decide) (near_mk d 1 1 R t R (by decide) (by decide) (by rw [hv]) (by omega) (by omega) (fun _ => by omega) (by omega) (.inr (by omega)))).symm
theorem near_le {A B C D : Nat} (hB : 0 < B) (hD : 0 < D) (h : A * D ≤ C * B) : nearX A B ≤ nearX C D := near_mono hB hD (near_of A B hB) (near_of C D hD) h
end Go.Proofs.YtejmbbkklhpnaaaGreatDoor.fpm
