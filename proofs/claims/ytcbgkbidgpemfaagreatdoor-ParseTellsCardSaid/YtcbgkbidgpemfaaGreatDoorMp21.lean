/- Rounding to a float64, and the product and the quotient of two, are the nearest floats of what is exact. Plain. -/
import Derived.Test.YtcbgkbidgpemfaaGreatDoorMp14
import Derived.Test.YtcbgkbidgpemfaaGreatDoorMp20
namespace Go.Proofs.YtcbgkbidgpemfaaGreatDoor.fpm
open Go Go.RowKit Go.Proofs.YtcbgkbidgpemfaaGreatDoor.prnw Go.Proofs.YtcbgkbidgpemfaaGreatDoor.flatm

theorem cut_rne (neg : Bool) (n v : Nat) : Ieee.Toward.cut .even neg n v = rne n (2 ^ v) := by
  have e : Ieee.Toward.cut .even neg n v = rne n (2 ^ min v (n.log2 + 2)) := by
    unfold Ieee.Toward.cut rne
    rw [Nat.shiftLeft_eq, Nat.one_mul]
    generalize 2 ^ min v (n.log2 + 2) = g
    simp only
    congr 1
    by_cases h1 : g < 2 * (n % g)
    · rw [decide_eq_true h1, if_pos (.inl h1)]
      rfl
    · rw [decide_eq_false h1, Bool.false_or]
      by_cases h2 : 2 * (n % g) = g ∧ n / g % 2 = 1
      · rw [if_pos (.inr h2)]
        have a1 : (g == 2 * (n % g)) = true := beq_iff_eq.2 h2.1.symm
        have a2 : (n / g % 2 == 1) = true := beq_iff_eq.2 h2.2
        rw [a1, a2]
        rfl
      · rw [if_neg (fun h => h.elim h1 h2)]
        have a1 : ((g == 2 * (n % g)) && (n / g % 2 == 1)) = false := by
          rw [Bool.and_eq_false_iff]
          by_cases h3 : 2 * (n % g) = g
          · exact .inr (beq_eq_false_iff_ne.2 fun h => h2 ⟨h3, h⟩)
          · exact .inl (beq_eq_false_iff_ne.2 fun h => h3 h.symm)
        rw [a1]
        rfl
  rw [e]
  by_cases h : v ≤ n.log2 + 2
  · rw [Nat.min_eq_left h]
  · rw [Nat.min_eq_right (by omega)]
    have small : ∀ k, n.log2 + 2 ≤ k → rne n (2 ^ k) = 0 := fun k hk => by
      have h1 : n < 2 ^ (n.log2 + 1) := Nat.lt_log2_self
      have h2 : (2 : Nat) ^ (n.log2 + 1) * 2 ≤ 2 ^ k := by
        rw [← Nat.pow_succ]
        exact Nat.pow_le_pow_right (by decide) hk
      generalize 2 ^ k = g at *
      generalize 2 ^ (n.log2 + 1) = l at *
      unfold rne
      rw [Nat.div_eq_of_lt (by omega), Nat.mod_eq_of_lt (by omega), if_neg (by omega)]
    rw [small _ (Nat.le_refl _), small v (by omega)]

def infW : Nat := 9218868437227405312
theorem infW_eq : infW = 9218868437227405312 := rfl
/-- rounding: the place, and the digits that are kept -/
theorem near_core (neg : Bool) (m : Nat) (p : Int) (hm : 0 < m) : ∃ t u v : Nat, (t : Int) = p - u + v + 1074 ∧ (t = 0 ∨ 4503599627370496 * 2 ^ v ≤ m * 2 ^ u) ∧ m * 2 ^ u ≤ 9007199254740992 * 2 ^ v ∧ (54 ≤ m.log2 → u = 0 ∧ 2 ≤ v) ∧
    Ieee.Format.nearest Ieee.double neg m p = Ieee.double.word neg (min (t * 4503599627370496 + rne (m * 2 ^ u) (2 ^ v)) infW) := by
  have hf : Ieee.double.fractionBits = 52 := rfl
  have hb : Ieee.double.binade = 4503599627370496 := by kernel_rfl
  have hi : Ieee.double.infRung = infW := by kernel_rfl
  have hl : Ieee.double.leastPlace = -1074 := by kernel_rfl
  obtain ⟨L, hL⟩ : ∃ L, m.log2 = L := ⟨_, rfl⟩
  obtain ⟨last, hlast⟩ : ∃ last : Int, last = max (p + (L : Int) - 52) (-1074) := ⟨_, rfl⟩
  have h1 : m < 2 ^ (L + 1) := by rw [← hL]; exact Nat.lt_log2_self
  have h2 : 2 ^ L ≤ m := by rw [← hL]; exact Nat.log2_self_le (by omega)
  refine ⟨(last + 1074).toNat, (p - last).toNat, (last - p).toNat, by omega, ?_, ?_, fun h => by omega, ?_⟩
  · by_cases h0 : last = -1074
    · left; omega
    · right
      have e : last = p + (L : Int) - 52 := by omega
      by_cases h52 : L ≤ 52
      · have e1 : (p - last).toNat = 52 - L := by omega
        have e2 : (last - p).toNat = 0 := by omega
        rw [e1, e2, Nat.pow_zero, Nat.mul_one]
        have := Nat.mul_le_mul_right (2 ^ (52 - L)) h2
        rw [← Nat.pow_add, show L + (52 - L) = 52 by omega] at this
        exact Nat.le_trans (by decide) this
      · have e1 : (p - last).toNat = 0 := by omega
        have e2 : (last - p).toNat = L - 52 := by omega
        rw [e1, e2, Nat.pow_zero, Nat.mul_one]
        have : (4503599627370496 : Nat) * 2 ^ (L - 52) = 2 ^ L := by
          rw [show (4503599627370496 : Nat) = 2 ^ 52 by decide, ← Nat.pow_add, show 52 + (L - 52) = L by omega]
        omega
  · have hu : L + 1 + (p - last).toNat ≤ 53 + (last - p).toNat := by omega
    have h3 : m * 2 ^ (p - last).toNat ≤ 2 ^ (L + 1) * 2 ^ (p - last).toNat := Nat.mul_le_mul_right _ (Nat.le_of_lt h1)
    rw [← Nat.pow_add] at h3
    have h4 : (2 : Nat) ^ (L + 1 + (p - last).toNat) ≤ 2 ^ (53 + (last - p).toNat) := Nat.pow_le_pow_right (by decide) hu
    rw [Nat.pow_add 2 53] at h4
    exact Nat.le_trans h3 (Nat.le_trans h4 (Nat.le_of_eq (by congr 1)))
  · unfold Ieee.Format.nearest
    rw [if_neg (by omega)]
    simp only [hf, hb, hi, hl]
    rw [hL, show ((52 : Nat) : Int) = 52 by rfl, ← hlast, cut_rne, Nat.shiftLeft_eq, show last - -1074 = last + 1074 by omega]
theorem two_cancel {a b k : Nat} (h : a * 2 ^ k = b * 2 ^ k) : a = b := Nat.eq_of_mul_eq_mul_right (Nat.two_pow_pos k) h
theorem pw3 (m x y z : Nat) : m * 2 ^ x * 2 ^ y * 2 ^ z = m * 2 ^ (x + y + z) := by rw [Nat.pow_add, Nat.pow_add, ← Nat.mul_assoc, ← Nat.mul_assoc]
theorem nearest_eq (neg : Bool) (m : Nat) (p : Int) (hm : 0 < m) : Ieee.Format.nearest Ieee.double neg m p = Ieee.double.word neg (min (nearX (m * 2 ^ p.toNat) (2 ^ (-p).toNat)) infW) := by
  obtain ⟨t, u, v, e1, e2, e3, _, e5⟩ := near_core neg m p hm
  obtain ⟨a, b, c⟩ := rne_spec (m * 2 ^ u) (2 ^ v) (Nat.two_pow_pos v)
  rw [e5]
  refine congrArg (fun x => Ieee.double.word neg (min x infW)) ?_
  refine near_eq (Nat.two_pow_pos _) (near_mk _ _ (2 ^ v) (m * 2 ^ u) t _ (Nat.two_pow_pos _) (Nat.two_pow_pos v) ?_ a b c (rne_le (Nat.two_pow_pos v) e3) e2)
  have hk : p.toNat + leB + v = u + t + (-p).toNat := by
    have := leB_eq
    omega
  rw [pw3, pw3, hk]
/-- a quotient with a digit that tells whether anything is left -/
theorem nearest_frac (neg : Bool) (E n : Nat) (p : Int) (hn : 0 < n) (hq : 9007199254740992 ≤ E / n) (C D : Nat) (hD : 0 < D) (h : E * 2 ^ (p + 1).toNat * D = C * n * 2 ^ (-(p + 1)).toNat) :
    Ieee.Format.nearest Ieee.double neg (2 * (E / n) + (E % n != 0).toNat) p = Ieee.double.word neg (min (nearX C D) infW) := by
  obtain ⟨q, hqd⟩ : ∃ q, E / n = q := ⟨_, rfl⟩
  obtain ⟨r, hr⟩ : ∃ r, E % n = r := ⟨_, rfl⟩
  have hEn : E = n * q + r := by rw [← hqd, ← hr]; exact (Nat.div_add_mod E n).symm
  have hrn : r < n := by rw [← hr]; exact Nat.mod_lt _ hn
  rw [hqd] at hq ⊢
  rw [hr]
  obtain ⟨s, hs⟩ : ∃ s, (r != 0).toNat = s := ⟨_, rfl⟩
  have hs1 : (s = 0 ∧ r = 0) ∨ (s = 1 ∧ 0 < r) := by
    by_cases h0 : r = 0
    · left; rw [← hs, h0]; exact ⟨rfl, rfl⟩
    · right
      rw [← hs, show (r != 0) = true from bne_iff_ne.2 h0]
      exact ⟨rfl, by omega⟩
  rw [hs]
  obtain ⟨t, u, v, e1, e2, e3, e4, e5⟩ := near_core neg (2 * q + s) p (by omega)
  rw [e5]
  have hlog : 54 ≤ (2 * q + s).log2 := by
    rw [Nat.le_log2 (by omega)]
    exact Nat.le_trans (show (2 : Nat) ^ 54 ≤ 2 * 9007199254740992 by decide) (by omega)
  obtain ⟨hu, hv⟩ := e4 hlog
  subst hu
  rw [Nat.pow_zero, Nat.mul_one] at e2 e3 ⊢
  obtain ⟨a, b, c⟩ := rne_spec (2 * q + s) (2 ^ v) (Nat.two_pow_pos v)
  have hR := rne_le (Nat.two_pow_pos v) e3
  refine congrArg (fun x => Ieee.double.word neg (min x infW)) ?_
  obtain ⟨R, hRd⟩ : ∃ R, rne (2 * q + s) (2 ^ v) = R := ⟨_, rfl⟩
  rw [hRd] at a b c hR ⊢
  refine near_eq hD (near_mk C D (n * 2 ^ v) (2 * E) t R hD (Nat.mul_pos hn (Nat.two_pow_pos v)) ?_ ?_ ?_ ?_ hR ?_)
  · have hk2 : (p + 1).toNat + (leB + v) = 1 + t + (-(p + 1)).toNat := by
      have := leB_eq
      omega
    have hp2 : 2 ^ (p + 1).toNat * (2 ^ leB * 2 ^ v) = 2 * 2 ^ t * 2 ^ (-(p + 1)).toNat := by
      rw [← Nat.pow_add, ← Nat.pow_add, hk2, Nat.pow_add, Nat.pow_add, Nat.pow_one]
    have hK : 0 < 2 ^ (-(p + 1)).toNat := Nat.two_pow_pos _
    generalize 2 ^ leB = Z at *
    generalize 2 ^ (p + 1).toNat = P at *
    generalize 2 ^ (-(p + 1)).toNat = K at *
    generalize 2 ^ t = T at *
    generalize 2 ^ v = V at *
    clear e1 e2 e3 e5 a b c
    refine Nat.eq_of_mul_eq_mul_right hK ?_
    calc C * Z * (n * V) * K = C * n * K * (Z * V) := by ac_rfl
      _ = E * D * (P * (Z * V)) := by rw [← h]; ac_rfl
      _ = E * D * (2 * T * K) := by rw [hp2]
      _ = 2 * E * T * D * K := by ac_rfl
  all_goals
    obtain ⟨z, hz⟩ : ∃ z, 2 ^ v = 4 * z := ⟨2 ^ (v - 2), by
      have h4 : (2 : Nat) ^ v = 2 ^ (2 + (v - 2)) := by congr 1; omega
      rw [h4, Nat.pow_add]⟩
    rw [hz] at a b c e2 ⊢
    obtain ⟨Q, hQ⟩ : ∃ Q, Q = R * z := ⟨_, rfl⟩
    obtain ⟨Qn, hQn⟩ : ∃ Qn, Qn = Q * n := ⟨_, rfl⟩
    obtain ⟨zn, hzn⟩ : ∃ zn, zn = z * n := ⟨_, rfl⟩
    obtain ⟨qn, hqn⟩ : ∃ qn, qn = q * n := ⟨_, rfl⟩
    have k1 : R * (4 * z) = 4 * Q := by rw [hQ]; ac_rfl
    have k2 : R * (n * (4 * z)) = 4 * Qn := by rw [hQn, hQ]; ac_rfl
    have k3 : n * (4 * z) = 4 * zn := by rw [hzn]; ac_rfl
    have k4 : E = qn + r := by rw [hqn, Nat.mul_comm q n]; exact hEn
    have mul_le : ∀ x y : Nat, x ≤ y → x * n ≤ y * n := fun x y h => Nat.mul_le_mul_right n h
  · rw [k1] at a b
    rw [k2, k3, k4]
    have f1 := mul_le (4 * Q) (2 * q + 2 * z) (by omega)
    rw [Nat.add_mul, Nat.mul_assoc, Nat.mul_assoc, Nat.mul_assoc, ← hQn, ← hqn, ← hzn] at f1
    omega
  · rw [k1] at a b
    rw [k2, k3, k4]
    rcases hs1 with ⟨s0, r0⟩ | ⟨s1, r1⟩
    · have f1 := mul_le (2 * q) (4 * Q + 2 * z) (by omega)
      rw [Nat.add_mul, Nat.mul_assoc, Nat.mul_assoc, Nat.mul_assoc, ← hQn, ← hqn, ← hzn] at f1
      omega
    · have f1 := mul_le (2 * q + 2) (4 * Q + 2 * z) (by omega)
      rw [Nat.add_mul, Nat.add_mul, Nat.mul_assoc, Nat.mul_assoc, Nat.mul_assoc, ← hQn, ← hqn, ← hzn] at f1
      omega
  · intro ho
    have hc := c ho
    rw [k1] at hc
    rw [k2, k3, k4]
    rcases hs1 with ⟨s0, r0⟩ | ⟨s1, r1⟩
    · have f1 := mul_le (4 * Q + 1) (2 * q + 2 * z) (by omega)
      have f2 := mul_le (2 * q + 1) (4 * Q + 2 * z) (by omega)
      rw [Nat.add_mul, Nat.add_mul, Nat.mul_assoc, Nat.mul_assoc, Nat.mul_assoc, ← hQn, ← hqn, ← hzn] at f1 f2
      omega
    · have f1 := mul_le (4 * Q) (2 * q + 2 * z) (by omega)
      have f2 := mul_le (2 * q + 2) (4 * Q + 2 * z) (by omega)
      rw [Nat.add_mul, Nat.mul_assoc, Nat.mul_assoc, Nat.mul_assoc, ← hQn, ← hqn, ← hzn] at f1
      rw [Nat.add_mul, Nat.add_mul, Nat.mul_assoc, Nat.mul_assoc, Nat.mul_assoc, ← hQn, ← hqn, ← hzn] at f2
      omega
  · rw [k3, k4]
    refine e2.imp_right fun h2 => ?_
    have f1 := mul_le (4503599627370496 * (2 * z)) q (by omega)
    have e : 4503599627370496 * (2 * z) * n = 4503599627370496 * (2 * zn) := by rw [hzn]; ac_rfl
    rw [e, ← hqn] at f1
    omega

/-- what a sign and a size below infinity are read as -/
theorem word_eq (s : Bool) (X : Nat) : Ieee.double.word s X = if s then 9223372036854775808 + X else X := by
  have hw : Ieee.double.signWeight = 9223372036854775808 := by kernel_rfl
  unfold Ieee.Format.word
  rw [hw]
theorem word_read (s : Bool) (X : Nat) (hX : X < infW) : ∃ m a : Nat, Ieee.Format.read Ieee.double (Ieee.double.word s X) = .number s m ((-1074 : Int) + a) ∧ m * 2 ^ a = valR X := by
  have hi := infW_eq
  have hm : Ieee.double.word s X % 9223372036854775808 = X := by
    rw [word_eq]
    split <;> omega
  obtain ⟨m, a, h1, h2⟩ := read_num (Ieee.double.word s X) (by rw [hm]; omega)
  rw [hm] at h2
  refine ⟨m, a, ?_, h2⟩
  rw [h1]
  congr 1
  rw [word_eq]
  cases s
  · rw [if_neg (by decide), beq_eq_false_iff_ne]
    omega
  · rw [if_pos rfl, beq_iff_eq]
    omega
theorem val_pos {X : Nat} (h : 0 < X) : 0 < valR X := Nat.pos_of_ne_zero fun e => by have := val_zero e; omega
theorem mul_near (s t : Bool) (X Y C D : Nat) (hX0 : 0 < X) (hX : X < infW) (hY0 : 0 < Y) (hY : Y < infW) (hD : 0 < D) (h : valR X * valR Y * D = C * 2 ^ leB * 2 ^ leB) :
    Ieee.double.mul (Ieee.double.word s X) (Ieee.double.word t Y) = some (Ieee.double.word (s ^^ t) (min (nearX C D) infW)) := by
  obtain ⟨m, a, e1, v1⟩ := word_read s X hX
  obtain ⟨n, b, e2, v2⟩ := word_read t Y hY
  have hm : 0 < m := Nat.pos_of_ne_zero fun e => by
    have := val_pos hX0
    rw [← v1, e, Nat.zero_mul] at this
    omega
  have hn : 0 < n := Nat.pos_of_ne_zero fun e => by
    have := val_pos hY0
    rw [← v2, e, Nat.zero_mul] at this
    omega
  unfold Ieee.Format.mul
  rw [e1, e2]
  show some (Ieee.Format.nearest Ieee.double (s ^^ t) (m * n) _) = _
  rw [nearest_eq _ _ _ (Nat.mul_pos hm hn)]
  refine congrArg (fun x => some (Ieee.double.word (s ^^ t) (min x infW))) ?_
  refine near_same (Nat.two_pow_pos _) hD ?_
  obtain ⟨p, hp⟩ : ∃ p : Int, (-1074 : Int) + a + (-1074 + b) = p := ⟨_, rfl⟩
  rw [hp]
  have hk : p.toNat + (leB + leB) = a + b + (-p).toNat := by
    have := leB_eq
    omega
  have hp2 : 2 ^ p.toNat * (2 ^ leB * 2 ^ leB) = 2 ^ a * 2 ^ b * 2 ^ (-p).toNat := by
    rw [← Nat.pow_add, ← Nat.pow_add, hk, Nat.pow_add, Nat.pow_add]
  rw [← v1, ← v2] at h
  have hZ : 0 < 2 ^ leB := Nat.two_pow_pos _
  generalize 2 ^ leB = Z at *
  generalize 2 ^ p.toNat = P at *
  generalize 2 ^ (-p).toNat = K at *
  generalize 2 ^ a = u at *
  generalize 2 ^ b = v at *
  refine Nat.eq_of_mul_eq_mul_right (Nat.mul_pos hZ hZ) ?_
  calc m * n * P * D * (Z * Z) = m * n * D * (P * (Z * Z)) := by ac_rfl
    _ = m * u * (n * v) * D * K := by rw [hp2]; ac_rfl
    _ = C * K * (Z * Z) := by rw [h]; ac_rfl
theorem div_near (s t : Bool) (X Y C D : Nat) (hX0 : 0 < X) (hX : X < infW) (hY0 : 0 < Y) (hY : Y < infW) (hD : 0 < D) (h : valR X * D = C * valR Y) :
    Ieee.double.div (Ieee.double.word s X) (Ieee.double.word t Y) = some (Ieee.double.word (s ^^ t) (min (nearX C D) infW)) := by
  obtain ⟨m, a, e1, v1⟩ := word_read s X hX
  obtain ⟨n, b, e2, v2⟩ := word_read t Y hY
  have hm : 0 < m := Nat.pos_of_ne_zero fun e => by
    have := val_pos hX0
    rw [← v1, e, Nat.zero_mul] at this
    omega
  have hn : 0 < n := Nat.pos_of_ne_zero fun e => by
    have := val_pos hY0
    rw [← v2, e, Nat.zero_mul] at this
    omega
  unfold Ieee.Format.div
  rw [e1, e2]
  unfold Ieee.Datum.quotient
  dsimp only
  rw [if_neg (by omega)]
  obtain ⟨k, hk⟩ : ∃ k, Ieee.double.fractionBits + 2 + n.log2 - m.log2 = k := ⟨_, rfl⟩
  simp only [hk, Nat.shiftLeft_eq]
  have hk2 : 54 + n.log2 ≤ m.log2 + k := by
    have : Ieee.double.fractionBits = 52 := rfl
    omega
  show some (Ieee.Format.nearest Ieee.double (s ^^ t) _ _) = _
  rw [nearest_frac (s ^^ t) (m * 2 ^ k) n _ hn ?_ C D hD ?_]
  · rw [Nat.le_div_iff_mul_le hn]
    have f1 : n < 2 ^ (n.log2 + 1) := Nat.lt_log2_self
    have f2 : 2 ^ m.log2 ≤ m := Nat.log2_self_le (by omega)
    have f3 : 2 ^ m.log2 * 2 ^ k ≤ m * 2 ^ k := Nat.mul_le_mul_right _ f2
    rw [← Nat.pow_add] at f3
    have f4 : (2 : Nat) ^ (54 + n.log2) ≤ 2 ^ (m.log2 + k) := Nat.pow_le_pow_right (by decide) hk2
    rw [show 54 + n.log2 = 53 + (n.log2 + 1) by omega, Nat.pow_add 2 53] at f4
    have f5 : 9007199254740992 * n ≤ 2 ^ 53 * 2 ^ (n.log2 + 1) := Nat.mul_le_mul (by decide) (Nat.le_of_lt f1)
    omega
  · rw [← v1, ← v2] at h
    obtain ⟨p, hp⟩ : ∃ p : Int, (-1074 : Int) + a - (-1074 + b) - k - 1 = p := ⟨_, rfl⟩
    rw [hp]
    have hk3 : k + (p + 1).toNat + b = a + (-(p + 1)).toNat := by omega
    refine two_cancel (k := b) ?_
    calc m * 2 ^ k * 2 ^ (p + 1).toNat * D * 2 ^ b = m * D * 2 ^ (k + (p + 1).toNat + b) := by rw [Nat.pow_add, Nat.pow_add]; ac_rfl
      _ = m * D * 2 ^ (a + (-(p + 1)).toNat) := by rw [hk3]
      _ = m * 2 ^ a * D * 2 ^ (-(p + 1)).toNat := by rw [Nat.pow_add]; ac_rfl
      _ = C * n * 2 ^ (-(p + 1)).toNat * 2 ^ b := by rw [h]; ac_rfl

/-- a whole number below 2^53 is a float -/
theorem ex_int (d : Nat) (h0 : 0 < d) (hd : d ≤ 9007199254740992) : ∃ X, 0 < X ∧ X < infW ∧ valR X = d * 2 ^ leB ∧ nearX d 1 = X := by
  by_cases he : d = 9007199254740992
  · refine ⟨4845873199050653696, by decide, by decide, by rw [he]; decide +kernel, by rw [he]; decide +kernel⟩
  obtain ⟨L, hL⟩ : ∃ L, d.log2 = L := ⟨_, rfl⟩
  have h1 : d < 2 ^ (L + 1) := by rw [← hL]; exact Nat.lt_log2_self
  have h2 : 2 ^ L ≤ d := by rw [← hL]; exact Nat.log2_self_le (by omega)
  have hL52 : L ≤ 52 := by
    have : (2 : Nat) ^ L < 2 ^ 53 := Nat.lt_of_le_of_lt h2 (Nat.lt_of_lt_of_le (show d < 9007199254740992 by omega) (by decide))
    have := (Nat.pow_lt_pow_iff_right (show 1 < 2 by decide)).1 this
    omega
  obtain ⟨R, hR⟩ : ∃ R, R = d * 2 ^ (52 - L) := ⟨_, rfl⟩
  obtain ⟨t, ht⟩ : ∃ t, t = 1022 + L := ⟨_, rfl⟩
  have hR0 : 4503599627370496 ≤ R := by
    have := Nat.mul_le_mul_right (2 ^ (52 - L)) h2
    rw [← Nat.pow_add, show L + (52 - L) = 52 by omega, ← hR] at this
    exact Nat.le_trans (by decide) this
  have hR1 : R < 9007199254740992 := by
    have := Nat.mul_lt_mul_of_pos_right h1 (Nat.two_pow_pos (52 - L))
    rw [← Nat.pow_add, show L + 1 + (52 - L) = 53 by omega, ← hR] at this
    exact Nat.lt_of_lt_of_le this (by decide)
  have hv : R * 2 ^ t = d * 2 ^ leB := by
    rw [hR, Nat.mul_assoc, ← Nat.pow_add]
    congr 2
    have := leB_eq
    omega
  refine ⟨t * 4503599627370496 + R, by omega, by have := infW_eq; omega, ?_, ?_⟩
  · unfold valR
    rw [if_neg (by omega), show (t * 4503599627370496 + R) / 4503599627370496 = t + 1 by omega, show 4503599627370496 + (t * 4503599627370496 + R) % 4503599627370496 = R by omega, Nat.add_sub_cancel, hv]
  · refine (near_eq (by decide) (near_mk d 1 1 R t R (by decide) (by decide) (by rw [hv]) (by omega) (by omega) (fun _ => by omega) (by omega) (.inr (by omega)))).symm
theorem near_le {A B C D : Nat} (hB : 0 < B) (hD : 0 < D) (h : A * D ≤ C * B) : nearX A B ≤ nearX C D := near_mono hB hD (near_of A B hB) (near_of C D hD) h
end Go.Proofs.YtcbgkbidgpemfaaGreatDoor.fpm

/- The walk of strconv's atof64exact. Conditions: as each theorem states. -/
namespace Go.Proofs.YtcbgkbidgpemfaaGreatDoor.rdf
open Go.RowKit
open Go.Proofs.YtcbgkbidgpemfaaGreatDoor.bsw
open Go.Proofs.YtcbgkbidgpemfaaGreatDoor.prnw
open Go.Proofs.YtcbgkbidgpemfaaGreatDoor.dcw
open Go.Proofs.YtcbgkbidgpemfaaGreatDoor.dmx
open Go.Proofs.YtcbgkbidgpemfaaGreatDoor.fpm
open Go.Proofs.YtcbgkbidgpemfaaGreatDoor.flatm
open Go.Proofs.YtcbgkbidgpemfaaGreatDoor.nodew

/-- the words of ten to k -/
def p10 (k : Nat) : Nat := ([4607182418800017408, 4621819117588971520, 4636737291354636288, 4652007308841189376, 4666723172467343360, 4681608360884174848, 4696837146684686336, 4711630319722168320, 4726483295884279808, 4741671816366391296, 4756540486875873280, 4771362005757984768, 4786511204640096256, 4801453603149578240, 4816244402031689728, 4831355200913801216, 4846369599423283200, 4861130398305394688, 4876203697187506176, 4891288408196988160, 4906019910204099648, 4921056587992461136, 4936209963552724370] : List Nat).getD k 0
theorem p10_all : ∀ k : Fin 23, 0 < p10 k.val ∧ p10 k.val < infW ∧ valR (p10 k.val) = 10 ^ k.val * 2 ^ leB := by decide +kernel
theorem p10_spec (k : Nat) (h : k ≤ 22) : 0 < p10 k ∧ p10 k < infW ∧ valR (p10 k) = 10 ^ k * 2 ^ leB := p10_all ⟨k, by omega⟩
/-- the table of the exact powers, in blocks below B -/
def FT (B : Nat) (w : World) : Prop :=
  16 < B ∧ ∃ bb bo cap, bb < B ∧ w.cell? ⟨16, 0, none⟩ = some (.slice (some ⟨bb, bo, none⟩) 23 cap) ∧ ∀ k, k ≤ 22 → w.cell? ⟨bb, bo + k, none⟩ = some (.float .f64 (p10 k))
theorem FT.keep {B : Nat} {w w' : World} (h : FT B w) (hk : ∀ (p : Addr) (v : Value), p.block < B → w.cell? p = some v → w'.cell? p = some v) : FT B w' := by
  obtain ⟨h1, bb, bo, cap, h2, h3, h4⟩ := h
  exact ⟨h1, bb, bo, cap, h2, hk _ _ h1 h3, fun k h => hk _ _ h2 (h4 k h)⟩
theorem neg_of (x : Nat) (hx : x < 9223372036854775808) : Op.negFloat .f64 x = 9223372036854775808 + x := by
  have e : Op.negFloat .f64 x = x ^^^ 9223372036854775808 := rfl
  rw [e]
  have h2 : (9223372036854775808 : Nat) = 2 ^ 63 := by decide
  have h3 := Nat.xor_mod_two_pow (a := x) (b := 9223372036854775808) (n := 63)
  have h4 := Nat.xor_div_two_pow (a := x) (b := 9223372036854775808) (n := 63)
  have h5 : (9223372036854775808 : Nat) % 2 ^ 63 = 0 := by decide
  have h6 : (9223372036854775808 : Nat) / 2 ^ 63 = 1 := by decide
  rw [h5, Nat.xor_zero] at h3
  rw [h6] at h4
  rw [← h2] at h3 h4
  have h8 : x / 9223372036854775808 = 0 := by omega
  rw [h8] at h4
  have : (0 ^^^ 1 : Nat) = 1 := by decide
  omega
theorem un_neg (k : FloatKind) (b : Nat) : Op.unary .neg (.float k b) = pure (.float k (Op.negFloat k b)) := rfl
attribute [local go_sem] un_neg fo_eq
theorem sgn_word (neg : Bool) (X : Nat) : sgn neg X = Ieee.double.word neg X := (word_eq neg X).symm
theorem of_int (d : Nat) (hd : 0 < d) : floatOfInt FloatKind.f64 (d : Int) = min (nearX d 1) infW := by
  have e : floatOfInt FloatKind.f64 (d : Int) = Ieee.Format.nearest Ieee.double (decide ((d : Int) < 0)) (d : Int).natAbs 0 := rfl
  rw [e, decide_eq_false (by omega), Int.natAbs_natCast, nearest_eq false d 0 hd, word_eq, if_neg (by decide)]
  simp
/-- a product and a quotient of words -/
theorem mul_run (w : World) (s : Bool) (X Y C D : Nat) (hX0 : 0 < X) (hX : X < infW) (hY0 : 0 < Y) (hY : Y < infW) (hD : 0 < D) (h : valR X * valR Y * D = C * 2 ^ leB * 2 ^ leB) :
    (binOp BinOp.mul 46 (.float .f64 (sgn s X)) (.float .f64 Y)).run Tryz.prog w = .ok (.float .f64 (sgn s (min (nearX C D) infW))) w := by
  refine run_float_arith w .mul _ .f64 _ _ _ ?_
  have := mul_near s false X Y C D hX0 hX hY0 hY hD h
  rw [word_eq false Y, if_neg (by decide), Bool.xor_false, ← sgn_word, ← sgn_word] at this
  exact this
theorem quo_run (w : World) (s : Bool) (X Y C D : Nat) (hX0 : 0 < X) (hX : X < infW) (hY0 : 0 < Y) (hY : Y < infW) (hD : 0 < D) (h : valR X * D = C * valR Y) :
    (binOp BinOp.quo 46 (.float .f64 (sgn s X)) (.float .f64 Y)).run Tryz.prog w = .ok (.float .f64 (sgn s (min (nearX C D) infW))) w := by
  refine run_float_arith w .quo _ .f64 _ _ _ ?_
  have := div_near s false X Y C D hX0 hX hY0 hY hD h
  rw [word_eq false Y, if_neg (by decide), Bool.xor_false, ← sgn_word, ← sgn_word] at this
  exact this
/-- the orders against ten to 15 -/
theorem cmp_gt (a b : Int) : (some (compare a b) == some .gt) = decide (b < a) := by
  rw [Int.compare_eq_ite_lt]
  by_cases h : a < b
  · rw [if_pos h, decide_eq_false (by omega)]; rfl
  · rw [if_neg h]
    by_cases h2 : b < a
    · rw [if_pos h2, decide_eq_true h2]; rfl
    · rw [if_neg h2, decide_eq_false h2]; rfl
theorem cmp_lt (a b : Int) : (some (compare a b) == some .lt) = decide (a < b) := by
  rw [Int.compare_eq_ite_lt]
  by_cases h : a < b
  · rw [if_pos h, decide_eq_true h]; rfl
  · rw [if_neg h, decide_eq_false h]
    by_cases h2 : b < a
    · rw [if_pos h2]; rfl
    · rw [if_neg h2]; rfl
theorem sv_sgn (s : Bool) (X : Nat) (hX : X < infW) : sv (sgn s X) = if s then -(valR X : Int) else (valR X : Int) := by
  have hi := infW_eq
  cases s
  · have e : sgn false X = X := rfl
    unfold sv
    rw [e, if_neg (by omega), Nat.mod_eq_of_lt (by omega)]
    rfl
  · have e : sgn true X = 9223372036854775808 + X := rfl
    unfold sv
    rw [e, if_pos (by omega), show (9223372036854775808 + X) % 9223372036854775808 = X by omega]
    rfl
theorem w15 : valR 4831355200913801216 = 10 ^ 15 * 2 ^ leB := by decide +kernel
theorem fo_15 (s : Bool) (X : Nat) (hX : X < infW) : (valR X ≤ 10 ^ 15 * 2 ^ leB → (fo (sgn s X) 4831355200913801216 == some .gt) = false ∧ (fo (sgn s X) 14054727237768577024 == some .lt) = false) ∧
    (10 ^ 15 * 2 ^ leB < valR X → (fo (sgn s X) 4831355200913801216 == some .gt) = !s ∧ (fo (sgn s X) 14054727237768577024 == some .lt) = s) := by
  have hi := infW_eq
  have hm : sgn s X % 9223372036854775808 = X := by
    unfold sgn
    split <;> omega
  have z1 : sv 4831355200913801216 = (valR 4831355200913801216 : Int) := by
    unfold sv
    rw [if_neg (by decide)]
  have z2 : sv 14054727237768577024 = -(valR 4831355200913801216 : Int) := by
    unfold sv
    rw [if_pos (by decide)]
  rw [fo_sv (by rw [hm]; omega) (by decide), fo_sv (by rw [hm]; omega) (by decide), z1, z2, sv_sgn s X hX, w15]
  have h0 : 0 < 10 ^ 15 * 2 ^ leB := Nat.mul_pos (by decide) (Nat.two_pow_pos _)
  generalize 10 ^ 15 * 2 ^ leB = Z at *
  generalize valR X = V at *
  rw [cmp_gt, cmp_lt]
  cases s
  · rw [show (if (false : Bool) = true then -(V : Int) else (V : Int)) = (V : Int) from rfl]
    exact ⟨fun h => ⟨decide_eq_false (by omega), decide_eq_false (by omega)⟩, fun h => ⟨decide_eq_true (by omega), decide_eq_false (by omega)⟩⟩
  · rw [show (if (true : Bool) = true then -(V : Int) else (V : Int)) = -(V : Int) from rfl]
    exact ⟨fun h => ⟨decide_eq_false (by omega), decide_eq_false (by omega)⟩, fun h => ⟨decide_eq_false (by omega), decide_eq_true (by omega)⟩⟩
/-- where ten to 15 is passed, so it is by the nearest float -/
theorem past_15 (a : Nat) (h : 10 ^ 15 < a) : 10 ^ 15 * 2 ^ leB < valR (nearX a 1) := by
  obtain ⟨X, _, _, h3, h4⟩ := ex_int (10 ^ 15 + 1) (by decide) (by decide)
  have h5 : X ≤ nearX a 1 := by
    rw [← h4]
    exact near_le (by decide) (by decide) (by omega)
  refine Nat.lt_of_lt_of_le ?_ (val_le h5)
  rw [h3]
  exact Nat.mul_lt_mul_of_pos_right (by omega) (Nat.two_pow_pos _)
theorem near_37 : nearX (10 ^ 37) 1 < infW := by decide +kernel
theorem near_small {a b : Nat} (hb : 0 < b) (h : a ≤ 10 ^ 37 * b) : nearX a b < infW := Nat.lt_of_le_of_lt (near_le hb (by decide) (by rw [Nat.mul_one]; exact h)) near_37
def ExPost (w : World) (X F : Nat) (e : Ending) (w' : World) : Prop :=
  w' = w ∧ ((∃ G, e = .returned (.tuple #[.float .f64 G, .bool false])) ∨ (X < infW ∧ e = .returned (.tuple #[.float .f64 F, .bool true])))
set_option maxRecDepth 100000 in
set_option maxHeartbeats 2000000 in
theorem exact_any (B : Nat) (neg : Bool) (d : Nat) (p : Int) (hd0 : 0 < d) (hd : d < 18446744073709551616) (hp : -345 ≤ p) (hp2 : p ≤ 310) (w : World) (hE : EV B w) (hF : FT B w) :
    Calls Tryz.prog 253 #[.int .u64 (d : Nat), .int .i64 p, .bool neg] w (ExPost w (nearX (d * 10 ^ p.toNat) (10 ^ (-p).toNat)) (sgn neg (nearX (d * 10 ^ p.toNat) (10 ^ (-p).toNat)))) := by
  have i0 := hE.f0
  by_cases hbig : 4503599627370496 ≤ d
  · have t1 : ((d : Int) / 4503599627370496 == 0) = false := by rw [beq_eq_false_iff_ne]; omega
    have t2 : ¬ (d : Int) / 4503599627370496 = 0 := by omega
    go_enter Tryz.func253, Tryz.ntmps253
    go_wp2_with fail
    go_ret2
    exact ⟨rfl, .inl ⟨_, rfl⟩⟩
  obtain ⟨X0, x1, x2, x3, x4⟩ := ex_int d hd0 (by omega)
  have t1 : ((d : Int) / 4503599627370496 == 0) = true := by rw [beq_iff_eq]; omega
  have t2 : (d : Int) / 4503599627370496 = 0 := by omega
  have hf : floatOfInt FloatKind.f64 (d : Int) = X0 := by rw [of_int d hd0, x4, Nat.min_eq_left (Nat.le_of_lt x2)]
  have hng : Op.negFloat .f64 X0 = sgn true X0 := neg_of X0 (by have := infW_eq; omega)
  have hnf : X0 = sgn false X0 := rfl
  obtain ⟨F, hF0⟩ : ∃ F, F = sgn neg X0 := ⟨_, rfl⟩
  have hs : (neg = true ∧ Op.negFloat .f64 X0 = F) ∨ (neg = false ∧ X0 = F) := by
    cases neg
    · exact .inr ⟨rfl, hF0.symm⟩
    · exact .inl ⟨rfl, hng.trans hF0.symm⟩
  clear hng hnf hbig
  by_cases hp0 : p = 0
  · subst hp0
    have hX : nearX (d * 10 ^ (0 : Int).toNat) (10 ^ (-0 : Int).toNat) = X0 := by
      rw [show (0 : Int).toNat = 0 from rfl, show (-0 : Int).toNat = 0 from rfl, Nat.pow_zero, Nat.mul_one, x4]
    have HX := Lib.hid (And.intro hX (And.intro x2 hF0))
    rw [hX, ← hF0]
    clear hX hF0 x1 x2 x3 x4 hE hF
    go_enter Tryz.func253, Tryz.ntmps253
    rcases hs with ⟨rfl, hs⟩ | ⟨rfl, hs⟩
    · go_wp2_with fail
      go_ret2
      exact ⟨rfl, .inr ⟨HX.out.2.1, rfl⟩⟩
    · go_wp2_with fail
      go_ret2
      exact ⟨rfl, .inr ⟨HX.out.2.1, rfl⟩⟩
  obtain ⟨g1, bb, bo, cap, g2, g3, g4⟩ := hF
  have q0 : (p == 0) = false := by rw [beq_eq_false_iff_ne]; exact hp0
  by_cases hlo : p < 0
  · have r1 : decide (0 < p) = false := decide_eq_false (by omega)
    have r2 : decide (p < 0) = true := decide_eq_true hlo
    by_cases h22 : -22 ≤ p
    · obtain ⟨k, hk⟩ : ∃ k : Nat, -p = (k : Int) := ⟨(-p).toNat, by omega⟩
      obtain ⟨y1, y2, y3⟩ := p10_spec k (by omega)
      have c1 := g4 k (by omega)
      obtain ⟨Y, hY⟩ : ∃ Y, p10 k = Y := ⟨_, rfl⟩
      rw [hY] at y1 y2 y3 c1
      have e1 : (-p).toNat = k := by omega
      have hw : IntKind.i64.wrap (-p) = (k : Int) := by rw [hk]; exact IntWalk.i64_in _ (by omega)
      have hX : nearX (d * 10 ^ p.toNat) (10 ^ (-p).toNat) = nearX d (10 ^ k) := by rw [e1, show p.toNat = 0 by omega, Nat.pow_zero, Nat.mul_one]
      have hsm : nearX d (10 ^ k) < infW := near_small (Nat.pow_pos (by decide)) (by
        have h1 : 1 ≤ 10 ^ k := Nat.pow_pos (by decide)
        have h2 : d * 1 ≤ 10 ^ 37 * 10 ^ k := Nat.mul_le_mul (by omega) h1
        omega)
      have hq := fun W => quo_run W neg X0 Y d (10 ^ k) x1 x2 y1 y2 (Nat.pow_pos (by decide)) (by rw [x3, y3]; ac_rfl)
      rw [Nat.min_eq_left (Nat.le_of_lt hsm), ← hF0] at hq
      rw [hX]
      obtain ⟨Z, hZ⟩ : ∃ Z, sgn neg (nearX d (10 ^ k)) = Z := ⟨_, rfl⟩
      rw [hZ] at hq ⊢
      have HX := Lib.hid hsm
      have r3 : decide (-22 ≤ p) = true := decide_eq_true h22
      have k0 : (0 : Int) ≤ (k : Int) := by omega
      have k22 : (k : Int) ≤ 22 := by omega
      have k23 : (k : Int) < 23 := by omega
      clear hX hsm hF0 x1 x2 x3 x4 hE y1 y2 y3 g4 hY hZ e1
      go_enter Tryz.func253, Tryz.ntmps253
      rcases hs with ⟨rfl, hs⟩ | ⟨rfl, hs⟩
      · go_wp2_with fail
        go_ret2
        exact ⟨rfl, .inr ⟨HX.out, rfl⟩⟩
      · go_wp2_with fail
        go_ret2
        exact ⟨rfl, .inr ⟨HX.out, rfl⟩⟩
    · have r3 : decide (-22 ≤ p) = false := decide_eq_false h22
      clear hF0 x1 x2 x3 x4 hE g4
      go_enter Tryz.func253, Tryz.ntmps253
      rcases hs with ⟨rfl, hs⟩ | ⟨rfl, hs⟩
      · go_wp2_with fail
        go_ret2
        exact ⟨rfl, .inl ⟨_, rfl⟩⟩
      · go_wp2_with fail
        go_ret2
        exact ⟨rfl, .inl ⟨_, rfl⟩⟩
  have r1 : decide (0 < p) = true := decide_eq_true (by omega)
  by_cases h37 : 37 < p
  · have r2 : decide (p ≤ 37) = false := decide_eq_false (by omega)
    have r3 : decide (p < 0) = false := decide_eq_false (by omega)
    clear hF0 x1 x2 x3 x4 hE g4
    go_enter Tryz.func253, Tryz.ntmps253
    rcases hs with ⟨rfl, hs⟩ | ⟨rfl, hs⟩
    · go_wp2_with fail
      go_ret2
      exact ⟨rfl, .inl ⟨_, rfl⟩⟩
    · go_wp2_with fail
      go_ret2
      exact ⟨rfl, .inl ⟨_, rfl⟩⟩
  have r2 : decide (p ≤ 37) = true := decide_eq_true (by omega)
  have en : (-p).toNat = 0 := by omega
  rw [en, Nat.pow_zero]
  by_cases h22 : 22 < p
  · obtain ⟨j, hj⟩ : ∃ j : Nat, p = (j : Int) + 22 := ⟨(p - 22).toNat, by omega⟩
    subst hj
    obtain ⟨y1, y2, y3⟩ := p10_spec j (by omega)
    have c1 := g4 j (by omega)
    obtain ⟨Y, hY⟩ : ∃ Y, p10 j = Y := ⟨_, rfl⟩
    rw [hY] at y1 y2 y3 c1
    obtain ⟨u1, u2, u3⟩ := p10_spec 22 (by omega)
    have c2 := g4 22 (by omega)
    obtain ⟨U, hU⟩ : ∃ U, p10 22 = U := ⟨_, rfl⟩
    rw [hU] at u1 u2 u3 c2
    have e15 : d * 10 ^ j ≤ 10 ^ 37 := by
      have h1 : (10 : Nat) ^ j ≤ 10 ^ 15 := Nat.pow_le_pow_right (by decide) (by omega)
      have h2 : d * 10 ^ j ≤ 4503599627370496 * 10 ^ 15 := Nat.mul_le_mul (by omega) h1
      exact Nat.le_trans h2 (by decide)
    have hsm : nearX (d * 10 ^ j) 1 < infW := near_small (by decide) (by rw [Nat.mul_one]; exact e15)
    have hq := fun W => mul_run W neg X0 Y (d * 10 ^ j) 1 x1 x2 y1 y2 (by decide) (by rw [x3, y3, Nat.mul_one]; ac_rfl)
    rw [Nat.min_eq_left (Nat.le_of_lt hsm), ← hF0] at hq
    obtain ⟨X1, hX1⟩ : ∃ X1, nearX (d * 10 ^ j) 1 = X1 := ⟨_, rfl⟩
    rw [hX1] at hq hsm
    obtain ⟨o1, o2⟩ := fo_15 neg X1 hsm
    obtain ⟨G, hG⟩ : ∃ G, sgn neg X1 = G := ⟨_, rfl⟩
    rw [hG] at o1 o2 hq
    have r4 : decide (22 < (j : Int) + 22) = true := decide_eq_true (by omega)
    have hw : IntKind.i64.wrap ((j : Int) + 22 - 22) = (j : Int) := by rw [show (j : Int) + 22 - 22 = (j : Int) by omega]; exact IntWalk.i64_in _ (by omega)
    have k0 : (0 : Int) ≤ (j : Int) := by omega
    have k22 : (j : Int) ≤ 15 := by omega
    have k23 : (j : Int) < 23 := by omega
    by_cases hd15 : d * 10 ^ j ≤ 10 ^ 15
    · obtain ⟨X2, z1, z2, z3, z4⟩ := ex_int (d * 10 ^ j) (Nat.mul_pos hd0 (Nat.pow_pos (by decide))) (Nat.le_trans hd15 (by decide))
      obtain rfl : X1 = X2 := hX1.symm.trans z4
      obtain ⟨b1, b2⟩ := o1 (by rw [z3]; exact Nat.mul_le_mul_right _ hd15)
      have eP : d * 10 ^ ((j : Int) + 22).toNat = d * 10 ^ j * 10 ^ 22 := by rw [show ((j : Int) + 22).toNat = j + 22 by omega, Nat.pow_add, Nat.mul_assoc]
      have hsm2 : nearX (d * 10 ^ j * 10 ^ 22) 1 < infW := near_small (by decide) (by
        rw [Nat.mul_one]
        have := Nat.mul_le_mul_right (10 ^ 22) hd15
        exact Nat.le_trans this (by decide))
      have hq2 := fun W => mul_run W neg X1 U (d * 10 ^ j * 10 ^ 22) 1 z1 z2 u1 u2 (by decide) (by rw [z3, u3, Nat.mul_one]; ac_rfl)
      rw [Nat.min_eq_left (Nat.le_of_lt hsm2), hG] at hq2
      rw [eP]
      obtain ⟨Z, hZ⟩ : ∃ Z, sgn neg (nearX (d * 10 ^ j * 10 ^ 22) 1) = Z := ⟨_, rfl⟩
      rw [hZ] at hq2 ⊢
      have HX := Lib.hid hsm2
      clear hsm2 hsm hF0 x1 x2 x3 x4 hE y1 y2 y3 g4 hY hZ eP z1 z2 z3 z4 hd15 o1 o2 hG u1 u2 u3 hU hX1 e15 h22
      go_enter Tryz.func253, Tryz.ntmps253
      rcases hs with ⟨rfl, hs⟩ | ⟨rfl, hs⟩
      · go_wp2_with fail
        go_ret2
        exact ⟨rfl, .inr ⟨HX.out, rfl⟩⟩
      · go_wp2_with fail
        go_ret2
        exact ⟨rfl, .inr ⟨HX.out, rfl⟩⟩
    · obtain ⟨b1, b2⟩ := o2 (by rw [← hX1]; exact past_15 _ (by omega))
      clear hsm hF0 x1 x2 x3 x4 hE y1 y2 y3 g4 hY hd15 o1 o2 hG u1 u2 u3 hU hX1 e15 h22
      go_enter Tryz.func253, Tryz.ntmps253
      rcases hs with ⟨rfl, hs⟩ | ⟨rfl, hs⟩
      · rw [Bool.not_true] at b1
        go_wp2_with fail
        go_ret2
        exact ⟨rfl, .inl ⟨_, rfl⟩⟩
      · rw [Bool.not_false] at b1
        go_wp2_with fail
        go_ret2
        exact ⟨rfl, .inl ⟨_, rfl⟩⟩
  · obtain ⟨k, rfl⟩ : ∃ k : Nat, p = (k : Int) := ⟨p.toNat, by omega⟩
    obtain ⟨u1, u2, u3⟩ := p10_spec k (by omega)
    have c2 := g4 k (by omega)
    obtain ⟨U, hU⟩ : ∃ U, p10 k = U := ⟨_, rfl⟩
    rw [hU] at u1 u2 u3 c2
    obtain ⟨o1, o2⟩ := fo_15 neg X0 x2
    rw [← hF0] at o1 o2
    have r4 : decide (22 < (k : Int)) = false := decide_eq_false (by omega)
    have k0 : (0 : Int) ≤ (k : Int) := by omega
    have k22 : (k : Int) ≤ 22 := by omega
    have k23 : (k : Int) < 23 := by omega
    by_cases hd15 : d ≤ 10 ^ 15
    · obtain ⟨b1, b2⟩ := o1 (by rw [x3]; exact Nat.mul_le_mul_right _ hd15)
      have eP : d * 10 ^ (k : Int).toNat = d * 10 ^ k := by rw [Int.toNat_natCast]
      have hsm2 : nearX (d * 10 ^ k) 1 < infW := near_small (by decide) (by
        rw [Nat.mul_one]
        have h1 : (10 : Nat) ^ k ≤ 10 ^ 22 := Nat.pow_le_pow_right (by decide) (by omega)
        have h2 : d * 10 ^ k ≤ 10 ^ 15 * 10 ^ 22 := Nat.mul_le_mul hd15 h1
        exact Nat.le_trans h2 (by decide))
      have hq2 := fun W => mul_run W neg X0 U (d * 10 ^ k) 1 x1 x2 u1 u2 (by decide) (by rw [x3, u3, Nat.mul_one]; ac_rfl)
      rw [Nat.min_eq_left (Nat.le_of_lt hsm2), ← hF0] at hq2
      rw [eP]
      obtain ⟨Z, hZ⟩ : ∃ Z, sgn neg (nearX (d * 10 ^ k) 1) = Z := ⟨_, rfl⟩
      rw [hZ] at hq2 ⊢
      have HX := Lib.hid hsm2
      clear hsm2 hF0 x1 x2 x3 x4 hE g4 hZ eP hd15 o1 o2 u1 u2 u3 hU h22 en
      go_enter Tryz.func253, Tryz.ntmps253
      rcases hs with ⟨rfl, hs⟩ | ⟨rfl, hs⟩
      · go_wp2_with fail
        go_ret2
        exact ⟨rfl, .inr ⟨HX.out, rfl⟩⟩
      · go_wp2_with fail
        go_ret2
        exact ⟨rfl, .inr ⟨HX.out, rfl⟩⟩
    · obtain ⟨b1, b2⟩ := o2 (by rw [← x4]; exact past_15 _ (by omega))
      clear hF0 x1 x2 x3 x4 hE g4 hd15 o1 o2 u1 u2 u3 hU h22 en
      go_enter Tryz.func253, Tryz.ntmps253
      rcases hs with ⟨rfl, hs⟩ | ⟨rfl, hs⟩
      · rw [Bool.not_true] at b1
        go_wp2_with fail
        go_ret2
        exact ⟨rfl, .inl ⟨_, rfl⟩⟩
      · rw [Bool.not_false] at b1
        go_wp2_with fail
        go_ret2
        exact ⟨rfl, .inl ⟨_, rfl⟩⟩
end Go.Proofs.YtcbgkbidgpemfaaGreatDoor.rdf
