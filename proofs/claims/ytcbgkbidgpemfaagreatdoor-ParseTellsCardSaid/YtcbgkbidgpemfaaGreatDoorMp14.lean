/- The nearest float of a quotient: what it is, that it is one, and how it is found. Plain. -/
import Derived.Test.YtcbgkbidgpemfaaGreatDoorMp10
import Derived.Test.YtcbgkbidgpemfaaGreatDoorMp12
namespace Go.Proofs.YtcbgkbidgpemfaaGreatDoor.fpm
open Go Go.RowKit Go.Proofs.YtcbgkbidgpemfaaGreatDoor.prnw

def unB : Nat := 1076
theorem unB_eq : unB = 1076 := rfl
def leB : Nat := 1074
theorem leB_eq : leB = 1074 := rfl
theorem unB_le : (2 : Nat) ^ unB = 4 * 2 ^ leB := by rw [show unB = leB + 2 from rfl, Nat.pow_add, Nat.mul_comm]
/-- X is the nearest float of A / B; between two the one whose last bit is 0 -/
def Near (X A B : Nat) : Prop := endL X * B ≤ A * 2 ^ unB ∧ A * 2 ^ unB ≤ endU X * B ∧ (X % 2 = 1 → endL X * B < A * 2 ^ unB ∧ A * 2 ^ unB < endU X * B)
theorem ends_far (X n : Nat) : endU X ≤ endL (X + (n + 1)) ∧ (0 < n → endU X < endL (X + (n + 1))) := by
  have hm := ends_mono (X + 1) (by omega) n
  rw [Nat.add_assoc X 1 n, Nat.add_comm 1 n, ends_meet X] at hm
  exact ⟨by omega, fun h => by omega⟩
/-- of two quotients the greater one's nearest float is no less -/
theorem near_mono {X Y A B C D : Nat} (hB : 0 < B) (hD : 0 < D) (h1 : Near X A B) (h2 : Near Y C D) (h : A * D ≤ C * B) : X ≤ Y := by
  refine Nat.le_of_not_lt fun hl => ?_
  obtain ⟨n, rfl⟩ : ∃ n, X = Y + (n + 1) := ⟨X - Y - 1, by omega⟩
  obtain ⟨e1, e2⟩ := ends_far Y n
  obtain ⟨a1, a2, a3⟩ := h1
  obtain ⟨b1, b2, b3⟩ := h2
  generalize endU Y = u at *
  generalize endL (Y + (n + 1)) = l at *
  generalize 2 ^ unB = z at *
  -- l B <= A z, C z <= u D, u <= l, A D <= C B
  have k1 : l * B * D ≤ A * z * D := Nat.mul_le_mul_right _ a1
  have k2 : A * z * D ≤ C * z * B := by
    have := Nat.mul_le_mul_right z h
    rw [show A * z * D = A * D * z by ac_rfl, show C * z * B = C * B * z by ac_rfl]
    exact this
  have k3 : C * z * B ≤ u * D * B := Nat.mul_le_mul_right _ b2
  have k4 : l * B * D = l * D * B := by ac_rfl
  have k5 : l * D * B ≤ u * D * B := by omega
  have k6 : l ≤ u := Nat.le_of_mul_le_mul_right (Nat.le_of_mul_le_mul_right k5 hB) hD
  have hn : n = 0 := Nat.eq_zero_of_not_pos fun hp => by have := e2 hp; omega
  have hlu : l = u := by omega
  subst hn
  by_cases ho : (Y + (0 + 1)) % 2 = 1
  · obtain ⟨c1, _⟩ := a3 ho
    have := Nat.mul_lt_mul_of_pos_right c1 hD
    rw [hlu] at this k4
    omega
  · obtain ⟨_, c2⟩ := b3 (by omega)
    have := Nat.mul_lt_mul_of_pos_right c2 hB
    rw [hlu] at k4 k1
    omega
theorem near_inj {X Y A B C D : Nat} (hB : 0 < B) (hD : 0 < D) (h1 : Near X A B) (h2 : Near Y C D) (h : A * D = C * B) : X = Y :=
  Nat.le_antisymm (near_mono hB hD h1 h2 (Nat.le_of_eq h)) (near_mono hD hB h2 h1 (Nat.le_of_eq h.symm))
/-- the float of a significand and a place -/
theorem fl_parts (t R : Nat) (hR : R < 9007199254740992) (hn : t = 0 ∨ 4503599627370496 ≤ R) :
    ftM (t * 4503599627370496 + R) = R ∧ ftE (t * 4503599627370496 + R) - 52 = (t : Int) - 1074 := by
  unfold ftM ftE
  by_cases h : t * 4503599627370496 + R < 4503599627370496
  · rw [if_pos (by omega), if_pos (by omega)]
    omega
  · rw [if_neg (by omega), if_neg (by omega)]
    omega
theorem fl_top (t : Nat) : ftM ((t + 1) * 4503599627370496 + 4503599627370496) = 4503599627370496 ∧ ftE ((t + 1) * 4503599627370496 + 4503599627370496) - 52 = ((t + 1 : Nat) : Int) - 1074 := by
  unfold ftM ftE
  rw [if_neg (by omega), if_neg (by omega)]
  omega
theorem fl_two (t : Nat) : t * 4503599627370496 + 9007199254740992 = (t + 1) * 4503599627370496 + 4503599627370496 := by omega
theorem near_mk (A B D N t R : Nat) (hB : 0 < B) (hD : 0 < D) (hq : A * 2 ^ leB * D = N * 2 ^ t * B) (h1 : 2 * (R * D) ≤ 2 * N + D) (h2 : 2 * N ≤ 2 * (R * D) + D)
    (h3 : R % 2 = 1 → 2 * (R * D) < 2 * N + D ∧ 2 * N < 2 * (R * D) + D) (hR : R ≤ 9007199254740992) (hn : t = 0 ∨ 4503599627370496 * D ≤ N) : Near (t * 4503599627370496 + R) A B := by
  have hz : (2 : Nat) ^ unB = 4 * 2 ^ leB := unB_le
  obtain ⟨X, hX⟩ : ∃ X, X = t * 4503599627370496 + R := ⟨_, rfl⟩
  have ho : X % 2 = R % 2 := by omega
  obtain ⟨T, hT⟩ : ∃ T : Nat, T = 2 ^ t := ⟨_, rfl⟩
  have hT0 : 0 < T := by rw [hT]; exact Nat.two_pow_pos t
  have key : ∀ c, (c * D ≤ 4 * N → c * T * B ≤ A * 2 ^ unB) ∧ (4 * N ≤ c * D → A * 2 ^ unB ≤ c * T * B) ∧ (c * D < 4 * N → c * T * B < A * 2 ^ unB) ∧ (4 * N < c * D → A * 2 ^ unB < c * T * B) := by
    intro c
    rw [hz]
    rw [← hT] at hq
    generalize 2 ^ leB = z at *
    have hTB : 0 < T * B := Nat.mul_pos hT0 hB
    have e1 : A * (4 * z) * D = 4 * N * (T * B) := by
      rw [show A * (4 * z) * D = 4 * (A * z * D) by ac_rfl, hq]
      ac_rfl
    have e2 : c * T * B * D = c * D * (T * B) := by ac_rfl
    refine ⟨fun h => ?_, fun h => ?_, fun h => ?_, fun h => ?_⟩
    · exact Nat.le_of_mul_le_mul_right (by rw [e1, e2]; exact Nat.mul_le_mul_right _ h) hD
    · exact Nat.le_of_mul_le_mul_right (by rw [e1, e2]; exact Nat.mul_le_mul_right _ h) hD
    · exact Nat.lt_of_mul_lt_mul_right (a := D) (by rw [e1, e2]; exact Nat.mul_lt_mul_of_pos_right h hTB)
    · exact Nat.lt_of_mul_lt_mul_right (a := D) (by rw [e1, e2]; exact Nat.mul_lt_mul_of_pos_right h hTB)
  clear hz hq
  rw [← hX]
  obtain ⟨P, hP⟩ : ∃ P, P = R * D := ⟨_, rfl⟩
  rw [← hP] at h1 h2 h3
  by_cases hlt : R < 9007199254740992 ∧ (t = 0 ∨ 4503599627370496 ≤ R)
  · obtain ⟨f1, f2⟩ := fl_parts t R hlt.1 hlt.2
    rw [← hX] at f1 f2
    have eL : endL X = loQ R ((t : Int) - 1074) * T := by unfold endL; rw [f1, f2, hT, show ((t : Int) - 1074 + 1074).toNat = t by omega]
    have eU : endU X = (4 * R + 2) * T := by unfold endU; rw [f1, f2, hT, show ((t : Int) - 1074 + 1074).toNat = t by omega]
    unfold Near
    rw [eL, eU, ho]
    have cU : (4 * R + 2) * D = 4 * P + 2 * D := by rw [Nat.add_mul, Nat.mul_assoc, ← hP]
    have cL : (4 * R - 2) * D = 4 * P - 2 * D := by rw [Nat.sub_mul, Nat.mul_assoc, ← hP]
    have b1 : loQ R ((t : Int) - 1074) * D ≤ 4 * N := by
      unfold loQ
      by_cases hb : R = 4503599627370496 ∧ -1074 < (t : Int) - 1074
      · rw [if_pos hb]
        have := hb.1
        have := hb.2
        rcases hn with h | h
        · omega
        · have : (4 * R - 1) * D ≤ 4 * R * D := Nat.mul_le_mul_right _ (by omega)
          rw [Nat.mul_assoc, ← hP] at this
          have e : P = 4503599627370496 * D := by rw [hP, hb.1]
          omega
      · rw [if_neg hb, cL]
        omega
    refine ⟨(key _).1 b1, (key _).2.1 (by rw [cU]; omega), fun h => ?_⟩
    have h4 := h3 h
    refine ⟨(key _).2.2.1 ?_, (key _).2.2.2 (by rw [cU]; omega)⟩
    unfold loQ
    rw [if_neg (by omega), cL]
    have : D ≤ P := by
      rw [hP]
      exact Nat.le_mul_of_pos_left D (by omega)
    omega
  · by_cases hR2 : R = 9007199254740992
    · have e0 : X = (t + 1) * 4503599627370496 + 4503599627370496 := by
        rw [hX, hR2]
        exact fl_two t
      obtain ⟨f1, f2⟩ := fl_top t
      rw [← e0] at f1 f2
      have eL : endL X = (4 * R - 2) * T := by
        unfold endL
        rw [f1, f2, show (((t + 1 : Nat) : Int) - 1074 + 1074).toNat = t + 1 by omega, Nat.pow_succ, ← hT]
        unfold loQ
        rw [if_pos ⟨rfl, by omega⟩, hR2]
        omega
      have eU : endU X = (4 * R + 4) * T := by
        unfold endU
        rw [f1, f2, show (((t + 1 : Nat) : Int) - 1074 + 1074).toNat = t + 1 by omega, Nat.pow_succ, ← hT, hR2]
        omega
      unfold Near
      rw [eL, eU, ho]
      have cU : (4 * R + 4) * D = 4 * P + 4 * D := by rw [Nat.add_mul, Nat.mul_assoc, ← hP]
      have cL : (4 * R - 2) * D = 4 * P - 2 * D := by rw [Nat.sub_mul, Nat.mul_assoc, ← hP]
      exact ⟨(key _).1 (by rw [cL]; omega), (key _).2.1 (by rw [cU]; omega), fun h => by omega⟩
    · exfalso
      have ht : ¬ t = 0 := fun e => hlt ⟨by omega, .inl e⟩
      have hr : R < 4503599627370496 := by
        refine Nat.lt_of_not_le fun h => hlt ⟨by omega, .inr h⟩
      rcases hn with h | h
      · exact ht h
      · have : R * D ≤ 4503599627370495 * D := Nat.mul_le_mul_right _ (by omega)
        rw [← hP] at this
        -- R <= 2^52 - 1, N >= 2^52 D, 2 N <= 2 P + D
        have e : 4503599627370496 * D = 4503599627370495 * D + D := by omega
        omega
end Go.Proofs.YtcbgkbidgpemfaaGreatDoor.fpm

/- The nearest float of a quotient, worked out. Plain. -/
namespace Go.Proofs.YtcbgkbidgpemfaaGreatDoor.fpm
open Go Go.RowKit Go.Proofs.YtcbgkbidgpemfaaGreatDoor.prnw

/-- a quotient rounded to a whole number, between two to the even one -/
def rne (N D : Nat) : Nat := N / D + if D < 2 * (N % D) ∨ (2 * (N % D) = D ∧ N / D % 2 = 1) then 1 else 0
theorem rne_spec (N D : Nat) (hD : 0 < D) : 2 * (rne N D * D) ≤ 2 * N + D ∧ 2 * N ≤ 2 * (rne N D * D) + D ∧ (rne N D % 2 = 1 → 2 * (rne N D * D) < 2 * N + D ∧ 2 * N < 2 * (rne N D * D) + D) := by
  have h := Nat.div_add_mod N D
  have hm := Nat.mod_lt N hD
  unfold rne
  generalize N % D = m at *
  generalize N / D = q at *
  rw [Nat.mul_comm] at h
  split
  · rw [Nat.add_mul, Nat.one_mul]
    generalize q * D = p at *
    omega
  · rw [Nat.add_zero]
    generalize q * D = p at *
    omega
theorem rne_le {N D K : Nat} (hD : 0 < D) (h : N ≤ K * D) : rne N D ≤ K := by
  have h1 : N / D ≤ K := Nat.div_le_of_le_mul (by rw [Nat.mul_comm]; exact h)
  have hm := Nat.div_add_mod N D
  unfold rne
  split
  · rename_i hc
    by_cases he : N / D = K
    · rw [he, Nat.mul_comm] at hm
      have : N % D = 0 := by omega
      rw [this] at hc
      omega
    · omega
  · omega
/-- the nearest float of A / B -/
def nearX (A B : Nat) : Nat :=
  ((A * 2 ^ leB / B).log2 - 52) * 4503599627370496 + rne (A * 2 ^ leB) (B * 2 ^ ((A * 2 ^ leB / B).log2 - 52))
theorem near_of (A B : Nat) (hB : 0 < B) : Near (nearX A B) A B := by
  unfold nearX
  obtain ⟨N, hN⟩ : ∃ N, N = A * 2 ^ leB := ⟨_, rfl⟩
  rw [← hN]
  obtain ⟨F, hF⟩ : ∃ F, F = N / B := ⟨_, rfl⟩
  rw [← hF]
  obtain ⟨t, ht⟩ : ∃ t, t = F.log2 - 52 := ⟨_, rfl⟩
  rw [← ht]
  obtain ⟨T, hT⟩ : ∃ T : Nat, T = 2 ^ t := ⟨_, rfl⟩
  have hT0 : 0 < T := by rw [hT]; exact Nat.two_pow_pos t
  have hD : 0 < B * T := Nat.mul_pos hB hT0
  have f1 := Nat.div_add_mod N B
  have f2 := Nat.mod_lt N hB
  rw [← hF] at f1
  have hup : F + 1 ≤ 9007199254740992 * T := by
    have h1 : F < 2 ^ (F.log2 + 1) := Nat.lt_log2_self
    have h2 : (2 : Nat) ^ (F.log2 + 1) ≤ 2 ^ (53 + t) := Nat.pow_le_pow_right (by decide) (by omega)
    rw [Nat.pow_add 2 53 t, ← hT] at h2
    have : (2 : Nat) ^ 53 = 9007199254740992 := by decide
    rw [this] at h2
    omega
  have hlow : t = 0 ∨ 4503599627370496 * T ≤ F := by
    by_cases h0 : t = 0
    · exact .inl h0
    · have hF0 : F ≠ 0 := by
        intro e
        rw [e] at ht
        have : Nat.log2 0 = 0 := by decide
        omega
      have h1 : 2 ^ F.log2 ≤ F := Nat.log2_self_le hF0
      have h2 : (2 : Nat) ^ (52 + t) ≤ 2 ^ F.log2 := Nat.pow_le_pow_right (by decide) (by omega)
      rw [Nat.pow_add 2 52 t, ← hT] at h2
      have : (2 : Nat) ^ 52 = 4503599627370496 := by decide
      rw [this] at h2
      exact .inr (Nat.le_trans h2 h1)
  rw [← hT]
  obtain ⟨a, b, c⟩ := rne_spec N (B * T) hD
  refine near_mk A B (B * T) N t _ hB hD ?_ a b c (rne_le hD ?_) ?_
  · rw [← hN, ← hT]
    ac_rfl
  · have h3 : B * (F + 1) ≤ B * (9007199254740992 * T) := Nat.mul_le_mul_left _ hup
    rw [Nat.mul_add, Nat.mul_one] at h3
    have h4 : B * (9007199254740992 * T) = 9007199254740992 * (B * T) := by ac_rfl
    rw [h4] at h3
    omega
  · refine hlow.imp_right fun h => ?_
    have h3 : B * (4503599627370496 * T) ≤ B * F := Nat.mul_le_mul_left _ h
    have h4 : B * (4503599627370496 * T) = 4503599627370496 * (B * T) := by ac_rfl
    rw [h4] at h3
    omega
theorem near_eq {X A B : Nat} (hB : 0 < B) (h : Near X A B) : X = nearX A B := near_inj hB hB h (near_of A B hB) rfl
theorem near_same {A B C D : Nat} (hB : 0 < B) (hD : 0 < D) (h : A * D = C * B) : nearX A B = nearX C D := near_inj hB hD (near_of A B hB) (near_of C D hD) h
end Go.Proofs.YtcbgkbidgpemfaaGreatDoor.fpm

/- Multiprecision decimals: rounding to a whole number: plain arithmetic. No conditions but those stated. -/
namespace Go.Proofs.YtcbgkbidgpemfaaGreatDoor.dmx
open Go.Proofs.YtcbgkbidgpemfaaGreatDoor.fpm

/-- is it rounded up? p digits stand ahead of the point -/
def upB (N n p : Nat) : Bool := if dgN N n p = 5 ∧ p + 1 = n then decide (0 < p) && decide (dgN N n (p - 1) % 2 = 1) else decide (5 ≤ dgN N n p)
theorem rne_exact (Q D : Nat) (hD : 0 < D) : rne (Q * D) D = Q := by
  unfold rne
  rw [Nat.mul_div_cancel _ hD, Nat.mul_mod_left, if_neg (by omega)]
  rfl
theorem rne_small (V D : Nat) (h : 2 * V < D) : rne V D = 0 := by
  unfold rne
  rw [Nat.div_eq_of_lt (by omega), Nat.mod_eq_of_lt (by omega), if_neg (by omega)]
theorem rne_scale (Q r e g : Nat) (hr : r < 10 ^ e) : rne ((Q * 10 ^ e + r) * 10 ^ g) (10 ^ e * 10 ^ g) = Q + if 10 ^ e < 2 * r ∨ (2 * r = 10 ^ e ∧ Q % 2 = 1) then 1 else 0 := by
  have hp : 0 < 10 ^ e := Nat.pow_pos (by decide)
  have hg : 0 < 10 ^ g := Nat.pow_pos (by decide)
  unfold rne
  rw [Nat.mul_div_mul_right _ _ hg, Nat.mul_mod_mul_right]
  have e1 : (Q * 10 ^ e + r) / 10 ^ e = Q := by
    rw [Nat.mul_comm, Nat.mul_add_div hp, Nat.div_eq_of_lt hr, Nat.add_zero]
  have e2 : (Q * 10 ^ e + r) % 10 ^ e = r := by
    rw [Nat.mul_comm, Nat.mul_add_mod, Nat.mod_eq_of_lt hr]
  rw [e1, e2, ← Nat.mul_assoc]
  have k1 : (10 ^ e * 10 ^ g < 2 * r * 10 ^ g) ↔ 10 ^ e < 2 * r := Nat.mul_lt_mul_right hg
  have k2 : (2 * r * 10 ^ g = 10 ^ e * 10 ^ g) ↔ 2 * r = 10 ^ e := ⟨fun h => Nat.eq_of_mul_eq_mul_right hg h, fun h => by rw [h]⟩
  simp only [k1, k2]
/-- the value, rounded -/
theorem ri_neg {N n : Nat} (g : WGood N n) (dp : Int) (h : (n : Int) ≤ dp + 2000) (hd : dp < 0) : rne (val N n dp) one = 0 := by
  have h1 := val_small g dp 1 h (by omega) (by decide)
  exact rne_small _ _ (by omega)
theorem ri_big {N n p : Nat} (hp : n ≤ p) : rne (val N n p) one = preN N n p := by
  obtain ⟨d, rfl⟩ := Nat.exists_eq_add_of_le hp
  rw [pre_beyond]
  unfold val one
  have he := oneE_eq
  rw [show (((n + d : Nat) : Int) - (n : Int) + 2000).toNat = d + oneE by omega, Nat.pow_add, ← Nat.mul_assoc]
  exact rne_exact _ _ (Nat.pow_pos (by decide))
theorem ri_mid {N n p : Nat} (g : DGood N n) (h : (n : Int) ≤ (p : Int) + 2000) (hp : p < n) : rne (val N n p) one = preN N n p + if upB N n p then 1 else 0 := by
  obtain ⟨e, he⟩ : ∃ e, n = p + (e + 1) := ⟨n - p - 1, by omega⟩
  have ho := oneE_eq
  obtain ⟨c, hc⟩ : ∃ c, oneE = e + 1 + c := ⟨oneE - (e + 1), by omega⟩
  have hpre : preN N n p = N / 10 ^ (e + 1) := by
    unfold preN
    rw [he, Nat.pow_add 10 p (e + 1), Nat.mul_comm N, Nat.mul_div_mul_left _ _ (Nat.pow_pos (by decide))]
  have hdg : dgN N n p = N / 10 ^ e % 10 := by
    rw [dg_usual hp, show n - 1 - p = e by omega]
  have hdm := Nat.div_add_mod N (10 ^ (e + 1))
  have hr := Nat.mod_lt N (Nat.pow_pos (n := e + 1) (show 0 < 10 by decide))
  have hrs : N % 10 ^ (e + 1) = N / 10 ^ e % 10 * 10 ^ e + N % 10 ^ e := mod_step N e
  have hv : val N n p = (N / 10 ^ (e + 1) * 10 ^ (e + 1) + N % 10 ^ (e + 1)) * 10 ^ c := by
    unfold val
    rw [show ((p : Int) - (n : Int) + 2000).toNat = c by omega, Nat.mul_comm (N / 10 ^ (e + 1)), hdm]
  have h1 : one = 10 ^ (e + 1) * 10 ^ c := by unfold one; rw [hc, Nat.pow_add]
  rw [hv, h1, rne_scale _ _ _ _ hr, ← hpre]
  refine congrArg (fun z : Nat => preN N n p + z) ?_
  clear hv h1 hc ho h
  have hm := g.md
  have hlow : N % 10 ^ e < 10 ^ e := Nat.mod_lt _ (Nat.pow_pos (by decide))
  have h10 : (10 : Nat) ^ (e + 1) = 10 * 10 ^ e := by rw [Nat.pow_succ, Nat.mul_comm]
  unfold upB
  rw [hdg]
  have hx10 : N / 10 ^ e % 10 < 10 := Nat.mod_lt _ (by decide)
  -- the last digit ahead of the point
  have hpar : 0 < p → dgN N n (p - 1) % 2 = preN N n p % 2 := fun h0 => by
    have := pre_succ N n (p - 1)
    rw [show p - 1 + 1 = p by omega] at this
    omega
  have hz : p = 0 → preN N n p = 0 := fun h0 => by rw [h0]; exact pre_zero g.hi
  have hend : e ≠ 0 → N % 10 ^ e ≠ 0 := fun h0 h5 => by
    apply hm
    obtain ⟨j, rfl⟩ : ∃ j, e = j + 1 := ⟨e - 1, by omega⟩
    have := Nat.div_add_mod N (10 ^ (j + 1))
    rw [h5, Nat.add_zero, Nat.pow_succ, Nat.mul_comm (10 ^ j), Nat.mul_assoc] at this
    omega
  rw [hrs, h10]
  generalize hT : (10 : Nat) ^ e = T at *
  have hT0 : 0 < T := by rw [← hT]; exact Nat.pow_pos (by decide)
  generalize hX : N / T % 10 = x at *
  generalize hR : N % T = r at *
  by_cases hx5 : x = 5 ∧ p + 1 = n
  · rw [if_pos hx5]
    have he0 : e = 0 := by omega
    have hT1 : T = 1 := by rw [← hT, he0]
    have hr0 : r = 0 := by omega
    rw [hx5.1, hr0, hT1]
    by_cases hp0 : 0 < p
    · have := hpar hp0
      by_cases hq : preN N n p % 2 = 1
      · rw [if_pos (.inr ⟨by omega, hq⟩), decide_eq_true hp0, decide_eq_true (by omega)]
        rfl
      · rw [if_neg (by omega), decide_eq_true hp0, decide_eq_false (by omega)]
        rfl
    · have := hz (by omega)
      rw [if_neg (by omega), decide_eq_false hp0]
      rfl
  · rw [if_neg hx5]
    by_cases h6 : 6 ≤ x
    · have : 6 * T ≤ x * T := Nat.mul_le_mul_right _ h6
      rw [if_pos (.inl (by omega)), decide_eq_true (by omega)]
      rfl
    · by_cases h5 : x = 5
      · have he0 : e ≠ 0 := fun h => hx5 ⟨h5, by omega⟩
        have := hend he0
        rw [h5, if_pos (.inl (by omega))]
        rfl
      · have : x * T ≤ 4 * T := Nat.mul_le_mul_right _ (by omega)
        rw [if_neg (by omega), decide_eq_false (by omega)]
        rfl
end Go.Proofs.YtcbgkbidgpemfaaGreatDoor.dmx
