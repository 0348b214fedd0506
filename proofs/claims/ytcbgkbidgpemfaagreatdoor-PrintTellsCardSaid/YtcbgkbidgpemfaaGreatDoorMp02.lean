/- Multiprecision decimals: what the shift to the right writes, whole: plain arithmetic. No conditions but those stated. -/
import Derived.Test.YtcbgkbidgpemfaaGreatDoorMp01
import Derived.ScopeJumps
namespace Go.Proofs.YtcbgkbidgpemfaaGreatDoor.dmx

end Go.Proofs.YtcbgkbidgpemfaaGreatDoor.dmx

/- The walk of strconv's rightShift. Conditions: as the theorem states. -/
namespace Go.Proofs.YtcbgkbidgpemfaaGreatDoor.dcw
open Go.RowKit
open Go.Proofs.YtcbgkbidgpemfaaGreatDoor.bsw
open Go.Proofs.YtcbgkbidgpemfaaGreatDoor.prnw
open Go.Proofs.YtcbgkbidgpemfaaGreatDoor.dmx

/-- where the digits stand when r of them are read -/
def SrRel (w : World) (a : Nat) (f : Nat → Nat) (N n k r1 : Nat) (dp : Int) (neg : Bool) (r : Nat) (wr : World) : Prop :=
  ∃ f', DM wr a f' (n : Nat) dp neg ∧ (∀ j, r ≤ j → j < n → f' j = f j) ∧ (∀ j, r1 + j < r → f' j = 48 + quR N n k (r1 + j + 1) % 10) ∧ w.grownBy wr (some a)
theorem SrRel.put {w wr : World} {a N n k r1 r b : Nat} {f : Nat → Nat} {dp : Int} {neg : Bool} (h : SrRel w a f N n k r1 dp neg r wr) (hr : r1 ≤ r) (h1 : 1 ≤ r1) (hn : r - r1 < 800) (hb : b = quR N n k (r + 1) % 10) :
    SrRel w a f N n k r1 dp neg (r + 1) (wr.setCell ⟨a, r - r1, none⟩ (.int .u8 ((48 + b : Nat) : Int))) := by
  obtain ⟨f', h1', h2, h3, h4⟩ := h
  refine ⟨_, h1'.sdig (r - r1) (48 + b) hn, fun j hj hj2 => ?_, fun j hj => ?_, grown_trans h4 (set_grown _ _ _ _)⟩
  · rw [upd_ne _ _ _ _ (by omega)]
    exact h2 j (by omega) hj2
  · by_cases hje : j = r - r1
    · rw [hje, upd_at, hb, show r1 + (r - r1) + 1 = r + 1 by omega]
    · rw [upd_ne _ _ _ _ hje]
      exact h3 j (by omega)
end Go.Proofs.YtcbgkbidgpemfaaGreatDoor.dcw

/- The walks of strconv's Shift. Conditions: as each theorem states. -/
namespace Go.Proofs.YtcbgkbidgpemfaaGreatDoor.dcw
open Go.RowKit
open Go.Proofs.YtcbgkbidgpemfaaGreatDoor.bsw
open Go.Proofs.YtcbgkbidgpemfaaGreatDoor.prnw
open Go.Proofs.YtcbgkbidgpemfaaGreatDoor.dmx

end Go.Proofs.YtcbgkbidgpemfaaGreatDoor.dcw

/- The nearest float of a quotient: what it is, that it is one, and how it is found. Plain. -/
namespace Go.Proofs.YtcbgkbidgpemfaaGreatDoor.fpm
open Go Go.RowKit Go.Proofs.YtcbgkbidgpemfaaGreatDoor.prnw

def unB : Nat := 1076
theorem unB_eq : unB = 1076 := rfl
def leB : Nat := 1074
theorem leB_eq : leB = 1074 := rfl
theorem unB_le : (2 : Nat) ^ unB = 4 * 2 ^ leB := by rw [show unB = leB + 2 from rfl, Nat.pow_add, Nat.mul_comm]
/-- X is the nearest float of A / B; between two the one whose last bit is 0 -/
def Near (X A B : Nat) : Prop := endL X * B ≤ A * 2 ^ unB ∧ A * 2 ^ unB ≤ endU X * B ∧ (X % 2 = 1 → endL X * B < A * 2 ^ unB ∧ A * 2 ^ unB < endU X * B)
theorem ends_far (X n : Nat) : endU X ≤ endL (X + (n + 1)) ∧ (0 < n → endU X < endL (X + (n + 1))) := by
  have hm := ends_mono (X + 1) (by omega) n
  rw [Nat.add_assoc X 1 n, Nat.add_comm 1 n, ends_meet X] at hm
  exact ⟨by omega, fun h => by omega⟩
/-- of two quotients the greater one's nearest float is no less -/
theorem near_mono {X Y A B C D : Nat} (hB : 0 < B) (hD : 0 < D) (h1 : Near X A B) (h2 : Near Y C D) (h : A * D ≤ C * B) : X ≤ Y := by
  refine Nat.le_of_not_lt fun hl => ?_
  obtain ⟨n, rfl⟩ : ∃ n, X = Y + (n + 1) := ⟨X - Y - 1, by omega⟩
  obtain ⟨e1, e2⟩ := ends_far Y n
  obtain ⟨a1, a2, a3⟩ := h1
  obtain ⟨b1, b2, b3⟩ := h2
  generalize endU Y = u at *
  generalize endL (Y + (n + 1)) = l at *
  generalize 2 ^ unB = z at *
  -- l B <= A z, C z <= u D, u <= l, A D <= C B
  have k1 : l * B * D ≤ A * z * D := Nat.mul_le_mul_right _ a1
  have k2 : A * z * D ≤ C * z * B := by
    have := Nat.mul_le_mul_right z h
    rw [show A * z * D = A * D * z by ac_rfl, show C * z * B = C * B * z by ac_rfl]
    exact this
  have k3 : C * z * B ≤ u * D * B := Nat.mul_le_mul_right _ b2
  have k4 : l * B * D = l * D * B := by ac_rfl
  have k5 : l * D * B ≤ u * D * B := by omega
  have k6 : l ≤ u := Nat.le_of_mul_le_mul_right (Nat.le_of_mul_le_mul_right k5 hB) hD
  have hn : n = 0 := Nat.eq_zero_of_not_pos fun hp => by have := e2 hp; omega
  have hlu : l = u := by omega
  subst hn
  by_cases ho : (Y + (0 + 1)) % 2 = 1
  · obtain ⟨c1, _⟩ := a3 ho
    have := Nat.mul_lt_mul_of_pos_right c1 hD
    rw [hlu] at this k4
    omega
  · obtain ⟨_, c2⟩ := b3 (by omega)
    have := Nat.mul_lt_mul_of_pos_right c2 hB
    rw [hlu] at k4 k1
    omega
theorem near_inj {X Y A B C D : Nat} (hB : 0 < B) (hD : 0 < D) (h1 : Near X A B) (h2 : Near Y C D) (h : A * D = C * B) : X = Y :=
  Nat.le_antisymm (near_mono hB hD h1 h2 (Nat.le_of_eq h)) (near_mono hD hB h2 h1 (Nat.le_of_eq h.symm))
/-- the float of a significand and a place -/
theorem fl_parts (t R : Nat) (hR : R < 9007199254740992) (hn : t = 0 ∨ 4503599627370496 ≤ R) :
    ftM (t * 4503599627370496 + R) = R ∧ ftE (t * 4503599627370496 + R) - 52 = (t : Int) - 1074 := by
  unfold ftM ftE
  by_cases h : t * 4503599627370496 + R < 4503599627370496
  · rw [if_pos (by omega), if_pos (by omega)]
    omega
  · rw [if_neg (by omega), if_neg (by omega)]
    omega
theorem fl_top (t : Nat) : ftM ((t + 1) * 4503599627370496 + 4503599627370496) = 4503599627370496 ∧ ftE ((t + 1) * 4503599627370496 + 4503599627370496) - 52 = ((t + 1 : Nat) : Int) - 1074 := by
  unfold ftM ftE
  rw [if_neg (by omega), if_neg (by omega)]
  omega
theorem fl_two (t : Nat) : t * 4503599627370496 + 9007199254740992 = (t + 1) * 4503599627370496 + 4503599627370496 := by omega
theorem near_mk (A B D N t R : Nat) (hB : 0 < B) (hD : 0 < D) (hq : A * 2 ^ leB * D = N * 2 ^ t * B) (h1 : 2 * (R * D) ≤ 2 * N + D) (h2 : 2 * N ≤ 2 * (R * D) + D)
    (h3 : R % 2 = 1 → 2 * (R * D) < 2 * N + D ∧ 2 * N < 2 * (R * D) + D) (hR : R ≤ 9007199254740992) (hn : t = 0 ∨ 4503599627370496 * D ≤ N) : Near (t * 4503599627370496 + R) A B := by
  have hz : (2 : Nat) ^ unB = 4 * 2 ^ leB := unB_le
  obtain ⟨X, hX⟩ : ∃ X, X = t * 4503599627370496 + R := ⟨_, rfl⟩
  have ho : X % 2 = R % 2 := by omega
  obtain ⟨T, hT⟩ : ∃ T : Nat, T = 2 ^ t := ⟨_, rfl⟩
  have hT0 : 0 < T := by rw [hT]; exact Nat.two_pow_pos t
  have key : ∀ c, (c * D ≤ 4 * N → c * T * B ≤ A * 2 ^ unB) ∧ (4 * N ≤ c * D → A * 2 ^ unB ≤ c * T * B) ∧ (c * D < 4 * N → c * T * B < A * 2 ^ unB) ∧ (4 * N < c * D → A * 2 ^ unB < c * T * B) := by
    intro c
    rw [hz]
    rw [← hT] at hq
    generalize 2 ^ leB = z at *
    have hTB : 0 < T * B := Nat.mul_pos hT0 hB
    have e1 : A * (4 * z) * D = 4 * N * (T * B) := by
      rw [show A * (4 * z) * D = 4 * (A * z * D) by ac_rfl, hq]
      ac_rfl
    have e2 : c * T * B * D = c * D * (T * B) := by ac_rfl
    refine ⟨fun h => ?_, fun h => ?_, fun h => ?_, fun h => ?_⟩
    · exact Nat.le_of_mul_le_mul_right (by rw [e1, e2]; exact Nat.mul_le_mul_right _ h) hD
    · exact Nat.le_of_mul_le_mul_right (by rw [e1, e2]; exact Nat.mul_le_mul_right _ h) hD
    · exact Nat.lt_of_mul_lt_mul_right (a := D) (by rw [e1, e2]; exact Nat.mul_lt_mul_of_pos_right h hTB)
    · exact Nat.lt_of_mul_lt_mul_right (a := D) (by rw [e1, e2]; exact Nat.mul_lt_mul_of_pos_right h hTB)
  clear hz hq
  rw [← hX]
  obtain ⟨P, hP⟩ : ∃ P, P = R * D := ⟨_, rfl⟩
  rw [← hP] at h1 h2 h3
  by_cases hlt : R < 9007199254740992 ∧ (t = 0 ∨ 4503599627370496 ≤ R)
  · obtain ⟨f1, f2⟩ := fl_parts t R hlt.1 hlt.2
    rw [← hX] at f1 f2
    have eL : endL X = loQ R ((t : Int) - 1074) * T := by unfold endL; rw [f1, f2, hT, show ((t : Int) - 1074 + 1074).toNat = t by omega]
    have eU : endU X = (4 * R + 2) * T := by unfold endU; rw [f1, f2, hT, show ((t : Int) - 1074 + 1074).toNat = t by omega]
    unfold Near
    rw [eL, eU, ho]
    have cU : (4 * R + 2) * D = 4 * P + 2 * D := by rw [Nat.add_mul, Nat.mul_assoc, ← hP]
    have cL : (4 * R - 2) * D = 4 * P - 2 * D := by rw [Nat.sub_mul, Nat.mul_assoc, ← hP]
    have b1 : loQ R ((t : Int) - 1074) * D ≤ 4 * N := by
      unfold loQ
      by_cases hb : R = 4503599627370496 ∧ -1074 < (t : Int) - 1074
      · rw [if_pos hb]
        have := hb.1
        have := hb.2
        rcases hn with h | h
        · omega
        · have : (4 * R - 1) * D ≤ 4 * R * D := Nat.mul_le_mul_right _ (by omega)
          rw [Nat.mul_assoc, ← hP] at this
          have e : P = 4503599627370496 * D := by rw [hP, hb.1]
          omega
      · rw [if_neg hb, cL]
        omega
    refine ⟨(key _).1 b1, (key _).2.1 (by rw [cU]; omega), fun h => ?_⟩
    have h4 := h3 h
    refine ⟨(key _).2.2.1 ?_, (key _).2.2.2 (by rw [cU]; omega)⟩
    unfold loQ
    rw [if_neg (by omega), cL]
    have : D ≤ P := by
      rw [hP]
      exact Nat.le_mul_of_pos_left D (by omega)
    omega
  · by_cases hR2 : R = 9007199254740992
    · have e0 : X = (t + 1) * 4503599627370496 + 4503599627370496 := by
        rw [hX, hR2]
        exact fl_two t
      obtain ⟨f1, f2⟩ := fl_top t
      rw [← e0] at f1 f2
      have eL : endL X = (4 * R - 2) * T := by
        unfold endL
        rw [f1, f2, show (((t + 1 : Nat) : Int) - 1074 + 1074).toNat = t + 1 by omega, Nat.pow_succ, ← hT]
        unfold loQ
        rw [if_pos ⟨rfl, by omega⟩, hR2]
        omega
      have eU : endU X = (4 * R + 4) * T := by
        unfold endU
        rw [f1, f2, show (((t + 1 : Nat) : Int) - 1074 + 1074).toNat = t + 1 by omega, Nat.pow_succ, ← hT, hR2]
        omega
      unfold Near
      rw [eL, eU, ho]
      have cU : (4 * R + 4) * D = 4 * P + 4 * D := by rw [Nat.add_mul, Nat.mul_assoc, ← hP]
      have cL : (4 * R - 2) * D = 4 * P - 2 * D := by rw [Nat.sub_mul, Nat.mul_assoc, ← hP]
      exact ⟨(key _).1 (by rw [cL]; omega), (key _).2.1 (by rw [cU]; omega), fun h => by omega⟩
    · exfalso
      have ht : ¬ t = 0 := fun e => hlt ⟨by omega, .inl e⟩
      have hr : R < 4503599627370496 := by
        refine Nat.lt_of_not_le fun h => hlt ⟨by omega, .inr h⟩
      rcases hn with h | h
      · exact ht h
      · have : R * D ≤ 4503599627370495 * D := Nat.mul_le_mul_right _ (by omega)
        rw [← hP] at this
        -- R <= 2^52 - 1, N >= 2^52 D, 2 N <= 2 P + D
        have e : 4503599627370496 * D = 4503599627370495 * D + D := by omega
        omega
end Go.Proofs.YtcbgkbidgpemfaaGreatDoor.fpm

/- The nearest float of a quotient, worked out. Plain. -/
namespace Go.Proofs.YtcbgkbidgpemfaaGreatDoor.fpm
open Go Go.RowKit Go.Proofs.YtcbgkbidgpemfaaGreatDoor.prnw

/-- a quotient rounded to a whole number, between two to the even one -/
def rne (N D : Nat) : Nat := N / D + if D < 2 * (N % D) ∨ (2 * (N % D) = D ∧ N / D % 2 = 1) then 1 else 0
theorem rne_spec (N D : Nat) (hD : 0 < D) : 2 * (rne N D * D) ≤ 2 * N + D ∧ 2 * N ≤ 2 * (rne N D * D) + D ∧ (rne N D % 2 = 1 → 2 * (rne N D * D) < 2 * N + D ∧ 2 * N < 2 * (rne N D * D) + D) := by
  have h := Nat.div_add_mod N D
  have hm := Nat.mod_lt N hD
  unfold rne
  generalize N % D = m at *
  generalize N / D = q at *
  rw [Nat.mul_comm] at h
  split
  · rw [Nat.add_mul, Nat.one_mul]
    generalize q * D = p at *
    omega
  · rw [Nat.add_zero]
    generalize q * D = p at *
    omega
theorem rne_le {N D K : Nat} (hD : 0 < D) (h : N ≤ K * D) : rne N D ≤ K := by
  have h1 : N / D ≤ K := Nat.div_le_of_le_mul (by rw [Nat.mul_comm]; exact h)
  have hm := Nat.div_add_mod N D
  unfold rne
  split
  · rename_i hc
    by_cases he : N / D = K
    · rw [he, Nat.mul_comm] at hm
      have : N % D = 0 := by omega
      rw [this] at hc
      omega
    · omega
  · omega
/-- the nearest float of A / B -/
def nearX (A B : Nat) : Nat :=
  ((A * 2 ^ leB / B).log2 - 52) * 4503599627370496 + rne (A * 2 ^ leB) (B * 2 ^ ((A * 2 ^ leB / B).log2 - 52))
theorem near_of (A B : Nat) (hB : 0 < B) : Near (nearX A B) A B := by
  unfold nearX
  obtain ⟨N, hN⟩ : ∃ N, N = A * 2 ^ leB := ⟨_, rfl⟩
  rw [← hN]
  obtain ⟨F, hF⟩ : ∃ F, F = N / B := ⟨_, rfl⟩
  rw [← hF]
  obtain ⟨t, ht⟩ : ∃ t, t = F.log2 - 52 := ⟨_, rfl⟩
  rw [← ht]
  obtain ⟨T, hT⟩ : ∃ T : Nat, T = 2 ^ t := ⟨_, rfl⟩
  have hT0 : 0 < T := by rw [hT]; exact Nat.two_pow_pos t
  have hD : 0 < B * T := Nat.mul_pos hB hT0
  have f1 := Nat.div_add_mod N B
  have f2 := Nat.mod_lt N hB
  rw [← hF] at f1
  have hup : F + 1 ≤ 9007199254740992 * T := by
    have h1 : F < 2 ^ (F.log2 + 1) := Nat.lt_log2_self
    have h2 : (2 : Nat) ^ (F.log2 + 1) ≤ 2 ^ (53 + t) := Nat.pow_le_pow_right (by decide) (by omega)
    rw [Nat.pow_add 2 53 t, ← hT] at h2
    have : (2 : Nat) ^ 53 = 9007199254740992 := by decide
    rw [this] at h2
    omega
  have hlow : t = 0 ∨ 4503599627370496 * T ≤ F := by
    by_cases h0 : t = 0
    · exact .inl h0
    · have hF0 : F ≠ 0 := by
        intro e
        rw [e] at ht
        have : Nat.log2 0 = 0 := by decide
        omega
      have h1 : 2 ^ F.log2 ≤ F := Nat.log2_self_le hF0
      have h2 : (2 : Nat) ^ (52 + t) ≤ 2 ^ F.log2 := Nat.pow_le_pow_right (by decide) (by omega)
      rw [Nat.pow_add 2 52 t, ← hT] at h2
      have : (2 : Nat) ^ 52 = 4503599627370496 := by decide
      rw [this] at h2
      exact .inr (Nat.le_trans h2 h1)
  rw [← hT]
  obtain ⟨a, b, c⟩ := rne_spec N (B * T) hD
  refine near_mk A B (B * T) N t _ hB hD ?_ a b c (rne_le hD ?_) ?_
  · rw [← hN, ← hT]
    ac_rfl
  · have h3 : B * (F + 1) ≤ B * (9007199254740992 * T) := Nat.mul_le_mul_left _ hup
    rw [Nat.mul_add, Nat.mul_one] at h3
    have h4 : B * (9007199254740992 * T) = 9007199254740992 * (B * T) := by ac_rfl
    rw [h4] at h3
    omega
  · refine hlow.imp_right fun h => ?_
    have h3 : B * (4503599627370496 * T) ≤ B * F := Nat.mul_le_mul_left _ h
    have h4 : B * (4503599627370496 * T) = 4503599627370496 * (B * T) := by ac_rfl
    rw [h4] at h3
    omega
theorem near_eq {X A B : Nat} (hB : 0 < B) (h : Near X A B) : X = nearX A B := near_inj hB hB h (near_of A B hB) rfl
theorem near_same {A B C D : Nat} (hB : 0 < B) (hD : 0 < D) (h : A * D = C * B) : nearX A B = nearX C D := near_inj hB hD (near_of A B hB) (near_of C D hD) h
end Go.Proofs.YtcbgkbidgpemfaaGreatDoor.fpm

/- Multiprecision decimals: rounding to a whole number: plain arithmetic. No conditions but those stated. -/
namespace Go.Proofs.YtcbgkbidgpemfaaGreatDoor.dmx
open Go.Proofs.YtcbgkbidgpemfaaGreatDoor.fpm

/-- is it rounded up? p digits stand ahead of the point -/
def upB (N n p : Nat) : Bool := if dgN N n p = 5 ∧ p + 1 = n then decide (0 < p) && decide (dgN N n (p - 1) % 2 = 1) else decide (5 ≤ dgN N n p)
end Go.Proofs.YtcbgkbidgpemfaaGreatDoor.dmx

/- The walks of strconv's shouldRoundUp and RoundedInteger. Conditions: as each theorem states. -/
namespace Go.Proofs.YtcbgkbidgpemfaaGreatDoor.dcw
open Go.RowKit
open Go.Proofs.YtcbgkbidgpemfaaGreatDoor.bsw
open Go.Proofs.YtcbgkbidgpemfaaGreatDoor.prnw
open Go.Proofs.YtcbgkbidgpemfaaGreatDoor.dmx
open Go.Proofs.YtcbgkbidgpemfaaGreatDoor.fpm

end Go.Proofs.YtcbgkbidgpemfaaGreatDoor.dcw

/- A decimal scaled to a half and one, and rounded: plain arithmetic. No conditions but those stated. -/
namespace Go.Proofs.YtcbgkbidgpemfaaGreatDoor.dmx
open Go.Proofs.YtcbgkbidgpemfaaGreatDoor.fpm

/-- what a shift is taken for so many digits ahead of the point -/
def powT (d : Nat) : Nat := match d with | 0 => 1 | 1 => 3 | 2 => 6 | 3 => 9 | 4 => 13 | 5 => 16 | 6 => 19 | 7 => 23 | 8 => 26 | _ => 27
theorem powT_dn : ∀ d, 1 ≤ d → 2 ^ powT d ≤ 10 ^ d
  | 0, h => absurd h (by decide)
  | 1, _ => by decide
  | 2, _ => by decide
  | 3, _ => by decide
  | 4, _ => by decide
  | 5, _ => by decide
  | 6, _ => by decide
  | 7, _ => by decide
  | 8, _ => by decide
  | d + 9, _ => by
    have h : (10 : Nat) ^ 9 ≤ 10 ^ (d + 9) := Nat.pow_le_pow_right (by decide) (by omega)
    have h2 : 2 ^ powT (d + 9) ≤ 10 ^ 9 := by
      show 2 ^ 27 ≤ 10 ^ 9
      decide
    omega
def tenA : Nat := 310
theorem tenA_eq : tenA = 310 := rfl
def tenB : Nat := 1669
def twoD : Nat := 1034
theorem twoD_eq : twoD = 1034 := rfl
/-- the first loop: halves are taken until it is below one -/
structure L1 (V0 N0 n0 q0 V N n : Nat) (dp : Int) (s : Nat) : Prop where
  g : WGood N n
  m : (s = 0 ∧ n ≤ 30) ∨ N % 10 ≠ 0
  nd : (n : Int) ≤ dp + 2000
  hv : val N n dp = V
  e : V * 2 ^ s = V0
  c : s = 0 ∨ one ≤ 16 * V
  d0 : -330 ≤ dp
  d1 : dp ≤ 310
  h0 : V0 = N0 * 10 ^ q0
  hn : N0 < 10 ^ n0
  n30 : n0 ≤ 30
  b : V0 < 10 ^ tenA * one
theorem L1.s_bd {V0 N0 n0 q0 V N n s : Nat} {dp : Int} (h : L1 V0 N0 n0 q0 V N n dp s) : s ≤ 1033 := by
  rcases h.c with h0 | h1
  · omega
  · have h2 : one * 2 ^ s ≤ 16 * V0 := by
      rw [← h.e, ← Nat.mul_assoc]
      exact Nat.mul_le_mul_right _ h1
    have h3 : one * 2 ^ s < one * (16 * 10 ^ tenA) := by
      have := h.b
      rw [show one * (16 * 10 ^ tenA) = 16 * (10 ^ tenA * one) by rw [Nat.mul_comm one, Nat.mul_assoc]]
      exact Nat.lt_of_le_of_lt h2 (Nat.mul_lt_mul_of_pos_left this (by decide))
    have h4 := Nat.lt_of_mul_lt_mul_left h3
    have h5 : 16 * 10 ^ tenA ≤ 2 ^ twoD := by decide +kernel
    refine Nat.le_of_not_lt fun h6 => ?_
    have h7 : (2 : Nat) ^ twoD ≤ 2 ^ s := Nat.pow_le_pow_right (by decide) (by have := twoD_eq; omega)
    exact absurd (Nat.le_trans h5 h7) (Nat.not_le_of_lt h4)
theorem L1.n_bd {V0 N0 n0 q0 V N n s : Nat} {dp : Int} (h : L1 V0 N0 n0 q0 V N n dp s) : n ≤ 760 := by
  have hs := h.s_bd
  rcases h.m with h9 | h9
  · omega
  have h1 : N * 10 ^ (dp - (n : Int) + 2000).toNat * 2 ^ s = N0 * 10 ^ q0 := by
    rw [← h.h0, ← h.e, ← h.hv]
    rfl
  have h2 := right_n ⟨h.g, h9⟩ h.hn h1
  have := h.n30
  omega
/-- the second loop: it is doubled until it is a half -/
structure L2 (V0 V N n : Nat) (dp : Int) (s j : Nat) : Prop where
  g : WGood N n
  nd : (n : Int) ≤ dp + 2000
  hv : val N n dp = V
  e : V * 2 ^ s = V0 * 2 ^ j
  l : dp ≤ 0
  d0 : -330 ≤ dp
  a : (s = 0 ∧ (n : Int) - dp ≤ 361) ∨ (one * 2 ^ j ≤ 16 * V ∧ (n : Int) - dp ≤ 762)
  lo : 10 ^ tenB ≤ V0
theorem L1.two {V0 N0 n0 q0 V N n s : Nat} {dp : Int} (h : L1 V0 N0 n0 q0 V N n dp s) (hd : dp ≤ 0) (hs0 : s = 0 → n ≤ 30) (lo : 10 ^ tenB ≤ V0) : L2 V0 V N n dp s 0 := by
  refine ⟨h.g, h.nd, h.hv, by rw [h.e, Nat.pow_zero, Nat.mul_one], hd, h.d0, ?_, lo⟩
  have hn := h.n_bd
  have := h.d0
  by_cases h0 : s = 0
  · exact .inl ⟨h0, by have := hs0 h0; omega⟩
  · have h1 := h.c.resolve_left h0
    have h2 : -1 ≤ dp := by
      refine Int.not_lt.1 fun hl => ?_
      have h3 := val_small h.g dp 2 h.nd (by omega) (by decide)
      rw [h.hv] at h3
      omega
    exact .inr ⟨by rw [Nat.pow_zero, Nat.mul_one]; exact h1, by omega⟩
theorem L2.n_bd {V0 V N n s j : Nat} {dp : Int} (h : L2 V0 V N n dp s j) : n ≤ 762 := by
  have := h.l
  rcases h.a with h1 | h1 <;> omega
/-- the doubling that is chosen stays below one -/
theorem L2.small {V0 V N n s j : Nat} {dp : Int} (h : L2 V0 V N n dp s j) (hd : dp < 0) : V * 2 ^ powT (-dp).toNat < one := by
  obtain ⟨p, hp⟩ : ∃ p : Nat, -dp = (p : Int) := ⟨(-dp).toNat, by omega⟩
  rw [hp, Int.toNat_natCast]
  have h1 := val_small h.g dp p h.nd (by omega) (by have := h.d0; omega)
  rw [h.hv] at h1
  have h2 := powT_dn p (by omega)
  exact Nat.lt_of_le_of_lt (Nat.mul_le_mul_left _ h2) h1
end Go.Proofs.YtcbgkbidgpemfaaGreatDoor.dmx

/- A scaled decimal, rounded, is the nearest float: plain arithmetic. No conditions but those stated. -/
namespace Go.Proofs.YtcbgkbidgpemfaaGreatDoor.dmx
open Go.Proofs.YtcbgkbidgpemfaaGreatDoor.fpm

def twoC : Nat := 1024
theorem twoC_eq : twoC = 1024 := rfl
def twoT : Nat := 2046
theorem twoT_eq : twoT = 2046 := rfl
/-- infinity -/
def infX : Nat := 9218868437227405312
theorem near_inf : Near infX (2 ^ twoC) 1 := by
  have h := near_mk (2 ^ twoC) 1 1 4503599627370496 twoT 4503599627370496 (by decide) (by decide) (by
    rw [Nat.mul_one, Nat.mul_one, show (4503599627370496 : Nat) = 2 ^ 52 from rfl, ← Nat.pow_add, ← Nat.pow_add]
    have := leB_eq
    have := twoC_eq
    have := twoT_eq
    exact congrArg (fun z : Nat => 2 ^ z) (by omega)) (by omega) (by omega) (fun h => by omega) (by omega) (.inr (by omega))
  exact h
theorem near_big {A B : Nat} (hB : 0 < B) (h : 2 ^ twoC * B ≤ A) : infX ≤ nearX A B :=
  near_mono (by decide) hB near_inf (near_of A B hB) (by rw [Nat.mul_one]; exact h)
def lowE : Nat := 1075
theorem near_low {A B : Nat} (hB : 0 < B) (h : A * 2 ^ lowE ≤ B) : nearX A B = 0 := by
  have h1 := near_mk A B B (A * 2 ^ leB) 0 0 hB hB (by rw [Nat.pow_zero, Nat.mul_one]) (by omega) (by
    rw [Nat.zero_mul, Nat.mul_zero, Nat.zero_add]
    have e : (2 : Nat) ^ lowE = 2 * 2 ^ leB := by rw [show lowE = leB + 1 from rfl, Nat.pow_succ, Nat.mul_comm]
    rw [e] at h
    generalize (2 : Nat) ^ leB = x at *
    rw [Nat.mul_left_comm] at h
    exact h) (fun h => by omega) (by omega) (.inl rfl)
  exact (near_eq hB h1).symm
end Go.Proofs.YtcbgkbidgpemfaaGreatDoor.dmx

/- A scope with two labels that the run jumps forward to. No conditions but those stated. -/
namespace Go.Proofs.YtcbgkbidgpemfaaGreatDoor.scp
open Go

section
variable {Q : Exit → Act → World → Prop} {a : Act} {w : World} {l1 l2 : Nat} {J1 J2 : Act → World → Prop}
end
end Go.Proofs.YtcbgkbidgpemfaaGreatDoor.scp
