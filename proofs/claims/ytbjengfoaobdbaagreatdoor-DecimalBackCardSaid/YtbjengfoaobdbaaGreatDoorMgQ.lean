/- Whole numbers and floats as words; plain. -/
import Derived.Test.YtbjengfoaobdbaaGreatDoorRdF
import Derived.Test.YtbjengfoaobdbaaGreatDoorMgK
import Derived.Test.YtbjengfoaobdbaaGreatDoorMgM
namespace Go.Proofs.YtbjengfoaobdbaaGreatDoor.dirw
open Go.RowKit
open Go.Proofs.YtbjengfoaobdbaaGreatDoor.nodew
open Go.Proofs.YtbjengfoaobdbaaGreatDoor.flatm
open Go.Proofs.YtbjengfoaobdbaaGreatDoor.dmx
open Go.Proofs.YtbjengfoaobdbaaGreatDoor.dcw
open Go.Proofs.YtbjengfoaobdbaaGreatDoor.fpm
open Go.Proofs.YtbjengfoaobdbaaGreatDoor.rdf
open Go.Proofs.YtbjengfoaobdbaaGreatDoor.prnw

/-- the exponent's bits away -/
theorem andn_exp (a : Nat) (ha : a < 9223372036854775808) : bits BinOp.andNot IntKind.u64 (a : Int) 9218868437227405312 = ((a % 4503599627370496 : Nat) : Int) := by
  have h : bits BinOp.andNot IntKind.u64 (a : Int) 9218868437227405312 = IntKind.u64.wrap (((BitVec.ofInt 64 (a : Int) &&& ~~~ (BitVec.ofInt 64 9218868437227405312)).toNat : Nat) : Int) := rfl
  have h2 : (BitVec.ofInt 64 (a : Int)).toNat = a := by
    rw [BitVec.toNat_ofInt]
    omega
  have h3 : (~~~ (BitVec.ofInt 64 9218868437227405312)).toNat = 2 ^ 63 ||| (2 ^ 52 - 1) := by decide
  have h4 : a &&& 2 ^ 63 = 0 := by
    apply Nat.eq_of_testBit_eq
    intro i
    rw [Nat.testBit_and, Nat.testBit_two_pow, Nat.zero_testBit]
    by_cases hi : 63 = i
    · subst hi
      rw [Nat.testBit_lt_two_pow (show a < 2 ^ 63 by omega)]
      rfl
    · rw [decide_eq_false hi, Bool.and_false]
  rw [h, BitVec.toNat_and, h2, h3, Nat.and_or_distrib_left, h4, Nat.and_two_pow_sub_one_eq_mod, Nat.zero_or, IntKind.wrap_u64]
  omega
theorem or_exp (r b : Nat) (hr : r < 4503599627370496) (hb : b < 2048) : bits BinOp.or IntKind.u64 (r : Int) ((b * 4503599627370496 : Nat) : Int) = ((b * 4503599627370496 + r : Nat) : Int) := by
  have h := or52s false r b hr hb
  rw [show sgn false r = r from rfl, show sgn false (b * 4503599627370496 + r) = b * 4503599627370496 + r from rfl] at h
  exact h
theorem and_2047 (k : IntKind) (hk : k = .i64 ∨ k = .u64) (a : Nat) (ha : a < 2048) : bits BinOp.and k (a : Int) 2047 = (a : Int) := by
  have := and_mask k hk a 11 (by omega) (by decide)
  rw [Nat.mod_eq_of_lt (by omega), show ((2 ^ 11 - 1 : Nat) : Int) = 2047 from rfl] at this
  exact this
theorem and_52 (a : Nat) (ha : a < 9223372036854775808) : bits BinOp.and .u64 (a : Int) 4503599627370495 = ((a % 4503599627370496 : Nat) : Int) := by
  have := and_mask .u64 (.inr rfl) a 52 ha (by decide)
  rw [show ((2 ^ 52 - 1 : Nat) : Int) = 4503599627370495 from rfl] at this
  exact this
/-- a whole number's word -/
theorem int_word (d : Nat) (h0 : 0 < d) (hd : d < 9007199254740992) : ∃ L R : Nat, L ≤ 52 ∧ R = d * 2 ^ (52 - L) ∧ 4503599627370496 ≤ R ∧ R < 9007199254740992 ∧ 2 ^ L ≤ d ∧ d < 2 ^ (L + 1) ∧ floatOfInt FloatKind.f64 (d : Int) = (1022 + L) * 4503599627370496 + R := by
  obtain ⟨L, hL⟩ : ∃ L, d.log2 = L := ⟨_, rfl⟩
  have h1 : d < 2 ^ (L + 1) := by rw [← hL]; exact Nat.lt_log2_self
  have h2 : 2 ^ L ≤ d := by rw [← hL]; exact Nat.log2_self_le (by omega)
  have hL52 : L ≤ 52 := by
    have : (2 : Nat) ^ L < 2 ^ 53 := Nat.lt_of_le_of_lt h2 (Nat.lt_of_lt_of_le hd (by decide))
    have := (Nat.pow_lt_pow_iff_right (show 1 < 2 by decide)).1 this
    omega
  obtain ⟨R, hR⟩ : ∃ R, R = d * 2 ^ (52 - L) := ⟨_, rfl⟩
  obtain ⟨t, ht⟩ : ∃ t, t = 1022 + L := ⟨_, rfl⟩
  have hR0 : 4503599627370496 ≤ R := by
    have := Nat.mul_le_mul_right (2 ^ (52 - L)) h2
    rw [← Nat.pow_add, show L + (52 - L) = 52 by omega, ← hR] at this
    exact Nat.le_trans (by decide) this
  have hR1 : R < 9007199254740992 := by
    have := Nat.mul_lt_mul_of_pos_right h1 (Nat.two_pow_pos (52 - L))
    rw [← Nat.pow_add, show L + 1 + (52 - L) = 53 by omega, ← hR] at this
    exact Nat.lt_of_lt_of_le this (by decide)
  have hv : R * 2 ^ t = d * 2 ^ leB := by
    rw [hR, Nat.mul_assoc, ← Nat.pow_add]
    congr 2
    have := leB_eq
    omega
  have hn : t * 4503599627370496 + R = nearX d 1 := near_eq (by decide) (near_mk d 1 1 R t R (by decide) (by decide) (by rw [hv]) (by omega) (by omega) (fun _ => by omega) (by omega) (.inr (by omega)))
  refine ⟨L, R, hL52, hR, hR0, hR1, h2, h1, ?_⟩
  have hle : nearX d 1 ≤ infW := by
    have := infW_eq
    rw [← hn]
    omega
  exact (of_int d h0).trans ((Nat.min_eq_left hle).trans (hn.symm.trans (by rw [ht])))
/-- a float is the nearest to itself -/
theorem near_val (X : Nat) : nearX (valR X) (2 ^ leB) = X := by
  have hB : 0 < 2 ^ leB := Nat.two_pow_pos _
  by_cases h : X < 4503599627370496
  · have hv := val_low h
    have := near_eq hB (near_mk (valR X) (2 ^ leB) 1 X 0 X hB (by decide) (by rw [hv, Nat.pow_zero]; simp) (by omega) (by omega) (fun _ => by omega) (by omega) (.inl rfl))
    omega
  · obtain ⟨t, ht⟩ : ∃ t, t = X / 4503599627370496 - 1 := ⟨_, rfl⟩
    obtain ⟨R, hR⟩ : ∃ R, R = 4503599627370496 + X % 4503599627370496 := ⟨_, rfl⟩
    have hv : valR X = R * 2 ^ t := by unfold valR; rw [if_neg h, ← hR, ← ht]
    have := near_eq hB (near_mk (valR X) (2 ^ leB) 1 R t R hB (by decide) (by rw [hv, Nat.mul_one]) (by omega) (by omega) (fun _ => by omega) (by omega) (.inr (by omega)))
    omega
theorem val_word (t R : Nat) (h0 : 4503599627370496 ≤ R) (h1 : R < 9007199254740992) : valR (t * 4503599627370496 + R) = R * 2 ^ t := by
  unfold valR
  rw [if_neg (by omega), show (t * 4503599627370496 + R) / 4503599627370496 = t + 1 by omega, show 4503599627370496 + (t * 4503599627370496 + R) % 4503599627370496 = R by omega, Nat.add_sub_cancel]
/-- what is known of a float that is right -/
theorem right_parts (F : Nat) (h : F < 9218868437227405312) : nanF F = false ∧ infF F = false ∧ negF F = false := by
  have hn : negF F = false := by
    unfold negF
    rw [decide_eq_false]
    unfold wrap64
    omega
  have h2 := right_pos h
  unfold rightF at h2
  rw [Bool.and_eq_true, Bool.and_eq_true] at h2
  exact ⟨by simpa using h2.1.1, by simpa using h2.1.2, hn⟩
theorem fo_lt_no (F : Nat) (h : F < 9218868437227405312) (h2 : 4503599627370496 ≤ F) : (fo (absF F) 4503599627370496 == some .lt) = false := by
  have hm : F % 9223372036854775808 = F := Nat.mod_eq_of_lt (by omega)
  rw [abs_w F (by omega), hm, fo_sv (by omega) (by decide)]
  unfold sv
  rw [if_neg (by omega), if_neg (by decide), hm, Int.compare_eq_ite_lt]
  have := val_le (show 4503599627370496 % 9223372036854775808 ≤ F by omega)
  rw [if_neg (by omega)]
  split <;> rfl
end Go.Proofs.YtbjengfoaobdbaaGreatDoor.dirw

/- The walks of math.Ldexp at a float's own mantissa and exponent, and of dir's parts. Conditions: as each theorem states. -/
namespace Go.Proofs.YtbjengfoaobdbaaGreatDoor.dirw
open Go.RowKit
open Go.Proofs.YtbjengfoaobdbaaGreatDoor.nodew
open Go.Proofs.YtbjengfoaobdbaaGreatDoor.flatm
open Go.Proofs.YtbjengfoaobdbaaGreatDoor.dmx
open Go.Proofs.YtbjengfoaobdbaaGreatDoor.dcw
open Go.Proofs.YtbjengfoaobdbaaGreatDoor.fpm
open Go.Proofs.YtbjengfoaobdbaaGreatDoor.rdf
open Go.Proofs.YtbjengfoaobdbaaGreatDoor.prnw
open Go.Proofs.YtbjengfoaobdbaaGreatDoor.lawd
attribute [local go_sem] nodew.fo_eq bits_run frombits_run

theorem mul_k1 (a b : Nat) : a * b * a = b * a * a := by rw [Nat.mul_comm a b]
theorem mul_k2 (t y s D : Nat) (h : t * s = D) : t * (y * s) * D = y * D * D := by
  subst h
  ac_rfl
theorem mul_one (Y : Nat) (h0 : 0 < Y) (hY : Y < infW) (w : World) : (binOp BinOp.mul 25 (.float .f64 4607182418800017408) (.float .f64 Y)).run Tryz.prog w = .ok (.float .f64 Y) w := by
  have hv : valR 4607182418800017408 = 2 ^ leB := by decide +kernel
  have := mul_run w false 4607182418800017408 Y (valR Y) (2 ^ leB) (by decide) (by decide) h0 hY (Nat.two_pow_pos _) (by rw [hv]; exact mul_k1 _ _)
  rw [near_val, Nat.min_eq_left (Nat.le_of_lt hY)] at this
  exact this
theorem mul_tiny (Y G : Nat) (h0 : 0 < Y) (hY : Y < 4503599627370496) (g0 : 0 < G) (hG : G < infW) (hv : valR G = Y * 2 ^ 53) (w : World) : (binOp BinOp.mul 25 (.float .f64 4368491638549381120) (.float .f64 G)).run Tryz.prog w = .ok (.float .f64 Y) w := by
  have h1 : valR 4368491638549381120 * 2 ^ 53 = 2 ^ leB := by decide +kernel
  have hw := infW_eq
  have := mul_run w false 4368491638549381120 G (valR Y) (2 ^ leB) (by decide) (by decide) g0 hG (Nat.two_pow_pos _) (by
    rw [hv, val_low hY]
    exact mul_k2 _ _ _ _ h1)
  rw [near_val, Nat.min_eq_left (by omega)] at this
  exact this
set_option maxHeartbeats 1000000 in
theorem ldexp_w (Y : Nat) (h0 : 0 < Y) (hY : Y < 9218868437227405312) (w : World) : Calls Tryz.prog 66 #[.float .f64 (floatOfInt .f64 (ftM Y : Nat)), .int .i64 (ftE Y - 52)] w fun e w' => e = .returned (.float .f64 Y) ∧ w' = w := by
  have hw := infW_eq
  obtain ⟨m1, m2⟩ := ftM_pos Y h0
  obtain ⟨L, R, l1, l2, l3, l4, l5, l6, l7⟩ := int_word (ftM Y) m1 m2
  obtain ⟨F, hF⟩ : ∃ F, floatOfInt .f64 (ftM Y : Nat) = F := ⟨_, rfl⟩
  rw [hF] at l7 ⊢
  have hF0 : F < 9218868437227405312 := by omega
  have hF1 : 4503599627370496 ≤ F := by omega
  obtain ⟨n1, n2, n3⟩ := right_parts F hF0
  have n4 := fo_lt_no F hF0 hF1
  have n5 : (fo F 0 == some .eq) = false := by
    rw [(fo_zero (x := F) (by omega) (by omega) (by omega)).1]
    exact decide_eq_false (by omega)
  have HN := Lib.hid (fun W => norm_any F n4 W)
  have HI := Lib.hid (fun W => show Calls Tryz.prog 27 #[.float .f64 F, .int .i64 0] W fun e w' => e = .returned (.bool false) ∧ w' = W from by have := isInf_any F W; rw [n2] at this; exact this)
  have HA := Lib.hid (fun W => show Calls Tryz.prog 26 #[.float .f64 F] W fun e w' => e = .returned (.bool false) ∧ w' = W from by have := isNaN_any F W; rw [n1] at this; exact this)
  have fq : (F : Int) / 4503599627370496 = ((1023 + L : Nat) : Int) := by omega
  have fm : F % 4503599627370496 = R - 4503599627370496 := by omega
  have b1 : bits BinOp.and IntKind.i64 ((1023 + L : Nat) : Int) 2047 = ((1023 + L : Nat) : Int) := and_2047 .i64 (.inl rfl) _ (by omega)
  have b2 : bits BinOp.andNot IntKind.u64 (F : Int) 9218868437227405312 = ((R - 4503599627370496 : Nat) : Int) := by rw [andn_exp F (by omega), fm]
  by_cases hn : 4503599627370496 ≤ Y
  · obtain ⟨q, hq⟩ : ∃ q, q = Y / 4503599627370496 := ⟨_, rfl⟩
    have hM : ftM Y = Y % 4503599627370496 + 4503599627370496 := by unfold ftM; rw [if_neg (by omega)]
    have hE : ftE Y - 52 = (q : Int) - 1075 := by unfold ftE; rw [if_neg (by omega), ← hq]; omega
    have hL : L = 52 := by
      have : (2 : Nat) ^ 52 < 2 ^ (L + 1) := Nat.lt_of_le_of_lt (show 2 ^ 52 ≤ ftM Y by rw [hM]; omega) l6
      have := (Nat.pow_lt_pow_iff_right (show 1 < 2 by decide)).1 this
      omega
    subst hL
    rw [Nat.sub_self, Nat.pow_zero, Nat.mul_one] at l2
    rw [hE]
    have b3 : bits BinOp.or IntKind.u64 ((R - 4503599627370496 : Nat) : Int) (((q : Int) - 1075 + 52 + 1023) * 4503599627370496) = (Y : Int) := by
      rw [show ((q : Int) - 1075 + 52 + 1023) * 4503599627370496 = ((q * 4503599627370496 : Nat) : Int) by omega, or_exp _ q (by omega) (by omega), show q * 4503599627370496 + (R - 4503599627370496) = Y by omega]
    have b4 : bits BinOp.and IntKind.i64 1075 2047 = 1075 := by decide +kernel
    have hq0 : (1 : Int) ≤ (q : Int) := by omega
    have hq1 : (q : Int) ≤ 2046 := by omega
    have hmul := fun W => mul_one Y h0 (by omega) W
    clear hF l1 l2 l3 l4 l5 l6 l7 hF0 hF1 n1 n2 n3 n4 hM hE fm m1 m2 hn hq h0 hY hw
    go_enter Tryz.func66, Tryz.ntmps66
    go_wp2_with (first
      | (go_at_call 27; (with_reducible refine (HI.out _).mono ?_); rintro e w' ⟨rfl, rfl⟩)
      | (go_at_call 26; (with_reducible refine (HA.out _).mono ?_); rintro e w' ⟨rfl, rfl⟩)
      | (go_at_call 98; (with_reducible refine (HN.out _).mono ?_); rintro e w' ⟨rfl, rfl⟩))
    go_ret
    exact ⟨rfl, rfl⟩
  · have hM : ftM Y = Y := by unfold ftM; rw [if_pos (by omega)]; omega
    have hE : ftE Y - 52 = -1074 := by unfold ftE; rw [if_pos (by omega)]; rfl
    rw [hM] at l2 l5 l6
    have hL : L ≤ 51 := by
      have : (2 : Nat) ^ L < 2 ^ 52 := Nat.lt_of_le_of_lt l5 (Nat.lt_of_lt_of_le (Nat.lt_of_not_le hn) (by decide))
      have := (Nat.pow_lt_pow_iff_right (show 1 < 2 by decide)).1 this
      omega
    obtain ⟨G, hG⟩ : ∃ G, G = (L + 1) * 4503599627370496 + R := ⟨_, rfl⟩
    have hv : valR G = Y * 2 ^ 53 := by
      rw [hG, val_word (L + 1) R l3 l4, l2, Nat.mul_assoc, ← Nat.pow_add, show 52 - L + (L + 1) = 53 by omega]
    obtain ⟨c, hc⟩ : ∃ c, c = 1023 + L := ⟨_, rfl⟩
    rw [← hc] at fq b1
    rw [hE]
    have b3 : bits BinOp.or IntKind.u64 ((R - 4503599627370496 : Nat) : Int) ((-1074 + ((c : Int) - 1023) + 53 + 1023) * 4503599627370496) = (G : Int) := by
      rw [show (-1074 + ((c : Int) - 1023) + 53 + 1023) * 4503599627370496 = (((L + 2) * 4503599627370496 : Nat) : Int) by omega, or_exp _ (L + 2) (by omega) (by omega), show (L + 2) * 4503599627370496 + (R - 4503599627370496) = G by omega]
    have hc0 : (1023 : Int) ≤ (c : Int) := by omega
    have hc1 : (c : Int) ≤ 1074 := by omega
    have hmul := fun W => mul_tiny Y G h0 (by omega) (by omega) (by omega) hv W
    clear hF l1 l2 l3 l4 l5 l6 l7 hF0 hF1 n1 n2 n3 n4 hM hE fm m1 m2 hn hG hv hc h0 hY hw hL
    go_enter Tryz.func66, Tryz.ntmps66
    go_wp2_with (first
      | (go_at_call 27; (with_reducible refine (HI.out _).mono ?_); rintro e w' ⟨rfl, rfl⟩)
      | (go_at_call 26; (with_reducible refine (HA.out _).mono ?_); rintro e w' ⟨rfl, rfl⟩)
      | (go_at_call 98; (with_reducible refine (HN.out _).mono ?_); rintro e w' ⟨rfl, rfl⟩))
    go_ret
    exact ⟨rfl, rfl⟩
end Go.Proofs.YtbjengfoaobdbaaGreatDoor.dirw
