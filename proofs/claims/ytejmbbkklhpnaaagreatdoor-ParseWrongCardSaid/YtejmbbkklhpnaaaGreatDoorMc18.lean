/- The walk of strconv's parseFloat64. Conditions: as the theorem states. -/
import Derived.Test.YtejmbbkklhpnaaaGreatDoorMc16
import Derived.Test.YtejmbbkklhpnaaaGreatDoorMc17
import Derived.Test.YtejmbbkklhpnaaaGreatDoorMc08
namespace Go.Proofs.YtejmbbkklhpnaaaGreatDoor.rdf
open Go.RowKit
open Go.Proofs.YtejmbbkklhpnaaaGreatDoor.bsw
open Go.Proofs.YtejmbbkklhpnaaaGreatDoor.prnw
open Go.Proofs.YtejmbbkklhpnaaaGreatDoor.dcw
open Go.Proofs.YtejmbbkklhpnaaaGreatDoor.dmx
open Go.Proofs.YtejmbbkklhpnaaaGreatDoor.fpm

theorem b2i (b : Bool) (w : World) : Calls Tryz.prog 168 #[.bool b] w (Same w (.int .i64 (if b then 1 else 0))) := by
  go_enter Tryz.func168, Tryz.ntmps168
  cases b
  all_goals go_wp2
  all_goals go_ret
  all_goals exact ⟨rfl, rfl⟩
theorem unmin_53 (w : World) : Calls Tryz.prog 169 #[.int .u64 9007199254740992] w (Same w (.int .u64 36028797018963966)) := by
  go_enter Tryz.func169, Tryz.ntmps169
  go_wp2
  go_ret
  exact ⟨rfl, rfl⟩
/-- a world later, with nothing of the old changed, and an answer -/
def PfPost (w : World) (v : Value) (e : Ending) (w' : World) : Prop := e = .returned v ∧ Below w.heap.size w w'
/-- the places that parseFloat64 works out -/
theorem pf_parts (d : Nat) (P lp e : Int) (hd0 : 0 < d) (hd : d < 18446744073709551616) (hP0 : -345 ≤ P) (hP1 : P ≤ 310) (hlp : lp = P * 108853 / 32768) (he : e = min 1074 (53 - (Lib.bitLen d : Int) - lp)) :
    ∃ b z t : Nat, ∃ s : Int, Lib.bitLen d = b ∧ 1 ≤ b ∧ b ≤ 64 ∧ z = 64 - b ∧ 9223372036854775808 ≤ d * 2 ^ z ∧ d * 2 ^ z < 18446744073709551616 ∧ e = 1074 - (t : Int) ∧ s = (z : Int) + t - 1074 - lp - 3 ∧ s = -(e - (64 - (b : Int)) + lp + 3) ∧ 8 ≤ s ∧ (t = 0 ∨ s = 8) ∧ t ≤ 2199 ∧ -1200 ≤ lp ∧ lp ≤ 1100 := by
  obtain ⟨b1, b2, b3, b4⟩ := bl_bd 64 d (by omega) hd0
  change 1 ≤ Lib.bitLen d at b1
  change Lib.bitLen d ≤ 64 at b2
  change 2 ^ (Lib.bitLen d - 1) ≤ d at b3
  change d < 2 ^ Lib.bitLen d at b4
  obtain ⟨b, hb⟩ : ∃ b, Lib.bitLen d = b := ⟨_, rfl⟩
  rw [hb] at b1 b2 b3 b4 he
  have hl : -1200 ≤ lp ∧ lp ≤ 1100 := by omega
  refine ⟨b, 64 - b, (1074 - e).toNat, ((64 - b : Nat) : Int) + (1074 - e).toNat - 1074 - lp - 3, hb, b1, b2, rfl, ?_, ?_, by omega, rfl, by omega, by omega, by omega, by omega, hl.1, hl.2⟩
  · have h1 := Nat.mul_le_mul_right (2 ^ (64 - b)) b3
    rw [← Nat.pow_add, show b - 1 + (64 - b) = 63 by omega] at h1
    exact Nat.le_trans (by decide) h1
  · have h1 := Nat.mul_lt_mul_of_pos_right b4 (Nat.two_pow_pos (64 - b))
    rw [← Nat.pow_add, show b + (64 - b) = 64 by omega] at h1
    exact Nat.lt_of_lt_of_le h1 (by decide)
/-- a sign and what lies below it -/
theorem orS (neg : Bool) (R : Nat) (hR : R < 9007199254740992) : bits BinOp.or IntKind.u64 ((sgn neg 0 : Nat) : Int) (R : Int) = ((sgn neg R : Nat) : Int) := by
  have e : bits BinOp.or IntKind.u64 ((sgn neg 0 : Nat) : Int) (R : Int) = IntKind.u64.wrap (((BitVec.ofInt 64 ((sgn neg 0 : Nat) : Int) ||| BitVec.ofInt 64 (R : Int)).toNat : Nat) : Int) := rfl
  have hs : sgn neg 0 < 18446744073709551616 := by unfold sgn; split <;> omega
  have hs2 : sgn neg R < 18446744073709551616 := by unfold sgn; split <;> omega
  have p63 : (2 : Nat) ^ 63 = 9223372036854775808 := by decide
  have h4 : sgn neg 0 ||| R = sgn neg R := by
    cases neg with
    | true =>
      show 9223372036854775808 + 0 ||| R = 9223372036854775808 + R
      rw [Nat.add_zero, ← p63]
      have h1 := Nat.two_pow_add_eq_or_of_lt (i := 63) (b := R) (by rw [p63]; omega) 1
      rw [Nat.mul_one] at h1
      exact h1.symm
    | false => exact Nat.zero_or R
  rw [e, BitVec.toNat_or, bv_nat _ hs, bv_nat _ (by omega), h4, IntKind.wrap_u64]
  omega
theorem and_one (a : Nat) (h : a < 18446744073709551616) : bits BinOp.and IntKind.u64 (a : Int) 1 = ((a % 2 : Nat) : Int) := and_mask64 a 1 h (by decide)
attribute [local go_sem] ifrombits_run
set_option maxRecDepth 100000 in
set_option maxHeartbeats 2000000 in
theorem pf64_any (neg : Bool) (d i : Nat) (hd0 : 0 < d) (hd : d < 18446744073709551616) (hi0 : 3 ≤ i) (hi1 : i ≤ 658) (w : World) (hT : PT hiT loT w) (hB : 8 < w.heap.size) :
    Calls Tryz.prog 203 #[.int .u64 (d : Nat), .int .i64 ((i : Int) - 348), .int .u64 ((sgn neg 0 : Nat) : Int)] w (PfPost w (pkV neg (nearX (d * 10 ^ ((i : Int) - 348).toNat) (10 ^ (-((i : Int) - 348)).toNat)))) := by
  obtain ⟨lp, hlp⟩ : ∃ lp : Int, lp = ((i : Int) - 348) * 108853 / 32768 := ⟨_, rfl⟩
  obtain ⟨e, he⟩ : ∃ e : Int, e = min 1074 (53 - (Lib.bitLen d : Int) - lp) := ⟨_, rfl⟩
  obtain ⟨b, z, t, s, p1, p2, p3, p4, p5, p6, p7, p8, p9, p10, p11, p12, p13, p14⟩ := pf_parts d ((i : Int) - 348) lp e hd0 hd (by omega) (by omega) hlp he
  have CL := fun W => Tryz.bits_Len64 (d : Int) W (by omega) (by omega)
  rw [Int.toNat_natCast, p1] at CL
  have C2 := fun W => l2_any ((i : Int) - 348) (by omega) (by omega) W
  rw [← hlp] at C2
  have HL := Lib.hid (And.intro CL C2)
  rw [p1] at he
  have HE := Lib.hid he
  have HP := Lib.hid (And.intro p4 (And.intro p5 (And.intro p6 (And.intro p7 (And.intro p8 (And.intro p9 (And.intro p10 (And.intro p11 p12))))))))
  have b0 : (1 : Int) ≤ (b : Int) := by omega
  have b9 : (b : Int) ≤ 64 := by omega
  have HT := Lib.hid (And.intro hT hB)
  have HLP := Lib.hid hlp
  clear CL C2 he p1 p4 p5 p6 p7 p8 p9 p10 p11 p12 hT hB hlp
  go_enter Tryz.func203, Tryz.ntmps203
  go_upto_region 3 with (first | (go_at_call 132; (with_reducible refine (HL.out.1 _).mono ?_); rintro e w' ⟨rfl, hw'⟩; obtain rfl := hw'.symm) | (go_at_call 161; (with_reducible refine (HL.out.2 _).mono ?_); rintro e w' ⟨rfl, hw'⟩; obtain rfl := hw'.symm))
  have hmin : min (1074 : Int) (53 - (b : Int) - lp) = e := HE.out.symm
  go_upto_region 5 with (fail)
  obtain ⟨W0, hW0⟩ : ∃ W0, W0 = w.alloc (.cells #[.int .u64 0, .int .u64 0, .int .i64 0] 220) := ⟨_, rfl⟩
  rw [← hW0]
  have hbw : Below w.heap.size w W0 := by rw [hW0]; exact (Below.refl _ _).alloc (Nat.le_refl _) _
  have hsc : SC W0 w.heap.size 0 0 0 := by rw [hW0]; exact heap_at w _ _ rfl
  have hpt : PT hiT loT W0 := fun k hk => by
    obtain ⟨a1, a2, a3, a4⟩ := HT.out.1 k hk
    exact ⟨a1, a2, (hbw.cell (p := ⟨8, k * 2, none⟩) HT.out.2).trans a3, (hbw.cell (p := ⟨8, k * 2 + 1, none⟩) HT.out.2).trans a4⟩
  have hp := HP.out
  have CP := prescale_any hiT loT w.heap.size (e - (64 - (b : Int))) i lp (by omega) (by omega) (by omega) (by omega) (by omega) 0 0 0 W0 hpt (by have := HT.out.2; omega) hsc
  rw [← hp.2.2.2.2.2.1] at CP
  have HC := Lib.hid CP
  have e0 : -1200 ≤ e := by omega
  have e9 : e ≤ 1074 := by omega
  have HBW := Lib.hid hbw
  clear CP hbw hsc hpt hp hW0 hmin
  go_upto_region 6 with (go_at_call 160; (with_reducible refine HC.out.mono ?_); rintro e w1 ⟨rfl, hs1, hg1⟩; have HS1 := Lib.hid (And.intro hs1 hg1); clear hs1 hg1)
  have d2 : w1.cell? ⟨w.heap.size, 2, none⟩ = some (.int .i64 s) := by rw [cell_of_row _ _ _ _ _ _ HS1.out.1]; rfl
  have hbel : Below w.heap.size w w1 := HBW.out.grown HS1.out.2 HBW.out.size (fun k e => by obtain rfl := Option.some.inj e; exact Nat.le_refl _)
  have HBL := Lib.hid hbel
  clear hbel
  by_cases h64 : 64 ≤ s
  · have t1 : decide (64 ≤ s) = true := decide_eq_true h64
    have b1 : bits BinOp.or IntKind.u64 ((sgn neg 0 : Nat) : Int) 0 = ((sgn neg 0 : Nat) : Int) := by cases neg <;> decide +kernel
    obtain ⟨q4, q5, q6, q7, q8, q9, q10, q11, q12⟩ := HP.out
    have hz := pf_zero ((i : Int) - 348) (by omega) (by omega) lp HLP.out d z s.toNat q6 (by omega) (by omega)
    have hn := near_eq (Nat.pow_pos (by decide)) hz
    have hv : pkV neg (nearX (d * 10 ^ ((i : Int) - 348).toNat) (10 ^ (-((i : Int) - 348)).toNat)) = .tuple #[.float .f64 (sgn neg 0), .nilIface] := by
      rw [← hn]
      unfold pkV infX
      rw [Nat.min_eq_left (by decide), if_neg (by decide)]
    rw [hv]
    obtain ⟨m, hm⟩ : ∃ m, sgn neg 0 = m := ⟨_, rfl⟩
    rw [hm] at b1 hv ⊢
    clear hm hn hz q4 q5 q6 q7 q8 q9 q10 q11 q12 h64
    go_wp2_with fail
    go_ret2
    exact ⟨by rw [hv]; rfl, HBL.out⟩
  · have t1 : decide (64 ≤ s) = false := decide_eq_false h64
    obtain ⟨q4, q5, q6, q7, q8, q9, q10, q11, q12⟩ := HP.out
    obtain ⟨S, hS⟩ : ∃ S : Nat, s = (S : Int) := ⟨s.toNat, by omega⟩
    subst hS
    obtain ⟨r1, r2, r3, r4, r5⟩ := row_spec i (by omega)
    have hN := pf_near ((i : Int) - 348) (by omega) (by omega) lp HLP.out d z S t q5 q6 (by omega) (by omega) (by omega) _ rfl
    rw [show ((i : Int) - 348 + 348).toNat = i by omega] at hN
    obtain ⟨x, hx⟩ : ∃ x, d * 2 ^ z = x := ⟨_, rfl⟩
    rw [hx] at q5 q6 hN
    have CU := uscale_any x (hiT i) (loT i) S q6 r2 r3 w.heap.size w1 HS1.out.1
    rw [us_eq x (hiT i) (loT i) S q6 r1 r2 r3 (by omega)] at CU
    obtain ⟨u, hu⟩ : ∃ u, u = usN x (hiT i) (loT i) S := ⟨_, rfl⟩
    rw [← hu] at CU hN
    have HU := Lib.hid CU
    have HN := Lib.hid hN
    have k0 : (64 : Int) - (b : Int) = (z : Int) := by omega
    have k1 : IntKind.u64.wrap ((d : Int) * 2 ^ z) = (x : Int) := by
      rw [show (d : Int) * 2 ^ z = ((d * 2 ^ z : Nat) : Int) by norm_cast, hx, IntKind.wrap_u64]
      omega
    have z0 : (0 : Int) ≤ (z : Int) := by omega
    have z9 : (z : Int) ≤ 63 := by omega
    clear CU hN hu r1 r2 r3 r4 r5 q4 q5 q6 q7 q8 q9 q10 q11 q12
    go_upto_region 9 with (go_at_call 162; (with_reducible refine HU.out.mono ?_); rintro e w2 ⟨rfl, n, hw2⟩; have HW2 := Lib.hid hw2; clear hw2)
    have hu9 : u < 9223372036854775808 := by
      by_cases hc : 36028797018963966 ≤ u
      · have := (HN.out.2 hc).2.1
        unfold rnd at this
        split at this <;> omega
      · omega
    have u0 : (0 : Int) ≤ (u : Int) := by omega
    have u9 : (u : Int) < 9223372036854775808 := by omega
    have hbelow : Below w.heap.size w w2 := by
      rw [HW2.out]
      exact ⟨HBL.out.os, HBL.out.tape, HBL.out.output, HBL.out.size, HBL.out.block⟩
    have HBL2 := Lib.hid hbelow
    have hA0 := and_one u (by omega)
    clear hbelow
    by_cases hc : 36028797018963966 ≤ u
    · have t2 : decide ((36028797018963966 : Int) ≤ (u : Int)) = true := decide_eq_true (by omega)
      obtain ⟨v, hv⟩ : ∃ v, v = (if u % 2 = 1 then u / 2 / 2 * 2 + 1 else u / 2) := ⟨_, rfl⟩
      have hn := HN.out.2 hc
      rw [← hv] at hn
      have hv9 : v < 9223372036854775808 := by rw [hv]; split <;> omega
      have hor : bits BinOp.or IntKind.u64 ((u : Int) / 2) (bits BinOp.and IntKind.u64 (u : Int) 1) = (v : Int) := by
        rw [hA0, show (u : Int) / 2 = ((u / 2 : Nat) : Int) by omega, hv]
        by_cases ho : u % 2 = 1
        · rw [ho, if_pos rfl]
          exact or_one _ (by omega)
        · rw [if_neg ho, show u % 2 = 0 by omega]
          exact or_zero _ (by omega)
      have hrd := fun W => round_any (v : Int) (by omega) (by omega) W
      rw [round_eq v hv9] at hrd
      obtain ⟨R, hR⟩ : ∃ R, rnd v = R := ⟨_, rfl⟩
      rw [hR] at hrd hn
      have hsg := orS neg R hn.2.1
      have hpk := fun W => pack_any neg R (t + 1) hn.2.1 (.inr hn.2.2) (by have := HP.out.2.2.2.2.2.2.2.2; omega) W
      have het : -(e - 1) = ((t + 1 : Nat) : Int) - 1074 := by have := HP.out.2.2.2.1; omega
      rw [← het, near_eq (Nat.pow_pos (by decide)) hn.1] at hpk
      obtain ⟨F, E, hFE⟩ : ∃ F E, pkV neg (nearX (d * 10 ^ ((i : Int) - 348).toNat) (10 ^ (-((i : Int) - 348)).toNat)) = .tuple #[F, E] := ⟨_, _, rfl⟩
      rw [hFE] at hpk ⊢
      have HPK := Lib.hid (And.intro hrd hpk)
      have HFE := Lib.hid hFE
      clear hrd hpk hFE hn hv hR het hA0
      go_upto_region 10 with (first | (go_at_call 169; (with_reducible refine (unmin_53 _).mono ?_); rintro e w' ⟨rfl, hw'⟩; obtain rfl := hw'.symm) | (go_at_call 168; (with_reducible refine (b2i true _).mono ?_); rintro e w' ⟨rfl, hw'⟩; obtain rfl := hw'.symm))
      go_wp2_with (first | (go_at_call 166; (with_reducible refine (HPK.out.1 _).mono ?_); rintro e w' ⟨rfl, hw'⟩; obtain rfl := hw'.symm) | (go_at_call 209; (with_reducible refine (HPK.out.2 _).mono ?_); rintro e w' ⟨rfl, hw'⟩; obtain rfl := hw'.symm))
      go_ret2
      exact ⟨by rw [HFE.out]; rfl, HBL2.out⟩
    · have t2 : decide ((36028797018963966 : Int) ≤ (u : Int)) = false := decide_eq_false (by omega)
      have hn := HN.out.1 hc
      have hor : bits BinOp.or IntKind.u64 (u : Int) (bits BinOp.and IntKind.u64 (u : Int) 1) = (u : Int) := by
        rw [hA0]
        by_cases ho : u % 2 = 1
        · rw [ho]
          refine (or_one _ (by omega)).trans ?_
          omega
        · rw [show u % 2 = 0 by omega]
          exact or_zero _ (by omega)
      have hrd := fun W => round_any (u : Int) (by omega) (by omega) W
      rw [round_eq u hu9] at hrd
      obtain ⟨R, hR⟩ : ∃ R, rnd u = R := ⟨_, rfl⟩
      rw [hR] at hrd hn
      have hsg := orS neg R hn.2.1
      have hpk := fun W => pack_any neg R t hn.2.1 hn.2.2 (Nat.le_succ_of_le HP.out.2.2.2.2.2.2.2.2) W
      have het : -e = (t : Int) - 1074 := by have := HP.out.2.2.2.1; omega
      rw [← het, near_eq (Nat.pow_pos (by decide)) hn.1] at hpk
      obtain ⟨F, E, hFE⟩ : ∃ F E, pkV neg (nearX (d * 10 ^ ((i : Int) - 348).toNat) (10 ^ (-((i : Int) - 348)).toNat)) = .tuple #[F, E] := ⟨_, _, rfl⟩
      rw [hFE] at hpk ⊢
      have HPK := Lib.hid (And.intro hrd hpk)
      have HFE := Lib.hid hFE
      clear hrd hpk hFE hn hR het hA0
      go_upto_region 10 with (first | (go_at_call 169; (with_reducible refine (unmin_53 _).mono ?_); rintro e w' ⟨rfl, hw'⟩; obtain rfl := hw'.symm) | (go_at_call 168; (with_reducible refine (b2i false _).mono ?_); rintro e w' ⟨rfl, hw'⟩; obtain rfl := hw'.symm))
      go_wp2_with (first | (go_at_call 166; (with_reducible refine (HPK.out.1 _).mono ?_); rintro e w' ⟨rfl, hw'⟩; obtain rfl := hw'.symm) | (go_at_call 209; (with_reducible refine (HPK.out.2 _).mono ?_); rintro e w' ⟨rfl, hw'⟩; obtain rfl := hw'.symm))
      go_ret2
      exact ⟨by rw [HFE.out]; rfl, HBL2.out⟩
end Go.Proofs.YtejmbbkklhpnaaaGreatDoor.rdf

/- A float's size and order, by its bits. Plain. -/
namespace Go.Proofs.YtejmbbkklhpnaaaGreatDoor.nodew
open Go.RowKit
/-- an order of float64s, by their bits -/
def fo (x y : Nat) : Option Ordering := FloatKind.f64.format.order x y
theorem fo_eq (x y : Nat) : FloatKind.f64.format.order x y = fo x y := rfl
end Go.Proofs.YtejmbbkklhpnaaaGreatDoor.nodew
namespace Go.Proofs.YtejmbbkklhpnaaaGreatDoor.flatm
open Go.Proofs.YtejmbbkklhpnaaaGreatDoor.nodew
/-- the size of a rung, in the least unit -/
def valR (r : Nat) : Nat := if r < 4503599627370496 then r else (4503599627370496 + r % 4503599627370496) * 2 ^ (r / 4503599627370496 - 1)
theorem val_low {r : Nat} (h : r < 4503599627370496) : valR r = r := if_pos h
theorem val_high {r : Nat} (h : ¬ r < 4503599627370496) : 4503599627370496 * 2 ^ (r / 4503599627370496 - 1) ≤ valR r ∧ valR r < 4503599627370496 * 2 ^ (r / 4503599627370496) ∧ 1 ≤ r / 4503599627370496 := by
  have hq : 1 ≤ r / 4503599627370496 := by omega
  have hp := Nat.two_pow_pos (r / 4503599627370496 - 1)
  have hs : (2 : Nat) ^ (r / 4503599627370496) = 2 * 2 ^ (r / 4503599627370496 - 1) := by
    conv => lhs; rw [show r / 4503599627370496 = (r / 4503599627370496 - 1) + 1 by omega]
    rw [Nat.pow_succ]; omega
  have hf : r % 4503599627370496 < 4503599627370496 := Nat.mod_lt _ (by decide)
  unfold valR
  rw [if_neg h]
  refine ⟨Nat.mul_le_mul_right _ (by omega), ?_, hq⟩
  rw [hs, ← Nat.mul_assoc]
  exact Nat.mul_lt_mul_of_pos_right (by omega) hp
theorem val_inj {r s : Nat} (h : valR r = valR s) : r = s := by
  by_cases hr : r < 4503599627370496
  · by_cases hs : s < 4503599627370496
    · rwa [val_low hr, val_low hs] at h
    · have h1 := val_high hs
      have hp := Nat.two_pow_pos (s / 4503599627370496 - 1)
      have h2 : 4503599627370496 * 1 ≤ 4503599627370496 * 2 ^ (s / 4503599627370496 - 1) := Nat.mul_le_mul_left _ hp
      rw [val_low hr] at h
      omega
  · have a1 := val_high hr
    by_cases hs : s < 4503599627370496
    · have hp := Nat.two_pow_pos (r / 4503599627370496 - 1)
      have h2 : 4503599627370496 * 1 ≤ 4503599627370496 * 2 ^ (r / 4503599627370496 - 1) := Nat.mul_le_mul_left _ hp
      rw [val_low hs] at h
      omega
    · have b1 := val_high hs
      have hq : r / 4503599627370496 = s / 4503599627370496 := by
        rcases Nat.lt_trichotomy (r / 4503599627370496) (s / 4503599627370496) with hlt | heq | hlt
        · exfalso
          have h2 : (2 : Nat) ^ (r / 4503599627370496) ≤ 2 ^ (s / 4503599627370496 - 1) := Nat.pow_le_pow_right (by decide) (by omega)
          have h3 := Nat.mul_le_mul_left 4503599627370496 h2
          omega
        · exact heq
        · exfalso
          have h2 : (2 : Nat) ^ (s / 4503599627370496) ≤ 2 ^ (r / 4503599627370496 - 1) := Nat.pow_le_pow_right (by decide) (by omega)
          have h3 := Nat.mul_le_mul_left 4503599627370496 h2
          omega
      unfold valR at h
      rw [if_neg hr, if_neg hs, hq] at h
      have := Nat.eq_of_mul_eq_mul_right (Nat.two_pow_pos _) h
      omega
theorem signed_nat (s : Bool) (m k : Nat) : Ieee.signed s m k = if s then -((m * 2 ^ k : Nat) : Int) else ((m * 2 ^ k : Nat) : Int) := by
  unfold Ieee.signed
  rw [Nat.shiftLeft_eq]
/-- what a word below infinity stands for -/
theorem read_num (x : Nat) (h : x % 9223372036854775808 < 9218868437227405312) : ∃ m a : Nat, Ieee.Format.read Ieee.double x = .number (x / 9223372036854775808 % 2 == 1) m ((-1074 : Int) + a) ∧ m * 2 ^ a = valR (x % 9223372036854775808) := by
  have hw : Ieee.double.signWeight = 9223372036854775808 := by kernel_rfl
  have hb : Ieee.double.binade = 4503599627370496 := by kernel_rfl
  have hi : Ieee.double.infRung = 9218868437227405312 := by kernel_rfl
  have hl : Ieee.double.leastPlace = -1074 := by kernel_rfl
  unfold Ieee.Format.read
  simp only [hw, hb, hi, hl]
  by_cases h1 : x % 9223372036854775808 < 4503599627370496
  · rw [if_pos h1]
    exact ⟨x % 9223372036854775808, 0, rfl, by rw [val_low h1]; simp⟩
  · rw [if_neg h1, if_pos h]
    refine ⟨_, _, rfl, ?_⟩
    unfold valR
    rw [if_neg h1]
end Go.Proofs.YtejmbbkklhpnaaaGreatDoor.flatm
namespace Go.Proofs.YtejmbbkklhpnaaaGreatDoor.prnw
open Go.RowKit
open Go.Proofs.YtejmbbkklhpnaaaGreatDoor.nodew
open Go.Proofs.YtejmbbkklhpnaaaGreatDoor.flatm
theorem val_lt {r s : Nat} (h : r < s) : valR r < valR s := by
  by_cases hr : r < 4503599627370496
  · rw [val_low hr]
    by_cases hs : s < 4503599627370496
    · rw [val_low hs]; exact h
    · have b := val_high hs
      have hp := Nat.two_pow_pos (s / 4503599627370496 - 1)
      have h2 : 4503599627370496 * 1 ≤ 4503599627370496 * 2 ^ (s / 4503599627370496 - 1) := Nat.mul_le_mul_left _ hp
      omega
  · have hs : ¬ s < 4503599627370496 := by omega
    have a := val_high hr
    have b := val_high hs
    by_cases hq : r / 4503599627370496 = s / 4503599627370496
    · unfold valR
      rw [if_neg hr, if_neg hs, hq]
      exact (Nat.mul_lt_mul_right (Nat.two_pow_pos _)).2 (by omega)
    · have hlt : r / 4503599627370496 < s / 4503599627370496 := by omega
      have h2 : (2 : Nat) ^ (r / 4503599627370496) ≤ 2 ^ (s / 4503599627370496 - 1) := Nat.pow_le_pow_right (by decide) (by omega)
      have h3 := Nat.mul_le_mul_left 4503599627370496 h2
      omega
theorem val_le {r s : Nat} (h : r ≤ s) : valR r ≤ valR s := by
  rcases Nat.lt_or_ge r s with h1 | h1
  · exact Nat.le_of_lt (val_lt h1)
  · rw [show r = s by omega]; exact Nat.le_refl _
/-- what a word stands for, in the least unit -/
def sv (x : Nat) : Int := if x / 9223372036854775808 % 2 = 1 then -(valR (x % 9223372036854775808) : Int) else (valR (x % 9223372036854775808) : Int)
theorem cmp_scale (a b : Int) (k : Nat) (hk : 0 < k) : compare (a * k) (b * k) = compare a b := by
  have hk' : (0 : Int) < (k : Int) := by omega
  rcases Int.lt_trichotomy a b with h | h | h
  · have h2 : a * k < b * k := Int.mul_lt_mul_of_pos_right h hk'
    rw [Int.compare_eq_ite_lt, Int.compare_eq_ite_lt, if_pos h, if_pos h2]
  · subst h
    simp
  · have h2 : b * k < a * k := Int.mul_lt_mul_of_pos_right h hk'
    rw [Int.compare_eq_ite_lt, Int.compare_eq_ite_lt, if_neg (by omega), if_pos h2, if_neg (by omega), if_pos h]
theorem fo_sv {x y : Nat} (fx : x % 9223372036854775808 < 9218868437227405312) (fy : y % 9223372036854775808 < 9218868437227405312) : fo x y = some (compare (sv x) (sv y)) := by
  obtain ⟨m, a, e1, v1⟩ := read_num x fx
  obtain ⟨n, b, e2, v2⟩ := read_num y fy
  show Ieee.Datum.order (Ieee.Format.read Ieee.double x) (Ieee.Format.read Ieee.double y) = _
  rw [e1, e2]
  unfold Ieee.Datum.order
  simp only [Option.some.injEq]
  have q1 : ((-1074 : Int) + (a : Int) - min (-1074 + (a : Int)) (-1074 + (b : Int))).toNat = a - min a b := by omega
  have q2 : ((-1074 : Int) + (b : Int) - min (-1074 + (a : Int)) (-1074 + (b : Int))).toNat = b - min a b := by omega
  rw [q1, q2, ← cmp_scale _ _ (2 ^ min a b) (Nat.two_pow_pos _)]
  have p1 : (2 : Nat) ^ a = 2 ^ (a - min a b) * 2 ^ (min a b) := by rw [← Nat.pow_add]; congr 1; omega
  have p2 : (2 : Nat) ^ b = 2 ^ (b - min a b) * 2 ^ (min a b) := by rw [← Nat.pow_add]; congr 1; omega
  have r1 : Ieee.signed (x / 9223372036854775808 % 2 == 1) m (a - min a b) * ((2 ^ min a b : Nat) : Int) = sv x := by
    unfold sv
    rw [← v1, p1, signed_nat]
    by_cases h : x / 9223372036854775808 % 2 = 1
    · rw [if_pos (beq_iff_eq.2 h), if_pos h, Int.neg_mul, ← Nat.mul_assoc]; norm_cast
    · rw [if_neg (by rw [beq_iff_eq]; exact h), if_neg h, ← Nat.mul_assoc]; norm_cast
  have r2 : Ieee.signed (y / 9223372036854775808 % 2 == 1) n (b - min a b) * ((2 ^ min a b : Nat) : Int) = sv y := by
    unfold sv
    rw [← v2, p2, signed_nat]
    by_cases h : y / 9223372036854775808 % 2 = 1
    · rw [if_pos (beq_iff_eq.2 h), if_pos h, Int.neg_mul, ← Nat.mul_assoc]; norm_cast
    · rw [if_neg (by rw [beq_iff_eq]; exact h), if_neg h, ← Nat.mul_assoc]; norm_cast
  rw [r1, r2]
theorem sv_zero : sv 0 = 0 := by
  unfold sv
  rw [if_neg (by decide), val_low (by decide)]
  rfl
theorem val_zero {r : Nat} (h : valR r = 0) : r = 0 := val_inj (h.trans (val_low (by decide)).symm)
end Go.Proofs.YtejmbbkklhpnaaaGreatDoor.prnw
