/- The walk of strconv's pack64. Conditions: as each theorem states. -/
import Derived.Test.YtbjengfoaobdbaaGreatDoorDcG
import Derived.Test.YtbjengfoaobdbaaGreatDoorRdC
namespace Go.Proofs.YtbjengfoaobdbaaGreatDoor.rdf
open Go.RowKit
open Go.Proofs.YtbjengfoaobdbaaGreatDoor.bsw
open Go.Proofs.YtbjengfoaobdbaaGreatDoor.prnw
open Go.Proofs.YtbjengfoaobdbaaGreatDoor.dcw
open Go.Proofs.YtbjengfoaobdbaaGreatDoor.dmx

theorem ifrombits_run (n : Int) (w : World) : (callFunc 146 #[.int .u64 n]).run Tryz.prog w = .ok (.value (.float .f64 n.toNat)) w := by
  rw [@run_callFunc_extern Tryz.prog 146 _ Extern.MathFloatBits.float64frombits Tryz.func146 (by kernel_rfl) (by kernel_rfl) (by kernel_rfl) (by kernel_rfl)]
  rfl
attribute [local go_sem] ifrombits_run
theorem bv_cut {n : Nat} (z y : BitVec n) (h : z &&& y = 0#n) : (z ||| y) &&& ~~~y = z := by
  apply BitVec.eq_of_getElem_eq
  intro i hi
  have := congrArg (fun v : BitVec n => v[i]) h
  simp only [BitVec.getElem_and, BitVec.getElem_zero] at this
  simp only [BitVec.getElem_and, BitVec.getElem_or, BitVec.getElem_not]
  cases hz : z[i] <;> cases hy : y[i] <;> simp_all
/-- the bit 2^52 taken out -/
theorem andn52 (a : Nat) (ha : a < 4503599627370496) (neg : Bool) : bits BinOp.andNot IntKind.u64 ((sgn neg (4503599627370496 + a) : Nat) : Int) 4503599627370496 = ((sgn neg a : Nat) : Int) := by
  have hs : sgn neg (4503599627370496 + a) < 18446744073709551616 := by unfold sgn; split <;> omega
  have hs2 : sgn neg a < 18446744073709551616 := by unfold sgn; split <;> omega
  have h1 : 9223372036854775808 + a = 2 ^ 52 * 2048 ||| a := (show 9223372036854775808 + a = 2 ^ 52 * 2048 + a by omega).trans (Nat.two_pow_add_eq_or_of_lt (by simpa using ha) 2048)
  have h2 : 9223372036854775808 + (4503599627370496 + a) = 2 ^ 52 * 2049 ||| a := (show 9223372036854775808 + (4503599627370496 + a) = 2 ^ 52 * 2049 + a by omega).trans (Nat.two_pow_add_eq_or_of_lt (by simpa using ha) 2049)
  have h3 : 4503599627370496 + a = 2 ^ 52 * 1 ||| a := (show 4503599627370496 + a = 2 ^ 52 * 1 + a by omega).trans (Nat.two_pow_add_eq_or_of_lt (by simpa using ha) 1)
  have h4 : (2 : Nat) ^ 52 * 2049 = 2 ^ 52 * 2048 ||| 2 ^ 52 * 1 := by decide
  have hor : sgn neg (4503599627370496 + a) = sgn neg a ||| 4503599627370496 := by
    cases neg with
    | true =>
      show 9223372036854775808 + (4503599627370496 + a) = (9223372036854775808 + a) ||| 4503599627370496
      rw [h2, h1, h4, Nat.or_assoc, Nat.or_assoc, Nat.or_comm a]
    | false =>
      show 4503599627370496 + a = a ||| 4503599627370496
      rw [h3, Nat.or_comm]
  have hand : sgn neg a &&& 4503599627370496 = 0 := by
    apply Nat.eq_of_testBit_eq
    intro i
    rw [Nat.testBit_and, show (4503599627370496 : Nat) = 2 ^ 52 from rfl, Nat.testBit_two_pow, Nat.zero_testBit]
    by_cases hi : 52 = i
    · subst hi
      rw [Nat.testBit_eq_decide_div_mod_eq, show sgn neg a / 2 ^ 52 % 2 = 0 by unfold sgn; split <;> omega]
      rfl
    · rw [decide_eq_false hi, Bool.and_false]
  have e : bits BinOp.andNot IntKind.u64 ((sgn neg (4503599627370496 + a) : Nat) : Int) 4503599627370496 = IntKind.u64.wrap (((BitVec.ofInt 64 ((sgn neg (4503599627370496 + a) : Nat) : Int) &&& ~~~ BitVec.ofInt 64 4503599627370496).toNat : Nat) : Int) := rfl
  have hb : BitVec.ofInt 64 ((sgn neg (4503599627370496 + a) : Nat) : Int) = BitVec.ofInt 64 ((sgn neg a : Nat) : Int) ||| BitVec.ofInt 64 4503599627370496 := by
    apply BitVec.eq_of_toNat_eq
    rw [BitVec.toNat_or, bv_nat _ hs, bv_nat _ hs2, hor]
    rfl
  have hb2 : BitVec.ofInt 64 ((sgn neg a : Nat) : Int) &&& BitVec.ofInt 64 4503599627370496 = 0#64 := by
    apply BitVec.eq_of_toNat_eq
    rw [BitVec.toNat_and, bv_nat _ hs2]
    exact hand
  rw [e, hb, bv_cut _ _ hb2, bv_nat _ hs2, IntKind.wrap_u64]
  omega
/-- what reading answers: the word, or infinity and an error -/
def pkV (neg : Bool) (X : Nat) : Value := .tuple #[.float .f64 (sgn neg (min X infX)), if infX ≤ X then .iface 112 (.int .i64 1) else .nilIface]
theorem or52s (neg : Bool) (r b : Nat) (hr : r < 4503599627370496) (hb : b < 2048) : bits BinOp.or IntKind.u64 ((sgn neg r : Nat) : Int) ((b * 4503599627370496 : Nat) : Int) = ((sgn neg (b * 4503599627370496 + r) : Nat) : Int) := by
  have e : bits BinOp.or IntKind.u64 ((sgn neg r : Nat) : Int) ((b * 4503599627370496 : Nat) : Int) = IntKind.u64.wrap (((BitVec.ofInt 64 ((sgn neg r : Nat) : Int) ||| BitVec.ofInt 64 ((b * 4503599627370496 : Nat) : Int)).toNat : Nat) : Int) := rfl
  have hs : sgn neg r < 18446744073709551616 := by unfold sgn; split <;> omega
  have p63 : (2 : Nat) ^ 63 = 9223372036854775808 := by decide
  have h1 : 9223372036854775808 + r = 2 ^ 63 * 1 ||| r := (show 9223372036854775808 + r = 2 ^ 63 * 1 + r by omega).trans (Nat.two_pow_add_eq_or_of_lt (i := 63) (by rw [p63]; omega) 1)
  have h0 : b * 4503599627370496 + r = b * 4503599627370496 ||| r := by
    rw [Nat.mul_comm b]
    exact Nat.two_pow_add_eq_or_of_lt (i := 52) (by simpa using hr) b
  have h2 : 9223372036854775808 + (b * 4503599627370496 + r) = 2 ^ 63 * 1 ||| (b * 4503599627370496 + r) := (show 9223372036854775808 + (b * 4503599627370496 + r) = 2 ^ 63 * 1 + (b * 4503599627370496 + r) by omega).trans (Nat.two_pow_add_eq_or_of_lt (i := 63) (by rw [p63]; omega) 1)
  have h4 : sgn neg r ||| b * 4503599627370496 = sgn neg (b * 4503599627370496 + r) := by
    cases neg with
    | true =>
      show (9223372036854775808 + r) ||| b * 4503599627370496 = 9223372036854775808 + (b * 4503599627370496 + r)
      rw [h2, h1, h0, Nat.or_assoc, Nat.or_comm r]
    | false =>
      show r ||| b * 4503599627370496 = b * 4503599627370496 + r
      rw [h0, Nat.or_comm]
  have hs3 : sgn neg (b * 4503599627370496 + r) < 18446744073709551616 := by unfold sgn; split <;> omega
  rw [e, BitVec.toNat_or, bv_nat _ hs, bv_nat _ (by omega), h4, IntKind.wrap_u64]
  omega
theorem andS (a : Nat) (h : a < 18446744073709551616) : bits BinOp.and IntKind.u64 (a : Int) 9223372036854775808 = ((a / 9223372036854775808 % 2 * 9223372036854775808 : Nat) : Int) := by
  have e : bits BinOp.and IntKind.u64 (a : Int) 9223372036854775808 = IntKind.u64.wrap (((BitVec.ofInt 64 (a : Int) &&& BitVec.ofInt 64 9223372036854775808).toNat : Nat) : Int) := rfl
  have h3 : (BitVec.ofInt 64 9223372036854775808).toNat = 2 ^ 63 := by decide
  have p63 : (2 : Nat) ^ 63 = 9223372036854775808 := by decide
  have h4 : a &&& 2 ^ 63 = a / 9223372036854775808 % 2 * 9223372036854775808 := by
    apply Nat.eq_of_testBit_eq
    intro i
    rw [← p63, Nat.testBit_and, Nat.testBit_two_pow, Nat.testBit_mul_two_pow]
    by_cases hi : 63 = i
    · subst hi
      rw [Nat.testBit_eq_decide_div_mod_eq, Nat.sub_self, Nat.testBit_eq_decide_div_mod_eq]
      simp
    · rw [decide_eq_false hi, Bool.and_false]
      by_cases hl : 63 ≤ i
      · obtain ⟨j, rfl⟩ : ∃ j, i = 63 + (j + 1) := ⟨i - 64, by omega⟩
        rw [show 63 + (j + 1) - 63 = j + 1 by omega, Nat.testBit_succ, show a / 2 ^ 63 % 2 / 2 = 0 by omega]
        simp
      · rw [decide_eq_false hl, Bool.false_and]
  rw [e, BitVec.toNat_and, bv_nat a h, h3, h4, IntKind.wrap_u64]
  omega
set_option maxRecDepth 100000 in
set_option maxHeartbeats 1000000 in
theorem pack_any (neg : Bool) (R t : Nat) (hR : R < 9007199254740992) (ht : t = 0 ∨ 4503599627370496 ≤ R) (ht2 : t ≤ 2200) (w : World) :
    Calls Tryz.prog 174 #[.int .u64 ((sgn neg R : Nat) : Int), .int .i64 ((t : Int) - 1074)] w (Same w (pkV neg (t * 4503599627370496 + R))) := by
  have hs : sgn neg R < 18446744073709551616 := by unfold sgn; split <;> omega
  by_cases hlow : R < 4503599627370496
  · have ht0 : t = 0 := by omega
    subst ht0
    have b0 : bits BinOp.and IntKind.u64 ((sgn neg R : Nat) : Int) 4503599627370496 = 0 := by
      rw [andb _ hs, show sgn neg R / 4503599627370496 % 2 = 0 by unfold sgn; split <;> omega]
      rfl
    have hv : pkV neg (0 * 4503599627370496 + R) = .tuple #[.float .f64 (sgn neg R), .nilIface] := by
      unfold pkV infX
      rw [Nat.zero_mul, Nat.zero_add, Nat.min_eq_left (by omega), if_neg (by omega)]
    rw [hv]
    obtain ⟨m, hm⟩ : ∃ m, sgn neg R = m := ⟨_, rfl⟩
    rw [hm] at b0 ⊢
    clear hm hv hs hlow hR ht ht2
    go_enter Tryz.func174, Tryz.ntmps174
    go_wp2_with fail
    go_ret2
    exact ⟨rfl, rfl⟩
  · obtain ⟨r, hr⟩ : ∃ r, R = 4503599627370496 + r := ⟨R - 4503599627370496, by omega⟩
    subst hr
    have b0 : bits BinOp.and IntKind.u64 ((sgn neg (4503599627370496 + r) : Nat) : Int) 4503599627370496 = 4503599627370496 := by
      rw [andb _ hs, show sgn neg (4503599627370496 + r) / 4503599627370496 % 2 = 1 by unfold sgn; split <;> omega]
      rfl
    have b1 := andn52 r (by omega) neg
    by_cases hbig : 2046 ≤ t
    · have b2 : bits BinOp.and IntKind.u64 ((sgn neg (4503599627370496 + r) : Nat) : Int) 9223372036854775808 = ((sgn neg 0 : Nat) : Int) := by
        rw [andS _ hs]
        refine congrArg (fun z : Nat => (z : Int)) ?_
        cases neg with
        | true =>
          show (9223372036854775808 + (4503599627370496 + r)) / 9223372036854775808 % 2 * 9223372036854775808 = 9223372036854775808 + 0
          omega
        | false =>
          show (4503599627370496 + r) / 9223372036854775808 % 2 * 9223372036854775808 = 0
          omega
      have b3 : bits BinOp.or IntKind.u64 ((sgn neg 0 : Nat) : Int) 9218868437227405312 = ((sgn neg 9218868437227405312 : Nat) : Int) := by
        cases neg <;> decide +kernel
      have hv : pkV neg (t * 4503599627370496 + (4503599627370496 + r)) = .tuple #[.float .f64 (sgn neg 9218868437227405312), .iface 112 (.int .i64 1)] := by
        unfold pkV infX
        rw [Nat.min_eq_right (by omega), if_pos (by omega)]
      rw [hv]
      have t1 : decide (972 ≤ (t : Int) - 1074) = true := decide_eq_true (by omega)
      obtain ⟨m, hm⟩ : ∃ m, sgn neg (4503599627370496 + r) = m := ⟨_, rfl⟩
      obtain ⟨m0, hm0⟩ : ∃ m0, sgn neg 0 = m0 := ⟨_, rfl⟩
      obtain ⟨mi, hmi⟩ : ∃ mi, sgn neg 9218868437227405312 = mi := ⟨_, rfl⟩
      rw [hm] at b0 b2 ⊢
      rw [hm0] at b2 b3
      rw [hmi] at b3 ⊢
      clear hm hm0 hmi hv hs hlow hR ht hbig b1
      go_enter Tryz.func174, Tryz.ntmps174
      go_wp2_with fail
      go_ret2
      exact ⟨rfl, rfl⟩
    · obtain ⟨T, hT⟩ : ∃ T, t + 1 = T := ⟨_, rfl⟩
      obtain ⟨Y, hY⟩ : ∃ Y, T * 4503599627370496 = Y := ⟨_, rfl⟩
      have b5 : IntKind.u64.wrap ((T : Int) * 4503599627370496) = (Y : Int) := by
        clear b0 b1 hs ht
        rw [IntKind.wrap_u64]
        omega
      have eX : t * 4503599627370496 + (4503599627370496 + r) = Y + r := by
        rw [← hY, ← hT, Nat.add_mul, Nat.one_mul, Nat.add_assoc]
      have eI : ¬ 9218868437227405312 ≤ Y + r := by omega
      have b3 := or52s neg r T (by omega) (by omega)
      rw [hY] at b3
      have hv : pkV neg (t * 4503599627370496 + (4503599627370496 + r)) = .tuple #[.float .f64 (sgn neg (Y + r)), .nilIface] := by
        unfold pkV infX
        rw [eX, Nat.min_eq_left (Nat.le_of_lt (Nat.lt_of_not_le eI)), if_neg eI]
      rw [hv]
      have t1 : decide (972 ≤ (t : Int) - 1074) = false := decide_eq_false (by omega)
      have t2 : (1075 : Int) + ((t : Int) - 1074) = (T : Int) := by omega
      have T0 : (0 : Int) ≤ (T : Int) := by omega
      have T9 : (T : Int) ≤ 2046 := by omega
      have tt0 : (0 : Int) ≤ (t : Int) := by omega
      have tt9 : (t : Int) ≤ 2045 := by omega
      obtain ⟨m, hm⟩ : ∃ m, sgn neg (4503599627370496 + r) = m := ⟨_, rfl⟩
      obtain ⟨m0, hm0⟩ : ∃ m0, sgn neg r = m0 := ⟨_, rfl⟩
      obtain ⟨mi, hmi⟩ : ∃ mi, sgn neg (Y + r) = mi := ⟨_, rfl⟩
      rw [hm] at b0 b1 ⊢
      rw [hm0] at b1 b3
      rw [hmi] at b3 ⊢
      clear hm hm0 hmi hv hs hlow hR ht hbig hT hY eX eI
      go_enter Tryz.func174, Tryz.ntmps174
      go_wp2_with fail
      go_ret2
      exact ⟨rfl, rfl⟩
end Go.Proofs.YtbjengfoaobdbaaGreatDoor.rdf
