/- The walks of strconv's special and commonPrefixLenIgnoreCase at a decimal. Conditions: as each theorem states. -/
import Derived.Test.YtejmbbkklhpnaaaGreatDoorMc09
import Derived.Test.YtejmbbkklhpnaaaGreatDoorMc15
import Derived.Test.YtejmbbkklhpnaaaGreatDoorMc08
namespace Go.Proofs.YtejmbbkklhpnaaaGreatDoor.rdf
open Go.RowKit
open Go.Proofs.YtejmbbkklhpnaaaGreatDoor.bsw
open Go.Proofs.YtejmbbkklhpnaaaGreatDoor.prnw

theorem okc_cases {c : UInt8} (h : okc c = true) : c.toNat = 43 ∨ c.toNat = 45 ∨ c.toNat = 46 ∨ (48 ≤ c.toNat ∧ c.toNat ≤ 57) ∨ c.toNat = 69 ∨ c.toNat = 101 := by
  unfold okc at h
  simp only [Bool.or_eq_true, decide_eq_true_eq] at h
  rcases h with ((((h | h) | h) | h) | h) | h
  · exact .inl h
  · exact .inr (.inl h)
  · exact .inr (.inr (.inl h))
  · exact .inr (.inr (.inr (.inl ((isD_iff c).1 h))))
  · exact .inr (.inr (.inr (.inr (.inl h))))
  · exact .inr (.inr (.inr (.inr (.inr h))))
set_option maxRecDepth 100000 in
set_option maxHeartbeats 1000000 in
theorem common_no (t : ByteArray) (h : 0 < t.size) (hc : okc t[0] = true) (w : World) :
    Calls Tryz.prog 204 #[.string t, .string ⟨#[105, 110, 102, 105, 110, 105, 116, 121]⟩] w (Same w (.int .i64 0)) := by
  have HC := Lib.hid (okc_cases hc)
  obtain ⟨m, hm⟩ : ∃ m : Int, min (8 : Int) (t.size : Int) = m := ⟨_, rfl⟩
  have m0 : 0 < m := by omega
  clear hc
  go_enter Tryz.func204, Tryz.ntmps204
  go_wp2_with fail
  have h0 : decide (0 < m) = true := decide_eq_true m0
  have b0 : ((⟨#[105, 110, 102, 105, 110, 105, 116, 121]⟩ : ByteArray)[0]'(by decide)).toNat = 105 := rfl
  clear hm
  refine wp_loop_rounds 1 ?_
  rw [rounds_succ]
  rcases HC.out with z | z | z | ⟨z1, z2⟩ | z | z
  case inr.inr.inr.inl =>
    have u1 : decide (65 ≤ t[0].toNat) = false := decide_eq_false (by omega)
    have u2 : (t[0].toNat : Int) ≤ 57 := by omega
    have u3 : ((t[0].toNat : Int) != 105) = true := by rw [bne_iff_ne]; omega
    go_wp2_with fail
    go_ret
    exact ⟨rfl, rfl⟩
  all_goals
    go_wp2_with fail
    go_ret
    exact ⟨rfl, rfl⟩
theorem drop1 (s : ByteArray) (h : 2 ≤ s.size) : (s.extract 1 s.size).size = s.size - 1 ∧ ∀ (k : Nat) (hk : k < (s.extract 1 s.size).size) (hk2 : k + 1 < s.size), (s.extract 1 s.size)[k] = s[k + 1] := by
  constructor
  · rw [ByteArray.size_extract]
    omega
  · intro k hk hk2
    rw [ByteArray.getElem_extract]
    congr 1
    omega
set_option maxRecDepth 100000 in
set_option maxHeartbeats 1000000 in
theorem special_any (s : ByteArray) (neg : Bool) (x : MS) (rest : List UInt8) (ex : Int) (h : RfOk s neg x rest ex) (w : World) :
    Calls Tryz.prog 192 #[.string s] w (Same w (.tuple #[.float .f64 0, .int .i64 0, .bool false])) := by
  have h0 : 0 < s.size := h.pos
  have hc := okc_cases (h.ok 0 h0)
  have hsz : ((s.size : Int) == 0) = false := by rw [beq_eq_false_iff_ne]; omega
  have hf := h.first
  by_cases h45 : (s[0]).toNat = 45
  · have hng : neg = true := by rw [h.ng]; exact decide_eq_true h45
    have h2 := h.two hng
    obtain ⟨e1, e2⟩ := drop1 s h2
    have h3 : 0 < (s.extract 1 s.size).size := by omega
    have HC := Lib.hid (common_no (s.extract 1 s.size) h3 (by rw [e2 0 h3 (by omega)]; exact h.ok 1 (by omega)) w)
    have l1 : (1 : Int) ≤ (s.size : Int) := by omega
    have l2 : 1 ≤ s.size := by omega
    clear hc hf h e1 e2 h3 hng
    go_enter Tryz.func192, Tryz.ntmps192
    go_wp2_with (go_at_call 204; (with_reducible refine HC.out.mono ?_); rintro e w' ⟨rfl, hw'⟩; obtain rfl := hw'.symm)
    go_ret3
    exact ⟨rfl, rfl⟩
  · have k1 : ((s[0].toNat : Int) == 43) = false := by rw [beq_eq_false_iff_ne]; omega
    have k2 : ((s[0].toNat : Int) == 45) = false := by rw [beq_eq_false_iff_ne]; omega
    have k3 : ((s[0].toNat : Int) == 105) = false := by rw [beq_eq_false_iff_ne]; omega
    have k4 : ((s[0].toNat : Int) == 73) = false := by rw [beq_eq_false_iff_ne]; omega
    have k5 : ((s[0].toNat : Int) == 110) = false := by rw [beq_eq_false_iff_ne]; omega
    have k6 : ((s[0].toNat : Int) == 78) = false := by rw [beq_eq_false_iff_ne]; omega
    clear hc hf h45
    go_enter Tryz.func192, Tryz.ntmps192
    go_wp2
    go_ret3
    exact ⟨rfl, rfl⟩
end Go.Proofs.YtejmbbkklhpnaaaGreatDoor.rdf

/- The walk of strconv's pack64. Conditions: as each theorem states. -/
namespace Go.Proofs.YtejmbbkklhpnaaaGreatDoor.rdf
open Go.RowKit
open Go.Proofs.YtejmbbkklhpnaaaGreatDoor.bsw
open Go.Proofs.YtejmbbkklhpnaaaGreatDoor.prnw
open Go.Proofs.YtejmbbkklhpnaaaGreatDoor.dcw
open Go.Proofs.YtejmbbkklhpnaaaGreatDoor.dmx

theorem ifrombits_run (n : Int) (w : World) : (callFunc 201 #[.int .u64 n]).run Tryz.prog w = .ok (.value (.float .f64 n.toNat)) w := by
  rw [@run_callFunc_extern Tryz.prog 201 _ Extern.MathFloatBits.float64frombits Tryz.func201 (by kernel_rfl) (by kernel_rfl) (by kernel_rfl) (by kernel_rfl)]
  rfl
attribute [local go_sem] ifrombits_run
theorem bv_cut {n : Nat} (z y : BitVec n) (h : z &&& y = 0#n) : (z ||| y) &&& ~~~y = z := by
  apply BitVec.eq_of_getElem_eq
  intro i hi
  have := congrArg (fun v : BitVec n => v[i]) h
  simp only [BitVec.getElem_and, BitVec.getElem_zero] at this
  simp only [BitVec.getElem_and, BitVec.getElem_or, BitVec.getElem_not]
  cases hz : z[i] <;> cases hy : y[i] <;> simp_all
/-- the bit 2^52 taken out -/
theorem andn52 (a : Nat) (ha : a < 4503599627370496) (neg : Bool) : bits BinOp.andNot IntKind.u64 ((sgn neg (4503599627370496 + a) : Nat) : Int) 4503599627370496 = ((sgn neg a : Nat) : Int) := by
  have hs : sgn neg (4503599627370496 + a) < 18446744073709551616 := by unfold sgn; split <;> omega
  have hs2 : sgn neg a < 18446744073709551616 := by unfold sgn; split <;> omega
  have h1 : 9223372036854775808 + a = 2 ^ 52 * 2048 ||| a := (show 9223372036854775808 + a = 2 ^ 52 * 2048 + a by omega).trans (Nat.two_pow_add_eq_or_of_lt (by simpa using ha) 2048)
  have h2 : 9223372036854775808 + (4503599627370496 + a) = 2 ^ 52 * 2049 ||| a := (show 9223372036854775808 + (4503599627370496 + a) = 2 ^ 52 * 2049 + a by omega).trans (Nat.two_pow_add_eq_or_of_lt (by simpa using ha) 2049)
  have h3 : 4503599627370496 + a = 2 ^ 52 * 1 ||| a := (show 4503599627370496 + a = 2 ^ 52 * 1 + a by omega).trans (Nat.two_pow_add_eq_or_of_lt (by simpa using ha) 1)
  have h4 : (2 : Nat) ^ 52 * 2049 = 2 ^ 52 * 2048 ||| 2 ^ 52 * 1 := by decide
  have hor : sgn neg (4503599627370496 + a) = sgn neg a ||| 4503599627370496 := by
    cases neg with
    | true =>
      show 9223372036854775808 + (4503599627370496 + a) = (9223372036854775808 + a) ||| 4503599627370496
      rw [h2, h1, h4, Nat.or_assoc, Nat.or_assoc, Nat.or_comm a]
    | false =>
      show 4503599627370496 + a = a ||| 4503599627370496
      rw [h3, Nat.or_comm]
  have hand : sgn neg a &&& 4503599627370496 = 0 := by
    apply Nat.eq_of_testBit_eq
    intro i
    rw [Nat.testBit_and, show (4503599627370496 : Nat) = 2 ^ 52 from rfl, Nat.testBit_two_pow, Nat.zero_testBit]
    by_cases hi : 52 = i
    · subst hi
      rw [Nat.testBit_eq_decide_div_mod_eq, show sgn neg a / 2 ^ 52 % 2 = 0 by unfold sgn; split <;> omega]
      rfl
    · rw [decide_eq_false hi, Bool.and_false]
  have e : bits BinOp.andNot IntKind.u64 ((sgn neg (4503599627370496 + a) : Nat) : Int) 4503599627370496 = IntKind.u64.wrap (((BitVec.ofInt 64 ((sgn neg (4503599627370496 + a) : Nat) : Int) &&& ~~~ BitVec.ofInt 64 4503599627370496).toNat : Nat) : Int) := rfl
  have hb : BitVec.ofInt 64 ((sgn neg (4503599627370496 + a) : Nat) : Int) = BitVec.ofInt 64 ((sgn neg a : Nat) : Int) ||| BitVec.ofInt 64 4503599627370496 := by
    apply BitVec.eq_of_toNat_eq
    rw [BitVec.toNat_or, bv_nat _ hs, bv_nat _ hs2, hor]
    rfl
  have hb2 : BitVec.ofInt 64 ((sgn neg a : Nat) : Int) &&& BitVec.ofInt 64 4503599627370496 = 0#64 := by
    apply BitVec.eq_of_toNat_eq
    rw [BitVec.toNat_and, bv_nat _ hs2]
    exact hand
  rw [e, hb, bv_cut _ _ hb2, bv_nat _ hs2, IntKind.wrap_u64]
  omega
/-- what reading answers: the word, or infinity and an error -/
def pkV (neg : Bool) (X : Nat) : Value := .tuple #[.float .f64 (sgn neg (min X infX)), if infX ≤ X then .iface 160 (.int .i64 1) else .nilIface]
theorem or52s (neg : Bool) (r b : Nat) (hr : r < 4503599627370496) (hb : b < 2048) : bits BinOp.or IntKind.u64 ((sgn neg r : Nat) : Int) ((b * 4503599627370496 : Nat) : Int) = ((sgn neg (b * 4503599627370496 + r) : Nat) : Int) := by
  have e : bits BinOp.or IntKind.u64 ((sgn neg r : Nat) : Int) ((b * 4503599627370496 : Nat) : Int) = IntKind.u64.wrap (((BitVec.ofInt 64 ((sgn neg r : Nat) : Int) ||| BitVec.ofInt 64 ((b * 4503599627370496 : Nat) : Int)).toNat : Nat) : Int) := rfl
  have hs : sgn neg r < 18446744073709551616 := by unfold sgn; split <;> omega
  have p63 : (2 : Nat) ^ 63 = 9223372036854775808 := by decide
  have h1 : 9223372036854775808 + r = 2 ^ 63 * 1 ||| r := (show 9223372036854775808 + r = 2 ^ 63 * 1 + r by omega).trans (Nat.two_pow_add_eq_or_of_lt (i := 63) (by rw [p63]; omega) 1)
  have h0 : b * 4503599627370496 + r = b * 4503599627370496 ||| r := by
    rw [Nat.mul_comm b]
    exact Nat.two_pow_add_eq_or_of_lt (i := 52) (by simpa using hr) b
  have h2 : 9223372036854775808 + (b * 4503599627370496 + r) = 2 ^ 63 * 1 ||| (b * 4503599627370496 + r) := (show 9223372036854775808 + (b * 4503599627370496 + r) = 2 ^ 63 * 1 + (b * 4503599627370496 + r) by omega).trans (Nat.two_pow_add_eq_or_of_lt (i := 63) (by rw [p63]; omega) 1)
  have h4 : sgn neg r ||| b * 4503599627370496 = sgn neg (b * 4503599627370496 + r) := by
    cases neg with
    | true =>
      show (9223372036854775808 + r) ||| b * 4503599627370496 = 9223372036854775808 + (b * 4503599627370496 + r)
      rw [h2, h1, h0, Nat.or_assoc, Nat.or_comm r]
    | false =>
      show r ||| b * 4503599627370496 = b * 4503599627370496 + r
      rw [h0, Nat.or_comm]
  have hs3 : sgn neg (b * 4503599627370496 + r) < 18446744073709551616 := by unfold sgn; split <;> omega
  rw [e, BitVec.toNat_or, bv_nat _ hs, bv_nat _ (by omega), h4, IntKind.wrap_u64]
  omega
theorem andS (a : Nat) (h : a < 18446744073709551616) : bits BinOp.and IntKind.u64 (a : Int) 9223372036854775808 = ((a / 9223372036854775808 % 2 * 9223372036854775808 : Nat) : Int) := by
  have e : bits BinOp.and IntKind.u64 (a : Int) 9223372036854775808 = IntKind.u64.wrap (((BitVec.ofInt 64 (a : Int) &&& BitVec.ofInt 64 9223372036854775808).toNat : Nat) : Int) := rfl
  have h3 : (BitVec.ofInt 64 9223372036854775808).toNat = 2 ^ 63 := by decide
  have p63 : (2 : Nat) ^ 63 = 9223372036854775808 := by decide
  have h4 : a &&& 2 ^ 63 = a / 9223372036854775808 % 2 * 9223372036854775808 := by
    apply Nat.eq_of_testBit_eq
    intro i
    rw [← p63, Nat.testBit_and, Nat.testBit_two_pow, Nat.testBit_mul_two_pow]
    by_cases hi : 63 = i
    · subst hi
      rw [Nat.testBit_eq_decide_div_mod_eq, Nat.sub_self, Nat.testBit_eq_decide_div_mod_eq]
      simp
    · rw [decide_eq_false hi, Bool.and_false]
      by_cases hl : 63 ≤ i
      · obtain ⟨j, rfl⟩ : ∃ j, i = 63 + (j + 1) := ⟨i - 64, by omega⟩
        rw [show 63 + (j + 1) - 63 = j + 1 by omega, Nat.testBit_succ, show a / 2 ^ 63 % 2 / 2 = 0 by omega]
        simp
      · rw [decide_eq_false hl, Bool.false_and]
  rw [e, BitVec.toNat_and, bv_nat a h, h3, h4, IntKind.wrap_u64]
  omega
set_option maxRecDepth 100000 in
set_option maxHeartbeats 1000000 in
theorem pack_any (neg : Bool) (R t : Nat) (hR : R < 9007199254740992) (ht : t = 0 ∨ 4503599627370496 ≤ R) (ht2 : t ≤ 2200) (w : World) :
    Calls Tryz.prog 209 #[.int .u64 ((sgn neg R : Nat) : Int), .int .i64 ((t : Int) - 1074)] w (Same w (pkV neg (t * 4503599627370496 + R))) := by
  have hs : sgn neg R < 18446744073709551616 := by unfold sgn; split <;> omega
  by_cases hlow : R < 4503599627370496
  · have ht0 : t = 0 := by omega
    subst ht0
    have b0 : bits BinOp.and IntKind.u64 ((sgn neg R : Nat) : Int) 4503599627370496 = 0 := by
      rw [andb _ hs, show sgn neg R / 4503599627370496 % 2 = 0 by unfold sgn; split <;> omega]
      rfl
    have hv : pkV neg (0 * 4503599627370496 + R) = .tuple #[.float .f64 (sgn neg R), .nilIface] := by
      unfold pkV infX
      rw [Nat.zero_mul, Nat.zero_add, Nat.min_eq_left (by omega), if_neg (by omega)]
    rw [hv]
    obtain ⟨m, hm⟩ : ∃ m, sgn neg R = m := ⟨_, rfl⟩
    rw [hm] at b0 ⊢
    clear hm hv hs hlow hR ht ht2
    go_enter Tryz.func209, Tryz.ntmps209
    go_wp2_with fail
    go_ret2
    exact ⟨rfl, rfl⟩
  · obtain ⟨r, hr⟩ : ∃ r, R = 4503599627370496 + r := ⟨R - 4503599627370496, by omega⟩
    subst hr
    have b0 : bits BinOp.and IntKind.u64 ((sgn neg (4503599627370496 + r) : Nat) : Int) 4503599627370496 = 4503599627370496 := by
      rw [andb _ hs, show sgn neg (4503599627370496 + r) / 4503599627370496 % 2 = 1 by unfold sgn; split <;> omega]
      rfl
    have b1 := andn52 r (by omega) neg
    by_cases hbig : 2046 ≤ t
    · have b2 : bits BinOp.and IntKind.u64 ((sgn neg (4503599627370496 + r) : Nat) : Int) 9223372036854775808 = ((sgn neg 0 : Nat) : Int) := by
        rw [andS _ hs]
        refine congrArg (fun z : Nat => (z : Int)) ?_
        cases neg with
        | true =>
          show (9223372036854775808 + (4503599627370496 + r)) / 9223372036854775808 % 2 * 9223372036854775808 = 9223372036854775808 + 0
          omega
        | false =>
          show (4503599627370496 + r) / 9223372036854775808 % 2 * 9223372036854775808 = 0
          omega
      have b3 : bits BinOp.or IntKind.u64 ((sgn neg 0 : Nat) : Int) 9218868437227405312 = ((sgn neg 9218868437227405312 : Nat) : Int) := by
        cases neg <;> decide +kernel
      have hv : pkV neg (t * 4503599627370496 + (4503599627370496 + r)) = .tuple #[.float .f64 (sgn neg 9218868437227405312), .iface 160 (.int .i64 1)] := by
        unfold pkV infX
        rw [Nat.min_eq_right (by omega), if_pos (by omega)]
      rw [hv]
      have t1 : decide (972 ≤ (t : Int) - 1074) = true := decide_eq_true (by omega)
      obtain ⟨m, hm⟩ : ∃ m, sgn neg (4503599627370496 + r) = m := ⟨_, rfl⟩
      obtain ⟨m0, hm0⟩ : ∃ m0, sgn neg 0 = m0 := ⟨_, rfl⟩
      obtain ⟨mi, hmi⟩ : ∃ mi, sgn neg 9218868437227405312 = mi := ⟨_, rfl⟩
      rw [hm] at b0 b2 ⊢
      rw [hm0] at b2 b3
      rw [hmi] at b3 ⊢
      clear hm hm0 hmi hv hs hlow hR ht hbig b1
      go_enter Tryz.func209, Tryz.ntmps209
      go_wp2_with fail
      go_ret2
      exact ⟨rfl, rfl⟩
    · obtain ⟨T, hT⟩ : ∃ T, t + 1 = T := ⟨_, rfl⟩
      obtain ⟨Y, hY⟩ : ∃ Y, T * 4503599627370496 = Y := ⟨_, rfl⟩
      have b5 : IntKind.u64.wrap ((T : Int) * 4503599627370496) = (Y : Int) := by
        clear b0 b1 hs ht
        rw [IntKind.wrap_u64]
        omega
      have eX : t * 4503599627370496 + (4503599627370496 + r) = Y + r := by
        rw [← hY, ← hT, Nat.add_mul, Nat.one_mul, Nat.add_assoc]
      have eI : ¬ 9218868437227405312 ≤ Y + r := by omega
      have b3 := or52s neg r T (by omega) (by omega)
      rw [hY] at b3
      have hv : pkV neg (t * 4503599627370496 + (4503599627370496 + r)) = .tuple #[.float .f64 (sgn neg (Y + r)), .nilIface] := by
        unfold pkV infX
        rw [eX, Nat.min_eq_left (Nat.le_of_lt (Nat.lt_of_not_le eI)), if_neg eI]
      rw [hv]
      have t1 : decide (972 ≤ (t : Int) - 1074) = false := decide_eq_false (by omega)
      have t2 : (1075 : Int) + ((t : Int) - 1074) = (T : Int) := by omega
      have T0 : (0 : Int) ≤ (T : Int) := by omega
      have T9 : (T : Int) ≤ 2046 := by omega
      have tt0 : (0 : Int) ≤ (t : Int) := by omega
      have tt9 : (t : Int) ≤ 2045 := by omega
      obtain ⟨m, hm⟩ : ∃ m, sgn neg (4503599627370496 + r) = m := ⟨_, rfl⟩
      obtain ⟨m0, hm0⟩ : ∃ m0, sgn neg r = m0 := ⟨_, rfl⟩
      obtain ⟨mi, hmi⟩ : ∃ mi, sgn neg (Y + r) = mi := ⟨_, rfl⟩
      rw [hm] at b0 b1 ⊢
      rw [hm0] at b1 b3
      rw [hmi] at b3 ⊢
      clear hm hm0 hmi hv hs hlow hR ht hbig hT hY eX eI
      go_enter Tryz.func209, Tryz.ntmps209
      go_wp2_with fail
      go_ret2
      exact ⟨rfl, rfl⟩
end Go.Proofs.YtejmbbkklhpnaaaGreatDoor.rdf

/- Unrounded scaling. No conditions but those stated. -/
namespace Go.Proofs.YtejmbbkklhpnaaaGreatDoor.prnw
open Go.RowKit

theorem and63 (s : Int) : 0 ≤ bits BinOp.and IntKind.i64 s 63 ∧ bits BinOp.and IntKind.i64 s 63 ≤ 63 := by
  have h : bits BinOp.and IntKind.i64 s 63 = IntKind.i64.wrap (((BitVec.ofInt 64 s &&& BitVec.ofInt 64 63).toNat : Nat) : Int) := rfl
  have h2 : (BitVec.ofInt 64 s &&& BitVec.ofInt 64 63).toNat ≤ 63 := by
    rw [BitVec.toNat_and]
    exact Nat.le_trans Nat.and_le_right (by decide)
  rw [h, IntKind.wrap_i64]
  omega
theorem or_bd (a b : Int) : 0 ≤ bits BinOp.or IntKind.u64 a b ∧ bits BinOp.or IntKind.u64 a b < 18446744073709551616 := w64 _
/-- what unrounded scaling answers -/
def usI (x hi lo : Nat) (s : Int) : Int :=
  if (IntKind.u64.wrap (((x * hi / 18446744073709551616 : Nat) : Int) / 2 ^ (bits BinOp.and IntKind.i64 s 63).toNat * 2 ^ (bits BinOp.and IntKind.i64 s 63).toNat) != ((x * hi / 18446744073709551616 : Nat) : Int)) = true then bits BinOp.or IntKind.u64 (((x * hi / 18446744073709551616 : Nat) : Int) / 2 ^ (bits BinOp.and IntKind.i64 s 63).toNat) 1
  else bits BinOp.or IntKind.u64 (IntKind.u64.wrap (((x * hi / 18446744073709551616 : Nat) : Int) - (if x * hi % 18446744073709551616 < x * lo / 18446744073709551616 then 1 else 0)) / 2 ^ (bits BinOp.and IntKind.i64 s 63).toNat)
    (if 1 < IntKind.u64.wrap (((x * hi % 18446744073709551616 : Nat) : Int) - ((x * lo / 18446744073709551616 : Nat) : Int)) then 1 else 0)
theorem us_bd (x hi lo : Nat) (s : Int) : 0 ≤ usI x hi lo s ∧ usI x hi lo s < 18446744073709551616 := by
  unfold usI
  split
  · exact or_bd _ _
  · exact or_bd _ _
def UsPost (w : World) (r : Int) (e : Ending) (w' : World) : Prop := e = .returned (.int .u64 r) ∧ ∃ n, w' = w.drewN n
set_option maxRecDepth 100000 in
set_option maxHeartbeats 1000000 in
theorem uscale_any (x hi lo : Nat) (s : Int) (hx : x < 18446744073709551616) (hh : hi < 18446744073709551616) (hlo : lo < 18446744073709551616) (pb : Nat) (w : World) (hb : SC w pb hi lo s) :
    Calls Tryz.prog 162 #[.int .u64 x, .pointer (some ⟨pb, 0, none⟩)] w (UsPost w (usI x hi lo s)) := by
  have d0 : w.cell? ⟨pb, 0, none⟩ = some (.int .u64 (hi : Nat)) := by rw [cell_of_row _ _ _ _ _ _ hb]; rfl
  have d1 : w.cell? ⟨pb, 1, none⟩ = some (.int .u64 (lo : Nat)) := by rw [cell_of_row _ _ _ _ _ _ hb]; rfl
  have d2 : w.cell? ⟨pb, 2, none⟩ = some (.int .i64 s) := by rw [cell_of_row _ _ _ _ _ _ hb]; rfl
  have m1 := Tryz.bits_Mul64 x hi hx hh w
  have m2 := Tryz.bits_Mul64 x lo hx hlo w
  obtain ⟨R, hR⟩ : ∃ R, usI x hi lo s = R := ⟨_, rfl⟩
  rw [hR]
  unfold usI at hR
  obtain ⟨k, hk⟩ : ∃ k : Int, bits BinOp.and IntKind.i64 s 63 = k := ⟨_, rfl⟩
  have k0 : 0 ≤ k := by rw [← hk]; exact (and63 s).1
  have k1 : k ≤ 63 := by rw [← hk]; exact (and63 s).2
  rw [hk] at hR
  have H1 : ((x * hi / 18446744073709551616 : Nat) : Int) < 18446744073709551616 := by
    have h1 : x * hi < 18446744073709551616 * 18446744073709551616 := Nat.mul_lt_mul_of_lt_of_lt hx hh
    have := Nat.div_lt_of_lt_mul h1
    omega
  obtain ⟨H, hH⟩ : ∃ H, x * hi / 18446744073709551616 = H := ⟨_, rfl⟩
  obtain ⟨M, hM⟩ : ∃ M, x * hi % 18446744073709551616 = M := ⟨_, rfl⟩
  obtain ⟨L, hL⟩ : ∃ L, x * lo / 18446744073709551616 = L := ⟨_, rfl⟩
  rw [hH] at H1
  rw [hH, hM] at m1
  rw [hL] at m2
  rw [hH, hM, hL] at hR
  have N1 := Lib.hid m1
  have N2 := Lib.hid m2
  have H0 : (0 : Int) ≤ (H : Int) := by omega
  have HR := Lib.hid hR
  clear hH hM hL m1 m2 hb hR
  go_enter Tryz.func162, Tryz.ntmps162
  go_wp2_with fail
  (with_reducible refine N1.out.mono ?_)
  rintro e w' ⟨rfl, hw'⟩
  obtain rfl := hw'.symm
  go_upto_region 3 with (fail)
  clear hk
  go_upto_if 30 with (fail)
  cases hb1 : (IntKind.u64.wrap ((H : Int) / 2 ^ k.toNat * 2 ^ k.toNat) != (H : Int)) with
  | true =>
    have hR2 := HR.out
    rw [if_pos hb1] at hR2
    have HR2 := Lib.hid hR2
    clear hb1 hR2
    go_wp2_with fail
    go_ret
    exact ⟨by rw [HR2.out]; rfl, 0, rfl⟩
  | false =>
    have hR2 := HR.out
    rw [if_neg (by rw [hb1]; decide)] at hR2
    have HR2 := Lib.hid hR2
    clear hb1 hR2
    go_wp2_with fail
    (with_reducible refine N2.out.mono ?_)
    rintro e w' ⟨rfl, hw'⟩
    obtain rfl := hw'.symm
    go_wp2_with fail
    (with_reducible refine (b2u _ _).mono ?_)
    rintro e w' ⟨rfl, hw'⟩
    obtain rfl := hw'.symm
    go_upto_region 7 with (fail)
    clear H1
    go_quiet (exact Calls.quiet_of_same (b2u _ _))
    all_goals go_wp2_with fail
    all_goals go_ret
    all_goals refine ⟨?_, nq, rfl⟩
    all_goals rw [← HR2.out]
    all_goals (repeat (first | rw [if_pos (by assumption)] | rw [if_neg (by assumption)] | rw [if_neg (by omega)] | rw [if_pos (by omega)]))
    all_goals rfl
end Go.Proofs.YtejmbbkklhpnaaaGreatDoor.prnw

/- Unrounded scaling: what it answers is right. Plain. -/
namespace Go.Proofs.YtejmbbkklhpnaaaGreatDoor.fpm

/-- a quotient, with a mark in its last bit if something is left over -/
def unr (A Q : Nat) : Nat := if A % Q = 0 then A / Q else A / Q / 2 * 2 + 1
/-- unrounded scaling, in plain numbers -/
def usN (x hi lo s : Nat) : Nat :=
  if x * hi / 18446744073709551616 % 2 ^ s ≠ 0 then x * hi / 18446744073709551616 / 2 ^ s / 2 * 2 + 1
  else if x * hi % 18446744073709551616 < x * lo / 18446744073709551616 then (x * hi / 18446744073709551616 - 1) / 2 ^ s / 2 * 2 + 1
  else if x * lo / 18446744073709551616 + 1 < x * hi % 18446744073709551616 then x * hi / 18446744073709551616 / 2 ^ s / 2 * 2 + 1
  else x * hi / 18446744073709551616 / 2 ^ s
theorem unr_in {A Q F : Nat} (h1 : F * Q < A) (h2 : A < (F + 1) * Q) : unr A Q = F / 2 * 2 + 1 := by
  have hQ : 0 < Q := by
    apply Nat.pos_of_ne_zero
    intro e
    rw [e] at h2
    omega
  have hd : A / Q = F := by
    apply Nat.le_antisymm
    · exact Nat.le_of_lt_succ ((Nat.div_lt_iff_lt_mul hQ).2 h2)
    · exact (Nat.le_div_iff_mul_le hQ).2 (Nat.le_of_lt h1)
  have hm : A % Q ≠ 0 := by
    intro e
    have := Nat.div_add_mod A Q
    rw [hd, e, Nat.mul_comm] at this
    omega
  unfold unr
  rw [if_neg hm, hd]
theorem unr_eq {F Q : Nat} (hQ : 0 < Q) : unr (F * Q) Q = F := by
  unfold unr
  rw [if_pos (Nat.mul_mod_left F Q), Nat.mul_div_cancel _ hQ]
/-- the law: no near miss of an even number -/
theorem us_spec (x hi lo s N D : Nat) (hx : x < 18446744073709551616) (hlo : lo < 18446744073709551616) (hD : 0 < D)
    (h1 : N + lo * D ≤ hi * 18446744073709551616 * D) (h2 : hi * 18446744073709551616 * D < N + lo * D + D)
    (hnm : ∀ j, x * N = j * (2 * (D * 2 ^ (128 + s))) ∨ x * N + 36893488147419103232 * D ≤ j * (2 * (D * 2 ^ (128 + s))) ∨ j * (2 * (D * 2 ^ (128 + s))) + 36893488147419103232 * D ≤ x * N) :
    usN x hi lo s = unr (x * N) (D * 2 ^ (128 + s)) := by
  by_cases hx0 : x = 0
  · subst hx0
    unfold usN unr
    simp
  obtain ⟨P2, hP2⟩ : ∃ P2, P2 = 18446744073709551616 * D := ⟨_, rfl⟩
  obtain ⟨P1, hP1⟩ : ∃ P1, P1 = 18446744073709551616 * P2 := ⟨_, rfl⟩
  have hQ : D * 2 ^ (128 + s) = 2 ^ s * P1 := by
    rw [hP1, hP2, Nat.pow_add, show (2 : Nat) ^ 128 = 18446744073709551616 * 18446744073709551616 by decide]
    generalize 2 ^ s = z
    rw [Nat.mul_comm D, Nat.mul_comm _ z, Nat.mul_assoc z, Nat.mul_assoc]
  rw [hQ] at hnm ⊢
  have p2 : 0 < P2 := by omega
  have p1 : 0 < P1 := by omega
  have ps : 0 < 2 ^ s := Nat.two_pow_pos s
  -- the parts
  obtain ⟨H, hH⟩ : ∃ H, H = x * hi / 18446744073709551616 := ⟨_, rfl⟩
  obtain ⟨M, hM⟩ : ∃ M, M = x * hi % 18446744073709551616 := ⟨_, rfl⟩
  obtain ⟨L, hL⟩ : ∃ L, L = x * lo / 18446744073709551616 := ⟨_, rfl⟩
  obtain ⟨r, hr⟩ : ∃ r, r = x * lo % 18446744073709551616 := ⟨_, rfl⟩
  have eH : x * hi = 18446744073709551616 * H + M := by omega
  have eL : x * lo = 18446744073709551616 * L + r := by omega
  have bM : M < 18446744073709551616 := by omega
  have br : r < 18446744073709551616 := by omega
  obtain ⟨A, hA⟩ : ∃ A, A = x * N := ⟨_, rfl⟩
  have k1 : A + (L * P2 + r * D) ≤ H * P1 + M * P2 := by
    have h := Nat.mul_le_mul_left x h1
    rw [Nat.mul_add, ← Nat.mul_assoc x lo, ← hA, eL, ← Nat.mul_assoc x, ← Nat.mul_assoc x, eH] at h
    have e1 : (18446744073709551616 * L + r) * D = L * P2 + r * D := by rw [hP2, Nat.add_mul, Nat.mul_comm _ L, Nat.mul_assoc]
    have e2 : (18446744073709551616 * H + M) * 18446744073709551616 * D = H * P1 + M * P2 := by
      rw [hP1, hP2, Nat.mul_assoc, Nat.add_mul, Nat.mul_comm _ H, Nat.mul_assoc]
    rw [e1, e2] at h
    exact h
  have k2 : H * P1 + M * P2 < A + (L * P2 + r * D) + x * D := by
    have h := (Nat.mul_lt_mul_left (show 0 < x by omega)).2 h2
    rw [Nat.mul_add, Nat.mul_add, ← Nat.mul_assoc x lo, ← hA, eL, ← Nat.mul_assoc x, ← Nat.mul_assoc x, eH] at h
    have e1 : (18446744073709551616 * L + r) * D = L * P2 + r * D := by rw [hP2, Nat.add_mul, Nat.mul_comm _ L, Nat.mul_assoc]
    have e2 : (18446744073709551616 * H + M) * 18446744073709551616 * D = H * P1 + M * P2 := by
      rw [hP1, hP2, Nat.mul_assoc, Nat.add_mul, Nat.mul_comm _ H, Nat.mul_assoc]
    rw [e1, e2] at h
    exact h
  have k3 : L * P2 + r * D + x * D ≤ x * P2 := by
    have h : x * (lo + 1) ≤ x * 18446744073709551616 := Nat.mul_le_mul_left x hlo
    rw [Nat.mul_add, Nat.mul_one, eL] at h
    have h := Nat.mul_le_mul_right D h
    rw [Nat.mul_assoc x, ← hP2] at h
    have e1 : (18446744073709551616 * L + r + x) * D = L * P2 + r * D + x * D := by rw [hP2, Nat.add_mul, Nat.add_mul, Nat.mul_comm _ L, Nat.mul_assoc]
    rw [e1] at h
    exact h
  have k4 : x * P2 + P2 ≤ P1 := by
    have h := Nat.mul_le_mul_right P2 (show x + 1 ≤ 18446744073709551616 by omega)
    rw [Nat.add_mul, Nat.one_mul, ← hP1] at h
    exact h
  have k5 : M * P2 + P2 ≤ P1 := by
    have h := Nat.mul_le_mul_right P2 (show M + 1 ≤ 18446744073709551616 by omega)
    rw [Nat.add_mul, Nat.one_mul, ← hP1] at h
    exact h
  have k6 : r * D + D ≤ P2 := by
    have h := Nat.mul_le_mul_right D (show r + 1 ≤ 18446744073709551616 by omega)
    rw [Nat.add_mul, Nat.one_mul, ← hP2] at h
    exact h
  have k7 : x * D + D ≤ P2 := by
    have h := Nat.mul_le_mul_right D (show x + 1 ≤ 18446744073709551616 by omega)
    rw [Nat.add_mul, Nat.one_mul, ← hP2] at h
    exact h
  obtain ⟨F, hF⟩ : ∃ F, F = H / 2 ^ s := ⟨_, rfl⟩
  obtain ⟨h', hh⟩ : ∃ h', h' = H % 2 ^ s := ⟨_, rfl⟩
  have eF : H = F * 2 ^ s + h' := by
    have := Nat.div_add_mod H (2 ^ s)
    rw [← hF, ← hh, Nat.mul_comm] at this
    exact this.symm
  have bh : h' < 2 ^ s := by rw [hh]; exact Nat.mod_lt _ ps
  obtain ⟨Q, hQd⟩ : ∃ Q, Q = 2 ^ s * P1 := ⟨_, rfl⟩
  have eHP : H * P1 = F * Q + h' * P1 := by rw [hQd, eF, Nat.add_mul, Nat.mul_assoc]
  have eF1 : (F + 1) * Q = F * Q + Q := by rw [Nat.add_mul, Nat.one_mul]
  unfold usN
  rw [← hQd] at hnm ⊢
  rw [← hH, ← hM, ← hL, ← hF, ← hh, ← hA]
  rw [← hA] at hnm
  by_cases c1 : h' = 0
  · rw [if_neg (by omega)]
    rw [c1, Nat.zero_mul, Nat.add_zero] at eHP
    by_cases c2 : M < L
    · -- the part behind the point is below nothing
      rw [if_pos c2]
      have q1 : (M + 1) * P2 ≤ L * P2 := Nat.mul_le_mul_right P2 c2
      rw [Nat.add_mul, Nat.one_mul] at q1
      have hF0 : F ≠ 0 := by
        intro e
        rw [e, Nat.zero_mul] at eHP
        omega
      obtain ⟨F', rfl⟩ : ∃ F', F = F' + 1 := ⟨F - 1, by omega⟩
      have hd : (H - 1) / 2 ^ s = F' := by
        rw [eF, c1, Nat.add_zero, Nat.add_mul, Nat.one_mul]
        apply Nat.le_antisymm
        · exact Nat.le_of_lt_succ ((Nat.div_lt_iff_lt_mul ps).2 (by rw [Nat.succ_mul]; omega))
        · exact (Nat.le_div_iff_mul_le ps).2 (by omega)
      rw [hd]
      have qq : P1 ≤ Q := by rw [hQd]; exact Nat.le_mul_of_pos_left P1 ps
      have e2 : (F' + 1) * Q = F' * Q + Q := by rw [Nat.add_mul, Nat.one_mul]
      exact (unr_in (by omega) (by omega)).symm
    · rw [if_neg c2]
      by_cases c3 : L + 1 < M
      · rw [if_pos c3]
        have q1 : (L + 2) * P2 ≤ M * P2 := Nat.mul_le_mul_right P2 c3
        rw [Nat.add_mul] at q1
        have qq : P1 ≤ Q := by rw [hQd]; exact Nat.le_mul_of_pos_left P1 ps
        exact (unr_in (by omega) (by omega)).symm
      · rw [if_neg c3]
        have q1 : L * P2 ≤ M * P2 := Nat.mul_le_mul_right P2 (by omega)
        have q2 : M * P2 ≤ (L + 1) * P2 := Nat.mul_le_mul_right P2 (by omega)
        rw [Nat.add_mul, Nat.one_mul] at q2
        have qq : P1 ≤ Q := by rw [hQd]; exact Nat.le_mul_of_pos_left P1 ps
        have hQ0 : 0 < Q := by omega
        rcases Nat.mod_two_eq_zero_or_one F with ev | od
        · obtain ⟨j, rfl⟩ : ∃ j, F = 2 * j := ⟨F / 2, by omega⟩
          have hj : 2 * j * Q = j * (2 * Q) := by rw [Nat.mul_comm 2 j, Nat.mul_assoc]
          have he : A = 2 * j * Q := by
            rcases hnm j with h | h | h
            · rw [hj]; exact h
            · omega
            · omega
          rw [he, unr_eq hQ0]
        · by_cases c4 : A = F * Q
          · rw [c4, unr_eq hQ0]
          · by_cases c5 : F * Q < A
            · rw [unr_in c5 (by omega)]
              omega
            · obtain ⟨F', rfl⟩ : ∃ F', F = F' + 1 := ⟨F - 1, by omega⟩
              have e2 : (F' + 1) * Q = F' * Q + Q := by rw [Nat.add_mul, Nat.one_mul]
              rw [unr_in (F := F') (by omega) (by omega)]
              omega
  · rw [if_pos c1]
    have q1 : 1 * P1 ≤ h' * P1 := Nat.mul_le_mul_right P1 (by omega)
    rw [Nat.one_mul] at q1
    have q2 : (h' + 1) * P1 ≤ Q := by rw [hQd]; exact Nat.mul_le_mul_right P1 bh
    rw [Nat.add_mul, Nat.one_mul] at q2
    exact (unr_in (by omega) (by omega)).symm
end Go.Proofs.YtejmbbkklhpnaaaGreatDoor.fpm
