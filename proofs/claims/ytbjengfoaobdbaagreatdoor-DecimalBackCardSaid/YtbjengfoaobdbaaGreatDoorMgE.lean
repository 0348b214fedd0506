/- Unrounded scaling. No conditions but those stated. -/
import Derived.Test.YtbjengfoaobdbaaGreatDoorPsA
import Derived.Test.YtbjengfoaobdbaaGreatDoorMgD
import Derived.Test.YtbjengfoaobdbaaGreatDoorMgB
namespace Go.Proofs.YtbjengfoaobdbaaGreatDoor.prnw
open Go.RowKit

theorem and63 (s : Int) : 0 ≤ bits BinOp.and IntKind.i64 s 63 ∧ bits BinOp.and IntKind.i64 s 63 ≤ 63 := by
  have h : bits BinOp.and IntKind.i64 s 63 = IntKind.i64.wrap (((BitVec.ofInt 64 s &&& BitVec.ofInt 64 63).toNat : Nat) : Int) := rfl
  have h2 : (BitVec.ofInt 64 s &&& BitVec.ofInt 64 63).toNat ≤ 63 := by
    rw [BitVec.toNat_and]
    exact Nat.le_trans Nat.and_le_right (by decide)
  rw [h, IntKind.wrap_i64]
  omega
theorem or_bd (a b : Int) : 0 ≤ bits BinOp.or IntKind.u64 a b ∧ bits BinOp.or IntKind.u64 a b < 18446744073709551616 := w64 _
/-- what unrounded scaling answers -/
def usI (x hi lo : Nat) (s : Int) : Int :=
  if (IntKind.u64.wrap (((x * hi / 18446744073709551616 : Nat) : Int) / 2 ^ (bits BinOp.and IntKind.i64 s 63).toNat * 2 ^ (bits BinOp.and IntKind.i64 s 63).toNat) != ((x * hi / 18446744073709551616 : Nat) : Int)) = true then bits BinOp.or IntKind.u64 (((x * hi / 18446744073709551616 : Nat) : Int) / 2 ^ (bits BinOp.and IntKind.i64 s 63).toNat) 1
  else bits BinOp.or IntKind.u64 (IntKind.u64.wrap (((x * hi / 18446744073709551616 : Nat) : Int) - (if x * hi % 18446744073709551616 < x * lo / 18446744073709551616 then 1 else 0)) / 2 ^ (bits BinOp.and IntKind.i64 s 63).toNat)
    (if 1 < IntKind.u64.wrap (((x * hi % 18446744073709551616 : Nat) : Int) - ((x * lo / 18446744073709551616 : Nat) : Int)) then 1 else 0)
theorem us_bd (x hi lo : Nat) (s : Int) : 0 ≤ usI x hi lo s ∧ usI x hi lo s < 18446744073709551616 := by
  unfold usI
  split
  · exact or_bd _ _
  · exact or_bd _ _
def UsPost (w : World) (r : Int) (e : Ending) (w' : World) : Prop := e = .returned (.int .u64 r) ∧ ∃ n, w' = w.drewN n
set_option maxRecDepth 100000 in
set_option maxHeartbeats 1000000 in
theorem uscale_any (x hi lo : Nat) (s : Int) (hx : x < 18446744073709551616) (hh : hi < 18446744073709551616) (hlo : lo < 18446744073709551616) (pb : Nat) (w : World) (hb : SC w pb hi lo s) :
    Calls Tryz.prog 155 #[.int .u64 x, .pointer (some ⟨pb, 0, none⟩)] w (UsPost w (usI x hi lo s)) := by
  have d0 : w.cell? ⟨pb, 0, none⟩ = some (.int .u64 (hi : Nat)) := by rw [cell_of_row _ _ _ _ _ _ hb]; rfl
  have d1 : w.cell? ⟨pb, 1, none⟩ = some (.int .u64 (lo : Nat)) := by rw [cell_of_row _ _ _ _ _ _ hb]; rfl
  have d2 : w.cell? ⟨pb, 2, none⟩ = some (.int .i64 s) := by rw [cell_of_row _ _ _ _ _ _ hb]; rfl
  have m1 := Tryz.bits_Mul64 x hi hx hh w
  have m2 := Tryz.bits_Mul64 x lo hx hlo w
  obtain ⟨R, hR⟩ : ∃ R, usI x hi lo s = R := ⟨_, rfl⟩
  rw [hR]
  unfold usI at hR
  obtain ⟨k, hk⟩ : ∃ k : Int, bits BinOp.and IntKind.i64 s 63 = k := ⟨_, rfl⟩
  have k0 : 0 ≤ k := by rw [← hk]; exact (and63 s).1
  have k1 : k ≤ 63 := by rw [← hk]; exact (and63 s).2
  rw [hk] at hR
  have H1 : ((x * hi / 18446744073709551616 : Nat) : Int) < 18446744073709551616 := by
    have h1 : x * hi < 18446744073709551616 * 18446744073709551616 := Nat.mul_lt_mul_of_lt_of_lt hx hh
    have := Nat.div_lt_of_lt_mul h1
    omega
  obtain ⟨H, hH⟩ : ∃ H, x * hi / 18446744073709551616 = H := ⟨_, rfl⟩
  obtain ⟨M, hM⟩ : ∃ M, x * hi % 18446744073709551616 = M := ⟨_, rfl⟩
  obtain ⟨L, hL⟩ : ∃ L, x * lo / 18446744073709551616 = L := ⟨_, rfl⟩
  rw [hH] at H1
  rw [hH, hM] at m1
  rw [hL] at m2
  rw [hH, hM, hL] at hR
  have N1 := Lib.hid m1
  have N2 := Lib.hid m2
  have H0 : (0 : Int) ≤ (H : Int) := by omega
  have HR := Lib.hid hR
  clear hH hM hL m1 m2 hb hR
  go_enter Tryz.func155, Tryz.ntmps155
  go_wp2_with fail
  (with_reducible refine N1.out.mono ?_)
  rintro e w' ⟨rfl, hw'⟩
  obtain rfl := hw'.symm
  go_upto_region 3 with (fail)
  clear hk
  go_upto_if 30 with (fail)
  cases hb1 : (IntKind.u64.wrap ((H : Int) / 2 ^ k.toNat * 2 ^ k.toNat) != (H : Int)) with
  | true =>
    have hR2 := HR.out
    rw [if_pos hb1] at hR2
    have HR2 := Lib.hid hR2
    clear hb1 hR2
    go_wp2_with fail
    go_ret
    exact ⟨by rw [HR2.out]; rfl, 0, rfl⟩
  | false =>
    have hR2 := HR.out
    rw [if_neg (by rw [hb1]; decide)] at hR2
    have HR2 := Lib.hid hR2
    clear hb1 hR2
    go_wp2_with fail
    (with_reducible refine N2.out.mono ?_)
    rintro e w' ⟨rfl, hw'⟩
    obtain rfl := hw'.symm
    go_wp2_with fail
    (with_reducible refine (b2u _ _).mono ?_)
    rintro e w' ⟨rfl, hw'⟩
    obtain rfl := hw'.symm
    go_upto_region 7 with (fail)
    clear H1
    go_quiet (exact Calls.quiet_of_same (b2u _ _))
    all_goals go_wp2_with fail
    all_goals go_ret
    all_goals refine ⟨?_, nq, rfl⟩
    all_goals rw [← HR2.out]
    all_goals (repeat (first | rw [if_pos (by assumption)] | rw [if_neg (by assumption)] | rw [if_neg (by omega)] | rw [if_pos (by omega)]))
    all_goals rfl
end Go.Proofs.YtbjengfoaobdbaaGreatDoor.prnw

/- Unrounded scaling: the model's words in plain numbers. Plain. -/
namespace Go.Proofs.YtbjengfoaobdbaaGreatDoor.fpm
open Go Go.RowKit Go.Proofs.YtbjengfoaobdbaaGreatDoor.prnw
theorem or_one (a : Nat) (h : a < 18446744073709551616) : bits BinOp.or IntKind.u64 (a : Int) 1 = ((a / 2 * 2 + 1 : Nat) : Int) := by
  have e : bits BinOp.or IntKind.u64 (a : Int) 1 = IntKind.u64.wrap (((BitVec.ofInt 64 (a : Int) ||| BitVec.ofInt 64 1).toNat : Nat) : Int) := rfl
  have h2 : (BitVec.ofInt 64 (a : Int)).toNat = a := by
    rw [BitVec.toNat_ofInt]
    omega
  have h3 : (BitVec.ofInt 64 1).toNat = 1 := by decide
  have h4 : a ||| 1 = a / 2 * 2 + 1 := by
    apply Nat.eq_of_testBit_eq
    intro i
    rw [Nat.testBit_or]
    cases i with
    | zero => simp [Nat.testBit_zero]
    | succ i =>
      rw [Nat.testBit_succ, Nat.testBit_succ, Nat.testBit_succ]
      rw [show (a / 2 * 2 + 1) / 2 = a / 2 by omega]
      simp
  rw [e, BitVec.toNat_or, h2, h3, h4, IntKind.wrap_u64]
  omega
theorem or_zero (a : Nat) (h : a < 18446744073709551616) : bits BinOp.or IntKind.u64 (a : Int) 0 = (a : Int) := by
  have e : bits BinOp.or IntKind.u64 (a : Int) 0 = IntKind.u64.wrap (((BitVec.ofInt 64 (a : Int) ||| BitVec.ofInt 64 0).toNat : Nat) : Int) := rfl
  have h2 : (BitVec.ofInt 64 (a : Int)).toNat = a := by
    rw [BitVec.toNat_ofInt]
    omega
  have h3 : (BitVec.ofInt 64 0).toNat = 0 := by decide
  rw [e, BitVec.toNat_or, h2, h3, Nat.or_zero, IntKind.wrap_u64]
  omega
theorem us_eq (x hi lo s : Nat) (hx : x < 18446744073709551616) (hh : 9223372036854775808 ≤ hi) (hh2 : hi < 18446744073709551616) (hl : lo < 18446744073709551616) (hs : s < 64) : usI x hi lo (s : Int) = (usN x hi lo s : Int) := by
  have hk := toNat_bits63 (s : Int) (by omega) (by omega)
  unfold usI usN
  rw [hk, Int.toNat_natCast]
  have bH : x * hi / 18446744073709551616 < 18446744073709551616 := by
    have h1 : x * hi < 18446744073709551616 * 18446744073709551616 := Nat.mul_lt_mul_of_lt_of_lt hx hh2
    exact Nat.div_lt_of_lt_mul h1
  have bL : x * lo / 18446744073709551616 < 18446744073709551616 := by
    have h1 : x * lo < 18446744073709551616 * 18446744073709551616 := Nat.mul_lt_mul_of_lt_of_lt hx hl
    exact Nat.div_lt_of_lt_mul h1
  have bL2 : x * lo / 18446744073709551616 + 2 ≤ 18446744073709551616 := by
    have h1 : x * lo ≤ 18446744073709551615 * 18446744073709551615 := Nat.mul_le_mul (by omega) (by omega)
    omega
  have hHL : x * hi / 18446744073709551616 = 0 → ¬ x * hi % 18446744073709551616 < x * lo / 18446744073709551616 := by
    intro h0 h1
    have h2 : x * lo ≤ x * 18446744073709551615 := Nat.mul_le_mul_left x (by omega)
    have h3 : x * 9223372036854775808 ≤ x * hi := Nat.mul_le_mul_left x hh
    omega
  obtain ⟨H, hH⟩ : ∃ H, H = x * hi / 18446744073709551616 := ⟨_, rfl⟩
  obtain ⟨M, hM⟩ : ∃ M, M = x * hi % 18446744073709551616 := ⟨_, rfl⟩
  obtain ⟨L, hL⟩ : ∃ L, L = x * lo / 18446744073709551616 := ⟨_, rfl⟩
  have bM : M < 18446744073709551616 := by rw [hM]; exact Nat.mod_lt _ (by decide)
  rw [← hH] at bH
  rw [← hL] at bL bL2
  rw [← hH, ← hM, ← hL] at hHL ⊢
  have e2 : ((2 : Int) ^ s) = ((2 ^ s : Nat) : Int) := by norm_cast
  obtain ⟨z, hz⟩ : ∃ z, z = 2 ^ s := ⟨_, rfl⟩
  have pz : 0 < z := by rw [hz]; exact Nat.two_pow_pos s
  rw [e2, ← hz]
  have d1 : ((H : Int) / (z : Int)) = ((H / z : Nat) : Int) := by norm_cast
  have d2 : (((H / z : Nat) : Int) * (z : Int)) = ((H / z * z : Nat) : Int) := by norm_cast
  have dm := Nat.div_add_mod H z
  rw [Nat.mul_comm] at dm
  have bz : H / z ≤ H := Nat.div_le_self _ _
  have hw : IntKind.u64.wrap (((H / z * z : Nat) : Int)) = ((H / z * z : Nat) : Int) := by rw [IntKind.wrap_u64]; omega
  rw [d1, d2, hw]
  by_cases c1 : H % z = 0
  · rw [if_neg (by rw [bne_iff_ne]; intro h; apply h; omega), if_neg (show ¬ (H % z ≠ 0) from fun h => h c1)]
    by_cases c2 : M < L
    · have hH0 : H ≠ 0 := fun h => hHL h c2
      rw [if_pos c2, if_pos c2]
      have e3 : IntKind.u64.wrap ((H : Int) - 1) = ((H - 1 : Nat) : Int) := by rw [IntKind.wrap_u64]; omega
      have e4 : (((H - 1 : Nat) : Int) / (z : Int)) = (((H - 1) / z : Nat) : Int) := by norm_cast
      have b4 : (H - 1) / z ≤ H - 1 := Nat.div_le_self _ _
      have e5 : (1 : Int) < IntKind.u64.wrap ((M : Int) - (L : Int)) := by rw [IntKind.wrap_u64]; omega
      rw [e3, e4, if_pos e5, or_one _ (by omega)]
    · rw [if_neg c2, if_neg c2]
      have e3 : IntKind.u64.wrap ((H : Int) - 0) = (H : Int) := by rw [IntKind.wrap_u64]; omega
      have e5 : IntKind.u64.wrap ((M : Int) - (L : Int)) = (M : Int) - (L : Int) := by rw [IntKind.wrap_u64]; omega
      rw [e3, d1, e5]
      by_cases c3 : L + 1 < M
      · rw [if_pos (by omega), if_pos c3, or_one _ (by omega)]
      · rw [if_neg (by omega), if_neg c3, or_zero _ (by omega)]
  · rw [if_pos (by rw [bne_iff_ne]; intro h; apply c1; omega), if_pos (show H % z ≠ 0 from c1), or_one _ (by omega)]
theorem round_eq (u : Nat) (h : u < 9223372036854775808) : roundI (u : Int) = (rnd u : Int) := by
  unfold roundI rnd
  have e1 : IntKind.u64.wrap ((u : Int) + 1) = ((u + 1 : Nat) : Int) := by rw [IntKind.wrap_u64]; omega
  have e2 : bits BinOp.and IntKind.u64 ((u : Int) / 4) 1 = ((u / 4 % 2 : Nat) : Int) := by
    have := and_mask .u64 (.inr rfl) (u / 4) 1 (by omega) (by decide)
    have e : ((u : Int) / 4) = ((u / 4 : Nat) : Int) := by norm_cast
    rw [e]
    exact this
  rw [e1, e2, IntKind.wrap_u64]
  omega
theorem nd_id (P : Int) (h0 : -348 ≤ P) (i : Nat) (hi : i = (P + 348).toNat) (lp : Int) (hlp : lp = P * 108853 / 32768) :
    nT i * 10 ^ (-P).toNat * 2 ^ (lp - 127).toNat = dT i * 10 ^ P.toNat * 2 ^ (127 - lp).toNat := by
  have hl : lpT i = lp := by
    unfold lpT
    rw [hlp]
    congr 2
    omega
  unfold nT dT
  rw [hl]
  by_cases h : 348 ≤ i
  · rw [if_pos h, if_pos h, show i - 348 = P.toNat by omega, show (-P).toNat = 0 by omega, Nat.pow_zero, Nat.mul_one]
    ac_rfl
  · rw [if_neg h, if_neg h, show 348 - i = (-P).toNat by omega, show P.toNat = 0 by omega, show (lp - 127).toNat = 0 by omega, Nat.pow_zero, Nat.mul_one]
    ac_rfl
end Go.Proofs.YtbjengfoaobdbaaGreatDoor.fpm

/- Unrounded scaling of a decimal's digits, rounded: the nearest float. Plain. -/
namespace Go.Proofs.YtbjengfoaobdbaaGreatDoor.fpm
open Go Go.RowKit Go.Proofs.YtbjengfoaobdbaaGreatDoor.prnw

/-- the table's fractions lie between 2^127 and (1 - 2^-12) 2^128 -/
def ndB (i : Nat) : Bool := decide (dT i * 170141183460469231731687303715884105728 ≤ nT i) && decide (nT i * 4096 ≤ dT i * 1393456292541243007882519017433090825912320)
theorem ndAll : (List.range 656).all (fun j => ndB (j + 3)) = true := by kernel_rfl
theorem nd_at (i : Nat) (h0 : 3 ≤ i) (h1 : i < 659) : dT i * 170141183460469231731687303715884105728 ≤ nT i ∧ nT i * 4096 ≤ dT i * 1393456292541243007882519017433090825912320 := by
  have := List.all_eq_true.1 ndAll (i - 3) (List.mem_range.2 (by omega))
  rw [show i - 3 + 3 = i by omega] at this
  unfold ndB at this
  simpa using this
/-- a decimal d by ten to P: its value, and the scaled one -/
theorem pq_id (P : Int) (h0 : -348 ≤ P) (i : Nat) (hi : i = (P + 348).toNat) (lp : Int) (hlp : lp = P * 108853 / 32768) (d z s t : Nat) (hs : (s : Int) = z + t - 1074 - lp - 3) :
    d * 10 ^ P.toNat * 2 ^ leB * (4 * (dT i * 2 ^ (128 + s))) = d * 2 ^ z * nT i * 2 ^ t * 10 ^ (-P).toNat := by
  have hid := nd_id P h0 i hi lp hlp
  obtain ⟨u, hu⟩ : ∃ u, u = (lp - 127).toNat := ⟨_, rfl⟩
  obtain ⟨v, hv⟩ : ∃ v, v = (127 - lp).toNat := ⟨_, rfl⟩
  rw [← hu, ← hv] at hid
  have e : 2 ^ leB * (4 * 2 ^ (128 + s)) * 2 ^ u = 2 ^ z * 2 ^ t * 2 ^ v := by
    rw [show (4 : Nat) = 2 ^ 2 by decide, ← Nat.pow_add, ← Nat.pow_add, ← Nat.pow_add, ← Nat.pow_add, ← Nat.pow_add]
    have he := leB_eq
    exact congrArg (fun y : Nat => 2 ^ y) (by omega)
  refine Nat.eq_of_mul_eq_mul_right (Nat.two_pow_pos u) ?_
  generalize 2 ^ leB = x1 at *
  generalize 2 ^ (128 + s) = x2 at *
  generalize 2 ^ u = x3 at *
  generalize 2 ^ z = x4 at *
  generalize 2 ^ t = x5 at *
  generalize 2 ^ v = x6 at *
  generalize 10 ^ P.toNat = T at *
  generalize 10 ^ (-P).toNat = T' at *
  have e1 : d * T * x1 * (4 * (dT i * x2)) * x3 = d * T * dT i * (x1 * (4 * x2) * x3) := by ac_rfl
  have e2 : d * x4 * nT i * x5 * T' * x3 = d * x4 * x5 * (nT i * T' * x3) := by ac_rfl
  rw [e1, e2, e, hid]
  ac_rfl
/-- half of an unrounded number -/
theorem unr_half (A Q : Nat) (hQ : 0 < Q) : (if unr A Q % 2 = 1 then unr A Q / 2 / 2 * 2 + 1 else unr A Q / 2) = unr A (2 * Q) := by
  have h := Nat.div_add_mod A Q
  have hm := Nat.mod_lt A hQ
  obtain ⟨F, hF⟩ : ∃ F, F = A / Q := ⟨_, rfl⟩
  obtain ⟨m, hm2⟩ : ∃ m, m = A % Q := ⟨_, rfl⟩
  rw [← hF, ← hm2] at h
  rw [← hm2] at hm
  have e1 : A / (2 * Q) = F / 2 := by rw [Nat.mul_comm, ← Nat.div_div_eq_div_mul, ← hF]
  have e2 : A % (2 * Q) = 0 ↔ (m = 0 ∧ F % 2 = 0) := by
    have h2 := Nat.div_add_mod A (2 * Q)
    rw [e1] at h2
    have hq : 2 * Q * (F / 2) = Q * (F / 2 * 2) := by rw [Nat.mul_comm 2 Q, Nat.mul_assoc, Nat.mul_comm 2]
    rcases Nat.mod_two_eq_zero_or_one F with hf | hf
    · have hF2 : F / 2 * 2 = F := by omega
      rw [hq, hF2] at h2
      omega
    · have hF2 : F = F / 2 * 2 + 1 := by omega
      have : Q * F = Q * (F / 2 * 2) + Q := by rw [hF2, Nat.mul_add, Nat.mul_one, ← hF2]
      rw [hq] at h2
      omega
  unfold unr
  rw [← hF, ← hm2, e1]
  by_cases h0 : m = 0
  · rw [if_pos h0]
    rcases Nat.mod_two_eq_zero_or_one F with hf | hf
    · rw [if_neg (by omega), if_pos (e2.2 ⟨h0, hf⟩)]
    · rw [if_pos hf, if_neg (fun h => by have := (e2.1 h).2; omega)]
  · rw [if_neg h0, if_pos (by omega), if_neg (fun h => h0 (e2.1 h).1)]
    omega
theorem rnd_spec (A Q : Nat) (hQ : 0 < Q) : 2 * (rnd (unr A Q) * (4 * Q)) ≤ 2 * A + 4 * Q ∧ 2 * A ≤ 2 * (rnd (unr A Q) * (4 * Q)) + 4 * Q ∧
    (rnd (unr A Q) % 2 = 1 → 2 * (rnd (unr A Q) * (4 * Q)) < 2 * A + 4 * Q ∧ 2 * A < 2 * (rnd (unr A Q) * (4 * Q)) + 4 * Q) := by
  obtain ⟨a, b, c⟩ := r_round A Q hQ
  exact ⟨a, b, fun h => by omega⟩
theorem rnd_big (u : Nat) : 36028797018963966 ≤ u ↔ 9007199254740992 ≤ rnd u := by
  unfold rnd
  omega
theorem pf_core (A B N Q t : Nat) (hB : 0 < B) (hQ : 0 < Q) (hq : A * 2 ^ leB * (4 * Q) = N * 2 ^ t * B) (hn : t = 0 ∨ 4503599627370496 * (4 * Q) ≤ N) (hu : N + 4 * Q < 18014398509481984 * (4 * Q)) :
    (¬ 36028797018963966 ≤ unr N Q → Near (t * 4503599627370496 + rnd (unr N Q)) A B ∧ rnd (unr N Q) < 9007199254740992 ∧ (t = 0 ∨ 4503599627370496 ≤ rnd (unr N Q))) ∧
    (36028797018963966 ≤ unr N Q → Near ((t + 1) * 4503599627370496 + rnd (unr N (2 * Q))) A B ∧ rnd (unr N (2 * Q)) < 9007199254740992 ∧ 4503599627370496 ≤ rnd (unr N (2 * Q))) := by
  obtain ⟨D, hD⟩ : ∃ D, D = 4 * Q := ⟨_, rfl⟩
  have hD0 : 0 < D := by omega
  obtain ⟨a, b, c⟩ := rnd_spec N Q hQ
  obtain ⟨a', b', c'⟩ := rnd_spec N (2 * Q) (by omega)
  have hD2 : 4 * (2 * Q) = 2 * D := by omega
  rw [hD2] at a' b' c'
  rw [← hD] at a b c hq hn hu
  have hbig := rnd_big (unr N Q)
  obtain ⟨R, hR⟩ : ∃ R, R = rnd (unr N Q) := ⟨_, rfl⟩
  obtain ⟨R', hR'⟩ : ∃ R', R' = rnd (unr N (2 * Q)) := ⟨_, rfl⟩
  rw [← hR] at a b c hbig
  rw [← hR'] at a' b' c'
  rw [← hR, ← hR']
  -- comparisons of R D with multiples of D
  have le_of : ∀ x y : Nat, x * D ≤ y * D → x ≤ y := fun x y h => Nat.le_of_mul_le_mul_right h hD0
  have e2 : R' * (2 * D) = 2 * R' * D := by ac_rfl
  rw [e2] at a' b' c'
  constructor
  · intro h
    have hlt : R < 9007199254740992 := by omega
    refine ⟨near_mk A B D N t R hB hD0 hq a b c (by omega) hn, hlt, hn.imp_right fun h1 => ?_⟩
    refine Nat.le_of_not_lt fun hl => ?_
    have : R * D ≤ 4503599627370495 * D := Nat.mul_le_mul_right _ (by omega)
    omega
  · intro h
    have hge : 9007199254740992 ≤ R := hbig.1 h
    have hRD : 9007199254740992 * D ≤ R * D := Nat.mul_le_mul_right _ hge
    have hR'lt : R' < 9007199254740992 := by
      refine Nat.lt_of_not_le fun hl => ?_
      have h1 : 2 * 9007199254740992 * D ≤ 2 * R' * D := Nat.mul_le_mul_right _ (by omega)
      omega
    have hR'ge : 4503599627370496 ≤ R' := by
      refine Nat.le_of_not_lt fun hl => ?_
      have h1 : 2 * R' * D ≤ 2 * 4503599627370495 * D := Nat.mul_le_mul_right _ (by omega)
      omega
    refine ⟨?_, hR'lt, hR'ge⟩
    by_cases hv : N < 9007199254740992 * D
    · have hR1 : R = 9007199254740992 := by
        refine Nat.le_antisymm (Nat.le_of_not_lt fun hl => ?_) hge
        have h1 : 9007199254740993 * D ≤ R * D := Nat.mul_le_mul_right _ hl
        omega
      have hR2 : R' = 4503599627370496 := by
        refine Nat.le_antisymm (Nat.le_of_not_lt fun hl => ?_) hR'ge
        have h1 : 2 * 4503599627370497 * D ≤ 2 * R' * D := Nat.mul_le_mul_right _ (by omega)
        omega
      have hX : (t + 1) * 4503599627370496 + R' = t * 4503599627370496 + R := by omega
      rw [hX]
      exact near_mk A B D N t R hB hD0 hq a b c (by omega) hn
    · refine near_mk A B (2 * D) N (t + 1) R' hB (by omega) ?_ (by rw [e2]; exact a') (by rw [e2]; exact b') (fun h => by rw [e2]; exact c' h) (by omega) (.inr (by omega))
      rw [Nat.pow_succ]
      generalize 2 ^ leB = y at *
      generalize 2 ^ t = y2 at *
      have e3 : A * y * (2 * D) = A * y * D * 2 := by ac_rfl
      rw [e3, hq]
      ac_rfl
/-- a decimal d by ten to P, scaled by the table's row: too small for any float but nought -/
theorem pf_zero (P : Int) (h0 : -345 ≤ P) (h1 : P ≤ 310) (lp : Int) (hlp : lp = P * 108853 / 32768) (d z s : Nat) (hx : d * 2 ^ z < 18446744073709551616) (hs : (s : Int) = z - 1074 - lp - 3) (hs2 : 64 ≤ s) :
    Near 0 (d * 10 ^ P.toNat) (10 ^ (-P).toNat) := by
  obtain ⟨i, hi⟩ : ∃ i, i = (P + 348).toNat := ⟨_, rfl⟩
  obtain ⟨n1, n2⟩ := nd_at i (by omega) (by omega)
  have hq := pq_id P (by omega) i hi lp hlp d z s 0 (by omega)
  have hdT := dT_pos i
  obtain ⟨g, hg⟩ : ∃ g, s = 64 + g := ⟨s - 64, by omega⟩
  have hQ : 0 < dT i * 2 ^ (128 + s) := Nat.mul_pos hdT (Nat.two_pow_pos _)
  have hN : d * 2 ^ z * nT i ≤ dT i * 2 ^ (128 + s) := by
    have e1 : (2 : Nat) ^ (128 + s) = 6277101735386680763835789423207666416102355444464034512896 * 2 ^ g := by
      rw [hg, show 128 + (64 + g) = 192 + g by omega, Nat.pow_add]
    have k1 : d * 2 ^ z * nT i ≤ 18446744073709551616 * nT i := Nat.mul_le_mul_right _ (by omega)
    have k2 : dT i * 6277101735386680763835789423207666416102355444464034512896 ≤ dT i * 2 ^ (128 + s) := by
      rw [e1]
      exact Nat.mul_le_mul_left _ (Nat.le_mul_of_pos_right _ (Nat.two_pow_pos g))
    omega
  have := near_mk (d * 10 ^ P.toNat) (10 ^ (-P).toNat) (4 * (dT i * 2 ^ (128 + s))) (d * 2 ^ z * nT i) 0 0 (Nat.pow_pos (by decide)) (by omega) (by rw [hq]) (by omega) (by omega) (fun h => by omega) (by omega) (.inl rfl)
  exact this
/-- .. and else -/
theorem pf_near (P : Int) (h0 : -345 ≤ P) (h1 : P ≤ 310) (lp : Int) (hlp : lp = P * 108853 / 32768) (d z s t : Nat) (hx0 : 9223372036854775808 ≤ d * 2 ^ z) (hx : d * 2 ^ z < 18446744073709551616)
    (hs : (s : Int) = z + t - 1074 - lp - 3) (hs8 : 8 ≤ s) (ht : t = 0 ∨ s = 8) (u : Nat) (hu : u = usN (d * 2 ^ z) (hiT (P + 348).toNat) (loT (P + 348).toNat) s) :
    (¬ 36028797018963966 ≤ u → Near (t * 4503599627370496 + rnd u) (d * 10 ^ P.toNat) (10 ^ (-P).toNat) ∧ rnd u < 9007199254740992 ∧ (t = 0 ∨ 4503599627370496 ≤ rnd u)) ∧
    (36028797018963966 ≤ u → Near ((t + 1) * 4503599627370496 + rnd (if u % 2 = 1 then u / 2 / 2 * 2 + 1 else u / 2)) (d * 10 ^ P.toNat) (10 ^ (-P).toNat) ∧ rnd (if u % 2 = 1 then u / 2 / 2 * 2 + 1 else u / 2) < 9007199254740992 ∧ 4503599627370496 ≤ rnd (if u % 2 = 1 then u / 2 / 2 * 2 + 1 else u / 2)) := by
  obtain ⟨i, hi⟩ : ∃ i, i = (P + 348).toNat := ⟨_, rfl⟩
  rw [← hi] at hu
  obtain ⟨n1, n2⟩ := nd_at i (by omega) (by omega)
  have hq := pq_id P (by omega) i hi lp hlp d z s t hs
  have hdT := dT_pos i
  rw [us_parse i s (d * 2 ^ z) (by omega) (by omega) hs8 hx0 hx] at hu
  have hQ : 0 < dT i * 2 ^ (128 + s) := Nat.mul_pos hdT (Nat.two_pow_pos _)
  obtain ⟨g, hg⟩ : ∃ g, s = 8 + g := ⟨s - 8, by omega⟩
  have e1 : (2 : Nat) ^ (128 + s) = 87112285931760246646623899502532662132736 * 2 ^ g := by
    rw [hg, show 128 + (8 + g) = 136 + g by omega, Nat.pow_add]
  have hn : t = 0 ∨ 4503599627370496 * (4 * (dT i * 2 ^ (128 + s))) ≤ d * 2 ^ z * nT i := by
    refine ht.imp_right fun h => ?_
    have hg0 : g = 0 := by omega
    rw [e1, hg0, Nat.pow_zero, Nat.mul_one]
    have k1 : 9223372036854775808 * nT i ≤ d * 2 ^ z * nT i := Nat.mul_le_mul_right _ hx0
    omega
  have hb : d * 2 ^ z * nT i + 4 * (dT i * 2 ^ (128 + s)) < 18014398509481984 * (4 * (dT i * 2 ^ (128 + s))) := by
    have k1 : d * 2 ^ z * nT i ≤ 18446744073709551616 * nT i := Nat.mul_le_mul_right _ (by omega)
    have k2 : dT i * 87112285931760246646623899502532662132736 ≤ dT i * 2 ^ (128 + s) := by
      rw [e1]
      exact Nat.mul_le_mul_left _ (Nat.le_mul_of_pos_right _ (Nat.two_pow_pos g))
    omega
  rw [hu, unr_half _ _ hQ]
  exact pf_core _ _ _ _ t (Nat.pow_pos (by decide)) hQ hq hn hb
end Go.Proofs.YtbjengfoaobdbaaGreatDoor.fpm
