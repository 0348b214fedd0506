/- The walks of strconv's special and commonPrefixLenIgnoreCase at a decimal. Conditions: as each theorem states. -/
import Derived.Test.YtcbgkbidgpemfaaGreatDoorMp05
import Derived.Test.YtcbgkbidgpemfaaGreatDoorMp03
import Derived.Test.YtcbgkbidgpemfaaGreatDoorMp01
import Derived.Test.YtcbgkbidgpemfaaGreatDoorMp02
import GoSem.PinnedTables
import Derived.KernelRfl
namespace Go.Proofs.YtcbgkbidgpemfaaGreatDoor.rdf
open Go.RowKit
open Go.Proofs.YtcbgkbidgpemfaaGreatDoor.bsw
open Go.Proofs.YtcbgkbidgpemfaaGreatDoor.prnw

end Go.Proofs.YtcbgkbidgpemfaaGreatDoor.rdf

/- The walk of strconv's pack64. Conditions: as each theorem states. -/
namespace Go.Proofs.YtcbgkbidgpemfaaGreatDoor.rdf
open Go.RowKit
open Go.Proofs.YtcbgkbidgpemfaaGreatDoor.bsw
open Go.Proofs.YtcbgkbidgpemfaaGreatDoor.prnw
open Go.Proofs.YtcbgkbidgpemfaaGreatDoor.dcw
open Go.Proofs.YtcbgkbidgpemfaaGreatDoor.dmx

theorem ifrombits_run (n : Int) (w : World) : (callFunc 252 #[.int .u64 n]).run Tryz.prog w = .ok (.value (.float .f64 n.toNat)) w := by
  rw [@run_callFunc_extern Tryz.prog 252 _ Extern.MathFloatBits.float64frombits Tryz.func252 (by kernel_rfl) (by kernel_rfl) (by kernel_rfl) (by kernel_rfl)]
  rfl
attribute [local go_sem] ifrombits_run
theorem or52s (neg : Bool) (r b : Nat) (hr : r < 4503599627370496) (hb : b < 2048) : bits BinOp.or IntKind.u64 ((sgn neg r : Nat) : Int) ((b * 4503599627370496 : Nat) : Int) = ((sgn neg (b * 4503599627370496 + r) : Nat) : Int) := by
  have e : bits BinOp.or IntKind.u64 ((sgn neg r : Nat) : Int) ((b * 4503599627370496 : Nat) : Int) = IntKind.u64.wrap (((BitVec.ofInt 64 ((sgn neg r : Nat) : Int) ||| BitVec.ofInt 64 ((b * 4503599627370496 : Nat) : Int)).toNat : Nat) : Int) := rfl
  have hs : sgn neg r < 18446744073709551616 := by unfold sgn; split <;> omega
  have p63 : (2 : Nat) ^ 63 = 9223372036854775808 := by decide
  have h1 : 9223372036854775808 + r = 2 ^ 63 * 1 ||| r := (show 9223372036854775808 + r = 2 ^ 63 * 1 + r by omega).trans (Nat.two_pow_add_eq_or_of_lt (i := 63) (by rw [p63]; omega) 1)
  have h0 : b * 4503599627370496 + r = b * 4503599627370496 ||| r := by
    rw [Nat.mul_comm b]
    exact Nat.two_pow_add_eq_or_of_lt (i := 52) (by simpa using hr) b
  have h2 : 9223372036854775808 + (b * 4503599627370496 + r) = 2 ^ 63 * 1 ||| (b * 4503599627370496 + r) := (show 9223372036854775808 + (b * 4503599627370496 + r) = 2 ^ 63 * 1 + (b * 4503599627370496 + r) by omega).trans (Nat.two_pow_add_eq_or_of_lt (i := 63) (by rw [p63]; omega) 1)
  have h4 : sgn neg r ||| b * 4503599627370496 = sgn neg (b * 4503599627370496 + r) := by
    cases neg with
    | true =>
      show (9223372036854775808 + r) ||| b * 4503599627370496 = 9223372036854775808 + (b * 4503599627370496 + r)
      rw [h2, h1, h0, Nat.or_assoc, Nat.or_comm r]
    | false =>
      show r ||| b * 4503599627370496 = b * 4503599627370496 + r
      rw [h0, Nat.or_comm]
  have hs3 : sgn neg (b * 4503599627370496 + r) < 18446744073709551616 := by unfold sgn; split <;> omega
  rw [e, BitVec.toNat_or, bv_nat _ hs, bv_nat _ (by omega), h4, IntKind.wrap_u64]
  omega
end Go.Proofs.YtcbgkbidgpemfaaGreatDoor.rdf

/- Unrounded scaling. No conditions but those stated. -/
namespace Go.Proofs.YtcbgkbidgpemfaaGreatDoor.prnw
open Go.RowKit

theorem and63 (s : Int) : 0 ≤ bits BinOp.and IntKind.i64 s 63 ∧ bits BinOp.and IntKind.i64 s 63 ≤ 63 := by
  have h : bits BinOp.and IntKind.i64 s 63 = IntKind.i64.wrap (((BitVec.ofInt 64 s &&& BitVec.ofInt 64 63).toNat : Nat) : Int) := rfl
  have h2 : (BitVec.ofInt 64 s &&& BitVec.ofInt 64 63).toNat ≤ 63 := by
    rw [BitVec.toNat_and]
    exact Nat.le_trans Nat.and_le_right (by decide)
  rw [h, IntKind.wrap_i64]
  omega
theorem or_bd (a b : Int) : 0 ≤ bits BinOp.or IntKind.u64 a b ∧ bits BinOp.or IntKind.u64 a b < 18446744073709551616 := w64 _
/-- what unrounded scaling answers -/
def usI (x hi lo : Nat) (s : Int) : Int :=
  if (IntKind.u64.wrap (((x * hi / 18446744073709551616 : Nat) : Int) / 2 ^ (bits BinOp.and IntKind.i64 s 63).toNat * 2 ^ (bits BinOp.and IntKind.i64 s 63).toNat) != ((x * hi / 18446744073709551616 : Nat) : Int)) = true then bits BinOp.or IntKind.u64 (((x * hi / 18446744073709551616 : Nat) : Int) / 2 ^ (bits BinOp.and IntKind.i64 s 63).toNat) 1
  else bits BinOp.or IntKind.u64 (IntKind.u64.wrap (((x * hi / 18446744073709551616 : Nat) : Int) - (if x * hi % 18446744073709551616 < x * lo / 18446744073709551616 then 1 else 0)) / 2 ^ (bits BinOp.and IntKind.i64 s 63).toNat)
    (if 1 < IntKind.u64.wrap (((x * hi % 18446744073709551616 : Nat) : Int) - ((x * lo / 18446744073709551616 : Nat) : Int)) then 1 else 0)
theorem us_bd (x hi lo : Nat) (s : Int) : 0 ≤ usI x hi lo s ∧ usI x hi lo s < 18446744073709551616 := by
  unfold usI
  split
  · exact or_bd _ _
  · exact or_bd _ _
def UsPost (w : World) (r : Int) (e : Ending) (w' : World) : Prop := e = .returned (.int .u64 r) ∧ ∃ n, w' = w.drewN n
set_option maxRecDepth 100000 in
set_option maxHeartbeats 1000000 in
theorem uscale_any (x hi lo : Nat) (s : Int) (hx : x < 18446744073709551616) (hh : hi < 18446744073709551616) (hlo : lo < 18446744073709551616) (pb : Nat) (w : World) (hb : SC w pb hi lo s) :
    Calls Tryz.prog 221 #[.int .u64 x, .pointer (some ⟨pb, 0, none⟩)] w (UsPost w (usI x hi lo s)) := by
  have d0 : w.cell? ⟨pb, 0, none⟩ = some (.int .u64 (hi : Nat)) := by rw [cell_of_row _ _ _ _ _ _ hb]; rfl
  have d1 : w.cell? ⟨pb, 1, none⟩ = some (.int .u64 (lo : Nat)) := by rw [cell_of_row _ _ _ _ _ _ hb]; rfl
  have d2 : w.cell? ⟨pb, 2, none⟩ = some (.int .i64 s) := by rw [cell_of_row _ _ _ _ _ _ hb]; rfl
  have m1 := Tryz.bits_Mul64 x hi hx hh w
  have m2 := Tryz.bits_Mul64 x lo hx hlo w
  obtain ⟨R, hR⟩ : ∃ R, usI x hi lo s = R := ⟨_, rfl⟩
  rw [hR]
  unfold usI at hR
  obtain ⟨k, hk⟩ : ∃ k : Int, bits BinOp.and IntKind.i64 s 63 = k := ⟨_, rfl⟩
  have k0 : 0 ≤ k := by rw [← hk]; exact (and63 s).1
  have k1 : k ≤ 63 := by rw [← hk]; exact (and63 s).2
  rw [hk] at hR
  have H1 : ((x * hi / 18446744073709551616 : Nat) : Int) < 18446744073709551616 := by
    have h1 : x * hi < 18446744073709551616 * 18446744073709551616 := Nat.mul_lt_mul_of_lt_of_lt hx hh
    have := Nat.div_lt_of_lt_mul h1
    omega
  obtain ⟨H, hH⟩ : ∃ H, x * hi / 18446744073709551616 = H := ⟨_, rfl⟩
  obtain ⟨M, hM⟩ : ∃ M, x * hi % 18446744073709551616 = M := ⟨_, rfl⟩
  obtain ⟨L, hL⟩ : ∃ L, x * lo / 18446744073709551616 = L := ⟨_, rfl⟩
  rw [hH] at H1
  rw [hH, hM] at m1
  rw [hL] at m2
  rw [hH, hM, hL] at hR
  have N1 := Lib.hid m1
  have N2 := Lib.hid m2
  have H0 : (0 : Int) ≤ (H : Int) := by omega
  have HR := Lib.hid hR
  clear hH hM hL m1 m2 hb hR
  go_enter Tryz.func221, Tryz.ntmps221
  go_wp2_with fail
  (with_reducible refine N1.out.mono ?_)
  rintro e w' ⟨rfl, hw'⟩
  obtain rfl := hw'.symm
  go_upto_region 3 with (fail)
  clear hk
  go_upto_if 30 with (fail)
  cases hb1 : (IntKind.u64.wrap ((H : Int) / 2 ^ k.toNat * 2 ^ k.toNat) != (H : Int)) with
  | true =>
    have hR2 := HR.out
    rw [if_pos hb1] at hR2
    have HR2 := Lib.hid hR2
    clear hb1 hR2
    go_wp2_with fail
    go_ret
    exact ⟨by rw [HR2.out]; rfl, 0, rfl⟩
  | false =>
    have hR2 := HR.out
    rw [if_neg (by rw [hb1]; decide)] at hR2
    have HR2 := Lib.hid hR2
    clear hb1 hR2
    go_wp2_with fail
    (with_reducible refine N2.out.mono ?_)
    rintro e w' ⟨rfl, hw'⟩
    obtain rfl := hw'.symm
    go_wp2_with fail
    (with_reducible refine (b2u _ _).mono ?_)
    rintro e w' ⟨rfl, hw'⟩
    obtain rfl := hw'.symm
    go_upto_region 7 with (fail)
    clear H1
    go_quiet (exact Calls.quiet_of_same (b2u _ _))
    all_goals go_wp2_with fail
    all_goals go_ret
    all_goals refine ⟨?_, nq, rfl⟩
    all_goals rw [← HR2.out]
    all_goals (repeat (first | rw [if_pos (by assumption)] | rw [if_neg (by assumption)] | rw [if_neg (by omega)] | rw [if_pos (by omega)]))
    all_goals rfl
end Go.Proofs.YtcbgkbidgpemfaaGreatDoor.prnw

/- Unrounded scaling: what it answers is right. Plain. -/
namespace Go.Proofs.YtcbgkbidgpemfaaGreatDoor.fpm

/-- a quotient, with a mark in its last bit if something is left over -/
def unr (A Q : Nat) : Nat := if A % Q = 0 then A / Q else A / Q / 2 * 2 + 1
/-- unrounded scaling, in plain numbers -/
def usN (x hi lo s : Nat) : Nat :=
  if x * hi / 18446744073709551616 % 2 ^ s ≠ 0 then x * hi / 18446744073709551616 / 2 ^ s / 2 * 2 + 1
  else if x * hi % 18446744073709551616 < x * lo / 18446744073709551616 then (x * hi / 18446744073709551616 - 1) / 2 ^ s / 2 * 2 + 1
  else if x * lo / 18446744073709551616 + 1 < x * hi % 18446744073709551616 then x * hi / 18446744073709551616 / 2 ^ s / 2 * 2 + 1
  else x * hi / 18446744073709551616 / 2 ^ s
theorem unr_in {A Q F : Nat} (h1 : F * Q < A) (h2 : A < (F + 1) * Q) : unr A Q = F / 2 * 2 + 1 := by
  have hQ : 0 < Q := by
    apply Nat.pos_of_ne_zero
    intro e
    rw [e] at h2
    omega
  have hd : A / Q = F := by
    apply Nat.le_antisymm
    · exact Nat.le_of_lt_succ ((Nat.div_lt_iff_lt_mul hQ).2 h2)
    · exact (Nat.le_div_iff_mul_le hQ).2 (Nat.le_of_lt h1)
  have hm : A % Q ≠ 0 := by
    intro e
    have := Nat.div_add_mod A Q
    rw [hd, e, Nat.mul_comm] at this
    omega
  unfold unr
  rw [if_neg hm, hd]
theorem unr_eq {F Q : Nat} (hQ : 0 < Q) : unr (F * Q) Q = F := by
  unfold unr
  rw [if_pos (Nat.mul_mod_left F Q), Nat.mul_div_cancel _ hQ]
/-- the law: no near miss of an even number -/
theorem us_spec (x hi lo s N D : Nat) (hx : x < 18446744073709551616) (hlo : lo < 18446744073709551616) (hD : 0 < D)
    (h1 : N + lo * D ≤ hi * 18446744073709551616 * D) (h2 : hi * 18446744073709551616 * D < N + lo * D + D)
    (hnm : ∀ j, x * N = j * (2 * (D * 2 ^ (128 + s))) ∨ x * N + 36893488147419103232 * D ≤ j * (2 * (D * 2 ^ (128 + s))) ∨ j * (2 * (D * 2 ^ (128 + s))) + 36893488147419103232 * D ≤ x * N) :
    usN x hi lo s = unr (x * N) (D * 2 ^ (128 + s)) := by
  by_cases hx0 : x = 0
  · subst hx0
    unfold usN unr
    simp
  obtain ⟨P2, hP2⟩ : ∃ P2, P2 = 18446744073709551616 * D := ⟨_, rfl⟩
  obtain ⟨P1, hP1⟩ : ∃ P1, P1 = 18446744073709551616 * P2 := ⟨_, rfl⟩
  have hQ : D * 2 ^ (128 + s) = 2 ^ s * P1 := by
    rw [hP1, hP2, Nat.pow_add, show (2 : Nat) ^ 128 = 18446744073709551616 * 18446744073709551616 by decide]
    generalize 2 ^ s = z
    rw [Nat.mul_comm D, Nat.mul_comm _ z, Nat.mul_assoc z, Nat.mul_assoc]
  rw [hQ] at hnm ⊢
  have p2 : 0 < P2 := by omega
  have p1 : 0 < P1 := by omega
  have ps : 0 < 2 ^ s := Nat.two_pow_pos s
  -- the parts
  obtain ⟨H, hH⟩ : ∃ H, H = x * hi / 18446744073709551616 := ⟨_, rfl⟩
  obtain ⟨M, hM⟩ : ∃ M, M = x * hi % 18446744073709551616 := ⟨_, rfl⟩
  obtain ⟨L, hL⟩ : ∃ L, L = x * lo / 18446744073709551616 := ⟨_, rfl⟩
  obtain ⟨r, hr⟩ : ∃ r, r = x * lo % 18446744073709551616 := ⟨_, rfl⟩
  have eH : x * hi = 18446744073709551616 * H + M := by omega
  have eL : x * lo = 18446744073709551616 * L + r := by omega
  have bM : M < 18446744073709551616 := by omega
  have br : r < 18446744073709551616 := by omega
  obtain ⟨A, hA⟩ : ∃ A, A = x * N := ⟨_, rfl⟩
  have k1 : A + (L * P2 + r * D) ≤ H * P1 + M * P2 := by
    have h := Nat.mul_le_mul_left x h1
    rw [Nat.mul_add, ← Nat.mul_assoc x lo, ← hA, eL, ← Nat.mul_assoc x, ← Nat.mul_assoc x, eH] at h
    have e1 : (18446744073709551616 * L + r) * D = L * P2 + r * D := by rw [hP2, Nat.add_mul, Nat.mul_comm _ L, Nat.mul_assoc]
    have e2 : (18446744073709551616 * H + M) * 18446744073709551616 * D = H * P1 + M * P2 := by
      rw [hP1, hP2, Nat.mul_assoc, Nat.add_mul, Nat.mul_comm _ H, Nat.mul_assoc]
    rw [e1, e2] at h
    exact h
  have k2 : H * P1 + M * P2 < A + (L * P2 + r * D) + x * D := by
    have h := (Nat.mul_lt_mul_left (show 0 < x by omega)).2 h2
    rw [Nat.mul_add, Nat.mul_add, ← Nat.mul_assoc x lo, ← hA, eL, ← Nat.mul_assoc x, ← Nat.mul_assoc x, eH] at h
    have e1 : (18446744073709551616 * L + r) * D = L * P2 + r * D := by rw [hP2, Nat.add_mul, Nat.mul_comm _ L, Nat.mul_assoc]
    have e2 : (18446744073709551616 * H + M) * 18446744073709551616 * D = H * P1 + M * P2 := by
      rw [hP1, hP2, Nat.mul_assoc, Nat.add_mul, Nat.mul_comm _ H, Nat.mul_assoc]
    rw [e1, e2] at h
    exact h
  have k3 : L * P2 + r * D + x * D ≤ x * P2 := by
    have h : x * (lo + 1) ≤ x * 18446744073709551616 := Nat.mul_le_mul_left x hlo
    rw [Nat.mul_add, Nat.mul_one, eL] at h
    have h := Nat.mul_le_mul_right D h
    rw [Nat.mul_assoc x, ← hP2] at h
    have e1 : (18446744073709551616 * L + r + x) * D = L * P2 + r * D + x * D := by rw [hP2, Nat.add_mul, Nat.add_mul, Nat.mul_comm _ L, Nat.mul_assoc]
    rw [e1] at h
    exact h
  have k4 : x * P2 + P2 ≤ P1 := by
    have h := Nat.mul_le_mul_right P2 (show x + 1 ≤ 18446744073709551616 by omega)
    rw [Nat.add_mul, Nat.one_mul, ← hP1] at h
    exact h
  have k5 : M * P2 + P2 ≤ P1 := by
    have h := Nat.mul_le_mul_right P2 (show M + 1 ≤ 18446744073709551616 by omega)
    rw [Nat.add_mul, Nat.one_mul, ← hP1] at h
    exact h
  have k6 : r * D + D ≤ P2 := by
    have h := Nat.mul_le_mul_right D (show r + 1 ≤ 18446744073709551616 by omega)
    rw [Nat.add_mul, Nat.one_mul, ← hP2] at h
    exact h
  have k7 : x * D + D ≤ P2 := by
    have h := Nat.mul_le_mul_right D (show x + 1 ≤ 18446744073709551616 by omega)
    rw [Nat.add_mul, Nat.one_mul, ← hP2] at h
    exact h
  obtain ⟨F, hF⟩ : ∃ F, F = H / 2 ^ s := ⟨_, rfl⟩
  obtain ⟨h', hh⟩ : ∃ h', h' = H % 2 ^ s := ⟨_, rfl⟩
  have eF : H = F * 2 ^ s + h' := by
    have := Nat.div_add_mod H (2 ^ s)
    rw [← hF, ← hh, Nat.mul_comm] at this
    exact this.symm
  have bh : h' < 2 ^ s := by rw [hh]; exact Nat.mod_lt _ ps
  obtain ⟨Q, hQd⟩ : ∃ Q, Q = 2 ^ s * P1 := ⟨_, rfl⟩
  have eHP : H * P1 = F * Q + h' * P1 := by rw [hQd, eF, Nat.add_mul, Nat.mul_assoc]
  have eF1 : (F + 1) * Q = F * Q + Q := by rw [Nat.add_mul, Nat.one_mul]
  unfold usN
  rw [← hQd] at hnm ⊢
  rw [← hH, ← hM, ← hL, ← hF, ← hh, ← hA]
  rw [← hA] at hnm
  by_cases c1 : h' = 0
  · rw [if_neg (by omega)]
    rw [c1, Nat.zero_mul, Nat.add_zero] at eHP
    by_cases c2 : M < L
    · -- the part behind the point is below nothing
      rw [if_pos c2]
      have q1 : (M + 1) * P2 ≤ L * P2 := Nat.mul_le_mul_right P2 c2
      rw [Nat.add_mul, Nat.one_mul] at q1
      have hF0 : F ≠ 0 := by
        intro e
        rw [e, Nat.zero_mul] at eHP
        omega
      obtain ⟨F', rfl⟩ : ∃ F', F = F' + 1 := ⟨F - 1, by omega⟩
      have hd : (H - 1) / 2 ^ s = F' := by
        rw [eF, c1, Nat.add_zero, Nat.add_mul, Nat.one_mul]
        apply Nat.le_antisymm
        · exact Nat.le_of_lt_succ ((Nat.div_lt_iff_lt_mul ps).2 (by rw [Nat.succ_mul]; omega))
        · exact (Nat.le_div_iff_mul_le ps).2 (by omega)
      rw [hd]
      have qq : P1 ≤ Q := by rw [hQd]; exact Nat.le_mul_of_pos_left P1 ps
      have e2 : (F' + 1) * Q = F' * Q + Q := by rw [Nat.add_mul, Nat.one_mul]
      exact (unr_in (by omega) (by omega)).symm
    · rw [if_neg c2]
      by_cases c3 : L + 1 < M
      · rw [if_pos c3]
        have q1 : (L + 2) * P2 ≤ M * P2 := Nat.mul_le_mul_right P2 c3
        rw [Nat.add_mul] at q1
        have qq : P1 ≤ Q := by rw [hQd]; exact Nat.le_mul_of_pos_left P1 ps
        exact (unr_in (by omega) (by omega)).symm
      · rw [if_neg c3]
        have q1 : L * P2 ≤ M * P2 := Nat.mul_le_mul_right P2 (by omega)
        have q2 : M * P2 ≤ (L + 1) * P2 := Nat.mul_le_mul_right P2 (by omega)
        rw [Nat.add_mul, Nat.one_mul] at q2
        have qq : P1 ≤ Q := by rw [hQd]; exact Nat.le_mul_of_pos_left P1 ps
        have hQ0 : 0 < Q := by omega
        rcases Nat.mod_two_eq_zero_or_one F with ev | od
        · obtain ⟨j, rfl⟩ : ∃ j, F = 2 * j := ⟨F / 2, by omega⟩
          have hj : 2 * j * Q = j * (2 * Q) := by rw [Nat.mul_comm 2 j, Nat.mul_assoc]
          have he : A = 2 * j * Q := by
            rcases hnm j with h | h | h
            · rw [hj]; exact h
            · omega
            · omega
          rw [he, unr_eq hQ0]
        · by_cases c4 : A = F * Q
          · rw [c4, unr_eq hQ0]
          · by_cases c5 : F * Q < A
            · rw [unr_in c5 (by omega)]
              omega
            · obtain ⟨F', rfl⟩ : ∃ F', F = F' + 1 := ⟨F - 1, by omega⟩
              have e2 : (F' + 1) * Q = F' * Q + Q := by rw [Nat.add_mul, Nat.one_mul]
              rw [unr_in (F := F') (by omega) (by omega)]
              omega
  · rw [if_pos c1]
    have q1 : 1 * P1 ≤ h' * P1 := Nat.mul_le_mul_right P1 (by omega)
    rw [Nat.one_mul] at q1
    have q2 : (h' + 1) * P1 ≤ Q := by rw [hQd]; exact Nat.mul_le_mul_right P1 bh
    rw [Nat.add_mul, Nat.one_mul] at q2
    exact (unr_in (by omega) (by omega)).symm
end Go.Proofs.YtcbgkbidgpemfaaGreatDoor.fpm

/- No near misses: a certificate of two neighbouring fractions. Plain. -/
namespace Go.Proofs.YtcbgkbidgpemfaaGreatDoor.fpm

theorem mulI_pos {a b : Int} (ha : 1 ≤ a) (hb : 0 ≤ b) : b ≤ a * b := by
  have h := Int.mul_le_mul_of_nonneg_right ha hb
  rwa [Int.one_mul] at h
/-- the certificate: q1/p1 and q2/p2 are neighbours, one on each side of den/num -/
def certB (num den T q1 p1 q2 p2 X Y : Nat) : Bool :=
  decide (p2 * q1 = p1 * q2 + 1) && decide (p1 * den ≤ q1 * num) && decide (q2 * num ≤ p2 * den) &&
  (decide (q1 * num = p1 * den) || decide (p1 * den + T ≤ q1 * num)) &&
  (decide (q2 * num = p2 * den) || decide (q2 * num + T ≤ p2 * den) || (decide (p1 * den + T ≤ q1 * num) && decide (T + Y / q2 * (q2 * num) ≤ Y / q2 * (p2 * den)))) &&
  (decide (X ≤ q1 + q2) || decide (q1 * num = p1 * den) || decide (q2 * num = p2 * den))
theorem nm_of_cert {num den T q1 p1 q2 p2 X Y : Nat} (hc : certB num den T q1 p1 q2 p2 X Y = true) (y j : Nat) (hy0 : 0 < y) (hyX : y < X) (hyY : Y ≤ y) :
    y * num = j * den ∨ y * num + T ≤ j * den ∨ j * den + T ≤ y * num := by
  unfold certB at hc
  simp only [Bool.and_eq_true, Bool.or_eq_true, decide_eq_true_eq] at hc
  obtain ⟨⟨⟨⟨⟨hdet, hl⟩, hu⟩, hd1⟩, hd2⟩, hX⟩ := hc
  -- the coordinates
  obtain ⟨a, ha⟩ : ∃ a : Int, a = (y : Int) * p2 - (j : Int) * q2 := ⟨_, rfl⟩
  obtain ⟨b, hb⟩ : ∃ b : Int, b = (j : Int) * q1 - (y : Int) * p1 := ⟨_, rfl⟩
  have hdetI : (p2 : Int) * q1 = p1 * q2 + 1 := by exact_mod_cast hdet
  have ey : (y : Int) = a * q1 + b * q2 := by
    rw [ha, hb, Int.sub_mul, Int.sub_mul, Int.mul_assoc, Int.mul_assoc (y : Int), hdetI, Int.mul_add, Int.mul_one]
    have : (j : Int) * q2 * q1 = j * q1 * q2 := by rw [Int.mul_assoc, Int.mul_comm (q2 : Int), ← Int.mul_assoc]
    omega
  have ej : (j : Int) = a * p1 + b * p2 := by
    rw [ha, hb, Int.sub_mul, Int.sub_mul, Int.mul_assoc (j : Int) q1, Int.mul_comm (q1 : Int) p2, hdetI, Int.mul_add, Int.mul_one]
    have e1 : (y : Int) * p2 * p1 = y * p1 * p2 := by rw [Int.mul_assoc, Int.mul_comm (p2 : Int), ← Int.mul_assoc]
    have e2 : (j : Int) * q2 * p1 = j * (p1 * q2) := by rw [Int.mul_assoc, Int.mul_comm (q2 : Int)]
    omega
  obtain ⟨d1, hd1e⟩ : ∃ d1 : Int, d1 = (q1 : Int) * num - p1 * den := ⟨_, rfl⟩
  obtain ⟨d2, hd2e⟩ : ∃ d2 : Int, d2 = (p2 : Int) * den - q2 * num := ⟨_, rfl⟩
  have hd1p : 0 ≤ d1 := by
    have : (p1 : Int) * den ≤ q1 * num := by exact_mod_cast hl
    omega
  have hd2p : 0 ≤ d2 := by
    have : (q2 : Int) * num ≤ p2 * den := by exact_mod_cast hu
    omega
  have ev : (y : Int) * num - j * den = a * d1 - b * d2 := by
    rw [ey, ej, hd1e, hd2e, Int.add_mul, Int.add_mul, Int.mul_sub, Int.mul_sub, Int.mul_assoc, Int.mul_assoc, Int.mul_assoc, Int.mul_assoc]
    omega
  have c1 : d1 = 0 ∨ (T : Int) ≤ d1 := by
    rcases hd1 with h | h
    · left
      have : (q1 : Int) * num = p1 * den := by exact_mod_cast h
      omega
    · right
      have : (p1 : Int) * den + T ≤ q1 * num := by exact_mod_cast h
      omega
  have c2 : d2 = 0 ∨ (T : Int) ≤ d2 ∨ ((T : Int) ≤ d1 ∧ (T : Int) ≤ ((Y / q2 : Nat) : Int) * d2) := by
    rcases hd2 with (h | h) | ⟨h, h'⟩
    · left
      have : (q2 : Int) * num = p2 * den := by exact_mod_cast h
      omega
    · right; left
      have : (q2 : Int) * num + T ≤ p2 * den := by exact_mod_cast h
      omega
    · right; right
      refine ⟨?_, ?_⟩
      · have : (p1 : Int) * den + T ≤ q1 * num := by exact_mod_cast h
        omega
      · have : (T : Int) + ((Y / q2 : Nat) : Int) * (q2 * num) ≤ ((Y / q2 : Nat) : Int) * (p2 * den) := by exact_mod_cast h'
        rw [hd2e, Int.mul_sub]
        omega
  -- what is to be shown, in integers
  suffices hS : a * d1 - b * d2 = 0 ∨ a * d1 - b * d2 ≤ -(T : Int) ∨ (T : Int) ≤ a * d1 - b * d2 by
    rcases hS with h | h | h
    · left
      have : (y : Int) * num = j * den := by omega
      exact_mod_cast this
    · right; left
      have : (y : Int) * num + T ≤ j * den := by omega
      exact_mod_cast this
    · right; right
      have : (j : Int) * den + T ≤ y * num := by omega
      exact_mod_cast this
  by_cases ha1 : 1 ≤ a
  · have m1 : d1 ≤ a * d1 := mulI_pos ha1 hd1p
    by_cases hb1 : 1 ≤ b
    · have m2 : d2 ≤ b * d2 := mulI_pos hb1 hd2p
      have hz : d1 = 0 ∨ d2 = 0 := by
        rcases hX with (h | h) | h
        · exfalso
          have n1 : (q1 : Int) ≤ a * q1 := mulI_pos ha1 (by omega)
          have n2 : (q2 : Int) ≤ b * q2 := mulI_pos hb1 (by omega)
          omega
        · left
          have : (q1 : Int) * num = p1 * den := by exact_mod_cast h
          omega
        · right
          have : (q2 : Int) * num = p2 * den := by exact_mod_cast h
          omega
      rcases hz with h | h
      · rw [h, Int.mul_zero]
        rcases c2 with g | g | ⟨g, _⟩
        · rw [g, Int.mul_zero]; omega
        · omega
        · have hT : (T : Int) ≤ 0 := by omega
          omega
      · rw [h, Int.mul_zero]
        rcases c1 with g | g
        · rw [g, Int.mul_zero]; omega
        · omega
    · -- b ≤ 0
      have m2 : b * d2 ≤ 0 := by
        have := Int.mul_le_mul_of_nonneg_right (show b ≤ 0 by omega) hd2p
        rwa [Int.zero_mul] at this
      rcases c1 with g | g
      · rw [g, Int.mul_zero]
        by_cases hb0 : b = 0
        · left; rw [hb0]; omega
        · have hbn : 1 ≤ -b := by omega
          have m3 : d2 ≤ (-b) * d2 := mulI_pos hbn hd2p
          rw [Int.neg_mul] at m3
          rcases c2 with k | k | ⟨k, _⟩
          · left; rw [k]; omega
          · omega
          · have hT : (T : Int) ≤ 0 := by omega
            omega
      · omega
  · have m1 : a * d1 ≤ 0 := by
      have := Int.mul_le_mul_of_nonneg_right (show a ≤ 0 by omega) hd1p
      rwa [Int.zero_mul] at this
    by_cases hb1 : 1 ≤ b
    · have m2 : d2 ≤ b * d2 := mulI_pos hb1 hd2p
      rcases c2 with g | g | ⟨g, g'⟩
      · rw [g, Int.mul_zero]
        by_cases ha0 : a = 0
        · left; rw [ha0]; omega
        · have han : 1 ≤ -a := by omega
          have m3 : d1 ≤ (-a) * d1 := mulI_pos han hd1p
          rw [Int.neg_mul] at m3
          rcases c1 with k | k
          · left; rw [k]; omega
          · omega
      · omega
      · by_cases ha0 : a = 0
        · -- y = b * q2, and y is great
          have e1 : (y : Int) = b * q2 := by rw [ey, ha0]; omega
          have hq : ((Y / q2 : Nat) : Int) ≤ b := by
            obtain ⟨bn, rfl⟩ := Int.eq_ofNat_of_zero_le (show 0 ≤ b by omega)
            have e2 : y = bn * q2 := by exact_mod_cast e1
            have : Y / q2 ≤ bn := by
              have h3 : Y ≤ bn * q2 := by omega
              by_cases hq0 : q2 = 0
              · rw [hq0]; simp
              · calc Y / q2 ≤ bn * q2 / q2 := Nat.div_le_div_right h3
                  _ = bn := Nat.mul_div_cancel _ (by omega)
            omega
          have := Int.mul_le_mul_of_nonneg_right hq hd2p
          omega
        · have han : 1 ≤ -a := by omega
          have m3 : d1 ≤ (-a) * d1 := mulI_pos han hd1p
          rw [Int.neg_mul] at m3
          omega
    · exfalso
      have n1 : a * q1 ≤ 0 := by
        have := Int.mul_le_mul_of_nonneg_right (show a ≤ 0 by omega) (show (0 : Int) ≤ q1 by omega)
        rwa [Int.zero_mul] at this
      have n2 : b * q2 ≤ 0 := by
        have := Int.mul_le_mul_of_nonneg_right (show b ≤ 0 by omega) (show (0 : Int) ≤ q2 by omega)
        rwa [Int.zero_mul] at this
      omega
end Go.Proofs.YtcbgkbidgpemfaaGreatDoor.fpm

/- The table of powers of ten is right, and unrounded scaling has no near miss: checked by the kernel. Plain. -/
namespace Go.Proofs.YtcbgkbidgpemfaaGreatDoor.fpm

def hiT (i : Nat) : Nat := (Go.Pinned.pow10Rows.getD i (0, 0)).1
def loT (i : Nat) : Nat := (Go.Pinned.pow10Rows.getD i (0, 0)).2
/-- the binary logarithm of ten to the power i - 348 -/
def lpT (i : Nat) : Int := ((i : Int) - 348) * 108853 / 32768
/-- ten to the power i - 348, set to 128 binary digits, as a fraction -/
def nT (i : Nat) : Nat := if 348 ≤ i then 10 ^ (i - 348) * 2 ^ (127 - lpT i).toNat else 2 ^ (127 - lpT i).toNat
def dT (i : Nat) : Nat := if 348 ≤ i then 2 ^ (lpT i - 127).toNat else 10 ^ (348 - i)
def rowB (i : Nat) (x : Nat × Nat) : Bool := decide (9223372036854775808 ≤ x.1) && decide (x.1 < 18446744073709551616) && decide (x.2 < 18446744073709551616) &&
  decide (nT i + x.2 * dT i ≤ x.1 * 18446744073709551616 * dT i) && decide (x.1 * 18446744073709551616 * dT i < nT i + x.2 * dT i + dT i)
def allB (f : Nat → Nat × Nat → Bool) : Nat → List (Nat × Nat) → Bool
  | _, [] => true
  | i, x :: r => f i x && allB f (i + 1) r
theorem all_at (f : Nat → Nat × Nat → Bool) : ∀ (l : List (Nat × Nat)) (i k : Nat), allB f i l = true → (h : k < l.length) → f (i + k) l[k] = true
  | x :: r, i, 0, hB, _ => by
    simp only [allB, Bool.and_eq_true] at hB
    exact hB.1
  | x :: r, i, k + 1, hB, h => by
    simp only [allB, Bool.and_eq_true] at hB
    have := all_at f r (i + 1) k hB.2 (by simpa using h)
    rw [show i + (k + 1) = i + 1 + k by omega]
    exact this
theorem rowsB : allB rowB 0 Go.Pinned.pow10Rows = true := by kernel_rfl
theorem rowsLen : Go.Pinned.pow10Rows.length = 696 := by kernel_rfl
theorem row_at (i : Nat) (h : i < 696) : rowB i (hiT i, loT i) = true := by
  have hl : i < Go.Pinned.pow10Rows.length := by rw [rowsLen]; exact h
  have := all_at rowB _ 0 i rowsB hl
  unfold hiT loT
  rw [List.getD_eq_getElem?_getD, List.getElem?_eq_getElem hl]
  rw [Nat.zero_add] at this
  exact this
theorem row_spec (i : Nat) (h : i < 696) : 9223372036854775808 ≤ hiT i ∧ hiT i < 18446744073709551616 ∧ loT i < 18446744073709551616 ∧ nT i + loT i * dT i ≤ hiT i * 18446744073709551616 * dT i ∧ hiT i * 18446744073709551616 * dT i < nT i + loT i * dT i + dT i := by
  have := row_at i h
  unfold rowB at this
  simp only [Bool.and_eq_true, decide_eq_true_eq] at this
  obtain ⟨⟨⟨⟨a, b⟩, c⟩, d⟩, e⟩ := this
  exact ⟨a, b, c, d, e⟩
theorem dT_pos (i : Nat) : 0 < dT i := by
  unfold dT
  split
  · exact Nat.two_pow_pos _
  · exact Nat.pow_pos (by decide)
set_option maxRecDepth 100000 in
def certPr : List (Nat × Nat) := [(24350099447486686, 22244972020577009), (2105127426909677, 35170929747541279), (33189049622616248, 6192134978744385), (35417424351510571, 2476853991497754), (34972543269185362, 27393687600583697), (6063084534881332, 30425229868024363), (7297662880581139, 34128964905123784), (14595325761162278, 28762704500215255), (34943192422367607, 11505081800086102), (18750488497825204, 25567948173455005), (3409719593752201, 34089277890023606), (32046613352771647, 6135911659254281), (14045827672959515, 26317650991468077), (11236662138367612, 32971143240792833), (2395101062535523, 35366244303328356), (8510309498186985, 32971143240792833), (1702061899637397, 35692851374931466), (3404123799274794, 34361470965693871), (13616495197099176, 27977861748642497), (13467520926210347, 28126836019531326), (35492272074991155, 8557230222570461), (28393817659992924, 22754139052566923), (27226797013935140, 9140740545599353), (21781437611148112, 14586099948386381), (11629795034136521, 29172199896772762), (20894546136873154, 15177360931236353), (15572199868371163, 25427214531105525), (25743085680813373, 20341771624884420), (17606377030859605, 32546834599815072), (3521275406171921, 35112902432618421), (7042550812343842, 30243027841438205), (28170203249375368, 27176258005319167), (34201821996872922, 27176258005319167), (32796709198562171, 27176258005319167), (17429845041840101, 21555806812076163), (34859690083680202, 27702552474764991), (19484386528425079, 35920718421104903), (1219221854298102, 35920718421104903), (34588839637514812, 6208766200782499), (3192508207033463, 34412589424230385), (33417586482672083, 6882517884846077), (14942538758349709, 25175065562069198), (29885077516699418, 13058533976497621), (35511191962962283, 1858104882558689), (29152195523393302, 18292307526814029), (34297140934803059, 18292307526814029), (31096174253205253, 18292307526814029), (31096174253205253, 35486926893543497), (35559108047711006, 8853686434843997), (33759498299075203, 8853686434843997), (16383174917447366, 25898960328411677), (15009697016150755, 24525482427115066), (6003878806460302, 34041267838079377), (35626871838625325, 23222713225568234), (28501497470900260, 30348087593293299), (22801197976720208, 24647788099113247), (26622801523107034, 24647788099113247), (11044123294041571, 29182343034137139), (27134709825313055, 32181173062542968), (5426941965062611, 31039736879044874), (14414432091428947, 29001103629071941), (28828864182857894, 8717555033342987), (21992611713154742, 28431415923263345), (15553807503046139, 22745132738610676), (30639152193325452, 15085344690279313), (3204454063162593, 33375143443721219), (31827241256037124, 33375143443721219), (35982735950786891, 309580437536819), (26142869967410701, 27381191717557977), (9961819286905370, 29857835217852529), (7969455429524296, 29857835217852529), (31877821718097184, 7565458129475365), (24312363588621819, 12104733007160584), (31534044363197909, 26650992130613415), (35522804208706025, 5330198426122683), (35529915387973142, 3555836010504161), (14923133357290089, 22034805378298411), (7531545610172389, 29566350988470800), (1618275412478229, 35978233694205677), (11079507728788885, 26765421536453739), (2215901545757777, 33936935135808315), (2215901545757777, 34355982305473311), (8863606183031108, 34348375628491097), (35454424732124432, 8642396362304441), (15910249165310661, 34569585449217764), (15910249165310661, 24473618526312079), (7833475626986113, 32307094153298192), (30555349191661460, 8028113956056861), (30195411706502875, 32112455824227444), (24156329365202300, 13995208800325719), (19325063492161840, 28489006419447099), (30920101587458944, 24623993721014731), (34809853856277896, 2406355597625261), (35548220997423152, 29067521345692625), (30401912110876629, 23254017076554100), (25751108695565809, 18603213661243280), (29471751427814465, 14882570928994624), (26377881069945627, 20776921214557517), (25257689098868005, 20776921214557517), (5051537819773601, 32592306660494058), (33437225277719506, 3487538640234651), (34422365230691837, 3487538640234651), (5489457590044507, 35907984921116632), (28635783702562371, 35313737044946714), (12789904149501817, 26145810834270503), (25579808299003634, 28364190143010745), (31252646327605783, 14130057901211409), (598506105036593, 35572517928564881), (598506105036593, 35879490045305658), (1197012210073186, 36005366517690961), (16317366143193482, 22082024794643851), (27260717559399645, 16512688105425007), (32400345931709134, 5608401081665149), (5358388970008797, 33150382266678190), (29335319816697667, 18618541876680073), (19744547478022119, 17492536275338027), (11396326246276453, 34985072550676054), (22792652492552906, 34507416263568037), (4431155488615110, 34507416263568037), (7089848781784176, 30962491872675949), (14700316912676201, 30441872523568100), (26877065922103441, 24353498018854480), (2523567903248961, 33918461023669246), (35210186109332072, 6278978624084057), (11572482994099206, 29916681739316923), (33757295533701479, 8692022648310789), (18718131802467065, 17384045296621578), (3743626360493413, 35843543942045595), (14974505441973652, 33055549379285303), (20342999919695513, 19212021928503582), (4520991180415875, 31644017478559276), (3616792944332700, 33449493166373777), (2893434355466160, 34896210344106857), (2314747484372928, 34317523473013625), (27696232053959077, 9178252178975653), (31302942718736491, 33106298051125198), (31302942718736491, 13963861353405562), (30442706194069780, 11846133085109523), (24354164955255824, 11846133085109523), (31064705535299471, 23692266170219046), (1474487873016085, 34716902695063443), (1179590298412868, 35306697844269877), (4718361193651472, 33248244193619645), (29385668903474731, 26598595354895716), (30500498322906337, 28270839484043125), (31535306942687348, 5654167896808625), (34799774401331571, 2261667158723450), (34347440969586881, 3618667453957520), (35071174460378385, 2894933963166016), (27278772634237789, 11579735852664064), (33558387346867279, 8439928496349319), (28534695576763687, 8439928496349319), (27891713559220541, 8439928496349319), (30238913729691235, 32586113900161929), (24191130983752988, 32586113900161929), (7997455810219407, 32784877453256696), (35843614409440136, 1758502004519695), (35491914008536197, 1406801603615756), (27139340356679434, 16383273385571229), (17209707153773128, 20685700174014511), (2746742826706349, 35877914694616324), (12119720026994693, 25372188774158683), (29540427552854982, 25372188774158683), (10982523265402733, 35593615504218334), (35991955937580527, 529209141602027), (35779125419211178, 18947980992809643), (6732457770560614, 34529733100338979), (25756828377637515, 24583825673032574), (20605462702110012, 33713554319482639), (2998948433894954, 33713554319482639), (18283739222024982, 21427711965247565), (34565075350654311, 8571084786099026), (30912052471208135, 34284339144396104), (6182410494241627, 32036378175476757), (6182410494241627, 35183937795734581), (24729641976966508, 21874572745326821), (30246584218687747, 8178815251802791), (24691002732654881, 19135421246622015), (24691002732654881, 30616673994595224), (24691002732654881, 19555138649145203), (29826866816164559, 13787428822890993), (32133950746666243, 27574857645781986), (29354435078040400, 10118124438135943), (23483548062432320, 15989011453744023), (35674794283607081, 1898882616284631), (15409247283213611, 34616259798996484), (10005101416442019, 28408923615123727), (30336580376166523, 19367650579203106), (33044408138503952, 5553274272288559), (35320765346464856, 5553274272288559), (10796341575212807, 33009438664367043), (28318653671044747, 35044624191663880), (14300803994379195, 28035699353331104), (5720321597751678, 34918455843676763), (22881286391006712, 34441234837943407), (33725403329343373, 2311989689387339), (19692222926437773, 18495917515098712), (31746817764568249, 15275256176614594), (3294312317590731, 34746526165732528), (33005621908319251, 19828372637956327), (9236574235736435, 30420171040176219), (7389259388589148, 30420171040176219), (36007375060368614, 1650478574881755), (35374125758362267, 660191429952702), (24767955474404867, 27408721194215675), (24767955474404867, 21926976955372540), (2840978519032327, 35083163128596064), (8721219737138609, 32242184609563737), (17442439474277218, 28595069370674991), (1257961915575889, 35128676801418957), (27656310775728371, 22624463113424815), (18606525530358445, 18099570490739852), (3721305106071689, 33157410743768146), (14885220424286756, 22260963594254723), (10406280888565647, 34115646299943799), (25897608856571939, 15727514697690649), (25897608856571939, 17761533529466907), (34469392948892503, 1925091640472375), (35847714850534137, 770036656188950), (35539700188058557, 616029324951160), (35539700188058557, 492823459960928), (34311795027454937, 3942587679687424), (16878788154731914, 33203357591472719), (30492662422115667, 6529827774696322), (9585133858967738, 30911878028269157), (33883340991309875, 32397609509789516), (6776668198261975, 34717083263490414), (5421334558609580, 32840158256366163), (4337067646887664, 33924425168088079), (17348270587550656, 23265742091790739), (10328133567496475, 32491210143473116), (8262506853997180, 30425583429973821), (6610005483197744, 33730586171572693), (32369468660404747, 4102115041035441), (30176670636510751, 8204230082070882), (9317026160130503, 32816920328283528), (32568125806891407, 4699978833630605), (30688134273439165, 7519966133808968), (12275253709375666, 33452812831681435), (5584691143039379, 32346941408384527), (34813058955570628, 32346941408384527), (21381058882779597, 32346941408384527), (27960588398142555, 8772706020483944), (5592117679628511, 31036824406471975), (22368470718514044, 17391600240551417), (32311233101512187, 24851416671031802), (1491963286096077, 34695371897685946), (5967853144384308, 35883162129801083), (11950914941467663, 35883162129801083), (2378016066134295, 35913579435199177), (475603213226859, 35692388338299715), (1902412852907436, 35674670461271483), (33199761964788993, 5993486380509835), (33199761964788993, 4794789104407868), (10475783676484093, 29654940094115565), (15020579334145073, 23723952075292452), (15497812563775010, 24201185304922389), (12398250051020008, 33499872843187395), (18096525533402537, 26799898274549916), (5497935665131539, 33900552477689375), (30054027986470367, 19058156656207289), (32839919453386756, 19058156656207289), (10379615221918809, 34714165737153920), (17322448369349593, 27771332589723136), (34644896738699186, 14573022709759173), (20071874028940013, 31345585947190682), (29860256062653887, 20566983990452278), (20170896021242466, 31048519970283323), (34680693123630415, 2492395165176021), (11920928955078125, 9969580660704084), (2384185791015625, 1731349986566336), (476837158203125, 22522304640063), (95367431640625, 90089218560252), (19073486328125, 17034120334758), (3814697265625, 2758558381189), (762939453125, 353081181006), (152587890625, 39033708399), (30517578125, 7093885942), (6103515625, 3961481268), (1220703125, 1197487572), (244140625, 58416201), (48828125, 38352304), (9765625, 6924841), (1953125, 711228), (390625, 110537), (78125, 51523), (15625, 5934), (3125, 1861), (625, 569), (125, 52), (25, 8), (5, 2), (1, 1), (1, 1), (4, 3), (16, 11), (128, 111), (512, 483), (2048, 1735), (16384, 14683), (65536, 61919), (262144, 91027), (2097152, 647351), (8388608, 7259787), (33554432, 11518287), (268435456, 163364931), (1073741824, 247421351), (4294967296, 2411716283), (34359738368, 27970133951), (137438953472, 26209869811), (549755813888, 472534415767), (4398046511104, 1853725487595), (17592186044416, 13564884630831), (70368744177664, 34378911806115), (562949953421312, 429088247427207), (2251799813685248, 536177612222491), (9007199254740992, 5961915038026143), (24053505584750260, 12001022113294419), (26433125464144575, 33623446460488942), (21146500371315660, 28336821367660027), (33834400594105056, 19878221219133763), (35018808962937550, 19878221219133763), (28015047170350040, 26881983011721273), (22412037736280032, 32484992445791281), (15461813583670269, 21707274697473241), (15461813583670269, 29735270624914808), (31398969784310830, 15224142275185123), (3615239595401375, 35777393273291828), (1446095838160550, 34679342673489631), (1156876670528440, 34968561841121741), (1851002672845504, 34274435838804677), (18701304273972161, 29998597856562306), (35143149831426293, 4518917433036058), (22893456872070199, 19681598778786221), (28756891483797830, 31408468002241483), (23005513187038264, 25657089705481917), (34687559884506300, 2651576518443653), (23464112449147433, 19178176990689826), (29014122030668441, 35828205735252850), (30068794358066924, 6814083704584409), (32231935931954830, 6814083704584409), (25785548745563864, 26153245263757307), (36026228940150721, 26153245263757307), (18359685046617654, 26153245263757307), (19363884167577915, 27157444384717568), (7745553667031166, 35047017702074195), (30982214668124664, 14754957207446005), (28031223226635463, 11803965765956804), (29800539904524205, 26261906548746721), (11920215961809682, 34643489154778919), (34717195169847262, 2160611446231911), (33361863490053441, 25122057588344842), (8239805901708599, 33603447419984868), (31568951951752865, 15089340148335667), (27716920929036813, 30178680296671334), (35849578059490113, 13056175865722342), (16287276489405131, 22837326650764833), (22164751851830038, 22837326650764833), (21761206972469161, 22837326650764833), (26543896238281262, 22837326650764833), (16667651660472043, 22837326650764833), (33335303320944086, 21603391652706275), (27784501667016877, 8641356661082510), (31241044331449881, 6913085328866008), (3482974734743573, 34406834222466626), (3482974734743573, 35884606741357876), (3482974734743573, 33583850021727303), (3482974734743573, 34229501520199676), (3482974734743573, 35742740579544316), (21959640648253587, 14993691178766441), (8571497811343005, 29987382357532882), (6857198249074404, 31701681919801483), (20909310666809878, 17649569502066009), (29924983166482603, 17649569502066009), (30999814334012486, 17649569502066009), (32809998366377875, 19459753534431398), (26247998693102300, 32357507395587221), (20998398954481840, 27107907656966761), (16798719163585472, 27107907656966761), (34435430470751769, 2825769263311679), (33765036755887109, 2825769263311679), (21389329758856937, 18027245523653530), (17783880654126231, 32205677073049055), (29126625893642651, 25764541658439244), (10978233510416379, 26210532060842323), (35404803961646386, 850813008001913), (26177597823398927, 10994700629138077), (23141018384546757, 34135719013684834), (20711754833465021, 31706455462603098), (32883278448581807, 17080462436696470), (29467185961242513, 13664369949357176), (20413185566616943, 25023555121348549), (27656385882317399, 25023555121348549), (27129819730123629, 25023555121348549), (27551072651878645, 25866060964858581), (22040858121502916, 24181049277838517), (3980133393033463, 32441564983543182), (3980133393033463, 33117492094294779), (24136085348206193, 16431103552144682), (16226875560140350, 24748769324219189), (12981500448112280, 34484894660303399), (20770400716979648, 16310794032946207), (31167930218022395, 7416238949985171), (6233586043604479, 35898541843545163), (26525993941010681, 18745095805068964), (26525993941010681, 9690877855853035), (22649642798669467, 30402345083351895), (35265885989266640, 6080469016670379), (25294584247864465, 24321876066681516), (29380792916254409, 9145125517962837), (29380792916254409, 24944576164122915), (35489734017051952, 4988915232824583), (32382919399901228, 4988915232824583), (35412292230362827, 19955660931298332), (35412292230362827, 10681682151859635), (35412292230362827, 8545345721487708), (17829237049622613, 35166110361480428), (35658474099245226, 31698735699108865), (26938718219738041, 12679494279643546), (2851844788018899, 33606908390460790), (20980605618186653, 19146452932222114), (15683992882970599, 29533833079976659), (12914024843569387, 23993897001174235), (22511583644039081, 15878651557839695), (22511583644039081, 35214504890310837), (3923464959106930, 35214504890310837), (6277543934571088, 34429811898489451), (16930032675011631, 25679922286750541), (22179966442054977, 29179878131446105), (33851917694633419, 12835887315680349), (16812824303162456, 25445505543052191), (35352184854302859, 3453072495955894), (25519289886677572, 13285967463581181), (12864909447387265, 26571934927162362), (2572981889477453, 34244246803280764), (10291927557909812, 28620993680281533), (18074511805548081, 31130336990553076), (18074511805548081, 28519171953552077), (18074511805548081, 23941260959025626), (18074511805548081, 22767911128330117), (18074511805548081, 25444133624883326), (18074511805548081, 23970209261016277), (4871525740031954, 35761604171952669), (31842134332896102, 6178015686384143), (24238104329040053, 30416120015424196), (35074157514633599, 6178015686384143), (31766135423537365, 6178015686384143), (6353227084707473, 31065289830244045), (12706454169414946, 31205458948902709), (29336979884581307, 21488836793078477), (27767351266280741, 21488836793078477), (14149004970487539, 30420644639752426), (19384080018927085, 17827859844095986), (7753632007570834, 31778903684406555), (9151483278260357, 34574606225785601), (10575514556461263, 26847154225726150), (5206083711316033, 31889890803212986), (34621507908812533, 13797173063548401), (35975510165179067, 13797173063548401), (34299277357562614, 13797173063548401), (20502104294014213, 17975056042874599), (34825005471334432, 3089601558346997), (25220445464486455, 12526283899291481), (35476501316184530, 2438105713496899), (35695518193438321, 2438105713496899), (30506899125548176, 25318280057658031), (4150895254312116, 35070702911645627), (13655572989228511, 24363137950437069), (27311145978457022, 28863057365094743), (16076305309746669, 28863057365094743), (30178878666854181, 27547236063335305), (30178878666854181, 22037788850668244), (9292211659845211, 32481122354172729), (35293756925297598, 15771788748565553), (23580576019258371, 31543577497131106), (20395375428109277, 26765776610407465), (35704521555135079, 1017245860216695), (36007270897787341, 203449172043339), (35846451092482867, 406898344086678), (12947246704527401, 29149680161748226), (29134980100498967, 35615953483387297), (30431174777076633, 35615953483387297), (17221749124983847, 19566659591823053), (9864067381622467, 29430726973445520), (31500425552623142, 27522503565689779), (3977921986933363, 32897824141690230), (10557486815271409, 26318259313352184), (24267128130158973, 30571437129391283), (24267128130158973, 34354022528930669), (30757889489237000, 16577655757849723), (28880811553544523, 33155311515699446), (23959549235266603, 32508549159576449), (31496078836978688, 16085529526021931), (9381325629587089, 32171059052043862), (17957234826517659, 21178900557143735), (34900355272232647, 16943120445714988), (10368695143589527, 26297701208501844), (32218147615033139, 22961514655708170), (32218147615033139, 4520275834099933), (32218147615033139, 16503479713293202), (32060385252722486, 16345717350982549), (28412612112980409, 16345717350982549), (18759096303382121, 27864676797165954), (28412612112980409, 9324754620109615), (35210951729585203, 1864950924021923), (36001555264560239, 1864950924021923), (30325702510783893, 7459803696087692), (22476708633549701, 14725012301602134), (7596020259488967, 29761376748121468), (22538979062533141, 29885917606088348), (22738244435280149, 14893142459857422), (26967068725940966, 16302750556744361), (29099932359780287, 20568477824423003), (19166250322939629, 21970705325906377), (26271859451522131, 24121282388714254), (10078628368047277, 36013359346573354), (6907407845951517, 32277172022717597), (25796176373207767, 23962721362609466), (21370323102805534, 19536868092207233), (31625679949651233, 29792224939052932), (31625679949651233, 17508643961312099), (29590715165867454, 16152000772122913), (34889570424476879, 3773057430100257), (13014805973055787, 28107035693456815), (31651019084802937, 11242814277382726), (3666156212014994, 35805866579493419), (20188196571021358, 22949982432502049), (7522921456112405, 35615257547411002), (6018337164889924, 34110673256188521), (20062476413995537, 32103208336862756), (20062476413995537, 17657576103891990), (16530961193217139, 30657022076330731), (7093364539307565, 32940585995431202), (5674691631446052, 34359258903292715), (35245309937888803, 12546543412104595), (30226692573046965, 20074469459367352), (6045338514609393, 31935169720594264), (6045338514609393, 35220677399850440), (25180151023798267, 27177744954519657), (25579669809942545, 27177744954519657), (5115933961988509, 31971970388250993), (20463735847954036, 34275710795652135), (34072329536777645, 13710284318260854), (13628931814711058, 34235034543877237), (8112277085986798, 34235034543877237), (33877849303891228, 17296109891931623), (13265391529567684, 23928805656715465), (29132760461555271, 9571522262686186), (13483769902460003, 24802319148284741), (26967539804920006, 12617681639805897), (16526959188013646, 33498842873618617), (33320873074582087, 33498842873618617), (33427654954004005, 33570030793233229), (6685530990800801, 34566661667837797), (26742123963203204, 17610181918848841), (36004806441529544, 8870461176410409), (30577937388505717, 8870461176410409), (29784626616650819, 17740922352820818), (21418960440554655, 30794216617279309), (8567584176221862, 31601888617782101), (35505511310722412, 1179827217823303), (14416031012648961, 33551370896591134), (19238581643449903, 19186960763696038), (41296703803092, 35989036882763513), (30806508651801700, 7660330459147333), (26144235650228353, 27643264379015346), (36002318418804897, 32572305763303618), (36002318418804897, 18857380926881915), (34636464299304481, 3771476185376383), (35806666714929978, 3771476185376383), (31671457138703353, 7542952370752766), (9351472376041777, 30171809483011064), (32641963020496335, 27878036536825562), (26113570416397068, 34406429140924829), (17326713994743793, 34159430292362072), (35641423383738614, 10297228857421173), (21544405077137365, 19644510352547327), (8617762030854946, 34980139689667181), (27271383558987389, 13890237562617393), (30151249384760347, 13890237562617393), (31506832341568489, 27780475125234786), (19310175926028061, 23714922986721310), (19310175926028061, 18971938389377048), (34217136608208889, 7453480341090414), (34418853676722684, 2100749087666719), (34257480021911648, 2100749087666719), (32156730934244929, 8111945456982361), (32331361470455638, 32389571649192541), (6454630258343747, 32738832721613959), (12909260516687494, 27295719657001827), (23532108654762857, 18959283897538595), (15948395095747419, 30334854236061752), (31896790191494838, 8944262675275217), (32672842293416044, 8944262675275217), (32599169783860193, 8944262675275217), (33234745967308328, 25561635658929381), (25053174712170873, 17380064403791926), (7673110308378947, 29342725107742871), (17875578289800306, 29342725107742871), (15582148926211793, 24755866380565845), (26213124576310417, 19804693104452676), (31571629229348391, 5358504653037974), (14772053552954546, 32875089635507767), (25546928070390682, 15438250058874281), (26612842479862258, 15438250058874281), (34170329460032305, 3940381539352117), (6834065892006461, 31523052314816936), (18605929068575017, 28481523637699207), (33261620309500358, 20581047982399855), (20912991520060445, 32929676771839768), (8365196608024178, 28215968807570735), (22373586977562503, 33659974500590797), (22333749363863686, 33659974500590797), (4403009690854630, 33659974500590797), (3522407752683704, 35421178376932649), (9902161877533493, 35421178376932649), (30849424181466913, 13330977524132795)]
def quadB (f : Nat → Nat → Nat → Bool) : Nat → List (Nat × Nat) → Bool
  | _, [] => true
  | i, x :: r => f i x.1 x.2 && quadB f (i + 1) r
theorem quad_at (f : Nat → Nat → Nat → Bool) : ∀ (l : List (Nat × Nat)) (i k : Nat), quadB f i l = true → (h : k < l.length) → ∃ a c, f (i + k) a c = true
  | x :: r, i, 0, hB, _ => by
    simp only [quadB, Bool.and_eq_true] at hB
    exact ⟨_, _, hB.1⟩
  | x :: r, i, k + 1, hB, h => by
    simp only [quadB, Bool.and_eq_true] at hB
    have := quad_at f r (i + 1) k hB.2 (by simpa using h)
    rw [show i + (k + 1) = i + 1 + k by omega]
    exact this
def prB (i q1 q2 : Nat) : Bool := certB (512 * nT i) (2 * (dT i * 2 ^ 133)) (36893488147419103232 * dT i) q1 (q1 * (512 * nT i) / (2 * (dT i * 2 ^ 133))) q2 (q2 * (512 * nT i) / (2 * (dT i * 2 ^ 133)) + 1) 36028797018963968 0
theorem prAll : quadB prB 56 certPr = true := by kernel_rfl
theorem prLen : certPr.length = 617 := by kernel_rfl
end Go.Proofs.YtcbgkbidgpemfaaGreatDoor.fpm

/- Unrounded scaling at the table's powers, and rounding of what it answers. Plain. -/
namespace Go.Proofs.YtcbgkbidgpemfaaGreatDoor.fpm

theorem pow_split (D j s k : Nat) (h : k ≤ s) : j * (2 * (D * 2 ^ (128 + s))) = (j * 2 ^ (s - k)) * (2 * (D * 2 ^ (128 + k))) := by
  have e : (2 : Nat) ^ (128 + s) = 2 ^ (s - k) * 2 ^ (128 + k) := by rw [← Nat.pow_add]; congr 1; omega
  rw [e]
  generalize 2 ^ (s - k) = a
  generalize 2 ^ (128 + k) = b
  rw [Nat.mul_assoc j a, ← Nat.mul_assoc D a, Nat.mul_comm D a, Nat.mul_assoc a D, ← Nat.mul_assoc 2 a, Nat.mul_comm 2 a, Nat.mul_assoc a 2]
theorem us_print (i s y : Nat) (h1 : 56 ≤ i) (h2 : i < 673) (hs : 5 ≤ s) (hy0 : 0 < y) (hy : y < 36028797018963968) :
    usN (512 * y) (hiT i) (loT i) s = unr (512 * y * nT i) (dT i * 2 ^ (128 + s)) := by
  obtain ⟨r1, r2, r3, r4, r5⟩ := row_spec i (by omega)
  refine us_spec _ _ _ _ _ _ (by omega) r3 (dT_pos i) r4 r5 fun j => ?_
  obtain ⟨a, c, hc⟩ := quad_at prB certPr 56 (i - 56) prAll (by rw [prLen]; omega)
  rw [show 56 + (i - 56) = i by omega] at hc
  have h := nm_of_cert hc y (j * 2 ^ (s - 5)) hy0 hy (Nat.zero_le _)
  rw [pow_split (dT i) j s 5 hs]
  have e : y * (512 * nT i) = 512 * y * nT i := by rw [← Nat.mul_assoc, Nat.mul_comm y 512]
  rw [e] at h
  exact h
/-! rounding: v = A / (4 Q) -/
theorem unr_parts (A Q : Nat) (hQ : 0 < Q) : ∃ k r, A = 4 * Q * k + r ∧ r < 4 * Q ∧ unr A Q / 4 = k ∧
    (unr A Q % 4 = 0 ↔ r = 0) ∧ (unr A Q % 4 = 1 ↔ 0 < r ∧ r < 2 * Q) ∧ (unr A Q % 4 = 2 ↔ r = 2 * Q) ∧ (unr A Q % 4 = 3 ↔ 2 * Q < r) := by
  obtain ⟨F, hF⟩ : ∃ F, F = A / Q := ⟨_, rfl⟩
  obtain ⟨t, ht⟩ : ∃ t, t = A % Q := ⟨_, rfl⟩
  have e := Nat.div_add_mod A Q
  rw [← hF, ← ht] at e
  have bt : t < Q := by rw [ht]; exact Nat.mod_lt _ hQ
  obtain ⟨k, hk⟩ : ∃ k, k = F / 4 := ⟨_, rfl⟩
  obtain ⟨f, hf⟩ : ∃ f, f = F % 4 := ⟨_, rfl⟩
  have eF : F = 4 * k + f := by omega
  have eQ : Q * F = 4 * Q * k + Q * f := by rw [eF, Nat.mul_add, ← Nat.mul_assoc, Nat.mul_comm Q 4]
  have hf4 : f = 0 ∨ f = 1 ∨ f = 2 ∨ f = 3 := by omega
  have hu : unr A Q = if t = 0 then F else F / 2 * 2 + 1 := by unfold unr; rw [← hF, ← ht]
  refine ⟨k, Q * f + t, by omega, ?_, ?_, ?_, ?_, ?_, ?_⟩
  all_goals rcases hf4 with rfl | rfl | rfl | rfl
  all_goals try rw [hu]
  all_goals try split
  all_goals omega
/-- the greatest whole number not above -/
theorem r_floor (A Q : Nat) (hQ : 0 < Q) : unr A Q / 4 * (4 * Q) ≤ A ∧ A < (unr A Q / 4 + 1) * (4 * Q) := by
  obtain ⟨k, r, e, hr, h, _⟩ := unr_parts A Q hQ
  rw [h, Nat.mul_comm k, Nat.mul_comm (k + 1), Nat.mul_add, Nat.mul_one]
  omega
/-- the least whole number not below -/
theorem r_ceil (A Q : Nat) (hQ : 0 < Q) (n : Nat) : (unr A Q + 3) / 4 ≤ n ↔ A ≤ n * (4 * Q) := by
  obtain ⟨k, r, e, hr, h, h0, h1, h2, h3⟩ := unr_parts A Q hQ
  obtain ⟨P, hP⟩ : ∃ P, P = 4 * Q := ⟨_, rfl⟩
  rw [← hP] at e hr ⊢
  by_cases hz : r = 0
  · have h4 := h0.2 hz
    have : (unr A Q + 3) / 4 = k := by omega
    rw [this, e, hz, Nat.add_zero, Nat.mul_comm P k]
    exact ⟨fun h => Nat.mul_le_mul_right P h, fun h => Nat.le_of_mul_le_mul_right h (by omega)⟩
  · have h4 : unr A Q % 4 ≠ 0 := fun hh => hz (h0.1 hh)
    have : (unr A Q + 3) / 4 = k + 1 := by omega
    rw [this, e, Nat.mul_comm P k]
    refine ⟨fun h => ?_, fun h => ?_⟩
    · have := Nat.mul_le_mul_right P h
      rw [Nat.add_mul, Nat.one_mul] at this
      omega
    · apply Nat.lt_of_mul_lt_mul_right (a := P)
      omega
/-- the least whole number above -/
theorem r_above (A Q : Nat) (hQ : 0 < Q) (n : Nat) : (unr A Q + 1 + 3) / 4 ≤ n ↔ A < n * (4 * Q) := by
  obtain ⟨k, r, e, hr, h, _⟩ := unr_parts A Q hQ
  obtain ⟨P, hP⟩ : ∃ P, P = 4 * Q := ⟨_, rfl⟩
  rw [← hP] at e hr ⊢
  have : (unr A Q + 1 + 3) / 4 = k + 1 := by omega
  rw [this, e, Nat.mul_comm P k]
  refine ⟨fun h => ?_, fun h => ?_⟩
  · have := Nat.mul_le_mul_right P h
    rw [Nat.add_mul, Nat.one_mul] at this
    omega
  · apply Nat.lt_of_mul_lt_mul_right (a := P)
    omega
/-- the greatest whole number below -/
theorem r_below (A Q : Nat) (hQ : 0 < Q) (hA : 0 < A) (n : Nat) : n ≤ (unr A Q - 1) / 4 ↔ n * (4 * Q) < A := by
  obtain ⟨k, r, e, hr, h, h0, _⟩ := unr_parts A Q hQ
  obtain ⟨P, hP⟩ : ∃ P, P = 4 * Q := ⟨_, rfl⟩
  rw [← hP] at e hr ⊢
  by_cases hz : r = 0
  · have h4 := h0.2 hz
    have hk : k ≠ 0 := by
      intro e0
      rw [e0] at e
      simp at e
      omega
    have : (unr A Q - 1) / 4 = k - 1 := by omega
    rw [this, e, hz, Nat.add_zero, Nat.mul_comm P k]
    refine ⟨fun h => (Nat.mul_lt_mul_right (by omega)).2 (by omega), fun h => ?_⟩
    have := (Nat.mul_lt_mul_right (show 0 < P by omega)).1 h
    omega
  · have h4 : unr A Q % 4 ≠ 0 := fun hh => hz (h0.1 hh)
    have : (unr A Q - 1) / 4 = k := by omega
    rw [this, e, Nat.mul_comm P k]
    refine ⟨fun h => ?_, fun h => ?_⟩
    · have := Nat.mul_le_mul_right P h
      omega
    · apply Nat.le_of_lt_succ
      apply Nat.lt_of_mul_lt_mul_right (a := P)
      rw [Nat.succ_mul]
      omega
/-- not above -/
theorem r_under (A Q : Nat) (hQ : 0 < Q) (n : Nat) : n ≤ unr A Q / 4 ↔ n * (4 * Q) ≤ A := by
  obtain ⟨h1, h2⟩ := r_floor A Q hQ
  refine ⟨fun h => Nat.le_trans (Nat.mul_le_mul_right _ h) h1, fun h => ?_⟩
  exact Nat.le_of_lt_succ (Nat.lt_of_mul_lt_mul_right (Nat.lt_of_le_of_lt h h2))
/-- rounded to the nearest, between two to the even one -/
def rnd (u : Nat) : Nat := (u + 1 + u / 4 % 2) / 4
theorem r_round (A Q : Nat) (hQ : 0 < Q) : 2 * (rnd (unr A Q) * (4 * Q)) ≤ 2 * A + 4 * Q ∧ 2 * A ≤ 2 * (rnd (unr A Q) * (4 * Q)) + 4 * Q ∧
    ((2 * (rnd (unr A Q) * (4 * Q)) = 2 * A + 4 * Q ∨ 2 * A = 2 * (rnd (unr A Q) * (4 * Q)) + 4 * Q) → rnd (unr A Q) % 2 = 0) := by
  obtain ⟨k, r, e, hr, h, h0, h1, h2, h3⟩ := unr_parts A Q hQ
  obtain ⟨P, hP⟩ : ∃ P, P = 4 * Q := ⟨_, rfl⟩
  rw [← hP] at e hr ⊢
  have hm : unr A Q % 4 = 0 ∨ unr A Q % 4 = 1 ∨ unr A Q % 4 = 2 ∨ unr A Q % 4 = 3 := by omega
  have ek : (k + 1) * P = k * P + P := by rw [Nat.add_mul, Nat.one_mul]
  rw [Nat.mul_comm P k] at e
  unfold rnd
  rcases hm with m | m | m | m
  · have hr0 := h0.1 m
    have : (unr A Q + 1 + unr A Q / 4 % 2) / 4 = k := by omega
    rw [this]
    omega
  · have hr1 := h1.1 m
    have : (unr A Q + 1 + unr A Q / 4 % 2) / 4 = k := by omega
    rw [this]
    omega
  · have hr2 := h2.1 m
    by_cases hk : k % 2 = 0
    · have : (unr A Q + 1 + unr A Q / 4 % 2) / 4 = k := by omega
      rw [this]
      omega
    · have : (unr A Q + 1 + unr A Q / 4 % 2) / 4 = k + 1 := by omega
      rw [this, ek]
      omega
  · have hr3 := h3.1 m
    have : (unr A Q + 1 + unr A Q / 4 % 2) / 4 = k + 1 := by omega
    rw [this, ek]
    omega
end Go.Proofs.YtcbgkbidgpemfaaGreatDoor.fpm

/- Unrounded scaling: the model's words in plain numbers. Plain. -/
namespace Go.Proofs.YtcbgkbidgpemfaaGreatDoor.fpm
open Go Go.RowKit Go.Proofs.YtcbgkbidgpemfaaGreatDoor.prnw
theorem or_one (a : Nat) (h : a < 18446744073709551616) : bits BinOp.or IntKind.u64 (a : Int) 1 = ((a / 2 * 2 + 1 : Nat) : Int) := by
  have e : bits BinOp.or IntKind.u64 (a : Int) 1 = IntKind.u64.wrap (((BitVec.ofInt 64 (a : Int) ||| BitVec.ofInt 64 1).toNat : Nat) : Int) := rfl
  have h2 : (BitVec.ofInt 64 (a : Int)).toNat = a := by
    rw [BitVec.toNat_ofInt]
    omega
  have h3 : (BitVec.ofInt 64 1).toNat = 1 := by decide
  have h4 : a ||| 1 = a / 2 * 2 + 1 := by
    apply Nat.eq_of_testBit_eq
    intro i
    rw [Nat.testBit_or]
    cases i with
    | zero => simp [Nat.testBit_zero]
    | succ i =>
      rw [Nat.testBit_succ, Nat.testBit_succ, Nat.testBit_succ]
      rw [show (a / 2 * 2 + 1) / 2 = a / 2 by omega]
      simp
  rw [e, BitVec.toNat_or, h2, h3, h4, IntKind.wrap_u64]
  omega
theorem or_zero (a : Nat) (h : a < 18446744073709551616) : bits BinOp.or IntKind.u64 (a : Int) 0 = (a : Int) := by
  have e : bits BinOp.or IntKind.u64 (a : Int) 0 = IntKind.u64.wrap (((BitVec.ofInt 64 (a : Int) ||| BitVec.ofInt 64 0).toNat : Nat) : Int) := rfl
  have h2 : (BitVec.ofInt 64 (a : Int)).toNat = a := by
    rw [BitVec.toNat_ofInt]
    omega
  have h3 : (BitVec.ofInt 64 0).toNat = 0 := by decide
  rw [e, BitVec.toNat_or, h2, h3, Nat.or_zero, IntKind.wrap_u64]
  omega
theorem us_eq (x hi lo s : Nat) (hx : x < 18446744073709551616) (hh : 9223372036854775808 ≤ hi) (hh2 : hi < 18446744073709551616) (hl : lo < 18446744073709551616) (hs : s < 64) : usI x hi lo (s : Int) = (usN x hi lo s : Int) := by
  have hk := toNat_bits63 (s : Int) (by omega) (by omega)
  unfold usI usN
  rw [hk, Int.toNat_natCast]
  have bH : x * hi / 18446744073709551616 < 18446744073709551616 := by
    have h1 : x * hi < 18446744073709551616 * 18446744073709551616 := Nat.mul_lt_mul_of_lt_of_lt hx hh2
    exact Nat.div_lt_of_lt_mul h1
  have bL : x * lo / 18446744073709551616 < 18446744073709551616 := by
    have h1 : x * lo < 18446744073709551616 * 18446744073709551616 := Nat.mul_lt_mul_of_lt_of_lt hx hl
    exact Nat.div_lt_of_lt_mul h1
  have bL2 : x * lo / 18446744073709551616 + 2 ≤ 18446744073709551616 := by
    have h1 : x * lo ≤ 18446744073709551615 * 18446744073709551615 := Nat.mul_le_mul (by omega) (by omega)
    omega
  have hHL : x * hi / 18446744073709551616 = 0 → ¬ x * hi % 18446744073709551616 < x * lo / 18446744073709551616 := by
    intro h0 h1
    have h2 : x * lo ≤ x * 18446744073709551615 := Nat.mul_le_mul_left x (by omega)
    have h3 : x * 9223372036854775808 ≤ x * hi := Nat.mul_le_mul_left x hh
    omega
  obtain ⟨H, hH⟩ : ∃ H, H = x * hi / 18446744073709551616 := ⟨_, rfl⟩
  obtain ⟨M, hM⟩ : ∃ M, M = x * hi % 18446744073709551616 := ⟨_, rfl⟩
  obtain ⟨L, hL⟩ : ∃ L, L = x * lo / 18446744073709551616 := ⟨_, rfl⟩
  have bM : M < 18446744073709551616 := by rw [hM]; exact Nat.mod_lt _ (by decide)
  rw [← hH] at bH
  rw [← hL] at bL bL2
  rw [← hH, ← hM, ← hL] at hHL ⊢
  have e2 : ((2 : Int) ^ s) = ((2 ^ s : Nat) : Int) := by norm_cast
  obtain ⟨z, hz⟩ : ∃ z, z = 2 ^ s := ⟨_, rfl⟩
  have pz : 0 < z := by rw [hz]; exact Nat.two_pow_pos s
  rw [e2, ← hz]
  have d1 : ((H : Int) / (z : Int)) = ((H / z : Nat) : Int) := by norm_cast
  have d2 : (((H / z : Nat) : Int) * (z : Int)) = ((H / z * z : Nat) : Int) := by norm_cast
  have dm := Nat.div_add_mod H z
  rw [Nat.mul_comm] at dm
  have bz : H / z ≤ H := Nat.div_le_self _ _
  have hw : IntKind.u64.wrap (((H / z * z : Nat) : Int)) = ((H / z * z : Nat) : Int) := by rw [IntKind.wrap_u64]; omega
  rw [d1, d2, hw]
  by_cases c1 : H % z = 0
  · rw [if_neg (by rw [bne_iff_ne]; intro h; apply h; omega), if_neg (show ¬ (H % z ≠ 0) from fun h => h c1)]
    by_cases c2 : M < L
    · have hH0 : H ≠ 0 := fun h => hHL h c2
      rw [if_pos c2, if_pos c2]
      have e3 : IntKind.u64.wrap ((H : Int) - 1) = ((H - 1 : Nat) : Int) := by rw [IntKind.wrap_u64]; omega
      have e4 : (((H - 1 : Nat) : Int) / (z : Int)) = (((H - 1) / z : Nat) : Int) := by norm_cast
      have b4 : (H - 1) / z ≤ H - 1 := Nat.div_le_self _ _
      have e5 : (1 : Int) < IntKind.u64.wrap ((M : Int) - (L : Int)) := by rw [IntKind.wrap_u64]; omega
      rw [e3, e4, if_pos e5, or_one _ (by omega)]
    · rw [if_neg c2, if_neg c2]
      have e3 : IntKind.u64.wrap ((H : Int) - 0) = (H : Int) := by rw [IntKind.wrap_u64]; omega
      have e5 : IntKind.u64.wrap ((M : Int) - (L : Int)) = (M : Int) - (L : Int) := by rw [IntKind.wrap_u64]; omega
      rw [e3, d1, e5]
      by_cases c3 : L + 1 < M
      · rw [if_pos (by omega), if_pos c3, or_one _ (by omega)]
      · rw [if_neg (by omega), if_neg c3, or_zero _ (by omega)]
  · rw [if_pos (by rw [bne_iff_ne]; intro h; apply c1; omega), if_pos (show H % z ≠ 0 from c1), or_one _ (by omega)]
theorem round_eq (u : Nat) (h : u < 9223372036854775808) : roundI (u : Int) = (rnd u : Int) := by
  unfold roundI rnd
  have e1 : IntKind.u64.wrap ((u : Int) + 1) = ((u + 1 : Nat) : Int) := by rw [IntKind.wrap_u64]; omega
  have e2 : bits BinOp.and IntKind.u64 ((u : Int) / 4) 1 = ((u / 4 % 2 : Nat) : Int) := by
    have := and_mask .u64 (.inr rfl) (u / 4) 1 (by omega) (by decide)
    have e : ((u : Int) / 4) = ((u / 4 : Nat) : Int) := by norm_cast
    rw [e]
    exact this
  rw [e1, e2, IntKind.wrap_u64]
  omega
theorem nd_id (P : Int) (h0 : -348 ≤ P) (i : Nat) (hi : i = (P + 348).toNat) (lp : Int) (hlp : lp = P * 108853 / 32768) :
    nT i * 10 ^ (-P).toNat * 2 ^ (lp - 127).toNat = dT i * 10 ^ P.toNat * 2 ^ (127 - lp).toNat := by
  have hl : lpT i = lp := by
    unfold lpT
    rw [hlp]
    congr 2
    omega
  unfold nT dT
  rw [hl]
  by_cases h : 348 ≤ i
  · rw [if_pos h, if_pos h, show i - 348 = P.toNat by omega, show (-P).toNat = 0 by omega, Nat.pow_zero, Nat.mul_one]
    ac_rfl
  · rw [if_neg h, if_neg h, show 348 - i = (-P).toNat by omega, show P.toNat = 0 by omega, show (lp - 127).toNat = 0 by omega, Nat.pow_zero, Nat.mul_one]
    ac_rfl
end Go.Proofs.YtcbgkbidgpemfaaGreatDoor.fpm

/- Unrounded scaling of a decimal's digits, rounded: the nearest float. Plain. -/
namespace Go.Proofs.YtcbgkbidgpemfaaGreatDoor.fpm
open Go Go.RowKit Go.Proofs.YtcbgkbidgpemfaaGreatDoor.prnw

end Go.Proofs.YtcbgkbidgpemfaaGreatDoor.fpm

/- The walk of strconv's parseFloat64. Conditions: as the theorem states. -/
namespace Go.Proofs.YtcbgkbidgpemfaaGreatDoor.rdf
open Go.RowKit
open Go.Proofs.YtcbgkbidgpemfaaGreatDoor.bsw
open Go.Proofs.YtcbgkbidgpemfaaGreatDoor.prnw
open Go.Proofs.YtcbgkbidgpemfaaGreatDoor.dcw
open Go.Proofs.YtcbgkbidgpemfaaGreatDoor.dmx
open Go.Proofs.YtcbgkbidgpemfaaGreatDoor.fpm

attribute [local go_sem] ifrombits_run
end Go.Proofs.YtcbgkbidgpemfaaGreatDoor.rdf

/- A float's size and order, by its bits. Plain. -/
namespace Go.Proofs.YtcbgkbidgpemfaaGreatDoor.nodew
open Go.RowKit
/-- an order of float64s, by their bits -/
def fo (x y : Nat) : Option Ordering := FloatKind.f64.format.order x y
theorem fo_eq (x y : Nat) : FloatKind.f64.format.order x y = fo x y := rfl
end Go.Proofs.YtcbgkbidgpemfaaGreatDoor.nodew
namespace Go.Proofs.YtcbgkbidgpemfaaGreatDoor.flatm
open Go.Proofs.YtcbgkbidgpemfaaGreatDoor.nodew
/-- the size of a rung, in the least unit -/
def valR (r : Nat) : Nat := if r < 4503599627370496 then r else (4503599627370496 + r % 4503599627370496) * 2 ^ (r / 4503599627370496 - 1)
theorem val_low {r : Nat} (h : r < 4503599627370496) : valR r = r := if_pos h
theorem val_high {r : Nat} (h : ¬ r < 4503599627370496) : 4503599627370496 * 2 ^ (r / 4503599627370496 - 1) ≤ valR r ∧ valR r < 4503599627370496 * 2 ^ (r / 4503599627370496) ∧ 1 ≤ r / 4503599627370496 := by
  have hq : 1 ≤ r / 4503599627370496 := by omega
  have hp := Nat.two_pow_pos (r / 4503599627370496 - 1)
  have hs : (2 : Nat) ^ (r / 4503599627370496) = 2 * 2 ^ (r / 4503599627370496 - 1) := by
    conv => lhs; rw [show r / 4503599627370496 = (r / 4503599627370496 - 1) + 1 by omega]
    rw [Nat.pow_succ]; omega
  have hf : r % 4503599627370496 < 4503599627370496 := Nat.mod_lt _ (by decide)
  unfold valR
  rw [if_neg h]
  refine ⟨Nat.mul_le_mul_right _ (by omega), ?_, hq⟩
  rw [hs, ← Nat.mul_assoc]
  exact Nat.mul_lt_mul_of_pos_right (by omega) hp
theorem val_inj {r s : Nat} (h : valR r = valR s) : r = s := by
  by_cases hr : r < 4503599627370496
  · by_cases hs : s < 4503599627370496
    · rwa [val_low hr, val_low hs] at h
    · have h1 := val_high hs
      have hp := Nat.two_pow_pos (s / 4503599627370496 - 1)
      have h2 : 4503599627370496 * 1 ≤ 4503599627370496 * 2 ^ (s / 4503599627370496 - 1) := Nat.mul_le_mul_left _ hp
      rw [val_low hr] at h
      omega
  · have a1 := val_high hr
    by_cases hs : s < 4503599627370496
    · have hp := Nat.two_pow_pos (r / 4503599627370496 - 1)
      have h2 : 4503599627370496 * 1 ≤ 4503599627370496 * 2 ^ (r / 4503599627370496 - 1) := Nat.mul_le_mul_left _ hp
      rw [val_low hs] at h
      omega
    · have b1 := val_high hs
      have hq : r / 4503599627370496 = s / 4503599627370496 := by
        rcases Nat.lt_trichotomy (r / 4503599627370496) (s / 4503599627370496) with hlt | heq | hlt
        · exfalso
          have h2 : (2 : Nat) ^ (r / 4503599627370496) ≤ 2 ^ (s / 4503599627370496 - 1) := Nat.pow_le_pow_right (by decide) (by omega)
          have h3 := Nat.mul_le_mul_left 4503599627370496 h2
          omega
        · exact heq
        · exfalso
          have h2 : (2 : Nat) ^ (s / 4503599627370496) ≤ 2 ^ (r / 4503599627370496 - 1) := Nat.pow_le_pow_right (by decide) (by omega)
          have h3 := Nat.mul_le_mul_left 4503599627370496 h2
          omega
      unfold valR at h
      rw [if_neg hr, if_neg hs, hq] at h
      have := Nat.eq_of_mul_eq_mul_right (Nat.two_pow_pos _) h
      omega
theorem signed_nat (s : Bool) (m k : Nat) : Ieee.signed s m k = if s then -((m * 2 ^ k : Nat) : Int) else ((m * 2 ^ k : Nat) : Int) := by
  unfold Ieee.signed
  rw [Nat.shiftLeft_eq]
/-- what a word below infinity stands for -/
theorem read_num (x : Nat) (h : x % 9223372036854775808 < 9218868437227405312) : ∃ m a : Nat, Ieee.Format.read Ieee.double x = .number (x / 9223372036854775808 % 2 == 1) m ((-1074 : Int) + a) ∧ m * 2 ^ a = valR (x % 9223372036854775808) := by
  have hw : Ieee.double.signWeight = 9223372036854775808 := by kernel_rfl
  have hb : Ieee.double.binade = 4503599627370496 := by kernel_rfl
  have hi : Ieee.double.infRung = 9218868437227405312 := by kernel_rfl
  have hl : Ieee.double.leastPlace = -1074 := by kernel_rfl
  unfold Ieee.Format.read
  simp only [hw, hb, hi, hl]
  by_cases h1 : x % 9223372036854775808 < 4503599627370496
  · rw [if_pos h1]
    exact ⟨x % 9223372036854775808, 0, rfl, by rw [val_low h1]; simp⟩
  · rw [if_neg h1, if_pos h]
    refine ⟨_, _, rfl, ?_⟩
    unfold valR
    rw [if_neg h1]
end Go.Proofs.YtcbgkbidgpemfaaGreatDoor.flatm
namespace Go.Proofs.YtcbgkbidgpemfaaGreatDoor.prnw
open Go.RowKit
open Go.Proofs.YtcbgkbidgpemfaaGreatDoor.nodew
open Go.Proofs.YtcbgkbidgpemfaaGreatDoor.flatm
theorem val_lt {r s : Nat} (h : r < s) : valR r < valR s := by
  by_cases hr : r < 4503599627370496
  · rw [val_low hr]
    by_cases hs : s < 4503599627370496
    · rw [val_low hs]; exact h
    · have b := val_high hs
      have hp := Nat.two_pow_pos (s / 4503599627370496 - 1)
      have h2 : 4503599627370496 * 1 ≤ 4503599627370496 * 2 ^ (s / 4503599627370496 - 1) := Nat.mul_le_mul_left _ hp
      omega
  · have hs : ¬ s < 4503599627370496 := by omega
    have a := val_high hr
    have b := val_high hs
    by_cases hq : r / 4503599627370496 = s / 4503599627370496
    · unfold valR
      rw [if_neg hr, if_neg hs, hq]
      exact (Nat.mul_lt_mul_right (Nat.two_pow_pos _)).2 (by omega)
    · have hlt : r / 4503599627370496 < s / 4503599627370496 := by omega
      have h2 : (2 : Nat) ^ (r / 4503599627370496) ≤ 2 ^ (s / 4503599627370496 - 1) := Nat.pow_le_pow_right (by decide) (by omega)
      have h3 := Nat.mul_le_mul_left 4503599627370496 h2
      omega
theorem val_le {r s : Nat} (h : r ≤ s) : valR r ≤ valR s := by
  rcases Nat.lt_or_ge r s with h1 | h1
  · exact Nat.le_of_lt (val_lt h1)
  · rw [show r = s by omega]; exact Nat.le_refl _
/-- what a word stands for, in the least unit -/
def sv (x : Nat) : Int := if x / 9223372036854775808 % 2 = 1 then -(valR (x % 9223372036854775808) : Int) else (valR (x % 9223372036854775808) : Int)
theorem cmp_scale (a b : Int) (k : Nat) (hk : 0 < k) : compare (a * k) (b * k) = compare a b := by
  have hk' : (0 : Int) < (k : Int) := by omega
  rcases Int.lt_trichotomy a b with h | h | h
  · have h2 : a * k < b * k := Int.mul_lt_mul_of_pos_right h hk'
    rw [Int.compare_eq_ite_lt, Int.compare_eq_ite_lt, if_pos h, if_pos h2]
  · subst h
    simp
  · have h2 : b * k < a * k := Int.mul_lt_mul_of_pos_right h hk'
    rw [Int.compare_eq_ite_lt, Int.compare_eq_ite_lt, if_neg (by omega), if_pos h2, if_neg (by omega), if_pos h]
theorem fo_sv {x y : Nat} (fx : x % 9223372036854775808 < 9218868437227405312) (fy : y % 9223372036854775808 < 9218868437227405312) : fo x y = some (compare (sv x) (sv y)) := by
  obtain ⟨m, a, e1, v1⟩ := read_num x fx
  obtain ⟨n, b, e2, v2⟩ := read_num y fy
  show Ieee.Datum.order (Ieee.Format.read Ieee.double x) (Ieee.Format.read Ieee.double y) = _
  rw [e1, e2]
  unfold Ieee.Datum.order
  simp only [Option.some.injEq]
  have q1 : ((-1074 : Int) + (a : Int) - min (-1074 + (a : Int)) (-1074 + (b : Int))).toNat = a - min a b := by omega
  have q2 : ((-1074 : Int) + (b : Int) - min (-1074 + (a : Int)) (-1074 + (b : Int))).toNat = b - min a b := by omega
  rw [q1, q2, ← cmp_scale _ _ (2 ^ min a b) (Nat.two_pow_pos _)]
  have p1 : (2 : Nat) ^ a = 2 ^ (a - min a b) * 2 ^ (min a b) := by rw [← Nat.pow_add]; congr 1; omega
  have p2 : (2 : Nat) ^ b = 2 ^ (b - min a b) * 2 ^ (min a b) := by rw [← Nat.pow_add]; congr 1; omega
  have r1 : Ieee.signed (x / 9223372036854775808 % 2 == 1) m (a - min a b) * ((2 ^ min a b : Nat) : Int) = sv x := by
    unfold sv
    rw [← v1, p1, signed_nat]
    by_cases h : x / 9223372036854775808 % 2 = 1
    · rw [if_pos (beq_iff_eq.2 h), if_pos h, Int.neg_mul, ← Nat.mul_assoc]; norm_cast
    · rw [if_neg (by rw [beq_iff_eq]; exact h), if_neg h, ← Nat.mul_assoc]; norm_cast
  have r2 : Ieee.signed (y / 9223372036854775808 % 2 == 1) n (b - min a b) * ((2 ^ min a b : Nat) : Int) = sv y := by
    unfold sv
    rw [← v2, p2, signed_nat]
    by_cases h : y / 9223372036854775808 % 2 = 1
    · rw [if_pos (beq_iff_eq.2 h), if_pos h, Int.neg_mul, ← Nat.mul_assoc]; norm_cast
    · rw [if_neg (by rw [beq_iff_eq]; exact h), if_neg h, ← Nat.mul_assoc]; norm_cast
  rw [r1, r2]
theorem sv_zero : sv 0 = 0 := by
  unfold sv
  rw [if_neg (by decide), val_low (by decide)]
  rfl
theorem val_zero {r : Nat} (h : valR r = 0) : r = 0 := val_inj (h.trans (val_low (by decide)).symm)
end Go.Proofs.YtcbgkbidgpemfaaGreatDoor.prnw

/- Rounding to a float64, and the product and the quotient of two, are the nearest floats of what is exact. Plain. -/
namespace Go.Proofs.YtcbgkbidgpemfaaGreatDoor.fpm
open Go Go.RowKit Go.Proofs.YtcbgkbidgpemfaaGreatDoor.prnw Go.Proofs.YtcbgkbidgpemfaaGreatDoor.flatm

theorem cut_rne (neg : Bool) (n v : Nat) : Ieee.Toward.cut .even neg n v = rne n (2 ^ v) := by
  have e : Ieee.Toward.cut .even neg n v = rne n (2 ^ min v (n.log2 + 2)) := by
    unfold Ieee.Toward.cut rne
    rw [Nat.shiftLeft_eq, Nat.one_mul]
    generalize 2 ^ min v (n.log2 + 2) = g
    simp only
    congr 1
    by_cases h1 : g < 2 * (n % g)
    · rw [decide_eq_true h1, if_pos (.inl h1)]
      rfl
    · rw [decide_eq_false h1, Bool.false_or]
      by_cases h2 : 2 * (n % g) = g ∧ n / g % 2 = 1
      · rw [if_pos (.inr h2)]
        have a1 : (g == 2 * (n % g)) = true := beq_iff_eq.2 h2.1.symm
        have a2 : (n / g % 2 == 1) = true := beq_iff_eq.2 h2.2
        rw [a1, a2]
        rfl
      · rw [if_neg (fun h => h.elim h1 h2)]
        have a1 : ((g == 2 * (n % g)) && (n / g % 2 == 1)) = false := by
          rw [Bool.and_eq_false_iff]
          by_cases h3 : 2 * (n % g) = g
          · exact .inr (beq_eq_false_iff_ne.2 fun h => h2 ⟨h3, h⟩)
          · exact .inl (beq_eq_false_iff_ne.2 fun h => h3 h.symm)
        rw [a1]
        rfl
  rw [e]
  by_cases h : v ≤ n.log2 + 2
  · rw [Nat.min_eq_left h]
  · rw [Nat.min_eq_right (by omega)]
    have small : ∀ k, n.log2 + 2 ≤ k → rne n (2 ^ k) = 0 := fun k hk => by
      have h1 : n < 2 ^ (n.log2 + 1) := Nat.lt_log2_self
      have h2 : (2 : Nat) ^ (n.log2 + 1) * 2 ≤ 2 ^ k := by
        rw [← Nat.pow_succ]
        exact Nat.pow_le_pow_right (by decide) hk
      generalize 2 ^ k = g at *
      generalize 2 ^ (n.log2 + 1) = l at *
      unfold rne
      rw [Nat.div_eq_of_lt (by omega), Nat.mod_eq_of_lt (by omega), if_neg (by omega)]
    rw [small _ (Nat.le_refl _), small v (by omega)]

def infW : Nat := 9218868437227405312
theorem infW_eq : infW = 9218868437227405312 := rfl
/-- rounding: the place, and the digits that are kept -/
theorem near_core (neg : Bool) (m : Nat) (p : Int) (hm : 0 < m) : ∃ t u v : Nat, (t : Int) = p - u + v + 1074 ∧ (t = 0 ∨ 4503599627370496 * 2 ^ v ≤ m * 2 ^ u) ∧ m * 2 ^ u ≤ 9007199254740992 * 2 ^ v ∧ (54 ≤ m.log2 → u = 0 ∧ 2 ≤ v) ∧
    Ieee.Format.nearest Ieee.double neg m p = Ieee.double.word neg (min (t * 4503599627370496 + rne (m * 2 ^ u) (2 ^ v)) infW) := by
  have hf : Ieee.double.fractionBits = 52 := rfl
  have hb : Ieee.double.binade = 4503599627370496 := by kernel_rfl
  have hi : Ieee.double.infRung = infW := by kernel_rfl
  have hl : Ieee.double.leastPlace = -1074 := by kernel_rfl
  obtain ⟨L, hL⟩ : ∃ L, m.log2 = L := ⟨_, rfl⟩
  obtain ⟨last, hlast⟩ : ∃ last : Int, last = max (p + (L : Int) - 52) (-1074) := ⟨_, rfl⟩
  have h1 : m < 2 ^ (L + 1) := by rw [← hL]; exact Nat.lt_log2_self
  have h2 : 2 ^ L ≤ m := by rw [← hL]; exact Nat.log2_self_le (by omega)
  refine ⟨(last + 1074).toNat, (p - last).toNat, (last - p).toNat, by omega, ?_, ?_, fun h => by omega, ?_⟩
  · by_cases h0 : last = -1074
    · left; omega
    · right
      have e : last = p + (L : Int) - 52 := by omega
      by_cases h52 : L ≤ 52
      · have e1 : (p - last).toNat = 52 - L := by omega
        have e2 : (last - p).toNat = 0 := by omega
        rw [e1, e2, Nat.pow_zero, Nat.mul_one]
        have := Nat.mul_le_mul_right (2 ^ (52 - L)) h2
        rw [← Nat.pow_add, show L + (52 - L) = 52 by omega] at this
        exact Nat.le_trans (by decide) this
      · have e1 : (p - last).toNat = 0 := by omega
        have e2 : (last - p).toNat = L - 52 := by omega
        rw [e1, e2, Nat.pow_zero, Nat.mul_one]
        have : (4503599627370496 : Nat) * 2 ^ (L - 52) = 2 ^ L := by
          rw [show (4503599627370496 : Nat) = 2 ^ 52 by decide, ← Nat.pow_add, show 52 + (L - 52) = L by omega]
        omega
  · have hu : L + 1 + (p - last).toNat ≤ 53 + (last - p).toNat := by omega
    have h3 : m * 2 ^ (p - last).toNat ≤ 2 ^ (L + 1) * 2 ^ (p - last).toNat := Nat.mul_le_mul_right _ (Nat.le_of_lt h1)
    rw [← Nat.pow_add] at h3
    have h4 : (2 : Nat) ^ (L + 1 + (p - last).toNat) ≤ 2 ^ (53 + (last - p).toNat) := Nat.pow_le_pow_right (by decide) hu
    rw [Nat.pow_add 2 53] at h4
    exact Nat.le_trans h3 (Nat.le_trans h4 (Nat.le_of_eq (by congr 1)))
  · unfold Ieee.Format.nearest
    rw [if_neg (by omega)]
    simp only [hf, hb, hi, hl]
    rw [hL, show ((52 : Nat) : Int) = 52 by rfl, ← hlast, cut_rne, Nat.shiftLeft_eq, show last - -1074 = last + 1074 by omega]
theorem two_cancel {a b k : Nat} (h : a * 2 ^ k = b * 2 ^ k) : a = b := Nat.eq_of_mul_eq_mul_right (Nat.two_pow_pos k) h
theorem pw3 (m x y z : Nat) : m * 2 ^ x * 2 ^ y * 2 ^ z = m * 2 ^ (x + y + z) := by rw [Nat.pow_add, Nat.pow_add, ← Nat.mul_assoc, ← Nat.mul_assoc]
theorem nearest_eq (neg : Bool) (m : Nat) (p : Int) (hm : 0 < m) : Ieee.Format.nearest Ieee.double neg m p = Ieee.double.word neg (min (nearX (m * 2 ^ p.toNat) (2 ^ (-p).toNat)) infW) := by
  obtain ⟨t, u, v, e1, e2, e3, _, e5⟩ := near_core neg m p hm
  obtain ⟨a, b, c⟩ := rne_spec (m * 2 ^ u) (2 ^ v) (Nat.two_pow_pos v)
  rw [e5]
  refine congrArg (fun x => Ieee.double.word neg (min x infW)) ?_
  refine near_eq (Nat.two_pow_pos _) (near_mk _ _ (2 ^ v) (m * 2 ^ u) t _ (Nat.two_pow_pos _) (Nat.two_pow_pos v) ?_ a b c (rne_le (Nat.two_pow_pos v) e3) e2)
  have hk : p.toNat + leB + v = u + t + (-p).toNat := by
    have := leB_eq
    omega
  rw [pw3, pw3, hk]
/-- what a sign and a size below infinity are read as -/
theorem word_eq (s : Bool) (X : Nat) : Ieee.double.word s X = if s then 9223372036854775808 + X else X := by
  have hw : Ieee.double.signWeight = 9223372036854775808 := by kernel_rfl
  unfold Ieee.Format.word
  rw [hw]
theorem word_read (s : Bool) (X : Nat) (hX : X < infW) : ∃ m a : Nat, Ieee.Format.read Ieee.double (Ieee.double.word s X) = .number s m ((-1074 : Int) + a) ∧ m * 2 ^ a = valR X := by
  have hi := infW_eq
  have hm : Ieee.double.word s X % 9223372036854775808 = X := by
    rw [word_eq]
    split <;> omega
  obtain ⟨m, a, h1, h2⟩ := read_num (Ieee.double.word s X) (by rw [hm]; omega)
  rw [hm] at h2
  refine ⟨m, a, ?_, h2⟩
  rw [h1]
  congr 1
  rw [word_eq]
  cases s
  · rw [if_neg (by decide), beq_eq_false_iff_ne]
    omega
  · rw [if_pos rfl, beq_iff_eq]
    omega
theorem val_pos {X : Nat} (h : 0 < X) : 0 < valR X := Nat.pos_of_ne_zero fun e => by have := val_zero e; omega
theorem mul_near (s t : Bool) (X Y C D : Nat) (hX0 : 0 < X) (hX : X < infW) (hY0 : 0 < Y) (hY : Y < infW) (hD : 0 < D) (h : valR X * valR Y * D = C * 2 ^ leB * 2 ^ leB) :
    Ieee.double.mul (Ieee.double.word s X) (Ieee.double.word t Y) = some (Ieee.double.word (s ^^ t) (min (nearX C D) infW)) := by
  obtain ⟨m, a, e1, v1⟩ := word_read s X hX
  obtain ⟨n, b, e2, v2⟩ := word_read t Y hY
  have hm : 0 < m := Nat.pos_of_ne_zero fun e => by
    have := val_pos hX0
    rw [← v1, e, Nat.zero_mul] at this
    omega
  have hn : 0 < n := Nat.pos_of_ne_zero fun e => by
    have := val_pos hY0
    rw [← v2, e, Nat.zero_mul] at this
    omega
  unfold Ieee.Format.mul
  rw [e1, e2]
  show some (Ieee.Format.nearest Ieee.double (s ^^ t) (m * n) _) = _
  rw [nearest_eq _ _ _ (Nat.mul_pos hm hn)]
  refine congrArg (fun x => some (Ieee.double.word (s ^^ t) (min x infW))) ?_
  refine near_same (Nat.two_pow_pos _) hD ?_
  obtain ⟨p, hp⟩ : ∃ p : Int, (-1074 : Int) + a + (-1074 + b) = p := ⟨_, rfl⟩
  rw [hp]
  have hk : p.toNat + (leB + leB) = a + b + (-p).toNat := by
    have := leB_eq
    omega
  have hp2 : 2 ^ p.toNat * (2 ^ leB * 2 ^ leB) = 2 ^ a * 2 ^ b * 2 ^ (-p).toNat := by
    rw [← Nat.pow_add, ← Nat.pow_add, hk, Nat.pow_add, Nat.pow_add]
  rw [← v1, ← v2] at h
  have hZ : 0 < 2 ^ leB := Nat.two_pow_pos _
  generalize 2 ^ leB = Z at *
  generalize 2 ^ p.toNat = P at *
  generalize 2 ^ (-p).toNat = K at *
  generalize 2 ^ a = u at *
  generalize 2 ^ b = v at *
  refine Nat.eq_of_mul_eq_mul_right (Nat.mul_pos hZ hZ) ?_
  calc m * n * P * D * (Z * Z) = m * n * D * (P * (Z * Z)) := by ac_rfl
    _ = m * u * (n * v) * D * K := by rw [hp2]; ac_rfl
    _ = C * K * (Z * Z) := by rw [h]; ac_rfl
theorem near_le {A B C D : Nat} (hB : 0 < B) (hD : 0 < D) (h : A * D ≤ C * B) : nearX A B ≤ nearX C D := near_mono hB hD (near_of A B hB) (near_of C D hD) h
end Go.Proofs.YtcbgkbidgpemfaaGreatDoor.fpm
