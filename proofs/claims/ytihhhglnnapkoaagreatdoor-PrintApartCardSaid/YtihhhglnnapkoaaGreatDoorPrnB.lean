/- Unrounded scaling. No conditions but those stated. -/
import Derived.Test.YtihhhglnnapkoaaGreatDoorPrnA
namespace Go.Proofs.YtihhhglnnapkoaaGreatDoor.prnw
open Go.RowKit
open Go.Proofs.YtihhhglnnapkoaaGreatDoor.nodew
open Go.Proofs.YtihhhglnnapkoaaGreatDoor.chkw

theorem and63 (s : Int) : 0 ≤ bits BinOp.and IntKind.i64 s 63 ∧ bits BinOp.and IntKind.i64 s 63 ≤ 63 := by
  have h : bits BinOp.and IntKind.i64 s 63 = IntKind.i64.wrap (((BitVec.ofInt 64 s &&& BitVec.ofInt 64 63).toNat : Nat) : Int) := rfl
  have h2 : (BitVec.ofInt 64 s &&& BitVec.ofInt 64 63).toNat ≤ 63 := by
    rw [BitVec.toNat_and]
    exact Nat.le_trans Nat.and_le_right (by decide)
  rw [h, IntKind.wrap_i64]
  omega
theorem or_bd (a b : Int) : 0 ≤ bits BinOp.or IntKind.u64 a b ∧ bits BinOp.or IntKind.u64 a b < 18446744073709551616 := w64 _
/-- what unrounded scaling answers -/
def usI (x hi lo : Nat) (s : Int) : Int :=
  if (IntKind.u64.wrap (((x * hi / 18446744073709551616 : Nat) : Int) / 2 ^ (bits BinOp.and IntKind.i64 s 63).toNat * 2 ^ (bits BinOp.and IntKind.i64 s 63).toNat) != ((x * hi / 18446744073709551616 : Nat) : Int)) = true then bits BinOp.or IntKind.u64 (((x * hi / 18446744073709551616 : Nat) : Int) / 2 ^ (bits BinOp.and IntKind.i64 s 63).toNat) 1
  else bits BinOp.or IntKind.u64 (IntKind.u64.wrap (((x * hi / 18446744073709551616 : Nat) : Int) - (if x * hi % 18446744073709551616 < x * lo / 18446744073709551616 then 1 else 0)) / 2 ^ (bits BinOp.and IntKind.i64 s 63).toNat)
    (if 1 < IntKind.u64.wrap (((x * hi % 18446744073709551616 : Nat) : Int) - ((x * lo / 18446744073709551616 : Nat) : Int)) then 1 else 0)
theorem us_bd (x hi lo : Nat) (s : Int) : 0 ≤ usI x hi lo s ∧ usI x hi lo s < 18446744073709551616 := by
  unfold usI
  split
  · exact or_bd _ _
  · exact or_bd _ _
def UsPost (w : World) (r : Int) (e : Ending) (w' : World) : Prop := e = .returned (.int .u64 r) ∧ ∃ n, w' = w.drewN n
set_option maxRecDepth 100000 in
set_option maxHeartbeats 1000000 in
theorem uscale_any (x hi lo : Nat) (s : Int) (hx : x < 18446744073709551616) (hh : hi < 18446744073709551616) (hlo : lo < 18446744073709551616) (pb : Nat) (w : World) (hb : SC w pb hi lo s) :
    Calls Tryz.prog 114 #[.int .u64 x, .pointer (some ⟨pb, 0, none⟩)] w (UsPost w (usI x hi lo s)) := by
  have d0 : w.cell? ⟨pb, 0, none⟩ = some (.int .u64 (hi : Nat)) := by rw [cell_of_row _ _ _ _ _ _ hb]; rfl
  have d1 : w.cell? ⟨pb, 1, none⟩ = some (.int .u64 (lo : Nat)) := by rw [cell_of_row _ _ _ _ _ _ hb]; rfl
  have d2 : w.cell? ⟨pb, 2, none⟩ = some (.int .i64 s) := by rw [cell_of_row _ _ _ _ _ _ hb]; rfl
  have m1 := Tryz.bits_Mul64 x hi hx hh w
  have m2 := Tryz.bits_Mul64 x lo hx hlo w
  obtain ⟨R, hR⟩ : ∃ R, usI x hi lo s = R := ⟨_, rfl⟩
  rw [hR]
  unfold usI at hR
  obtain ⟨k, hk⟩ : ∃ k : Int, bits BinOp.and IntKind.i64 s 63 = k := ⟨_, rfl⟩
  have k0 : 0 ≤ k := by rw [← hk]; exact (and63 s).1
  have k1 : k ≤ 63 := by rw [← hk]; exact (and63 s).2
  rw [hk] at hR
  have H1 : ((x * hi / 18446744073709551616 : Nat) : Int) < 18446744073709551616 := by
    have h1 : x * hi < 18446744073709551616 * 18446744073709551616 := Nat.mul_lt_mul_of_lt_of_lt hx hh
    have := Nat.div_lt_of_lt_mul h1
    omega
  obtain ⟨H, hH⟩ : ∃ H, x * hi / 18446744073709551616 = H := ⟨_, rfl⟩
  obtain ⟨M, hM⟩ : ∃ M, x * hi % 18446744073709551616 = M := ⟨_, rfl⟩
  obtain ⟨L, hL⟩ : ∃ L, x * lo / 18446744073709551616 = L := ⟨_, rfl⟩
  rw [hH] at H1
  rw [hH, hM] at m1
  rw [hL] at m2
  rw [hH, hM, hL] at hR
  have N1 := Lib.hid m1
  have N2 := Lib.hid m2
  have H0 : (0 : Int) ≤ (H : Int) := by omega
  have HR := Lib.hid hR
  clear hH hM hL m1 m2 hb hR
  go_enter Tryz.func114, Tryz.ntmps114
  go_wp2_with fail
  (with_reducible refine N1.out.mono ?_)
  rintro e w' ⟨rfl, hw'⟩
  obtain rfl := hw'.symm
  go_upto_region 3 with (fail)
  clear hk
  go_upto_if 30 with (fail)
  cases hb1 : (IntKind.u64.wrap ((H : Int) / 2 ^ k.toNat * 2 ^ k.toNat) != (H : Int)) with
  | true =>
    have hR2 := HR.out
    rw [if_pos hb1] at hR2
    have HR2 := Lib.hid hR2
    clear hb1 hR2
    go_wp2_with fail
    go_ret
    exact ⟨by rw [HR2.out]; rfl, 0, rfl⟩
  | false =>
    have hR2 := HR.out
    rw [if_neg (by rw [hb1]; decide)] at hR2
    have HR2 := Lib.hid hR2
    clear hb1 hR2
    go_wp2_with fail
    (with_reducible refine N2.out.mono ?_)
    rintro e w' ⟨rfl, hw'⟩
    obtain rfl := hw'.symm
    go_wp2_with fail
    (with_reducible refine (b2u _ _).mono ?_)
    rintro e w' ⟨rfl, hw'⟩
    obtain rfl := hw'.symm
    go_upto_region 7 with (fail)
    clear H1
    go_quiet (exact Calls.quiet_of_same (b2u _ _))
    all_goals go_wp2_with fail
    all_goals go_ret
    all_goals refine ⟨?_, nq, rfl⟩
    all_goals rw [← HR2.out]
    all_goals (repeat (first | rw [if_pos (by assumption)] | rw [if_neg (by assumption)] | rw [if_neg (by omega)] | rw [if_pos (by omega)]))
    all_goals rfl
end Go.Proofs.YtihhhglnnapkoaaGreatDoor.prnw
