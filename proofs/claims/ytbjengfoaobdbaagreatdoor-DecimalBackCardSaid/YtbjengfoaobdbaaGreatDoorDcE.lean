/- The walks of strconv's Shift. Conditions: as each theorem states. -/
import Derived.Test.YtbjengfoaobdbaaGreatDoorDcD
namespace Go.Proofs.YtbjengfoaobdbaaGreatDoor.dcw
open Go.RowKit
open Go.Proofs.YtbjengfoaobdbaaGreatDoor.bsw
open Go.Proofs.YtbjengfoaobdbaaGreatDoor.prnw
open Go.Proofs.YtbjengfoaobdbaaGreatDoor.dmx

set_option maxRecDepth 100000 in
set_option maxHeartbeats 1000000 in
theorem shift_l (B a : Nat) (N n k : Nat) (V : Nat) (dp : Int) (neg : Bool) (w : World) (hL : LC B w) (hB : B ≤ a) (hk1 : 1 ≤ k) (hk : k ≤ 60) (hn : n + 20 ≤ 800) (hdp : -3000 ≤ dp) (hdp2 : dp ≤ 3000) (h : DV w a V N n dp neg) :
    Calls Tryz.prog 128 #[.pointer (some ⟨a, 0, none⟩), .int .i64 (k : Nat)] w (ShPost w a (V * 2 ^ k) (n + 19) dp neg) := by
  have HC := Lib.hid (shl_any B a N n k V dp neg w hL hB hk1 hk hn hdp hdp2 h)
  have c1 := h.choose_spec.1.cnd
  have g := h.choose_spec.2.2.1
  have g1 := g.n1
  have t1 : ((n : Int) == 0) = false := by rw [beq_eq_false_iff_ne]; omega
  have k1 : (0 : Int) < (k : Int) := by omega
  have k2 : (k : Int) ≤ 60 := by omega
  clear hL h g g1
  go_enter Tryz.func128, Tryz.ntmps128
  go_wp2_with fail
  refine wp_loop_rounds 1 ?_
  rw [rounds_succ]
  go_wp2_with (go_at_call 163; (with_reducible refine HC.out.mono ?_); rintro e w' ⟨rfl, hz2⟩; have HZ2 := Lib.hid hz2; clear hz2)
  go_end0
  exact ⟨rfl, HZ2.out⟩
set_option maxRecDepth 100000 in
set_option maxHeartbeats 1000000 in
theorem shift_r1 (a : Nat) (N n k : Nat) (V : Nat) (dp : Int) (neg : Bool) (w : World) (hk1 : 1 ≤ k) (hk : k ≤ 60) (hn : n + k ≤ 799) (hnd : (n : Int) + k + 1 ≤ dp + 2000) (hdp : -3000 ≤ dp) (hdp2 : dp ≤ 3000) (h : DV w a V N n dp neg) :
    Calls Tryz.prog 128 #[.pointer (some ⟨a, 0, none⟩), .int .i64 (-(k : Int))] w (SrPost w a V k (n + k) dp neg) := by
  have HC := Lib.hid (shr_any a N n k V dp neg w hk1 hk hn hnd hdp hdp2 h)
  have c1 := h.choose_spec.1.cnd
  have g := h.choose_spec.2.2.1
  have g1 := g.n1
  have t1 : ((n : Int) == 0) = false := by rw [beq_eq_false_iff_ne]; omega
  have k1 : (0 : Int) < (k : Int) := by omega
  have k2 : (k : Int) ≤ 60 := by omega
  have k3 : decide (0 < -(k : Int)) = false := decide_eq_false (by omega)
  have k4 : decide (-(k : Int) < 0) = true := decide_eq_true (by omega)
  have k5 : decide (-(k : Int) < -60) = false := decide_eq_false (by omega)
  clear h g g1
  go_enter Tryz.func128, Tryz.ntmps128
  go_wp2_with fail
  refine wp_loop_rounds 1 ?_
  rw [rounds_succ]
  go_wp2_with (go_at_call 164; (with_reducible refine HC.out.mono ?_); rintro e w' ⟨rfl, hz2⟩; have HZ2 := Lib.hid hz2; clear hz2)
  go_end0
  exact ⟨rfl, HZ2.out⟩
def Sr2Post (w : World) (a V k : Nat) (B D : Int) (neg : Bool) (e : Ending) (w' : World) : Prop :=
  e = .returned (.tuple #[]) ∧ (∃ N n dp, DV w' a (V / 2 ^ k) N n dp neg ∧ N % 10 ≠ 0 ∧ (n : Int) ≤ B ∧ D - 40 ≤ dp ∧ dp ≤ D + 40) ∧ V / 2 ^ k * 2 ^ k = V ∧ w.grownBy w' (some a)
set_option maxRecDepth 100000 in
set_option maxHeartbeats 1000000 in
theorem shift_r (a : Nat) (N n k : Nat) (V : Nat) (dp : Int) (neg : Bool) (w : World) (hk1 : 1 ≤ k) (hk : k ≤ 120) (hn : n + k ≤ 799) (hnd : (n : Int) + k + 100 ≤ dp + 2000) (hdp : -2900 ≤ dp) (hdp2 : dp ≤ 2900) (h : DV w a V N n dp neg) :
    Calls Tryz.prog 128 #[.pointer (some ⟨a, 0, none⟩), .int .i64 (-(k : Int))] w (Sr2Post w a V k (n + k) dp neg) := by
  by_cases hk6 : k ≤ 60
  · refine (shift_r1 a N n k V dp neg w hk1 hk6 hn (by omega) (by omega) (by omega) h).mono fun e w' hh => ?_
    obtain ⟨h1, ⟨N', n', dp', h2, hm, h3, h4, h5⟩, h6, h7⟩ := hh
    exact ⟨h1, ⟨N', n', dp', h2, hm, h3, by omega, by omega⟩, h6, h7⟩
  · have HC0 : Calls Tryz.prog 164 #[.pointer (some ⟨a, 0, none⟩), .int .u64 60] w (SrPost w a V 60 (n + 60) dp neg) := shr_any a N n 60 V dp neg w (by decide) (by decide) (by omega) (by omega) (by omega) (by omega) h
    have HC := Lib.hid HC0
    have c1 := h.choose_spec.1.cnd
    have g := h.choose_spec.2.2.1
    have g1 := g.n1
    obtain ⟨j, hj⟩ : ∃ j, k = 60 + j := ⟨k - 60, by omega⟩
    have HJ := Lib.hid hj
    have t1 : ((n : Int) == 0) = false := by rw [beq_eq_false_iff_ne]; omega
    have k1 : (0 : Int) < (k : Int) := by omega
    have k2 : (k : Int) ≤ 120 := by omega
    have k3 : decide (0 < -(k : Int)) = false := decide_eq_false (by omega)
    have k4 : decide (-(k : Int) < 0) = true := decide_eq_true (by omega)
    have k5 : decide (-(k : Int) < -60) = true := decide_eq_true (by omega)
    have k6 : -(k : Int) + 60 = -(j : Int) := by omega
    have j0 : (0 : Int) < (j : Int) := by omega
    have j1 : (j : Int) ≤ 60 := by omega
    have k7 : decide (-(j : Int) < -60) = false := decide_eq_false (by omega)
    clear h g g1 hj HC0
    go_enter Tryz.func128, Tryz.ntmps128
    go_wp2_with fail
    refine wp_loop_rounds 2 ?_
    rw [rounds_succ]
    go_wp2_with fail
    (with_reducible refine HC.out.mono ?_)
    rintro e w1 ⟨rfl, ⟨N1, n1, dp1, h2, _, h3, h4, h5⟩, h6, h7⟩
    have HC2 := Lib.hid (shr_any a N1 n1 j (V / 2 ^ 60) dp1 neg w1 (by omega) (by omega) (by omega) (by omega) (by omega) (by omega) h2)
    have HZ := Lib.hid (And.intro h3 (And.intro h4 (And.intro h5 (And.intro h6 h7))))
    clear h2 h3 h4 h5 h6 h7
    go_wp2_with fail
    rw [rounds_succ]
    go_wp2_with (go_at_call 164; (with_reducible refine HC2.out.mono ?_); rintro e w' ⟨rfl, hz2⟩; have HZ2 := Lib.hid hz2; clear hz2)
    go_end0
    obtain ⟨⟨N', n', dp', a2, am, a3, a4, a5⟩, a6, a7⟩ := HZ2.out
    obtain ⟨b3, b4, b5, b6, b7⟩ := HZ.out
    have hkj := HJ.out
    have e1 : V / 2 ^ 60 / 2 ^ j = V / 2 ^ k := by rw [Nat.div_div_eq_div_mul, ← Nat.pow_add, hkj]
    refine ⟨rfl, ⟨N', n', dp', by rw [← e1]; exact a2, am, by omega, by omega, by omega⟩, ?_, grown_trans b7 a7⟩
    rw [← e1, hkj, Nat.pow_add, Nat.mul_comm (2 ^ 60), ← Nat.mul_assoc, a6, b6]
end Go.Proofs.YtbjengfoaobdbaaGreatDoor.dcw
