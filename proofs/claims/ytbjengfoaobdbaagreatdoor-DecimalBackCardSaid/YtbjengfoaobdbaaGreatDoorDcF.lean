/- The walks of strconv's shouldRoundUp and RoundedInteger. Conditions: as each theorem states. -/
import Derived.Test.YtbjengfoaobdbaaGreatDoorDcE
import Derived.Test.YtbjengfoaobdbaaGreatDoorMgC
namespace Go.Proofs.YtbjengfoaobdbaaGreatDoor.dcw
open Go.RowKit
open Go.Proofs.YtbjengfoaobdbaaGreatDoor.bsw
open Go.Proofs.YtbjengfoaobdbaaGreatDoor.prnw
open Go.Proofs.YtbjengfoaobdbaaGreatDoor.dmx
open Go.Proofs.YtbjengfoaobdbaaGreatDoor.fpm

set_option maxRecDepth 100000 in
theorem sru_neg (a : Nat) (dp : Int) (hd : dp < 0) (w : World) :
    Calls Tryz.prog 165 #[.pointer (some ⟨a, 0, none⟩), .int .i64 dp] w (Same w (.bool false)) := by
  have t1 : decide (dp < 0) = true := decide_eq_true hd
  go_enter Tryz.func165, Tryz.ntmps165
  go_wp2_with fail
  go_ret
  exact ⟨rfl, rfl⟩
set_option maxRecDepth 100000 in
theorem sru_big (a n p : Nat) (w : World) (h : w.cell? ⟨a, 800, none⟩ = some (.int .i64 (n : Nat))) (hp : n ≤ p) :
    Calls Tryz.prog 165 #[.pointer (some ⟨a, 0, none⟩), .int .i64 (p : Nat)] w (Same w (.bool false)) := by
  have t1 : decide ((p : Int) < 0) = false := decide_eq_false (by omega)
  have t2 : decide (n ≤ p) = true := decide_eq_true hp
  go_enter Tryz.func165, Tryz.ntmps165
  go_wp2_with fail
  go_ret
  exact ⟨rfl, rfl⟩
set_option maxRecDepth 100000 in
set_option maxHeartbeats 1000000 in
theorem sru_mid (a N n p : Nat) (f : Nat → Nat) (dp : Int) (neg : Bool) (w : World) (h : DM w a f (n : Nat) dp neg) (hg : Dg f N n) (hp : p < n) (hn : n ≤ 800) :
    Calls Tryz.prog 165 #[.pointer (some ⟨a, 0, none⟩), .int .i64 (p : Nat)] w (Same w (.bool (upB N n p))) := by
  have c1 := h.cnd
  have c2 := h.ctr
  have c3 := h.dig p (by omega)
  have hx := hg p hp
  rw [← dg_usual hp] at hx
  have hx10 := dgN_lt N n p
  obtain ⟨b, hb⟩ : ∃ b, upB N n p = b := ⟨_, rfl⟩
  rw [hb]
  unfold upB at hb
  obtain ⟨x, hx2⟩ : ∃ x, dgN N n p = x := ⟨_, rfl⟩
  rw [hx2] at hx hx10 hb
  rw [hx, show ((48 + x : Nat) : Int) = (x : Int) + 48 by omega] at c3
  have t1 : decide ((p : Int) < 0) = false := decide_eq_false (by omega)
  have t2 : decide (n ≤ p) = false := decide_eq_false (by omega)
  have p0 : (0 : Int) ≤ (p : Int) := by omega
  have p1 : (p : Int) < 800 := by omega
  have x0 : (0 : Int) ≤ (x : Int) := by omega
  have x1 : (x : Int) ≤ 9 := by omega
  by_cases h5 : x = 5
  · have t3 : ((x : Int) + 48 == 53) = true := by rw [beq_iff_eq]; omega
    by_cases hpn : p + 1 = n
    · rw [if_pos ⟨h5, hpn⟩] at hb
      have t4 : ((p : Int) + 1 == (n : Int)) = true := by rw [beq_iff_eq]; omega
      by_cases hp0 : 0 < p
      · have t5 : decide (0 < p) = true := decide_eq_true hp0
        rw [t5, Bool.true_and] at hb
        have hy := hg (p - 1) (by omega)
        rw [← dg_usual (by omega)] at hy
        have hy10 := dgN_lt N n (p - 1)
        have c4 := h.dig (p - 1) (by omega)
        obtain ⟨y, hy2⟩ : ∃ y, dgN N n (p - 1) = y := ⟨_, rfl⟩
        rw [hy2] at hy hy10 hb
        rw [hy, show ((48 + y : Nat) : Int) = (y : Int) + 48 by omega] at c4
        obtain ⟨q, hq⟩ : ∃ q, p - 1 = q := ⟨_, rfl⟩
        rw [hq] at c4
        have eq1 : (p : Int) - 1 = (q : Int) := by omega
        have q0 : (0 : Int) ≤ (q : Int) := by omega
        have q1 : (q : Int) < 800 := by omega
        have y0 : (0 : Int) ≤ (y : Int) := by omega
        have y1 : (y : Int) ≤ 9 := by omega
        obtain ⟨z, hz⟩ : ∃ z, y % 2 = z := ⟨_, rfl⟩
        have eq2 : (y : Int) % 2 = (z : Int) := by omega
        rw [hz] at hb
        have t6 : ((z : Int) != 0) = b := by
          rw [← hb]
          by_cases hz1 : z = 1
          · rw [hz1]; rfl
          · have hz0 : z = 0 := by omega
            rw [hz0]; rfl
        clear hb hx hx2 hy hy2 hz hq h5 hpn h hg
        go_enter Tryz.func165, Tryz.ntmps165
        go_wp2_with fail
        go_ret
        exact ⟨rfl, rfl⟩
      · have t5 : decide (0 < p) = false := decide_eq_false hp0
        rw [t5, Bool.false_and] at hb
        obtain rfl := hb.symm
        clear hx hx2 h5 hpn h hg
        go_enter Tryz.func165, Tryz.ntmps165
        go_wp2_with fail
        go_ret
        exact ⟨rfl, rfl⟩
    · rw [if_neg (fun h => hpn h.2)] at hb
      have t4 : ((p : Int) + 1 == (n : Int)) = false := by rw [beq_eq_false_iff_ne]; omega
      have t6 : decide (53 ≤ (x : Int) + 48) = true := decide_eq_true (by omega)
      have hb2 : b = true := by rw [← hb, h5]; rfl
      subst hb2
      clear hb hx hx2 h5 hpn h hg
      go_enter Tryz.func165, Tryz.ntmps165
      go_wp2_with fail
      go_ret
      exact ⟨rfl, rfl⟩
  · rw [if_neg (fun h => h5 h.1)] at hb
    have t3 : ((x : Int) + 48 == 53) = false := by rw [beq_eq_false_iff_ne]; omega
    have t6 : decide (53 ≤ (x : Int) + 48) = b := by
      rw [← hb]
      by_cases h6 : 5 ≤ x
      · rw [decide_eq_true h6, decide_eq_true (by omega)]
      · rw [decide_eq_false h6, decide_eq_false (by omega)]
    clear hb hx hx2 h5 h hg
    go_enter Tryz.func165, Tryz.ntmps165
    go_wp2_with fail
    go_ret
    exact ⟨rfl, rfl⟩
set_option maxRecDepth 100000 in
set_option maxHeartbeats 2000000 in
theorem rint_any (a V N n : Nat) (dp : Int) (neg : Bool) (w : World) (h : DV w a V N n dp neg) (hmd : N % 10 ≠ 0) (hn : n ≤ 800) (hd : -3000 ≤ dp) (hd2 : dp ≤ 20) (hV : V < 1152921504606846976 * one) :
    Calls Tryz.prog 173 #[.pointer (some ⟨a, 0, none⟩)] w (Same w (.int .u64 ((rne V one : Nat) : Int))) := by
  obtain ⟨f, hD, hg, g, hnd, hv⟩ := h
  have c1 := hD.cnd
  have c2 := hD.cdp
  have t0 : decide (20 < dp) = false := decide_eq_false (by omega)
  by_cases hneg : dp < 0
  · have hr : rne V one = 0 := by rw [← hv]; exact ri_neg g dp hnd hneg
    have HS := Lib.hid (sru_neg a dp hneg w)
    have t1 : decide (0 < dp) = false := decide_eq_false (by omega)
    have HR := Lib.hid hr
    clear hr hD hg g hnd hv hneg
    go_enter Tryz.func173, Tryz.ntmps173
    go_wp2_with fail
    refine wp_loop_rounds 1 ?_
    rw [rounds_succ]
    go_wp2_with fail
    refine wp_loop_rounds 1 ?_
    rw [rounds_succ]
    go_wp2_with (go_at_call 165; (with_reducible refine HS.out.mono ?_); rintro e w' ⟨rfl, hw'⟩; obtain rfl := hw'.symm)
    go_ret
    exact ⟨by rw [HR.out]; rfl, rfl⟩
  · obtain ⟨p, hp⟩ : ∃ p : Nat, dp = (p : Int) := ⟨dp.toNat, by omega⟩
    subst hp
    obtain ⟨b, hb⟩ : ∃ b, b = if p < n then upB N n p else false := ⟨_, rfl⟩
    have hS : Calls Tryz.prog 165 #[.pointer (some ⟨a, 0, none⟩), .int .i64 (p : Nat)] w (Same w (.bool b)) := by
      rw [hb]
      by_cases hpn : p < n
      · rw [if_pos hpn]
        exact sru_mid a N n p f _ neg w hD hg hpn hn
      · rw [if_neg hpn]
        exact sru_big a n p w c1 (by omega)
    have hr : rne V one = preN N n p + if b then 1 else 0 := by
      rw [← hv, hb]
      by_cases hpn : p < n
      · rw [if_pos hpn]
        exact ri_mid ⟨g, hmd⟩ hnd hpn
      · rw [if_neg hpn]
        exact ri_big (by omega)
    have hpre : preN N n p < 1152921504606846976 := by
      refine Nat.lt_of_not_le fun hl => ?_
      have h1 : preN N n p ≤ rne V one := by rw [hr]; exact Nat.le_add_right _ _
      have h2 : V / one < 1152921504606846976 := Nat.div_lt_of_lt_mul (by rw [Nat.mul_comm]; exact hV)
      have h3 : preN N n p ≤ V / one := by
        unfold rne at hr
        by_cases hpn : p < n
        · rw [Nat.le_div_iff_mul_le one_pos, ← hv]
          unfold preN val one
          have he := oneE_eq
          obtain ⟨e, he2⟩ : ∃ e, n = p + e := ⟨n - p, by omega⟩
          have e1 : ((p : Int) - (n : Int) + 2000).toNat + e = oneE := by omega
          have h9 := Nat.div_mul_le_self (N * 10 ^ p) (10 ^ n)
          have e2 : 10 ^ n = 10 ^ p * 10 ^ e := by rw [he2, Nat.pow_add]
          have e3 : 10 ^ oneE = 10 ^ ((p : Int) - (n : Int) + 2000).toNat * 10 ^ e := by rw [← Nat.pow_add, e1]
          have hp10 : 0 < 10 ^ p := Nat.pow_pos (by decide)
          refine Nat.le_of_mul_le_mul_right ?_ hp10
          generalize 10 ^ ((p : Int) - (n : Int) + 2000).toNat = y at *
          generalize 10 ^ oneE = z at *
          generalize 10 ^ n = v at *
          generalize 10 ^ p = u at *
          generalize 10 ^ e = t at *
          rw [e3, show N * u / v * (y * t) * u = N * u / v * (u * t) * y by ac_rfl, ← e2, show N * y * u = N * u * y by ac_rfl]
          exact Nat.mul_le_mul_right _ h9
        · have h7 : rne V one = preN N n p := by rw [← hv]; exact ri_big (by omega)
          rw [← h7]
          rw [← hv]
          have h8 := ri_big (N := N) (n := n) (p := p) (by omega)
          rw [h8, Nat.le_div_iff_mul_le one_pos]
          obtain ⟨d, hd9⟩ := Nat.exists_eq_add_of_le (show n ≤ p by omega)
          unfold val one
          have he := oneE_eq
          rw [hd9, pre_beyond, show (((n + d : Nat) : Int) - (n : Int) + 2000).toNat = d + oneE by omega, Nat.pow_add, ← Nat.mul_assoc]
          exact Nat.le_refl _
      omega
    have HS := Lib.hid hS
    have HR := Lib.hid (And.intro hr hpre)
    have HD := Lib.hid (And.intro hD (And.intro hg g))
    have p0 : (0 : Int) ≤ (p : Int) := by omega
    clear hr hpre hS hb hD hg g hnd hv hneg
    go_enter Tryz.func173, Tryz.ntmps173
    go_wp2_with fail
    go_loopw [3, 4] (fun i m wr => ∃ q : Nat, q ≤ p ∧ q ≤ n ∧ i = .int .i64 (q : Nat) ∧ m = .int .u64 ((preN N n q : Nat) : Int) ∧ wr = w) (fun i _ _ => p - (intOf i).toNat)
    case atStart => exact ⟨0, Nat.zero_le _, Nat.zero_le _, rfl, by rw [pre_zero HD.out.2.2.hi]; rfl, rfl⟩
    case round =>
      obtain ⟨q, hqp, hqn, rfl, rfl, hwr⟩ := hrel
      obtain rfl := hwr.symm
      obtain ⟨m, hm⟩ : ∃ m, preN N n q = m := ⟨_, rfl⟩
      have hmono := pre_mono N n q (p - q)
      rw [show q + (p - q) = p by omega, hm] at hmono
      have hm60 := Nat.lt_of_le_of_lt hmono HR.out.2
      rw [hm]
      have m0 : (0 : Int) ≤ (m : Int) := by omega
      have m1 : (m : Int) < 1152921504606846976 := by omega
      have q0 : (0 : Int) ≤ (q : Int) := by omega
      have q1 : (q : Int) ≤ 800 := by omega
      by_cases h1 : q < p ∧ q < n
      · have t1 : decide (q < p) = true := decide_eq_true h1.1
        have t2 : decide (q < n) = true := decide_eq_true h1.2
        have hx := HD.out.2.1 q h1.2
        rw [← dg_usual h1.2] at hx
        have hx10 := dgN_lt N n q
        have c3 := HD.out.1.dig q (by omega)
        have hs := pre_succ N n q
        rw [hm] at hs
        obtain ⟨x, hx2⟩ : ∃ x, dgN N n q = x := ⟨_, rfl⟩
        rw [hx2] at hx hx10 hs
        rw [hx, show ((48 + x : Nat) : Int) = (x : Int) + 48 by omega] at c3
        have x0 : (0 : Int) ≤ (x : Int) := by omega
        have x1 : (x : Int) ≤ 9 := by omega
        have q2 : (q : Int) < 800 := by omega
        have HN := Lib.hid (And.intro hs h1)
        clear hm hmono hx hx2 hs h1
        go_wp2_with fail
        exact ⟨⟨q + 1, HN.out.2.1, HN.out.2.2, by go_num, by rw [HN.out.1]; exact congrArg (Value.int IntKind.u64) (by omega), by first | trivial | rfl⟩, by have := HN.out.2; simp only [intOf]; omega⟩
      · have t12 : (decide (q < p) && decide (q < n)) = false := by
          by_cases ha : q < p
          · rw [decide_eq_false (fun h => h1 ⟨ha, h⟩), Bool.and_false]
          · rw [decide_eq_false ha, Bool.false_and]
        have HN := Lib.hid (And.intro hm (And.intro hqp (And.intro hqn h1)))
        have hfin : ∀ (_ : q = p ∨ n ≤ q), True := fun _ => trivial
        clear hm hmono hfin
        by_cases ha : q < p
        · have t1 : decide (q < p) = true := decide_eq_true ha
          have t2 : decide (q < n) = false := decide_eq_false (fun h => h1 ⟨ha, h⟩)
          have t2' : ¬ q < n := fun h => h1 ⟨ha, h⟩
          have HF := Lib.hid (show q = p ∨ n ≤ q from .inr (by omega))
          clear t12 h1
          go_wp2_with fail
          clear m0 m1 q0 q1 t1 t2 t2'
          go_loopw [3, 4] (fun i m wr => ∃ r : Nat, r ≤ p ∧ (r = p ∨ n ≤ r) ∧ i = .int .i64 (r : Nat) ∧ m = .int .u64 ((preN N n r : Nat) : Int) ∧ wr = w) (fun i _ _ => p - (intOf i).toNat)
          case atStart => exact ⟨q, HN.out.2.1, HF.out, rfl, by rw [HN.out.1], rfl⟩
          case round =>
            obtain ⟨r, hrp, hrn, rfl, rfl, hwr⟩ := hrel
            obtain rfl := hwr.symm
            obtain ⟨m3, hm⟩ : ∃ m3, preN N n r = m3 := ⟨_, rfl⟩
            have hmono := pre_mono N n r (p - r)
            rw [show r + (p - r) = p by omega, hm] at hmono
            have hm60 := Nat.lt_of_le_of_lt hmono HR.out.2
            rw [hm]
            have m0 : (0 : Int) ≤ (m3 : Int) := by omega
            have m1 : (m3 : Int) < 1152921504606846976 := by omega
            have r0 : (0 : Int) ≤ (r : Int) := by omega
            have r1 : (r : Int) ≤ 20 := by omega
            by_cases hlt : r < p
            · have t5 : decide (r < p) = true := decide_eq_true hlt
              have hs := pre_succ N n r
              rw [dg_beyond (hrn.resolve_left (by omega)), hm] at hs
              have HM := Lib.hid (And.intro hs (And.intro hlt (show n ≤ r from hrn.resolve_left (by omega))))
              clear hm hmono hs hlt hrn
              go_wp2_with fail
              exact ⟨⟨r + 1, HM.out.2.1, .inr (Nat.le_succ_of_le HM.out.2.2), by go_num, by rw [HM.out.1]; go_num, by first | trivial | rfl⟩, by have := HM.out.2; simp only [intOf]; omega⟩
            · have hre : r = p := by omega
              have t5 : decide (r < p) = false := decide_eq_false hlt
              have HM := Lib.hid (And.intro hm hre)
              clear hm hmono hlt hrn hre
              cases b with
              | true =>
                go_wp2_with (go_at_call 165; (with_reducible refine HS.out.mono ?_); rintro e w' ⟨rfl, hw'⟩; obtain rfl := hw'.symm)
                go_ret
                exact ⟨by rw [HR.out.1, ← HM.out.2, HM.out.1]; rfl, rfl⟩
              | false =>
                go_wp2_with (go_at_call 165; (with_reducible refine HS.out.mono ?_); rintro e w' ⟨rfl, hw'⟩; obtain rfl := hw'.symm)
                go_ret
                exact ⟨by rw [HR.out.1, ← HM.out.2, HM.out.1]; rfl, rfl⟩
        · have t1 : decide (q < p) = false := decide_eq_false ha
          have t1' : ¬ q < p := ha
          have HF := Lib.hid (show q = p ∨ n ≤ q from .inl (by omega))
          clear t12 h1 ha
          go_wp2_with fail
          clear m0 m1 q0 q1 t1 t1'
          go_loopw [3, 4] (fun i m wr => ∃ r : Nat, r ≤ p ∧ (r = p ∨ n ≤ r) ∧ i = .int .i64 (r : Nat) ∧ m = .int .u64 ((preN N n r : Nat) : Int) ∧ wr = w) (fun i _ _ => p - (intOf i).toNat)
          case atStart => exact ⟨q, HN.out.2.1, HF.out, rfl, by rw [HN.out.1], rfl⟩
          case round =>
            obtain ⟨r, hrp, hrn, rfl, rfl, hwr⟩ := hrel
            obtain rfl := hwr.symm
            obtain ⟨m3, hm⟩ : ∃ m3, preN N n r = m3 := ⟨_, rfl⟩
            have hmono := pre_mono N n r (p - r)
            rw [show r + (p - r) = p by omega, hm] at hmono
            have hm60 := Nat.lt_of_le_of_lt hmono HR.out.2
            rw [hm]
            have m0 : (0 : Int) ≤ (m3 : Int) := by omega
            have m1 : (m3 : Int) < 1152921504606846976 := by omega
            have r0 : (0 : Int) ≤ (r : Int) := by omega
            have r1 : (r : Int) ≤ 20 := by omega
            by_cases hlt : r < p
            · have t5 : decide (r < p) = true := decide_eq_true hlt
              have hs := pre_succ N n r
              rw [dg_beyond (hrn.resolve_left (by omega)), hm] at hs
              have HM := Lib.hid (And.intro hs (And.intro hlt (show n ≤ r from hrn.resolve_left (by omega))))
              clear hm hmono hs hlt hrn
              go_wp2_with fail
              exact ⟨⟨r + 1, HM.out.2.1, .inr (Nat.le_succ_of_le HM.out.2.2), by go_num, by rw [HM.out.1]; go_num, by first | trivial | rfl⟩, by have := HM.out.2; simp only [intOf]; omega⟩
            · have hre : r = p := by omega
              have t5 : decide (r < p) = false := decide_eq_false hlt
              have HM := Lib.hid (And.intro hm hre)
              clear hm hmono hlt hrn hre
              cases b with
              | true =>
                go_wp2_with (go_at_call 165; (with_reducible refine HS.out.mono ?_); rintro e w' ⟨rfl, hw'⟩; obtain rfl := hw'.symm)
                go_ret
                exact ⟨by rw [HR.out.1, ← HM.out.2, HM.out.1]; rfl, rfl⟩
              | false =>
                go_wp2_with (go_at_call 165; (with_reducible refine HS.out.mono ?_); rintro e w' ⟨rfl, hw'⟩; obtain rfl := hw'.symm)
                go_ret
                exact ⟨by rw [HR.out.1, ← HM.out.2, HM.out.1]; rfl, rfl⟩
end Go.Proofs.YtbjengfoaobdbaaGreatDoor.dcw
