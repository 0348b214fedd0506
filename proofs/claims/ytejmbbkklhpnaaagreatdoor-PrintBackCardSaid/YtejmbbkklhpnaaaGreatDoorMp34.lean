/- The nearest float of a quotient, worked out. Plain. -/
import Derived.Test.YtejmbbkklhpnaaaGreatDoorMp33
import Derived.Test.YtejmbbkklhpnaaaGreatDoorMp32
namespace Go.Proofs.YtejmbbkklhpnaaaGreatDoor.fpm
open Go Go.RowKit Go.Proofs.YtejmbbkklhpnaaaGreatDoor.prnw

/-- a quotient rounded to a whole number, between two to the even one -/
def rne (N D : Nat) : Nat := N / D + if D < 2 * (N % D) ∨ (2 * (N % D) = D ∧ N / D % 2 = 1) then 1 else 0
theorem rne_spec (N D : Nat) (hD : 0 < D) : 2 * (rne N D * D) ≤ 2 * N + D ∧ 2 * N ≤ 2 * (rne N D * D) + D ∧ (rne N D % 2 = 1 → 2 * (rne N D * D) < 2 * N + D ∧ 2 * N < 2 * (rne N D * D) + D) := by
  have h := Nat.div_add_mod N D
  have hm := Nat.mod_lt N hD
  unfold rne
  generalize N % D = m at *
  generalize N / D = q at *
  rw [Nat.mul_comm] at h
  split
  · rw [Nat.add_mul, Nat.one_mul]
    generalize q * D = p at *
    omega
  · rw [Nat.add_zero]
    generalize q * D = p at *
    omega
theorem rne_le {N D K : Nat} (hD : 0 < D) (h : N ≤ K * D) : rne N D ≤ K := by
  have h1 : N / D ≤ K := Nat.div_le_of_le_mul (by rw [Nat.mul_comm]; exact h)
  have hm := Nat.div_add_mod N D
  unfold rne
  split
  · rename_i hc
    by_cases he : N / D = K
    · rw [he, Nat.mul_comm] at hm
      have : N % D = 0 := by omega
      rw [this] at hc
      omega
    · omega
  · omega
/-- the nearest float of A / B -/
def nearX (A B : Nat) : Nat :=
  ((A * 2 ^ leB / B).log2 - 52) * 4503599627370496 + rne (A * 2 ^ leB) (B * 2 ^ ((A * 2 ^ leB / B).log2 - 52))
theorem near_of (A B : Nat) (hB : 0 < B) : Near (nearX A B) A B := by
  unfold nearX
  obtain ⟨N, hN⟩ : ∃ N, N = A * 2 ^ leB := ⟨_, rfl⟩
  rw [← hN]
  obtain ⟨F, hF⟩ : ∃ F, F = N / B := ⟨_, rfl⟩
  rw [← hF]
  obtain ⟨t, ht⟩ : ∃ t, t = F.log2 - 52 := ⟨_, rfl⟩
  rw [← ht]
  obtain ⟨T, hT⟩ : ∃ T : Nat, T = 2 ^ t := ⟨_, rfl⟩
  have hT0 : 0 < T := by rw [hT]; exact Nat.two_pow_pos t
  have hD : 0 < B * T := Nat.mul_pos hB hT0
  have f1 := Nat.div_add_mod N B
  have f2 := Nat.mod_lt N hB
  rw [← hF] at f1
  have hup : F + 1 ≤ 9007199254740992 * T := by
    have h1 : F < 2 ^ (F.log2 + 1) := Nat.lt_log2_self
    have h2 : (2 : Nat) ^ (F.log2 + 1) ≤ 2 ^ (53 + t) := Nat.pow_le_pow_right (by decide) (by omega)
    rw [Nat.pow_add 2 53 t, ← hT] at h2
    have : (2 : Nat) ^ 53 = 9007199254740992 := by decide
    rw [this] at h2
    omega
  have hlow : t = 0 ∨ 4503599627370496 * T ≤ F := by
    by_cases h0 : t = 0
    · exact .inl h0
    · have hF0 : F ≠ 0 := by
        intro e
        rw [e] at ht
        have : Nat.log2 0 = 0 := by decide
        omega
      have h1 : 2 ^ F.log2 ≤ F := Nat.log2_self_le hF0
      have h2 : (2 : Nat) ^ (52 + t) ≤ 2 ^ F.log2 := Nat.pow_le_pow_right (by decide) (by omega)
      rw [Nat.pow_add 2 52 t, ← hT] at h2
      have : (2 : Nat) ^ 52 = 4503599627370496 := by decide
      rw [this] at h2
      exact .inr (Nat.le_trans h2 h1)
  rw [← hT]
  obtain ⟨a, b, c⟩ := rne_spec N (B * T) hD
  refine near_mk A B (B * T) N t _ hB hD ?_ a b c (rne_le hD ?_) ?_
  · rw [← hN, ← hT]
    ac_rfl
  · have h3 : B * (F + 1) ≤ B * (9007199254740992 * T) := Nat.mul_le_mul_left _ hup
    rw [Nat.mul_add, Nat.mul_one] at h3
    have h4 : B * (9007199254740992 * T) = 9007199254740992 * (B * T) := by ac_rfl
    rw [h4] at h3
    omega
  · refine hlow.imp_right fun h => ?_
    have h3 : B * (4503599627370496 * T) ≤ B * F := Nat.mul_le_mul_left _ h
    have h4 : B * (4503599627370496 * T) = 4503599627370496 * (B * T) := by ac_rfl
    rw [h4] at h3
    omega
theorem near_eq {X A B : Nat} (hB : 0 < B) (h : Near X A B) : X = nearX A B := near_inj hB hB h (near_of A B hB) rfl
theorem near_same {A B C D : Nat} (hB : 0 < B) (hD : 0 < D) (h : A * D = C * B) : nearX A B = nearX C D := near_inj hB hD (near_of A B hB) (near_of C D hD) h
end Go.Proofs.YtejmbbkklhpnaaaGreatDoor.fpm

/- Multiprecision decimals: rounding to a whole number: plain arithmetic. No conditions but those stated. -/
namespace Go.Proofs.YtejmbbkklhpnaaaGreatDoor.dmx
open Go.Proofs.YtejmbbkklhpnaaaGreatDoor.fpm

/-- is it rounded up? p digits stand ahead of the point -/
def upB (N n p : Nat) : Bool := if dgN N n p = 5 ∧ p + 1 = n then decide (0 < p) && decide (dgN N n (p - 1) % 2 = 1) else decide (5 ≤ dgN N n p)
theorem rne_exact (Q D : Nat) (hD : 0 < D) : rne (Q * D) D = Q := by
  unfold rne
  rw [Nat.mul_div_cancel _ hD, Nat.mul_mod_left, if_neg (by omega)]
  rfl
theorem rne_small (V D : Nat) (h : 2 * V < D) : rne V D = 0 := by
  unfold rne
  rw [Nat.div_eq_of_lt (by omega), Nat.mod_eq_of_lt (by omega), if_neg (by omega)]
theorem rne_scale (Q r e g : Nat) (hr : r < 10 ^ e) : rne ((Q * 10 ^ e + r) * 10 ^ g) (10 ^ e * 10 ^ g) = Q + if 10 ^ e < 2 * r ∨ (2 * r = 10 ^ e ∧ Q % 2 = 1) then 1 else 0 := by
  have hp : 0 < 10 ^ e := Nat.pow_pos (by decide)
  have hg : 0 < 10 ^ g := Nat.pow_pos (by decide)
  unfold rne
  rw [Nat.mul_div_mul_right _ _ hg, Nat.mul_mod_mul_right]
  have e1 : (Q * 10 ^ e + r) / 10 ^ e = Q := by
    rw [Nat.mul_comm, Nat.mul_add_div hp, Nat.div_eq_of_lt hr, Nat.add_zero]
  have e2 : (Q * 10 ^ e + r) % 10 ^ e = r := by
    rw [Nat.mul_comm, Nat.mul_add_mod, Nat.mod_eq_of_lt hr]
  rw [e1, e2, ← Nat.mul_assoc]
  have k1 : (10 ^ e * 10 ^ g < 2 * r * 10 ^ g) ↔ 10 ^ e < 2 * r := Nat.mul_lt_mul_right hg
  have k2 : (2 * r * 10 ^ g = 10 ^ e * 10 ^ g) ↔ 2 * r = 10 ^ e := ⟨fun h => Nat.eq_of_mul_eq_mul_right hg h, fun h => by rw [h]⟩
  simp only [k1, k2]
/-- the value, rounded -/
theorem ri_neg {N n : Nat} (g : WGood N n) (dp : Int) (h : (n : Int) ≤ dp + 2000) (hd : dp < 0) : rne (val N n dp) one = 0 := by
  have h1 := val_small g dp 1 h (by omega) (by decide)
  exact rne_small _ _ (by omega)
theorem ri_big {N n p : Nat} (hp : n ≤ p) : rne (val N n p) one = preN N n p := by
  obtain ⟨d, rfl⟩ := Nat.exists_eq_add_of_le hp
  rw [pre_beyond]
  unfold val one
  have he := oneE_eq
  rw [show (((n + d : Nat) : Int) - (n : Int) + 2000).toNat = d + oneE by omega, Nat.pow_add, ← Nat.mul_assoc]
  exact rne_exact _ _ (Nat.pow_pos (by decide))
theorem ri_mid {N n p : Nat} (g : DGood N n) (h : (n : Int) ≤ (p : Int) + 2000) (hp : p < n) : rne (val N n p) one = preN N n p + if upB N n p then 1 else 0 := by
  obtain ⟨e, he⟩ : ∃ e, n = p + (e + 1) := ⟨n - p - 1, by omega⟩
  have ho := oneE_eq
  obtain ⟨c, hc⟩ : ∃ c, oneE = e + 1 + c := ⟨oneE - (e + 1), by omega⟩
  have hpre : preN N n p = N / 10 ^ (e + 1) := by
    unfold preN
    rw [he, Nat.pow_add 10 p (e + 1), Nat.mul_comm N, Nat.mul_div_mul_left _ _ (Nat.pow_pos (by decide))]
  have hdg : dgN N n p = N / 10 ^ e % 10 := by
    rw [dg_usual hp, show n - 1 - p = e by omega]
  have hdm := Nat.div_add_mod N (10 ^ (e + 1))
  have hr := Nat.mod_lt N (Nat.pow_pos (n := e + 1) (show 0 < 10 by decide))
  have hrs : N % 10 ^ (e + 1) = N / 10 ^ e % 10 * 10 ^ e + N % 10 ^ e := mod_step N e
  have hv : val N n p = (N / 10 ^ (e + 1) * 10 ^ (e + 1) + N % 10 ^ (e + 1)) * 10 ^ c := by
    unfold val
    rw [show ((p : Int) - (n : Int) + 2000).toNat = c by omega, Nat.mul_comm (N / 10 ^ (e + 1)), hdm]
  have h1 : one = 10 ^ (e + 1) * 10 ^ c := by unfold one; rw [hc, Nat.pow_add]
  rw [hv, h1, rne_scale _ _ _ _ hr, ← hpre]
  refine congrArg (fun z : Nat => preN N n p + z) ?_
  clear hv h1 hc ho h
  have hm := g.md
  have hlow : N % 10 ^ e < 10 ^ e := Nat.mod_lt _ (Nat.pow_pos (by decide))
  have h10 : (10 : Nat) ^ (e + 1) = 10 * 10 ^ e := by rw [Nat.pow_succ, Nat.mul_comm]
  unfold upB
  rw [hdg]
  have hx10 : N / 10 ^ e % 10 < 10 := Nat.mod_lt _ (by decide)
  -- the last digit ahead of the point
  have hpar : 0 < p → dgN N n (p - 1) % 2 = preN N n p % 2 := fun h0 => by
    have := pre_succ N n (p - 1)
    rw [show p - 1 + 1 = p by omega] at this
    omega
  have hz : p = 0 → preN N n p = 0 := fun h0 => by rw [h0]; exact pre_zero g.hi
  have hend : e ≠ 0 → N % 10 ^ e ≠ 0 := fun h0 h5 => by
    apply hm
    obtain ⟨j, rfl⟩ : ∃ j, e = j + 1 := ⟨e - 1, by omega⟩
    have := Nat.div_add_mod N (10 ^ (j + 1))
    rw [h5, Nat.add_zero, Nat.pow_succ, Nat.mul_comm (10 ^ j), Nat.mul_assoc] at this
    omega
  rw [hrs, h10]
  generalize hT : (10 : Nat) ^ e = T at *
  have hT0 : 0 < T := by rw [← hT]; exact Nat.pow_pos (by decide)
  generalize hX : N / T % 10 = x at *
  generalize hR : N % T = r at *
  by_cases hx5 : x = 5 ∧ p + 1 = n
  · rw [if_pos hx5]
    have he0 : e = 0 := by omega
    have hT1 : T = 1 := by rw [← hT, he0]
    have hr0 : r = 0 := by omega
    rw [hx5.1, hr0, hT1]
    by_cases hp0 : 0 < p
    · have := hpar hp0
      by_cases hq : preN N n p % 2 = 1
      · rw [if_pos (.inr ⟨by omega, hq⟩), decide_eq_true hp0, decide_eq_true (by omega)]
        rfl
      · rw [if_neg (by omega), decide_eq_true hp0, decide_eq_false (by omega)]
        rfl
    · have := hz (by omega)
      rw [if_neg (by omega), decide_eq_false hp0]
      rfl
  · rw [if_neg hx5]
    by_cases h6 : 6 ≤ x
    · have : 6 * T ≤ x * T := Nat.mul_le_mul_right _ h6
      rw [if_pos (.inl (by omega)), decide_eq_true (by omega)]
      rfl
    · by_cases h5 : x = 5
      · have he0 : e ≠ 0 := fun h => hx5 ⟨h5, by omega⟩
        have := hend he0
        rw [h5, if_pos (.inl (by omega))]
        rfl
      · have : x * T ≤ 4 * T := Nat.mul_le_mul_right _ (by omega)
        rw [if_neg (by omega), decide_eq_false (by omega)]
        rfl
end Go.Proofs.YtejmbbkklhpnaaaGreatDoor.dmx

/- The walks of strconv's shouldRoundUp and RoundedInteger. Conditions: as each theorem states. -/
namespace Go.Proofs.YtejmbbkklhpnaaaGreatDoor.dcw
open Go.RowKit
open Go.Proofs.YtejmbbkklhpnaaaGreatDoor.bsw
open Go.Proofs.YtejmbbkklhpnaaaGreatDoor.prnw
open Go.Proofs.YtejmbbkklhpnaaaGreatDoor.dmx
open Go.Proofs.YtejmbbkklhpnaaaGreatDoor.fpm

set_option maxRecDepth 100000 in
theorem sru_neg (a : Nat) (dp : Int) (hd : dp < 0) (w : World) :
    Calls Tryz.prog 174 #[.pointer (some ⟨a, 0, none⟩), .int .i64 dp] w (Same w (.bool false)) := by
  have t1 : decide (dp < 0) = true := decide_eq_true hd
  go_enter Tryz.func174, Tryz.ntmps174
  go_wp2_with fail
  go_ret
  exact ⟨rfl, rfl⟩
set_option maxRecDepth 100000 in
theorem sru_big (a n p : Nat) (w : World) (h : w.cell? ⟨a, 800, none⟩ = some (.int .i64 (n : Nat))) (hp : n ≤ p) :
    Calls Tryz.prog 174 #[.pointer (some ⟨a, 0, none⟩), .int .i64 (p : Nat)] w (Same w (.bool false)) := by
  have t1 : decide ((p : Int) < 0) = false := decide_eq_false (by omega)
  have t2 : decide (n ≤ p) = true := decide_eq_true hp
  go_enter Tryz.func174, Tryz.ntmps174
  go_wp2_with fail
  go_ret
  exact ⟨rfl, rfl⟩
set_option maxRecDepth 100000 in
set_option maxHeartbeats 1000000 in
theorem sru_mid (a N n p : Nat) (f : Nat → Nat) (dp : Int) (neg : Bool) (w : World) (h : DM w a f (n : Nat) dp neg) (hg : Dg f N n) (hp : p < n) (hn : n ≤ 800) :
    Calls Tryz.prog 174 #[.pointer (some ⟨a, 0, none⟩), .int .i64 (p : Nat)] w (Same w (.bool (dmx.upB N n p))) := by
  have c1 := h.cnd
  have c2 := h.ctr
  have c3 := h.dig p (by omega)
  have hx := hg p hp
  rw [← dg_usual hp] at hx
  have hx10 := dgN_lt N n p
  obtain ⟨b, hb⟩ : ∃ b, dmx.upB N n p = b := ⟨_, rfl⟩
  rw [hb]
  unfold dmx.upB at hb
  obtain ⟨x, hx2⟩ : ∃ x, dgN N n p = x := ⟨_, rfl⟩
  rw [hx2] at hx hx10 hb
  rw [hx, show ((48 + x : Nat) : Int) = (x : Int) + 48 by omega] at c3
  have t1 : decide ((p : Int) < 0) = false := decide_eq_false (by omega)
  have t2 : decide (n ≤ p) = false := decide_eq_false (by omega)
  have p0 : (0 : Int) ≤ (p : Int) := by omega
  have p1 : (p : Int) < 800 := by omega
  have x0 : (0 : Int) ≤ (x : Int) := by omega
  have x1 : (x : Int) ≤ 9 := by omega
  by_cases h5 : x = 5
  · have t3 : ((x : Int) + 48 == 53) = true := by rw [beq_iff_eq]; omega
    by_cases hpn : p + 1 = n
    · rw [if_pos ⟨h5, hpn⟩] at hb
      have t4 : ((p : Int) + 1 == (n : Int)) = true := by rw [beq_iff_eq]; omega
      by_cases hp0 : 0 < p
      · have t5 : decide (0 < p) = true := decide_eq_true hp0
        rw [t5, Bool.true_and] at hb
        have hy := hg (p - 1) (by omega)
        rw [← dg_usual (by omega)] at hy
        have hy10 := dgN_lt N n (p - 1)
        have c4 := h.dig (p - 1) (by omega)
        obtain ⟨y, hy2⟩ : ∃ y, dgN N n (p - 1) = y := ⟨_, rfl⟩
        rw [hy2] at hy hy10 hb
        rw [hy, show ((48 + y : Nat) : Int) = (y : Int) + 48 by omega] at c4
        obtain ⟨q, hq⟩ : ∃ q, p - 1 = q := ⟨_, rfl⟩
        rw [hq] at c4
        have eq1 : (p : Int) - 1 = (q : Int) := by omega
        have q0 : (0 : Int) ≤ (q : Int) := by omega
        have q1 : (q : Int) < 800 := by omega
        have y0 : (0 : Int) ≤ (y : Int) := by omega
        have y1 : (y : Int) ≤ 9 := by omega
        obtain ⟨z, hz⟩ : ∃ z, y % 2 = z := ⟨_, rfl⟩
        have eq2 : (y : Int) % 2 = (z : Int) := by omega
        rw [hz] at hb
        have t6 : ((z : Int) != 0) = b := by
          rw [← hb]
          by_cases hz1 : z = 1
          · rw [hz1]; rfl
          · have hz0 : z = 0 := by omega
            rw [hz0]; rfl
        clear hb hx hx2 hy hy2 hz hq h5 hpn h hg
        go_enter Tryz.func174, Tryz.ntmps174
        go_wp2_with fail
        go_ret
        exact ⟨rfl, rfl⟩
      · have t5 : decide (0 < p) = false := decide_eq_false hp0
        rw [t5, Bool.false_and] at hb
        obtain rfl := hb.symm
        clear hx hx2 h5 hpn h hg
        go_enter Tryz.func174, Tryz.ntmps174
        go_wp2_with fail
        go_ret
        exact ⟨rfl, rfl⟩
    · rw [if_neg (fun h => hpn h.2)] at hb
      have t4 : ((p : Int) + 1 == (n : Int)) = false := by rw [beq_eq_false_iff_ne]; omega
      have t6 : decide (53 ≤ (x : Int) + 48) = true := decide_eq_true (by omega)
      have hb2 : b = true := by rw [← hb, h5]; rfl
      subst hb2
      clear hb hx hx2 h5 hpn h hg
      go_enter Tryz.func174, Tryz.ntmps174
      go_wp2_with fail
      go_ret
      exact ⟨rfl, rfl⟩
  · rw [if_neg (fun h => h5 h.1)] at hb
    have t3 : ((x : Int) + 48 == 53) = false := by rw [beq_eq_false_iff_ne]; omega
    have t6 : decide (53 ≤ (x : Int) + 48) = b := by
      rw [← hb]
      by_cases h6 : 5 ≤ x
      · rw [decide_eq_true h6, decide_eq_true (by omega)]
      · rw [decide_eq_false h6, decide_eq_false (by omega)]
    clear hb hx hx2 h5 h hg
    go_enter Tryz.func174, Tryz.ntmps174
    go_wp2_with fail
    go_ret
    exact ⟨rfl, rfl⟩
set_option maxRecDepth 100000 in
set_option maxHeartbeats 2000000 in
theorem rint_any (a V N n : Nat) (dp : Int) (neg : Bool) (w : World) (h : DV w a V N n dp neg) (hmd : N % 10 ≠ 0) (hn : n ≤ 800) (hd : -3000 ≤ dp) (hd2 : dp ≤ 20) (hV : V < 1152921504606846976 * one) :
    Calls Tryz.prog 208 #[.pointer (some ⟨a, 0, none⟩)] w (Same w (.int .u64 ((rne V one : Nat) : Int))) := by
  obtain ⟨f, hD, hg, g, hnd, hv⟩ := h
  have c1 := hD.cnd
  have c2 := hD.cdp
  have t0 : decide (20 < dp) = false := decide_eq_false (by omega)
  by_cases hneg : dp < 0
  · have hr : rne V one = 0 := by rw [← hv]; exact ri_neg g dp hnd hneg
    have HS := Lib.hid (sru_neg a dp hneg w)
    have t1 : decide (0 < dp) = false := decide_eq_false (by omega)
    have HR := Lib.hid hr
    clear hr hD hg g hnd hv hneg
    go_enter Tryz.func208, Tryz.ntmps208
    go_wp2_with fail
    refine wp_loop_rounds 1 ?_
    rw [rounds_succ]
    go_wp2_with fail
    refine wp_loop_rounds 1 ?_
    rw [rounds_succ]
    go_wp2_with (go_at_call 174; (with_reducible refine HS.out.mono ?_); rintro e w' ⟨rfl, hw'⟩; obtain rfl := hw'.symm)
    go_ret
    exact ⟨by rw [HR.out]; rfl, rfl⟩
  · obtain ⟨p, hp⟩ : ∃ p : Nat, dp = (p : Int) := ⟨dp.toNat, by omega⟩
    subst hp
    obtain ⟨b, hb⟩ : ∃ b, b = if p < n then dmx.upB N n p else false := ⟨_, rfl⟩
    have hS : Calls Tryz.prog 174 #[.pointer (some ⟨a, 0, none⟩), .int .i64 (p : Nat)] w (Same w (.bool b)) := by
      rw [hb]
      by_cases hpn : p < n
      · rw [if_pos hpn]
        exact sru_mid a N n p f _ neg w hD hg hpn hn
      · rw [if_neg hpn]
        exact sru_big a n p w c1 (by omega)
    have hr : rne V one = preN N n p + if b then 1 else 0 := by
      rw [← hv, hb]
      by_cases hpn : p < n
      · rw [if_pos hpn]
        exact ri_mid ⟨g, hmd⟩ hnd hpn
      · rw [if_neg hpn]
        exact ri_big (by omega)
    have hpre : preN N n p < 1152921504606846976 := by
      refine Nat.lt_of_not_le fun hl => ?_
      have h1 : preN N n p ≤ rne V one := by rw [hr]; exact Nat.le_add_right _ _
      have h2 : V / one < 1152921504606846976 := Nat.div_lt_of_lt_mul (by rw [Nat.mul_comm]; exact hV)
      have h3 : preN N n p ≤ V / one := by
        unfold rne at hr
        by_cases hpn : p < n
        · rw [Nat.le_div_iff_mul_le one_pos, ← hv]
          unfold preN val one
          have he := oneE_eq
          obtain ⟨e, he2⟩ : ∃ e, n = p + e := ⟨n - p, by omega⟩
          have e1 : ((p : Int) - (n : Int) + 2000).toNat + e = oneE := by omega
          have h9 := Nat.div_mul_le_self (N * 10 ^ p) (10 ^ n)
          have e2 : 10 ^ n = 10 ^ p * 10 ^ e := by rw [he2, Nat.pow_add]
          have e3 : 10 ^ oneE = 10 ^ ((p : Int) - (n : Int) + 2000).toNat * 10 ^ e := by rw [← Nat.pow_add, e1]
          have hp10 : 0 < 10 ^ p := Nat.pow_pos (by decide)
          refine Nat.le_of_mul_le_mul_right ?_ hp10
          generalize 10 ^ ((p : Int) - (n : Int) + 2000).toNat = y at *
          generalize 10 ^ oneE = z at *
          generalize 10 ^ n = v at *
          generalize 10 ^ p = u at *
          generalize 10 ^ e = t at *
          rw [e3, show N * u / v * (y * t) * u = N * u / v * (u * t) * y by ac_rfl, ← e2, show N * y * u = N * u * y by ac_rfl]
          exact Nat.mul_le_mul_right _ h9
        · have h7 : rne V one = preN N n p := by rw [← hv]; exact ri_big (by omega)
          rw [← h7]
          rw [← hv]
          have h8 := ri_big (N := N) (n := n) (p := p) (by omega)
          rw [h8, Nat.le_div_iff_mul_le one_pos]
          obtain ⟨d, hd9⟩ := Nat.exists_eq_add_of_le (show n ≤ p by omega)
          unfold val one
          have he := oneE_eq
          rw [hd9, pre_beyond, show (((n + d : Nat) : Int) - (n : Int) + 2000).toNat = d + oneE by omega, Nat.pow_add, ← Nat.mul_assoc]
          exact Nat.le_refl _
      omega
    have HS := Lib.hid hS
    have HR := Lib.hid (And.intro hr hpre)
    have HD := Lib.hid (And.intro hD (And.intro hg g))
    have p0 : (0 : Int) ≤ (p : Int) := by omega
    clear hr hpre hS hb hD hg g hnd hv hneg
    go_enter Tryz.func208, Tryz.ntmps208
    go_wp2_with fail
    go_loopw [3, 4] (fun i m wr => ∃ q : Nat, q ≤ p ∧ q ≤ n ∧ i = .int .i64 (q : Nat) ∧ m = .int .u64 ((preN N n q : Nat) : Int) ∧ wr = w) (fun i _ _ => p - (intOf i).toNat)
    case atStart => exact ⟨0, Nat.zero_le _, Nat.zero_le _, rfl, by rw [pre_zero HD.out.2.2.hi]; rfl, rfl⟩
    case round =>
      obtain ⟨q, hqp, hqn, rfl, rfl, hwr⟩ := hrel
      obtain rfl := hwr.symm
      obtain ⟨m, hm⟩ : ∃ m, preN N n q = m := ⟨_, rfl⟩
      have hmono := pre_mono N n q (p - q)
      rw [show q + (p - q) = p by omega, hm] at hmono
      have hm60 := Nat.lt_of_le_of_lt hmono HR.out.2
      rw [hm]
      have m0 : (0 : Int) ≤ (m : Int) := by omega
      have m1 : (m : Int) < 1152921504606846976 := by omega
      have q0 : (0 : Int) ≤ (q : Int) := by omega
      have q1 : (q : Int) ≤ 800 := by omega
      by_cases h1 : q < p ∧ q < n
      · have t1 : decide (q < p) = true := decide_eq_true h1.1
        have t2 : decide (q < n) = true := decide_eq_true h1.2
        have hx := HD.out.2.1 q h1.2
        rw [← dg_usual h1.2] at hx
        have hx10 := dgN_lt N n q
        have c3 := HD.out.1.dig q (by omega)
        have hs := pre_succ N n q
        rw [hm] at hs
        obtain ⟨x, hx2⟩ : ∃ x, dgN N n q = x := ⟨_, rfl⟩
        rw [hx2] at hx hx10 hs
        rw [hx, show ((48 + x : Nat) : Int) = (x : Int) + 48 by omega] at c3
        have x0 : (0 : Int) ≤ (x : Int) := by omega
        have x1 : (x : Int) ≤ 9 := by omega
        have q2 : (q : Int) < 800 := by omega
        have HN := Lib.hid (And.intro hs h1)
        clear hm hmono hx hx2 hs h1
        go_wp2_with fail
        exact ⟨⟨q + 1, HN.out.2.1, HN.out.2.2, by go_num, by rw [HN.out.1]; exact congrArg (Value.int IntKind.u64) (by omega), by first | trivial | rfl⟩, by have := HN.out.2; simp only [intOf]; omega⟩
      · have t12 : (decide (q < p) && decide (q < n)) = false := by
          by_cases ha : q < p
          · rw [decide_eq_false (fun h => h1 ⟨ha, h⟩), Bool.and_false]
          · rw [decide_eq_false ha, Bool.false_and]
        have HN := Lib.hid (And.intro hm (And.intro hqp (And.intro hqn h1)))
        have hfin : ∀ (_ : q = p ∨ n ≤ q), True := fun _ => trivial
        clear hm hmono hfin
        by_cases ha : q < p
        · have t1 : decide (q < p) = true := decide_eq_true ha
          have t2 : decide (q < n) = false := decide_eq_false (fun h => h1 ⟨ha, h⟩)
          have t2' : ¬ q < n := fun h => h1 ⟨ha, h⟩
          have HF := Lib.hid (show q = p ∨ n ≤ q from .inr (by omega))
          clear t12 h1
          go_wp2_with fail
          clear m0 m1 q0 q1 t1 t2 t2'
          go_loopw [3, 4] (fun i m wr => ∃ r : Nat, r ≤ p ∧ (r = p ∨ n ≤ r) ∧ i = .int .i64 (r : Nat) ∧ m = .int .u64 ((preN N n r : Nat) : Int) ∧ wr = w) (fun i _ _ => p - (intOf i).toNat)
          case atStart => exact ⟨q, HN.out.2.1, HF.out, rfl, by rw [HN.out.1], rfl⟩
          case round =>
            obtain ⟨r, hrp, hrn, rfl, rfl, hwr⟩ := hrel
            obtain rfl := hwr.symm
            obtain ⟨m3, hm⟩ : ∃ m3, preN N n r = m3 := ⟨_, rfl⟩
            have hmono := pre_mono N n r (p - r)
            rw [show r + (p - r) = p by omega, hm] at hmono
            have hm60 := Nat.lt_of_le_of_lt hmono HR.out.2
            rw [hm]
            have m0 : (0 : Int) ≤ (m3 : Int) := by omega
            have m1 : (m3 : Int) < 1152921504606846976 := by omega
            have r0 : (0 : Int) ≤ (r : Int) := by omega
            have r1 : (r : Int) ≤ 20 := by omega
            by_cases hlt : r < p
            · have t5 : decide (r < p) = true := decide_eq_true hlt
              have hs := pre_succ N n r
              rw [dg_beyond (hrn.resolve_left (by omega)), hm] at hs
              have HM := Lib.hid (And.intro hs (And.intro hlt (show n ≤ r from hrn.resolve_left (by omega))))
              clear hm hmono hs hlt hrn
              go_wp2_with fail
              exact ⟨⟨r + 1, HM.out.2.1, .inr (Nat.le_succ_of_le HM.out.2.2), by go_num, by rw [HM.out.1]; go_num, by first | trivial | rfl⟩, by have := HM.out.2; simp only [intOf]; omega⟩
            · have hre : r = p := by omega
              have t5 : decide (r < p) = false := decide_eq_false hlt
              have HM := Lib.hid (And.intro hm hre)
              clear hm hmono hlt hrn hre
              cases b with
              | true =>
                go_wp2_with (go_at_call 174; (with_reducible refine HS.out.mono ?_); rintro e w' ⟨rfl, hw'⟩; obtain rfl := hw'.symm)
                go_ret
                exact ⟨by rw [HR.out.1, ← HM.out.2, HM.out.1]; rfl, rfl⟩
              | false =>
                go_wp2_with (go_at_call 174; (with_reducible refine HS.out.mono ?_); rintro e w' ⟨rfl, hw'⟩; obtain rfl := hw'.symm)
                go_ret
                exact ⟨by rw [HR.out.1, ← HM.out.2, HM.out.1]; rfl, rfl⟩
        · have t1 : decide (q < p) = false := decide_eq_false ha
          have t1' : ¬ q < p := ha
          have HF := Lib.hid (show q = p ∨ n ≤ q from .inl (by omega))
          clear t12 h1 ha
          go_wp2_with fail
          clear m0 m1 q0 q1 t1 t1'
          go_loopw [3, 4] (fun i m wr => ∃ r : Nat, r ≤ p ∧ (r = p ∨ n ≤ r) ∧ i = .int .i64 (r : Nat) ∧ m = .int .u64 ((preN N n r : Nat) : Int) ∧ wr = w) (fun i _ _ => p - (intOf i).toNat)
          case atStart => exact ⟨q, HN.out.2.1, HF.out, rfl, by rw [HN.out.1], rfl⟩
          case round =>
            obtain ⟨r, hrp, hrn, rfl, rfl, hwr⟩ := hrel
            obtain rfl := hwr.symm
            obtain ⟨m3, hm⟩ : ∃ m3, preN N n r = m3 := ⟨_, rfl⟩
            have hmono := pre_mono N n r (p - r)
            rw [show r + (p - r) = p by omega, hm] at hmono
            have hm60 := Nat.lt_of_le_of_lt hmono HR.out.2
            rw [hm]
            have m0 : (0 : Int) ≤ (m3 : Int) := by omega
            have m1 : (m3 : Int) < 1152921504606846976 := by omega
            have r0 : (0 : Int) ≤ (r : Int) := by omega
            have r1 : (r : Int) ≤ 20 := by omega
            by_cases hlt : r < p
            · have t5 : decide (r < p) = true := decide_eq_true hlt
              have hs := pre_succ N n r
              rw [dg_beyond (hrn.resolve_left (by omega)), hm] at hs
              have HM := Lib.hid (And.intro hs (And.intro hlt (show n ≤ r from hrn.resolve_left (by omega))))
              clear hm hmono hs hlt hrn
              go_wp2_with fail
              exact ⟨⟨r + 1, HM.out.2.1, .inr (Nat.le_succ_of_le HM.out.2.2), by go_num, by rw [HM.out.1]; go_num, by first | trivial | rfl⟩, by have := HM.out.2; simp only [intOf]; omega⟩
            · have hre : r = p := by omega
              have t5 : decide (r < p) = false := decide_eq_false hlt
              have HM := Lib.hid (And.intro hm hre)
              clear hm hmono hlt hrn hre
              cases b with
              | true =>
                go_wp2_with (go_at_call 174; (with_reducible refine HS.out.mono ?_); rintro e w' ⟨rfl, hw'⟩; obtain rfl := hw'.symm)
                go_ret
                exact ⟨by rw [HR.out.1, ← HM.out.2, HM.out.1]; rfl, rfl⟩
              | false =>
                go_wp2_with (go_at_call 174; (with_reducible refine HS.out.mono ?_); rintro e w' ⟨rfl, hw'⟩; obtain rfl := hw'.symm)
                go_ret
                exact ⟨by rw [HR.out.1, ← HM.out.2, HM.out.1]; rfl, rfl⟩
end Go.Proofs.YtejmbbkklhpnaaaGreatDoor.dcw
