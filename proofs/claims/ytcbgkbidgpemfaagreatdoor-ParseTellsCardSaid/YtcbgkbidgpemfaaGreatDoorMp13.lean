/- The walk of strconv's rightShift. Conditions: as the theorem states. -/
import Derived.Test.YtcbgkbidgpemfaaGreatDoorMp12
namespace Go.Proofs.YtcbgkbidgpemfaaGreatDoor.dcw
open Go.RowKit
open Go.Proofs.YtcbgkbidgpemfaaGreatDoor.bsw
open Go.Proofs.YtcbgkbidgpemfaaGreatDoor.prnw
open Go.Proofs.YtcbgkbidgpemfaaGreatDoor.dmx

def SrPost (w : World) (a V k : Nat) (B D : Int) (neg : Bool) (e : Ending) (w' : World) : Prop :=
  e = .returned (.tuple #[]) ∧ (∃ N n dp, DV w' a (V / 2 ^ k) N n dp neg ∧ N % 10 ≠ 0 ∧ (n : Int) ≤ B ∧ D - 20 ≤ dp ∧ dp ≤ D + 20) ∧ V / 2 ^ k * 2 ^ k = V ∧ w.grownBy w' (some a)
/-- where the digits stand when r of them are read -/
def SrRel (w : World) (a : Nat) (f : Nat → Nat) (N n k r1 : Nat) (dp : Int) (neg : Bool) (r : Nat) (wr : World) : Prop :=
  ∃ f', DM wr a f' (n : Nat) dp neg ∧ (∀ j, r ≤ j → j < n → f' j = f j) ∧ (∀ j, r1 + j < r → f' j = 48 + quR N n k (r1 + j + 1) % 10) ∧ w.grownBy wr (some a)
theorem SrRel.put {w wr : World} {a N n k r1 r b : Nat} {f : Nat → Nat} {dp : Int} {neg : Bool} (h : SrRel w a f N n k r1 dp neg r wr) (hr : r1 ≤ r) (h1 : 1 ≤ r1) (hn : r - r1 < 800) (hb : b = quR N n k (r + 1) % 10) :
    SrRel w a f N n k r1 dp neg (r + 1) (wr.setCell ⟨a, r - r1, none⟩ (.int .u8 ((48 + b : Nat) : Int))) := by
  obtain ⟨f', h1', h2, h3, h4⟩ := h
  refine ⟨_, h1'.sdig (r - r1) (48 + b) hn, fun j hj hj2 => ?_, fun j hj => ?_, grown_trans h4 (set_grown _ _ _ _)⟩
  · rw [upd_ne _ _ _ _ (by omega)]
    exact h2 j (by omega) hj2
  · by_cases hje : j = r - r1
    · rw [hje, upd_at, hb, show r1 + (r - r1) + 1 = r + 1 by omega]
    · rw [upd_ne _ _ _ _ hje]
      exact h3 j (by omega)
theorem and_mask64 (a n : Nat) (ha : a < 18446744073709551616) (hn : n ≤ 62) : bits BinOp.and IntKind.u64 (a : Int) ((2 ^ n : Nat) - 1 : Int) = ((a % 2 ^ n : Nat) : Int) := by
  have hp : 2 ^ n ≤ 4611686018427387904 := by
    have := Nat.pow_le_pow_right (show 0 < 2 by decide) hn
    simpa using this
  have hp0 : 0 < 2 ^ n := Nat.pow_pos (by decide)
  obtain ⟨q, hq⟩ : ∃ q, q = 2 ^ n := ⟨_, rfl⟩
  have hc : ((2 ^ n : Nat) - 1 : Int) = ((2 ^ n - 1 : Nat) : Int) := by
    rw [← hq] at hp0 ⊢
    omega
  have h2 : (BitVec.ofInt 64 (a : Int)).toNat = a := by
    rw [BitVec.toNat_ofInt]
    omega
  have h3 : (BitVec.ofInt 64 ((2 ^ n - 1 : Nat) : Int)).toNat = 2 ^ n - 1 := by
    rw [BitVec.toNat_ofInt, ← hq]
    rw [← hq] at hp hp0
    omega
  have hm : a % 2 ^ n < 2 ^ n := Nat.mod_lt _ hp0
  rw [hc]
  have h : bits BinOp.and IntKind.u64 (a : Int) ((2 ^ n - 1 : Nat) : Int) = IntKind.u64.wrap (((BitVec.ofInt 64 (a : Int) &&& BitVec.ofInt 64 ((2 ^ n - 1 : Nat) : Int)).toNat : Nat) : Int) := rfl
  rw [h, BitVec.toNat_and, h2, h3, Nat.and_two_pow_sub_one_eq_mod, IntKind.wrap_u64]
  obtain ⟨r, hr⟩ : ∃ r, r = a % 2 ^ n := ⟨_, rfl⟩
  rw [← hr] at hm ⊢
  rw [← hq] at hp hm
  omega
set_option maxRecDepth 100000 in
set_option maxHeartbeats 2000000 in
theorem shr_any (a : Nat) (N n k : Nat) (V : Nat) (dp : Int) (neg : Bool) (w : World) (hk1 : 1 ≤ k) (hk : k ≤ 60) (hn : n + k ≤ 799) (hnd : (n : Int) + k + 1 ≤ dp + 2000) (hdp : -3000 ≤ dp) (hdp2 : dp ≤ 3000) (h : DV w a V N n dp neg) :
    Calls Tryz.prog 230 #[.pointer (some ⟨a, 0, none⟩), .int .u64 (k : Nat)] w (SrPost w a V k (n + k) dp neg) := by
  obtain ⟨f, hD, hdg, g, hnd0, hv⟩ := h
  obtain ⟨P, hP⟩ : ∃ P : Nat, P = 2 ^ k := ⟨_, rfl⟩
  have hP60 : P ≤ 1152921504606846976 := by
    rw [hP]
    exact Nat.le_trans (Nat.pow_le_pow_right (by decide) hk) (by decide)
  have hP2 : 2 ≤ P := by
    rw [hP]
    exact Nat.le_trans (by decide : 2 ≤ 2 ^ 1) (Nat.pow_le_pow_right (by decide) hk1)
  have c1 := hD.cnd
  have HDD := Lib.hid hD
  have HG := Lib.hid (And.intro g (And.intro hdg (And.intro hnd (And.intro hv hP))))
  have n0 : (0 : Int) ≤ (n : Int) := by omega
  have n1 : (n : Int) ≤ 799 := by omega
  have P1 : (P : Int) ≤ 1152921504606846976 := by omega
  have P0 : (2 : Int) ≤ (P : Int) := by omega
  have F0 : ((2 : Int) ^ k) = (P : Int) := by rw [hP]; norm_cast
  have HF0 := Lib.hid F0
  clear hD hdg g hnd hv hnd0 hP F0
  go_enter Tryz.func230, Tryz.ntmps230
  go_upto_block 0 with (fail)
  go_cut [4, 6] from 12 to 48 (fun r m wx => ∃ r1, 1 ≤ r1 ∧ 2 ^ k ≤ preN N n r1 ∧ preN N n (r1 - 1) < 2 ^ k ∧ r = .int .i64 (r1 : Nat) ∧ m = .int .u64 ((preN N n r1 : Nat) : Int) ∧ wx = w)
  case first =>
    go_wp2_with fail
    go_loopw [4, 6] (fun r m wr => ∃ q : Nat, (q = 0 ∨ preN N n (q - 1) < 2 ^ k) ∧ q ≤ n ∧ r = .int .i64 (q : Nat) ∧ m = .int .u64 ((preN N n q : Nat) : Int) ∧ wr = w) (fun r _ _ => 20 - (intOf r).toNat)
    case atStart => exact ⟨0, .inl rfl, Nat.zero_le _, rfl, by rw [pre_zero HG.out.1.hi]; rfl, rfl⟩
    case round =>
      obtain ⟨q, hq0, hqn, rfl, rfl, hwr⟩ := hrel
      obtain rfl := hwr.symm
      have g := HG.out
      have hPP := g.2.2.2.2
      obtain ⟨m, hm⟩ : ∃ m, preN N n q = m := ⟨_, rfl⟩
      rw [hm]
      by_cases hlt : m < P
      · have hq19 : q ≤ 19 := pre_few g.1.lo g.1.n1 hk (by rw [hm, ← hPP]; exact hlt)
        have t1 : ((m : Int) / 2 ^ k == 0) = true := by
          rw [HF0.out, beq_iff_eq]
          exact Int.ediv_eq_zero_of_lt (by omega) (by omega)
        have q0 : (0 : Int) ≤ (q : Int) := by omega
        have q1 : (q : Int) ≤ 19 := by omega
        have m0 : (0 : Int) ≤ (m : Int) := by omega
        have m1 : (m : Int) < 1152921504606846976 := by omega
        by_cases hqq : q < n
        · have hd := g.2.1 q hqq
          rw [← dg_usual hqq] at hd
          have hd10 := dgN_lt N n q
          have hs := pre_succ N n q
          rw [hm] at hs
          obtain ⟨x, hx⟩ : ∃ x, dgN N n q = x := ⟨_, rfl⟩
          rw [hx] at hd hd10 hs
          have c3 := HDD.out.dig q (by omega)
          rw [hd, show ((48 + x : Nat) : Int) = (x : Int) + 48 by omega] at c3
          have t2 : decide (n ≤ q) = false := decide_eq_false (by omega)
          have x0 : (0 : Int) ≤ (x : Int) := by omega
          have x1 : (x : Int) ≤ 9 := by omega
          have q2 : (q : Int) < 800 := by omega
          have HNX := Lib.hid (And.intro hs (And.intro hqq (show preN N n (q + 1 - 1) < 2 ^ k by rw [Nat.add_sub_cancel, hm, ← hPP]; exact hlt)))
          clear g hPP hm hd hd10 hs hx hq0 hlt
          go_wp2_with fail
          exact ⟨⟨q + 1, .inr HNX.out.2.2, HNX.out.2.1, by go_num, by rw [HNX.out.1]; go_num, by first | trivial | rfl⟩, by simp only [intOf]; omega⟩
        · have hqn2 : q = n := by omega
          have hmN : m = N := by rw [← hm, hqn2, pre_all]
          have t2 : decide (n ≤ q) = true := decide_eq_true (by omega)
          have t2' : n ≤ q := by omega
          have hN0 : 0 < m := by rw [hmN]; exact Nat.lt_of_lt_of_le (Nat.pow_pos (by decide)) g.1.lo
          have t3 : ((m : Int) == 0) = false := by rw [beq_eq_false_iff_ne]; omega
          have HST := Lib.hid (And.intro hm hq0)
          clear g hPP hm hq0 hlt hqn2 hmN hqq hN0 hqn
          go_wp2_with fail
          go_loopw [4, 6] (fun r m wr => ∃ q : Nat, (q = 0 ∨ preN N n (q - 1) < 2 ^ k) ∧ n ≤ q ∧ r = .int .i64 (q : Nat) ∧ m = .int .u64 ((preN N n q : Nat) : Int) ∧ wr = w) (fun r _ _ => 20 - (intOf r).toNat)
          case atStart => exact ⟨q, HST.out.2, t2', rfl, by rw [HST.out.1], rfl⟩
          case round =>
            obtain ⟨p, hp0, hpn, rfl, rfl, hwr⟩ := hrel
            obtain rfl := hwr.symm
            have g := HG.out
            have hPP := g.2.2.2.2
            clear m0 m1 q0 q1 t1 t2 t2' t3 hq19 HST
            obtain ⟨m3, hm3⟩ : ∃ m3, preN N n p = m3 := ⟨_, rfl⟩
            rw [hm3]
            by_cases hlt : m3 < P
            · have hq19 : p ≤ 19 := pre_few g.1.lo g.1.n1 hk (by rw [hm3, ← hPP]; exact hlt)
              have t1 : ((m3 : Int) / 2 ^ k == 0) = true := by
                rw [HF0.out, beq_iff_eq]
                exact Int.ediv_eq_zero_of_lt (by omega) (by omega)
              have q0 : (0 : Int) ≤ (p : Int) := by omega
              have q1 : (p : Int) ≤ 19 := by omega
              have m0 : (0 : Int) ≤ (m3 : Int) := by omega
              have m1 : (m3 : Int) < 1152921504606846976 := by omega
              have hs := pre_succ N n p
              rw [dg_beyond hpn, hm3] at hs
              have HNX := Lib.hid (And.intro hs (And.intro hpn (show preN N n (p + 1 - 1) < 2 ^ k by rw [Nat.add_sub_cancel, hm3, ← hPP]; exact hlt)))
              clear g hPP hm3 hp0 hlt hs hpn
              go_wp2_with fail
              exact ⟨⟨p + 1, .inr HNX.out.2.2, by have := HNX.out.2.1; omega, by go_num, by rw [HNX.out.1]; go_num, by first | trivial | rfl⟩, by simp only [intOf]; omega⟩
            · have t1 : ((m3 : Int) / 2 ^ k == 0) = false := by
                rw [HF0.out, beq_eq_false_iff_ne]
                intro h
                have := Int.lt_ediv_add_one_mul_self (m3 : Int) (show (0 : Int) < (P : Int) by omega)
                rw [h] at this
                omega
              have hp1 : 1 ≤ p := by have := g.1.n1; omega
              have HNX := Lib.hid (And.intro hm3 (And.intro hp1 (And.intro (show 2 ^ k ≤ preN N n p by rw [hm3, ← hPP]; omega) (show preN N n (p - 1) < 2 ^ k from hp0.resolve_left (by omega)))))
              clear g hPP hm3 hp0 hlt hpn hp1
              go_wp2_with fail
              go_meet
              exact ⟨p, HNX.out.2.1, HNX.out.2.2.1, HNX.out.2.2.2, rfl, by rw [HNX.out.1], rfl⟩
      · have t1 : ((m : Int) / 2 ^ k == 0) = false := by
          rw [HF0.out, beq_eq_false_iff_ne]
          intro h
          have := Int.lt_ediv_add_one_mul_self (m : Int) (show (0 : Int) < (P : Int) by omega)
          rw [h] at this
          omega
        have hp1 : 1 ≤ q := by
          refine Nat.pos_of_ne_zero fun e => ?_
          rw [e, pre_zero g.1.hi] at hm
          omega
        have HNX := Lib.hid (And.intro hm (And.intro hp1 (And.intro (show 2 ^ k ≤ preN N n q by rw [hm, ← hPP]; omega) (show preN N n (q - 1) < 2 ^ k from hq0.resolve_left (by omega)))))
        clear g hPP hm hq0 hlt hqn hp1
        go_wp2_with fail
        go_meet
        exact ⟨q, HNX.out.2.1, HNX.out.2.2.1, HNX.out.2.2.2, rfl, by rw [HNX.out.1], rfl⟩
  case rest =>
    obtain ⟨r1, h1, h2, h3, rfl, rfl, hwx⟩ := hcut
    obtain rfl := hwx.symm
    have g := HG.out
    have hPP := g.2.2.2.2
    have hr20 := pre_few g.1.lo g.1.n1 hk h3
    have hrk : r1 ≤ k + 2 := by have := pre_fewk g.1.lo g.1.n1 h3; omega
    obtain ⟨e1, e2⟩ := re_first (pre_10 h1 h3)
    rw [← e1]
    obtain ⟨dp2, hdp3⟩ : ∃ dp2 : Int, dp - ((r1 : Int) - 1) = dp2 := ⟨_, rfl⟩
    have hD2 := HDD.out.sdp dp2
    have HS := Lib.hid (show SrRel w a f N n k r1 dp2 neg r1 (w.setCell ⟨a, 801, none⟩ (.int .i64 dp2)) from ⟨f, hD2, fun _ _ _ => rfl, fun j hj => by omega, set_grown _ _ _ _⟩)
    have HC1 := Lib.hid (And.intro HDD.out.cdp (HDD.out.fr 801))
    have c2 := HDD.out.cdp
    have c2' := hD2.cnd
    have r0 : (1 : Int) ≤ (r1 : Int) := by omega
    have r9 : (r1 : Int) ≤ 20 := by omega
    have HR := Lib.hid (And.intro h1 (And.intro h2 h3))
    have HDP := Lib.hid hdp3
    have Fm : IntKind.u64.wrap (2 ^ k) = (P : Int) := by rw [HF0.out, IntKind.wrap_u64]; omega
    have HE := Lib.hid (And.intro e1 e2)
    clear g hPP h1 h2 h3 e1 e2 hD2 hr20
    go_upto_region 14 with ((with_reducible refine wl_pre ?_); (refine wl_set_i64 rfl (.tmp 57) (.tmp 55) rfl a 801 dp2 _ rfl rfl HC1.out.1 HC1.out.2 ?_); (simp only [Act.put]))
    clear c2 hdp3
    obtain ⟨W0, hW0⟩ : ∃ W0, W0 = w.setCell ⟨a, 801, none⟩ (.int .i64 dp2) := ⟨_, rfl⟩
    rw [← hW0] at HS c2' ⊢
    have HW0 := Lib.hid hW0
    clear hW0
    go_wp2_with fail
    go_loopw [4, 5, 6] (fun r wi m wr => ∃ q : Nat, r1 ≤ q ∧ (q ≤ n ∨ q = r1) ∧ r = .int .i64 (q : Nat) ∧ wi = .int .i64 ((q - r1 : Nat) : Int) ∧ m = .int .u64 ((reR N n k q : Nat) : Int) ∧ SrRel w a f N n k r1 dp2 neg q wr) (fun r _ _ _ => n - (intOf r).toNat)
    case atStart => exact ⟨r1, Nat.le_refl _, .inr rfl, rfl, by rw [Nat.sub_self]; rfl, rfl, HS.out⟩
    case round =>
      obtain ⟨q, hrq, hqn, rfl, rfl, rfl, hS⟩ := hrel
      have g := HG.out
      have hPP := g.2.2.2.2
      have hre := re_lt N n k q
      rw [← hPP] at hre
      obtain ⟨m, hm⟩ : ∃ m, reR N n k q = m := ⟨_, rfl⟩
      rw [hm] at hre ⊢
      obtain ⟨f', hDM, hlow, hhigh, hgr⟩ := id hS
      have c4 := hDM.cnd
      have q0 : (0 : Int) ≤ (q : Int) := by omega
      have q9 : (q : Int) ≤ 820 := by omega
      have m0 : (0 : Int) ≤ (m : Int) := by omega
      have m1 : (m : Int) < 18446744073709551616 := by omega
      have mlt : m < 18446744073709551616 := by omega
      obtain ⟨W, hW⟩ : ∃ W, q - r1 = W := ⟨_, rfl⟩
      rw [hW]
      have W0' : (0 : Int) ≤ (W : Int) := by omega
      by_cases hlt : q < n
      · have t1 : decide (q < n) = true := decide_eq_true hlt
        obtain ⟨s1, s2⟩ := step_R N n k q
        rw [hm, ← hPP] at s1 s2
        have hd := g.2.1 q hlt
        rw [← dg_usual hlt, ← hlow q (Nat.le_refl _) hlt] at hd
        have hd10 := dgN_lt N n q
        obtain ⟨x, hx⟩ : ∃ x, dgN N n q = x := ⟨_, rfl⟩
        rw [hx] at hd hd10 s2
        have c3 := hDM.dig q (by omega)
        rw [hd, show ((48 + x : Nat) : Int) = (x : Int) + 48 by omega] at c3
        obtain ⟨z, hz⟩ : ∃ z, m % P = z := ⟨_, rfl⟩
        obtain ⟨y, hy⟩ : ∃ y, m / P = y := ⟨_, rfl⟩
        have hz2 : z < P := by rw [← hz]; exact Nat.mod_lt _ (by omega)
        have hy2 : y < 10 := by rw [← hy]; exact Nat.div_lt_of_lt_mul (by rw [Nat.mul_comm]; exact hre)
        have Fa : bits BinOp.and IntKind.u64 (m : Int) ((P : Int) - 1) = (z : Int) := by
          rw [← hz, hPP]
          exact and_mask64 m k mlt (Nat.le_trans hk (by decide))
        have Fg : (m : Int) / 2 ^ k = (y : Int) := by rw [HF0.out, ← hy]; rfl
        rw [hz] at s2
        rw [hy] at s1
        have HNX := Lib.hid (hS.put (b := y) hrq HR.out.1 (by omega) s1.symm)
        rw [hW] at HNX
        have HC := Lib.hid (And.intro (hDM.dig W (by omega)) (hDM.fr W))
        have x0 : (0 : Int) ≤ (x : Int) := by omega
        have x1 : (x : Int) ≤ 9 := by omega
        have y0 : (0 : Int) ≤ (y : Int) := by omega
        have y1 : (y : Int) ≤ 9 := by omega
        have z0 : (0 : Int) ≤ (z : Int) := by omega
        have z1 : (z : Int) < 1152921504606846976 := by omega
        have q8 : (q : Int) < 800 := by omega
        have W9 : (W : Int) < 800 := by omega
        have HQ := Lib.hid (And.intro s2 (And.intro hrq (And.intro hW hlt)))
        clear g hPP hre hm hDM hlow hhigh hgr hW hlt s1 s2 hd hd10 hx hz hy hz2 hy2 hrq hqn hS
        go_upto_region 20 with (fail)
        go_wp2_with ((with_reducible refine wl_pre ?_); (refine wl_set_u8 rfl (.tmp 89) (.tmp 86) rfl a W ((y : Int) + 48) _ rfl rfl HC.out.1 HC.out.2 ?_); (simp only [Act.put]))
        exact ⟨⟨q + 1, Nat.le_succ_of_le HQ.out.2.1, .inl HQ.out.2.2.2, by go_num, by rw [show q + 1 - r1 = W + 1 by have := HQ.out.2; omega]; go_num, by rw [HQ.out.1]; exact congrArg (Value.int IntKind.u64) (by omega), by rw [show ((y : Int) + 48) = ((48 + y : Nat) : Int) by omega]; exact HNX.out⟩, by have := HQ.out.2.2.2; simp only [intOf]; omega⟩
      · have t1 : decide (q < n) = false := decide_eq_false hlt
        have t1' : ¬ q < n := hlt
        have HS2 := Lib.hid hS
        have hn1 := g.1.n1
        have HQ := Lib.hid (And.intro hm (And.intro hrq (And.intro hW (show q ≤ n + k + 1 by omega))))
        clear g hPP hre hm hDM hlow hhigh hgr hW hlt hrq hqn hS mlt hn1
        go_wp2_with fail
        obtain ⟨wa, hwa⟩ : ∃ wa, wa = wr := ⟨_, rfl⟩
        rw [← hwa] at HS2 ⊢
        clear hwa c4
        go_loopw [5, 6] (fun wi m wr => ∃ q : Nat, r1 ≤ q ∧ n ≤ q ∧ q ≤ n + k + 1 ∧ wi = .int .i64 ((q - r1 : Nat) : Int) ∧ m = .int .u64 ((reR N n k q : Nat) : Int) ∧ SrRel w a f N n k r1 dp2 neg q wr) (fun wi _ _ => n + k + 2 - (intOf wi).toNat)
        case atStart => exact ⟨q, HQ.out.2.1, Nat.le_of_not_lt t1', HQ.out.2.2.2, by rw [HQ.out.2.2.1], by rw [HQ.out.1], HS2.out⟩
        case round =>
          obtain ⟨q, hrq, hnq, hqk, rfl, rfl, hS⟩ := hrel
          have g := HG.out
          have hPP := g.2.2.2.2
          have hre := re_lt N n k q
          rw [← hPP] at hre
          clear HQ HS2 m0 m1 q0 q9 W0' t1 t1'
          obtain ⟨m, hm⟩ : ∃ m, reR N n k q = m := ⟨_, rfl⟩
          rw [hm] at hre ⊢
          obtain ⟨f', hDM, hlow, hhigh, hgr⟩ := id hS
          have m0 : (0 : Int) ≤ (m : Int) := by omega
          have m1 : (m : Int) < 18446744073709551616 := by omega
          have mlt : m < 18446744073709551616 := by omega
          obtain ⟨W, hW⟩ : ∃ W, q - r1 = W := ⟨_, rfl⟩
          rw [hW]
          have W0' : (0 : Int) ≤ (W : Int) := by omega
          by_cases hpos : 0 < m
          · have t1 : decide (0 < m) = true := decide_eq_true hpos
            have hqk2 : q ≤ n + k := by
              refine Nat.le_of_not_lt fun h => ?_
              have h5 := re_end (N := N) (n := n) (k := k) (d := q - n) (by omega)
              rw [show n + (q - n) = q by omega, hm] at h5
              omega
            obtain ⟨s1, s2⟩ := step_R N n k q
            rw [hm, ← hPP] at s1 s2
            rw [dg_beyond hnq] at s2
            obtain ⟨z, hz⟩ : ∃ z, m % P = z := ⟨_, rfl⟩
            obtain ⟨y, hy⟩ : ∃ y, m / P = y := ⟨_, rfl⟩
            have hz2 : z < P := by rw [← hz]; exact Nat.mod_lt _ (by omega)
            have hy2 : y < 10 := by rw [← hy]; exact Nat.div_lt_of_lt_mul (by rw [Nat.mul_comm]; exact hre)
            have Fa : bits BinOp.and IntKind.u64 (m : Int) ((P : Int) - 1) = (z : Int) := by
              rw [← hz, hPP]
              exact and_mask64 m k mlt (Nat.le_trans hk (by decide))
            have Fg : (m : Int) / 2 ^ k = (y : Int) := by rw [HF0.out, ← hy]; rfl
            rw [hz] at s2
            rw [hy] at s1
            have h10 := HR.out.1
            have hW8 : W < 800 := by omega
            have HNX := Lib.hid (hS.put (b := y) hrq HR.out.1 (by rw [hW]; exact hW8) s1.symm)
            rw [hW] at HNX
            have HC := Lib.hid (And.intro (hDM.dig W hW8) (hDM.fr W))
            have y0 : (0 : Int) ≤ (y : Int) := by omega
            have y1 : (y : Int) ≤ 9 := by omega
            have z0 : (0 : Int) ≤ (z : Int) := by omega
            have z1 : (z : Int) < 1152921504606846976 := by omega
            have W9 : (W : Int) < 800 := by omega
            have HQ := Lib.hid (And.intro s2 (And.intro hrq (And.intro hW (And.intro hnq hqk2))))
            clear g hPP hre hm hDM hlow hhigh hgr hW s1 s2 hz hy hz2 hy2 hrq hnq hqk hqk2 hS h10 hW8 mlt
            go_upto_region 27 with (fail)
            go_wp2_with ((with_reducible refine wl_pre ?_); (refine wl_set_u8 rfl (.tmp 114) (.tmp 111) rfl a W ((y : Int) + 48) _ rfl rfl HC.out.1 HC.out.2 ?_); (simp only [Act.put]))
            exact ⟨⟨q + 1, Nat.le_succ_of_le HQ.out.2.1, Nat.le_succ_of_le HQ.out.2.2.2.1, Nat.succ_le_succ HQ.out.2.2.2.2, by rw [show q + 1 - r1 = W + 1 by have := HQ.out.2; omega]; go_num, by rw [HQ.out.1]; exact congrArg (Value.int IntKind.u64) (by omega), by rw [show ((y : Int) + 48) = ((48 + y : Nat) : Int) by omega]; exact HNX.out⟩, by have := HQ.out.2; simp only [intOf]; omega⟩
          · have hz : m = 0 := by omega
            rw [hz] at hm
            have h9 := HR.out
            obtain ⟨l1, l2, l3⟩ := sr_fin h9.1 h9.2.1 h9.2.2 hm hrq
            rw [hW] at l2 l3
            have hdg2 : Dg f' (quR N n k q) W := fun j hj => by
              rw [hhigh j (by omega), sr_dig (N := N) (n := n) (k := k) (r1 := r1) (T := q) (j := j) (by omega), hW]
            have hW1 : 1 ≤ W := by omega
            have hW8 : W ≤ 800 := by omega
            have gd := tr_lo W (quR N n k q) hW1 l2 l3
            have hd1 := hDM.snd ((W : Nat) : Int)
            have hg1 := grown_trans hgr (set_grown wr a 800 (.int .i64 (W : Nat)))
            have hvR := val_R N n k r1 q dp hm hnq hrq (by have := g.2.2.1; omega) (by have := g.2.2.1; omega)
            rw [hW, g.2.2.2.1] at hvR
            have hdp9 := HDP.out
            have CT := trim_any a f' (quR N n k q) W dp2 neg _ (Nat.lt_of_lt_of_le (Nat.pow_pos (by decide)) l2) l3 hW8 hdg2 hd1
            have CT2 := CT.mono (R' := SrPost w a V k (n + k) dp neg) fun e w' h => by
              obtain ⟨t1, t2, t3⟩ := h
              have htl := tr_le W (quR N n k q)
              have hvv : val (quR N n k q) W dp2 = V / 2 ^ k := by
                rw [← hvR, Nat.mul_div_cancel _ (two_pos k), show dp - (r1 : Int) + 1 = dp2 by omega]
              refine ⟨t1, ⟨_, _, _, ⟨f', t2, fun j hj => ?_, gd.toWGood, ?_, ?_⟩, gd.md, ?_⟩, ?_, grown_trans hg1 t3⟩
              · rw [hdg2 j (by omega), tr_dig W _ j hj]
              · have := g.2.2.1
                omega
              · rw [val_tr _ _ _ (by have := g.2.2.1; omega), hvv]
              · exact ⟨by omega, by omega, by omega⟩
              · rw [← hvR, Nat.mul_div_cancel _ (two_pos k)]
            have HC2 := Lib.hid (And.intro hDM.cnd (hDM.fr 800))
            have HCT := Lib.hid CT2
            have t1 : decide (0 < m) = false := decide_eq_false hpos
            clear g hPP hre hm hDM hlow hhigh hgr hW hrq hnq hqk hS mlt hz h9 l1 l2 l3 hdg2 hW1 hW8 gd hd1 hg1 hvR hdp9 CT CT2
            go_upto_region 33 with ((with_reducible refine wl_pre ?_); (refine wl_set_i64 rfl (.tmp 127) (.tmp 125) rfl a 800 (W : Nat) _ rfl rfl HC2.out.1 HC2.out.2 ?_); (simp only [Act.put]))
            go_wp2_with (go_at_call 228; (with_reducible refine HCT.out.mono ?_); rintro e w' ⟨rfl, hz2⟩; have HZ2 := Lib.hid hz2; clear hz2)
            go_end0
            exact ⟨rfl, HZ2.out⟩
end Go.Proofs.YtcbgkbidgpemfaaGreatDoor.dcw

/- The walks of strconv's Shift. Conditions: as each theorem states. -/
namespace Go.Proofs.YtcbgkbidgpemfaaGreatDoor.dcw
open Go.RowKit
open Go.Proofs.YtcbgkbidgpemfaaGreatDoor.bsw
open Go.Proofs.YtcbgkbidgpemfaaGreatDoor.prnw
open Go.Proofs.YtcbgkbidgpemfaaGreatDoor.dmx

set_option maxRecDepth 100000 in
set_option maxHeartbeats 1000000 in
theorem shift_l (B a : Nat) (N n k : Nat) (V : Nat) (dp : Int) (neg : Bool) (w : World) (hL : LC B w) (hB : B ≤ a) (hk1 : 1 ≤ k) (hk : k ≤ 60) (hn : n + 20 ≤ 800) (hdp : -3000 ≤ dp) (hdp2 : dp ≤ 3000) (h : DV w a V N n dp neg) :
    Calls Tryz.prog 192 #[.pointer (some ⟨a, 0, none⟩), .int .i64 (k : Nat)] w (ShPost w a (V * 2 ^ k) (n + 19) dp neg) := by
  have HC := Lib.hid (shl_any B a N n k V dp neg w hL hB hk1 hk hn hdp hdp2 h)
  have c1 := h.choose_spec.1.cnd
  have g := h.choose_spec.2.2.1
  have g1 := g.n1
  have t1 : ((n : Int) == 0) = false := by rw [beq_eq_false_iff_ne]; omega
  have k1 : (0 : Int) < (k : Int) := by omega
  have k2 : (k : Int) ≤ 60 := by omega
  clear hL h g g1
  go_enter Tryz.func192, Tryz.ntmps192
  go_wp2_with fail
  refine wp_loop_rounds 1 ?_
  rw [rounds_succ]
  go_wp2_with (go_at_call 229; (with_reducible refine HC.out.mono ?_); rintro e w' ⟨rfl, hz2⟩; have HZ2 := Lib.hid hz2; clear hz2)
  go_end0
  exact ⟨rfl, HZ2.out⟩
set_option maxRecDepth 100000 in
set_option maxHeartbeats 1000000 in
theorem shift_r1 (a : Nat) (N n k : Nat) (V : Nat) (dp : Int) (neg : Bool) (w : World) (hk1 : 1 ≤ k) (hk : k ≤ 60) (hn : n + k ≤ 799) (hnd : (n : Int) + k + 1 ≤ dp + 2000) (hdp : -3000 ≤ dp) (hdp2 : dp ≤ 3000) (h : DV w a V N n dp neg) :
    Calls Tryz.prog 192 #[.pointer (some ⟨a, 0, none⟩), .int .i64 (-(k : Int))] w (SrPost w a V k (n + k) dp neg) := by
  have HC := Lib.hid (shr_any a N n k V dp neg w hk1 hk hn hnd hdp hdp2 h)
  have c1 := h.choose_spec.1.cnd
  have g := h.choose_spec.2.2.1
  have g1 := g.n1
  have t1 : ((n : Int) == 0) = false := by rw [beq_eq_false_iff_ne]; omega
  have k1 : (0 : Int) < (k : Int) := by omega
  have k2 : (k : Int) ≤ 60 := by omega
  have k3 : decide (0 < -(k : Int)) = false := decide_eq_false (by omega)
  have k4 : decide (-(k : Int) < 0) = true := decide_eq_true (by omega)
  have k5 : decide (-(k : Int) < -60) = false := decide_eq_false (by omega)
  clear h g g1
  go_enter Tryz.func192, Tryz.ntmps192
  go_wp2_with fail
  refine wp_loop_rounds 1 ?_
  rw [rounds_succ]
  go_wp2_with (go_at_call 230; (with_reducible refine HC.out.mono ?_); rintro e w' ⟨rfl, hz2⟩; have HZ2 := Lib.hid hz2; clear hz2)
  go_end0
  exact ⟨rfl, HZ2.out⟩
def Sr2Post (w : World) (a V k : Nat) (B D : Int) (neg : Bool) (e : Ending) (w' : World) : Prop :=
  e = .returned (.tuple #[]) ∧ (∃ N n dp, DV w' a (V / 2 ^ k) N n dp neg ∧ N % 10 ≠ 0 ∧ (n : Int) ≤ B ∧ D - 40 ≤ dp ∧ dp ≤ D + 40) ∧ V / 2 ^ k * 2 ^ k = V ∧ w.grownBy w' (some a)
set_option maxRecDepth 100000 in
set_option maxHeartbeats 1000000 in
theorem shift_r (a : Nat) (N n k : Nat) (V : Nat) (dp : Int) (neg : Bool) (w : World) (hk1 : 1 ≤ k) (hk : k ≤ 120) (hn : n + k ≤ 799) (hnd : (n : Int) + k + 100 ≤ dp + 2000) (hdp : -2900 ≤ dp) (hdp2 : dp ≤ 2900) (h : DV w a V N n dp neg) :
    Calls Tryz.prog 192 #[.pointer (some ⟨a, 0, none⟩), .int .i64 (-(k : Int))] w (Sr2Post w a V k (n + k) dp neg) := by
  by_cases hk6 : k ≤ 60
  · refine (shift_r1 a N n k V dp neg w hk1 hk6 hn (by omega) (by omega) (by omega) h).mono fun e w' hh => ?_
    obtain ⟨h1, ⟨N', n', dp', h2, hm, h3, h4, h5⟩, h6, h7⟩ := hh
    exact ⟨h1, ⟨N', n', dp', h2, hm, h3, by omega, by omega⟩, h6, h7⟩
  · have HC0 : Calls Tryz.prog 230 #[.pointer (some ⟨a, 0, none⟩), .int .u64 60] w (SrPost w a V 60 (n + 60) dp neg) := shr_any a N n 60 V dp neg w (by decide) (by decide) (by omega) (by omega) (by omega) (by omega) h
    have HC := Lib.hid HC0
    have c1 := h.choose_spec.1.cnd
    have g := h.choose_spec.2.2.1
    have g1 := g.n1
    obtain ⟨j, hj⟩ : ∃ j, k = 60 + j := ⟨k - 60, by omega⟩
    have HJ := Lib.hid hj
    have t1 : ((n : Int) == 0) = false := by rw [beq_eq_false_iff_ne]; omega
    have k1 : (0 : Int) < (k : Int) := by omega
    have k2 : (k : Int) ≤ 120 := by omega
    have k3 : decide (0 < -(k : Int)) = false := decide_eq_false (by omega)
    have k4 : decide (-(k : Int) < 0) = true := decide_eq_true (by omega)
    have k5 : decide (-(k : Int) < -60) = true := decide_eq_true (by omega)
    have k6 : -(k : Int) + 60 = -(j : Int) := by omega
    have j0 : (0 : Int) < (j : Int) := by omega
    have j1 : (j : Int) ≤ 60 := by omega
    have k7 : decide (-(j : Int) < -60) = false := decide_eq_false (by omega)
    clear h g g1 hj HC0
    go_enter Tryz.func192, Tryz.ntmps192
    go_wp2_with fail
    refine wp_loop_rounds 2 ?_
    rw [rounds_succ]
    go_wp2_with fail
    (with_reducible refine HC.out.mono ?_)
    rintro e w1 ⟨rfl, ⟨N1, n1, dp1, h2, _, h3, h4, h5⟩, h6, h7⟩
    have HC2 := Lib.hid (shr_any a N1 n1 j (V / 2 ^ 60) dp1 neg w1 (by omega) (by omega) (by omega) (by omega) (by omega) (by omega) h2)
    have HZ := Lib.hid (And.intro h3 (And.intro h4 (And.intro h5 (And.intro h6 h7))))
    clear h2 h3 h4 h5 h6 h7
    go_wp2_with fail
    rw [rounds_succ]
    go_wp2_with (go_at_call 230; (with_reducible refine HC2.out.mono ?_); rintro e w' ⟨rfl, hz2⟩; have HZ2 := Lib.hid hz2; clear hz2)
    go_end0
    obtain ⟨⟨N', n', dp', a2, am, a3, a4, a5⟩, a6, a7⟩ := HZ2.out
    obtain ⟨b3, b4, b5, b6, b7⟩ := HZ.out
    have hkj := HJ.out
    have e1 : V / 2 ^ 60 / 2 ^ j = V / 2 ^ k := by rw [Nat.div_div_eq_div_mul, ← Nat.pow_add, hkj]
    refine ⟨rfl, ⟨N', n', dp', by rw [← e1]; exact a2, am, by omega, by omega, by omega⟩, ?_, grown_trans b7 a7⟩
    rw [← e1, hkj, Nat.pow_add, Nat.mul_comm (2 ^ 60), ← Nat.mul_assoc, a6, b6]
end Go.Proofs.YtcbgkbidgpemfaaGreatDoor.dcw
