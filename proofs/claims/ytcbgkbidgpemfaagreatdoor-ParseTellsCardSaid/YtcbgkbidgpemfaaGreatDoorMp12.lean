/- The walk of strconv's leftShift. Conditions: as the theorem states. -/
import Derived.Test.YtcbgkbidgpemfaaGreatDoorMp11
import Derived.Test.YtcbgkbidgpemfaaGreatDoorMp10
namespace Go.Proofs.YtcbgkbidgpemfaaGreatDoor.dcw
open Go.RowKit
open Go.Proofs.YtcbgkbidgpemfaaGreatDoor.bsw
open Go.Proofs.YtcbgkbidgpemfaaGreatDoor.prnw
open Go.Proofs.YtcbgkbidgpemfaaGreatDoor.dmx

/-- the table of the shifts to the left, in blocks below B -/
def LC (B : Nat) (w : World) : Prop :=
  9 < B ∧ ∃ bb bo cap, bb < B ∧ w.cell? ⟨9, 0, none⟩ = some (.slice (some ⟨bb, bo, none⟩) 61 cap) ∧
    ∀ k, 1 ≤ k → k ≤ 60 → ∃ c s, w.cell? ⟨bb, bo + k * 2, none⟩ = some (.int .i64 (((k + 1 - c : Nat) : Int))) ∧ w.cell? ⟨bb, bo + k * 2 + 1, none⟩ = some (.string s) ∧ Tx s (5 ^ k) c ∧ 10 ^ c ≤ 10 * 5 ^ k ∧ 5 ^ k < 10 ^ c ∧ c ≤ k
theorem five_odd (k : Nat) : 5 ^ k % 10 ≠ 0 := by
  have h : ∀ k, 5 ^ k % 2 = 1 := fun k => by
    induction k with
    | zero => rfl
    | succ k ih => rw [Nat.pow_succ]; omega
  have := h k
  omega
/-- a decimal of value V lies in block a -/
def DV (w : World) (a V N n : Nat) (dp : Int) (neg : Bool) : Prop :=
  ∃ f, DM w a f (n : Nat) dp neg ∧ Dg f N n ∧ WGood N n ∧ (n : Int) ≤ dp + 2000 ∧ val N n dp = V
def ShPost (w : World) (a V : Nat) (B D : Int) (neg : Bool) (e : Ending) (w' : World) : Prop :=
  e = .returned (.tuple #[]) ∧ (∃ N n dp, DV w' a V N n dp neg ∧ N % 10 ≠ 0 ∧ (n : Int) ≤ B ∧ D - 20 ≤ dp ∧ dp ≤ D + 20) ∧ w.grownBy w' (some a)
/-- where the digits stand when e of them are shifted -/
def ShRel (w : World) (a : Nat) (f : Nat → Nat) (N n k d : Nat) (dp : Int) (neg : Bool) (e : Nat) (wr : World) : Prop :=
  ∃ f', DM wr a f' (n : Nat) dp neg ∧ (∀ j, j + e < n → f' j = f j) ∧ (∀ j, n + d ≤ j + e → j < n + d → f' j = 48 + N * 2 ^ k / 10 ^ (n + d - 1 - j) % 10) ∧ w.grownBy wr (some a)
theorem ShRel.drewN {w wr : World} {a N n k d e : Nat} {f : Nat → Nat} {dp : Int} {neg : Bool} (h : ShRel w a f N n k d dp neg e wr) (q : Nat) : ShRel w a f N n k d dp neg e (wr.drewN q) := by
  obtain ⟨f', h1, h2, h3, h4⟩ := h
  exact ⟨f', h1.drewN q, h2, h3, grown_drewN h4 q⟩
theorem ShRel.put {w wr : World} {a N n k d e b : Nat} {f : Nat → Nat} {dp : Int} {neg : Bool} (h : ShRel w a f N n k d dp neg e wr) (he : e < n + d) (hn : n + d ≤ 800) (hb : b = N * 2 ^ k / 10 ^ e % 10) :
    ShRel w a f N n k d dp neg (e + 1) (wr.setCell ⟨a, n + d - 1 - e, none⟩ (.int .u8 ((48 + b : Nat) : Int))) := by
  obtain ⟨f', h1, h2, h3, h4⟩ := h
  refine ⟨_, h1.sdig (n + d - 1 - e) (48 + b) (by omega), fun j hj => ?_, fun j hj hj2 => ?_, grown_trans h4 (set_grown _ _ _ _)⟩
  · rw [upd_ne _ _ _ _ (by omega)]
    exact h2 j (by omega)
  · by_cases hje : j = n + d - 1 - e
    · rw [hje, upd_at, hb, show n + d - 1 - (n + d - 1 - e) = e by omega]
    · rw [upd_ne _ _ _ _ hje]
      exact h3 j (by omega) hj2
theorem wl_set_u8 {ops : Array Oper} {rest : List Oper} {o : Oper} {a : Act} {w : World} {Q : Exit → Act → World → Prop} (hgd : o.guard = none) (x y : Operand) (ho : o.op = .store 5 x y) (b j : Nat) (v : Int) (old : Value) (hx : a.eval x = .pointer (some ⟨b, j, none⟩)) (hy : a.eval y = .int .u8 v)
    (hc : w.cell? ⟨b, j, none⟩ = some old) (hf : w.frozen? ⟨b, j, none⟩ = false)
    (h : wpList Tryz.prog ops Q rest (a.put o.dst undef) (w.setCell ⟨b, j, none⟩ (.int .u8 v))) : wpList Tryz.prog ops Q (o :: rest) a w := by
  have hr : (Instr.storeAt 5 (.pointer (some ⟨b, j, none⟩)) (.int .u8 v)).run Tryz.prog w = .ok () (w.setCell ⟨b, j, none⟩ (.int .u8 v)) := by
    simp [Instr.storeAt, Instr.sureAddr, storeVar, run_store_int, stored, hc, hf, go_sem]
  refine wpList_plain hgd fun K hK => ?_
  unfold Oper.wp execOp
  simp only [ho, hx, hy, hr, Sem.run_bind, Sem.run_pure, Result.andThen_ok]
  exact hK _ _ h
theorem dsl_run (b n : Nat) (hn : n ≤ 800) (w : World) : (Instr.sliceAt 229 (.pointer (some ⟨b, 0, none⟩)) (some (.int .i64 0)) (some (.int .i64 (n : Nat))) none).run Tryz.prog w = .ok (.slice (some ⟨b, 0, none⟩) n 800) w := by
  have h0 : (0 : Int) ≤ (n : Int) := by omega
  have h1 : (n : Int) ≤ 800 := by omega
  simp [Instr.sliceAt, go_sem, h0, h1]
set_option maxRecDepth 100000 in
set_option maxHeartbeats 2000000 in
theorem shl_any (B a : Nat) (N n k : Nat) (V : Nat) (dp : Int) (neg : Bool) (w : World) (hL : LC B w) (_hB : B ≤ a) (hk1 : 1 ≤ k) (hk : k ≤ 60) (hn : n + 20 ≤ 800) (hdp : -3000 ≤ dp) (hdp2 : dp ≤ 3000) (h : DV w a V N n dp neg) :
    Calls Tryz.prog 229 #[.pointer (some ⟨a, 0, none⟩), .int .u64 (k : Nat)] w (ShPost w a (V * 2 ^ k) (n + 19) dp neg) := by
  obtain ⟨f, hD, hdg, g, hnd, hv⟩ := h
  obtain ⟨l1, bb, bo, cap, l2, l3, l4⟩ := hL
  obtain ⟨c, s, m1, m2, m3, m4, m5, m6⟩ := l4 k hk1 hk
  have c1 := hD.cnd
  have c2 := hD.cdp
  obtain ⟨b, hb⟩ : ∃ b, lessB N n (5 ^ k) c = b := ⟨_, rfl⟩
  obtain ⟨D0, hD0⟩ : ∃ D0, k + 1 - c = D0 := ⟨_, rfl⟩
  rw [hD0] at m1
  obtain ⟨d, hd⟩ : ∃ d, d = if b then D0 - 1 else D0 := ⟨_, rfl⟩
  have hD1 : 1 ≤ D0 := by omega
  have hdb : d ≤ 19 ∧ 10 ^ (n + d - 1) ≤ N * 2 ^ k ∧ N * 2 ^ k < 10 ^ (n + d) := by
    have hp : 0 < 10 ^ c := Nat.pow_pos (by decide)
    have key : 10 ^ (n + d - 1) ≤ N * 2 ^ k ∧ N * 2 ^ k < 10 ^ (n + d) := by
      cases b with
      | true =>
        have hdd : d = k - c := by rw [hd, if_pos rfl]; omega
        have h10 : 10 ^ n ≤ 10 * N := by
          have h1 := g.lo
          have h2 : 10 ^ n = 10 * 10 ^ (n - 1) := by
            rw [show n = n - 1 + 1 by have := g.n1; omega, Nat.pow_succ, Nat.mul_comm]
            rfl
          omega
        obtain ⟨e1, e2⟩ := delta_yes (k := k) h10 m5 hb
        rw [show n + k = n + d + c by omega, Nat.pow_add 10 (n + d) c] at e1 e2
        have e3 := Nat.le_of_mul_le_mul_right e2 hp
        refine ⟨?_, Nat.lt_of_mul_lt_mul_right e1⟩
        have h2 : 10 ^ (n + d) = 10 * 10 ^ (n + d - 1) := by
          rw [show n + d = n + d - 1 + 1 by have := g.n1; omega, Nat.pow_succ, Nat.mul_comm]
          rfl
        omega
      | false =>
        have hdd : d = k + 1 - c := by rw [hd, if_neg (by decide)]; exact hD0.symm
        obtain ⟨e1, e2⟩ := delta_no g.hi m4 (by omega) hb
        rw [← hdd] at e2
        rw [show n + k = n + d - 1 + c by have := g.n1; omega, Nat.pow_add 10 (n + d - 1) c] at e1
        exact ⟨Nat.le_of_mul_le_mul_right e1 hp, e2⟩
    refine ⟨?_, key⟩
    have h1 : N * 2 ^ k < 10 ^ (n + 19) := by
      rw [Nat.pow_add 10 n 19]
      have h2 : (2 : Nat) ^ k ≤ 2 ^ 60 := Nat.pow_le_pow_right (by decide) hk
      have h3 : N * 2 ^ k < 10 ^ n * 2 ^ k := Nat.mul_lt_mul_of_pos_right g.hi (two_pos k)
      have h4 : 10 ^ n * 2 ^ k ≤ 10 ^ n * 10 ^ 19 := Nat.mul_le_mul_left _ (Nat.le_trans h2 (by decide))
      omega
    have h5 := pow_lt_inv (Nat.lt_of_le_of_lt key.1 h1)
    omega
  have hless := fun q => less_any a f N n (5 ^ k) c dp neg s (w.drewN q) g.hi (by omega) hdg (hD.drewN q) m5 (by omega) (five_odd k) m3
  rw [hb] at hless
  have HL := Lib.hid (show ∀ q, Calls Tryz.prog 242 #[.slice (some ⟨a, 0, none⟩) n 800, .string s] (w.drewN q) fun e w' => e = .returned (.bool b) ∧ ∃ m, w' = (w.drewN q).drewN m from hless)
  have HS := Lib.hid (show ShRel w a f N n k d dp neg 0 w from ⟨f, hD, fun _ _ => rfl, fun j h1 h2 => by omega, ⟨rfl, rfl, rfl, Nat.le_refl _, fun _ _ _ => rfl⟩⟩)
  have HD := Lib.hid hd
  have HG := Lib.hid (And.intro g (And.intro hdg (And.intro hnd (And.intro hv hdb))))
  have k60 : (k : Int) ≤ 60 := by omega
  have k0 : (0 : Int) ≤ (k : Int) := by omega
  have n0 : (0 : Int) ≤ (n : Int) := by omega
  have n1 : (n : Int) ≤ 780 := by omega
  have k61 : k < 61 := by omega
  have nn : n ≤ 800 := by omega
  have hd19 : d ≤ 19 := hdb.1
  have hD20 : D0 ≤ 20 := by rw [hd] at hd19; split at hd19 <;> omega
  clear hD hdg g hnd hv l1 l2 l4 m3 m4 m5 m6 hb hd hdb hless _hB hD0
  go_enter Tryz.func229, Tryz.ntmps229
  go_wp2_with fail
  have hsl := fun W => dsl_run a n nn W
  go_quiet (with_reducible exact Calls.quiet_of (HL.out _))
  clear hsl m1 m2
  go_upto_if 30 with (fail)
  go_cut [4] from 31 to 32 (fun s4 wx => s4 = .int .i64 (d : Nat) ∧ ∃ q, wx = w.drewN q)
  case first =>
    have q1 : (1 : Int) ≤ (D0 : Int) := by omega
    have q2 : (D0 : Int) ≤ 20 := by omega
    cases b with
    | true =>
      have hdd : (D0 : Int) - 1 = (d : Int) := by have := HD.out; simp at this; omega
      have HDD := Lib.hid hdd
      clear hdd
      go_wp2_with fail
      go_meet
      exact ⟨by rw [HDD.out], _, rfl⟩
    | false =>
      have hdd : D0 = d := by have := HD.out; simp at this; omega
      have HDD := Lib.hid hdd
      clear hdd
      go_wp2_with fail
      go_meet
      exact ⟨by rw [HDD.out], _, rfl⟩
  case rest =>
    obtain ⟨rfl, q0, rfl⟩ := hcut
    have d0 : (0 : Int) ≤ (d : Int) := by omega
    have d19 : (d : Int) ≤ 19 := by omega
    go_wp2_with fail
    go_loopw [5, 6, 7] (fun r wi m wr => ∃ e i : Nat, i + e = n ∧ r = .int .i64 ((i : Int) - 1) ∧ wi = .int .i64 ((i + d : Nat) : Int) ∧ m = .int .u64 ((caL N k e : Nat) : Int) ∧ ShRel w a f N n k d dp neg e wr) (fun r _ _ _ => (intOf r + 1).toNat)
    case atStart => exact ⟨0, n, rfl, rfl, by go_num, by rw [ca_zero]; rfl, HS.out.drewN q0⟩
    case round =>
      obtain ⟨e, i, hie, rfl, rfl, rfl, hS⟩ := hrel
      cases i with
      | zero =>
        have hen : e = n := by omega
        rw [hen] at hS ⊢
        have e0 : ((0 : Nat) : Int) - 1 = -1 := rfl
        rw [e0, Nat.zero_add]
        have HS1 := Lib.hid hS
        obtain ⟨m, hm⟩ : ∃ m, caL N k n = m := ⟨_, rfl⟩
        rw [hm]
        have HM := Lib.hid hm
        clear hen hS e0 hie hm
        go_wp2_with fail
        obtain ⟨wa, hwa⟩ : ∃ wa, wa = wr := ⟨_, rfl⟩
        rw [← hwa] at HS1 ⊢
        clear hwa
        go_loopw [6, 7] (fun wi m wr => ∃ e j : Nat, j + e = n + d ∧ n ≤ e ∧ wi = .int .i64 ((j : Nat) : Int) ∧ m = .int .u64 ((caL N k e : Nat) : Int) ∧ ShRel w a f N n k d dp neg e wr) (fun wi _ _ => (intOf wi).toNat)
        case atStart => exact ⟨n, d, by omega, Nat.le_refl _, rfl, by rw [HM.out], HS1.out⟩
        case round =>
          obtain ⟨e, j, hje, hne, rfl, rfl, hS⟩ := hrel
          have hca := ca_all HG.out.1.hi k e hne
          have hca2 := ca_all HG.out.1.hi k (e + 1) (by omega)
          obtain ⟨m2, hm2⟩ : ∃ m2, caL N k e = m2 := ⟨_, rfl⟩
          rw [hm2] at hca ⊢
          have hdb := HG.out.2.2.2.2
          obtain ⟨M, hM⟩ : ∃ M, N * 2 ^ k = M := ⟨_, rfl⟩
          rw [hM] at hdb hca hca2
          have hM64 : m2 < 18446744073709551616 := by
            have h1 := ca_bd N k e
            rw [hm2] at h1
            have h2 : (2 : Nat) ^ k ≤ 2 ^ 60 := Nat.pow_le_pow_right (by decide) hk
            exact Nat.lt_of_lt_of_le h1 (Nat.le_trans h2 (by decide))
          have mm0 : (0 : Int) ≤ (m2 : Int) := by omega
          have mm1 : (m2 : Int) < 18446744073709551616 := by omega
          cases j with
          | zero =>
            have hz : m2 = 0 := by
              rw [hca]
              refine Nat.div_eq_of_lt ?_
              rw [show e = n + d by omega]
              exact hdb.2.2
            have ez : decide (0 < m2) = false := decide_eq_false (by omega)
            have ez2 : ¬ 0 < m2 := by omega
            have hen : e = n + d := by omega
            obtain ⟨f', hDM, _, hhigh, hgr⟩ := id hS
            have hdg2 : Dg f' (N * 2 ^ k) (n + d) := fun j hj => hhigh j (by omega) hj
            obtain ⟨n2, hn2⟩ : ∃ n2, n + d = n2 := ⟨_, rfl⟩
            have g9 := HG.out
            have hn2l : n2 ≤ 800 := by omega
            have hMM : 10 ^ (n2 - 1) ≤ N * 2 ^ k ∧ N * 2 ^ k < 10 ^ n2 := by rw [← hn2]; exact g9.2.2.2.2.2
            rw [hn2] at hdg2
            have gd := tr_lo n2 (N * 2 ^ k) (by have := g9.1.n1; omega) hMM.1 hMM.2
            have eN : (n : Int) + (d : Int) = ((n2 : Nat) : Int) := by omega
            have hd0 := hDM.snd ((n : Int) + d)
            have hd1 := hd0.sdp (dp + d)
            have hd1' : DM ((wr.setCell ⟨a, 800, none⟩ (.int .i64 ((n : Int) + d))).setCell ⟨a, 801, none⟩ (.int .i64 (dp + d))) a f' ((n2 : Nat) : Int) (dp + d) neg := by rw [← eN]; exact hd1
            have hg1 := grown_trans (grown_trans hgr (set_grown wr a 800 (.int .i64 ((n : Int) + d)))) (set_grown _ a 801 (.int .i64 (dp + d)))
            have CT := trim_any a f' (N * 2 ^ k) n2 (dp + d) neg _ (Nat.lt_of_lt_of_le (Nat.pow_pos (by decide)) hMM.1) hMM.2 hn2l hdg2 hd1'
            have CT2 := CT.mono (R' := ShPost w a (V * 2 ^ k) (n + 19) dp neg) fun e w' h => by
              obtain ⟨t1, t2, t3⟩ := h
              refine ⟨t1, ⟨_, _, _, ⟨f', t2, fun j hj => ?_, gd.toWGood, ?_, ?_⟩, gd.md, ?_⟩, grown_trans hg1 t3⟩
              · have := tr_le n2 (N * 2 ^ k)
                rw [hdg2 j (by omega), tr_dig n2 _ j hj]
              · have := tr_le n2 (N * 2 ^ k)
                have := g9.2.2.1
                omega
              · rw [val_tr _ _ _ (by have := g9.2.2.1; omega), ← g9.2.2.2.1]
                unfold val
                rw [show (dp + (d : Int) - (n2 : Int) + 2000).toNat = (dp - (n : Int) + 2000).toNat by omega]
                generalize 10 ^ (dp - (n : Int) + 2000).toNat = y
                generalize 2 ^ k = y2
                ac_rfl
              · have := tr_le n2 (N * 2 ^ k)
                exact ⟨by omega, by omega, by omega⟩
            have HC1 := Lib.hid (And.intro hDM.cnd (hDM.fr 800))
            have HC2 := Lib.hid (And.intro hd0.cdp (hd0.fr 801))
            have a1 := hDM.cnd
            have a2 := hd0.cnd
            have a3 := hd0.cdp
            have n20 : (n : Int) + (d : Int) ≤ 799 := by omega
            have n21 : (0 : Int) ≤ (n : Int) + (d : Int) := by omega
            have n22 : decide (800 ≤ (n : Int) + (d : Int)) = false := decide_eq_false (by omega)
            have HCT := Lib.hid CT2
            clear hz hca hca2 hm2 hM hdb hS hje hen hDM hhigh hgr hdg2 hn2 g9 hn2l hMM gd hd1 hd1' hd0 eN hg1 CT CT2
            go_upto_region 28 with ((with_reducible refine wl_pre ?_); (refine wl_set_i64 rfl (.tmp 118) (.tmp 116) rfl a 800 ((n : Int) + d) _ rfl rfl HC1.out.1 HC1.out.2 ?_); (simp only [Act.put]))
            go_upto_region 31 with ((with_reducible refine wl_pre ?_); (refine wl_set_i64 rfl (.tmp 134) (.tmp 132) rfl a 801 (dp + d) _ rfl rfl HC2.out.1 HC2.out.2 ?_); (simp only [Act.put]))
            go_wp2_with (go_at_call 228; (with_reducible refine HCT.out.mono ?_); rintro e w' ⟨rfl, hz2⟩; have HZ2 := Lib.hid hz2; clear hz2)
            go_end0
            exact ⟨rfl, HZ2.out⟩
          | succ j =>
            have hpos : 0 < m2 := by
              rw [hca]
              refine Nat.div_pos ?_ (Nat.pow_pos (by decide))
              exact Nat.le_trans (Nat.pow_le_pow_right (by decide) (by omega)) hdb.2.1
            have ez : decide (0 < m2) = true := decide_eq_true hpos
            obtain ⟨q, hq⟩ : ∃ q, m2 / 10 = q := ⟨_, rfl⟩
            obtain ⟨r, hr⟩ : ∃ r, m2 % 10 = r := ⟨_, rfl⟩
            have F3 : (m2 : Int) / 10 = (q : Int) := by omega
            have F4 : (m2 : Int) - 10 * (q : Int) = (r : Int) := by omega
            have qq0 : (0 : Int) ≤ (q : Int) := by omega
            have qq1 : (q : Int) ≤ 1844674407370955161 := by omega
            have r0 : (0 : Int) ≤ (r : Int) := by omega
            have r1 : (r : Int) ≤ 9 := by omega
            have HNX := Lib.hid (hS.put (b := r) (by omega) (by omega) (by rw [hM, ← hca, hr]))
            have hqn : caL N k (e + 1) = q := by
              rw [hca2, Nat.pow_succ, ← Nat.div_div_eq_div_mul, ← hca, hq]
            rw [show n + d - 1 - e = j by omega] at HNX
            obtain ⟨f', hDM, hlow, hhigh, hgr⟩ := id hS
            have HC := Lib.hid (And.intro (hDM.dig j (by omega)) (hDM.fr j))
            have j0 : (0 : Int) ≤ (j : Int) := by omega
            have j1 : (j : Int) < 800 := by omega
            have ej : ((j + 1 : Nat) : Int) - 1 = (j : Int) := by omega
            have HQ := Lib.hid (And.intro hqn (And.intro hje hne))
            obtain ⟨W, hW⟩ : ∃ W, j + 1 = W := ⟨_, rfl⟩
            rw [hW] at ej ⊢
            have w1 : (1 : Int) ≤ (W : Int) := by omega
            have w2 : (W : Int) ≤ 800 := by omega
            have HWW := Lib.hid hW
            clear hca hca2 hm2 hM hdb hS hje hne hq hr hqn hDM hlow hhigh hgr hW
            go_upto_region 23 with (fail)
            go_wp2_with ((with_reducible refine wl_pre ?_); (refine wl_set_u8 rfl (.tmp 104) (.tmp 101) rfl a j ((r : Int) + 48) _ rfl rfl HC.out.1 HC.out.2 ?_); (simp only [Act.put]))
            exact ⟨⟨e + 1, j, by have := HQ.out.2; omega, by have := HQ.out.2; omega, rfl, by rw [HQ.out.1], by rw [show ((r : Int) + 48) = ((48 + r : Nat) : Int) by omega]; exact HNX.out⟩, by have := HWW.out; simp only [intOf]; omega⟩
      | succ i =>
        obtain ⟨x, hx⟩ : ∃ x, N / 10 ^ e % 10 = x := ⟨_, rfl⟩
        have hx10 : x < 10 := by rw [← hx]; exact Nat.mod_lt _ (by decide)
        obtain ⟨s1, s2⟩ := step_L N k e
        rw [hx] at s1 s2
        obtain ⟨m, hm⟩ : ∃ m, caL N k e = m := ⟨_, rfl⟩
        have hm2 := ca_bd N k e
        rw [hm] at s1 s2 hm2 ⊢
        obtain ⟨P, hP⟩ : ∃ P : Nat, P = 2 ^ k := ⟨_, rfl⟩
        have hP60 : P ≤ 1152921504606846976 := by
          rw [hP]
          exact Nat.le_trans (Nat.pow_le_pow_right (by decide) hk) (by decide)
        rw [← hP] at s1 s2 hm2
        obtain ⟨D, hDD⟩ : ∃ D, x * P = D := ⟨_, rfl⟩
        have hD10 : D ≤ 9 * P := by rw [← hDD]; exact Nat.mul_le_mul_right _ (by omega)
        rw [hDD] at s1 s2
        obtain ⟨q, hq⟩ : ∃ q, (m + D) / 10 = q := ⟨_, rfl⟩
        obtain ⟨r, hr⟩ : ∃ r, (m + D) % 10 = r := ⟨_, rfl⟩
        rw [hq] at s2
        rw [hr] at s1
        obtain ⟨f', hDM, hlow, hhigh, hgr⟩ := id hS
        have c3 := hDM.dig i (by omega)
        have hfi : f' i = 48 + x := by
          rw [hlow i (by omega), HG.out.2.1 i (by omega), show n - 1 - i = e by omega, hx]
        rw [hfi] at c3
        have HNX := Lib.hid (hS.put (b := r) (by omega) (by omega) (by rw [s1, hP]))
        have F1 : IntKind.u64.wrap ((x : Int) * 2 ^ k) = (D : Int) := by
          have e2 : ((2 : Int) ^ k) = ((P : Nat) : Int) := by rw [hP]; norm_cast
          rw [e2, show (x : Int) * (P : Int) = (D : Int) by rw [← hDD]; norm_cast, IntKind.wrap_u64]
          omega
        obtain ⟨t, ht⟩ : ∃ t, m + D = t := ⟨_, rfl⟩
        have F2 : (m : Int) + (D : Int) = (t : Int) := by omega
        rw [ht] at hq hr
        have F3 : (t : Int) / 10 = (q : Int) := by omega
        have F4 : (t : Int) - 10 * (q : Int) = (r : Int) := by omega
        have x0 : (0 : Int) ≤ (x : Int) := by omega
        have x1 : (x : Int) ≤ 9 := by omega
        have t0 : (0 : Int) ≤ (t : Int) := by omega
        have t1 : (t : Int) < 18446744073709551616 := by omega
        have qq0 : (0 : Int) ≤ (q : Int) := by omega
        have qq1 : (q : Int) ≤ 1844674407370955161 := by omega
        have r0 : (0 : Int) ≤ (r : Int) := by omega
        have r1 : (r : Int) ≤ 9 := by omega
        have i0 : (0 : Int) ≤ (i : Int) := by omega
        have i1 : (i : Int) < 800 := by omega
        have c3' : wr.cell? ⟨a, i, none⟩ = some (.int .u8 ((x : Int) + 48)) := by rw [c3, show ((48 + x : Nat) : Int) = (x : Int) + 48 by omega]
        have ec : ((i + 1 : Nat) : Int) - 1 = (i : Int) := by omega
        have ew : ((i + 1 + d : Nat) : Int) - 1 = ((i + d : Nat) : Int) := by omega
        have ei : n + d - 1 - e = i + d := by omega
        rw [ei] at HNX
        have HC := Lib.hid (And.intro (hDM.dig (i + d) (by omega)) (hDM.fr (i + d)))
        rw [ec]
        obtain ⟨W, hW⟩ : ∃ W, i + 1 + d = W := ⟨_, rfl⟩
        obtain ⟨W', hW'⟩ : ∃ W', i + d = W' := ⟨_, rfl⟩
        rw [hW, hW'] at ew
        rw [hW]
        rw [hW'] at HNX HC
        have w1 : (1 : Int) ≤ (W : Int) := by omega
        have w2 : (W : Int) ≤ 800 := by omega
        have w3 : (W' : Int) < 800 := by omega
        have w4 : (0 : Int) ≤ (W' : Int) := by omega
        have HQ := Lib.hid (And.intro s2 hie)
        have HWW := Lib.hid (And.intro hW hW')
        clear hx hx10 s1 s2 hm hm2 hP hP60 hDD hD10 hq hr hDM hlow hhigh hgr c3 hfi ht ec ei hW hW' hS hie
        go_upto_region 14 with (fail)
        go_wp2_with ((with_reducible refine wl_pre ?_); (refine wl_set_u8 rfl (.tmp 78) (.tmp 75) rfl a W' ((r : Int) + 48) _ rfl rfl HC.out.1 HC.out.2 ?_); (simp only [Act.put]))
        exact ⟨⟨e + 1, i, by have := HQ.out.2; omega, rfl, by rw [HWW.out.2], by rw [HQ.out.1], by rw [show ((r : Int) + 48) = ((48 + r : Nat) : Int) by omega]; exact HNX.out⟩, by simp only [intOf]; omega⟩
end Go.Proofs.YtcbgkbidgpemfaaGreatDoor.dcw

/- Multiprecision decimals: what the shift to the right writes, whole: plain arithmetic. No conditions but those stated. -/
namespace Go.Proofs.YtcbgkbidgpemfaaGreatDoor.dmx

theorem qu_pow (N n k r : Nat) : ∀ d, quR N n k (r + d) / 10 ^ d = quR N n k r
  | 0 => by simp
  | d + 1 => by
    rw [Nat.pow_succ, Nat.mul_comm, ← Nat.div_div_eq_div_mul, ← Nat.add_assoc, qu_div]
    exact qu_pow N n k r d
theorem pre_10 {N n k r : Nat} (h0 : 1 ≤ r) (h2 : preN N n (r - 1) < 2 ^ k) : preN N n r < 10 * 2 ^ k := by
  obtain ⟨q, rfl⟩ : ∃ q, r = q + 1 := ⟨r - 1, by omega⟩
  have h1 := pre_succ N n q
  have hd := dgN_lt N n q
  rw [Nat.add_sub_cancel] at h2
  omega
theorem re_first {N n k r : Nat} (h : preN N n r < 10 * 2 ^ k) : reR N n k r = preN N n r ∧ quR N n k r = 0 := ⟨Nat.mod_eq_of_lt h, Nat.div_eq_of_lt h⟩
theorem sr_fin {N n k r1 T : Nat} (h0 : 1 ≤ r1) (h1 : 2 ^ k ≤ preN N n r1) (h2 : preN N n (r1 - 1) < 2 ^ k) (hT : reR N n k T = 0) (hr : r1 ≤ T) :
    r1 < T ∧ 10 ^ (T - r1 - 1) ≤ quR N n k T ∧ quR N n k T < 10 ^ (T - r1) := by
  have h3 := pre_10 h0 h2
  obtain ⟨e1, e2⟩ := re_first h3
  have hp := two_pos k
  have hlt : r1 < T := by
    refine Nat.lt_of_le_of_ne hr fun e => ?_
    rw [← e, e1] at hT
    omega
  obtain ⟨d, rfl⟩ : ∃ d, T = r1 + 1 + d := ⟨T - (r1 + 1), by omega⟩
  have q1 := qu_pow N n k (r1 + 1) d
  obtain ⟨s1, s2⟩ := step_R N n k r1
  have s3 := qu_div N n k r1
  rw [e2] at s3
  rw [e1] at s1
  have hq : 1 ≤ preN N n r1 / 2 ^ k := Nat.div_pos h1 hp
  have hq1 : 1 ≤ quR N n k (r1 + 1) ∧ quR N n k (r1 + 1) < 10 := by omega
  refine ⟨hlt, ?_, ?_⟩
  · rw [show r1 + 1 + d - r1 - 1 = d by omega]
    refine Nat.le_of_not_lt fun h => ?_
    rw [Nat.div_eq_of_lt h] at q1
    omega
  · rw [show r1 + 1 + d - r1 = d + 1 by omega, Nat.pow_succ, Nat.mul_comm]
    refine Nat.lt_of_not_le fun h => ?_
    have h5 : 10 ≤ quR N n k (r1 + 1 + d) / 10 ^ d := (Nat.le_div_iff_mul_le (Nat.pow_pos (by decide))).2 h
    omega
theorem sr_dig {N n k r1 T j : Nat} (h : r1 + j < T) : quR N n k (r1 + j + 1) % 10 = quR N n k T / 10 ^ (T - r1 - 1 - j) % 10 := by
  obtain ⟨d, rfl⟩ : ∃ d, T = r1 + j + 1 + d := ⟨T - (r1 + j + 1), by omega⟩
  rw [show r1 + j + 1 + d - r1 - 1 - j = d by omega, qu_pow]
theorem pre_lo {N n : Nat} (h : 10 ^ (n - 1) ≤ N) (hn : 1 ≤ n) (r : Nat) : 10 ^ r ≤ preN N n (r + 1) := by
  unfold preN
  rw [Nat.le_div_iff_mul_le (Nat.pow_pos (by decide)), ← Nat.pow_add, show r + n = n - 1 + (r + 1) by omega, Nat.pow_add]
  exact Nat.mul_le_mul_right _ h
theorem pre_fewk {N n k q : Nat} (h : 10 ^ (n - 1) ≤ N) (hn : 1 ≤ n) (hq : preN N n q < 2 ^ k) : q ≤ k + 1 := by
  refine Nat.le_of_not_lt fun hl => ?_
  obtain ⟨r, rfl⟩ : ∃ r, q = r + 1 := ⟨q - 1, by omega⟩
  have h1 := pre_lo h hn r
  have h2 : (10 : Nat) ^ k ≤ 10 ^ r := Nat.pow_le_pow_right (by decide) (by omega)
  have h3 : (2 : Nat) ^ k ≤ 10 ^ k := Nat.pow_le_pow_left (by decide) k
  omega
theorem pre_few {N n k q : Nat} (h : 10 ^ (n - 1) ≤ N) (hn : 1 ≤ n) (hk : k ≤ 60) (hq : preN N n q < 2 ^ k) : q ≤ 19 := by
  refine Nat.le_of_not_lt fun hl => ?_
  obtain ⟨r, rfl⟩ : ∃ r, q = r + 1 := ⟨q - 1, by omega⟩
  have h1 := pre_lo h hn r
  have h2 : (10 : Nat) ^ 19 ≤ 10 ^ r := Nat.pow_le_pow_right (by decide) (by omega)
  have h3 : (2 : Nat) ^ k ≤ 2 ^ 60 := Nat.pow_le_pow_right (by decide) hk
  have h4 : (2 : Nat) ^ 60 < 10 ^ 19 := by decide
  omega
end Go.Proofs.YtcbgkbidgpemfaaGreatDoor.dmx
