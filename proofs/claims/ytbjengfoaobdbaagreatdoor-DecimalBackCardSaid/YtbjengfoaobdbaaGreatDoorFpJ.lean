/- The digits of a positive float lie in its interval. Plain. -/
import Derived.Test.YtbjengfoaobdbaaGreatDoorMgO
namespace Go.Proofs.YtbjengfoaobdbaaGreatDoor.fpm
open Go Go.RowKit Go.Proofs.YtbjengfoaobdbaaGreatDoor.prnw

/-- scaled by the power's fraction: as many quarters of the last place -/
theorem ba_u {M S m p2 : Nat} {E e : Int} {bd : Bool} (b : Base M S m p2 E e bd) (hM1 : 1 ≤ M) (i s W : Nat) (h1 : 56 ≤ i) (h2 : i < 673) (hs : 5 ≤ s) (hs2 : s < 59) (hW : 4 * M - 2 ≤ W) (hW2 : W ≤ 4 * M + 2) :
    ∃ u : Nat, usI (W * p2) (hiT i) (loT i) (s : Int) = (u : Int) ∧ u = unr (W * p2 * nT i) (dT i * 2 ^ (128 + s)) ∧ 7 ≤ u ∧ u < 9223372036854775808 := by
  obtain ⟨r, h4, h5⟩ := b.p512
  have a1 : (4 * M - 2) * p2 ≤ W * p2 := Nat.mul_le_mul_right _ hW
  have a2 : W * p2 ≤ (4 * M + 2) * p2 := Nat.mul_le_mul_right _ hW2
  have a3 : (4 * M - 2) * p2 + 2 * p2 = m := by rw [b.hm4, ← Nat.add_mul]; congr 1; omega
  have a4 : (4 * M + 2) * p2 = m + 2 * p2 := by rw [b.hm4, ← Nat.add_mul]
  have a5 : 4 * p2 ≤ m := by rw [b.hm4]; exact Nat.mul_le_mul_right _ (by omega)
  have a6 := b.hi
  have a7 := b.lo
  refine us_at i s (W * p2) h1 h2 hs hs2 (by omega) (by omega) ?_
  rw [h4, Nat.mul_left_comm]
  exact Nat.mul_mod_right _ _
theorem ba_wd {M S m p2 : Nat} {E e : Int} {bd : Bool} (b : Base M S m p2 E e bd) (hM1 : 1 ≤ M) (P : Int) (hPv : P = if bd then -((E * 631305 - 261663) / 2097152) else -(E * 78913 / 262144)) :
    ∃ c, c + loQ M E = 4 * M + 2 ∧ (c = 3 ∨ c = 4) ∧ 1 * 2 ^ upB * 10 ^ (-P).toNat ≤ c * 2 ^ (E + 1074).toNat * 10 ^ P.toNat ∧
      (M % 2 = 1 → c = 4 ∧ (1 * 2 ^ upB * 10 ^ (-P).toNat < 4 * 2 ^ (E + 1074).toNat * 10 ^ P.toNat ∨ E = 0 ∧ P = 0)) := by
  have hW := ba_W b
  obtain ⟨hB, hC⟩ := pow_at E b.hE.1 b.hE.2
  have hS := powS_at E b.hE.1 b.hE.2
  cases hb : bd
  · rw [hb] at hW hPv
    simp only [Bool.false_eq_true, if_false] at hW hPv
    have e1 : -P = E * 78913 / 262144 := by omega
    unfold powB at hB
    rw [decide_eq_true_eq, ← e1, show -(-P) = P by omega] at hB
    refine ⟨4, by omega, Or.inr rfl, width P E 4 4 b.hE.1 (Nat.mul_le_mul_left 4 hB) rfl, fun _ => ⟨rfl, ?_⟩⟩
    unfold powS at hS
    rw [Bool.or_eq_true, decide_eq_true_eq, decide_eq_true_eq, ← e1, show -(-P) = P by omega] at hS
    rcases hS with h | h
    · right
      clear hB hC
      rw [h] at e1
      exact ⟨h, by omega⟩
    · left
      exact width_lt P E b.hE.1 h
  · rw [hb] at hW hPv
    simp only [if_true] at hW hPv
    have e1 : -P = (E * 631305 - 261663) / 2097152 := by omega
    unfold powC at hC
    rw [decide_eq_true_eq, ← e1, show -(-P) = P by omega] at hC
    refine ⟨3, by omega, Or.inl rfl, width P E 3 4 b.hE.1 hC rfl, fun ho => ?_⟩
    have hbd := b.hbd
    rw [hb] at hbd
    have hb2 := hbd.symm
    rw [Bool.and_eq_true, decide_eq_true_eq, decide_eq_true_eq] at hb2
    rw [hb2.1] at ho
    exact absurd ho (by decide)
/-- the upper bound of an interval's width: less than ten units -/
def powW (E : Int) : Bool := decide (10 ^ (-(E * 78913 / 262144)).toNat * 2 ^ E.toNat < 10 * (10 ^ (E * 78913 / 262144).toNat * 2 ^ (-E).toNat)) && decide (3 * (10 ^ (-((E * 631305 - 261663) / 2097152)).toNat * 2 ^ E.toNat) < 40 * (10 ^ ((E * 631305 - 261663) / 2097152).toNat * 2 ^ (-E).toNat))
theorem powWAll : (List.range 2046).all (fun j => powW ((j : Int) - 1074)) = true := by kernel_rfl
theorem powW_at (E : Int) (h0 : -1074 ≤ E) (h1 : E ≤ 971) : powW E = true := by
  have := List.all_eq_true.1 powWAll (E + 1074).toNat (List.mem_range.2 (by omega))
  rw [show (((E + 1074).toNat : Nat) : Int) - 1074 = E by omega] at this
  exact this
theorem width_up (P E : Int) (W : Nat) (hE : -1074 ≤ E) (h : W * (10 ^ P.toNat * 2 ^ E.toNat) < 40 * (10 ^ (-P).toNat * 2 ^ (-E).toNat)) : W * 2 ^ (E + 1074).toNat * 10 ^ P.toNat < 10 * 2 ^ upB * 10 ^ (-P).toNat := by
  have hB := upB_eq
  obtain ⟨t, ht⟩ : ∃ t, t = 1074 - (-E).toNat := ⟨_, rfl⟩
  have e1 : 2 ^ upB = 4 * (2 ^ (-E).toNat * 2 ^ t) := by
    rw [show (4 : Nat) = 2 ^ 2 by decide, ← Nat.pow_add, ← Nat.pow_add]
    exact congrArg (fun z : Nat => 2 ^ z) (by omega)
  have e2 : 2 ^ (E + 1074).toNat = 2 ^ E.toNat * 2 ^ t := by
    rw [← Nat.pow_add]
    exact congrArg (fun z : Nat => 2 ^ z) (by omega)
  have h5 : 0 < 2 ^ t := Nat.two_pow_pos t
  rw [e1, e2]
  generalize 10 ^ (-P).toNat = x1 at *
  generalize 10 ^ P.toNat = x2 at *
  generalize 2 ^ (-E).toNat = x3 at *
  generalize 2 ^ E.toNat = x4 at *
  generalize 2 ^ t = x5 at *
  have := (Nat.mul_lt_mul_right h5).2 h
  have a1 : 10 * (4 * (x3 * x5)) * x1 = 40 * (x1 * x3) * x5 := by rw [← Nat.mul_assoc 10 4]; ac_rfl
  have a2 : W * (x4 * x5) * x2 = W * (x2 * x4) * x5 := by ac_rfl
  rw [a1, a2]
  exact this
theorem ba_up {M S m p2 : Nat} {E e : Int} {bd : Bool} (b : Base M S m p2 E e bd) (P : Int) (hPv : P = if bd then -((E * 631305 - 261663) / 2097152) else -(E * 78913 / 262144)) (c : Nat) (hc : c + loQ M E = 4 * M + 2) (hM1 : 1 ≤ M) :
    c * 2 ^ (E + 1074).toNat * 10 ^ P.toNat < 10 * 2 ^ upB * 10 ^ (-P).toNat ∧ (c = 3 → M = 4503599627370496) := by
  have hW := ba_W b
  have hS := powW_at E b.hE.1 b.hE.2
  unfold powW at hS
  rw [Bool.and_eq_true, decide_eq_true_eq, decide_eq_true_eq] at hS
  obtain ⟨hS1, hS2⟩ := hS
  cases hb : bd
  · rw [hb] at hW hPv
    simp only [Bool.false_eq_true, if_false] at hW hPv
    have e1 : -P = E * 78913 / 262144 := by omega
    rw [← e1, show -(-P) = P by omega] at hS1
    have h4 : c = 4 := by clear hS1 hS2; omega
    subst h4
    refine ⟨width_up P E 4 b.hE.1 ?_, fun h => by cases h⟩
    generalize 10 ^ P.toNat * 2 ^ E.toNat = q1 at *
    generalize 10 ^ (-P).toNat * 2 ^ (-E).toNat = q2 at *
    clear hS2
    omega
  · rw [hb] at hW hPv
    simp only [if_true] at hW hPv
    have e1 : -P = (E * 631305 - 261663) / 2097152 := by omega
    rw [← e1, show -(-P) = P by omega] at hS2
    have h3 : c = 3 := by clear hS1 hS2; omega
    subst h3
    refine ⟨width_up P E 3 b.hE.1 hS2, fun _ => ?_⟩
    have hbd := b.hbd
    rw [hb] at hbd
    have hb2 := hbd.symm
    rw [Bool.and_eq_true, decide_eq_true_eq, decide_eq_true_eq] at hb2
    exact hb2.1
/-- bounds of the picked number, and the one multiple of ten -/
theorem pick_one {Am : Nat} (Q Amin Amax o k j : Nat) (hQ : 0 < Q) (ho : o ≤ 1) (hA : 0 < Amax) (hw : Amax < Amin + 10 * (4 * Q))
    (hk : k = if (unr Amin Q + o + 3) / 4 ≤ (unr Amax Q - o) / 4 / 10 * 10 then (unr Amax Q - o) / 4 / 10 * 10 else if (unr Amin Q + o + 3) / 4 < (unr Amax Q - o) / 4 then rnd (unr Am Q) else (unr Amin Q + o + 3) / 4)
    (hk2 : k * (4 * Q) ≤ Amax)
    (h1 : Amin ≤ 10 * j * (4 * Q)) (h2 : 10 * j * (4 * Q) ≤ Amax) (h3 : o = 1 → Amin < 10 * j * (4 * Q) ∧ 10 * j * (4 * Q) < Amax) :
    (unr Amin Q + o + 3) / 4 ≤ (unr Amax Q - o) / 4 / 10 * 10 ∧ k = 10 * j := by
  have ho2 : o = 0 ∨ o = 1 := by omega
  have a1 : (unr Amin Q + o + 3) / 4 ≤ 10 * j := by
    rcases ho2 with rfl | rfl
    · exact (r_ceil Amin Q hQ (10 * j)).2 h1
    · exact (r_above Amin Q hQ (10 * j)).2 (h3 rfl).1
  have a2 : 10 * j ≤ (unr Amax Q - o) / 4 := by
    rcases ho2 with rfl | rfl
    · exact (r_under Amax Q hQ (10 * j)).2 h2
    · exact (r_below Amax Q hQ hA (10 * j)).2 (h3 rfl).2
  have c1 : (unr Amin Q + o + 3) / 4 ≤ (unr Amax Q - o) / 4 / 10 * 10 := by omega
  refine ⟨c1, ?_⟩
  rw [if_pos c1] at hk
  have h4 : k * (4 * Q) < (10 * j + 10) * (4 * Q) := by
    rw [Nat.add_mul]
    omega
  have h5 := Nat.lt_of_mul_lt_mul_right h4
  omega
theorem sf_all (M S : Nat) (E : Int) (hM1 : 1 ≤ M) (hM2 : M < 9007199254740992) (hE0 : -1074 ≤ E) (hE1 : E ≤ 971) (hsub : M < 4503599627370496 → E = -1074) (hS : S = 64 - Lib.bitLen M) :
    ∃ (k : Nat) (P : Int), -348 ≤ P ∧ P ≤ 348 ∧ (sfR hiT loT ((M * 2 ^ S : Nat) : Int) (E - S) = ((k : Int), -P) ∨ ∃ k' : Nat, k = k' * 10 ∧ sfR hiT loT ((M * 2 ^ S : Nat) : Int) (E - S) = ((k' : Int), -(P - 1))) ∧
      loQ M E * 2 ^ (E + 1074).toNat * 10 ^ P.toNat ≤ k * 2 ^ upB * 10 ^ (-P).toNat ∧ k * 2 ^ upB * 10 ^ (-P).toNat ≤ (4 * M + 2) * 2 ^ (E + 1074).toNat * 10 ^ P.toNat ∧
      (M % 2 = 1 → loQ M E * 2 ^ (E + 1074).toNat * 10 ^ P.toNat < k * 2 ^ upB * 10 ^ (-P).toNat ∧ k * 2 ^ upB * 10 ^ (-P).toNat < (4 * M + 2) * 2 ^ (E + 1074).toNat * 10 ^ P.toNat) ∧ k < 100000000000000000 ∧
      (∀ j : Nat, loQ M E * 2 ^ (E + 1074).toNat * 10 ^ P.toNat ≤ 10 * j * 2 ^ upB * 10 ^ (-P).toNat → 10 * j * 2 ^ upB * 10 ^ (-P).toNat ≤ (4 * M + 2) * 2 ^ (E + 1074).toNat * 10 ^ P.toNat →
        (M % 2 = 1 → loQ M E * 2 ^ (E + 1074).toNat * 10 ^ P.toNat < 10 * j * 2 ^ upB * 10 ^ (-P).toNat ∧ 10 * j * 2 ^ upB * 10 ^ (-P).toNat < (4 * M + 2) * 2 ^ (E + 1074).toNat * 10 ^ P.toNat) →
        sfR hiT loT ((M * 2 ^ S : Nat) : Int) (E - S) = ((j : Int), -(P - 1))) := by
  obtain ⟨o, ho⟩ : ∃ o, o = M % 2 := ⟨_, rfl⟩
  have ho1 : o ≤ 1 := by omega
  obtain ⟨m, p2, e, bd, b⟩ := sf_base M S E hM1 hM2 hE0 hE1 hsub hS
  rw [← b.hm, ← b.he]
  obtain ⟨P, hP⟩ : ∃ P, P = sfP (m : Int) e := ⟨_, rfl⟩
  have hPv := ba_P b
  rw [← hP] at hPv
  obtain ⟨hP1, hP2, hs5⟩ := ba_rng E P S bd hE0 hE1 b.s11.1 hPv
  have hSd := ba_S b P hP
  obtain ⟨lp, hlp⟩ : ∃ lp, lp = P * 108853 / 32768 := ⟨_, rfl⟩
  obtain ⟨s, hs⟩ : ∃ s : Nat, (s : Int) = S - 3 - E - lp := ⟨(S - 3 - E - lp : Int).toNat, by omega⟩
  have hs58 := (sf_p (m : Int) e (by have := b.he; have := b.s11; omega) (by have := b.he; have := b.s11; omega)).2.2.2
  rw [← hlp, ← hs] at hSd hs5
  rw [hSd] at hs58
  obtain ⟨i, hi⟩ : ∃ i, i = (P + 348).toNat := ⟨_, rfl⟩
  have hI : sfI (m : Int) e = i := by unfold sfI; rw [← hP, hi]
  obtain ⟨W, hW⟩ : ∃ W, W = loQ M E := ⟨_, rfl⟩
  have hWv := ba_W b
  obtain ⟨w1, w2, w3⟩ := loQ_bd M E
  rw [← hW] at hWv w1 w2 w3 ⊢
  have hi1 : 56 ≤ i ∧ i < 673 := by omega
  have hs6 : 5 ≤ s ∧ s < 59 := by omega
  obtain ⟨u1, ue1, uv1, ua1, ub1⟩ := ba_u b hM1 i s W hi1.1 hi1.2 hs6.1 hs6.2 w1 (by omega)
  obtain ⟨u2, ue2, uv2, ua2, ub2⟩ := ba_u b hM1 i s (4 * M) hi1.1 hi1.2 hs6.1 hs6.2 (by omega) (by omega)
  obtain ⟨u3, ue3, uv3, ua3, ub3⟩ := ba_u b hM1 i s (4 * M + 2) hi1.1 hi1.2 hs6.1 hs6.2 (by omega) (by omega)
  have hP0 : -348 ≤ P := Int.le_trans (by decide) hP1
  have hS2 : 2 ≤ S := Nat.le_trans (by decide) b.s11.1
  have hMn := ba_Mn b
  have hMx := ba_Mx b
  have hO := ba_O b hM2
  have x1 : (if bd then m - p2 else m - 2 * p2) = W * p2 := by
    rw [hWv, b.hm4]
    cases bd
    · simp only [Bool.false_eq_true, if_false]; rw [Nat.sub_mul]
    · simp only [if_true]; rw [Nat.sub_mul, Nat.one_mul]
  have x3 : m + 2 * p2 = (4 * M + 2) * p2 := by rw [b.hm4, Nat.add_mul]
  rw [x1] at hMn
  rw [x3] at hMx
  rw [← ho] at hO
  have hDn : sfDn hiT loT (m : Int) e = (((u1 + o + 3) / 4 : Nat) : Int) := by
    unfold sfDn sfU
    rw [hMn, hO, hI, hSd, Int.toNat_natCast, ue1]
    exact ceil_n u1 o ub1 ho1
  have hDx : sfDx hiT loT (m : Int) e = (((u3 - o) / 4 : Nat) : Int) := by
    unfold sfDx sfU
    rw [hMx, hO, hI, hSd, Int.toNat_natCast, ue3]
    exact floor_n u3 o ub3 ua3 ho1
  have hDm : roundI (sfU hiT loT (m : Int) e (m : Int)) = (rnd u2 : Int) := by
    unfold sfU
    rw [hI, hSd, Int.toNat_natCast]
    have : usI m (hiT i) (loT i) (s : Int) = (u2 : Int) := by rw [b.hm4]; exact ue2
    rw [this]
    exact round_eq u2 ub2
  obtain ⟨Q, hQ⟩ : ∃ Q, Q = dT i * 2 ^ (128 + s) := ⟨_, rfl⟩
  rw [← hQ] at uv1 uv2 uv3
  have hQ0 : 0 < Q := by rw [hQ]; exact Nat.mul_pos (dT_pos i) (Nat.two_pow_pos _)
  have hn0 : 0 < nT i := by
    unfold nT
    split
    · exact Nat.mul_pos (Nat.pow_pos (by decide)) (Nat.two_pow_pos _)
    · exact Nat.two_pow_pos _
  have hp0 : 0 < p2 := by rw [b.hp2]; exact Nat.two_pow_pos _
  have hpn : 0 < p2 * nT i := Nat.mul_pos hp0 hn0
  -- the spelling of a comparison
  have sc := fun k W' => scale_id P E hP0 i hi lp hlp hE0 S s hS2 hs k W'
  rw [← hQ, ← b.hp2] at sc
  obtain ⟨c, hc, hc34, hcw, hco⟩ := ba_wd b hM1 P hPv
  obtain ⟨hup, hc3⟩ := ba_up b P hPv c hc hM1
  rw [← hW] at hc
  have hEz : E = 0 → 2 ^ upB = 4 * 2 ^ (E + 1074).toNat := fun h => by
    rw [show upB = (E + 1074).toNat + 2 by rw [h]; rfl, Nat.pow_add, Nat.mul_comm]
  clear ue1 ue2 ue3 ua1 ua2 ua3 ub1 ub2 ub3 hSd hI hMn hMx hO x1 x3 hs58 hs6 hs5 hPv hWv
  obtain ⟨v, hv⟩ : ∃ v, v = p2 * nT i := ⟨_, rfl⟩
  have hA : ∀ V, V * p2 * nT i = V * v := fun V => by rw [hv]; exact Nat.mul_assoc _ _ _
  have hv0 : 0 < v := by rw [hv]; exact hpn
  simp only [hA] at uv1 uv2 uv3 sc
  obtain ⟨T1, hT1⟩ : ∃ T, T = 2 ^ (E + 1074).toNat := ⟨_, rfl⟩
  obtain ⟨T2, hT2⟩ : ∃ T, T = 10 ^ P.toNat := ⟨_, rfl⟩
  obtain ⟨T3, hT3⟩ : ∃ T, T = 10 ^ (-P).toNat := ⟨_, rfl⟩
  obtain ⟨T4, hT4⟩ : ∃ T, T = 2 ^ upB := ⟨_, rfl⟩
  rw [← hT1, ← hT2, ← hT3, ← hT4] at sc
  rw [← hT1, ← hT2, ← hT3, ← hT4] at hcw hco hup
  rw [← hT1, ← hT4] at hEz
  have hP348 : P ≤ 348 := Int.le_trans hP2 (by decide)
  obtain ⟨dn, hdn⟩ : ∃ d, d = (u1 + o + 3) / 4 := ⟨_, rfl⟩
  obtain ⟨dx, hdx⟩ : ∃ d, d = (u3 - o) / 4 := ⟨_, rfl⟩
  rw [← hdn] at hDn
  rw [← hdx] at hDx
  obtain ⟨k, hk⟩ : ∃ k, k = if dn ≤ dx / 10 * 10 then dx / 10 * 10 else if dn < dx then rnd u2 else dn := ⟨_, rfl⟩
  refine ⟨k, P, hP0, hP348, ?_⟩
  rw [← hT1, ← hT2, ← hT3, ← hT4]
  have hT00 : P = 0 → T2 = 1 ∧ T3 = 1 := fun h => by rw [hT2, hT3, h]; exact ⟨rfl, rfl⟩
  clear hT1 hT2 hT3 hT4 hv hpn hp0 hn0 hQ hP1 hP2 hi1 hs hlp hi
  have hMv : 4 * M * v = 4 * (M * v) := Nat.mul_assoc _ _ _
  have hMv2 : (4 * M + 2) * v = 4 * (M * v) + 2 * v := by rw [Nat.add_mul, hMv]
  have hcv : c * v + W * v = 4 * (M * v) + 2 * v := by rw [← Nat.add_mul, hc, hMv2]
  have hcv34 : c * v = 3 * v ∨ c * v = 4 * v := by rcases hc34 with rfl | rfl <;> simp
  have hWpos : 0 < W * v := Nat.mul_pos (by omega) hv0
  have hq4 : 4 * Q ≤ c * v := by
    obtain ⟨α, β, a0, b0, q1, q2⟩ := sc 1 c
    rw [Nat.one_mul (4 * Q)] at q1
    exact (le_scaled a0 b0 q1 q2).2 hcw
  have hq40 : c * v < 10 * (4 * Q) := by
    obtain ⟨α, β, a0, b0, q1, q2⟩ := sc 10 c
    exact (lt_scaled a0 b0 q2 q1).2 hup
  have hR1 : dn ≤ dx / 10 * 10 → sfR hiT loT (m : Int) e = (((dx / 10 : Nat) : Int), -(P - 1)) := fun c1 => by
    unfold sfR
    rw [hDn, hDx, hDm, ← hP, if_pos (by omega), Int.natCast_ediv]
    rfl
  have hpick := pick Q (W * v) (4 * M * v) ((4 * M + 2) * v) o hQ0 ho1 hWpos (by omega) (by omega) (by omega) (by omega) (fun h => by
    obtain ⟨hc4, hor⟩ := hco (by omega)
    rcases hor with h1 | ⟨h1, h2⟩
    · left
      obtain ⟨α, β, a0, b0, q1, q2⟩ := sc 1 4
      rw [Nat.one_mul (4 * Q)] at q1
      have := (lt_scaled a0 b0 q1 q2).2 h1
      rw [hc4] at hcv
      omega
    · right
      refine ⟨M, ?_⟩
      obtain ⟨α, β, a0, b0, q1, q2⟩ := sc M (4 * M)
      obtain ⟨t2, t3⟩ := hT00 h2
      have he : M * T4 * T3 = 4 * M * T1 * T2 := by
        rw [hEz h1, t2, t3, Nat.mul_one, Nat.mul_one, ← Nat.mul_assoc, Nat.mul_comm M 4]
      have l1 := (le_scaled a0 b0 q1 q2).2 (Nat.le_of_eq he)
      have l2 := (le_scaled a0 b0 q2 q1).2 (Nat.le_of_eq he.symm)
      omega) k (by rw [hk, hdn, hdx, uv1, uv2, uv3])
  obtain ⟨⟨k1, k2⟩, k3⟩ := hpick
  have t1 : W * T1 * T2 ≤ k * T4 * T3 := by
    obtain ⟨α, β, a0, b0, q1, q2⟩ := sc k W
    exact (le_scaled a0 b0 q2 q1).1 k1
  have t2 : k * T4 * T3 ≤ (4 * M + 2) * T1 * T2 := by
    obtain ⟨α, β, a0, b0, q1, q2⟩ := sc k (4 * M + 2)
    exact (le_scaled a0 b0 q1 q2).1 k2
  refine ⟨?_, t1, t2, fun h => ?_, ?_, fun j j1 j2 j3 => ?_⟩
  · unfold sfR
    rw [hDn, hDx, hDm, ← hP, hk]
    by_cases c1 : dn ≤ dx / 10 * 10
    · right
      rw [if_pos c1, if_pos (by omega)]
      exact ⟨dx / 10, rfl, by rw [Int.natCast_ediv]; rfl⟩
    · left
      rw [if_neg c1, if_neg (by omega)]
      by_cases c2 : dn < dx
      · rw [if_pos c2, if_pos (by omega)]
      · rw [if_neg c2, if_neg (by omega)]
  · obtain ⟨k4, k5⟩ := k3 (by omega)
    refine ⟨?_, ?_⟩
    · obtain ⟨α, β, a0, b0, q1, q2⟩ := sc k W
      exact (lt_scaled a0 b0 q2 q1).1 k4
    · obtain ⟨α, β, a0, b0, q1, q2⟩ := sc k (4 * M + 2)
      exact (lt_scaled a0 b0 q1 q2).1 k5
  · apply Nat.lt_of_mul_lt_mul_right (a := 4 * Q)
    rcases hc34 with rfl | rfl
    · have hM := hc3 rfl
      rw [hM] at hMv2 k2
      omega
    · have h9 : M * v ≤ 9007199254740991 * v := Nat.mul_le_mul_right _ (by omega)
      omega
  · obtain ⟨α, β, a0, b0, q1, q2⟩ := sc (10 * j) W
    obtain ⟨α', β', a0', b0', q1', q2'⟩ := sc (10 * j) (4 * M + 2)
    obtain ⟨o1, o2⟩ := pick_one (Am := 4 * M * v) Q (W * v) ((4 * M + 2) * v) o k j hQ0 ho1 (by omega) (by omega) (by rw [hk, hdn, hdx, uv1, uv2, uv3]) k2
      ((le_scaled a0 b0 q2 q1).2 j1) ((le_scaled a0' b0' q1' q2').2 j2) (fun h => by
        obtain ⟨l1, l2⟩ := j3 (by omega)
        exact ⟨(lt_scaled a0 b0 q2 q1).2 l1, (lt_scaled a0' b0' q1' q2').2 l2⟩)
    rw [← uv1, ← uv3, ← hdn, ← hdx] at o1
    rw [hR1 o1]
    rw [if_pos o1] at hk
    rw [show dx / 10 = j by omega]
theorem sf_in (M S : Nat) (E : Int) (hM1 : 1 ≤ M) (hM2 : M < 9007199254740992) (hE0 : -1074 ≤ E) (hE1 : E ≤ 971) (hsub : M < 4503599627370496 → E = -1074) (hS : S = 64 - Lib.bitLen M) :
    ∃ (k : Nat) (P : Int), -348 ≤ P ∧ P ≤ 348 ∧ (sfR hiT loT ((M * 2 ^ S : Nat) : Int) (E - S) = ((k : Int), -P) ∨ ∃ k' : Nat, k = k' * 10 ∧ sfR hiT loT ((M * 2 ^ S : Nat) : Int) (E - S) = ((k' : Int), -(P - 1))) ∧
      loQ M E * 2 ^ (E + 1074).toNat * 10 ^ P.toNat ≤ k * 2 ^ upB * 10 ^ (-P).toNat ∧ k * 2 ^ upB * 10 ^ (-P).toNat ≤ (4 * M + 2) * 2 ^ (E + 1074).toNat * 10 ^ P.toNat ∧
      (M % 2 = 1 → loQ M E * 2 ^ (E + 1074).toNat * 10 ^ P.toNat < k * 2 ^ upB * 10 ^ (-P).toNat ∧ k * 2 ^ upB * 10 ^ (-P).toNat < (4 * M + 2) * 2 ^ (E + 1074).toNat * 10 ^ P.toNat) := by
  obtain ⟨k, P, h1, h2, h3, h4, h5, h6, _, _⟩ := sf_all M S E hM1 hM2 hE0 hE1 hsub hS
  exact ⟨k, P, h1, h2, h3, h4, h5, h6⟩
end Go.Proofs.YtbjengfoaobdbaaGreatDoor.fpm
