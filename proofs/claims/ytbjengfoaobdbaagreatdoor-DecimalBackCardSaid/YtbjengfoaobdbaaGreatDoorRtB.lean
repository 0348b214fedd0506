/- Reading what was printed: it is the number; with its last digit cut it is another one. Plain. -/
import Derived.Test.YtbjengfoaobdbaaGreatDoorMgL
import Derived.Test.YtbjengfoaobdbaaGreatDoorMgP
namespace Go.Proofs.YtbjengfoaobdbaaGreatDoor.rdf
open Go.RowKit
open Go.Proofs.YtbjengfoaobdbaaGreatDoor.dmx
open Go.Proofs.YtbjengfoaobdbaaGreatDoor.fpm
open Go.Proofs.YtbjengfoaobdbaaGreatDoor.prnw
open Go.Proofs.YtbjengfoaobdbaaGreatDoor.flatm
open Go.Proofs.YtbjengfoaobdbaaGreatDoor.nodew

theorem decA_fold : ∀ (l : List UInt8) (v : Nat), decA v l = l.foldl (fun N c => N * 10 + (c.toNat - 48)) v
  | [], _ => rfl
  | b :: r, v => by
    show decA (10 * v + (b.toNat - 48)) r = r.foldl (fun N c => N * 10 + (c.toNat - 48)) (v * 10 + (b.toNat - 48))
    rw [decA_fold r, Nat.mul_comm 10]
theorem dec_dval (l : List UInt8) : decV l = dval l := decA_fold l 0
theorem digL_sd (u : Nat) : DigL (sdH u :: sdL u) := fun b hb => (isD_iff b).2 (sd_dg u b hb)
theorem trim_last (u : Nat) : ∀ n, 0 < trimTo u n → Lib.dg u (Lib.nDigits u - trimTo u n) ≠ 48
  | 0, h => absurd h (Nat.lt_irrefl _)
  | n + 1, h => by
    by_cases hc : Lib.dg u (Lib.nDigits u - 1 - n) = 48
    · have e : trimTo u (n + 1) = trimTo u n := if_pos hc
      rw [e] at h ⊢
      exact trim_last u n h
    · have e : trimTo u (n + 1) = n + 1 := if_neg hc
      rw [e, show Lib.nDigits u - (n + 1) = Lib.nDigits u - 1 - n by omega]
      exact hc
theorem sd_list (u : Nat) (h : 1 ≤ u) : sdH u :: sdL u = (List.range (trimTo u (Lib.nDigits u))).map fun t => Lib.dg u (Lib.nDigits u - 1 - t) := by
  have hl := sdL_len u h
  obtain ⟨T, hT⟩ : ∃ T, trimTo u (Lib.nDigits u) = T + 1 := ⟨(sdL u).length, hl.symm⟩
  rw [hT, List.range_succ_eq_map, List.map_cons, List.map_map]
  unfold sdH sdL
  rw [hT]
  rfl
theorem sd_last (u : Nat) (h : 1 ≤ u) : ∃ (D' : List UInt8) (z : UInt8), sdH u :: sdL u = D' ++ [z] ∧ z ≠ 48 := by
  have hl := sdL_len u h
  obtain ⟨T, hT⟩ : ∃ T, trimTo u (Lib.nDigits u) = T + 1 := ⟨(sdL u).length, hl.symm⟩
  refine ⟨(List.range T).map (fun t => Lib.dg u (Lib.nDigits u - 1 - t)), Lib.dg u (Lib.nDigits u - 1 - T), ?_, ?_⟩
  · rw [sd_list u h, hT, List.range_succ, List.map_append]
    rfl
  · have := trim_last u (Lib.nDigits u) (by omega)
    rw [hT] at this
    rw [show Lib.nDigits u - 1 - T = Lib.nDigits u - (T + 1) by omega]
    exact this
theorem nd_low (u : Nat) (h : 1 ≤ u) : 10 ^ (Lib.nDigits u - 1) ≤ u := by
  induction u using Nat.strongRecOn with
  | _ u ih =>
    by_cases h9 : u < 10
    · rw [Lib.nDigits_small h9]
      exact h
    · have := ih (u / 10) (by omega) (by omega)
      have hp := Lib.nDigits_pos (u / 10)
      rw [Lib.nDigits_big h9, show Lib.nDigits (u / 10) + 1 - 1 = (Lib.nDigits (u / 10) - 1) + 1 by omega, Nat.pow_succ]
      omega
theorem nd_17 (u : Nat) (h0 : 1 ≤ u) (h : u < 100000000000000000) : Lib.nDigits u ≤ 17 := by
  apply Nat.le_of_not_lt
  intro hn
  have h1 := nd_low u h0
  have h2 := Nat.pow_le_pow_right (show 0 < 10 by decide) (show 17 ≤ Lib.nDigits u - 1 by omega)
  have h3 : (10 : Nat) ^ 17 = 100000000000000000 := by decide
  omega
theorem sd_first (u : Nat) (h : 1 ≤ u) : (sdH u).toNat ≠ 48 := by
  have h1 := dg_val u (Lib.nDigits u - 1)
  have h2 := nd_low u h
  have h3 := Lib.lt_pow_nDigits u
  have h4 := Lib.nDigits_pos u
  rw [show Lib.nDigits u = (Lib.nDigits u - 1) + 1 by omega, Nat.pow_succ] at h3
  have h5 : 1 ≤ u / 10 ^ (Lib.nDigits u - 1) := (Nat.one_le_div_iff (Nat.pow_pos (by decide))).2 h2
  have h6 : u / 10 ^ (Lib.nDigits u - 1) < 10 := Nat.div_lt_of_lt_mul h3
  rw [Nat.mod_eq_of_lt h6] at h1
  unfold sdH
  omega
/-- a positive float's digits, read -/
theorem ft_says (X : Nat) (hX0 : 0 < X) (hX : X < 9218868437227405312) : ∃ (k : Nat) (P : Int), nx k (-P) = X ∧ k < 100000000000000000 ∧
    (ftR hiP loP X = ((k : Int), -P) ∨ ∃ k' : Nat, k = k' * 10 ∧ ftR hiP loP X = ((k' : Int), -(P - 1))) ∧ ∀ j : Nat, nx (10 * j) (-P) = X → ftR hiP loP X = ((j : Int), -(P - 1)) := by
  obtain ⟨r1, r2, r3, r4, r5⟩ := ft_range X hX0 hX
  obtain ⟨S, hS⟩ : ∃ S, S = 64 - Lib.bitLen (ftM X) := ⟨_, rfl⟩
  obtain ⟨k, P, p1, p2, p3, i1, i2, i3, i4, i5⟩ := sf_all (ftM X) S (ftE X - 52) r1 r2 r3 r4 r5 hS
  have hR : ftR hiP loP X = sfR hiT loT ((ftM X * 2 ^ S : Nat) : Int) (ftE X - 52 - S) := by
    unfold ftR
    rw [← hS, show ftE X - (S : Int) - 52 = ftE X - 52 - S by omega]
    rfl
  rw [← hR] at p3 i5
  rw [ftM_odd] at i3 i5
  have hx : ∀ K, nx K (-P) = nearX (K * 10 ^ (-P).toNat) (10 ^ P.toNat) := fun K => by
    unfold nx
    rw [Int.neg_neg]
  have hu : unB = fpm.upB := rfl
  have sw : ∀ K, K * 10 ^ (-P).toNat * 2 ^ unB = K * 2 ^ fpm.upB * 10 ^ (-P).toNat := fun K => by
    rw [hu]
    exact Nat.mul_right_comm _ _ _
  have hp10 : 0 < 10 ^ P.toNat := Nat.pow_pos (by decide)
  refine ⟨k, P, ?_, i4, p3, fun j hj => ?_⟩
  · rw [hx]
    refine (near_eq hp10 ⟨?_, ?_, fun h => ?_⟩).symm
    · rw [sw]
      exact i1
    · rw [sw]
      exact i2
    · rw [sw]
      exact i3 h
  · rw [hx] at hj
    have h := near_of (10 * j * 10 ^ (-P).toNat) (10 ^ P.toNat) hp10
    rw [hj] at h
    obtain ⟨n1, n2, n3⟩ := h
    rw [sw] at n1 n2 n3
    exact i5 j n1 n2 n3
/-- a positive float's digits -/
theorem pos_all (X : Nat) (hX0 : 0 < X) (hX : X < 9218868437227405312) : (posD hiP loP X).length ≤ 17 ∧ nx (dval (posD hiP loP X)) (posK hiP loP X - (posD hiP loP X).length) = X ∧
    ∃ (D' : List UInt8) (z : UInt8), posD hiP loP X = D' ++ [z] ∧ z ≠ 48 ∧ nx (dval D') (posK hiP loP X - D'.length) ≠ X := by
  obtain ⟨k, P, s1, s2, s3, s4⟩ := ft_says X hX0 hX
  obtain ⟨b1, b2, b3, b4⟩ := ft_bd hiP loP X hX0 hX hh_T
  obtain ⟨u, hu⟩ : ∃ u, (ftR hiP loP X).1.toNat = u := ⟨_, rfl⟩
  obtain ⟨e, he⟩ : ∃ e, (ftR hiP loP X).2 = e := ⟨_, rfl⟩
  have hD : posD hiP loP X = sdH u :: sdL u := by unfold posD; rw [hu]
  have hK : posK hiP loP X = (Lib.nDigits u : Nat) + e := by unfold posK; rw [hu, he]
  rw [hu] at b1
  obtain ⟨d1, d2⟩ := dec_sd u b1
  obtain ⟨D', z, l1, l2⟩ := sd_last u b1
  have hdg := digL_sd u
  rw [hD, hK]
  obtain ⟨D, hDD⟩ : ∃ D, sdH u :: sdL u = D := ⟨_, rfl⟩
  rw [hDD] at d1 d2 l1 hdg ⊢
  rw [dec_dval] at d1
  obtain ⟨t, ht⟩ : ∃ t, t = Lib.nDigits u - D.length := ⟨_, rfl⟩
  rw [← ht] at d1
  have hue : nx u e = X ∧ u < 100000000000000000 := by
    rcases s3 with h | ⟨k', h1, h2⟩
    · rw [h] at hu he
      have hu' : k = u := by
        have : ((k : Int)).toNat = u := hu
        omega
      have he' : -P = e := he
      rw [← hu', ← he']
      exact ⟨s1, s2⟩
    · rw [h2] at hu he
      have hu' : k' = u := by
        have : ((k' : Int)).toNat = u := hu
        omega
      have he' : -(P - 1) = e := he
      rw [← hu', ← he']
      refine ⟨?_, by omega⟩
      have := nx_shift k' 1 (-P)
      rw [Nat.pow_one, ← h1, s1] at this
      rw [this, show -P + ((1 : Nat) : Int) = -(P - 1) by omega]
  obtain ⟨hue, hu17⟩ := hue
  have hn17 := nd_17 u b1 hu17
  refine ⟨by omega, ?_, D', z, l1, l2, fun hbad => ?_⟩
  · have := nx_shift (dval D) t e
    rw [← d1, hue] at this
    rw [this, show ((Lib.nDigits u : Nat) : Int) + e - D.length = e + (t : Int) by omega]
  · have hlen : D.length = D'.length + 1 := by rw [l1, List.length_append]; rfl
    have hz := hdg z (by rw [l1]; simp)
    have hz2 := (isD_iff z).1 hz
    have hz48 : z.toNat ≠ 48 := fun h => l2 ((u8_eq z 48 (by decide)).2 h)
    have hdv : dval D = dval D' * 10 + (z.toNat - 48) := by
      rw [l1, dval_app, dval_cons]
      show _ = _
      simp [dval]
    rw [show ((Lib.nDigits u : Nat) : Int) + e - D'.length = e + (t + 1 : Nat) by omega] at hbad
    rw [← nx_shift] at hbad
    rcases s3 with h | ⟨k', h1, h2⟩
    · rw [h] at he
      have he' : -P = e := he
      rw [← he', Nat.pow_succ, ← Nat.mul_assoc, Nat.mul_comm _ 10] at hbad
      have := s4 _ hbad
      rw [h] at this
      have h9 := (Prod.mk.inj this).2
      omega
    · rw [h2] at he hu
      have he' : -(P - 1) = e := he
      have hu' : k' = u := by
        have : ((k' : Int)).toNat = u := hu
        omega
      rw [← he', show -(P - 1) = -P + ((1 : Nat) : Int) by omega, ← nx_shift, Nat.pow_one, Nat.mul_comm _ 10] at hbad
      have := s4 _ hbad
      rw [h2] at this
      have h9 := (Prod.mk.inj this).1
      have h10 : u = dval D' * 10 ^ (t + 1) := by rw [← hu']; exact Int.ofNat.inj h9
      rw [h10, Nat.pow_succ, Nat.mul_comm (10 ^ t), ← Nat.mul_assoc] at d1
      have h11 := Nat.eq_of_mul_eq_mul_right (Nat.pow_pos (by decide)) d1
      omega
theorem pos_first (X : Nat) (hX0 : 0 < X) (hX : X < 9218868437227405312) : DigL (posD hiP loP X) ∧ (sdH (ftR hiP loP X).1.toNat).toNat ≠ 48 :=
  ⟨digL_sd _, sd_first _ (ft_bd hiP loP X hX0 hX hh_T).1⟩
/-- a positive float's text -/
theorem pos_says (X : Nat) (hX0 : 0 < X) (hX : X < 9218868437227405312) : SaysQ (posT hiP loP X) (dval (posD hiP loP X)) (posK hiP loP X - (posD hiP loP X).length) := by
  obtain ⟨p1, p2, p3, p4⟩ := pos_bd hiP loP X hX0 hX hh_T
  obtain ⟨f1, f2⟩ := pos_first X hX0 hX
  exact says_laid (posD hiP loP X) (posK hiP loP X) f1 _ _ rfl f2 p2 (by omega) (by omega)
theorem read_pos (X : Nat) (hX0 : 0 < X) (hX : X < 9218868437227405312) : decR (posT hiP loP X) = (X, 0) ∧ decR (45 :: posT hiP loP X) = (9223372036854775808 + X, 0) :=
  says_r (pos_says X hX0 hX) (pos_all X hX0 hX).2.1 hX0 hX
theorem read_0 : decR [48] = (0, 0) := by decide +kernel
/-- a number's text, read -/
theorem read_prT (x : Nat) (hx : x < 18446744073709551616) (h : prOk x = true) : decR (prT hiP loP x) = (x, 0) := by
  have hr : rightF x = true := by
    unfold prOk at h
    rw [Bool.and_eq_true] at h
    exact h.1
  obtain ⟨f1, f2⟩ := right_word hx hr
  unfold prT
  rw [if_pos h]
  by_cases h0 : x = 0
  · rw [if_pos h0, h0]
    exact read_0
  · rw [if_neg h0]
    by_cases hn : 9223372036854775808 ≤ x
    · rw [if_pos hn, (read_pos _ (by omega) (by omega)).2, show 9223372036854775808 + (x - 9223372036854775808) = x by omega]
    · rw [if_neg hn]
      exact (read_pos _ (by omega) (by omega)).1
end Go.Proofs.YtbjengfoaobdbaaGreatDoor.rdf
