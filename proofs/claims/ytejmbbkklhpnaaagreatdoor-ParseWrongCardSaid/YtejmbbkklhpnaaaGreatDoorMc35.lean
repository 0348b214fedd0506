/- Two positive floats' digits are of two values. Plain. -/
import Derived.Test.YtejmbbkklhpnaaaGreatDoorMc30
import Derived.Test.YtejmbbkklhpnaaaGreatDoorMc34
import Derived.Test.YtejmbbkklhpnaaaGreatDoorMc22
import Derived.Test.YtejmbbkklhpnaaaGreatDoorMc07
import Derived.Test.YtejmbbkklhpnaaaGreatDoorMc25
import Derived.Test.YtejmbbkklhpnaaaGreatDoorMc08
import Derived.Test.YtejmbbkklhpnaaaGreatDoorMc04
import Derived.Lib.SplitLaws
import Derived.Laws.OwnMore
import Derived.Deep.Slices
import Derived.ChangeSame
import Derived.ChangeArms
import Derived.OpenShut
import Derived.WideShapes
namespace Go.Proofs.YtejmbbkklhpnaaaGreatDoor.fpm
open Go Go.RowKit Go.Proofs.YtejmbbkklhpnaaaGreatDoor.prnw

end Go.Proofs.YtejmbbkklhpnaaaGreatDoor.fpm

/- Plain laws ahead of PrintLines: lines of a text, words of a line. No conditions but those stated. -/
namespace Go.Proofs.YtejmbbkklhpnaaaGreatDoor.prnw
open Go.RowKit
open Go.Shelf
open Go.Proofs.YtejmbbkklhpnaaaGreatDoor.nodew

/-- bytes that are no blank, and no end of a line -/
def Ink (l : List UInt8) : Prop := ∀ b ∈ l, 33 ≤ b.toNat
theorem Ink.cons {b : UInt8} {r : List UInt8} (h : 33 ≤ b.toNat) (k : Ink r) : Ink (b :: r) := fun x hx => by
  rcases List.mem_cons.1 hx with rfl | hx
  · exact h
  · exact k x hx
end Go.Proofs.YtejmbbkklhpnaaaGreatDoor.prnw

/- The value of a number's text. Plain. -/
namespace Go.Proofs.YtejmbbkklhpnaaaGreatDoor.fpm
open Go Go.RowKit Go.Proofs.YtejmbbkklhpnaaaGreatDoor.prnw

/-- digits, as a number -/
def decA (v : Nat) : List UInt8 → Nat
  | [] => v
  | b :: r => decA (10 * v + (b.toNat - 48)) r
def decV (l : List UInt8) : Nat := decA 0 l
theorem decA_app (r : List UInt8) : ∀ (l : List UInt8) (v : Nat), decA v (l ++ r) = decA (decA v l) r
  | [], _ => rfl
  | _ :: l, _ => decA_app r l _
theorem dg_val (u j : Nat) : (Lib.dg u j).toNat - 48 = u / 10 ^ j % 10 := by
  unfold Lib.dg
  rw [UInt8.toNat_ofNat']
  omega
theorem dec_front (u N : Nat) (h : u < 10 ^ N) : ∀ n, n ≤ N → decV ((List.range n).map fun t => Lib.dg u (N - 1 - t)) = u / 10 ^ (N - n)
  | 0, _ => by
    rw [Nat.sub_zero, Nat.div_eq_of_lt h]
    rfl
  | n + 1, hn => by
    have ih := dec_front u N h n (by omega)
    unfold decV at ih ⊢
    rw [List.range_succ, List.map_append, decA_app, ih]
    show 10 * (u / 10 ^ (N - n)) + ((Lib.dg u (N - 1 - n)).toNat - 48) = _
    rw [dg_val, show N - 1 - n = N - (n + 1) by omega, show N - n = N - (n + 1) + 1 by omega, Nat.pow_succ, ← Nat.div_div_eq_div_mul]
    omega
theorem trim_val (u : Nat) : ∀ n, n ≤ Lib.nDigits u → u / 10 ^ (Lib.nDigits u - n) = u / 10 ^ (Lib.nDigits u - trimTo u n) * 10 ^ (n - trimTo u n)
  | 0, _ => by
    show _ = u / 10 ^ (Lib.nDigits u - 0) * 10 ^ 0
    rw [Nat.pow_zero, Nat.mul_one]
  | n + 1, hn => by
    have ih := trim_val u n (by omega)
    have hle := trim_le u n
    by_cases hc : Lib.dg u (Lib.nDigits u - 1 - n) = 48
    · have e : trimTo u (n + 1) = trimTo u n := if_pos hc
      rw [e]
      have hz := dg_val u (Lib.nDigits u - 1 - n)
      rw [hc] at hz
      change 0 = _ at hz
      rw [show n + 1 - trimTo u n = (n - trimTo u n) + 1 by omega, Nat.pow_succ, ← Nat.mul_assoc, ← ih, show Lib.nDigits u - n = Lib.nDigits u - (n + 1) + 1 by omega, Nat.pow_succ, ← Nat.div_div_eq_div_mul]
      rw [show Lib.nDigits u - 1 - n = Lib.nDigits u - (n + 1) by omega] at hz
      omega
    · have e : trimTo u (n + 1) = n + 1 := if_neg hc
      rw [e, Nat.sub_self, Nat.pow_zero, Nat.mul_one]
/-- the digits that count, and how many do not -/
theorem dec_sd (u : Nat) (h : 1 ≤ u) : u = decV (sdH u :: sdL u) * 10 ^ (Lib.nDigits u - (sdH u :: sdL u).length) ∧ (sdH u :: sdL u).length ≤ Lib.nDigits u := by
  have hl := sdL_len u h
  have ht := trim_le u (Lib.nDigits u)
  have hv := trim_val u (Lib.nDigits u) (Nat.le_refl _)
  rw [Nat.sub_self, Nat.pow_zero, Nat.div_one] at hv
  have e : sdH u :: sdL u = (List.range (trimTo u (Lib.nDigits u))).map fun t => Lib.dg u (Lib.nDigits u - 1 - t) := by
    obtain ⟨T, hT⟩ : ∃ T, trimTo u (Lib.nDigits u) = T + 1 := ⟨(sdL u).length, hl.symm⟩
    rw [hT, List.range_succ_eq_map, List.map_cons, List.map_map]
    unfold sdH sdL
    rw [hT]
    rfl
  have hd := dec_front u (Lib.nDigits u) (Lib.lt_pow_nDigits u) (trimTo u (Lib.nDigits u)) ht
  rw [List.length_cons, hl]
  refine ⟨?_, ht⟩
  rw [e, hd]
  exact hv
/-- an exponent -/
def exV : List UInt8 → Int
  | [] => 0
  | b :: r => if b = 45 then -(decV r : Int) else (decV (b :: r) : Int)
theorem hh_T : ∀ i, i < 696 → 9223372036854775808 ≤ hiP i ∧ hiP i < 18446744073709551616 := fun i h => by
  obtain ⟨r1, r2, _⟩ := row_spec i (by omega)
  exact ⟨r1, r2⟩
end Go.Proofs.YtejmbbkklhpnaaaGreatDoor.fpm

/- Reading what was printed: it is the number; with its last digit cut it is another one. Plain. -/
namespace Go.Proofs.YtejmbbkklhpnaaaGreatDoor.rdf
open Go.RowKit
open Go.Proofs.YtejmbbkklhpnaaaGreatDoor.dmx
open Go.Proofs.YtejmbbkklhpnaaaGreatDoor.fpm
open Go.Proofs.YtejmbbkklhpnaaaGreatDoor.prnw
open Go.Proofs.YtejmbbkklhpnaaaGreatDoor.flatm
open Go.Proofs.YtejmbbkklhpnaaaGreatDoor.nodew

theorem decA_fold : ∀ (l : List UInt8) (v : Nat), decA v l = l.foldl (fun N c => N * 10 + (c.toNat - 48)) v
  | [], _ => rfl
  | b :: r, v => by
    show decA (10 * v + (b.toNat - 48)) r = r.foldl (fun N c => N * 10 + (c.toNat - 48)) (v * 10 + (b.toNat - 48))
    rw [decA_fold r, Nat.mul_comm 10]
theorem dec_dval (l : List UInt8) : decV l = dval l := decA_fold l 0
theorem digL_sd (u : Nat) : DigL (sdH u :: sdL u) := fun b hb => (isD_iff b).2 (sd_dg u b hb)
theorem trim_last (u : Nat) : ∀ n, 0 < trimTo u n → Lib.dg u (Lib.nDigits u - trimTo u n) ≠ 48
  | 0, h => absurd h (Nat.lt_irrefl _)
  | n + 1, h => by
    by_cases hc : Lib.dg u (Lib.nDigits u - 1 - n) = 48
    · have e : trimTo u (n + 1) = trimTo u n := if_pos hc
      rw [e] at h ⊢
      exact trim_last u n h
    · have e : trimTo u (n + 1) = n + 1 := if_neg hc
      rw [e, show Lib.nDigits u - (n + 1) = Lib.nDigits u - 1 - n by omega]
      exact hc
theorem sd_list (u : Nat) (h : 1 ≤ u) : sdH u :: sdL u = (List.range (trimTo u (Lib.nDigits u))).map fun t => Lib.dg u (Lib.nDigits u - 1 - t) := by
  have hl := sdL_len u h
  obtain ⟨T, hT⟩ : ∃ T, trimTo u (Lib.nDigits u) = T + 1 := ⟨(sdL u).length, hl.symm⟩
  rw [hT, List.range_succ_eq_map, List.map_cons, List.map_map]
  unfold sdH sdL
  rw [hT]
  rfl
theorem sd_last (u : Nat) (h : 1 ≤ u) : ∃ (D' : List UInt8) (z : UInt8), sdH u :: sdL u = D' ++ [z] ∧ z ≠ 48 := by
  have hl := sdL_len u h
  obtain ⟨T, hT⟩ : ∃ T, trimTo u (Lib.nDigits u) = T + 1 := ⟨(sdL u).length, hl.symm⟩
  refine ⟨(List.range T).map (fun t => Lib.dg u (Lib.nDigits u - 1 - t)), Lib.dg u (Lib.nDigits u - 1 - T), ?_, ?_⟩
  · rw [sd_list u h, hT, List.range_succ, List.map_append]
    rfl
  · have := trim_last u (Lib.nDigits u) (by omega)
    rw [hT] at this
    rw [show Lib.nDigits u - 1 - T = Lib.nDigits u - (T + 1) by omega]
    exact this
theorem nd_low (u : Nat) (h : 1 ≤ u) : 10 ^ (Lib.nDigits u - 1) ≤ u := by
  induction u using Nat.strongRecOn with
  | _ u ih =>
    by_cases h9 : u < 10
    · rw [Lib.nDigits_small h9]
      exact h
    · have := ih (u / 10) (by omega) (by omega)
      have hp := Lib.nDigits_pos (u / 10)
      rw [Lib.nDigits_big h9, show Lib.nDigits (u / 10) + 1 - 1 = (Lib.nDigits (u / 10) - 1) + 1 by omega, Nat.pow_succ]
      omega
theorem nd_17 (u : Nat) (h0 : 1 ≤ u) (h : u < 100000000000000000) : Lib.nDigits u ≤ 17 := by
  apply Nat.le_of_not_lt
  intro hn
  have h1 := nd_low u h0
  have h2 := Nat.pow_le_pow_right (show 0 < 10 by decide) (show 17 ≤ Lib.nDigits u - 1 by omega)
  have h3 : (10 : Nat) ^ 17 = 100000000000000000 := by decide
  omega
theorem sd_first (u : Nat) (h : 1 ≤ u) : (sdH u).toNat ≠ 48 := by
  have h1 := dg_val u (Lib.nDigits u - 1)
  have h2 := nd_low u h
  have h3 := Lib.lt_pow_nDigits u
  have h4 := Lib.nDigits_pos u
  rw [show Lib.nDigits u = (Lib.nDigits u - 1) + 1 by omega, Nat.pow_succ] at h3
  have h5 : 1 ≤ u / 10 ^ (Lib.nDigits u - 1) := (Nat.one_le_div_iff (Nat.pow_pos (by decide))).2 h2
  have h6 : u / 10 ^ (Lib.nDigits u - 1) < 10 := Nat.div_lt_of_lt_mul h3
  rw [Nat.mod_eq_of_lt h6] at h1
  unfold sdH
  omega
/-- a positive float's digits, read -/
theorem ft_says (X : Nat) (hX0 : 0 < X) (hX : X < 9218868437227405312) : ∃ (k : Nat) (P : Int), nx k (-P) = X ∧ k < 100000000000000000 ∧
    (ftR hiP loP X = ((k : Int), -P) ∨ ∃ k' : Nat, k = k' * 10 ∧ ftR hiP loP X = ((k' : Int), -(P - 1))) ∧ ∀ j : Nat, nx (10 * j) (-P) = X → ftR hiP loP X = ((j : Int), -(P - 1)) := by
  obtain ⟨r1, r2, r3, r4, r5⟩ := ft_range X hX0 hX
  obtain ⟨S, hS⟩ : ∃ S, S = 64 - Lib.bitLen (ftM X) := ⟨_, rfl⟩
  obtain ⟨k, P, p1, p2, p3, i1, i2, i3, i4, i5⟩ := sf_all (ftM X) S (ftE X - 52) r1 r2 r3 r4 r5 hS
  have hR : ftR hiP loP X = sfR hiT loT ((ftM X * 2 ^ S : Nat) : Int) (ftE X - 52 - S) := by
    unfold ftR
    rw [← hS, show ftE X - (S : Int) - 52 = ftE X - 52 - S by omega]
    rfl
  rw [← hR] at p3 i5
  rw [ftM_odd] at i3 i5
  have hx : ∀ K, nx K (-P) = nearX (K * 10 ^ (-P).toNat) (10 ^ P.toNat) := fun K => by
    unfold nx
    rw [Int.neg_neg]
  have hu : unB = fpm.upB := rfl
  have sw : ∀ K, K * 10 ^ (-P).toNat * 2 ^ unB = K * 2 ^ fpm.upB * 10 ^ (-P).toNat := fun K => by
    rw [hu]
    exact Nat.mul_right_comm _ _ _
  have hp10 : 0 < 10 ^ P.toNat := Nat.pow_pos (by decide)
  refine ⟨k, P, ?_, i4, p3, fun j hj => ?_⟩
  · rw [hx]
    refine (near_eq hp10 ⟨?_, ?_, fun h => ?_⟩).symm
    · rw [sw]
      exact i1
    · rw [sw]
      exact i2
    · rw [sw]
      exact i3 h
  · rw [hx] at hj
    have h := near_of (10 * j * 10 ^ (-P).toNat) (10 ^ P.toNat) hp10
    rw [hj] at h
    obtain ⟨n1, n2, n3⟩ := h
    rw [sw] at n1 n2 n3
    exact i5 j n1 n2 n3
/-- a positive float's digits -/
theorem pos_all (X : Nat) (hX0 : 0 < X) (hX : X < 9218868437227405312) : (posD hiP loP X).length ≤ 17 ∧ nx (dval (posD hiP loP X)) (posK hiP loP X - (posD hiP loP X).length) = X ∧
    ∃ (D' : List UInt8) (z : UInt8), posD hiP loP X = D' ++ [z] ∧ z ≠ 48 ∧ nx (dval D') (posK hiP loP X - D'.length) ≠ X := by
  obtain ⟨k, P, s1, s2, s3, s4⟩ := ft_says X hX0 hX
  obtain ⟨b1, b2, b3, b4⟩ := ft_bd hiP loP X hX0 hX hh_T
  obtain ⟨u, hu⟩ : ∃ u, (ftR hiP loP X).1.toNat = u := ⟨_, rfl⟩
  obtain ⟨e, he⟩ : ∃ e, (ftR hiP loP X).2 = e := ⟨_, rfl⟩
  have hD : posD hiP loP X = sdH u :: sdL u := by unfold posD; rw [hu]
  have hK : posK hiP loP X = (Lib.nDigits u : Nat) + e := by unfold posK; rw [hu, he]
  rw [hu] at b1
  obtain ⟨d1, d2⟩ := dec_sd u b1
  obtain ⟨D', z, l1, l2⟩ := sd_last u b1
  have hdg := digL_sd u
  rw [hD, hK]
  obtain ⟨D, hDD⟩ : ∃ D, sdH u :: sdL u = D := ⟨_, rfl⟩
  rw [hDD] at d1 d2 l1 hdg ⊢
  rw [dec_dval] at d1
  obtain ⟨t, ht⟩ : ∃ t, t = Lib.nDigits u - D.length := ⟨_, rfl⟩
  rw [← ht] at d1
  have hue : nx u e = X ∧ u < 100000000000000000 := by
    rcases s3 with h | ⟨k', h1, h2⟩
    · rw [h] at hu he
      have hu' : k = u := by
        have : ((k : Int)).toNat = u := hu
        omega
      have he' : -P = e := he
      rw [← hu', ← he']
      exact ⟨s1, s2⟩
    · rw [h2] at hu he
      have hu' : k' = u := by
        have : ((k' : Int)).toNat = u := hu
        omega
      have he' : -(P - 1) = e := he
      rw [← hu', ← he']
      refine ⟨?_, by omega⟩
      have := nx_shift k' 1 (-P)
      rw [Nat.pow_one, ← h1, s1] at this
      rw [this, show -P + ((1 : Nat) : Int) = -(P - 1) by omega]
  obtain ⟨hue, hu17⟩ := hue
  have hn17 := nd_17 u b1 hu17
  refine ⟨by omega, ?_, D', z, l1, l2, fun hbad => ?_⟩
  · have := nx_shift (dval D) t e
    rw [← d1, hue] at this
    rw [this, show ((Lib.nDigits u : Nat) : Int) + e - D.length = e + (t : Int) by omega]
  · have hlen : D.length = D'.length + 1 := by rw [l1, List.length_append]; rfl
    have hz := hdg z (by rw [l1]; simp)
    have hz2 := (isD_iff z).1 hz
    have hz48 : z.toNat ≠ 48 := fun h => l2 ((u8_eq z 48 (by decide)).2 h)
    have hdv : dval D = dval D' * 10 + (z.toNat - 48) := by
      rw [l1, dval_app, dval_cons]
      show _ = _
      simp [dval]
    rw [show ((Lib.nDigits u : Nat) : Int) + e - D'.length = e + (t + 1 : Nat) by omega] at hbad
    rw [← nx_shift] at hbad
    rcases s3 with h | ⟨k', h1, h2⟩
    · rw [h] at he
      have he' : -P = e := he
      rw [← he', Nat.pow_succ, ← Nat.mul_assoc, Nat.mul_comm _ 10] at hbad
      have := s4 _ hbad
      rw [h] at this
      have h9 := (Prod.mk.inj this).2
      omega
    · rw [h2] at he hu
      have he' : -(P - 1) = e := he
      have hu' : k' = u := by
        have : ((k' : Int)).toNat = u := hu
        omega
      rw [← he', show -(P - 1) = -P + ((1 : Nat) : Int) by omega, ← nx_shift, Nat.pow_one, Nat.mul_comm _ 10] at hbad
      have := s4 _ hbad
      rw [h2] at this
      have h9 := (Prod.mk.inj this).1
      have h10 : u = dval D' * 10 ^ (t + 1) := by rw [← hu']; exact Int.ofNat.inj h9
      rw [h10, Nat.pow_succ, Nat.mul_comm (10 ^ t), ← Nat.mul_assoc] at d1
      have h11 := Nat.eq_of_mul_eq_mul_right (Nat.pow_pos (by decide)) d1
      omega
theorem pos_first (X : Nat) (hX0 : 0 < X) (hX : X < 9218868437227405312) : DigL (posD hiP loP X) ∧ (sdH (ftR hiP loP X).1.toNat).toNat ≠ 48 :=
  ⟨digL_sd _, sd_first _ (ft_bd hiP loP X hX0 hX hh_T).1⟩
/-- a positive float's text -/
theorem pos_says (X : Nat) (hX0 : 0 < X) (hX : X < 9218868437227405312) : SaysQ (posT hiP loP X) (dval (posD hiP loP X)) (posK hiP loP X - (posD hiP loP X).length) := by
  obtain ⟨p1, p2, p3, p4⟩ := pos_bd hiP loP X hX0 hX hh_T
  obtain ⟨f1, f2⟩ := pos_first X hX0 hX
  exact says_laid (posD hiP loP X) (posK hiP loP X) f1 _ _ rfl f2 p2 (by omega) (by omega)
theorem read_pos (X : Nat) (hX0 : 0 < X) (hX : X < 9218868437227405312) : decR (posT hiP loP X) = (X, 0) ∧ decR (45 :: posT hiP loP X) = (9223372036854775808 + X, 0) :=
  says_r (pos_says X hX0 hX) (pos_all X hX0 hX).2.1 hX0 hX
theorem read_0 : decR [48] = (0, 0) := by decide +kernel
/-- a number's text, read -/
theorem read_prT (x : Nat) (hx : x < 18446744073709551616) (h : prOk x = true) : decR (prT hiP loP x) = (x, 0) := by
  have hr : rightF x = true := by
    unfold prOk at h
    rw [Bool.and_eq_true] at h
    exact h.1
  obtain ⟨f1, f2⟩ := right_word hx hr
  unfold prT
  rw [if_pos h]
  by_cases h0 : x = 0
  · rw [if_pos h0, h0]
    exact read_0
  · rw [if_neg h0]
    by_cases hn : 9223372036854775808 ≤ x
    · rw [if_pos hn, (read_pos _ (by omega) (by omega)).2, show 9223372036854775808 + (x - 9223372036854775808) = x by omega]
    · rw [if_neg hn]
      exact (read_pos _ (by omega) (by omega)).1
end Go.Proofs.YtejmbbkklhpnaaaGreatDoor.rdf

/- The walks of strconv.ParseFloat and of decimal.Parse at any text. Conditions: as each theorem states. -/
namespace Go.Proofs.YtejmbbkklhpnaaaGreatDoor.rdf
open Go.RowKit
open Go.Proofs.YtejmbbkklhpnaaaGreatDoor.bsw
open Go.Proofs.YtejmbbkklhpnaaaGreatDoor.prnw
open Go.Proofs.YtejmbbkklhpnaaaGreatDoor.dcw
open Go.Proofs.YtejmbbkklhpnaaaGreatDoor.dmx
open Go.Proofs.YtejmbbkklhpnaaaGreatDoor.fpm
open Go.Proofs.YtejmbbkklhpnaaaGreatDoor.flatm
open Go.Proofs.YtejmbbkklhpnaaaGreatDoor.nodew
attribute [local go_sem] fo_eq

/-- what decimal.Parse reads, in blocks below B -/
structure DE (B : Nat) (w : World) : Prop extends NE B w where
  eb : 4 < B
  er : ∃ v, w.cell? ⟨4, 0, none⟩ = some v ∧ (v = .nilIface ∨ ∃ te pe, v = .iface te pe)
theorem DE.below {B : Nat} {w w' : World} (h : DE B w) (hb : Below w.heap.size w w') : DE B w' := by
  obtain ⟨v, h1, h2⟩ := h.er
  exact ⟨h.toNE.below hb, h.eb, v, (hb.cell (Nat.lt_of_lt_of_le h.eb h.lt)).trans h1, h2⟩
theorem fo_0 (s : Bool) (X : Nat) (hX : X < infW) : (fo (sgn s X) 0 == some .eq) = decide (X = 0) := by
  have hi := infW_eq
  have hm : sgn s X % 9223372036854775808 = X := by
    unfold sgn
    split <;> omega
  rw [fo_sv (by rw [hm]; omega) (by decide), sv_zero, sv_sgn s X hX]
  by_cases h0 : X = 0
  · rw [decide_eq_true h0, h0, val_low (by decide)]
    cases s <;> rfl
  · have := val_pos (Nat.pos_of_ne_zero h0)
    rw [decide_eq_false h0, Int.compare_eq_ite_lt]
    cases s
    · rw [show (if (false : Bool) = true then -(valR X : Int) else (valR X : Int)) = (valR X : Int) from rfl, if_neg (by omega), if_pos (by omega)]
      rfl
    · rw [show (if (true : Bool) = true then -(valR X : Int) else (valR X : Int)) = -(valR X : Int) from rfl, if_pos (by omega)]
      rfl
section
variable (B : Nat) (s : ByteArray) (neg : Bool) (x : MS) (rest : List UInt8) (ex : Int) (h : RfOk s neg x rest ex) (hnd : x.nd ≤ 30) (w : World)
include h hnd
theorem prefix_any (hN : NE B w) :
    Calls Tryz.prog 182 #[.string s, .int .i64 64] w (AtPost w neg (nx x.N (dpX x + ex - x.nd)) s.size) := by
  have hA := atof_any B s neg x rest ex h hnd w hN
  obtain ⟨F, E, k1, k2, k3⟩ := pk_parts neg (nx x.N (dpX x + ex - x.nd)) s.size
  have hA2 : Calls Tryz.prog 189 #[.string s] w fun e w' => e = .returned (.tuple #[.float .f64 F, .int .i64 (s.size : Nat), E]) ∧ Below w.heap.size w w' := by
    unfold AtPost at hA
    rw [k2] at hA
    exact hA
  have HA := Lib.hid hA2
  have HK := Lib.hid k2
  clear hA hA2 k1 k2 k3 hN h hnd
  go_enter Tryz.func182, Tryz.ntmps182
  go_wp2_with (go_at_call 189; (with_reducible refine HA.out.mono ?_); rintro e w1 ⟨rfl, hw1⟩; have HB1 := Lib.hid hw1; clear hw1)
  go_ret3
  exact ⟨congrArg Ending.returned HK.out.symm, HB1.out⟩
theorem iparse_any (hN : NE B w) :
    Calls Tryz.prog 153 #[.string s, .int .i64 64] w fun e w' => e = .returned (pkV neg (nx x.N (dpX x + ex - x.nd))) ∧ Below w.heap.size w w' := by
  have hA := prefix_any B s neg x rest ex h hnd w hN
  obtain ⟨F, E, k1, k2, k3⟩ := pk_parts neg (nx x.N (dpX x + ex - x.nd)) s.size
  have hA2 : Calls Tryz.prog 182 #[.string s, .int .i64 64] w fun e w' => e = .returned (.tuple #[.float .f64 F, .int .i64 (s.size : Nat), E]) ∧ Below w.heap.size w w' := by
    unfold AtPost at hA
    rw [k2] at hA
    exact hA
  have HA := Lib.hid hA2
  have HK := Lib.hid k1
  clear hA hA2 k1 k2 k3 hN h hnd
  go_enter Tryz.func153, Tryz.ntmps153
  go_wp2_with (go_at_call 182; (with_reducible refine HA.out.mono ?_); rintro e w1 ⟨rfl, hw1⟩; have HB1 := Lib.hid hw1; clear hw1)
  go_ret2
  exact ⟨congrArg Ending.returned HK.out.symm, HB1.out⟩
theorem sparse_any (hN : DE B w) :
    Calls Tryz.prog 114 #[.string s, .int .i64 64] w fun e w' => (∃ E, e = .returned (.tuple #[.float .f64 (sgn neg (min (nx x.N (dpX x + ex - x.nd)) infX)), E]) ∧ if infX ≤ nx x.N (dpX x + ex - x.nd) then ∃ t p, E = .iface t p else E = .nilIface) ∧ Below w.heap.size w w' := by
  have hA := iparse_any B s neg x rest ex h hnd w hN.toNE
  have hsz := h.sz
  obtain ⟨X, hX⟩ : ∃ X, nx x.N (dpX x + ex - x.nd) = X := ⟨_, rfl⟩
  rw [hX] at hA ⊢
  obtain ⟨F, hF⟩ : ∃ F, sgn neg (min X infX) = F := ⟨_, rfl⟩
  unfold pkV at hA
  rw [hF] at hA ⊢
  by_cases hc : infX ≤ X
  · rw [if_pos hc] at hA
    have CT : ∀ W, DE B W → Calls Tryz.prog 73 #[.string ⟨#[80, 97, 114, 115, 101, 70, 108, 111, 97, 116]⟩, .string s, .int .i64 0, .int .i64 64, .iface 160 (.int .i64 1)] W fun e w' => (∃ M : Nat, e = .returned (.iface 163 (.pointer (some ⟨M, 0, none⟩)))) ∧ Below W.heap.size W w' := fun W hW => by
      obtain ⟨v, e1, e2⟩ := hW.er
      refine (Tryz.strconv_toError_range ⟨#[80, 97, 114, 115, 101, 70, 108, 111, 97, 116]⟩ s 0 64 v W (by omega) e1 e2).mono ?_
      rintro e w' ⟨M, h1, -, -, h2⟩
      exact ⟨⟨M, h1⟩, h2⟩
    have HA := Lib.hid hA
    have HN := Lib.hid hN
    have HT := Lib.hid CT
    have HC := Lib.hid hc
    clear hA hN CT hc hX hF h hnd
    go_enter Tryz.func114, Tryz.ntmps114
    go_upto_region 2 with (go_at_call 153; (with_reducible refine HA.out.mono ?_); rintro e w1 ⟨rfl, hw1⟩; have HB1 := Lib.hid hw1; clear hw1)
    have HN1 := Lib.hid (HN.out.below HB1.out)
    go_wp2_with (go_at_call 73; (with_reducible refine (HT.out _ HN1.out).mono ?_); rintro e w2 ⟨⟨M, rfl⟩, hw2⟩; have HB2 := Lib.hid hw2; clear hw2)
    go_ret2
    exact ⟨⟨_, rfl, _, _, rfl⟩, HB1.out.trans (HB2.out.mono HB1.out.size)⟩
  · rw [if_neg hc] at hA
    have HA := Lib.hid hA
    have HC := Lib.hid hc
    clear hA hN hc hX hF h hnd
    go_enter Tryz.func114, Tryz.ntmps114
    go_wp2_with (go_at_call 153; (with_reducible refine HA.out.mono ?_); rintro e w1 ⟨rfl, hw1⟩; have HB1 := Lib.hid hw1; clear hw1)
    go_ret2
    exact ⟨rfl, HB1.out⟩
end
def DqPost (w : World) (r : Nat × Nat) (e : Ending) (w' : World) : Prop := e = .returned (.tuple #[.float .f64 r.1, .int .i64 ((r.2 : Nat) : Int)]) ∧ Below w.heap.size w w'
theorem dparse_any (B : Nat) (s : ByteArray) (w : World) (hN : DE B w) : Calls Tryz.prog 81 #[.string s] w (DqPost w (decR s.data.toList)) := by
  have CR := right_any s w
  cases hr : rightL s.data.toList with
  | false =>
    have hd : decR s.data.toList = (0, 160) := by unfold decR; rw [hr, if_neg (by decide)]
    rw [hd]
    rw [hr] at CR
    have HR := Lib.hid CR
    clear CR hd hr hN
    go_enter Tryz.func81, Tryz.ntmps81
    go_wp2_with (go_at_call 113; (with_reducible refine HR.out.mono ?_); rintro e w1 ⟨rfl, hw1⟩; have HB1 := Lib.hid hw1; clear hw1)
    go_ret2
    exact ⟨rfl, HB1.out⟩
  | true =>
    obtain ⟨hrf, hnd⟩ := right_rf s hr
    have CP := fun W hW => sparse_any B s _ _ _ _ hrf hnd W hW
    obtain ⟨r, hrr⟩ : ∃ r, decR s.data.toList = r := ⟨_, rfl⟩
    have hd : r = if infX ≤ decW s.data.toList then (0, 10) else if decW s.data.toList = 0 then (0, 0) else (sgn (sgL s.data.toList) (decW s.data.toList), 0) := by
      rw [← hrr]
      unfold decR
      rw [hr, if_pos rfl]
    rw [hrr]
    rw [hr] at CR
    have e0 : nx (msL s.data.toList).N (dpX (msL s.data.toList) + exL s.data.toList - (msL s.data.toList).nd) = decW s.data.toList := rfl
    rw [e0] at CP
    obtain ⟨X, hX⟩ : ∃ X, decW s.data.toList = X := ⟨_, rfl⟩
    obtain ⟨neg, hneg⟩ : ∃ neg, sgL s.data.toList = neg := ⟨_, rfl⟩
    rw [hX, hneg] at CP hd
    obtain ⟨F, hF⟩ : ∃ F, sgn neg (min X infX) = F := ⟨_, rfl⟩
    rw [hF] at CP
    have HR := Lib.hid CR
    have HN := Lib.hid hN
    clear hrf hnd hrr hr CR hN e0 hX hneg
    by_cases hc : infX ≤ X
    · rw [if_pos hc] at hd
      subst hd
      simp only [if_pos hc] at CP
      have HP := Lib.hid CP
      clear CP hc hF
      go_enter Tryz.func81, Tryz.ntmps81
      go_upto_region 3 with (go_at_call 113; (with_reducible refine HR.out.mono ?_); rintro e w1 ⟨rfl, hw1⟩; have HB1 := Lib.hid hw1; clear hw1)
      have HN1 := Lib.hid (HN.out.below HB1.out)
      go_wp2_with (go_at_call 114; (with_reducible refine (HP.out _ HN1.out).mono ?_); rintro e w2 ⟨⟨E, rfl, t, p, rfl⟩, hw2⟩; have HB2 := Lib.hid hw2; clear hw2)
      go_ret2
      exact ⟨rfl, HB1.out.trans (HB2.out.mono HB1.out.size)⟩
    · rw [if_neg hc] at hd
      simp only [if_neg hc] at CP
      have hXi : X < infW := by have : infX = infW := rfl; omega
      rw [Nat.min_eq_left (by omega)] at hF
      have hfo := fo_0 neg X hXi
      rw [hF] at hfo
      have HP := Lib.hid CP
      by_cases h0 : X = 0
      · rw [if_pos h0] at hd
        subst hd
        rw [decide_eq_true h0] at hfo
        clear CP hc hF h0 hXi
        go_enter Tryz.func81, Tryz.ntmps81
        go_upto_region 3 with (go_at_call 113; (with_reducible refine HR.out.mono ?_); rintro e w1 ⟨rfl, hw1⟩; have HB1 := Lib.hid hw1; clear hw1)
        have HN1 := Lib.hid (HN.out.below HB1.out)
        go_wp2_with (go_at_call 114; (with_reducible refine (HP.out _ HN1.out).mono ?_); rintro e w2 ⟨⟨E, rfl, rfl⟩, hw2⟩; have HB2 := Lib.hid hw2; clear hw2)
        go_ret2
        exact ⟨rfl, HB1.out.trans (HB2.out.mono HB1.out.size)⟩
      · rw [if_neg h0, hF] at hd
        subst hd
        rw [decide_eq_false h0] at hfo
        clear CP hc hF h0 hXi
        go_enter Tryz.func81, Tryz.ntmps81
        go_upto_region 3 with (go_at_call 113; (with_reducible refine HR.out.mono ?_); rintro e w1 ⟨rfl, hw1⟩; have HB1 := Lib.hid hw1; clear hw1)
        have HN1 := Lib.hid (HN.out.below HB1.out)
        go_wp2_with (go_at_call 114; (with_reducible refine (HP.out _ HN1.out).mono ?_); rintro e w2 ⟨⟨E, rfl, rfl⟩, hw2⟩; have HB2 := Lib.hid hw2; clear hw2)
        go_ret2
        exact ⟨rfl, HB1.out.trans (HB2.out.mono HB1.out.size)⟩
end Go.Proofs.YtejmbbkklhpnaaaGreatDoor.rdf

/- decimal.Parse at any text, as the other texts ask for it. Condition: seven of the library's variables hold what the program's text lays. -/
namespace Go.Proofs.YtejmbbkklhpnaaaGreatDoor.flow
open Go.RowKit
open Go.Proofs.YtejmbbkklhpnaaaGreatDoor.parw
open Go.Proofs.YtejmbbkklhpnaaaGreatDoor.rdf

/-- what the variables hold, in blocks below B -/
def Laid (B : Nat) (w : World) : Prop := DE B w
theorem Laid.stable (B : Nat) : Stable (Laid B) B := by
  intro w w' row h hg hr
  have hk : ∀ (p : Addr) (v : Value), p.block < B → w.cell? p = some v → w'.cell? p = some v := fun p v hp hv =>
    (World.cell?_of_block (hg.block p.block (World.block_lt_of_cell? w _ hv) (fun e => by have := hr _ e.symm; omega))).trans hv
  obtain ⟨v, h1, h2⟩ := h.er
  exact ⟨⟨h.ev.keep hk, h.ft.keep hk, fun i hi => by
    obtain ⟨a1, a2, a3, a4⟩ := h.pt i hi
    exact ⟨a1, a2, hk _ _ h.pb a3, hk _ _ h.pb a4⟩, h.pb, h.ob, hk _ _ h.ob h.op, Nat.le_trans h.lt hg.size⟩, h.eb, v, hk _ _ h.eb h1, h2⟩
/-- what decimal.Parse says -/
def decE (s : ByteArray) : Nat × Nat := decR s.data.toList
theorem dparse_e (B : Nat) (s : ByteArray) (w : World) (h : Laid B w) : Calls Tryz.prog 81 #[.string s] w (DecPost (decE s) w) := dparse_any B s w h
theorem dec_ok (B : Nat) (ts : List PTok) : DecOk decE (Laid B) ts := fun t _ _ w hw => dparse_e B t.text w hw
end Go.Proofs.YtejmbbkklhpnaaaGreatDoor.flow

/- Slices of tokens that come in, and what an append of them does; the same of statements that parse.Parse hands back. Conditions: as each theorem states. -/
namespace Go.Proofs.YtejmbbkklhpnaaaGreatDoor.pft
open Go.RowKit
open Go.Proofs.YtejmbbkklhpnaaaGreatDoor.lexw
open Go.Proofs.YtejmbbkklhpnaaaGreatDoor.parw
open Go.ChangeShapes Go.WideShapes Go.Deep

theorem own_new (W : World) (B base : Nat) (hB : W.heap.size = B) (hb : base ≤ B) (t : TypeId) (size n : Nat) (cs : List Value) (hl : cs.length = n * size) (hn : n ≤ maxLen) : (W.alloc (.cells cs.toArray t)).ownsRow base t size (.slice (some ⟨B, 0, none⟩) n n) n cs := by
  subst hB
  exact ⟨hl, .inr ⟨_, n, cs.toArray, rfl, hb, heap_alloc_new W _, Nat.le_refl _, hn, by simpa using hl, by simp [← hl]⟩⟩
/-- a slice of tokens, in blocks below B, no longer than its capacity -/
def TArg (W : World) (B : Nat) (v : Value) (ts : List PTok) : Prop :=
  ∃ A c, v = .slice A ts.length c ∧ ts.length ≤ c ∧ (A = none → c = 0) ∧ (ts ≠ [] → ∃ g off, A = some ⟨g, off, none⟩ ∧ g < B ∧ g < W.heap.size ∧ ∀ j u, (pcells ts)[j]? = some u → W.cell? ⟨g, off + j, none⟩ = some u)
theorem TArg.ext {W u : World} {B : Nat} {v : Value} {ts : List PTok} (h : TArg W B v ts) (hb : Below W.heap.size W u) : TArg u B v ts := by
  obtain ⟨A, c, hv, hc, hn, hx⟩ := h
  refine ⟨A, c, hv, hc, hn, fun h0 => ?_⟩
  obtain ⟨g, off, hA, hB, hgl, hx⟩ := hx h0
  exact ⟨g, off, hA, hB, by have := hb.size; omega, fun j u hu => (World.cell?_of_block (a := ⟨g, off + j, none⟩) (hb.block g hgl)).trans (hx j u hu)⟩
theorem TArg.row {W : World} {B : Nat} {v : Value} {ts : List PTok} (h : TArg W B v ts) (_hB : B ≤ W.heap.size) : PRow W W.heap.size v ts := by
  obtain ⟨A, c, hv, hc, hn, hx⟩ := h
  refine ⟨A, c, hv, hc, fun h0 => ?_⟩
  obtain ⟨g, off, hA, hg, _, hx⟩ := hx h0
  exact ⟨g, off, hA, by omega, hx⟩
theorem TArg.form {W : World} {B : Nat} {v : Value} {ts : List PTok} (h : TArg W B v ts) : ∃ A c, v = .slice A ts.length c := by
  obtain ⟨A, c, hv, _⟩ := h
  exact ⟨A, c, hv⟩
theorem TArg.of_own {W : World} {base : Nat} {v : Value} {ts : List PTok} (h : W.ownsRow base 31 3 v ts.length (pcells ts)) : TArg W W.heap.size v ts := by
  rcases h.2 with ⟨rfl, hn⟩ | ⟨g, cap, cur, rfl, _, hgg, hc, _⟩
  · exact ⟨none, 0, by rw [hn], by rw [hn]; exact Nat.le_refl _, fun _ => rfl, fun h0 => absurd (List.eq_nil_of_length_eq_zero hn) h0⟩
  · refine ⟨_, cap, rfl, hc, fun h0 => by simp at h0, fun _ => ⟨g, 0, rfl, (Array.getElem?_eq_some_iff.1 hgg).1, (Array.getElem?_eq_some_iff.1 hgg).1, fun j u hu => ?_⟩⟩
    have hc := h.cells (g := g) rfl j u hu
    have hadd : (⟨g, 0, none⟩ : Addr).add j = ⟨g, j, none⟩ := by unfold Addr.add; split <;> simp_all
    rw [hadd] at hc
    rw [Nat.zero_add]
    exact hc
theorem TArg.one (w : World) (t : PTok) (u : World) (hu : u.heap[w.heap.size]? = some (.cells t.cells.toArray 31 (0, 0))) : TArg u u.heap.size (.slice (some ⟨w.heap.size, 0, none⟩) 1 1) [t] := by
  have hl := (Array.getElem?_eq_some_iff.1 hu).1
  refine ⟨_, 1, rfl, Nat.le_refl _, fun h => by simp at h, fun _ => ⟨w.heap.size, 0, rfl, hl, hl, fun j v hv => ?_⟩⟩
  rw [cell_of_row u w.heap.size _ _ _ _ hu, Nat.zero_add]
  simpa [pcells] using hv
theorem pcells_one (ts : List PTok) : ∀ u ∈ pcells ts, u.oneCell' = true := by
  intro u hu
  obtain ⟨t, _, ht⟩ := List.mem_flatMap.1 hu
  simp only [PTok.cells, List.mem_cons, List.not_mem_nil, or_false] at ht
  rcases ht with rfl | rfl | rfl <;> rfl
theorem tokInfo : (Tryz.prog.info? 31).map (fun i => (i.zero, i.size, i.bytes)) = some (some (.agg #[.int .u8 0, .int .i64 0, .string ⟨#[]⟩]), 3, 32) := by kernel_rfl
theorem tapp_run {w : World} (base : Nat) (v : Value) (n : Nat) (xs : List Value) (hown : w.ownsRow base 31 3 v n xs)
    (B : Nat) (sv : Value) (l : List PTok) (hr : TArg w B sv l) (hn : n + l.length ≤ 1000000) (hbase : base ≤ w.heap.size) :
    ∃ v' w', (∀ (o : Oper) (a : Act) (s x : Operand), o.op = .call { callee := .builtin .append, args := #[s, x], argTypes := #[25, 25] } → a.eval s = v → a.eval x = sv → (execOp a.eval o).run Tryz.prog w = .ok (.value v') w') ∧
      w'.ownsRow base 31 3 v' (n + l.length) (xs ++ pcells l) ∧ w.grownBy w' v.ownBlock := by
  obtain ⟨i0, hi0, hz0, hz1, hz2⟩ := info_parts tokInfo
  obtain ⟨A, c, rfl, hc, hnil, hcell⟩ := hr
  cases A with
  | none =>
    have h0 := hnil rfl
    have hl0 : l.length = 0 := by omega
    obtain rfl := List.eq_nil_of_length_eq_zero hl0
    subst h0
    refine ⟨v, w, fun o a s x ho hs hx => ?_, by simpa [pcells] using hown, World.grownBy.refl _ _⟩
    have hrun := run_append_owned_none (P := Tryz.prog) (w := w) base 25 o.type 31 i0 3 Tryz.underlying25 hi0 v n xs hown
    have hx' : a.eval x = .slice none 0 0 := hx
    unfold execOp
    simp only [ho, resolve, invoke, builtin, Sem.run_bind, Sem.run_pure, Result.andThen_ok, List.map_toArray, List.map_cons, List.map_nil, hs, hx', hrun]
  | some ad =>
    obtain ⟨v', w', hrun, h2, h3, _⟩ := run_append_own (P := Tryz.prog) w base 25 0 31 i0 _ 3 32 Tryz.underlying25 hi0 hz0 hz1 hz2 rfl (by omega) v n xs hown ad l.length c (pcells l) (by
        induction l with
        | nil => rfl
        | cons a r ih => exact pcells_length (a :: r))
      (fun j u hu => by
        obtain ⟨g, off, e, _, _, hx⟩ := hcell (by intro e; subst e; simp [pcells] at hu)
        obtain rfl := Option.some.inj e
        have hadd : (⟨g, off, none⟩ : Addr).add j = ⟨g, off + j, none⟩ := by unfold Addr.add; split <;> simp_all
        rw [hadd]; exact hx j u hu) (pcells_one l) (by unfold maxLen; omega) (by omega) hbase
    refine ⟨v', w', fun o a s x ho hs hx => ?_, h2, h3⟩
    have hrun' : (Builtin.append_ #[25, 25] o.type #[v, .slice (some ad) l.length c]).run Tryz.prog w = .ok v' w' := hrun
    unfold execOp
    simp only [ho, resolve, invoke, builtin, Sem.run_bind, Sem.run_pure, Result.andThen_ok, List.map_toArray, List.map_cons, List.map_nil, hs, hx, hrun']
theorem tbs0_run (w : World) : (Instr.buildSlice 25 0 #[]).run Tryz.prog w = .ok (.slice (some ⟨w.heap.size, 0, none⟩) 0 0) (w.alloc (.cells #[] 31)) := by
  kernel_rfl
theorem exec_tbs0 {o : Oper} (ho : o.op = .buildSlice 25 0 #[]) (a : Act) (w : World) : (execOp a.eval o).run Tryz.prog w = .ok (.value (.slice (some ⟨w.heap.size, 0, none⟩) 0 0)) (w.alloc (.cells #[] 31)) := by
  unfold execOp
  simp only [ho, Sem.run_bind, List.map_toArray, List.map_nil, tbs0_run, Result.andThen_ok, Sem.run_pure]
theorem own_tbs0 (w : World) (base : Nat) (hb : base ≤ w.heap.size) : (w.alloc (.cells #[] 31)).ownsRow base 31 3 (.slice (some ⟨w.heap.size, 0, none⟩) 0 0) 0 [] :=
  own_new w w.heap.size base rfl hb _ 3 0 [] rfl (by decide)
theorem tbs1_run (t : PTok) (w : World) : (Instr.buildSlice 25 1 #[(0, t.val)]).run Tryz.prog w = .ok (.slice (some ⟨w.heap.size, 0, none⟩) 1 1) (w.alloc (.cells t.cells.toArray 31)) := by
  kernel_rfl
theorem exec_tbs1 {o : Oper} (x : Operand) (ho : o.op = .buildSlice 25 1 #[(0, x)]) (a : Act) (w : World) (t : PTok) (hx : a.eval x = t.val) :
    (execOp a.eval o).run Tryz.prog w = .ok (.value (.slice (some ⟨w.heap.size, 0, none⟩) 1 1)) (w.alloc (.cells t.cells.toArray 31)) := by
  unfold execOp
  simp only [ho, Sem.run_bind, List.map_toArray, List.map_cons, List.map_nil, hx, tbs1_run, Result.andThen_ok, Sem.run_pure]
/-! statements -/
/-- a slice of statements, in blocks below B, no longer than its capacity; vs: what their slices of arguments are -/
def SArg (W : World) (B : Nat) (v : Value) (l : List PStmt) (vs : List Value) : Prop :=
  vs.length = l.length ∧ (∃ A c, v = .slice A l.length c ∧ l.length ≤ c ∧ (A = none → c = 0) ∧ (l ≠ [] → ∃ g off, A = some ⟨g, off, none⟩ ∧ g < B ∧ g < W.heap.size ∧ ∀ j u, (scells l vs)[j]? = some u → W.cell? ⟨g, off + j, none⟩ = some u)) ∧
    ∀ i (h1 : i < vs.length) (h2 : i < l.length), ARead W B vs[i] l[i].args ∧ vs[i].oneCell' = true
theorem SArg.read {W : World} {B : Nat} {v : Value} {l : List PStmt} {vs : List Value} (h : SArg W B v l vs) : SRead W B v l := by
  obtain ⟨hl, ⟨A, c, hv, hc, hn, hx⟩, ha⟩ := h
  refine ⟨vs, A, c, hl, hv, fun h0 => ?_, fun i h1 h2 => (ha i h1 h2).1⟩
  obtain ⟨g, off, hA, hB, _, hx⟩ := hx h0
  exact ⟨g, off, hA, hB, hx⟩
theorem aread_mono {W : World} {B B' : Nat} {v : Value} {l : List PArg} (h : ARead W B v l) (hb : B ≤ B') : ARead W B' v l := by
  obtain ⟨A, c, hv, hx⟩ := h
  refine ⟨A, c, hv, fun h0 => ?_⟩
  obtain ⟨g, off, hA, hg, hcell⟩ := hx h0
  exact ⟨g, off, hA, by omega, hcell⟩
section
variable {H : Type} {enc : TypeId × Value → H} {w : World} {base : Nat} {held : Bool}
/-- a slice whose elements are rows of k cells -/
theorem rows_of {t e : TypeId} {k : Nat} (ht : Tryz.prog.underlying t = some (.slice e)) (hC : Tryz.prog.cellsOf e = k) {α : Type} (f : α → List Value) (hlen : ∀ a, (f a).length = k) (hk : 0 < k) (Pr : α → Prop)
    (hel : ∀ (fuel : Nat) (cs : List Value) (x : DataW H × List MemPlace), DataW.trod enc Tryz.prog w base (fun _ => true) held fuel e cs = some x → ∃ a, cs = f a ∧ Pr a)
    {fuel : Nat} {v : Value} {x : DataW H × List MemPlace} (h : DataW.trod enc Tryz.prog w base (fun _ => true) held fuel t [v] = some x) :
    ∃ l : List α, (∃ A c, v = .slice A l.length c ∧ l.length ≤ c ∧ (A = none → c = 0) ∧ (l ≠ [] → ∃ g off, A = some ⟨g, off, none⟩ ∧ g < w.heap.size ∧ ∀ j u, (l.flatMap f)[j]? = some u → w.cell? ⟨g, off + j, none⟩ = some u)) ∧ ∀ a ∈ l, Pr a := by
  rcases open_slice ht h with ⟨hcs, _⟩ | ⟨a, len, cap, m, n, D, Pl, hcs, hb, hl, hm, hmm, hx, hi⟩
  · simp only [List.cons.injEq, and_true] at hcs
    exact ⟨[], ⟨none, 0, hcs, by simp, fun _ => rfl, fun h => absurd rfl h⟩, (fun y hy => by cases hy)⟩
  · simp only [List.cons.injEq, and_true] at hcs
    have hml : len ≤ m := by rw [hmm]; simp; exact hl
    have hnd : ∀ i, i < len → ∃ y : α, Pr y ∧ ∀ j u, (f y)[j]? = some u → w.cell? (a.add (i * k + j)) = some u := fun i hil => by
      obtain ⟨cs', hc, ht⟩ := hi i (by omega)
      rw [hC] at hc
      obtain ⟨y, hy, hyo⟩ := hel _ _ _ ht
      obtain ⟨_, hcl, hat⟩ := World.cells?_some hc
      refine ⟨y, hyo, fun j u hu => ?_⟩
      have hj : j < k := by have := (List.getElem?_eq_some_iff.1 hu).1; rwa [hlen] at this
      have := hat j hj
      rw [Go.Deep.add_add] at this
      rw [this, hy]
      exact hu
    have flen : ∀ l : List α, (l.flatMap f).length = l.length * k := by
      intro l
      induction l with
      | nil => simp
      | cons y r ih => rw [List.flatMap_cons, List.length_append, ih, hlen, List.length_cons, Nat.add_mul]; omega
    have hall : ∀ q, q ≤ len → ∃ l : List α, l.length = q ∧ (∀ y ∈ l, Pr y) ∧ ∀ j u, (l.flatMap f)[j]? = some u → w.cell? (a.add j) = some u := by
      intro q
      induction q with
      | zero => exact fun _ => ⟨[], rfl, (fun y hy => by cases hy), (fun j u hu => by simp at hu)⟩
      | succ q ih =>
        intro hq
        obtain ⟨l, hll, hlo, hlc⟩ := ih (by omega)
        obtain ⟨y, hyo, hyc⟩ := hnd q (by omega)
        refine ⟨l ++ [y], by rw [List.length_append, hll]; rfl, fun z hz => ?_, fun j u hu => ?_⟩
        · rcases List.mem_append.1 hz with hz | hz
          · exact hlo z hz
          · have : z = y := by simpa using hz
            rw [this]; exact hyo
        · rw [List.flatMap_append] at hu
          by_cases hj : j < (l.flatMap f).length
          · rw [List.getElem?_append_left hj] at hu; exact hlc j u hu
          · rw [List.getElem?_append_right (by omega)] at hu
            have hu' : (f y)[j - (l.flatMap f).length]? = some u := by simpa using hu
            have := hyc _ u hu'
            rw [flen, hll] at this hj
            rwa [show q * k + (j - q * k) = j by omega] at this
    obtain ⟨l, hll, hlo, hlc⟩ := hall len (Nat.le_refl _)
    refine ⟨l, ⟨some a, cap, by rw [hcs, hll], by omega, fun h => by simp at h, fun h0 => ?_⟩, hlo⟩
    have hpos : 0 < l.length := List.length_pos_iff.2 h0
    have hfp : 0 < (l.flatMap f).length := by rw [flen]; exact Nat.mul_pos hpos hk
    have hc0 := hlc 0 _ (List.getElem?_eq_getElem hfp)
    have ha0 : a.add 0 = a := by unfold Addr.add; simp
    rw [ha0] at hc0
    obtain ⟨g, off, spot⟩ := a
    have hspot : spot = none := by
      cases spot with
      | none => rfl
      | some p => unfold World.cell? at hc0; split at hc0 <;> simp at hc0
    subst hspot
    have hgl : g < w.heap.size := World.block_lt_of_cell? w _ hc0
    refine ⟨g, off, rfl, hgl, fun j u hu => ?_⟩
    have := hlc j u hu
    have hadd : (⟨g, off, none⟩ : Addr).add j = ⟨g, off + j, none⟩ := by unfold Addr.add; split <;> simp_all
    rwa [hadd] at this
theorem cells_u8 : Tryz.prog.cellsOf 5 = 1 := by kernel_rfl
theorem cells_int : Tryz.prog.cellsOf 3 = 1 := by kernel_rfl
theorem cells_str : Tryz.prog.cellsOf 9 = 1 := by kernel_rfl
end
end Go.Proofs.YtejmbbkklhpnaaaGreatDoor.pft

/- burnishlaw17: form. What a statement's tokens are, and which statements have what stands behind their kind. No conditions. -/
namespace Go.Proofs.YtejmbbkklhpnaaaGreatDoor.plw
open Go.RowKit
open Go.Proofs.YtejmbbkklhpnaaaGreatDoor.parw
open Go.Proofs.YtejmbbkklhpnaaaGreatDoor.qt
open Go.Proofs.YtejmbbkklhpnaaaGreatDoor.prnw (Bel bA bA_list prT prOk prE prB print_b hiP loP Env)
open Go.BigFrame

set_option maxHeartbeats 1000000 in
theorem form_any (k : Nat) (w : World) : Calls Tryz.prog 20 #[.int .u8 (k : Nat)] w (Bel w (.string (formB (k % 7)))) := by
  have h7 : k % 7 < 7 := Nat.mod_lt _ (by decide)
  obtain ⟨r, hr⟩ : ∃ r, k % 7 = r := ⟨_, rfl⟩
  rw [hr] at h7 ⊢
  have hi : Int.tmod (k : Int) 7 = (r : Int) := by rw [← hr]; rfl
  have hi2 : (k : Int) % 7 = (r : Int) := by omega
  have H := Lib.hid hr
  clear hr
  have : r = 0 ∨ r = 1 ∨ r = 2 ∨ r = 3 ∨ r = 4 ∨ r = 5 ∨ r = 6 := by omega
  rcases this with rfl | rfl | rfl | rfl | rfl | rfl | rfl
  all_goals
    go_enter Tryz.func20, Tryz.ntmps20
    go_wp2
    go_ret
    exact ⟨rfl, (Below.refl _ _).alloc (Nat.le_refl _) _⟩
/-- a statement's value -/
def stV (s : PStmt) (v : Value) : Value := .agg #[.string s.name, .int .i64 s.pos, .int .u8 (s.kind : Nat), v]
def argFine (b : Bool) (a : PArg) : Bool := if b then prOk a.num && decide (a.name = ⟨#[]⟩) else decide (a.num = 0)
def argsFine : List Bool → List PArg → Bool
  | b :: bs, a :: as_ => argFine b a && argsFine bs as_
  | _, _ => true
def fineS (s : PStmt) : Bool := decide (1 ≤ s.kind) && decide (s.kind ≤ 6) && decide (s.args.length = (formL s.kind).length) && argsFine (formL s.kind) s.args
theorem argsFine_at : ∀ (bs : List Bool) (l : List PArg), bs.length = l.length → argsFine bs l = true → ∀ j (h1 : j < bs.length) (h2 : j < l.length), argFine bs[j] l[j] = true
  | [], [], _, _, j, h1, _ => absurd h1 (Nat.not_lt_zero _)
  | b :: bs, a :: l, hl, h, 0, _, _ => by
    unfold argsFine at h
    rw [Bool.and_eq_true] at h
    exact h.1
  | b :: bs, a :: l, hl, h, j + 1, h1, h2 => by
    unfold argsFine at h
    rw [Bool.and_eq_true] at h
    exact argsFine_at bs l (by simpa using hl) h.2 j (by simpa using h1) (by simpa using h2)
theorem argsFine_all : ∀ (bs : List Bool) (l : List PArg), (∀ j (h1 : j < bs.length) (h2 : j < l.length), argFine bs[j] l[j] = true) → argsFine bs l = true
  | [], _, _ => by unfold argsFine; rfl
  | _ :: _, [], _ => by unfold argsFine; rfl
  | b :: bs, a :: l, h => by
    unfold argsFine
    rw [Bool.and_eq_true]
    exact ⟨h 0 (by simp) (by simp), argsFine_all bs l fun j h1 h2 => h (j + 1) (by simpa using h1) (by simpa using h2)⟩
/-- an argument's cells -/
theorem arg_at {W : World} {B : Nat} {A : Option Addr} {c : Nat} {l : List PArg} (h : ARead W B (.slice A l.length c) l) (i : Nat) (hi : i < l.length) :
    ∃ g off, A = some ⟨g, off, none⟩ ∧ g < B ∧ W.cell? ⟨g, off + i * 3, none⟩ = some (.int .i64 l[i].pos) ∧ W.cell? ⟨g, off + i * 3 + 1, none⟩ = some (.float .f64 l[i].num) ∧ W.cell? ⟨g, off + i * 3 + 2, none⟩ = some (.string l[i].name) := by
  obtain ⟨A', c', hv, hx⟩ := h
  injection hv with e1 e2 e3
  subst e1
  obtain ⟨g, off, hA, hg, hx⟩ := hx (by intro e; rw [e] at hi; simp at hi)
  have key : ∀ (l : List PArg) (i : Nat) (hi : i < l.length) (j : Nat), j < 3 → (acells l)[i * 3 + j]? = l[i].cells[j]? := by
    intro l
    induction l with
    | nil => intro i hi; simp at hi
    | cons t r ih =>
      intro i hi j hj
      have e0 : acells (t :: r) = t.cells ++ acells r := rfl
      rw [e0]
      cases i with
      | zero =>
        rw [Nat.zero_mul, Nat.zero_add, List.getElem?_append_left (by simp [PArg.cells]; omega)]
        rfl
      | succ i =>
        rw [List.getElem?_append_right (by simp [PArg.cells]; omega)]
        have e : (i + 1) * 3 + j - t.cells.length = i * 3 + j := by simp [PArg.cells]; omega
        rw [e]
        have := ih i (by simpa using hi) j hj
        simpa using this
  refine ⟨g, off, hA, hg, ?_, ?_, ?_⟩
  · have := hx (i * 3 + 0) _ ((key l i hi 0 (by omega)).trans rfl)
    simpa using this
  · rw [Nat.add_assoc]
    exact hx (i * 3 + 1) _ ((key l i hi 1 (by omega)).trans rfl)
  · rw [Nat.add_assoc]
    exact hx (i * 3 + 2) _ ((key l i hi 2 (by omega)).trans rfl)
attribute [local go_sem] fbits_run
theorem same01_q (x y : Nat) (q : Bool) (h : decide (x = y) = q) (w : World) : Calls Tryz.prog 22 #[.float .f64 x, .float .f64 y] w fun e w' => e = .returned (.bool q) ∧ w' = w := by
  subst h
  go_enter Tryz.func22, Tryz.ntmps22
  go_wp2
  go_ret
  refine ⟨?_, rfl⟩
  by_cases h : x = y
  · simp [h]
  · simp [h, Int.ofNat_inj]
theorem empty_q (s : ByteArray) (q : Bool) (h : decide (s = ⟨#[]⟩) = q) : s.toList.isEmpty = q := by
  subst h
  by_cases h : s = ⟨#[]⟩
  · rw [decide_eq_true h, h, ByteArray.toList_eq]
    rfl
  · rw [decide_eq_false h, ByteArray.toList_eq]
    cases hs : s.data.toList with
    | nil =>
      refine absurd ?_ h
      obtain ⟨⟨l⟩⟩ := s
      simp only at hs
      rw [hs]
    | cons a r => rfl
theorem below_iter {w wr : World} {S : ByteArray} {j : Nat} (h : Below w.heap.size w wr) : Below w.heap.size w (wr.iterAt w.heap.size S j) := by
  have g := grown_iter wr w.heap.size S j
  have hs := h.size
  exact h.trans ⟨g.os, g.tape, g.output, g.size, fun i hi => g.block i (by omega) (by simp; omega)⟩
set_option maxRecDepth 100000 in
set_option maxHeartbeats 2000000 in
theorem fine_any (B : Nat) (s : PStmt) (hk : s.kind < 256) (hnum : ∀ a ∈ s.args, a.num < 18446744073709551616) (v : Value) (w : World) (hr : ARead w B v s.args) (hB : B ≤ w.heap.size) (hE : Env hiP loP w) :
    Calls Tryz.prog 8 #[stV s v] w (Bel w (.bool (fineS s))) := by
  obtain ⟨A, c, rfl, -⟩ := id hr
  obtain ⟨N, hN⟩ : ∃ N, s.args.length = N := ⟨_, rfl⟩
  rw [hN] at hr ⊢
  have HR := Lib.hid (And.intro hr (And.intro hN (And.intro hB (And.intro hE hnum))))
  obtain ⟨W, hW⟩ : ∃ W, W = w.alloc (.cells #[.string s.name, .int .i64 s.pos, .int .u8 (s.kind : Nat), .slice A N c] 28) := ⟨_, rfl⟩
  have hBW : Below w.heap.size w W := by rw [hW]; exact (Below.refl _ _).alloc (Nat.le_refl _) _
  have hbk : W.heap[w.heap.size]? = some (.cells #[.string s.name, .int .i64 s.pos, .int .u8 (s.kind : Nat), .slice A N c] 28 (0, 0)) := by rw [hW]; exact heap_alloc_new w _
  obtain ⟨k, hkk⟩ : ∃ k, s.kind = k := ⟨_, rfl⟩
  have HW := Lib.hid (And.intro hW (And.intro hBW (And.intro hbk hkk)))
  unfold stV
  rw [hkk] at hW hk ⊢
  have c2 : ∀ u : Ext W, u.1.cell? ⟨w.heap.size, 2, none⟩ = some (.int .u8 (k : Nat)) := fun u => ext_cell ((cell_of_row W w.heap.size 2 _ _ _ hbk).trans (by rw [hkk]; rfl)) u
  have c3 : ∀ u : Ext W, u.1.cell? ⟨w.heap.size, 3, none⟩ = some (.slice A N c) := fun u => ext_cell ((cell_of_row W w.heap.size 3 _ _ _ hbk).trans rfl) u
  have CF := Lib.hid (fun u : World => form_any k u)
  clear hr hN hB hE hnum hBW hbk hkk
  go_enter Tryz.func8, Tryz.ntmps8
  go_upto_region 1 with fail
  rw [← hW]
  clear hW
  by_cases h1 : k < 1
  · have d1 : decide (k < 1) = true := decide_eq_true h1
    have d2 : (k : Int) < 1 := by omega
    refine region_ext (by kernel_rfl) (by kernel_rfl) ?_
    repeat go_big_quiet_step (exact ext_call _ (CF.out _))
    refine wpQuiet_nil ?_
    intro u
    have hu := HW.out.2.1.trans (u.2.mono HW.out.2.1.size)
    go_wp2_with fail
    go_ret
    refine ⟨?_, hu⟩
    unfold fineS
    rw [HW.out.2.2.2, decide_eq_false (show ¬ 1 ≤ k by omega)]
    rfl
  by_cases h6 : 6 < k
  · have d1 : decide (k < 1) = false := decide_eq_false h1
    have d2 : ¬ (k : Int) < 1 := by omega
    have d3 : decide (6 < k) = true := decide_eq_true h6
    have d4 : (6 : Int) < (k : Int) := by omega
    refine region_ext (by kernel_rfl) (by kernel_rfl) ?_
    repeat go_big_quiet_step (exact ext_call _ (CF.out _))
    refine wpQuiet_nil ?_
    intro u
    have hu := HW.out.2.1.trans (u.2.mono HW.out.2.1.size)
    go_wp2_with fail
    go_ret
    refine ⟨?_, hu⟩
    unfold fineS
    rw [HW.out.2.2.2, decide_eq_false (show ¬ k ≤ 6 by omega), Bool.and_false]
    rfl
  have d1 : decide (k < 1) = false := decide_eq_false h1
  have d2 : ¬ (k : Int) < 1 := by omega
  have d3 : decide (6 < k) = false := decide_eq_false h6
  have d4 : ¬ (6 : Int) < (k : Int) := by omega
  have hk7 : k % 7 = k := Nat.mod_eq_of_lt (by omega)
  rw [hk7] at CF
  obtain ⟨hfs, hf7⟩ := parw.form_len k (by omega)
  have hby := fun j hj => form_byte k (by omega) j hj
  obtain ⟨F, hF⟩ : ∃ F, formL k = F := ⟨_, rfl⟩
  obtain ⟨S, hS⟩ : ∃ S, formB k = S := ⟨_, rfl⟩
  have hfin : fineS s = (decide (N = F.length) && argsFine F s.args) := by
    unfold fineS
    rw [HW.out.2.2.2, hF, HR.out.2.1, decide_eq_true (show 1 ≤ k by omega), decide_eq_true (show k ≤ 6 by omega)]
    rfl
  rw [hF] at hfs hf7 hby
  rw [hS] at hfs CF hby
  obtain ⟨L, hL⟩ : ∃ L, F.length = L := ⟨_, rfl⟩
  rw [hL] at hfs hf7 hfin
  have HF := Lib.hid (And.intro hfin (And.intro hL hby))
  have hk0 : (0 : Int) ≤ (k : Int) := by omega
  clear hfin hby hF hS hk7 hk h1 h6
  by_cases hNL : N = L
  · subst hNL
    have e0 : ((N : Int) != (S.size : Int)) = false := by rw [hfs]; simp
    refine region_ext (by kernel_rfl) (by kernel_rfl) ?_
    repeat go_big_quiet_step (exact ext_call _ (CF.out _))
    refine wpQuiet_nil ?_
    intro u
    have hu := HW.out.2.1.trans (u.2.mono HW.out.2.1.size)
    have HU := Lib.hid hu
    have c2' := c2 u
    have c3' := c3 u
    clear hu c2 c3
    go_wp2_with (go_at_call 20; (with_reducible refine (CF.out _).mono ?_); rintro e w2 ⟨rfl, hb2⟩; have B2 := Lib.hid hb2; clear hb2)
    go_loopw [] (fun wr => ∃ j : Nat, j ≤ N ∧ wr.heap[w2.heap.size]? = some (.stringIter S j) ∧ Below w2.heap.size w2 wr ∧ ∀ i (h1 : i < F.length) (h2 : i < s.args.length), i < j → argFine F[i] s.args[i] = true) (fun wr => S.size - wr.iterPos w2.heap.size)
    case atStart => exact ⟨0, Nat.zero_le _, heap_alloc_new w2 _, (Below.refl _ _).alloc (Nat.le_refl _) _, fun i _ _ h => absurd h (Nat.not_lt_zero _)⟩
    case round =>
      obtain ⟨j, hj, hit, hBr, hall⟩ := hrel
      by_cases hjN : j < N
      · obtain ⟨hjs, hbyte⟩ := HF.out.2.2 j (by have := HF.out.2.1; omega)
        have hjF : j < F.length := by have := HF.out.2.1; omega
        have hjA : j < s.args.length := by have := HR.out.2.1; omega
        obtain ⟨b, hb⟩ : ∃ b, F[j] = b := ⟨_, rfl⟩
        have hnx : ∀ ty, (Instr.next (.pointer (some ⟨w2.heap.size, 0, none⟩)) true ty).run Tryz.prog wr = .ok (.tuple #[.bool true, .int .i64 j, .int .i32 (if b then 110 else 119 : Nat)]) (wr.iterAt w2.heap.size S (j + 1)) := fun ty => by
          rw [Lib.run_next_ascii_at wr w2.heap.size S j ty hit hjs (by rw [hbyte]; split <;> omega), hbyte, hb]
        have hitW := Lib.iterAt_heap wr w2.heap.size S j (j + 1) hit
        have hBW := below_iter (S := S) (j := j + 1) hBr
        generalize wr.iterAt w2.heap.size S (j + 1) = W5 at *
        have hlow : Below w.heap.size w W5 := (HU.out.trans (B2.out.mono HU.out.size)).trans (hBW.mono (Nat.le_trans HU.out.size B2.out.size))
        have hup : Below u.1.heap.size u.1 W5 := B2.out.trans (hBW.mono B2.out.size)
        have hE5 : Env hiP loP W5 := HR.out.2.2.2.1.later hlow
        obtain ⟨g, off, hA, hg, e1, e2, e3⟩ := arg_at (i := j) (HR.out.2.1 ▸ HR.out.1.keep (W' := W5) fun g hg hgl => hlow.block g hgl) hjA
        subst hA
        have d3 : W5.cell? ⟨w.heap.size, 3, none⟩ = some (.slice (some ⟨g, off, none⟩) N c) := (hup.cell (p := ⟨w.heap.size, 3, none⟩) (World.block_lt_of_cell? u.1 _ c3')).trans c3'
        obtain ⟨a, ha⟩ : ∃ a, s.args[j] = a := ⟨_, rfl⟩
        rw [ha] at e1 e2 e3
        have hax : a.num < 18446744073709551616 := HR.out.2.2.2.2 a (ha ▸ List.getElem_mem hjA)
        have CP := Lib.hid (fun (u : World) (hu : Env hiP loP u) => print_b (hi := hiP) (lo := loP) a.num hax u hu)
        have HJ := Lib.hid (And.intro hall (And.intro hitW (And.intro hBW (And.intro hE5 (And.intro hb (And.intro ha hit))))))
        have hjA' : j < N := hjN
        have hj0 : (0 : Int) ≤ (j : Int) := by omega
        have hj1 : (j : Int) < (N : Int) := by omega
        have hbad : argFine b a = false → fineS s = false := fun h => by
          rw [HF.out.1]
          cases hq : argsFine F s.args with
          | false => rw [Bool.and_false]
          | true =>
            have := argsFine_at F s.args (by have := HF.out.2.1; have := HR.out.2.1; omega) hq j hjF hjA
            rw [hb, ha, h] at this
            cases this
        have HB := Lib.hid hbad
        have hcellW : W5.heap.size = W5.heap.size := rfl
        clear hall hitW hBW hE5 hlow hup hax ha hb hbyte hit hBr hbad hcellW c3' e1
        cases b with
        | true =>
          simp only [if_true, Int.cast_ofNat_Int] at hnx
          obtain ⟨E, hEE⟩ : ∃ E, prE a.num = E := ⟨_, rfl⟩
          obtain ⟨q, hq⟩ : ∃ q, decide (a.name = ⟨#[]⟩) = q := ⟨_, rfl⟩
          have hem := empty_q a.name q hq
          have hfq : argFine true a = (decide (E = 0) && q) := by
            show (prOk a.num && decide (a.name = ⟨#[]⟩)) = _
            rw [hq, ← hEE]
            unfold prE
            cases prOk a.num <;> rfl
          rw [hEE] at CP
          have HFQ := Lib.hid hfq
          clear hEE hq hfq
          by_cases hE0 : E = 0
          · subst hE0
            cases q with
            | true =>
              go_wp2_with (first
                | (go_at_call 21; (with_reducible refine (CP.out _ HJ.out.2.2.2.1).mono ?_); rintro e w6 ⟨rfl, hb6⟩; have B6 := Lib.hid hb6; have e3' := (hb6.cell (p := ⟨g, off + j * 3 + 2, none⟩) (World.block_lt_of_cell? W5 _ e3)).trans e3; have d3' := (hb6.cell (p := ⟨w.heap.size, 3, none⟩) (World.block_lt_of_cell? W5 _ d3)).trans d3; clear hb6))
              go_roundw
              case rel =>
                obtain ⟨hall, hitW, hBW, _, hb, ha, hit⟩ := HJ.out
                have hb6 := B6.out
                refine ⟨j + 1, by omega, (hb6.block _ (Array.getElem?_eq_some_iff.1 hitW).1).trans hitW, hBW.trans (hb6.mono hBW.size), fun i h1 h2 hi => ?_⟩
                by_cases hij : i < j
                · exact hall i h1 h2 hij
                · obtain rfl : i = j := by omega
                  rw [hb, ha, HFQ.out]
                  rfl
              case measure =>
                obtain ⟨hall, hitW, hBW, _, hb, ha, hit⟩ := HJ.out
                have hb6 := B6.out
                have := (hb6.block _ (Array.getElem?_eq_some_iff.1 hitW).1).trans hitW
                simp only [World.iterPos, this, hit]
                omega
            | false =>
              go_wp2_with (first
                | (go_at_call 21; (with_reducible refine (CP.out _ HJ.out.2.2.2.1).mono ?_); rintro e w6 ⟨rfl, hb6⟩; have B6 := Lib.hid hb6; have e3' := (hb6.cell (p := ⟨g, off + j * 3 + 2, none⟩) (World.block_lt_of_cell? W5 _ e3)).trans e3; have d3' := (hb6.cell (p := ⟨w.heap.size, 3, none⟩) (World.block_lt_of_cell? W5 _ d3)).trans d3; clear hb6))
              go_ret
              rw [HB.out (by rw [HFQ.out]; rfl)]
              have hBW := HJ.out.2.2.1
              have hs := Nat.le_trans HU.out.size B2.out.size
              exact ⟨rfl, ((HU.out.trans (B2.out.mono HU.out.size)).trans (hBW.mono hs)).trans (B6.out.mono (Nat.le_trans hs hBW.size))⟩
          · have hE1 : (E != 0) = true := by rw [bne_iff_ne]; exact hE0
            go_wp2_with (first
              | (go_at_call 21; (with_reducible refine (CP.out _ HJ.out.2.2.2.1).mono ?_); rintro e w6 ⟨rfl, hb6⟩; have B6 := Lib.hid hb6; clear hb6))
            go_ret
            rw [HB.out (by rw [HFQ.out, decide_eq_false hE0]; rfl)]
            have hBW := HJ.out.2.2.1
            have hs := Nat.le_trans HU.out.size B2.out.size
            exact ⟨rfl, ((HU.out.trans (B2.out.mono HU.out.size)).trans (hBW.mono hs)).trans (B6.out.mono (Nat.le_trans hs hBW.size))⟩
        | false =>
          simp only [Bool.false_eq_true, if_false, Int.cast_ofNat_Int] at hnx
          obtain ⟨q, hq⟩ : ∃ q, decide (a.num = 0) = q := ⟨_, rfl⟩
          have hfq : argFine false a = q := hq
          have CQ := Lib.hid (fun u : World => same01_q a.num 0 q hq u)
          have HFQ := Lib.hid hfq
          clear hq hfq
          cases q with
          | true =>
            go_wp2_with (first
              | (go_at_call 21; (with_reducible refine (CP.out _ HJ.out.2.2.2.1).mono ?_); rintro e w6 ⟨rfl, hb6⟩; have B6 := Lib.hid hb6; have e2' := (hb6.cell (p := ⟨g, off + j * 3 + 1, none⟩) (World.block_lt_of_cell? W5 _ e2)).trans e2; have d3' := (hb6.cell (p := ⟨w.heap.size, 3, none⟩) (World.block_lt_of_cell? W5 _ d3)).trans d3; clear hb6)
              | (go_at_call 22; (with_reducible refine (CQ.out _).mono ?_); rintro e w7 ⟨rfl, rfl⟩))
            go_roundw
            case rel =>
              obtain ⟨hall, hitW, hBW, _, hb, ha, hit⟩ := HJ.out
              have hb6 := B6.out
              refine ⟨j + 1, by omega, (hb6.block _ (Array.getElem?_eq_some_iff.1 hitW).1).trans hitW, hBW.trans (hb6.mono hBW.size), fun i h1 h2 hi => ?_⟩
              by_cases hij : i < j
              · exact hall i h1 h2 hij
              · obtain rfl : i = j := by omega
                rw [hb, ha, HFQ.out]
            case measure =>
              obtain ⟨hall, hitW, hBW, _, hb, ha, hit⟩ := HJ.out
              have hb6 := B6.out
              have := (hb6.block _ (Array.getElem?_eq_some_iff.1 hitW).1).trans hitW
              simp only [World.iterPos, this, hit]
              omega
          | false =>
            go_wp2_with (first
              | (go_at_call 21; (with_reducible refine (CP.out _ HJ.out.2.2.2.1).mono ?_); rintro e w6 ⟨rfl, hb6⟩; have B6 := Lib.hid hb6; have e2' := (hb6.cell (p := ⟨g, off + j * 3 + 1, none⟩) (World.block_lt_of_cell? W5 _ e2)).trans e2; have d3' := (hb6.cell (p := ⟨w.heap.size, 3, none⟩) (World.block_lt_of_cell? W5 _ d3)).trans d3; clear hb6)
              | (go_at_call 22; (with_reducible refine (CQ.out _).mono ?_); rintro e w7 ⟨rfl, rfl⟩))
            go_ret
            rw [HB.out HFQ.out]
            have hBW := HJ.out.2.2.1
            have hs := Nat.le_trans HU.out.size B2.out.size
            exact ⟨rfl, ((HU.out.trans (B2.out.mono HU.out.size)).trans (hBW.mono hs)).trans (B6.out.mono (Nat.le_trans hs hBW.size))⟩
      · obtain rfl : j = N := by omega
        have hnx : ∀ ty, (Instr.next (.pointer (some ⟨w2.heap.size, 0, none⟩)) true ty).run Tryz.prog wr = .ok (.tuple #[.bool false]) wr := fun ty => Lib.run_next_end_at wr w2.heap.size S _ ty hit (by omega)
        have HAL := Lib.hid (And.intro hall hBr)
        clear hall hBr hit
        go_wp2_with fail
        go_ret
        have hs := Nat.le_trans HU.out.size B2.out.size
        refine ⟨?_, (HU.out.trans (B2.out.mono HU.out.size)).trans (HAL.out.2.mono hs)⟩
        have hx : fineS s = true := by
          rw [HF.out.1, argsFine_all F s.args fun i h1 h2 => HAL.out.1 i h1 h2 (by have := HF.out.2.1; omega)]
          simp
        rw [hx]
        rfl
  · have e0 : ((N : Int) != (S.size : Int)) = true := by rw [hfs, bne_iff_ne]; omega
    refine region_ext (by kernel_rfl) (by kernel_rfl) ?_
    repeat go_big_quiet_step (exact ext_call _ (CF.out _))
    refine wpQuiet_nil ?_
    intro u
    have hu := HW.out.2.1.trans (u.2.mono HW.out.2.1.size)
    go_wp2_with fail
    go_ret
    refine ⟨?_, hu⟩
    rw [HF.out.1, decide_eq_false hNL]
    rfl
end Go.Proofs.YtejmbbkklhpnaaaGreatDoor.plw

/- burnishlaw17.tokens: the tokens of a statement that has what stands behind its kind. Conditions: the arguments lie in memory; the library's tables hold what the row lists. -/
namespace Go.Proofs.YtejmbbkklhpnaaaGreatDoor.plw
open Go.RowKit
open Go.Proofs.YtejmbbkklhpnaaaGreatDoor.parw
open Go.Proofs.YtejmbbkklhpnaaaGreatDoor.qt
open Go.Proofs.YtejmbbkklhpnaaaGreatDoor.bsw (wl_val)
open Go.Proofs.YtejmbbkklhpnaaaGreatDoor.pft (TArg tapp_run exec_tbs1)
open Go.Proofs.YtejmbbkklhpnaaaGreatDoor.prnw (Bel bA bA_list prT prOk prE prB print_b hiP loP Env)
open Go.BigFrame

def eqB : ByteArray := ⟨#[61]⟩
def argTok (b : Bool) (a : PArg) : PTok := if b then ⟨2, a.pos, prB hiP loP a.num⟩ else ⟨1, a.pos, a.name⟩
def argToks : List Bool → List PArg → List PTok
  | b :: bs, a :: l => argTok b a :: argToks bs l
  | _, _ => []
def headToks (s : PStmt) : List PTok := [⟨1, s.pos, s.name⟩, ⟨3, s.pos, eqB⟩, ⟨1, s.pos, prnw.wordF s.kind⟩]
def stToks (s : PStmt) : List PTok := headToks s ++ argToks (formL s.kind) s.args ++ [⟨4, s.pos, ⟨#[]⟩⟩]
theorem argToks_len : ∀ (bs : List Bool) (l : List PArg), bs.length = l.length → (argToks bs l).length = l.length
  | [], [], _ => rfl
  | b :: bs, a :: l, h => by
    show (argToks bs l).length + 1 = l.length + 1
    rw [argToks_len bs l (by simpa using h)]
theorem argToks_take : ∀ (bs : List Bool) (l : List PArg) (j : Nat) (h1 : j < bs.length) (h2 : j < l.length), argToks (bs.take (j + 1)) (l.take (j + 1)) = argToks (bs.take j) (l.take j) ++ [argTok bs[j] l[j]]
  | b :: bs, a :: l, 0, _, _ => rfl
  | b :: bs, a :: l, j + 1, h1, h2 => by
    show argTok b a :: argToks (bs.take (j + 1)) (l.take (j + 1)) = _
    rw [argToks_take bs l j (by simpa using h1) (by simpa using h2)]
    rfl
theorem own_not_iter {W : World} {base : Nat} {e : TypeId} {k n : Nat} {v : Value} {xs : List Value} {ib j : Nat} {S : ByteArray} (h : W.ownsRow base e k v n xs) (hi : W.heap[ib]? = some (.stringIter S j)) : v.ownBlock ≠ some ib := by
  rcases h.2 with ⟨rfl, _⟩ | ⟨g, cap, cur, rfl, _, hh, _⟩
  · exact fun h => by cases h
  · intro e
    have : g = ib := by simpa [Value.ownBlock] using e
    subst this
    rw [hh] at hi
    cases hi
theorem own_not_ty {W : World} {base : Nat} {e t : TypeId} {k n : Nat} {v : Value} {xs : List Value} {g0 : Nat} {cs : Array Value} {fr : Nat × Nat} (h : W.ownsRow base e k v n xs) (hi : W.heap[g0]? = some (.cells cs t fr)) (ht : t ≠ e) : v.ownBlock ≠ some g0 := by
  rcases h.2 with ⟨rfl, _⟩ | ⟨g, cap, cur, rfl, _, hh, _⟩
  · exact fun h => by cases h
  · intro e'
    have : g = g0 := by simpa [Value.ownBlock] using e'
    subst this
    rw [hh] at hi
    injection hi with hi
    injection hi with _ h2 _
    exact ht h2.symm
theorem tbs3_run (t1 t2 t3 : PTok) (w : World) : (Instr.buildSlice 25 3 #[(0, t1.val), (1, t2.val), (2, t3.val)]).run Tryz.prog w = .ok (.slice (some ⟨w.heap.size, 0, none⟩) 3 3) (w.alloc (.cells (pcells [t1, t2, t3]).toArray 31)) := by
  kernel_rfl
theorem exec_tbs3 {o : Oper} (x y z : Operand) (ho : o.op = .buildSlice 25 3 #[(0, x), (1, y), (2, z)]) (a : Act) (w : World) (t1 t2 t3 : PTok) (hx : a.eval x = t1.val) (hy : a.eval y = t2.val) (hz : a.eval z = t3.val) :
    (execOp a.eval o).run Tryz.prog w = .ok (.value (.slice (some ⟨w.heap.size, 0, none⟩) 3 3)) (w.alloc (.cells (pcells [t1, t2, t3]).toArray 31)) := by
  unfold execOp
  simp only [ho, Sem.run_bind, List.map_toArray, List.map_cons, List.map_nil, hx, hy, hz, tbs3_run, Result.andThen_ok, Sem.run_pure]
def TkPost (w : World) (ts : List PTok) (e : Ending) (w' : World) : Prop :=
  ∃ o, e = .returned o ∧ w'.ownsRow w.heap.size 31 3 o ts.length (pcells ts) ∧ Below w.heap.size w w'
/-- (a goal that is a list of operations) -/
theorem wl_here {P : Program} {ops : Array Oper} {rest : List Oper} {a : Act} {w : World} {Q : Exit → Act → World → Prop} (h : wpList P ops Q rest a w) : wpList P ops Q rest a w := h
/-- one token more -/
theorem tok_app {W : World} {base : Nat} {o : Value} {ts : List PTok} (h : W.ownsRow base 31 3 o ts.length (pcells ts)) (hl : ts.length ≤ 900000) (hb : base ≤ W.heap.size) (t : PTok) :
    ∃ v' w', (∀ (oo : Oper) (a : Act) (s x : Operand), oo.op = .call { callee := .builtin .append, args := #[s, x], argTypes := #[25, 25] } → a.eval s = o → a.eval x = .slice (some ⟨W.heap.size, 0, none⟩) 1 1 → (execOp a.eval oo).run Tryz.prog (W.alloc (.cells t.cells.toArray 31)) = .ok (.value v') w') ∧
      w'.ownsRow base 31 3 v' (ts ++ [t]).length (pcells (ts ++ [t])) ∧ W.grownBy w' o.ownBlock := by
  have h1 : (W.alloc (.cells t.cells.toArray 31)).ownsRow base 31 3 o ts.length (pcells ts) := own_grown h (World.grownBy_alloc W _ none) (fun r e => by cases e)
  have hT := TArg.one W t (W.alloc (.cells t.cells.toArray 31)) (heap_alloc_new W _)
  obtain ⟨v', w', g1, g2, g3⟩ := tapp_run base o ts.length (pcells ts) h1 _ _ [t] hT (by simp; omega) (by simp; omega)
  refine ⟨v', w', g1, ?_, grown_trans (World.grownBy_alloc W _ _) g3⟩
  rw [List.length_append, pcells_app]
  exact g2
/-- what the loop holds -/
structure TI (w : World) (b0 ib : Nat) (S : ByteArray) (j : Nat) (ts : List PTok) (o : Value) (cs : Array Value) (X : World) : Prop where
  it : X.heap[ib]? = some (.stringIter S j)
  own : X.ownsRow w.heap.size 31 3 o ts.length (pcells ts)
  bx : X.heap[b0]? = some (.cells cs 28 (0, 0))
  lo : Below w.heap.size w X
theorem TI.below {w : World} {b0 ib j : Nat} {S : ByteArray} {ts : List PTok} {o : Value} {cs : Array Value} {X Y : World} (h : TI w b0 ib S j ts o cs X) (hb : Below X.heap.size X Y) : TI w b0 ib S j ts o cs Y :=
  ⟨(hb.block _ (Array.getElem?_eq_some_iff.1 h.it).1).trans h.it, own_grown h.own (parw.grown_below hb none) (fun r e => by cases e), (hb.block _ (Array.getElem?_eq_some_iff.1 h.bx).1).trans h.bx, h.lo.trans (hb.mono h.lo.size)⟩
theorem TI.grown {w : World} {b0 ib j : Nat} {S : ByteArray} {ts us : List PTok} {o o' : Value} {cs : Array Value} {X Y : World} (h : TI w b0 ib S j ts o cs X) (hg : X.grownBy Y o.ownBlock) (ho : Y.ownsRow w.heap.size 31 3 o' us.length (pcells us)) : TI w b0 ib S j us o' cs Y :=
  ⟨(hg.block _ (Array.getElem?_eq_some_iff.1 h.it).1 (fun e => own_not_iter h.own h.it e.symm)).trans h.it, ho, (hg.block _ (Array.getElem?_eq_some_iff.1 h.bx).1 (fun e => own_not_ty h.own h.bx (by decide) e.symm)).trans h.bx, h.lo.trans ⟨hg.os, hg.tape, hg.output, by have := h.lo.size; have := hg.size; omega, fun i hi => hg.block i (Nat.lt_of_lt_of_le hi h.lo.size) (fun e => by have := own_base h.own e.symm; omega)⟩⟩
theorem TI.next {w : World} {b0 ib j : Nat} {S : ByteArray} {ts : List PTok} {o : Value} {cs : Array Value} {X : World} (h : TI w b0 ib S j ts o cs X) (hib : w.heap.size ≤ ib) (hne : b0 ≠ ib) (k : Nat) : TI w b0 ib S k ts o cs (X.iterAt ib S k) := by
  have g := grown_iter X ib S k
  have hn := own_not_iter h.own h.it
  refine ⟨Lib.iterAt_heap X ib S j k h.it, ?_, (g.block _ (Array.getElem?_eq_some_iff.1 h.bx).1 (by simpa using hne)).trans h.bx, h.lo.trans ⟨g.os, g.tape, g.output, by have := h.lo.size; have := g.size; omega, fun i hi => g.block i (Nat.lt_of_lt_of_le hi h.lo.size) (by simp; omega)⟩⟩
  refine ⟨h.own.1, ?_⟩
  rcases h.own.2 with h0 | ⟨g0, cap, cur, hv, hg, hh, r⟩
  · exact .inl h0
  · exact .inr ⟨g0, cap, cur, hv, hg, (g.block g0 (Array.getElem?_eq_some_iff.1 hh).1 (fun e => hn (by rw [hv, ← e]; rfl))).trans hh, r⟩
set_option maxRecDepth 100000 in
set_option maxHeartbeats 2000000 in
theorem tokens_any (B : Nat) (s : PStmt) (hf : fineS s = true) (hnum : ∀ a ∈ s.args, a.num < 18446744073709551616) (v : Value) (w : World) (hr : ARead w B v s.args) (hB : B ≤ w.heap.size) (hE : Env hiP loP w) :
    Calls Tryz.prog 9 #[stV s v] w (TkPost w (stToks s)) := by
  obtain ⟨A, c, rfl, -⟩ := id hr
  have hf1 : 1 ≤ s.kind ∧ s.kind ≤ 6 ∧ s.args.length = (formL s.kind).length ∧ argsFine (formL s.kind) s.args = true := by
    unfold fineS at hf
    simp only [Bool.and_eq_true, decide_eq_true_eq] at hf
    exact ⟨hf.1.1.1, hf.1.1.2, hf.1.2, hf.2⟩
  obtain ⟨hk1, hk6, hlen, -⟩ := hf1
  obtain ⟨N, hN⟩ : ∃ N, s.args.length = N := ⟨_, rfl⟩
  rw [hN] at hr hlen ⊢
  have HR := Lib.hid (And.intro hr (And.intro hN (And.intro hB (And.intro hE hnum))))
  obtain ⟨W, hW⟩ : ∃ W, W = w.alloc (.cells #[.string s.name, .int .i64 s.pos, .int .u8 (s.kind : Nat), .slice A N c] 28) := ⟨_, rfl⟩
  have hBW : Below w.heap.size w W := by rw [hW]; exact (Below.refl _ _).alloc (Nat.le_refl _) _
  have hbk : W.heap[w.heap.size]? = some (.cells #[.string s.name, .int .i64 s.pos, .int .u8 (s.kind : Nat), .slice A N c] 28 (0, 0)) := by rw [hW]; exact heap_alloc_new w _
  obtain ⟨b0, hb0⟩ : ∃ b0, b0 = w.heap.size := ⟨_, rfl⟩
  obtain ⟨k, hkk⟩ : ∃ k, s.kind = k := ⟨_, rfl⟩
  unfold stV
  rw [hkk] at hW hk1 hk6 hlen hbk ⊢
  rw [← hb0] at hbk
  have HW := Lib.hid (And.intro hBW (And.intro hbk (And.intro hkk hb0)))
  have c0 : ∀ u : Ext W, u.1.cell? ⟨b0, 0, none⟩ = some (.string s.name) := fun u => ext_cell ((cell_of_row W b0 0 _ _ _ hbk).trans rfl) u
  have c1 : ∀ u : Ext W, u.1.cell? ⟨b0, 1, none⟩ = some (.int .i64 s.pos) := fun u => ext_cell ((cell_of_row W b0 1 _ _ _ hbk).trans rfl) u
  have c2 : ∀ u : Ext W, u.1.cell? ⟨b0, 2, none⟩ = some (.int .u8 (k : Nat)) := fun u => ext_cell ((cell_of_row W b0 2 _ _ _ hbk).trans rfl) u
  have CF := Lib.hid (fun u : World => form_any k u)
  rw [show k % 7 = k from Nat.mod_eq_of_lt (by omega)] at CF
  have CW := Lib.hid (fun u : World => prnw.word_any k (by omega) u)
  obtain ⟨KW, hKW⟩ : ∃ KW, prnw.wordF k = KW := ⟨_, rfl⟩
  rw [hKW] at CW
  obtain ⟨hfs, hf7⟩ := parw.form_len k hk6
  have hby := fun j hj => form_byte k hk6 j hj
  obtain ⟨F, hF⟩ : ∃ F, formL k = F := ⟨_, rfl⟩
  obtain ⟨S, hS⟩ : ∃ S, formB k = S := ⟨_, rfl⟩
  rw [hF] at hfs hf7 hby hlen
  rw [hS] at hfs CF hby
  have hdef : stToks s = headToks s ++ argToks F s.args ++ [⟨4, s.pos, ⟨#[]⟩⟩] := by unfold stToks; rw [hkk, hF]
  have hhead : headToks s = [⟨1, s.pos, s.name⟩, ⟨3, s.pos, eqB⟩, ⟨1, s.pos, KW⟩] := by unfold headToks; rw [hkk, hKW]
  have HF := Lib.hid (And.intro hdef (And.intro hhead (And.intro hlen hby)))
  have hk0 : (0 : Int) ≤ (k : Int) := by omega
  rw [← hlen] at hfs hf7
  clear hr hN hB hE hnum hBW hbk hkk hdef hhead hby hF hS hKW hf hlen
  go_enter Tryz.func9, Tryz.ntmps9
  go_upto_region 1 with fail
  rw [← hb0, ← hW]
  clear hW hb0
  go_cut [3] from 8 to 23 (fun s3 wx => wx.ownsRow w.heap.size 31 3 s3 (headToks s).length (pcells (headToks s)) ∧ Below W.heap.size W wx)
  case first =>
    refine region_ext_tail 14 (by kernel_rfl) (by kernel_rfl) ?_
    simp only [List.take_succ_cons, List.take_zero, List.drop_succ_cons, List.drop_zero]
    repeat go_big_quiet_step (exact ext_call _ (CW.out _))
    refine wpQuiet_nil ?_
    intro u
    refine wl_val rfl _ (exec_tbs3 (.tmp 12) (.tmp 15) (.tmp 21) rfl _ _ ⟨1, s.pos, s.name⟩ ⟨3, s.pos, eqB⟩ ⟨1, s.pos, KW⟩ rfl rfl rfl) ?_
    simp only [Act.put, List.setIfInBounds_toArray, List.set_cons_succ, List.set_cons_zero]
    go_wp2_with fail
    go_meet
    have hsz : w.heap.size ≤ u.1.heap.size := Nat.le_trans HW.out.1.size u.2.size
    refine ⟨?_, u.2.alloc u.2.size _⟩
    rw [HF.out.2.1]
    exact pft.own_new u.1 u.1.heap.size w.heap.size rfl hsz _ 3 3 _ rfl (by decide)
  case rest =>
    obtain ⟨hown, hlow⟩ := hcut
    have d2 := c2 ⟨wc, hlow⟩
    simp only at d2
    have HC := Lib.hid (And.intro hown hlow)
    clear c0 c1 c2 hown hlow CW
    go_wp2_with (go_at_call 20; (with_reducible refine (CF.out _).mono ?_); rintro e wf ⟨rfl, hbf⟩; have BF := Lib.hid hbf; clear hbf)
    obtain ⟨ib, hib⟩ : ∃ ib, ib = wf.heap.size := ⟨_, rfl⟩
    have hlo : Below w.heap.size w wf := (HW.out.1.trans (HC.out.2.mono HW.out.1.size)).trans (BF.out.mono (Nat.le_trans HW.out.1.size HC.out.2.size))
    have hT0 : TI w b0 ib S 0 (headToks s ++ argToks (F.take 0) (s.args.take 0)) u3 #[.string s.name, .int .i64 s.pos, .int .u8 (k : Nat), .slice A N c] (wf.alloc (.stringIter S 0)) := by
      have hb : Below wc.heap.size wc (wf.alloc (.stringIter S 0)) := BF.out.alloc BF.out.size _
      refine ⟨by rw [hib]; exact heap_alloc_new wf _, ?_, ?_, hlo.alloc hlo.size _⟩
      · rw [List.take_zero]
        show _ ∧ _
        have : headToks s ++ argToks [] (s.args.take 0) = headToks s := by simp [argToks]
        rw [this]
        exact own_grown HC.out.1 (parw.grown_below hb none) (fun r e => by cases e)
      · have h1 : b0 < W.heap.size := (Array.getElem?_eq_some_iff.1 HW.out.2.1).1
        exact (hb.block b0 (Nat.lt_of_lt_of_le h1 HC.out.2.size)).trans ((HC.out.2.block b0 h1).trans HW.out.2.1)
    have hbi : w.heap.size ≤ ib ∧ b0 ≠ ib := by
      have h1 : b0 < W.heap.size := (Array.getElem?_eq_some_iff.1 HW.out.2.1).1
      have := hlo.size
      have := HC.out.2.size
      have := BF.out.size
      omega
    have HT0 := Lib.hid hT0
    have HI := Lib.hid hbi
    rw [← hib]
    clear hT0 hbi hlo d2 hib
    go_loopw [3] (fun s3 wr => ∃ j : Nat, j ≤ N ∧ TI w b0 ib S j (headToks s ++ argToks (F.take j) (s.args.take j)) s3 #[.string s.name, .int .i64 s.pos, .int .u8 (k : Nat), .slice A N c] wr) (fun _ wr => S.size - wr.iterPos ib)
    case atStart => exact ⟨0, Nat.zero_le _, HT0.out⟩
    case round =>
      obtain ⟨j, hj, hT⟩ := hrel
      by_cases hjN : j < N
      · obtain ⟨hjs, hbyte⟩ := HF.out.2.2.2 j (by have := HF.out.2.2.1; omega)
        have hjF : j < F.length := by have := HF.out.2.2.1; omega
        have hjA : j < s.args.length := by have := HR.out.2.1; omega
        obtain ⟨b, hb⟩ : ∃ b, F[j] = b := ⟨_, rfl⟩
        have hnx : ∀ ty, (Instr.next (.pointer (some ⟨ib, 0, none⟩)) true ty).run Tryz.prog wr = .ok (.tuple #[.bool true, .int .i64 j, .int .i32 (if b then 110 else 119 : Nat)]) (wr.iterAt ib S (j + 1)) := fun ty => by
          rw [Lib.run_next_ascii_at wr ib S j ty hT.it hjs (by rw [hbyte]; split <;> omega), hbyte, hb]
        have hT5 := hT.next HI.out.1 HI.out.2 (j + 1)
        have hpos : wr.iterPos ib = j := by simp only [World.iterPos, hT.it]
        generalize wr.iterAt ib S (j + 1) = W5 at *
        have hlow := hT5.lo
        have hE5 : Env hiP loP W5 := HR.out.2.2.2.1.later hlow
        obtain ⟨g, off, hA, hg, e1, e2, e3⟩ := arg_at (i := j) (HR.out.2.1 ▸ HR.out.1.keep (W' := W5) fun g hg hgl => hlow.block g hgl) hjA
        subst hA
        have d3 : W5.cell? ⟨b0, 3, none⟩ = some (.slice (some ⟨g, off, none⟩) N c) := (cell_of_row W5 b0 3 _ _ _ hT5.bx).trans rfl
        obtain ⟨a, ha⟩ : ∃ a, s.args[j] = a := ⟨_, rfl⟩
        rw [ha] at e1 e2 e3
        have hax : a.num < 18446744073709551616 := HR.out.2.2.2.2 a (ha ▸ List.getElem_mem hjA)
        have CP := Lib.hid (fun (u : World) (hu : Env hiP loP u) => print_b (hi := hiP) (lo := loP) a.num hax u hu)
        have hnext : headToks s ++ argToks (F.take (j + 1)) (s.args.take (j + 1)) = (headToks s ++ argToks (F.take j) (s.args.take j)) ++ [argTok b a] := by
          rw [argToks_take F s.args j hjF hjA, hb, ha, List.append_assoc]
        obtain ⟨ts, hts⟩ : ∃ ts, headToks s ++ argToks (F.take j) (s.args.take j) = ts := ⟨_, rfl⟩
        rw [hts] at hT5 hnext
        have hlen9 : ts.length ≤ 100 := by
          rw [← hts, List.length_append, argToks_len _ _ (by rw [List.length_take, List.length_take, HF.out.2.2.1.symm, HR.out.2.1])]
          rw [List.length_take]
          show 3 + _ ≤ 100
          omega
        have HJ := Lib.hid (And.intro hT5 (And.intro hE5 (And.intro hnext (And.intro hlen9 hpos))))
        have hj0 : (0 : Int) ≤ (j : Int) := by omega
        have hj1 : (j : Int) < (N : Int) := by omega
        clear hT hT5 hE5 hnext hlen9 hpos hlow hax ha hb hbyte hts
        cases b with
        | true =>
          simp only [if_true, Int.cast_ofNat_Int] at hnx
          go_upto_region 8 with (go_at_call 21; (with_reducible refine (CP.out _ HJ.out.2.1).mono ?_); rintro e w6 ⟨rfl, hb6⟩; have B6 := Lib.hid hb6; have e1' := (hb6.cell (p := ⟨g, off + j * 3, none⟩) (World.block_lt_of_cell? W5 _ e1)).trans e1; have d3' := (hb6.cell (p := ⟨b0, 3, none⟩) (World.block_lt_of_cell? W5 _ d3)).trans d3; clear hb6)
          have hT6 := HJ.out.1.below B6.out
          obtain ⟨v7, w7, hrun7, ho7, hg7⟩ := tok_app hT6.own (by have := HJ.out.2.2.2.1; omega) hT6.lo.size (argTok true a)
          have HT7 := Lib.hid (hT6.grown hg7 ho7)
          clear hT6 ho7 hg7
          go_wp2_with ((with_reducible refine wl_here ?_); (refine wl_val rfl v7 (hrun7 _ _ (.tmp 59) (.tmp 68) rfl rfl rfl) ?_); (simp only [Act.put, List.setIfInBounds_toArray, List.set_cons_succ, List.set_cons_zero]))
          go_roundw
          case rel => exact ⟨j + 1, by omega, by rw [HJ.out.2.2.1]; exact HT7.out⟩
          case measure =>
            have := HT7.out.it
            have h2 := HJ.out.2.2.2.2
            rw [h2]
            simp only [World.iterPos, this]
            omega
        | false =>
          simp only [Bool.false_eq_true, if_false, Int.cast_ofNat_Int] at hnx
          go_upto_region 6 with fail
          have f1 : ∀ u : Ext W5, u.1.cell? ⟨g, off + j * 3, none⟩ = some (.int .i64 a.pos) := fun u => ext_cell e1 u
          have f2 : ∀ u : Ext W5, u.1.cell? ⟨g, off + j * 3 + 2, none⟩ = some (.string a.name) := fun u => ext_cell e3 u
          have f3 : ∀ u : Ext W5, u.1.cell? ⟨b0, 3, none⟩ = some (.slice (some ⟨g, off, none⟩) N c) := fun u => ext_cell d3 u
          clear e1 e2 e3 d3
          refine region_late (C := fun w' => ∃ u : Ext W5, w' = u.1) 14 (by kernel_rfl) (by kernel_rfl) (by kernel_rfl) (ext_self W5) ?_
          simp only [List.take_succ_cons, List.take_zero, List.drop_succ_cons, List.drop_zero]
          repeat go_big_quiet_step (fail)
          refine wpQuiet_nil ?_
          have hD : Below W5.heap.size W5 W5.drew := (Below.refl _ _).drew
          have hT6 := HJ.out.1.below hD
          obtain ⟨v7, w7, hrun7, ho7, hg7⟩ := tok_app hT6.own (by have := HJ.out.2.2.2.1; omega) hT6.lo.size (argTok false a)
          have HT7 := Lib.hid (hT6.grown hg7 ho7)
          clear hT6 ho7 hg7 f1 f2 f3
          refine ⟨rfl, goUpon_val _ _ (exec_tbs1 (.tmp 46) rfl _ _ (argTok false a) rfl) ⟨⟨_, hD.alloc hD.size _⟩, rfl⟩ ?_⟩
          simp only [Act.put, List.setIfInBounds_toArray, List.set_cons_succ, List.set_cons_zero]
          refine wl_val rfl v7 (hrun7 _ _ (.tmp 33) (.tmp 47) rfl rfl rfl) ?_
          simp only [Act.put, List.setIfInBounds_toArray, List.set_cons_succ, List.set_cons_zero]
          go_wp2_with fail
          go_roundw
          case rel => exact ⟨j + 1, by omega, by rw [HJ.out.2.2.1]; exact HT7.out⟩
          case measure =>
            have := HT7.out.it
            have h2 := HJ.out.2.2.2.2
            rw [h2]
            simp only [World.iterPos, this]
            omega
      · obtain rfl : j = N := by omega
        have hnx : ∀ ty, (Instr.next (.pointer (some ⟨ib, 0, none⟩)) true ty).run Tryz.prog wr = .ok (.tuple #[.bool false]) wr := fun ty => Lib.run_next_end_at wr ib S _ ty hT.it (by omega)
        have c1 : wr.cell? ⟨b0, 1, none⟩ = some (.int .i64 s.pos) := (cell_of_row wr b0 1 _ _ _ hT.bx).trans rfl
        have htk : headToks s ++ argToks (F.take j) (s.args.take j) = headToks s ++ argToks F s.args := by
          rw [List.take_of_length_le (by have := HF.out.2.2.1; omega), List.take_of_length_le (by have := HR.out.2.1; omega)]
        rw [htk] at hT
        have hl9 : (headToks s ++ argToks F s.args).length ≤ 100 := by
          rw [List.length_append, argToks_len _ _ (by have := HF.out.2.2.1; have := HR.out.2.1; omega), HR.out.2.1]
          show 3 + _ ≤ 100
          omega
        obtain ⟨v7, w7, hrun7, ho7, hg7⟩ := tok_app hT.own (by omega) hT.lo.size ⟨4, s.pos, ⟨#[]⟩⟩
        have HT7 := Lib.hid (And.intro (hT.grown hg7 ho7) ho7)
        clear hT ho7 hg7 htk hl9
        go_wp2_with ((with_reducible refine wl_here ?_); (refine wl_val rfl v7 (hrun7 _ _ (.tmp 70) (.tmp 74) rfl rfl rfl) ?_); (simp only [Act.put, List.setIfInBounds_toArray, List.set_cons_succ, List.set_cons_zero]))
        go_ret
        rw [HF.out.1]
        exact ⟨v7, rfl, HT7.out.2, HT7.out.1.lo⟩
end Go.Proofs.YtejmbbkklhpnaaaGreatDoor.plw

/- The walks of the reference's letter and digit. -/
namespace Go.Proofs.YtejmbbkklhpnaaaGreatDoor.lexw
open Go.RowKit
open Go.Proofs.YtejmbbkklhpnaaaGreatDoor.lexm

theorem rletter_any (c : Int) (w : World) : Calls Tryz.prog 64 #[.int .u8 c] w fun e w' => e = .returned (.bool (ltrI c)) ∧ w = w' := by
  by_cases h1 : 97 ≤ c
  · by_cases h2 : c ≤ 122
    · have hv : ltrI c = true := by simp [ltrI, h1, h2]
      have HV := Lib.hid hv
      clear hv
      go_enter Tryz.func64, Tryz.ntmps64
      go_wp2
      go_ret
      exact ⟨ret_bool HV.out.symm, rfl⟩
    · have hv : ltrI c = false := by
        have : ¬ c ≤ 90 := by omega
        have : ¬ c = 95 := by omega
        simp [ltrI, *]
      have HV := Lib.hid hv
      have h3 : 65 ≤ c := by omega
      have h4 : ¬ c ≤ 90 := by omega
      have h5 : (c == 95) = false := by rw [beq_eq_false_iff_ne]; omega
      clear hv
      go_enter Tryz.func64, Tryz.ntmps64
      go_wp2
      go_ret
      exact ⟨ret_bool HV.out.symm, rfl⟩
  · by_cases h2 : 65 ≤ c
    · by_cases h3 : c ≤ 90
      · have hv : ltrI c = true := by simp [ltrI, h2, h3]
        have HV := Lib.hid hv
        clear hv
        go_enter Tryz.func64, Tryz.ntmps64
        go_wp2
        go_ret
        exact ⟨ret_bool HV.out.symm, rfl⟩
      · have hv : ltrI c = (c == 95) := by simp [ltrI, h1, h3]
        have HV := Lib.hid hv
        clear hv
        go_enter Tryz.func64, Tryz.ntmps64
        go_wp2
        go_ret
        exact ⟨ret_bool HV.out.symm, rfl⟩
    · have hv : ltrI c = (c == 95) := by simp [ltrI, h1, h2]
      have HV := Lib.hid hv
      clear hv
      go_enter Tryz.func64, Tryz.ntmps64
      go_wp2
      go_ret
      exact ⟨ret_bool HV.out.symm, rfl⟩

theorem rdigit_any (c : Int) (w : World) : Calls Tryz.prog 65 #[.int .u8 c] w fun e w' => e = .returned (.bool (digI c)) ∧ w = w' := by
  go_enter Tryz.func65, Tryz.ntmps65
  go_wp2
  all_goals go_ret
  · have h : 48 ≤ c := by assumption
    exact ⟨ret_bool (by simp [digI, h]), rfl⟩
  · have h : ¬ 48 ≤ c := by omega
    exact ⟨ret_bool (by simp [digI, h]), rfl⟩

end Go.Proofs.YtejmbbkklhpnaaaGreatDoor.lexw
