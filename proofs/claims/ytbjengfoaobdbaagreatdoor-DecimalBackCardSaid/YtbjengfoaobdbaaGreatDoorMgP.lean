/- Two positive floats' digits are of two values. Plain. -/
import Derived.Test.YtbjengfoaobdbaaGreatDoorFpJ
import Derived.Test.YtbjengfoaobdbaaGreatDoorMgK
namespace Go.Proofs.YtbjengfoaobdbaaGreatDoor.fpm
open Go Go.RowKit Go.Proofs.YtbjengfoaobdbaaGreatDoor.prnw

def tB : Nat := 400
theorem tB_eq : tB = 400 := rfl
/-- a float's digits, as one number -/
def ftV (X : Nat) : Nat := (ftR hiP loP X).1.toNat * 10 ^ ((ftR hiP loP X).2 + 400).toNat
theorem hiP_T : hiP = hiT := rfl
theorem loP_T : loP = loT := rfl
theorem ft_in (X : Nat) (hX0 : 0 < X) (hX : X < 9218868437227405312) :
    endL X * 10 ^ tB ≤ ftV X * 2 ^ upB ∧ ftV X * 2 ^ upB ≤ endU X * 10 ^ tB ∧ (X % 2 = 1 → endL X * 10 ^ tB < ftV X * 2 ^ upB ∧ ftV X * 2 ^ upB < endU X * 10 ^ tB) := by
  obtain ⟨r1, r2, r3, r4, r5⟩ := ft_range X hX0 hX
  obtain ⟨S, hS⟩ : ∃ S, S = 64 - Lib.bitLen (ftM X) := ⟨_, rfl⟩
  obtain ⟨k, P, p1, p2, p3, i1, i2, i3⟩ := sf_in (ftM X) S (ftE X - 52) r1 r2 r3 r4 r5 hS
  have hR : ftR hiP loP X = sfR hiT loT ((ftM X * 2 ^ S : Nat) : Int) (ftE X - 52 - S) := by
    unfold ftR
    rw [← hS, show ftE X - (S : Int) - 52 = ftE X - 52 - S by omega]
    rfl
  rw [← hR] at p3
  have hV : ftV X = k * 10 ^ (400 - P).toNat := by
    unfold ftV
    rcases p3 with h | ⟨k', h1, h2⟩
    · rw [h, Int.toNat_natCast, show -P + 400 = 400 - P by omega]
    · rw [h2, h1, Int.toNat_natCast]
      show k' * 10 ^ (-(P - 1) + 400).toNat = _
      rw [show (-(P - 1) + 400).toNat = (400 - P).toNat + 1 by omega, Nat.pow_succ, Nat.mul_assoc, Nat.mul_comm 10]
  have hp10 : 0 < 10 ^ P.toNat := Nat.pow_pos (by decide)
  have htB := tB_eq
  have e1 : ftV X * 2 ^ upB * 10 ^ P.toNat = k * 2 ^ upB * 10 ^ (-P).toNat * 10 ^ tB := by
    rw [hV]
    have : 10 ^ (400 - P).toNat * 10 ^ P.toNat = 10 ^ (-P).toNat * 10 ^ tB := by
      rw [← Nat.pow_add, ← Nat.pow_add]
      exact congrArg (fun z : Nat => 10 ^ z) (by omega)
    generalize 10 ^ (400 - P).toNat = t1 at *
    generalize 10 ^ P.toNat = t2 at *
    generalize 10 ^ (-P).toNat = t3 at *
    generalize 10 ^ tB = t4 at *
    generalize 2 ^ upB = t5 at *
    have a1 : k * t1 * t5 * t2 = k * t5 * (t1 * t2) := by ac_rfl
    rw [a1, this]
    ac_rfl
  have sc : ∀ A, A * 10 ^ tB * 10 ^ P.toNat = A * 10 ^ P.toNat * 10 ^ tB := fun A => Nat.mul_right_comm _ _ _
  have h400 : 0 < 10 ^ tB := Nat.pow_pos (by decide)
  change endL X * 10 ^ P.toNat ≤ _ at i1
  change _ ≤ endU X * 10 ^ P.toNat at i2
  change _ → endL X * 10 ^ P.toNat < _ ∧ _ < endU X * 10 ^ P.toNat at i3
  rw [ftM_odd] at i3
  refine ⟨(le_scaled hp10 h400 (sc _) e1).2 i1, (le_scaled hp10 h400 e1 (sc _)).2 i2, fun h => ?_⟩
  obtain ⟨j1, j2⟩ := i3 h
  exact ⟨(lt_scaled hp10 h400 (sc _) e1).2 j1, (lt_scaled hp10 h400 e1 (sc _)).2 j2⟩
theorem ftV_lt (X n : Nat) (hX0 : 0 < X) (hY : X + (n + 1) < 9218868437227405312) : ftV X ≠ ftV (X + (n + 1)) := by
  intro h
  obtain ⟨a1, a2, a3⟩ := ft_in X hX0 (by omega)
  obtain ⟨b1, b2, b3⟩ := ft_in (X + (n + 1)) (by omega) hY
  have hm := ends_mono (X + 1) (by omega) n
  rw [Nat.add_assoc X 1 n, Nat.add_comm 1 n, ends_meet X] at hm
  rw [h] at a2 a3
  have h400 : 0 < 10 ^ tB := Nat.pow_pos (by decide)
  have hle := Nat.le_trans b1 a2
  have hle2 := Nat.le_of_mul_le_mul_right hle h400
  have hn : n = 0 := by omega
  subst hn
  have he : endL (X + (0 + 1)) = endU X := by omega
  by_cases ho : X % 2 = 1
  · have := (a3 ho).2
    rw [he] at b1
    exact absurd b1 (Nat.not_le_of_lt this)
  · have := (b3 (by omega)).1
    rw [he] at this
    exact absurd a2 (Nat.not_le_of_lt this)
theorem ftV_inj (X Y : Nat) (hX0 : 0 < X) (hX : X < 9218868437227405312) (hY0 : 0 < Y) (hY : Y < 9218868437227405312) (h : ftV X = ftV Y) : X = Y := by
  rcases Nat.lt_trichotomy X Y with hl | he | hg
  · obtain ⟨n, rfl⟩ : ∃ n, Y = X + (n + 1) := ⟨Y - X - 1, by omega⟩
    exact absurd h (ftV_lt X n hX0 hY)
  · exact he
  · obtain ⟨n, rfl⟩ : ∃ n, X = Y + (n + 1) := ⟨X - Y - 1, by omega⟩
    exact absurd h.symm (ftV_lt Y n hY0 hX)
end Go.Proofs.YtbjengfoaobdbaaGreatDoor.fpm

/- (nothing: seats without nodes) -/


/- The value of a number's text. Plain. -/
namespace Go.Proofs.YtbjengfoaobdbaaGreatDoor.fpm
open Go Go.RowKit Go.Proofs.YtbjengfoaobdbaaGreatDoor.prnw

def before (c : UInt8) : List UInt8 → List UInt8
  | [] => []
  | b :: r => if b = c then [] else b :: before c r
def after (c : UInt8) : List UInt8 → List UInt8
  | [] => []
  | b :: r => if b = c then r else after c r
theorem bef_skip (c : UInt8) (q : List UInt8) : ∀ p : List UInt8, (∀ b ∈ p, b ≠ c) → before c (p ++ c :: q) = p ∧ after c (p ++ c :: q) = q
  | [], _ => ⟨if_pos rfl, if_pos rfl⟩
  | b :: r, h => by
    obtain ⟨h1, h2⟩ := bef_skip c q r (fun x hx => h x (List.mem_cons_of_mem _ hx))
    have hb := h b List.mem_cons_self
    exact ⟨(if_neg hb).trans (congrArg (b :: ·) h1), (if_neg hb).trans h2⟩
theorem bef_none (c : UInt8) : ∀ p : List UInt8, (∀ b ∈ p, b ≠ c) → before c p = p ∧ after c p = []
  | [], _ => ⟨rfl, rfl⟩
  | b :: r, h => by
    obtain ⟨h1, h2⟩ := bef_none c r (fun x hx => h x (List.mem_cons_of_mem _ hx))
    have hb := h b List.mem_cons_self
    exact ⟨(if_neg hb).trans (congrArg (b :: ·) h1), (if_neg hb).trans h2⟩
/-- digits, as a number -/
def decA (v : Nat) : List UInt8 → Nat
  | [] => v
  | b :: r => decA (10 * v + (b.toNat - 48)) r
def decV (l : List UInt8) : Nat := decA 0 l
theorem decA_app (r : List UInt8) : ∀ (l : List UInt8) (v : Nat), decA v (l ++ r) = decA (decA v l) r
  | [], _ => rfl
  | _ :: l, _ => decA_app r l _
theorem decA_zeros : ∀ (n v : Nat), decA v (Lib.repeatL [48] n) = v * 10 ^ n
  | 0, v => (Nat.mul_one v).symm
  | n + 1, v => by
    show decA (10 * v + 0) (Lib.repeatL [48] n) = _
    rw [decA_zeros n, Nat.pow_succ, Nat.add_zero, Nat.mul_comm 10 v, Nat.mul_assoc, Nat.mul_comm 10]
theorem dg_val (u j : Nat) : (Lib.dg u j).toNat - 48 = u / 10 ^ j % 10 := by
  unfold Lib.dg
  rw [UInt8.toNat_ofNat']
  omega
theorem dec_front (u N : Nat) (h : u < 10 ^ N) : ∀ n, n ≤ N → decV ((List.range n).map fun t => Lib.dg u (N - 1 - t)) = u / 10 ^ (N - n)
  | 0, _ => by
    rw [Nat.sub_zero, Nat.div_eq_of_lt h]
    rfl
  | n + 1, hn => by
    have ih := dec_front u N h n (by omega)
    unfold decV at ih ⊢
    rw [List.range_succ, List.map_append, decA_app, ih]
    show 10 * (u / 10 ^ (N - n)) + ((Lib.dg u (N - 1 - n)).toNat - 48) = _
    rw [dg_val, show N - 1 - n = N - (n + 1) by omega, show N - n = N - (n + 1) + 1 by omega, Nat.pow_succ, ← Nat.div_div_eq_div_mul]
    omega
theorem trim_val (u : Nat) : ∀ n, n ≤ Lib.nDigits u → u / 10 ^ (Lib.nDigits u - n) = u / 10 ^ (Lib.nDigits u - trimTo u n) * 10 ^ (n - trimTo u n)
  | 0, _ => by
    show _ = u / 10 ^ (Lib.nDigits u - 0) * 10 ^ 0
    rw [Nat.pow_zero, Nat.mul_one]
  | n + 1, hn => by
    have ih := trim_val u n (by omega)
    have hle := trim_le u n
    by_cases hc : Lib.dg u (Lib.nDigits u - 1 - n) = 48
    · have e : trimTo u (n + 1) = trimTo u n := if_pos hc
      rw [e]
      have hz := dg_val u (Lib.nDigits u - 1 - n)
      rw [hc] at hz
      change 0 = _ at hz
      rw [show n + 1 - trimTo u n = (n - trimTo u n) + 1 by omega, Nat.pow_succ, ← Nat.mul_assoc, ← ih, show Lib.nDigits u - n = Lib.nDigits u - (n + 1) + 1 by omega, Nat.pow_succ, ← Nat.div_div_eq_div_mul]
      rw [show Lib.nDigits u - 1 - n = Lib.nDigits u - (n + 1) by omega] at hz
      omega
    · have e : trimTo u (n + 1) = n + 1 := if_neg hc
      rw [e, Nat.sub_self, Nat.pow_zero, Nat.mul_one]
/-- the digits that count, and how many do not -/
theorem dec_sd (u : Nat) (h : 1 ≤ u) : u = decV (sdH u :: sdL u) * 10 ^ (Lib.nDigits u - (sdH u :: sdL u).length) ∧ (sdH u :: sdL u).length ≤ Lib.nDigits u := by
  have hl := sdL_len u h
  have ht := trim_le u (Lib.nDigits u)
  have hv := trim_val u (Lib.nDigits u) (Nat.le_refl _)
  rw [Nat.sub_self, Nat.pow_zero, Nat.div_one] at hv
  have e : sdH u :: sdL u = (List.range (trimTo u (Lib.nDigits u))).map fun t => Lib.dg u (Lib.nDigits u - 1 - t) := by
    obtain ⟨T, hT⟩ : ∃ T, trimTo u (Lib.nDigits u) = T + 1 := ⟨(sdL u).length, hl.symm⟩
    rw [hT, List.range_succ_eq_map, List.map_cons, List.map_map]
    unfold sdH sdL
    rw [hT]
    rfl
  have hd := dec_front u (Lib.nDigits u) (Lib.lt_pow_nDigits u) (trimTo u (Lib.nDigits u)) ht
  rw [List.length_cons, hl]
  refine ⟨?_, ht⟩
  rw [e, hd]
  exact hv
theorem dec_digits (u : Nat) : decV (Lib.decDigits u) = u := by
  rw [Lib.decDigits_eq, dec_front u _ (Lib.lt_pow_nDigits u) _ (Nat.le_refl _), Nat.sub_self, Nat.pow_zero, Nat.div_one]
/-- an exponent -/
def exV : List UInt8 → Int
  | [] => 0
  | b :: r => if b = 45 then -(decV r : Int) else (decV (b :: r) : Int)
theorem ex_itoa (k : Int) : exV (Lib.itoa k) = k := by
  unfold Lib.itoa
  split
  · show -((decV (Lib.decDigits k.natAbs) : Nat) : Int) = k
    rw [dec_digits]
    omega
  · have hd := dec_digits k.toNat
    have hi : ∀ b ∈ Lib.decDigits k.toNat, b ≠ 45 := fun b hb e => by
      rw [Lib.decDigits_eq, List.mem_map] at hb
      obtain ⟨t, _, ht⟩ := hb
      rw [e] at ht
      have := congrArg UInt8.toNat ht
      unfold Lib.dg at this
      rw [UInt8.toNat_ofNat'] at this
      change _ = 45 at this
      omega
    cases hl : Lib.decDigits k.toNat with
    | nil =>
      rw [hl] at hd
      change 0 = _ at hd
      show (0 : Int) = k
      omega
    | cons b r =>
      rw [hl] at hi hd
      show (if b = 45 then _ else _) = k
      rw [if_neg (hi b List.mem_cons_self), hd]
      omega
/-- a text's value, scaled -/
def txV (l : List UInt8) : Nat :=
  decV (before 46 (before 101 l) ++ after 46 (before 101 l)) * 10 ^ ((tB : Int) + exV (after 101 l) - ((after 46 (before 101 l)).length : Int)).toNat
theorem rep_dg : ∀ n, ∀ b ∈ Lib.repeatL [48] n, isDg b
  | 0, b, h => by cases h
  | n + 1, b, h => by
    rcases List.mem_cons.1 (show b ∈ (48 : UInt8) :: Lib.repeatL [48] n from h) with rfl | h
    · exact ⟨by decide, by decide⟩
    · exact rep_dg n b h
theorem dg_app {l r : List UInt8} (h : ∀ b ∈ l, isDg b) (k : ∀ b ∈ r, isDg b) : ∀ b ∈ l ++ r, isDg b := fun b hb => (List.mem_append.1 hb).elim (h b) (k b)
/-- digits, a point, digits -/
theorem tx_point (I F : List UInt8) (hI : ∀ b ∈ I, isDg b) (hF : ∀ b ∈ F, isDg b) : txV (I ++ 46 :: F) = decV (I ++ F) * 10 ^ ((tB : Int) - F.length).toNat := by
  have h1 := bef_none 101 (I ++ 46 :: F) (fun b hb => by
    rcases List.mem_append.1 hb with h | h
    · exact (hI b h).ne (Or.inr (by decide))
    · rcases List.mem_cons.1 h with rfl | h
      · decide
      · exact (hF b h).ne (Or.inr (by decide)))
  have h2 := bef_skip 46 F I (fun b hb => (hI b hb).ne (Or.inl (by decide)))
  unfold txV
  rw [h1.1, h1.2, h2.1, h2.2]
  show _ * 10 ^ ((tB : Int) + 0 - _).toNat = _
  rw [Int.add_zero]
theorem tx_whole (I : List UInt8) (hI : ∀ b ∈ I, isDg b) : txV I = decV I * 10 ^ tB := by
  have h1 := bef_none 101 I (fun b hb => (hI b hb).ne (Or.inr (by decide)))
  have h2 := bef_none 46 I (fun b hb => (hI b hb).ne (Or.inl (by decide)))
  unfold txV
  rw [h1.1, h1.2, h2.1, h2.2, List.append_nil, show ((tB : Int) + exV [] - ((([] : List UInt8).length : Nat) : Int)).toNat = tB from rfl]
theorem tx_exp (A : List UInt8) (q : Int) (hA : ∀ b ∈ A, b ≠ 101) : txV (A ++ [101] ++ Lib.itoa q) = decV (before 46 A ++ after 46 A) * 10 ^ ((tB : Int) + q - (after 46 A).length).toNat := by
  have h1 := bef_skip 101 (Lib.itoa q) A hA
  unfold txV
  rw [show A ++ [101] ++ Lib.itoa q = A ++ 101 :: Lib.itoa q by simp, h1.1, h1.2, ex_itoa]
/-- a laid text has its digits' value -/
theorem tx_laid (D : List UInt8) (k : Int) (hD : ∀ b ∈ D, isDg b) (hn1 : 1 ≤ D.length) (hn : D.length ≤ 20) (k0 : -347 ≤ k) : txV (laidT D k) = decV D * 10 ^ ((tB : Int) + k - D.length).toNat := by
  have htB := tB_eq
  unfold laidT
  split
  · split
    · rw [tx_whole _ (dg_app hD (rep_dg _))]
      unfold decV
      rw [decA_app, decA_zeros, Nat.mul_assoc, ← Nat.pow_add]
      congr 2
      omega
    · rw [show D.take k.toNat ++ [46] ++ D.drop k.toNat = D.take k.toNat ++ 46 :: D.drop k.toNat by simp,
        tx_point _ _ (fun b hb => hD b (List.mem_of_mem_take hb)) (fun b hb => hD b (List.mem_of_mem_drop hb)), List.take_append_drop, List.length_drop]
      congr 2
      omega
  · split
    · rw [show ([48, 46] : List UInt8) ++ Lib.repeatL [48] (-k).toNat ++ D = [48] ++ 46 :: (Lib.repeatL [48] (-k).toNat ++ D) by simp,
        tx_point _ _ (fun b hb => by rw [List.mem_singleton.1 hb]; exact ⟨by decide, by decide⟩) (dg_app (rep_dg _) hD), List.length_append, Lib.repeatL_length]
      have : decV ([48] ++ (Lib.repeatL [48] (-k).toNat ++ D)) = decV D := by
        unfold decV
        rw [decA_app, decA_app]
        show decA (decA 0 (Lib.repeatL [48] (-k).toNat)) D = _
        rw [decA_zeros, Nat.zero_mul]
      rw [this]
      congr 2
      simp only [List.length_cons, List.length_nil]
      omega
    · split
      · have hp := bef_skip 46 (D.drop 1) (D.take 1) (fun b hb => (hD b (List.mem_of_mem_take hb)).ne (Or.inl (by decide)))
        rw [show D.take 1 ++ [46] ++ D.drop 1 = D.take 1 ++ 46 :: D.drop 1 by simp]
        rw [tx_exp _ _ (fun b hb => by
          rcases List.mem_append.1 hb with h | h
          · exact (hD b (List.mem_of_mem_take h)).ne (Or.inr (by decide))
          · rcases List.mem_cons.1 h with rfl | h
            · decide
            · exact (hD b (List.mem_of_mem_drop h)).ne (Or.inr (by decide))), hp.1, hp.2, List.take_append_drop, List.length_drop]
        congr 2
        omega
      · have hp := bef_none 46 D (fun b hb => (hD b hb).ne (Or.inl (by decide)))
        rw [tx_exp _ _ (fun b hb => (hD b hb).ne (Or.inr (by decide))), hp.1, hp.2, List.append_nil]
        congr 2
        simp only [List.length_nil]
        omega
theorem hh_T : ∀ i, i < 696 → 9223372036854775808 ≤ hiP i ∧ hiP i < 18446744073709551616 := fun i h => by
  obtain ⟨r1, r2, _⟩ := row_spec i (by omega)
  exact ⟨r1, r2⟩
/-- a positive float's text has its digits' value -/
theorem tx_pos (X : Nat) (hX0 : 0 < X) (hX : X < 9218868437227405312) : txV (posT hiP loP X) = ftV X := by
  have htB := tB_eq
  obtain ⟨p1, p2, p3, p4⟩ := pos_bd hiP loP X hX0 hX hh_T
  obtain ⟨b1, b2, b3, b4⟩ := ft_bd hiP loP X hX0 hX hh_T
  have hd := dec_sd (ftR hiP loP X).1.toNat b1
  unfold posT
  rw [tx_laid (posD hiP loP X) _ (sd_dg _) p1 p2 p3]
  unfold ftV
  have hk : posK hiP loP X = (Lib.nDigits (ftR hiP loP X).1.toNat : Nat) + (ftR hiP loP X).2 := rfl
  obtain ⟨d, hdd⟩ : ∃ d, d = posD hiP loP X := ⟨_, rfl⟩
  have hd' : (ftR hiP loP X).1.toNat = decV d * 10 ^ (Lib.nDigits (ftR hiP loP X).1.toNat - d.length) ∧ d.length ≤ Lib.nDigits (ftR hiP loP X).1.toNat := by rw [hdd]; exact hd
  rw [← hdd, hk]
  generalize hN : Lib.nDigits (ftR hiP loP X).1.toNat = N at hd' ⊢
  rw [hd'.1, Nat.mul_assoc, ← Nat.pow_add]
  congr 2
  have := hd'.2
  omega
theorem posT_inj (X Y : Nat) (hX0 : 0 < X) (hX : X < 9218868437227405312) (hY0 : 0 < Y) (hY : Y < 9218868437227405312) (h : posT hiP loP X = posT hiP loP Y) : X = Y :=
  ftV_inj X Y hX0 hX hY0 hY (by rw [← tx_pos X hX0 hX, ← tx_pos Y hY0 hY, h])
end Go.Proofs.YtbjengfoaobdbaaGreatDoor.fpm
