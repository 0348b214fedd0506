/- What a laid text of digits says when it is read: the digits times ten to a power. Plain. -/
import Derived.Test.YtbjengfoaobdbaaGreatDoorRdJ
import Derived.Lib.ItoaNum
import Derived.Lib.Repeat
namespace Go.Proofs.YtbjengfoaobdbaaGreatDoor.rdf
open Go.RowKit
open Go.Proofs.YtbjengfoaobdbaaGreatDoor.dmx
open Go.Proofs.YtbjengfoaobdbaaGreatDoor.fpm

/-- a row of digits as a number -/
def dval (l : List UInt8) : Nat := l.foldl (fun N c => N * 10 + (c.toNat - 48)) 0
theorem foldN : ∀ (l : List UInt8) (N : Nat), l.foldl (fun N c => N * 10 + (c.toNat - 48)) N = N * 10 ^ l.length + dval l
  | [], N => by simp [dval]
  | c :: l, N => by
    show l.foldl _ (N * 10 + (c.toNat - 48)) = _
    rw [foldN l]
    have h : dval (c :: l) = (0 * 10 + (c.toNat - 48)) * 10 ^ l.length + dval l := foldN l _
    rw [h, List.length_cons, Nat.pow_succ, Nat.add_mul, Nat.zero_mul, Nat.zero_add, Nat.add_assoc, Nat.mul_assoc, Nat.mul_comm 10]
theorem dval_cons (c : UInt8) (l : List UInt8) : dval (c :: l) = (0 * 10 + (c.toNat - 48)) * 10 ^ l.length + dval l := by
  conv => lhs; unfold dval
  exact foldN l (0 * 10 + (c.toNat - 48))
theorem dval_app (a b : List UInt8) : dval (a ++ b) = dval a * 10 ^ b.length + dval b := by
  show (a ++ b).foldl _ 0 = _
  rw [List.foldl_append, foldN]
  rfl
def DigL (l : List UInt8) : Prop := ∀ c ∈ l, isD c = true
theorem digL_app {a b : List UInt8} (ha : DigL a) (hb : DigL b) : DigL (a ++ b) := fun c hc => (List.mem_append.1 hc).elim (ha c) (hb c)
theorem digL_zero (z : Nat) : DigL (List.replicate z 48) := fun c hc => by
  rw [List.eq_of_mem_replicate hc]
  decide
theorem dval_zero : ∀ z, dval (List.replicate z 48) = 0
  | 0 => rfl
  | z + 1 => by
    rw [List.replicate_succ]
    rw [dval_cons, dval_zero z]
    simp
theorem dgs_app : ∀ (a r : List UInt8), DigL a → dgs (a ++ r) = a.length + dgs r
  | [], r, _ => by simp
  | c :: a, r, h => by
    have hc := h c (by simp)
    show dgs (c :: (a ++ r)) = _
    conv => lhs; unfold dgs
    rw [if_pos hc, dgs_app a r (fun d hd => h d (by simp [hd])), List.length_cons]
    omega
theorem dgs_dig (a : List UInt8) (h : DigL a) : dgs a = a.length := by
  have := dgs_app a [] h
  rw [List.append_nil] at this
  exact this
theorem dgs_no {c : UInt8} {l : List UInt8} (h : isD c = false) : dgs (c :: l) = 0 := by
  unfold dgs
  rw [h]
  rfl
/-- digits, the first of which counts -/
theorem fold_pos : ∀ (l : List UInt8) (y : MS), 0 < y.nd → (foldD l y).N = y.N * 10 ^ l.length + dval l ∧ (foldD l y).nd = y.nd + l.length ∧ (foldD l y).dp = y.dp
  | [], y, h => by simp [foldD, dval]
  | c :: l, y, h => by
    have hz : ¬ (c.toNat = 48 ∧ y.nd = 0) := fun e => by omega
    have e : (dgS c y).N = y.N * 10 + (c.toNat - 48) ∧ (dgS c y).nd = y.nd + 1 ∧ (dgS c y).dp = y.dp := by
      unfold dgS
      rw [if_neg hz]
      split <;> exact ⟨rfl, rfl, rfl⟩
    obtain ⟨a1, a2, a3⟩ := fold_pos l (dgS c y) (by omega)
    have hd := dval_cons c l
    refine ⟨?_, ?_, ?_⟩
    · show (foldD l (dgS c y)).N = _
      rw [a1, e.1, hd, List.length_cons, Nat.pow_succ, Nat.zero_mul, Nat.zero_add, Nat.add_mul, Nat.add_assoc, Nat.mul_assoc, Nat.mul_comm 10]
    · show (foldD l (dgS c y)).nd = _
      rw [a2, e.2.1, List.length_cons]
      omega
    · show (foldD l (dgS c y)).dp = _
      rw [a3, e.2.2]
theorem fold_first (c : UInt8) (l : List UInt8) (y : MS) (hc : c.toNat ≠ 48) (hy : y.nd = 0) (hN : y.N = 0) : (foldD (c :: l) y).N = dval (c :: l) ∧ (foldD (c :: l) y).nd = l.length + 1 ∧ (foldD (c :: l) y).dp = y.dp := by
  have hz : ¬ (c.toNat = 48 ∧ y.nd = 0) := fun e => hc e.1
  have e : (dgS c y).N = y.N * 10 + (c.toNat - 48) ∧ (dgS c y).nd = y.nd + 1 ∧ (dgS c y).dp = y.dp := by
    unfold dgS
    rw [if_neg hz]
    split <;> exact ⟨rfl, rfl, rfl⟩
  obtain ⟨a1, a2, a3⟩ := fold_pos l (dgS c y) (by omega)
  have hd := dval_cons c l
  refine ⟨?_, ?_, ?_⟩
  · show (foldD l (dgS c y)).N = _
    rw [a1, e.1, hN, hd]
  · show (foldD l (dgS c y)).nd = _
    rw [a2, e.2.1]
    omega
  · show (foldD l (dgS c y)).dp = _
    rw [a3, e.2.2]
theorem fold_zero : ∀ (z : Nat) (y : MS), y.nd = 0 → (foldD (List.replicate z 48) y).N = y.N ∧ (foldD (List.replicate z 48) y).nd = 0 ∧ (foldD (List.replicate z 48) y).dp = y.dp - z ∧ (foldD (List.replicate z 48) y).dot = y.dot
  | 0, y, h => ⟨rfl, h, by show y.dp = y.dp - ((0 : Nat) : Int); omega, rfl⟩
  | z + 1, y, h => by
    have e : dgS 48 y = { y with sd := true, dp := y.dp - 1 } := by
      unfold dgS
      rw [if_pos ⟨by decide, h⟩]
    obtain ⟨a1, a2, a3, a4⟩ := fold_zero z { y with sd := true, dp := y.dp - 1 } h
    rw [List.replicate_succ]
    have e2 : foldD (48 :: List.replicate z 48) y = foldD (List.replicate z 48) { y with sd := true, dp := y.dp - 1 } := by
      show foldD (List.replicate z 48) (dgS 48 y) = _
      rw [e]
    rw [e2]
    refine ⟨a1, a2, ?_, a4⟩
    rw [a3]
    show y.dp - 1 - (z : Int) = y.dp - ((z + 1 : Nat) : Int)
    omega
theorem foldD_app (a b : List UInt8) (y : MS) : foldD (a ++ b) y = foldD b (foldD a y) := List.foldl_append
/-- a text of digits, read: (whole) -/
theorem ml_whole (D : List UInt8) (r : List UInt8) (hD : DigL D) (y : MS) (hr : dgs r = 0) (h46 : r.head? = some 46 → (foldD D y).dot = true) : mL (D ++ r) y = (foldD D y, r) := by
  rw [ml_dgs, dgs_app D r hD, hr, Nat.add_zero, List.drop_left, List.take_left]
  exact ml_stop r _ hr h46
theorem ml_point (D E r : List UInt8) (hD : DigL D) (hE : DigL E) (y : MS) (hy : y.dot = false) (hr : dgs r = 0) : mL (D ++ 46 :: (E ++ r)) y = (foldD E (dotS (foldD D y)), r) := by
  have h0 : dgs (46 :: (E ++ r)) = 0 := dgs_no (by decide)
  rw [ml_dgs, dgs_app D _ hD, h0, Nat.add_zero, List.drop_left, List.take_left]
  have hdot : (foldD D y).dot = false := (fold_keep D y).1.trans hy
  have e : mL (46 :: (E ++ r)) (foldD D y) = mL (E ++ r) (dotS (foldD D y)) := by
    conv => lhs; unfold mL
    rw [if_pos (by decide), if_neg (by rw [hdot]; decide)]
  rw [e]
  exact ml_whole E r hE _ hr (fun _ => (fold_keep E _).1)
/-- the exponents that are printed -/
def itB (k : Nat) : Bool :=
  let l := Lib.itoa ((k : Int) - 400)
  expB (101 :: l) && decide (exV l = (k : Int) - 400) && decide (l.length ≤ 4)
theorem it_all : (List.range 800).all itB = true := by decide +kernel
theorem it_ok (k : Int) (h0 : -400 ≤ k) (h1 : k < 400) : expB (101 :: Lib.itoa k) = true ∧ exV (Lib.itoa k) = k ∧ (Lib.itoa k).length ≤ 4 := by
  have := List.all_eq_true.1 it_all (k + 400).toNat (List.mem_range.2 (by omega))
  unfold itB at this
  rw [show (((k + 400).toNat : Nat) : Int) - 400 = k by omega] at this
  simp only [Bool.and_eq_true, decide_eq_true_eq] at this
  exact ⟨this.1.1, this.1.2, this.2⟩
/-- digits, by a place of the point, as they are laid -/
def laidQ (D : List UInt8) (k : Int) : List UInt8 :=
  if 1 ≤ k ∧ k ≤ 15 then
    if (D.length : Int) ≤ k then D ++ Lib.repeatL [48] (k - D.length).toNat
    else D.take k.toNat ++ [46] ++ D.drop k.toNat
  else if -4 ≤ k ∧ k ≤ 0 then [48, 46] ++ Lib.repeatL [48] (-k).toNat ++ D
  else (if 1 < D.length then D.take 1 ++ [46] ++ D.drop 1 else D) ++ [101] ++ Lib.itoa (k - 1)
theorem rep_eq : ∀ z, Lib.repeatL [48] z = List.replicate z 48
  | 0 => rfl
  | z + 1 => by
    rw [List.replicate_succ, ← rep_eq z]
    rfl
/-- what a text says -/
structure SaysQ (t : List UInt8) (N : Nat) (P : Int) : Prop where
  rt : rightL t = true
  sg : sgL t = false
  w : decW t = nx N P
  hd : t.head? ≠ some 45
  ln : t.length ≤ 39
theorem says_mk (t : List UInt8) (x : MS) (rest : List UInt8) (q : Nat) (hl : t.length ≤ 39) (h45 : t.head? ≠ some 45) (hcut : cutN t = (q, rest)) (hq1 : 1 ≤ q) (hq30 : q ≤ 30) (hr : rest = [] ∨ expB rest = true) (hm : mL t ms0 = (x, rest)) (N : Nat) (P : Int)
    (hv : nx x.N (dpX x + (if rest = [] then 0 else exV (rest.drop 1)) - x.nd) = nx N P) : SaysQ t N P := by
  have hu : unsg t = t := if_neg h45
  refine ⟨?_, decide_eq_false h45, ?_, h45, hl⟩
  · unfold rightL
    rw [if_neg (by omega), hu]
    simp only [hcut]
    by_cases h0 : rest = []
    · rw [if_pos (.inr (.inr h0)), decide_eq_true hq1, decide_eq_true hq30]
      rfl
    · rw [if_neg (fun h => h.elim (fun h => absurd h (by omega)) (fun h => h.elim (fun h => absurd h (by omega)) h0))]
      exact hr.resolve_left h0
  · unfold decW msL exL
    rw [hu, hm]
    exact hv
theorem head_dig {D r : List UInt8} (hD : DigL D) (h0 : 0 < D.length) : (D ++ r).head? ≠ some 45 := by
  cases D with
  | nil => exact absurd h0 (Nat.lt_irrefl _)
  | cons c D =>
    intro h
    have hc := hD c (by simp)
    have : c = 45 := by simpa using h
    rw [this] at hc
    exact absurd hc (by decide)
theorem cut_whole (D r : List UInt8) (hD : DigL D) (hr : dgs r = 0) (h46 : r.head? ≠ some 46) : cutN (D ++ r) = (D.length, r) := by
  unfold cutN
  rw [dgs_app D r hD, hr, Nat.add_zero, List.drop_left]
  simp only [if_neg h46]
theorem cut_point (D E r : List UInt8) (hD : DigL D) (hE : DigL E) (hr : dgs r = 0) : cutN (D ++ 46 :: (E ++ r)) = (D.length + E.length, r) := by
  have h0 : dgs (46 :: (E ++ r)) = 0 := dgs_no (by decide)
  unfold cutN
  rw [dgs_app D _ hD, h0, Nat.add_zero, List.drop_left]
  simp only [List.head?_cons, if_true, List.drop_succ_cons, List.drop_zero]
  rw [dgs_app E r hE, hr, Nat.add_zero, List.drop_left]
theorem says_laid (D : List UInt8) (k : Int) (hD : DigL D) (c : UInt8) (D' : List UInt8) (hc : D = c :: D') (h48 : c.toNat ≠ 48) (hn : D.length ≤ 20) (hk0 : -390 ≤ k) (hk1 : k ≤ 390) : SaysQ (laidQ D k) (dval D) (k - D.length) := by
  have hn1 : 1 ≤ D.length := by rw [hc]; exact Nat.succ_le_succ (Nat.zero_le _)
  have hf : ∀ (E : List UInt8) (y : MS), y.nd = 0 → y.N = 0 → (foldD (D ++ E) y).N = dval (D ++ E) ∧ (foldD (D ++ E) y).nd = (D ++ E).length ∧ (foldD (D ++ E) y).dp = y.dp := fun E y h1 h2 => by
    subst hc
    have := fold_first c (D' ++ E) y h48 h1 h2
    exact this
  unfold laidQ
  by_cases hA : 1 ≤ k ∧ k ≤ 15
  · rw [if_pos hA]
    by_cases hB : (D.length : Int) ≤ k
    · rw [if_pos hB, rep_eq]
      obtain ⟨z, hz⟩ : ∃ z, (k - (D.length : Int)).toNat = z := ⟨_, rfl⟩
      rw [hz]
      obtain ⟨f1, f2, f3⟩ := hf (List.replicate z 48) ms0 rfl rfl
      have hdl := digL_app hD (digL_zero z)
      have hlen : (D ++ List.replicate z 48).length = D.length + z := by rw [List.length_append, List.length_replicate]
      have hm := ml_whole (D ++ List.replicate z 48) [] hdl ms0 rfl (fun h => by cases h)
      rw [List.append_nil] at hm
      have hcut := cut_whole (D ++ List.replicate z 48) [] hdl rfl (by simp)
      rw [List.append_nil] at hcut
      refine says_mk _ _ [] _ (by rw [hlen]; omega) (head_dig hD hn1) hcut (by rw [hlen]; omega) (by rw [hlen]; omega) (.inl rfl) hm _ _ ?_
      have hdot : (foldD (D ++ List.replicate z 48) ms0).dot = false := (fold_keep _ _).1
      have hdpx : dpX (foldD (D ++ List.replicate z 48) ms0) = ((D.length + z : Nat) : Int) := by
        unfold dpX
        rw [hdot, if_neg (by decide), f2, hlen]
      rw [if_pos rfl, hdpx, f1, f2, hlen, dval_app, dval_zero, List.length_replicate, Nat.add_zero, nx_shift]
      congr 1
      omega
    · rw [if_neg hB]
      obtain ⟨z, hz⟩ : ∃ z : Nat, k = z := ⟨k.toNat, by omega⟩
      subst hz
      rw [Int.toNat_natCast]
      have hT : DigL (D.take z) := fun d hd => hD d (List.mem_of_mem_take hd)
      have hE : DigL (D.drop z) := fun d hd => hD d (List.mem_of_mem_drop hd)
      have hlt : (D.take z).length = z := by rw [List.length_take]; omega
      have hld : (D.drop z).length = D.length - z := List.length_drop
      have hm := ml_point (D.take z) (D.drop z) [] hT hE ms0 rfl rfl
      have hcut := cut_point (D.take z) (D.drop z) [] hT hE rfl
      rw [List.append_nil] at hm hcut
      have e : D.take z ++ [46] ++ D.drop z = D.take z ++ 46 :: D.drop z := by simp
      rw [e]
      refine says_mk _ _ [] _ (by simp only [List.length_append, List.length_cons, hlt, hld]; omega) (head_dig hT (by omega)) hcut (by rw [hlt]; omega) (by rw [hlt, hld]; omega) (.inl rfl) hm _ _ ?_
      -- the digits ahead of the point, then those behind it
      obtain ⟨z', rfl⟩ : ∃ z', z = z' + 1 := ⟨z - 1, by omega⟩
      have et : D.take (z' + 1) = c :: D'.take z' := by rw [hc]; rfl
      obtain ⟨a1, a2, a3⟩ := fold_first c (D'.take z') ms0 h48 rfl rfl
      rw [← et] at a1 a2 a3
      have hl2 : (D'.take z').length = z' := by
        have := hlt
        rw [et, List.length_cons] at this
        omega
      rw [hl2] at a2
      obtain ⟨b1, b2, b3⟩ := fold_pos (D.drop (z' + 1)) (dotS (foldD (D.take (z' + 1)) ms0)) (by show 0 < (foldD (D.take (z' + 1)) ms0).nd; omega)
      have hdot : (foldD (D.drop (z' + 1)) (dotS (foldD (D.take (z' + 1)) ms0))).dot = true := (fold_keep _ _).1
      have c1 : (dotS (foldD (D.take (z' + 1)) ms0)).N = dval (D.take (z' + 1)) := a1
      have c2 : (dotS (foldD (D.take (z' + 1)) ms0)).nd = z' + 1 := a2
      have c3 : (dotS (foldD (D.take (z' + 1)) ms0)).dp = ((z' + 1 : Nat) : Int) := by
        show (((foldD (D.take (z' + 1)) ms0).nd : Nat) : Int) = _
        rw [a2]
      have hval : dval D = dval (D.take (z' + 1)) * 10 ^ (D.drop (z' + 1)).length + dval (D.drop (z' + 1)) := by rw [← dval_app, List.take_append_drop]
      rw [if_pos rfl]
      unfold dpX
      rw [hdot, if_pos rfl, b1, b2, b3, c1, c2, c3, ← hval, hld]
      congr 1
      omega
  · rw [if_neg hA]
    by_cases hC : -4 ≤ k ∧ k ≤ 0
    · rw [if_pos hC, rep_eq]
      obtain ⟨z, hz⟩ : ∃ z : Nat, -k = z := ⟨(-k).toNat, by omega⟩
      rw [hz, Int.toNat_natCast]
      have hZ : DigL (List.replicate z 48 ++ D) := digL_app (digL_zero z) hD
      have h1 : DigL [48] := fun c hc => by
        have : c = 48 := by simpa using hc
        rw [this]; decide
      have hlen : (List.replicate z 48 ++ D).length = z + D.length := by rw [List.length_append, List.length_replicate]
      have hm := ml_point [48] (List.replicate z 48 ++ D) [] h1 hZ ms0 rfl rfl
      have hcut := cut_point [48] (List.replicate z 48 ++ D) [] h1 hZ rfl
      rw [List.append_nil] at hm hcut
      have e : [48, 46] ++ List.replicate z 48 ++ D = [48] ++ 46 :: (List.replicate z 48 ++ D) := by simp
      rw [e]
      refine says_mk _ _ [] _ (by simp only [List.length_append, List.length_cons, List.length_nil, List.length_replicate]; omega) (by simp) hcut (by simp) (by rw [hlen]; simp; omega) (.inl rfl) hm _ _ ?_
      obtain ⟨a1, a2, a3, a4⟩ := fold_zero 1 ms0 rfl
      have r1 : List.replicate 1 (48 : UInt8) = [48] := rfl
      rw [r1] at a1 a2 a3 a4
      have d0 : (dotS (foldD [48] ms0)).nd = 0 := a2
      have d1 : (dotS (foldD [48] ms0)).N = 0 := a1
      have d2 : (dotS (foldD [48] ms0)).dp = 0 := by
        show (((foldD [48] ms0).nd : Nat) : Int) = 0
        rw [a2]
        rfl
      obtain ⟨b1, b2, b3, b4⟩ := fold_zero z (dotS (foldD [48] ms0)) d0
      obtain ⟨c1, c2, c3⟩ := hf [] (foldD (List.replicate z 48) (dotS (foldD [48] ms0))) b2 (by rw [b1]; exact d1)
      rw [List.append_nil] at c1 c2 c3
      have hdot : (foldD (List.replicate z 48 ++ D) (dotS (foldD [48] ms0))).dot = true := (fold_keep _ _).1
      rw [if_pos rfl]
      unfold dpX
      rw [hdot, if_pos rfl, foldD_app, c1, c2, c3, b3, d2]
      congr 1
      omega
    · rw [if_neg hC]
      obtain ⟨i1, i2, i3⟩ := it_ok (k - 1) (by omega) (by omega)
      have hr : dgs (101 :: Lib.itoa (k - 1)) = 0 := dgs_no (by decide)
      by_cases hone : 1 < D.length
      · rw [if_pos hone]
        have hT : DigL (D.take 1) := fun d hd => hD d (List.mem_of_mem_take hd)
        have hE : DigL (D.drop 1) := fun d hd => hD d (List.mem_of_mem_drop hd)
        have hlt : (D.take 1).length = 1 := by rw [List.length_take]; omega
        have hld : (D.drop 1).length = D.length - 1 := List.length_drop
        have hm := ml_point (D.take 1) (D.drop 1) (101 :: Lib.itoa (k - 1)) hT hE ms0 rfl hr
        have hcut := cut_point (D.take 1) (D.drop 1) (101 :: Lib.itoa (k - 1)) hT hE hr
        have e : D.take 1 ++ [46] ++ D.drop 1 ++ [101] ++ Lib.itoa (k - 1) = D.take 1 ++ 46 :: (D.drop 1 ++ 101 :: Lib.itoa (k - 1)) := by simp
        rw [e]
        refine says_mk _ _ _ _ (by simp only [List.length_append, List.length_cons, hlt, hld]; omega) (head_dig hT (by omega)) hcut (by rw [hlt]; omega) (by rw [hlt, hld]; omega) (.inr i1) hm _ _ ?_
        have et : D.take 1 = [c] := by rw [hc]; rfl
        obtain ⟨a1, a2, a3⟩ := fold_first c [] ms0 h48 rfl rfl
        rw [← et] at a1 a2 a3
        obtain ⟨b1, b2, b3⟩ := fold_pos (D.drop 1) (dotS (foldD (D.take 1) ms0)) (by show 0 < (foldD (D.take 1) ms0).nd; rw [a2]; decide)
        have hdot : (foldD (D.drop 1) (dotS (foldD (D.take 1) ms0))).dot = true := (fold_keep _ _).1
        have c1 : (dotS (foldD (D.take 1) ms0)).N = dval (D.take 1) := a1
        have c2 : (dotS (foldD (D.take 1) ms0)).nd = 1 := a2
        have c3 : (dotS (foldD (D.take 1) ms0)).dp = 1 := by
          show (((foldD (D.take 1) ms0).nd : Nat) : Int) = _
          rw [a2]
          rfl
        have hval : dval D = dval (D.take 1) * 10 ^ (D.drop 1).length + dval (D.drop 1) := by rw [← dval_app, List.take_append_drop]
        rw [if_neg (by simp), List.drop_succ_cons, List.drop_zero, i2]
        unfold dpX
        rw [hdot, if_pos rfl, b1, b2, b3, c1, c2, c3, ← hval, hld]
        congr 1
        omega
      · rw [if_neg hone]
        have hm := ml_whole D (101 :: Lib.itoa (k - 1)) hD ms0 hr (fun h => absurd h (by simp))
        have hcut := cut_whole D (101 :: Lib.itoa (k - 1)) hD hr (by simp)
        have e : D ++ [101] ++ Lib.itoa (k - 1) = D ++ 101 :: Lib.itoa (k - 1) := by simp
        rw [e]
        refine says_mk _ _ _ _ (by simp only [List.length_append, List.length_cons]; omega) (head_dig hD hn1) hcut hn1 (by omega) (.inr i1) hm _ _ ?_
        obtain ⟨f1, f2, f3⟩ := hf [] ms0 rfl rfl
        rw [List.append_nil] at f1 f2 f3
        have hdot : (foldD D ms0).dot = false := (fold_keep _ _).1
        rw [if_neg (by simp), List.drop_succ_cons, List.drop_zero, i2]
        unfold dpX
        rw [hdot, if_neg (by decide), f1, f2]
        congr 1
        omega
/-- a minus ahead -/
theorem says_neg {t : List UInt8} {N : Nat} {P : Int} (h : SaysQ t N P) : rightL (45 :: t) = true ∧ sgL (45 :: t) = true ∧ decW (45 :: t) = nx N P := by
  have hu : unsg t = t := if_neg h.hd
  have hu2 : unsg (45 :: t) = t := if_pos (by rfl)
  have hr := h.rt
  have hl := h.ln
  refine ⟨?_, decide_eq_true rfl, ?_⟩
  · unfold rightL at hr ⊢
    rw [if_neg (by omega), hu] at hr
    rw [if_neg (by rw [List.length_cons]; omega), hu2]
    exact hr
  · have hw := h.w
    unfold decW msL exL at hw ⊢
    rw [hu] at hw
    rw [hu2]
    exact hw
/-- what reading answers -/
theorem says_r {t : List UInt8} {N X : Nat} {P : Int} (h : SaysQ t N P) (hX : nx N P = X) (h0 : 0 < X) (h1 : X < infX) : decR t = (X, 0) ∧ decR (45 :: t) = (9223372036854775808 + X, 0) := by
  obtain ⟨n1, n2, n3⟩ := says_neg h
  unfold decR
  rw [if_pos h.rt, if_pos n1, h.w, n3, hX, if_neg (by omega), if_neg (by omega), if_neg (by omega), if_neg (by omega), h.sg, n2]
  exact ⟨rfl, rfl⟩
theorem says_zero {t : List UInt8} {N : Nat} {P : Int} (h : SaysQ t N P) (hX : nx N P = 0) : decR t = (0, 0) := by
  unfold decR
  rw [if_pos h.rt, h.w, hX, if_neg (by decide), if_pos rfl]
end Go.Proofs.YtbjengfoaobdbaaGreatDoor.rdf

/- What a text of whole digits, a point, digits and an exponent says. Plain. -/
namespace Go.Proofs.YtbjengfoaobdbaaGreatDoor.rdf
open Go.RowKit
open Go.Proofs.YtbjengfoaobdbaaGreatDoor.dmx
open Go.Proofs.YtbjengfoaobdbaaGreatDoor.fpm

theorem fold_gen : ∀ (l : List UInt8) (y : MS), (y.nd = 0 → y.N = 0) → (foldD l y).N = y.N * 10 ^ l.length + dval l ∧ (foldD l y).dp - ((foldD l y).nd : Int) = y.dp - (y.nd : Int) - (l.length : Int) ∧ ((foldD l y).nd = 0 → (foldD l y).N = 0)
  | [], y, h => ⟨by simp [foldD, dval], by simp [foldD], h⟩
  | c :: l, y, h => by
    have e : (dgS c y).N = y.N * 10 + (c.toNat - 48) ∧ (dgS c y).dp - ((dgS c y).nd : Int) = y.dp - (y.nd : Int) - 1 ∧ ((dgS c y).nd = 0 → (dgS c y).N = 0) := by
      unfold dgS
      by_cases hz : c.toNat = 48 ∧ y.nd = 0
      · rw [if_pos hz]
        have h0 := h hz.2
        refine ⟨?_, ?_, fun _ => h0⟩
        · show y.N = _
          rw [h0, hz.1]
        · show y.dp - 1 - (y.nd : Int) = _
          omega
      · rw [if_neg hz]
        split
        · refine ⟨rfl, ?_, fun h9 => absurd h9 (Nat.succ_ne_zero _)⟩
          show y.dp - ((y.nd + 1 : Nat) : Int) = _
          omega
        · refine ⟨rfl, ?_, fun h9 => absurd h9 (Nat.succ_ne_zero _)⟩
          show y.dp - ((y.nd + 1 : Nat) : Int) = _
          omega
    obtain ⟨e1, e2, e3⟩ := e
    obtain ⟨a1, a2, a3⟩ := fold_gen l (dgS c y) e3
    have hd := dval_cons c l
    refine ⟨?_, ?_, a3⟩
    · show (foldD l (dgS c y)).N = _
      rw [a1, e1, hd, List.length_cons, Nat.pow_succ, Nat.zero_mul, Nat.zero_add, Nat.add_mul, Nat.add_assoc, Nat.mul_assoc, Nat.mul_comm 10]
    · show (foldD l (dgS c y)).dp - ((foldD l (dgS c y)).nd : Int) = _
      rw [a2, e2, List.length_cons]
      omega
theorem exp_head {r : List UInt8} (h : r = [] ∨ expB r = true) : dgs r = 0 ∧ r.head? ≠ some 46 ∧ r.head? ≠ some 45 := by
  rcases h with rfl | h
  · exact ⟨rfl, by simp, by simp⟩
  · cases r with
    | nil => cases h
    | cons c l =>
      rw [exp_cons, Bool.and_eq_true, Bool.or_eq_true, beq_iff_eq, beq_iff_eq] at h
      rcases h.1 with rfl | rfl
      · exact ⟨dgs_no (by decide), by simp, by simp⟩
      · exact ⟨dgs_no (by decide), by simp, by simp⟩
def exI (r : List UInt8) : Int := if r = [] then 0 else exV (r.drop 1)
/-- without a point -/
theorem says_whole (I r : List UInt8) (hI : DigL I) (h1 : 1 ≤ I.length) (h30 : I.length ≤ 30) (hr : r = [] ∨ expB r = true) (hl : (I ++ r).length ≤ 39) : SaysQ (I ++ r) (dval I) (exI r) := by
  obtain ⟨r1, r2, r3⟩ := exp_head hr
  have hm := ml_whole I r hI ms0 r1 (fun h => absurd h r2)
  have hcut := cut_whole I r hI r1 r2
  obtain ⟨f1, f2, f3⟩ := fold_gen I ms0 (fun _ => rfl)
  refine says_mk _ _ r _ hl (head_dig hI h1) hcut h1 h30 hr hm _ _ ?_
  have hdot : (foldD I ms0).dot = false := (fold_keep I ms0).1
  unfold dpX exI
  rw [hdot, if_neg (by decide), f1]
  have e0 : ms0.N = 0 := rfl
  rw [e0, Nat.zero_mul, Nat.zero_add]
  congr 1
  omega
/-- with a point -/
theorem says_point (I F r : List UInt8) (hI : DigL I) (hF : DigL F) (h1 : 1 ≤ I.length + F.length) (h30 : I.length + F.length ≤ 30) (hr : r = [] ∨ expB r = true) (hl : (I ++ 46 :: (F ++ r)).length ≤ 39) :
    SaysQ (I ++ 46 :: (F ++ r)) (dval (I ++ F)) (exI r - F.length) := by
  obtain ⟨r1, r2, r3⟩ := exp_head hr
  have hm := ml_point I F r hI hF ms0 rfl r1
  have hcut := cut_point I F r hI hF r1
  obtain ⟨f1, f2, f3⟩ := fold_gen I ms0 (fun _ => rfl)
  obtain ⟨g1, g2, g3⟩ := fold_gen F (dotS (foldD I ms0)) f3
  have h45 : (I ++ 46 :: (F ++ r)).head? ≠ some 45 := by
    cases hI2 : I with
    | nil => simp
    | cons c I' =>
      rw [← hI2]
      exact head_dig hI (by rw [hI2]; exact Nat.succ_le_succ (Nat.zero_le _))
  refine says_mk _ _ r _ hl h45 hcut h1 h30 hr hm _ _ ?_
  have hdot : (foldD F (dotS (foldD I ms0))).dot = true := (fold_keep F _).1
  have e1 : (dotS (foldD I ms0)).N = dval I := by
    show (foldD I ms0).N = _
    rw [f1]
    have e0 : ms0.N = 0 := rfl
    rw [e0, Nat.zero_mul, Nat.zero_add]
  have e2 : (dotS (foldD I ms0)).dp = ((dotS (foldD I ms0)).nd : Int) := rfl
  unfold dpX exI
  rw [hdot, if_pos rfl, g1, e1, ← dval_app]
  congr 1
  omega
theorem exI_e (c : UInt8) (l : List UInt8) : exI (c :: l) = exV l := by
  unfold exI
  rw [if_neg (by simp)]
  rfl
/-- an E for an e -/
theorem exp_E (l : List UInt8) : expB (69 :: l) = expB (101 :: l) := by
  rw [exp_cons, exp_cons]
  rfl
end Go.Proofs.YtbjengfoaobdbaaGreatDoor.rdf

/- The plain laws of DecimalGrows and DecimalWrong. -/
namespace Go.Proofs.YtbjengfoaobdbaaGreatDoor.rdf
open Go.RowKit
open Go.Proofs.YtbjengfoaobdbaaGreatDoor.dmx
open Go.Proofs.YtbjengfoaobdbaaGreatDoor.fpm

theorem dd_digL (u : Nat) : DigL (Lib.decDigits u) := fun b hb => by
  rw [Lib.decDigits_eq, List.mem_map] at hb
  obtain ⟨t, _, ht⟩ := hb
  rw [← ht, isD_iff]
  unfold Lib.dg
  rw [UInt8.toNat_ofNat']
  omega
theorem dd_val (u : Nat) : dval (Lib.decDigits u) = u := by
  induction u using Nat.strongRecOn with
  | _ u ih =>
    rw [Lib.decDigits]
    split
    · rename_i h
      rw [dval_cons]
      show (0 * 10 + ((UInt8.ofNat (48 + u)).toNat - 48)) * 10 ^ 0 + 0 = u
      rw [UInt8.toNat_ofNat']
      omega
    · rename_i h
      rw [dval_app, ih (u / 10) (by omega), dval_cons]
      show u / 10 * 10 ^ 1 + ((0 * 10 + ((UInt8.ofNat (48 + u % 10)).toNat - 48)) * 10 ^ 0 + 0) = u
      rw [UInt8.toNat_ofNat']
      omega
theorem dd_len (u : Nat) (h : u < 4294967296) : 1 ≤ (Lib.decDigits u).length ∧ (Lib.decDigits u).length ≤ 10 := by
  rw [Lib.decDigits_length]
  refine ⟨Lib.nDigits_pos u, ?_⟩
  have key : ∀ (k : Nat) (v : Nat), v < 10 ^ k → 1 ≤ k → Lib.nDigits v ≤ k := by
    intro k
    induction k with
    | zero => intro v _ h; omega
    | succ k ih =>
      intro v hv _
      by_cases h9 : v < 10
      · rw [Lib.nDigits_small h9]
        omega
      · rw [Lib.nDigits_big h9]
        by_cases hk : k = 0
        · subst hk
          omega
        · have := ih (v / 10) (by rw [Nat.pow_succ] at hv; omega) (by omega)
          omega
  exact key 10 u (by omega) (by decide)
theorem nx_up {N : Nat} {P : Int} (hN : N ≤ 10000000000) (hP : P ≤ 280) : nx N P < infX := by
  have h1 := nx_mono hN P
  have e1 := nx_shift 1 10 P
  rw [Nat.one_mul] at e1
  have h2 := nx_mono (show 1 ≤ 1 * 10 ^ (280 - P).toNat by rw [Nat.one_mul]; exact Nat.one_le_pow _ _ (by decide)) (P + ((10 : Nat) : Int))
  rw [nx_shift] at h2
  have e2 : P + ((10 : Nat) : Int) + ((280 - P).toNat : Int) = 290 := by omega
  rw [e2] at h2
  have h3 : nx 1 290 < infX := by decide +kernel
  have h4 : nx 10000000000 P = nx 1 (P + ((10 : Nat) : Int)) := e1
  omega
/-- what a says, as is written -/
structure GrowQ (L : List UInt8) (n : Int) (X : Nat) : Prop where
  a : decR (L ++ 101 :: Lib.itoa n) = (X, 0)
  b : decR (L ++ 46 :: 101 :: Lib.itoa n) = (X, 0)
  c : decR (48 :: (L ++ 101 :: Lib.itoa n)) = (X, 0)
  d : decR (L ++ 46 :: 48 :: 48 :: 101 :: Lib.itoa n) = (X, 0)
  e : decR (L ++ 48 :: 101 :: Lib.itoa (n - 1)) = (X, 0)
  f : decR (46 :: (L ++ 69 :: Lib.itoa (n + L.length))) = (X, 0)
  lt : X < infX
theorem says_at {t : List UInt8} {N X : Nat} {P : Int} (h : SaysQ t N P) (hX : nx N P = X) (h1 : X < infX) : decR t = (X, 0) := by
  by_cases h0 : X = 0
  · rw [h0] at hX ⊢
    exact says_zero h hX
  · exact (says_r h hX (by omega) h1).1
theorem grow_q (a : Nat) (n : Int) (ha : a < 4294967296) (h0 : -300 ≤ n) (h1 : n ≤ 280) : GrowQ (Lib.decDigits a) n (nx a n) := by
  obtain ⟨l1, l2⟩ := dd_len a ha
  have hD := dd_digL a
  have hv := dd_val a
  obtain ⟨L, hL⟩ : ∃ L, Lib.decDigits a = L := ⟨_, rfl⟩
  rw [hL] at l1 l2 hD hv ⊢
  obtain ⟨i1, i2, i3⟩ := it_ok n (by omega) (by omega)
  obtain ⟨j1, j2, j3⟩ := it_ok (n - 1) (by omega) (by omega)
  obtain ⟨k1, k2, k3⟩ := it_ok (n + L.length) (by omega) (by omega)
  have hlt : nx a n < infX := nx_up (by omega) h1
  have h00 : DigL [48, 48] := digL_zero 2
  have h0' : DigL [48] := digL_zero 1
  have hnil : DigL [] := fun c hc => by cases hc
  refine ⟨?_, ?_, ?_, ?_, ?_, ?_, hlt⟩
  · have h := says_whole L (101 :: Lib.itoa n) hD l1 (by omega) (.inr i1) (by simp only [List.length_append, List.length_cons]; omega)
    refine says_at h ?_ hlt
    rw [hv, exI_e, i2]
  · have h := says_point L [] (101 :: Lib.itoa n) hD hnil (by omega) (by simp; omega) (.inr i1) (by simp only [List.length_append, List.length_cons, List.length_nil]; omega)
    refine says_at h ?_ hlt
    rw [List.append_nil, hv, exI_e, i2]
    congr 1
    simp
  · have h := says_whole (48 :: L) (101 :: Lib.itoa n) (digL_app h0' hD) (by simp) (by simp; omega) (.inr i1) (by simp only [List.length_append, List.length_cons]; omega)
    refine says_at h ?_ hlt
    rw [dval_cons, hv, exI_e, i2]
    congr 1
    simp
  · have h := says_point L [48, 48] (101 :: Lib.itoa n) hD h00 (by omega) (by simp; omega) (.inr i1) (by simp only [List.length_append, List.length_cons, List.length_nil]; omega)
    refine says_at h ?_ hlt
    rw [dval_app, hv, exI_e, i2]
    have e : dval [48, 48] = 0 := rfl
    rw [e, Nat.add_zero, nx_shift]
    congr 1
    simp
  · have h := says_whole (L ++ [48]) (101 :: Lib.itoa (n - 1)) (digL_app hD h0') (by simp) (by simp; omega) (.inr j1) (by simp only [List.length_append, List.length_cons, List.length_nil]; omega)
    rw [List.append_assoc] at h
    refine says_at h ?_ hlt
    rw [dval_app, hv, exI_e, j2]
    have e : dval [48] = 0 := rfl
    rw [e, Nat.add_zero, nx_shift]
    congr 1
    simp
  · have h := says_point [] L (69 :: Lib.itoa (n + L.length)) hnil hD (by simp; omega) (by simp; omega) (.inr (by rw [exp_E]; exact k1)) (by simp only [List.length_append, List.length_cons, List.length_nil]; omega)
    refine says_at h ?_ hlt
    rw [List.nil_append, hv, exI_e, k2]
    congr 1
    omega
theorem grow_le {a b : Nat} (h : a ≤ b) (n : Int) : nx a n ≤ nx b n := nx_mono h n
/-- a byte that is none of a decimal's makes it none -/
theorem right_okc (l : List UInt8) (h : rightL l = true) : ∀ c ∈ l, okc c = true := by
  unfold rightL at h
  by_cases h40 : 40 < l.length
  · rw [if_pos h40] at h
    cases h
  rw [if_neg h40] at h
  refine okc_unsg l (okc_cut _ ?_)
  obtain ⟨q, hq⟩ : ∃ q, cutN (unsg l) = q := ⟨_, rfl⟩
  rw [hq]
  simp only [hq] at h
  by_cases hc : q.1 < 1 ∨ 30 < q.1 ∨ q.2 = []
  · rw [if_pos hc, Bool.and_eq_true, decide_eq_true_eq, decide_eq_true_eq] at h
    rcases hc with hc | hc | hc
    · omega
    · omega
    · rw [hc]
      intro c hc
      cases hc
  · rw [if_neg hc] at h
    exact okc_exp _ h
theorem wrong_q (l r : List UInt8) (c : UInt8) (h : okc c = false) : decR (l ++ c :: r) = (0, 160) := by
  unfold decR
  rw [if_neg]
  intro hr
  have := right_okc _ hr c (by simp)
  rw [h] at this
  cases this
end Go.Proofs.YtbjengfoaobdbaaGreatDoor.rdf
