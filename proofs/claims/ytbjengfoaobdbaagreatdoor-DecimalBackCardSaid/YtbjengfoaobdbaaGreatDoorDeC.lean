/- The plain law of DecimalBack: what is cut out of a printed text. -/
import Derived.Test.YtbjengfoaobdbaaGreatDoorRtB
import Derived.Test.YtbjengfoaobdbaaGreatDoorMgL
import Derived.Lib.TrimByte
namespace Go.Proofs.YtbjengfoaobdbaaGreatDoor.lawd
open Go.RowKit
open Go.Proofs.YtbjengfoaobdbaaGreatDoor.dmx
open Go.Proofs.YtbjengfoaobdbaaGreatDoor.fpm
open Go.Proofs.YtbjengfoaobdbaaGreatDoor.rdf
open Go.Proofs.YtbjengfoaobdbaaGreatDoor.prnw

theorem rep_point (A B : List UInt8) (h : ∀ b ∈ A, b ≠ 46) : Lib.replace (A ++ 46 :: B) [46] [] 1 = A ++ B := by
  have hi := idx_skip 46 A B h
  unfold Lib.replace
  rw [if_neg (by decide)]
  have hc : 1 ≤ Lib.count (A ++ 46 :: B) [46] := by
    unfold Lib.count
    rw [Lib.countFrom, hi, if_neg (by rw [beq_iff_eq]; omega)]
    omega
  unfold Lib.replaceNum
  rw [if_neg (by omega), show (1 : Int).toNat = 0 + 1 from rfl, Lib.replaceK_hit _ _ _ _ A.length hi]
  simp [Lib.replaceK]
theorem rep_none (A : List UInt8) (h : ∀ b ∈ A, b ≠ 46) : Lib.replace A [46] [] 1 = A := by
  have hi := idx_none 46 A h
  unfold Lib.replace
  rw [if_neg (by decide)]
  have hc : Lib.count A [46] = 0 := by
    unfold Lib.count
    rw [Lib.countFrom, hi]
    rfl
  unfold Lib.replaceNum
  rw [hc, if_pos (by decide)]
  rfl
theorem has_point (A B : List UInt8) (h : ∀ b ∈ A, b ≠ 46) : Lib.contains (A ++ 46 :: B) [46] = true := by
  unfold Lib.contains
  rw [idx_skip 46 A B h]
  exact decide_eq_true (by omega)
theorem no_point (A : List UInt8) (h : ∀ b ∈ A, b ≠ 46) : Lib.contains A [46] = false := by
  unfold Lib.contains
  rw [idx_none 46 A h]
  rfl
theorem cut_none (A : List UInt8) (h : ∀ b ∈ A, b ≠ 101) : Lib.cut A [101] = (A, [], false) := by
  unfold Lib.cut
  rw [idx_none 101 A h]
  rfl
theorem trimL_zero : ∀ (z : Nat) (c : UInt8) (D : List UInt8), c ≠ 48 → Lib.trimLeftB (List.replicate z 48 ++ c :: D) 48 = c :: D
  | 0, c, D, h => by
    unfold Lib.trimLeftB
    rw [List.replicate_zero, List.nil_append, List.dropWhile_cons_of_neg]
    simpa using h
  | z + 1, c, D, h => by
    have ih := trimL_zero z c D h
    unfold Lib.trimLeftB at ih ⊢
    rw [List.replicate_succ, List.cons_append, List.dropWhile_cons_of_pos (by rfl)]
    exact ih
theorem dropW_len : ∀ (l : List UInt8), (l.dropWhile (· == 48)).length ≤ l.length
  | [] => Nat.le_refl _
  | c :: l => by
    rw [List.dropWhile_cons]
    split
    · have := dropW_len l
      rw [List.length_cons]
      omega
    · exact Nat.le_refl _
theorem dropW_rep : ∀ (z : Nat) (l : List UInt8), ((List.replicate z 48 ++ l).dropWhile (· == 48)).length ≤ l.length
  | 0, l => dropW_len l
  | z + 1, l => by
    rw [List.replicate_succ, List.cons_append, List.dropWhile_cons_of_pos (by rfl)]
    exact dropW_rep z l
theorem trimR_len (D : List UInt8) (z : Nat) : (Lib.trimRightB (D ++ List.replicate z 48) 48).length ≤ D.length := by
  unfold Lib.trimRightB
  rw [List.length_reverse, List.reverse_append, List.reverse_replicate]
  have := dropW_rep z D.reverse
  rw [List.length_reverse] at this
  exact this
theorem dig_ne {l : List UInt8} (h : DigL l) {c : UInt8} (hc : c.toNat < 48 ∨ 57 < c.toNat) : ∀ b ∈ l, b ≠ c := fun b hb e => by
  have := (isD_iff b).1 (h b hb)
  rw [e] at this
  omega
/-- the text behind the cut -/
def tailE (P : List UInt8) : List UInt8 := if P = [] then [] else 101 :: P
/-- what the law asks of a positive number's text -/
structure CutQ (T : List UInt8) (X : Nat) (H P : List UInt8) (bl : Bool) : Prop where
  cut : Lib.cut T [101] = (H, P, bl)
  len : T.length ≤ 23
  h1 : 1 ≤ H.length
  q : (Lib.contains H [46] = false ∧ (Lib.trimRightB (Lib.trimLeftB (Lib.replace H [46] [] 1) 48) 48).length ≤ 17 ∧ (Lib.replace H [46] [] 1).length ≤ 24) ∨
    (Lib.contains H [46] = true ∧ (Lib.trimLeftB (Lib.replace H [46] [] 1) 48).length ≤ 17 ∧ ∃ Y, decR (H.take (H.length - 1) ++ tailE P) = (Y, 0) ∧ Y < infX ∧ Y ≠ X)
theorem pt_case (I F P : List UInt8) (z c : UInt8) (D1 D' : List UInt8) (k : Int) (X Y : Nat) (bl : Bool) (hI : DigL I) (hF : DigL F) (T : List UInt8) (hT : Lib.cut T [101] = (I ++ 46 :: (F ++ [z]), P, bl)) (hlen : T.length ≤ 23)
    (u : Nat) (hIF : I ++ (F ++ [z]) = List.replicate u 48 ++ c :: D1) (hc : c ≠ 48) (hD : (c :: D1).length ≤ 17) (h1 : 1 ≤ I.length) (h30 : I.length + F.length ≤ 30) (hr : tailE P = [] ∨ expB (tailE P) = true) (hl : (I ++ 46 :: (F ++ tailE P)).length ≤ 39)
    (hv : dval (I ++ F) = dval D') (hp : exI (tailE P) - F.length = k - D'.length) (hY : nx (dval D') (k - D'.length) = Y) (hYi : Y < infX) (hYX : Y ≠ X) : CutQ T X (I ++ 46 :: (F ++ [z])) P bl := by
  have hne := dig_ne hI (c := 46) (.inl (by decide))
  refine ⟨hT, hlen, by rw [List.length_append]; omega, .inr ⟨has_point I _ hne, ?_, Y, ?_, hYi, hYX⟩⟩
  · rw [rep_point I _ hne, hIF, trimL_zero u c D1 hc]
    exact hD
  · have hs := says_point I F (tailE P) hI hF (by omega) h30 hr hl
    rw [hv, hp] at hs
    have e : (I ++ 46 :: (F ++ [z])).take ((I ++ 46 :: (F ++ [z])).length - 1) = I ++ 46 :: F := by
      have : I ++ 46 :: (F ++ [z]) = (I ++ 46 :: F) ++ [z] := by simp
      rw [this, List.length_append, List.length_singleton, Nat.add_sub_cancel, List.take_left]
    rw [e, List.append_assoc, List.cons_append]
    by_cases h0 : Y = 0
    · rw [h0] at hY ⊢
      exact says_zero hs hY
    · exact (says_r hs hY (by omega) hYi).1
theorem cut_pos (X : Nat) (hX0 : 0 < X) (hX : X < 9218868437227405312) : ∃ H P bl, CutQ (posT hiP loP X) X H P bl := by
  obtain ⟨p1, p2, p3, p4⟩ := pos_bd hiP loP X hX0 hX hh_T
  obtain ⟨n17, hval, D', z, hDz, hz, hbad⟩ := pos_all X hX0 hX
  obtain ⟨f1, f2⟩ := pos_first X hX0 hX
  obtain ⟨k, hk⟩ : ∃ k, posK hiP loP X = k := ⟨_, rfl⟩
  obtain ⟨c, D1, hcD, hc48⟩ : ∃ c D1, posD hiP loP X = c :: D1 ∧ c ≠ 48 := ⟨_, _, rfl, fun e => f2 ((u8_eq _ 48 (by decide)).1 e)⟩
  have hTT : posT hiP loP X = laidT (posD hiP loP X) k := by unfold posT; rw [hk]
  rw [hTT]
  rw [hk] at p3 p4 hval hbad
  obtain ⟨D, hD⟩ : ∃ D, posD hiP loP X = D := ⟨_, rfl⟩
  rw [hD] at p1 p2 n17 hDz hcD f1 hval ⊢
  clear hTT hk hD f2
  obtain ⟨Y, hY⟩ : ∃ Y, nx (dval D') (k - D'.length) = Y := ⟨_, rfl⟩
  rw [hY] at hbad
  have hnl : D.length = D'.length + 1 := by rw [hDz, List.length_append]; rfl
  have hD' : DigL D' := fun b hb => f1 b (by rw [hDz]; simp [hb])
  have hYi : Y < infX := by
    have h1 := nx_shift (dval D') 1 (k - D.length)
    rw [Nat.pow_one, show k - (D.length : Int) + ((1 : Nat) : Int) = k - D'.length by omega, hY] at h1
    have h2 : dval D' * 10 ≤ dval D := by rw [hDz, dval_app, show ([z] : List UInt8).length = 1 from rfl, Nat.pow_one]; omega
    have h3 := nx_mono h2 (k - D.length)
    rw [h1, hval] at h3
    have : infX = 9218868437227405312 := rfl
    omega
  have hne : ∀ b ∈ D, b ≠ 101 := dig_ne f1 (.inr (by decide))
  have hnp : ∀ b ∈ D, b ≠ 46 := dig_ne f1 (.inl (by decide))
  unfold laidT
  by_cases hA : 1 ≤ k ∧ k ≤ 15
  · rw [if_pos hA]
    by_cases hB : (D.length : Int) ≤ k
    · rw [if_pos hB, rep_eq]
      obtain ⟨u, hu⟩ : ∃ u, (k - (D.length : Int)).toNat = u := ⟨_, rfl⟩
      rw [hu]
      have hdl := digL_app f1 (digL_zero u)
      refine ⟨_, _, _, cut_none _ (dig_ne hdl (.inr (by decide))), ?_, ?_, .inl ⟨no_point _ (dig_ne hdl (.inl (by decide))), ?_, ?_⟩⟩
      · rw [List.length_append, List.length_replicate]
        omega
      · rw [List.length_append]
        omega
      · rw [rep_none _ (dig_ne hdl (.inl (by decide)))]
        have ht := trimL_zero 0 c (D1 ++ List.replicate u 48) hc48
        rw [List.replicate_zero, List.nil_append, ← List.cons_append, ← hcD] at ht
        rw [ht]
        exact Nat.le_trans (trimR_len D u) n17
      · rw [rep_none _ (dig_ne hdl (.inl (by decide))), List.length_append, List.length_replicate]
        omega
    · rw [if_neg hB]
      obtain ⟨j, hj⟩ : ∃ j : Nat, k = j := ⟨k.toNat, by omega⟩
      subst hj
      rw [Int.toNat_natCast]
      have ht : D.take j = D'.take j := by rw [hDz, List.take_append_of_le_length (by omega)]
      have hd : D.drop j = D'.drop j ++ [z] := by rw [hDz, List.drop_append_of_le_length (by omega)]
      rw [ht, hd, show D'.take j ++ [46] ++ (D'.drop j ++ [z]) = D'.take j ++ 46 :: (D'.drop j ++ [z]) by simp]
      have hI : DigL (D'.take j) := fun b hb => hD' b (List.mem_of_mem_take hb)
      have hF : DigL (D'.drop j) := fun b hb => hD' b (List.mem_of_mem_drop hb)
      have hlt : (D'.take j).length = j := by rw [List.length_take]; omega
      have hld : (D'.drop j).length = D'.length - j := List.length_drop
      refine ⟨_, [], false, pt_case (D'.take j) (D'.drop j) [] z c D1 D' j X Y false hI hF _ (cut_none _ ?_) ?_ 0 ?_ hc48 (by rw [← hcD]; exact n17) (by omega) (by omega) (.inl rfl) ?_ (by rw [List.take_append_drop]) ?_ hY hYi hbad⟩
      · intro b hb
        rcases List.mem_append.1 hb with h | h
        · exact dig_ne hI (.inr (by decide)) b h
        · rcases List.mem_cons.1 h with rfl | h
          · decide
          · exact hne b (by rw [hDz, ← List.take_append_drop j D', List.append_assoc]; exact List.mem_append_right _ h)
      · simp only [List.length_append, List.length_cons, List.length_nil]
        omega
      · rw [List.replicate_zero, List.nil_append, ← hcD, ← List.append_assoc, List.take_append_drop, hDz]
      · simp only [List.length_append, List.length_cons, tailE, if_true, List.length_nil]
        omega
      · show (0 : Int) - _ = _
        rw [hld]
        omega
  · rw [if_neg hA]
    by_cases hC : -4 ≤ k ∧ k ≤ 0
    · rw [if_pos hC, rep_eq]
      obtain ⟨u, hu⟩ : ∃ u : Nat, -k = u := ⟨(-k).toNat, by omega⟩
      rw [hu, Int.toNat_natCast, hDz, show [48, 46] ++ List.replicate u 48 ++ (D' ++ [z]) = [48] ++ 46 :: ((List.replicate u 48 ++ D') ++ [z]) by simp]
      have hI : DigL [48] := digL_zero 1
      have hF : DigL (List.replicate u 48 ++ D') := digL_app (digL_zero u) hD'
      refine ⟨_, [], false, pt_case [48] (List.replicate u 48 ++ D') [] z c D1 D' k X Y false hI hF _ (cut_none _ ?_) ?_ (u + 1) ?_ hc48 (by rw [← hcD]; exact n17) (by simp) (by simp; omega) (.inl rfl) ?_ ?_ ?_ hY hYi hbad⟩
      · intro b hb
        have hz2 : isD z = true := f1 z (by rw [hDz]; simp)
        rcases List.mem_append.1 hb with h | h
        · exact dig_ne hI (.inr (by decide)) b h
        · rcases List.mem_cons.1 h with rfl | h
          · decide
          · rcases List.mem_append.1 h with h | h
            · exact dig_ne hF (.inr (by decide)) b h
            · exact hne b (by rw [hDz]; simp at h; simp [h])
      · simp only [List.length_append, List.length_cons, List.length_nil, List.length_replicate]
        omega
      · rw [List.replicate_succ, ← hcD, hDz]
        simp
      · simp only [List.length_append, List.length_cons, tailE, if_true, List.length_nil, List.length_replicate]
        omega
      · rw [dval_app, dval_app, dval_zero]
        simp [dval]
      · show (0 : Int) - _ = _
        rw [List.length_append, List.length_replicate]
        omega
    · rw [if_neg hC]
      obtain ⟨i1, i2, i3⟩ := it_ok (k - 1) (by omega) (by omega)
      have hP : Lib.itoa (k - 1) ≠ [] := fun e => by
        rw [e] at i1
        exact absurd i1 (by decide)
      have htE : tailE (Lib.itoa (k - 1)) = 101 :: Lib.itoa (k - 1) := if_neg hP
      by_cases hone : 1 < D.length
      · rw [if_pos hone]
        have ht : D.take 1 = D'.take 1 := by rw [hDz, List.take_append_of_le_length (by omega)]
        have hd : D.drop 1 = D'.drop 1 ++ [z] := by rw [hDz, List.drop_append_of_le_length (by omega)]
        rw [ht, hd]
        have hI : DigL (D'.take 1) := fun b hb => hD' b (List.mem_of_mem_take hb)
        have hF : DigL (D'.drop 1) := fun b hb => hD' b (List.mem_of_mem_drop hb)
        have hlt : (D'.take 1).length = 1 := by rw [List.length_take]; omega
        have hld : (D'.drop 1).length = D'.length - 1 := List.length_drop
        have hH : ∀ b ∈ D'.take 1 ++ 46 :: (D'.drop 1 ++ [z]), b ≠ 101 := by
          intro b hb
          rcases List.mem_append.1 hb with h | h
          · exact dig_ne hI (.inr (by decide)) b h
          · rcases List.mem_cons.1 h with rfl | h
            · decide
            · exact hne b (by rw [hDz, ← List.take_append_drop 1 D', List.append_assoc]; exact List.mem_append_right _ h)
        rw [show D'.take 1 ++ [46] ++ (D'.drop 1 ++ [z]) ++ [101] ++ Lib.itoa (k - 1) = (D'.take 1 ++ 46 :: (D'.drop 1 ++ [z])) ++ 101 :: Lib.itoa (k - 1) by simp]
        refine ⟨_, Lib.itoa (k - 1), true, pt_case (D'.take 1) (D'.drop 1) (Lib.itoa (k - 1)) z c D1 D' k X Y true hI hF _ (cut_skip 101 _ _ hH) ?_ 0 ?_ hc48 (by rw [← hcD]; exact n17) (by omega) (by omega) (.inr (by rw [htE]; exact i1)) ?_ (by rw [List.take_append_drop]) ?_ hY hYi hbad⟩
        · simp only [List.length_append, List.length_cons, List.length_nil]
          omega
        · rw [List.replicate_zero, List.nil_append, ← hcD, ← List.append_assoc, List.take_append_drop, hDz]
        · rw [htE]
          simp only [List.length_append, List.length_cons]
          omega
        · rw [htE, exI_e, i2, hld]
          omega
      · rw [if_neg hone, List.append_assoc]
        refine ⟨D, Lib.itoa (k - 1), true, cut_skip 101 D _ hne, ?_, by omega, .inl ⟨no_point _ hnp, ?_, by rw [rep_none _ hnp]; omega⟩⟩
        · simp only [List.length_append, List.length_cons, List.length_nil]
          omega
        · rw [rep_none _ hnp]
          have ht := trimL_zero 0 c D1 hc48
          rw [List.replicate_zero, List.nil_append, ← hcD] at ht
          rw [ht]
          have := trimR_len D 0
          rw [List.replicate_zero, List.append_nil] at this
          omega
end Go.Proofs.YtbjengfoaobdbaaGreatDoor.lawd
