/- The plain mathematics of LexWhole: tokens stand in order, between them are blanks and remarks alone. No program in sight. -/
import Derived.Test.YtekhdocejahboaaDoorLexChunks
import Derived.Lib.TrimByte
import Derived.Lib.Bytealg
namespace Go.Proofs.YtekhdocejahboaaDoor.lexm

/-- up to the first # -/
def cutL (B : List UInt8) : List UInt8 := B.takeWhile (· != 35)
/-- blanks, or from # to a line's end -/
def gapOk (B : List UInt8) : Prop := (∀ x, x ∈ B → x ≠ 10) ∧ ∀ x, x ∈ cutL B → x = 32

theorem gapOk_nil : gapOk [] := ⟨fun x hx => absurd hx (by simp), fun x hx => absurd hx (by simp [cutL])⟩

theorem runL_allof (p : Int → Bool) (c X : List UInt8) (h : runL p (c ++ X) = c.length) : ∀ x, x ∈ c → p x.toNat = true := by
  induction c with
  | nil => intro x hx; simp at hx
  | cons a c ih =>
    cases hp : p a.toNat with
    | true =>
      rw [List.cons_append, runL_pos hp, List.length_cons] at h
      intro x hx
      rcases List.mem_cons.1 hx with rfl | hx
      · exact hp
      · exact ih (by omega) x hx
    | false => rw [List.cons_append, runL_neg hp, List.length_cons] at h; omega

theorem first_zero {a : UInt8} {X : List UInt8} {n : Nat} (h : firstL (a :: X) = (0, n, true)) : (a = 32 ∧ n = 1) ∨ (a = 35 ∧ n = runL remI (a :: X)) := by
  simp only [firstL] at h
  by_cases h32 : a.toNat = 32
  · rw [if_pos h32] at h
    injection h with _ h
    injection h with h _
    exact .inl ⟨UInt8.toNat_inj.1 h32, h.symm⟩
  rw [if_neg h32] at h
  by_cases h35 : a.toNat = 35
  · rw [if_pos h35] at h
    injection h with _ h
    injection h with h _
    exact .inr ⟨UInt8.toNat_inj.1 h35, h.symm⟩
  rw [if_neg h35] at h
  by_cases h10 : a.toNat = 10
  · rw [if_pos h10] at h; simp at h
  rw [if_neg h10] at h
  by_cases h61 : a.toNat = 61
  · rw [if_pos h61] at h; simp at h
  rw [if_neg h61] at h
  by_cases hl : ltrI a.toNat = true
  · rw [if_pos hl] at h; simp at h
  rw [if_neg hl] at h
  split at h <;> simp at h

theorem gap_of (gs : List (Nat × List UInt8)) (rest : List (Nat × List UInt8)) (h : OkC (gs ++ rest) []) (h0 : ∀ x, x ∈ gs → x.1 = 0) : gapOk (flat gs) := by
  induction gs with
  | nil => exact gapOk_nil
  | cons x gs ih =>
    obtain ⟨k, c⟩ := x
    obtain rfl : k = 0 := h0 (k, c) (by simp)
    obtain ⟨h1, h2, h3⟩ := h
    have ih' := ih h3 (fun x hx => h0 x (by simp [hx]))
    cases c with
    | nil => exact absurd rfl h1
    | cons a c =>
      have h2' : firstL (a :: (c ++ (flat (gs ++ rest) ++ []))) = (0, c.length + 1, true) := h2
      rcases first_zero h2' with ⟨rfl, hn⟩ | ⟨rfl, hn⟩
      · have hc : c = [] := List.eq_nil_of_length_eq_zero (by omega)
        subst hc
        refine ⟨fun x hx => ?_, fun x hx => ?_⟩
        · simp only [flat, List.cons_append, List.nil_append, List.mem_cons] at hx
          rcases hx with rfl | hx
          · decide
          · exact ih'.1 x hx
        · simp only [flat, cutL, List.cons_append, List.nil_append] at hx
          rw [List.takeWhile_cons_of_pos (by decide)] at hx
          rcases List.mem_cons.1 hx with rfl | hx
          · rfl
          · exact ih'.2 x hx
      · have hall := runL_allof remI (35 :: c) (flat (gs ++ rest) ++ []) (by rw [List.cons_append]; exact hn.symm)
        have hstop := (runL_app remI (35 :: c) (flat (gs ++ rest) ++ []) (by rw [List.cons_append]; exact hn.symm)).1
        have hg : gs = [] := by
          cases gs with
          | nil => rfl
          | cons y gs =>
            obtain ⟨k2, c2⟩ := y
            obtain rfl : k2 = 0 := h0 (k2, c2) (by simp)
            cases c2 with
            | nil => exact absurd rfl h3.1
            | cons b c2 =>
              have hb : remI b.toNat = true := by
                have h4 : firstL (b :: (c2 ++ (flat (gs ++ rest) ++ []))) = (0, c2.length + 1, true) := h3.2.1
                rcases first_zero h4 with ⟨rfl, _⟩ | ⟨rfl, _⟩ <;> decide
              simp only [List.cons_append, flat] at hstop
              rw [runL_pos hb] at hstop
              omega
        subst hg
        refine ⟨fun x hx => ?_, fun x hx => ?_⟩
        · simp only [flat, List.append_nil] at hx
          have := hall x hx
          intro e
          subst e
          revert this
          decide
        · simp only [flat, cutL, List.append_nil] at hx
          rw [List.takeWhile_cons_of_neg (by decide)] at hx
          simp at hx

/-- the tokens of a text, one behind the other -/
def Chain (l : List UInt8) : Nat → List Tok → Prop
  | N, [] => N ≤ l.length ∧ gapOk (l.drop N)
  | N, t :: r => N ≤ t.pos ∧ t.pos + t.text.length ≤ l.length ∧ (l.drop t.pos).take t.text.length = t.text ∧ gapOk ((l.drop N).take (t.pos - N)) ∧ 1 ≤ t.kind ∧ t.kind ≤ 4 ∧ t.text ≠ [] ∧ Chain l (t.pos + t.text.length) r

theorem split0 (cs : List (Nat × List UInt8)) : ∃ gs rest, cs = gs ++ rest ∧ (∀ x, x ∈ gs → x.1 = 0) ∧ (rest = [] ∨ ∃ k c r, rest = (k, c) :: r ∧ k ≠ 0) := by
  induction cs with
  | nil => exact ⟨[], [], rfl, by simp, .inl rfl⟩
  | cons x cs ih =>
    obtain ⟨k, c⟩ := x
    by_cases hk : k = 0
    · obtain ⟨gs, rest, e1, e2, e3⟩ := ih
      refine ⟨(k, c) :: gs, rest, by rw [e1]; rfl, ?_, e3⟩
      intro y hy
      rcases List.mem_cons.1 hy with rfl | hy
      · exact hk
      · exact e2 y hy
    · exact ⟨[], (k, c) :: cs, rfl, by simp, .inr ⟨k, c, cs, rfl, hk⟩⟩

theorem toksC_gap (gs : List (Nat × List UInt8)) (i : Nat) (h : ∀ x, x ∈ gs → x.1 = 0) : toksC gs i = [] := by
  induction gs generalizing i with
  | nil => rfl
  | cons x gs ih =>
    simp only [toksC]
    rw [if_pos (h x (by simp)), ih _ (fun y hy => h y (by simp [hy]))]

theorem chain_of (n : Nat) : ∀ (cs done : List (Nat × List UInt8)), cs.length ≤ n → OkC cs [] → Chain (flat done ++ flat cs) (flat done).length (toksC cs (flat done).length) := by
  induction n with
  | zero =>
    intro cs done hn _
    obtain rfl : cs = [] := List.eq_nil_of_length_eq_zero (by omega)
    simp only [toksC, flat, List.append_nil, Chain]
    exact ⟨Nat.le_refl _, by rw [List.drop_length]; exact gapOk_nil⟩
  | succ n ih =>
    intro cs done hn hok
    obtain ⟨gs, rest, rfl, hg, hr⟩ := split0 cs
    have hgap := gap_of gs rest hok hg
    rw [toksC_app, toksC_gap gs _ hg, List.nil_append]
    rcases hr with rfl | ⟨k, c, r, rfl, hk⟩
    · simp only [toksC, List.append_nil, Chain]
      exact ⟨by simp, by rw [List.drop_left]; exact hgap⟩
    · obtain ⟨_, ok2⟩ := (OkC_app _ _ _).1 hok
      obtain ⟨q1, q2, q3⟩ := ok2
      have hk4 : k ≤ 4 := by
        have := firstL_kind (c ++ (flat r ++ []))
        rw [q2] at this
        exact this
      have hr' := ih r (done ++ gs ++ [(k, c)]) (by simp at hn; omega) q3
      have hfl : flat (done ++ gs ++ [(k, c)]) = flat done ++ flat gs ++ c := by rw [flat_app, flat_app]; simp [flat]
      rw [hfl] at hr'
      simp only [toksC, if_neg hk, Chain, flat_app, flat]
      have e1 : flat done ++ (flat gs ++ (c ++ flat r)) = (flat done ++ flat gs ++ c) ++ flat r := by simp
      have e2 : (flat done ++ flat gs ++ c).length = (flat done).length + (flat gs).length + c.length := by simp; omega
      refine ⟨by omega, by simp; omega, ?_, ?_, by omega, hk4, q1, ?_⟩
      · have : (flat done ++ (flat gs ++ (c ++ flat r))).drop ((flat done).length + (flat gs).length) = c ++ flat r := by
          rw [show flat done ++ (flat gs ++ (c ++ flat r)) = (flat done ++ flat gs) ++ (c ++ flat r) from by simp, ← List.length_append, List.drop_left]
        rw [this, List.take_left]
      · rw [List.drop_left, Nat.add_sub_cancel_left, List.take_left]
        exact hgap
      · rw [e1, ← e2]
        exact hr'

theorem err_lt (n : Nat) : ∀ (l : List UInt8) (i kl p : Nat), l.length ≤ n → errOf (lexT l i kl) = some p → p < i + l.length := by
  induction n with
  | zero =>
    intro l i kl p hn h
    obtain rfl : l = [] := List.eq_nil_of_length_eq_zero (by omega)
    rw [lexT_nil] at h
    split at h <;> simp [errOf] at h
  | succ n ih =>
    intro l i kl p hn h
    by_cases hl : l = []
    · subst hl
      rw [lexT_nil] at h
      split at h <;> simp [errOf] at h
    · obtain ⟨⟨k, m, b⟩, hq⟩ : ∃ q, firstL l = q := ⟨_, rfl⟩
      have hle := firstL_le l
      have hpos := firstL_pos hl
      rw [hq] at hle hpos
      simp only at hle hpos
      have hl0 : 0 < l.length := List.length_pos_iff.2 hl
      cases b with
      | false =>
        rw [lexT_bad hl hq] at h
        simp [errOf] at h
        omega
      | true =>
        have hm := hpos (.inl rfl)
        have hd : (l.drop m).length = l.length - m := List.length_drop
        by_cases hk : k = 0
        · subst hk
          rw [lexT_skip hl hq] at h
          have := ih (l.drop m) (i + m) kl p (by omega) h
          omega
        · rw [lexT_tok hl hq hk] at h
          have := ih (l.drop m) (i + m) k p (by omega) h
          omega

/-! ### what the library says of a gap -/
theorem index_none (l : List UInt8) (c : UInt8) (h : ∀ x, x ∈ l → x ≠ c) : Lib.indexByte l c = -1 := by
  induction l with
  | nil => rfl
  | cons a l ih =>
    have ha : (a == c) = false := by simpa using h a (by simp)
    unfold Lib.indexByte
    rw [ha, ih (fun x hx => h x (by simp [hx]))]
    rfl
theorem index_ge (l : List UInt8) (c : UInt8) : -1 ≤ Lib.indexByte l c := by
  induction l with
  | nil => exact Int.le_refl _
  | cons a l ih =>
    unfold Lib.indexByte
    split
    · decide
    · split
      · decide
      · omega
theorem index_cut (l : List UInt8) : (0 ≤ Lib.indexByte l 35 → l.take (Lib.indexByte l 35).toNat = cutL l ∧ (Lib.indexByte l 35).toNat < l.length) ∧ (¬ 0 ≤ Lib.indexByte l 35 → cutL l = l) := by
  induction l with
  | nil => exact ⟨fun h => absurd h (by decide), fun _ => rfl⟩
  | cons a l ih =>
    have hge := index_ge l 35
    unfold Lib.indexByte cutL
    by_cases ha : a = 35
    · subst ha
      rw [if_pos (by decide)]
      exact ⟨fun _ => ⟨by rw [List.takeWhile_cons_of_neg (by decide)]; rfl, by simp⟩, fun h => absurd (by decide) h⟩
    · have hb : (a == 35) = false := by simpa using ha
      have hc : (a != 35) = true := by simpa using ha
      rw [hb, List.takeWhile_cons_of_pos (p := fun x => x != 35) hc]
      by_cases hm : Lib.indexByte l 35 = -1
      · have h1 : (Lib.indexByte l 35 == -1) = true := by simpa using hm
        rw [h1]
        refine ⟨fun h => absurd h (by simp), fun _ => ?_⟩
        have := ih.2 (by omega)
        unfold cutL at this
        rw [this]
      · have h1 : (Lib.indexByte l 35 == -1) = false := by simpa using hm
        rw [h1]
        obtain ⟨i1, i2⟩ := ih.1 (by omega)
        simp only [Bool.false_eq_true, if_false]
        have e : (Lib.indexByte l 35 + 1).toNat = (Lib.indexByte l 35).toNat + 1 := by omega
        refine ⟨fun _ => ⟨?_, by rw [e]; simpa using i2⟩, fun h => absurd (by omega) h⟩
        rw [e, List.take_succ_cons, i1]
        rfl
theorem drop_all (l : List UInt8) (h : ∀ x, x ∈ l → x = 32) : l.dropWhile (· == 32) = [] := by
  induction l with
  | nil => rfl
  | cons a l ih =>
    obtain rfl := h a (by simp)
    rw [List.dropWhile_cons_of_pos (by decide)]
    exact ih (fun x hx => h x (by simp [hx]))
theorem trim_blanks (l : List UInt8) (h : ∀ x, x ∈ l → x = 32) : Lib.trimB l 32 = [] := by
  have h1 : l.reverse.dropWhile (· == 32) = [] := drop_all _ (fun x hx => h x (by simpa using hx))
  unfold Lib.trimB Lib.trimRightB
  rw [h1]
  rfl

/-! ### the whole -/
def lastKd (ts : List Tok) (kl : Nat) : Nat := (ts.getLast?.map Tok.kind).getD kl
theorem lastC_toks (cs : List (Nat × List UInt8)) (i kl : Nat) : lastC cs kl = lastKd (toksC cs i) kl := by
  induction cs generalizing i kl with
  | nil => rfl
  | cons x cs ih =>
    simp only [lastC, toksC]
    by_cases hk : x.1 = 0
    · rw [if_pos hk, if_pos hk]
      exact ih _ _
    · rw [if_neg hk, if_neg hk, ih (i + x.2.length)]
      unfold lastKd
      rw [List.getLast?_cons]
      rcases (toksC cs (i + x.2.length)).getLast? with _ | t <;> rfl

theorem res_cases (l : List UInt8) (hl : l.length ≤ 2000) :
    (∃ p, lexRes l = ([], p, 150) ∧ p < l.length) ∨ ∃ toks tl, lexRes l = (toks ++ tl, 0, 0) ∧ Chain l 0 toks ∧ ((tl = [] ∧ lastKd toks 4 = 4) ∨ tl = [⟨4, l.length, []⟩]) ∧ toks.length ≤ 2001 := by
  cases he : errOf (lexT l 0 4) with
  | some p =>
    refine .inl ⟨p, ?_, by simpa using err_lt l.length l 0 4 p (Nat.le_refl _) he⟩
    unfold lexRes
    rw [if_neg (by omega), he]
  | none =>
    obtain ⟨cs, hf, hok⟩ := chunks_of l.length l 0 4 (Nat.le_refl _) he
    subst hf
    have hx := lexRes_chunks cs hok (by omega)
    have hch := chain_of cs.length cs [] (Nat.le_refl _) hok
    have hlen : (toksC cs 0).length ≤ 2001 := by
      have h1 := lexT_chunks cs [] 0 4 hok
      rw [List.append_nil] at h1
      have h2 := lexT_len (flat cs) 0 4
      rw [h1, List.length_append, List.length_map] at h2
      omega
    refine .inr ⟨toksC cs 0, _, hx, by simpa [flat] using hch, ?_, hlen⟩
    by_cases h4 : lastC cs 4 = 4
    · exact .inl ⟨if_pos h4, by rw [← lastC_toks cs 0 4]; exact h4⟩
    · exact .inr (if_neg h4)

/-- where the statement's loop stands -/
def WholeAt (l : List UInt8) (toks : List Tok) (j N : Nat) : Prop := (j ≤ toks.length ∧ Chain l N (toks.drop j)) ∨ (toks.length < j ∧ N = l.length)

/-- what holds of token t at place j, N being behind the one ahead of it -/
def Fits (l : List UInt8) (toks ts : List Tok) (j N : Nat) (t : Tok) : Prop :=
  N ≤ t.pos ∧ t.pos + t.text.length ≤ l.length ∧ (l.drop t.pos).take t.text.length = t.text ∧ gapOk ((l.drop N).take (t.pos - N)) ∧ WholeAt l toks (j + 1) (t.pos + t.text.length) ∧
    (j < ts.length → 1 ≤ t.kind ∧ t.kind ≤ 4 ∧ (t.text ≠ [] ∨ (t.text = [] ∧ j + 1 = ts.length ∧ t.kind = 4 ∧ t.pos = l.length)))

theorem whole_step (l : List UInt8) (toks tl ts : List Tok) (hts : toks ++ tl = ts) (htl : (tl = [] ∧ lastKd toks 4 = 4) ∨ tl = [⟨4, l.length, []⟩]) (j N : Nat) (t : Tok)
    (ht : (ts ++ [(⟨0, l.length, []⟩ : Tok)])[j]? = some t) (h : WholeAt l toks j N) : Fits l toks ts j N t := by
  subst hts
  by_cases h1 : j < toks.length
  · rw [List.append_assoc, List.getElem?_append_left h1, List.getElem?_eq_getElem h1] at ht
    injection ht with ht
    subst ht
    rcases h with ⟨_, h⟩ | ⟨h, _⟩
    · rw [List.drop_eq_getElem_cons h1] at h
      obtain ⟨g1, g2, g3, g4, g5, g6, g7, g8⟩ := h
      exact ⟨g1, g2, g3, g4, .inl ⟨by omega, g8⟩, fun _ => ⟨g5, g6, .inl g7⟩⟩
    · omega
  · by_cases h2 : j = toks.length
    · subst h2
      rw [List.append_assoc, List.getElem?_append_right (Nat.le_refl _), Nat.sub_self] at ht
      rcases h with ⟨_, h⟩ | ⟨h, _⟩
      · rw [List.drop_length] at h
        obtain ⟨g1, g2⟩ := h
        have hg : (l.drop N).take (l.length - N) = l.drop N := List.take_of_length_le (by rw [List.length_drop]; omega)
        rcases htl with ⟨rfl, _⟩ | rfl
        · simp at ht
          subst ht
          refine ⟨g1, by simp, by simp, by simp only; rw [hg]; exact g2, .inr ⟨by omega, by simp⟩, fun h => ?_⟩
          simp at h
        · simp at ht
          subst ht
          exact ⟨g1, by simp, by simp, by simp only; rw [hg]; exact g2, .inr ⟨by omega, by simp⟩, fun _ => ⟨by simp, by simp, .inr ⟨rfl, by simp, rfl, rfl⟩⟩⟩
      · omega
    · rcases h with ⟨h, _⟩ | ⟨h, rfl⟩
      · omega
      · rw [List.append_assoc, List.getElem?_append_right (by omega)] at ht
        rcases htl with ⟨rfl, _⟩ | rfl
        · rw [List.nil_append, List.getElem?_eq_none (by simp; omega)] at ht
          cases ht
        · by_cases h3 : j = toks.length + 1
          · subst h3
            rw [Nat.add_sub_cancel_left] at ht
            simp at ht
            subst ht
            refine ⟨Nat.le_refl _, by simp, by simp, by simp only; rw [Nat.sub_self, List.take_zero]; exact gapOk_nil, .inr ⟨by omega, by simp⟩, fun h => ?_⟩
            simp at h
          · rw [List.getElem?_eq_none (by simp; omega)] at ht
            cases ht

theorem last_end (l : List UInt8) (toks tl ts : List Tok) (hts : toks ++ tl = ts) (htl : (tl = [] ∧ lastKd toks 4 = 4) ∨ tl = [⟨4, l.length, []⟩]) (h0 : 0 < ts.length) : (ts[ts.length - 1]'(by omega)).kind = 4 := by
  subst hts
  have hg : (toks ++ tl).getLast? = some ((toks ++ tl)[(toks ++ tl).length - 1]'(by omega)) := List.getLast?_eq_getElem? .. |>.trans (List.getElem?_eq_getElem (by omega))
  generalize (toks ++ tl)[(toks ++ tl).length - 1]'(by omega) = t at *
  rcases htl with ⟨rfl, h⟩ | rfl
  · rw [List.append_nil] at hg
    unfold lastKd at h
    rw [hg] at h
    exact h
  · rw [List.getLast?_concat] at hg
    injection hg with hg
    rw [← hg]

end Go.Proofs.YtekhdocejahboaaDoor.lexm
