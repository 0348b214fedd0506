/- The plain mathematics of layer 15, outright: a text without an error is cut into chunks; blanks and remarks change nothing but places. No program in sight. -/
import Derived.Test.YtekhdocejahboaaDoorLexMath
namespace Go.Proofs.YtekhdocejahboaaDoor.lexm

/-- a text that is cut into chunks, each with its kind (0: nothing) -/
def flat : List (Nat × List UInt8) → List UInt8
  | [] => []
  | x :: cs => x.2 ++ flat cs
/-- each chunk is what its text begins with -/
def OkC : List (Nat × List UInt8) → List UInt8 → Prop
  | [], _ => True
  | x :: cs, R => x.2 ≠ [] ∧ firstL (x.2 ++ (flat cs ++ R)) = (x.1, x.2.length, true) ∧ OkC cs R
def toksC : List (Nat × List UInt8) → Nat → List Tok
  | [], _ => []
  | x :: cs, i => if x.1 = 0 then toksC cs (i + x.2.length) else ⟨x.1, i, x.2⟩ :: toksC cs (i + x.2.length)
def lastC : List (Nat × List UInt8) → Nat → Nat
  | [], kl => kl
  | x :: cs, kl => lastC cs (if x.1 = 0 then kl else x.1)

theorem lexT_chunks (cs : List (Nat × List UInt8)) (R : List UInt8) (i kl : Nat) (h : OkC cs R) :
    lexT (flat cs ++ R) i kl = (toksC cs i).map (fun t => (t, true)) ++ lexT R (i + (flat cs).length) (lastC cs kl) := by
  induction cs generalizing i kl with
  | nil => simp [flat, toksC, lastC]
  | cons x cs ih =>
    obtain ⟨k, c⟩ := x
    obtain ⟨h1, h2, h3⟩ := h
    simp only [flat, toksC, lastC] at *
    have hne : c ++ flat cs ++ R ≠ [] := by simp [h1]
    rw [← List.append_assoc] at h2
    have hd : (c ++ flat cs ++ R).drop c.length = flat cs ++ R := by rw [List.append_assoc, List.drop_left]
    have ht : (c ++ flat cs ++ R).take c.length = c := by rw [List.append_assoc, List.take_left]
    by_cases hk : k = 0
    · subst hk
      rw [lexT_skip hne h2, hd, if_pos rfl, if_pos rfl, ih _ _ h3, List.length_append, Nat.add_assoc]
    · rw [lexT_tok hne h2 hk, hd, ht, if_neg hk, if_neg hk, ih _ _ h3, List.length_append, Nat.add_assoc]
      rfl

theorem errOf_chunks (ts : List Tok) (i kl : Nat) : errOf (ts.map (fun t => (t, true)) ++ lexT [] i kl) = none := by
  rw [errOf_app, lexT_nil]
  split <;> rfl

theorem lexRes_chunks (cs : List (Nat × List UInt8)) (h : OkC cs []) (hl : (flat cs).length ≤ 1048576) :
    lexRes (flat cs) = (toksC cs 0 ++ (if lastC cs 4 = 4 then [] else [⟨4, (flat cs).length, []⟩]), 0, 0) := by
  have hx := lexT_chunks cs [] 0 4 h
  rw [List.append_nil, Nat.zero_add] at hx
  unfold lexRes
  rw [if_neg (by omega), hx, errOf_chunks, toksOf_app, lexT_nil]
  by_cases h4 : lastC cs 4 = 4
  · simp [h4, toksOf]
  · simp [h4, toksOf]

theorem chunks_of (n : Nat) : ∀ (l : List UInt8) (i kl : Nat), l.length ≤ n → errOf (lexT l i kl) = none → ∃ cs, flat cs = l ∧ OkC cs [] := by
  induction n with
  | zero =>
    intro l i kl hn _
    exact ⟨[], by simpa [flat] using (List.eq_nil_of_length_eq_zero (by omega)).symm, trivial⟩
  | succ n ih =>
    intro l i kl hn he
    by_cases hl : l = []
    · exact ⟨[], hl.symm, trivial⟩
    · obtain ⟨⟨k, m, b⟩, hq⟩ : ∃ q, firstL l = q := ⟨_, rfl⟩
      have hle := firstL_le l
      have hpos := firstL_pos hl
      rw [hq] at hle hpos
      simp only at hle hpos
      cases b with
      | false => rw [lexT_bad hl hq] at he; cases he
      | true =>
        have hm := hpos (.inl rfl)
        have hsub : ∃ i' kl', errOf (lexT (l.drop m) i' kl') = none := by
          by_cases hk : k = 0
          · subst hk
            rw [lexT_skip hl hq] at he
            exact ⟨_, _, he⟩
          · rw [lexT_tok hl hq hk] at he
            exact ⟨_, _, he⟩
        obtain ⟨i', kl', he'⟩ := hsub
        obtain ⟨cs, hf, hok⟩ := ih (l.drop m) i' kl' (by rw [List.length_drop]; omega) he'
        have htl : (l.take m).length = m := by rw [List.length_take]; omega
        refine ⟨(k, l.take m) :: cs, by simp [flat, hf], ?_, ?_, hok⟩
        · intro e
          have h0 : (l.take m).length = 0 := by
            show ((k, l.take m).2).length = 0
            rw [e]; rfl
          omega
        · show firstL (l.take m ++ (flat cs ++ [])) = (k, (l.take m).length, true)
          rw [List.append_nil, hf, List.take_append_drop, htl]
          exact hq

/-! ### what a chunk asks of what stands behind it -/
def numS (a : Int) : Bool := digI a || a == 45 || a == 46
/-- what begins with a ends ahead of X -/
def Stops (a : UInt8) (X : List UInt8) : Prop :=
  (a.toNat = 35 → runL remI X = 0) ∧ (ltrI a.toNat = true → runL namI X = 0) ∧ (numS a.toNat = true → runL numI X = 0)

theorem runL_app (p : Int → Bool) (c X : List UInt8) (h : runL p (c ++ X) = c.length) : runL p X = 0 ∧ ∀ Y, runL p Y = 0 → runL p (c ++ Y) = c.length := by
  induction c with
  | nil => exact ⟨by simpa using h, fun Y hY => by simpa using hY⟩
  | cons a c ih =>
    cases hp : p a.toNat with
    | true =>
      rw [List.cons_append, runL_pos hp, List.length_cons] at h
      obtain ⟨h1, h2⟩ := ih (by omega)
      exact ⟨h1, fun Y hY => by rw [List.cons_append, runL_pos hp, h2 Y hY, List.length_cons]⟩
    | false => rw [List.cons_append, runL_neg hp, List.length_cons] at h; omega

theorem sep_facts {a : Int} (h : a = 32 ∨ a = 10 ∨ a = 61 ∨ a = 35) : ltrI a = false ∧ numS a = false ∧ namI a = false ∧ numI a = false := by
  rcases h with rfl | rfl | rfl | rfl <;> decide

/-- what a text begins with hangs on what stands behind it by its end alone -/
theorem first_ctx {a : UInt8} {c X : List UInt8} {k : Nat} (h : firstL (a :: c ++ X) = (k, c.length + 1, true)) :
    Stops a X ∧ ∀ Y, Stops a Y → firstL (a :: c ++ Y) = (k, c.length + 1, true) := by
  simp only [List.cons_append, firstL] at h ⊢
  by_cases h32 : a.toNat = 32
  · obtain ⟨f1, f2, _, _⟩ := sep_facts (a := a.toNat) (.inl (by omega))
    simp only [if_pos h32] at h ⊢
    exact ⟨⟨fun e => by omega, (fun e => absurd e (by rw [f1]; decide)), (fun e => absurd e (by rw [f2]; decide))⟩, fun _ _ => h⟩
  simp only [if_neg h32] at h ⊢
  by_cases h35 : a.toNat = 35
  · obtain ⟨f1, f2, _, _⟩ := sep_facts (a := a.toNat) (.inr (.inr (.inr (by omega))))
    simp only [if_pos h35] at h ⊢
    injection h with hk h
    injection h with h _
    subst hk
    have := runL_app remI (a :: c) X (by simpa using h)
    refine ⟨⟨fun _ => this.1, (fun e => absurd e (by rw [f1]; decide)), (fun e => absurd e (by rw [f2]; decide))⟩, fun Y hY => ?_⟩
    have h2 := this.2 Y (hY.1 h35)
    rw [List.cons_append, List.length_cons] at h2
    rw [h2]
  simp only [if_neg h35] at h ⊢
  by_cases h10 : a.toNat = 10
  · obtain ⟨f1, f2, _, _⟩ := sep_facts (a := a.toNat) (.inr (.inl (by omega)))
    simp only [if_pos h10] at h ⊢
    exact ⟨⟨fun e => by omega, (fun e => absurd e (by rw [f1]; decide)), (fun e => absurd e (by rw [f2]; decide))⟩, fun _ _ => h⟩
  simp only [if_neg h10] at h ⊢
  by_cases h61 : a.toNat = 61
  · obtain ⟨f1, f2, _, _⟩ := sep_facts (a := a.toNat) (.inr (.inr (.inl (by omega))))
    simp only [if_pos h61] at h ⊢
    exact ⟨⟨fun e => by omega, (fun e => absurd e (by rw [f1]; decide)), (fun e => absurd e (by rw [f2]; decide))⟩, fun _ _ => h⟩
  simp only [if_neg h61] at h ⊢
  by_cases hl : ltrI a.toNat = true
  · simp only [if_pos hl] at h ⊢
    injection h with hk h
    injection h with h hb
    subst hk
    have := runL_app namI (a :: c) X (by simpa using h)
    have hn : numS a.toNat = false := by
      simp only [ltrI, Bool.or_eq_true, Bool.and_eq_true, decide_eq_true_eq, beq_iff_eq] at hl
      simp only [numS, digI, Bool.or_eq_false_iff, Bool.and_eq_false_iff, decide_eq_false_iff_not, beq_eq_false_iff_ne]
      omega
    refine ⟨⟨fun e => by omega, fun _ => this.1, (fun e => absurd e (by rw [hn]; decide))⟩, fun Y hY => ?_⟩
    have h2 := this.2 Y (hY.2.1 hl)
    rw [List.cons_append, List.length_cons] at h2
    rw [h] at hb
    rw [h2, hb]
  simp only [if_neg hl] at h ⊢
  by_cases hd : (digI a.toNat || (a.toNat : Int) == 45 || (a.toNat : Int) == 46) = true
  · simp only [if_pos hd] at h ⊢
    injection h with hk h
    injection h with h hb
    subst hk
    have := runL_app numI (a :: c) X (by simpa using h)
    refine ⟨⟨fun e => by omega, fun e => absurd e hl, fun _ => this.1⟩, fun Y hY => ?_⟩
    have h2 := this.2 Y (hY.2.2 hd)
    rw [List.cons_append, List.length_cons] at h2
    rw [h] at hb
    rw [h2, hb]
  · rw [if_neg hd] at h
    simp at h


theorem stops_head {a b : UInt8} {X : List UInt8} (Y : List UInt8) (h : Stops a (b :: X)) : Stops a (b :: Y) := by
  have hh : ∀ p : Int → Bool, runL p (b :: X) = 0 → runL p (b :: Y) = 0 := by
    intro p hp
    cases hb : p b.toNat with
    | true => rw [runL_pos hb] at hp; omega
    | false => exact runL_neg hb
  exact ⟨fun e => hh _ (h.1 e), fun e => hh _ (h.2.1 e), fun e => hh _ (h.2.2 e)⟩

theorem OkC_ctx {R R' : List UInt8} (hh : ∀ a, Stops a R → Stops a R') (cs : List (Nat × List UInt8)) (h : OkC cs R) : OkC cs R' := by
  induction cs with
  | nil => trivial
  | cons x cs ih =>
    obtain ⟨k, c⟩ := x
    obtain ⟨h1, h2, h3⟩ := h
    refine ⟨h1, ?_, ih h3⟩
    cases c with
    | nil => exact absurd rfl h1
    | cons a c =>
      obtain ⟨hs, hY⟩ := first_ctx (X := flat cs ++ R) h2
      refine hY _ ?_
      cases cs with
      | nil => exact hh a hs
      | cons y cs =>
        obtain ⟨k2, c2⟩ := y
        cases c2 with
        | nil => exact absurd rfl h3.1
        | cons b c2 =>
          show Stops a (b :: (c2 ++ flat cs ++ R'))
          exact stops_head (X := c2 ++ flat cs ++ R) _ hs

theorem flat_app (cs ds : List (Nat × List UInt8)) : flat (cs ++ ds) = flat cs ++ flat ds := by
  induction cs with
  | nil => rfl
  | cons x cs ih => simp [flat, ih]
theorem toksC_app (cs ds : List (Nat × List UInt8)) (i : Nat) : toksC (cs ++ ds) i = toksC cs i ++ toksC ds (i + (flat cs).length) := by
  induction cs generalizing i with
  | nil => simp [toksC, flat]
  | cons x cs ih =>
    simp only [List.cons_append, toksC, flat, List.length_append]
    rw [ih, Nat.add_assoc]
    split <;> rfl
theorem lastC_app (cs ds : List (Nat × List UInt8)) (kl : Nat) : lastC (cs ++ ds) kl = lastC ds (lastC cs kl) := by
  induction cs generalizing kl with
  | nil => rfl
  | cons x cs ih => simp only [List.cons_append, lastC]; exact ih _
theorem OkC_app (cs ds : List (Nat × List UInt8)) (R : List UInt8) : OkC (cs ++ ds) R ↔ OkC cs (flat ds ++ R) ∧ OkC ds R := by
  induction cs with
  | nil => simp [OkC]
  | cons x cs ih =>
    simp only [List.cons_append, OkC, flat_app, List.append_assoc]
    rw [ih, and_assoc, and_assoc]

/-- what stays of a token when blanks and remarks come and go -/
def key (t : Tok) : Nat × List UInt8 := (t.kind, if t.kind = 4 then [] else t.text)
theorem key_places (cs : List (Nat × List UInt8)) (i j : Nat) : (toksC cs i).map key = (toksC cs j).map key := by
  induction cs generalizing i j with
  | nil => rfl
  | cons x cs ih =>
    simp only [toksC]
    split
    · exact ih _ _
    · simp only [List.map_cons, key]
      rw [ih (i + x.2.length) (j + x.2.length)]

theorem runL_all (p : Int → Bool) (c X : List UInt8) (h : ∀ x, x ∈ c → p x.toNat = true) (hX : runL p X = 0) : runL p (c ++ X) = c.length := by
  induction c with
  | nil => simpa using hX
  | cons a c ih =>
    rw [List.cons_append, runL_pos (h a (by simp)), ih (fun x hx => h x (by simp [hx])), List.length_cons]

theorem ne10 {x : UInt8} (h : x ≠ 10) : remI x.toNat = true := by
  simp only [remI, Bool.not_eq_true', beq_eq_false_iff_ne]
  intro e
  exact h (UInt8.toNat_inj.1 (by rw [show (10 : UInt8).toNat = 10 from rfl]; omega))
theorem lineEnd {R : List UInt8} (hR : R = [] ∨ ∃ Y, R = 10 :: Y) : runL remI R = 0 := by
  rcases hR with rfl | ⟨Y, rfl⟩
  · rfl
  · exact runL_neg (by decide)

theorem three_ok (rem R : List UInt8) (hrem : ∀ x, x ∈ rem → x ≠ 10) (hR : R = [] ∨ ∃ Y, R = 10 :: Y) : OkC [(0, [32]), (0, [32]), (0, 35 :: rem)] R := by
  have hr : firstL (35 :: rem ++ R) = (0, rem.length + 1, true) := by
    have : runL remI (35 :: rem ++ R) = rem.length + 1 := by
      rw [runL_all remI (35 :: rem) R _ (lineEnd hR), List.length_cons]
      intro x hx
      rcases List.mem_cons.1 hx with rfl | hx
      · decide
      · exact ne10 (hrem x hx)
    rw [List.cons_append] at this ⊢
    simp only [firstL]
    rw [if_neg (by decide), if_pos (by decide), this]
  exact ⟨by simp, rfl, by simp, rfl, by simp, hr, trivial⟩

theorem ins_rem (rem R : List UInt8) (hrem : ∀ x, x ∈ rem → x ≠ 10) (hR : R = [] ∨ ∃ Y, R = 10 :: Y) : ∀ cs, OkC cs R →
    ∃ cs', flat cs' = flat cs ++ (32 :: 32 :: 35 :: rem) ∧ OkC cs' R ∧ (∀ i j, (toksC cs' i).map key = (toksC cs j).map key) ∧ ∀ kl, lastC cs' kl = lastC cs kl := by
  intro cs
  induction cs with
  | nil => exact fun _ => ⟨[(0, [32]), (0, [32]), (0, 35 :: rem)], by simp [flat], three_ok rem R hrem hR, fun _ _ => by simp [toksC], fun _ => by simp [lastC]⟩
  | cons x cs ih =>
    obtain ⟨k, c⟩ := x
    rintro ⟨h1, h2, h3⟩
    cases c with
    | nil => exact absurd rfl h1
    | cons a c =>
      obtain ⟨hs, hY⟩ := first_ctx (X := flat cs ++ R) h2
      cases cs with
      | nil =>
        by_cases ha : a.toNat = 35
        · have hk : k = 0 := by
            have := h2
            simp only [List.cons_append, firstL] at this
            rw [if_neg (by omega), if_pos ha] at this
            injection this with this
            exact this.symm
          subst hk
          have hall := h2
          simp only [List.cons_append, firstL] at hall
          rw [if_neg (by omega), if_pos ha] at hall
          injection hall with _ hall
          injection hall with hall
          refine ⟨[(0, a :: (c ++ 32 :: 32 :: 35 :: rem))], by simp [flat], ⟨by simp, ?_, trivial⟩, fun _ _ => by simp [toksC], fun _ => by simp [lastC]⟩
          have h4 := runL_app remI (a :: c) (flat [] ++ R) (by simpa using hall)
          have h5 : runL remI ((32 :: 32 :: 35 :: rem) ++ R) = (32 :: 32 :: 35 :: rem).length := by
            refine runL_all _ _ _ ?_ (lineEnd hR)
            intro x hx
            simp only [List.mem_cons] at hx
            rcases hx with rfl | rfl | rfl | hx
            · decide
            · decide
            · decide
            · exact ne10 (hrem x hx)
          have h6 : ∀ (d X : List UInt8), runL remI (d ++ X) = d.length + runL remI X ∨ runL remI (d ++ X) < d.length := by
            intro d X
            induction d with
            | nil => left; simp
            | cons b d ihd =>
              rw [List.cons_append]
              cases hb : remI b.toNat with
              | true => rw [runL_pos hb]; simp only [List.length_cons]; omega
              | false => rw [runL_neg hb]; right; simp
          show firstL (a :: (c ++ 32 :: 32 :: 35 :: rem) ++ (flat [] ++ R)) = _
          simp only [List.cons_append, firstL]
          rw [if_neg (by omega), if_pos ha]
          have h7 : runL remI (a :: c ++ ((32 :: 32 :: 35 :: rem) ++ R)) = (a :: c).length + (32 :: 32 :: 35 :: rem).length := by
            rcases h6 (a :: c) ((32 :: 32 :: 35 :: rem) ++ R) with h | h
            · rw [h, h5]
            · exfalso
              rcases h6 (a :: c) [] with h' | h'
              · have hpre : ∀ (d X Y : List UInt8), runL remI (d ++ X) < d.length → runL remI (d ++ Y) < d.length := by
                  intro d X Y
                  induction d with
                  | nil => simp
                  | cons b d ihd =>
                    rw [List.cons_append, List.cons_append]
                    cases hb : remI b.toNat with
                    | true => rw [runL_pos hb, runL_pos hb]; simp only [List.length_cons]; intro hh; have := ihd (by omega); omega
                    | false => intro _; rw [runL_neg hb]; simp
                have := hpre (a :: c) _ (flat [] ++ R) h
                rw [show a :: c ++ (flat [] ++ R) = a :: (c ++ (flat [] ++ R)) from rfl, hall] at this
                simp at this
              · have hpre : ∀ (d X Y : List UInt8), runL remI (d ++ X) < d.length → runL remI (d ++ Y) < d.length := by
                  intro d X Y
                  induction d with
                  | nil => simp
                  | cons b d ihd =>
                    rw [List.cons_append, List.cons_append]
                    cases hb : remI b.toNat with
                    | true => rw [runL_pos hb, runL_pos hb]; simp only [List.length_cons]; intro hh; have := ihd (by omega); omega
                    | false => intro _; rw [runL_neg hb]; simp
                have := hpre (a :: c) _ (flat [] ++ R) h'
                rw [show a :: c ++ (flat [] ++ R) = a :: (c ++ (flat [] ++ R)) from rfl, hall] at this
                simp at this
          have h8 : a :: (c ++ 32 :: 32 :: 35 :: rem ++ (flat [] ++ R)) = a :: c ++ ((32 :: 32 :: 35 :: rem) ++ R) := by simp [flat]
          rw [h8, h7]
          simp
          omega
        · refine ⟨(k, a :: c) :: [(0, [32]), (0, [32]), (0, 35 :: rem)], by simp [flat], ⟨h1, hY _ ?_, three_ok rem R hrem hR⟩, fun i j => ?_, fun kl => by simp [lastC]⟩
          · obtain ⟨_, _, f3, f4⟩ := sep_facts (a := 32) (.inl rfl)
            exact ⟨fun e => absurd e ha, fun _ => runL_neg f3, fun _ => runL_neg f4⟩
          · simp only [toksC, if_pos]
            split <;> simp [key]
      | cons y cs =>
        obtain ⟨cs', g1, g2, g3, g4⟩ := ih h3
        refine ⟨(k, a :: c) :: cs', by simp [flat, g1], ⟨h1, hY _ ?_, g2⟩, fun i j => ?_, fun kl => ?_⟩
        · rw [g1]
          obtain ⟨k2, c2⟩ := y
          cases c2 with
          | nil => exact absurd rfl h3.1
          | cons b c2 =>
            simp only [flat, List.cons_append] at hs ⊢
            exact stops_head _ hs
        · simp only [toksC]
          split
          · exact g3 _ _
          · simp only [List.map_cons, key]
            rw [g3 (i + (a :: c).length) (j + (a :: c).length)]
            simp only [toksC]
        · simp only [lastC] at g4 ⊢
          exact g4 _

theorem ins_blank {b : UInt8} {Y : List UInt8} (hb : b ≠ 10) (cs : List (Nat × List UInt8)) (h : OkC cs (b :: Y)) : OkC cs (32 :: 32 :: 32 :: b :: Y) := by
  refine OkC_ctx (fun a ha => ?_) cs h
  obtain ⟨_, _, f3, f4⟩ := sep_facts (a := 32) (.inl rfl)
  refine ⟨fun e => ?_, fun _ => runL_neg f3, fun _ => runL_neg f4⟩
  have := ha.1 e
  rw [runL_pos (ne10 hb)] at this
  omega

theorem ctx_line (cs : List (Nat × List UInt8)) (Y : List UInt8) (h : OkC cs []) : OkC cs (10 :: Y) := by
  refine OkC_ctx (fun a _ => ?_) cs h
  obtain ⟨_, _, f3, f4⟩ := sep_facts (a := 10) (.inr (.inl rfl))
  exact ⟨fun _ => runL_neg (by decide), fun _ => runL_neg f3, fun _ => runL_neg f4⟩

theorem tok_at {cs : List (Nat × List UInt8)} {i : Nat} {t : Tok} (h : t ∈ toksC cs i) :
    ∃ cs₁ k c cs₂, cs = cs₁ ++ (k, c) :: cs₂ ∧ k ≠ 0 ∧ t = ⟨k, i + (flat cs₁).length, c⟩ := by
  induction cs generalizing i with
  | nil => simp [toksC] at h
  | cons x cs ih =>
    obtain ⟨k, c⟩ := x
    simp only [toksC] at h
    by_cases hk : k = 0
    · rw [if_pos hk] at h
      obtain ⟨cs₁, k', c', cs₂, e1, e2, e3⟩ := ih h
      exact ⟨(k, c) :: cs₁, k', c', cs₂, by rw [e1]; rfl, e2, by rw [e3]; simp [flat, Nat.add_assoc]⟩
    · rw [if_neg hk] at h
      rcases List.mem_cons.1 h with h | h
      · exact ⟨[], k, c, cs, rfl, hk, by rw [h]; simp [flat]⟩
      · obtain ⟨cs₁, k', c', cs₂, e1, e2, e3⟩ := ih h
        exact ⟨(k, c) :: cs₁, k', c', cs₂, by rw [e1]; rfl, e2, by rw [e3]; simp [flat, Nat.add_assoc]⟩

theorem chunks_res {l : List UInt8} {ts : List Tok} (h : lexRes l = (ts, 0, 0)) :
    l.length ≤ 1048576 ∧ ∃ cs, flat cs = l ∧ OkC cs [] ∧ ts = toksC cs 0 ++ (if lastC cs 4 = 4 then [] else [⟨4, l.length, []⟩]) := by
  unfold lexRes at h
  by_cases hl : 1048576 < l.length
  · rw [if_pos hl] at h; simp at h
  · rw [if_neg hl] at h
    cases he : errOf (lexT l 0 4) with
    | some i => rw [he] at h; simp at h
    | none =>
      rw [he] at h
      obtain ⟨cs, hf, hok⟩ := chunks_of l.length l 0 4 (Nat.le_refl _) he
      have hx := lexRes_chunks cs hok (by rw [hf]; omega)
      unfold lexRes at hx
      rw [hf, if_neg hl, he] at hx
      refine ⟨by omega, cs, hf, hok, ?_⟩
      simp only [Prod.mk.injEq] at h hx
      rw [← h.1, hx.1]

/-- what is put ahead of a token -/
def putOf (t : Tok) (rem : List UInt8) : List UInt8 := if t.kind = 4 then 32 :: 32 :: 35 :: rem else [32, 32, 32]

/-- blanks ahead of a token, or a remark ahead of an end, change nothing but places -/
theorem law_put (l rem : List UInt8) (ts : List Tok) (h : lexRes l = (ts, 0, 0)) (hl : l.length ≤ 600) (hr : rem.length ≤ 60) (hrem : ∀ x, x ∈ rem → x ≠ 10) (t : Tok) (ht : t ∈ ts) :
    t.pos ≤ l.length ∧ ∃ us, lexRes (l.take t.pos ++ putOf t rem ++ l.drop t.pos) = (us, 0, 0) ∧ us.map key = ts.map key := by
  obtain ⟨_, cs, rfl, hok, rfl⟩ := chunks_res h
  rcases List.mem_append.1 ht with ht | ht
  · obtain ⟨cs₁, k, c, cs₂, rfl, hk, rfl⟩ := tok_at ht
    obtain ⟨ok1, ok2⟩ := (OkC_app _ _ _).1 hok
    obtain ⟨q1, q2, q3⟩ := ok2
    simp only [Nat.zero_add]
    rw [flat_app] at hl ⊢
    simp only [flat, List.length_append] at hl
    have htk : (flat cs₁ ++ flat ((k, c) :: cs₂)).take (flat cs₁).length = flat cs₁ := List.take_left
    have hdr : (flat cs₁ ++ flat ((k, c) :: cs₂)).drop (flat cs₁).length = flat ((k, c) :: cs₂) := List.drop_left
    rw [htk, hdr]
    refine ⟨by rw [List.length_append]; omega, ?_⟩
    cases c with
    | nil => exact absurd rfl q1
    | cons a c =>
      by_cases h4 : k = 4
      · subst h4
        have ha : a = 10 := by
          have h2 := q2
          simp only [List.cons_append, firstL] at h2
          by_cases e1 : a.toNat = 32
          · rw [if_pos e1] at h2; simp at h2
          rw [if_neg e1] at h2
          by_cases e2 : a.toNat = 35
          · rw [if_pos e2] at h2; simp at h2
          rw [if_neg e2] at h2
          by_cases e3 : a.toNat = 10
          · exact UInt8.toNat_inj.1 e3
          rw [if_neg e3] at h2
          by_cases e4 : a.toNat = 61
          · rw [if_pos e4] at h2; simp at h2
          rw [if_neg e4] at h2
          by_cases e5 : ltrI a.toNat = true
          · rw [if_pos e5] at h2; simp at h2
          rw [if_neg e5] at h2
          split at h2 <;> simp at h2
        subst ha
        obtain ⟨cs', g1, g2, g3, g4⟩ := ins_rem rem (flat ((4, 10 :: c) :: cs₂) ++ []) hrem (.inr ⟨c ++ flat cs₂, by simp [flat]⟩) cs₁ ok1
        have hx := lexRes_chunks (cs' ++ (4, 10 :: c) :: cs₂) ((OkC_app _ _ _).2 ⟨g2, q1, q2, q3⟩) (by rw [flat_app, g1]; simp [flat] at hl ⊢; omega)
        rw [flat_app, g1] at hx
        refine ⟨_, by simpa [putOf] using hx, ?_⟩
        simp only [toksC_app, lastC_app, g4, List.map_append]
        rw [g3 0 0, key_places ((4, 10 :: c) :: cs₂) _ (0 + (flat cs₁).length)]
        split <;> simp [key]
      · have ha : a ≠ 10 := by
          rintro rfl
          have h2 := q2
          simp only [List.cons_append, firstL] at h2
          rw [if_neg (by decide), if_neg (by decide), if_pos (by decide)] at h2
          simp at h2
          omega
        have hb := ins_blank (b := a) (Y := c ++ flat cs₂ ++ []) ha cs₁ (by simpa [flat] using ok1)
        have hx := lexRes_chunks (cs₁ ++ ((0, [32]) :: (0, [32]) :: (0, [32]) :: (k, a :: c) :: cs₂)) ((OkC_app _ _ _).2 ⟨by simpa [flat] using hb, by simp, rfl, by simp, rfl, by simp, rfl, q1, q2, q3⟩) (by rw [flat_app]; simp [flat] at hl ⊢; omega)
        rw [flat_app] at hx
        refine ⟨_, by simpa [putOf, h4, flat] using hx, ?_⟩
        simp only [toksC_app, lastC_app, List.map_append]
        simp only [toksC, if_true, if_neg hk, List.map_cons, lastC]
        rw [key_places cs₂ _ (0 + (flat cs₁).length + (a :: c).length)]
        split <;> simp [key]
  · by_cases h4 : lastC cs 4 = 4
    · rw [if_pos h4] at ht; simp at ht
    · rw [if_neg h4] at ht
      rw [List.mem_singleton] at ht
      subst ht
      simp only
      refine ⟨Nat.le_refl _, ?_⟩
      rw [List.take_length, List.drop_length, List.append_nil]
      obtain ⟨cs', g1, g2, g3, g4⟩ := ins_rem rem [] hrem (.inl rfl) cs hok
      have hx := lexRes_chunks cs' g2 (by rw [g1]; simp; omega)
      rw [g1] at hx
      refine ⟨_, by simpa [putOf] using hx, ?_⟩
      rw [g4, if_neg h4, if_neg h4]
      simp only [List.map_append]
      rw [g3 0 0]
      simp [key]

/-- a text, a line's end, and another text -/
theorem law_cat (l o : List UInt8) (ts us : List Tok) (h : lexRes l = (ts, 0, 0)) (h' : lexRes o = (us, 0, 0)) (hl : l.length ≤ 600) (ho : o.length ≤ 600) :
    ∃ bs, lexRes (l ++ 10 :: o) = (bs, 0, 0) ∧ bs.map key = (ts ++ (if ts.getLast?.map Tok.text = some [] then [] else [(⟨4, 0, [10]⟩ : Tok)]) ++ us).map key := by
  obtain ⟨_, cs, rfl, hok, rfl⟩ := chunks_res h
  obtain ⟨_, ds, rfl, hod, rfl⟩ := chunks_res h'
  have h10 : firstL (10 :: (flat ds ++ [])) = (4, 1, true) := by simp [firstL]
  have hx := lexRes_chunks (cs ++ (4, [10]) :: ds) ((OkC_app _ _ _).2 ⟨by simpa [flat] using ctx_line cs (flat ds) hok, by simp, h10, hod⟩) (by rw [flat_app]; simp [flat]; omega)
  rw [flat_app] at hx
  refine ⟨_, by simpa [flat] using hx, ?_⟩
  have hne : ∀ (cs : List (Nat × List UInt8)) (R : List UInt8), OkC cs R → ∀ i t, t ∈ toksC cs i → t.text ≠ [] := by
    intro cs R hok i t ht
    obtain ⟨cs₁, k, c, cs₂, rfl, hk, rfl⟩ := tok_at ht
    exact ((OkC_app _ _ _).1 hok).2.1
  simp only [toksC_app, lastC_app, List.map_append]
  simp only [toksC, lastC, List.map_cons, if_neg (show ¬ (4 : Nat) = 0 by decide)]
  rw [key_places ds (0 + (flat cs).length + [(10 : UInt8)].length) 0]
  by_cases h4 : lastC cs 4 = 4
  · have hlast : ¬ ((toksC cs 0 ++ []).getLast?.map Tok.text = some []) := by
      rw [List.append_nil]
      intro e
      rcases hg : (toksC cs 0).getLast? with _ | t
      · rw [hg] at e; simp at e
      · rw [hg] at e
        exact hne cs [] hok 0 t (List.mem_of_getLast? hg) (by simpa using e)
    simp only [if_pos h4, if_neg hlast]
    by_cases h5 : lastC ds 4 = 4
    · simp [h5, key]
    · simp [h5, key]
  · have hlast : (toksC cs 0 ++ [(⟨4, (flat cs).length, []⟩ : Tok)]).getLast?.map Tok.text = some [] := by simp
    simp only [if_neg h4, if_pos hlast]
    by_cases h5 : lastC ds 4 = 4
    · simp [h5, key]
    · simp [h5, key]

end Go.Proofs.YtekhdocejahboaaDoor.lexm
