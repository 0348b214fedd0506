/- Lines one behind the other, in plain words: the first error is the first line's that has one. Plain; no conditions but those stated. -/
import Derived.Test.YtdmhebibnnemnaaDoorParE
namespace Go.Proofs.YtdmhebibnnemnaaDoor.pfm
open Go Go.RowKit
open Go.Proofs.YtdmhebibnnemnaaDoor.parw

/-- a row of tokens that ends with an end -/
def Ends (ts : List PTok) : Prop := ∃ u e, ts = u ++ [e] ∧ e.kind = 4
theorem ends_tail {t : PTok} {r : List PTok} (h : Ends (t :: r)) (hk : t.kind ≠ 4) : Ends r := by
  obtain ⟨u, e, hu, he⟩ := h
  cases u with
  | nil =>
    injection hu with h1 h2
    exact absurd (h1 ▸ he) hk
  | cons a u =>
    injection hu with h1 h2
    exact ⟨u, e, h2, he⟩
theorem ends_rest {t : PTok} {r : List PTok} (h : Ends (t :: r)) : r = [] ∨ Ends r := by
  obtain ⟨u, e, hu, he⟩ := h
  cases u with
  | nil =>
    injection hu with h1 h2
    exact .inl h2
  | cons a u =>
    injection hu with h1 h2
    exact .inr ⟨u, e, h2, he⟩
section
variable {dec : ByteArray → Nat × Nat} {en en' : Int} {b : List PTok}
/-- t is where s is, with b behind what is left -/
structure Rel (b : List PTok) (s t : RSt) : Prop where
  ts : t.ts = s.ts ++ b
  er : t.er = s.er
  pl : s.er ≠ 0 → t.pl = s.pl
/-- what is left has an end (or nothing stands behind) -/
def NE (en en' : Int) (b : List PTok) (s : RSt) : Prop := s.er = 0 → (b = [] ∧ en = en') ∨ Ends s.ts
def EO (en en' : Int) (b : List PTok) (s : RSt) : Prop := s.er = 0 → (b = [] ∧ en = en') ∨ s.ts = [] ∨ Ends s.ts
theorem Rel.fail {s t : RSt} (h : Rel b s t) (a : Int) (e : Nat) : Rel b (s.fail a e) (t.fail a e) := by
  unfold RSt.fail
  rw [h.er]
  by_cases h0 : s.er = 0
  · rw [if_pos h0, if_pos h0]
    exact ⟨h.ts, rfl, fun _ => rfl⟩
  · rw [if_neg h0, if_neg h0]
    exact h
theorem NE.fail {s : RSt} (h : NE en en' b s) (a : Int) (e : Nat) : NE en en' b (s.fail a e) := by
  unfold RSt.fail
  by_cases h0 : s.er = 0
  · rw [if_pos h0]
    exact fun _ => h h0
  · rw [if_neg h0]
    exact h
theorem next_rel {s t : RSt} (h : Rel b s t) (hn : NE en en' b s) (k : Nat) : (nextS en s k).1 = (nextS en' t k).1 ∧ Rel b (nextS en s k).2 (nextS en' t k).2 ∧ EO en en' b (nextS en s k).2 ∧ (k ≠ 4 → NE en en' b (nextS en s k).2) := by
  by_cases h0 : s.er = 0
  · have h0' : t.er = 0 := h.er.trans h0
    cases hs : s.ts with
    | nil =>
      rcases hn h0 with ⟨hb, he⟩ | ⟨u, e, hu, _⟩
      · have ht : t.ts = [] := by rw [h.ts, hs, hb]; rfl
        rw [nextS_nil h0 hs, nextS_nil h0' ht, he]
        exact ⟨rfl, ⟨by show t.ts = s.ts ++ b; exact h.ts, rfl, fun _ => rfl⟩, fun h9 => absurd h9 (by simp), fun _ h9 => absurd h9 (by simp)⟩
      · rw [hs] at hu
        simp at hu
    | cons c r =>
      have ht : t.ts = c :: (r ++ b) := by rw [h.ts, hs]; rfl
      by_cases hk : c.kind = k
      · rw [nextS_yes h0 hs hk, nextS_yes h0' ht hk]
        refine ⟨rfl, ⟨rfl, h.er, h.pl⟩, fun _ => ?_, fun hk4 _ => ?_⟩
        · rcases hn h0 with h1 | h1
          · exact .inl h1
          · rw [hs] at h1
            exact .inr (ends_rest h1)
        · rcases hn h0 with h1 | h1
          · exact .inl h1
          · rw [hs] at h1
            exact .inr (ends_tail h1 (by rw [hk]; exact hk4))
      · rw [nextS_no h0 hs hk, nextS_no h0' ht hk]
        exact ⟨rfl, ⟨by show t.ts = s.ts ++ b; exact h.ts, rfl, fun _ => rfl⟩, fun h9 => absurd h9 (by simp), fun _ h9 => absurd h9 (by simp)⟩
  · have h0' : ¬ t.er = 0 := by rw [h.er]; exact h0
    rw [nextS_er h0, nextS_er h0']
    exact ⟨rfl, h, fun h9 => absurd h9 h0, fun _ h9 => absurd h9 h0⟩
theorem arg_rel {s t : RSt} (h : Rel b s t) (hn : NE en en' b s) (c : Bool) : (argS dec en c s).1 = (argS dec en' c t).1 ∧ Rel b (argS dec en c s).2 (argS dec en' c t).2 ∧ NE en en' b (argS dec en c s).2 := by
  cases c with
  | false =>
    obtain ⟨a1, a2, _, a4⟩ := next_rel (en := en) (en' := en') h hn 1
    refine ⟨?_, a2, a4 (by decide)⟩
    show (⟨(nextS en s 1).1.pos, 0, (nextS en s 1).1.text⟩ : PArg) = ⟨(nextS en' t 1).1.pos, 0, (nextS en' t 1).1.text⟩
    rw [a1]
  | true =>
    obtain ⟨a1, a2, _, a4⟩ := next_rel (en := en) (en' := en') h hn 2
    show (numS dec en s).1 = (numS dec en' t).1 ∧ Rel b (numS dec en s).2 (numS dec en' t).2 ∧ NE en en' b (numS dec en s).2
    unfold numS
    rw [← a1, a2.er]
    by_cases he : (nextS en s 2).2.er = 0
    · rw [if_pos he, if_pos he]
      refine ⟨rfl, ?_, ?_⟩
      · show Rel b (if _ then _ else _) (if _ then _ else _)
        split
        · exact a2
        · exact a2.fail _ _
      · show NE en en' b (if _ then _ else _)
        split
        · exact a4 (by decide)
        · exact (a4 (by decide)).fail _ _
    · rw [if_neg he, if_neg he]
      exact ⟨rfl, a2, a4 (by decide)⟩
theorem args_rel : ∀ (l : List Bool) {s t : RSt}, Rel b s t → NE en en' b s → (argsS dec en l s).1 = (argsS dec en' l t).1 ∧ Rel b (argsS dec en l s).2 (argsS dec en' l t).2 ∧ NE en en' b (argsS dec en l s).2
  | [], s, t, h, hn => ⟨rfl, h, hn⟩
  | c :: l, s, t, h, hn => by
    obtain ⟨a1, a2, a3⟩ := arg_rel (dec := dec) h hn c
    obtain ⟨b1, b2, b3⟩ := args_rel l a2 a3
    refine ⟨?_, b2, b3⟩
    show (argS dec en c s).1 :: _ = (argS dec en' c t).1 :: _
    rw [a1, b1]
theorem stmt_rel {s t : RSt} (h : Rel b s t) (hn : NE en en' b s) : (stmtS dec en s).1 = (stmtS dec en' t).1 ∧ Rel b (stmtS dec en s).2 (stmtS dec en' t).2 ∧ EO en en' b (stmtS dec en s).2 := by
  obtain ⟨a1, a2, _, a4⟩ := next_rel (en := en) (en' := en') h hn 1
  obtain ⟨b1, b2, _, b4⟩ := next_rel (en := en) (en' := en') a2 (a4 (by decide)) 3
  obtain ⟨c1, c2, _, c4⟩ := next_rel (en := en) (en' := en') b2 (b4 (by decide)) 1
  unfold stmtS
  simp only
  rw [← a1, ← c1]
  generalize hk : kindF (nextS en (nextS en (nextS en s 1).2 3).2 1).1.text = k
  have hs : Rel b (if k = 0 then (nextS en (nextS en (nextS en s 1).2 3).2 1).2.fail (nextS en (nextS en (nextS en s 1).2 3).2 1).1.pos 171 else (nextS en (nextS en (nextS en s 1).2 3).2 1).2)
      (if k = 0 then (nextS en' (nextS en' (nextS en' t 1).2 3).2 1).2.fail (nextS en (nextS en (nextS en s 1).2 3).2 1).1.pos 171 else (nextS en' (nextS en' (nextS en' t 1).2 3).2 1).2) ∧
      NE en en' b (if k = 0 then (nextS en (nextS en (nextS en s 1).2 3).2 1).2.fail (nextS en (nextS en (nextS en s 1).2 3).2 1).1.pos 171 else (nextS en (nextS en (nextS en s 1).2 3).2 1).2) := by
    by_cases h0 : k = 0
    · rw [if_pos h0, if_pos h0]
      exact ⟨c2.fail _ _, (c4 (by decide)).fail _ _⟩
    · rw [if_neg h0, if_neg h0]
      exact ⟨c2, c4 (by decide)⟩
  obtain ⟨d1, d2, d3⟩ := args_rel (dec := dec) (formL k) hs.1 hs.2
  obtain ⟨_, e2, e3, _⟩ := next_rel (en := en) (en' := en') d2 d3 4
  exact ⟨by rw [d1], e2, e3⟩
/-- a row of statements ahead stays -/
theorem parseL_out (dec : ByteArray → Nat × Nat) (en : Int) : ∀ (f : Nat) (s : RSt) (o out : List PStmt), parseL dec en f s (o ++ out) = (o ++ (parseL dec en f s out).1, (parseL dec en f s out).2)
  | 0, s, o, out => rfl
  | f + 1, s, o, out => by
    unfold parseL
    by_cases h0 : s.er = 0
    · rw [if_pos h0, if_pos h0]
      cases s.ts with
      | nil => rfl
      | cons t r =>
        simp only
        by_cases hk : t.kind = 4
        · rw [if_pos hk, if_pos hk]
          exact parseL_out dec en f _ o out
        · rw [if_neg hk, if_neg hk, List.append_assoc]
          exact parseL_out dec en f _ o _
    · rw [if_neg h0, if_neg h0]
/-- what the reading of b comes to behind that of the first row -/
theorem parse_rel : ∀ (f : Nat) (f' : Nat) (s t : RSt) (out : List PStmt), Rel b s t → EO en en' b s → left s ≤ f → left t ≤ f' →
    ((parseL dec en f s out).2.er ≠ 0 → (parseL dec en' f' t out).2.er = (parseL dec en f s out).2.er ∧ (parseL dec en' f' t out).2.pl = (parseL dec en f s out).2.pl) ∧
    ((parseL dec en f s out).2.er = 0 → ∃ (f'' : Nat) (q : RSt), q.ts = b ∧ q.er = 0 ∧ left q ≤ f'' ∧ parseL dec en' f' t out = parseL dec en' f'' q (parseL dec en f s out).1)
  | 0, f', s, t, out, h, ho, hl, hl' => by
    have h0 : s.er ≠ 0 := fun h0 => by
      unfold left at hl
      rw [if_pos h0] at hl
      omega
    have h0' : t.er ≠ 0 := by rw [h.er]; exact h0
    have e : parseL dec en 0 s out = (out, s) := parseL_end (.inl h0)
    have e2 : parseL dec en' f' t out = (out, t) := parseL_end (.inl h0')
    rw [e, e2]
    exact ⟨fun _ => ⟨h.er, h.pl h0⟩, fun h9 => absurd h9 h0⟩
  | f + 1, f', s, t, out, h, ho, hl, hl' => by
    by_cases h0 : s.er = 0
    · have h0' : t.er = 0 := h.er.trans h0
      obtain ⟨f', rfl⟩ : ∃ g, f' = g + 1 := ⟨f' - 1, by unfold left at hl'; rw [if_pos h0'] at hl'; omega⟩
      cases hs : s.ts with
      | nil =>
        have e : parseL dec en (f + 1) s out = (out, s) := parseL_end (.inr hs)
        rw [e]
        refine ⟨fun h9 => absurd h0 h9, fun _ => ⟨f' + 1, t, by rw [h.ts, hs]; rfl, h0', hl', rfl⟩⟩
      | cons c r =>
        have ht : t.ts = c :: (r ++ b) := by rw [h.ts, hs]; rfl
        have e1 : parseL dec en (f + 1) s out = if c.kind = 4 then parseL dec en f { s with ts := r } out else parseL dec en f (stmtS dec en s).2 (out ++ [(stmtS dec en s).1]) := by
          conv => lhs; unfold parseL
          rw [if_pos h0, hs]
        have e2 : parseL dec en' (f' + 1) t out = if c.kind = 4 then parseL dec en' f' { t with ts := r ++ b } out else parseL dec en' f' (stmtS dec en' t).2 (out ++ [(stmtS dec en' t).1]) := by
          conv => lhs; unfold parseL
          rw [if_pos h0', ht]
        rw [e1, e2]
        by_cases hk : c.kind = 4
        · rw [if_pos hk, if_pos hk]
          refine parse_rel f f' { s with ts := r } { t with ts := r ++ b } out ⟨rfl, h.er, h.pl⟩ (fun _ => ?_) ?_ ?_
          · rcases ho h0 with h1 | h1 | h1
            · exact .inl h1
            · rw [hs] at h1; cases h1
            · rw [hs] at h1
              exact .inr (ends_rest h1)
          · unfold left at hl ⊢
            rw [hs] at hl
            simp only [List.length_cons] at hl
            show r.length + (if s.er = 0 then 1 else 0) ≤ f
            omega
          · unfold left at hl' ⊢
            rw [ht] at hl'
            simp only [List.length_cons] at hl'
            show (r ++ b).length + (if t.er = 0 then 1 else 0) ≤ f'
            omega
        · rw [if_neg hk, if_neg hk]
          have hn : NE en en' b s := fun _ => by
            rcases ho h0 with h1 | h1 | h1
            · exact .inl h1
            · rw [hs] at h1; cases h1
            · exact .inr h1
          obtain ⟨s1, s2, s3⟩ := stmt_rel (dec := dec) h hn
          rw [← s1]
          have l1 := stmtS_left dec en s h0
          have l2 := stmtS_left dec en' t h0'
          exact parse_rel f f' _ _ _ s2 s3 (by omega) (by omega)
    · have h0' : t.er ≠ 0 := by rw [h.er]; exact h0
      have e : parseL dec en (f + 1) s out = (out, s) := parseL_end (.inl h0)
      have e2 : parseL dec en' f' t out = (out, t) := parseL_end (.inl h0')
      rw [e, e2]
      exact ⟨fun _ => ⟨h.er, h.pl h0⟩, fun h9 => absurd h9 h0⟩
end
theorem end_app (a b : List PTok) (h : b ≠ []) : endOf (a ++ b) = endOf b := by
  unfold endOf
  have : (a ++ b).getLast? = b.getLast? := by
    rw [List.getLast?_append]
    cases hb : b.getLast? with
    | none => rw [List.getLast?_eq_none_iff] at hb; exact absurd hb h
    | some x => rfl
  rw [this]
/-- the law -/
theorem first_law (dec : ByteArray → Nat × Nat) (a b : List PTok) (ha : Ends a) (hb : b ≠ []) :
    ((parseRes dec a).2.2 ≠ 0 → (parseRes dec (a ++ b)) = ([], (parseRes dec a).2.1, (parseRes dec a).2.2) ∧ (parseRes dec a).1 = []) ∧
    ((parseRes dec a).2.2 = 0 → (parseRes dec b).2.2 ≠ 0 → (parseRes dec (a ++ b)) = ([], (parseRes dec b).2.1, (parseRes dec b).2.2)) ∧
    ((parseRes dec a).2.2 = 0 → (parseRes dec b).2.2 = 0 → (parseRes dec (a ++ b)) = ((parseRes dec a).1 ++ (parseRes dec b).1, 0, 0)) := by
  have hen := end_app a b hb
  have hle : ∀ ts : List PTok, left ⟨ts, 0, 0⟩ ≤ ts.length + 1 := fun ts => by
    unfold left
    simp
  obtain ⟨r1, r2⟩ := parse_rel (dec := dec) (en := endOf a) (en' := endOf b) (b := b) (a.length + 1) ((a ++ b).length + 1) ⟨a, 0, 0⟩ ⟨a ++ b, 0, 0⟩ [] ⟨rfl, rfl, fun _ => rfl⟩ (fun _ => .inr (.inr ha)) (hle a) (hle (a ++ b))
  unfold parseRes
  rw [hen]
  simp only
  generalize parseL dec (endOf a) (a.length + 1) ⟨a, 0, 0⟩ [] = qa at *
  generalize parseL dec (endOf b) ((a ++ b).length + 1) ⟨a ++ b, 0, 0⟩ [] = qc at *
  by_cases h0 : qa.2.er = 0
  · rw [if_pos h0]
    refine ⟨fun h => absurd rfl h, ?_⟩
    obtain ⟨f, q, e1, e2, e3, e4⟩ := r2 h0
    obtain ⟨s1, s2⟩ := parse_rel (dec := dec) (en := endOf b) (en' := endOf b) (b := []) (b.length + 1) f ⟨b, 0, 0⟩ q [] ⟨by rw [e1, List.append_nil], e2, fun h => absurd rfl h⟩ (fun _ => .inl ⟨rfl, rfl⟩) (hle b) e3
    have ho := parseL_out dec (endOf b) f q qa.1 []
    rw [List.append_nil] at ho
    rw [ho] at e4
    generalize parseL dec (endOf b) (b.length + 1) ⟨b, 0, 0⟩ [] = qb at *
    generalize parseL dec (endOf b) f q [] = qd at *
    by_cases hb0 : qb.2.er = 0
    · rw [if_pos hb0]
      refine ⟨fun _ h => absurd rfl h, fun _ _ => ?_⟩
      obtain ⟨g, p, p1, p2, p3, p4⟩ := s2 hb0
      have p5 := parseL_end (dec := dec) (en := endOf b) (f := g) (out := qb.1) (.inr p1)
      rw [p5] at p4
      rw [p4] at e4
      rw [e4]
      simp only
      rw [if_pos p2]
    · rw [if_neg hb0]
      obtain ⟨t1, t2⟩ := s1 hb0
      refine ⟨fun _ _ => ?_, fun _ h => absurd h hb0⟩
      have hd : ¬ qd.2.er = 0 := by rw [t1]; exact hb0
      rw [e4]
      simp only
      rw [if_neg hd, t1, t2]
  · rw [if_neg h0]
    obtain ⟨t1, t2⟩ := r1 h0
    have hc : ¬ qc.2.er = 0 := by rw [t1]; exact h0
    rw [if_neg hc, t1, t2]
    exact ⟨fun _ => ⟨rfl, rfl⟩, fun h => absurd h h0, fun h => absurd h h0⟩
end Go.Proofs.YtdmhebibnnemnaaDoor.pfm
