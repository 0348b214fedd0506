/- What decimal.right takes is what strconv's reading takes: plain. -/
import Derived.Test.YtbjengfoaobdbaaGreatDoorRdI
import Derived.Test.YtbjengfoaobdbaaGreatDoorRdH
namespace Go.Proofs.YtbjengfoaobdbaaGreatDoor.rdf
open Go.RowKit
open Go.Proofs.YtbjengfoaobdbaaGreatDoor.dmx
open Go.Proofs.YtbjengfoaobdbaaGreatDoor.fpm

/-- a row of digits, read -/
def foldD (l : List UInt8) (y : MS) : MS := l.foldl (fun y c => dgS c y) y
theorem dgS_keep (c : UInt8) (y : MS) : (dgS c y).dot = y.dot ∧ (dgS c y).sd = true ∧ (dgS c y).nd ≤ y.nd + 1 := by
  unfold dgS
  split
  · exact ⟨rfl, rfl, Nat.le_succ _⟩
  · split <;> exact ⟨rfl, rfl, Nat.le_refl _⟩
theorem fold_keep : ∀ (l : List UInt8) (y : MS), (foldD l y).dot = y.dot ∧ (y.sd = true ∨ 0 < l.length → (foldD l y).sd = true) ∧ (foldD l y).nd ≤ y.nd + l.length
  | [], y => ⟨rfl, fun h => h.elim id (fun h => absurd h (Nat.lt_irrefl _)), Nat.le_refl _⟩
  | c :: l, y => by
    obtain ⟨a1, a2, a3⟩ := dgS_keep c y
    obtain ⟨b1, b2, b3⟩ := fold_keep l (dgS c y)
    refine ⟨b1.trans a1, fun _ => b2 (.inl a2), ?_⟩
    show (foldD l (dgS c y)).nd ≤ _
    rw [List.length_cons]
    omega
theorem isD_46 {c : UInt8} (h : isD c = true) : ¬ c.toNat = 46 := fun e => by
  have := (isD_iff c).1 h
  omega
/-- the digits first -/
theorem ml_dgs : ∀ (l : List UInt8) (y : MS), mL l y = mL (l.drop (dgs l)) (foldD (l.take (dgs l)) y)
  | [], y => rfl
  | c :: l, y => by
    by_cases h : isD c = true
    · have e : dgs (c :: l) = dgs l + 1 := by
        conv => lhs; unfold dgs
        rw [if_pos h]
      rw [e, List.drop_succ_cons, List.take_succ_cons]
      conv => lhs; unfold mL
      rw [if_neg (isD_46 h), if_pos h]
      exact ml_dgs l (dgS c y)
    · have e : dgs (c :: l) = 0 := by
        conv => lhs; unfold dgs
        rw [if_neg h]
      rw [e]
      rfl
/-- what is no digit, and no first point, stops it -/
theorem ml_stop (l : List UInt8) (y : MS) (h1 : dgs l = 0) (h2 : l.head? = some 46 → y.dot = true) : mL l y = (y, l) := by
  cases l with
  | nil => rfl
  | cons c l =>
    have hd : ¬ isD c = true := fun h => by
      unfold dgs at h1
      rw [if_pos h] at h1
      omega
    unfold mL
    by_cases h46 : c.toNat = 46
    · have hc : c = 46 := (u8_eq c 46 (by decide)).2 h46
      rw [if_pos h46, if_pos (h2 (by rw [hc]; rfl))]
    · rw [if_neg h46, if_neg hd]
theorem dgs_drop : ∀ l : List UInt8, dgs (l.drop (dgs l)) = 0
  | [] => rfl
  | c :: l => by
    by_cases h : isD c = true
    · have e : dgs (c :: l) = dgs l + 1 := by
        conv => lhs; unfold dgs
        rw [if_pos h]
      rw [e, List.drop_succ_cons]
      exact dgs_drop l
    · have e : dgs (c :: l) = 0 := by
        conv => lhs; unfold dgs
        rw [if_neg h]
      rw [e]
      exact e
theorem take_len (l : List UInt8) : (l.take (dgs l)).length = dgs l := by
  rw [List.length_take]
  have := dgs_le l
  omega
/-- what the reading of a text without its sign comes to -/
theorem ml_cut (l : List UInt8) (hq : 1 ≤ (cutN l).1) : ∃ x, mL l ms0 = (x, (cutN l).2) ∧ x.sd = true ∧ x.nd ≤ (cutN l).1 := by
  obtain ⟨a1, a2, a3⟩ := fold_keep (l.take (dgs l)) ms0
  rw [take_len] at a2 a3
  rw [ml_dgs l ms0]
  unfold cutN at hq ⊢
  by_cases h46 : (l.drop (dgs l)).head? = some 46
  · simp only [if_pos h46] at hq ⊢
    obtain ⟨r, hr⟩ : ∃ r, l.drop (dgs l) = 46 :: r := by
      cases hl : l.drop (dgs l) with
      | nil => rw [hl] at h46; cases h46
      | cons c r =>
        rw [hl] at h46
        obtain rfl : c = 46 := by simpa using h46
        exact ⟨r, rfl⟩
    rw [hr] at hq ⊢
    rw [List.drop_succ_cons, List.drop_zero] at hq ⊢
    have e : mL (46 :: r) (foldD (l.take (dgs l)) ms0) = mL r (dotS (foldD (l.take (dgs l)) ms0)) := by
      conv => lhs; unfold mL
      rw [if_pos (by decide), if_neg (by rw [a1]; decide)]
    rw [e, ml_dgs r]
    obtain ⟨b1, b2, b3⟩ := fold_keep (r.take (dgs r)) (dotS (foldD (l.take (dgs l)) ms0))
    rw [take_len] at b2 b3
    refine ⟨_, ml_stop _ _ (dgs_drop r) (fun _ => b1), ?_, ?_⟩
    · by_cases h0 : 0 < dgs l
      · exact b2 (.inl (a2 (.inr h0)))
      · exact b2 (.inr (by omega))
    · have : (dotS (foldD (l.take (dgs l)) ms0)).nd = (foldD (l.take (dgs l)) ms0).nd := rfl
      have h0 : ms0.nd = 0 := rfl
      omega
  · simp only [if_neg h46] at hq ⊢
    refine ⟨_, ml_stop _ _ (dgs_drop l) (fun h => absurd h h46), a2 (.inr (by omega)), ?_⟩
    have h0 : ms0.nd = 0 := rfl
    omega
/-- its bytes -/
theorem okc_dig {c : UInt8} (h : isD c = true) : okc c = true := by
  unfold okc
  rw [h]
  simp
theorem all_take : ∀ (l : List UInt8), ∀ c ∈ l.take (dgs l), isD c = true
  | [], c, h => by cases h
  | a :: l, c, h => by
    by_cases ha : isD a = true
    · have e : dgs (a :: l) = dgs l + 1 := by
        conv => lhs; unfold dgs
        rw [if_pos ha]
      rw [e, List.take_succ_cons] at h
      rcases List.mem_cons.1 h with rfl | h
      · exact ha
      · exact all_take l c h
    · have e : dgs (a :: l) = 0 := by
        conv => lhs; unfold dgs
        rw [if_neg ha]
      rw [e] at h
      cases h
theorem okc_drop (l : List UInt8) (h : ∀ c ∈ l.drop (dgs l), okc c = true) : ∀ c ∈ l, okc c = true := fun c hc => by
  rw [← List.take_append_drop (dgs l) l] at hc
  rcases List.mem_append.1 hc with h1 | h1
  · exact okc_dig (all_take l c h1)
  · exact h c h1
theorem okc_cons {c : UInt8} {l : List UInt8} (h1 : okc c = true) (h : ∀ d ∈ l, okc d = true) : ∀ d ∈ c :: l, okc d = true := fun d hd => by
  rcases List.mem_cons.1 hd with rfl | hd
  · exact h1
  · exact h d hd
theorem okc_cut (l : List UInt8) (h : ∀ c ∈ (cutN l).2, okc c = true) : ∀ c ∈ l, okc c = true := by
  refine okc_drop l ?_
  unfold cutN at h
  by_cases h46 : (l.drop (dgs l)).head? = some 46
  · simp only [if_pos h46] at h
    cases hl : l.drop (dgs l) with
    | nil => intro c hc; cases hc
    | cons c r =>
      rw [hl] at h46 h
      obtain rfl : c = 46 := by simpa using h46
      rw [List.drop_succ_cons, List.drop_zero] at h
      exact okc_cons (by decide) (okc_drop r h)
  · simp only [if_neg h46] at h
    exact h
theorem okc_exp (l : List UInt8) (h : expB l = true) : ∀ c ∈ l, okc c = true := by
  cases l with
  | nil => intro c hc; cases hc
  | cons c l =>
    rw [exp_cons, Bool.and_eq_true, Bool.or_eq_true, beq_iff_eq, beq_iff_eq] at h
    obtain ⟨h1, h2⟩ := h
    simp only [Bool.and_eq_true, decide_eq_true_eq] at h2
    refine okc_cons (by rcases h1 with rfl | rfl <;> decide) ?_
    have hr : ∀ d ∈ exR l, okc d = true := fun d hd => okc_dig (dgs_all _ h2.2 d hd)
    unfold exR at hr
    by_cases hs : l.head? = some 43 ∨ l.head? = some 45
    · rw [if_pos hs] at hr
      cases l with
      | nil => intro d hd; cases hd
      | cons a l =>
        refine okc_cons ?_ hr
        rcases hs with hs | hs
        · obtain rfl : a = 43 := by simpa using hs
          decide
        · obtain rfl : a = 45 := by simpa using hs
          decide
    · rw [if_neg hs] at hr
      exact hr
theorem okc_unsg (l : List UInt8) (h : ∀ c ∈ unsg l, okc c = true) : ∀ c ∈ l, okc c = true := by
  unfold unsg at h
  by_cases hs : l.head? = some 45
  · rw [if_pos hs] at h
    cases l with
    | nil => intro d hd; cases hd
    | cons a l =>
      obtain rfl : a = 45 := by simpa using hs
      exact okc_cons (by decide) h
  · rw [if_neg hs] at h
    exact h
/-- the parts of a decimal -/
def sgL (l : List UInt8) : Bool := decide (l.head? = some 45)
def msL (l : List UInt8) : MS := (mL (unsg l) ms0).1
def exL (l : List UInt8) : Int := if (mL (unsg l) ms0).2 = [] then 0 else exV ((mL (unsg l) ms0).2.drop 1)
theorem right_rf (s : ByteArray) (h : rightL s.data.toList = true) : RfOk s (sgL s.data.toList) (msL s.data.toList) (mL (unsg s.data.toList) ms0).2 (exL s.data.toList) ∧ (msL s.data.toList).nd ≤ 30 := by
  obtain ⟨l, hl⟩ : ∃ l, s.data.toList = l := ⟨_, rfl⟩
  have hlen : l.length = s.size := by rw [← hl, list_len]
  rw [hl] at h ⊢
  unfold rightL at h
  by_cases h40 : 40 < l.length
  · rw [if_pos h40] at h
    cases h
  rw [if_neg h40] at h
  obtain ⟨q, hq⟩ : ∃ q, cutN (unsg l) = q := ⟨_, rfl⟩
  simp only [hq] at h
  have h1 : 1 ≤ q.1 ∧ q.1 ≤ 30 ∧ (q.2 = [] ∨ expB q.2 = true) := by
    by_cases hc : q.1 < 1 ∨ 30 < q.1 ∨ q.2 = []
    · rw [if_pos hc, Bool.and_eq_true, decide_eq_true_eq, decide_eq_true_eq] at h
      refine ⟨h.1, h.2, ?_⟩
      rcases hc with hc | hc | hc
      · omega
      · omega
      · exact .inl hc
    · rw [if_neg hc] at h
      exact ⟨by omega, by omega, .inr h⟩
  obtain ⟨h1a, h1b, h1c⟩ := h1
  obtain ⟨x, m1, m2, m3⟩ := ml_cut (unsg l) (by rw [hq]; exact h1a)
  rw [hq] at m1 m3
  have e1 : msL l = x := by unfold msL; rw [m1]
  have e2 : (mL (unsg l) ms0).2 = q.2 := by rw [m1]
  have e3 : exL l = if q.2 = [] then 0 else exV (q.2.drop 1) := by unfold exL; rw [e2]
  have hu : unsg l ≠ [] := fun e => by
    rw [e] at hq
    have : q.1 = 0 := by rw [← hq]; rfl
    omega
  have hne : l ≠ [] := fun e => hu (by rw [e]; rfl)
  have hpos : 1 ≤ s.size := by
    rw [← hlen]
    exact List.length_pos_iff.2 hne
  have hok : ∀ c ∈ l, okc c = true := okc_unsg l (okc_cut _ (by
    rw [hq]
    rcases h1c with e | e
    · rw [e]; intro c hc; cases hc
    · exact okc_exp _ e))
  have hat : ∀ (k : Nat) (hk : k < s.size), l[k]? = some s[k] := fun k hk => by
    rw [← hl, List.getElem?_eq_getElem (by rw [list_len]; exact hk)]
    rfl
  have h0 : l.head? = some s[0] := by rw [List.head?_eq_getElem?]; exact hat 0 hpos
  rw [e1, e2, e3]
  refine ⟨⟨by omega, hpos, fun k hk => hok _ (List.mem_of_getElem? (hat k hk)), ?_, ?_, ?_, m2, ?_, ?_⟩, Nat.le_trans m3 h1b⟩
  · intro h43
    have hc : s[0] = 43 := (u8_eq _ 43 (by decide)).2 h43
    rw [hc] at h0
    cases l with
    | nil => cases h0
    | cons a l =>
      obtain rfl : a = 43 := by simpa using h0
      have : q.1 = 0 := by rw [← hq]; rfl
      omega
  · unfold sgL
    rw [h0]
    by_cases h45 : (s[0]).toNat = 45
    · rw [decide_eq_true h45, (u8_eq _ 45 (by decide)).2 h45]
      rfl
    · have hd : decide (some s[0] = some 45) = false := decide_eq_false (fun h => h45 ((u8_eq _ 45 (by decide)).1 (Option.some.inj h)))
      rw [decide_eq_false h45, hd]
  · rw [← m1]
    congr 1
    rw [hl]
    unfold sgL unsg
    by_cases h45 : l.head? = some 45
    · rw [decide_eq_true h45, if_pos rfl, if_pos h45]
    · rw [decide_eq_false h45, if_neg (by decide), if_neg h45, List.drop_zero]
  · intro hn
    have h45 := of_decide_eq_true hn
    unfold unsg at hu
    rw [if_pos h45] at hu
    rw [← hlen]
    refine Nat.lt_of_not_le fun hle => hu (List.drop_eq_nil_of_le hle)
  · by_cases he : q.2 = []
    · exact .inl ⟨he, if_pos he⟩
    · rw [if_neg he]
      exact .inr ⟨h1c.resolve_left he, rfl⟩
/-- what decimal.Parse says of a text: a number's word, and an error -/
def decW (l : List UInt8) : Nat := nx (msL l).N (dpX (msL l) + exL l - (msL l).nd)
def decR (l : List UInt8) : Nat × Nat := if rightL l then (if infX ≤ decW l then (0, 10) else if decW l = 0 then (0, 0) else (dcw.sgn (sgL l) (decW l), 0)) else (0, 160)
end Go.Proofs.YtbjengfoaobdbaaGreatDoor.rdf
