/- What decimal.right takes is what strconv's reading takes: plain. -/
import Derived.Test.YtcbgkbidgpemfaaGreatDoorMp25
import Derived.Test.YtcbgkbidgpemfaaGreatDoorMp24
namespace Go.Proofs.YtcbgkbidgpemfaaGreatDoor.rdf
open Go.RowKit
open Go.Proofs.YtcbgkbidgpemfaaGreatDoor.dmx
open Go.Proofs.YtcbgkbidgpemfaaGreatDoor.fpm

/-- a row of digits, read -/
def foldD (l : List UInt8) (y : MS) : MS := l.foldl (fun y c => dgS c y) y
theorem dgS_keep (c : UInt8) (y : MS) : (dgS c y).dot = y.dot ∧ (dgS c y).sd = true ∧ (dgS c y).nd ≤ y.nd + 1 := by
  unfold dgS
  split
  · exact ⟨rfl, rfl, Nat.le_succ _⟩
  · split <;> exact ⟨rfl, rfl, Nat.le_refl _⟩
theorem fold_keep : ∀ (l : List UInt8) (y : MS), (foldD l y).dot = y.dot ∧ (y.sd = true ∨ 0 < l.length → (foldD l y).sd = true) ∧ (foldD l y).nd ≤ y.nd + l.length
  | [], y => ⟨rfl, fun h => h.elim id (fun h => absurd h (Nat.lt_irrefl _)), Nat.le_refl _⟩
  | c :: l, y => by
    obtain ⟨a1, a2, a3⟩ := dgS_keep c y
    obtain ⟨b1, b2, b3⟩ := fold_keep l (dgS c y)
    refine ⟨b1.trans a1, fun _ => b2 (.inl a2), ?_⟩
    show (foldD l (dgS c y)).nd ≤ _
    rw [List.length_cons]
    omega
theorem isD_46 {c : UInt8} (h : isD c = true) : ¬ c.toNat = 46 := fun e => by
  have := (isD_iff c).1 h
  omega
/-- the digits first -/
theorem ml_dgs : ∀ (l : List UInt8) (y : MS), mL l y = mL (l.drop (dgs l)) (foldD (l.take (dgs l)) y)
  | [], y => rfl
  | c :: l, y => by
    by_cases h : isD c = true
    · have e : dgs (c :: l) = dgs l + 1 := by
        conv => lhs; unfold dgs
        rw [if_pos h]
      rw [e, List.drop_succ_cons, List.take_succ_cons]
      conv => lhs; unfold mL
      rw [if_neg (isD_46 h), if_pos h]
      exact ml_dgs l (dgS c y)
    · have e : dgs (c :: l) = 0 := by
        conv => lhs; unfold dgs
        rw [if_neg h]
      rw [e]
      rfl
/-- what is no digit, and no first point, stops it -/
theorem ml_stop (l : List UInt8) (y : MS) (h1 : dgs l = 0) (h2 : l.head? = some 46 → y.dot = true) : mL l y = (y, l) := by
  cases l with
  | nil => rfl
  | cons c l =>
    have hd : ¬ isD c = true := fun h => by
      unfold dgs at h1
      rw [if_pos h] at h1
      omega
    unfold mL
    by_cases h46 : c.toNat = 46
    · have hc : c = 46 := (u8_eq c 46 (by decide)).2 h46
      rw [if_pos h46, if_pos (h2 (by rw [hc]; rfl))]
    · rw [if_neg h46, if_neg hd]
theorem dgs_drop : ∀ l : List UInt8, dgs (l.drop (dgs l)) = 0
  | [] => rfl
  | c :: l => by
    by_cases h : isD c = true
    · have e : dgs (c :: l) = dgs l + 1 := by
        conv => lhs; unfold dgs
        rw [if_pos h]
      rw [e, List.drop_succ_cons]
      exact dgs_drop l
    · have e : dgs (c :: l) = 0 := by
        conv => lhs; unfold dgs
        rw [if_neg h]
      rw [e]
      exact e
theorem take_len (l : List UInt8) : (l.take (dgs l)).length = dgs l := by
  rw [List.length_take]
  have := dgs_le l
  omega
/-- what the reading of a text without its sign comes to -/
theorem ml_cut (l : List UInt8) (hq : 1 ≤ (cutN l).1) : ∃ x, mL l ms0 = (x, (cutN l).2) ∧ x.sd = true ∧ x.nd ≤ (cutN l).1 := by
  obtain ⟨a1, a2, a3⟩ := fold_keep (l.take (dgs l)) ms0
  rw [take_len] at a2 a3
  rw [ml_dgs l ms0]
  unfold cutN at hq ⊢
  by_cases h46 : (l.drop (dgs l)).head? = some 46
  · simp only [if_pos h46] at hq ⊢
    obtain ⟨r, hr⟩ : ∃ r, l.drop (dgs l) = 46 :: r := by
      cases hl : l.drop (dgs l) with
      | nil => rw [hl] at h46; cases h46
      | cons c r =>
        rw [hl] at h46
        obtain rfl : c = 46 := by simpa using h46
        exact ⟨r, rfl⟩
    rw [hr] at hq ⊢
    rw [List.drop_succ_cons, List.drop_zero] at hq ⊢
    have e : mL (46 :: r) (foldD (l.take (dgs l)) ms0) = mL r (dotS (foldD (l.take (dgs l)) ms0)) := by
      conv => lhs; unfold mL
      rw [if_pos (by decide), if_neg (by rw [a1]; decide)]
    rw [e, ml_dgs r]
    obtain ⟨b1, b2, b3⟩ := fold_keep (r.take (dgs r)) (dotS (foldD (l.take (dgs l)) ms0))
    rw [take_len] at b2 b3
    refine ⟨_, ml_stop _ _ (dgs_drop r) (fun _ => b1), ?_, ?_⟩
    · by_cases h0 : 0 < dgs l
      · exact b2 (.inl (a2 (.inr h0)))
      · exact b2 (.inr (by omega))
    · have : (dotS (foldD (l.take (dgs l)) ms0)).nd = (foldD (l.take (dgs l)) ms0).nd := rfl
      have h0 : ms0.nd = 0 := rfl
      omega
  · simp only [if_neg h46] at hq ⊢
    refine ⟨_, ml_stop _ _ (dgs_drop l) (fun h => absurd h h46), a2 (.inr (by omega)), ?_⟩
    have h0 : ms0.nd = 0 := rfl
    omega
/-- its bytes -/
theorem okc_dig {c : UInt8} (h : isD c = true) : okc c = true := by
  unfold okc
  rw [h]
  simp
theorem all_take : ∀ (l : List UInt8), ∀ c ∈ l.take (dgs l), isD c = true
  | [], c, h => by cases h
  | a :: l, c, h => by
    by_cases ha : isD a = true
    · have e : dgs (a :: l) = dgs l + 1 := by
        conv => lhs; unfold dgs
        rw [if_pos ha]
      rw [e, List.take_succ_cons] at h
      rcases List.mem_cons.1 h with rfl | h
      · exact ha
      · exact all_take l c h
    · have e : dgs (a :: l) = 0 := by
        conv => lhs; unfold dgs
        rw [if_neg ha]
      rw [e] at h
      cases h
theorem okc_drop (l : List UInt8) (h : ∀ c ∈ l.drop (dgs l), okc c = true) : ∀ c ∈ l, okc c = true := fun c hc => by
  rw [← List.take_append_drop (dgs l) l] at hc
  rcases List.mem_append.1 hc with h1 | h1
  · exact okc_dig (all_take l c h1)
  · exact h c h1
theorem okc_cons {c : UInt8} {l : List UInt8} (h1 : okc c = true) (h : ∀ d ∈ l, okc d = true) : ∀ d ∈ c :: l, okc d = true := fun d hd => by
  rcases List.mem_cons.1 hd with rfl | hd
  · exact h1
  · exact h d hd
theorem okc_cut (l : List UInt8) (h : ∀ c ∈ (cutN l).2, okc c = true) : ∀ c ∈ l, okc c = true := by
  refine okc_drop l ?_
  unfold cutN at h
  by_cases h46 : (l.drop (dgs l)).head? = some 46
  · simp only [if_pos h46] at h
    cases hl : l.drop (dgs l) with
    | nil => intro c hc; cases hc
    | cons c r =>
      rw [hl] at h46 h
      obtain rfl : c = 46 := by simpa using h46
      rw [List.drop_succ_cons, List.drop_zero] at h
      exact okc_cons (by decide) (okc_drop r h)
  · simp only [if_neg h46] at h
    exact h
theorem okc_exp (l : List UInt8) (h : expB l = true) : ∀ c ∈ l, okc c = true := by
  cases l with
  | nil => intro c hc; cases hc
  | cons c l =>
    rw [exp_cons, Bool.and_eq_true, Bool.or_eq_true, beq_iff_eq, beq_iff_eq] at h
    obtain ⟨h1, h2⟩ := h
    simp only [Bool.and_eq_true, decide_eq_true_eq] at h2
    refine okc_cons (by rcases h1 with rfl | rfl <;> decide) ?_
    have hr : ∀ d ∈ exR l, okc d = true := fun d hd => okc_dig (dgs_all _ h2.2 d hd)
    unfold exR at hr
    by_cases hs : l.head? = some 43 ∨ l.head? = some 45
    · rw [if_pos hs] at hr
      cases l with
      | nil => intro d hd; cases hd
      | cons a l =>
        refine okc_cons ?_ hr
        rcases hs with hs | hs
        · obtain rfl : a = 43 := by simpa using hs
          decide
        · obtain rfl : a = 45 := by simpa using hs
          decide
    · rw [if_neg hs] at hr
      exact hr
theorem okc_unsg (l : List UInt8) (h : ∀ c ∈ unsg l, okc c = true) : ∀ c ∈ l, okc c = true := by
  unfold unsg at h
  by_cases hs : l.head? = some 45
  · rw [if_pos hs] at h
    cases l with
    | nil => intro d hd; cases hd
    | cons a l =>
      obtain rfl : a = 45 := by simpa using hs
      exact okc_cons (by decide) h
  · rw [if_neg hs] at h
    exact h
/-- the parts of a decimal -/
def sgL (l : List UInt8) : Bool := decide (l.head? = some 45)
def msL (l : List UInt8) : MS := (mL (unsg l) ms0).1
def exL (l : List UInt8) : Int := if (mL (unsg l) ms0).2 = [] then 0 else exV ((mL (unsg l) ms0).2.drop 1)
theorem right_rf (s : ByteArray) (h : rightL s.data.toList = true) : RfOk s (sgL s.data.toList) (msL s.data.toList) (mL (unsg s.data.toList) ms0).2 (exL s.data.toList) ∧ (msL s.data.toList).nd ≤ 30 := by
  obtain ⟨l, hl⟩ : ∃ l, s.data.toList = l := ⟨_, rfl⟩
  have hlen : l.length = s.size := by rw [← hl, list_len]
  rw [hl] at h ⊢
  unfold rightL at h
  by_cases h40 : 40 < l.length
  · rw [if_pos h40] at h
    cases h
  rw [if_neg h40] at h
  obtain ⟨q, hq⟩ : ∃ q, cutN (unsg l) = q := ⟨_, rfl⟩
  simp only [hq] at h
  have h1 : 1 ≤ q.1 ∧ q.1 ≤ 30 ∧ (q.2 = [] ∨ expB q.2 = true) := by
    by_cases hc : q.1 < 1 ∨ 30 < q.1 ∨ q.2 = []
    · rw [if_pos hc, Bool.and_eq_true, decide_eq_true_eq, decide_eq_true_eq] at h
      refine ⟨h.1, h.2, ?_⟩
      rcases hc with hc | hc | hc
      · omega
      · omega
      · exact .inl hc
    · rw [if_neg hc] at h
      exact ⟨by omega, by omega, .inr h⟩
  obtain ⟨h1a, h1b, h1c⟩ := h1
  obtain ⟨x, m1, m2, m3⟩ := ml_cut (unsg l) (by rw [hq]; exact h1a)
  rw [hq] at m1 m3
  have e1 : msL l = x := by unfold msL; rw [m1]
  have e2 : (mL (unsg l) ms0).2 = q.2 := by rw [m1]
  have e3 : exL l = if q.2 = [] then 0 else exV (q.2.drop 1) := by unfold exL; rw [e2]
  have hu : unsg l ≠ [] := fun e => by
    rw [e] at hq
    have : q.1 = 0 := by rw [← hq]; rfl
    omega
  have hne : l ≠ [] := fun e => hu (by rw [e]; rfl)
  have hpos : 1 ≤ s.size := by
    rw [← hlen]
    exact List.length_pos_iff.2 hne
  have hok : ∀ c ∈ l, okc c = true := okc_unsg l (okc_cut _ (by
    rw [hq]
    rcases h1c with e | e
    · rw [e]; intro c hc; cases hc
    · exact okc_exp _ e))
  have hat : ∀ (k : Nat) (hk : k < s.size), l[k]? = some s[k] := fun k hk => by
    rw [← hl, List.getElem?_eq_getElem (by rw [list_len]; exact hk)]
    rfl
  have h0 : l.head? = some s[0] := by rw [List.head?_eq_getElem?]; exact hat 0 hpos
  rw [e1, e2, e3]
  refine ⟨⟨by omega, hpos, fun k hk => hok _ (List.mem_of_getElem? (hat k hk)), ?_, ?_, ?_, m2, ?_, ?_⟩, Nat.le_trans m3 h1b⟩
  · intro h43
    have hc : s[0] = 43 := (u8_eq _ 43 (by decide)).2 h43
    rw [hc] at h0
    cases l with
    | nil => cases h0
    | cons a l =>
      obtain rfl : a = 43 := by simpa using h0
      have : q.1 = 0 := by rw [← hq]; rfl
      omega
  · unfold sgL
    rw [h0]
    by_cases h45 : (s[0]).toNat = 45
    · rw [decide_eq_true h45, (u8_eq _ 45 (by decide)).2 h45]
      rfl
    · have hd : decide (some s[0] = some 45) = false := decide_eq_false (fun h => h45 ((u8_eq _ 45 (by decide)).1 (Option.some.inj h)))
      rw [decide_eq_false h45, hd]
  · rw [← m1]
    congr 1
    rw [hl]
    unfold sgL unsg
    by_cases h45 : l.head? = some 45
    · rw [decide_eq_true h45, if_pos rfl, if_pos h45]
    · rw [decide_eq_false h45, if_neg (by decide), if_neg h45, List.drop_zero]
  · intro hn
    have h45 := of_decide_eq_true hn
    unfold unsg at hu
    rw [if_pos h45] at hu
    rw [← hlen]
    refine Nat.lt_of_not_le fun hle => hu (List.drop_eq_nil_of_le hle)
  · by_cases he : q.2 = []
    · exact .inl ⟨he, if_pos he⟩
    · rw [if_neg he]
      exact .inr ⟨h1c.resolve_left he, rfl⟩
/-- what decimal.Parse says of a text: a number's word, and an error -/
def decW (l : List UInt8) : Nat := nx (msL l).N (dpX (msL l) + exL l - (msL l).nd)
def decR (l : List UInt8) : Nat × Nat := if rightL l then (if infX ≤ decW l then (0, 10) else if decW l = 0 then (0, 0) else (dcw.sgn (sgL l) (decW l), 0)) else (0, 160)
end Go.Proofs.YtcbgkbidgpemfaaGreatDoor.rdf

/- What burnishref16.parts takes out of a text is what decimal.Parse takes out of it. Plain; no condition but those stated. -/
namespace Go.Proofs.YtcbgkbidgpemfaaGreatDoor.rg
open Go.Proofs.YtcbgkbidgpemfaaGreatDoor.rdf

/-- the digits of a text and the points between them; the power of ten; what is left -/
structure PS where
  ds : List UInt8
  dots : Nat
  pw : Int
def pS : List UInt8 → PS → PS × List UInt8
  | [], p => (p, [])
  | c :: l, p => if isD c then pS l ⟨p.ds ++ [c], p.dots, p.pw - p.dots⟩ else if c.toNat = 46 then pS l ⟨p.ds, p.dots + 1, p.pw⟩ else (p, c :: l)
def ps0 : PS := ⟨[], 0, 0⟩
/-- the number that digits spell -/
def dv (n : Nat) (l : List UInt8) : Nat := l.foldl (fun n c => n * 10 + (c.toNat - 48)) n
theorem ps_dgs : ∀ (l : List UInt8) (p : PS), pS l p = pS (l.drop (dgs l)) ⟨p.ds ++ l.take (dgs l), p.dots, p.pw - p.dots * (dgs l : Nat)⟩
  | [], p => by
    show (p, []) = (PS.mk (p.ds ++ []) p.dots (p.pw - p.dots * ((0 : Nat) : Int)), [])
    rw [List.append_nil]
    simp
  | c :: l, p => by
    by_cases hc : isD c = true
    · have e : dgs (c :: l) = dgs l + 1 := by show (if isD c then dgs l + 1 else 0) = _; rw [if_pos hc]
      rw [e, List.drop_succ_cons, List.take_succ_cons]
      have e2 : pS (c :: l) p = pS l ⟨p.ds ++ [c], p.dots, p.pw - p.dots⟩ := by show (if isD c then _ else _) = _; rw [if_pos hc]
      rw [e2, ps_dgs l]
      congr 1
      simp only [List.append_assoc, List.singleton_append, PS.mk.injEq, true_and]
      rw [Int.natCast_add, Int.mul_add]
      omega
    · have e : dgs (c :: l) = 0 := by show (if isD c then dgs l + 1 else 0) = _; rw [if_neg hc]
      rw [e]
      simp
theorem ps_stop (l : List UInt8) (p : PS) (h : dgs l = 0) (h2 : l.head? ≠ some 46) : pS l p = (p, l) := by
  cases l with
  | nil => rfl
  | cons c l =>
    have hc : ¬ isD c = true := fun hc => by
      have e : dgs (c :: l) = dgs l + 1 := by show (if isD c then dgs l + 1 else 0) = _; rw [if_pos hc]
      omega
    have h46 : ¬ c.toNat = 46 := fun e => h2 (by
      have : c = 46 := UInt8.toNat_inj.1 e
      rw [this]; rfl)
    show (if isD c then _ else if c.toNat = 46 then _ else _) = _
    rw [if_neg hc, if_neg h46]
theorem ps_dot (l : List UInt8) (p : PS) : pS (46 :: l) p = pS l ⟨p.ds, p.dots + 1, p.pw⟩ := by
  show (if isD 46 then _ else if (46 : UInt8).toNat = 46 then _ else _) = _
  rw [if_neg (by decide), if_pos (show (46 : UInt8).toNat = 46 from rfl)]
theorem ps_more : ∀ (l : List UInt8) (p : PS), p.dots ≤ (pS l p).1.dots
  | [], _ => Nat.le_refl _
  | c :: l, p => by
    show p.dots ≤ (if isD c then pS l ⟨p.ds ++ [c], p.dots, p.pw - p.dots⟩ else if c.toNat = 46 then pS l ⟨p.ds, p.dots + 1, p.pw⟩ else (p, c :: l)).1.dots
    split
    · exact ps_more l ⟨p.ds ++ [c], p.dots, p.pw - p.dots⟩
    · split
      · exact Nat.le_trans (Nat.le_succ _) (ps_more l ⟨p.ds, p.dots + 1, p.pw⟩)
      · exact Nat.le_refl _
/-- what the digits add to readFloat's mantissa -/
theorem fold_num : ∀ (l : List UInt8) (y : MS), (∀ c ∈ l, isD c = true) → (y.nd = 0 → y.N = 0) →
    (foldD l y).N = dv y.N l ∧ (foldD l y).dp - ((foldD l y).nd : Int) = y.dp - (y.nd : Int) - (l.length : Nat) ∧ (foldD l y).dot = y.dot ∧ ((foldD l y).nd = 0 → (foldD l y).N = 0)
  | [], y, _, h => ⟨rfl, by show y.dp - (y.nd : Int) = y.dp - y.nd - ((0 : Nat) : Int); omega, rfl, h⟩
  | c :: l, y, hd, h => by
    have hs : (dgS c y).N = y.N * 10 + (c.toNat - 48) ∧ (dgS c y).dp - ((dgS c y).nd : Int) = y.dp - (y.nd : Int) - 1 ∧ (dgS c y).dot = y.dot ∧ ((dgS c y).nd = 0 → (dgS c y).N = 0) := by
      unfold dgS
      split
      · next h0 =>
        have := h h0.2
        refine ⟨?_, ?_, rfl, fun _ => this⟩
        · show y.N = y.N * 10 + (c.toNat - 48)
          rw [this, h0.1]
        · show y.dp - 1 - (y.nd : Int) = _
          omega
      · split
        · exact ⟨rfl, by show y.dp - ((y.nd + 1 : Nat) : Int) = _; omega, rfl, fun h => absurd h (Nat.succ_ne_zero _)⟩
        · exact ⟨rfl, by show y.dp - ((y.nd + 1 : Nat) : Int) = _; omega, rfl, fun h => absurd h (Nat.succ_ne_zero _)⟩
    obtain ⟨h1, h2, h3, h4⟩ := hs
    obtain ⟨g1, g2, g3, g4⟩ := fold_num l (dgS c y) (fun x hx => hd x (by simp [hx])) h4
    refine ⟨?_, ?_, g3.trans h3, g4⟩
    · show (foldD l (dgS c y)).N = dv (y.N * 10 + (c.toNat - 48)) l
      rw [g1, h1]
    · show (foldD l (dgS c y)).dp - ((foldD l (dgS c y)).nd : Int) = y.dp - (y.nd : Int) - ((l.length + 1 : Nat) : Int)
      rw [g2, h2]
      omega
theorem dv_app (n : Nat) (a b : List UInt8) : dv n (a ++ b) = dv (dv n a) b := List.foldl_append ..
/-- what parts tells: digits and the power of ten -/
def partsL (l : List UInt8) : Option (List UInt8 × Int) :=
  let p := pS (unsg l) ps0
  if p.1.ds.length = 0 ∨ 30 < p.1.ds.length ∨ 1 < p.1.dots ∨ 40 < l.length then none
  else if p.2 = [] then some (p.1.ds, p.1.pw)
  else if expB p.2 then some (p.1.ds, p.1.pw + exV (p.2.drop 1)) else none
theorem dots_exp {r : List UInt8} (h : r.head? = some 46) : expB r = false := by
  cases r with
  | nil => rfl
  | cons c r =>
    have : c = 46 := Option.some.inj h
    subst this
    rfl
theorem parts_cut (l : List UInt8) : (1 < (pS l ps0).1.dots ∧ (cutN l).2.head? = some 46) ∨
    ((pS l ps0).1.dots ≤ 1 ∧ (cutN l) = ((pS l ps0).1.ds.length, (pS l ps0).2) ∧ ∃ x, mL l ms0 = (x, (pS l ps0).2) ∧ x.N = dv 0 (pS l ps0).1.ds ∧ dpX x - (x.nd : Int) = (pS l ps0).1.pw) := by
  obtain ⟨f1, f2, f3, f4⟩ := fold_num (l.take (dgs l)) ms0 (all_take l) (fun _ => rfl)
  by_cases h46 : (l.drop (dgs l)).head? = some 46
  · obtain ⟨t, ht⟩ : ∃ t, l.drop (dgs l) = 46 :: t := by
      cases hd : l.drop (dgs l) with
      | nil => rw [hd] at h46; cases h46
      | cons c t =>
        rw [hd] at h46
        have : c = 46 := Option.some.inj h46
        exact ⟨t, by rw [this]⟩
    have e1 : pS l ps0 = pS (t.drop (dgs t)) ⟨l.take (dgs l) ++ t.take (dgs t), 1, 0 - (dgs t : Nat)⟩ := by
      rw [ps_dgs l, ht, ps_dot, ps_dgs t]
      congr 1
      simp [ps0]
    have ec : cutN l = (dgs l + dgs t, t.drop (dgs t)) := by
      show (if (l.drop (dgs l)).head? = some 46 then _ else _) = _
      rw [if_pos h46, ht]
      rfl
    have em : mL l ms0 = mL (t.drop (dgs t)) (foldD (t.take (dgs t)) (dotS (foldD (l.take (dgs l)) ms0))) := by
      rw [ml_dgs l, ht]
      have : mL (46 :: t) (foldD (l.take (dgs l)) ms0) = mL t (dotS (foldD (l.take (dgs l)) ms0)) := by
        show (if (46 : UInt8).toNat = 46 then (if (foldD (l.take (dgs l)) ms0).dot then _ else _) else _) = _
        rw [if_pos (show (46 : UInt8).toNat = 46 from rfl), f3]
        rfl
      rw [this, ml_dgs t]
    by_cases h2 : (t.drop (dgs t)).head? = some 46
    · left
      refine ⟨?_, by rw [ec]; exact h2⟩
      rw [e1]
      obtain ⟨u, hu⟩ : ∃ u, t.drop (dgs t) = 46 :: u := by
        cases hd : t.drop (dgs t) with
        | nil => rw [hd] at h2; cases h2
        | cons c u =>
          rw [hd] at h2
          have : c = 46 := Option.some.inj h2
          exact ⟨u, by rw [this]⟩
      rw [hu, ps_dot]
      exact ps_more u ⟨_, 2, _⟩
    · right
      rw [e1, ps_stop _ _ (dgs_drop t) h2]
      obtain ⟨g1, g2, g3, g4⟩ := fold_num (t.take (dgs t)) (dotS (foldD (l.take (dgs l)) ms0)) (all_take t) f4
      refine ⟨Nat.le_refl _, ?_, foldD (t.take (dgs t)) (dotS (foldD (l.take (dgs l)) ms0)), ?_, ?_, ?_⟩
      · rw [ec, List.length_append, rdf.take_len, rdf.take_len]
      · rw [em]
        exact ml_stop _ _ (dgs_drop t) fun h => absurd h h2
      · rw [g1]
        show dv (foldD (l.take (dgs l)) ms0).N _ = _
        rw [f1, dv_app]
        rfl
      · have hdot : (foldD (t.take (dgs t)) (dotS (foldD (l.take (dgs l)) ms0))).dot = true := g3
        unfold dpX
        rw [hdot, if_pos rfl, g2, rdf.take_len]
        show ((foldD (l.take (dgs l)) ms0).nd : Int) - ((foldD (l.take (dgs l)) ms0).nd : Int) - _ = 0 - ((dgs t : Nat) : Int)
        omega
  · right
    rw [ps_dgs l, ps_stop _ _ (dgs_drop l) h46]
    refine ⟨Nat.zero_le _, ?_, foldD (l.take (dgs l)) ms0, ?_, ?_, ?_⟩
    · show (if (l.drop (dgs l)).head? = some 46 then _ else _) = _
      rw [if_neg h46]
      show (dgs l, l.drop (dgs l)) = ((([] : List UInt8) ++ l.take (dgs l)).length, l.drop (dgs l))
      rw [List.nil_append, rdf.take_len]
    · rw [ml_dgs l]
      exact ml_stop _ _ (dgs_drop l) fun h => absurd h h46
    · rw [f1]
      rfl
    · unfold dpX
      rw [f3]
      show ((foldD (l.take (dgs l)) ms0).nd : Int) - ((foldD (l.take (dgs l)) ms0).nd : Int) = _
      simp [ps0]
/-- parts takes what decimal.Parse takes -/
theorem parts_law (l : List UInt8) : (partsL l = none ∧ rightL l = false) ∨ ∃ D P, partsL l = some (D, P) ∧ rightL l = true ∧ 1 ≤ D.length ∧ D.length ≤ 30 ∧ (msL l).N = dv 0 D ∧ dpX (msL l) + exL l - ((msL l).nd : Int) = P := by
  unfold partsL rightL
  by_cases h40 : 40 < l.length
  · left
    rw [if_pos h40, if_pos (.inr (.inr (.inr h40)))]
    exact ⟨rfl, rfl⟩
  rw [if_neg h40]
  simp only
  rcases parts_cut (unsg l) with ⟨h1, h2⟩ | ⟨h1, h2, x, h3, h4, h5⟩
  · left
    rw [if_pos (.inr (.inr (.inl h1)))]
    refine ⟨rfl, ?_⟩
    have hne : (cutN (unsg l)).2 ≠ [] := fun e => by rw [e] at h2; cases h2
    by_cases hq : (cutN (unsg l)).1 < 1 ∨ 30 < (cutN (unsg l)).1 ∨ (cutN (unsg l)).2 = []
    · rw [if_pos hq]
      rcases hq with hq | hq | hq
      · rw [decide_eq_false (by omega), Bool.false_and]
      · rw [decide_eq_false (p := (cutN (unsg l)).1 ≤ 30) (by omega), Bool.and_false]
      · exact absurd hq hne
    · rw [if_neg hq]
      exact dots_exp h2
  · rw [h2]
    simp only
    obtain ⟨p, hp⟩ : ∃ p, pS (unsg l) ps0 = p := ⟨_, rfl⟩
    rw [hp] at h1 h3 h4 h5 ⊢
    have hms : msL l = x := by unfold msL; rw [h3]
    have hex : exL l = if p.2 = [] then 0 else exV (p.2.drop 1) := by unfold exL; rw [h3]
    by_cases hb : p.1.ds.length < 1 ∨ 30 < p.1.ds.length
    · left
      rw [if_pos (by omega), if_pos (by omega)]
      refine ⟨rfl, ?_⟩
      rcases hb with hb | hb
      · rw [decide_eq_false (by omega), Bool.false_and]
      · rw [decide_eq_false (p := p.1.ds.length ≤ 30) (by omega), Bool.and_false]
    · rw [if_neg (by omega)]
      by_cases he : p.2 = []
      · right
        rw [if_pos he, if_pos (.inr (.inr he)), decide_eq_true (by omega), decide_eq_true (by omega)]
        refine ⟨_, _, rfl, rfl, by omega, by omega, by rw [hms]; exact h4, ?_⟩
        rw [hms, hex, if_pos he, ← h5]
        omega
      · rw [if_neg he, if_neg (show ¬(p.1.ds.length < 1 ∨ 30 < p.1.ds.length ∨ p.2 = []) from fun h => h.elim (fun h => hb (.inl h)) fun h => h.elim (fun h => hb (.inr h)) he)]
        by_cases hx : expB p.2 = true
        · right
          rw [if_pos hx]
          refine ⟨_, _, rfl, hx, by omega, by omega, by rw [hms]; exact h4, ?_⟩
          rw [hms, hex, if_neg he, ← h5]
          omega
        · left
          rw [if_neg hx]
          exact ⟨rfl, by simpa using hx⟩
end Go.Proofs.YtcbgkbidgpemfaaGreatDoor.rg

/- What burnishref16.near tells of digits and a power of ten. Plain; no condition but those stated. -/
namespace Go.Proofs.YtcbgkbidgpemfaaGreatDoor.rg
open Go.Proofs.YtcbgkbidgpemfaaGreatDoor.rdf
open Go.Proofs.YtcbgkbidgpemfaaGreatDoor.fpm
open Go.Proofs.YtcbgkbidgpemfaaGreatDoor.prnw (ftM ftE)
open Go.Proofs.YtcbgkbidgpemfaaGreatDoor.dmx

theorem dv_lt : ∀ (l : List UInt8) (n : Nat), (∀ c ∈ l, isD c = true) → dv n l < (n + 1) * 10 ^ l.length
  | [], n, _ => by show n < (n + 1) * 1; omega
  | c :: l, n, h => by
    have h1 := dv_lt l (n * 10 + (c.toNat - 48)) fun x hx => h x (by simp [hx])
    have h2 := (isD_iff c).1 (h c (by simp))
    have h3 : (n * 10 + (c.toNat - 48) + 1) * 10 ^ l.length ≤ ((n + 1) * 10) * 10 ^ l.length := Nat.mul_le_mul_right _ (by omega)
    show dv (n * 10 + (c.toNat - 48)) l < (n + 1) * 10 ^ (l.length + 1)
    rw [Nat.pow_succ, Nat.mul_comm (10 ^ l.length) 10, ← Nat.mul_assoc]
    exact Nat.lt_of_lt_of_le h1 h3
theorem ps_isD : ∀ (l : List UInt8) (p : PS), (∀ c ∈ p.ds, isD c = true) → ∀ c ∈ (pS l p).1.ds, isD c = true
  | [], _, h => h
  | c :: l, p, h => by
    show ∀ x ∈ (if isD c then pS l ⟨p.ds ++ [c], p.dots, p.pw - p.dots⟩ else if c.toNat = 46 then pS l ⟨p.ds, p.dots + 1, p.pw⟩ else (p, c :: l)).1.ds, isD x = true
    split
    · next hc =>
      exact ps_isD l _ fun x hx => by
        rcases List.mem_append.1 hx with hx | hx
        · exact h x hx
        · rw [List.mem_singleton.1 hx]; exact hc
    · split
      · exact ps_isD l _ h
      · exact h
theorem nx_tiny {N : Nat} (hN : N < 10 ^ 30) {P : Int} (hP : P < -800) : nx N P = 0 := by
  have h1 := nx_mono (Nat.le_of_lt hN) P
  have h2 := nx_shift 1 30 P
  rw [Nat.one_mul] at h2
  have h3 := nx_low (N := 1) (by decide) (P := P + (30 : Nat)) (by omega)
  rw [h2, h3] at h1
  omega
/-- what near answers: a number's word, and whether there is one -/
def nearR (N : Nat) (P : Int) : Nat × Bool := if infX ≤ nx N P then (0, false) else (nx N P, true)
/-- the halving's state -/
structure NI (A B low high : Nat) : Prop where
  lo : qv low * B ≤ A * 2 ^ unB
  le : low ≤ high
  top : high ≤ 9218868437227405311
  hi : high = 9218868437227405311 ∨ A * 2 ^ unB < qv (high + 1) * B
theorem NI.start (A B : Nat) : NI A B 0 9218868437227405311 := ⟨by rw [qv_zero, Nat.zero_mul]; exact Nat.zero_le _, by decide, Nat.le_refl _, .inl rfl⟩
theorem NI.up {A B low high mid : Nat} (h : NI A B low high) (h1 : mid ≤ high) (h2 : qv mid * B ≤ A * 2 ^ unB) : NI A B mid high := ⟨h2, h1, h.top, h.hi⟩
theorem NI.down {A B low high mid : Nat} (h : NI A B low high) (h0 : low < mid) (h1 : mid ≤ high) (h2 : A * 2 ^ unB < qv mid * B) : NI A B low (mid - 1) :=
  ⟨h.lo, by omega, by have := h.top; omega, .inr (by rw [show mid - 1 + 1 = mid by omega]; exact h2)⟩
theorem near_end {N : Nat} {P : Int} {X : Nat} (h : NI (N * 10 ^ P.toNat) (10 ^ (-P).toNat) X X) :
    nearR N P = if endU X * 10 ^ (-P).toNat < N * 10 ^ P.toNat * 2 ^ unB ∨ (N * 10 ^ P.toNat * 2 ^ unB = endU X * 10 ^ (-P).toNat ∧ ftM X % 2 = 1)
      then (if X = 9218868437227405311 then (0, false) else (X + 1, true)) else (X, true) := by
  have hB : 0 < 10 ^ (-P).toNat := Nat.pow_pos (by decide)
  have hi : infX = 9218868437227405312 := rfl
  have ht := h.top
  unfold nearR
  by_cases hc : endU X * 10 ^ (-P).toNat < N * 10 ^ P.toNat * 2 ^ unB ∨ (N * 10 ^ P.toNat * 2 ^ unB = endU X * 10 ^ (-P).toNat ∧ ftM X % 2 = 1)
  · rw [if_pos hc]
    by_cases hX : X = 9218868437227405311
    · have h1 := near_over hB hc
      have h2 : infX ≤ nx N P := by
        show infX ≤ nearX (N * 10 ^ P.toNat) (10 ^ (-P).toNat)
        omega
      rw [if_pos h2, if_pos hX]
    · have h1 := near_next hB (h.hi.resolve_left hX) hc
      have h2 : nx N P = X + 1 := h1
      rw [h2, if_neg (by omega), if_neg hX]
  · rw [if_neg hc]
    have h1 : nearX (N * 10 ^ P.toNat) (10 ^ (-P).toNat) = X := by
      refine near_low hB h.lo ?_
      rcases Nat.lt_trichotomy (N * 10 ^ P.toNat * 2 ^ unB) (endU X * 10 ^ (-P).toNat) with hl | hl | hl
      · exact .inl hl
      · exact .inr ⟨hl, by
          have : ¬ ftM X % 2 = 1 := fun e => hc (.inr ⟨hl, e⟩)
          omega⟩
      · exact absurd (.inl hl) hc
    have h2 : nx N P = X := h1
    rw [h2, if_neg (by omega)]
/-- what decimal.Parse answers, by what parts takes -/
theorem dec_ref (l : List UInt8) : decR l = match partsL l with
    | none => (0, 160)
    | some (D, P) => if (nearR (dv 0 D) P).2 = true then (if sgL l = true ∧ (nearR (dv 0 D) P).1 ≠ 0 then dcw.sgn true (nearR (dv 0 D) P).1 else (nearR (dv 0 D) P).1, 0) else (0, 10) := by
  unfold decR
  rcases parts_law l with ⟨h1, h2⟩ | ⟨D, P, h1, h2, -, -, h5, h6⟩
  · rw [h1, h2]
    rfl
  · rw [h1, h2, if_pos rfl]
    have hw : decW l = nx (dv 0 D) P := by
      unfold decW
      rw [h5, h6]
    rw [hw]
    simp only
    unfold nearR
    by_cases hi : infX ≤ nx (dv 0 D) P
    · rw [if_pos hi, if_pos hi]
      rfl
    · rw [if_neg hi, if_neg hi]
      simp only [if_true]
      by_cases h0 : nx (dv 0 D) P = 0
      · rw [if_pos h0, if_neg (fun h => h.2 h0), h0]
      · rw [if_neg h0]
        cases hs : sgL l with
        | true => rw [if_pos ⟨rfl, h0⟩]
        | false =>
          rw [if_neg (fun h => by cases h.1)]
          rfl
/-- the cases that are told ahead -/
theorem near_tiny {D : List UInt8} (hD : ∀ c ∈ D, isD c = true) (hl : D.length ≤ 30) {P : Int} (h : P < -800 ∨ dv 0 D = 0) : nearR (dv 0 D) P = (0, true) := by
  have h1 : nx (dv 0 D) P = 0 := by
    rcases h with h | h
    · have := dv_lt D 0 hD
      have h2 : (10 : Nat) ^ D.length ≤ 10 ^ 30 := Nat.pow_le_pow_right (by decide) hl
      exact nx_tiny (by omega) h
    · rw [h]
      exact nx_zero P
  unfold nearR
  rw [h1]
  rfl
theorem near_huge {N : Nat} (hN : 0 < N) {P : Int} (h : 400 < P) : nearR N P = (0, false) := by
  unfold nearR
  rw [if_pos (nx_big hN (by omega))]
end Go.Proofs.YtcbgkbidgpemfaaGreatDoor.rg

/- burnishref16: the walks of power, Compare, whole and against. Conditions: as each theorem states. -/
namespace Go.Proofs.YtcbgkbidgpemfaaGreatDoor.rg
open Go.RowKit
open Go.Proofs.YtcbgkbidgpemfaaGreatDoor.rdf
open Go.BigFrame

/-- v reads as the whole number N, of k digits at most -/
def Num (W : World) (v : Value) (k N : Nat) : Prop := ∃ l, BigV W v l ∧ BOk l ∧ Trim l ∧ bv l = N ∧ l.length ≤ k
theorem Num.below {W W' : World} {v : Value} {k N : Nat} (h : Num W v k N) (hb : Below W.heap.size W W') : Num W' v k N := by
  obtain ⟨l, h1, h2⟩ := h
  exact ⟨l, h1.below hb, h2⟩
def NumPost (w : World) (k N : Nat) (e : Ending) (w' : World) : Prop := ∃ v', e = .returned v' ∧ Num w' v' k N ∧ Below w.heap.size w w'
theorem times_num (v : Value) (k N by_ more : Nat) (w : World) (hv : Num w v k N) (hb0 : 0 < by_) (hb : by_ ≤ 10000000000) (hk : k ≤ 100000) (hm : more ≤ 10000000000) :
    Calls Tryz.prog 165 #[v, .int .u64 by_, .int .u64 more] w (NumPost w (k + 2) (N * by_ + more)) := by
  obtain ⟨l, h1, h2, h3, h4, h5⟩ := hv
  refine (times_any v l by_ more w h1 h2 hb (by omega) (fun _ => hm) (by omega)).mono ?_
  rintro e w' ⟨v', rfl, g1, g2⟩
  refine ⟨v', rfl, ⟨_, g1, ok_times _ _ _, trim_times _ hb0 _ _ h2 h3, by rw [bv_times, h4], ?_⟩, g2⟩
  have := times_len by_ hb l more h2 (by omega) (fun _ => hm)
  omega
theorem times_0 (v : Value) (k N S : Nat) (w : World) (hv : Num w v k N) (hb0 : 0 < S) (hb : S ≤ 10000000000) (hk : k ≤ 100000) :
    Calls Tryz.prog 165 #[v, .int .u64 (S : Int), .int .u64 0] w (NumPost w (k + 2) (N * S)) := times_num v k N S 0 w hv hb0 hb hk (by decide)
theorem times_nil_num (v : Value) (more : Nat) (w : World) (hv : BigV w v []) (hm : more < 18446744073709551616) :
    Calls Tryz.prog 165 #[v, .int .u64 1, .int .u64 more] w (NumPost w 3 more) := by
  refine (times_any v [] 1 more w hv (fun x hx => by cases hx) (by decide) (by decide) (fun h => absurd rfl h) hm).mono ?_
  rintro e w' ⟨v', rfl, g1, g2⟩
  have e1 : timesL 1 [] more = dig more := rfl
  rw [e1] at g1
  exact ⟨v', rfl, ⟨_, g1, ok_dig _, trim_dig _, bv_dig _, dig_len3 _ hm⟩, g2⟩
set_option maxRecDepth 100000 in
set_option maxHeartbeats 1000000 in
theorem power_any (v : Value) (k N by_ n : Nat) (w : World) (hv : Num w v k N) (hb0 : 2 ≤ by_) (hb : by_ ≤ 10) (hn : k + 2 * n ≤ 90000) :
    Calls Tryz.prog 168 #[v, .int .u64 by_, .int .i64 n] w (NumPost w (k + 2 * n) (N * by_ ^ n)) := by
  have HV := Lib.hid hv
  clear hv
  have hn9 : (n : Int) ≤ 45000 := by omega
  go_enter Tryz.func168, Tryz.ntmps168
  go_wp2_with fail
  go_loopw [0, 2] (fun s0 s2 wr => ∃ j r : Nat, n = j + r ∧ s2 = .int .i64 r ∧ Num wr s0 (k + 2 * j) (N * by_ ^ j) ∧ Below w.heap.size w wr) (fun _ s2 _ => (intOf s2).toNat)
  case atStart => exact ⟨0, n, by omega, rfl, by simpa using HV.out, Below.refl _ _⟩
  case round =>
    clear HV
    obtain ⟨j, r, hj, rfl, hN, hB⟩ := hrel
    obtain ⟨wo, rfl⟩ : ∃ wo : World, wo = wr := ⟨_, rfl⟩
    have HB := Lib.hid hB
    have HN := Lib.hid hN
    clear hB hN
    by_cases hr : r = 0
    · subst hr
      obtain rfl : n = j := by omega
      clear hj
      go_wp2_with fail
      go_ret
      exact ⟨_, rfl, HN.out, HB.out⟩
    · have hr0 : (0 : Int) < (r : Int) := by omega
      have hr9 : (r : Int) ≤ 45000 := by omega
      have HJ := Lib.hid hj
      clear hj
      go_wp2_with fail
      go_loopw [2, 7] (fun s2 s7 wr => ∃ p q S : Nat, r = p + q ∧ s2 = .int .i64 q ∧ s7 = .int .u64 S ∧ S = by_ ^ p ∧ S < 10000000000 ∧ wr = wo) (fun s2 _ _ => (intOf s2).toNat)
      case atStart => exact ⟨0, r, 1, by omega, rfl, rfl, rfl, by decide, rfl⟩
      case round =>
        obtain ⟨p, q, S, hpq, rfl, rfl, hS, hS9, hwr⟩ := hrel
        obtain rfl := hwr.symm
        have HS := Lib.hid (And.intro hS hpq)
        clear hS
        by_cases hq : 0 < q
        · have hq0 : (0 : Int) < (q : Int) := by omega
          have hq9 : (q : Int) ≤ 45000 := by omega
          by_cases hS1 : S < 1000000000
          · have hS1i : (S : Int) < 1000000000 := by omega
            obtain ⟨S2, hS2⟩ : ∃ S2, S * by_ = S2 := ⟨_, rfl⟩
            have hS2i : (S : Int) * (by_ : Int) = (S2 : Int) := by rw [← hS2]; simp
            have hS29 : S2 < 10000000000 := by
              rw [← hS2]
              have := Nat.mul_le_mul (show S ≤ 999999999 by omega) hb
              omega
            have H2 := Lib.hid hS2
            clear hS2 hpq
            go_wp2_with fail
            refine ⟨⟨p + 1, q - 1, S2, by have := HS.out.2; omega, by go_num, rfl, ?_, hS29, by first | trivial | rfl⟩, by simp only [intOf]; omega⟩
            rw [← H2.out, HS.out.1, Nat.pow_succ]
          · have hS1i : ¬ (S : Int) < 1000000000 := by omega
            have hp : p ≠ 0 := fun h => by
              have := HS.out.1
              rw [h, Nat.pow_zero] at this
              omega
            have CT := Lib.hid (times_0 · (k + 2 * j) (N * by_ ^ j) S wo · (by have := HS.out.1; have := Nat.pow_pos (n := p) (show 0 < by_ by omega); omega) (by omega) (by have := HJ.out; omega))
            clear hpq hS1
            go_wp2_with (go_at_call 165; (with_reducible refine (CT.out _ HN.out).mono ?_); rintro e w2 ⟨v2, rfl, h2, b2⟩; have HN2 := Lib.hid h2; have HB2 := Lib.hid b2; clear h2 b2)
            refine ⟨⟨j + p, q, by have := HJ.out; have := HS.out.2; omega, rfl, ?_, HB.out.trans (HB2.out.mono HB.out.size)⟩, by have := HS.out.2; simp only [intOf]; omega⟩
            obtain ⟨l, g1, g2, g3, g4, g5⟩ := HN2.out
            exact ⟨l, g1, g2, g3, by rw [g4, HS.out.1, Nat.mul_assoc, ← Nat.pow_add], by omega⟩
        · obtain rfl : q = 0 := by omega
          have hp : p ≠ 0 := fun h => by omega
          have CT := Lib.hid (times_0 · (k + 2 * j) (N * by_ ^ j) S wo · (by have := HS.out.1; have := Nat.pow_pos (n := p) (show 0 < by_ by omega); omega) (by omega) (by have := HJ.out; omega))
          clear hpq hq
          go_wp2_with (go_at_call 165; (with_reducible refine (CT.out _ HN.out).mono ?_); rintro e w2 ⟨v2, rfl, h2, b2⟩; have HN2 := Lib.hid h2; have HB2 := Lib.hid b2; clear h2 b2)
          refine ⟨⟨j + p, 0, by have := HJ.out; have := HS.out.2; omega, rfl, ?_, HB.out.trans (HB2.out.mono HB.out.size)⟩, by have := HS.out.2; simp only [intOf]; omega⟩
          obtain ⟨l, g1, g2, g3, g4, g5⟩ := HN2.out
          exact ⟨l, g1, g2, g3, by rw [g4, HS.out.1, Nat.mul_assoc, ← Nat.pow_add], by omega⟩
theorem below_drewN {B : Nat} {a w : World} (h : Below B a w) (n : Nat) : Below B a (w.drewN n) := ⟨h.os, h.tape, h.output, h.size, h.block⟩
/-- what a comparison tells -/
def CmpPost (w : World) (x y : Nat) (e : Ending) (w' : World) : Prop := ∃ c : Int, e = .returned (.int .i64 c) ∧ (c < 0 ↔ x < y) ∧ (c = 0 ↔ x = y) ∧ Below w.heap.size w w'
set_option maxRecDepth 100000 in
set_option maxHeartbeats 1000000 in
theorem compare_any (a b : Value) (ka kb x y : Nat) (w : World) (ha : Num w a ka x) (hb : Num w b kb y) (hka : ka ≤ 100000) (hkb : kb ≤ 100000) :
    Calls Tryz.prog 169 #[a, b] w (CmpPost w x y) := by
  obtain ⟨la, ⟨A, ca, rfl, xa⟩, oa, ta, rfl, na⟩ := ha
  obtain ⟨lb, ⟨B, cb, rfl, xb⟩, ob, tb, rfl, nb⟩ := hb
  have n1 : (la.length : Int) ≤ 100000 := by omega
  have n2 : (lb.length : Int) ≤ 100000 := by omega
  have HA := Lib.hid xa
  have HB := Lib.hid xb
  have HO := Lib.hid (And.intro oa (And.intro ob (And.intro ta tb)))
  clear xa xb oa ob ta tb na nb hka hkb
  by_cases hl : la.length = lb.length
  · obtain ⟨n, hna⟩ : ∃ n, la.length = n := ⟨_, rfl⟩
    have hnb : lb.length = n := by omega
    rw [hna] at n1 ⊢
    rw [hnb] at ⊢
    have HL := Lib.hid (And.intro hna hnb)
    clear hl hna hnb n2
    go_enter Tryz.func169, Tryz.ntmps169
    go_wp2_with fail
    go_loopw [5] (fun s5 wr => ∃ i : Nat, i ≤ n ∧ s5 = .int .i64 ((i : Int) - 1) ∧ la.drop i = lb.drop i ∧ Below w.heap.size w wr) (fun s5 _ => (intOf s5 + 1).toNat)
    case atStart => exact ⟨n, Nat.le_refl _, by go_num, by rw [List.drop_eq_nil_of_le (by rw [HL.out.1]; exact Nat.le_refl _), List.drop_eq_nil_of_le (by rw [HL.out.2]; exact Nat.le_refl _)], Below.refl _ _⟩
    case round =>
      obtain ⟨i, hi, h5, hd, hwr⟩ := hrel
      obtain ⟨wo, rfl⟩ : ∃ wo : World, wo = wr := ⟨_, rfl⟩
      have HW := Lib.hid hwr
      clear hwr
      cases i with
      | zero =>
        have h5' : u5 = .int .i64 (-1) := h5
        subst h5'
        have he : la = lb := hd
        have HE := Lib.hid he
        clear hd he hi h5
        go_wp2_with fail
        go_ret
        exact ⟨0, rfl, by rw [HE.out]; simp, by rw [HE.out]; simp, HW.out⟩
      | succ m =>
        have h5' : u5 = .int .i64 (m : Int) := by rw [h5]; congr 1; omega
        subst h5'
        have hm1 : m < la.length := by rw [HL.out.1]; exact hi
        have hm2 : m < lb.length := by rw [HL.out.2]; exact hi
        obtain ⟨ga, rfl, lga, cca⟩ := HA.out (by intro e; subst e; simp at hm1)
        obtain ⟨gb, rfl, lgb, ccb⟩ := HB.out (by intro e; subst e; simp at hm2)
        have c1 := (HW.out.cell (p := ⟨ga, m, none⟩) lga).trans (cca m hm1)
        have c2 := (HW.out.cell (p := ⟨gb, m, none⟩) lgb).trans (ccb m hm2)
        have hxa := HO.out.1 _ (List.getElem_mem hm1)
        have hxb := HO.out.2.1 _ (List.getElem_mem hm2)
        have hlt := part_lt la lb HO.out.1 (by rw [HL.out.1, HL.out.2]) m hm1 hd
        have hgt := part_lt lb la HO.out.2.1 (by rw [HL.out.1, HL.out.2]) m hm2 hd.symm
        have heq : la[m] = lb[m] → la.drop m = lb.drop m := fun h => by rw [List.drop_eq_getElem_cons hm1, List.drop_eq_getElem_cons hm2, h, hd]
        obtain ⟨x, hx⟩ : ∃ x, la[m] = x := ⟨_, rfl⟩
        obtain ⟨y, hy⟩ : ∃ y, lb[m] = y := ⟨_, rfl⟩
        rw [hx] at c1 hxa
        rw [hy] at c2 hxb
        rw [hx, hy] at hlt hgt heq
        have HF := Lib.hid (And.intro hlt (And.intro hgt heq))
        have hmn : (m : Int) < (n : Int) := by omega
        clear cca ccb hx hy hlt hgt heq hd hm1 hm2 h5
        rcases Nat.lt_trichotomy x y with h | h | h
        · have d1 : (x : Int) < (y : Int) := by omega
          go_wp2_with fail
          go_quiet (fail)
          go_wp2_with fail
          go_ret
          have := HF.out.1 h
          exact ⟨-1, rfl, by simp [this], by omega, below_drewN HW.out _⟩
        · subst h
          go_wp2_with fail
          go_quiet (fail)
          go_wp2_with fail
          go_quiet (fail)
          go_wp2_with fail
          exact ⟨⟨m, by omega, by go_num, HF.out.2.2 (by first | rfl | trivial), by first | exact below_drewN HW.out _ | exact below_drewN (below_drewN HW.out _) _⟩, by simp only [intOf]; omega⟩
        · have d1 : (y : Int) < (x : Int) := by omega
          have d2 : ¬ (x : Int) < (y : Int) := by omega
          go_wp2_with fail
          go_quiet (fail)
          go_wp2_with fail
          go_quiet (fail)
          go_wp2_with fail
          go_ret
          have := HF.out.2.1 h
          exact ⟨1, rfl, by omega, by omega, below_drewN (below_drewN HW.out _) _⟩
  · have HL := Lib.hid hl
    obtain ⟨p, hp⟩ : ∃ p, la.length = p := ⟨_, rfl⟩
    obtain ⟨q, hq⟩ : ∃ q, lb.length = q := ⟨_, rfl⟩
    rw [hp] at n1 hl ⊢
    rw [hq] at n2 hl ⊢
    have HP := Lib.hid (And.intro hp hq)
    have hne : ((p : Int) == (q : Int)) = false := by rw [beq_eq_false_iff_ne]; omega
    have hne2 : ((p : Int) != (q : Int)) = true := by rw [bne_iff_ne]; omega
    clear hp hq
    go_enter Tryz.func169, Tryz.ntmps169
    go_wp2_with fail
    go_ret
    refine ⟨(p : Int) - q, rfl, ?_, ?_, Below.refl _ _⟩
    · constructor
      · intro h
        exact len_lt HO.out.1 HO.out.2.2.2 (by rw [HP.out.1, HP.out.2]; omega)
      · intro h
        by_cases hpq : p < q
        · omega
        · have := len_lt (a := lb) (b := la) HO.out.2.1 HO.out.2.2.1 (by rw [HP.out.1, HP.out.2]; omega)
          omega
    · constructor
      · intro h
        omega
      · intro h
        by_cases hpq : p < q
        · have := len_lt (a := la) (b := lb) HO.out.1 HO.out.2.2.2 (by rw [HP.out.1, HP.out.2]; omega)
          omega
        · have := len_lt (a := lb) (b := la) HO.out.2.1 HO.out.2.2.1 (by rw [HP.out.1, HP.out.2]; omega)
          omega
end Go.Proofs.YtcbgkbidgpemfaaGreatDoor.rg

/- burnishref16: the walks of whole and against. Conditions: as each theorem states. -/
namespace Go.Proofs.YtcbgkbidgpemfaaGreatDoor.rg
open Go.RowKit
open Go.Proofs.YtcbgkbidgpemfaaGreatDoor.rdf

theorem dv_snoc (n : Nat) (l : List UInt8) (c : UInt8) : dv n (l ++ [c]) = dv n l * 10 + (c.toNat - 48) := by
  unfold dv
  rw [List.foldl_append]
  rfl
set_option maxRecDepth 100000 in
set_option maxHeartbeats 1000000 in
theorem whole_any (s : ByteArray) (hs : s.size ≤ 60) (hd : ∀ c ∈ s.data.toList, isD c = true) (w : World) :
    Calls Tryz.prog 129 #[.string s] w (NumPost w 120 (dv 0 s.data.toList)) := by
  have HD := Lib.hid hd
  clear hd
  have hlen := list_len s
  have HL := Lib.hid hlen
  clear hlen
  have hsi : (s.size : Int) ≤ 60 := by omega
  go_enter Tryz.func129, Tryz.ntmps129
  go_wp2_with fail
  go_loopw [3, 4] (fun s3 s4 wr => ∃ i : Nat, i ≤ s.size ∧ s4 = .int .i64 i ∧ Num wr s3 (2 * i) (dv 0 (s.data.toList.take i)) ∧ Below w.heap.size w wr) (fun _ s4 _ => s.size - (intOf s4).toNat)
  case atStart => exact ⟨0, Nat.zero_le _, rfl, ⟨[], BigV.nil _ _ _, (fun x hx => by cases hx), (fun h => absurd rfl h), rfl, Nat.le_refl _⟩, Below.refl _ _⟩
  case round =>
    obtain ⟨i, hi, rfl, hN, hB⟩ := hrel
    obtain ⟨wo, rfl⟩ : ∃ wo : World, wo = wr := ⟨_, rfl⟩
    have HB := Lib.hid hB
    have HN := Lib.hid hN
    clear hB hN
    by_cases hlt : i < s.size
    · have hc := HD.out s[i] (by show s.data[i] ∈ _; simp)
      have h5 := (isD_iff _).1 hc
      have hlt' : (i : Int) < (s.size : Int) := by omega
      have e1 : s.data.toList.take (i + 1) = s.data.toList.take i ++ [s[i]] := by
        rw [List.take_succ_eq_append_getElem (by rw [HL.out]; exact hlt)]
        rfl
      obtain ⟨m, hm⟩ : ∃ m, s[i].toNat - 48 = m := ⟨_, rfl⟩
      have e2 : dv 0 (s.data.toList.take (i + 1)) = dv 0 (s.data.toList.take i) * 10 + m := by rw [e1, dv_snoc, hm]
      have HE := Lib.hid e2
      have hmi : (s[i].toNat : Int) - 48 = (m : Int) := by omega
      have hm9 : (m : Int) ≤ 9 := by omega
      have CT := Lib.hid (fun (v : Value) (h : Num wo v (2 * i) (dv 0 (s.data.toList.take i))) => show Calls Tryz.prog 165 #[v, .int .u64 10, .int .u64 (m : Int)] wo (NumPost wo (2 * i + 2) (dv 0 (s.data.toList.take i) * 10 + m)) from times_num v _ _ 10 m wo h (by decide) (by decide) (by omega) (by omega))
      have y5 : (48 : Int) ≤ (s[i].toNat : Int) := by omega
      have y6 : (s[i].toNat : Int) ≤ 57 := by omega
      clear e1 e2 hm hc h5
      go_wp2_with (go_at_call 165; (with_reducible refine (CT.out _ HN.out).mono ?_); rintro e w2 ⟨v2, rfl, h2, b2⟩; have HN2 := Lib.hid h2; have HB2 := Lib.hid b2; clear h2 b2)
      refine ⟨⟨i + 1, by omega, by go_num, ?_, HB.out.trans (HB2.out.mono HB.out.size)⟩, by simp only [intOf]; omega⟩
      rw [HE.out]
      exact HN2.out
    · obtain rfl : i = s.size := by omega
      have HR := Lib.hid (show dv 0 (s.data.toList.take s.size) = dv 0 s.data.toList by rw [List.take_of_length_le (by rw [HL.out]; exact Nat.le_refl _)])
      clear hlt hi
      go_wp2_with fail
      go_ret
      refine ⟨_, rfl, ?_, HB.out⟩
      obtain ⟨l, g1, g2, g3, g4, g5⟩ := HN.out
      exact ⟨l, g1, g2, g3, by rw [g4, HR.out], by omega⟩
theorem num_k {W : World} {v : Value} {k k' N : Nat} (h : Num W v k N) (hk : k ≤ k') : Num W v k' N := by
  obtain ⟨l, g1, g2, g3, g4, g5⟩ := h
  exact ⟨l, g1, g2, g3, g4, by omega⟩
theorem power10 (v : Value) (k N n : Nat) (w : World) (hv : Num w v k N) (hn : k + 2 * n ≤ 90000) :
    Calls Tryz.prog 168 #[v, .int .u64 10, .int .i64 (n : Int)] w (NumPost w (k + 2 * n) (N * 10 ^ n)) := power_any v k N 10 n w hv (by decide) (by decide) hn
theorem power2 (v : Value) (k N n : Nat) (w : World) (hv : Num w v k N) (hn : k + 2 * n ≤ 90000) :
    Calls Tryz.prog 168 #[v, .int .u64 2, .int .i64 (n : Int)] w (NumPost w (k + 2 * n) (N * 2 ^ n)) := power_any v k N 2 n w hv (by decide) (by decide) hn
set_option maxRecDepth 100000 in
set_option maxHeartbeats 1000000 in
/-- digits times ten to a power against a whole number by a power of two -/
theorem against_any (s : ByteArray) (hs : s.size ≤ 60) (hd : ∀ c ∈ s.data.toList, isD c = true) (P E : Int) (hP : -2000 ≤ P ∧ P ≤ 2000) (hE : -2000 ≤ E ∧ E ≤ 2000) (m : Nat) (hm : m < 18446744073709551616) (w : World) :
    Calls Tryz.prog 131 #[.string s, .int .i64 P, .int .u64 m, .int .i64 E] w (CmpPost w (dv 0 s.data.toList * 10 ^ P.toNat * 2 ^ (-E).toNat) (m * 10 ^ (-P).toNat * 2 ^ E.toNat)) := by
  obtain ⟨D, hD⟩ : ∃ D, dv 0 s.data.toList = D := ⟨_, rfl⟩
  have HW := Lib.hid (fun W => whole_any s hs hd W)
  rw [hD] at HW ⊢
  have HT := Lib.hid (fun (g : Addr) (W : World) => times_nil_num (.slice (some g) 0 0) m W (BigV.nil _ _ _) hm)
  clear hD hs hd
  obtain ⟨p, hp⟩ : ∃ p : Nat, P.natAbs = p := ⟨_, rfl⟩
  obtain ⟨q, hq⟩ : ∃ q : Nat, E.natAbs = q := ⟨_, rfl⟩
  have hp9 : p ≤ 2000 := by omega
  have hq9 : q ≤ 2000 := by omega
  -- what power makes
  have HP := Lib.hid (fun (v : Value) (N : Nat) (W : World) (h : Num W v 120 N) => power10 v 120 N p W h (by omega))
  have HQ := Lib.hid (fun (v : Value) (N : Nat) (W : World) (h : Num W v 4120 N) => power2 v 4120 N q W h (by omega))
  have HC := Lib.hid (fun (a b : Value) (x y : Nat) (W : World) (h1 : Num W a 8120 x) (h2 : Num W b 8120 y) => compare_any a b 8120 8120 x y W h1 h2 (by decide) (by decide))
  by_cases hP0 : 0 < P
  · obtain rfl : P = (p : Int) := by omega
    have e1 : (-(p : Int)).toNat = 0 := by omega
    rw [e1, Int.toNat_natCast, Nat.pow_zero, Nat.mul_one]
    by_cases hE0 : 0 < E
    · obtain rfl : E = (q : Int) := by omega
      have e2 : (-(q : Int)).toNat = 0 := by omega
      rw [e2, Int.toNat_natCast, Nat.pow_zero, Nat.mul_one]
      clear e1 e2 hp hq hP hE
      go_enter Tryz.func131, Tryz.ntmps131
      go_wp2_with (first
        | (go_at_call 129; (with_reducible refine (HW.out _).mono ?_); rintro e w1 ⟨va, rfl, h1, b1⟩; have HA := Lib.hid h1; have B1 := Lib.hid b1; clear h1 b1)
        | (go_at_call 165; (with_reducible refine (HT.out _ _).mono ?_); rintro e w2 ⟨vb, rfl, h2, b2⟩; have HB := Lib.hid h2; have b3 := ((Below.refl _ w1).alloc (Nat.le_refl _) _).trans (b2.mono (by simp)); have HA2 := Lib.hid (HA.out.below b3); have B2 := Lib.hid (B1.out.trans (b3.mono B1.out.size)); clear b2 b3 h2 HA B1)
        | (go_at_call 168; (with_reducible refine (HP.out _ _ _ HA2.out).mono ?_); rintro e w3 ⟨vc, rfl, h3, b3⟩; have HA3 := Lib.hid h3; have HB3 := Lib.hid (HB.out.below b3); have B3 := Lib.hid (B2.out.trans (b3.mono B2.out.size)); clear b3 h3)
        | (go_at_call 168; (with_reducible refine (HQ.out _ _ _ (num_k HB3.out (by omega))).mono ?_); rintro e w4 ⟨vd, rfl, h4, b4⟩; have HB4 := Lib.hid h4; have HA4 := Lib.hid (HA3.out.below b4); have B4 := Lib.hid (B3.out.trans (b4.mono B3.out.size)); clear b4 h4)
        | (go_at_call 169; (with_reducible refine (HC.out _ _ _ _ _ (num_k HA4.out (by omega)) (num_k HB4.out (by omega))).mono ?_); rintro e w5 ⟨c, rfl, c1, c2, b5⟩; have CC := Lib.hid (And.intro c1 c2); have B5 := Lib.hid (B4.out.trans (b5.mono B4.out.size)); clear b5 c1 c2))
      go_ret
      exact ⟨_, rfl, CC.out.1, CC.out.2, B5.out⟩
    · obtain rfl : E = -(q : Int) := by omega
      have e2 : (-(q : Int)).toNat = 0 := by omega
      rw [e2, Int.neg_neg, Int.toNat_natCast, Nat.pow_zero, Nat.mul_one]
      clear e1 e2 hp hq hP hE
      go_enter Tryz.func131, Tryz.ntmps131
      go_wp2_with (first
        | (go_at_call 129; (with_reducible refine (HW.out _).mono ?_); rintro e w1 ⟨va, rfl, h1, b1⟩; have HA := Lib.hid h1; have B1 := Lib.hid b1; clear h1 b1)
        | (go_at_call 165; (with_reducible refine (HT.out _ _).mono ?_); rintro e w2 ⟨vb, rfl, h2, b2⟩; have HB := Lib.hid h2; have b3 := ((Below.refl _ w1).alloc (Nat.le_refl _) _).trans (b2.mono (by simp)); have HA2 := Lib.hid (HA.out.below b3); have B2 := Lib.hid (B1.out.trans (b3.mono B1.out.size)); clear b2 b3 h2 HA B1)
        | (go_at_call 168; (with_reducible refine (HP.out _ _ _ HA2.out).mono ?_); rintro e w3 ⟨vc, rfl, h3, b3⟩; have HA3 := Lib.hid h3; have HB3 := Lib.hid (HB.out.below b3); have B3 := Lib.hid (B2.out.trans (b3.mono B2.out.size)); clear b3 h3)
        | (go_at_call 168; (with_reducible refine (HQ.out _ _ _ (num_k HA3.out (by omega))).mono ?_); rintro e w4 ⟨vd, rfl, h4, b4⟩; have HA4 := Lib.hid h4; have HB4 := Lib.hid (HB3.out.below b4); have B4 := Lib.hid (B3.out.trans (b4.mono B3.out.size)); clear b4 h4)
        | (go_at_call 169; (with_reducible refine (HC.out _ _ _ _ _ (num_k HA4.out (by omega)) (num_k HB4.out (by omega))).mono ?_); rintro e w5 ⟨c, rfl, c1, c2, b5⟩; have CC := Lib.hid (And.intro c1 c2); have B5 := Lib.hid (B4.out.trans (b5.mono B4.out.size)); clear b5 c1 c2))
      go_ret
      exact ⟨_, rfl, CC.out.1, CC.out.2, B5.out⟩
  · obtain rfl : P = -(p : Int) := by omega
    have e1 : (-(p : Int)).toNat = 0 := by omega
    rw [e1, Int.neg_neg, Int.toNat_natCast, Nat.pow_zero, Nat.mul_one]
    by_cases hE0 : 0 < E
    · obtain rfl : E = (q : Int) := by omega
      have e2 : (-(q : Int)).toNat = 0 := by omega
      rw [e2, Int.toNat_natCast, Nat.pow_zero, Nat.mul_one]
      clear e1 e2 hp hq hP hE
      go_enter Tryz.func131, Tryz.ntmps131
      go_wp2_with (first
        | (go_at_call 129; (with_reducible refine (HW.out _).mono ?_); rintro e w1 ⟨va, rfl, h1, b1⟩; have HA := Lib.hid h1; have B1 := Lib.hid b1; clear h1 b1)
        | (go_at_call 165; (with_reducible refine (HT.out _ _).mono ?_); rintro e w2 ⟨vb, rfl, h2, b2⟩; have HB := Lib.hid h2; have b3 := ((Below.refl _ w1).alloc (Nat.le_refl _) _).trans (b2.mono (by simp)); have HA2 := Lib.hid (HA.out.below b3); have B2 := Lib.hid (B1.out.trans (b3.mono B1.out.size)); clear b2 b3 h2 HA B1)
        | (go_at_call 168; (with_reducible refine (HP.out _ _ _ (num_k HB.out (by omega))).mono ?_); rintro e w3 ⟨vc, rfl, h3, b3⟩; have HB3 := Lib.hid h3; have HA3 := Lib.hid (HA2.out.below b3); have B3 := Lib.hid (B2.out.trans (b3.mono B2.out.size)); clear b3 h3)
        | (go_at_call 168; (with_reducible refine (HQ.out _ _ _ (num_k HB3.out (by omega))).mono ?_); rintro e w4 ⟨vd, rfl, h4, b4⟩; have HB4 := Lib.hid h4; have HA4 := Lib.hid (HA3.out.below b4); have B4 := Lib.hid (B3.out.trans (b4.mono B3.out.size)); clear b4 h4)
        | (go_at_call 169; (with_reducible refine (HC.out _ _ _ _ _ (num_k HA4.out (by omega)) (num_k HB4.out (by omega))).mono ?_); rintro e w5 ⟨c, rfl, c1, c2, b5⟩; have CC := Lib.hid (And.intro c1 c2); have B5 := Lib.hid (B4.out.trans (b5.mono B4.out.size)); clear b5 c1 c2))
      go_ret
      exact ⟨_, rfl, CC.out.1, CC.out.2, B5.out⟩
    · obtain rfl : E = -(q : Int) := by omega
      have e2 : (-(q : Int)).toNat = 0 := by omega
      rw [e2, Int.neg_neg, Int.toNat_natCast, Nat.pow_zero, Nat.mul_one]
      clear e1 e2 hp hq hP hE
      go_enter Tryz.func131, Tryz.ntmps131
      go_wp2_with (first
        | (go_at_call 129; (with_reducible refine (HW.out _).mono ?_); rintro e w1 ⟨va, rfl, h1, b1⟩; have HA := Lib.hid h1; have B1 := Lib.hid b1; clear h1 b1)
        | (go_at_call 165; (with_reducible refine (HT.out _ _).mono ?_); rintro e w2 ⟨vb, rfl, h2, b2⟩; have HB := Lib.hid h2; have b3 := ((Below.refl _ w1).alloc (Nat.le_refl _) _).trans (b2.mono (by simp)); have HA2 := Lib.hid (HA.out.below b3); have B2 := Lib.hid (B1.out.trans (b3.mono B1.out.size)); clear b2 b3 h2 HA B1)
        | (go_at_call 168; (with_reducible refine (HP.out _ _ _ (num_k HB.out (by omega))).mono ?_); rintro e w3 ⟨vc, rfl, h3, b3⟩; have HB3 := Lib.hid h3; have HA3 := Lib.hid (HA2.out.below b3); have B3 := Lib.hid (B2.out.trans (b3.mono B2.out.size)); clear b3 h3)
        | (go_at_call 168; (with_reducible refine (HQ.out _ _ _ (num_k HA3.out (by omega))).mono ?_); rintro e w4 ⟨vd, rfl, h4, b4⟩; have HA4 := Lib.hid h4; have HB4 := Lib.hid (HB3.out.below b4); have B4 := Lib.hid (B3.out.trans (b4.mono B3.out.size)); clear b4 h4)
        | (go_at_call 169; (with_reducible refine (HC.out _ _ _ _ _ (num_k HA4.out (by omega)) (num_k HB4.out (by omega))).mono ?_); rintro e w5 ⟨c, rfl, c1, c2, b5⟩; have CC := Lib.hid (And.intro c1 c2); have B5 := Lib.hid (B4.out.trans (b5.mono B4.out.size)); clear b5 c1 c2))
      go_ret
      exact ⟨_, rfl, CC.out.1, CC.out.2, B5.out⟩
end Go.Proofs.YtcbgkbidgpemfaaGreatDoor.rg

/- burnishref01.Next upward from 0 on, and burnishref16.near. Conditions: as each theorem states. -/
namespace Go.Proofs.YtcbgkbidgpemfaaGreatDoor.rg
open Go.RowKit
open Go.Proofs.YtcbgkbidgpemfaaGreatDoor.nodew
open Go.Proofs.YtcbgkbidgpemfaaGreatDoor.flatm
open Go.Proofs.YtcbgkbidgpemfaaGreatDoor.dcw
open Go.Proofs.YtcbgkbidgpemfaaGreatDoor.fpm
open Go.Proofs.YtcbgkbidgpemfaaGreatDoor.rdf
open Go.Proofs.YtcbgkbidgpemfaaGreatDoor.prnw
open Go.Proofs.YtcbgkbidgpemfaaGreatDoor.dmx
attribute [local go_sem] nodew.fo_eq bits_run frombits_run

theorem fo_inf {X : Nat} (h : X < 9218868437227405312) : fo 9218868437227405312 X = some .gt ∧ fo X 9218868437227405312 = some .lt := by
  obtain ⟨m, a, e1, _⟩ := read_num X (by omega)
  have e2 : Ieee.Format.read Ieee.double 9218868437227405312 = .infinity false := by kernel_rfl
  constructor
  · show Ieee.Datum.order (Ieee.Format.read Ieee.double 9218868437227405312) (Ieee.Format.read Ieee.double X) = _
    rw [e1, e2]
    rfl
  · show Ieee.Datum.order (Ieee.Format.read Ieee.double X) (Ieee.Format.read Ieee.double 9218868437227405312) = _
    rw [e1, e2]
    rfl
theorem rright_pos (X : Nat) (h : X < 9218868437227405312) (w : World) : Calls Tryz.prog 123 #[.float .f64 X] w fun e w' => e = .returned (.bool true) ∧ w' = w := by
  obtain ⟨n1, n2, n3⟩ := plain_parts h
  have HI := Lib.hid (fun W => show Calls Tryz.prog 111 #[.float .f64 X, .int .i64 0] W fun e w' => e = .returned (.bool false) ∧ w' = W from by have := isInf_any X W; rw [n2] at this; exact this)
  have HA := Lib.hid (fun W => show Calls Tryz.prog 110 #[.float .f64 X] W fun e w' => e = .returned (.bool false) ∧ w' = W from by have := isNaN_any X W; rw [n1] at this; exact this)
  have HS := Lib.hid (fun W => show Calls Tryz.prog 112 #[.float .f64 X] W fun e w' => e = .returned (.bool false) ∧ w' = W from by have := signbit_any X W; rw [n3] at this; exact this)
  clear n1 n2 n3
  go_enter Tryz.func123, Tryz.ntmps123
  go_wp2_with (first
    | (go_at_call 110; (with_reducible refine (HA.out _).mono ?_); rintro e w' ⟨rfl, rfl⟩)
    | (go_at_call 111; (with_reducible refine (HI.out _).mono ?_); rintro e w' ⟨rfl, rfl⟩)
    | (go_at_call 112; (with_reducible refine (HS.out _).mono ?_); rintro e w' ⟨rfl, rfl⟩))
  all_goals go_ret
  all_goals exact ⟨rfl, rfl⟩
theorem inf_run (w : World) : Calls Tryz.prog 171 #[.int .i64 1] w fun e w' => e = .returned (.float .f64 9218868437227405312) ∧ w' = w := by
  go_enter Tryz.func171, Tryz.ntmps171
  go_wp2_with fail
  go_ret
  exact ⟨rfl, rfl⟩
theorem copy_1 (w : World) : Calls Tryz.prog 209 #[.float .f64 1, .float .f64 9218868437227405312] w fun e w' => e = .returned (.float .f64 1) ∧ w' = w := by
  have b1 : bits BinOp.andNot IntKind.u64 1 9223372036854775808 = 1 := by decide +kernel
  have b2 : bits BinOp.and IntKind.u64 9218868437227405312 9223372036854775808 = 0 := by decide +kernel
  have b3 : bits BinOp.or IntKind.u64 1 0 = 1 := by decide +kernel
  go_enter Tryz.func209, Tryz.ntmps209
  go_wp2_with fail
  go_ret
  exact ⟨rfl, rfl⟩
theorem after_up (X : Nat) (h : X < 9218868437227405312) (w : World) : Calls Tryz.prog 170 #[.float .f64 X, .float .f64 9218868437227405312] w fun e w' => e = .returned (.float .f64 (X + 1)) ∧ w' = w := by
  obtain ⟨n1, -, -⟩ := plain_parts h
  have n2 : nanF 9218868437227405312 = false := by kernel_rfl
  have HA := Lib.hid (fun W => show Calls Tryz.prog 110 #[.float .f64 X] W fun e w' => e = .returned (.bool false) ∧ w' = W from by have := isNaN_any X W; rw [n1] at this; exact this)
  have HB := Lib.hid (fun W => show Calls Tryz.prog 110 #[.float .f64 9218868437227405312] W fun e w' => e = .returned (.bool false) ∧ w' = W from by have := isNaN_any 9218868437227405312 W; rw [n2] at this; exact this)
  obtain ⟨i1, i2⟩ := fo_inf h
  by_cases h0 : X = 0
  · subst h0
    have z : fo 0 0 = some .eq := by kernel_rfl
    clear n1 n2 h
    go_enter Tryz.func170, Tryz.ntmps170
    go_wp2_with (first
      | (go_at_call 110; (with_reducible refine (HA.out _).mono ?_); rintro e w' ⟨rfl, rfl⟩)
      | (go_at_call 110; (with_reducible refine (HB.out _).mono ?_); rintro e w' ⟨rfl, rfl⟩)
      | (go_at_call 209; (with_reducible refine (copy_1 _).mono ?_); rintro e w' ⟨rfl, rfl⟩))
    go_ret
    exact ⟨rfl, rfl⟩
  · have z : fo X 0 = some .gt := by
      rw [fo_sv (by omega) (by decide), sv_pos h, sv_pos (by decide), Int.compare_eq_ite_lt]
      have := val_lt (show 0 < X by omega)
      rw [if_neg (by omega), if_pos (by omega)]
    have hx : (X : Int) < 9218868437227405312 := by omega
    clear n1 n2 h h0
    go_enter Tryz.func170, Tryz.ntmps170
    go_wp2_with (first
      | (go_at_call 110; (with_reducible refine (HA.out _).mono ?_); rintro e w' ⟨rfl, rfl⟩)
      | (go_at_call 110; (with_reducible refine (HB.out _).mono ?_); rintro e w' ⟨rfl, rfl⟩))
    go_ret
    exact ⟨by congr 2, rfl⟩
theorem next_up (X : Nat) (h : X + 1 < 9218868437227405312) (w : World) : Calls Tryz.prog 132 #[.float .f64 X, .bool true] w fun e w' => e = .returned (.tuple #[.float .f64 (X + 1), .int .i64 0]) ∧ w' = w := by
  obtain ⟨-, n2, -⟩ := plain_parts h
  have HI := Lib.hid (fun W => show Calls Tryz.prog 111 #[.float .f64 (X + 1), .int .i64 0] W fun e w' => e = .returned (.bool false) ∧ w' = W from by have := isInf_any (X + 1) W; rw [n2] at this; exact this)
  have HR := Lib.hid (fun W => rright_pos X (by omega) W)
  have HN := Lib.hid (fun W => after_up X (by omega) W)
  have z : (fo (X + 1) 0 == some .eq) = false := by
    rw [fo_eq_pos h (by decide)]
    exact decide_eq_false (by omega)
  obtain ⟨Y, hY⟩ : ∃ Y, X + 1 = Y := ⟨_, rfl⟩
  rw [hY] at HI HN z ⊢
  have HP := Lib.hid (fun W => show Calls Tryz.prog 172 #[.float .f64 Y] W fun e w' => e = .returned (.float .f64 Y) ∧ w' = W from by
    clear HI HN HR hY n2 h w
    go_enter Tryz.func172, Tryz.ntmps172
    go_wp2_with fail
    go_ret
    exact ⟨rfl, rfl⟩)
  clear n2 h hY z
  go_enter Tryz.func132, Tryz.ntmps132
  go_wp2_with (first
    | (go_at_call 123; (with_reducible refine (HR.out _).mono ?_); rintro e w' ⟨rfl, rfl⟩)
    | (go_at_call 171; (with_reducible refine (inf_run _).mono ?_); rintro e w' ⟨rfl, rfl⟩)
    | (go_at_call 170; (with_reducible refine (HN.out _).mono ?_); rintro e w' ⟨rfl, rfl⟩)
    | (go_at_call 111; (with_reducible refine (HI.out _).mono ?_); rintro e w' ⟨rfl, rfl⟩)
    | (go_at_call 172; (with_reducible refine (HP.out _).mono ?_); rintro e w' ⟨rfl, rfl⟩))
  go_ret2
  exact ⟨rfl, rfl⟩
end Go.Proofs.YtcbgkbidgpemfaaGreatDoor.rg

/- burnishref16.near: the nearest number to digits times ten to a power, by halving. Conditions: as each theorem states. -/
namespace Go.Proofs.YtcbgkbidgpemfaaGreatDoor.rg
open Go.RowKit
open Go.Proofs.YtcbgkbidgpemfaaGreatDoor.nodew
open Go.Proofs.YtcbgkbidgpemfaaGreatDoor.flatm
open Go.Proofs.YtcbgkbidgpemfaaGreatDoor.dcw
open Go.Proofs.YtcbgkbidgpemfaaGreatDoor.fpm
open Go.Proofs.YtcbgkbidgpemfaaGreatDoor.rdf
open Go.Proofs.YtcbgkbidgpemfaaGreatDoor.prnw
open Go.Proofs.YtcbgkbidgpemfaaGreatDoor.dmx
attribute [local go_sem] nodew.fo_eq bits_run frombits_run

def NearPost (w : World) (r : Nat × Bool) (e : Ending) (w' : World) : Prop := e = .returned (.tuple #[.float .f64 r.1, .bool r.2]) ∧ Below w.heap.size w w'
theorem whole_len {W : World} {v : Value} {k N : Nat} (h : Num W v k N) : ∃ (A : Option Addr) (L c : Nat), v = .slice A L c ∧ (L = 0 ↔ N = 0) := by
  obtain ⟨l, ⟨A, c, rfl, _⟩, h2, h3, h4, h5⟩ := h
  refine ⟨A, l.length, c, rfl, ?_⟩
  rw [← h4, trim_nil h3]
  exact ⟨List.eq_nil_of_length_eq_zero, fun h => by rw [h]; rfl⟩
set_option maxRecDepth 100000 in
set_option maxHeartbeats 2000000 in
theorem near_any (s : ByteArray) (hs : s.size ≤ 30) (hd : ∀ c ∈ s.data.toList, isD c = true) (P : Int) (hP : -2000 ≤ P ∧ P ≤ 2000) (w : World) :
    Calls Tryz.prog 96 #[.string s, .int .i64 P] w (NearPost w (nearR (dv 0 s.data.toList) P)) := by
  have hlen := list_len s
  have htiny := near_tiny (D := s.data.toList) hd (by omega) (P := P)
  have HW := Lib.hid (fun W => whole_any s (by omega) hd W)
  have HA := Lib.hid (fun (m : Nat) (E : Int) (hm : m < 18446744073709551616) (hE : -2000 ≤ E ∧ E ≤ 2000) (W : World) => against_any s (by omega) hd P E hP hE m hm W)
  obtain ⟨N, hN⟩ : ∃ N, dv 0 s.data.toList = N := ⟨_, rfl⟩
  rw [hN] at HW HA htiny ⊢
  clear hN hd hs hlen
  obtain ⟨R, hR⟩ : ∃ R, nearR N P = R := ⟨_, rfl⟩
  rw [hR] at htiny ⊢
  have HR := Lib.hid hR
  have HT := Lib.hid htiny
  clear hR htiny
  by_cases hp8 : P < -800
  · obtain rfl := HT.out (.inl hp8)
    go_enter Tryz.func96, Tryz.ntmps96
    go_wp2_with fail
    go_ret2
    exact ⟨rfl, Below.refl _ _⟩
  by_cases hN0 : N = 0
  · obtain rfl := HT.out (.inr hN0)
    go_enter Tryz.func96, Tryz.ntmps96
    go_wp2_with (go_at_call 129; (with_reducible refine (HW.out _).mono ?_); rintro e w1 ⟨v, rfl, h1, b1⟩; obtain ⟨A, L, c, rfl, hL⟩ := whole_len h1; obtain rfl := hL.2 hN0; have B1 := Lib.hid b1; clear b1 hL h1)
    go_ret2
    exact ⟨rfl, B1.out⟩
  by_cases hp4 : 400 < P
  · have hr := near_huge (N := N) (by omega) hp4
    rw [HR.out] at hr
    subst hr
    go_enter Tryz.func96, Tryz.ntmps96
    go_wp2_with (go_at_call 129; (with_reducible refine (HW.out _).mono ?_); rintro e w1 ⟨v, rfl, h1, b1⟩; obtain ⟨A, L, c, rfl, hL⟩ := whole_len h1; have hL1 : ((L : Int) == 0) = false := (by rw [beq_eq_false_iff_ne]; omega); have B1 := Lib.hid b1; clear b1 hL h1)
    go_ret2
    exact ⟨rfl, B1.out⟩
  obtain ⟨x, hx⟩ : ∃ x, N * 10 ^ P.toNat = x := ⟨_, rfl⟩
  obtain ⟨y, hy⟩ : ∃ y, 10 ^ (-P).toNat = y := ⟨_, rfl⟩
  have hy0 : 0 < y := by rw [← hy]; exact Nat.pow_pos (by decide)
  have hend := fun X => near_end (N := N) (P := P) (X := X)
  rw [hx, hy, HR.out] at hend
  rw [hx, hy] at HA
  have HE := Lib.hid hend
  clear hend hx hy
  go_enter Tryz.func96, Tryz.ntmps96
  go_wp2_with (go_at_call 129; (with_reducible refine (HW.out _).mono ?_); rintro e w1 ⟨v, rfl, h1, b1⟩; obtain ⟨A, L, c, rfl, hL⟩ := whole_len h1; have hL1 : ((L : Int) == 0) = false := (by rw [beq_eq_false_iff_ne]; omega); have B1 := Lib.hid b1; clear b1 hL h1)
  go_loopw [6, 7] (fun s6 s7 wr => ∃ low high : Nat, s6 = .int .u64 low ∧ s7 = .int .u64 high ∧ NI x y low high ∧ Below w.heap.size w wr) (fun s6 s7 _ => (intOf s7 - intOf s6).toNat)
  case atStart => exact ⟨0, 9218868437227405311, rfl, rfl, NI.start x y, B1.out⟩
  case round =>
    obtain ⟨low, high, rfl, rfl, hNI, hB⟩ := hrel
    obtain ⟨wo, rfl⟩ : ∃ wo : World, wo = wr := ⟨_, rfl⟩
    have HB := Lib.hid hB
    have hle := hNI.le
    have htop := hNI.top
    have HN := Lib.hid hNI
    clear hB hNI B1
    by_cases hlt : low < high
    · obtain ⟨d, hd⟩ : ∃ d, high - low = d := ⟨_, rfl⟩
      obtain ⟨q, hq⟩ : ∃ q, d / 2 = q := ⟨_, rfl⟩
      obtain ⟨mid, hmid⟩ : ∃ mid, high - q = mid := ⟨_, rfl⟩
      have d1 : (high : Int) - (low : Int) = (d : Int) := by omega
      have d2 : (d : Int) / 2 = (q : Int) := by omega
      have d3 : (high : Int) - (q : Int) = (mid : Int) := by omega
      have m1 : low < mid := by omega
      have m2 : mid ≤ high := by omega
      have mX : mid < 9218868437227405312 := by omega
      have HPc := Lib.hid (fun W => pieces_any mid mX W)
      have hM := ftM_pos mid (by omega)
      have hEb : -1074 ≤ ftE mid - 52 ∧ ftE mid - 52 ≤ 1000 := by unfold ftE; split <;> omega
      have hag := (against_eq x y (ftM mid) (ftE mid - 52) (by omega)).1
      rw [at_qv mid y] at hag
      have HAc := Lib.hid (fun W => HA.out (ftM mid) (ftE mid - 52) (by omega) (by omega) W)
      obtain ⟨M, hMe⟩ : ∃ M, ftM mid = M := ⟨_, rfl⟩
      obtain ⟨E, hEe⟩ : ∃ E, ftE mid - 52 = E := ⟨_, rfl⟩
      rw [hMe, hEe] at HPc HAc hag
      have HG := Lib.hid hag
      have di : (low : Int) < (high : Int) := by omega
      have MM := Lib.hid (And.intro m1 (And.intro m2 hlt))
      have hi9 : (high : Int) ≤ 9218868437227405311 := by omega
      clear hag hMe hEe hM hEb hd hq hmid HA HT HR HE
      go_wp2_with (first
        | (go_at_call 130; (with_reducible refine (HPc.out _).mono ?_); rintro e w' ⟨rfl, rfl⟩)
        | (go_at_call 131; (with_reducible refine (HAc.out _).mono ?_); rintro e w5 ⟨c, rfl, c1, c2, b5⟩; have CC := Lib.hid (And.intro c1 c2); have B5 := Lib.hid (HB.out.trans (b5.mono HB.out.size)); clear b5 c1 c2))
      · refine ⟨⟨mid, high, rfl, rfl, HN.out.up m2 (Nat.le_of_not_lt fun h => ?_), B5.out⟩, ?_⟩
        · have := CC.out.1.2 (HG.out.2 h)
          omega
        · simp only [intOf]
          omega
      · refine ⟨⟨low, mid - 1, rfl, by congr 1; omega, HN.out.down m1 m2 (HG.out.1 (CC.out.1.1 (by assumption))), B5.out⟩, ?_⟩
        simp only [intOf]
        omega
    · obtain rfl : low = high := by omega
      have hE := HE.out low HN.out
      have mX : low < 9218868437227405312 := by omega
      have HPc := Lib.hid (fun W => pieces_any low mX W)
      have hM : ftM low < 9007199254740992 := by
        by_cases h0 : low = 0
        · subst h0; decide
        · exact (ftM_pos low (by omega)).2
      have hEb : -1074 ≤ ftE low - 52 ∧ ftE low - 52 ≤ 1000 := by unfold ftE; split <;> omega
      have hag := against_eq x y (2 * ftM low + 1) (ftE low - 52 - 1) (by omega)
      rw [at_endU low y] at hag
      have HAc := Lib.hid (fun W => HA.out (2 * ftM low + 1) (ftE low - 52 - 1) (by omega) (by omega) W)
      obtain ⟨M, hMe⟩ : ∃ M, ftM low = M := ⟨_, rfl⟩
      obtain ⟨E, hEe⟩ : ∃ E, ftE low - 52 = E := ⟨_, rfl⟩
      rw [hMe, hEe] at HPc HAc hag
      rw [hMe] at hE hM
      rw [hEe] at hEb
      obtain ⟨K, hK⟩ : ∃ K, 2 * M + 1 = K := ⟨_, rfl⟩
      obtain ⟨E1, hE1⟩ : ∃ E1, E - 1 = E1 := ⟨_, rfl⟩
      rw [hK, hE1] at HAc hag
      have HG := Lib.hid hag
      have HE2 := Lib.hid hE
      have k1 : 2 * (M : Int) + 1 = (K : Int) := by omega
      have M9 : (M : Int) < 9007199254740992 := by omega
      have E9 : -1074 ≤ E ∧ E ≤ 1000 := hEb
      have NX := Lib.hid (fun (h : low ≠ 9218868437227405311) W => next_up low (by omega) W)
      have HMX := Lib.hid (show (fo low 9218868437227405311 == some .eq) = decide (low = 9218868437227405311) from fo_eq_pos mX (by decide))
      clear hag hMe hEe hM hEb HA HT HE hE hK hlt HN htop hle
      go_upto_region 15 with (first
        | (go_at_call 130; (with_reducible refine (HPc.out _).mono ?_); rintro e w' ⟨rfl, rfl⟩)
        | (go_at_call 131; (with_reducible refine (HAc.out _).mono ?_); rintro e w5 ⟨c, rfl, c1, c2, b5⟩; have CC := Lib.hid (And.intro c1 c2); have B5 := Lib.hid (HB.out.trans (b5.mono HB.out.size)); clear b5 c1 c2))
      have hc := CC.out
      have hg := HG.out
      have he := HE2.out
      clear HAc HPc
      rcases Nat.lt_trichotomy (x * 2 ^ unB) (endU low * y) with h | h | h
      · have c0 : c < 0 := hc.1.2 (hg.1.2 h)
        rw [if_neg (by omega)] at he
        subst he
        have d2 : (c == 0) = false := by rw [beq_eq_false_iff_ne]; omega
        have d3 : decide (0 < c) = false := decide_eq_false (by omega)
        clear hc hg h HG HE2 CC c0
        go_wp2_with fail
        go_ret2
        exact ⟨rfl, B5.out⟩
      · have c0 : c = 0 := hc.2.2 (hg.2.2 h)
        subst c0
        by_cases hp : M % 2 = 1
        · rw [if_pos (.inr ⟨h, hp⟩)] at he
          have hpi : (M : Int) % 2 = 1 := by omega
          by_cases hmax : low = 9218868437227405311
          · have hf := HMX.out
            rw [decide_eq_true hmax] at hf
            rw [if_pos hmax] at he
            subst he
            clear hc hg h HG HE2 CC hp hmax
            go_wp2_with fail
            go_ret2
            exact ⟨rfl, B5.out⟩
          · have hf := HMX.out
            rw [decide_eq_false hmax] at hf
            rw [if_neg hmax] at he
            subst he
            have HN := Lib.hid (NX.out hmax)
            clear hc hg h HG HE2 CC hp hmax
            go_wp2_with (go_at_call 132; (with_reducible refine (HN.out _).mono ?_); rintro e w' ⟨rfl, rfl⟩)
            go_ret2
            exact ⟨rfl, B5.out⟩
        · rw [if_neg (by omega)] at he
          subst he
          have hpi : (M : Int) % 2 = 0 := by omega
          clear hc hg h HG HE2 CC hp
          go_wp2_with fail
          go_ret2
          exact ⟨rfl, B5.out⟩
      · have c0 : 0 < c := by
          have h1 : ¬ c < 0 := fun hh => by have := hg.1.1 (hc.1.1 hh); omega
          have h2 : ¬ c = 0 := fun hh => by have := hg.2.1 (hc.2.1 hh); omega
          omega
        rw [if_pos (.inl h)] at he
        by_cases hmax : low = 9218868437227405311
        · have hf := HMX.out
          rw [decide_eq_true hmax] at hf
          rw [if_pos hmax] at he
          subst he
          clear hc hg h HG HE2 CC hmax
          go_wp2_with fail
          go_ret2
          exact ⟨rfl, B5.out⟩
        · have hf := HMX.out
          rw [decide_eq_false hmax] at hf
          rw [if_neg hmax] at he
          subst he
          have HN := Lib.hid (NX.out hmax)
          clear hc hg h HG HE2 CC hmax
          go_wp2_with (go_at_call 132; (with_reducible refine (HN.out _).mono ?_); rintro e w' ⟨rfl, rfl⟩)
          go_ret2
          exact ⟨rfl, B5.out⟩
end Go.Proofs.YtcbgkbidgpemfaaGreatDoor.rg
