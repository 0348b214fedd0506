/- A right node in which one number is another: is it right? In plain words. Conditions: as each theorem states. -/
import Derived.Test.YtgblgolkajdfbaaGreatDoorProM
import Derived.Test.YtgblgolkajdfbaaGreatDoorChkA
namespace Go.Proofs.YtgblgolkajdfbaaGreatDoor.chkw
open Go.Proofs.YtgblgolkajdfbaaGreatDoor.nodew

theorem f_put (n : Nd) (hl : n.x.length = 16) (o x j : Nat) (h1 : 1 ≤ o) (h2 : o ≤ 16) (j1 : 1 ≤ j) : (Nd.put n o x).f j = if j = o then x else n.f j := by
  unfold Nd.put Nd.f
  simp only [List.getD_eq_getElem?_getD]
  by_cases h : j = o
  · subst h
    rw [List.getElem?_set_self (by omega), if_pos rfl]
    rfl
  · rw [List.getElem?_set_ne (by omega), if_neg h]
theorem f_zero (n : Nd) (hl : n.x.length = 16) (o j : Nat) (h1 : 1 ≤ o) (h2 : o ≤ 16) (j1 : 1 ≤ j) : (n.zero o).f j = if j = o then 0 else n.f j := f_put n hl o 0 j h1 h2 j1
theorem f_zeros : ∀ (l : List Nat) (n : Nd), n.x.length = 16 → (∀ o ∈ l, 1 ≤ o ∧ o ≤ 16) → ∀ j, 1 ≤ j → (n.zeros l).f j = if j ∈ l then 0 else n.f j
  | [], n, _, _, j, _ => by simp [Nd.zeros]
  | o :: r, n, hl, ho, j, hj => by
    show ((n.zero o).zeros r).f j = _
    rw [f_zeros r (n.zero o) ((n.zero_len o).trans hl) (fun p hp => ho p (by simp [hp])) j hj, f_zero n hl o j (ho o (by simp)).1 (ho o (by simp)).2 hj]
    by_cases h : j = o
    · subst h
      by_cases hr : j ∈ r <;> simp [hr]
    · by_cases hr : j ∈ r <;> simp [h, hr]
theorem offs_range (k : Nat) : ∀ o ∈ offs k, 1 ≤ o ∧ o ≤ 16 := fun o ho => by
  unfold offs at ho
  obtain ⟨d, hd, rfl⟩ := List.mem_map.1 ho
  exact fieldList_range k d hd
theorem nodeOk_iff (n : Nd) (hl : n.x.length = 16) (at_ : Int) : nodeOk n at_ = true ↔ (∀ d ∈ fieldList n.kind, withinF d.2.1 d.2.2 (n.f d.1) = true) ∧ placeOk (decide (0 < belowN n.kind)) n.a at_ = true ∧ placeOk (decide (1 < belowN n.kind)) n.b at_ = true ∧ 0 < (fieldList n.kind).length ∧ ∀ j, 1 ≤ j → j ≤ 16 → j ∉ offs n.kind → n.f j = 0 := by
  unfold nodeOk ndOk bare
  simp only [Bool.and_eq_true, List.all_eq_true, decide_eq_true_eq, beq_iff_eq, List.mem_range]
  have hz := f_zeros (offs n.kind) n hl (offs_range n.kind)
  constructor
  · rintro ⟨⟨⟨⟨h1, h2⟩, h3⟩, h4⟩, h5⟩
    refine ⟨h1, h2, h3, h4, fun j j1 j2 hj => ?_⟩
    have := h5 (j - 1) (by omega)
    rw [show j - 1 + 1 = j by omega, hz j j1, if_neg hj] at this
    exact this
  · rintro ⟨h1, h2, h3, h4, h5⟩
    refine ⟨⟨⟨⟨h1, h2⟩, h3⟩, h4⟩, fun j hj => ?_⟩
    rw [hz (j + 1) (by omega)]
    by_cases h : j + 1 ∈ offs n.kind
    · rw [if_pos h]
    · rw [if_neg h]; exact h5 (j + 1) (by omega) (by omega) h
theorem put_kind (n : Nd) (o x : Nat) : (Nd.put n o x).kind = n.kind ∧ (Nd.put n o x).a = n.a ∧ (Nd.put n o x).b = n.b := ⟨rfl, rfl, rfl⟩
/-- a number that the kind has -/
theorem put_has (n : Nd) (hl : n.x.length = 16) (at_ : Int) (h : nodeOk n at_ = true) (o lo hi x : Nat) (h1 : 1 ≤ o) (h2 : o ≤ 16) (hm : (o, lo, hi) ∈ fieldList n.kind) (hu : ∀ d ∈ fieldList n.kind, d.1 = o → d = (o, lo, hi)) :
    nodeOk (Nd.put n o x) at_ = withinF lo hi x := by
  rw [Bool.eq_iff_iff, nodeOk_iff _ ((Nd.put_len n o x).trans hl)]
  rw [nodeOk_iff n hl] at h
  obtain ⟨k1, k2, k3, k4, k5⟩ := h
  have hf := fun j j1 => f_put n hl o x j h1 h2 j1
  have ho : o ∈ offs n.kind := by unfold offs; exact List.mem_map.2 ⟨_, hm, rfl⟩
  constructor
  · rintro ⟨g1, -⟩
    have := g1 (o, lo, hi) hm
    rw [hf o h1, if_pos rfl] at this
    exact this
  · intro hx
    refine ⟨fun d hd => ?_, k2, k3, k4, fun j j1 j2 hj => ?_⟩
    · have hd' : d ∈ fieldList n.kind := hd
      rw [hf d.1 (fieldList_range n.kind d hd').1]
      by_cases e : d.1 = o
      · rw [if_pos e, hu d hd' e]; exact hx
      · rw [if_neg e]; exact k1 d hd'
    · have hj' : j ∉ offs n.kind := hj
      rw [hf j j1, if_neg (show ¬ j = o from fun e => hj' (by rw [e]; exact ho))]
      exact k5 j j1 j2 hj'
/-- a number that the kind has not -/
theorem put_not (n : Nd) (hl : n.x.length = 16) (at_ : Int) (h : nodeOk n at_ = true) (o x : Nat) (h1 : 1 ≤ o) (h2 : o ≤ 16) (hm : o ∉ offs n.kind) : nodeOk (Nd.put n o x) at_ = decide (x = 0) := by
  rw [Bool.eq_iff_iff, nodeOk_iff _ ((Nd.put_len n o x).trans hl), decide_eq_true_eq]
  rw [nodeOk_iff n hl] at h
  obtain ⟨k1, k2, k3, k4, k5⟩ := h
  have hf := fun j j1 => f_put n hl o x j h1 h2 j1
  constructor
  · rintro ⟨-, -, -, -, g5⟩
    have := g5 o h1 h2 hm
    rw [hf o h1, if_pos rfl] at this
    exact this
  · intro hx
    refine ⟨fun d hd => ?_, k2, k3, k4, fun j j1 j2 hj => ?_⟩
    · have hd' : d ∈ fieldList n.kind := hd
      have hdo : d.1 ≠ o := fun e => hm (by unfold offs; exact List.mem_map.2 ⟨d, hd', e⟩)
      rw [hf d.1 (fieldList_range n.kind d hd').1, if_neg hdo]
      exact k1 d hd'
    · rw [hf j j1]
      by_cases e : j = o
      · rw [if_pos e]; exact hx
      · rw [if_neg e]; exact k5 j j1 j2 hj


/-- the eight numbers of the law: the cell, the two ends, and whether the kind has it -/
def rfs (kind p : Nat) : List (Nat × Nat × Nat × Bool) :=
  [(1 + p, 0, b1f, decide (kind ≤ 2)), (4 + p, 0, b1f, decide (kind = 6)), (7 + p, bMet, bMetM, decide (kind = 4)), (10 + p, bMet, bMetM, decide (kind = 4)), (13, 0, b1f, decide (kind = 2)), (14, bAlpha, b1f, decide (kind = 3) || decide (kind = 4)), (15, bIor, bIorM, decide (kind = 3) || decide (kind = 6)), (16, 0, b1f, decide (kind = 5))]
/-- the four pairs of ends -/
def rpairs : List (Nat × Nat) := [(0, b1f), (bMet, bMetM), (bAlpha, b1f), (bIor, bIorM)]
def downF (x : Nat) : Nat := if x = 0 then 9223372036854775809 else x - 1
def upF (x : Nat) : Nat := x + 1
def midF (x y : Nat) : Nat := if x = 0 then 4602678819172646912 else if x = bMet then 4620710809868173312 else if x = bAlpha then 4602819556661002240 else 4612882287078408192
/-- the seven numbers of the law -/
def rvs (lo hi : Nat) : List Nat := [lo, hi, midF lo hi, downF lo, upF hi, 9221120237041090561, 9223372036854775808]
def mayF (has : Bool) (lo hi x : Nat) : Bool := (has && geqF x lo && leqF x hi && (!(fo x 0 == some .eq) || !negF x)) || (!has && (fo x 0 == some .eq) && !negF x)
theorem may_all : (rpairs.all fun q => (rvs q.1 q.2).all fun x => (withinF q.1 q.2 x == mayF true q.1 q.2 x) && (decide (x = 0) == mayF false q.1 q.2 x)) = true := by kernel_rfl
theorem has_all : ([1, 2, 3, 4, 5, 6].all fun k => [0, 1, 2].all fun p => (rfs k p).all fun d => decide (1 ≤ d.1) && decide (d.1 ≤ 16) && rpairs.contains (d.2.1, d.2.2.1) && if d.2.2.2 then (fieldList k).contains (d.1, d.2.1, d.2.2.1) && (fieldList k).all (fun e => !(e.1 == d.1) || e == (d.1, d.2.1, d.2.2.1)) else !(offs k).contains d.1) = true := by kernel_rfl
theorem kinds_six (k : Nat) (h : 0 < (fieldList k).length) : k ∈ [1, 2, 3, 4, 5, 6] := by
  unfold fieldList at h
  simp
  repeat' split at h
  all_goals first | omega | (simp at h)
/-- THE LAW, at one number -/
theorem range_law (n : Nd) (hl : n.x.length = 16) (at_ : Int) (h : nodeOk n at_ = true) (p : Nat) (hp : p < 3) (d : Nat × Nat × Nat × Bool) (hd : d ∈ rfs n.kind p) (x : Nat) (hx : x ∈ rvs d.2.1 d.2.2.1) :
    nodeOk (Nd.put n d.1 x) at_ = mayF d.2.2.2 d.2.1 d.2.2.1 x := by
  have hk := kinds_six n.kind ((nodeOk_iff n hl at_).1 h).2.2.2.1
  have H := has_all
  rw [List.all_eq_true] at H
  have H := H _ hk
  rw [List.all_eq_true] at H
  have H := H p (by simp; omega)
  rw [List.all_eq_true] at H
  have H := H d hd
  obtain ⟨o, lo, hi, has⟩ := d
  simp only [Bool.and_eq_true, decide_eq_true_eq] at H hx ⊢
  obtain ⟨⟨⟨h1, h2⟩, hpr⟩, H⟩ := H
  have M := may_all
  rw [List.all_eq_true] at M
  have M := M _ (by simpa using hpr)
  rw [List.all_eq_true] at M
  have M := M x hx
  simp only [Bool.and_eq_true, beq_iff_eq] at M
  cases has with
  | true =>
    simp only [if_true, Bool.and_eq_true, List.all_eq_true] at H
    rw [put_has n hl at_ h o lo hi x h1 h2 (by simpa using H.1) (fun e he ho => by have := H.2 e he; simpa [ho] using this)]
    exact M.1
  | false =>
    rw [put_not n hl at_ h o x h1 h2 (by simpa using H)]
    exact M.2
theorem put_same (n : Nd) (hl : n.x.length = 16) (o x : Nat) (h1 : 1 ≤ o) (h2 : o ≤ 16) : Nd.put (Nd.put n o x) o (n.f o) = n := by
  unfold Nd.put Nd.f
  obtain ⟨k, l, a, b⟩ := n
  simp only at hl ⊢
  congr 1
  apply List.ext_getElem?
  intro j
  simp only [List.getD_eq_getElem?_getD]
  by_cases hj : j = o - 1
  · subst hj
    rw [List.getElem?_set_self (by simp; omega)]
    rw [List.getElem?_eq_getElem (by omega)]
    rfl
  · rw [List.getElem?_set_ne (by omega), List.getElem?_set_ne (by omega)]
/-- the last line of the law -/
theorem ranges_last_a (n : Nd) (hl : n.x.length = 16) (at_ : Int) (h : nodeOk n at_ = true) : nodeOk { n with a := at_ } at_ = (decide (n.kind < 5) && decide (at_ = 0)) := by
  have hk := kinds_six n.kind ((nodeOk_iff n hl at_).1 h).2.2.2.1
  have hh := (nodeOk_iff n hl at_).1 h
  rw [Bool.eq_iff_iff, nodeOk_iff _ (by exact hl)]
  obtain ⟨k1, k2, k3, k4, k5⟩ := hh
  simp only [Bool.and_eq_true, decide_eq_true_eq]
  have hb : (0 < belowN n.kind) ↔ ¬ n.kind < 5 := by
    have : n.kind = 1 ∨ n.kind = 2 ∨ n.kind = 3 ∨ n.kind = 4 ∨ n.kind = 5 ∨ n.kind = 6 := by simpa using hk
    rcases this with e | e | e | e | e | e <;> rw [e] <;> decide
  constructor
  · rintro ⟨-, g2, -⟩
    have g2 : placeOk (decide (0 < belowN n.kind)) at_ at_ = true := g2
    by_cases c : n.kind < 5
    · have e : decide (0 < belowN n.kind) = false := decide_eq_false (fun q => hb.1 q c)
      rw [e] at g2
      exact ⟨c, by simpa [placeOk] using g2⟩
    · have e : decide (0 < belowN n.kind) = true := decide_eq_true (hb.2 c)
      rw [e] at g2
      simp [placeOk] at g2
  · rintro ⟨c, rfl⟩
    refine ⟨k1, ?_, k3, k4, k5⟩
    have e : decide (0 < belowN n.kind) = false := decide_eq_false (fun q => hb.1 q c)
    show placeOk (decide (0 < belowN n.kind)) 0 0 = true
    rw [e]
    rfl
theorem ranges_last_b (n : Nd) (hl : n.x.length = 16) (at_ : Int) : nodeOk { n with b := -1 } at_ = false := by
  rw [Bool.eq_false_iff]
  intro h
  have h3 := ((nodeOk_iff _ (by exact hl) at_).1 h).2.2.1
  have h3 : placeOk (decide (1 < belowN n.kind)) (-1) at_ = true := h3
  unfold placeOk at h3
  split at h3 <;> simp at h3
end Go.Proofs.YtgblgolkajdfbaaGreatDoor.chkw
