/- Programs of nodes in plain words: a front, a node more, a node that stands first. No conditions but those stated. -/
import Derived.Test.YtgblgolkajdfbaaGreatDoorNodeB
namespace Go.Proofs.YtgblgolkajdfbaaGreatDoor.chkw
open Go.Proofs.YtgblgolkajdfbaaGreatDoor.nodew

theorem rightP_iff (l : List Nd) : rightP l = true ↔ (∀ k (hk : k < l.length), nodeOk l[k] k = true) ∧ 0 < l.length ∧ l.length ≤ 4096 := by
  constructor
  · intro h
    have h1 : ∀ k (hk : k < l.length), nodeOk l[k] k = true := fun k hk => by
      cases hq : nodeOk l[k] k with
      | true => rfl
      | false => rw [rightP_bad hk hq] at h; cases h
    refine ⟨h1, ?_⟩
    rw [rightP_good h1] at h
    simpa using h
  · rintro ⟨h1, h2, h3⟩
    rw [rightP_good h1]
    simp [h2, h3]
theorem rightP_snoc (l : List Nd) (n : Nd) (hl : l.length ≤ 60) : rightP (l ++ [n]) = ((decide (l.length = 0) || rightP l) && nodeOk n l.length) := by
  rw [Bool.eq_iff_iff, rightP_iff]
  simp only [Bool.and_eq_true, Bool.or_eq_true, decide_eq_true_eq, rightP_iff, List.length_append, List.length_cons, List.length_nil]
  constructor
  · rintro ⟨h1, h2, h3⟩
    refine ⟨?_, ?_⟩
    · by_cases h0 : l.length = 0
      · exact .inl h0
      · refine .inr ⟨fun k hk => ?_, by omega, by omega⟩
        have := h1 k (by omega)
        rwa [List.getElem_append_left hk] at this
    · have := h1 l.length (by omega)
      simpa using this
  · rintro ⟨h1, h2⟩
    refine ⟨fun k hk => ?_, by omega, by omega⟩
    by_cases hkl : k < l.length
    · rw [List.getElem_append_left hkl]
      rcases h1 with h0 | ⟨h1, _⟩
      · omega
      · exact h1 k hkl
    · obtain rfl : k = l.length := by omega
      simpa using h2
theorem rightP_take (l : List Nd) (k : Nat) (h : rightP l = true) (hk : 0 < k) (hkl : k ≤ l.length) : rightP (l.take k) = true := by
  rw [rightP_iff] at h ⊢
  obtain ⟨h1, h2, h3⟩ := h
  refine ⟨fun j hj => ?_, ?_, ?_⟩
  · rw [List.length_take] at hj
    rw [List.getElem_take]
    exact h1 j (by omega)
  · rw [List.length_take]; omega
  · rw [List.length_take]; omega
theorem nodeOk_first (n : Nd) (h : 5 ≤ n.kind) : nodeOk n 0 = false := by
  by_cases h6 : n.kind ≤ 6
  · have hb : 0 < belowN n.kind := by unfold belowN; repeat' split
                                      all_goals omega
    have : placeOk (decide (0 < belowN n.kind)) n.a 0 = false := by
      rw [decide_eq_true hb]
      unfold placeOk
      simp
      try omega
    unfold nodeOk
    rw [this]
    simp
  · have : (fieldList n.kind).length = 0 := by
      unfold fieldList
      repeat' split
      all_goals first | omega | rfl
    unfold nodeOk
    rw [this]
    simp

end Go.Proofs.YtgblgolkajdfbaaGreatDoor.chkw
