/- The numbers of a right node are right ones; what is read of them stays so in the flat program. No conditions but those stated. -/
import Derived.Test.YtlhdabpoljoobaaFlaQ
import Derived.Test.YtlhdabpoljoobaaFlaS
namespace Go.Proofs.Ytlhdabpoljoobaa.flatm
open Go.Proofs.Ytlhdabpoljoobaa.nodew

theorem f_zero (n : Nd) (hl : n.x.length = 16) (o j : Nat) (h1 : 1 ≤ o) (h2 : o ≤ 16) (j1 : 1 ≤ j) : (n.zero o).f j = if j = o then 0 else n.f j := by
  unfold Nd.zero Nd.f
  simp only [List.getD_eq_getElem?_getD]
  by_cases h : j = o
  · subst h
    rw [List.getElem?_set_self (by omega), if_pos rfl]
    rfl
  · rw [List.getElem?_set_ne (by omega), if_neg h]
theorem f_zeros : ∀ (l : List Nat) (n : Nd), n.x.length = 16 → (∀ o ∈ l, 1 ≤ o ∧ o ≤ 16) → ∀ j, 1 ≤ j → (n.zeros l).f j = if j ∈ l then 0 else n.f j
  | [], n, _, _, j, _ => by simp [Nd.zeros]
  | o :: r, n, hl, ho, j, hj => by
    show ((n.zero o).zeros r).f j = _
    rw [f_zeros r (n.zero o) ((n.zero_len o).trans hl) (fun p hp => ho p (by simp [hp])) j hj, f_zero n hl o j (ho o (by simp)).1 (ho o (by simp)).2 hj]
    by_cases h : j = o
    · subst h
      by_cases hr : j ∈ r <;> simp [hr]
    · by_cases hr : j ∈ r <;> simp [h, hr]
theorem offs_range (k : Nat) : ∀ o ∈ offs k, 1 ≤ o ∧ o ≤ 16 := fun o ho => by
  unfold offs at ho
  obtain ⟨d, hd, rfl⟩ := List.mem_map.1 ho
  exact fieldList_range k d hd
theorem node_rt {n : Nd} (hn : n.ok) {x : Int} (h : nodeOk n x = true) : Nd.rt n := by
  obtain ⟨h1, _, _, _, h5⟩ := nodeOk_parts h
  refine ⟨hn.1, fun v hv => ⟨hn.2 v hv, ?_⟩⟩
  obtain ⟨i, hi, rfl⟩ := List.getElem_of_mem hv
  have hf : n.f (i + 1) = n.x[i] := by
    unfold Nd.f
    simp [List.getD_eq_getElem?_getD, hi]
  rw [← hf]
  have hi16 : i < 16 := by rw [← hn.1]; exact hi
  by_cases hm : i + 1 ∈ offs n.kind
  · unfold offs at hm
    obtain ⟨d, hd, he⟩ := List.mem_map.1 hm
    unfold ndOk at h1
    rw [List.all_eq_true] at h1
    have := h1 d hd
    rw [he] at this
    unfold withinF at this
    simp only [Bool.and_eq_true] at this
    exact this.1.1
  · have hb := (bare_iff _).1 h5 i hi16
    rw [f_zeros (offs n.kind) n hn.1 (offs_range _) (i + 1) (by omega), if_neg hm] at hb
    rw [hb]
    have h0 : rightF 0 = true := by kernel_rfl
    exact h0
theorem remap_ok {n : Nd} (ta : Nat → Nat) (h : n.ok) : (remap ta n).ok := by
  unfold remap
  split
  · exact h
  · split
    · exact h
    · exact h
theorem remap_rt {n : Nd} (ta : Nat → Nat) (h : Nd.rt n) : Nd.rt (remap ta n) := by
  unfold remap
  split
  · exact h
  · split
    · exact h
    · exact h
theorem copy_okN {n : Nd} (bs : List Nat) (i k : Nat) (h : n.ok) : (copyF bs i k n).ok := by
  unfold copyF
  split
  · exact h
  · split
    · exact h
    · exact h
theorem plas_okN : plasN.ok := ⟨rfl, fun v hv => by
  simp only [plasN, List.mem_cons, List.not_mem_nil, or_false] at hv
  omega⟩
theorem nth_mem {l : List Nd} {x : Nat} (h : x < l.length) : nth l x ∈ l := by
  rw [nth_eq l x l[x] (List.getElem?_eq_getElem h)]
  exact List.getElem_mem h
theorem nth_rt {l : List Nd} (hr : rightP l = true) (hok : ∀ n ∈ l, n.ok) {x : Nat} (h : x < l.length) : Nd.rt (nth l x) := node_rt (hok _ (nth_mem h)) ((right_nodes hr).1 x h)
/-- each node of the flat program is one of the program's, with other places -/
theorem flat_from {l : List Nd} (hr : rightP l = true) {n : Nd} (h : n ∈ flatP l) : ∃ z, z < l.length ∧ n = remap (endP l).tm (nth l z) := by
  obtain ⟨k, hk, rfl⟩ := List.getElem_of_mem h
  obtain ⟨hi, _⟩ := flat_inv hr
  obtain ⟨z, hz, hzk⟩ := hi.good.surj k hk
  have := hi.good.key z hz
  rw [hzk] at this
  have h2 : (flatP l)[k]? = some (remap (endP l).tm (nth l z)) := this
  rw [List.getElem?_eq_getElem hk] at h2
  exact ⟨z, hi.lt z hz, Option.some.inj h2⟩
theorem flat_okN {l : List Nd} (hr : rightP l = true) (hok : ∀ n ∈ l, n.ok) : ∀ n ∈ flatP l, n.ok := fun n h => by
  obtain ⟨z, hz, rfl⟩ := flat_from hr h
  exact remap_ok _ (hok _ (nth_mem hz))
theorem tw_okN {l : List Nd} (bs : List Nat) (hok : ∀ n ∈ l, n.ok) : ∀ n ∈ twP bs l, n.ok := by
  have key : ∀ (l : List Nd) (i : Nat), (∀ n ∈ l, n.ok) → ∀ n ∈ twF bs i l, n.ok := by
    intro l
    induction l with
    | nil => exact fun i _ n hn => (by cases hn)
    | cons m r ih =>
      intro i h n hn
      rcases List.mem_append.1 (show n ∈ twRow bs i m ++ twF bs (i + 1) r from hn) with hn | hn
      · simp only [twRow, List.mem_cons, List.not_mem_nil, or_false] at hn
        rcases hn with rfl | rfl | rfl
        · exact copy_okN bs i 0 (h m (.head _))
        · exact plas_okN
        · exact copy_okN bs i 2 (h m (.head _))
      · exact ih (i + 1) (fun q hq => h q (.tail _ hq)) n hn
  exact key l 0 hok
end Go.Proofs.Ytlhdabpoljoobaa.flatm
