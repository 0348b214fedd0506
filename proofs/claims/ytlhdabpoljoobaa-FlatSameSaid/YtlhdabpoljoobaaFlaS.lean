/- A program in which each node stands twice, in plain words: it is a program, and it has the same flat one, of the same depth. Conditions: at most 40 nodes, and they are a program. -/
import Derived.Test.YtlhdabpoljoobaaFlaN
namespace Go.Proofs.Ytlhdabpoljoobaa.flatm
open Go.Proofs.Ytlhdabpoljoobaa.nodew

def pickF (bs : List Nat) (i at_ : Nat) : Nat := if i < bs.length ∧ bs.getD i 0 % 2 = 1 then 3 * at_ + 2 else 3 * at_
def copyF (bs : List Nat) (i k : Nat) (n : Nd) : Nd := if n.kind = 5 then { n with a := pickF bs i n.a.toNat, b := pickF bs (i + k) n.b.toNat } else if n.kind = 6 then { n with a := pickF bs (i + k) n.a.toNat } else n
/-- the node that nobody needs -/
def plasN : Nd := ⟨3, [0, 0, 0, 0, 0, 0, 0, 0, 0, 0, 0, 0, 0, 4607182418800017408, 4611686018427387904, 0], 0, 0⟩
def twRow (bs : List Nat) (i : Nat) (n : Nd) : List Nd := [copyF bs i 0 n, plasN, copyF bs i 2 n]
def twF (bs : List Nat) : Nat → List Nd → List Nd
  | _, [] => []
  | i, n :: r => twRow bs i n ++ twF bs (i + 1) r
theorem tw_len (bs : List Nat) : ∀ (l : List Nd) (i : Nat), (twF bs i l).length = 3 * l.length
  | [], _ => rfl
  | n :: r, i => by
    show (twRow bs i n ++ twF bs (i + 1) r).length = _
    rw [List.length_append, tw_len bs r (i + 1)]
    simp [twRow]; omega
theorem tw_at (bs : List Nat) : ∀ (l : List Nd) (i x k : Nat) (h : x < l.length), k < 3 → (twF bs i l)[3 * x + k]? = (twRow bs (i + x) l[x])[k]?
  | n :: r, i, 0, k, _, hk => by
    show (twRow bs i n ++ twF bs (i + 1) r)[3 * 0 + k]? = _
    rw [Nat.mul_zero, Nat.zero_add, List.getElem?_append_left (by simp [twRow]; omega)]
    rfl
  | n :: r, i, x + 1, k, h, hk => by
    show (twRow bs i n ++ twF bs (i + 1) r)[3 * (x + 1) + k]? = _
    rw [List.getElem?_append_right (by simp [twRow]; omega)]
    have := tw_at bs r (i + 1) x k (by simpa using h) hk
    rw [show 3 * (x + 1) + k - (twRow bs i n).length = 3 * x + k by simp [twRow]; omega, this]
    simp only [List.getElem_cons_succ]
    rw [show i + 1 + x = i + (x + 1) by omega]
  | [], _, _, _, h, _ => by simp at h
theorem tw_app (bs : List Nat) : ∀ (l : List Nd) (i : Nat) (n : Nd), twF bs i (l ++ [n]) = twF bs i l ++ twRow bs (i + l.length) n
  | [], i, n => by simp [twF]
  | m :: r, i, n => by
    show twRow bs i m ++ twF bs (i + 1) (r ++ [n]) = (twRow bs i m ++ twF bs (i + 1) r) ++ _
    rw [tw_app bs r (i + 1) n, List.append_assoc, List.length_cons, show i + 1 + r.length = i + (r.length + 1) by omega]
def twP (bs : List Nat) (l : List Nd) : List Nd := twF bs 0 l
theorem tw_nth (bs : List Nat) (l : List Nd) (x k : Nat) (h : x < l.length) (hk : k < 3) : nth (twP bs l) (3 * x + k) = if k = 1 then plasN else copyF bs x k (nth l x) := by
  have h1 := tw_at bs l 0 x k h hk
  rw [Nat.zero_add] at h1
  have h2 : nth l x = l[x] := nth_eq _ _ _ (List.getElem?_eq_getElem h)
  have hk' : k = 0 ∨ k = 1 ∨ k = 2 := by omega
  rw [h2]
  rcases hk' with rfl | rfl | rfl
  · exact nth_eq _ _ _ h1
  · exact nth_eq _ _ _ h1
  · exact nth_eq _ _ _ h1
theorem plas_ok (y : Int) : nodeOk plasN y = true := by
  have h1 : ndOk plasN (fieldList plasN.kind) = true := by kernel_rfl
  have h2 : bare (plasN.zeros (offs plasN.kind)) = true := by kernel_rfl
  have h3 : decide (0 < (fieldList plasN.kind).length) = true := by kernel_rfl
  unfold nodeOk
  rw [h1, h2, h3]
  rfl
theorem pick_div (bs : List Nat) (i a : Nat) : pickF bs i a / 3 = a ∧ pickF bs i a % 3 ≠ 1 ∧ pickF bs i a ≤ 3 * a + 2 := by
  unfold pickF
  split <;> omega
theorem copy_kids (bs : List Nat) (i k : Nat) (n : Nd) : (∀ c ∈ kids (copyF bs i k n), c % 3 ≠ 1 ∧ ∃ d ∈ kids n, c ≤ 3 * d + 2 ∧ c / 3 = d) ∧ remap (fun c => c / 3) (copyF bs i k n) = (if n.kind = 5 then { n with a := n.a.toNat, b := n.b.toNat } else if n.kind = 6 then { n with a := n.a.toNat } else n) := by
  unfold copyF
  by_cases h5 : n.kind = 5
  · have p1 := pick_div bs i n.a.toNat
    have p2 := pick_div bs (i + k) n.b.toNat
    rw [if_pos h5, if_pos h5]
    refine ⟨fun c hc => ?_, ?_⟩
    · simp [kids, h5] at hc
      rcases hc with rfl | rfl
      · exact ⟨p1.2.1, n.a.toNat, by simp [kids, h5], p1.2.2, p1.1⟩
      · exact ⟨p2.2.1, n.b.toNat, by simp [kids, h5], p2.2.2, p2.1⟩
    · simp [remap, h5, p1.1, p2.1]
  · by_cases h6 : n.kind = 6
    · have p1 := pick_div bs (i + k) n.a.toNat
      rw [if_neg h5, if_pos h6, if_neg h5, if_pos h6]
      refine ⟨fun c hc => ?_, ?_⟩
      · simp [kids, h6] at hc
        subst hc
        exact ⟨p1.2.1, n.a.toNat, by simp [kids, h6], p1.2.2, p1.1⟩
      · simp [remap, h6, p1.1]
    · rw [if_neg h5, if_neg h6, if_neg h5, if_neg h6]
      refine ⟨fun c hc => ?_, ?_⟩
      · simp [kids, h5, h6] at hc
      · simp [remap, h5, h6]
/-- a right node's places are no negative numbers -/
theorem toNat_self {n : Nd} {x : Int} (h : nodeOk n x = true) : (if n.kind = 5 then { n with a := n.a.toNat, b := n.b.toNat } else if n.kind = 6 then { n with a := n.a.toNat } else n) = n := by
  obtain ⟨_, ha, hb, _⟩ := nodeOk_parts h
  by_cases h5 : n.kind = 5
  · rw [if_pos h5]
    rw [h5, below5] at ha hb
    have ha := place_lt ha
    have hb := place_lt hb
    rw [Int.toNat_of_nonneg ha.1, Int.toNat_of_nonneg hb.1]
  · by_cases h6 : n.kind = 6
    · rw [if_neg h5, if_pos h6]
      rw [h6, below6] at ha
      have ha := place_lt ha
      rw [Int.toNat_of_nonneg ha.1]
    · rw [if_neg h5, if_neg h6]
theorem copy_ok {n : Nd} {x : Nat} (h : nodeOk n x = true) (bs : List Nat) (i k y : Nat) (hy : 3 * x ≤ y) : nodeOk (copyF bs i k n) y = true := by
  have hk := kids_lt h
  obtain ⟨_, ha, hb, _⟩ := nodeOk_parts h
  unfold copyF
  by_cases h5 : n.kind = 5
  · rw [if_pos h5]
    have k1 := hk n.a.toNat (by simp [kids, h5])
    have k2 := hk n.b.toNat (by simp [kids, h5])
    have p1 := pick_div bs i n.a.toNat
    have p2 := pick_div bs (i + k) n.b.toNat
    refine nodeOk_ab h _ _ _ ?_ ?_
    · rw [h5, below5]; exact place_mk (by omega)
    · rw [h5, below5]; exact place_mk (by omega)
  · by_cases h6 : n.kind = 6
    · rw [if_neg h5, if_pos h6]
      have k1 := hk n.a.toNat (by simp [kids, h6])
      have p1 := pick_div bs (i + k) n.a.toNat
      refine nodeOk_ab h ((pickF bs (i + k) n.a.toNat : Nat) : Int) n.b _ ?_ ?_
      · rw [h6, below6]; exact place_mk (by omega)
      · rw [h6, below6] at hb ⊢; exact place_no _ hb
    · rw [if_neg h5, if_neg h6]
      have hz := below_else h5 h6
      have e : n = { n with a := n.a, b := n.b } := rfl
      rw [e]
      rw [hz] at ha hb
      refine nodeOk_ab h _ _ _ ?_ ?_
      · rw [hz]; exact place_no _ ha
      · rw [hz]; exact place_no _ hb
theorem tw_right {l : List Nd} (hr : rightP l = true) (h40 : l.length ≤ 40) (bs : List Nat) : rightP (twP bs l) = true := by
  obtain ⟨h1, h0, _⟩ := right_nodes hr
  have hl := tw_len bs l 0
  refine right_mk (fun x hx => ?_) (by unfold twP; omega) (by unfold twP; omega)
  have hx3 : x / 3 < l.length := by unfold twP at hx; omega
  have e : x = 3 * (x / 3) + x % 3 := by omega
  rw [show nth (twP bs l) x = nth (twP bs l) (3 * (x / 3) + x % 3) by rw [← e], tw_nth bs l (x / 3) (x % 3) hx3 (by omega)]
  by_cases hk : x % 3 = 1
  · rw [if_pos hk]; exact plas_ok x
  · rw [if_neg hk]; exact copy_ok (h1 (x / 3) hx3) bs _ _ x (by omega)
theorem tw_cover {l : List Nd} (hr : rightP l = true) (bs : List Nat) : Cover (nth (twP bs l)) (nth l) (twP bs l).length l.length (fun x => x < 3 * l.length ∧ x % 3 ≠ 1) (fun x => x / 3) := by
  obtain ⟨h1, h0, _⟩ := right_nodes hr
  have hl : (twP bs l).length = 3 * l.length := tw_len bs l 0
  have hn : ∀ x, x < 3 * l.length ∧ x % 3 ≠ 1 → nth (twP bs l) x = copyF bs (x / 3) (x % 3) (nth l (x / 3)) := fun x hx => by
    have e : x = 3 * (x / 3) + x % 3 := by omega
    rw [show nth (twP bs l) x = nth (twP bs l) (3 * (x / 3) + x % 3) by rw [← e], tw_nth bs l (x / 3) (x % 3) (by omega) (by omega), if_neg hx.2]
  refine ⟨fun x hx => by rw [hl]; exact hx.1, fun x hx c hc => ?_, fun x hx => by show x / 3 < _; omega, fun x hx => ?_⟩
  · rw [hn x hx] at hc
    obtain ⟨c1, d, hd, c2, c3⟩ := (copy_kids bs (x / 3) (x % 3) (nth l (x / 3))).1 c hc
    have := kids_lt (h1 (x / 3) (by omega)) d hd
    exact ⟨by omega, c1⟩
  · show nth l (x / 3) = remap (fun x => x / 3) (nth (twP bs l) x)
    rw [hn x hx, (copy_kids bs (x / 3) (x % 3) (nth l (x / 3))).2, toNat_self (h1 (x / 3) (by omega))]
theorem tw_flat {l : List Nd} (hr : rightP l = true) (h40 : l.length ≤ 40) (bs : List Nat) : flatP (twP bs l) = flatP l := by
  obtain ⟨_, h0, _⟩ := right_nodes hr
  have hl : (twP bs l).length = 3 * l.length := tw_len bs l 0
  exact cover_out (tw_right hr h40 bs) hr (tw_cover hr bs) (by rw [hl]; omega) (by rw [hl]; omega)
theorem tw_dep {l : List Nd} (hr : rightP l = true) (h40 : l.length ≤ 40) (bs : List Nat) : depP (twP bs l) ((twP bs l).length - 1) = depP l (l.length - 1) := by
  obtain ⟨_, h0, _⟩ := right_nodes hr
  have hl : (twP bs l).length = 3 * l.length := tw_len bs l 0
  rw [cover_dep (tw_right hr h40 bs) hr (tw_cover hr bs) _ (show _ by rw [hl]; omega)]
  show depP l (((twP bs l).length - 1) / 3) = _
  rw [hl, show (3 * l.length - 1) / 3 = l.length - 1 by omega]
end Go.Proofs.Ytlhdabpoljoobaa.flatm
