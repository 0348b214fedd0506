/- Unlike programs have unlike texts: the plain law. -/
import Derived.Test.YtihhhglnnapkoaaGreatDoorFpL
import Derived.Test.YtihhhglnnapkoaaGreatDoorPrnX
import Derived.Test.YtihhhglnnapkoaaGreatDoorSamG
namespace Go.Proofs.YtihhhglnnapkoaaGreatDoor.fpm
open Go Go.RowKit
open Go.Proofs.YtihhhglnnapkoaaGreatDoor.prnw
open Go.Proofs.YtihhhglnnapkoaaGreatDoor.nodew
open Go.Proofs.YtihhhglnnapkoaaGreatDoor.chkw
open Go.Proofs.YtihhhglnnapkoaaGreatDoor.flatm

theorem cmp_le {a b : Int} (h : (some (compare a b) == some .lt || some (compare a b) == some .eq) = true) : a ≤ b := by
  rw [Int.compare_eq_ite_lt] at h
  by_cases h1 : a < b
  · omega
  · rw [if_neg h1] at h
    by_cases h2 : b < a
    · rw [if_pos h2] at h
      exact absurd h (by decide)
    · omega
theorem cmp_ge {a b : Int} (h : (some (compare a b) == some .gt || some (compare a b) == some .eq) = true) : b ≤ a := by
  rw [Int.compare_eq_ite_lt] at h
  by_cases h1 : a < b
  · rw [if_pos h1] at h
    exact absurd h (by decide)
  · omega
theorem within_pr {lo hi x : Nat} (hx : x < 18446744073709551616) (hlo : lo ≤ 4742290407621132288) (hhi : hi ≤ 4742290407621132288) (h : withinF lo hi x = true) : prOk x = true ∧ x < 9218868437227405312 := by
  unfold withinF at h
  simp only [Bool.and_eq_true] at h
  obtain ⟨⟨r, g⟩, l⟩ := h
  obtain ⟨fx, nx⟩ := right_word hx r
  unfold geqF at g
  rw [fo_sv fx (by omega)] at g
  have g2 := cmp_ge g
  unfold leqF at l
  rw [fo_sv fx (by omega)] at l
  have l2 := cmp_le l
  have slo : sv lo = (valR lo : Int) := by
    unfold sv
    rw [if_neg (by omega), Nat.mod_eq_of_lt (by omega)]
  have shi : sv hi = (valR hi : Int) := by
    unfold sv
    rw [if_neg (by omega), Nat.mod_eq_of_lt (by omega)]
  rw [slo] at g2
  rw [shi] at l2
  have h63 : x < 9223372036854775808 := by
    apply Nat.lt_of_not_le
    intro hge
    have sx : sv x = -(valR (x % 9223372036854775808) : Int) := by
      unfold sv
      rw [if_pos (by omega)]
    rw [sx] at g2
    have := val_zero (r := x % 9223372036854775808) (by omega)
    omega
  have sx : sv x = (valR x : Int) := by
    unfold sv
    rw [if_neg (by omega), Nat.mod_eq_of_lt (by omega)]
  rw [sx] at l2
  have hle : x ≤ hi := by
    apply Nat.le_of_not_lt
    intro hlt
    have := val_lt hlt
    omega
  refine ⟨?_, by omega⟩
  unfold prOk
  rw [r, big_w hx fx, decide_eq_false (by omega)]
  rfl
/-- two numbers of nodes have two texts -/
theorem prT_inj (x y : Nat) (hx : prOk x = true ∧ x < 9218868437227405312) (hy : prOk y = true ∧ y < 9218868437227405312) (h : prT hiP loP x = prT hiP loP y) : x = y := by
  have hp : ∀ X : Nat, 0 < X → X < 9218868437227405312 → 0 < txV (posT hiP loP X) := fun X h0 h1 => by
    rw [tx_pos X h0 h1]
    unfold ftV
    obtain ⟨b1, _⟩ := ft_bd hiP loP X h0 h1 hh_T
    exact Nat.mul_pos b1 (Nat.pow_pos (by decide))
  have h0 : txV [48] = 0 := by
    have := tx_whole [48] (fun b hb => by rw [List.mem_singleton.1 hb]; exact ⟨by decide, by decide⟩)
    rw [this, show decV [48] = 0 from rfl, Nat.zero_mul]
  unfold prT at h
  rw [if_pos hx.1, if_pos hy.1] at h
  by_cases x0 : x = 0
  · rw [if_pos x0] at h
    by_cases y0 : y = 0
    · rw [x0, y0]
    · rw [if_neg y0, if_neg (by omega)] at h
      have := hp y (by omega) hy.2
      rw [← h, h0] at this
      exact absurd this (Nat.lt_irrefl 0)
  · rw [if_neg x0, if_neg (by omega)] at h
    by_cases y0 : y = 0
    · rw [if_pos y0] at h
      have := hp x (by omega) hx.2
      rw [h, h0] at this
      exact absurd this (Nat.lt_irrefl 0)
    · rw [if_neg y0, if_neg (by omega)] at h
      exact posT_inj x y (by omega) hx.2 (by omega) hy.2 h
theorem join_one (x : List UInt8) : Lib.join [x] [32] = x := by
  rw [Lib.join_cons]
  simp [Lib.joinTail]
/-- words without a blank are told from their row -/
theorem join_inj : ∀ xs ys : List (List UInt8), xs ≠ [] → ys ≠ [] → (∀ x ∈ xs, ∀ b ∈ x, b ≠ 32) → (∀ x ∈ ys, ∀ b ∈ x, b ≠ 32) → Lib.join xs [32] = Lib.join ys [32] → xs = ys
  | [], _, h, _, _, _, _ => absurd rfl h
  | _ :: _, [], _, h, _, _, _ => absurd rfl h
  | [x], [y], _, _, _, _, h => by rw [join_one, join_one] at h; rw [h]
  | [x], y :: y2 :: r, _, _, hx, _, h => by
    rw [join_one, join_two] at h
    have : (32 : UInt8) ∈ x := by rw [h]; simp
    exact absurd rfl (hx x (by simp) 32 this)
  | x :: x2 :: r, [y], _, _, _, hy, h => by
    rw [join_one, join_two] at h
    have : (32 : UInt8) ∈ y := by rw [← h]; simp
    exact absurd rfl (hy y (by simp) 32 this)
  | x :: x2 :: r, y :: y2 :: r2, _, _, hx, hy, h => by
    rw [join_two, join_two] at h
    obtain ⟨a1, a2⟩ := bef_skip 32 (Lib.join (x2 :: r) [32]) x (hx x (by simp))
    obtain ⟨b1, b2⟩ := bef_skip 32 (Lib.join (y2 :: r2) [32]) y (hy y (by simp))
    rw [h] at a1 a2
    have e1 : x = y := a1.symm.trans b1
    have e2 := join_inj (x2 :: r) (y2 :: r2) (by simp) (by simp) (fun z hz => hx z (by simp [List.mem_cons.1 hz])) (fun z hz => hy z (by simp [List.mem_cons.1 hz])) (a2.symm.trans b2)
    rw [e1, e2]
theorem wordF_inj : ∀ a, a < 7 → ∀ b, b < 7 → (wordF a).data.toList = (wordF b).data.toList → a = b := by decide +kernel
theorem itoa_inj (a b : Int) (h : Lib.itoa a = Lib.itoa b) : a = b := by
  rw [← ex_itoa a, ← ex_itoa b, h]
theorem nmB_inj (a b : Int) (h : (nmB a).data.toList = (nmB b).data.toList) : a = b := by
  unfold nmB at h
  rw [bA_list, bA_list] at h
  exact itoa_inj a b (List.cons.inj h).2
theorem prB_inj (x y : Nat) (hx : prOk x = true ∧ x < 9218868437227405312) (hy : prOk y = true ∧ y < 9218868437227405312) (h : (prnw.prB hiP loP x).data.toList = (prnw.prB hiP loP y).data.toList) : x = y := by
  unfold prnw.prB at h
  rw [bA_list, bA_list] at h
  exact prT_inj x y hx hy h
theorem zero_f (n : Nd) (i j : Nat) (hi : 1 ≤ i) (hj : 1 ≤ j) (h : i ≠ j) : (n.zero i).f j = n.f j := by
  unfold Nd.zero Nd.f
  simp only [List.getD_eq_getElem?_getD]
  rw [List.getElem?_set_ne (by omega)]
theorem zeros_f (j : Nat) (hj : 1 ≤ j) : ∀ (l : List Nat) (n : Nd), (∀ i ∈ l, 1 ≤ i ∧ i ≠ j) → (n.zeros l).f j = n.f j
  | [], _, _ => rfl
  | i :: l, n, h => by
    obtain ⟨h1, h2⟩ := h i (by simp)
    show ((n.zero i).zeros l).f j = _
    rw [zeros_f j hj l (n.zero i) (fun k hk => h k (by simp [hk])), zero_f n i j h1 hj h2]
/-- a number that a node's kind has not is zero -/
theorem rest_zero (n : Nd) (at_ : Int) (h : nodeOk n at_ = true) (j : Nat) (h1 : 1 ≤ j) (h2 : j ≤ 16) (hn : ∀ i ∈ offs n.kind, 1 ≤ i ∧ i ≠ j) : n.f j = 0 := by
  unfold nodeOk at h
  simp only [Bool.and_eq_true] at h
  have hb := h.2
  unfold bare at hb
  have := List.all_eq_true.1 hb (j - 1) (List.mem_range.2 (by omega))
  rw [beq_iff_eq, show j - 1 + 1 = j by omega, zeros_f j h1 _ _ hn] at this
  exact this
/-- the numbers that a kind tells are the numbers that it has -/
theorem nums_offs (k : Nat) : numsK k = offs k ∨ ¬ (1 ≤ k ∧ k ≤ 6) := by
  by_cases h : 1 ≤ k ∧ k ≤ 6
  · left
    have : k = 1 ∨ k = 2 ∨ k = 3 ∨ k = 4 ∨ k = 5 ∨ k = 6 := by omega
    rcases this with rfl | rfl | rfl | rfl | rfl | rfl <;> rfl
  · exact Or.inr h
theorem field_bd (k : Nat) : ∀ d ∈ fieldList k, (1 ≤ d.1 ∧ d.1 ≤ 16) ∧ d.2.1 ≤ 4742290407621132288 ∧ d.2.2 ≤ 4742290407621132288 := by
  unfold fieldList
  by_cases h1 : k = 1
  · rw [if_pos h1]; decide +kernel
  rw [if_neg h1]
  by_cases h2 : k = 2
  · rw [if_pos h2]; decide +kernel
  rw [if_neg h2]
  by_cases h3 : k = 3
  · rw [if_pos h3]; decide +kernel
  rw [if_neg h3]
  by_cases h4 : k = 4
  · rw [if_pos h4]; decide +kernel
  rw [if_neg h4]
  by_cases h5 : k = 5
  · rw [if_pos h5]; decide +kernel
  rw [if_neg h5]
  by_cases h6 : k = 6
  · rw [if_pos h6]; decide +kernel
  rw [if_neg h6]
  decide
/-- a told number can be printed -/
theorem told_pr (n : Nd) (hn : n.ok) (at_ : Int) (h : nodeOk n at_ = true) (j : Nat) (hj : j ∈ offs n.kind) : prOk (n.f j) = true ∧ n.f j < 9218868437227405312 := by
  unfold nodeOk at h
  simp only [Bool.and_eq_true] at h
  have hd := h.1.1.1.1
  unfold ndOk at hd
  obtain ⟨d, hd1, rfl⟩ := List.mem_map.1 hj
  obtain ⟨b1, b2, b3⟩ := field_bd n.kind d hd1
  exact within_pr (nf64 hn _ b1.1 b1.2) b2 b3 (List.all_eq_true.1 hd d hd1)
theorem map_same {A B : Type} (f g : A → B) : ∀ l : List A, l.map f = l.map g → ∀ a ∈ l, f a = g a
  | [], _, _, h => by cases h
  | x :: r, h, a, ha => by
    obtain ⟨h1, h2⟩ := List.cons.inj h
    rcases List.mem_cons.1 ha with rfl | ha
    · exact h1
    · exact map_same f g r h2 a ha
/-- one line, one node -/
theorem line_node (n m : Nd) (hn : n.ok) (hm : m.ok) (at_ : Int) (a0 : 0 ≤ at_) (a1 : at_ < 4096) (h1 : nodeOk n at_ = true) (h2 : nodeOk m at_ = true) (h : lineT hiP loP n at_ = lineT hiP loP m at_) : n = m := by
  have o1 : lineOk n at_ = true := by unfold lineOk; rw [h1, decide_eq_true a0, decide_eq_true a1]; rfl
  have o2 : lineOk m at_ = true := by unfold lineOk; rw [h2, decide_eq_true a0, decide_eq_true a1]; rfl
  unfold lineT at h
  rw [if_pos o1, if_pos o2] at h
  have ink : ∀ (y : Nd), ∀ x ∈ (lineL hiP loP y at_).map (·.data.toList), ∀ b ∈ x, b ≠ 32 := fun y x hx b hb e => by
    obtain ⟨s, hs, rfl⟩ := List.mem_map.1 hx
    have := ink_lineL hiP loP y at_ s hs b hb
    rw [e] at this
    exact absurd this (by decide)
  have hj := join_inj _ _ (by unfold lineL; simp) (by unfold lineL; simp) (ink n) (ink m) h
  unfold lineL at hj
  simp only [List.cons_append, List.nil_append, List.map_cons] at hj
  obtain ⟨_, hj⟩ := List.cons.inj hj
  obtain ⟨_, hj⟩ := List.cons.inj hj
  obtain ⟨hk, hj⟩ := List.cons.inj hj
  obtain ⟨k1, na, nb⟩ := node_facts h1 a1
  obtain ⟨k2, ma, mb⟩ := node_facts h2 a1
  have hkk : n.kind = m.kind := wordF_inj _ (by omega) _ (by omega) hk
  have hnums : numsK n.kind = offs n.kind := (nums_offs n.kind).resolve_right (by omega)
  have hnm : numsK m.kind = numsK n.kind := by rw [hkk]
  rw [hnm, hnums] at hj
  rw [List.map_append, List.map_append] at hj
  obtain ⟨f1, s1⟩ := List.append_inj hj (by simp)
  simp only [List.map_map] at f1 s1
  have hf : ∀ j ∈ offs n.kind, n.f j = m.f j := fun j hjm => by
    have := map_same _ _ _ f1 j hjm
    exact prB_inj _ _ (told_pr n hn at_ h1 j hjm) (told_pr m hm at_ h2 j (hkk ▸ hjm)) this
  have hoffs1 : ∀ i ∈ offs n.kind, 1 ≤ i := fun i hi => by
    obtain ⟨d, hd1, rfl⟩ := List.mem_map.1 hi
    exact (field_bd n.kind d hd1).1.1
  have hall : ∀ j, 1 ≤ j → j ≤ 16 → n.f j = m.f j := fun j j1 j16 => by
    by_cases hjm : j ∈ offs n.kind
    · exact hf j hjm
    · have hne : ∀ i ∈ offs n.kind, 1 ≤ i ∧ i ≠ j := fun i hi => ⟨hoffs1 i hi, fun e => hjm (e ▸ hi)⟩
      rw [rest_zero n at_ h1 j j1 j16 hne, rest_zero m at_ h2 j j1 j16 (by rw [← hkk]; exact hne)]
  have hsub : n.a = m.a ∧ n.b = m.b := by
    unfold nodeOk at h1 h2
    simp only [Bool.and_eq_true] at h1 h2
    have pa1 := h1.1.1.1.2
    have pb1 := h1.1.1.2
    have pa2 := h2.1.1.1.2
    have pb2 := h2.1.1.2
    rw [← hkk] at pa2 pb2
    unfold subsN at s1
    rw [← hkk] at s1
    rcases k1 with e | e | e | e | e | e
    all_goals
      rw [e] at pa1 pa2 pb1 pb2 s1
      simp [placeOk, belowN] at pa1 pa2 pb1 pb2
    · omega
    · omega
    · omega
    · omega
    · obtain ⟨q1, q2⟩ := List.cons.inj s1
      obtain ⟨q3, _⟩ := List.cons.inj q2
      exact ⟨nmB_inj _ _ q1, nmB_inj _ _ q3⟩
    · obtain ⟨q1, _⟩ := List.cons.inj s1
      exact ⟨nmB_inj _ _ q1, by omega⟩
  exact nd_same n m hn hm hkk hall hsub.1 hsub.2
/-- one text, one program -/
theorem text_nodes (l1 l2 : List Nd) (hn : ∀ n ∈ l1, n.ok) (hm : ∀ n ∈ l2, n.ok) (r1 : rightP l1 = true) (r2 : rightP l2 = true) (h : bA (textT hiP loP l1) = bA (textT hiP loP l2)) : l1 = l2 := by
  unfold textT at h
  rw [if_pos r1, if_pos r2] at h
  obtain ⟨c1, s1⟩ := text_split hiP loP l1
  obtain ⟨c2, s2⟩ := text_split hiP loP l2
  rw [h, c2] at c1
  rw [h, ← c1, s2] at s1
  have hl := List.append_cancel_right s1
  obtain ⟨a1, a2, a3⟩ := right_at r1
  obtain ⟨b1, b2, b3⟩ := right_at r2
  refine List.ext_getElem c1.symm fun k k1 k2 => ?_
  have e := congrArg (fun z : List ByteArray => z[k]?) hl
  simp only [List.getElem?_map] at e
  unfold linesP at e
  rw [List.getElem?_map, List.getElem?_map, List.getElem?_range k2] at e
  simp only [Option.map_some, Option.some.injEq] at e
  have e2 := congrArg (fun B : ByteArray => B.data.toList) e
  simp only [bA_list] at e2
  rw [atN_eq l1 k k1, atN_eq l2 k k2] at e2
  exact (line_node _ _ (hm _ (List.getElem_mem k2)) (hn _ (List.getElem_mem k1)) k (by omega) (by omega) (b3 k k2) (a3 k k1) e2).symm
theorem text_same (l1 l2 : List Nd) (hn : ∀ n ∈ l1, n.ok) (hm : ∀ n ∈ l2, n.ok) (r1 : rightP l1 = true) (r2 : rightP l2 = true) : bA (textT hiP loP l1) = bA (textT hiP loP l2) ↔ l1 = l2 :=
  ⟨text_nodes l1 l2 hn hm r1 r2, fun h => by rw [h]⟩
end Go.Proofs.YtihhhglnnapkoaaGreatDoor.fpm
