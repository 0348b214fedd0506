/- Plain laws ahead of PrintLines: lines of a text, words of a line. No conditions but those stated. -/
import Derived.Test.YtihhhglnnapkoaaGreatDoorPrnR
import Derived.Lib.SplitLaws
namespace Go.Proofs.YtihhhglnnapkoaaGreatDoor.prnw
open Go.RowKit
open Go.Shelf
open Go.Proofs.YtihhhglnnapkoaaGreatDoor.nodew

def txt (ls : List (List UInt8)) : List UInt8 := ls.flatMap fun l => l ++ [10]
theorem split_text : ∀ (ls : List (List UInt8)), (∀ l ∈ ls, ∀ b ∈ l, b ≠ 10) → Lib.countB (bA (txt ls)) ⟨#[10]⟩ = ls.length ∧ Lib.splitB ⟨#[10]⟩ 0 ls.length (bA (txt ls)) = ls.map bA ++ [⟨#[]⟩]
  | [], _ => by
    refine ⟨?_, rfl⟩
    refine Lib.countB_miss _ _ ?_
    rfl
  | l :: r, h => by
    obtain ⟨h1, h2⟩ := split_text r (fun x hx => h x (by simp [hx]))
    have e : txt (l :: r) = l ++ 10 :: txt r := by simp [txt]
    have hi : Lib.indexB (bA (txt (l :: r))) ⟨#[10]⟩ = (l.length : Int) := by
      show Lib.index (bA (txt (l :: r))).data.toList [10] = _
      rw [bA_list, e]
      exact idx_skip 10 l (txt r) (h l (by simp))
    have hs : (bA (txt (l :: r))).size = l.length + 1 + (txt r).length := by rw [bA_size, e, List.length_append, List.length_cons]; omega
    have hx : (bA (txt (l :: r))).extract (l.length + 1) (bA (txt (l :: r))).size = bA (txt r) := by
      refine str_ext ?_
      rw [str_tail, bA_list, bA_list, e, show l ++ 10 :: txt r = (l ++ [10]) ++ txt r by simp, List.drop_left' (by simp)]
    have h0 : (bA (txt (l :: r))).extract 0 (l.length + 0) = bA l := by
      refine str_ext ?_
      rw [Nat.add_zero, str_head, bA_list, bA_list, e, List.take_left']
      rfl
    refine ⟨?_, ?_⟩
    · rw [Lib.countB_hit _ _ l.length (by decide) hi]
      show 1 + Lib.countB ((bA (txt (l :: r))).extract (l.length + 1) _) _ = _
      rw [hx, h1, List.length_cons]
      omega
    · rw [List.length_cons, Lib.splitB_hit _ _ _ _ l.length hi, h0]
      show _ :: Lib.splitB _ _ _ ((bA (txt (l :: r))).extract (l.length + 1) _) = _
      rw [hx, h2]
      rfl
/-- bytes that are no blank, and no end of a line -/
def Ink (l : List UInt8) : Prop := ∀ b ∈ l, 33 ≤ b.toNat
theorem Ink.app {l r : List UInt8} (h : Ink l) (k : Ink r) : Ink (l ++ r) := fun b hb => (List.mem_append.1 hb).elim (h b) (k b)
theorem Ink.cons {b : UInt8} {r : List UInt8} (h : 33 ≤ b.toNat) (k : Ink r) : Ink (b :: r) := fun x hx => by
  rcases List.mem_cons.1 hx with rfl | hx
  · exact h
  · exact k x hx
theorem Ink.nil : Ink [] := fun _ h => by cases h
theorem Ink.sub {l r : List UInt8} (h : Ink l) (hs : ∀ b ∈ r, b ∈ l) : Ink r := fun b hb => h b (hs b hb)
theorem ink_dec (u : Nat) : Ink (Lib.decDigits u) := fun b hb => by
  rw [Lib.decDigits_eq] at hb
  obtain ⟨t, _, rfl⟩ := List.mem_map.1 hb
  have := dg_digit u (Lib.nDigits u - 1 - t)
  omega
theorem ink_itoa (k : Int) : Ink (Lib.itoa k) := by
  unfold Lib.itoa
  split
  · exact (ink_dec _).cons (by decide)
  · exact ink_dec _
theorem ink_rep (c : UInt8) (h : 33 ≤ c.toNat) : ∀ n, Ink (Lib.repeatL [c] n)
  | 0 => Ink.nil
  | n + 1 => (Ink.cons h Ink.nil).app (ink_rep c h n)
theorem ink_pos (hi lo : Nat → Nat) (X : Nat) : Ink (posT hi lo X) := by
  have hD : Ink (posD hi lo X) := fun b hb => by
    have := sd_dg _ b hb
    unfold isDg at this
    omega
  unfold posT laidT
  split
  · split
    · exact hD.app (ink_rep _ (by decide) _)
    · exact ((hD.sub fun b hb => List.mem_of_mem_take hb).app (Ink.cons (by decide) Ink.nil)).app (hD.sub fun b hb => List.mem_of_mem_drop hb)
  · split
    · exact ((Ink.cons (by decide) (Ink.cons (by decide) Ink.nil)).app (ink_rep _ (by decide) _)).app hD
    · refine Ink.app (Ink.app ?_ (Ink.cons (by decide) Ink.nil)) (ink_itoa _)
      split
      · exact ((hD.sub fun b hb => List.mem_of_mem_take hb).app (Ink.cons (by decide) Ink.nil)).app (hD.sub fun b hb => List.mem_of_mem_drop hb)
      · exact hD
theorem ink_prT (hi lo : Nat → Nat) (x : Nat) : Ink (prT hi lo x) := by
  unfold prT
  split
  · split
    · exact Ink.cons (by decide) Ink.nil
    · split
      · exact (ink_pos _ _ _).cons (by decide)
      · exact ink_pos _ _ _
  · exact Ink.nil
theorem ink_name (k : Int) : Ink (110 :: Lib.itoa k) := (ink_itoa k).cons (by decide)
theorem ink_word (k : Nat) : Ink (wordF k).data.toList := by
  by_cases h : k < 7
  · have : k = 0 ∨ k = 1 ∨ k = 2 ∨ k = 3 ∨ k = 4 ∨ k = 5 ∨ k = 6 := by omega
    unfold Ink
    rcases this with rfl | rfl | rfl | rfl | rfl | rfl | rfl <;> decide
  · unfold wordF
    rw [List.getD_eq_getElem?_getD, List.getElem?_eq_none (by show 7 ≤ k; omega)]
    exact Ink.nil
theorem ink_lineL (hi lo : Nat → Nat) (n : Nd) (at_ : Int) : ∀ s ∈ lineL hi lo n at_, Ink s.data.toList := by
  intro s hs
  unfold lineL at hs
  rcases List.mem_append.1 hs with hs | hs
  · rcases List.mem_append.1 hs with hs | hs
    · simp only [List.mem_cons, List.not_mem_nil, or_false] at hs
      rcases hs with rfl | rfl | rfl
      · unfold nmB; rw [bA_list]; exact ink_name _
      · unfold Ink; decide
      · exact ink_word _
    · obtain ⟨x, _, rfl⟩ := List.mem_map.1 hs
      unfold prB; rw [bA_list]; exact ink_prT _ _ _
  · obtain ⟨x, _, rfl⟩ := List.mem_map.1 hs
    unfold nmB; rw [bA_list]; exact ink_name _
theorem join_mem (sep : List UInt8) (xs : List (List UInt8)) : ∀ b ∈ Lib.join xs sep, b ∈ sep ∨ ∃ x ∈ xs, b ∈ x := by
  intro b hb
  cases xs with
  | nil => rw [Lib.join_nil] at hb; cases hb
  | cons x r =>
    rw [Lib.join_cons] at hb
    rcases List.mem_append.1 hb with hb | hb
    · exact .inr ⟨x, by simp, hb⟩
    · unfold Lib.joinTail at hb
      obtain ⟨y, hy, hb⟩ := List.mem_flatten.1 hb
      obtain ⟨z, hz, rfl⟩ := List.mem_map.1 hy
      rcases List.mem_append.1 hb with hb | hb
      · exact .inl hb
      · exact .inr ⟨z, by simp [hz], hb⟩
theorem line_nl (hi lo : Nat → Nat) (n : Nd) (at_ : Int) : ∀ b ∈ lineT hi lo n at_, b ≠ 10 := by
  intro b hb
  unfold lineT at hb
  split at hb
  · rcases join_mem _ _ b hb with h | ⟨x, hx, h⟩
    · have : b = 32 := by simpa using h
      rw [this]; decide
    · obtain ⟨s, hs, rfl⟩ := List.mem_map.1 hx
      have := ink_lineL hi lo n at_ s hs b h
      intro e
      rw [e] at this
      exact absurd this (by decide)
  · cases hb
/-- the lines of a text -/
def linesP (hi lo : Nat → Nat) (l : List Nd) (k : Nat) : List (List UInt8) := (List.range k).map fun i => lineT hi lo (atN l i) i
theorem textP_txt (hi lo : Nat → Nat) (l : List Nd) : ∀ k, textP hi lo l k = txt (linesP hi lo l k)
  | 0 => rfl
  | k + 1 => by
    show textP hi lo l k ++ (lineT hi lo (atN l k) k ++ [10]) = _
    rw [textP_txt hi lo l k]
    unfold linesP
    rw [List.range_succ, List.map_append]
    simp [txt]
theorem linesP_len (hi lo : Nat → Nat) (l : List Nd) (k : Nat) : (linesP hi lo l k).length = k := by unfold linesP; simp
theorem text_split (hi lo : Nat → Nat) (l : List Nd) : Lib.countB (bA (textP hi lo l l.length)) ⟨#[10]⟩ = l.length ∧ Lib.splitB ⟨#[10]⟩ 0 l.length (bA (textP hi lo l l.length)) = (linesP hi lo l l.length).map bA ++ [⟨#[]⟩] := by
  have h := split_text (linesP hi lo l l.length) (fun x hx => by
    obtain ⟨i, _, rfl⟩ := List.mem_map.1 hx
    exact line_nl _ _ _ _)
  rw [linesP_len, ← textP_txt] at h
  exact h
/-- what stands behind a line's name -/
def tailT (hi lo : Nat → Nat) (n : Nd) : List UInt8 := Lib.join (([eqB, wordF n.kind] ++ ((numsK n.kind).map n.f).map (prB hi lo) ++ (subsN n).map nmB).map (·.data.toList)) [32]
theorem join_two (x y : List UInt8) (r : List (List UInt8)) : Lib.join (x :: y :: r) [32] = x ++ 32 :: Lib.join (y :: r) [32] := by
  rw [Lib.join_cons, Lib.join_cons]
  simp [Lib.joinTail]
theorem line_tail (hi lo : Nat → Nat) (n : Nd) (at_ : Int) (h : lineOk n at_ = true) : lineT hi lo n at_ = (110 :: Lib.itoa at_) ++ 32 :: tailT hi lo n := by
  unfold lineT
  rw [if_pos h]
  unfold lineL tailT
  simp only [List.cons_append, List.nil_append, List.map_cons]
  rw [join_two]
  have : (nmB at_).data.toList = 110 :: Lib.itoa at_ := by unfold nmB; rw [bA_list]
  rw [this]
  rfl
theorem line_cut (hi lo : Nat → Nat) (n : Nd) (at_ : Int) (h : lineOk n at_ = true) : Lib.cut (lineT hi lo n at_) [32] = (110 :: Lib.itoa at_, tailT hi lo n, true) := by
  rw [line_tail hi lo n at_ h]
  refine cut_skip 32 _ _ fun b hb e => ?_
  have := ink_name at_ b hb
  rw [e] at this
  exact absurd this (by decide)
theorem dec_inj (u v : Nat) (h : Lib.decDigits u = Lib.decDigits v) : u = v := by
  induction u using Nat.strongRecOn generalizing v with
  | _ u ih =>
    by_cases h1 : u < 10
    · by_cases h2 : v < 10
      · rw [Lib.decDigits_one h1, Lib.decDigits_one h2] at h
        have := congrArg UInt8.toNat (List.cons.inj h).1
        rw [UInt8.toNat_ofNat', UInt8.toNat_ofNat'] at this
        omega
      · have := congrArg List.length h
        rw [Lib.decDigits_length, Lib.decDigits_length, Lib.nDigits_small h1, Lib.nDigits_big h2] at this
        have := Lib.nDigits_pos (v / 10)
        omega
    · by_cases h2 : v < 10
      · have := congrArg List.length h
        rw [Lib.decDigits_length, Lib.decDigits_length, Lib.nDigits_small h2, Lib.nDigits_big h1] at this
        have := Lib.nDigits_pos (u / 10)
        omega
      · rw [show Lib.decDigits u = Lib.decDigits (u / 10) ++ [UInt8.ofNat (48 + u % 10)] by rw [Lib.decDigits, dif_neg h1], show Lib.decDigits v = Lib.decDigits (v / 10) ++ [UInt8.ofNat (48 + v % 10)] by rw [Lib.decDigits, dif_neg h2]] at h
        obtain ⟨h3, h4⟩ := List.append_inj' h rfl
        have h5 := ih (u / 10) (by omega) (v / 10) h3
        have := congrArg UInt8.toNat (List.cons.inj h4).1
        rw [UInt8.toNat_ofNat', UInt8.toNat_ofNat'] at this
        omega
theorem line_inj (hi lo : Nat → Nat) (n : Nd) (a b : Int) (ha : lineOk n a = true) (hb : lineOk n b = true) : lineT hi lo n a = lineT hi lo n b ↔ a = b := by
  refine ⟨fun h => ?_, fun h => by rw [h]⟩
  have h1 := line_cut hi lo n a ha
  have h2 := line_cut hi lo n b hb
  rw [h, h2] at h1
  have h3 := (Prod.mk.inj h1).1
  have h4 := (List.cons.inj h3).2
  have a0 : 0 ≤ a := by
    unfold lineOk at ha
    simp only [Bool.and_eq_true, decide_eq_true_eq] at ha
    exact ha.1.1
  have b0 : 0 ≤ b := by
    unfold lineOk at hb
    simp only [Bool.and_eq_true, decide_eq_true_eq] at hb
    exact hb.1.1
  unfold Lib.itoa at h4
  rw [if_neg (by omega), if_neg (by omega)] at h4
  have := dec_inj _ _ h4
  omega
end Go.Proofs.YtihhhglnnapkoaaGreatDoor.prnw
