/- The walk of burnishlaw17.ParseKinds: it returns true. Condition: three of strconv's variables hold what the program's text lays. -/
import Derived.Test.YtgblgolkajdfbaaDoorAwaC
namespace Go.Proofs.YtgblgolkajdfbaaDoor.awaw
open Go.RowKit
open Go.Proofs.YtgblgolkajdfbaaDoor.lexw
open Go.Proofs.YtgblgolkajdfbaaDoor.parw
open Go.Proofs.YtgblgolkajdfbaaDoor.flow

def Inv (B : Nat) (w0 w : World) : Prop := Laid B w ∧ w0.grownBy w none ∧ B ≤ w.heap.size
theorem Inv.next {B : Nat} {w0 w w' : World} (h : Inv B w0 w) (hg : w.grownBy w' none) : Inv B w0 w' :=
  ⟨Laid.stable B w w' none h.1 hg (fun r e => by cases e), grown_trans h.2.1 hg, Nat.le_trans h.2.2 hg.size⟩
theorem kindI (B : Nat) (w0 : World) (s : ByteArray) (w : World) (h : Inv B w0 w) : Calls Tryd.prog 9 #[.string s] w fun e w' => e = .returned (.int .u8 (kindF s)) ∧ Inv B w0 w' :=
  (kind_any s w).mono fun e w' ⟨he, hw⟩ => ⟨he, by subst hw; exact h.next (World.grownBy_alloc w _ _)⟩
theorem wordI (B : Nat) (w0 : World) (k : Nat) (hk : k < 256) (z : Int) (hz : z = k) (w : World) (h : Inv B w0 w) : Calls Tryd.prog 8 #[.int .u8 z] w fun e w' => e = .returned (.string (wordF k)) ∧ Inv B w0 w' := by
  subst hz
  exact (word_any k hk w).mono fun e w' ⟨he, hw⟩ => ⟨he, by subst hw; exact h.next (World.grownBy_alloc w _ _)⟩
theorem awakeI (B : Nat) (w0 : World) (w : World) (h : Inv B w0 w) : Calls Tryd.prog 5 #[] w fun e w' => e = .returned (.bool true) ∧ Inv B w0 w' :=
  (awake_any B w h.1 h.2.2).mono fun e w' ⟨he, hw⟩ => ⟨he, h.next (grown_below hw none)⟩

theorem word_kind : ∀ k, 1 ≤ k → k ≤ 6 → kindF (wordF k) = k ∧ (wordF k).size ≤ 7 ∧ kindF (wordF k ++ ⟨#[120]⟩) = 0 ∧ wordF k ≠ ⟨#[]⟩ := by
  intro k h1 h2
  have : k = 1 ∨ k = 2 ∨ k = 3 ∨ k = 4 ∨ k = 5 ∨ k = 6 := by omega
  rcases this with rfl | rfl | rfl | rfl | rfl | rfl <;> decide +kernel
theorem isEmpty_no {s : ByteArray} (h : ¬ s = ⟨#[]⟩) : s.toList.isEmpty = false := by
  have := sbeq h
  rw [ByteArray.toList_eq] at this ⊢
  cases hs : s.data.toList with
  | nil => rw [hs] at this; simp at this
  | cons a r => rfl
theorem word_none (k : Nat) (h : k = 0 ∨ 7 ≤ k) : wordF k = ⟨#[]⟩ := by
  rcases h with rfl | h
  · rfl
  · unfold wordF; rw [List.getD_eq_getElem?_getD, List.getElem?_eq_none (by exact h)]; rfl
theorem kind_word (s : ByteArray) (h : kindF s ≠ 0) : wordF (kindF s) = s := by
  unfold kindF at h ⊢
  split
  · rename_i e; rw [e]; rfl
  split
  · rename_i e; rw [e]; rfl
  split
  · rename_i e; rw [e]; rfl
  split
  · rename_i e; rw [e]; rfl
  split
  · rename_i e; rw [e]; rfl
  split
  · rename_i e; rw [e]; rfl
  exfalso
  simp_all
theorem kind_zero (s : ByteArray) (h : kindF s = 0) : ¬ wordF 1 = s ∧ ¬ wordF 6 = s := by
  constructor
  · intro e; rw [← e] at h; revert h; decide +kernel
  · intro e; rw [← e] at h; revert h; decide +kernel

set_option maxRecDepth 100000 in
set_option maxHeartbeats 4000000 in
theorem kinds_any (B : Nat) (word : ByteArray) (kind : Nat) (hk : kind < 256) (w : World) (hw : Laid B w) (hB : B ≤ w.heap.size) :
    Calls Tryd.prog 4 #[.string word, .int .u8 kind] w fun e w' => e = .returned (.bool true) ∧ Below w.heap.size w w' := by
  have hI : Inv B w w := ⟨hw, World.grownBy.refl _ _, hB⟩
  obtain ⟨K, hK⟩ : ∃ K, kindF word = K := ⟨_, rfl⟩
  have hK6 : K ≤ 6 := by rw [← hK]; exact kindF_le _
  obtain ⟨S, hS⟩ : ∃ S, wordF kind = S := ⟨_, rfl⟩
  have ck := kindI B w word
  have cw := wordI B w kind hk _ rfl
  rw [hK] at ck
  rw [hS] at cw
  have c1 := wordI B w 1 (by omega) 1 rfl
  have c6 := wordI B w 6 (by omega) 6 rfl
  have cn := kindI B w ⟨#[]⟩
  have cs := kindI B w S
  have cx := kindI B w (S ++ ⟨#[120]⟩)
  have cK := wordI B w K (by omega) _ rfl
  have k0 : kindF ⟨#[]⟩ = 0 := by decide +kernel
  rw [k0] at cn
  by_cases hb : 1 ≤ kind ∧ kind ≤ 6
  · obtain ⟨e1, e2, e3, e4⟩ := word_kind kind hb.1 hb.2
    rw [hS] at e1 e2 e3 e4
    rw [e1] at cs
    rw [e3] at cx
    have n1 := isEmpty_no e4
    have b1 : (1 : Int) ≤ kind := by omega
    have b2 : (kind : Int) ≤ 6 := by omega
    have b3 : decide ((1 : Int) ≤ kind) = true := decide_eq_true b1
    have b4 : decide ((kind : Int) ≤ 6) = true := decide_eq_true b2
    by_cases h0 : K = 0
    · subst h0
      by_cases hwd : word = ⟨#[]⟩
      · subst hwd
        clear hS e1 e3 e4 hb hw hK
        go_enter Tryd.func4, Tryd.ntmps4
        go_wp2_with (first
          | (go_at_call 8; with_reducible refine (cw _ hI).mono ?_; rintro e wk ⟨rfl, hI⟩)
          | (go_at_call 8; with_reducible refine (cw0 _ hI).mono ?_; rintro e wk ⟨rfl, hI⟩)
          | (go_at_call 8; with_reducible refine (c1 _ hI).mono ?_; rintro e wk ⟨rfl, hI⟩)
          | (go_at_call 8; with_reducible refine (c6 _ hI).mono ?_; rintro e wk ⟨rfl, hI⟩)
          | (go_at_call 8; with_reducible refine (cK _ hI).mono ?_; rintro e wk ⟨rfl, hI⟩)
          | (go_at_call 9; with_reducible refine (ck _ hI).mono ?_; rintro e wk ⟨rfl, hI⟩)
          | (go_at_call 9; with_reducible refine (cs _ hI).mono ?_; rintro e wk ⟨rfl, hI⟩)
          | (go_at_call 9; with_reducible refine (cn _ hI).mono ?_; rintro e wk ⟨rfl, hI⟩)
          | (go_at_call 9; with_reducible refine (cx _ hI).mono ?_; rintro e wk ⟨rfl, hI⟩)
          | (go_at_call 5; refine (awakeI B w _ hI).mono ?_; rintro e wk ⟨rfl, hI⟩))
        go_ret
        exact ⟨rfl, below_of_grown hI.2.1⟩
      · have m1 := isEmpty_no hwd
        have m2 := sbeq (kind_zero word hK).1
        have m3 := sbeq (kind_zero word hK).2
        clear hS e1 e3 e4 hb hw hK
        go_enter Tryd.func4, Tryd.ntmps4
        go_wp2_with (first
          | (go_at_call 8; with_reducible refine (cw _ hI).mono ?_; rintro e wk ⟨rfl, hI⟩)
          | (go_at_call 8; with_reducible refine (cw0 _ hI).mono ?_; rintro e wk ⟨rfl, hI⟩)
          | (go_at_call 8; with_reducible refine (c1 _ hI).mono ?_; rintro e wk ⟨rfl, hI⟩)
          | (go_at_call 8; with_reducible refine (c6 _ hI).mono ?_; rintro e wk ⟨rfl, hI⟩)
          | (go_at_call 8; with_reducible refine (cK _ hI).mono ?_; rintro e wk ⟨rfl, hI⟩)
          | (go_at_call 9; with_reducible refine (ck _ hI).mono ?_; rintro e wk ⟨rfl, hI⟩)
          | (go_at_call 9; with_reducible refine (cs _ hI).mono ?_; rintro e wk ⟨rfl, hI⟩)
          | (go_at_call 9; with_reducible refine (cn _ hI).mono ?_; rintro e wk ⟨rfl, hI⟩)
          | (go_at_call 9; with_reducible refine (cx _ hI).mono ?_; rintro e wk ⟨rfl, hI⟩)
          | (go_at_call 5; refine (awakeI B w _ hI).mono ?_; rintro e wk ⟨rfl, hI⟩))
        go_ret
        exact ⟨rfl, below_of_grown hI.2.1⟩
    · have hKw := kind_word word (by rw [hK]; exact h0)
      rw [hK] at hKw
      rw [hKw] at cK
      have m1 : ((K : Int) == 0) = false := by rw [beq_eq_false_iff_ne]; omega
      have m2 : (0 : Int) < K := by omega
      have m3 : ¬ (6 : Int) < K := by omega
      have m4 := sbeq_self word
      clear hS e1 e3 e4 hb hw hK hKw
      go_enter Tryd.func4, Tryd.ntmps4
      go_wp2_with (first
        | (go_at_call 8; with_reducible refine (cw _ hI).mono ?_; rintro e wk ⟨rfl, hI⟩)
        | (go_at_call 8; with_reducible refine (cw0 _ hI).mono ?_; rintro e wk ⟨rfl, hI⟩)
        | (go_at_call 8; with_reducible refine (c1 _ hI).mono ?_; rintro e wk ⟨rfl, hI⟩)
        | (go_at_call 8; with_reducible refine (c6 _ hI).mono ?_; rintro e wk ⟨rfl, hI⟩)
        | (go_at_call 8; with_reducible refine (cK _ hI).mono ?_; rintro e wk ⟨rfl, hI⟩)
        | (go_at_call 9; with_reducible refine (ck _ hI).mono ?_; rintro e wk ⟨rfl, hI⟩)
        | (go_at_call 9; with_reducible refine (cs _ hI).mono ?_; rintro e wk ⟨rfl, hI⟩)
        | (go_at_call 9; with_reducible refine (cn _ hI).mono ?_; rintro e wk ⟨rfl, hI⟩)
        | (go_at_call 9; with_reducible refine (cx _ hI).mono ?_; rintro e wk ⟨rfl, hI⟩)
        | (go_at_call 5; refine (awakeI B w _ hI).mono ?_; rintro e wk ⟨rfl, hI⟩))
      go_ret
      exact ⟨rfl, below_of_grown hI.2.1⟩
  · have hSn : S = ⟨#[]⟩ := by rw [← hS]; exact word_none kind (by omega)
    subst hSn
    have kx : kindF ((⟨#[]⟩ : ByteArray) ++ ⟨#[120]⟩) = 0 := by decide +kernel
    rw [kx] at cx
    rw [k0] at cs
    by_cases hz : kind = 0
    · subst hz
      have cw0 := wordI B w 0 (by omega) 0 rfl
      rw [hS] at cw0
      by_cases h0 : K = 0
      · subst h0
        by_cases hwd : word = ⟨#[]⟩
        · subst hwd
          clear hS hb hw kx hK
          go_enter Tryd.func4, Tryd.ntmps4
          go_wp2_with (first
            | (go_at_call 8; with_reducible refine (cw _ hI).mono ?_; rintro e wk ⟨rfl, hI⟩)
            | (go_at_call 8; with_reducible refine (cw0 _ hI).mono ?_; rintro e wk ⟨rfl, hI⟩)
            | (go_at_call 8; with_reducible refine (c1 _ hI).mono ?_; rintro e wk ⟨rfl, hI⟩)
            | (go_at_call 8; with_reducible refine (c6 _ hI).mono ?_; rintro e wk ⟨rfl, hI⟩)
            | (go_at_call 8; with_reducible refine (cK _ hI).mono ?_; rintro e wk ⟨rfl, hI⟩)
            | (go_at_call 9; with_reducible refine (ck _ hI).mono ?_; rintro e wk ⟨rfl, hI⟩)
            | (go_at_call 9; with_reducible refine (cs _ hI).mono ?_; rintro e wk ⟨rfl, hI⟩)
            | (go_at_call 9; with_reducible refine (cn _ hI).mono ?_; rintro e wk ⟨rfl, hI⟩)
            | (go_at_call 9; with_reducible refine (cx _ hI).mono ?_; rintro e wk ⟨rfl, hI⟩)
            | (go_at_call 5; refine (awakeI B w _ hI).mono ?_; rintro e wk ⟨rfl, hI⟩))
          go_ret
          exact ⟨rfl, below_of_grown hI.2.1⟩
        · have m1 := isEmpty_no hwd
          have m2 := sbeq (kind_zero word hK).1
          have m3 := sbeq (kind_zero word hK).2
          clear hS hb hw kx hK
          go_enter Tryd.func4, Tryd.ntmps4
          go_wp2_with (first
            | (go_at_call 8; with_reducible refine (cw _ hI).mono ?_; rintro e wk ⟨rfl, hI⟩)
            | (go_at_call 8; with_reducible refine (cw0 _ hI).mono ?_; rintro e wk ⟨rfl, hI⟩)
            | (go_at_call 8; with_reducible refine (c1 _ hI).mono ?_; rintro e wk ⟨rfl, hI⟩)
            | (go_at_call 8; with_reducible refine (c6 _ hI).mono ?_; rintro e wk ⟨rfl, hI⟩)
            | (go_at_call 8; with_reducible refine (cK _ hI).mono ?_; rintro e wk ⟨rfl, hI⟩)
            | (go_at_call 9; with_reducible refine (ck _ hI).mono ?_; rintro e wk ⟨rfl, hI⟩)
            | (go_at_call 9; with_reducible refine (cs _ hI).mono ?_; rintro e wk ⟨rfl, hI⟩)
            | (go_at_call 9; with_reducible refine (cn _ hI).mono ?_; rintro e wk ⟨rfl, hI⟩)
            | (go_at_call 9; with_reducible refine (cx _ hI).mono ?_; rintro e wk ⟨rfl, hI⟩)
            | (go_at_call 5; refine (awakeI B w _ hI).mono ?_; rintro e wk ⟨rfl, hI⟩))
          go_ret
          exact ⟨rfl, below_of_grown hI.2.1⟩
      · have hKw := kind_word word (by rw [hK]; exact h0)
        rw [hK] at hKw
        rw [hKw] at cK
        have m1 : ((K : Int) == 0) = false := by rw [beq_eq_false_iff_ne]; omega
        have m2 : (0 : Int) < K := by omega
        have m3 : ¬ (6 : Int) < K := by omega
        have m4 := sbeq_self word
        clear hS hb hw kx hK hKw
        go_enter Tryd.func4, Tryd.ntmps4
        go_wp2_with (first
          | (go_at_call 8; with_reducible refine (cw _ hI).mono ?_; rintro e wk ⟨rfl, hI⟩)
          | (go_at_call 8; with_reducible refine (cw0 _ hI).mono ?_; rintro e wk ⟨rfl, hI⟩)
          | (go_at_call 8; with_reducible refine (c1 _ hI).mono ?_; rintro e wk ⟨rfl, hI⟩)
          | (go_at_call 8; with_reducible refine (c6 _ hI).mono ?_; rintro e wk ⟨rfl, hI⟩)
          | (go_at_call 8; with_reducible refine (cK _ hI).mono ?_; rintro e wk ⟨rfl, hI⟩)
          | (go_at_call 9; with_reducible refine (ck _ hI).mono ?_; rintro e wk ⟨rfl, hI⟩)
          | (go_at_call 9; with_reducible refine (cs _ hI).mono ?_; rintro e wk ⟨rfl, hI⟩)
          | (go_at_call 9; with_reducible refine (cn _ hI).mono ?_; rintro e wk ⟨rfl, hI⟩)
          | (go_at_call 9; with_reducible refine (cx _ hI).mono ?_; rintro e wk ⟨rfl, hI⟩)
          | (go_at_call 5; refine (awakeI B w _ hI).mono ?_; rintro e wk ⟨rfl, hI⟩))
        go_ret
        exact ⟨rfl, below_of_grown hI.2.1⟩
    · have b1 : (1 : Int) ≤ kind := by omega
      have b2 : ¬ (kind : Int) ≤ 6 := by omega
      have b3 : decide ((1 : Int) ≤ kind) = true := decide_eq_true b1
      have b4 : decide ((kind : Int) ≤ 6) = false := decide_eq_false b2
      by_cases h0 : K = 0
      · subst h0
        by_cases hwd : word = ⟨#[]⟩
        · subst hwd
          clear hS hb hw kx hK
          go_enter Tryd.func4, Tryd.ntmps4
          go_wp2_with (first
            | (go_at_call 8; with_reducible refine (cw _ hI).mono ?_; rintro e wk ⟨rfl, hI⟩)
            | (go_at_call 8; with_reducible refine (cw0 _ hI).mono ?_; rintro e wk ⟨rfl, hI⟩)
            | (go_at_call 8; with_reducible refine (c1 _ hI).mono ?_; rintro e wk ⟨rfl, hI⟩)
            | (go_at_call 8; with_reducible refine (c6 _ hI).mono ?_; rintro e wk ⟨rfl, hI⟩)
            | (go_at_call 8; with_reducible refine (cK _ hI).mono ?_; rintro e wk ⟨rfl, hI⟩)
            | (go_at_call 9; with_reducible refine (ck _ hI).mono ?_; rintro e wk ⟨rfl, hI⟩)
            | (go_at_call 9; with_reducible refine (cs _ hI).mono ?_; rintro e wk ⟨rfl, hI⟩)
            | (go_at_call 9; with_reducible refine (cn _ hI).mono ?_; rintro e wk ⟨rfl, hI⟩)
            | (go_at_call 9; with_reducible refine (cx _ hI).mono ?_; rintro e wk ⟨rfl, hI⟩)
            | (go_at_call 5; refine (awakeI B w _ hI).mono ?_; rintro e wk ⟨rfl, hI⟩))
          go_ret
          exact ⟨rfl, below_of_grown hI.2.1⟩
        · have m1 := isEmpty_no hwd
          have m2 := sbeq (kind_zero word hK).1
          have m3 := sbeq (kind_zero word hK).2
          clear hS hb hw kx hK
          go_enter Tryd.func4, Tryd.ntmps4
          go_wp2_with (first
            | (go_at_call 8; with_reducible refine (cw _ hI).mono ?_; rintro e wk ⟨rfl, hI⟩)
            | (go_at_call 8; with_reducible refine (cw0 _ hI).mono ?_; rintro e wk ⟨rfl, hI⟩)
            | (go_at_call 8; with_reducible refine (c1 _ hI).mono ?_; rintro e wk ⟨rfl, hI⟩)
            | (go_at_call 8; with_reducible refine (c6 _ hI).mono ?_; rintro e wk ⟨rfl, hI⟩)
            | (go_at_call 8; with_reducible refine (cK _ hI).mono ?_; rintro e wk ⟨rfl, hI⟩)
            | (go_at_call 9; with_reducible refine (ck _ hI).mono ?_; rintro e wk ⟨rfl, hI⟩)
            | (go_at_call 9; with_reducible refine (cs _ hI).mono ?_; rintro e wk ⟨rfl, hI⟩)
            | (go_at_call 9; with_reducible refine (cn _ hI).mono ?_; rintro e wk ⟨rfl, hI⟩)
            | (go_at_call 9; with_reducible refine (cx _ hI).mono ?_; rintro e wk ⟨rfl, hI⟩)
            | (go_at_call 5; refine (awakeI B w _ hI).mono ?_; rintro e wk ⟨rfl, hI⟩))
          go_ret
          exact ⟨rfl, below_of_grown hI.2.1⟩
      · have hKw := kind_word word (by rw [hK]; exact h0)
        rw [hK] at hKw
        rw [hKw] at cK
        have m1 : ((K : Int) == 0) = false := by rw [beq_eq_false_iff_ne]; omega
        have m2 : (0 : Int) < K := by omega
        have m3 : ¬ (6 : Int) < K := by omega
        have m4 := sbeq_self word
        clear hS hb hw kx hK hKw
        go_enter Tryd.func4, Tryd.ntmps4
        go_wp2_with (first
          | (go_at_call 8; with_reducible refine (cw _ hI).mono ?_; rintro e wk ⟨rfl, hI⟩)
          | (go_at_call 8; with_reducible refine (cw0 _ hI).mono ?_; rintro e wk ⟨rfl, hI⟩)
          | (go_at_call 8; with_reducible refine (c1 _ hI).mono ?_; rintro e wk ⟨rfl, hI⟩)
          | (go_at_call 8; with_reducible refine (c6 _ hI).mono ?_; rintro e wk ⟨rfl, hI⟩)
          | (go_at_call 8; with_reducible refine (cK _ hI).mono ?_; rintro e wk ⟨rfl, hI⟩)
          | (go_at_call 9; with_reducible refine (ck _ hI).mono ?_; rintro e wk ⟨rfl, hI⟩)
          | (go_at_call 9; with_reducible refine (cs _ hI).mono ?_; rintro e wk ⟨rfl, hI⟩)
          | (go_at_call 9; with_reducible refine (cn _ hI).mono ?_; rintro e wk ⟨rfl, hI⟩)
          | (go_at_call 9; with_reducible refine (cx _ hI).mono ?_; rintro e wk ⟨rfl, hI⟩)
          | (go_at_call 5; refine (awakeI B w _ hI).mono ?_; rintro e wk ⟨rfl, hI⟩))
        go_ret
        exact ⟨rfl, below_of_grown hI.2.1⟩

end Go.Proofs.YtgblgolkajdfbaaDoor.awaw
