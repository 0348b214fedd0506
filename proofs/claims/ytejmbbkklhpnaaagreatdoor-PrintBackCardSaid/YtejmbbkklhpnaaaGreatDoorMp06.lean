/- The walk of lex.first: what a text begins with. Condition: the text is not empty. -/
import Derived.Test.YtejmbbkklhpnaaaGreatDoorMp05
import Derived.Laws.EntriesVeiled
import Derived.RangeFuncNested
import Derived.RangeFuncBox
namespace Go.Proofs.YtejmbbkklhpnaaaGreatDoor.lexw
open Go.RowKit
open Go.Proofs.YtejmbbkklhpnaaaGreatDoor.lexm

theorem firstL_at (s : ByteArray) (h : 0 < s.size) : s.data.toList = s[0] :: s.data.toList.drop 1 := by
  have := drop_cons s 0 h
  simpa using this

theorem cellF (w : World) : (w.alloc (.cells #[.func (.func 116) #[] #[]] 133)).cell? ⟨w.heap.size, 0, none⟩ = some (.func (.func 116) #[] #[]) := (Boxed.new w _ _).cell

/-- what first hands back -/
def First (q : Nat × Nat × Bool) (w : World) (e : Ending) (w' : World) : Prop :=
  e = .returned (.tuple #[.int .u8 q.1, .int .i64 q.2.1, .bool q.2.2]) ∧ Below w.heap.size w w'

set_option maxHeartbeats 1000000 in
theorem first_any (s : ByteArray) (w : World) (hs : s.size ≤ maxLen) (h0 : 0 < s.size) :
    Calls Tryz.prog 93 #[.string s] w (First (firstL s.data.toList) w) := by
  have hsL := hs
  unfold maxLen at hs
  have h255 := byte_le s 0 h0
  have hq : firstL s.data.toList = firstL (s[0] :: s.data.toList.drop 1) := by rw [← firstL_at s h0]
  obtain ⟨q, hqq⟩ : ∃ q, firstL s.data.toList = q := ⟨_, rfl⟩
  rw [hqq]
  rw [hqq] at hq
  simp only [firstL] at hq
  rw [← firstL_at s h0] at hq
  obtain ⟨rem, hrem⟩ : ∃ r, runL remI s.data.toList = r := ⟨_, rfl⟩
  obtain ⟨nam, hnam⟩ : ∃ r, runL namI s.data.toList = r := ⟨_, rfl⟩
  obtain ⟨num, hnum⟩ : ∃ r, runL numI s.data.toList = r := ⟨_, rfl⟩
  rw [hrem, hnam, hnum] at hq
  have Hrem := Lib.hid hrem
  have Hnam := Lib.hid hnam
  have Hnum := Lib.hid hnum
  clear hrem hnam hnum hqq
  have hbx : Below w.heap.size w (w.alloc (.cells #[.func (.func 116) #[] #[]] 133)) := (Below.refl _ w).alloc (Nat.le_refl _) _
  by_cases c32 : s[0].toNat = 32
  · rw [if_pos c32] at hq
    subst hq
    go_enter Tryz.func93, Tryz.ntmps93
    go_wp2
    go_ret3
    exact ⟨rfl, hbx⟩
  rw [if_neg c32] at hq
  by_cases c35 : s[0].toNat = 35
  · rw [if_pos c35] at hq
    subst hq
    clear c32
    go_enter Tryz.func93, Tryz.ntmps93
    go_wp2_with (first | (go_at_call 121; refine (run_rem _ _ hsL).mono ?_; rw [Hrem.out]; rintro e w' ⟨rfl, rfl⟩))
    go_ret3
    exact ⟨rfl, hbx⟩
  rw [if_neg c35] at hq
  by_cases c10 : s[0].toNat = 10
  · rw [if_pos c10] at hq
    subst hq
    go_enter Tryz.func93, Tryz.ntmps93
    go_wp2
    go_ret3
    exact ⟨rfl, hbx⟩
  rw [if_neg c10] at hq
  by_cases c61 : s[0].toNat = 61
  · rw [if_pos c61] at hq
    subst hq
    go_enter Tryz.func93, Tryz.ntmps93
    go_wp2
    go_ret3
    exact ⟨rfl, hbx⟩
  rw [if_neg c61] at hq
  by_cases cl : ltrI s[0].toNat = true
  · rw [if_pos cl] at hq
    subst hq
    have Hl := Lib.hid cl
    clear cl
    go_enter Tryz.func93, Tryz.ntmps93
    go_wp2_with (first | (go_at_call 117; refine (letter_any _ (by omega) h255 _).mono ?_; rw [Hl.out]; rintro e w' ⟨rfl, rfl⟩) | (go_at_call 121; refine (run_nam _ _ hsL).mono ?_; rw [Hnam.out]; rintro e w' ⟨rfl, rfl⟩))
    go_ret3
    exact ⟨by simp; omega, hbx⟩
  rw [if_neg cl] at hq
  rw [Bool.not_eq_true] at cl
  by_cases cd : (digI s[0].toNat || (s[0].toNat : Int) == 45 || (s[0].toNat : Int) == 46) = true
  · rw [if_pos cd] at hq
    subst hq
    have Hl := Lib.hid cl
    clear cl
    cases hd : digI s[0].toNat
    · rw [hd] at cd
      have Hd := Lib.hid hd
      clear hd
      by_cases c45 : s[0].toNat = 45
      · have b45 : ((s[0].toNat : Int) == 45) = true := by rw [beq_iff_eq]; omega
        clear cd c45 c61 c10 c35 c32
        have c32 : ((s[0].toNat : Int) == 32) = false := by have := beq_iff_eq.1 b45; rw [beq_eq_false_iff_ne]; omega
        have c35 : ((s[0].toNat : Int) == 35) = false := by have := beq_iff_eq.1 b45; rw [beq_eq_false_iff_ne]; omega
        have c10 : ((s[0].toNat : Int) == 10) = false := by have := beq_iff_eq.1 b45; rw [beq_eq_false_iff_ne]; omega
        have c61 : ((s[0].toNat : Int) == 61) = false := by have := beq_iff_eq.1 b45; rw [beq_eq_false_iff_ne]; omega
        go_enter Tryz.func93, Tryz.ntmps93
        go_wp2_with (first | (go_at_call 117; refine (letter_any _ (by omega) h255 _).mono ?_; rw [Hl.out]; rintro e w' ⟨rfl, rfl⟩) | (go_at_call 118; refine (digit_any _ _).mono ?_; rw [Hd.out]; rintro e w' ⟨rfl, rfl⟩) | (go_at_call 121; refine (run_num _ _ hsL _ (cellF w)).mono ?_; rw [Hnum.out]; rintro e w' ⟨rfl, rfl⟩))
        go_ret3
        exact ⟨by simp; omega, hbx⟩
      · have c46 : s[0].toNat = 46 := by
          simp only [Bool.false_or, Bool.or_eq_true, beq_iff_eq] at cd
          omega
        have b46 : ((s[0].toNat : Int) == 46) = true := by rw [beq_iff_eq]; omega
        clear cd c45 c46 c61 c10 c35 c32
        have c32 : ((s[0].toNat : Int) == 32) = false := by have := beq_iff_eq.1 b46; rw [beq_eq_false_iff_ne]; omega
        have c35 : ((s[0].toNat : Int) == 35) = false := by have := beq_iff_eq.1 b46; rw [beq_eq_false_iff_ne]; omega
        have c10 : ((s[0].toNat : Int) == 10) = false := by have := beq_iff_eq.1 b46; rw [beq_eq_false_iff_ne]; omega
        have c61 : ((s[0].toNat : Int) == 61) = false := by have := beq_iff_eq.1 b46; rw [beq_eq_false_iff_ne]; omega
        have c45 : ((s[0].toNat : Int) == 45) = false := by have := beq_iff_eq.1 b46; rw [beq_eq_false_iff_ne]; omega
        go_enter Tryz.func93, Tryz.ntmps93
        go_wp2_with (first | (go_at_call 117; refine (letter_any _ (by omega) h255 _).mono ?_; rw [Hl.out]; rintro e w' ⟨rfl, rfl⟩) | (go_at_call 118; refine (digit_any _ _).mono ?_; rw [Hd.out]; rintro e w' ⟨rfl, rfl⟩) | (go_at_call 121; refine (run_num _ _ hsL _ (cellF w)).mono ?_; rw [Hnum.out]; rintro e w' ⟨rfl, rfl⟩))
        go_ret3
        exact ⟨by simp; omega, hbx⟩
    · have Hd := Lib.hid hd
      clear hd cd
      go_enter Tryz.func93, Tryz.ntmps93
      go_wp2_with (first | (go_at_call 117; refine (letter_any _ (by omega) h255 _).mono ?_; rw [Hl.out]; rintro e w' ⟨rfl, rfl⟩) | (go_at_call 118; refine (digit_any _ _).mono ?_; rw [Hd.out]; rintro e w' ⟨rfl, rfl⟩) | (go_at_call 121; refine (run_num _ _ hsL _ (cellF w)).mono ?_; rw [Hnum.out]; rintro e w' ⟨rfl, rfl⟩))
      go_ret3
      exact ⟨by simp; omega, hbx⟩
  · rw [if_neg cd] at hq
    subst hq
    rw [Bool.not_eq_true] at cd
    simp only [Bool.or_eq_false_iff, beq_eq_false_iff_ne, ne_eq] at cd
    obtain ⟨⟨cd, c45⟩, c46⟩ := cd
    have b45 : ((s[0].toNat : Int) == 45) = false := by rw [beq_eq_false_iff_ne]; exact c45
    have b46 : ((s[0].toNat : Int) == 46) = false := by rw [beq_eq_false_iff_ne]; exact c46
    clear c45 c46
    have Hl := Lib.hid cl
    have Hd := Lib.hid cd
    clear cl cd
    go_enter Tryz.func93, Tryz.ntmps93
    go_wp2_with (first | (go_at_call 117; refine (letter_any _ (by omega) h255 _).mono ?_; rw [Hl.out]; rintro e w' ⟨rfl, rfl⟩) | (go_at_call 118; refine (digit_any _ _).mono ?_; rw [Hd.out]; rintro e w' ⟨rfl, rfl⟩))
    go_ret3
    exact ⟨rfl, hbx⟩

end Go.Proofs.YtejmbbkklhpnaaaGreatDoor.lexw
