/- The walks of the reference's letter and digit. -/
import Derived.Test.YtdmhebibnnemnaaDoorLexBase
namespace Go.Proofs.YtdmhebibnnemnaaDoor.lexw
open Go.RowKit
open Go.Proofs.YtdmhebibnnemnaaDoor.lexm

theorem rletter_any (c : Int) (w : World) : Calls Tryd.prog 18 #[.int .u8 c] w fun e w' => e = .returned (.bool (ltrI c)) ∧ w = w' := by
  by_cases h1 : 97 ≤ c
  · by_cases h2 : c ≤ 122
    · have hv : ltrI c = true := by simp [ltrI, h1, h2]
      have HV := Lib.hid hv
      clear hv
      go_enter Tryd.func18, Tryd.ntmps18
      go_wp2
      go_ret
      exact ⟨ret_bool HV.out.symm, rfl⟩
    · have hv : ltrI c = false := by
        have : ¬ c ≤ 90 := by omega
        have : ¬ c = 95 := by omega
        simp [ltrI, *]
      have HV := Lib.hid hv
      have h3 : 65 ≤ c := by omega
      have h4 : ¬ c ≤ 90 := by omega
      have h5 : (c == 95) = false := by rw [beq_eq_false_iff_ne]; omega
      clear hv
      go_enter Tryd.func18, Tryd.ntmps18
      go_wp2
      go_ret
      exact ⟨ret_bool HV.out.symm, rfl⟩
  · by_cases h2 : 65 ≤ c
    · by_cases h3 : c ≤ 90
      · have hv : ltrI c = true := by simp [ltrI, h2, h3]
        have HV := Lib.hid hv
        clear hv
        go_enter Tryd.func18, Tryd.ntmps18
        go_wp2
        go_ret
        exact ⟨ret_bool HV.out.symm, rfl⟩
      · have hv : ltrI c = (c == 95) := by simp [ltrI, h1, h3]
        have HV := Lib.hid hv
        clear hv
        go_enter Tryd.func18, Tryd.ntmps18
        go_wp2
        go_ret
        exact ⟨ret_bool HV.out.symm, rfl⟩
    · have hv : ltrI c = (c == 95) := by simp [ltrI, h1, h2]
      have HV := Lib.hid hv
      clear hv
      go_enter Tryd.func18, Tryd.ntmps18
      go_wp2
      go_ret
      exact ⟨ret_bool HV.out.symm, rfl⟩

theorem rdigit_any (c : Int) (w : World) : Calls Tryd.prog 19 #[.int .u8 c] w fun e w' => e = .returned (.bool (digI c)) ∧ w = w' := by
  go_enter Tryd.func19, Tryd.ntmps19
  go_wp2
  all_goals go_ret
  · have h : 48 ≤ c := by assumption
    exact ⟨ret_bool (by simp [digI, h]), rfl⟩
  · have h : ¬ 48 ≤ c := by omega
    exact ⟨ret_bool (by simp [digI, h]), rfl⟩

end Go.Proofs.YtdmhebibnnemnaaDoor.lexw
