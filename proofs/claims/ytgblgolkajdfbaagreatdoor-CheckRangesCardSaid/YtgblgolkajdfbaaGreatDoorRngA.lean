/- The walks of math.NaN, Copysign, Nextafter. No conditions. -/
import Derived.Test.YtgblgolkajdfbaaGreatDoorNodeA
namespace Go.Proofs.YtgblgolkajdfbaaGreatDoor.chkw
open Go.RowKit
open Go.Proofs.YtgblgolkajdfbaaGreatDoor.nodew

theorem bits_run' (x : Nat) (w : World) : (callFunc 39 #[.float .f64 x]).run Tryz.prog w = .ok (.value (.int .u64 x)) w := nodew.bits_run x w
theorem frombits_run' (n : Int) (w : World) : (callFunc 38 #[.int .u64 n]).run Tryz.prog w = .ok (.value (.float .f64 n.toNat)) w := nodew.frombits_run n w
attribute [local go_sem] bits_run' frombits_run' nodew.fo_eq nodew.run_store_float

theorem nan_any (w : World) : Calls Tryz.prog 17 #[] w fun e w' => e = .returned (.float .f64 9221120237041090561) ∧ w' = w := by
  go_enter Tryz.func17, Tryz.ntmps17
  go_wp2
  go_ret
  exact ⟨rfl, rfl⟩
/-- the number with another's sign -/
def copyF (x y : Nat) : Nat := (bits BinOp.or IntKind.u64 (bits BinOp.andNot IntKind.u64 (x : Int) 9223372036854775808) (bits BinOp.and IntKind.u64 (y : Int) 9223372036854775808)).toNat
theorem copysign_any (x y : Nat) (w : World) : Calls Tryz.prog 18 #[.float .f64 x, .float .f64 y] w fun e w' => e = .returned (.float .f64 (copyF x y)) ∧ w' = w := by
  go_enter Tryz.func18, Tryz.ntmps18
  go_wp2
  go_ret
  exact ⟨rfl, rfl⟩

theorem next_0 (w : World) : Calls Tryz.prog 16 #[.float .f64 0, .float .f64 13844628204490326016] w fun e w' => e = .returned (.float .f64 9223372036854775809) ∧ w' = w := by
  have n1 : nanF 0 = false := by kernel_rfl
  have n2 : nanF 13844628204490326016 = false := by kernel_rfl
  have o1 : fo 0 13844628204490326016 = some .gt := by kernel_rfl
  have o2 : fo 0 0 = some .eq := by kernel_rfl
  have o3 : fo 13844628204490326016 0 = some .lt := by kernel_rfl
  have cp : copyF 1 13844628204490326016 = 9223372036854775809 := by kernel_rfl
  go_enter Tryz.func16, Tryz.ntmps16
  go_wp2_with (first | (go_at_call 37; refine (isNaN_any _ _).mono ?_; rintro e w' ⟨rfl, rfl⟩) | (go_at_call 18; refine (copysign_any _ _ _).mono ?_; rintro e w' ⟨rfl, rfl⟩))
  go_ret
  exact ⟨rfl, rfl⟩
theorem next_1 (w : World) : Calls Tryz.prog 16 #[.float .f64 4589168020290535424, .float .f64 13844628204490326016] w fun e w' => e = .returned (.float .f64 4589168020290535423) ∧ w' = w := by
  have n1 : nanF 4589168020290535424 = false := by kernel_rfl
  have n2 : nanF 13844628204490326016 = false := by kernel_rfl
  have o1 : fo 4589168020290535424 13844628204490326016 = some .gt := by kernel_rfl
  have o2 : fo 4589168020290535424 0 = some .gt := by kernel_rfl
  have o3 : fo 13844628204490326016 4589168020290535424 = some .lt := by kernel_rfl
  have cp : copyF 1 13844628204490326016 = 9223372036854775809 := by kernel_rfl
  go_enter Tryz.func16, Tryz.ntmps16
  go_wp2_with (first | (go_at_call 37; refine (isNaN_any _ _).mono ?_; rintro e w' ⟨rfl, rfl⟩) | (go_at_call 18; refine (copysign_any _ _ _).mono ?_; rintro e w' ⟨rfl, rfl⟩))
  go_ret
  exact ⟨rfl, rfl⟩
theorem next_2 (w : World) : Calls Tryz.prog 16 #[.float .f64 4584664420663164928, .float .f64 13844628204490326016] w fun e w' => e = .returned (.float .f64 4584664420663164927) ∧ w' = w := by
  have n1 : nanF 4584664420663164928 = false := by kernel_rfl
  have n2 : nanF 13844628204490326016 = false := by kernel_rfl
  have o1 : fo 4584664420663164928 13844628204490326016 = some .gt := by kernel_rfl
  have o2 : fo 4584664420663164928 0 = some .gt := by kernel_rfl
  have o3 : fo 13844628204490326016 4584664420663164928 = some .lt := by kernel_rfl
  have cp : copyF 1 13844628204490326016 = 9223372036854775809 := by kernel_rfl
  go_enter Tryz.func16, Tryz.ntmps16
  go_wp2_with (first | (go_at_call 37; refine (isNaN_any _ _).mono ?_; rintro e w' ⟨rfl, rfl⟩) | (go_at_call 18; refine (copysign_any _ _ _).mono ?_; rintro e w' ⟨rfl, rfl⟩))
  go_ret
  exact ⟨rfl, rfl⟩
theorem next_3 (w : World) : Calls Tryz.prog 16 #[.float .f64 4607463893776728064, .float .f64 13844628204490326016] w fun e w' => e = .returned (.float .f64 4607463893776728063) ∧ w' = w := by
  have n1 : nanF 4607463893776728064 = false := by kernel_rfl
  have n2 : nanF 13844628204490326016 = false := by kernel_rfl
  have o1 : fo 4607463893776728064 13844628204490326016 = some .gt := by kernel_rfl
  have o2 : fo 4607463893776728064 0 = some .gt := by kernel_rfl
  have o3 : fo 13844628204490326016 4607463893776728064 = some .lt := by kernel_rfl
  have cp : copyF 1 13844628204490326016 = 9223372036854775809 := by kernel_rfl
  go_enter Tryz.func16, Tryz.ntmps16
  go_wp2_with (first | (go_at_call 37; refine (isNaN_any _ _).mono ?_; rintro e w' ⟨rfl, rfl⟩) | (go_at_call 18; refine (copysign_any _ _ _).mono ?_; rintro e w' ⟨rfl, rfl⟩))
  go_ret
  exact ⟨rfl, rfl⟩
theorem next_4 (w : World) : Calls Tryz.prog 16 #[.float .f64 4607182418800017408, .float .f64 4636666922610458624] w fun e w' => e = .returned (.float .f64 4607182418800017409) ∧ w' = w := by
  have n1 : nanF 4607182418800017408 = false := by kernel_rfl
  have n2 : nanF 4636666922610458624 = false := by kernel_rfl
  have o1 : fo 4607182418800017408 4636666922610458624 = some .lt := by kernel_rfl
  have o2 : fo 4607182418800017408 0 = some .gt := by kernel_rfl
  have o3 : fo 4636666922610458624 4607182418800017408 = some .gt := by kernel_rfl
  have cp : copyF 1 4636666922610458624 = 1 := by kernel_rfl
  go_enter Tryz.func16, Tryz.ntmps16
  go_wp2_with (first | (go_at_call 37; refine (isNaN_any _ _).mono ?_; rintro e w' ⟨rfl, rfl⟩) | (go_at_call 18; refine (copysign_any _ _ _).mono ?_; rintro e w' ⟨rfl, rfl⟩))
  go_ret
  exact ⟨rfl, rfl⟩
theorem next_5 (w : World) : Calls Tryz.prog 16 #[.float .f64 4625196817309499392, .float .f64 4636666922610458624] w fun e w' => e = .returned (.float .f64 4625196817309499393) ∧ w' = w := by
  have n1 : nanF 4625196817309499392 = false := by kernel_rfl
  have n2 : nanF 4636666922610458624 = false := by kernel_rfl
  have o1 : fo 4625196817309499392 4636666922610458624 = some .lt := by kernel_rfl
  have o2 : fo 4625196817309499392 0 = some .gt := by kernel_rfl
  have o3 : fo 4636666922610458624 4625196817309499392 = some .gt := by kernel_rfl
  have cp : copyF 1 4636666922610458624 = 1 := by kernel_rfl
  go_enter Tryz.func16, Tryz.ntmps16
  go_wp2_with (first | (go_at_call 37; refine (isNaN_any _ _).mono ?_; rintro e w' ⟨rfl, rfl⟩) | (go_at_call 18; refine (copysign_any _ _ _).mono ?_; rintro e w' ⟨rfl, rfl⟩))
  go_ret
  exact ⟨rfl, rfl⟩
theorem next_6 (w : World) : Calls Tryz.prog 16 #[.float .f64 4616189618054758400, .float .f64 4636666922610458624] w fun e w' => e = .returned (.float .f64 4616189618054758401) ∧ w' = w := by
  have n1 : nanF 4616189618054758400 = false := by kernel_rfl
  have n2 : nanF 4636666922610458624 = false := by kernel_rfl
  have o1 : fo 4616189618054758400 4636666922610458624 = some .lt := by kernel_rfl
  have o2 : fo 4616189618054758400 0 = some .gt := by kernel_rfl
  have o3 : fo 4636666922610458624 4616189618054758400 = some .gt := by kernel_rfl
  have cp : copyF 1 4636666922610458624 = 1 := by kernel_rfl
  go_enter Tryz.func16, Tryz.ntmps16
  go_wp2_with (first | (go_at_call 37; refine (isNaN_any _ _).mono ?_; rintro e w' ⟨rfl, rfl⟩) | (go_at_call 18; refine (copysign_any _ _ _).mono ?_; rintro e w' ⟨rfl, rfl⟩))
  go_ret
  exact ⟨rfl, rfl⟩

end Go.Proofs.YtgblgolkajdfbaaGreatDoor.chkw
