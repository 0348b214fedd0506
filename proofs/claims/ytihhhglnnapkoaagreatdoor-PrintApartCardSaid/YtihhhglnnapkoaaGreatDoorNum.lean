/- The walks of math.Abs, IsNaN, IsInf, Signbit and of dir.Right. No conditions. -/
import Derived.Test.YtihhhglnnapkoaaGreatDoorProg
import Derived.WalkKit
import Derived.WalkLawsBesides
import Derived.WalkSpells
import Derived.Lib.Hide
import Derived.Outline
import Derived.Laws.FloatBits
import Derived.Laws.FloatArith
import Derived.Laws.Externs
namespace Go.Proofs.YtihhhglnnapkoaaGreatDoor.nodew
open Go.RowKit

theorem bits_run (x : Nat) (w : World) : (callFunc 19 #[.float .f64 x]).run Tryz.prog w = .ok (.value (.int .u64 x)) w := by
  rw [@run_callFunc_extern Tryz.prog 19 _ Extern.MathFloatBits.float64bits Tryz.func19 (by kernel_rfl) (by kernel_rfl) (by kernel_rfl) (by kernel_rfl)]
  rfl
theorem frombits_run (n : Int) (w : World) : (callFunc 48 #[.int .u64 n]).run Tryz.prog w = .ok (.value (.float .f64 n.toNat)) w := by
  rw [@run_callFunc_extern Tryz.prog 48 _ Extern.MathFloatBits.float64frombits Tryz.func48 (by kernel_rfl) (by kernel_rfl) (by kernel_rfl) (by kernel_rfl)]
  rfl
attribute [local go_sem] bits_run frombits_run

theorem run_store_float (P : Program) (w : World) (a : Addr) (m : Mode) (k : FloatKind) (b : Nat) : (store a (.float k b) m).run P w = stored P w a (.float k b) m := run_store P w a _ m rfl

/-- an order of float64s, by their bits -/
def fo (x y : Nat) : Option Ordering := FloatKind.f64.format.order x y
theorem fo_eq (x y : Nat) : FloatKind.f64.format.order x y = fo x y := rfl
attribute [local go_sem] fo_eq
def absF (x : Nat) : Nat := (bits BinOp.andNot IntKind.u64 (x : Int) 9223372036854775808).toNat
def nanF (x : Nat) : Bool := fo x x != some .eq
def infF (x : Nat) : Bool := fo (absF x) 9218868437227405311 == some .gt
def negF (x : Nat) : Bool := decide (wrap64 (x : Int) < 0)
def rightF (x : Nat) : Bool := !nanF x && !infF x && !(fo x 0 == some .eq && negF x)
def geqF (x y : Nat) : Bool := fo x y == some .gt || fo x y == some .eq
def leqF (x y : Nat) : Bool := fo x y == some .lt || fo x y == some .eq
def withinF (lo hi x : Nat) : Bool := rightF x && geqF x lo && leqF x hi

theorem ret_bool {a b : Bool} (h : a = b) : Ending.returned (.bool a) = .returned (.bool b) := by rw [h]

theorem abs_any (x : Nat) (w : World) : Calls Tryz.prog 27 #[.float .f64 x] w fun e w' => e = .returned (.float .f64 (absF x)) ∧ w' = w := by
  go_enter Tryz.func27, Tryz.ntmps27
  go_wp2
  go_ret
  exact ⟨rfl, rfl⟩

theorem isNaN_any (x : Nat) (w : World) : Calls Tryz.prog 45 #[.float .f64 x] w fun e w' => e = .returned (.bool (nanF x)) ∧ w' = w := by
  go_enter Tryz.func45, Tryz.ntmps45
  go_wp2
  go_ret
  exact ⟨rfl, rfl⟩

theorem signbit_any (x : Nat) (w : World) : Calls Tryz.prog 47 #[.float .f64 x] w fun e w' => e = .returned (.bool (negF x)) ∧ w' = w := by
  go_enter Tryz.func47, Tryz.ntmps47
  go_wp2
  go_ret
  exact ⟨rfl, rfl⟩

theorem isInf_any (x : Nat) (w : World) : Calls Tryz.prog 46 #[.float .f64 x, .int .i64 0] w fun e w' => e = .returned (.bool (infF x)) ∧ w' = w := by
  go_enter Tryz.func46, Tryz.ntmps46
  go_wp2_with (first | (go_at_call 27; refine (abs_any _ _).mono ?_; rintro e w' ⟨rfl, rfl⟩))
  go_ret
  exact ⟨rfl, rfl⟩

theorem right_num (x : Nat) (w : World) : Calls Tryz.prog 26 #[.float .f64 x] w fun e w' => e = .returned (.bool (rightF x)) ∧ w' = w := by
  go_enter Tryz.func26, Tryz.ntmps26
  go_wp2_with (first | (go_at_call 45; refine (isNaN_any _ _).mono ?_; rintro e w' ⟨rfl, rfl⟩) | (go_at_call 46; refine (isInf_any _ _).mono ?_; rintro e w' ⟨rfl, rfl⟩) | (go_at_call 47; refine (signbit_any _ _).mono ?_; rintro e w' ⟨rfl, rfl⟩))
  all_goals go_ret
  all_goals exact ⟨ret_bool (by simp_all [rightF]), rfl⟩

theorem within_any (F : Value) (lo hi x : Nat) (w : World) : Calls Tryz.prog 21 #[.agg #[F, .float .f64 lo, .float .f64 hi], .float .f64 x] w fun e w' => e = .returned (.bool (withinF lo hi x)) ∧ Below w.heap.size w w' := by
  go_enter Tryz.func21, Tryz.ntmps21
  go_wp2_with (first | (go_at_call 26; refine (right_num _ _).mono ?_; rintro e w' ⟨rfl, rfl⟩))
  all_goals go_ret
  all_goals exact ⟨ret_bool (by simp_all [withinF, geqF, leqF]), (Below.refl _ _).alloc (Nat.le_refl _) _⟩

end Go.Proofs.YtihhhglnnapkoaaGreatDoor.nodew
