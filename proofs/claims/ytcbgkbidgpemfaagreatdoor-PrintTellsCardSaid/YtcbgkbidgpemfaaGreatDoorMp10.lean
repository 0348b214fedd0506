/- Floats as burnishref16.pieces takes them: plain facts of their bits. No conditions but those stated. -/
import Derived.Test.YtcbgkbidgpemfaaGreatDoorMp07
import Derived.Test.YtcbgkbidgpemfaaGreatDoorMp09
import Derived.Test.YtcbgkbidgpemfaaGreatDoorMp06
import Derived.WalkKit
import Derived.WalkLawsBesides
import Derived.WalkSpells
import Derived.Lib.Hide
import Derived.Outline
import Derived.Laws.FloatBits
import Derived.Laws.FloatArith
import Derived.Laws.Externs
namespace Go.Proofs.YtcbgkbidgpemfaaGreatDoor.rg
open Go.RowKit
open Go.Proofs.YtcbgkbidgpemfaaGreatDoor.fpm
open Go.Proofs.YtcbgkbidgpemfaaGreatDoor.prnw
open Go.Proofs.YtcbgkbidgpemfaaGreatDoor.flatm

def way_out (m a : Nat) : Nat := m <<< ((-1074 : Int) + a).toNat / 2 ^ (-((-1074 : Int) + a)).toNat
theorem cut_zero (neg : Bool) (n v : Nat) : Ieee.Toward.cut .zero neg n v = n / 2 ^ v := by
  have e : Ieee.Toward.cut .zero neg n v = n / (1 <<< min v (n.log2 + 2)) + 0 := rfl
  rw [e, Nat.add_zero, Nat.one_shiftLeft]
  by_cases h : v ≤ n.log2 + 2
  · rw [Nat.min_eq_left h]
  · rw [Nat.min_eq_right (by omega)]
    have h1 : n < 2 ^ (n.log2 + 2) := by
      by_cases h0 : n = 0
      · rw [h0]; exact Nat.two_pow_pos _
      · exact Nat.lt_of_lt_of_le ((Nat.log2_lt h0).1 (Nat.lt_succ_self _)) (Nat.pow_le_pow_right (by decide) (by omega))
    rw [Nat.div_eq_of_lt h1, Nat.div_eq_of_lt (Nat.lt_of_lt_of_le h1 (Nat.pow_le_pow_right (by decide) (by omega)))]
/-- a float that is a whole number, as that -/
theorem f2u (Z d : Nat) (hZ : Z < infW) (h : valR Z = d * 2 ^ leB) (hd : d < 18446744073709551616) : floatToIntVal .f64 Z .u64 = some (d : Int) := by
  obtain ⟨m, a, h1, h2⟩ := word_read false Z hZ
  rw [word_eq, if_neg (by decide)] at h1
  rw [h] at h2
  have hl := leB_eq
  have hw : way_out m a = d := by
    unfold way_out
    by_cases hc : leB ≤ a
    · obtain ⟨k, rfl⟩ : ∃ k, a = leB + k := ⟨a - leB, by omega⟩
      rw [show ((-1074 : Int) + ((leB + k : Nat) : Int)).toNat = k by rw [hl]; omega, show (-((-1074 : Int) + ((leB + k : Nat) : Int))).toNat = 0 by rw [hl]; omega, Nat.shiftLeft_eq, Nat.pow_zero, Nat.div_one]
      rw [Nat.pow_add, Nat.mul_comm (2 ^ leB), ← Nat.mul_assoc] at h2
      exact two_cancel h2
    · obtain ⟨k, hk⟩ : ∃ k, leB = a + k := ⟨leB - a, by omega⟩
      rw [show ((-1074 : Int) + (a : Int)).toNat = 0 by omega, show (-((-1074 : Int) + (a : Int))).toNat = k by omega, Nat.shiftLeft_eq, Nat.pow_zero, Nat.mul_one]
      rw [hk, Nat.pow_add, Nat.mul_comm (2 ^ a), ← Nat.mul_assoc] at h2
      rw [two_cancel h2, Nat.mul_div_cancel _ (Nat.two_pow_pos k)]
  have hr : FloatKind.f64.decode Z = .number false m ((-1074 : Int) + a) := h1
  unfold floatToIntVal
  rw [hr]
  have ht : Ieee.Datum.toInt .zero (.number false m ((-1074 : Int) + a)) = some (d : Int) := by
    have e : Ieee.Datum.toInt .zero (.number false m ((-1074 : Int) + a)) = some (Ieee.signed false (Ieee.Toward.cut .zero false (m <<< ((-1074 : Int) + a).toNat) (-((-1074 : Int) + a)).toNat) 0) := rfl
    rw [e, cut_zero]
    have hw' : m <<< ((-1074 : Int) + a).toNat / 2 ^ (-((-1074 : Int) + a)).toNat = d := hw
    rw [hw', signed_nat]
    simp
  rw [ht]
  have h0 : IntKind.u64.min = 0 := rfl
  have h9 : IntKind.u64.max = 18446744073709551615 := rfl
  show (if IntKind.u64.min ≤ (d : Int) ∧ (d : Int) ≤ IntKind.u64.max then some (d : Int) else none) = _
  rw [h0, h9, if_pos ⟨by omega, by omega⟩]
/-- a number below the normal ones, times two to 52 -/
def upW (X : Nat) : Nat := (X.log2 + 1) * 4503599627370496 + (X - 2 ^ X.log2) * 2 ^ (52 - X.log2)
theorem up_parts (X : Nat) (h0 : 0 < X) (h : X < 4503599627370496) : X.log2 ≤ 51 ∧ (X - 2 ^ X.log2) * 2 ^ (52 - X.log2) < 4503599627370496 ∧ 2 ^ X.log2 ≤ X ∧ 4503599627370496 * 2 ^ X.log2 + (X - 2 ^ X.log2) * 2 ^ (52 - X.log2) * 2 ^ X.log2 = X * 4503599627370496 := by
  have hb : 2 ^ X.log2 ≤ X := Nat.log2_self_le (by omega)
  have hb2 : X < 2 ^ (X.log2 + 1) := (Nat.log2_lt (by omega)).1 (Nat.lt_succ_self _)
  obtain ⟨b, hbe⟩ : ∃ b, X.log2 = b := ⟨_, rfl⟩
  rw [hbe] at hb hb2 ⊢
  have h51 : b ≤ 51 := by
    refine Nat.le_of_not_lt fun hl => ?_
    have : 2 ^ 52 ≤ 2 ^ b := Nat.pow_le_pow_right (by decide) hl
    have e : (2 : Nat) ^ 52 = 4503599627370496 := by decide
    omega
  have e : (2 : Nat) ^ (52 - b) * 2 ^ b = 4503599627370496 := by
    rw [← Nat.pow_add, show 52 - b + b = 52 by omega]
  rw [Nat.pow_succ] at hb2
  have hp := Nat.two_pow_pos (52 - b)
  refine ⟨h51, ?_, hb, ?_⟩
  · have h1 : (X - 2 ^ b) * 2 ^ (52 - b) < 2 ^ b * 2 ^ (52 - b) := (Nat.mul_lt_mul_right hp).2 (by omega)
    rw [Nat.mul_comm (2 ^ b), e] at h1
    exact h1
  · rw [Nat.mul_assoc, e, Nat.mul_comm 4503599627370496, ← Nat.add_mul]
    congr 1
    omega
theorem val_norm (t r : Nat) (hr : r < 4503599627370496) : valR ((t + 1) * 4503599627370496 + r) = (4503599627370496 + r) * 2 ^ t := by
  unfold valR
  rw [if_neg (by omega), show ((t + 1) * 4503599627370496 + r) % 4503599627370496 = r by omega, show ((t + 1) * 4503599627370496 + r) / 4503599627370496 = t + 1 by omega, Nat.add_sub_cancel]
theorem pow_split (L a b : Nat) (h : L = a + b) : 2 ^ L = 2 ^ a * 2 ^ b := by rw [h, Nat.pow_add]
theorem up_val (X : Nat) (h0 : 0 < X) (h : X < 4503599627370496) : valR (upW X) = X * 4503599627370496 ∧ valR (upW X + 1022 * 4503599627370496) = X * 2 ^ leB ∧ upW X + 1022 * 4503599627370496 < infW ∧ 0 < upW X ∧ upW X < 53 * 4503599627370496 := by
  obtain ⟨h1, h2, h3, h4⟩ := up_parts X h0 h
  obtain ⟨r, hr⟩ : ∃ r, (X - 2 ^ X.log2) * 2 ^ (52 - X.log2) = r := ⟨_, rfl⟩
  unfold upW
  rw [hr] at h2 h4 ⊢
  obtain ⟨b, hb⟩ : ∃ b, X.log2 = b := ⟨_, rfl⟩
  rw [hb] at h1 h4 ⊢
  have hi := infW_eq
  refine ⟨?_, ?_, by omega, by omega, by omega⟩
  · rw [val_norm b r h2, Nat.add_mul]
    exact h4
  · obtain ⟨K, hK⟩ : ∃ K, K = 1022 := ⟨_, rfl⟩
    have hl : leB = 52 + K := by rw [hK]; exact leB_eq
    rw [← hK, show (b + 1) * 4503599627370496 + r + K * 4503599627370496 = (b + K + 1) * 4503599627370496 + r by omega, val_norm _ r h2, Nat.pow_add, ← Nat.mul_assoc, Nat.add_mul, h4, pow_split leB 52 K hl, ← Nat.mul_assoc]
/-- a normal one's mantissa as a float -/
theorem fr_val (X : Nat) (h : 4503599627370496 ≤ X) : valR (X % 4503599627370496 + 1075 * 4503599627370496) = ftM X * 2 ^ leB ∧ X % 4503599627370496 + 1075 * 4503599627370496 < infW := by
  have hi := infW_eq
  refine ⟨?_, by omega⟩
  rw [show X % 4503599627370496 + 1075 * 4503599627370496 = (1074 + 1) * 4503599627370496 + X % 4503599627370496 by omega, val_norm _ _ (Nat.mod_lt _ (by decide))]
  unfold ftM
  rw [if_neg (by omega), Nat.add_comm, leB_eq]
theorem ft_low {X : Nat} (h : X < 4503599627370496) : ftM X = X ∧ ftE X - 52 = -1074 := by
  unfold ftM ftE
  rw [if_pos (by omega), if_pos (by omega)]
  omega
theorem ft_high {X : Nat} (h : 4503599627370496 ≤ X) : ftE X - 52 = ((X / 4503599627370496 : Nat) : Int) - 1075 := by
  unfold ftE
  rw [if_neg (by omega)]
  omega
end Go.Proofs.YtcbgkbidgpemfaaGreatDoor.rg

/- The walks of math.Abs, IsNaN, IsInf, Signbit and of dir.Right. No conditions. -/
namespace Go.Proofs.YtcbgkbidgpemfaaGreatDoor.nodew
open Go.RowKit

theorem bits_run (x : Nat) (w : World) : (callFunc 63 #[.float .f64 x]).run Tryz.prog w = .ok (.value (.int .u64 x)) w := by
  rw [@run_callFunc_extern Tryz.prog 63 _ Extern.MathFloatBits.float64bits Tryz.func63 (by kernel_rfl) (by kernel_rfl) (by kernel_rfl) (by kernel_rfl)]
  rfl
theorem frombits_run (n : Int) (w : World) : (callFunc 113 #[.int .u64 n]).run Tryz.prog w = .ok (.value (.float .f64 n.toNat)) w := by
  rw [@run_callFunc_extern Tryz.prog 113 _ Extern.MathFloatBits.float64frombits Tryz.func113 (by kernel_rfl) (by kernel_rfl) (by kernel_rfl) (by kernel_rfl)]
  rfl
attribute [local go_sem] bits_run frombits_run

theorem run_store_float (P : Program) (w : World) (a : Addr) (m : Mode) (k : FloatKind) (b : Nat) : (store a (.float k b) m).run P w = stored P w a (.float k b) m := run_store P w a _ m rfl

attribute [local go_sem] fo_eq
def absF (x : Nat) : Nat := (bits BinOp.andNot IntKind.u64 (x : Int) 9223372036854775808).toNat
def nanF (x : Nat) : Bool := fo x x != some .eq
def infF (x : Nat) : Bool := fo (absF x) 9218868437227405311 == some .gt
def negF (x : Nat) : Bool := decide (wrap64 (x : Int) < 0)
def rightF (x : Nat) : Bool := !nanF x && !infF x && !(fo x 0 == some .eq && negF x)
def geqF (x y : Nat) : Bool := fo x y == some .gt || fo x y == some .eq
def leqF (x y : Nat) : Bool := fo x y == some .lt || fo x y == some .eq
def withinF (lo hi x : Nat) : Bool := rightF x && geqF x lo && leqF x hi

theorem ret_bool {a b : Bool} (h : a = b) : Ending.returned (.bool a) = .returned (.bool b) := by rw [h]

theorem abs_any (x : Nat) (w : World) : Calls Tryz.prog 81 #[.float .f64 x] w fun e w' => e = .returned (.float .f64 (absF x)) ∧ w' = w := by
  go_enter Tryz.func81, Tryz.ntmps81
  go_wp2
  go_ret
  exact ⟨rfl, rfl⟩

theorem isNaN_any (x : Nat) (w : World) : Calls Tryz.prog 110 #[.float .f64 x] w fun e w' => e = .returned (.bool (nanF x)) ∧ w' = w := by
  go_enter Tryz.func110, Tryz.ntmps110
  go_wp2
  go_ret
  exact ⟨rfl, rfl⟩

theorem signbit_any (x : Nat) (w : World) : Calls Tryz.prog 112 #[.float .f64 x] w fun e w' => e = .returned (.bool (negF x)) ∧ w' = w := by
  go_enter Tryz.func112, Tryz.ntmps112
  go_wp2
  go_ret
  exact ⟨rfl, rfl⟩

theorem isInf_any (x : Nat) (w : World) : Calls Tryz.prog 111 #[.float .f64 x, .int .i64 0] w fun e w' => e = .returned (.bool (infF x)) ∧ w' = w := by
  go_enter Tryz.func111, Tryz.ntmps111
  go_wp2_with (first | (go_at_call 81; refine (abs_any _ _).mono ?_; rintro e w' ⟨rfl, rfl⟩))
  go_ret
  exact ⟨rfl, rfl⟩

theorem right_num (x : Nat) (w : World) : Calls Tryz.prog 80 #[.float .f64 x] w fun e w' => e = .returned (.bool (rightF x)) ∧ w' = w := by
  go_enter Tryz.func80, Tryz.ntmps80
  go_wp2_with (first | (go_at_call 110; refine (isNaN_any _ _).mono ?_; rintro e w' ⟨rfl, rfl⟩) | (go_at_call 111; refine (isInf_any _ _).mono ?_; rintro e w' ⟨rfl, rfl⟩) | (go_at_call 112; refine (signbit_any _ _).mono ?_; rintro e w' ⟨rfl, rfl⟩))
  all_goals go_ret
  all_goals exact ⟨ret_bool (by simp_all [rightF]), rfl⟩

theorem within_any (F : Value) (lo hi x : Nat) (w : World) : Calls Tryz.prog 76 #[.agg #[F, .float .f64 lo, .float .f64 hi], .float .f64 x] w fun e w' => e = .returned (.bool (withinF lo hi x)) ∧ Below w.heap.size w w' := by
  go_enter Tryz.func76, Tryz.ntmps76
  go_wp2_with (first | (go_at_call 80; refine (right_num _ _).mono ?_; rintro e w' ⟨rfl, rfl⟩))
  all_goals go_ret
  all_goals exact ⟨ret_bool (by simp_all [withinF, geqF, leqF]), (Below.refl _ _).alloc (Nat.le_refl _) _⟩

end Go.Proofs.YtcbgkbidgpemfaaGreatDoor.nodew

/- burnishref16.pieces: the walks of math.Ldexp and math.Frexp where it calls them, and of pieces. Conditions: as each theorem states. -/
namespace Go.Proofs.YtcbgkbidgpemfaaGreatDoor.rg
open Go.RowKit
open Go.Proofs.YtcbgkbidgpemfaaGreatDoor.nodew
open Go.Proofs.YtcbgkbidgpemfaaGreatDoor.flatm
open Go.Proofs.YtcbgkbidgpemfaaGreatDoor.dcw
open Go.Proofs.YtcbgkbidgpemfaaGreatDoor.fpm
open Go.Proofs.YtcbgkbidgpemfaaGreatDoor.rdf
open Go.Proofs.YtcbgkbidgpemfaaGreatDoor.prnw
attribute [local go_sem] nodew.fo_eq bits_run frombits_run

theorem sv_pos {X : Nat} (h : X < 9218868437227405312) : sv X = (valR X : Int) := by
  unfold sv
  rw [if_neg (by omega), Nat.mod_eq_of_lt (by omega)]
theorem fo_lt_pos {X Y : Nat} (hX : X < 9218868437227405312) (hY : Y < 9218868437227405312) : (fo X Y == some .lt) = decide (X < Y) := by
  rw [fo_sv (by omega) (by omega), sv_pos hX, sv_pos hY, Int.compare_eq_ite_lt]
  by_cases h : X < Y
  · have := val_lt h
    rw [if_pos (by omega), decide_eq_true h]
    rfl
  · have := val_le (show Y ≤ X by omega)
    rw [if_neg (by omega), decide_eq_false h]
    split <;> rfl
theorem fo_eq_pos {X Y : Nat} (hX : X < 9218868437227405312) (hY : Y < 9218868437227405312) : (fo X Y == some .eq) = decide (X = Y) := by
  rw [fo_sv (by omega) (by omega), sv_pos hX, sv_pos hY]
  by_cases h : X = Y
  · rw [decide_eq_true h, h]
    simp
  · have hv : valR X ≠ valR Y := fun e => h (val_inj e)
    rw [decide_eq_false h, Int.compare_eq_ite_lt]
    split
    · rfl
    · rw [if_pos (by omega)]; rfl
theorem abs_pos {x : Nat} (hx : x < 9223372036854775808) : absF x = x := by
  unfold absF
  have h : bits BinOp.andNot IntKind.u64 (x : Int) 9223372036854775808 = IntKind.u64.wrap (((BitVec.ofInt 64 (x : Int) &&& ~~~ (BitVec.ofInt 64 9223372036854775808)).toNat : Nat) : Int) := rfl
  have h2 : (BitVec.ofInt 64 (x : Int)).toNat = x := by
    rw [BitVec.toNat_ofInt]
    omega
  have h3 : (~~~ (BitVec.ofInt 64 9223372036854775808)).toNat = 2 ^ 63 - 1 := by decide
  rw [h, BitVec.toNat_and, h2, h3, Nat.and_two_pow_sub_one_eq_mod, IntKind.wrap_u64]
  omega
theorem plain_parts {F : Nat} (h : F < 9218868437227405312) : nanF F = false ∧ infF F = false ∧ negF F = false := by
  refine ⟨?_, ?_, ?_⟩
  · have := fo_eq_pos h h
    rw [decide_eq_true rfl] at this
    unfold nanF
    simpa using this
  · unfold infF
    rw [abs_pos (by omega), fo_sv (by omega) (by decide), sv_pos h, sv_pos (by decide), Int.compare_eq_ite_lt]
    have := val_le (show F ≤ 9218868437227405311 by omega)
    split
    · rfl
    · rw [if_neg (by omega)]
      rfl
  · unfold negF
    rw [decide_eq_false]
    unfold wrap64
    omega
theorem near_own (X : Nat) : nearX (valR X) (2 ^ leB) = X := by
  have hB : 0 < 2 ^ leB := Nat.two_pow_pos _
  by_cases h : X < 4503599627370496
  · have hv := val_low h
    have := near_eq hB (near_mk (valR X) (2 ^ leB) 1 X 0 X hB (by decide) (by rw [hv, Nat.pow_zero]; simp) (by omega) (by omega) (fun _ => by omega) (by omega) (.inl rfl))
    omega
  · obtain ⟨t, ht⟩ : ∃ t, t = X / 4503599627370496 - 1 := ⟨_, rfl⟩
    obtain ⟨R, hR⟩ : ∃ R, R = 4503599627370496 + X % 4503599627370496 := ⟨_, rfl⟩
    have hv : valR X = R * 2 ^ t := by unfold valR; rw [if_neg h, ← hR, ← ht]
    have := near_eq hB (near_mk (valR X) (2 ^ leB) 1 R t R hB (by decide) (by rw [hv, Nat.mul_one]) (by omega) (by omega) (fun _ => by omega) (by omega) (.inr (by omega)))
    omega
theorem andn_x (a : Nat) (ha : a < 9223372036854775808) : bits BinOp.andNot IntKind.u64 (a : Int) 9218868437227405312 = ((a % 4503599627370496 : Nat) : Int) := by
  have h : bits BinOp.andNot IntKind.u64 (a : Int) 9218868437227405312 = IntKind.u64.wrap (((BitVec.ofInt 64 (a : Int) &&& ~~~ (BitVec.ofInt 64 9218868437227405312)).toNat : Nat) : Int) := rfl
  have h2 : (BitVec.ofInt 64 (a : Int)).toNat = a := by
    rw [BitVec.toNat_ofInt]
    omega
  have h3 : (~~~ (BitVec.ofInt 64 9218868437227405312)).toNat = 2 ^ 63 ||| (2 ^ 52 - 1) := by decide
  have h4 : a &&& 2 ^ 63 = 0 := by
    apply Nat.eq_of_testBit_eq
    intro i
    rw [Nat.testBit_and, Nat.testBit_two_pow, Nat.zero_testBit]
    by_cases hi : 63 = i
    · subst hi
      rw [Nat.testBit_lt_two_pow (show a < 2 ^ 63 by omega)]
      rfl
    · rw [decide_eq_false hi, Bool.and_false]
  rw [h, BitVec.toNat_and, h2, h3, Nat.and_or_distrib_left, h4, Nat.and_two_pow_sub_one_eq_mod, Nat.zero_or, IntKind.wrap_u64]
  omega
theorem or_x (r b : Nat) (hr : r < 4503599627370496) (hb : b < 2048) : bits BinOp.or IntKind.u64 (r : Int) ((b * 4503599627370496 : Nat) : Int) = ((b * 4503599627370496 + r : Nat) : Int) := by
  have h := or52s false r b hr hb
  rw [show sgn false r = r from rfl, show sgn false (b * 4503599627370496 + r) = b * 4503599627370496 + r from rfl] at h
  exact h
theorem and_x (k : IntKind) (hk : k = .i64 ∨ k = .u64) (a : Nat) (ha : a < 2048) : bits BinOp.and k (a : Int) 2047 = (a : Int) := by
  have := and_mask k hk a 11 (by omega) (by decide)
  rw [Nat.mod_eq_of_lt (by omega), show ((2 ^ 11 - 1 : Nat) : Int) = 2047 from rfl] at this
  exact this
theorem mul_k (a b : Nat) : a * b * a = b * a * a := by rw [Nat.mul_comm a b]
theorem mul_k3 (x a b : Nat) : x * (a * b) * b = x * a * b * b := by rw [← Nat.mul_assoc]
theorem one_times (Y : Nat) (h0 : 0 < Y) (hY : Y < infW) (w : World) : (binOp BinOp.mul 46 (.float .f64 4607182418800017408) (.float .f64 Y)).run Tryz.prog w = .ok (.float .f64 Y) w := by
  have hv : valR 4607182418800017408 = 2 ^ leB := by decide +kernel
  have := mul_run w false 4607182418800017408 Y (valR Y) (2 ^ leB) (by decide) (by decide) h0 hY (Nat.two_pow_pos _) (by rw [hv]; exact mul_k _ _)
  rw [near_own, Nat.min_eq_left (Nat.le_of_lt hY)] at this
  exact this
theorem up_run (X : Nat) (h0 : 0 < X) (hX : X < 4503599627370496) (w : World) : (binOp BinOp.mul 46 (.float .f64 X) (.float .f64 4841369599423283200)).run Tryz.prog w = .ok (.float .f64 (upW X)) w := by
  have hv : valR 4841369599423283200 = 4503599627370496 * 2 ^ leB := by decide +kernel
  obtain ⟨u1, -, -, u2, u3⟩ := up_val X h0 hX
  have hi := infW_eq
  have := mul_run w false X 4841369599423283200 (valR (upW X)) (2 ^ leB) h0 (by omega) (by decide) (by decide) (Nat.two_pow_pos _) (by rw [hv, u1, val_low hX]; exact mul_k3 _ _ _)
  rw [near_own, Nat.min_eq_left (by omega)] at this
  exact this
theorem norm_hi (x : Nat) (h : 4503599627370496 ≤ x) (hx : x < 9218868437227405312) (w : World) : Calls Tryz.prog 237 #[.float .f64 x] w fun e w' => e = .returned (.tuple #[.float .f64 x, .int .i64 0]) ∧ w' = w := by
  have h1 : (fo (absF x) 4503599627370496 == some .lt) = false := by
    rw [abs_pos (by omega), fo_lt_pos hx (by decide)]
    exact decide_eq_false (by omega)
  clear h hx
  go_enter Tryz.func237, Tryz.ntmps237
  go_wp2_with (go_at_call 81; refine (abs_any _ _).mono ?_; rintro e w' ⟨rfl, rfl⟩)
  go_ret2
  exact ⟨rfl, rfl⟩
theorem norm_lo (x : Nat) (h0 : 0 < x) (h : x < 4503599627370496) (w : World) : Calls Tryz.prog 237 #[.float .f64 x] w fun e w' => e = .returned (.tuple #[.float .f64 (upW x), .int .i64 (-52)]) ∧ w' = w := by
  have h1 : (fo (absF x) 4503599627370496 == some .lt) = true := by
    rw [abs_pos (by omega), fo_lt_pos (by omega) (by decide)]
    exact decide_eq_true h
  have hr := up_run x h0 h
  clear h h0
  go_enter Tryz.func237, Tryz.ntmps237
  go_wp2_with (go_at_call 81; refine (abs_any _ _).mono ?_; rintro e w' ⟨rfl, rfl⟩)
  go_ret2
  exact ⟨rfl, rfl⟩
set_option maxHeartbeats 1000000 in
/-- a number of 53 digits by a power of two, where the result is such a one too -/
theorem ldexp_n (F c : Nat) (E : Int) (hF0 : 4503599627370496 ≤ F) (hF : F < 9218868437227405312) (hc : ((F / 4503599627370496 : Nat) : Int) + E = c) (hc1 : 1 ≤ c) (hc2 : c ≤ 2046) (w : World) :
    Calls Tryz.prog 205 #[.float .f64 F, .int .i64 E] w fun e w' => e = .returned (.float .f64 (c * 4503599627370496 + F % 4503599627370496)) ∧ w' = w := by
  obtain ⟨q, hq⟩ : ∃ q, F / 4503599627370496 = q := ⟨_, rfl⟩
  obtain ⟨r, hr⟩ : ∃ r, F % 4503599627370496 = r := ⟨_, rfl⟩
  rw [hq] at hc
  rw [hr]
  have hr9 : r < 4503599627370496 := by omega
  obtain ⟨n1, n2, n3⟩ := plain_parts hF
  have n5 : (fo F 0 == some .eq) = false := by
    rw [fo_eq_pos hF (by decide)]
    exact decide_eq_false (by omega)
  have HN := Lib.hid (fun W => norm_hi F hF0 hF W)
  have HI := Lib.hid (fun W => show Calls Tryz.prog 111 #[.float .f64 F, .int .i64 0] W fun e w' => e = .returned (.bool false) ∧ w' = W from by have := isInf_any F W; rw [n2] at this; exact this)
  have HA := Lib.hid (fun W => show Calls Tryz.prog 110 #[.float .f64 F] W fun e w' => e = .returned (.bool false) ∧ w' = W from by have := isNaN_any F W; rw [n1] at this; exact this)
  have fq : (F : Int) / 4503599627370496 = (q : Int) := by omega
  have b1 : bits BinOp.and IntKind.i64 (q : Int) 2047 = (q : Int) := and_x .i64 (.inl rfl) _ (by omega)
  have b2 : bits BinOp.andNot IntKind.u64 (F : Int) 9218868437227405312 = (r : Int) := by rw [andn_x F (by omega), hr]
  obtain ⟨Z, hZ⟩ : ∃ Z, c * 4503599627370496 + r = Z := ⟨_, rfl⟩
  rw [hZ]
  have b3 : bits BinOp.or IntKind.u64 (r : Int) ((E + ((q : Int) - 1023) + 1023) * 4503599627370496) = (Z : Int) := by
    rw [show (E + ((q : Int) - 1023) + 1023) * 4503599627370496 = ((c * 4503599627370496 : Nat) : Int) by omega, or_x r c hr9 (by omega), hZ]
  have hi := infW_eq
  have hmul := fun W => one_times Z (by omega) (by omega) W
  have g1 : (-1022 : Int) ≤ E + ((q : Int) - 1023) := by omega
  have g2 : E + ((q : Int) - 1023) ≤ 1023 := by omega
  have g3 : (q : Int) ≤ 2046 := by omega
  have g4 : (0 : Int) ≤ (q : Int) := by omega
  have g5 : (-2046 : Int) ≤ E := by omega
  have g6 : E ≤ 2046 := by omega
  clear n1 n2 n3 hq hr hc hZ hi hF0 hF hc1 hc2
  go_enter Tryz.func205, Tryz.ntmps205
  go_wp2_with (first
    | (go_at_call 111; (with_reducible refine (HI.out _).mono ?_); rintro e w' ⟨rfl, rfl⟩)
    | (go_at_call 110; (with_reducible refine (HA.out _).mono ?_); rintro e w' ⟨rfl, rfl⟩)
    | (go_at_call 237; (with_reducible refine (HN.out _).mono ?_); rintro e w' ⟨rfl, rfl⟩))
  go_ret
  exact ⟨rfl, rfl⟩
set_option maxHeartbeats 1000000 in
/-- one below the normal ones, as a whole number -/
theorem ldexp_s (X : Nat) (h0 : 0 < X) (hX : X < 4503599627370496) (w : World) :
    Calls Tryz.prog 205 #[.float .f64 X, .int .i64 1074] w fun e w' => e = .returned (.float .f64 (upW X + 1022 * 4503599627370496)) ∧ w' = w := by
  obtain ⟨-, -, u0, u1, u2⟩ := up_val X h0 hX
  obtain ⟨n1, n2, n3⟩ := plain_parts (show X < 9218868437227405312 by omega)
  have n5 : (fo X 0 == some .eq) = false := by
    rw [fo_eq_pos (by omega) (by decide)]
    exact decide_eq_false (by omega)
  have HN := Lib.hid (fun W => norm_lo X h0 hX W)
  have HI := Lib.hid (fun W => show Calls Tryz.prog 111 #[.float .f64 X, .int .i64 0] W fun e w' => e = .returned (.bool false) ∧ w' = W from by have := isInf_any X W; rw [n2] at this; exact this)
  have HA := Lib.hid (fun W => show Calls Tryz.prog 110 #[.float .f64 X] W fun e w' => e = .returned (.bool false) ∧ w' = W from by have := isNaN_any X W; rw [n1] at this; exact this)
  obtain ⟨F, hF⟩ : ∃ F, upW X = F := ⟨_, rfl⟩
  rw [hF] at u0 u1 u2 HN ⊢
  obtain ⟨q, hq⟩ : ∃ q, F / 4503599627370496 = q := ⟨_, rfl⟩
  obtain ⟨r, hr⟩ : ∃ r, F % 4503599627370496 = r := ⟨_, rfl⟩
  have hr9 : r < 4503599627370496 := by omega
  have fq : (F : Int) / 4503599627370496 = (q : Int) := by omega
  have b1 : bits BinOp.and IntKind.i64 (q : Int) 2047 = (q : Int) := and_x .i64 (.inl rfl) _ (by omega)
  have b2 : bits BinOp.andNot IntKind.u64 (F : Int) 9218868437227405312 = (r : Int) := by rw [andn_x F (by omega), hr]
  obtain ⟨Z, hZ⟩ : ∃ Z, F + 1022 * 4503599627370496 = Z := ⟨_, rfl⟩
  rw [hZ] at u0 ⊢
  have b3 : bits BinOp.or IntKind.u64 (r : Int) ((1022 + ((q : Int) - 1023) + 1023) * 4503599627370496) = (Z : Int) := by
    rw [show (1022 + ((q : Int) - 1023) + 1023) * 4503599627370496 = (((q + 1022) * 4503599627370496 : Nat) : Int) by omega, or_x r (q + 1022) hr9 (by omega), show (q + 1022) * 4503599627370496 + r = Z by omega]
  have hmul := fun W => one_times Z (by omega) u0 W
  have g3 : (q : Int) ≤ 53 := by omega
  have g4 : (0 : Int) ≤ (q : Int) := by omega
  clear n1 n2 n3 hq hr hZ h0 hX hF u0 u1 u2
  go_enter Tryz.func205, Tryz.ntmps205
  go_wp2_with (first
    | (go_at_call 111; (with_reducible refine (HI.out _).mono ?_); rintro e w' ⟨rfl, rfl⟩)
    | (go_at_call 110; (with_reducible refine (HA.out _).mono ?_); rintro e w' ⟨rfl, rfl⟩)
    | (go_at_call 237; (with_reducible refine (HN.out _).mono ?_); rintro e w' ⟨rfl, rfl⟩))
  go_ret
  exact ⟨rfl, rfl⟩
theorem ldexp_0 (w : World) : Calls Tryz.prog 205 #[.float .f64 0, .int .i64 1074] w fun e w' => e = .returned (.float .f64 0) ∧ w' = w := by
  have n5 : (fo 0 0 == some .eq) = true := by kernel_rfl
  go_enter Tryz.func205, Tryz.ntmps205
  go_wp2_with fail
  go_ret
  exact ⟨rfl, rfl⟩
theorem Ldexp_of {F Z : Nat} {E : Int} (h : ∀ w : World, Calls Tryz.prog 205 #[.float .f64 F, .int .i64 E] w fun e w' => e = .returned (.float .f64 Z) ∧ w' = w) (w : World) :
    Calls Tryz.prog 166 #[.float .f64 F, .int .i64 E] w fun e w' => e = .returned (.float .f64 Z) ∧ w' = w := by
  have H := Lib.hid h
  clear h
  go_enter Tryz.func166, Tryz.ntmps166
  go_wp2_with (go_at_call 205; (with_reducible refine (H.out _).mono ?_); rintro e w' ⟨rfl, rfl⟩)
  go_ret
  exact ⟨rfl, rfl⟩
set_option maxHeartbeats 1000000 in
theorem frexp_n (X : Nat) (h0 : 4503599627370496 ≤ X) (hX : X < 9218868437227405312) (w : World) :
    Calls Tryz.prog 207 #[.float .f64 X] w fun e w' => e = .returned (.tuple #[.float .f64 (1022 * 4503599627370496 + X % 4503599627370496), .int .i64 (((X / 4503599627370496 : Nat) : Int) - 1022)]) ∧ w' = w := by
  obtain ⟨q, hq⟩ : ∃ q, X / 4503599627370496 = q := ⟨_, rfl⟩
  obtain ⟨r, hr⟩ : ∃ r, X % 4503599627370496 = r := ⟨_, rfl⟩
  rw [hr, hq]
  have hr9 : r < 4503599627370496 := by omega
  obtain ⟨n1, n2, n3⟩ := plain_parts hX
  have n5 : (fo X 0 == some .eq) = false := by
    rw [fo_eq_pos hX (by decide)]
    exact decide_eq_false (by omega)
  have HN := Lib.hid (fun W => norm_hi X h0 hX W)
  have HI := Lib.hid (fun W => show Calls Tryz.prog 111 #[.float .f64 X, .int .i64 0] W fun e w' => e = .returned (.bool false) ∧ w' = W from by have := isInf_any X W; rw [n2] at this; exact this)
  have HA := Lib.hid (fun W => show Calls Tryz.prog 110 #[.float .f64 X] W fun e w' => e = .returned (.bool false) ∧ w' = W from by have := isNaN_any X W; rw [n1] at this; exact this)
  have fq : (X : Int) / 4503599627370496 = (q : Int) := by omega
  have b1 : bits BinOp.and IntKind.u64 (q : Int) 2047 = (q : Int) := and_x .u64 (.inr rfl) _ (by omega)
  have b2 : bits BinOp.andNot IntKind.u64 (X : Int) 9218868437227405312 = (r : Int) := by rw [andn_x X (by omega), hr]
  obtain ⟨Z, hZ⟩ : ∃ Z, 1022 * 4503599627370496 + r = Z := ⟨_, rfl⟩
  rw [hZ]
  have b3 : bits BinOp.or IntKind.u64 (r : Int) 4602678819172646912 = (Z : Int) := by
    have := or_x r 1022 hr9 (by decide)
    rw [hZ] at this
    exact this
  have g3 : (q : Int) ≤ 2046 := by omega
  have g4 : (0 : Int) ≤ (q : Int) := by omega
  clear n1 n2 n3 hq hr hZ h0 hX
  go_enter Tryz.func207, Tryz.ntmps207
  go_wp2_with (first
    | (go_at_call 111; (with_reducible refine (HI.out _).mono ?_); rintro e w' ⟨rfl, rfl⟩)
    | (go_at_call 110; (with_reducible refine (HA.out _).mono ?_); rintro e w' ⟨rfl, rfl⟩)
    | (go_at_call 237; (with_reducible refine (HN.out _).mono ?_); rintro e w' ⟨rfl, rfl⟩))
  go_ret2
  refine ⟨?_, rfl⟩
  show Ending.returned (.tuple #[.float .f64 Z, .int .i64 ((q : Int) - 1023 + 1)]) = _
  rw [show (q : Int) - 1023 + 1 = (q : Int) - 1022 by omega]
theorem Frexp_of {F Z : Nat} {E : Int} (h : ∀ w : World, Calls Tryz.prog 207 #[.float .f64 F] w fun e w' => e = .returned (.tuple #[.float .f64 Z, .int .i64 E]) ∧ w' = w) (w : World) :
    Calls Tryz.prog 167 #[.float .f64 F] w fun e w' => e = .returned (.tuple #[.float .f64 Z, .int .i64 E]) ∧ w' = w := by
  have H := Lib.hid h
  clear h
  go_enter Tryz.func167, Tryz.ntmps167
  go_wp2_with (go_at_call 207; (with_reducible refine (H.out _).mono ?_); rintro e w' ⟨rfl, rfl⟩)
  go_ret2
  exact ⟨rfl, rfl⟩
theorem conv_fu (Z d : Nat) (h : floatToIntVal .f64 Z .u64 = some (d : Int)) (w : World) : (convert 46 109 (.float .f64 Z)).run Tryz.prog w = .ok (.int .u64 (d : Int)) w :=
  run_convert_float_int (P := Tryz.prog) w 46 109 .f64 .u64 Z (d : Int) (by rw [Tryz.underlying46]; rfl) Tryz.underlying109 h
set_option maxHeartbeats 1000000 in
/-- a number as a whole one by a power of two -/
theorem pieces_any (X : Nat) (hX : X < 9218868437227405312) (w : World) :
    Calls Tryz.prog 130 #[.float .f64 X] w fun e w' => e = .returned (.tuple #[.int .u64 (ftM X : Nat), .int .i64 (ftE X - 52)]) ∧ w' = w := by
  have H1 := Lib.hid (fun W => Ldexp_of (fun w => ldexp_n 4607182418800017408 1 (-1022) (by decide) (by decide) (by decide) (by decide) (by decide) w) W)
  have hi := infW_eq
  by_cases hl : X < 4503599627370496
  · obtain ⟨e1, e2⟩ := ft_low hl
    rw [e1, e2]
    have d1 : (fo X 4503599627370496 == some .lt) = true := by rw [fo_lt_pos hX (by decide)]; exact decide_eq_true hl
    by_cases h0 : X = 0
    · subst h0
      have H2 := Lib.hid (fun W => Ldexp_of ldexp_0 W)
      have hcv := fun W => conv_fu 0 0 (by kernel_rfl) W
      clear hX hl e1 e2 hi
      go_enter Tryz.func130, Tryz.ntmps130
      go_wp2_with (first
        | (go_at_call 166; (with_reducible refine (H1.out _).mono ?_); rintro e w' ⟨rfl, rfl⟩)
        | (go_at_call 166; (with_reducible refine (H2.out _).mono ?_); rintro e w' ⟨rfl, rfl⟩))
      go_ret2
      exact ⟨rfl, rfl⟩
    · obtain ⟨-, u1, u2, -, -⟩ := up_val X (by omega) hl
      have H2 := Lib.hid (fun W => Ldexp_of (fun w => ldexp_s X (by omega) hl w) W)
      have hcv := fun W => conv_fu _ X (f2u _ X u2 u1 (by omega)) W
      obtain ⟨Z, hZ⟩ : ∃ Z, upW X + 1022 * 4503599627370496 = Z := ⟨_, rfl⟩
      rw [hZ] at H2 hcv
      clear hX hl e1 e2 hi u1 u2 hZ h0
      go_enter Tryz.func130, Tryz.ntmps130
      go_wp2_with (first
        | (go_at_call 166; (with_reducible refine (H1.out _).mono ?_); rintro e w' ⟨rfl, rfl⟩)
        | (go_at_call 166; (with_reducible refine (H2.out _).mono ?_); rintro e w' ⟨rfl, rfl⟩))
      go_ret2
      exact ⟨rfl, rfl⟩
  · have e2 := ft_high (show 4503599627370496 ≤ X by omega)
    have d1 : (fo X 4503599627370496 == some .lt) = false := by rw [fo_lt_pos hX (by decide)]; exact decide_eq_false hl
    obtain ⟨u1, u2⟩ := fr_val X (by omega)
    have hm := (ftM_pos X (by omega)).2
    have HF := Lib.hid (fun W => Frexp_of (fun w => frexp_n X (by omega) hX w) W)
    have H2 := Lib.hid (fun W => Ldexp_of (fun w => ldexp_n (1022 * 4503599627370496 + X % 4503599627370496) 1075 53 (by omega) (by omega) (by omega) (by decide) (by decide) w) W)
    rw [show (1022 * 4503599627370496 + X % 4503599627370496) % 4503599627370496 = X % 4503599627370496 by omega] at H2
    have hcv := fun W => conv_fu _ (ftM X) (f2u _ _ u2 u1 (by omega)) W
    rw [Nat.add_comm (X % 4503599627370496)] at hcv
    obtain ⟨Z, hZ⟩ : ∃ Z, 1075 * 4503599627370496 + X % 4503599627370496 = Z := ⟨_, rfl⟩
    obtain ⟨Y, hY⟩ : ∃ Y, 1022 * 4503599627370496 + X % 4503599627370496 = Y := ⟨_, rfl⟩
    obtain ⟨M, hM⟩ : ∃ M, ftM X = M := ⟨_, rfl⟩
    obtain ⟨q, hq⟩ : ∃ q, X / 4503599627370496 = q := ⟨_, rfl⟩
    rw [hZ] at H2 hcv
    rw [hY] at H2 HF
    rw [hM] at hcv ⊢
    rw [hq] at HF e2
    rw [e2]
    have q1 : (q : Int) ≤ 2046 := by omega
    have q0 : (0 : Int) ≤ (q : Int) := by omega
    clear hX hl e2 hi u1 u2 hZ hY hm hM hq
    go_enter Tryz.func130, Tryz.ntmps130
    go_wp2_with (first
      | (go_at_call 166; (with_reducible refine (H1.out _).mono ?_); rintro e w' ⟨rfl, rfl⟩)
      | (go_at_call 167; (with_reducible refine (HF.out _).mono ?_); rintro e w' ⟨rfl, rfl⟩)
      | (go_at_call 166; (with_reducible refine (H2.out _).mono ?_); rintro e w' ⟨rfl, rfl⟩))
    go_ret2
    refine ⟨?_, rfl⟩
    show Ending.returned (.tuple #[.int .u64 (M : Int), .int .i64 ((q : Int) - 1022 - 53)]) = _
    rw [show (q : Int) - 1022 - 53 = (q : Int) - 1075 by omega]
end Go.Proofs.YtcbgkbidgpemfaaGreatDoor.rg

/- burnishref16: the walks of whole and against. Conditions: as each theorem states. -/
namespace Go.Proofs.YtcbgkbidgpemfaaGreatDoor.rg
open Go.RowKit
open Go.Proofs.YtcbgkbidgpemfaaGreatDoor.rdf

theorem dv_snoc (n : Nat) (l : List UInt8) (c : UInt8) : dv n (l ++ [c]) = dv n l * 10 + (c.toNat - 48) := by
  unfold dv
  rw [List.foldl_append]
  rfl
set_option maxRecDepth 100000 in
set_option maxHeartbeats 1000000 in
theorem whole_any (s : ByteArray) (hs : s.size ≤ 60) (hd : ∀ c ∈ s.data.toList, isD c = true) (w : World) :
    Calls Tryz.prog 129 #[.string s] w (NumPost w 120 (dv 0 s.data.toList)) := by
  have HD := Lib.hid hd
  clear hd
  have hlen := list_len s
  have HL := Lib.hid hlen
  clear hlen
  have hsi : (s.size : Int) ≤ 60 := by omega
  go_enter Tryz.func129, Tryz.ntmps129
  go_wp2_with fail
  go_loopw [3, 4] (fun s3 s4 wr => ∃ i : Nat, i ≤ s.size ∧ s4 = .int .i64 i ∧ Num wr s3 (2 * i) (dv 0 (s.data.toList.take i)) ∧ Below w.heap.size w wr) (fun _ s4 _ => s.size - (intOf s4).toNat)
  case atStart => exact ⟨0, Nat.zero_le _, rfl, ⟨[], BigV.nil _ _ _, (fun x hx => by cases hx), (fun h => absurd rfl h), rfl, Nat.le_refl _⟩, Below.refl _ _⟩
  case round =>
    obtain ⟨i, hi, rfl, hN, hB⟩ := hrel
    obtain ⟨wo, rfl⟩ : ∃ wo : World, wo = wr := ⟨_, rfl⟩
    have HB := Lib.hid hB
    have HN := Lib.hid hN
    clear hB hN
    by_cases hlt : i < s.size
    · have hc := HD.out s[i] (by show s.data[i] ∈ _; simp)
      have h5 := (isD_iff _).1 hc
      have hlt' : (i : Int) < (s.size : Int) := by omega
      have e1 : s.data.toList.take (i + 1) = s.data.toList.take i ++ [s[i]] := by
        rw [List.take_succ_eq_append_getElem (by rw [HL.out]; exact hlt)]
        rfl
      obtain ⟨m, hm⟩ : ∃ m, s[i].toNat - 48 = m := ⟨_, rfl⟩
      have e2 : dv 0 (s.data.toList.take (i + 1)) = dv 0 (s.data.toList.take i) * 10 + m := by rw [e1, dv_snoc, hm]
      have HE := Lib.hid e2
      have hmi : (s[i].toNat : Int) - 48 = (m : Int) := by omega
      have hm9 : (m : Int) ≤ 9 := by omega
      have CT := Lib.hid (fun (v : Value) (h : Num wo v (2 * i) (dv 0 (s.data.toList.take i))) => show Calls Tryz.prog 165 #[v, .int .u64 10, .int .u64 (m : Int)] wo (NumPost wo (2 * i + 2) (dv 0 (s.data.toList.take i) * 10 + m)) from times_num v _ _ 10 m wo h (by decide) (by decide) (by omega) (by omega))
      have y5 : (48 : Int) ≤ (s[i].toNat : Int) := by omega
      have y6 : (s[i].toNat : Int) ≤ 57 := by omega
      clear e1 e2 hm hc h5
      go_wp2_with (go_at_call 165; (with_reducible refine (CT.out _ HN.out).mono ?_); rintro e w2 ⟨v2, rfl, h2, b2⟩; have HN2 := Lib.hid h2; have HB2 := Lib.hid b2; clear h2 b2)
      refine ⟨⟨i + 1, by omega, by go_num, ?_, HB.out.trans (HB2.out.mono HB.out.size)⟩, by simp only [intOf]; omega⟩
      rw [HE.out]
      exact HN2.out
    · obtain rfl : i = s.size := by omega
      have HR := Lib.hid (show dv 0 (s.data.toList.take s.size) = dv 0 s.data.toList by rw [List.take_of_length_le (by rw [HL.out]; exact Nat.le_refl _)])
      clear hlt hi
      go_wp2_with fail
      go_ret
      refine ⟨_, rfl, ?_, HB.out⟩
      obtain ⟨l, g1, g2, g3, g4, g5⟩ := HN.out
      exact ⟨l, g1, g2, g3, by rw [g4, HR.out], by omega⟩
theorem num_k {W : World} {v : Value} {k k' N : Nat} (h : Num W v k N) (hk : k ≤ k') : Num W v k' N := by
  obtain ⟨l, g1, g2, g3, g4, g5⟩ := h
  exact ⟨l, g1, g2, g3, g4, by omega⟩
theorem power10 (v : Value) (k N n : Nat) (w : World) (hv : Num w v k N) (hn : k + 2 * n ≤ 90000) :
    Calls Tryz.prog 168 #[v, .int .u64 10, .int .i64 (n : Int)] w (NumPost w (k + 2 * n) (N * 10 ^ n)) := power_any v k N 10 n w hv (by decide) (by decide) hn
theorem power2 (v : Value) (k N n : Nat) (w : World) (hv : Num w v k N) (hn : k + 2 * n ≤ 90000) :
    Calls Tryz.prog 168 #[v, .int .u64 2, .int .i64 (n : Int)] w (NumPost w (k + 2 * n) (N * 2 ^ n)) := power_any v k N 2 n w hv (by decide) (by decide) hn
set_option maxRecDepth 100000 in
set_option maxHeartbeats 1000000 in
/-- digits times ten to a power against a whole number by a power of two -/
theorem against_any (s : ByteArray) (hs : s.size ≤ 60) (hd : ∀ c ∈ s.data.toList, isD c = true) (P E : Int) (hP : -2000 ≤ P ∧ P ≤ 2000) (hE : -2000 ≤ E ∧ E ≤ 2000) (m : Nat) (hm : m < 18446744073709551616) (w : World) :
    Calls Tryz.prog 131 #[.string s, .int .i64 P, .int .u64 m, .int .i64 E] w (CmpPost w (dv 0 s.data.toList * 10 ^ P.toNat * 2 ^ (-E).toNat) (m * 10 ^ (-P).toNat * 2 ^ E.toNat)) := by
  obtain ⟨D, hD⟩ : ∃ D, dv 0 s.data.toList = D := ⟨_, rfl⟩
  have HW := Lib.hid (fun W => whole_any s hs hd W)
  rw [hD] at HW ⊢
  have HT := Lib.hid (fun (g : Addr) (W : World) => times_nil_num (.slice (some g) 0 0) m W (BigV.nil _ _ _) hm)
  clear hD hs hd
  obtain ⟨p, hp⟩ : ∃ p : Nat, P.natAbs = p := ⟨_, rfl⟩
  obtain ⟨q, hq⟩ : ∃ q : Nat, E.natAbs = q := ⟨_, rfl⟩
  have hp9 : p ≤ 2000 := by omega
  have hq9 : q ≤ 2000 := by omega
  -- what power makes
  have HP := Lib.hid (fun (v : Value) (N : Nat) (W : World) (h : Num W v 120 N) => power10 v 120 N p W h (by omega))
  have HQ := Lib.hid (fun (v : Value) (N : Nat) (W : World) (h : Num W v 4120 N) => power2 v 4120 N q W h (by omega))
  have HC := Lib.hid (fun (a b : Value) (x y : Nat) (W : World) (h1 : Num W a 8120 x) (h2 : Num W b 8120 y) => compare_any a b 8120 8120 x y W h1 h2 (by decide) (by decide))
  by_cases hP0 : 0 < P
  · obtain rfl : P = (p : Int) := by omega
    have e1 : (-(p : Int)).toNat = 0 := by omega
    rw [e1, Int.toNat_natCast, Nat.pow_zero, Nat.mul_one]
    by_cases hE0 : 0 < E
    · obtain rfl : E = (q : Int) := by omega
      have e2 : (-(q : Int)).toNat = 0 := by omega
      rw [e2, Int.toNat_natCast, Nat.pow_zero, Nat.mul_one]
      clear e1 e2 hp hq hP hE
      go_enter Tryz.func131, Tryz.ntmps131
      go_wp2_with (first
        | (go_at_call 129; (with_reducible refine (HW.out _).mono ?_); rintro e w1 ⟨va, rfl, h1, b1⟩; have HA := Lib.hid h1; have B1 := Lib.hid b1; clear h1 b1)
        | (go_at_call 165; (with_reducible refine (HT.out _ _).mono ?_); rintro e w2 ⟨vb, rfl, h2, b2⟩; have HB := Lib.hid h2; have b3 := ((Below.refl _ w1).alloc (Nat.le_refl _) _).trans (b2.mono (by simp)); have HA2 := Lib.hid (HA.out.below b3); have B2 := Lib.hid (B1.out.trans (b3.mono B1.out.size)); clear b2 b3 h2 HA B1)
        | (go_at_call 168; (with_reducible refine (HP.out _ _ _ HA2.out).mono ?_); rintro e w3 ⟨vc, rfl, h3, b3⟩; have HA3 := Lib.hid h3; have HB3 := Lib.hid (HB.out.below b3); have B3 := Lib.hid (B2.out.trans (b3.mono B2.out.size)); clear b3 h3)
        | (go_at_call 168; (with_reducible refine (HQ.out _ _ _ (num_k HB3.out (by omega))).mono ?_); rintro e w4 ⟨vd, rfl, h4, b4⟩; have HB4 := Lib.hid h4; have HA4 := Lib.hid (HA3.out.below b4); have B4 := Lib.hid (B3.out.trans (b4.mono B3.out.size)); clear b4 h4)
        | (go_at_call 169; (with_reducible refine (HC.out _ _ _ _ _ (num_k HA4.out (by omega)) (num_k HB4.out (by omega))).mono ?_); rintro e w5 ⟨c, rfl, c1, c2, b5⟩; have CC := Lib.hid (And.intro c1 c2); have B5 := Lib.hid (B4.out.trans (b5.mono B4.out.size)); clear b5 c1 c2))
      go_ret
      exact ⟨_, rfl, CC.out.1, CC.out.2, B5.out⟩
    · obtain rfl : E = -(q : Int) := by omega
      have e2 : (-(q : Int)).toNat = 0 := by omega
      rw [e2, Int.neg_neg, Int.toNat_natCast, Nat.pow_zero, Nat.mul_one]
      clear e1 e2 hp hq hP hE
      go_enter Tryz.func131, Tryz.ntmps131
      go_wp2_with (first
        | (go_at_call 129; (with_reducible refine (HW.out _).mono ?_); rintro e w1 ⟨va, rfl, h1, b1⟩; have HA := Lib.hid h1; have B1 := Lib.hid b1; clear h1 b1)
        | (go_at_call 165; (with_reducible refine (HT.out _ _).mono ?_); rintro e w2 ⟨vb, rfl, h2, b2⟩; have HB := Lib.hid h2; have b3 := ((Below.refl _ w1).alloc (Nat.le_refl _) _).trans (b2.mono (by simp)); have HA2 := Lib.hid (HA.out.below b3); have B2 := Lib.hid (B1.out.trans (b3.mono B1.out.size)); clear b2 b3 h2 HA B1)
        | (go_at_call 168; (with_reducible refine (HP.out _ _ _ HA2.out).mono ?_); rintro e w3 ⟨vc, rfl, h3, b3⟩; have HA3 := Lib.hid h3; have HB3 := Lib.hid (HB.out.below b3); have B3 := Lib.hid (B2.out.trans (b3.mono B2.out.size)); clear b3 h3)
        | (go_at_call 168; (with_reducible refine (HQ.out _ _ _ (num_k HA3.out (by omega))).mono ?_); rintro e w4 ⟨vd, rfl, h4, b4⟩; have HA4 := Lib.hid h4; have HB4 := Lib.hid (HB3.out.below b4); have B4 := Lib.hid (B3.out.trans (b4.mono B3.out.size)); clear b4 h4)
        | (go_at_call 169; (with_reducible refine (HC.out _ _ _ _ _ (num_k HA4.out (by omega)) (num_k HB4.out (by omega))).mono ?_); rintro e w5 ⟨c, rfl, c1, c2, b5⟩; have CC := Lib.hid (And.intro c1 c2); have B5 := Lib.hid (B4.out.trans (b5.mono B4.out.size)); clear b5 c1 c2))
      go_ret
      exact ⟨_, rfl, CC.out.1, CC.out.2, B5.out⟩
  · obtain rfl : P = -(p : Int) := by omega
    have e1 : (-(p : Int)).toNat = 0 := by omega
    rw [e1, Int.neg_neg, Int.toNat_natCast, Nat.pow_zero, Nat.mul_one]
    by_cases hE0 : 0 < E
    · obtain rfl : E = (q : Int) := by omega
      have e2 : (-(q : Int)).toNat = 0 := by omega
      rw [e2, Int.toNat_natCast, Nat.pow_zero, Nat.mul_one]
      clear e1 e2 hp hq hP hE
      go_enter Tryz.func131, Tryz.ntmps131
      go_wp2_with (first
        | (go_at_call 129; (with_reducible refine (HW.out _).mono ?_); rintro e w1 ⟨va, rfl, h1, b1⟩; have HA := Lib.hid h1; have B1 := Lib.hid b1; clear h1 b1)
        | (go_at_call 165; (with_reducible refine (HT.out _ _).mono ?_); rintro e w2 ⟨vb, rfl, h2, b2⟩; have HB := Lib.hid h2; have b3 := ((Below.refl _ w1).alloc (Nat.le_refl _) _).trans (b2.mono (by simp)); have HA2 := Lib.hid (HA.out.below b3); have B2 := Lib.hid (B1.out.trans (b3.mono B1.out.size)); clear b2 b3 h2 HA B1)
        | (go_at_call 168; (with_reducible refine (HP.out _ _ _ (num_k HB.out (by omega))).mono ?_); rintro e w3 ⟨vc, rfl, h3, b3⟩; have HB3 := Lib.hid h3; have HA3 := Lib.hid (HA2.out.below b3); have B3 := Lib.hid (B2.out.trans (b3.mono B2.out.size)); clear b3 h3)
        | (go_at_call 168; (with_reducible refine (HQ.out _ _ _ (num_k HB3.out (by omega))).mono ?_); rintro e w4 ⟨vd, rfl, h4, b4⟩; have HB4 := Lib.hid h4; have HA4 := Lib.hid (HA3.out.below b4); have B4 := Lib.hid (B3.out.trans (b4.mono B3.out.size)); clear b4 h4)
        | (go_at_call 169; (with_reducible refine (HC.out _ _ _ _ _ (num_k HA4.out (by omega)) (num_k HB4.out (by omega))).mono ?_); rintro e w5 ⟨c, rfl, c1, c2, b5⟩; have CC := Lib.hid (And.intro c1 c2); have B5 := Lib.hid (B4.out.trans (b5.mono B4.out.size)); clear b5 c1 c2))
      go_ret
      exact ⟨_, rfl, CC.out.1, CC.out.2, B5.out⟩
    · obtain rfl : E = -(q : Int) := by omega
      have e2 : (-(q : Int)).toNat = 0 := by omega
      rw [e2, Int.neg_neg, Int.toNat_natCast, Nat.pow_zero, Nat.mul_one]
      clear e1 e2 hp hq hP hE
      go_enter Tryz.func131, Tryz.ntmps131
      go_wp2_with (first
        | (go_at_call 129; (with_reducible refine (HW.out _).mono ?_); rintro e w1 ⟨va, rfl, h1, b1⟩; have HA := Lib.hid h1; have B1 := Lib.hid b1; clear h1 b1)
        | (go_at_call 165; (with_reducible refine (HT.out _ _).mono ?_); rintro e w2 ⟨vb, rfl, h2, b2⟩; have HB := Lib.hid h2; have b3 := ((Below.refl _ w1).alloc (Nat.le_refl _) _).trans (b2.mono (by simp)); have HA2 := Lib.hid (HA.out.below b3); have B2 := Lib.hid (B1.out.trans (b3.mono B1.out.size)); clear b2 b3 h2 HA B1)
        | (go_at_call 168; (with_reducible refine (HP.out _ _ _ (num_k HB.out (by omega))).mono ?_); rintro e w3 ⟨vc, rfl, h3, b3⟩; have HB3 := Lib.hid h3; have HA3 := Lib.hid (HA2.out.below b3); have B3 := Lib.hid (B2.out.trans (b3.mono B2.out.size)); clear b3 h3)
        | (go_at_call 168; (with_reducible refine (HQ.out _ _ _ (num_k HA3.out (by omega))).mono ?_); rintro e w4 ⟨vd, rfl, h4, b4⟩; have HA4 := Lib.hid h4; have HB4 := Lib.hid (HB3.out.below b4); have B4 := Lib.hid (B3.out.trans (b4.mono B3.out.size)); clear b4 h4)
        | (go_at_call 169; (with_reducible refine (HC.out _ _ _ _ _ (num_k HA4.out (by omega)) (num_k HB4.out (by omega))).mono ?_); rintro e w5 ⟨c, rfl, c1, c2, b5⟩; have CC := Lib.hid (And.intro c1 c2); have B5 := Lib.hid (B4.out.trans (b5.mono B4.out.size)); clear b5 c1 c2))
      go_ret
      exact ⟨_, rfl, CC.out.1, CC.out.2, B5.out⟩
end Go.Proofs.YtcbgkbidgpemfaaGreatDoor.rg

/- burnishref01.Next upward from 0 on, and burnishref16.near. Conditions: as each theorem states. -/
namespace Go.Proofs.YtcbgkbidgpemfaaGreatDoor.rg
open Go.RowKit
open Go.Proofs.YtcbgkbidgpemfaaGreatDoor.nodew
open Go.Proofs.YtcbgkbidgpemfaaGreatDoor.flatm
open Go.Proofs.YtcbgkbidgpemfaaGreatDoor.dcw
open Go.Proofs.YtcbgkbidgpemfaaGreatDoor.fpm
open Go.Proofs.YtcbgkbidgpemfaaGreatDoor.rdf
open Go.Proofs.YtcbgkbidgpemfaaGreatDoor.prnw
open Go.Proofs.YtcbgkbidgpemfaaGreatDoor.dmx
attribute [local go_sem] nodew.fo_eq bits_run frombits_run

theorem fo_inf {X : Nat} (h : X < 9218868437227405312) : fo 9218868437227405312 X = some .gt ∧ fo X 9218868437227405312 = some .lt := by
  obtain ⟨m, a, e1, _⟩ := read_num X (by omega)
  have e2 : Ieee.Format.read Ieee.double 9218868437227405312 = .infinity false := by kernel_rfl
  constructor
  · show Ieee.Datum.order (Ieee.Format.read Ieee.double 9218868437227405312) (Ieee.Format.read Ieee.double X) = _
    rw [e1, e2]
    rfl
  · show Ieee.Datum.order (Ieee.Format.read Ieee.double X) (Ieee.Format.read Ieee.double 9218868437227405312) = _
    rw [e1, e2]
    rfl
theorem rright_pos (X : Nat) (h : X < 9218868437227405312) (w : World) : Calls Tryz.prog 123 #[.float .f64 X] w fun e w' => e = .returned (.bool true) ∧ w' = w := by
  obtain ⟨n1, n2, n3⟩ := plain_parts h
  have HI := Lib.hid (fun W => show Calls Tryz.prog 111 #[.float .f64 X, .int .i64 0] W fun e w' => e = .returned (.bool false) ∧ w' = W from by have := isInf_any X W; rw [n2] at this; exact this)
  have HA := Lib.hid (fun W => show Calls Tryz.prog 110 #[.float .f64 X] W fun e w' => e = .returned (.bool false) ∧ w' = W from by have := isNaN_any X W; rw [n1] at this; exact this)
  have HS := Lib.hid (fun W => show Calls Tryz.prog 112 #[.float .f64 X] W fun e w' => e = .returned (.bool false) ∧ w' = W from by have := signbit_any X W; rw [n3] at this; exact this)
  clear n1 n2 n3
  go_enter Tryz.func123, Tryz.ntmps123
  go_wp2_with (first
    | (go_at_call 110; (with_reducible refine (HA.out _).mono ?_); rintro e w' ⟨rfl, rfl⟩)
    | (go_at_call 111; (with_reducible refine (HI.out _).mono ?_); rintro e w' ⟨rfl, rfl⟩)
    | (go_at_call 112; (with_reducible refine (HS.out _).mono ?_); rintro e w' ⟨rfl, rfl⟩))
  all_goals go_ret
  all_goals exact ⟨rfl, rfl⟩
theorem inf_run (w : World) : Calls Tryz.prog 171 #[.int .i64 1] w fun e w' => e = .returned (.float .f64 9218868437227405312) ∧ w' = w := by
  go_enter Tryz.func171, Tryz.ntmps171
  go_wp2_with fail
  go_ret
  exact ⟨rfl, rfl⟩
theorem copy_1 (w : World) : Calls Tryz.prog 209 #[.float .f64 1, .float .f64 9218868437227405312] w fun e w' => e = .returned (.float .f64 1) ∧ w' = w := by
  have b1 : bits BinOp.andNot IntKind.u64 1 9223372036854775808 = 1 := by decide +kernel
  have b2 : bits BinOp.and IntKind.u64 9218868437227405312 9223372036854775808 = 0 := by decide +kernel
  have b3 : bits BinOp.or IntKind.u64 1 0 = 1 := by decide +kernel
  go_enter Tryz.func209, Tryz.ntmps209
  go_wp2_with fail
  go_ret
  exact ⟨rfl, rfl⟩
theorem after_up (X : Nat) (h : X < 9218868437227405312) (w : World) : Calls Tryz.prog 170 #[.float .f64 X, .float .f64 9218868437227405312] w fun e w' => e = .returned (.float .f64 (X + 1)) ∧ w' = w := by
  obtain ⟨n1, -, -⟩ := plain_parts h
  have n2 : nanF 9218868437227405312 = false := by kernel_rfl
  have HA := Lib.hid (fun W => show Calls Tryz.prog 110 #[.float .f64 X] W fun e w' => e = .returned (.bool false) ∧ w' = W from by have := isNaN_any X W; rw [n1] at this; exact this)
  have HB := Lib.hid (fun W => show Calls Tryz.prog 110 #[.float .f64 9218868437227405312] W fun e w' => e = .returned (.bool false) ∧ w' = W from by have := isNaN_any 9218868437227405312 W; rw [n2] at this; exact this)
  obtain ⟨i1, i2⟩ := fo_inf h
  by_cases h0 : X = 0
  · subst h0
    have z : fo 0 0 = some .eq := by kernel_rfl
    clear n1 n2 h
    go_enter Tryz.func170, Tryz.ntmps170
    go_wp2_with (first
      | (go_at_call 110; (with_reducible refine (HA.out _).mono ?_); rintro e w' ⟨rfl, rfl⟩)
      | (go_at_call 110; (with_reducible refine (HB.out _).mono ?_); rintro e w' ⟨rfl, rfl⟩)
      | (go_at_call 209; (with_reducible refine (copy_1 _).mono ?_); rintro e w' ⟨rfl, rfl⟩))
    go_ret
    exact ⟨rfl, rfl⟩
  · have z : fo X 0 = some .gt := by
      rw [fo_sv (by omega) (by decide), sv_pos h, sv_pos (by decide), Int.compare_eq_ite_lt]
      have := val_lt (show 0 < X by omega)
      rw [if_neg (by omega), if_pos (by omega)]
    have hx : (X : Int) < 9218868437227405312 := by omega
    clear n1 n2 h h0
    go_enter Tryz.func170, Tryz.ntmps170
    go_wp2_with (first
      | (go_at_call 110; (with_reducible refine (HA.out _).mono ?_); rintro e w' ⟨rfl, rfl⟩)
      | (go_at_call 110; (with_reducible refine (HB.out _).mono ?_); rintro e w' ⟨rfl, rfl⟩))
    go_ret
    exact ⟨by congr 2, rfl⟩
theorem next_up (X : Nat) (h : X + 1 < 9218868437227405312) (w : World) : Calls Tryz.prog 132 #[.float .f64 X, .bool true] w fun e w' => e = .returned (.tuple #[.float .f64 (X + 1), .int .i64 0]) ∧ w' = w := by
  obtain ⟨-, n2, -⟩ := plain_parts h
  have HI := Lib.hid (fun W => show Calls Tryz.prog 111 #[.float .f64 (X + 1), .int .i64 0] W fun e w' => e = .returned (.bool false) ∧ w' = W from by have := isInf_any (X + 1) W; rw [n2] at this; exact this)
  have HR := Lib.hid (fun W => rright_pos X (by omega) W)
  have HN := Lib.hid (fun W => after_up X (by omega) W)
  have z : (fo (X + 1) 0 == some .eq) = false := by
    rw [fo_eq_pos h (by decide)]
    exact decide_eq_false (by omega)
  obtain ⟨Y, hY⟩ : ∃ Y, X + 1 = Y := ⟨_, rfl⟩
  rw [hY] at HI HN z ⊢
  have HP := Lib.hid (fun W => show Calls Tryz.prog 172 #[.float .f64 Y] W fun e w' => e = .returned (.float .f64 Y) ∧ w' = W from by
    clear HI HN HR hY n2 h w
    go_enter Tryz.func172, Tryz.ntmps172
    go_wp2_with fail
    go_ret
    exact ⟨rfl, rfl⟩)
  clear n2 h hY z
  go_enter Tryz.func132, Tryz.ntmps132
  go_wp2_with (first
    | (go_at_call 123; (with_reducible refine (HR.out _).mono ?_); rintro e w' ⟨rfl, rfl⟩)
    | (go_at_call 171; (with_reducible refine (inf_run _).mono ?_); rintro e w' ⟨rfl, rfl⟩)
    | (go_at_call 170; (with_reducible refine (HN.out _).mono ?_); rintro e w' ⟨rfl, rfl⟩)
    | (go_at_call 111; (with_reducible refine (HI.out _).mono ?_); rintro e w' ⟨rfl, rfl⟩)
    | (go_at_call 172; (with_reducible refine (HP.out _).mono ?_); rintro e w' ⟨rfl, rfl⟩))
  go_ret2
  exact ⟨rfl, rfl⟩
end Go.Proofs.YtcbgkbidgpemfaaGreatDoor.rg

/- burnishref16.near: the nearest number to digits times ten to a power, by halving. Conditions: as each theorem states. -/
namespace Go.Proofs.YtcbgkbidgpemfaaGreatDoor.rg
open Go.RowKit
open Go.Proofs.YtcbgkbidgpemfaaGreatDoor.nodew
open Go.Proofs.YtcbgkbidgpemfaaGreatDoor.flatm
open Go.Proofs.YtcbgkbidgpemfaaGreatDoor.dcw
open Go.Proofs.YtcbgkbidgpemfaaGreatDoor.fpm
open Go.Proofs.YtcbgkbidgpemfaaGreatDoor.rdf
open Go.Proofs.YtcbgkbidgpemfaaGreatDoor.prnw
open Go.Proofs.YtcbgkbidgpemfaaGreatDoor.dmx
attribute [local go_sem] nodew.fo_eq bits_run frombits_run

def NearPost (w : World) (r : Nat × Bool) (e : Ending) (w' : World) : Prop := e = .returned (.tuple #[.float .f64 r.1, .bool r.2]) ∧ Below w.heap.size w w'
theorem whole_len {W : World} {v : Value} {k N : Nat} (h : Num W v k N) : ∃ (A : Option Addr) (L c : Nat), v = .slice A L c ∧ (L = 0 ↔ N = 0) := by
  obtain ⟨l, ⟨A, c, rfl, _⟩, h2, h3, h4, h5⟩ := h
  refine ⟨A, l.length, c, rfl, ?_⟩
  rw [← h4, trim_nil h3]
  exact ⟨List.eq_nil_of_length_eq_zero, fun h => by rw [h]; rfl⟩
set_option maxRecDepth 100000 in
set_option maxHeartbeats 2000000 in
theorem near_any (s : ByteArray) (hs : s.size ≤ 30) (hd : ∀ c ∈ s.data.toList, isD c = true) (P : Int) (hP : -2000 ≤ P ∧ P ≤ 2000) (w : World) :
    Calls Tryz.prog 96 #[.string s, .int .i64 P] w (NearPost w (nearR (dv 0 s.data.toList) P)) := by
  have hlen := list_len s
  have htiny := near_tiny (D := s.data.toList) hd (by omega) (P := P)
  have HW := Lib.hid (fun W => whole_any s (by omega) hd W)
  have HA := Lib.hid (fun (m : Nat) (E : Int) (hm : m < 18446744073709551616) (hE : -2000 ≤ E ∧ E ≤ 2000) (W : World) => against_any s (by omega) hd P E hP hE m hm W)
  obtain ⟨N, hN⟩ : ∃ N, dv 0 s.data.toList = N := ⟨_, rfl⟩
  rw [hN] at HW HA htiny ⊢
  clear hN hd hs hlen
  obtain ⟨R, hR⟩ : ∃ R, nearR N P = R := ⟨_, rfl⟩
  rw [hR] at htiny ⊢
  have HR := Lib.hid hR
  have HT := Lib.hid htiny
  clear hR htiny
  by_cases hp8 : P < -800
  · obtain rfl := HT.out (.inl hp8)
    go_enter Tryz.func96, Tryz.ntmps96
    go_wp2_with fail
    go_ret2
    exact ⟨rfl, Below.refl _ _⟩
  by_cases hN0 : N = 0
  · obtain rfl := HT.out (.inr hN0)
    go_enter Tryz.func96, Tryz.ntmps96
    go_wp2_with (go_at_call 129; (with_reducible refine (HW.out _).mono ?_); rintro e w1 ⟨v, rfl, h1, b1⟩; obtain ⟨A, L, c, rfl, hL⟩ := whole_len h1; obtain rfl := hL.2 hN0; have B1 := Lib.hid b1; clear b1 hL h1)
    go_ret2
    exact ⟨rfl, B1.out⟩
  by_cases hp4 : 400 < P
  · have hr := near_huge (N := N) (by omega) hp4
    rw [HR.out] at hr
    subst hr
    go_enter Tryz.func96, Tryz.ntmps96
    go_wp2_with (go_at_call 129; (with_reducible refine (HW.out _).mono ?_); rintro e w1 ⟨v, rfl, h1, b1⟩; obtain ⟨A, L, c, rfl, hL⟩ := whole_len h1; have hL1 : ((L : Int) == 0) = false := (by rw [beq_eq_false_iff_ne]; omega); have B1 := Lib.hid b1; clear b1 hL h1)
    go_ret2
    exact ⟨rfl, B1.out⟩
  obtain ⟨x, hx⟩ : ∃ x, N * 10 ^ P.toNat = x := ⟨_, rfl⟩
  obtain ⟨y, hy⟩ : ∃ y, 10 ^ (-P).toNat = y := ⟨_, rfl⟩
  have hy0 : 0 < y := by rw [← hy]; exact Nat.pow_pos (by decide)
  have hend := fun X => near_end (N := N) (P := P) (X := X)
  rw [hx, hy, HR.out] at hend
  rw [hx, hy] at HA
  have HE := Lib.hid hend
  clear hend hx hy
  go_enter Tryz.func96, Tryz.ntmps96
  go_wp2_with (go_at_call 129; (with_reducible refine (HW.out _).mono ?_); rintro e w1 ⟨v, rfl, h1, b1⟩; obtain ⟨A, L, c, rfl, hL⟩ := whole_len h1; have hL1 : ((L : Int) == 0) = false := (by rw [beq_eq_false_iff_ne]; omega); have B1 := Lib.hid b1; clear b1 hL h1)
  go_loopw [6, 7] (fun s6 s7 wr => ∃ low high : Nat, s6 = .int .u64 low ∧ s7 = .int .u64 high ∧ NI x y low high ∧ Below w.heap.size w wr) (fun s6 s7 _ => (intOf s7 - intOf s6).toNat)
  case atStart => exact ⟨0, 9218868437227405311, rfl, rfl, NI.start x y, B1.out⟩
  case round =>
    obtain ⟨low, high, rfl, rfl, hNI, hB⟩ := hrel
    obtain ⟨wo, rfl⟩ : ∃ wo : World, wo = wr := ⟨_, rfl⟩
    have HB := Lib.hid hB
    have hle := hNI.le
    have htop := hNI.top
    have HN := Lib.hid hNI
    clear hB hNI B1
    by_cases hlt : low < high
    · obtain ⟨d, hd⟩ : ∃ d, high - low = d := ⟨_, rfl⟩
      obtain ⟨q, hq⟩ : ∃ q, d / 2 = q := ⟨_, rfl⟩
      obtain ⟨mid, hmid⟩ : ∃ mid, high - q = mid := ⟨_, rfl⟩
      have d1 : (high : Int) - (low : Int) = (d : Int) := by omega
      have d2 : (d : Int) / 2 = (q : Int) := by omega
      have d3 : (high : Int) - (q : Int) = (mid : Int) := by omega
      have m1 : low < mid := by omega
      have m2 : mid ≤ high := by omega
      have mX : mid < 9218868437227405312 := by omega
      have HPc := Lib.hid (fun W => pieces_any mid mX W)
      have hM := ftM_pos mid (by omega)
      have hEb : -1074 ≤ ftE mid - 52 ∧ ftE mid - 52 ≤ 1000 := by unfold ftE; split <;> omega
      have hag := (against_eq x y (ftM mid) (ftE mid - 52) (by omega)).1
      rw [at_qv mid y] at hag
      have HAc := Lib.hid (fun W => HA.out (ftM mid) (ftE mid - 52) (by omega) (by omega) W)
      obtain ⟨M, hMe⟩ : ∃ M, ftM mid = M := ⟨_, rfl⟩
      obtain ⟨E, hEe⟩ : ∃ E, ftE mid - 52 = E := ⟨_, rfl⟩
      rw [hMe, hEe] at HPc HAc hag
      have HG := Lib.hid hag
      have di : (low : Int) < (high : Int) := by omega
      have MM := Lib.hid (And.intro m1 (And.intro m2 hlt))
      have hi9 : (high : Int) ≤ 9218868437227405311 := by omega
      clear hag hMe hEe hM hEb hd hq hmid HA HT HR HE
      go_wp2_with (first
        | (go_at_call 130; (with_reducible refine (HPc.out _).mono ?_); rintro e w' ⟨rfl, rfl⟩)
        | (go_at_call 131; (with_reducible refine (HAc.out _).mono ?_); rintro e w5 ⟨c, rfl, c1, c2, b5⟩; have CC := Lib.hid (And.intro c1 c2); have B5 := Lib.hid (HB.out.trans (b5.mono HB.out.size)); clear b5 c1 c2))
      · refine ⟨⟨mid, high, rfl, rfl, HN.out.up m2 (Nat.le_of_not_lt fun h => ?_), B5.out⟩, ?_⟩
        · have := CC.out.1.2 (HG.out.2 h)
          omega
        · simp only [intOf]
          omega
      · refine ⟨⟨low, mid - 1, rfl, by congr 1; omega, HN.out.down m1 m2 (HG.out.1 (CC.out.1.1 (by assumption))), B5.out⟩, ?_⟩
        simp only [intOf]
        omega
    · obtain rfl : low = high := by omega
      have hE := HE.out low HN.out
      have mX : low < 9218868437227405312 := by omega
      have HPc := Lib.hid (fun W => pieces_any low mX W)
      have hM : ftM low < 9007199254740992 := by
        by_cases h0 : low = 0
        · subst h0; decide
        · exact (ftM_pos low (by omega)).2
      have hEb : -1074 ≤ ftE low - 52 ∧ ftE low - 52 ≤ 1000 := by unfold ftE; split <;> omega
      have hag := against_eq x y (2 * ftM low + 1) (ftE low - 52 - 1) (by omega)
      rw [at_endU low y] at hag
      have HAc := Lib.hid (fun W => HA.out (2 * ftM low + 1) (ftE low - 52 - 1) (by omega) (by omega) W)
      obtain ⟨M, hMe⟩ : ∃ M, ftM low = M := ⟨_, rfl⟩
      obtain ⟨E, hEe⟩ : ∃ E, ftE low - 52 = E := ⟨_, rfl⟩
      rw [hMe, hEe] at HPc HAc hag
      rw [hMe] at hE hM
      rw [hEe] at hEb
      obtain ⟨K, hK⟩ : ∃ K, 2 * M + 1 = K := ⟨_, rfl⟩
      obtain ⟨E1, hE1⟩ : ∃ E1, E - 1 = E1 := ⟨_, rfl⟩
      rw [hK, hE1] at HAc hag
      have HG := Lib.hid hag
      have HE2 := Lib.hid hE
      have k1 : 2 * (M : Int) + 1 = (K : Int) := by omega
      have M9 : (M : Int) < 9007199254740992 := by omega
      have E9 : -1074 ≤ E ∧ E ≤ 1000 := hEb
      have NX := Lib.hid (fun (h : low ≠ 9218868437227405311) W => next_up low (by omega) W)
      have HMX := Lib.hid (show (fo low 9218868437227405311 == some .eq) = decide (low = 9218868437227405311) from fo_eq_pos mX (by decide))
      clear hag hMe hEe hM hEb HA HT HE hE hK hlt HN htop hle
      go_upto_region 15 with (first
        | (go_at_call 130; (with_reducible refine (HPc.out _).mono ?_); rintro e w' ⟨rfl, rfl⟩)
        | (go_at_call 131; (with_reducible refine (HAc.out _).mono ?_); rintro e w5 ⟨c, rfl, c1, c2, b5⟩; have CC := Lib.hid (And.intro c1 c2); have B5 := Lib.hid (HB.out.trans (b5.mono HB.out.size)); clear b5 c1 c2))
      have hc := CC.out
      have hg := HG.out
      have he := HE2.out
      clear HAc HPc
      rcases Nat.lt_trichotomy (x * 2 ^ unB) (endU low * y) with h | h | h
      · have c0 : c < 0 := hc.1.2 (hg.1.2 h)
        rw [if_neg (by omega)] at he
        subst he
        have d2 : (c == 0) = false := by rw [beq_eq_false_iff_ne]; omega
        have d3 : decide (0 < c) = false := decide_eq_false (by omega)
        clear hc hg h HG HE2 CC c0
        go_wp2_with fail
        go_ret2
        exact ⟨rfl, B5.out⟩
      · have c0 : c = 0 := hc.2.2 (hg.2.2 h)
        subst c0
        by_cases hp : M % 2 = 1
        · rw [if_pos (.inr ⟨h, hp⟩)] at he
          have hpi : (M : Int) % 2 = 1 := by omega
          by_cases hmax : low = 9218868437227405311
          · have hf := HMX.out
            rw [decide_eq_true hmax] at hf
            rw [if_pos hmax] at he
            subst he
            clear hc hg h HG HE2 CC hp hmax
            go_wp2_with fail
            go_ret2
            exact ⟨rfl, B5.out⟩
          · have hf := HMX.out
            rw [decide_eq_false hmax] at hf
            rw [if_neg hmax] at he
            subst he
            have HN := Lib.hid (NX.out hmax)
            clear hc hg h HG HE2 CC hp hmax
            go_wp2_with (go_at_call 132; (with_reducible refine (HN.out _).mono ?_); rintro e w' ⟨rfl, rfl⟩)
            go_ret2
            exact ⟨rfl, B5.out⟩
        · rw [if_neg (by omega)] at he
          subst he
          have hpi : (M : Int) % 2 = 0 := by omega
          clear hc hg h HG HE2 CC hp
          go_wp2_with fail
          go_ret2
          exact ⟨rfl, B5.out⟩
      · have c0 : 0 < c := by
          have h1 : ¬ c < 0 := fun hh => by have := hg.1.1 (hc.1.1 hh); omega
          have h2 : ¬ c = 0 := fun hh => by have := hg.2.1 (hc.2.1 hh); omega
          omega
        rw [if_pos (.inl h)] at he
        by_cases hmax : low = 9218868437227405311
        · have hf := HMX.out
          rw [decide_eq_true hmax] at hf
          rw [if_pos hmax] at he
          subst he
          clear hc hg h HG HE2 CC hmax
          go_wp2_with fail
          go_ret2
          exact ⟨rfl, B5.out⟩
        · have hf := HMX.out
          rw [decide_eq_false hmax] at hf
          rw [if_neg hmax] at he
          subst he
          have HN := Lib.hid (NX.out hmax)
          clear hc hg h HG HE2 CC hmax
          go_wp2_with (go_at_call 132; (with_reducible refine (HN.out _).mono ?_); rintro e w' ⟨rfl, rfl⟩)
          go_ret2
          exact ⟨rfl, B5.out⟩
end Go.Proofs.YtcbgkbidgpemfaaGreatDoor.rg

/- burnishref16: the walks of trimmed and first. Conditions: as each theorem states. -/
namespace Go.Proofs.YtcbgkbidgpemfaaGreatDoor.rh
open Go.RowKit
open Go.Proofs.YtcbgkbidgpemfaaGreatDoor.rg
open Go.Proofs.YtcbgkbidgpemfaaGreatDoor.flatm
open Go.Proofs.YtcbgkbidgpemfaaGreatDoor.fpm
open Go.Proofs.YtcbgkbidgpemfaaGreatDoor.rdf
open Go.Proofs.YtcbgkbidgpemfaaGreatDoor.prnw

/-- without noughts at the end -/
def trimR : List UInt8 → List UInt8
  | [] => []
  | [a] => [a]
  | a :: b :: r => if a = 48 then trimR (b :: r) else a :: b :: r
def trimL (l : List UInt8) : List UInt8 := (trimR l.reverse).reverse
theorem trim_snoc (l : List UInt8) (c : UInt8) (h : l ≠ []) : trimL (l ++ [c]) = if c = 48 then trimL l else l ++ [c] := by
  unfold trimL
  rw [List.reverse_append]
  cases hr : l.reverse with
  | nil => exact absurd (List.reverse_eq_nil_iff.1 hr) h
  | cons b r =>
    show (if c = 48 then trimR (b :: r) else c :: b :: r).reverse = _
    split
    · rfl
    · rw [List.reverse_cons, ← hr, List.reverse_reverse]
theorem trim_one (c : UInt8) : trimL [c] = [c] := rfl
theorem back_list (t : ByteArray) : t = ⟨t.data.toList.toArray⟩ := by
  cases t
  simp
set_option maxRecDepth 100000 in
set_option maxHeartbeats 1000000 in
theorem trimmed_any (s : ByteArray) (hs : s.size ≤ 60) (w : World) : Calls Tryz.prog 159 #[.string s] w fun e w' => e = .returned (.string ⟨(trimL s.data.toList).toArray⟩) ∧ w' = w := by
  obtain ⟨R, hR⟩ : ∃ R, trimL s.data.toList = R := ⟨_, rfl⟩
  rw [hR]
  have HR := Lib.hid hR
  obtain ⟨s0, hs0⟩ : ∃ s0, s0 = s := ⟨_, rfl⟩
  rw [← hs0]
  have HS := Lib.hid hs0
  clear hR hs0
  go_enter Tryz.func159, Tryz.ntmps159
  go_wp2_with fail
  go_loopw [0] (fun s0 wr => ∃ t : ByteArray, s0 = .string t ∧ t.size ≤ 60 ∧ trimL t.data.toList = R ∧ wr = w) (fun s0 _ => match s0 with | .string t => t.size | _ => 0)
  case atStart => exact ⟨s0, rfl, by rw [HS.out]; exact hs, by rw [HS.out]; exact HR.out, rfl⟩
  case round =>
    obtain ⟨t, rfl, ht, hT, hwr⟩ := hrel
    obtain rfl := hwr.symm
    have HT := Lib.hid hT
    have hti : (t.size : Int) ≤ 60 := by omega
    have hlt := list_len t
    have HL := Lib.hid hlt
    clear hT hlt
    by_cases h1 : 1 < t.size
    · obtain ⟨k, hk⟩ : ∃ k, t.size = k + 1 := ⟨t.size - 1, by omega⟩
      have hkt : k < t.size := by omega
      have hk1 : (t.size : Int) - 1 = (k : Int) := by omega
      have hk2 : (k : Int) < (t.size : Int) := by omega
      have h1i : (1 : Int) < (t.size : Int) := by omega
      have hd1 : decide (1 < t.size) = true := decide_eq_true h1
      obtain ⟨c, hc⟩ : ∃ c, t[k] = c := ⟨_, rfl⟩
      have hsnoc : t.data.toList = (t.extract 0 k).data.toList ++ [c] := by
        have e1 : (t.extract 0 k).data.toList = t.data.toList.take k := by simp
        rw [e1, ← hc]
        have e2 : t.data.toList.take (k + 1) = t.data.toList.take k ++ [t[k]] := by
          rw [List.take_succ_eq_append_getElem (by rw [HL.out]; exact hkt)]
          rfl
        rw [← e2, List.take_of_length_le (by rw [HL.out]; omega)]
      have hne : (t.extract 0 k).data.toList ≠ [] := fun h => by
        have h2 : (t.extract 0 k).data.toList.length = k := by simp; omega
        rw [h] at h2
        simp at h2
        omega
      have hsz : (t.extract 0 k).size = k := by simp; omega
      have hT := HT.out
      rw [hsnoc, trim_snoc _ _ hne] at hT
      by_cases h48 : c = 48
      · rw [if_pos h48] at hT
        have HT2 := Lib.hid hT
        have e1 : ((t[k].toNat : Int) == 48) = true := by rw [hc, h48]; rfl
        have HZ := Lib.hid (And.intro hsz hk)
        clear hT hsnoc hne hsz hk h48 hc
        go_wp2_with fail
        refine ⟨⟨t.extract 0 k, by first | rfl | (go_num), by rw [HZ.out.1]; omega, HT2.out, by first | trivial | rfl⟩, ?_⟩
        have := HZ.out.1
        have := HZ.out.2
        simp only
        omega
      · rw [if_neg h48, ← hsnoc] at hT
        have HT2 := Lib.hid hT
        have e1 : ((t[k].toNat : Int) == 48) = false := by
          rw [beq_eq_false_iff_ne, hc]
          intro h
          have h8 : (48 : UInt8).toNat = 48 := rfl
          exact h48 (UInt8.toNat.inj (by omega))
        clear hT hsnoc hne hsz hk h48 hc
        go_wp2_with fail
        go_ret
        refine ⟨?_, rfl⟩
        rw [← HT2.out, ← back_list]
        rfl
    · have h1i : ¬ (1 : Int) < (t.size : Int) := by omega
      have hd1 : decide (1 < t.size) = false := decide_eq_false h1
      have HT2 := Lib.hid (show t.data.toList = R by
        rw [← HT.out]
        have hl := HL.out
        cases hx : t.data.toList with
        | nil => rfl
        | cons a r =>
          rw [hx, List.length_cons] at hl
          have : r = [] := List.eq_nil_of_length_eq_zero (by omega)
          rw [this]
          rfl)
      go_wp2_with fail
      go_ret
      refine ⟨?_, rfl⟩
      rw [← HT2.out, ← back_list]
      rfl
theorem txL_dig : ∀ m n, ∀ c ∈ txL m n, isD c = true
  | 0, _, c, h => by cases h
  | m + 1, n, c, h => by
    rcases List.mem_cons.1 h with rfl | h
    · rw [isD_iff, Nat.toUInt8, UInt8.toNat_ofNat']
      omega
    · exact txL_dig m n c h
theorem txL_dv : ∀ m n a, dv a (txL m n) = a * 10 ^ m + n % 10 ^ m
  | 0, n, a => by
    show a = _
    rw [Nat.pow_zero, Nat.mul_one, Nat.mod_one]
    rfl
  | m + 1, n, a => by
    show dv (a * 10 + ((48 + n / 10 ^ m % 10).toUInt8.toNat - 48)) (txL m n) = _
    rw [txL_dv m n, Nat.toUInt8, UInt8.toNat_ofNat']
    have h1 : (48 + n / 10 ^ m % 10) % 2 ^ 8 - 48 = n / 10 ^ m % 10 := by omega
    rw [h1, Nat.pow_succ, Nat.mod_mul, Nat.add_mul, Nat.mul_assoc, Nat.mul_comm 10, Nat.mul_comm (n / 10 ^ m % 10)]
    omega
/-- the greatest whole number that is, by y, not above x -/
def flN (x y : Nat) : Nat := min (x / y) 1000000000000000000
set_option maxRecDepth 100000 in
set_option maxHeartbeats 2000000 in
theorem first_any (X : Nat) (hX0 : 0 < X) (hX : X < 9218868437227405312) (P : Int) (hP : -2000 ≤ P ∧ P ≤ 2000) (w : World) :
    Calls Tryz.prog 157 #[.float .f64 X, .int .i64 P] w fun e w' => e = .returned (.int .u64 (flN (ftM X * 10 ^ (-P).toNat * 2 ^ (ftE X - 52).toNat) (10 ^ P.toNat * 2 ^ (-(ftE X - 52)).toNat) : Nat)) ∧ Below w.heap.size w w' := by
  have HPc := Lib.hid (fun W => pieces_any X hX W)
  have hM := ftM_pos X hX0
  have hEb : -1074 ≤ ftE X - 52 ∧ ftE X - 52 ≤ 1000 := by unfold ftE; split <;> omega
  obtain ⟨M, hMe⟩ : ∃ M, ftM X = M := ⟨_, rfl⟩
  obtain ⟨E, hEe⟩ : ∃ E, ftE X - 52 = E := ⟨_, rfl⟩
  rw [hMe, hEe] at HPc ⊢
  rw [hMe] at hM
  rw [hEe] at hEb
  have HTx := Lib.hid (fun (a : Nat) (ha : a < 18446744073709551616) (W : World) => show Calls Tryz.prog 158 #[.int .u64 (a : Nat), .int .i64 19] W (StrPost W (txL 19 a)) from text16_any a 19 ha (by decide) W)
  have HAg := Lib.hid (fun (a : Nat) (ha : a ≤ 1000000000000000000) (W : World) => show Calls Tryz.prog 131 #[.string ⟨(txL 19 a).toArray⟩, .int .i64 P, .int .u64 (M : Nat), .int .i64 E] W (CmpPost W (a * (10 ^ P.toNat * 2 ^ (-E).toNat)) (M * 10 ^ (-P).toNat * 2 ^ E.toNat)) from by
    have h := against_any ⟨(txL 19 a).toArray⟩ (by show (txL 19 a).toArray.size ≤ 60; simp [txL_len]) (fun c hc => txL_dig 19 a c (by simpa using hc)) P E hP (by omega) M (by omega) W
    have hd : dv 0 (⟨(txL 19 a).toArray⟩ : ByteArray).data.toList = a := by
      show dv 0 (txL 19 a).toArray.toList = a
      rw [List.toList_toArray, txL_dv, Nat.zero_mul, Nat.zero_add, Nat.mod_eq_of_lt (by omega)]
    rw [hd, Nat.mul_assoc] at h
    exact h)
  obtain ⟨x, hx⟩ : ∃ x, M * 10 ^ (-P).toNat * 2 ^ E.toNat = x := ⟨_, rfl⟩
  obtain ⟨y, hy⟩ : ∃ y, 10 ^ P.toNat * 2 ^ (-E).toNat = y := ⟨_, rfl⟩
  have hy0 : 0 < y := by rw [← hy]; exact Nat.mul_pos (Nat.pow_pos (by decide)) (Nat.two_pow_pos _)
  rw [hx, hy] at HAg ⊢
  have hfl : ∀ a, a ≤ 1000000000000000000 → (a ≤ flN x y ↔ a * y ≤ x) := fun a ha => by
    unfold flN
    rw [Nat.le_min, Nat.le_div_iff_mul_le hy0]
    exact ⟨fun h => h.1, fun h => ⟨h, ha⟩⟩
  have hflb : flN x y ≤ 1000000000000000000 := Nat.min_le_right _ _
  obtain ⟨F, hF⟩ : ∃ F, flN x y = F := ⟨_, rfl⟩
  rw [hF] at hfl hflb ⊢
  have HFL := Lib.hid hfl
  clear hfl hF hx hy hMe hEe hP hEb hM hy0
  go_enter Tryz.func157, Tryz.ntmps157
  go_wp2_with (go_at_call 130; (with_reducible refine (HPc.out _).mono ?_); rintro e w' ⟨rfl, rfl⟩)
  go_loopw [7, 8] (fun s7 s8 wr => ∃ low high : Nat, s7 = .int .u64 low ∧ s8 = .int .u64 high ∧ low ≤ F ∧ F ≤ high ∧ high ≤ 1000000000000000000 ∧ Below w'.heap.size w' wr) (fun s7 s8 _ => (intOf s8 - intOf s7).toNat)
  case atStart => exact ⟨0, 1000000000000000000, rfl, rfl, Nat.zero_le _, hflb, Nat.le_refl _, Below.refl _ _⟩
  case round =>
    obtain ⟨low, high, rfl, rfl, hl, hh, h18, hB⟩ := hrel
    obtain ⟨wo, rfl⟩ : ∃ wo : World, wo = wr := ⟨_, rfl⟩
    have HB := Lib.hid hB
    have HLH := Lib.hid (And.intro hl hh)
    clear hB
    by_cases hlt : low < high
    · obtain ⟨d, hd⟩ : ∃ d, high - low = d := ⟨_, rfl⟩
      obtain ⟨q, hq⟩ : ∃ q, d / 2 = q := ⟨_, rfl⟩
      obtain ⟨mid, hmid⟩ : ∃ mid, high - q = mid := ⟨_, rfl⟩
      have d1 : (high : Int) - (low : Int) = (d : Int) := by omega
      have d2 : (d : Int) / 2 = (q : Int) := by omega
      have d3 : (high : Int) - (q : Int) = (mid : Int) := by omega
      have m1 : low < mid := by omega
      have m2 : mid ≤ high := by omega
      have HT1 := Lib.hid (fun W => HTx.out mid (by omega) W)
      have HA1 := Lib.hid (fun W => HAg.out mid (by omega) W)
      have hfm := HFL.out mid (by omega)
      have HG := Lib.hid hfm
      have di : (low : Int) < (high : Int) := by omega
      have hi9 : (high : Int) ≤ 1000000000000000000 := by omega
      have mi9 : (mid : Int) ≤ 1000000000000000000 := by omega
      have mi0 : (1 : Int) ≤ (mid : Int) := by omega
      have hm1 : IntKind.u64.wrap ((mid : Int) - 1) = ((mid - 1 : Nat) : Int) := by rw [IntKind.wrap_u64]; omega
      have MM := Lib.hid (And.intro m1 (And.intro m2 (And.intro hlt h18)))
      clear hfm hd hq hmid HTx HAg HFL hl hh
      go_wp2_with (first
        | (go_at_call 158; (with_reducible refine (HT1.out _).mono ?_); rintro e w4 ⟨rfl, b4⟩; have B4 := Lib.hid (HB.out.trans (b4.mono HB.out.size)); clear b4)
        | (go_at_call 131; (with_reducible refine (HA1.out _).mono ?_); rintro e w5 ⟨c, rfl, c1, c2, b5⟩; have CC := Lib.hid (And.intro c1 c2); have B5 := Lib.hid (B4.out.trans (b5.mono B4.out.size)); clear b5 c1 c2))
      · refine ⟨⟨mid, high, rfl, rfl, HG.out.2 ?_, HLH.out.2, MM.out.2.2.2, B5.out⟩, ?_⟩
        · have h : c ≤ 0 := by assumption
          rcases Int.lt_or_eq_of_le h with h | h
          · exact Nat.le_of_lt (CC.out.1.1 h)
          · exact Nat.le_of_eq (CC.out.2.1 h)
        · simp only [intOf]
          omega
      · refine ⟨⟨low, mid - 1, rfl, by first | rfl | (congr 1; omega), HLH.out.1, ?_, by omega, B5.out⟩, ?_⟩
        · have h : 0 < c := by first | assumption | omega
          have hn : ¬ mid ≤ F := fun hh => by
            rcases Nat.lt_or_eq_of_le (HG.out.1 hh) with h3 | h3
            · have := CC.out.1.2 h3
              omega
            · have := CC.out.2.2 h3
              omega
          omega
        · simp only [intOf]
          omega
    · obtain rfl : low = high := by omega
      have HFF := Lib.hid (show low = F by omega)
      clear hlt hl hh
      go_wp2_with fail
      go_ret
      rw [← HFF.out]
      exact ⟨rfl, HB.out⟩
end Go.Proofs.YtcbgkbidgpemfaaGreatDoor.rh
