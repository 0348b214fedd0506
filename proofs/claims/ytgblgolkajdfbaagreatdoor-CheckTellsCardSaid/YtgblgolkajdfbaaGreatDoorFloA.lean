/- The walks of strconv's special and readFloat at a few decimals. Conditions: none. -/
import Derived.Test.YtgblgolkajdfbaaGreatDoorProg
import Derived.WalkKit
import Derived.WalkLawsBesides
import Derived.Handy
import Derived.WalkMore
namespace Go.Proofs.YtgblgolkajdfbaaGreatDoor.flow
open Go.RowKit

theorem special_digit (s : ByteArray) (h0 : 0 < s.size) (c : Nat) (hc : s[0].toNat = c) (h1 : 48 ≤ c ∧ c ≤ 57) (w : World) :
    Calls Tryz.prog 90 #[.string s] w fun e w' => e = .returned (.tuple #[.float .f64 0, .int .i64 0, .bool false]) ∧ w' = w := by
  have k1 : ((s[0].toNat : Int) == 43) = false := by rw [beq_eq_false_iff_ne]; omega
  have k2 : ((s[0].toNat : Int) == 45) = false := by rw [beq_eq_false_iff_ne]; omega
  have k3 : ((s[0].toNat : Int) == 105) = false := by rw [beq_eq_false_iff_ne]; omega
  have k4 : ((s[0].toNat : Int) == 73) = false := by rw [beq_eq_false_iff_ne]; omega
  have k5 : ((s[0].toNat : Int) == 110) = false := by rw [beq_eq_false_iff_ne]; omega
  have k6 : ((s[0].toNat : Int) == 78) = false := by rw [beq_eq_false_iff_ne]; omega
  have k0 : ((s.size : Int) == 0) = false := by rw [beq_eq_false_iff_ne]; omega
  clear hc h1
  go_enter Tryz.func90, Tryz.ntmps90
  go_wp2
  go_ret3
  exact ⟨rfl, rfl⟩

def RF (m : Nat) (ex : Int) (i : Nat) (w : World) (e : Ending) (w' : World) : Prop :=
  e = .returned (.tuple #[.int .u64 m, .int .i64 ex, .bool false, .bool false, .bool false, .int .i64 i, .bool true]) ∧ w' = w

set_option maxRecDepth 100000 in
set_option maxHeartbeats 4000000 in
theorem readFloat_1 (w : World) : Calls Tryz.prog 91 #[.string ⟨#[49]⟩] w (RF 1 (0) 1 w) := by
  have b0 : ((⟨#[49]⟩ : ByteArray)[0]'(by decide)).toNat = 49 := rfl
  go_enter Tryz.func91, Tryz.ntmps91
  go_wp2
  go_step3
  go_wp2
  go_step3
  go_wp2
  refine wp_loop_rounds 2 ?_
  rw [rounds_succ]
  go_wp2
  rw [rounds_succ]
  go_wp2
  (try rw [Exit.noGoto_ret])
  refine bodyPost_ret (v := .tuple #[.int .u64 1, .int .i64 (0), .bool false, .bool false, .bool false, .int .i64 1, .bool true]) (by simp [results, Tryz.results91, go_sem]) rfl ?_
  exact ⟨rfl, rfl⟩

set_option maxRecDepth 100000 in
set_option maxHeartbeats 4000000 in
theorem readFloat_0 (w : World) : Calls Tryz.prog 91 #[.string ⟨#[48]⟩] w (RF 0 (0) 1 w) := by
  have b0 : ((⟨#[48]⟩ : ByteArray)[0]'(by decide)).toNat = 48 := rfl
  go_enter Tryz.func91, Tryz.ntmps91
  go_wp2
  go_step3
  go_wp2
  go_step3
  go_wp2
  refine wp_loop_rounds 2 ?_
  rw [rounds_succ]
  go_wp2
  rw [rounds_succ]
  go_wp2
  (try rw [Exit.noGoto_ret])
  refine bodyPost_ret (v := .tuple #[.int .u64 0, .int .i64 (0), .bool false, .bool false, .bool false, .int .i64 1, .bool true]) (by simp [results, Tryz.results91, go_sem]) rfl ?_
  exact ⟨rfl, rfl⟩

set_option maxRecDepth 100000 in
set_option maxHeartbeats 4000000 in
theorem readFloat_2 (w : World) : Calls Tryz.prog 91 #[.string ⟨#[50]⟩] w (RF 2 (0) 1 w) := by
  have b0 : ((⟨#[50]⟩ : ByteArray)[0]'(by decide)).toNat = 50 := rfl
  go_enter Tryz.func91, Tryz.ntmps91
  go_wp2
  go_step3
  go_wp2
  go_step3
  go_wp2
  refine wp_loop_rounds 2 ?_
  rw [rounds_succ]
  go_wp2
  rw [rounds_succ]
  go_wp2
  (try rw [Exit.noGoto_ret])
  refine bodyPost_ret (v := .tuple #[.int .u64 2, .int .i64 (0), .bool false, .bool false, .bool false, .int .i64 1, .bool true]) (by simp [results, Tryz.results91, go_sem]) rfl ?_
  exact ⟨rfl, rfl⟩

set_option maxRecDepth 100000 in
set_option maxHeartbeats 4000000 in
theorem readFloat_05 (w : World) : Calls Tryz.prog 91 #[.string ⟨#[48, 46, 53]⟩] w (RF 5 (-1) 3 w) := by
  have b0 : ((⟨#[48, 46, 53]⟩ : ByteArray)[0]'(by decide)).toNat = 48 := rfl
  have b1 : ((⟨#[48, 46, 53]⟩ : ByteArray)[1]'(by decide)).toNat = 46 := rfl
  have b2 : ((⟨#[48, 46, 53]⟩ : ByteArray)[2]'(by decide)).toNat = 53 := rfl
  go_enter Tryz.func91, Tryz.ntmps91
  go_wp2
  go_step3
  go_wp2
  go_step3
  go_wp2
  refine wp_loop_rounds 4 ?_
  rw [rounds_succ]
  go_wp2
  rw [rounds_succ]
  go_wp2
  rw [rounds_succ]
  go_wp2
  rw [rounds_succ]
  go_wp2
  (try rw [Exit.noGoto_ret])
  refine bodyPost_ret (v := .tuple #[.int .u64 5, .int .i64 (-1), .bool false, .bool false, .bool false, .int .i64 3, .bool true]) (by simp [results, Tryz.results91, go_sem]) rfl ?_
  exact ⟨rfl, rfl⟩

set_option maxRecDepth 100000 in
set_option maxHeartbeats 4000000 in
theorem readFloat_15 (w : World) : Calls Tryz.prog 91 #[.string ⟨#[49, 46, 53]⟩] w (RF 15 (-1) 3 w) := by
  have b0 : ((⟨#[49, 46, 53]⟩ : ByteArray)[0]'(by decide)).toNat = 49 := rfl
  have b1 : ((⟨#[49, 46, 53]⟩ : ByteArray)[1]'(by decide)).toNat = 46 := rfl
  have b2 : ((⟨#[49, 46, 53]⟩ : ByteArray)[2]'(by decide)).toNat = 53 := rfl
  go_enter Tryz.func91, Tryz.ntmps91
  go_wp2
  go_step3
  go_wp2
  go_step3
  go_wp2
  refine wp_loop_rounds 4 ?_
  rw [rounds_succ]
  go_wp2
  rw [rounds_succ]
  go_wp2
  rw [rounds_succ]
  go_wp2
  rw [rounds_succ]
  go_wp2
  (try rw [Exit.noGoto_ret])
  refine bodyPost_ret (v := .tuple #[.int .u64 15, .int .i64 (-1), .bool false, .bool false, .bool false, .int .i64 3, .bool true]) (by simp [results, Tryz.results91, go_sem]) rfl ?_
  exact ⟨rfl, rfl⟩

end Go.Proofs.YtgblgolkajdfbaaGreatDoor.flow
