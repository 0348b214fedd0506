/- The walks of decimal.right and decimal.Parse at a few texts. Condition: three of strconv's variables hold what the program's text lays. -/
import Derived.Test.YtgblgolkajdfbaaGreatDoorFloB
namespace Go.Proofs.YtgblgolkajdfbaaGreatDoor.flow
open Go.RowKit
open Go.Proofs.YtgblgolkajdfbaaGreatDoor.parw

def hasP (s p : ByteArray) : Bool := decide (p.size ≤ s.size) && ((s.extract 0 p.size).toList == p.toList)
theorem hasPrefix_any (s p : ByteArray) (w : World) : Calls Tryz.prog 84 #[.string s, .string p] w fun e w' => e = .returned (.bool (hasP s p)) ∧ w' = w := by
  by_cases h : p.size ≤ s.size
  · have hd : ((p.size : Int) ≤ (s.size : Int)) := by omega
    go_enter Tryz.func84, Tryz.ntmps84
    go_wp2
    go_ret
    exact ⟨by simp [hasP, h], rfl⟩
  · have hd : ¬ ((p.size : Int) ≤ (s.size : Int)) := by omega
    go_enter Tryz.func84, Tryz.ntmps84
    go_wp2
    go_ret
    exact ⟨by simp [hasP, h], rfl⟩

theorem trimPrefix_no (s p : ByteArray) (h : hasP s p = false) (w : World) : Calls Tryz.prog 73 #[.string s, .string p] w fun e w' => e = .returned (.string s) ∧ w' = w := by
  have hi : Calls Tryz.prog 77 #[.string s, .string p] w fun e w' => e = .returned (.string s) ∧ w' = w := by
    go_enter Tryz.func77, Tryz.ntmps77
    go_wp2_with (go_at_call 84; refine (hasPrefix_any s p _).mono ?_; rintro e w ⟨rfl, rfl⟩)
    go_ret
    exact ⟨rfl, rfl⟩
  go_enter Tryz.func73, Tryz.ntmps73
  go_wp2_with (go_at_call 77; refine hi.mono ?_; rintro e w ⟨rfl, rfl⟩)
  go_ret
  exact ⟨rfl, rfl⟩

theorem cutPrefix_no (s p : ByteArray) (h : hasP s p = false) (w : World) : Calls Tryz.prog 74 #[.string s, .string p] w fun e w' => e = .returned (.tuple #[.string s, .bool false]) ∧ w' = w := by
  have hi : Calls Tryz.prog 78 #[.string s, .string p] w fun e w' => e = .returned (.tuple #[.string s, .bool false]) ∧ w' = w := by
    go_enter Tryz.func78, Tryz.ntmps78
    go_wp2_with (go_at_call 84; refine (hasPrefix_any s p _).mono ?_; rintro e w ⟨rfl, rfl⟩)
    go_ret2
    exact ⟨rfl, rfl⟩
  go_enter Tryz.func74, Tryz.ntmps74
  go_wp2_with (go_at_call 78; refine hi.mono ?_; rintro e w ⟨rfl, rfl⟩)
  go_ret2
  exact ⟨rfl, rfl⟩

theorem cutPrefix_yes (s p r : ByteArray) (h : hasP s p = true) (hle : p.size ≤ s.size) (hr : s.extract p.size s.size = r) (w : World) : Calls Tryz.prog 74 #[.string s, .string p] w fun e w' => e = .returned (.tuple #[.string r, .bool true]) ∧ w' = w := by
  have hi : Calls Tryz.prog 78 #[.string s, .string p] w fun e w' => e = .returned (.tuple #[.string r, .bool true]) ∧ w' = w := by
    go_enter Tryz.func78, Tryz.ntmps78
    go_wp2_with (go_at_call 84; refine (hasPrefix_any s p _).mono ?_; rintro e w ⟨rfl, rfl⟩)
    go_ret2
    exact ⟨rfl, rfl⟩
  go_enter Tryz.func74, Tryz.ntmps74
  go_wp2_with (go_at_call 78; refine hi.mono ?_; rintro e w ⟨rfl, rfl⟩)
  go_ret2
  exact ⟨rfl, rfl⟩

set_option maxHeartbeats 2000000 in
theorem digits_1 (b : Nat) (w : World) (hb : w.heap[b]? = some (.cells #[.string ⟨#[49]⟩] 9 (0, 0))) :
    Calls Tryz.prog 72 #[.pointer (some ⟨b, 0, none⟩)] w fun e w' => e = .returned (.int .i64 1) ∧ w' = w.setCell ⟨b, 0, none⟩ (.string ⟨#[]⟩) := by
  have c0 := (cell_of_row w b 0 _ _ _ hb).trans rfl
  have f0 := not_frozen hb 0
  have hx : (⟨#[49]⟩ : ByteArray).extract 1 1 = ⟨#[]⟩ := by decide +kernel
  have b0 : ((⟨#[49]⟩ : ByteArray)[0]'(by decide)).toNat = 49 := rfl
  go_enter Tryz.func72, Tryz.ntmps72
  go_wp2
  refine wp_loop_rounds 2 ?_
  rw [rounds_succ]
  go_wp2
  rw [rounds_succ]
  go_wp2
  go_ret
  exact ⟨rfl, rfl⟩

set_option maxHeartbeats 2000000 in
theorem digits_0 (b : Nat) (w : World) (hb : w.heap[b]? = some (.cells #[.string ⟨#[48]⟩] 9 (0, 0))) :
    Calls Tryz.prog 72 #[.pointer (some ⟨b, 0, none⟩)] w fun e w' => e = .returned (.int .i64 1) ∧ w' = w.setCell ⟨b, 0, none⟩ (.string ⟨#[]⟩) := by
  have c0 := (cell_of_row w b 0 _ _ _ hb).trans rfl
  have f0 := not_frozen hb 0
  have hx : (⟨#[48]⟩ : ByteArray).extract 1 1 = ⟨#[]⟩ := by decide +kernel
  have b0 : ((⟨#[48]⟩ : ByteArray)[0]'(by decide)).toNat = 48 := rfl
  go_enter Tryz.func72, Tryz.ntmps72
  go_wp2
  refine wp_loop_rounds 2 ?_
  rw [rounds_succ]
  go_wp2
  rw [rounds_succ]
  go_wp2
  go_ret
  exact ⟨rfl, rfl⟩

set_option maxHeartbeats 2000000 in
theorem digits_2 (b : Nat) (w : World) (hb : w.heap[b]? = some (.cells #[.string ⟨#[50]⟩] 9 (0, 0))) :
    Calls Tryz.prog 72 #[.pointer (some ⟨b, 0, none⟩)] w fun e w' => e = .returned (.int .i64 1) ∧ w' = w.setCell ⟨b, 0, none⟩ (.string ⟨#[]⟩) := by
  have c0 := (cell_of_row w b 0 _ _ _ hb).trans rfl
  have f0 := not_frozen hb 0
  have hx : (⟨#[50]⟩ : ByteArray).extract 1 1 = ⟨#[]⟩ := by decide +kernel
  have b0 : ((⟨#[50]⟩ : ByteArray)[0]'(by decide)).toNat = 50 := rfl
  go_enter Tryz.func72, Tryz.ntmps72
  go_wp2
  refine wp_loop_rounds 2 ?_
  rw [rounds_succ]
  go_wp2
  rw [rounds_succ]
  go_wp2
  go_ret
  exact ⟨rfl, rfl⟩

set_option maxHeartbeats 2000000 in
theorem digits_0p5 (b : Nat) (w : World) (hb : w.heap[b]? = some (.cells #[.string ⟨#[48, 46, 53]⟩] 9 (0, 0))) :
    Calls Tryz.prog 72 #[.pointer (some ⟨b, 0, none⟩)] w fun e w' => e = .returned (.int .i64 1) ∧ w' = w.setCell ⟨b, 0, none⟩ (.string ⟨#[46, 53]⟩) := by
  have c0 := (cell_of_row w b 0 _ _ _ hb).trans rfl
  have f0 := not_frozen hb 0
  have hx : (⟨#[48, 46, 53]⟩ : ByteArray).extract 1 3 = ⟨#[46, 53]⟩ := by decide +kernel
  have b0 : ((⟨#[48, 46, 53]⟩ : ByteArray)[0]'(by decide)).toNat = 48 := rfl
  have b1 : ((⟨#[48, 46, 53]⟩ : ByteArray)[1]'(by decide)).toNat = 46 := rfl
  have b2 : ((⟨#[48, 46, 53]⟩ : ByteArray)[2]'(by decide)).toNat = 53 := rfl
  go_enter Tryz.func72, Tryz.ntmps72
  go_wp2
  refine wp_loop_rounds 2 ?_
  rw [rounds_succ]
  go_wp2
  rw [rounds_succ]
  go_wp2
  go_ret
  exact ⟨rfl, rfl⟩

set_option maxHeartbeats 2000000 in
theorem digits_5 (b : Nat) (w : World) (hb : w.heap[b]? = some (.cells #[.string ⟨#[53]⟩] 9 (0, 0))) :
    Calls Tryz.prog 72 #[.pointer (some ⟨b, 0, none⟩)] w fun e w' => e = .returned (.int .i64 1) ∧ w' = w.setCell ⟨b, 0, none⟩ (.string ⟨#[]⟩) := by
  have c0 := (cell_of_row w b 0 _ _ _ hb).trans rfl
  have f0 := not_frozen hb 0
  have hx : (⟨#[53]⟩ : ByteArray).extract 1 1 = ⟨#[]⟩ := by decide +kernel
  have b0 : ((⟨#[53]⟩ : ByteArray)[0]'(by decide)).toNat = 53 := rfl
  go_enter Tryz.func72, Tryz.ntmps72
  go_wp2
  refine wp_loop_rounds 2 ?_
  rw [rounds_succ]
  go_wp2
  rw [rounds_succ]
  go_wp2
  go_ret
  exact ⟨rfl, rfl⟩

set_option maxHeartbeats 2000000 in
theorem digits_1p5 (b : Nat) (w : World) (hb : w.heap[b]? = some (.cells #[.string ⟨#[49, 46, 53]⟩] 9 (0, 0))) :
    Calls Tryz.prog 72 #[.pointer (some ⟨b, 0, none⟩)] w fun e w' => e = .returned (.int .i64 1) ∧ w' = w.setCell ⟨b, 0, none⟩ (.string ⟨#[46, 53]⟩) := by
  have c0 := (cell_of_row w b 0 _ _ _ hb).trans rfl
  have f0 := not_frozen hb 0
  have hx : (⟨#[49, 46, 53]⟩ : ByteArray).extract 1 3 = ⟨#[46, 53]⟩ := by decide +kernel
  have b0 : ((⟨#[49, 46, 53]⟩ : ByteArray)[0]'(by decide)).toNat = 49 := rfl
  have b1 : ((⟨#[49, 46, 53]⟩ : ByteArray)[1]'(by decide)).toNat = 46 := rfl
  have b2 : ((⟨#[49, 46, 53]⟩ : ByteArray)[2]'(by decide)).toNat = 53 := rfl
  go_enter Tryz.func72, Tryz.ntmps72
  go_wp2
  refine wp_loop_rounds 2 ?_
  rw [rounds_succ]
  go_wp2
  rw [rounds_succ]
  go_wp2
  go_ret
  exact ⟨rfl, rfl⟩

set_option maxHeartbeats 2000000 in
theorem digits_1pp2 (b : Nat) (w : World) (hb : w.heap[b]? = some (.cells #[.string ⟨#[49, 46, 46, 50]⟩] 9 (0, 0))) :
    Calls Tryz.prog 72 #[.pointer (some ⟨b, 0, none⟩)] w fun e w' => e = .returned (.int .i64 1) ∧ w' = w.setCell ⟨b, 0, none⟩ (.string ⟨#[46, 46, 50]⟩) := by
  have c0 := (cell_of_row w b 0 _ _ _ hb).trans rfl
  have f0 := not_frozen hb 0
  have hx : (⟨#[49, 46, 46, 50]⟩ : ByteArray).extract 1 4 = ⟨#[46, 46, 50]⟩ := by decide +kernel
  have b0 : ((⟨#[49, 46, 46, 50]⟩ : ByteArray)[0]'(by decide)).toNat = 49 := rfl
  have b1 : ((⟨#[49, 46, 46, 50]⟩ : ByteArray)[1]'(by decide)).toNat = 46 := rfl
  have b2 : ((⟨#[49, 46, 46, 50]⟩ : ByteArray)[2]'(by decide)).toNat = 46 := rfl
  have b3 : ((⟨#[49, 46, 46, 50]⟩ : ByteArray)[3]'(by decide)).toNat = 50 := rfl
  go_enter Tryz.func72, Tryz.ntmps72
  go_wp2
  refine wp_loop_rounds 2 ?_
  rw [rounds_succ]
  go_wp2
  rw [rounds_succ]
  go_wp2
  go_ret
  exact ⟨rfl, rfl⟩

set_option maxHeartbeats 2000000 in
theorem digits_p2 (b : Nat) (w : World) (hb : w.heap[b]? = some (.cells #[.string ⟨#[46, 50]⟩] 9 (0, 0))) :
    Calls Tryz.prog 72 #[.pointer (some ⟨b, 0, none⟩)] w fun e w' => e = .returned (.int .i64 0) ∧ w' = w.setCell ⟨b, 0, none⟩ (.string ⟨#[46, 50]⟩) := by
  have c0 := (cell_of_row w b 0 _ _ _ hb).trans rfl
  have f0 := not_frozen hb 0
  have hx : (⟨#[46, 50]⟩ : ByteArray).extract 0 2 = ⟨#[46, 50]⟩ := by decide +kernel
  have b0 : ((⟨#[46, 50]⟩ : ByteArray)[0]'(by decide)).toNat = 46 := rfl
  have b1 : ((⟨#[46, 50]⟩ : ByteArray)[1]'(by decide)).toNat = 50 := rfl
  go_enter Tryz.func72, Tryz.ntmps72
  go_wp2
  refine wp_loop_rounds 1 ?_
  rw [rounds_succ]
  go_wp2
  go_ret
  exact ⟨rfl, rfl⟩

end Go.Proofs.YtgblgolkajdfbaaGreatDoor.flow
