/- The walks of decimal.right and decimal.Parse at a few texts. Condition: three of strconv's variables hold what the program's text lays. -/
import Derived.Test.YtgblgolkajdfbaaDoorFloB
namespace Go.Proofs.YtgblgolkajdfbaaDoor.flow
open Go.RowKit
open Go.Proofs.YtgblgolkajdfbaaDoor.parw

def hasP (s p : ByteArray) : Bool := decide (p.size ≤ s.size) && ((s.extract 0 p.size).toList == p.toList)
theorem hasPrefix_any (s p : ByteArray) (w : World) : Calls Tryd.prog 39 #[.string s, .string p] w fun e w' => e = .returned (.bool (hasP s p)) ∧ w' = w := by
  by_cases h : p.size ≤ s.size
  · have hd : ((p.size : Int) ≤ (s.size : Int)) := by omega
    go_enter Tryd.func39, Tryd.ntmps39
    go_wp2
    go_ret
    exact ⟨by simp [hasP, h], rfl⟩
  · have hd : ¬ ((p.size : Int) ≤ (s.size : Int)) := by omega
    go_enter Tryd.func39, Tryd.ntmps39
    go_wp2
    go_ret
    exact ⟨by simp [hasP, h], rfl⟩

theorem trimPrefix_no (s p : ByteArray) (h : hasP s p = false) (w : World) : Calls Tryd.prog 28 #[.string s, .string p] w fun e w' => e = .returned (.string s) ∧ w' = w := by
  have hi : Calls Tryd.prog 32 #[.string s, .string p] w fun e w' => e = .returned (.string s) ∧ w' = w := by
    go_enter Tryd.func32, Tryd.ntmps32
    go_wp2_with (go_at_call 39; refine (hasPrefix_any s p _).mono ?_; rintro e w ⟨rfl, rfl⟩)
    go_ret
    exact ⟨rfl, rfl⟩
  go_enter Tryd.func28, Tryd.ntmps28
  go_wp2_with (go_at_call 32; refine hi.mono ?_; rintro e w ⟨rfl, rfl⟩)
  go_ret
  exact ⟨rfl, rfl⟩

theorem cutPrefix_no (s p : ByteArray) (h : hasP s p = false) (w : World) : Calls Tryd.prog 29 #[.string s, .string p] w fun e w' => e = .returned (.tuple #[.string s, .bool false]) ∧ w' = w := by
  have hi : Calls Tryd.prog 33 #[.string s, .string p] w fun e w' => e = .returned (.tuple #[.string s, .bool false]) ∧ w' = w := by
    go_enter Tryd.func33, Tryd.ntmps33
    go_wp2_with (go_at_call 39; refine (hasPrefix_any s p _).mono ?_; rintro e w ⟨rfl, rfl⟩)
    go_ret2
    exact ⟨rfl, rfl⟩
  go_enter Tryd.func29, Tryd.ntmps29
  go_wp2_with (go_at_call 33; refine hi.mono ?_; rintro e w ⟨rfl, rfl⟩)
  go_ret2
  exact ⟨rfl, rfl⟩

theorem cutPrefix_yes (s p r : ByteArray) (h : hasP s p = true) (hle : p.size ≤ s.size) (hr : s.extract p.size s.size = r) (w : World) : Calls Tryd.prog 29 #[.string s, .string p] w fun e w' => e = .returned (.tuple #[.string r, .bool true]) ∧ w' = w := by
  have hi : Calls Tryd.prog 33 #[.string s, .string p] w fun e w' => e = .returned (.tuple #[.string r, .bool true]) ∧ w' = w := by
    go_enter Tryd.func33, Tryd.ntmps33
    go_wp2_with (go_at_call 39; refine (hasPrefix_any s p _).mono ?_; rintro e w ⟨rfl, rfl⟩)
    go_ret2
    exact ⟨rfl, rfl⟩
  go_enter Tryd.func29, Tryd.ntmps29
  go_wp2_with (go_at_call 33; refine hi.mono ?_; rintro e w ⟨rfl, rfl⟩)
  go_ret2
  exact ⟨rfl, rfl⟩

set_option maxHeartbeats 2000000 in
theorem digits_1 (b : Nat) (w : World) (hb : w.heap[b]? = some (.cells #[.string ⟨#[49]⟩] 9 (0, 0))) :
    Calls Tryd.prog 27 #[.pointer (some ⟨b, 0, none⟩)] w fun e w' => e = .returned (.int .i64 1) ∧ w' = w.setCell ⟨b, 0, none⟩ (.string ⟨#[]⟩) := by
  have c0 := (cell_of_row w b 0 _ _ _ hb).trans rfl
  have f0 := not_frozen hb 0
  have hx : (⟨#[49]⟩ : ByteArray).extract 1 1 = ⟨#[]⟩ := by decide +kernel
  have b0 : ((⟨#[49]⟩ : ByteArray)[0]'(by decide)).toNat = 49 := rfl
  go_enter Tryd.func27, Tryd.ntmps27
  go_wp2
  refine wp_loop_rounds 2 ?_
  rw [rounds_succ]
  go_wp2
  rw [rounds_succ]
  go_wp2
  go_ret
  exact ⟨rfl, rfl⟩

set_option maxHeartbeats 2000000 in
theorem digits_0 (b : Nat) (w : World) (hb : w.heap[b]? = some (.cells #[.string ⟨#[48]⟩] 9 (0, 0))) :
    Calls Tryd.prog 27 #[.pointer (some ⟨b, 0, none⟩)] w fun e w' => e = .returned (.int .i64 1) ∧ w' = w.setCell ⟨b, 0, none⟩ (.string ⟨#[]⟩) := by
  have c0 := (cell_of_row w b 0 _ _ _ hb).trans rfl
  have f0 := not_frozen hb 0
  have hx : (⟨#[48]⟩ : ByteArray).extract 1 1 = ⟨#[]⟩ := by decide +kernel
  have b0 : ((⟨#[48]⟩ : ByteArray)[0]'(by decide)).toNat = 48 := rfl
  go_enter Tryd.func27, Tryd.ntmps27
  go_wp2
  refine wp_loop_rounds 2 ?_
  rw [rounds_succ]
  go_wp2
  rw [rounds_succ]
  go_wp2
  go_ret
  exact ⟨rfl, rfl⟩

set_option maxHeartbeats 2000000 in
theorem digits_2 (b : Nat) (w : World) (hb : w.heap[b]? = some (.cells #[.string ⟨#[50]⟩] 9 (0, 0))) :
    Calls Tryd.prog 27 #[.pointer (some ⟨b, 0, none⟩)] w fun e w' => e = .returned (.int .i64 1) ∧ w' = w.setCell ⟨b, 0, none⟩ (.string ⟨#[]⟩) := by
  have c0 := (cell_of_row w b 0 _ _ _ hb).trans rfl
  have f0 := not_frozen hb 0
  have hx : (⟨#[50]⟩ : ByteArray).extract 1 1 = ⟨#[]⟩ := by decide +kernel
  have b0 : ((⟨#[50]⟩ : ByteArray)[0]'(by decide)).toNat = 50 := rfl
  go_enter Tryd.func27, Tryd.ntmps27
  go_wp2
  refine wp_loop_rounds 2 ?_
  rw [rounds_succ]
  go_wp2
  rw [rounds_succ]
  go_wp2
  go_ret
  exact ⟨rfl, rfl⟩

set_option maxHeartbeats 2000000 in
theorem digits_0p5 (b : Nat) (w : World) (hb : w.heap[b]? = some (.cells #[.string ⟨#[48, 46, 53]⟩] 9 (0, 0))) :
    Calls Tryd.prog 27 #[.pointer (some ⟨b, 0, none⟩)] w fun e w' => e = .returned (.int .i64 1) ∧ w' = w.setCell ⟨b, 0, none⟩ (.string ⟨#[46, 53]⟩) := by
  have c0 := (cell_of_row w b 0 _ _ _ hb).trans rfl
  have f0 := not_frozen hb 0
  have hx : (⟨#[48, 46, 53]⟩ : ByteArray).extract 1 3 = ⟨#[46, 53]⟩ := by decide +kernel
  have b0 : ((⟨#[48, 46, 53]⟩ : ByteArray)[0]'(by decide)).toNat = 48 := rfl
  have b1 : ((⟨#[48, 46, 53]⟩ : ByteArray)[1]'(by decide)).toNat = 46 := rfl
  have b2 : ((⟨#[48, 46, 53]⟩ : ByteArray)[2]'(by decide)).toNat = 53 := rfl
  go_enter Tryd.func27, Tryd.ntmps27
  go_wp2
  refine wp_loop_rounds 2 ?_
  rw [rounds_succ]
  go_wp2
  rw [rounds_succ]
  go_wp2
  go_ret
  exact ⟨rfl, rfl⟩

set_option maxHeartbeats 2000000 in
theorem digits_5 (b : Nat) (w : World) (hb : w.heap[b]? = some (.cells #[.string ⟨#[53]⟩] 9 (0, 0))) :
    Calls Tryd.prog 27 #[.pointer (some ⟨b, 0, none⟩)] w fun e w' => e = .returned (.int .i64 1) ∧ w' = w.setCell ⟨b, 0, none⟩ (.string ⟨#[]⟩) := by
  have c0 := (cell_of_row w b 0 _ _ _ hb).trans rfl
  have f0 := not_frozen hb 0
  have hx : (⟨#[53]⟩ : ByteArray).extract 1 1 = ⟨#[]⟩ := by decide +kernel
  have b0 : ((⟨#[53]⟩ : ByteArray)[0]'(by decide)).toNat = 53 := rfl
  go_enter Tryd.func27, Tryd.ntmps27
  go_wp2
  refine wp_loop_rounds 2 ?_
  rw [rounds_succ]
  go_wp2
  rw [rounds_succ]
  go_wp2
  go_ret
  exact ⟨rfl, rfl⟩

set_option maxHeartbeats 2000000 in
theorem digits_1p5 (b : Nat) (w : World) (hb : w.heap[b]? = some (.cells #[.string ⟨#[49, 46, 53]⟩] 9 (0, 0))) :
    Calls Tryd.prog 27 #[.pointer (some ⟨b, 0, none⟩)] w fun e w' => e = .returned (.int .i64 1) ∧ w' = w.setCell ⟨b, 0, none⟩ (.string ⟨#[46, 53]⟩) := by
  have c0 := (cell_of_row w b 0 _ _ _ hb).trans rfl
  have f0 := not_frozen hb 0
  have hx : (⟨#[49, 46, 53]⟩ : ByteArray).extract 1 3 = ⟨#[46, 53]⟩ := by decide +kernel
  have b0 : ((⟨#[49, 46, 53]⟩ : ByteArray)[0]'(by decide)).toNat = 49 := rfl
  have b1 : ((⟨#[49, 46, 53]⟩ : ByteArray)[1]'(by decide)).toNat = 46 := rfl
  have b2 : ((⟨#[49, 46, 53]⟩ : ByteArray)[2]'(by decide)).toNat = 53 := rfl
  go_enter Tryd.func27, Tryd.ntmps27
  go_wp2
  refine wp_loop_rounds 2 ?_
  rw [rounds_succ]
  go_wp2
  rw [rounds_succ]
  go_wp2
  go_ret
  exact ⟨rfl, rfl⟩

set_option maxHeartbeats 2000000 in
theorem digits_1pp2 (b : Nat) (w : World) (hb : w.heap[b]? = some (.cells #[.string ⟨#[49, 46, 46, 50]⟩] 9 (0, 0))) :
    Calls Tryd.prog 27 #[.pointer (some ⟨b, 0, none⟩)] w fun e w' => e = .returned (.int .i64 1) ∧ w' = w.setCell ⟨b, 0, none⟩ (.string ⟨#[46, 46, 50]⟩) := by
  have c0 := (cell_of_row w b 0 _ _ _ hb).trans rfl
  have f0 := not_frozen hb 0
  have hx : (⟨#[49, 46, 46, 50]⟩ : ByteArray).extract 1 4 = ⟨#[46, 46, 50]⟩ := by decide +kernel
  have b0 : ((⟨#[49, 46, 46, 50]⟩ : ByteArray)[0]'(by decide)).toNat = 49 := rfl
  have b1 : ((⟨#[49, 46, 46, 50]⟩ : ByteArray)[1]'(by decide)).toNat = 46 := rfl
  have b2 : ((⟨#[49, 46, 46, 50]⟩ : ByteArray)[2]'(by decide)).toNat = 46 := rfl
  have b3 : ((⟨#[49, 46, 46, 50]⟩ : ByteArray)[3]'(by decide)).toNat = 50 := rfl
  go_enter Tryd.func27, Tryd.ntmps27
  go_wp2
  refine wp_loop_rounds 2 ?_
  rw [rounds_succ]
  go_wp2
  rw [rounds_succ]
  go_wp2
  go_ret
  exact ⟨rfl, rfl⟩

set_option maxHeartbeats 2000000 in
theorem digits_p2 (b : Nat) (w : World) (hb : w.heap[b]? = some (.cells #[.string ⟨#[46, 50]⟩] 9 (0, 0))) :
    Calls Tryd.prog 27 #[.pointer (some ⟨b, 0, none⟩)] w fun e w' => e = .returned (.int .i64 0) ∧ w' = w.setCell ⟨b, 0, none⟩ (.string ⟨#[46, 50]⟩) := by
  have c0 := (cell_of_row w b 0 _ _ _ hb).trans rfl
  have f0 := not_frozen hb 0
  have hx : (⟨#[46, 50]⟩ : ByteArray).extract 0 2 = ⟨#[46, 50]⟩ := by decide +kernel
  have b0 : ((⟨#[46, 50]⟩ : ByteArray)[0]'(by decide)).toNat = 46 := rfl
  have b1 : ((⟨#[46, 50]⟩ : ByteArray)[1]'(by decide)).toNat = 50 := rfl
  go_enter Tryd.func27, Tryd.ntmps27
  go_wp2
  refine wp_loop_rounds 1 ?_
  rw [rounds_succ]
  go_wp2
  go_ret
  exact ⟨rfl, rfl⟩

end Go.Proofs.YtgblgolkajdfbaaDoor.flow
