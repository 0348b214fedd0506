/- The walks of decimal.right and decimal.Parse at six texts. Condition: three of strconv's variables hold what the program's text lays. -/
import Derived.Test.YtgblgolkajdfbaaGreatDoorDecA
namespace Go.Proofs.YtgblgolkajdfbaaGreatDoor.flow
open Go.RowKit
open Go.Proofs.YtgblgolkajdfbaaGreatDoor.parw
open Go.Proofs.YtgblgolkajdfbaaGreatDoor.lexw

set_option maxRecDepth 100000 in
set_option maxHeartbeats 4000000 in
theorem right_1 (w : World) : Calls Tryz.prog 70 #[.string ⟨#[49]⟩] w fun e w' => e = .returned (.bool true) ∧ Below w.heap.size w w' := by
  go_enter Tryz.func70, Tryz.ntmps70
  go_wp2_with (first | (go_at_call 73; refine (trimPrefix_no _ _ (by decide +kernel) _).mono ?_; rintro e w ⟨rfl, rfl⟩) | (go_at_call 74; refine (cutPrefix_no _ _ (by decide +kernel) _).mono ?_; rintro e w ⟨rfl, rfl⟩) | (go_at_call 72; refine (digits_1 _ _ (heap_at _ _ _ rfl)).mono ?_; rintro e w ⟨rfl, rfl⟩))
  go_ret
  exact ⟨rfl, (Below.refl _ w).alloc (Nat.le_refl _) _⟩

set_option maxRecDepth 100000 in
set_option maxHeartbeats 4000000 in
theorem right_0 (w : World) : Calls Tryz.prog 70 #[.string ⟨#[48]⟩] w fun e w' => e = .returned (.bool true) ∧ Below w.heap.size w w' := by
  go_enter Tryz.func70, Tryz.ntmps70
  go_wp2_with (first | (go_at_call 73; refine (trimPrefix_no _ _ (by decide +kernel) _).mono ?_; rintro e w ⟨rfl, rfl⟩) | (go_at_call 74; refine (cutPrefix_no _ _ (by decide +kernel) _).mono ?_; rintro e w ⟨rfl, rfl⟩) | (go_at_call 72; refine (digits_0 _ _ (heap_at _ _ _ rfl)).mono ?_; rintro e w ⟨rfl, rfl⟩))
  go_ret
  exact ⟨rfl, (Below.refl _ w).alloc (Nat.le_refl _) _⟩

set_option maxRecDepth 100000 in
set_option maxHeartbeats 4000000 in
theorem right_2 (w : World) : Calls Tryz.prog 70 #[.string ⟨#[50]⟩] w fun e w' => e = .returned (.bool true) ∧ Below w.heap.size w w' := by
  go_enter Tryz.func70, Tryz.ntmps70
  go_wp2_with (first | (go_at_call 73; refine (trimPrefix_no _ _ (by decide +kernel) _).mono ?_; rintro e w ⟨rfl, rfl⟩) | (go_at_call 74; refine (cutPrefix_no _ _ (by decide +kernel) _).mono ?_; rintro e w ⟨rfl, rfl⟩) | (go_at_call 72; refine (digits_2 _ _ (heap_at _ _ _ rfl)).mono ?_; rintro e w ⟨rfl, rfl⟩))
  go_ret
  exact ⟨rfl, (Below.refl _ w).alloc (Nat.le_refl _) _⟩

set_option maxRecDepth 100000 in
set_option maxHeartbeats 4000000 in
theorem right_0p5 (w : World) : Calls Tryz.prog 70 #[.string ⟨#[48, 46, 53]⟩] w fun e w' => e = .returned (.bool true) ∧ Below w.heap.size w w' := by
  go_enter Tryz.func70, Tryz.ntmps70
  go_wp2_with (first | (go_at_call 73; refine (trimPrefix_no _ _ (by decide +kernel) _).mono ?_; rintro e w ⟨rfl, rfl⟩) | (go_at_call 74; refine (cutPrefix_yes _ _ ⟨#[53]⟩ (by decide +kernel) (by decide) (by decide +kernel) _).mono ?_; rintro e w ⟨rfl, rfl⟩) | (go_at_call 72; refine (digits_0p5 _ _ (heap_at _ _ _ rfl)).mono ?_; rintro e w ⟨rfl, rfl⟩) | (go_at_call 72; refine (digits_5 _ _ (heap_at _ _ _ rfl)).mono ?_; rintro e w ⟨rfl, rfl⟩))
  go_ret
  exact ⟨rfl, (Below.refl _ w).alloc (Nat.le_refl _) _⟩

set_option maxRecDepth 100000 in
set_option maxHeartbeats 4000000 in
theorem right_1p5 (w : World) : Calls Tryz.prog 70 #[.string ⟨#[49, 46, 53]⟩] w fun e w' => e = .returned (.bool true) ∧ Below w.heap.size w w' := by
  go_enter Tryz.func70, Tryz.ntmps70
  go_wp2_with (first | (go_at_call 73; refine (trimPrefix_no _ _ (by decide +kernel) _).mono ?_; rintro e w ⟨rfl, rfl⟩) | (go_at_call 74; refine (cutPrefix_yes _ _ ⟨#[53]⟩ (by decide +kernel) (by decide) (by decide +kernel) _).mono ?_; rintro e w ⟨rfl, rfl⟩) | (go_at_call 72; refine (digits_1p5 _ _ (heap_at _ _ _ rfl)).mono ?_; rintro e w ⟨rfl, rfl⟩) | (go_at_call 72; refine (digits_5 _ _ (heap_at _ _ _ rfl)).mono ?_; rintro e w ⟨rfl, rfl⟩))
  go_ret
  exact ⟨rfl, (Below.refl _ w).alloc (Nat.le_refl _) _⟩

set_option maxRecDepth 100000 in
set_option maxHeartbeats 4000000 in
theorem right_1pp2 (w : World) : Calls Tryz.prog 70 #[.string ⟨#[49, 46, 46, 50]⟩] w fun e w' => e = .returned (.bool false) ∧ Below w.heap.size w w' := by
  go_enter Tryz.func70, Tryz.ntmps70
  go_wp2_with (first | (go_at_call 73; refine (trimPrefix_no _ _ (by decide +kernel) _).mono ?_; rintro e w ⟨rfl, rfl⟩) | (go_at_call 74; refine (cutPrefix_yes _ _ ⟨#[46, 50]⟩ (by decide +kernel) (by decide) (by decide +kernel) _).mono ?_; rintro e w ⟨rfl, rfl⟩) | (go_at_call 72; refine (digits_1pp2 _ _ (heap_at _ _ _ rfl)).mono ?_; rintro e w ⟨rfl, rfl⟩) | (go_at_call 72; refine (digits_p2 _ _ (heap_at _ _ _ rfl)).mono ?_; rintro e w ⟨rfl, rfl⟩))
  go_ret
  exact ⟨rfl, (Below.refl _ w).alloc (Nat.le_refl _) _⟩

set_option maxHeartbeats 2000000 in
theorem dparse_1 (B : Nat) (w : World) (h : Laid B w) : Calls Tryz.prog 69 #[.string ⟨#[49]⟩] w (DecPost (4607182418800017408, 0) w) := by
  have ho : FloatKind.f64.format.order 4607182418800017408 0 = some .gt := by decide +kernel
  go_enter Tryz.func69, Tryz.ntmps69
  go_wp2_with fail
  refine (right_1 _).mono ?_
  rintro e w1 ⟨rfl, hB1⟩
  have h1 : Laid B w1 := Laid.stable B w w1 none h (grown_below hB1 none) (fun r e => by cases e)
  go_wp2_with (go_at_call 71; refine (sparse_1 B _ h1).mono ?_; rintro e w ⟨rfl, rfl⟩)
  go_ret2
  exact ⟨rfl, hB1⟩

set_option maxHeartbeats 2000000 in
theorem dparse_0 (B : Nat) (w : World) (h : Laid B w) : Calls Tryz.prog 69 #[.string ⟨#[48]⟩] w (DecPost (0, 0) w) := by
  have ho : FloatKind.f64.format.order 0 0 = some .eq := by decide +kernel
  go_enter Tryz.func69, Tryz.ntmps69
  go_wp2_with fail
  refine (right_0 _).mono ?_
  rintro e w1 ⟨rfl, hB1⟩
  have h1 : Laid B w1 := Laid.stable B w w1 none h (grown_below hB1 none) (fun r e => by cases e)
  go_wp2_with (go_at_call 71; refine (sparse_0 B _ h1).mono ?_; rintro e w ⟨rfl, rfl⟩)
  go_ret2
  exact ⟨rfl, hB1⟩

set_option maxHeartbeats 2000000 in
theorem dparse_2 (B : Nat) (w : World) (h : Laid B w) : Calls Tryz.prog 69 #[.string ⟨#[50]⟩] w (DecPost (4611686018427387904, 0) w) := by
  have ho : FloatKind.f64.format.order 4611686018427387904 0 = some .gt := by decide +kernel
  go_enter Tryz.func69, Tryz.ntmps69
  go_wp2_with fail
  refine (right_2 _).mono ?_
  rintro e w1 ⟨rfl, hB1⟩
  have h1 : Laid B w1 := Laid.stable B w w1 none h (grown_below hB1 none) (fun r e => by cases e)
  go_wp2_with (go_at_call 71; refine (sparse_2 B _ h1).mono ?_; rintro e w ⟨rfl, rfl⟩)
  go_ret2
  exact ⟨rfl, hB1⟩

set_option maxHeartbeats 2000000 in
theorem dparse_0p5 (B : Nat) (w : World) (h : Laid B w) : Calls Tryz.prog 69 #[.string ⟨#[48, 46, 53]⟩] w (DecPost (4602678819172646912, 0) w) := by
  have ho : FloatKind.f64.format.order 4602678819172646912 0 = some .gt := by decide +kernel
  go_enter Tryz.func69, Tryz.ntmps69
  go_wp2_with fail
  refine (right_0p5 _).mono ?_
  rintro e w1 ⟨rfl, hB1⟩
  have h1 : Laid B w1 := Laid.stable B w w1 none h (grown_below hB1 none) (fun r e => by cases e)
  go_wp2_with (go_at_call 71; refine (sparse_05 B _ h1).mono ?_; rintro e w ⟨rfl, rfl⟩)
  go_ret2
  exact ⟨rfl, hB1⟩

set_option maxHeartbeats 2000000 in
theorem dparse_1p5 (B : Nat) (w : World) (h : Laid B w) : Calls Tryz.prog 69 #[.string ⟨#[49, 46, 53]⟩] w (DecPost (4609434218613702656, 0) w) := by
  have ho : FloatKind.f64.format.order 4609434218613702656 0 = some .gt := by decide +kernel
  go_enter Tryz.func69, Tryz.ntmps69
  go_wp2_with fail
  refine (right_1p5 _).mono ?_
  rintro e w1 ⟨rfl, hB1⟩
  have h1 : Laid B w1 := Laid.stable B w w1 none h (grown_below hB1 none) (fun r e => by cases e)
  go_wp2_with (go_at_call 71; refine (sparse_15 B _ h1).mono ?_; rintro e w ⟨rfl, rfl⟩)
  go_ret2
  exact ⟨rfl, hB1⟩

theorem dparse_1pp2 (w : World) : Calls Tryz.prog 69 #[.string ⟨#[49, 46, 46, 50]⟩] w (DecPost (0, 160) w) := by
  go_enter Tryz.func69, Tryz.ntmps69
  go_wp2_with fail
  refine (right_1pp2 _).mono ?_
  rintro e w1 ⟨rfl, hB1⟩
  go_wp2
  go_ret2
  exact ⟨rfl, hB1⟩

/-- what the decimals of the examples are -/
def decE (s : ByteArray) : Nat × Nat :=
  if s = ⟨#[49]⟩ then (4607182418800017408, 0) else if s = ⟨#[48]⟩ then (0, 0) else if s = ⟨#[50]⟩ then (4611686018427387904, 0) else if s = ⟨#[48, 46, 53]⟩ then (4602678819172646912, 0) else if s = ⟨#[49, 46, 53]⟩ then (4609434218613702656, 0) else (0, 160)
def isE (s : ByteArray) : Prop := s = ⟨#[49]⟩ ∨ s = ⟨#[48]⟩ ∨ s = ⟨#[50]⟩ ∨ s = ⟨#[48, 46, 53]⟩ ∨ s = ⟨#[49, 46, 53]⟩ ∨ s = ⟨#[49, 46, 46, 50]⟩
theorem dparse_e (B : Nat) (s : ByteArray) (hs : isE s) (w : World) (h : Laid B w) : Calls Tryz.prog 69 #[.string s] w (DecPost (decE s) w) := by
  rcases hs with rfl | rfl | rfl | rfl | rfl | rfl
  · exact dparse_1 B w h
  · exact dparse_0 B w h
  · exact dparse_2 B w h
  · exact dparse_0p5 B w h
  · exact dparse_1p5 B w h
  · exact dparse_1pp2 w

end Go.Proofs.YtgblgolkajdfbaaGreatDoor.flow
