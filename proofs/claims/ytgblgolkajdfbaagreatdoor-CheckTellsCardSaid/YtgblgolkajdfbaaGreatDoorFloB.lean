/- The walks of strconv's ParseFloat at a few decimals. Condition: three of strconv's variables hold what the program's text lays. -/
import Derived.Test.YtgblgolkajdfbaaGreatDoorFloA
import Derived.Test.YtgblgolkajdfbaaGreatDoorParE
import Derived.Laws.FloatBits
import Derived.Laws.FloatArith
import Derived.Laws.Externs
namespace Go.Proofs.YtgblgolkajdfbaaGreatDoor.flow
open Go.RowKit
open Go.Proofs.YtgblgolkajdfbaaGreatDoor.parw
open Go.Proofs.YtgblgolkajdfbaaGreatDoor

/-- what the variables hold, in blocks below B -/
def Laid (B : Nat) (w : World) : Prop :=
  4 < B ∧ 5 < B ∧ 8 < B ∧ w.cell? ⟨4, 0, none⟩ = some (.bool true) ∧ w.cell? ⟨5, 0, none⟩ = some (.int .u64 52) ∧
  ∃ (a : Addr) (c : Nat), w.cell? ⟨8, 0, none⟩ = some (.slice (some a) 23 c) ∧ a.block < B ∧ w.cell? ⟨a.block, a.off + 1, none⟩ = some (.float .f64 4621819117588971520)
theorem Laid.stable (B : Nat) : Stable (Laid B) B := by
  rintro w w' row ⟨h1, h2, h3, h4, h5, a, c, h6, h7, h8⟩ hg hr
  have hk : ∀ (p : Addr) (v : Value), p.block < B → w.cell? p = some v → w'.cell? p = some v := fun p v hp hv =>
    (World.cell?_of_block (hg.block p.block (World.block_lt_of_cell? w _ hv) (fun e => by have := hr _ e.symm; omega))).trans hv
  exact ⟨h1, h2, h3, hk _ _ h1 h4, hk _ _ h2 h5, a, c, hk _ _ h3 h6, h7, hk _ _ h7 h8⟩

theorem bool2_false (w : World) : Calls Tryz.prog 99 #[.bool false] w fun e w' => e = .returned (.int .u64 0) ∧ w' = w := by
  go_enter Tryz.func99, Tryz.ntmps99
  go_wp2
  go_ret
  exact ⟨rfl, rfl⟩

theorem quo_05 (w : World) : (binOp BinOp.quo 22 (.float .f64 4617315517961601024) (.float .f64 4621819117588971520)).run Tryz.prog w = .ok (.float .f64 4602678819172646912) w := by kernel_rfl
theorem quo_15 (w : World) : (binOp BinOp.quo 22 (.float .f64 4624633867356078080) (.float .f64 4621819117588971520)).run Tryz.prog w = .ok (.float .f64 4609434218613702656) w := by kernel_rfl
theorem ifrombits_run (n : Int) (w : World) : (callFunc 100 #[.int .u64 n]).run Tryz.prog w = .ok (.value (.float .f64 n.toNat)) w := by
  rw [@run_callFunc_extern Tryz.prog 100 _ Extern.MathFloatBits.float64frombits Tryz.func100 (by kernel_rfl) (by kernel_rfl) (by kernel_rfl) (by kernel_rfl)]
  rfl
attribute [local go_sem] quo_05 quo_15 ifrombits_run

set_option maxHeartbeats 1000000 in
theorem exact_1 (B : Nat) (w : World) (h : Laid B w) :
    Calls Tryz.prog 101 #[.int .u64 1, .int .i64 (0), .bool false] w fun e w' => e = .returned (.tuple #[.float .f64 4607182418800017408, .bool true]) ∧ w' = w := by
  obtain ⟨h1, h2, h3, h4, h5, a, c, h6, h7, h8⟩ := h
  clear h1 h2 h3 h7
  have hf : floatOfInt FloatKind.f64 1 = 4607182418800017408 := by decide +kernel
  go_enter Tryz.func101, Tryz.ntmps101
  go_wp2
  go_ret2
  exact ⟨by first | rfl | (exact congrArg (fun x => Ending.returned (.tuple #[.float .f64 x, .bool true])) (by decide +kernel)), rfl⟩

set_option maxHeartbeats 1000000 in
theorem exact_2 (B : Nat) (w : World) (h : Laid B w) :
    Calls Tryz.prog 101 #[.int .u64 2, .int .i64 (0), .bool false] w fun e w' => e = .returned (.tuple #[.float .f64 4611686018427387904, .bool true]) ∧ w' = w := by
  obtain ⟨h1, h2, h3, h4, h5, a, c, h6, h7, h8⟩ := h
  clear h1 h2 h3 h7
  have hf : floatOfInt FloatKind.f64 2 = 4611686018427387904 := by decide +kernel
  go_enter Tryz.func101, Tryz.ntmps101
  go_wp2
  go_ret2
  exact ⟨by first | rfl | (exact congrArg (fun x => Ending.returned (.tuple #[.float .f64 x, .bool true])) (by decide +kernel)), rfl⟩

set_option maxHeartbeats 1000000 in
theorem exact_05 (B : Nat) (w : World) (h : Laid B w) :
    Calls Tryz.prog 101 #[.int .u64 5, .int .i64 (-1), .bool false] w fun e w' => e = .returned (.tuple #[.float .f64 4602678819172646912, .bool true]) ∧ w' = w := by
  obtain ⟨h1, h2, h3, h4, h5, a, c, h6, h7, h8⟩ := h
  clear h1 h2 h3 h7
  have hf : floatOfInt FloatKind.f64 5 = 4617315517961601024 := by decide +kernel
  go_enter Tryz.func101, Tryz.ntmps101
  go_wp2
  go_ret2
  exact ⟨by first | rfl | (exact congrArg (fun x => Ending.returned (.tuple #[.float .f64 x, .bool true])) (by decide +kernel)), rfl⟩

set_option maxHeartbeats 1000000 in
theorem exact_15 (B : Nat) (w : World) (h : Laid B w) :
    Calls Tryz.prog 101 #[.int .u64 15, .int .i64 (-1), .bool false] w fun e w' => e = .returned (.tuple #[.float .f64 4609434218613702656, .bool true]) ∧ w' = w := by
  obtain ⟨h1, h2, h3, h4, h5, a, c, h6, h7, h8⟩ := h
  clear h1 h2 h3 h7
  have hf : floatOfInt FloatKind.f64 15 = 4624633867356078080 := by decide +kernel
  go_enter Tryz.func101, Tryz.ntmps101
  go_wp2
  go_ret2
  exact ⟨by first | rfl | (exact congrArg (fun x => Ending.returned (.tuple #[.float .f64 x, .bool true])) (by decide +kernel)), rfl⟩

set_option maxRecDepth 100000 in
set_option maxHeartbeats 4000000 in
theorem atof64_1 (B : Nat) (w : World) (h : Laid B w) :
    Calls Tryz.prog 86 #[.string ⟨#[49]⟩] w fun e w' => e = .returned (.tuple #[.float .f64 4607182418800017408, .int .i64 1, .nilIface]) ∧ w' = w := by
  have hl := h
  obtain ⟨h1, h2, h3, h4, h5, _⟩ := hl
  clear h1 h2 h3 h5
  go_enter Tryz.func86, Tryz.ntmps86
  go_wp2_with (first | (go_at_call 90; refine (special_digit _ (by decide) 49 rfl (by decide) _).mono ?_; rintro e w ⟨rfl, rfl⟩) | (go_at_call 91; refine (readFloat_1 _).mono ?_; rintro e w ⟨rfl, rfl⟩) | (go_at_call 99; refine (bool2_false _).mono ?_; rintro e w ⟨rfl, rfl⟩) | (go_at_call 101; refine (exact_1 B _ h).mono ?_; rintro e w ⟨rfl, rfl⟩))
  go_ret3
  exact ⟨rfl, rfl⟩

theorem prefix_1 (B : Nat) (w : World) (h : Laid B w) :
    Calls Tryz.prog 79 #[.string ⟨#[49]⟩, .int .i64 64] w fun e w' => e = .returned (.tuple #[.float .f64 4607182418800017408, .int .i64 1, .nilIface]) ∧ w' = w := by
  go_enter Tryz.func79, Tryz.ntmps79
  go_wp2_with (go_at_call 86; refine (atof64_1 B _ h).mono ?_; rintro e w ⟨rfl, rfl⟩)
  go_ret3
  exact ⟨rfl, rfl⟩
theorem iparse_1 (B : Nat) (w : World) (h : Laid B w) :
    Calls Tryz.prog 75 #[.string ⟨#[49]⟩, .int .i64 64] w fun e w' => e = .returned (.tuple #[.float .f64 4607182418800017408, .nilIface]) ∧ w' = w := by
  go_enter Tryz.func75, Tryz.ntmps75
  go_wp2_with (go_at_call 79; refine (prefix_1 B _ h).mono ?_; rintro e w ⟨rfl, rfl⟩)
  go_ret2
  exact ⟨rfl, rfl⟩
theorem sparse_1 (B : Nat) (w : World) (h : Laid B w) :
    Calls Tryz.prog 71 #[.string ⟨#[49]⟩, .int .i64 64] w fun e w' => e = .returned (.tuple #[.float .f64 4607182418800017408, .nilIface]) ∧ w' = w := by
  go_enter Tryz.func71, Tryz.ntmps71
  go_wp2_with (go_at_call 75; refine (iparse_1 B _ h).mono ?_; rintro e w ⟨rfl, rfl⟩)
  go_ret2
  exact ⟨rfl, rfl⟩

set_option maxRecDepth 100000 in
set_option maxHeartbeats 4000000 in
theorem atof64_0 (B : Nat) (w : World) (h : Laid B w) :
    Calls Tryz.prog 86 #[.string ⟨#[48]⟩] w fun e w' => e = .returned (.tuple #[.float .f64 0, .int .i64 1, .nilIface]) ∧ w' = w := by
  have hl := h
  obtain ⟨h1, h2, h3, h4, h5, _⟩ := hl
  clear h1 h2 h3 h5
  go_enter Tryz.func86, Tryz.ntmps86
  go_wp2_with (first | (go_at_call 90; refine (special_digit _ (by decide) 48 rfl (by decide) _).mono ?_; rintro e w ⟨rfl, rfl⟩) | (go_at_call 91; refine (readFloat_0 _).mono ?_; rintro e w ⟨rfl, rfl⟩) | (go_at_call 99; refine (bool2_false _).mono ?_; rintro e w ⟨rfl, rfl⟩))
  go_ret3
  exact ⟨rfl, rfl⟩

theorem prefix_0 (B : Nat) (w : World) (h : Laid B w) :
    Calls Tryz.prog 79 #[.string ⟨#[48]⟩, .int .i64 64] w fun e w' => e = .returned (.tuple #[.float .f64 0, .int .i64 1, .nilIface]) ∧ w' = w := by
  go_enter Tryz.func79, Tryz.ntmps79
  go_wp2_with (go_at_call 86; refine (atof64_0 B _ h).mono ?_; rintro e w ⟨rfl, rfl⟩)
  go_ret3
  exact ⟨rfl, rfl⟩
theorem iparse_0 (B : Nat) (w : World) (h : Laid B w) :
    Calls Tryz.prog 75 #[.string ⟨#[48]⟩, .int .i64 64] w fun e w' => e = .returned (.tuple #[.float .f64 0, .nilIface]) ∧ w' = w := by
  go_enter Tryz.func75, Tryz.ntmps75
  go_wp2_with (go_at_call 79; refine (prefix_0 B _ h).mono ?_; rintro e w ⟨rfl, rfl⟩)
  go_ret2
  exact ⟨rfl, rfl⟩
theorem sparse_0 (B : Nat) (w : World) (h : Laid B w) :
    Calls Tryz.prog 71 #[.string ⟨#[48]⟩, .int .i64 64] w fun e w' => e = .returned (.tuple #[.float .f64 0, .nilIface]) ∧ w' = w := by
  go_enter Tryz.func71, Tryz.ntmps71
  go_wp2_with (go_at_call 75; refine (iparse_0 B _ h).mono ?_; rintro e w ⟨rfl, rfl⟩)
  go_ret2
  exact ⟨rfl, rfl⟩

set_option maxRecDepth 100000 in
set_option maxHeartbeats 4000000 in
theorem atof64_2 (B : Nat) (w : World) (h : Laid B w) :
    Calls Tryz.prog 86 #[.string ⟨#[50]⟩] w fun e w' => e = .returned (.tuple #[.float .f64 4611686018427387904, .int .i64 1, .nilIface]) ∧ w' = w := by
  have hl := h
  obtain ⟨h1, h2, h3, h4, h5, _⟩ := hl
  clear h1 h2 h3 h5
  go_enter Tryz.func86, Tryz.ntmps86
  go_wp2_with (first | (go_at_call 90; refine (special_digit _ (by decide) 50 rfl (by decide) _).mono ?_; rintro e w ⟨rfl, rfl⟩) | (go_at_call 91; refine (readFloat_2 _).mono ?_; rintro e w ⟨rfl, rfl⟩) | (go_at_call 99; refine (bool2_false _).mono ?_; rintro e w ⟨rfl, rfl⟩) | (go_at_call 101; refine (exact_2 B _ h).mono ?_; rintro e w ⟨rfl, rfl⟩))
  go_ret3
  exact ⟨rfl, rfl⟩

theorem prefix_2 (B : Nat) (w : World) (h : Laid B w) :
    Calls Tryz.prog 79 #[.string ⟨#[50]⟩, .int .i64 64] w fun e w' => e = .returned (.tuple #[.float .f64 4611686018427387904, .int .i64 1, .nilIface]) ∧ w' = w := by
  go_enter Tryz.func79, Tryz.ntmps79
  go_wp2_with (go_at_call 86; refine (atof64_2 B _ h).mono ?_; rintro e w ⟨rfl, rfl⟩)
  go_ret3
  exact ⟨rfl, rfl⟩
theorem iparse_2 (B : Nat) (w : World) (h : Laid B w) :
    Calls Tryz.prog 75 #[.string ⟨#[50]⟩, .int .i64 64] w fun e w' => e = .returned (.tuple #[.float .f64 4611686018427387904, .nilIface]) ∧ w' = w := by
  go_enter Tryz.func75, Tryz.ntmps75
  go_wp2_with (go_at_call 79; refine (prefix_2 B _ h).mono ?_; rintro e w ⟨rfl, rfl⟩)
  go_ret2
  exact ⟨rfl, rfl⟩
theorem sparse_2 (B : Nat) (w : World) (h : Laid B w) :
    Calls Tryz.prog 71 #[.string ⟨#[50]⟩, .int .i64 64] w fun e w' => e = .returned (.tuple #[.float .f64 4611686018427387904, .nilIface]) ∧ w' = w := by
  go_enter Tryz.func71, Tryz.ntmps71
  go_wp2_with (go_at_call 75; refine (iparse_2 B _ h).mono ?_; rintro e w ⟨rfl, rfl⟩)
  go_ret2
  exact ⟨rfl, rfl⟩

set_option maxRecDepth 100000 in
set_option maxHeartbeats 4000000 in
theorem atof64_05 (B : Nat) (w : World) (h : Laid B w) :
    Calls Tryz.prog 86 #[.string ⟨#[48, 46, 53]⟩] w fun e w' => e = .returned (.tuple #[.float .f64 4602678819172646912, .int .i64 3, .nilIface]) ∧ w' = w := by
  have hl := h
  obtain ⟨h1, h2, h3, h4, h5, _⟩ := hl
  clear h1 h2 h3 h5
  go_enter Tryz.func86, Tryz.ntmps86
  go_wp2_with (first | (go_at_call 90; refine (special_digit _ (by decide) 48 rfl (by decide) _).mono ?_; rintro e w ⟨rfl, rfl⟩) | (go_at_call 91; refine (readFloat_05 _).mono ?_; rintro e w ⟨rfl, rfl⟩) | (go_at_call 99; refine (bool2_false _).mono ?_; rintro e w ⟨rfl, rfl⟩) | (go_at_call 101; refine (exact_05 B _ h).mono ?_; rintro e w ⟨rfl, rfl⟩))
  go_ret3
  exact ⟨rfl, rfl⟩

theorem prefix_05 (B : Nat) (w : World) (h : Laid B w) :
    Calls Tryz.prog 79 #[.string ⟨#[48, 46, 53]⟩, .int .i64 64] w fun e w' => e = .returned (.tuple #[.float .f64 4602678819172646912, .int .i64 3, .nilIface]) ∧ w' = w := by
  go_enter Tryz.func79, Tryz.ntmps79
  go_wp2_with (go_at_call 86; refine (atof64_05 B _ h).mono ?_; rintro e w ⟨rfl, rfl⟩)
  go_ret3
  exact ⟨rfl, rfl⟩
theorem iparse_05 (B : Nat) (w : World) (h : Laid B w) :
    Calls Tryz.prog 75 #[.string ⟨#[48, 46, 53]⟩, .int .i64 64] w fun e w' => e = .returned (.tuple #[.float .f64 4602678819172646912, .nilIface]) ∧ w' = w := by
  go_enter Tryz.func75, Tryz.ntmps75
  go_wp2_with (go_at_call 79; refine (prefix_05 B _ h).mono ?_; rintro e w ⟨rfl, rfl⟩)
  go_ret2
  exact ⟨rfl, rfl⟩
theorem sparse_05 (B : Nat) (w : World) (h : Laid B w) :
    Calls Tryz.prog 71 #[.string ⟨#[48, 46, 53]⟩, .int .i64 64] w fun e w' => e = .returned (.tuple #[.float .f64 4602678819172646912, .nilIface]) ∧ w' = w := by
  go_enter Tryz.func71, Tryz.ntmps71
  go_wp2_with (go_at_call 75; refine (iparse_05 B _ h).mono ?_; rintro e w ⟨rfl, rfl⟩)
  go_ret2
  exact ⟨rfl, rfl⟩

set_option maxRecDepth 100000 in
set_option maxHeartbeats 4000000 in
theorem atof64_15 (B : Nat) (w : World) (h : Laid B w) :
    Calls Tryz.prog 86 #[.string ⟨#[49, 46, 53]⟩] w fun e w' => e = .returned (.tuple #[.float .f64 4609434218613702656, .int .i64 3, .nilIface]) ∧ w' = w := by
  have hl := h
  obtain ⟨h1, h2, h3, h4, h5, _⟩ := hl
  clear h1 h2 h3 h5
  go_enter Tryz.func86, Tryz.ntmps86
  go_wp2_with (first | (go_at_call 90; refine (special_digit _ (by decide) 49 rfl (by decide) _).mono ?_; rintro e w ⟨rfl, rfl⟩) | (go_at_call 91; refine (readFloat_15 _).mono ?_; rintro e w ⟨rfl, rfl⟩) | (go_at_call 99; refine (bool2_false _).mono ?_; rintro e w ⟨rfl, rfl⟩) | (go_at_call 101; refine (exact_15 B _ h).mono ?_; rintro e w ⟨rfl, rfl⟩))
  go_ret3
  exact ⟨rfl, rfl⟩

theorem prefix_15 (B : Nat) (w : World) (h : Laid B w) :
    Calls Tryz.prog 79 #[.string ⟨#[49, 46, 53]⟩, .int .i64 64] w fun e w' => e = .returned (.tuple #[.float .f64 4609434218613702656, .int .i64 3, .nilIface]) ∧ w' = w := by
  go_enter Tryz.func79, Tryz.ntmps79
  go_wp2_with (go_at_call 86; refine (atof64_15 B _ h).mono ?_; rintro e w ⟨rfl, rfl⟩)
  go_ret3
  exact ⟨rfl, rfl⟩
theorem iparse_15 (B : Nat) (w : World) (h : Laid B w) :
    Calls Tryz.prog 75 #[.string ⟨#[49, 46, 53]⟩, .int .i64 64] w fun e w' => e = .returned (.tuple #[.float .f64 4609434218613702656, .nilIface]) ∧ w' = w := by
  go_enter Tryz.func75, Tryz.ntmps75
  go_wp2_with (go_at_call 79; refine (prefix_15 B _ h).mono ?_; rintro e w ⟨rfl, rfl⟩)
  go_ret2
  exact ⟨rfl, rfl⟩
theorem sparse_15 (B : Nat) (w : World) (h : Laid B w) :
    Calls Tryz.prog 71 #[.string ⟨#[49, 46, 53]⟩, .int .i64 64] w fun e w' => e = .returned (.tuple #[.float .f64 4609434218613702656, .nilIface]) ∧ w' = w := by
  go_enter Tryz.func71, Tryz.ntmps71
  go_wp2_with (go_at_call 75; refine (iparse_15 B _ h).mono ?_; rintro e w ⟨rfl, rfl⟩)
  go_ret2
  exact ⟨rfl, rfl⟩

end Go.Proofs.YtgblgolkajdfbaaGreatDoor.flow
