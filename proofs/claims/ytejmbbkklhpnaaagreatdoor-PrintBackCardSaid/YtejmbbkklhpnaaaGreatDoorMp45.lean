/- burnishlaw19.awake: the walk. Condition: the library's tables hold what the row lists. -/
import Derived.Test.YtejmbbkklhpnaaaGreatDoorMp44
namespace Go.Proofs.YtejmbbkklhpnaaaGreatDoor.prnw
open Go.RowKit
open Go.Shelf
open Go.Sort
open Go.Proofs.YtejmbbkklhpnaaaGreatDoor.nodew
open Go.Proofs.YtejmbbkklhpnaaaGreatDoor.chkw
open Go.Proofs.YtejmbbkklhpnaaaGreatDoor.flatm
attribute [local go_sem] nodew.run_store_float

set_option maxRecDepth 100000 in
set_option maxHeartbeats 4000000 in
theorem awake19 (w : World) (hE : Env hiP loP w) (hG : Gl w.heap.size) : Calls Tryz.prog 12 #[] w (Bel w (.bool true)) := by
  have hGW : ∀ n, w.heap.size ≤ n → Gl n := fun n hn => ⟨Nat.lt_of_lt_of_le hG.1 hn, Nat.lt_of_lt_of_le hG.2.1 hn, Nat.lt_of_lt_of_le hG.2.2 hn⟩
  obtain ⟨S0, hS0⟩ : ∃ S, S = bA (lineT hiP loP exL 0) := ⟨_, rfl⟩
  obtain ⟨S2, hS2⟩ : ∃ S, S = bA (lineT hiP loP exM 2) := ⟨_, rfl⟩
  have e0 : (S0 : ByteArray) = ⟨#[110, 48, 32, 61, 32, 108, 97, 109, 98, 101, 114, 116, 32, 48, 46, 53, 32, 49, 32, 48]⟩ := by rw [hS0, exL_t.1]; rfl
  have e2 : (S2 : ByteArray) = ⟨#[110, 50, 32, 61, 32, 109, 105, 120, 32, 48, 46, 50, 53, 32, 110, 48, 32, 110, 49]⟩ := by rw [hS2, exM_t.1]; rfl
  have C0 := Lib.hid (fun (v : World) (hb : Below w.heap.size w v) => show Calls Tryz.prog 25 #[exL.val, .int .i64 0] v (Bel v (.tuple #[.string ⟨#[110, 48, 32, 61, 32, 108, 97, 109, 98, 101, 114, 116, 32, 48, 46, 53, 32, 49, 32, 48]⟩, .int .i64 0])) from by
    have := line_any hiP loP exL exL_ok (by decide) 0 (by decide) (by decide) v (hE.later hb) (hGW _ hb.size)
    rw [exL_t.2, ← hS0, e0] at this
    exact this)
  have C2 := Lib.hid (fun (v : World) (hb : Below w.heap.size w v) => show Calls Tryz.prog 25 #[exM.val, .int .i64 2] v (Bel v (.tuple #[.string ⟨#[110, 50, 32, 61, 32, 109, 105, 120, 32, 48, 46, 50, 53, 32, 110, 48, 32, 110, 49]⟩, .int .i64 0])) from by
    have := line_any hiP loP exM exM_ok (by decide) 2 (by decide) (by decide) v (hE.later hb) (hGW _ hb.size)
    rw [exM_t.2, ← hS2, e2] at this
    exact this)
  have C1 := Lib.hid (fun (v : World) (hb : Below w.heap.size w v) => show Calls Tryz.prog 25 #[exM.val, .int .i64 1] v (Bel v (.tuple #[.string ⟨#[]⟩, .int .i64 190])) from by
    have := line_any hiP loP exM exM_ok (by decide) 1 (by decide) (by decide) v (hE.later hb) (hGW _ hb.size)
    rw [exM_w.2, exM_w.1] at this
    exact this)
  clear hE hG hGW hS0 hS2 e0 e2
  go_enter Tryz.func12, Tryz.ntmps12
  go_upto_region 2 with (refine wpList_store_row rfl 67 (.tmp 1) (.tmp 8) rfl w.heap.size exM.cells.toArray rfl rfl _ _ (heap_alloc_new w _) (nd_info exM) (by rw [nd_size]; rfl) (nd_one exM) ?_)
  obtain ⟨W, hW⟩ : ∃ W, W = (w.alloc (.cells #[.int .u8 0, .float .f64 0, .float .f64 0, .float .f64 0, .float .f64 0, .float .f64 0, .float .f64 0, .float .f64 0, .float .f64 0, .float .f64 0, .float .f64 0, .float .f64 0, .float .f64 0, .float .f64 0, .float .f64 0, .float .f64 0, .float .f64 0, .int .i64 0, .int .i64 0] 67)).setRow w.heap.size exM.cells.toArray := ⟨_, rfl⟩
  have hBW : Below w.heap.size w W := by rw [hW]; exact below_setRow ((Below.refl _ _).alloc (Nat.le_refl _) _) (Nat.le_refl _) _
  have hNB : NBlk W w.heap.size exM := by rw [hW]; exact setRow_heap _ _ _ _ _ _ (heap_alloc_new w _)
  rw [← hW]
  have B0 := Lib.hid hBW
  have N0 := Lib.hid hNB
  clear hW hBW hNB
  go_upto_region 3 with (refine (C0.out _ B0.out).mono ?_; rintro e v1 ⟨rfl, hb1⟩; have N1 := Lib.hid (N0.out.below hb1 (blk_lt N0.out)); have B1 := Lib.hid (B0.out.trans (hb1.mono B0.out.size)); clear hb1)
  go_upto_region 4 with (first | (refine wpList_load_nd_g _ ?_ (.tmp 1) rfl w.heap.size rfl exM N1.out ?_; rotate_right) | (refine (C2.out _ B1.out).mono ?_; rintro e v2 ⟨rfl, hb2⟩; have N2 := Lib.hid (N1.out.below hb2 (blk_lt N1.out)); have B2 := Lib.hid (B1.out.trans (hb2.mono B1.out.size)); clear hb2))
  go_wp2_with (first | (refine wpList_load_nd_g _ ?_ (.tmp 1) rfl w.heap.size rfl exM N2.out ?_; rotate_right) | (refine (C1.out _ B2.out).mono ?_; rintro e v3 ⟨rfl, hb3⟩; have B3 := Lib.hid (B2.out.trans (hb3.mono B2.out.size)); clear hb3))
  go_ret
  exact ⟨rfl, B3.out⟩
end Go.Proofs.YtejmbbkklhpnaaaGreatDoor.prnw
