/- The walk of dir.wide.down at 0. Conditions: as each theorem states. -/
import Derived.Test.YtbjengfoaobdbaaGreatDoorDrC
import Derived.BigRegion
import Derived.StillTailTactics
namespace Go.Proofs.YtbjengfoaobdbaaGreatDoor.dirw
open Go.RowKit
open Go.Proofs.YtbjengfoaobdbaaGreatDoor.nodew
open Go.Proofs.YtbjengfoaobdbaaGreatDoor.flatm
open Go.Proofs.YtbjengfoaobdbaaGreatDoor.dmx
open Go.Proofs.YtbjengfoaobdbaaGreatDoor.dcw
open Go.Proofs.YtbjengfoaobdbaaGreatDoor.fpm
open Go.Proofs.YtbjengfoaobdbaaGreatDoor.rdf
open Go.Proofs.YtbjengfoaobdbaaGreatDoor.prnw
open Go.Proofs.YtbjengfoaobdbaaGreatDoor.lawd
open Go.Proofs.YtbjengfoaobdbaaGreatDoor.qt
open Go.Proofs.YtbjengfoaobdbaaGreatDoor.chkw
open Go.BigFrame
attribute [local go_sem] eq_wide

set_option maxRecDepth 100000 in
set_option maxHeartbeats 2000000 in
theorem down_far (n : Nat) (hn : 128 ≤ n) (hn2 : n ≤ 4000) (w : World) : Calls Tryz.prog 56 #[wd 0 0, .int .i64 (n : Int)] w fun e w' => e = .returned (.tuple #[wd 0 0, .bool false]) ∧ Below w.heap.size w w' := by
  have HU := Lib.hid (fun W => show Calls Tryz.prog 82 #[.agg #[.int .u64 0, .int .u64 0]] W fun e w' => e = .returned (.bool false) ∧ Below W.heap.size W w' from is_zero W)
  unfold wd
  have h1 : (128 : Int) ≤ (n : Int) := by omega
  clear hn hn2
  go_enter Tryz.func56, Tryz.ntmps56
  go_upto_region 2 with fail
  obtain ⟨g, hg⟩ : ∃ g, g = w.heap.size := ⟨_, rfl⟩
  obtain ⟨W, hW⟩ : ∃ W, W = ((w.alloc (.cells #[.int .u64 0, .int .u64 0] 84)).alloc (.cells #[.int .u64 0, .int .u64 0] 84)) := ⟨_, rfl⟩
  have s1 : (w.alloc (.cells #[.int .u64 0, .int .u64 0] 84)).heap.size = w.heap.size + 1 := by simp
  have b1 := (Below.refl (w.alloc (.cells #[.int .u64 0, .int .u64 0] 84)).heap.size (w.alloc (.cells #[.int .u64 0, .int .u64 0] 84))).alloc (Nat.le_refl _) (.cells #[.int .u64 0, .int .u64 0] 84)
  have k0 : W.heap[g]? = some (.cells #[.int .u64 0, .int .u64 0] 84 (0, 0)) := by rw [hW, hg]; exact (b1.block _ (by omega)).trans (heap_alloc_new w _)
  have k1 : W.heap[g + 1]? = some (.cells #[.int .u64 0, .int .u64 0] 84 (0, 0)) := by rw [hW, hg, ← s1]; exact heap_alloc_new _ _
  have hBW : Below w.heap.size w W := by rw [hW]; exact ((Below.refl _ _).alloc (Nat.le_refl _) _).alloc (by simp) _
  rw [← hW, ← hg]
  clear hW s1 b1
  have x0 : W.cell? ⟨g, 0, none⟩ = some (.int .u64 0) := (cell_of_row W g 0 _ _ _ k0).trans rfl
  have x1 : W.cell? ⟨g, 1, none⟩ = some (.int .u64 0) := (cell_of_row W g 1 _ _ _ k0).trans rfl
  have g1 : g + 1 < W.heap.size := (Array.getElem?_eq_some_iff.1 k1).1
  have K1 := Lib.hid k1
  have BW := Lib.hid hBW
  have HG := Lib.hid hg
  clear k0 k1 hBW hg
  go_wp2_with (go_at_call 82; (refine (HU.out W).mono ?_); rintro e v ⟨rfl, hb⟩; have Y3 := Lib.hid (BW.out.trans (hb.mono BW.out.size)); obtain ⟨z1, z2, z3, z4, z5, z6⟩ := two_set v (g + 1) g 84 (.int .u64 0) (.int .u64 0) _ _ (by omega) ((hb.block (g + 1) g1).trans K1.out); have Z6 := Lib.hid z6; clear hb z5 z6)
  have c0 := (cell_of_row _ (g + 1) 0 _ _ _ Z6.out).trans rfl
  have c1 := (cell_of_row _ (g + 1) 1 _ _ _ Z6.out).trans rfl
  have hb := (Y3.out.setCell (p := ⟨g + 1, 0, none⟩) (by have := HG.out; show w.heap.size ≤ g + 1; omega) (.int .u64 0)).setCell (p := ⟨g + 1, 1, none⟩) (by have := HG.out; show w.heap.size ≤ g + 1; omega) (.int .u64 0)
  have HB := Lib.hid hb
  clear hb
  simp [bodyPost, results, Tryz.results56, go_sem, c0, c1]
  exact HB.out
set_option maxRecDepth 100000 in
set_option maxHeartbeats 2000000 in
theorem down_mid (n : Nat) (hn : 64 ≤ n) (hn2 : n < 128) (w : World) : Calls Tryz.prog 56 #[wd 0 0, .int .i64 (n : Int)] w fun e w' => e = .returned (.tuple #[wd 0 0, .bool false]) ∧ Below w.heap.size w w' := by
  have HU := Lib.hid (fun W => show Calls Tryz.prog 83 #[.agg #[.int .u64 0, .int .u64 0], .int .i64 (n : Int)] W fun e w' => e = .returned (.agg #[.int .u64 0, .int .u64 0]) ∧ Below W.heap.size W w' from up_z n hn2 W)
  unfold wd
  have h1 : (64 : Int) ≤ (n : Int) := by omega
  have h2 : (n : Int) < 128 := by omega
  clear hn hn2
  go_enter Tryz.func56, Tryz.ntmps56
  go_upto_region 7 with fail
  obtain ⟨g, hg⟩ : ∃ g, g = w.heap.size := ⟨_, rfl⟩
  obtain ⟨W, hW, k0, k1, k2, hBW⟩ := three_new w #[.int .u64 0, .int .u64 0] #[.int .u64 0, .int .u64 0] #[.int .u64 0, .int .u64 0] 84
  rw [← hg] at k0 k1 k2
  rw [← hW, ← hg]
  clear hW
  have x0 : W.cell? ⟨g, 0, none⟩ = some (.int .u64 0) := (cell_of_row W g 0 _ _ _ k0).trans rfl
  have x1 : W.cell? ⟨g, 1, none⟩ = some (.int .u64 0) := (cell_of_row W g 1 _ _ _ k0).trans rfl
  have x2 : W.cell? ⟨g + 1 + 1, 0, none⟩ = some (.int .u64 0) := (cell_of_row W (g + 1 + 1) 0 _ _ _ k2).trans rfl
  have x3 : W.cell? ⟨g + 1 + 1, 1, none⟩ = some (.int .u64 0) := (cell_of_row W (g + 1 + 1) 1 _ _ _ k2).trans rfl
  have g0 : g < W.heap.size := (Array.getElem?_eq_some_iff.1 k0).1
  have g1 : g + 1 < W.heap.size := (Array.getElem?_eq_some_iff.1 k1).1
  have g2 : g + 1 + 1 < W.heap.size := (Array.getElem?_eq_some_iff.1 k2).1
  have K1 := Lib.hid k1
  have BW := Lib.hid hBW
  have K0 := Lib.hid k0
  have K2 := Lib.hid k2
  have HC := Lib.hid (fun (v : World) (hv : Below W.heap.size W v) => (HU.out v).mono fun e w' h => show (e = .returned (.agg #[.int .u64 0, .int .u64 0]) ∧ (w'.cell? ⟨g, 0, none⟩ = some (.int .u64 0) ∧ w'.cell? ⟨g, 1, none⟩ = some (.int .u64 0) ∧ w'.heap[g + 1]? = some (.cells #[.int .u64 0, .int .u64 0] 84 (0, 0)) ∧ w'.cell? ⟨g + 1 + 1, 0, none⟩ = some (.int .u64 0) ∧ w'.cell? ⟨g + 1 + 1, 1, none⟩ = some (.int .u64 0)) ∧ Below w.heap.size w w') from by
    have hk := hv.trans (h.2.mono hv.size)
    have e0 := (hk.block g g0).trans K0.out
    have e1 := (hk.block (g + 1) g1).trans K1.out
    have e2 := (hk.block (g + 1 + 1) g2).trans K2.out
    exact ⟨h.1, ⟨(cell_of_row w' g 0 _ _ _ e0).trans rfl, (cell_of_row w' g 1 _ _ _ e0).trans rfl, e1, (cell_of_row w' (g + 1 + 1) 0 _ _ _ e2).trans rfl, (cell_of_row w' (g + 1 + 1) 1 _ _ _ e2).trans rfl⟩, BW.out.trans (hk.mono BW.out.size)⟩)
  have HG := Lib.hid hg
  clear k0 k1 k2 hBW HU hg
  go_region_law (go_simp; go_at_call 83; (refine (HC.out W.drew (Below.refl _ _).drew).mono ?_); rintro e v ⟨rfl, ⟨y0, y1, y2, y4, y5⟩, y3⟩; have Y3 := Lib.hid y3; clear y3; obtain ⟨z1, z2, z3, z4, z5, z6⟩ := two_set v (g + 1) g 84 (.int .u64 0) (.int .u64 0) _ _ (by omega) y2; have z7 := (z5 0).trans y0; have z8 := (z5 1).trans y1; have Z6 := Lib.hid z6; clear z5 z6 y2)
  all_goals
    have c0 := (cell_of_row _ (g + 1) 0 _ _ _ Z6.out).trans rfl
    have c1 := (cell_of_row _ (g + 1) 1 _ _ _ Z6.out).trans rfl
    have hb := (Y3.out.setCell (p := ⟨g + 1, 0, none⟩) (by have := HG.out; show w.heap.size ≤ g + 1; omega) (.int .u64 0)).setCell (p := ⟨g + 1, 1, none⟩) (by have := HG.out; show w.heap.size ≤ g + 1; omega) (.int .u64 0)
    have HB := Lib.hid hb
    clear hb
    go_wp2_with fail
    simp [bodyPost, results, Tryz.results56, go_sem, c0, c1]
    exact HB.out
set_option maxRecDepth 100000 in
set_option maxHeartbeats 2000000 in
theorem down_low (n : Nat) (hn : n < 64) (w : World) : Calls Tryz.prog 56 #[wd 0 0, .int .i64 (n : Int)] w fun e w' => e = .returned (.tuple #[wd 0 0, .bool false]) ∧ Below w.heap.size w w' := by
  have HU := Lib.hid (fun W => show Calls Tryz.prog 83 #[.agg #[.int .u64 0, .int .u64 0], .int .i64 (n : Int)] W fun e w' => e = .returned (.agg #[.int .u64 0, .int .u64 0]) ∧ Below W.heap.size W w' from up_z n (by omega) W)
  unfold wd
  have h1 : (0 : Int) ≤ (n : Int) := by omega
  have h2 : (n : Int) < 64 := by omega
  have bz : bits BinOp.or IntKind.u64 0 0 = 0 := by decide +kernel
  clear hn
  go_enter Tryz.func56, Tryz.ntmps56
  go_upto_region 6 with fail
  go_region
  go_upto_region 7 with fail
  obtain ⟨g, hg⟩ : ∃ g, g = w.heap.size := ⟨_, rfl⟩
  obtain ⟨W0, hW, i0, i1, i2, iBW⟩ := three_new w #[.int .u64 0, .int .u64 0] #[.int .u64 0, .int .u64 0] #[.int .u64 0, .int .u64 0] 84
  rw [← hg] at i0 i1 i2
  rw [← hW, ← hg]
  clear hW
  obtain ⟨W, hWd⟩ : ∃ W, W = W0.drew := ⟨_, rfl⟩
  rw [← hWd]
  have k0 : W.heap[g]? = some (.cells #[.int .u64 0, .int .u64 0] 84 (0, 0)) := by rw [hWd]; exact i0
  have k1 : W.heap[g + 1]? = some (.cells #[.int .u64 0, .int .u64 0] 84 (0, 0)) := by rw [hWd]; exact i1
  have k2 : W.heap[g + 1 + 1]? = some (.cells #[.int .u64 0, .int .u64 0] 84 (0, 0)) := by rw [hWd]; exact i2
  have hBW : Below w.heap.size w W := by rw [hWd]; exact iBW.drew
  clear hWd i0 i1 i2 iBW
  have x0 : W.cell? ⟨g, 0, none⟩ = some (.int .u64 0) := (cell_of_row W g 0 _ _ _ k0).trans rfl
  have x1 : W.cell? ⟨g, 1, none⟩ = some (.int .u64 0) := (cell_of_row W g 1 _ _ _ k0).trans rfl
  have x2 : W.cell? ⟨g + 1 + 1, 0, none⟩ = some (.int .u64 0) := (cell_of_row W (g + 1 + 1) 0 _ _ _ k2).trans rfl
  have x3 : W.cell? ⟨g + 1 + 1, 1, none⟩ = some (.int .u64 0) := (cell_of_row W (g + 1 + 1) 1 _ _ _ k2).trans rfl
  have g0 : g < W.heap.size := (Array.getElem?_eq_some_iff.1 k0).1
  have g1 : g + 1 < W.heap.size := (Array.getElem?_eq_some_iff.1 k1).1
  have g2 : g + 1 + 1 < W.heap.size := (Array.getElem?_eq_some_iff.1 k2).1
  have K1 := Lib.hid k1
  have BW := Lib.hid hBW
  have K0 := Lib.hid k0
  have K2 := Lib.hid k2
  have HC := Lib.hid (fun (v : World) (hv : Below W.heap.size W v) => (HU.out v).mono fun e w' h => show (e = .returned (.agg #[.int .u64 0, .int .u64 0]) ∧ (w'.cell? ⟨g, 0, none⟩ = some (.int .u64 0) ∧ w'.cell? ⟨g, 1, none⟩ = some (.int .u64 0) ∧ w'.heap[g + 1]? = some (.cells #[.int .u64 0, .int .u64 0] 84 (0, 0)) ∧ w'.cell? ⟨g + 1 + 1, 0, none⟩ = some (.int .u64 0) ∧ w'.cell? ⟨g + 1 + 1, 1, none⟩ = some (.int .u64 0)) ∧ Below w.heap.size w w') from by
    have hk := hv.trans (h.2.mono hv.size)
    have e0 := (hk.block g g0).trans K0.out
    have e1 := (hk.block (g + 1) g1).trans K1.out
    have e2 := (hk.block (g + 1 + 1) g2).trans K2.out
    exact ⟨h.1, ⟨(cell_of_row w' g 0 _ _ _ e0).trans rfl, (cell_of_row w' g 1 _ _ _ e0).trans rfl, e1, (cell_of_row w' (g + 1 + 1) 0 _ _ _ e2).trans rfl, (cell_of_row w' (g + 1 + 1) 1 _ _ _ e2).trans rfl⟩, BW.out.trans (hk.mono BW.out.size)⟩)
  have HG := Lib.hid hg
  clear k0 k1 k2 hBW HU hg
  go_region_law (go_simp; go_at_call 83; (refine (HC.out W.drew (Below.refl _ _).drew).mono ?_); rintro e v ⟨rfl, ⟨y0, y1, y2, y4, y5⟩, y3⟩; have Y3 := Lib.hid y3; clear y3; obtain ⟨z1, z2, z3, z4, z5, z6⟩ := two_set v (g + 1) g 84 (.int .u64 0) (.int .u64 0) _ _ (by omega) y2; have z7 := (z5 0).trans y0; have z8 := (z5 1).trans y1; have Z6 := Lib.hid z6; clear z5 z6 y2)
  all_goals
    have c0 := (cell_of_row _ (g + 1) 0 _ _ _ Z6.out).trans rfl
    have c1 := (cell_of_row _ (g + 1) 1 _ _ _ Z6.out).trans rfl
    have hb := (Y3.out.setCell (p := ⟨g + 1, 0, none⟩) (by have := HG.out; show w.heap.size ≤ g + 1; omega) (.int .u64 0)).setCell (p := ⟨g + 1, 1, none⟩) (by have := HG.out; show w.heap.size ≤ g + 1; omega) (.int .u64 0)
    have HB := Lib.hid hb
    clear hb
    go_wp2_with fail
    simp [bodyPost, results, Tryz.results56, go_sem, c0, c1]
    exact HB.out
end Go.Proofs.YtbjengfoaobdbaaGreatDoor.dirw
