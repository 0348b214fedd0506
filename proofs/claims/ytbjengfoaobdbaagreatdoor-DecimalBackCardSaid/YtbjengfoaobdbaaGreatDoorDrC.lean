/- The walks of dir's parts and of its wide numbers, at what DecimalBack asks. Conditions: as each theorem states. -/
import Derived.Test.YtbjengfoaobdbaaGreatDoorMgQ
import Derived.BigRegion
import Derived.Laws.StructEq
import Derived.Laws.Cover2
import Derived.StillTailTactics
namespace Go.Proofs.YtbjengfoaobdbaaGreatDoor.dirw
open Go.RowKit
open Go.Proofs.YtbjengfoaobdbaaGreatDoor.nodew
open Go.Proofs.YtbjengfoaobdbaaGreatDoor.flatm
open Go.Proofs.YtbjengfoaobdbaaGreatDoor.dmx
open Go.Proofs.YtbjengfoaobdbaaGreatDoor.dcw
open Go.Proofs.YtbjengfoaobdbaaGreatDoor.fpm
open Go.Proofs.YtbjengfoaobdbaaGreatDoor.rdf
open Go.Proofs.YtbjengfoaobdbaaGreatDoor.prnw
open Go.Proofs.YtbjengfoaobdbaaGreatDoor.lawd
open Go.Proofs.YtbjengfoaobdbaaGreatDoor.qt
open Go.Proofs.YtbjengfoaobdbaaGreatDoor.chkw
open Go.BigFrame
attribute [local go_sem] nodew.fo_eq bits_run frombits_run

theorem or_top' (a : Nat) (ha : a < 4503599627370496) : bits BinOp.or IntKind.u64 (a : Int) 4503599627370496 = ((a + 4503599627370496 : Nat) : Int) := or_top a ha
set_option maxHeartbeats 1000000 in
theorem parts_any (X : Nat) (hX : X < 9218868437227405312) (w : World) : Calls Tryz.prog 55 #[.float .f64 X] w fun e w' => e = .returned (.tuple #[.bool false, .int .u64 (ftM X : Nat), .int .i64 (ftE X - 52)]) ∧ w' = w := by
  obtain ⟨_, _, n3⟩ := right_parts X hX
  have HS := Lib.hid (fun W => show Calls Tryz.prog 28 #[.float .f64 X] W fun e w' => e = .returned (.bool false) ∧ w' = W from by have := signbit_any X W; rw [n3] at this; exact this)
  obtain ⟨q, hq⟩ : ∃ q, q = X / 4503599627370496 := ⟨_, rfl⟩
  obtain ⟨r, hr⟩ : ∃ r, r = X % 4503599627370496 := ⟨_, rfl⟩
  have b1 : bits BinOp.and IntKind.u64 (X : Int) 4503599627370495 = (r : Int) := by rw [hr]; exact and_52 X (by omega)
  have fq : (X : Int) / 4503599627370496 = (q : Int) := by omega
  have b2 : bits BinOp.and IntKind.u64 (q : Int) 2047 = (q : Int) := and_2047 .u64 (.inr rfl) q (by omega)
  have q0 : (0 : Int) ≤ (q : Int) := by omega
  have q1 : (q : Int) ≤ 2046 := by omega
  by_cases h0 : q = 0
  · have hM : ftM X = r := by unfold ftM; rw [if_pos (by omega), hr]
    have hE : ftE X - 52 = -1074 := by unfold ftE; rw [if_pos (by omega)]; rfl
    rw [hM, hE]
    subst h0
    have b4 : bits BinOp.and IntKind.u64 0 2047 = 0 := by decide +kernel
    clear hq hr n3 hM hE hX
    go_enter Tryz.func55, Tryz.ntmps55
    go_wp2_with (go_at_call 28; (with_reducible refine (HS.out _).mono ?_); rintro e w' ⟨rfl, rfl⟩)
    go_ret3
    exact ⟨rfl, rfl⟩
  · have hM : ftM X = r + 4503599627370496 := by unfold ftM; rw [if_neg (by omega), hr]
    have hE : ftE X - 52 = (q : Int) + -1074 - 1 := by unfold ftE; rw [if_neg (by omega), ← hq]; omega
    have b3 : bits BinOp.or IntKind.u64 (r : Int) 4503599627370496 = ((r + 4503599627370496 : Nat) : Int) := or_top r (by omega)
    have q2 : ((q : Int) == 0) = false := by rw [beq_eq_false_iff_ne]; omega
    rw [hM, hE]
    obtain ⟨M, hMM⟩ : ∃ M, M = r + 4503599627370496 := ⟨_, rfl⟩
    rw [← hMM] at b3 ⊢
    clear hq hr n3 hM hE hX h0 hMM
    go_enter Tryz.func55, Tryz.ntmps55
    go_wp2_with (go_at_call 28; (with_reducible refine (HS.out _).mono ?_); rintro e w' ⟨rfl, rfl⟩)
    go_ret3
    exact ⟨rfl, rfl⟩
theorem eq_wide (a b c d : Int) (w : World) : (Op.equalIn 10000 84 (.agg #[.int .u64 a, .int .u64 b]) (.agg #[.int .u64 c, .int .u64 d])).run Tryz.prog w = .ok (a == c && b == d) w := by
  have u3 := Tryz.underlying67
  have a3 := Tryz.isAgg67
  have z3 := Tryz.sizeOf67
  rw [show (10000 : Nat) = 9999 + 1 from rfl, Op.equalIn]
  simp only [Sem.run_bind, run_underlying Tryz.underlying84, Result.andThen_ok]
  simp only [Std.Legacy.Range.forIn_eq_forIn_range', Std.Legacy.Range.size, Nat.sub_zero, Nat.add_sub_cancel, Nat.div_one, List.range'_succ, List.range'_zero, List.forIn_cons, List.forIn_nil]
  go_simp
  by_cases h1 : a = c <;> by_cases h2 : b = d <;> simp [h1, h2]
attribute [local go_sem] eq_wide
/-- a number of 128 bits -/
def wd (a b : Nat) : Value := .agg #[.int .u64 (a : Int), .int .u64 (b : Int)]
theorem add64_run (x : Nat) (hx : x < 9223372036854775808) (w : World) : (callFunc 84 #[.int .u64 (x : Int), .int .u64 0, .int .u64 0]).run Tryz.prog w = .ok (.value (.tuple #[.int .u64 (x : Int), .int .u64 0])) w := by
  rw [@run_callFunc_extern Tryz.prog 84 _ add64Entry Tryz.func84 (by kernel_rfl) (by kernel_rfl) (by kernel_rfl) (by kernel_rfl), run_add64 (x : Int) 0 0 (by omega) (by decide) (by decide) (by decide) w]
  have e1 : ((x : Int) + 0 + 0) % 18446744073709551616 = x := by omega
  have e2 : ((x : Int) + 0 + 0) / 18446744073709551616 = 0 := by omega
  rw [e1, e2]
  rfl
theorem add_any (m : Nat) (hm : m < 9223372036854775808) (w : World) : Calls Tryz.prog 57 #[wd m 0, wd 0 0] w fun e w' => e = .returned (wd m 0) ∧ Below w.heap.size w w' := by
  have ha := fun W => add64_run m hm W
  have hb := fun W => show (callFunc 84 #[.int .u64 0, .int .u64 0, .int .u64 0]).run Tryz.prog W = .ok (.value (.tuple #[.int .u64 0, .int .u64 0])) W from add64_run 0 (by decide) W
  unfold wd
  go_enter Tryz.func57, Tryz.ntmps57
  go_wp2_with fail
  simp [bodyPost, results, Tryz.results57, go_sem]
  exact (((Below.refl _ _).alloc (Nat.le_refl _) _).alloc (by simp) _).alloc (by simp; omega) _
/-- how many bits it has -/
def szW (m : Nat) : Nat := if m = 0 then 0 else 64 + Lib.bitLen m
theorem size_any (m : Nat) (hm : m < 9223372036854775808) (w : World) : Calls Tryz.prog 86 #[wd m 0] w fun e w' => e = .returned (.int .i64 (szW m : Nat)) ∧ Below w.heap.size w w' := by
  unfold wd szW
  by_cases h0 : m = 0
  · subst h0
    have HL := Lib.hid (fun W => show Calls Tryz.prog 87 #[.int .u64 0] W fun e w' => e = .returned (.int .i64 0) ∧ w' = W from Tryz.bits_Len64 0 W (by decide) (by decide))
    rw [if_pos rfl]
    go_enter Tryz.func86, Tryz.ntmps86
    go_wp2_with (go_at_call 87; (with_reducible refine (HL.out _).mono ?_); rintro e w' ⟨rfl, rfl⟩)
    go_ret
    exact ⟨rfl, (Below.refl _ _).alloc (Nat.le_refl _) _⟩
  · rw [if_neg h0]
    have hm0 : (0 : Int) < (m : Int) := by omega
    obtain ⟨_, q2, _, _⟩ := bl_bd 64 m (by omega) (by omega)
    change Lib.bitLen m ≤ 64 at q2
    have HL := Lib.hid (fun W => show Calls Tryz.prog 87 #[.int .u64 (m : Int)] W fun e w' => e = .returned (.int .i64 (Lib.bitLen m : Nat)) ∧ w' = W from Tryz.bits_Len64 (m : Int) W (by omega) (by omega))
    obtain ⟨L, hL⟩ : ∃ L, Lib.bitLen m = L := ⟨_, rfl⟩
    rw [hL] at q2 HL ⊢
    have l1 : (L : Int) ≤ 64 := by omega
    clear h0 hL
    go_enter Tryz.func86, Tryz.ntmps86
    go_wp2_with (go_at_call 87; (with_reducible refine (HL.out _).mono ?_); rintro e w' ⟨rfl, rfl⟩)
    go_ret
    exact ⟨by simp, (Below.refl _ _).alloc (Nat.le_refl _) _⟩
theorem up_64 (m : Nat) (hm : m < 9223372036854775808) (w : World) : Calls Tryz.prog 83 #[wd 0 m, .int .i64 64] w fun e w' => e = .returned (wd m 0) ∧ Below w.heap.size w w' := by
  unfold wd
  go_enter Tryz.func83, Tryz.ntmps83
  go_wp2_with fail
  simp [bodyPost, results, Tryz.results83, go_sem]
  exact ((Below.refl _ _).alloc (Nat.le_refl _) _).alloc (by simp) _
set_option maxRecDepth 100000 in
theorem up_z (n : Nat) (hn : n < 128) (w : World) : Calls Tryz.prog 83 #[wd 0 0, .int .i64 (n : Int)] w fun e w' => e = .returned (wd 0 0) ∧ Below w.heap.size w w' := by
  unfold wd
  by_cases h : 64 ≤ n
  · have h1 : (64 : Int) ≤ (n : Int) := by omega
    have h2 : (n : Int) < 128 := by omega
    clear h
    go_enter Tryz.func83, Tryz.ntmps83
    go_wp2_with fail
    simp [bodyPost, results, Tryz.results83, go_sem]
    exact ((Below.refl _ _).alloc (Nat.le_refl _) _).alloc (by simp) _
  · have h1 : (n : Int) < 64 := by omega
    have h2 : (0 : Int) ≤ (n : Int) := by omega
    clear h
    go_enter Tryz.func83, Tryz.ntmps83
    go_upto_region 3 with fail
    go_region
    go_wp2_with fail
    have bz : bits BinOp.or IntKind.u64 0 0 = 0 := by decide +kernel
    simp [bodyPost, results, Tryz.results83, go_sem, bz]
    exact (((Below.refl _ _).alloc (Nat.le_refl _) _).alloc (by simp) _).drew
set_option maxRecDepth 100000 in
theorem is_zero (w : World) : Calls Tryz.prog 82 #[wd 0 0] w fun e w' => e = .returned (.bool false) ∧ Below w.heap.size w w' := by
  unfold wd
  go_enter Tryz.func82, Tryz.ntmps82
  go_wp2_with fail
  go_ret
  exact ⟨by first | rfl | simp, (Below.refl _ _).alloc (Nat.le_refl _) _⟩
theorem two_set (v : World) (b g : Nat) (t : TypeId) (X Y A0 A1 : Value) (hne : g ≠ b) (h : v.heap[b]? = some (.cells #[A0, A1] t (0, 0))) :
    v.cell? ⟨b, 0, none⟩ = some A0 ∧ v.frozen? ⟨b, 0, none⟩ = false ∧ (v.setCell ⟨b, 0, none⟩ X).cell? ⟨b, 1, none⟩ = some A1 ∧ (v.setCell ⟨b, 0, none⟩ X).frozen? ⟨b, 1, none⟩ = false ∧
    (∀ j, ((v.setCell ⟨b, 0, none⟩ X).setCell ⟨b, 1, none⟩ Y).cell? ⟨g, j, none⟩ = v.cell? ⟨g, j, none⟩) ∧ ((v.setCell ⟨b, 0, none⟩ X).setCell ⟨b, 1, none⟩ Y).heap[b]? = some (.cells #[X, Y] t (0, 0)) := by
  have h1 := heap_set v b 0 _ _ _ X h
  have h2 := heap_set _ b 1 _ _ _ Y h1
  refine ⟨(cell_of_row v b 0 _ _ _ h).trans rfl, by simp [World.frozen?, show v.heap[b]? = _ from h], (cell_of_row _ b 1 _ _ _ h1).trans rfl, by simp [World.frozen?, show (v.setCell ⟨b, 0, none⟩ X).heap[b]? = _ from h1], fun j => World.cell?_of_block (a := ⟨g, j, none⟩) ?_, h2⟩
  exact (Below.heap_setCell _ ⟨b, 1, none⟩ Y g hne).trans (Below.heap_setCell v ⟨b, 0, none⟩ X g hne)
theorem three_new (w : World) (A B C : Array Value) (t : TypeId) : ∃ W, W = ((w.alloc (.cells A t)).alloc (.cells B t)).alloc (.cells C t) ∧ W.heap[w.heap.size]? = some (.cells A t (0, 0)) ∧ W.heap[w.heap.size + 1]? = some (.cells B t (0, 0)) ∧ W.heap[w.heap.size + 1 + 1]? = some (.cells C t (0, 0)) ∧ Below w.heap.size w W := by
  have s1 : (w.alloc (.cells A t)).heap.size = w.heap.size + 1 := by simp
  have s2 : ((w.alloc (.cells A t)).alloc (.cells B t)).heap.size = w.heap.size + 1 + 1 := by simp
  have b1 := (Below.refl (w.alloc (.cells A t)).heap.size (w.alloc (.cells A t))).alloc (Nat.le_refl _) (.cells B t)
  have b2 := (Below.refl ((w.alloc (.cells A t)).alloc (.cells B t)).heap.size ((w.alloc (.cells A t)).alloc (.cells B t))).alloc (Nat.le_refl _) (.cells C t)
  refine ⟨_, rfl, ?_, ?_, ?_, ?_⟩
  · exact (b2.block _ (by omega)).trans ((b1.block _ (by omega)).trans (heap_alloc_new w _))
  · refine (b2.block _ (by omega)).trans ?_
    rw [← s1]
    exact heap_alloc_new _ _
  · rw [← s2]
    exact heap_alloc_new _ _
  · exact (((Below.refl _ _).alloc (Nat.le_refl _) _).alloc (by simp) _).alloc (by simp; omega) _
set_option maxRecDepth 100000 in
set_option maxHeartbeats 2000000 in
theorem down_64 (m : Nat) (hm : m < 9223372036854775808) (w : World) : Calls Tryz.prog 56 #[wd m 0, .int .i64 64] w fun e w' => e = .returned (.tuple #[wd 0 m, .bool false]) ∧ Below w.heap.size w w' := by
  have HU := Lib.hid (fun W => show Calls Tryz.prog 83 #[.agg #[.int .u64 0, .int .u64 (m : Int)], .int .i64 64] W fun e w' => e = .returned (.agg #[.int .u64 (m : Int), .int .u64 0]) ∧ Below W.heap.size W w' from up_64 m hm W)
  unfold wd
  go_enter Tryz.func56, Tryz.ntmps56
  go_wp2_with fail
  obtain ⟨g, hg⟩ : ∃ g, g = w.heap.size := ⟨_, rfl⟩
  obtain ⟨W, hW, k0, k1, k2, hBW⟩ := three_new w #[.int .u64 (m : Int), .int .u64 0] #[.int .u64 0, .int .u64 0] #[.int .u64 0, .int .u64 (m : Int)] 84
  rw [← hg] at k0 k1 k2
  rw [← hW, ← hg]
  clear hW
  have x0 : W.cell? ⟨g, 0, none⟩ = some (.int .u64 (m : Int)) := (cell_of_row W g 0 _ _ _ k0).trans rfl
  have x1 : W.cell? ⟨g, 1, none⟩ = some (.int .u64 0) := (cell_of_row W g 1 _ _ _ k0).trans rfl
  have x2 : W.cell? ⟨g + 1 + 1, 0, none⟩ = some (.int .u64 0) := (cell_of_row W (g + 1 + 1) 0 _ _ _ k2).trans rfl
  have x3 : W.cell? ⟨g + 1 + 1, 1, none⟩ = some (.int .u64 (m : Int)) := (cell_of_row W (g + 1 + 1) 1 _ _ _ k2).trans rfl
  have g0 : g < W.heap.size := (Array.getElem?_eq_some_iff.1 k0).1
  have g1 : g + 1 < W.heap.size := (Array.getElem?_eq_some_iff.1 k1).1
  have g2 : g + 1 + 1 < W.heap.size := (Array.getElem?_eq_some_iff.1 k2).1
  have K1 := Lib.hid k1
  have BW := Lib.hid hBW
  have K0 := Lib.hid k0
  have K2 := Lib.hid k2
  have HC := Lib.hid (fun (v : World) (hv : Below W.heap.size W v) => (HU.out v).mono fun e w' h => show (e = .returned (.agg #[.int .u64 (m : Int), .int .u64 0]) ∧ (w'.cell? ⟨g, 0, none⟩ = some (.int .u64 (m : Int)) ∧ w'.cell? ⟨g, 1, none⟩ = some (.int .u64 0) ∧ w'.heap[g + 1]? = some (.cells #[.int .u64 0, .int .u64 0] 84 (0, 0)) ∧ w'.cell? ⟨g + 1 + 1, 0, none⟩ = some (.int .u64 0) ∧ w'.cell? ⟨g + 1 + 1, 1, none⟩ = some (.int .u64 (m : Int))) ∧ Below w.heap.size w w') from by
    have hk := hv.trans (h.2.mono hv.size)
    have e0 := (hk.block g g0).trans K0.out
    have e1 := (hk.block (g + 1) g1).trans K1.out
    have e2 := (hk.block (g + 1 + 1) g2).trans K2.out
    exact ⟨h.1, ⟨(cell_of_row w' g 0 _ _ _ e0).trans rfl, (cell_of_row w' g 1 _ _ _ e0).trans rfl, e1, (cell_of_row w' (g + 1 + 1) 0 _ _ _ e2).trans rfl, (cell_of_row w' (g + 1 + 1) 1 _ _ _ e2).trans rfl⟩, BW.out.trans (hk.mono BW.out.size)⟩)
  have HG := Lib.hid hg
  clear k0 k1 k2 hBW HU hg
  go_region_law (go_simp; go_at_call 83; (refine (HC.out W.drew (Below.refl _ _).drew).mono ?_); rintro e v ⟨rfl, ⟨y0, y1, y2, y4, y5⟩, y3⟩; have Y3 := Lib.hid y3; clear y3; obtain ⟨z1, z2, z3, z4, z5, z6⟩ := two_set v (g + 1) g 84 (.int .u64 0) (.int .u64 (m : Int)) _ _ (by omega) y2; have z7 := (z5 0).trans y0; have z8 := (z5 1).trans y1; have Z6 := Lib.hid z6; clear z5 z6 y2)
  all_goals
    have c0 := (cell_of_row _ (g + 1) 0 _ _ _ Z6.out).trans rfl
    have c1 := (cell_of_row _ (g + 1) 1 _ _ _ Z6.out).trans rfl
    have hb := (Y3.out.setCell (p := ⟨g + 1, 0, none⟩) (by have := HG.out; show w.heap.size ≤ g + 1; omega) (.int .u64 0)).setCell (p := ⟨g + 1, 1, none⟩) (by have := HG.out; show w.heap.size ≤ g + 1; omega) (.int .u64 (m : Int))
    have HB := Lib.hid hb
    clear hb
    go_wp2_with fail
    simp [bodyPost, results, Tryz.results56, go_sem, c0, c1]
    exact HB.out
end Go.Proofs.YtbjengfoaobdbaaGreatDoor.dirw
