/- The walks of dir.rounded and dir.Add at a number and 0. Conditions: as each theorem states. -/
import Derived.Test.YtbjengfoaobdbaaGreatDoorDrD
import Derived.Test.YtbjengfoaobdbaaGreatDoorMgP
namespace Go.Proofs.YtbjengfoaobdbaaGreatDoor.dirw
open Go.RowKit
open Go.Proofs.YtbjengfoaobdbaaGreatDoor.nodew
open Go.Proofs.YtbjengfoaobdbaaGreatDoor.flatm
open Go.Proofs.YtbjengfoaobdbaaGreatDoor.dmx
open Go.Proofs.YtbjengfoaobdbaaGreatDoor.dcw
open Go.Proofs.YtbjengfoaobdbaaGreatDoor.fpm
open Go.Proofs.YtbjengfoaobdbaaGreatDoor.rdf
open Go.Proofs.YtbjengfoaobdbaaGreatDoor.prnw
open Go.Proofs.YtbjengfoaobdbaaGreatDoor.lawd
open Go.Proofs.YtbjengfoaobdbaaGreatDoor.qt
open Go.Proofs.YtbjengfoaobdbaaGreatDoor.chkw
open Go.BigFrame
attribute [local go_sem] nodew.fo_eq eq_wide

theorem down_z (n : Nat) (hn : n ≤ 4000) (w : World) : Calls Tryz.prog 56 #[wd 0 0, .int .i64 (n : Int)] w fun e w' => e = .returned (.tuple #[wd 0 0, .bool false]) ∧ Below w.heap.size w w' := by
  by_cases h1 : 128 ≤ n
  · exact down_far n h1 hn w
  · by_cases h2 : 64 ≤ n
    · exact down_mid n h2 (by omega) w
    · exact down_low n (by omega) w
/-- how many bits, of a float's mantissa -/
theorem sz_cut (Y : Nat) (h0 : 0 < Y) (hY : Y < 9218868437227405312) : ∃ L : Nat, szW (ftM Y) = 64 + L ∧ 1 ≤ L ∧ L ≤ 53 ∧ Lib.bitLen (ftM Y) = L ∧ -1074 ≤ ftE Y - 52 ∧ ftE Y - 52 ≤ 971 ∧ (L < 53 → ftE Y - 52 = -1074) ∧ (L : Int) + (ftE Y - 52) ≤ 1024 := by
  obtain ⟨r1, r2, r3, r4, r5⟩ := ft_range Y h0 hY
  obtain ⟨q1, q2, q3, q4⟩ := bl_bd 64 (ftM Y) (by omega) (by omega)
  refine ⟨Lib.bitLen (ftM Y), by unfold szW; rw [if_neg (by omega)], q1, ?_, rfl, r3, r4, ?_, ?_⟩
  all_goals
    by_cases h : 4503599627370496 ≤ ftM Y
    · have := bl_norm (ftM Y) h r2
      omega
    · have := bl_sub (ftM Y) r1 (by omega)
      have := r5 (by omega)
      omega
theorem Ldexp_w (Y : Nat) (h0 : 0 < Y) (hY : Y < 9218868437227405312) (w : World) : Calls Tryz.prog 29 #[.float .f64 (floatOfInt .f64 (ftM Y : Nat)), .int .i64 (ftE Y - 52)] w fun e w' => e = .returned (.float .f64 Y) ∧ w' = w := by
  have HX := Lib.hid (ldexp_w Y h0 hY)
  obtain ⟨F, hF⟩ : ∃ F, floatOfInt .f64 (ftM Y : Nat) = F := ⟨_, rfl⟩
  obtain ⟨E, hE⟩ : ∃ E, ftE Y - 52 = E := ⟨_, rfl⟩
  rw [hF, hE] at HX ⊢
  clear hF hE
  go_enter Tryz.func29, Tryz.ntmps29
  go_wp2_with (go_at_call 66; (with_reducible refine (HX.out _).mono ?_); rintro e v ⟨rfl, rfl⟩)
  go_ret
  exact ⟨rfl, rfl⟩
set_option maxHeartbeats 1000000 in
theorem rounded_any (Y : Nat) (h0 : 0 < Y) (hY : Y < 9218868437227405312) (w : World) : Calls Tryz.prog 59 #[.agg #[.bool false, .int .u64 (ftM Y : Nat), .int .u64 0, .bool false, .int .i64 (ftE Y - 52 - 64)], .bool true] w fun e w' => e = .returned (.tuple #[.float .f64 Y, .int .i64 0]) ∧ Below w.heap.size w w' := by
  obtain ⟨m1, m2⟩ := ftM_pos Y h0
  obtain ⟨L, l1, l2, l3, l4, l5, l6, l7, l8⟩ := sz_cut Y h0 hY
  have CS := size_any (ftM Y) (by omega)
  have CD := down_64 (ftM Y) (by omega)
  have CX := Ldexp_w Y h0 hY
  have CL := fun W => Tryz.bits_Len64 (ftM Y : Nat) W (by omega) (by omega)
  rw [l1] at CS
  simp only [Int.toNat_natCast, l4] at CL
  obtain ⟨E, hE⟩ : ∃ E, ftE Y - 52 = E := ⟨_, rfl⟩
  obtain ⟨M, hM⟩ : ∃ M, ftM Y = M := ⟨_, rfl⟩
  rw [hE] at l5 l6 l7 l8 CX ⊢
  rw [hM] at CS CD CX CL m1 m2 ⊢
  obtain ⟨F, hF⟩ : ∃ F, floatOfInt .f64 (M : Int) = F := ⟨_, rfl⟩
  rw [hF] at CX
  have HS := Lib.hid CS
  have HD := Lib.hid CD
  have HX := Lib.hid CX
  have HL := Lib.hid CL
  have k1 : (1 : Int) ≤ (M : Int) := by omega
  have k0 : ((M : Int) == 0) = false := by rw [beq_eq_false_iff_ne]; omega
  have k9 : E - 64 + 64 = E := by omega
  have k2 : (L : Int) ≤ 53 := by omega
  have k3 : (1 : Int) ≤ (L : Int) := by omega
  clear CS CD CX CL hE hM h0 hY l1 l4 m1
  have hcase : L = 53 ∨ (L < 53 ∧ E = -1074) := by omega
  rcases hcase with rfl | ⟨k4, rfl⟩
  · go_enter Tryz.func59, Tryz.ntmps59
    go_upto_region 1 with fail
    obtain ⟨g, hg⟩ : ∃ g, g = w.heap.size := ⟨_, rfl⟩
    obtain ⟨W, hW⟩ : ∃ W, W = w.alloc (.cells #[.bool false, .int .u64 (M : Int), .int .u64 0, .bool false, .int .i64 (E - 64)] 88) := ⟨_, rfl⟩
    have k0 : W.heap[g]? = some (.cells #[.bool false, .int .u64 (M : Int), .int .u64 0, .bool false, .int .i64 (E - 64)] 88 (0, 0)) := by rw [hW, hg]; exact heap_alloc_new w _
    have hBW : Below w.heap.size w W := by rw [hW]; exact (Below.refl _ _).alloc (Nat.le_refl _) _
    have gl : g < W.heap.size := (Array.getElem?_eq_some_iff.1 k0).1
    rw [← hW, ← hg]
    clear hW hg
    have K0 := Lib.hid k0
    have BW := Lib.hid hBW
    have x1 : ∀ u : Ext W, u.1.cell? ⟨g, 1, none⟩ = some (.int .u64 (M : Int)) := fun u => ext_cell ((cell_of_row W g 1 _ _ _ k0).trans rfl) u
    have x2 : ∀ u : Ext W, u.1.cell? ⟨g, 2, none⟩ = some (.int .u64 0) := fun u => ext_cell ((cell_of_row W g 2 _ _ _ k0).trans rfl) u
    have x4 : ∀ u : Ext W, u.1.cell? ⟨g, 4, none⟩ = some (.int .i64 (E - 64)) := fun u => ext_cell ((cell_of_row W g 4 _ _ _ k0).trans rfl) u
    clear k0 hBW
    refine region_ext (by kernel_rfl) (by kernel_rfl) ?_
    repeat go_big_quiet_step (exact ext_call _ (HS.out _))
    refine wpQuiet_nil ?_
    intro u
    have hu := u.2
    obtain ⟨V, hV⟩ : ∃ V, V = u.1 := ⟨_, rfl⟩
    rw [← hV] at hu ⊢
    clear hV x1 x2 x4
    have kv := (hu.block g gl).trans K0.out
    have y0 := (cell_of_row V g 0 _ _ _ kv).trans rfl
    have y1 := (cell_of_row V g 1 _ _ _ kv).trans rfl
    have y2 := (cell_of_row V g 2 _ _ _ kv).trans rfl
    have y3 := (cell_of_row V g 3 _ _ _ kv).trans rfl
    have y4 := (cell_of_row V g 4 _ _ _ kv).trans rfl
    have KV := Lib.hid kv
    have BV := Lib.hid (BW.out.trans (hu.mono BW.out.size))
    have gv : g < V.heap.size := Nat.lt_of_lt_of_le gl hu.size
    clear hu kv
    go_upto_region 3 with (go_at_call 56; (refine (HD.out V).mono ?_); rintro e v ⟨rfl, hb⟩; have hz := hb.size; have kw := Lib.hid ((hb.block g gv).trans KV.out); have BX := Lib.hid (BV.out.trans (hb.mono BV.out.size)); clear hb; unfold wd)
    obtain ⟨h, hh⟩ : ∃ h, h = v.heap.size := ⟨_, rfl⟩
    obtain ⟨X, hX⟩ : ∃ X, X = v.alloc (.cells #[.int .u64 0, .int .u64 (M : Int)] 84) := ⟨_, rfl⟩
    rw [← hX, ← hh]
    have z0 : X.cell? ⟨h, 1, none⟩ = some (.int .u64 (M : Int)) := by rw [hX, hh]; exact (cell_of_row _ v.heap.size 1 _ _ _ (heap_alloc_new v _)).trans rfl
    have kx : X.heap[g]? = some (.cells #[.bool false, .int .u64 (M : Int), .int .u64 0, .bool false, .int .i64 (E - 64)] 88 (0, 0)) := by
      rw [hX]
      exact (((Below.refl v.heap.size v).alloc (Nat.le_refl _) _).block g (by omega)).trans kw.out
    have y0 := (cell_of_row X g 0 _ _ _ kx).trans rfl
    have y3 := (cell_of_row X g 3 _ _ _ kx).trans rfl
    have y4 := (cell_of_row X g 4 _ _ _ kx).trans rfl
    have BXX : Below w.heap.size w X := by rw [hX]; exact BX.out.alloc BX.out.size _
    have BF := Lib.hid BXX
    clear hX hh kx kw BX BXX
    go_quiet (fail)
    go_wp2_with (first
      | (go_at_call 87; (with_reducible refine (HL.out _).mono ?_); rintro e v ⟨rfl, rfl⟩)
      | (go_at_call 29; (with_reducible refine (HX.out _).mono ?_); rintro e v ⟨rfl, rfl⟩))
    go_ret2
    exact ⟨rfl, below_drewN' BF.out _⟩
  · go_enter Tryz.func59, Tryz.ntmps59
    go_upto_region 1 with fail
    obtain ⟨g, hg⟩ : ∃ g, g = w.heap.size := ⟨_, rfl⟩
    obtain ⟨W, hW⟩ : ∃ W, W = w.alloc (.cells #[.bool false, .int .u64 (M : Int), .int .u64 0, .bool false, .int .i64 (-1138)] 88) := ⟨_, rfl⟩
    have k0 : W.heap[g]? = some (.cells #[.bool false, .int .u64 (M : Int), .int .u64 0, .bool false, .int .i64 (-1138)] 88 (0, 0)) := by rw [hW, hg]; exact heap_alloc_new w _
    have hBW : Below w.heap.size w W := by rw [hW]; exact (Below.refl _ _).alloc (Nat.le_refl _) _
    have gl : g < W.heap.size := (Array.getElem?_eq_some_iff.1 k0).1
    rw [← hW, ← hg]
    clear hW hg
    have K0 := Lib.hid k0
    have BW := Lib.hid hBW
    have x1 : ∀ u : Ext W, u.1.cell? ⟨g, 1, none⟩ = some (.int .u64 (M : Int)) := fun u => ext_cell ((cell_of_row W g 1 _ _ _ k0).trans rfl) u
    have x2 : ∀ u : Ext W, u.1.cell? ⟨g, 2, none⟩ = some (.int .u64 0) := fun u => ext_cell ((cell_of_row W g 2 _ _ _ k0).trans rfl) u
    have x4 : ∀ u : Ext W, u.1.cell? ⟨g, 4, none⟩ = some (.int .i64 (-1138)) := fun u => ext_cell ((cell_of_row W g 4 _ _ _ k0).trans rfl) u
    clear k0 hBW
    refine region_ext (by kernel_rfl) (by kernel_rfl) ?_
    repeat go_big_quiet_step (exact ext_call _ (HS.out _))
    refine wpQuiet_nil ?_
    intro u
    have hu := u.2
    obtain ⟨V, hV⟩ : ∃ V, V = u.1 := ⟨_, rfl⟩
    rw [← hV] at hu ⊢
    clear hV x1 x2 x4
    have kv := (hu.block g gl).trans K0.out
    have y0 := (cell_of_row V g 0 _ _ _ kv).trans rfl
    have y1 := (cell_of_row V g 1 _ _ _ kv).trans rfl
    have y2 := (cell_of_row V g 2 _ _ _ kv).trans rfl
    have y3 := (cell_of_row V g 3 _ _ _ kv).trans rfl
    have y4 := (cell_of_row V g 4 _ _ _ kv).trans rfl
    have KV := Lib.hid kv
    have BV := Lib.hid (BW.out.trans (hu.mono BW.out.size))
    have gv : g < V.heap.size := Nat.lt_of_lt_of_le gl hu.size
    clear hu kv
    go_upto_region 3 with (go_at_call 56; (refine (HD.out V).mono ?_); rintro e v ⟨rfl, hb⟩; have hz := hb.size; have kw := Lib.hid ((hb.block g gv).trans KV.out); have BX := Lib.hid (BV.out.trans (hb.mono BV.out.size)); clear hb; unfold wd)
    obtain ⟨h, hh⟩ : ∃ h, h = v.heap.size := ⟨_, rfl⟩
    obtain ⟨X, hX⟩ : ∃ X, X = v.alloc (.cells #[.int .u64 0, .int .u64 (M : Int)] 84) := ⟨_, rfl⟩
    rw [← hX, ← hh]
    have z0 : X.cell? ⟨h, 1, none⟩ = some (.int .u64 (M : Int)) := by rw [hX, hh]; exact (cell_of_row _ v.heap.size 1 _ _ _ (heap_alloc_new v _)).trans rfl
    have kx : X.heap[g]? = some (.cells #[.bool false, .int .u64 (M : Int), .int .u64 0, .bool false, .int .i64 (-1138)] 88 (0, 0)) := by
      rw [hX]
      exact (((Below.refl v.heap.size v).alloc (Nat.le_refl _) _).block g (by omega)).trans kw.out
    have y0 := (cell_of_row X g 0 _ _ _ kx).trans rfl
    have y3 := (cell_of_row X g 3 _ _ _ kx).trans rfl
    have y4 := (cell_of_row X g 4 _ _ _ kx).trans rfl
    have BXX : Below w.heap.size w X := by rw [hX]; exact BX.out.alloc BX.out.size _
    have BF := Lib.hid BXX
    clear hX hh kx kw BX BXX
    go_quiet (fail)
    go_wp2_with (first
      | (go_at_call 87; (with_reducible refine (HL.out _).mono ?_); rintro e v ⟨rfl, rfl⟩)
      | (go_at_call 29; (with_reducible refine (HX.out _).mono ?_); rintro e v ⟨rfl, rfl⟩))
    go_ret2
    exact ⟨rfl, below_drewN' BF.out _⟩
set_option maxHeartbeats 1000000 in
theorem rounded_zero (w : World) : Calls Tryz.prog 59 #[.agg #[.bool false, .int .u64 0, .int .u64 0, .bool false, .int .i64 (-1138)], .bool true] w fun e w' => e = .returned (.tuple #[.float .f64 0, .int .i64 0]) ∧ Below w.heap.size w w' := by
  have HS := Lib.hid (fun W => show Calls Tryz.prog 86 #[.agg #[.int .u64 0, .int .u64 0]] W fun e w' => e = .returned (.int .i64 0) ∧ Below W.heap.size W w' from size_any 0 (by decide) W)
  have HD := Lib.hid (fun W => show Calls Tryz.prog 56 #[.agg #[.int .u64 0, .int .u64 0], .int .i64 64] W fun e w' => e = .returned (.tuple #[.agg #[.int .u64 0, .int .u64 0], .bool false]) ∧ Below W.heap.size W w' from down_64 0 (by decide) W)
  go_enter Tryz.func59, Tryz.ntmps59
  go_upto_region 1 with fail
  obtain ⟨g, hg⟩ : ∃ g, g = w.heap.size := ⟨_, rfl⟩
  obtain ⟨W, hW⟩ : ∃ W, W = w.alloc (.cells #[.bool false, .int .u64 0, .int .u64 0, .bool false, .int .i64 (-1138)] 88) := ⟨_, rfl⟩
  have k0 : W.heap[g]? = some (.cells #[.bool false, .int .u64 0, .int .u64 0, .bool false, .int .i64 (-1138)] 88 (0, 0)) := by rw [hW, hg]; exact heap_alloc_new w _
  have hBW : Below w.heap.size w W := by rw [hW]; exact (Below.refl _ _).alloc (Nat.le_refl _) _
  have gl : g < W.heap.size := (Array.getElem?_eq_some_iff.1 k0).1
  rw [← hW, ← hg]
  clear hW hg
  have K0 := Lib.hid k0
  have BW := Lib.hid hBW
  have x1 : ∀ u : Ext W, u.1.cell? ⟨g, 1, none⟩ = some (.int .u64 0) := fun u => ext_cell ((cell_of_row W g 1 _ _ _ k0).trans rfl) u
  have x2 : ∀ u : Ext W, u.1.cell? ⟨g, 2, none⟩ = some (.int .u64 0) := fun u => ext_cell ((cell_of_row W g 2 _ _ _ k0).trans rfl) u
  have x4 : ∀ u : Ext W, u.1.cell? ⟨g, 4, none⟩ = some (.int .i64 (-1138)) := fun u => ext_cell ((cell_of_row W g 4 _ _ _ k0).trans rfl) u
  clear k0 hBW
  refine region_ext (by kernel_rfl) (by kernel_rfl) ?_
  repeat go_big_quiet_step (exact ext_call _ (HS.out _))
  refine wpQuiet_nil ?_
  intro u
  have hu := u.2
  obtain ⟨V, hV⟩ : ∃ V, V = u.1 := ⟨_, rfl⟩
  rw [← hV] at hu ⊢
  clear hV x1 x2 x4
  have kv := (hu.block g gl).trans K0.out
  have y0 := (cell_of_row V g 0 _ _ _ kv).trans rfl
  have y1 := (cell_of_row V g 1 _ _ _ kv).trans rfl
  have y2 := (cell_of_row V g 2 _ _ _ kv).trans rfl
  have y3 := (cell_of_row V g 3 _ _ _ kv).trans rfl
  have y4 := (cell_of_row V g 4 _ _ _ kv).trans rfl
  have KV := Lib.hid kv
  have BV := Lib.hid (BW.out.trans (hu.mono BW.out.size))
  have gv : g < V.heap.size := Nat.lt_of_lt_of_le gl hu.size
  clear hu kv
  go_upto_region 3 with (go_at_call 56; (refine (HD.out V).mono ?_); rintro e v ⟨rfl, hb⟩; have hz := hb.size; have kw := Lib.hid ((hb.block g gv).trans KV.out); have BX := Lib.hid (BV.out.trans (hb.mono BV.out.size)); clear hb)
  obtain ⟨h, hh⟩ : ∃ h, h = v.heap.size := ⟨_, rfl⟩
  obtain ⟨X, hX⟩ : ∃ X, X = v.alloc (.cells #[.int .u64 0, .int .u64 0] 84) := ⟨_, rfl⟩
  rw [← hX, ← hh]
  have z0 : X.cell? ⟨h, 1, none⟩ = some (.int .u64 0) := by rw [hX, hh]; exact (cell_of_row _ v.heap.size 1 _ _ _ (heap_alloc_new v _)).trans rfl
  have kx : X.heap[g]? = some (.cells #[.bool false, .int .u64 0, .int .u64 0, .bool false, .int .i64 (-1138)] 88 (0, 0)) := by
    rw [hX]
    exact (((Below.refl v.heap.size v).alloc (Nat.le_refl _) _).block g (by omega)).trans kw.out
  have y0 := (cell_of_row X g 0 _ _ _ kx).trans rfl
  have y3 := (cell_of_row X g 3 _ _ _ kx).trans rfl
  have y4 := (cell_of_row X g 4 _ _ _ kx).trans rfl
  have BXX : Below w.heap.size w X := by rw [hX]; exact BX.out.alloc BX.out.size _
  have BF := Lib.hid BXX
  clear hX hh kx kw BX BXX
  go_quiet (fail)
  go_wp2_with (first
    | (go_at_call 87; (with_reducible refine (HL.out _).mono ?_); rintro e v ⟨rfl, rfl⟩)
    | (go_at_call 29; (with_reducible refine (HX.out _).mono ?_); rintro e v ⟨rfl, rfl⟩))
  go_ret2
  exact ⟨rfl, below_drewN' BF.out _⟩
end Go.Proofs.YtbjengfoaobdbaaGreatDoor.dirw
