/- The walk of dir.Add at a number and 0: it is the number. Condition: a finite number from 0 on. -/
import Derived.Test.YtbjengfoaobdbaaGreatDoorDrE
namespace Go.Proofs.YtbjengfoaobdbaaGreatDoor.dirw
open Go.RowKit
open Go.Proofs.YtbjengfoaobdbaaGreatDoor.nodew
open Go.Proofs.YtbjengfoaobdbaaGreatDoor.flatm
open Go.Proofs.YtbjengfoaobdbaaGreatDoor.dmx
open Go.Proofs.YtbjengfoaobdbaaGreatDoor.dcw
open Go.Proofs.YtbjengfoaobdbaaGreatDoor.fpm
open Go.Proofs.YtbjengfoaobdbaaGreatDoor.rdf
open Go.Proofs.YtbjengfoaobdbaaGreatDoor.prnw
open Go.Proofs.YtbjengfoaobdbaaGreatDoor.lawd
open Go.Proofs.YtbjengfoaobdbaaGreatDoor.qt
open Go.Proofs.YtbjengfoaobdbaaGreatDoor.chkw
open Go.BigFrame
attribute [local go_sem] nodew.fo_eq eq_wide

theorem ft_0 : ftM 0 = 0 ∧ ftE 0 - 52 = -1074 := by decide
theorem rounded_y (Y : Nat) (hY : Y < 9218868437227405312) (w : World) : Calls Tryz.prog 59 #[.agg #[.bool false, .int .u64 (ftM Y : Nat), .int .u64 0, .bool false, .int .i64 (ftE Y - 52 - 64)], .bool true] w fun e w' => e = .returned (.tuple #[.float .f64 Y, .int .i64 0]) ∧ Below w.heap.size w w' := by
  by_cases h0 : Y = 0
  · subst h0
    rw [ft_0.1, ft_0.2]
    exact rounded_zero w
  · exact rounded_any Y (by omega) hY w
theorem ft_low (Y : Nat) (hY : Y < 9218868437227405312) : ftM Y < 9007199254740992 ∧ -1074 ≤ ftE Y - 52 ∧ ftE Y - 52 ≤ 971 := by
  by_cases h0 : Y = 0
  · subst h0
    rw [ft_0.1, ft_0.2]
    omega
  · obtain ⟨r1, r2, r3, r4, r5⟩ := ft_range Y (by omega) hY
    exact ⟨r2, r3, r4⟩
/-- two cells of a block are set -/
theorem two_set5 (v : World) (b : Nat) (t : TypeId) (X Y A0 A1 A2 A3 A4 : Value) (h : v.heap[b]? = some (.cells #[A0, A1, A2, A3, A4] t (0, 0))) :
    v.cell? ⟨b, 1, none⟩ = some A1 ∧ v.frozen? ⟨b, 1, none⟩ = false ∧ (v.setCell ⟨b, 1, none⟩ X).cell? ⟨b, 2, none⟩ = some A2 ∧ (v.setCell ⟨b, 1, none⟩ X).frozen? ⟨b, 2, none⟩ = false ∧
    ((v.setCell ⟨b, 1, none⟩ X).setCell ⟨b, 2, none⟩ Y).heap[b]? = some (.cells #[A0, X, Y, A3, A4] t (0, 0)) := by
  have h1 := heap_set v b 1 _ _ _ X h
  have h2 := heap_set _ b 2 _ _ _ Y h1
  exact ⟨(cell_of_row v b 1 _ _ _ h).trans rfl, by simp [World.frozen?, show v.heap[b]? = _ from h], (cell_of_row _ b 2 _ _ _ h1).trans rfl, by simp [World.frozen?, show (v.setCell ⟨b, 1, none⟩ X).heap[b]? = _ from h1], h2⟩
set_option maxRecDepth 100000 in
set_option maxHeartbeats 2000000 in
theorem addz_any (Y : Nat) (hY : Y < 9218868437227405312) (w : World) : Calls Tryz.prog 22 #[.float .f64 Y, .float .f64 0, .bool true] w fun e w' => e = .returned (.tuple #[.float .f64 Y, .int .i64 0]) ∧ Below w.heap.size w w' := by
  obtain ⟨m2, e1, e2⟩ := ft_low Y hY
  have CR := rounded_y Y hY
  have CP := parts_any Y hY
  have CA := add_any (ftM Y) (by omega)
  obtain ⟨n, hn⟩ : ∃ n : Nat, ftE Y - 52 + 1074 = n := ⟨(ftE Y - 52 + 1074).toNat, by omega⟩
  have CD := down_z n (by omega)
  have r1 : rightF Y = true := right_pos hY
  obtain ⟨E, hE⟩ : ∃ E, ftE Y - 52 = E := ⟨_, rfl⟩
  obtain ⟨M, hM⟩ : ∃ M, ftM Y = M := ⟨_, rfl⟩
  rw [hE] at CR CP e1 e2 hn
  rw [hM] at CR CP CA m2
  have HR := Lib.hid CR
  have HP := Lib.hid CP
  have HZ := Lib.hid (fun W => show Calls Tryz.prog 55 #[.float .f64 0] W fun e w' => e = .returned (.tuple #[.bool false, .int .u64 0, .int .i64 (-1074)]) ∧ w' = W from parts_any 0 (by decide) W)
  have HA := Lib.hid (fun W => show Calls Tryz.prog 57 #[.agg #[.int .u64 (M : Int), .int .u64 0], .agg #[.int .u64 0, .int .u64 0]] W fun e w' => e = .returned (.agg #[.int .u64 (M : Int), .int .u64 0]) ∧ Below W.heap.size W w' from CA W)
  have HD := Lib.hid (fun W => show Calls Tryz.prog 56 #[.agg #[.int .u64 0, .int .u64 0], .int .i64 (n : Int)] W fun e w' => e = .returned (.tuple #[.agg #[.int .u64 0, .int .u64 0], .bool false]) ∧ Below W.heap.size W w' from CD W)
  have H1 := Lib.hid (fun W => show Calls Tryz.prog 8 #[.float .f64 Y] W fun e w' => e = .returned (.bool true) ∧ w' = W from by have := right_num Y W; rw [r1] at this; exact this)
  have H2 := Lib.hid (fun W => show Calls Tryz.prog 8 #[.float .f64 0] W fun e w' => e = .returned (.bool true) ∧ w' = W from by have := right_num 0 W; rw [right_pos (by decide)] at this; exact this)
  have n1 : E - -1074 = (n : Int) := by omega
  have n0 : ¬ ((M : Int) < 0) := by omega
  clear CR CP CA CD r1 hE hM hY
  obtain ⟨q, hq⟩ : ∃ q, ((-1074 : Int) == E) = q := ⟨_, rfl⟩
  cases q
  all_goals
    go_enter Tryz.func22, Tryz.ntmps22
    go_upto_region 7 with (first
      | (go_at_call 8; (with_reducible refine (H1.out _).mono ?_); rintro e v ⟨rfl, rfl⟩)
      | (go_at_call 8; (with_reducible refine (H2.out _).mono ?_); rintro e v ⟨rfl, rfl⟩)
      | (go_at_call 55; (with_reducible refine (HP.out _).mono ?_); rintro e v ⟨rfl, rfl⟩)
      | (go_at_call 55; (with_reducible refine (HZ.out _).mono ?_); rintro e v ⟨rfl, rfl⟩))
    have V0 := Lib.hid (Below.refl v.heap.size v)
    clear H1 H2 HP HZ
    go_upto_region 9 with (go_at_call 56; (refine (HD.out _).mono ?_); rintro e v2 ⟨rfl, hb⟩; have V2 := Lib.hid hb; clear hb)
    go_upto_region 11 with fail
    obtain ⟨X, hX⟩ : ∃ X, X = (v2.alloc (.cells #[.int .u64 0, .int .u64 0] 84)).alloc (.cells #[.bool false, .int .u64 0, .int .u64 0, .bool false, .int .i64 (E - 64)] 88) := ⟨_, rfl⟩
    obtain ⟨ba, hba⟩ : ∃ b, b = v.heap.size := ⟨_, rfl⟩
    obtain ⟨bb, hbb⟩ : ∃ b, b = v2.heap.size := ⟨_, rfl⟩
    have s1 : (v.alloc (.cells #[.int .u64 (M : Int), .int .u64 0] 84)).heap.size = v.heap.size + 1 := by simp
    have s2 : (v2.alloc (.cells #[.int .u64 0, .int .u64 0] 84)).heap.size = v2.heap.size + 1 := by simp
    have v2s := V2.out.size
    have b1 := (Below.refl v2.heap.size v2).alloc (Nat.le_refl _) (.cells #[.int .u64 0, .int .u64 0] 84)
    have b2 := (Below.refl (v2.alloc (.cells #[.int .u64 0, .int .u64 0] 84)).heap.size (v2.alloc (.cells #[.int .u64 0, .int .u64 0] 84))).alloc (Nat.le_refl _) (.cells #[.bool false, .int .u64 0, .int .u64 0, .bool false, .int .i64 (E - 64)] 88)
    have ka : X.heap[ba]? = some (.cells #[.int .u64 (M : Int), .int .u64 0] 84 (0, 0)) := by
      rw [hX, hba]
      exact (b2.block _ (by omega)).trans ((b1.block _ (by omega)).trans ((V2.out.block _ (by omega)).trans (heap_alloc_new v _)))
    have kb : X.heap[bb]? = some (.cells #[.int .u64 0, .int .u64 0] 84 (0, 0)) := by
      rw [hX, hbb]
      exact (b2.block _ (by omega)).trans (heap_alloc_new v2 _)
    have kc : X.heap[bb + 1]? = some (.cells #[.bool false, .int .u64 0, .int .u64 0, .bool false, .int .i64 (E - 64)] 88 (0, 0)) := by
      rw [hX, hbb, ← s2]
      exact heap_alloc_new _ _
    have hBX : Below v.heap.size v X := by
      rw [hX]
      exact ((((Below.refl _ v).alloc (Nat.le_refl _) _).trans (V2.out.mono (by omega))).alloc (by omega) _).alloc (by omega) _
    have hbc : v.heap.size ≤ bb + 1 := by omega
    rw [← hX, ← hba, ← hbb]
    clear hX hba hbb s1 s2 v2s b1 b2 V2
    have x0 := (cell_of_row X ba 0 _ _ _ ka).trans rfl
    have x1 := (cell_of_row X ba 1 _ _ _ ka).trans rfl
    have x2 := (cell_of_row X bb 0 _ _ _ kb).trans rfl
    have x3 := (cell_of_row X bb 1 _ _ _ kb).trans rfl
    have gc : bb + 1 < X.heap.size := (Array.getElem?_eq_some_iff.1 kc).1
    have KC := Lib.hid kc
    have BX := Lib.hid hBX
    clear ka kb kc hBX
    go_upto_region 15 with (go_at_call 57; (refine (HA.out X).mono ?_); rintro e v3 ⟨rfl, hb⟩; have B3 := Lib.hid (BX.out.trans (hb.mono BX.out.size)); obtain ⟨z1, z2, z3, z4, z5⟩ := two_set5 v3 (bb + 1) 88 (.int .u64 (M : Int)) (.int .u64 0) _ _ _ _ _ ((hb.block (bb + 1) gc).trans KC.out); have Z5 := Lib.hid z5; clear hb z5)
    obtain ⟨Z, hZ⟩ : ∃ Z, Z = (v3.setCell ⟨bb + 1, 1, none⟩ (.int .u64 (M : Int))).setCell ⟨bb + 1, 2, none⟩ (.int .u64 0) := ⟨_, rfl⟩
    have kz : Z.heap[bb + 1]? = some (.cells #[.bool false, .int .u64 (M : Int), .int .u64 0, .bool false, .int .i64 (E - 64)] 88 (0, 0)) := by rw [hZ]; exact Z5.out
    have hBZ : Below v.heap.size v Z := by
      rw [hZ]
      exact (B3.out.setCell (p := ⟨bb + 1, 1, none⟩) hbc (.int .u64 (M : Int))).setCell (p := ⟨bb + 1, 2, none⟩) hbc (.int .u64 0)
    rw [← hZ]
    clear hZ z1 z2 z3 z4 Z5 B3 x0 x1 x2 x3
    have q0 := (cell_of_row Z (bb + 1) 0 _ _ _ kz).trans rfl
    have q1 := (cell_of_row Z (bb + 1) 1 _ _ _ kz).trans rfl
    have q2 := (cell_of_row Z (bb + 1) 2 _ _ _ kz).trans rfl
    have q3 := (cell_of_row Z (bb + 1) 3 _ _ _ kz).trans rfl
    have q4 := (cell_of_row Z (bb + 1) 4 _ _ _ kz).trans rfl
    have BZ := Lib.hid hBZ
    clear kz hBZ
    go_wp2_with (go_at_call 59; (refine (HR.out _).mono ?_); rintro e v4 ⟨rfl, hb⟩; have B4 := Lib.hid (BZ.out.trans (hb.mono BZ.out.size)); clear hb)
    go_ret2
    exact ⟨rfl, B4.out⟩
end Go.Proofs.YtbjengfoaobdbaaGreatDoor.dirw
