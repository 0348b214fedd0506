/- awake: the chapter's examples hold. No conditions. -/
import Derived.Test.YtlhdabpoljoobaaFlbB
import Derived.Test.YtlhdabpoljoobaaFlaK
import Derived.Test.YtlhdabpoljoobaaFlaC
namespace Go.Proofs.Ytlhdabpoljoobaa.flatw
open Go.RowKit Go.Shelf
open Go.Proofs.Ytlhdabpoljoobaa.nodew
open Go.Proofs.Ytlhdabpoljoobaa.chkw
open Go.Proofs.Ytlhdabpoljoobaa.flatm
attribute [local go_sem] bld_arr bld_lam bld_mix bld_pls

theorem nil_arg (W : World) : NArg W W.heap.size (.slice none 0 0) [] := ⟨none, 0, rfl, Nat.le_refl _, fun _ => rfl, fun h => absurd rfl h⟩
theorem nfirst {W : World} {B : Nat} {A : Addr} (h : NArg W B (.slice (some A) 4 4) exP) : NArg W B (.slice (some A) 1 4) [lamN] := by
  obtain ⟨A', c, hv, hc, hn, hx⟩ := h
  obtain ⟨g, off, hA, h1, h2, h3⟩ := hx (by unfold exP; simp)
  injection hv with e1 e2 e3
  subst e1 e3
  refine ⟨_, 4, rfl, by simp, (fun e => by cases e), fun _ => ⟨g, off, hA, h1, h2, fun j u hu => h3 j u ?_⟩⟩
  have hj : j < 19 := by have := (List.getElem?_eq_some_iff.1 hu).1; rw [ncells_len] at this; simpa using this
  have he : ncells exP = ncells [lamN] ++ ncells [lamN, plsN, mixN 1] := rfl
  rw [he, List.getElem?_append_left (by rw [ncells_len]; simpa using hj)]
  exact hu

set_option maxRecDepth 100000 in
set_option maxHeartbeats 600000 in
theorem awake20 (w : World) : Calls Try.prog 5 #[] w (TruePost w) := by
  obtain ⟨W1, hW1⟩ : ∃ W1, W1 = w.alloc (.cells lamN.cells.toArray 37) := ⟨_, rfl⟩
  obtain ⟨W2, hW2⟩ : ∃ W2, W2 = W1.alloc (.cells (mixN 1).cells.toArray 37) := ⟨_, rfl⟩
  obtain ⟨W3, hW3⟩ : ∃ W3, W3 = W2.alloc (.cells (ncells exP).toArray 37) := ⟨_, rfl⟩
  have z1 : W1.heap.size = w.heap.size + 1 := by rw [hW1]; simp
  have n1 : NBlk W1 w.heap.size lamN := by rw [hW1]; exact heap_alloc_new w _
  have n12 : NBlk W2 w.heap.size lamN := by rw [hW2]; exact (Below.heap_alloc _ _ _ (by omega)).trans n1
  have n2 : NBlk W2 (w.heap.size + 1) (mixN 1) := by rw [hW2]; exact heap_at _ _ _ z1
  have z2 : W2.heap.size = w.heap.size + 1 + 1 := by rw [hW2]; simp [z1]
  have z3 : W3.heap.size = w.heap.size + 1 + 1 + 1 := by rw [hW3]; simp [z2]
  have n13 : NBlk W3 w.heap.size lamN := by rw [hW3]; exact (Below.heap_alloc _ _ _ (by omega)).trans n12
  have n23 : NBlk W3 (w.heap.size + 1) (mixN 1) := by rw [hW3]; exact (Below.heap_alloc _ _ _ (by omega)).trans n2
  have hB3 : Below w.heap.size w W3 := by rw [hW3, hW2, hW1]; exact (((Below.refl _ _).alloc (Nat.le_refl _) _).alloc (by simp) _).alloc (by simp; omega) _
  have hown : W3.ownsRow w.heap.size 37 19 (.slice (some ⟨w.heap.size + 1 + 1, 0, none⟩) 4 4) 4 (ncells exP) := by
    rw [hW3]; exact own_new W2 (w.heap.size + 1 + 1) w.heap.size z2 (by omega) _ 19 4 (ncells exP) rfl (by decide)
  have N12 := Lib.hid n12
  have N2 := Lib.hid n2
  have Z := Lib.hid (And.intro z1 (And.intro z2 z3))
  have N13 := Lib.hid n13
  have N23 := Lib.hid n23
  have HB3 := Lib.hid hB3
  have HOWN := Lib.hid hown
  clear n1 n12 n2 z1 z2 z3 n13 n23 hB3 hown
  go_enter Try.func5, Try.ntmps5
  go_upto_region 3 with (first | (rw [← hW1]) | (rw [← hW2]) | (rw [← hW3]) | (refine wl_alloc_nd rfl rfl ?_) | (refine wl_store_new rfl (.tmp 1) (.tmp 13) rfl lamN rfl rfl ?_) | (refine wl_store_new rfl (.tmp 2) (.tmp 14) rfl (mixN 1) rfl rfl ?_) | (refine wl_load_nd rfl (.tmp 1) rfl (.pointer (some ⟨w.heap.size, 0, none⟩)) rfl lamN N12.out.loadAt ?_) | (refine wl_load_nd rfl (.tmp 2) rfl (.pointer (some ⟨w.heap.size + 1, 0, none⟩)) rfl (mixN 1) N2.out.loadAt ?_))
  clear hW1 hW2
  have z1 := Z.out.1
  rw [z1]
  clear z1
  simp only [Act.put, List.setIfInBounds_toArray, List.set_cons_succ, List.set_cons_zero]
  go_upto_region 4 with (first | (rw [← hW3]) | (refine wl_load_nd rfl (.tmp 1) rfl (.pointer (some ⟨w.heap.size, 0, none⟩)) rfl lamN N12.out.loadAt ?_) | (refine wl_load_nd rfl (.tmp 2) rfl (.pointer (some ⟨w.heap.size + 1, 0, none⟩)) rfl (mixN 1) N2.out.loadAt ?_) | (refine wl_val rfl _ (exec_bs4 (.tmp 15) (.tmp 16) (.tmp 17) (.tmp 18) rfl rfl rfl rfl rfl) ?_))
  clear hW3
  have z2 := Z.out.2.1
  rw [z2]
  clear z2
  have hn3 : NArg W3 W3.heap.size (.slice (some ⟨w.heap.size + 1 + 1, 0, none⟩) 4 4) exP := NArg.of_own HOWN.out
  have HN3 := Lib.hid hn3
  have hf := flat_any exP ex_ok ex_right _ W3 hn3
  rw [ex_flat] at hf
  have HF := Lib.hid hf
  clear hn3 hf
  go_wp2_with fail
  (with_reducible refine HF.out.mono ?_)
  rintro e W4 ⟨v4, rfl, ho4, hB4⟩
  have hd := depth_any exP ex_ok ex_right _ W4 ((HN3.out.ext hB4).mono hB4.size)
  rw [show exP.length - 1 = 3 from rfl, ex_dep] at hd
  have HO4 := Lib.hid ho4
  have HB4 := Lib.hid hB4
  have HD := Lib.hid hd
  clear ho4 hB4 hd HF
  go_wp2_with fail
  (with_reducible refine HD.out.mono ?_)
  rintro e W5 ⟨rfl, hB5⟩
  have hB35 := HB4.out.trans (hB5.mono HB4.out.size)
  have H45 := Lib.hid hB5
  have hf := flat_no [] (fun n h => by cases h) (by simp) ex_nil _ W5 (nil_arg W5)
  have HB5 := Lib.hid hB35
  have HF := Lib.hid hf
  clear hB5 hB35 hf HD
  go_wp2_with fail
  (with_reducible refine HF.out.mono ?_)
  rintro e W6 ⟨rfl, hB6⟩
  have hB36 := HB5.out.trans (hB6.mono HB5.out.size)
  have H46 := Lib.hid (H45.out.trans (hB6.mono H45.out.size))
  have hd := depth_any [lamN] (fun n h => by obtain rfl := List.mem_singleton.1 h; exact lam_ok) ex_one _ W6 (nfirst ((HN3.out.ext hB36).mono hB36.size))
  rw [show [lamN].length - 1 = 0 from rfl, ex_dep1] at hd
  have HB6 := Lib.hid hB36
  have HD := Lib.hid hd
  clear hB6 hB36 hd HF HB5
  go_wp2_with fail
  (with_reducible refine HD.out.mono ?_)
  rintro e W7 ⟨rfl, hB7⟩
  have hB37 := HB6.out.trans (hB7.mono HB6.out.size)
  have H47 := H46.out.trans (hB7.mono H46.out.size)
  have hz3 := Z.out.2.2
  have n17 : NBlk W7 w.heap.size lamN := (hB37.block _ (by omega)).trans N13.out
  have n27 : NBlk W7 (w.heap.size + 1) (mixN 1) := (hB37.block _ (by omega)).trans N23.out
  obtain ⟨W8, hW8⟩ : ∃ W8, W8 = W7.setCell ⟨w.heap.size + 1, 18, none⟩ (.int .i64 0) := ⟨_, rfl⟩
  have g8 : W7.grownBy W8 (some (w.heap.size + 1)) := by rw [hW8]; exact set_keep _ _ _ _ (Array.getElem?_eq_some_iff.1 n27).1
  have n28 : NBlk W8 (w.heap.size + 1) (mixN 0) := by rw [hW8]; exact nblk_store n27 18 _ rfl
  have n18 : NBlk W8 w.heap.size lamN := (g8.block _ (by have := hB37.size; omega) (by intro e; injection e; omega)).trans n17
  have g38 : W3.grownBy W8 (some (w.heap.size + 1)) := grown_trans (grown_below hB37 _) g8
  have g48 : W4.grownBy W8 (some (w.heap.size + 1)) := grown_trans (grown_below H47 _) g8
  have hn8 : NArg W8 W8.heap.size (.slice (some ⟨w.heap.size + 1 + 1, 0, none⟩) 4 4) exP := NArg.of_own (HOWN.out.kept g38 (.inr (by show some (w.heap.size + 1 + 1) ≠ _; intro e; injection e with e; omega)))
  have ho8 := HO4.out.kept g48 (by
    cases hv : v4.ownBlock with
    | none => exact .inl rfl
    | some g => exact .inr fun e => by have := (HO4.out.lt g hv).1; injection e with e; omega)
  have hB8 : Below w.heap.size w W8 := HB3.out.grown g38 (by omega) (fun r e => by injection e with e; omega)
  have hu := used_any exP ex_ok (by decide) _ W8 hn8
  rw [ex_used] at hu
  have c18 : W7.cell? ⟨w.heap.size + 1, 18, none⟩ = some (.int .i64 1) := (n27.cell 18).trans rfl
  have f18 := nblk_frozen n27 18
  have HN28 := Lib.hid n28
  have HN18 := Lib.hid n18
  have HO8 := Lib.hid ho8
  have HB8 := Lib.hid hB8
  have HU := Lib.hid hu
  clear H47 hz3 n17 n27 g8 n28 n18 g38 g48 hn8 ho8 hB8 hu hB7 hB37 HB6 HD HN3 HOWN HO4
  go_wp2_with (rw [← hW8])
  (with_reducible refine HU.out.mono ?_)
  rintro e W9 ⟨v9, rfl, ho9, hB9⟩
  obtain ⟨WX, hWX⟩ : ∃ WX, WX = W9.alloc (.cells (intsV [0, 1, 3]).toArray 3) := ⟨_, rfl⟩
  have hBX : Below W9.heap.size W9 WX := by rw [hWX]; exact (Below.refl _ _).alloc (Nat.le_refl _) _
  have hr9 : IRead WX v9 [0, 1, 3] := (IRead.of_own ho9).ext hBX
  have hrX : IRead WX (.slice (some ⟨W9.heap.size, 0, none⟩) 3 3) [0, 1, 3] := IRead.of_own (base := 0) (by
    rw [hWX]; exact own_new W9 W9.heap.size 0 rfl (Nat.zero_le _) _ 1 3 (intsV [0, 1, 3]) rfl (by decide))
  have hi := ints_eq v9 _ [0, 1, 3] (by decide) WX hr9 hrX
  have hB8X := hB9.trans (hBX.mono hB9.size)
  have HI := Lib.hid hi
  have HB8X := Lib.hid hB8X
  clear ho9 hB9 hBX hr9 hrX hi hB8X HU c18 f18 hW8
  go_wp2_with (first | (rw [← hWX]) | (refine wl_val rfl _ (exec_bs3 rfl) ?_))
  (with_reducible refine HI.out.mono ?_)
  rintro e WY ⟨rfl, hBY⟩
  have hB8Y := HB8X.out.trans (hBY.mono HB8X.out.size)
  have n1Y : NBlk WY w.heap.size lamN := (hB8Y.block _ (Array.getElem?_eq_some_iff.1 HN18.out).1).trans HN18.out
  have n2Y : NBlk WY (w.heap.size + 1) (mixN 0) := (hB8Y.block _ (Array.getElem?_eq_some_iff.1 HN28.out).1).trans HN28.out
  obtain ⟨WZ, hWZ⟩ : ∃ WZ, WZ = WY.alloc (.cells (ncells [lamN, mixN 0]).toArray 37) := ⟨_, rfl⟩
  have hBZ : Below WY.heap.size WY WZ := by rw [hWZ]; exact (Below.refl _ _).alloc (Nat.le_refl _) _
  have hB8Z := hB8Y.trans (hBZ.mono hB8Y.size)
  have hrZ : NRead WZ WZ.heap.size (.slice (some ⟨WY.heap.size, 0, none⟩) 2 2) [lamN, mixN 0] := NRead.of_own (base := 0) (by
    rw [hWZ]; exact own_new WY WY.heap.size 0 rfl (Nat.zero_le _) _ 19 2 (ncells [lamN, mixN 0]) rfl (by decide))
  have hr4 : NRead WZ WZ.heap.size v4 [lamN, mixN 0] := (((NArg.of_own HO8.out).ext hB8Z).mono hB8Z.size).read
  have hs := same18_eq WZ.heap.size v4 _ [lamN, mixN 0] (by decide) WZ hr4 hrZ (Nat.le_refl _)
  have HS := Lib.hid hs
  have HB8Z := Lib.hid hB8Z
  have HN1 := Lib.hid n1Y
  have HN2 := Lib.hid n2Y
  clear hBY hB8Y n1Y n2Y hBZ hB8Z hrZ hr4 hs HI HB8X HN18 HN28 HO8 hWX
  go_wp2_with (first | (rw [← hWZ]) | (refine wpList_load_nd_g _ ?_ (.tmp 1) rfl w.heap.size rfl lamN HN1.out ?_; rotate_right) | (refine wpList_load_nd_g _ ?_ (.tmp 2) rfl (w.heap.size + 1) rfl (mixN 0) HN2.out ?_; rotate_right) | (refine wl_val_g ?_ _ (exec_bs2 (.tmp 47) (.tmp 48) rfl rfl rfl) ?_; rotate_right))
  (with_reducible refine HS.out.mono ?_)
  rintro e WW ⟨rfl, hBW⟩
  have hBw := HB8.out.trans ((HB8Z.out.trans (hBW.mono HB8Z.out.size)).mono HB8.out.size)
  have HBW := Lib.hid hBw
  clear hBW hBw HS HB8Z hWZ
  go_wp2_with fail
  go_ret
  exact ⟨rfl, HBW.out⟩
end Go.Proofs.Ytlhdabpoljoobaa.flatw
