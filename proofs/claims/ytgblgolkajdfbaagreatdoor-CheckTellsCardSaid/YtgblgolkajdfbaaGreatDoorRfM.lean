/- The walk of burnishref18.made, kind by kind. Conditions: the statement has what its kind asks; its arguments lie in memory. -/
import Derived.Test.YtgblgolkajdfbaaGreatDoorRfD
namespace Go.Proofs.YtgblgolkajdfbaaGreatDoor.chkw
open Go.RowKit
open Go.Proofs.YtgblgolkajdfbaaGreatDoor.lexw
open Go.Proofs.YtgblgolkajdfbaaGreatDoor.parw
open Go.Proofs.YtgblgolkajdfbaaGreatDoor.nodew
open Go.Proofs.YtgblgolkajdfbaaGreatDoor.qt
attribute [local go_sem] parw.run_store_float

/-- the numbers of a statement, put into a node -/
def numsP : List (Nat × Nat × Nat) → List PArg → Nd → Nd
  | d :: r, a :: q, n => numsP r q (Nd.put n d.1 a.num)
  | _, _, n => n
def madeN (s : PStmt) (a b : Int) : Nd := { numsP (fieldList s.kind) s.args (nodeZ s.kind) with a := a, b := b }
def nodeP (k : Nat) (a b : Int) : Nd := { nodeZ k with a := a, b := b }
theorem nblk_put {w : World} {nb : Nat} {n : Nd} (h : NBlk w nb n) (hl : n.x.length = 16) (j x : Nat) (h1 : 1 ≤ j) (h2 : j ≤ 16) : NBlk (w.setCell ⟨nb, j, none⟩ (.float .f64 x)) nb (Nd.put n j x) := nblk_store h j _ (nd_put_cells n hl j x h1 h2)
theorem nblk_put3 {w : World} {nb : Nat} {n : Nd} (h : NBlk w nb n) (hl : n.x.length = 16) (j x y z : Nat) (h1 : 1 ≤ j) (h2 : j + 2 ≤ 16) :
    NBlk (((w.setCell ⟨nb, j, none⟩ (.float .f64 x)).setCell ⟨nb, j + 1, none⟩ (.float .f64 y)).setCell ⟨nb, j + 2, none⟩ (.float .f64 z)) nb (Nd.put (Nd.put (Nd.put n j x) (j + 1) y) (j + 2) z) :=
  nblk_put (nblk_put (nblk_put h hl j x h1 (by omega)) ((Nd.put_len _ _ _).trans hl) (j + 1) y (by omega) (by omega)) ((Nd.put_len _ _ _).trans ((Nd.put_len _ _ _).trans hl)) (j + 2) z (by omega) (by omega)
/-- what stays as it is: the statement, its arguments -/
structure MW (B : Nat) (w : World) (sb nb rb : Nat) (sc : Array Value) (A : Option Addr) (c : Nat) (args : List PArg) (u : World) : Prop where
  low : Below w.heap.size w u
  st : u.heap[sb]? = some (.cells sc 38 (0, 0))
  ar : ARead u B (.slice A args.length c) args
  rs : ∃ cs : Array Value, cs.size = 19 ∧ u.heap[rb]? = some (.cells cs 25 (0, 0))
  nl : nb < u.heap.size
  sw : w.heap.size ≤ nb ∧ sb ≠ nb ∧ rb ≠ nb ∧ B ≤ w.heap.size ∧ w.heap.size ≤ rb
theorem MW.ext {B : Nat} {w : World} {sb nb rb : Nat} {sc : Array Value} {A : Option Addr} {c : Nat} {args : List PArg} {u v : World} (h : MW B w sb nb rb sc A c args u) (hb : Below u.heap.size u v) : MW B w sb nb rb sc A c args v := by
  obtain ⟨cs, h1, h2⟩ := h.rs
  exact ⟨h.low.trans (hb.mono h.low.size), (hb.block sb (Array.getElem?_eq_some_iff.1 h.st).1).trans h.st, h.ar.keep fun g _ hg => hb.block g hg, ⟨cs, h1, (hb.block rb (Array.getElem?_eq_some_iff.1 h2).1).trans h2⟩, Nat.lt_of_lt_of_le h.nl hb.size, h.sw⟩
theorem MW.set {B : Nat} {w : World} {sb nb rb : Nat} {sc : Array Value} {A : Option Addr} {c : Nat} {args : List PArg} {u : World} (h : MW B w sb nb rb sc A c args u) (j : Nat) (v : Value) : MW B w sb nb rb sc A c args (u.setCell ⟨nb, j, none⟩ v) := by
  obtain ⟨cs, h1, h2⟩ := h.rs
  obtain ⟨s1, s2, s3, s4, s5⟩ := h.sw
  exact ⟨h.low.setCell (p := ⟨nb, j, none⟩) s1 v, (Below.heap_setCell _ _ _ _ s2).trans h.st, h.ar.keep fun g hB _ => Below.heap_setCell _ _ _ _ (show g ≠ nb by omega), ⟨cs, h1, (Below.heap_setCell _ _ _ _ s3).trans h2⟩, by show nb < (Array.modify _ _ _).size; rw [Array.size_modify]; exact h.nl, h.sw⟩
theorem results_made (w : World) (tmps : Array Value) (g : Nat) (n : Nd) (h4 : tmps.getD 6 undef = .pointer (some ⟨g, 0, none⟩)) (hg : NBlk w g n) :
    (results Tryz.f27 tmps).run Tryz.prog w = .ok n.val w := by
  have h4' : tmps[6]?.getD undef = .pointer (some ⟨g, 0, none⟩) := by simpa using h4
  simp [results, Tryz.results27, h4', asAddr, hg.load, Result.andThen]

set_option maxRecDepth 100000 in
set_option maxHeartbeats 2000000 in
theorem made_k1 (B : Nat) (nm : ByteArray) (pos : Int) (x0 x1 x2 : PArg) (A : Option Addr) (c : Nat) (a b : Int) (w : World) (ha : ARead w B (.slice A 3 c) [x0, x1, x2]) (hB : B ≤ w.heap.size) :
    Calls Tryz.prog 27 #[.agg #[.string nm, .int .i64 pos, .int .u8 1, .slice A 3 c], .int .i64 a, .int .i64 b] w fun e w' => e = .returned (madeN ⟨nm, pos, 1, [x0, x1, x2]⟩ a b).val ∧ Below w.heap.size w w' := by
  obtain ⟨g, off, rfl, hg, -⟩ := ARead.num (l := [x0, x1, x2]) ha (Nat.succ_pos _)
  go_enter Tryz.func27, Tryz.ntmps27
  obtain ⟨sc, hsc⟩ : ∃ sc : Array Value, sc = #[.string nm, .int .i64 pos, .int .u8 1, .slice (some ⟨g, off, none⟩) 3 c] := ⟨_, rfl⟩
  have hb1 := (Below.refl w.heap.size w).alloc (Nat.le_refl _) (.cells sc 38)
  have hb2 := hb1.alloc hb1.size (.cells zcells 25)
  have hs2 := (Below.heap_alloc _ (.cells zcells 25) w.heap.size (by simp)).trans (heap_alloc_new w (.cells sc 38))
  have hr2 := heap_alloc_new (w.alloc (.cells sc 38)) (.cells zcells 25)
  rw [World.size_alloc] at hr2
  rw [hsc] at hb1 hb2 hs2 hr2
  go_upto_region 1 with (fail)
  obtain ⟨X, hX⟩ : ∃ X, X = (w.alloc (.cells #[.string nm, .int .i64 pos, .int .u8 1, .slice (some ⟨g, off, none⟩) 3 c] 38)).alloc (.cells zcells 25) := ⟨_, rfl⟩
  have hX2 : X = (w.alloc (.cells #[.string nm, .int .i64 pos, .int .u8 1, .slice (some ⟨g, off, none⟩) 3 c] 38)).alloc (.cells #[.int .u8 0, .float .f64 0, .float .f64 0, .float .f64 0, .float .f64 0, .float .f64 0, .float .f64 0, .float .f64 0, .float .f64 0, .float .f64 0, .float .f64 0, .float .f64 0, .float .f64 0, .float .f64 0, .float .f64 0, .float .f64 0, .float .f64 0, .int .i64 0, .int .i64 0] 25) := hX
  have hXz : X.heap.size = w.heap.size + 2 := by rw [hX]; simp
  rw [← hX] at hb2 hs2 hr2
  rw [← hX2]
  obtain ⟨rb, hrb⟩ : ∃ rb, rb = w.heap.size + 1 := ⟨_, rfl⟩
  rw [← hrb] at hr2 ⊢
  obtain ⟨sb, hsb⟩ : ∃ sb, sb = w.heap.size := ⟨_, rfl⟩
  rw [← hsb] at hs2 ⊢
  have har := ha.keep fun q _ hq => hb2.block q hq
  have S2 : X.cell? ⟨sb, 2, none⟩ = some (.int .u8 1) := (cell_of_row X sb 2 _ _ _ hs2).trans rfl
  have HS := Lib.hid (And.intro hb2 (And.intro hs2 (And.intro hr2 har)))
  have HZ := Lib.hid (And.intro hXz (And.intro hrb hsb))
  have HB := Lib.hid hB
  have HG := Lib.hid hg
  clear hX hX2 hXz hb1 hb2 hs2 hr2 har hrb hsb ha hB hg hsc
  go_upto_region 2 with (first | (refine wpList_store_row rfl 25 (.tmp 7) (.tmp 12) rfl X.heap.size (nodeP 1 a b).cells.toArray rfl rfl _ _ (heap_alloc_new X _) (nd_info _) (by rw [nd_size]; rfl) (nd_one _) ?_))
  simp only [Act.put]
  have hY1 := ((HS.out.1.alloc (show w.heap.size ≤ X.heap.size by have := HZ.out; omega) (.cells zcells 25)))
  have hYn := (Below.refl X.heap.size X).alloc (Nat.le_refl _) (.cells zcells 25)
  have hY2 := below_setRow hYn (Nat.le_refl _) (nodeP 1 a b).cells.toArray
  have hYb := setRow_heap _ X.heap.size zcells (nodeP 1 a b).cells.toArray _ _ (heap_alloc_new X (.cells zcells 25))
  have hYz : X.heap.size < ((X.alloc (.cells zcells 25)).setRow X.heap.size (nodeP 1 a b).cells.toArray).heap.size := (Array.getElem?_eq_some_iff.1 hYb).1
  obtain ⟨Y0, hY0⟩ : ∃ Y0, Y0 = (X.alloc (.cells zcells 25)).setRow X.heap.size (nodeP 1 a b).cells.toArray := ⟨_, rfl⟩
  have hY02 : Y0 = (X.alloc (.cells #[.int .u8 0, .float .f64 0, .float .f64 0, .float .f64 0, .float .f64 0, .float .f64 0, .float .f64 0, .float .f64 0, .float .f64 0, .float .f64 0, .float .f64 0, .float .f64 0, .float .f64 0, .float .f64 0, .float .f64 0, .float .f64 0, .float .f64 0, .int .i64 0, .int .i64 0] 25)).setRow X.heap.size (nodeP 1 a b).cells.toArray := hY0
  rw [← hY0] at hY2 hYb hYz
  rw [← hY02]
  obtain ⟨nb, hnb⟩ : ∃ nb, nb = X.heap.size := ⟨_, rfl⟩
  have mw : MW B w sb nb rb #[.string nm, .int .i64 pos, .int .u8 1, .slice (some ⟨g, off, none⟩) 3 c] (some ⟨g, off, none⟩) c [x0, x1, x2] Y0 := by
    obtain ⟨z1, z2, z3⟩ := HZ.out
    refine ⟨HS.out.1.trans (hY2.mono (by omega)), (hY2.block sb (by omega)).trans HS.out.2.1, HS.out.2.2.2.keep fun q _ hq => hY2.block q hq, ⟨zcells, rfl, (hY2.block rb (by omega)).trans HS.out.2.2.1⟩, by omega, by omega, by omega, by omega, HB.out, by omega⟩
  have hnb0 : NBlk Y0 nb (nodeP 1 a b) := by rw [hnb]; exact hYb
  rw [← hnb]
  clear hY1 hYn hY2 hYb hYz hY0 hY02 hnb S2 HS HZ HB
  have hl0 : (nodeP 1 a b).x.length = 16 := rfl
  have S2 : Y0.cell? ⟨sb, 2, none⟩ = some (.int .u8 1) := (cell_of_row Y0 sb 2 _ _ _ mw.st).trans rfl
  have S3 : Y0.cell? ⟨sb, 3, none⟩ = some (.slice (some ⟨g, off, none⟩) 3 c) := (cell_of_row Y0 sb 3 _ _ _ mw.st).trans rfl
  have S0 : Y0.cell? ⟨sb, 0, none⟩ = some (.string nm) := (cell_of_row Y0 sb 0 _ _ _ mw.st).trans rfl
  have S1 : Y0.cell? ⟨sb, 1, none⟩ = some (.int .i64 pos) := (cell_of_row Y0 sb 1 _ _ _ mw.st).trans rfl
  have R3 : Calls Tryz.prog 44 #[.agg #[.string nm, .int .i64 pos, .int .u8 1, .slice (some ⟨g, off, none⟩) 3 c], .int .i64 0] Y0 fun e w' => e = .returned (.agg #[.float .f64 x0.num, .float .f64 x1.num, .float .f64 x2.num]) ∧ Below Y0.heap.size Y0 w' :=
    three_ref B ⟨nm, pos, 1, [x0, x1, x2]⟩ (some ⟨g, off, none⟩) c 0 (by show 0 + 2 < 3; omega) (by show 3 ≤ 1000; omega) Y0 mw.ar (Nat.le_trans mw.sw.2.2.2.1 mw.low.size)
  have MWH := Lib.hid mw
  have NBH := Lib.hid hnb0
  have R3H := Lib.hid R3
  clear mw hnb0 R3
  go_wp2_with fail
  refine R3H.out.mono ?_
  rintro e u ⟨rfl, hBu⟩
  have hnu : NBlk u nb (nodeP 1 a b) := (hBu.block nb MWH.out.nl).trans NBH.out
  have mwu := MWH.out.ext hBu
  have C0 : u.cell? ⟨nb, 1, none⟩ = some (.float .f64 ((nodeP 1 a b).f 1)) := (hnu.cell 1).trans ((nodeP 1 a b).cell_f 1 (by omega) (by omega))
  have F0 := hnu.frozen 1
  have C1 : u.cell? ⟨nb, 2, none⟩ = some (.float .f64 ((nodeP 1 a b).f 2)) := (hnu.cell 2).trans ((nodeP 1 a b).cell_f 2 (by omega) (by omega))
  have F1 := hnu.frozen 2
  have C2 : u.cell? ⟨nb, 3, none⟩ = some (.float .f64 ((nodeP 1 a b).f 3)) := (hnu.cell 3).trans ((nodeP 1 a b).cell_f 3 (by omega) (by omega))
  have F2 := hnu.frozen 3
  have MW2 := Lib.hid (((mwu.set 1 (.float .f64 x0.num)).set 2 (.float .f64 x1.num)).set 3 (.float .f64 x2.num))
  have NB2 := Lib.hid (nblk_put3 hnu hl0 1 x0.num x1.num x2.num (by omega) (by omega))
  have hl1 : (Nd.put (Nd.put (Nd.put (nodeP 1 a b) 1 x0.num) 2 x1.num) 3 x2.num).x.length = 16 := (Nd.put_len _ _ _).trans ((Nd.put_len _ _ _).trans ((Nd.put_len _ _ _).trans hl0))
  clear mwu hnu hBu MWH NBH R3H S0 S1 S2 S3
  go_upto_region 19 with (fail)
  obtain ⟨Y1, hY1⟩ : ∃ Y1, Y1 = ((u.setCell ⟨nb, 1, none⟩ (.float .f64 x0.num)).setCell ⟨nb, 2, none⟩ (.float .f64 x1.num)).setCell ⟨nb, 3, none⟩ (.float .f64 x2.num) := ⟨_, rfl⟩
  have mw := MW2.out
  have hnb1 := NB2.out
  change NBlk (((u.setCell ⟨nb, 1, none⟩ (.float .f64 x0.num)).setCell ⟨nb, 2, none⟩ (.float .f64 x1.num)).setCell ⟨nb, 3, none⟩ (.float .f64 x2.num)) nb _ at hnb1
  rw [← hY1] at mw hnb1 ⊢
  clear hY1 MW2 NB2 C0 C1 C2 F0 F1 F2
  obtain ⟨cs, hcs, hrs⟩ := mw.rs
  have hout := setRow_heap Y1 rb cs (Nd.put (Nd.put (Nd.put (nodeP 1 a b) 1 x0.num) 2 x1.num) 3 x2.num).cells.toArray _ _ hrs
  have hlow := below_setRow mw.low mw.sw.2.2.2.2 (Nd.put (Nd.put (Nd.put (nodeP 1 a b) 1 x0.num) 2 x1.num) 3 x2.num).cells.toArray
  have HOUT := Lib.hid (And.intro hout hlow)
  have HNB := Lib.hid hnb1
  have HRS := Lib.hid (And.intro hcs hrs)
  clear hout hlow hnb1 hcs hrs mw
  obtain ⟨nn, hnn⟩ : ∃ nn, nn = (Nd.put (Nd.put (Nd.put (nodeP 1 a b) 1 x0.num) 2 x1.num) 3 x2.num) := ⟨_, rfl⟩
  rw [← hnn] at HOUT HNB
  have HNN := Lib.hid hnn
  clear hnn
  go_wp2_with (first | (refine wpList_load_nd_g _ ?_ (.tmp 7) rfl nb rfl nn HNB.out ?_; rotate_right) | (refine wpList_store_row rfl 25 (.tmp 6) (.tmp 76) rfl rb nn.cells.toArray rfl rfl _ _ HRS.out.2 (nd_info _) (by rw [nd_size]; exact HRS.out.1) (nd_one _) ?_))
  exact bodyPost_ret (v := nn.val) (results_made _ _ rb nn rfl HOUT.out.1) rfl ⟨by rw [HNN.out]; rfl, HOUT.out.2⟩
set_option maxRecDepth 100000 in
set_option maxHeartbeats 2000000 in
theorem made_k2 (B : Nat) (nm : ByteArray) (pos : Int) (x0 x1 x2 x3 : PArg) (A : Option Addr) (c : Nat) (a b : Int) (w : World) (ha : ARead w B (.slice A 4 c) [x0, x1, x2, x3]) (hB : B ≤ w.heap.size) :
    Calls Tryz.prog 27 #[.agg #[.string nm, .int .i64 pos, .int .u8 2, .slice A 4 c], .int .i64 a, .int .i64 b] w fun e w' => e = .returned (madeN ⟨nm, pos, 2, [x0, x1, x2, x3]⟩ a b).val ∧ Below w.heap.size w w' := by
  obtain ⟨g, off, rfl, hg, -⟩ := ARead.num (l := [x0, x1, x2, x3]) ha (Nat.succ_pos _)
  go_enter Tryz.func27, Tryz.ntmps27
  obtain ⟨sc, hsc⟩ : ∃ sc : Array Value, sc = #[.string nm, .int .i64 pos, .int .u8 2, .slice (some ⟨g, off, none⟩) 4 c] := ⟨_, rfl⟩
  have hb1 := (Below.refl w.heap.size w).alloc (Nat.le_refl _) (.cells sc 38)
  have hb2 := hb1.alloc hb1.size (.cells zcells 25)
  have hs2 := (Below.heap_alloc _ (.cells zcells 25) w.heap.size (by simp)).trans (heap_alloc_new w (.cells sc 38))
  have hr2 := heap_alloc_new (w.alloc (.cells sc 38)) (.cells zcells 25)
  rw [World.size_alloc] at hr2
  rw [hsc] at hb1 hb2 hs2 hr2
  go_upto_region 1 with (fail)
  obtain ⟨X, hX⟩ : ∃ X, X = (w.alloc (.cells #[.string nm, .int .i64 pos, .int .u8 2, .slice (some ⟨g, off, none⟩) 4 c] 38)).alloc (.cells zcells 25) := ⟨_, rfl⟩
  have hX2 : X = (w.alloc (.cells #[.string nm, .int .i64 pos, .int .u8 2, .slice (some ⟨g, off, none⟩) 4 c] 38)).alloc (.cells #[.int .u8 0, .float .f64 0, .float .f64 0, .float .f64 0, .float .f64 0, .float .f64 0, .float .f64 0, .float .f64 0, .float .f64 0, .float .f64 0, .float .f64 0, .float .f64 0, .float .f64 0, .float .f64 0, .float .f64 0, .float .f64 0, .float .f64 0, .int .i64 0, .int .i64 0] 25) := hX
  have hXz : X.heap.size = w.heap.size + 2 := by rw [hX]; simp
  rw [← hX] at hb2 hs2 hr2
  rw [← hX2]
  obtain ⟨rb, hrb⟩ : ∃ rb, rb = w.heap.size + 1 := ⟨_, rfl⟩
  rw [← hrb] at hr2 ⊢
  obtain ⟨sb, hsb⟩ : ∃ sb, sb = w.heap.size := ⟨_, rfl⟩
  rw [← hsb] at hs2 ⊢
  have har := ha.keep fun q _ hq => hb2.block q hq
  have S2 : X.cell? ⟨sb, 2, none⟩ = some (.int .u8 2) := (cell_of_row X sb 2 _ _ _ hs2).trans rfl
  have HS := Lib.hid (And.intro hb2 (And.intro hs2 (And.intro hr2 har)))
  have HZ := Lib.hid (And.intro hXz (And.intro hrb hsb))
  have HB := Lib.hid hB
  have HG := Lib.hid hg
  clear hX hX2 hXz hb1 hb2 hs2 hr2 har hrb hsb ha hB hg hsc
  go_upto_region 2 with (first | (refine wpList_store_row rfl 25 (.tmp 7) (.tmp 12) rfl X.heap.size (nodeP 2 a b).cells.toArray rfl rfl _ _ (heap_alloc_new X _) (nd_info _) (by rw [nd_size]; rfl) (nd_one _) ?_))
  simp only [Act.put]
  have hY1 := ((HS.out.1.alloc (show w.heap.size ≤ X.heap.size by have := HZ.out; omega) (.cells zcells 25)))
  have hYn := (Below.refl X.heap.size X).alloc (Nat.le_refl _) (.cells zcells 25)
  have hY2 := below_setRow hYn (Nat.le_refl _) (nodeP 2 a b).cells.toArray
  have hYb := setRow_heap _ X.heap.size zcells (nodeP 2 a b).cells.toArray _ _ (heap_alloc_new X (.cells zcells 25))
  have hYz : X.heap.size < ((X.alloc (.cells zcells 25)).setRow X.heap.size (nodeP 2 a b).cells.toArray).heap.size := (Array.getElem?_eq_some_iff.1 hYb).1
  obtain ⟨Y0, hY0⟩ : ∃ Y0, Y0 = (X.alloc (.cells zcells 25)).setRow X.heap.size (nodeP 2 a b).cells.toArray := ⟨_, rfl⟩
  have hY02 : Y0 = (X.alloc (.cells #[.int .u8 0, .float .f64 0, .float .f64 0, .float .f64 0, .float .f64 0, .float .f64 0, .float .f64 0, .float .f64 0, .float .f64 0, .float .f64 0, .float .f64 0, .float .f64 0, .float .f64 0, .float .f64 0, .float .f64 0, .float .f64 0, .float .f64 0, .int .i64 0, .int .i64 0] 25)).setRow X.heap.size (nodeP 2 a b).cells.toArray := hY0
  rw [← hY0] at hY2 hYb hYz
  rw [← hY02]
  obtain ⟨nb, hnb⟩ : ∃ nb, nb = X.heap.size := ⟨_, rfl⟩
  have mw : MW B w sb nb rb #[.string nm, .int .i64 pos, .int .u8 2, .slice (some ⟨g, off, none⟩) 4 c] (some ⟨g, off, none⟩) c [x0, x1, x2, x3] Y0 := by
    obtain ⟨z1, z2, z3⟩ := HZ.out
    refine ⟨HS.out.1.trans (hY2.mono (by omega)), (hY2.block sb (by omega)).trans HS.out.2.1, HS.out.2.2.2.keep fun q _ hq => hY2.block q hq, ⟨zcells, rfl, (hY2.block rb (by omega)).trans HS.out.2.2.1⟩, by omega, by omega, by omega, by omega, HB.out, by omega⟩
  have hnb0 : NBlk Y0 nb (nodeP 2 a b) := by rw [hnb]; exact hYb
  rw [← hnb]
  clear hY1 hYn hY2 hYb hYz hY0 hY02 hnb S2 HS HZ HB
  have hl0 : (nodeP 2 a b).x.length = 16 := rfl
  have S2 : Y0.cell? ⟨sb, 2, none⟩ = some (.int .u8 2) := (cell_of_row Y0 sb 2 _ _ _ mw.st).trans rfl
  have S3 : Y0.cell? ⟨sb, 3, none⟩ = some (.slice (some ⟨g, off, none⟩) 4 c) := (cell_of_row Y0 sb 3 _ _ _ mw.st).trans rfl
  obtain ⟨g0, off0, hgo, -, hcells⟩ := ARead.num (l := [x0, x1, x2, x3]) mw.ar (Nat.succ_pos _)
  obtain ⟨rfl, rfl⟩ : g = g0 ∧ off = off0 := by simpa using hgo
  have AI : Y0.cell? ⟨g, off + 1, none⟩ = some (.float .f64 x0.num) := (hcells 0 (by show 0 < 4; omega)).2.1
  have CJ : Y0.cell? ⟨nb, 13, none⟩ = some (.float .f64 ((nodeP 2 a b).f 13)) := (hnb0.cell 13).trans ((nodeP 2 a b).cell_f 13 (by omega) (by omega))
  have FJ := hnb0.frozen 13
  have MWH := Lib.hid (mw.set 13 (.float .f64 x0.num))
  have NBH := Lib.hid (nblk_put hnb0 hl0 13 x0.num (by omega) (by omega))
  have hl1 : (Nd.put (nodeP 2 a b) 13 x0.num).x.length = 16 := (Nd.put_len _ _ _).trans hl0
  clear mw hcells hnb0 hgo
  go_upto_region 9 with (fail)
  obtain ⟨Y1, hY1⟩ : ∃ Y1, Y1 = Y0.setCell ⟨nb, 13, none⟩ (.float .f64 x0.num) := ⟨_, rfl⟩
  have mw := MWH.out
  have hnb1 := NBH.out
  rw [← hY1] at mw hnb1 ⊢
  clear hY1 MWH NBH S3 AI CJ FJ S2
  have S3 : Y1.cell? ⟨sb, 3, none⟩ = some (.slice (some ⟨g, off, none⟩) 4 c) := (cell_of_row Y1 sb 3 _ _ _ mw.st).trans rfl
  have S0 : Y1.cell? ⟨sb, 0, none⟩ = some (.string nm) := (cell_of_row Y1 sb 0 _ _ _ mw.st).trans rfl
  have S1 : Y1.cell? ⟨sb, 1, none⟩ = some (.int .i64 pos) := (cell_of_row Y1 sb 1 _ _ _ mw.st).trans rfl
  have S2 : Y1.cell? ⟨sb, 2, none⟩ = some (.int .u8 2) := (cell_of_row Y1 sb 2 _ _ _ mw.st).trans rfl
  have R3 : Calls Tryz.prog 44 #[.agg #[.string nm, .int .i64 pos, .int .u8 2, .slice (some ⟨g, off, none⟩) 4 c], .int .i64 1] Y1 fun e w' => e = .returned (.agg #[.float .f64 x1.num, .float .f64 x2.num, .float .f64 x3.num]) ∧ Below Y1.heap.size Y1 w' :=
    three_ref B ⟨nm, pos, 2, [x0, x1, x2, x3]⟩ (some ⟨g, off, none⟩) c 1 (by show 1 + 2 < 4; omega) (by show 4 ≤ 1000; omega) Y1 mw.ar (Nat.le_trans mw.sw.2.2.2.1 mw.low.size)
  have MWH := Lib.hid mw
  have NBH := Lib.hid hnb1
  have R3H := Lib.hid R3
  clear mw hnb1 R3
  go_wp2_with fail
  refine R3H.out.mono ?_
  rintro e u ⟨rfl, hBu⟩
  have hnu : NBlk u nb (Nd.put (nodeP 2 a b) 13 x0.num) := (hBu.block nb MWH.out.nl).trans NBH.out
  have mwu := MWH.out.ext hBu
  have C0 : u.cell? ⟨nb, 1, none⟩ = some (.float .f64 ((Nd.put (nodeP 2 a b) 13 x0.num).f 1)) := (hnu.cell 1).trans ((Nd.put (nodeP 2 a b) 13 x0.num).cell_f 1 (by omega) (by omega))
  have F0 := hnu.frozen 1
  have C1 : u.cell? ⟨nb, 2, none⟩ = some (.float .f64 ((Nd.put (nodeP 2 a b) 13 x0.num).f 2)) := (hnu.cell 2).trans ((Nd.put (nodeP 2 a b) 13 x0.num).cell_f 2 (by omega) (by omega))
  have F1 := hnu.frozen 2
  have C2 : u.cell? ⟨nb, 3, none⟩ = some (.float .f64 ((Nd.put (nodeP 2 a b) 13 x0.num).f 3)) := (hnu.cell 3).trans ((Nd.put (nodeP 2 a b) 13 x0.num).cell_f 3 (by omega) (by omega))
  have F2 := hnu.frozen 3
  have MW2 := Lib.hid (((mwu.set 1 (.float .f64 x1.num)).set 2 (.float .f64 x2.num)).set 3 (.float .f64 x3.num))
  have NB2 := Lib.hid (nblk_put3 hnu hl1 1 x1.num x2.num x3.num (by omega) (by omega))
  have hl2 : (Nd.put (Nd.put (Nd.put (Nd.put (nodeP 2 a b) 13 x0.num) 1 x1.num) 2 x2.num) 3 x3.num).x.length = 16 := (Nd.put_len _ _ _).trans ((Nd.put_len _ _ _).trans ((Nd.put_len _ _ _).trans hl1))
  clear mwu hnu hBu MWH NBH R3H S0 S1 S2 S3
  go_upto_region 19 with (fail)
  obtain ⟨Y2, hY2⟩ : ∃ Y2, Y2 = ((u.setCell ⟨nb, 1, none⟩ (.float .f64 x1.num)).setCell ⟨nb, 2, none⟩ (.float .f64 x2.num)).setCell ⟨nb, 3, none⟩ (.float .f64 x3.num) := ⟨_, rfl⟩
  have mw := MW2.out
  have hnb2 := NB2.out
  change NBlk (((u.setCell ⟨nb, 1, none⟩ (.float .f64 x1.num)).setCell ⟨nb, 2, none⟩ (.float .f64 x2.num)).setCell ⟨nb, 3, none⟩ (.float .f64 x3.num)) nb _ at hnb2
  rw [← hY2] at mw hnb2 ⊢
  clear hY2 MW2 NB2 C0 C1 C2 F0 F1 F2
  obtain ⟨cs, hcs, hrs⟩ := mw.rs
  have hout := setRow_heap Y2 rb cs (Nd.put (Nd.put (Nd.put (Nd.put (nodeP 2 a b) 13 x0.num) 1 x1.num) 2 x2.num) 3 x3.num).cells.toArray _ _ hrs
  have hlow := below_setRow mw.low mw.sw.2.2.2.2 (Nd.put (Nd.put (Nd.put (Nd.put (nodeP 2 a b) 13 x0.num) 1 x1.num) 2 x2.num) 3 x3.num).cells.toArray
  have HOUT := Lib.hid (And.intro hout hlow)
  have HNB := Lib.hid hnb2
  have HRS := Lib.hid (And.intro hcs hrs)
  clear hout hlow hnb2 hcs hrs mw
  obtain ⟨nn, hnn⟩ : ∃ nn, nn = (Nd.put (Nd.put (Nd.put (Nd.put (nodeP 2 a b) 13 x0.num) 1 x1.num) 2 x2.num) 3 x3.num) := ⟨_, rfl⟩
  rw [← hnn] at HOUT HNB
  have HNN := Lib.hid hnn
  clear hnn
  go_wp2_with (first | (refine wpList_load_nd_g _ ?_ (.tmp 7) rfl nb rfl nn HNB.out ?_; rotate_right) | (refine wpList_store_row rfl 25 (.tmp 6) (.tmp 76) rfl rb nn.cells.toArray rfl rfl _ _ HRS.out.2 (nd_info _) (by rw [nd_size]; exact HRS.out.1) (nd_one _) ?_))
  exact bodyPost_ret (v := nn.val) (results_made _ _ rb nn rfl HOUT.out.1) rfl ⟨by rw [HNN.out]; rfl, HOUT.out.2⟩
set_option maxRecDepth 100000 in
set_option maxHeartbeats 2000000 in
theorem made_k3 (B : Nat) (nm : ByteArray) (pos : Int) (x0 x1 : PArg) (A : Option Addr) (c : Nat) (a b : Int) (w : World) (ha : ARead w B (.slice A 2 c) [x0, x1]) (hB : B ≤ w.heap.size) :
    Calls Tryz.prog 27 #[.agg #[.string nm, .int .i64 pos, .int .u8 3, .slice A 2 c], .int .i64 a, .int .i64 b] w fun e w' => e = .returned (madeN ⟨nm, pos, 3, [x0, x1]⟩ a b).val ∧ Below w.heap.size w w' := by
  obtain ⟨g, off, rfl, hg, -⟩ := ARead.num (l := [x0, x1]) ha (Nat.succ_pos _)
  go_enter Tryz.func27, Tryz.ntmps27
  obtain ⟨sc, hsc⟩ : ∃ sc : Array Value, sc = #[.string nm, .int .i64 pos, .int .u8 3, .slice (some ⟨g, off, none⟩) 2 c] := ⟨_, rfl⟩
  have hb1 := (Below.refl w.heap.size w).alloc (Nat.le_refl _) (.cells sc 38)
  have hb2 := hb1.alloc hb1.size (.cells zcells 25)
  have hs2 := (Below.heap_alloc _ (.cells zcells 25) w.heap.size (by simp)).trans (heap_alloc_new w (.cells sc 38))
  have hr2 := heap_alloc_new (w.alloc (.cells sc 38)) (.cells zcells 25)
  rw [World.size_alloc] at hr2
  rw [hsc] at hb1 hb2 hs2 hr2
  go_upto_region 1 with (fail)
  obtain ⟨X, hX⟩ : ∃ X, X = (w.alloc (.cells #[.string nm, .int .i64 pos, .int .u8 3, .slice (some ⟨g, off, none⟩) 2 c] 38)).alloc (.cells zcells 25) := ⟨_, rfl⟩
  have hX2 : X = (w.alloc (.cells #[.string nm, .int .i64 pos, .int .u8 3, .slice (some ⟨g, off, none⟩) 2 c] 38)).alloc (.cells #[.int .u8 0, .float .f64 0, .float .f64 0, .float .f64 0, .float .f64 0, .float .f64 0, .float .f64 0, .float .f64 0, .float .f64 0, .float .f64 0, .float .f64 0, .float .f64 0, .float .f64 0, .float .f64 0, .float .f64 0, .float .f64 0, .float .f64 0, .int .i64 0, .int .i64 0] 25) := hX
  have hXz : X.heap.size = w.heap.size + 2 := by rw [hX]; simp
  rw [← hX] at hb2 hs2 hr2
  rw [← hX2]
  obtain ⟨rb, hrb⟩ : ∃ rb, rb = w.heap.size + 1 := ⟨_, rfl⟩
  rw [← hrb] at hr2 ⊢
  obtain ⟨sb, hsb⟩ : ∃ sb, sb = w.heap.size := ⟨_, rfl⟩
  rw [← hsb] at hs2 ⊢
  have har := ha.keep fun q _ hq => hb2.block q hq
  have S2 : X.cell? ⟨sb, 2, none⟩ = some (.int .u8 3) := (cell_of_row X sb 2 _ _ _ hs2).trans rfl
  have HS := Lib.hid (And.intro hb2 (And.intro hs2 (And.intro hr2 har)))
  have HZ := Lib.hid (And.intro hXz (And.intro hrb hsb))
  have HB := Lib.hid hB
  have HG := Lib.hid hg
  clear hX hX2 hXz hb1 hb2 hs2 hr2 har hrb hsb ha hB hg hsc
  go_upto_region 2 with (first | (refine wpList_store_row rfl 25 (.tmp 7) (.tmp 12) rfl X.heap.size (nodeP 3 a b).cells.toArray rfl rfl _ _ (heap_alloc_new X _) (nd_info _) (by rw [nd_size]; rfl) (nd_one _) ?_))
  simp only [Act.put]
  have hY1 := ((HS.out.1.alloc (show w.heap.size ≤ X.heap.size by have := HZ.out; omega) (.cells zcells 25)))
  have hYn := (Below.refl X.heap.size X).alloc (Nat.le_refl _) (.cells zcells 25)
  have hY2 := below_setRow hYn (Nat.le_refl _) (nodeP 3 a b).cells.toArray
  have hYb := setRow_heap _ X.heap.size zcells (nodeP 3 a b).cells.toArray _ _ (heap_alloc_new X (.cells zcells 25))
  have hYz : X.heap.size < ((X.alloc (.cells zcells 25)).setRow X.heap.size (nodeP 3 a b).cells.toArray).heap.size := (Array.getElem?_eq_some_iff.1 hYb).1
  obtain ⟨Y0, hY0⟩ : ∃ Y0, Y0 = (X.alloc (.cells zcells 25)).setRow X.heap.size (nodeP 3 a b).cells.toArray := ⟨_, rfl⟩
  have hY02 : Y0 = (X.alloc (.cells #[.int .u8 0, .float .f64 0, .float .f64 0, .float .f64 0, .float .f64 0, .float .f64 0, .float .f64 0, .float .f64 0, .float .f64 0, .float .f64 0, .float .f64 0, .float .f64 0, .float .f64 0, .float .f64 0, .float .f64 0, .float .f64 0, .float .f64 0, .int .i64 0, .int .i64 0] 25)).setRow X.heap.size (nodeP 3 a b).cells.toArray := hY0
  rw [← hY0] at hY2 hYb hYz
  rw [← hY02]
  obtain ⟨nb, hnb⟩ : ∃ nb, nb = X.heap.size := ⟨_, rfl⟩
  have mw : MW B w sb nb rb #[.string nm, .int .i64 pos, .int .u8 3, .slice (some ⟨g, off, none⟩) 2 c] (some ⟨g, off, none⟩) c [x0, x1] Y0 := by
    obtain ⟨z1, z2, z3⟩ := HZ.out
    refine ⟨HS.out.1.trans (hY2.mono (by omega)), (hY2.block sb (by omega)).trans HS.out.2.1, HS.out.2.2.2.keep fun q _ hq => hY2.block q hq, ⟨zcells, rfl, (hY2.block rb (by omega)).trans HS.out.2.2.1⟩, by omega, by omega, by omega, by omega, HB.out, by omega⟩
  have hnb0 : NBlk Y0 nb (nodeP 3 a b) := by rw [hnb]; exact hYb
  rw [← hnb]
  clear hY1 hYn hY2 hYb hYz hY0 hY02 hnb S2 HS HZ HB
  have hl0 : (nodeP 3 a b).x.length = 16 := rfl
  have S2 : Y0.cell? ⟨sb, 2, none⟩ = some (.int .u8 3) := (cell_of_row Y0 sb 2 _ _ _ mw.st).trans rfl
  have S3 : Y0.cell? ⟨sb, 3, none⟩ = some (.slice (some ⟨g, off, none⟩) 2 c) := (cell_of_row Y0 sb 3 _ _ _ mw.st).trans rfl
  obtain ⟨g0, off0, hgo, -, hcells⟩ := ARead.num (l := [x0, x1]) mw.ar (Nat.succ_pos _)
  obtain ⟨rfl, rfl⟩ : g = g0 ∧ off = off0 := by simpa using hgo
  have AI : Y0.cell? ⟨g, off + 1, none⟩ = some (.float .f64 x0.num) := (hcells 0 (by show 0 < 2; omega)).2.1
  have CJ : Y0.cell? ⟨nb, 14, none⟩ = some (.float .f64 ((nodeP 3 a b).f 14)) := (hnb0.cell 14).trans ((nodeP 3 a b).cell_f 14 (by omega) (by omega))
  have FJ := hnb0.frozen 14
  have MWH := Lib.hid (mw.set 14 (.float .f64 x0.num))
  have NBH := Lib.hid (nblk_put hnb0 hl0 14 x0.num (by omega) (by omega))
  have hl1 : (Nd.put (nodeP 3 a b) 14 x0.num).x.length = 16 := (Nd.put_len _ _ _).trans hl0
  clear mw hcells hnb0 hgo
  go_upto_region 12 with (fail)
  obtain ⟨Y1, hY1⟩ : ∃ Y1, Y1 = Y0.setCell ⟨nb, 14, none⟩ (.float .f64 x0.num) := ⟨_, rfl⟩
  have mw := MWH.out
  have hnb1 := NBH.out
  rw [← hY1] at mw hnb1 ⊢
  clear hY1 MWH NBH S3 AI CJ FJ S2
  have S3 : Y1.cell? ⟨sb, 3, none⟩ = some (.slice (some ⟨g, off, none⟩) 2 c) := (cell_of_row Y1 sb 3 _ _ _ mw.st).trans rfl
  obtain ⟨g0, off0, hgo, -, hcells⟩ := ARead.num (l := [x0, x1]) mw.ar (Nat.succ_pos _)
  obtain ⟨rfl, rfl⟩ : g = g0 ∧ off = off0 := by simpa using hgo
  have AI : Y1.cell? ⟨g, off + 3 + 1, none⟩ = some (.float .f64 x1.num) := (hcells 1 (by show 1 < 2; omega)).2.1
  have CJ : Y1.cell? ⟨nb, 15, none⟩ = some (.float .f64 ((Nd.put (nodeP 3 a b) 14 x0.num).f 15)) := (hnb1.cell 15).trans ((Nd.put (nodeP 3 a b) 14 x0.num).cell_f 15 (by omega) (by omega))
  have FJ := hnb1.frozen 15
  have MWH := Lib.hid (mw.set 15 (.float .f64 x1.num))
  have NBH := Lib.hid (nblk_put hnb1 hl1 15 x1.num (by omega) (by omega))
  have hl2 : (Nd.put (Nd.put (nodeP 3 a b) 14 x0.num) 15 x1.num).x.length = 16 := (Nd.put_len _ _ _).trans hl1
  clear mw hcells hnb1 hgo
  go_upto_region 19 with (fail)
  obtain ⟨Y2, hY2⟩ : ∃ Y2, Y2 = Y1.setCell ⟨nb, 15, none⟩ (.float .f64 x1.num) := ⟨_, rfl⟩
  have mw := MWH.out
  have hnb2 := NBH.out
  rw [← hY2] at mw hnb2 ⊢
  clear hY2 MWH NBH S3 AI CJ FJ
  obtain ⟨cs, hcs, hrs⟩ := mw.rs
  have hout := setRow_heap Y2 rb cs (Nd.put (Nd.put (nodeP 3 a b) 14 x0.num) 15 x1.num).cells.toArray _ _ hrs
  have hlow := below_setRow mw.low mw.sw.2.2.2.2 (Nd.put (Nd.put (nodeP 3 a b) 14 x0.num) 15 x1.num).cells.toArray
  have HOUT := Lib.hid (And.intro hout hlow)
  have HNB := Lib.hid hnb2
  have HRS := Lib.hid (And.intro hcs hrs)
  clear hout hlow hnb2 hcs hrs mw
  obtain ⟨nn, hnn⟩ : ∃ nn, nn = (Nd.put (Nd.put (nodeP 3 a b) 14 x0.num) 15 x1.num) := ⟨_, rfl⟩
  rw [← hnn] at HOUT HNB
  have HNN := Lib.hid hnn
  clear hnn
  go_wp2_with (first | (refine wpList_load_nd_g _ ?_ (.tmp 7) rfl nb rfl nn HNB.out ?_; rotate_right) | (refine wpList_store_row rfl 25 (.tmp 6) (.tmp 76) rfl rb nn.cells.toArray rfl rfl _ _ HRS.out.2 (nd_info _) (by rw [nd_size]; exact HRS.out.1) (nd_one _) ?_))
  exact bodyPost_ret (v := nn.val) (results_made _ _ rb nn rfl HOUT.out.1) rfl ⟨by rw [HNN.out]; rfl, HOUT.out.2⟩
set_option maxRecDepth 100000 in
set_option maxHeartbeats 2000000 in
theorem made_k4 (B : Nat) (nm : ByteArray) (pos : Int) (x0 x1 x2 x3 x4 x5 x6 : PArg) (A : Option Addr) (c : Nat) (a b : Int) (w : World) (ha : ARead w B (.slice A 7 c) [x0, x1, x2, x3, x4, x5, x6]) (hB : B ≤ w.heap.size) :
    Calls Tryz.prog 27 #[.agg #[.string nm, .int .i64 pos, .int .u8 4, .slice A 7 c], .int .i64 a, .int .i64 b] w fun e w' => e = .returned (madeN ⟨nm, pos, 4, [x0, x1, x2, x3, x4, x5, x6]⟩ a b).val ∧ Below w.heap.size w w' := by
  obtain ⟨g, off, rfl, hg, -⟩ := ARead.num (l := [x0, x1, x2, x3, x4, x5, x6]) ha (Nat.succ_pos _)
  go_enter Tryz.func27, Tryz.ntmps27
  obtain ⟨sc, hsc⟩ : ∃ sc : Array Value, sc = #[.string nm, .int .i64 pos, .int .u8 4, .slice (some ⟨g, off, none⟩) 7 c] := ⟨_, rfl⟩
  have hb1 := (Below.refl w.heap.size w).alloc (Nat.le_refl _) (.cells sc 38)
  have hb2 := hb1.alloc hb1.size (.cells zcells 25)
  have hs2 := (Below.heap_alloc _ (.cells zcells 25) w.heap.size (by simp)).trans (heap_alloc_new w (.cells sc 38))
  have hr2 := heap_alloc_new (w.alloc (.cells sc 38)) (.cells zcells 25)
  rw [World.size_alloc] at hr2
  rw [hsc] at hb1 hb2 hs2 hr2
  go_upto_region 1 with (fail)
  obtain ⟨X, hX⟩ : ∃ X, X = (w.alloc (.cells #[.string nm, .int .i64 pos, .int .u8 4, .slice (some ⟨g, off, none⟩) 7 c] 38)).alloc (.cells zcells 25) := ⟨_, rfl⟩
  have hX2 : X = (w.alloc (.cells #[.string nm, .int .i64 pos, .int .u8 4, .slice (some ⟨g, off, none⟩) 7 c] 38)).alloc (.cells #[.int .u8 0, .float .f64 0, .float .f64 0, .float .f64 0, .float .f64 0, .float .f64 0, .float .f64 0, .float .f64 0, .float .f64 0, .float .f64 0, .float .f64 0, .float .f64 0, .float .f64 0, .float .f64 0, .float .f64 0, .float .f64 0, .float .f64 0, .int .i64 0, .int .i64 0] 25) := hX
  have hXz : X.heap.size = w.heap.size + 2 := by rw [hX]; simp
  rw [← hX] at hb2 hs2 hr2
  rw [← hX2]
  obtain ⟨rb, hrb⟩ : ∃ rb, rb = w.heap.size + 1 := ⟨_, rfl⟩
  rw [← hrb] at hr2 ⊢
  obtain ⟨sb, hsb⟩ : ∃ sb, sb = w.heap.size := ⟨_, rfl⟩
  rw [← hsb] at hs2 ⊢
  have har := ha.keep fun q _ hq => hb2.block q hq
  have S2 : X.cell? ⟨sb, 2, none⟩ = some (.int .u8 4) := (cell_of_row X sb 2 _ _ _ hs2).trans rfl
  have HS := Lib.hid (And.intro hb2 (And.intro hs2 (And.intro hr2 har)))
  have HZ := Lib.hid (And.intro hXz (And.intro hrb hsb))
  have HB := Lib.hid hB
  have HG := Lib.hid hg
  clear hX hX2 hXz hb1 hb2 hs2 hr2 har hrb hsb ha hB hg hsc
  go_upto_region 2 with (first | (refine wpList_store_row rfl 25 (.tmp 7) (.tmp 12) rfl X.heap.size (nodeP 4 a b).cells.toArray rfl rfl _ _ (heap_alloc_new X _) (nd_info _) (by rw [nd_size]; rfl) (nd_one _) ?_))
  simp only [Act.put]
  have hY1 := ((HS.out.1.alloc (show w.heap.size ≤ X.heap.size by have := HZ.out; omega) (.cells zcells 25)))
  have hYn := (Below.refl X.heap.size X).alloc (Nat.le_refl _) (.cells zcells 25)
  have hY2 := below_setRow hYn (Nat.le_refl _) (nodeP 4 a b).cells.toArray
  have hYb := setRow_heap _ X.heap.size zcells (nodeP 4 a b).cells.toArray _ _ (heap_alloc_new X (.cells zcells 25))
  have hYz : X.heap.size < ((X.alloc (.cells zcells 25)).setRow X.heap.size (nodeP 4 a b).cells.toArray).heap.size := (Array.getElem?_eq_some_iff.1 hYb).1
  obtain ⟨Y0, hY0⟩ : ∃ Y0, Y0 = (X.alloc (.cells zcells 25)).setRow X.heap.size (nodeP 4 a b).cells.toArray := ⟨_, rfl⟩
  have hY02 : Y0 = (X.alloc (.cells #[.int .u8 0, .float .f64 0, .float .f64 0, .float .f64 0, .float .f64 0, .float .f64 0, .float .f64 0, .float .f64 0, .float .f64 0, .float .f64 0, .float .f64 0, .float .f64 0, .float .f64 0, .float .f64 0, .float .f64 0, .float .f64 0, .float .f64 0, .int .i64 0, .int .i64 0] 25)).setRow X.heap.size (nodeP 4 a b).cells.toArray := hY0
  rw [← hY0] at hY2 hYb hYz
  rw [← hY02]
  obtain ⟨nb, hnb⟩ : ∃ nb, nb = X.heap.size := ⟨_, rfl⟩
  have mw : MW B w sb nb rb #[.string nm, .int .i64 pos, .int .u8 4, .slice (some ⟨g, off, none⟩) 7 c] (some ⟨g, off, none⟩) c [x0, x1, x2, x3, x4, x5, x6] Y0 := by
    obtain ⟨z1, z2, z3⟩ := HZ.out
    refine ⟨HS.out.1.trans (hY2.mono (by omega)), (hY2.block sb (by omega)).trans HS.out.2.1, HS.out.2.2.2.keep fun q _ hq => hY2.block q hq, ⟨zcells, rfl, (hY2.block rb (by omega)).trans HS.out.2.2.1⟩, by omega, by omega, by omega, by omega, HB.out, by omega⟩
  have hnb0 : NBlk Y0 nb (nodeP 4 a b) := by rw [hnb]; exact hYb
  rw [← hnb]
  clear hY1 hYn hY2 hYb hYz hY0 hY02 hnb S2 HS HZ HB
  have hl0 : (nodeP 4 a b).x.length = 16 := rfl
  have S2 : Y0.cell? ⟨sb, 2, none⟩ = some (.int .u8 4) := (cell_of_row Y0 sb 2 _ _ _ mw.st).trans rfl
  have S3 : Y0.cell? ⟨sb, 3, none⟩ = some (.slice (some ⟨g, off, none⟩) 7 c) := (cell_of_row Y0 sb 3 _ _ _ mw.st).trans rfl
  obtain ⟨g0, off0, hgo, -, hcells⟩ := ARead.num (l := [x0, x1, x2, x3, x4, x5, x6]) mw.ar (Nat.succ_pos _)
  obtain ⟨rfl, rfl⟩ : g = g0 ∧ off = off0 := by simpa using hgo
  have AI : Y0.cell? ⟨g, off + 1, none⟩ = some (.float .f64 x0.num) := (hcells 0 (by show 0 < 7; omega)).2.1
  have CJ : Y0.cell? ⟨nb, 14, none⟩ = some (.float .f64 ((nodeP 4 a b).f 14)) := (hnb0.cell 14).trans ((nodeP 4 a b).cell_f 14 (by omega) (by omega))
  have FJ := hnb0.frozen 14
  have MWH := Lib.hid (mw.set 14 (.float .f64 x0.num))
  have NBH := Lib.hid (nblk_put hnb0 hl0 14 x0.num (by omega) (by omega))
  have hl1 : (Nd.put (nodeP 4 a b) 14 x0.num).x.length = 16 := (Nd.put_len _ _ _).trans hl0
  clear mw hcells hnb0 hgo
  go_upto_region 15 with (fail)
  obtain ⟨Y1, hY1⟩ : ∃ Y1, Y1 = Y0.setCell ⟨nb, 14, none⟩ (.float .f64 x0.num) := ⟨_, rfl⟩
  have mw := MWH.out
  have hnb1 := NBH.out
  rw [← hY1] at mw hnb1 ⊢
  clear hY1 MWH NBH S3 AI CJ FJ S2
  have S3 : Y1.cell? ⟨sb, 3, none⟩ = some (.slice (some ⟨g, off, none⟩) 7 c) := (cell_of_row Y1 sb 3 _ _ _ mw.st).trans rfl
  have S0 : Y1.cell? ⟨sb, 0, none⟩ = some (.string nm) := (cell_of_row Y1 sb 0 _ _ _ mw.st).trans rfl
  have S1 : Y1.cell? ⟨sb, 1, none⟩ = some (.int .i64 pos) := (cell_of_row Y1 sb 1 _ _ _ mw.st).trans rfl
  have S2 : Y1.cell? ⟨sb, 2, none⟩ = some (.int .u8 4) := (cell_of_row Y1 sb 2 _ _ _ mw.st).trans rfl
  have R3 : Calls Tryz.prog 44 #[.agg #[.string nm, .int .i64 pos, .int .u8 4, .slice (some ⟨g, off, none⟩) 7 c], .int .i64 1] Y1 fun e w' => e = .returned (.agg #[.float .f64 x1.num, .float .f64 x2.num, .float .f64 x3.num]) ∧ Below Y1.heap.size Y1 w' :=
    three_ref B ⟨nm, pos, 4, [x0, x1, x2, x3, x4, x5, x6]⟩ (some ⟨g, off, none⟩) c 1 (by show 1 + 2 < 7; omega) (by show 7 ≤ 1000; omega) Y1 mw.ar (Nat.le_trans mw.sw.2.2.2.1 mw.low.size)
  have MWH := Lib.hid mw
  have NBH := Lib.hid hnb1
  have R3H := Lib.hid R3
  clear mw hnb1 R3
  go_wp2_with fail
  refine R3H.out.mono ?_
  rintro e u ⟨rfl, hBu⟩
  have hnu : NBlk u nb (Nd.put (nodeP 4 a b) 14 x0.num) := (hBu.block nb MWH.out.nl).trans NBH.out
  have mwu := MWH.out.ext hBu
  have C0 : u.cell? ⟨nb, 7, none⟩ = some (.float .f64 ((Nd.put (nodeP 4 a b) 14 x0.num).f 7)) := (hnu.cell 7).trans ((Nd.put (nodeP 4 a b) 14 x0.num).cell_f 7 (by omega) (by omega))
  have F0 := hnu.frozen 7
  have C1 : u.cell? ⟨nb, 8, none⟩ = some (.float .f64 ((Nd.put (nodeP 4 a b) 14 x0.num).f 8)) := (hnu.cell 8).trans ((Nd.put (nodeP 4 a b) 14 x0.num).cell_f 8 (by omega) (by omega))
  have F1 := hnu.frozen 8
  have C2 : u.cell? ⟨nb, 9, none⟩ = some (.float .f64 ((Nd.put (nodeP 4 a b) 14 x0.num).f 9)) := (hnu.cell 9).trans ((Nd.put (nodeP 4 a b) 14 x0.num).cell_f 9 (by omega) (by omega))
  have F2 := hnu.frozen 9
  have MW2 := Lib.hid (((mwu.set 7 (.float .f64 x1.num)).set 8 (.float .f64 x2.num)).set 9 (.float .f64 x3.num))
  have NB2 := Lib.hid (nblk_put3 hnu hl1 7 x1.num x2.num x3.num (by omega) (by omega))
  have hl2 : (Nd.put (Nd.put (Nd.put (Nd.put (nodeP 4 a b) 14 x0.num) 7 x1.num) 8 x2.num) 9 x3.num).x.length = 16 := (Nd.put_len _ _ _).trans ((Nd.put_len _ _ _).trans ((Nd.put_len _ _ _).trans hl1))
  clear mwu hnu hBu MWH NBH R3H S0 S1 S2 S3
  go_upto_region 16 with (fail)
  obtain ⟨Y2, hY2⟩ : ∃ Y2, Y2 = ((u.setCell ⟨nb, 7, none⟩ (.float .f64 x1.num)).setCell ⟨nb, 8, none⟩ (.float .f64 x2.num)).setCell ⟨nb, 9, none⟩ (.float .f64 x3.num) := ⟨_, rfl⟩
  have mw := MW2.out
  have hnb2 := NB2.out
  change NBlk (((u.setCell ⟨nb, 7, none⟩ (.float .f64 x1.num)).setCell ⟨nb, 8, none⟩ (.float .f64 x2.num)).setCell ⟨nb, 9, none⟩ (.float .f64 x3.num)) nb _ at hnb2
  rw [← hY2] at mw hnb2 ⊢
  clear hY2 MW2 NB2 C0 C1 C2 F0 F1 F2
  have S3 : Y2.cell? ⟨sb, 3, none⟩ = some (.slice (some ⟨g, off, none⟩) 7 c) := (cell_of_row Y2 sb 3 _ _ _ mw.st).trans rfl
  have S0 : Y2.cell? ⟨sb, 0, none⟩ = some (.string nm) := (cell_of_row Y2 sb 0 _ _ _ mw.st).trans rfl
  have S1 : Y2.cell? ⟨sb, 1, none⟩ = some (.int .i64 pos) := (cell_of_row Y2 sb 1 _ _ _ mw.st).trans rfl
  have S2 : Y2.cell? ⟨sb, 2, none⟩ = some (.int .u8 4) := (cell_of_row Y2 sb 2 _ _ _ mw.st).trans rfl
  have R3 : Calls Tryz.prog 44 #[.agg #[.string nm, .int .i64 pos, .int .u8 4, .slice (some ⟨g, off, none⟩) 7 c], .int .i64 4] Y2 fun e w' => e = .returned (.agg #[.float .f64 x4.num, .float .f64 x5.num, .float .f64 x6.num]) ∧ Below Y2.heap.size Y2 w' :=
    three_ref B ⟨nm, pos, 4, [x0, x1, x2, x3, x4, x5, x6]⟩ (some ⟨g, off, none⟩) c 4 (by show 4 + 2 < 7; omega) (by show 7 ≤ 1000; omega) Y2 mw.ar (Nat.le_trans mw.sw.2.2.2.1 mw.low.size)
  have MWH := Lib.hid mw
  have NBH := Lib.hid hnb2
  have R3H := Lib.hid R3
  clear mw hnb2 R3
  go_wp2_with fail
  refine R3H.out.mono ?_
  rintro e u ⟨rfl, hBu⟩
  have hnu : NBlk u nb (Nd.put (Nd.put (Nd.put (Nd.put (nodeP 4 a b) 14 x0.num) 7 x1.num) 8 x2.num) 9 x3.num) := (hBu.block nb MWH.out.nl).trans NBH.out
  have mwu := MWH.out.ext hBu
  have C0 : u.cell? ⟨nb, 10, none⟩ = some (.float .f64 ((Nd.put (Nd.put (Nd.put (Nd.put (nodeP 4 a b) 14 x0.num) 7 x1.num) 8 x2.num) 9 x3.num).f 10)) := (hnu.cell 10).trans ((Nd.put (Nd.put (Nd.put (Nd.put (nodeP 4 a b) 14 x0.num) 7 x1.num) 8 x2.num) 9 x3.num).cell_f 10 (by omega) (by omega))
  have F0 := hnu.frozen 10
  have C1 : u.cell? ⟨nb, 11, none⟩ = some (.float .f64 ((Nd.put (Nd.put (Nd.put (Nd.put (nodeP 4 a b) 14 x0.num) 7 x1.num) 8 x2.num) 9 x3.num).f 11)) := (hnu.cell 11).trans ((Nd.put (Nd.put (Nd.put (Nd.put (nodeP 4 a b) 14 x0.num) 7 x1.num) 8 x2.num) 9 x3.num).cell_f 11 (by omega) (by omega))
  have F1 := hnu.frozen 11
  have C2 : u.cell? ⟨nb, 12, none⟩ = some (.float .f64 ((Nd.put (Nd.put (Nd.put (Nd.put (nodeP 4 a b) 14 x0.num) 7 x1.num) 8 x2.num) 9 x3.num).f 12)) := (hnu.cell 12).trans ((Nd.put (Nd.put (Nd.put (Nd.put (nodeP 4 a b) 14 x0.num) 7 x1.num) 8 x2.num) 9 x3.num).cell_f 12 (by omega) (by omega))
  have F2 := hnu.frozen 12
  have MW2 := Lib.hid (((mwu.set 10 (.float .f64 x4.num)).set 11 (.float .f64 x5.num)).set 12 (.float .f64 x6.num))
  have NB2 := Lib.hid (nblk_put3 hnu hl2 10 x4.num x5.num x6.num (by omega) (by omega))
  have hl3 : (Nd.put (Nd.put (Nd.put (Nd.put (Nd.put (Nd.put (Nd.put (nodeP 4 a b) 14 x0.num) 7 x1.num) 8 x2.num) 9 x3.num) 10 x4.num) 11 x5.num) 12 x6.num).x.length = 16 := (Nd.put_len _ _ _).trans ((Nd.put_len _ _ _).trans ((Nd.put_len _ _ _).trans hl2))
  clear mwu hnu hBu MWH NBH R3H S0 S1 S2 S3
  go_upto_region 19 with (fail)
  obtain ⟨Y3, hY3⟩ : ∃ Y3, Y3 = ((u.setCell ⟨nb, 10, none⟩ (.float .f64 x4.num)).setCell ⟨nb, 11, none⟩ (.float .f64 x5.num)).setCell ⟨nb, 12, none⟩ (.float .f64 x6.num) := ⟨_, rfl⟩
  have mw := MW2.out
  have hnb3 := NB2.out
  change NBlk (((u.setCell ⟨nb, 10, none⟩ (.float .f64 x4.num)).setCell ⟨nb, 11, none⟩ (.float .f64 x5.num)).setCell ⟨nb, 12, none⟩ (.float .f64 x6.num)) nb _ at hnb3
  rw [← hY3] at mw hnb3 ⊢
  clear hY3 MW2 NB2 C0 C1 C2 F0 F1 F2
  obtain ⟨cs, hcs, hrs⟩ := mw.rs
  have hout := setRow_heap Y3 rb cs (Nd.put (Nd.put (Nd.put (Nd.put (Nd.put (Nd.put (Nd.put (nodeP 4 a b) 14 x0.num) 7 x1.num) 8 x2.num) 9 x3.num) 10 x4.num) 11 x5.num) 12 x6.num).cells.toArray _ _ hrs
  have hlow := below_setRow mw.low mw.sw.2.2.2.2 (Nd.put (Nd.put (Nd.put (Nd.put (Nd.put (Nd.put (Nd.put (nodeP 4 a b) 14 x0.num) 7 x1.num) 8 x2.num) 9 x3.num) 10 x4.num) 11 x5.num) 12 x6.num).cells.toArray
  have HOUT := Lib.hid (And.intro hout hlow)
  have HNB := Lib.hid hnb3
  have HRS := Lib.hid (And.intro hcs hrs)
  clear hout hlow hnb3 hcs hrs mw
  obtain ⟨nn, hnn⟩ : ∃ nn, nn = (Nd.put (Nd.put (Nd.put (Nd.put (Nd.put (Nd.put (Nd.put (nodeP 4 a b) 14 x0.num) 7 x1.num) 8 x2.num) 9 x3.num) 10 x4.num) 11 x5.num) 12 x6.num) := ⟨_, rfl⟩
  rw [← hnn] at HOUT HNB
  have HNN := Lib.hid hnn
  clear hnn
  go_wp2_with (first | (refine wpList_load_nd_g _ ?_ (.tmp 7) rfl nb rfl nn HNB.out ?_; rotate_right) | (refine wpList_store_row rfl 25 (.tmp 6) (.tmp 76) rfl rb nn.cells.toArray rfl rfl _ _ HRS.out.2 (nd_info _) (by rw [nd_size]; exact HRS.out.1) (nd_one _) ?_))
  exact bodyPost_ret (v := nn.val) (results_made _ _ rb nn rfl HOUT.out.1) rfl ⟨by rw [HNN.out]; rfl, HOUT.out.2⟩
set_option maxRecDepth 100000 in
set_option maxHeartbeats 2000000 in
theorem made_k5 (B : Nat) (nm : ByteArray) (pos : Int) (x0 x1 x2 : PArg) (A : Option Addr) (c : Nat) (a b : Int) (w : World) (ha : ARead w B (.slice A 3 c) [x0, x1, x2]) (hB : B ≤ w.heap.size) :
    Calls Tryz.prog 27 #[.agg #[.string nm, .int .i64 pos, .int .u8 5, .slice A 3 c], .int .i64 a, .int .i64 b] w fun e w' => e = .returned (madeN ⟨nm, pos, 5, [x0, x1, x2]⟩ a b).val ∧ Below w.heap.size w w' := by
  obtain ⟨g, off, rfl, hg, -⟩ := ARead.num (l := [x0, x1, x2]) ha (Nat.succ_pos _)
  go_enter Tryz.func27, Tryz.ntmps27
  obtain ⟨sc, hsc⟩ : ∃ sc : Array Value, sc = #[.string nm, .int .i64 pos, .int .u8 5, .slice (some ⟨g, off, none⟩) 3 c] := ⟨_, rfl⟩
  have hb1 := (Below.refl w.heap.size w).alloc (Nat.le_refl _) (.cells sc 38)
  have hb2 := hb1.alloc hb1.size (.cells zcells 25)
  have hs2 := (Below.heap_alloc _ (.cells zcells 25) w.heap.size (by simp)).trans (heap_alloc_new w (.cells sc 38))
  have hr2 := heap_alloc_new (w.alloc (.cells sc 38)) (.cells zcells 25)
  rw [World.size_alloc] at hr2
  rw [hsc] at hb1 hb2 hs2 hr2
  go_upto_region 1 with (fail)
  obtain ⟨X, hX⟩ : ∃ X, X = (w.alloc (.cells #[.string nm, .int .i64 pos, .int .u8 5, .slice (some ⟨g, off, none⟩) 3 c] 38)).alloc (.cells zcells 25) := ⟨_, rfl⟩
  have hX2 : X = (w.alloc (.cells #[.string nm, .int .i64 pos, .int .u8 5, .slice (some ⟨g, off, none⟩) 3 c] 38)).alloc (.cells #[.int .u8 0, .float .f64 0, .float .f64 0, .float .f64 0, .float .f64 0, .float .f64 0, .float .f64 0, .float .f64 0, .float .f64 0, .float .f64 0, .float .f64 0, .float .f64 0, .float .f64 0, .float .f64 0, .float .f64 0, .float .f64 0, .float .f64 0, .int .i64 0, .int .i64 0] 25) := hX
  have hXz : X.heap.size = w.heap.size + 2 := by rw [hX]; simp
  rw [← hX] at hb2 hs2 hr2
  rw [← hX2]
  obtain ⟨rb, hrb⟩ : ∃ rb, rb = w.heap.size + 1 := ⟨_, rfl⟩
  rw [← hrb] at hr2 ⊢
  obtain ⟨sb, hsb⟩ : ∃ sb, sb = w.heap.size := ⟨_, rfl⟩
  rw [← hsb] at hs2 ⊢
  have har := ha.keep fun q _ hq => hb2.block q hq
  have S2 : X.cell? ⟨sb, 2, none⟩ = some (.int .u8 5) := (cell_of_row X sb 2 _ _ _ hs2).trans rfl
  have HS := Lib.hid (And.intro hb2 (And.intro hs2 (And.intro hr2 har)))
  have HZ := Lib.hid (And.intro hXz (And.intro hrb hsb))
  have HB := Lib.hid hB
  have HG := Lib.hid hg
  clear hX hX2 hXz hb1 hb2 hs2 hr2 har hrb hsb ha hB hg hsc
  go_upto_region 2 with (first | (refine wpList_store_row rfl 25 (.tmp 7) (.tmp 12) rfl X.heap.size (nodeP 5 a b).cells.toArray rfl rfl _ _ (heap_alloc_new X _) (nd_info _) (by rw [nd_size]; rfl) (nd_one _) ?_))
  simp only [Act.put]
  have hY1 := ((HS.out.1.alloc (show w.heap.size ≤ X.heap.size by have := HZ.out; omega) (.cells zcells 25)))
  have hYn := (Below.refl X.heap.size X).alloc (Nat.le_refl _) (.cells zcells 25)
  have hY2 := below_setRow hYn (Nat.le_refl _) (nodeP 5 a b).cells.toArray
  have hYb := setRow_heap _ X.heap.size zcells (nodeP 5 a b).cells.toArray _ _ (heap_alloc_new X (.cells zcells 25))
  have hYz : X.heap.size < ((X.alloc (.cells zcells 25)).setRow X.heap.size (nodeP 5 a b).cells.toArray).heap.size := (Array.getElem?_eq_some_iff.1 hYb).1
  obtain ⟨Y0, hY0⟩ : ∃ Y0, Y0 = (X.alloc (.cells zcells 25)).setRow X.heap.size (nodeP 5 a b).cells.toArray := ⟨_, rfl⟩
  have hY02 : Y0 = (X.alloc (.cells #[.int .u8 0, .float .f64 0, .float .f64 0, .float .f64 0, .float .f64 0, .float .f64 0, .float .f64 0, .float .f64 0, .float .f64 0, .float .f64 0, .float .f64 0, .float .f64 0, .float .f64 0, .float .f64 0, .float .f64 0, .float .f64 0, .float .f64 0, .int .i64 0, .int .i64 0] 25)).setRow X.heap.size (nodeP 5 a b).cells.toArray := hY0
  rw [← hY0] at hY2 hYb hYz
  rw [← hY02]
  obtain ⟨nb, hnb⟩ : ∃ nb, nb = X.heap.size := ⟨_, rfl⟩
  have mw : MW B w sb nb rb #[.string nm, .int .i64 pos, .int .u8 5, .slice (some ⟨g, off, none⟩) 3 c] (some ⟨g, off, none⟩) c [x0, x1, x2] Y0 := by
    obtain ⟨z1, z2, z3⟩ := HZ.out
    refine ⟨HS.out.1.trans (hY2.mono (by omega)), (hY2.block sb (by omega)).trans HS.out.2.1, HS.out.2.2.2.keep fun q _ hq => hY2.block q hq, ⟨zcells, rfl, (hY2.block rb (by omega)).trans HS.out.2.2.1⟩, by omega, by omega, by omega, by omega, HB.out, by omega⟩
  have hnb0 : NBlk Y0 nb (nodeP 5 a b) := by rw [hnb]; exact hYb
  rw [← hnb]
  clear hY1 hYn hY2 hYb hYz hY0 hY02 hnb S2 HS HZ HB
  have hl0 : (nodeP 5 a b).x.length = 16 := rfl
  have S2 : Y0.cell? ⟨sb, 2, none⟩ = some (.int .u8 5) := (cell_of_row Y0 sb 2 _ _ _ mw.st).trans rfl
  have S3 : Y0.cell? ⟨sb, 3, none⟩ = some (.slice (some ⟨g, off, none⟩) 3 c) := (cell_of_row Y0 sb 3 _ _ _ mw.st).trans rfl
  obtain ⟨g0, off0, hgo, -, hcells⟩ := ARead.num (l := [x0, x1, x2]) mw.ar (Nat.succ_pos _)
  obtain ⟨rfl, rfl⟩ : g = g0 ∧ off = off0 := by simpa using hgo
  have AI : Y0.cell? ⟨g, off + 1, none⟩ = some (.float .f64 x0.num) := (hcells 0 (by show 0 < 3; omega)).2.1
  have CJ : Y0.cell? ⟨nb, 16, none⟩ = some (.float .f64 ((nodeP 5 a b).f 16)) := (hnb0.cell 16).trans ((nodeP 5 a b).cell_f 16 (by omega) (by omega))
  have FJ := hnb0.frozen 16
  have MWH := Lib.hid (mw.set 16 (.float .f64 x0.num))
  have NBH := Lib.hid (nblk_put hnb0 hl0 16 x0.num (by omega) (by omega))
  have hl1 : (Nd.put (nodeP 5 a b) 16 x0.num).x.length = 16 := (Nd.put_len _ _ _).trans hl0
  clear mw hcells hnb0 hgo
  go_upto_region 19 with (fail)
  obtain ⟨Y1, hY1⟩ : ∃ Y1, Y1 = Y0.setCell ⟨nb, 16, none⟩ (.float .f64 x0.num) := ⟨_, rfl⟩
  have mw := MWH.out
  have hnb1 := NBH.out
  rw [← hY1] at mw hnb1 ⊢
  clear hY1 MWH NBH S3 AI CJ FJ S2
  obtain ⟨cs, hcs, hrs⟩ := mw.rs
  have hout := setRow_heap Y1 rb cs (Nd.put (nodeP 5 a b) 16 x0.num).cells.toArray _ _ hrs
  have hlow := below_setRow mw.low mw.sw.2.2.2.2 (Nd.put (nodeP 5 a b) 16 x0.num).cells.toArray
  have HOUT := Lib.hid (And.intro hout hlow)
  have HNB := Lib.hid hnb1
  have HRS := Lib.hid (And.intro hcs hrs)
  clear hout hlow hnb1 hcs hrs mw
  obtain ⟨nn, hnn⟩ : ∃ nn, nn = (Nd.put (nodeP 5 a b) 16 x0.num) := ⟨_, rfl⟩
  rw [← hnn] at HOUT HNB
  have HNN := Lib.hid hnn
  clear hnn
  go_wp2_with (first | (refine wpList_load_nd_g _ ?_ (.tmp 7) rfl nb rfl nn HNB.out ?_; rotate_right) | (refine wpList_store_row rfl 25 (.tmp 6) (.tmp 76) rfl rb nn.cells.toArray rfl rfl _ _ HRS.out.2 (nd_info _) (by rw [nd_size]; exact HRS.out.1) (nd_one _) ?_))
  exact bodyPost_ret (v := nn.val) (results_made _ _ rb nn rfl HOUT.out.1) rfl ⟨by rw [HNN.out]; rfl, HOUT.out.2⟩
set_option maxRecDepth 100000 in
set_option maxHeartbeats 2000000 in
theorem made_k6 (B : Nat) (nm : ByteArray) (pos : Int) (x0 x1 x2 x3 x4 : PArg) (A : Option Addr) (c : Nat) (a b : Int) (w : World) (ha : ARead w B (.slice A 5 c) [x0, x1, x2, x3, x4]) (hB : B ≤ w.heap.size) :
    Calls Tryz.prog 27 #[.agg #[.string nm, .int .i64 pos, .int .u8 6, .slice A 5 c], .int .i64 a, .int .i64 b] w fun e w' => e = .returned (madeN ⟨nm, pos, 6, [x0, x1, x2, x3, x4]⟩ a b).val ∧ Below w.heap.size w w' := by
  obtain ⟨g, off, rfl, hg, -⟩ := ARead.num (l := [x0, x1, x2, x3, x4]) ha (Nat.succ_pos _)
  go_enter Tryz.func27, Tryz.ntmps27
  obtain ⟨sc, hsc⟩ : ∃ sc : Array Value, sc = #[.string nm, .int .i64 pos, .int .u8 6, .slice (some ⟨g, off, none⟩) 5 c] := ⟨_, rfl⟩
  have hb1 := (Below.refl w.heap.size w).alloc (Nat.le_refl _) (.cells sc 38)
  have hb2 := hb1.alloc hb1.size (.cells zcells 25)
  have hs2 := (Below.heap_alloc _ (.cells zcells 25) w.heap.size (by simp)).trans (heap_alloc_new w (.cells sc 38))
  have hr2 := heap_alloc_new (w.alloc (.cells sc 38)) (.cells zcells 25)
  rw [World.size_alloc] at hr2
  rw [hsc] at hb1 hb2 hs2 hr2
  go_upto_region 1 with (fail)
  obtain ⟨X, hX⟩ : ∃ X, X = (w.alloc (.cells #[.string nm, .int .i64 pos, .int .u8 6, .slice (some ⟨g, off, none⟩) 5 c] 38)).alloc (.cells zcells 25) := ⟨_, rfl⟩
  have hX2 : X = (w.alloc (.cells #[.string nm, .int .i64 pos, .int .u8 6, .slice (some ⟨g, off, none⟩) 5 c] 38)).alloc (.cells #[.int .u8 0, .float .f64 0, .float .f64 0, .float .f64 0, .float .f64 0, .float .f64 0, .float .f64 0, .float .f64 0, .float .f64 0, .float .f64 0, .float .f64 0, .float .f64 0, .float .f64 0, .float .f64 0, .float .f64 0, .float .f64 0, .float .f64 0, .int .i64 0, .int .i64 0] 25) := hX
  have hXz : X.heap.size = w.heap.size + 2 := by rw [hX]; simp
  rw [← hX] at hb2 hs2 hr2
  rw [← hX2]
  obtain ⟨rb, hrb⟩ : ∃ rb, rb = w.heap.size + 1 := ⟨_, rfl⟩
  rw [← hrb] at hr2 ⊢
  obtain ⟨sb, hsb⟩ : ∃ sb, sb = w.heap.size := ⟨_, rfl⟩
  rw [← hsb] at hs2 ⊢
  have har := ha.keep fun q _ hq => hb2.block q hq
  have S2 : X.cell? ⟨sb, 2, none⟩ = some (.int .u8 6) := (cell_of_row X sb 2 _ _ _ hs2).trans rfl
  have HS := Lib.hid (And.intro hb2 (And.intro hs2 (And.intro hr2 har)))
  have HZ := Lib.hid (And.intro hXz (And.intro hrb hsb))
  have HB := Lib.hid hB
  have HG := Lib.hid hg
  clear hX hX2 hXz hb1 hb2 hs2 hr2 har hrb hsb ha hB hg hsc
  go_upto_region 2 with (first | (refine wpList_store_row rfl 25 (.tmp 7) (.tmp 12) rfl X.heap.size (nodeP 6 a b).cells.toArray rfl rfl _ _ (heap_alloc_new X _) (nd_info _) (by rw [nd_size]; rfl) (nd_one _) ?_))
  simp only [Act.put]
  have hY1 := ((HS.out.1.alloc (show w.heap.size ≤ X.heap.size by have := HZ.out; omega) (.cells zcells 25)))
  have hYn := (Below.refl X.heap.size X).alloc (Nat.le_refl _) (.cells zcells 25)
  have hY2 := below_setRow hYn (Nat.le_refl _) (nodeP 6 a b).cells.toArray
  have hYb := setRow_heap _ X.heap.size zcells (nodeP 6 a b).cells.toArray _ _ (heap_alloc_new X (.cells zcells 25))
  have hYz : X.heap.size < ((X.alloc (.cells zcells 25)).setRow X.heap.size (nodeP 6 a b).cells.toArray).heap.size := (Array.getElem?_eq_some_iff.1 hYb).1
  obtain ⟨Y0, hY0⟩ : ∃ Y0, Y0 = (X.alloc (.cells zcells 25)).setRow X.heap.size (nodeP 6 a b).cells.toArray := ⟨_, rfl⟩
  have hY02 : Y0 = (X.alloc (.cells #[.int .u8 0, .float .f64 0, .float .f64 0, .float .f64 0, .float .f64 0, .float .f64 0, .float .f64 0, .float .f64 0, .float .f64 0, .float .f64 0, .float .f64 0, .float .f64 0, .float .f64 0, .float .f64 0, .float .f64 0, .float .f64 0, .float .f64 0, .int .i64 0, .int .i64 0] 25)).setRow X.heap.size (nodeP 6 a b).cells.toArray := hY0
  rw [← hY0] at hY2 hYb hYz
  rw [← hY02]
  obtain ⟨nb, hnb⟩ : ∃ nb, nb = X.heap.size := ⟨_, rfl⟩
  have mw : MW B w sb nb rb #[.string nm, .int .i64 pos, .int .u8 6, .slice (some ⟨g, off, none⟩) 5 c] (some ⟨g, off, none⟩) c [x0, x1, x2, x3, x4] Y0 := by
    obtain ⟨z1, z2, z3⟩ := HZ.out
    refine ⟨HS.out.1.trans (hY2.mono (by omega)), (hY2.block sb (by omega)).trans HS.out.2.1, HS.out.2.2.2.keep fun q _ hq => hY2.block q hq, ⟨zcells, rfl, (hY2.block rb (by omega)).trans HS.out.2.2.1⟩, by omega, by omega, by omega, by omega, HB.out, by omega⟩
  have hnb0 : NBlk Y0 nb (nodeP 6 a b) := by rw [hnb]; exact hYb
  rw [← hnb]
  clear hY1 hYn hY2 hYb hYz hY0 hY02 hnb S2 HS HZ HB
  have hl0 : (nodeP 6 a b).x.length = 16 := rfl
  have S2 : Y0.cell? ⟨sb, 2, none⟩ = some (.int .u8 6) := (cell_of_row Y0 sb 2 _ _ _ mw.st).trans rfl
  have S3 : Y0.cell? ⟨sb, 3, none⟩ = some (.slice (some ⟨g, off, none⟩) 5 c) := (cell_of_row Y0 sb 3 _ _ _ mw.st).trans rfl
  obtain ⟨g0, off0, hgo, -, hcells⟩ := ARead.num (l := [x0, x1, x2, x3, x4]) mw.ar (Nat.succ_pos _)
  obtain ⟨rfl, rfl⟩ : g = g0 ∧ off = off0 := by simpa using hgo
  have AI : Y0.cell? ⟨g, off + 1, none⟩ = some (.float .f64 x0.num) := (hcells 0 (by show 0 < 5; omega)).2.1
  have CJ : Y0.cell? ⟨nb, 15, none⟩ = some (.float .f64 ((nodeP 6 a b).f 15)) := (hnb0.cell 15).trans ((nodeP 6 a b).cell_f 15 (by omega) (by omega))
  have FJ := hnb0.frozen 15
  have MWH := Lib.hid (mw.set 15 (.float .f64 x0.num))
  have NBH := Lib.hid (nblk_put hnb0 hl0 15 x0.num (by omega) (by omega))
  have hl1 : (Nd.put (nodeP 6 a b) 15 x0.num).x.length = 16 := (Nd.put_len _ _ _).trans hl0
  clear mw hcells hnb0 hgo
  go_upto_region 4 with (fail)
  obtain ⟨Y1, hY1⟩ : ∃ Y1, Y1 = Y0.setCell ⟨nb, 15, none⟩ (.float .f64 x0.num) := ⟨_, rfl⟩
  have mw := MWH.out
  have hnb1 := NBH.out
  rw [← hY1] at mw hnb1 ⊢
  clear hY1 MWH NBH S3 AI CJ FJ S2
  have S3 : Y1.cell? ⟨sb, 3, none⟩ = some (.slice (some ⟨g, off, none⟩) 5 c) := (cell_of_row Y1 sb 3 _ _ _ mw.st).trans rfl
  have S0 : Y1.cell? ⟨sb, 0, none⟩ = some (.string nm) := (cell_of_row Y1 sb 0 _ _ _ mw.st).trans rfl
  have S1 : Y1.cell? ⟨sb, 1, none⟩ = some (.int .i64 pos) := (cell_of_row Y1 sb 1 _ _ _ mw.st).trans rfl
  have S2 : Y1.cell? ⟨sb, 2, none⟩ = some (.int .u8 6) := (cell_of_row Y1 sb 2 _ _ _ mw.st).trans rfl
  have R3 : Calls Tryz.prog 44 #[.agg #[.string nm, .int .i64 pos, .int .u8 6, .slice (some ⟨g, off, none⟩) 5 c], .int .i64 1] Y1 fun e w' => e = .returned (.agg #[.float .f64 x1.num, .float .f64 x2.num, .float .f64 x3.num]) ∧ Below Y1.heap.size Y1 w' :=
    three_ref B ⟨nm, pos, 6, [x0, x1, x2, x3, x4]⟩ (some ⟨g, off, none⟩) c 1 (by show 1 + 2 < 5; omega) (by show 5 ≤ 1000; omega) Y1 mw.ar (Nat.le_trans mw.sw.2.2.2.1 mw.low.size)
  have MWH := Lib.hid mw
  have NBH := Lib.hid hnb1
  have R3H := Lib.hid R3
  clear mw hnb1 R3
  go_wp2_with fail
  refine R3H.out.mono ?_
  rintro e u ⟨rfl, hBu⟩
  have hnu : NBlk u nb (Nd.put (nodeP 6 a b) 15 x0.num) := (hBu.block nb MWH.out.nl).trans NBH.out
  have mwu := MWH.out.ext hBu
  have C0 : u.cell? ⟨nb, 4, none⟩ = some (.float .f64 ((Nd.put (nodeP 6 a b) 15 x0.num).f 4)) := (hnu.cell 4).trans ((Nd.put (nodeP 6 a b) 15 x0.num).cell_f 4 (by omega) (by omega))
  have F0 := hnu.frozen 4
  have C1 : u.cell? ⟨nb, 5, none⟩ = some (.float .f64 ((Nd.put (nodeP 6 a b) 15 x0.num).f 5)) := (hnu.cell 5).trans ((Nd.put (nodeP 6 a b) 15 x0.num).cell_f 5 (by omega) (by omega))
  have F1 := hnu.frozen 5
  have C2 : u.cell? ⟨nb, 6, none⟩ = some (.float .f64 ((Nd.put (nodeP 6 a b) 15 x0.num).f 6)) := (hnu.cell 6).trans ((Nd.put (nodeP 6 a b) 15 x0.num).cell_f 6 (by omega) (by omega))
  have F2 := hnu.frozen 6
  have MW2 := Lib.hid (((mwu.set 4 (.float .f64 x1.num)).set 5 (.float .f64 x2.num)).set 6 (.float .f64 x3.num))
  have NB2 := Lib.hid (nblk_put3 hnu hl1 4 x1.num x2.num x3.num (by omega) (by omega))
  have hl2 : (Nd.put (Nd.put (Nd.put (Nd.put (nodeP 6 a b) 15 x0.num) 4 x1.num) 5 x2.num) 6 x3.num).x.length = 16 := (Nd.put_len _ _ _).trans ((Nd.put_len _ _ _).trans ((Nd.put_len _ _ _).trans hl1))
  clear mwu hnu hBu MWH NBH R3H S0 S1 S2 S3
  go_upto_region 19 with (fail)
  obtain ⟨Y2, hY2⟩ : ∃ Y2, Y2 = ((u.setCell ⟨nb, 4, none⟩ (.float .f64 x1.num)).setCell ⟨nb, 5, none⟩ (.float .f64 x2.num)).setCell ⟨nb, 6, none⟩ (.float .f64 x3.num) := ⟨_, rfl⟩
  have mw := MW2.out
  have hnb2 := NB2.out
  change NBlk (((u.setCell ⟨nb, 4, none⟩ (.float .f64 x1.num)).setCell ⟨nb, 5, none⟩ (.float .f64 x2.num)).setCell ⟨nb, 6, none⟩ (.float .f64 x3.num)) nb _ at hnb2
  rw [← hY2] at mw hnb2 ⊢
  clear hY2 MW2 NB2 C0 C1 C2 F0 F1 F2
  obtain ⟨cs, hcs, hrs⟩ := mw.rs
  have hout := setRow_heap Y2 rb cs (Nd.put (Nd.put (Nd.put (Nd.put (nodeP 6 a b) 15 x0.num) 4 x1.num) 5 x2.num) 6 x3.num).cells.toArray _ _ hrs
  have hlow := below_setRow mw.low mw.sw.2.2.2.2 (Nd.put (Nd.put (Nd.put (Nd.put (nodeP 6 a b) 15 x0.num) 4 x1.num) 5 x2.num) 6 x3.num).cells.toArray
  have HOUT := Lib.hid (And.intro hout hlow)
  have HNB := Lib.hid hnb2
  have HRS := Lib.hid (And.intro hcs hrs)
  clear hout hlow hnb2 hcs hrs mw
  obtain ⟨nn, hnn⟩ : ∃ nn, nn = (Nd.put (Nd.put (Nd.put (Nd.put (nodeP 6 a b) 15 x0.num) 4 x1.num) 5 x2.num) 6 x3.num) := ⟨_, rfl⟩
  rw [← hnn] at HOUT HNB
  have HNN := Lib.hid hnn
  clear hnn
  go_wp2_with (first | (refine wpList_load_nd_g _ ?_ (.tmp 7) rfl nb rfl nn HNB.out ?_; rotate_right) | (refine wpList_store_row rfl 25 (.tmp 6) (.tmp 76) rfl rb nn.cells.toArray rfl rfl _ _ HRS.out.2 (nd_info _) (by rw [nd_size]; exact HRS.out.1) (nd_one _) ?_))
  exact bodyPost_ret (v := nn.val) (results_made _ _ rb nn rfl HOUT.out.1) rfl ⟨by rw [HNN.out]; rfl, HOUT.out.2⟩
end Go.Proofs.YtgblgolkajdfbaaGreatDoor.chkw
