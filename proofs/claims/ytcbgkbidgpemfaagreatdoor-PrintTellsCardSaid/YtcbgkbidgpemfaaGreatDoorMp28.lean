/- burnishref19: the walk of Line: it tells the line that the program tells. Conditions: as each theorem states. -/
import Derived.Test.YtcbgkbidgpemfaaGreatDoorMp25
import Derived.Test.YtcbgkbidgpemfaaGreatDoorMp27
namespace Go.Proofs.YtcbgkbidgpemfaaGreatDoor.rh
open Go.RowKit
open Go.BigFrame
open Go.Proofs.YtcbgkbidgpemfaaGreatDoor.qt
open Go.Proofs.YtcbgkbidgpemfaaGreatDoor.nodew
open Go.Proofs.YtcbgkbidgpemfaaGreatDoor.rg
open Go.Proofs.YtcbgkbidgpemfaaGreatDoor.chkw
open Go.Proofs.YtcbgkbidgpemfaaGreatDoor.prnw (Bel bA bA_list bA_of bA_size nmB nmB_size eqB prT lineT lineE lineOk numsK subsN node_facts wordF wordF_size hiP loP exec_call callFunc_enter goUpon_call)

/-- a line's text, part by part -/
theorem tail_flat : ∀ r : List (List UInt8), Lib.joinTail [32] r = (r.map fun x => 32 :: x).flatten
  | [] => rfl
  | x :: r => by
    have e : Lib.joinTail [32] (x :: r) = ([32] ++ x) ++ Lib.joinTail [32] r := by simp [Lib.joinTail]
    rw [e, tail_flat r]
    simp
def subL (n : Nd) : List UInt8 := ((subsN n).map fun k => 32 :: (nmB k).data.toList).flatten
theorem line_parts (n : Nd) (at_ : Int) (h : lineOk n at_ = true) : lineT hiP loP n at_ = (nmB at_).data.toList ++ [32, 61, 32] ++ (wordF n.kind).data.toList ++ numL ((numsK n.kind).map n.f) ++ subL n := by
  have e1 : ((numsK n.kind).map n.f).map (fun x => 32 :: (prnw.prB hiP loP x).data.toList) = ((numsK n.kind).map n.f).map fun x => 32 :: prT hiP loP x := by
    refine List.map_congr_left fun x _ => ?_
    unfold prnw.prB
    rw [bA_list]
  have e2 : prnw.lineL hiP loP n at_ = nmB at_ :: eqB :: wordF n.kind :: (((numsK n.kind).map n.f).map (prnw.prB hiP loP) ++ (subsN n).map nmB) := by
    unfold prnw.lineL
    simp
  have e3 : eqB.data.toList = [61] := rfl
  unfold lineT
  rw [if_pos h, e2, List.map_cons, List.map_cons, List.map_cons, Lib.join_cons, tail_flat, e3]
  unfold subL numL
  rw [← e1]
  simp only [List.map_append, List.map_cons, List.map_map, List.flatten_append, List.flatten_cons, List.cons_append, List.append_assoc, List.nil_append, Function.comp_def]
/-- numbers in memory -/
def NumsAt (v : World) (b : Nat) (xs : List Nat) : Prop := b < v.heap.size ∧ ∀ j x, xs[j]? = some x → v.cell? ⟨b, j, none⟩ = some (.float .f64 x)
theorem nums_new (v : World) (xs : List Nat) (vals : Array Value) (hv : vals = (xs.map (Value.float .f64)).toArray) : NumsAt (v.alloc (.cells vals 46)) v.heap.size xs := by
  refine ⟨by simp, fun j x hx => ?_⟩
  rw [cell_of_row _ _ j _ _ _ (heap_alloc_new v _), hv]
  simp [hx]
theorem numbers_at {v : World} {b : Nat} {xs : List Nat} (h : NumsAt v b xs) (hxs : ∀ x ∈ xs, x < 18446744073709551616) (m : Nat) (hl : xs.length = m) (hm : m ≤ 9) (c : Nat) :
    Calls Tryz.prog 53 #[.slice (some ⟨b, 0, none⟩) m c] v (Bel v (.string (bA (numL xs)))) := by
  subst hl
  exact numbers_any b c xs hxs hm v h.1 h.2
theorem numbers_new (v : World) (xs : List Nat) (hxs : ∀ x ∈ xs, x < 18446744073709551616) (m : Nat) (hl : xs.length = m) (hm : m ≤ 9) (vals : Array Value) (hv : vals = (xs.map (Value.float .f64)).toArray) (S : ByteArray) (hS : bA (numL xs) = S) :
    Calls Tryz.prog 53 #[.slice (some ⟨v.heap.size, 0, none⟩) m m] (v.alloc (.cells vals 46)) fun e w' => e = .returned (.string S) ∧ Below v.heap.size v w' := by
  refine (numbers_at (nums_new v xs vals hv) hxs m hl hm m).mono fun e w' h => ⟨?_, ?_⟩
  · rw [← hS]
    exact h.1
  · have := h.2
    exact ((Below.refl v.heap.size v).alloc (Nat.le_refl _) _).trans (this.mono (by simp))
theorem nf_lt {n : Nd} (hn : n.ok) (j : Nat) : n.f j < 18446744073709551616 := n.f_lt hn.2 j
theorem nums_lt {n : Nd} (hn : n.ok) (l : List Nat) : ∀ x ∈ l.map n.f, x < 18446744073709551616 := fun x hx => by
  obtain ⟨j, _, rfl⟩ := List.mem_map.1 hx
  exact nf_lt hn j
set_option maxRecDepth 100000 in
set_option maxHeartbeats 2000000 in
theorem rline_no (n : Nd) (hn : n.ok) (at_ : Int) (hok : lineOk n at_ = false) (w : World) :
    Calls Tryz.prog 27 #[n.val, .int .i64 at_] w (Bel w (.tuple #[.string (bA (lineT hiP loP n at_)), .int .i64 (lineE n at_)])) := by
  have CN := fun W => refnode_any n hn at_ W
  have e1 : lineT hiP loP n at_ = [] := by unfold lineT; rw [if_neg (by rw [hok]; decide)]
  have e2 : lineE n at_ = 190 := by unfold lineE; rw [if_neg (by rw [hok]; decide)]
  have HQ := Lib.hid (And.intro e1 e2)
  cases hno : nodeOk n at_ with
  | false =>
    rw [hno] at CN
    have HN := Lib.hid CN
    clear CN hno hok e1 e2 hn
    go_enter Tryz.func27, Tryz.ntmps27
    go_upto_region 0 with (fail)
    refine wp_region_lit ?_
    refine wl_val rfl _ (exec_box (.tmp 0) rfl _ _ n rfl) ?_
    have hbx := (Below.refl w.heap.size w).alloc (Nat.le_refl _) (.cells n.cells.toArray 49)
    have hnb := heap_alloc_new w (.cells n.cells.toArray 49)
    obtain ⟨W, hW⟩ : ∃ W, W = w.alloc (.cells n.cells.toArray 49) := ⟨_, rfl⟩
    have hWz : w.heap.size < W.heap.size := by rw [hW]; simp
    rw [← hW] at hbx hnb ⊢
    have hnb : NBlk W w.heap.size n := hnb
    obtain ⟨nb, hnbe⟩ : ∃ nb, nb = w.heap.size := ⟨_, rfl⟩
    have hnz : nb < W.heap.size := by omega
    rw [← hnbe] at hnb ⊢
    have HBX := Lib.hid hbx
    have HNB := Lib.hid hnb
    clear hW hbx hnb hnbe
    go_wp2_with (first
      | (refine wpList_load_nd_g _ ?_ (.tmp 2) rfl nb rfl n HNB.out ?_; rotate_right)
      | (go_at_call 51; (with_reducible refine (HN.out _).mono ?_); rintro e w1 ⟨rfl, hb1⟩; have HB1 := Lib.hid hb1; clear hb1))
    go_ret2
    exact ⟨by rw [HQ.out.1, HQ.out.2]; rfl, HBX.out.trans (HB1.out.mono HBX.out.size)⟩
  | true =>
    rw [hno] at CN
    have HN := Lib.hid CN
    have hat : at_ < 0 ∨ 4096 ≤ at_ := by
      unfold lineOk at hok
      rw [hno, Bool.and_true, Bool.and_eq_false_iff, decide_eq_false_iff_not, decide_eq_false_iff_not] at hok
      omega
    rcases hat with hat | hat
    · skip
      have x1 : ¬ (4096 : Int) ≤ at_ := by omega
      clear CN hno hok e1 e2 hn
      go_enter Tryz.func27, Tryz.ntmps27
      go_upto_region 0 with (fail)
      refine wp_region_lit ?_
      refine wl_val rfl _ (exec_box (.tmp 0) rfl _ _ n rfl) ?_
      have hbx := (Below.refl w.heap.size w).alloc (Nat.le_refl _) (.cells n.cells.toArray 49)
      have hnb := heap_alloc_new w (.cells n.cells.toArray 49)
      obtain ⟨W, hW⟩ : ∃ W, W = w.alloc (.cells n.cells.toArray 49) := ⟨_, rfl⟩
      have hWz : w.heap.size < W.heap.size := by rw [hW]; simp
      rw [← hW] at hbx hnb ⊢
      have hnb : NBlk W w.heap.size n := hnb
      obtain ⟨nb, hnbe⟩ : ∃ nb, nb = w.heap.size := ⟨_, rfl⟩
      have hnz : nb < W.heap.size := by omega
      rw [← hnbe] at hnb ⊢
      have HBX := Lib.hid hbx
      have HNB := Lib.hid hnb
      clear hW hbx hnb hnbe
      go_wp2_with (first
        | (refine wpList_load_nd_g _ ?_ (.tmp 2) rfl nb rfl n HNB.out ?_; rotate_right)
        | (go_at_call 51; (with_reducible refine (HN.out _).mono ?_); rintro e w1 ⟨rfl, hb1⟩; have HB1 := Lib.hid hb1; clear hb1))
      go_ret2
      exact ⟨by rw [HQ.out.1, HQ.out.2]; rfl, HBX.out.trans (HB1.out.mono HBX.out.size)⟩
    · skip
      clear CN hno hok e1 e2 hn
      go_enter Tryz.func27, Tryz.ntmps27
      go_upto_region 0 with (fail)
      refine wp_region_lit ?_
      refine wl_val rfl _ (exec_box (.tmp 0) rfl _ _ n rfl) ?_
      have hbx := (Below.refl w.heap.size w).alloc (Nat.le_refl _) (.cells n.cells.toArray 49)
      have hnb := heap_alloc_new w (.cells n.cells.toArray 49)
      obtain ⟨W, hW⟩ : ∃ W, W = w.alloc (.cells n.cells.toArray 49) := ⟨_, rfl⟩
      have hWz : w.heap.size < W.heap.size := by rw [hW]; simp
      rw [← hW] at hbx hnb ⊢
      have hnb : NBlk W w.heap.size n := hnb
      obtain ⟨nb, hnbe⟩ : ∃ nb, nb = w.heap.size := ⟨_, rfl⟩
      have hnz : nb < W.heap.size := by omega
      rw [← hnbe] at hnb ⊢
      have HBX := Lib.hid hbx
      have HNB := Lib.hid hnb
      clear hW hbx hnb hnbe
      go_wp2_with (first
        | (refine wpList_load_nd_g _ ?_ (.tmp 2) rfl nb rfl n HNB.out ?_; rotate_right)
        | (go_at_call 51; (with_reducible refine (HN.out _).mono ?_); rintro e w1 ⟨rfl, hb1⟩; have HB1 := Lib.hid hb1; clear hb1))
      go_ret2
      exact ⟨by rw [HQ.out.1, HQ.out.2]; rfl, HBX.out.trans (HB1.out.mono HBX.out.size)⟩
theorem bsF1_run (w : World) (x : Nat) : (Instr.buildSlice 86 1 #[(0, .float .f64 x)]).run Tryz.prog w = .ok (.slice (some ⟨w.heap.size, 0, none⟩) 1 1) (w.alloc (.cells #[.float .f64 x] 46)) := by
  kernel_rfl
theorem bsF4_run (w : World) (x y z u : Nat) : (Instr.buildSlice 86 4 #[(0, .float .f64 x), (1, .float .f64 y), (2, .float .f64 z), (3, .float .f64 u)]).run Tryz.prog w = .ok (.slice (some ⟨w.heap.size, 0, none⟩) 4 4) (w.alloc (.cells #[.float .f64 x, .float .f64 y, .float .f64 z, .float .f64 u] 46)) := by
  kernel_rfl
theorem exec_bsF1 {o : Oper} (x0 : Operand) (ho : o.op = .buildSlice 86 1 #[(0, x0)]) (a : Act) (w : World) (x : Nat) (h0 : a.eval x0 = .float .f64 x) :
    (execOp a.eval o).run Tryz.prog w = .ok (.value (.slice (some ⟨w.heap.size, 0, none⟩) 1 1)) (w.alloc (.cells #[.float .f64 x] 46)) := by
  unfold execOp
  simp only [ho, Sem.run_bind, List.map_toArray, List.map_cons, List.map_nil, h0, bsF1_run, Result.andThen_ok, Sem.run_pure]
theorem exec_bsF4 {o : Oper} (x0 x1 x2 x3 : Operand) (ho : o.op = .buildSlice 86 4 #[(0, x0), (1, x1), (2, x2), (3, x3)]) (a : Act) (w : World) (x y z u : Nat) (h0 : a.eval x0 = .float .f64 x) (h1 : a.eval x1 = .float .f64 y) (h2 : a.eval x2 = .float .f64 z) (h3 : a.eval x3 = .float .f64 u) :
    (execOp a.eval o).run Tryz.prog w = .ok (.value (.slice (some ⟨w.heap.size, 0, none⟩) 4 4)) (w.alloc (.cells #[.float .f64 x, .float .f64 y, .float .f64 z, .float .f64 u] 46)) := by
  unfold execOp
  simp only [ho, Sem.run_bind, List.map_toArray, List.map_cons, List.map_nil, h0, h1, h2, h3, bsF4_run, Result.andThen_ok, Sem.run_pure]
theorem nb_enter (args : Array Value) (w : World) : (callFunc 53 args).run Tryz.prog w = .ok (.enter 53 args) w := callFunc_enter Tryz.func53 (by kernel_rfl) rfl args w
theorem na_enter (args : Array Value) (w : World) : (callFunc 52 args).run Tryz.prog w = .ok (.enter 52 args) w := callFunc_enter Tryz.func52 (by kernel_rfl) rfl args w
theorem exec_nb {o : Oper} (x : Operand) (ats : Array TypeId) (ho : o.op = .call { callee := .value (.func 53), args := #[x], argTypes := ats }) (a : Act) (vx : Value) (hx : a.eval x = vx) (w : World) : (execOp a.eval o).run Tryz.prog w = .ok (.enter 53 #[vx]) w :=
  exec_call _ #[x] ats ho a #[vx] (by simp [hx]) w (nb_enter _ w)
theorem exec_na {o : Oper} (x : Operand) (ats : Array TypeId) (ho : o.op = .call { callee := .value (.func 52), args := #[x], argTypes := ats }) (a : Act) (vx : Value) (hx : a.eval x = vx) (w : World) : (execOp a.eval o).run Tryz.prog w = .ok (.enter 52 #[vx]) w :=
  exec_call _ #[x] ats ho a #[vx] (by simp [hx]) w (na_enter _ w)
set_option maxRecDepth 100000 in
set_option maxHeartbeats 4000000 in
theorem rline_1 (n : Nd) (hn : n.ok) (hk : n.kind = 1) (A : Nat) (hA : A < 4096) (hok : lineOk n (A : Int) = true) (w : World) :
    Calls Tryz.prog 27 #[n.val, .int .i64 (A : Nat)] w (Bel w (.tuple #[.string (bA (lineT hiP loP n (A : Int))), .int .i64 0])) := by
  have hno : nodeOk n (A : Int) = true := by
    unfold lineOk at hok
    rw [Bool.and_eq_true] at hok
    exact hok.2
  have CN := fun W => refnode_any n hn (A : Int) W
  rw [hno] at CN
  have HN := Lib.hid CN
  have hlp := line_parts n (A : Int) hok
  rw [hk] at hlp
  obtain ⟨_, hab⟩ := node_facts hno (by omega)
  have hxs := nums_lt hn (numsK 1)
  have hnl := numL_len ((numsK 1).map n.f) hxs
  have hns := nmB_size (A : Int) (by omega) (by omega)
  have hws := wordF_size 1
  obtain ⟨NM, hNM⟩ : ∃ S, nmB (A : Int) = S := ⟨_, rfl⟩
  obtain ⟨WD, hWD⟩ : ∃ S, wordF 1 = S := ⟨_, rfl⟩
  obtain ⟨SN, hSN⟩ : ∃ S, bA (numL ((numsK 1).map n.f)) = S := ⟨_, rfl⟩
  have CA := fun W => name19_any A hA W
  have CW := fun W => rword_any 1 W
  have hwp : parw.wordF 1 = WD := by rw [← hWD]; rfl
  rw [hNM] at CA hlp hns
  rw [hwp] at CW
  rw [hWD] at hlp hws
  have hSs : SN.size ≤ 1000 := by
    rw [← hSN, bA_size]
    have : ((numsK 1).map n.f).length = 3 := by rw [List.length_map]; rfl
    omega
  have hSl : numL ((numsK 1).map n.f) = SN.data.toList := by rw [← hSN, bA_list]
  rw [hSl] at hlp
  have HLP := Lib.hid hlp
  have HCA := Lib.hid CA
  have HCW := Lib.hid CW
  have HS := Lib.hid (And.intro hxs hSN)
  have HAB := Lib.hid hab
  have HK := Lib.hid hk
  have hai : (A : Int) < 4096 := by omega
  have hsz3 : (⟨#[32, 61, 32]⟩ : ByteArray).size = 3 := rfl
  have hsz1 : (⟨#[32]⟩ : ByteArray).size = 1 := rfl
  have x1 : ¬ (4096 : Int) ≤ (A : Int) := by omega
  have x2 : ¬ (A : Int) < 0 := by omega
  clear hno hok CN hlp hab hxs hnl hNM hWD hwp hSN CA CW hSl hn hA
  go_enter Tryz.func27, Tryz.ntmps27
  go_upto_region 0 with (fail)
  refine wp_region_lit ?_
  refine wl_val rfl _ (exec_box (.tmp 0) rfl _ _ n rfl) ?_
  have hbx := (Below.refl w.heap.size w).alloc (Nat.le_refl _) (.cells n.cells.toArray 49)
  have hnb := heap_alloc_new w (.cells n.cells.toArray 49)
  obtain ⟨W, hW⟩ : ∃ W, W = w.alloc (.cells n.cells.toArray 49) := ⟨_, rfl⟩
  have hWz : w.heap.size < W.heap.size := by rw [hW]; simp
  rw [← hW] at hbx hnb ⊢
  have hnb : NBlk W w.heap.size n := hnb
  obtain ⟨nb, hnbe⟩ : ∃ nb, nb = w.heap.size := ⟨_, rfl⟩
  have hnz : nb < W.heap.size := by omega
  rw [← hnbe] at hnb ⊢
  have HBX := Lib.hid hbx
  have HNB := Lib.hid hnb
  clear hW hbx hnb hnbe
  go_upto_region 3 with (first
    | (refine wpList_load_nd_g _ ?_ (.tmp 2) rfl nb rfl n HNB.out ?_; rotate_right)
    | (go_at_call 51; (with_reducible refine (HN.out _).mono ?_); rintro e w1 ⟨rfl, hb1⟩; have HB1 := Lib.hid hb1; clear hb1))
  have hn1 : NBlk w1 nb n := HNB.out.below HB1.out hnz
  have hz1 : nb < w1.heap.size := Nat.lt_of_lt_of_le hnz HB1.out.size
  have hkc : ∀ u : Ext w1, u.1.cell? ⟨nb, 0, none⟩ = some (.int .u8 1) := fun u => ext_cell (by rw [hn1.cell]; show some (Value.int .u8 n.kind) = _; rw [HK.out]; rfl) u
  have HN1 := Lib.hid hn1
  have HB2 := Lib.hid (HBX.out.trans (HB1.out.mono HBX.out.size))
  have cnm : ∀ u : Ext w1, Calls Tryz.prog 52 #[.int .i64 (A : Nat)] u.1 fun e w' => e = .returned (.string NM) ∧ Below u.1.heap.size u.1 w' := fun u => HCA.out u.1
  have cwd : ∀ u : Ext w1, Calls Tryz.prog 9 #[.int .u8 1] u.1 fun e w' => e = .returned (.string WD) ∧ w' = u.1 := fun u => HCW.out u.1
  clear hn1 HBX HNB HB1 HN
  refine region_ext (by kernel_rfl) (by kernel_rfl) ?_
  repeat go_big_quiet_step (first | exact ext_call _ (cnm _) | exact ext_call_same _ (cwd _))
  refine wpQuiet_nil ?_
  intro u
  have hu := u.2
  obtain ⟨Z, hZ⟩ : ∃ Z, Z = u.1 := ⟨_, rfl⟩
  rw [← hZ] at hu ⊢
  clear hZ cnm cwd hkc
  obtain ⟨S6, hS6⟩ : ∃ S, NM ++ ⟨#[32, 61, 32]⟩ ++ WD = S := ⟨_, rfl⟩
  rw [hS6]
  have h6s : S6.size ≤ 40 := by rw [← hS6, ByteArray.size_append, ByteArray.size_append, hsz3]; omega
  have h6l : S6.data.toList = NM.data.toList ++ [32, 61, 32] ++ WD.data.toList := by rw [← hS6, app_list, app_list]
  have hnz2 := HN1.out.below hu hz1
  have k0 : Z.cell? ⟨nb, 0, none⟩ = some (.int .u8 1) := by rw [hnz2.cell]; show some (Value.int .u8 n.kind) = _; rw [HK.out]; rfl
  obtain ⟨y0, hy0⟩ : ∃ y, n.f 1 = y := ⟨_, rfl⟩
  have k1 : Z.cell? ⟨nb, 1, none⟩ = some (.float .f64 y0) := by rw [hnz2.cell, ← hy0]; rfl
  obtain ⟨y1, hy1⟩ : ∃ y, n.f 2 = y := ⟨_, rfl⟩
  have k2 : Z.cell? ⟨nb, 2, none⟩ = some (.float .f64 y1) := by rw [hnz2.cell, ← hy1]; rfl
  obtain ⟨y2, hy2⟩ : ∃ y, n.f 3 = y := ⟨_, rfl⟩
  have k3 : Z.cell? ⟨nb, 3, none⟩ = some (.float .f64 y2) := by rw [hnz2.cell, ← hy2]; rfl
  have CS : ∀ v : World, Calls Tryz.prog 53 #[.slice (some ⟨v.heap.size, 0, none⟩) 3 3] (v.alloc (.cells #[.float .f64 y0, .float .f64 y1, .float .f64 y2] 46)) fun e w' => e = .returned (.string SN) ∧ Below v.heap.size v w' := fun v =>
    numbers_new v ((numsK 1).map n.f) HS.out.1 3 (by rw [List.length_map]; rfl) (by decide) _ (by show _ = (#[Value.float .f64 (n.f 1), Value.float .f64 (n.f 2), Value.float .f64 (n.f 3)] : Array Value); rw [hy0, hy1, hy2]) SN HS.out.2
  have HCS := Lib.hid CS
  have HU := Lib.hid (HB2.out.trans (hu.mono HB2.out.size))
  have HF := Lib.hid (show bA (lineT hiP loP n (A : Int)) = S6 ++ SN from (bA_of (by rw [app_list, h6l, HLP.out]; unfold subL subsN; rw [HK.out]; simp)).symm)
  clear CS hu hS6 h6l hnz2 hy0 hy1 hy2 HN1 HK HAB HLP HS HCA HCW
  go_wp2_with (go_at_call 53; (with_reducible refine (HCS.out _).mono ?_); rintro e w2 ⟨rfl, hb2⟩; have HU2 := Lib.hid (HU.out.trans (hb2.mono HU.out.size)); clear hb2)
  go_ret2
  exact ⟨by rw [HF.out]; rfl, HU2.out⟩
set_option maxRecDepth 100000 in
set_option maxHeartbeats 4000000 in
theorem rline_2 (n : Nd) (hn : n.ok) (hk : n.kind = 2) (A : Nat) (hA : A < 4096) (hok : lineOk n (A : Int) = true) (w : World) :
    Calls Tryz.prog 27 #[n.val, .int .i64 (A : Nat)] w (Bel w (.tuple #[.string (bA (lineT hiP loP n (A : Int))), .int .i64 0])) := by
  have hno : nodeOk n (A : Int) = true := by
    unfold lineOk at hok
    rw [Bool.and_eq_true] at hok
    exact hok.2
  have CN := fun W => refnode_any n hn (A : Int) W
  rw [hno] at CN
  have HN := Lib.hid CN
  have hlp := line_parts n (A : Int) hok
  rw [hk] at hlp
  obtain ⟨_, hab⟩ := node_facts hno (by omega)
  have hxs := nums_lt hn (numsK 2)
  have hnl := numL_len ((numsK 2).map n.f) hxs
  have hns := nmB_size (A : Int) (by omega) (by omega)
  have hws := wordF_size 2
  obtain ⟨NM, hNM⟩ : ∃ S, nmB (A : Int) = S := ⟨_, rfl⟩
  obtain ⟨WD, hWD⟩ : ∃ S, wordF 2 = S := ⟨_, rfl⟩
  obtain ⟨SN, hSN⟩ : ∃ S, bA (numL ((numsK 2).map n.f)) = S := ⟨_, rfl⟩
  have CA := fun W => name19_any A hA W
  have CW := fun W => rword_any 2 W
  have hwp : parw.wordF 2 = WD := by rw [← hWD]; rfl
  rw [hNM] at CA hlp hns
  rw [hwp] at CW
  rw [hWD] at hlp hws
  have hSs : SN.size ≤ 1000 := by
    rw [← hSN, bA_size]
    have : ((numsK 2).map n.f).length = 4 := by rw [List.length_map]; rfl
    omega
  have hSl : numL ((numsK 2).map n.f) = SN.data.toList := by rw [← hSN, bA_list]
  rw [hSl] at hlp
  have HLP := Lib.hid hlp
  have HCA := Lib.hid CA
  have HCW := Lib.hid CW
  have HS := Lib.hid (And.intro hxs hSN)
  have HAB := Lib.hid hab
  have HK := Lib.hid hk
  have hai : (A : Int) < 4096 := by omega
  have hsz3 : (⟨#[32, 61, 32]⟩ : ByteArray).size = 3 := rfl
  have hsz1 : (⟨#[32]⟩ : ByteArray).size = 1 := rfl
  have x1 : ¬ (4096 : Int) ≤ (A : Int) := by omega
  have x2 : ¬ (A : Int) < 0 := by omega
  clear hno hok CN hlp hab hxs hnl hNM hWD hwp hSN CA CW hSl hn hA
  go_enter Tryz.func27, Tryz.ntmps27
  go_upto_region 0 with (fail)
  refine wp_region_lit ?_
  refine wl_val rfl _ (exec_box (.tmp 0) rfl _ _ n rfl) ?_
  have hbx := (Below.refl w.heap.size w).alloc (Nat.le_refl _) (.cells n.cells.toArray 49)
  have hnb := heap_alloc_new w (.cells n.cells.toArray 49)
  obtain ⟨W, hW⟩ : ∃ W, W = w.alloc (.cells n.cells.toArray 49) := ⟨_, rfl⟩
  have hWz : w.heap.size < W.heap.size := by rw [hW]; simp
  rw [← hW] at hbx hnb ⊢
  have hnb : NBlk W w.heap.size n := hnb
  obtain ⟨nb, hnbe⟩ : ∃ nb, nb = w.heap.size := ⟨_, rfl⟩
  have hnz : nb < W.heap.size := by omega
  rw [← hnbe] at hnb ⊢
  have HBX := Lib.hid hbx
  have HNB := Lib.hid hnb
  clear hW hbx hnb hnbe
  go_upto_region 3 with (first
    | (refine wpList_load_nd_g _ ?_ (.tmp 2) rfl nb rfl n HNB.out ?_; rotate_right)
    | (go_at_call 51; (with_reducible refine (HN.out _).mono ?_); rintro e w1 ⟨rfl, hb1⟩; have HB1 := Lib.hid hb1; clear hb1))
  have hn1 : NBlk w1 nb n := HNB.out.below HB1.out hnz
  have hz1 : nb < w1.heap.size := Nat.lt_of_lt_of_le hnz HB1.out.size
  have hkc : ∀ u : Ext w1, u.1.cell? ⟨nb, 0, none⟩ = some (.int .u8 2) := fun u => ext_cell (by rw [hn1.cell]; show some (Value.int .u8 n.kind) = _; rw [HK.out]; rfl) u
  have HN1 := Lib.hid hn1
  have HB2 := Lib.hid (HBX.out.trans (HB1.out.mono HBX.out.size))
  have cnm : ∀ u : Ext w1, Calls Tryz.prog 52 #[.int .i64 (A : Nat)] u.1 fun e w' => e = .returned (.string NM) ∧ Below u.1.heap.size u.1 w' := fun u => HCA.out u.1
  have cwd : ∀ u : Ext w1, Calls Tryz.prog 9 #[.int .u8 2] u.1 fun e w' => e = .returned (.string WD) ∧ w' = u.1 := fun u => HCW.out u.1
  clear hn1 HBX HNB HB1 HN
  refine region_ext (by kernel_rfl) (by kernel_rfl) ?_
  repeat go_big_quiet_step (first | exact ext_call _ (cnm _) | exact ext_call_same _ (cwd _))
  refine wpQuiet_nil ?_
  intro u
  have hu := u.2
  obtain ⟨Z, hZ⟩ : ∃ Z, Z = u.1 := ⟨_, rfl⟩
  rw [← hZ] at hu ⊢
  clear hZ cnm cwd hkc
  obtain ⟨S6, hS6⟩ : ∃ S, NM ++ ⟨#[32, 61, 32]⟩ ++ WD = S := ⟨_, rfl⟩
  rw [hS6]
  have h6s : S6.size ≤ 40 := by rw [← hS6, ByteArray.size_append, ByteArray.size_append, hsz3]; omega
  have h6l : S6.data.toList = NM.data.toList ++ [32, 61, 32] ++ WD.data.toList := by rw [← hS6, app_list, app_list]
  have hnz2 := HN1.out.below hu hz1
  have k0 : Z.cell? ⟨nb, 0, none⟩ = some (.int .u8 2) := by rw [hnz2.cell]; show some (Value.int .u8 n.kind) = _; rw [HK.out]; rfl
  obtain ⟨y0, hy0⟩ : ∃ y, n.f 13 = y := ⟨_, rfl⟩
  have k13 : Z.cell? ⟨nb, 13, none⟩ = some (.float .f64 y0) := by rw [hnz2.cell, ← hy0]; rfl
  obtain ⟨y1, hy1⟩ : ∃ y, n.f 1 = y := ⟨_, rfl⟩
  have k1 : Z.cell? ⟨nb, 1, none⟩ = some (.float .f64 y1) := by rw [hnz2.cell, ← hy1]; rfl
  obtain ⟨y2, hy2⟩ : ∃ y, n.f 2 = y := ⟨_, rfl⟩
  have k2 : Z.cell? ⟨nb, 2, none⟩ = some (.float .f64 y2) := by rw [hnz2.cell, ← hy2]; rfl
  obtain ⟨y3, hy3⟩ : ∃ y, n.f 3 = y := ⟨_, rfl⟩
  have k3 : Z.cell? ⟨nb, 3, none⟩ = some (.float .f64 y3) := by rw [hnz2.cell, ← hy3]; rfl
  have CS : ∀ v : World, Calls Tryz.prog 53 #[.slice (some ⟨v.heap.size, 0, none⟩) 4 4] (v.alloc (.cells #[.float .f64 y0, .float .f64 y1, .float .f64 y2, .float .f64 y3] 46)) fun e w' => e = .returned (.string SN) ∧ Below v.heap.size v w' := fun v =>
    numbers_new v ((numsK 2).map n.f) HS.out.1 4 (by rw [List.length_map]; rfl) (by decide) _ (by show _ = (#[Value.float .f64 (n.f 13), Value.float .f64 (n.f 1), Value.float .f64 (n.f 2), Value.float .f64 (n.f 3)] : Array Value); rw [hy0, hy1, hy2, hy3]) SN HS.out.2
  have HCS := Lib.hid CS
  have HU := Lib.hid (HB2.out.trans (hu.mono HB2.out.size))
  have HF := Lib.hid (show bA (lineT hiP loP n (A : Int)) = S6 ++ SN from (bA_of (by rw [app_list, h6l, HLP.out]; unfold subL subsN; rw [HK.out]; simp)).symm)
  clear CS hu hS6 h6l hnz2 hy0 hy1 hy2 hy3 HN1 HK HAB HLP HS HCA HCW
  go_wp2_with (go_at_call 53; (with_reducible refine (HCS.out _).mono ?_); rintro e w2 ⟨rfl, hb2⟩; have HU2 := Lib.hid (HU.out.trans (hb2.mono HU.out.size)); clear hb2)
  go_ret2
  exact ⟨by rw [HF.out]; rfl, HU2.out⟩
set_option maxRecDepth 100000 in
set_option maxHeartbeats 4000000 in
theorem rline_3 (n : Nd) (hn : n.ok) (hk : n.kind = 3) (A : Nat) (hA : A < 4096) (hok : lineOk n (A : Int) = true) (w : World) :
    Calls Tryz.prog 27 #[n.val, .int .i64 (A : Nat)] w (Bel w (.tuple #[.string (bA (lineT hiP loP n (A : Int))), .int .i64 0])) := by
  have hno : nodeOk n (A : Int) = true := by
    unfold lineOk at hok
    rw [Bool.and_eq_true] at hok
    exact hok.2
  have CN := fun W => refnode_any n hn (A : Int) W
  rw [hno] at CN
  have HN := Lib.hid CN
  have hlp := line_parts n (A : Int) hok
  rw [hk] at hlp
  obtain ⟨_, hab⟩ := node_facts hno (by omega)
  have hxs := nums_lt hn (numsK 3)
  have hnl := numL_len ((numsK 3).map n.f) hxs
  have hns := nmB_size (A : Int) (by omega) (by omega)
  have hws := wordF_size 3
  obtain ⟨NM, hNM⟩ : ∃ S, nmB (A : Int) = S := ⟨_, rfl⟩
  obtain ⟨WD, hWD⟩ : ∃ S, wordF 3 = S := ⟨_, rfl⟩
  obtain ⟨SN, hSN⟩ : ∃ S, bA (numL ((numsK 3).map n.f)) = S := ⟨_, rfl⟩
  have CA := fun W => name19_any A hA W
  have CW := fun W => rword_any 3 W
  have hwp : parw.wordF 3 = WD := by rw [← hWD]; rfl
  rw [hNM] at CA hlp hns
  rw [hwp] at CW
  rw [hWD] at hlp hws
  have hSs : SN.size ≤ 1000 := by
    rw [← hSN, bA_size]
    have : ((numsK 3).map n.f).length = 2 := by rw [List.length_map]; rfl
    omega
  have hSl : numL ((numsK 3).map n.f) = SN.data.toList := by rw [← hSN, bA_list]
  rw [hSl] at hlp
  have HLP := Lib.hid hlp
  have HCA := Lib.hid CA
  have HCW := Lib.hid CW
  have HS := Lib.hid (And.intro hxs hSN)
  have HAB := Lib.hid hab
  have HK := Lib.hid hk
  have hai : (A : Int) < 4096 := by omega
  have hsz3 : (⟨#[32, 61, 32]⟩ : ByteArray).size = 3 := rfl
  have hsz1 : (⟨#[32]⟩ : ByteArray).size = 1 := rfl
  have x1 : ¬ (4096 : Int) ≤ (A : Int) := by omega
  have x2 : ¬ (A : Int) < 0 := by omega
  clear hno hok CN hlp hab hxs hnl hNM hWD hwp hSN CA CW hSl hn hA
  go_enter Tryz.func27, Tryz.ntmps27
  go_upto_region 0 with (fail)
  refine wp_region_lit ?_
  refine wl_val rfl _ (exec_box (.tmp 0) rfl _ _ n rfl) ?_
  have hbx := (Below.refl w.heap.size w).alloc (Nat.le_refl _) (.cells n.cells.toArray 49)
  have hnb := heap_alloc_new w (.cells n.cells.toArray 49)
  obtain ⟨W, hW⟩ : ∃ W, W = w.alloc (.cells n.cells.toArray 49) := ⟨_, rfl⟩
  have hWz : w.heap.size < W.heap.size := by rw [hW]; simp
  rw [← hW] at hbx hnb ⊢
  have hnb : NBlk W w.heap.size n := hnb
  obtain ⟨nb, hnbe⟩ : ∃ nb, nb = w.heap.size := ⟨_, rfl⟩
  have hnz : nb < W.heap.size := by omega
  rw [← hnbe] at hnb ⊢
  have HBX := Lib.hid hbx
  have HNB := Lib.hid hnb
  clear hW hbx hnb hnbe
  go_upto_region 3 with (first
    | (refine wpList_load_nd_g _ ?_ (.tmp 2) rfl nb rfl n HNB.out ?_; rotate_right)
    | (go_at_call 51; (with_reducible refine (HN.out _).mono ?_); rintro e w1 ⟨rfl, hb1⟩; have HB1 := Lib.hid hb1; clear hb1))
  have hn1 : NBlk w1 nb n := HNB.out.below HB1.out hnz
  have hz1 : nb < w1.heap.size := Nat.lt_of_lt_of_le hnz HB1.out.size
  have hkc : ∀ u : Ext w1, u.1.cell? ⟨nb, 0, none⟩ = some (.int .u8 3) := fun u => ext_cell (by rw [hn1.cell]; show some (Value.int .u8 n.kind) = _; rw [HK.out]; rfl) u
  have HN1 := Lib.hid hn1
  have HB2 := Lib.hid (HBX.out.trans (HB1.out.mono HBX.out.size))
  have cnm : ∀ u : Ext w1, Calls Tryz.prog 52 #[.int .i64 (A : Nat)] u.1 fun e w' => e = .returned (.string NM) ∧ Below u.1.heap.size u.1 w' := fun u => HCA.out u.1
  have cwd : ∀ u : Ext w1, Calls Tryz.prog 9 #[.int .u8 3] u.1 fun e w' => e = .returned (.string WD) ∧ w' = u.1 := fun u => HCW.out u.1
  clear hn1 HBX HNB HB1 HN
  refine region_ext (by kernel_rfl) (by kernel_rfl) ?_
  repeat go_big_quiet_step (first | exact ext_call _ (cnm _) | exact ext_call_same _ (cwd _))
  refine wpQuiet_nil ?_
  intro u
  have hu := u.2
  obtain ⟨Z, hZ⟩ : ∃ Z, Z = u.1 := ⟨_, rfl⟩
  rw [← hZ] at hu ⊢
  clear hZ cnm cwd hkc
  obtain ⟨S6, hS6⟩ : ∃ S, NM ++ ⟨#[32, 61, 32]⟩ ++ WD = S := ⟨_, rfl⟩
  rw [hS6]
  have h6s : S6.size ≤ 40 := by rw [← hS6, ByteArray.size_append, ByteArray.size_append, hsz3]; omega
  have h6l : S6.data.toList = NM.data.toList ++ [32, 61, 32] ++ WD.data.toList := by rw [← hS6, app_list, app_list]
  have hnz2 := HN1.out.below hu hz1
  have k0 : Z.cell? ⟨nb, 0, none⟩ = some (.int .u8 3) := by rw [hnz2.cell]; show some (Value.int .u8 n.kind) = _; rw [HK.out]; rfl
  obtain ⟨y0, hy0⟩ : ∃ y, n.f 14 = y := ⟨_, rfl⟩
  have k14 : Z.cell? ⟨nb, 14, none⟩ = some (.float .f64 y0) := by rw [hnz2.cell, ← hy0]; rfl
  obtain ⟨y1, hy1⟩ : ∃ y, n.f 15 = y := ⟨_, rfl⟩
  have k15 : Z.cell? ⟨nb, 15, none⟩ = some (.float .f64 y1) := by rw [hnz2.cell, ← hy1]; rfl
  have CS : ∀ v : World, Calls Tryz.prog 53 #[.slice (some ⟨v.heap.size, 0, none⟩) 2 2] (v.alloc (.cells #[.float .f64 y0, .float .f64 y1] 46)) fun e w' => e = .returned (.string SN) ∧ Below v.heap.size v w' := fun v =>
    numbers_new v ((numsK 3).map n.f) HS.out.1 2 (by rw [List.length_map]; rfl) (by decide) _ (by show _ = (#[Value.float .f64 (n.f 14), Value.float .f64 (n.f 15)] : Array Value); rw [hy0, hy1]) SN HS.out.2
  have HCS := Lib.hid CS
  have HU := Lib.hid (HB2.out.trans (hu.mono HB2.out.size))
  have HF := Lib.hid (show bA (lineT hiP loP n (A : Int)) = S6 ++ SN from (bA_of (by rw [app_list, h6l, HLP.out]; unfold subL subsN; rw [HK.out]; simp)).symm)
  clear CS hu hS6 h6l hnz2 hy0 hy1 HN1 HK HAB HLP HS HCA HCW
  go_wp2_with (go_at_call 53; (with_reducible refine (HCS.out _).mono ?_); rintro e w2 ⟨rfl, hb2⟩; have HU2 := Lib.hid (HU.out.trans (hb2.mono HU.out.size)); clear hb2)
  go_ret2
  exact ⟨by rw [HF.out]; rfl, HU2.out⟩
set_option maxRecDepth 100000 in
set_option maxHeartbeats 4000000 in
theorem rline_4 (n : Nd) (hn : n.ok) (hk : n.kind = 4) (A : Nat) (hA : A < 4096) (hok : lineOk n (A : Int) = true) (w : World) :
    Calls Tryz.prog 27 #[n.val, .int .i64 (A : Nat)] w (Bel w (.tuple #[.string (bA (lineT hiP loP n (A : Int))), .int .i64 0])) := by
  have hno : nodeOk n (A : Int) = true := by
    unfold lineOk at hok
    rw [Bool.and_eq_true] at hok
    exact hok.2
  have CN := fun W => refnode_any n hn (A : Int) W
  rw [hno] at CN
  have HN := Lib.hid CN
  have hlp := line_parts n (A : Int) hok
  rw [hk] at hlp
  obtain ⟨_, hab⟩ := node_facts hno (by omega)
  have hxs := nums_lt hn (numsK 4)
  have hnl := numL_len ((numsK 4).map n.f) hxs
  have hns := nmB_size (A : Int) (by omega) (by omega)
  have hws := wordF_size 4
  obtain ⟨NM, hNM⟩ : ∃ S, nmB (A : Int) = S := ⟨_, rfl⟩
  obtain ⟨WD, hWD⟩ : ∃ S, wordF 4 = S := ⟨_, rfl⟩
  obtain ⟨SN, hSN⟩ : ∃ S, bA (numL ((numsK 4).map n.f)) = S := ⟨_, rfl⟩
  have CA := fun W => name19_any A hA W
  have CW := fun W => rword_any 4 W
  have hwp : parw.wordF 4 = WD := by rw [← hWD]; rfl
  rw [hNM] at CA hlp hns
  rw [hwp] at CW
  rw [hWD] at hlp hws
  have hSs : SN.size ≤ 1000 := by
    rw [← hSN, bA_size]
    have : ((numsK 4).map n.f).length = 7 := by rw [List.length_map]; rfl
    omega
  have hSl : numL ((numsK 4).map n.f) = SN.data.toList := by rw [← hSN, bA_list]
  rw [hSl] at hlp
  have HLP := Lib.hid hlp
  have HCA := Lib.hid CA
  have HCW := Lib.hid CW
  have HS := Lib.hid (And.intro hxs hSN)
  have HAB := Lib.hid hab
  have HK := Lib.hid hk
  have hai : (A : Int) < 4096 := by omega
  have hsz3 : (⟨#[32, 61, 32]⟩ : ByteArray).size = 3 := rfl
  have hsz1 : (⟨#[32]⟩ : ByteArray).size = 1 := rfl
  have x1 : ¬ (4096 : Int) ≤ (A : Int) := by omega
  have x2 : ¬ (A : Int) < 0 := by omega
  clear hno hok CN hlp hab hxs hnl hNM hWD hwp hSN CA CW hSl hn hA
  go_enter Tryz.func27, Tryz.ntmps27
  go_upto_region 0 with (fail)
  refine wp_region_lit ?_
  refine wl_val rfl _ (exec_box (.tmp 0) rfl _ _ n rfl) ?_
  have hbx := (Below.refl w.heap.size w).alloc (Nat.le_refl _) (.cells n.cells.toArray 49)
  have hnb := heap_alloc_new w (.cells n.cells.toArray 49)
  obtain ⟨W, hW⟩ : ∃ W, W = w.alloc (.cells n.cells.toArray 49) := ⟨_, rfl⟩
  have hWz : w.heap.size < W.heap.size := by rw [hW]; simp
  rw [← hW] at hbx hnb ⊢
  have hnb : NBlk W w.heap.size n := hnb
  obtain ⟨nb, hnbe⟩ : ∃ nb, nb = w.heap.size := ⟨_, rfl⟩
  have hnz : nb < W.heap.size := by omega
  rw [← hnbe] at hnb ⊢
  have HBX := Lib.hid hbx
  have HNB := Lib.hid hnb
  clear hW hbx hnb hnbe
  go_upto_region 3 with (first
    | (refine wpList_load_nd_g _ ?_ (.tmp 2) rfl nb rfl n HNB.out ?_; rotate_right)
    | (go_at_call 51; (with_reducible refine (HN.out _).mono ?_); rintro e w1 ⟨rfl, hb1⟩; have HB1 := Lib.hid hb1; clear hb1))
  have hn1 : NBlk w1 nb n := HNB.out.below HB1.out hnz
  have hz1 : nb < w1.heap.size := Nat.lt_of_lt_of_le hnz HB1.out.size
  have hkc : ∀ u : Ext w1, u.1.cell? ⟨nb, 0, none⟩ = some (.int .u8 4) := fun u => ext_cell (by rw [hn1.cell]; show some (Value.int .u8 n.kind) = _; rw [HK.out]; rfl) u
  have HN1 := Lib.hid hn1
  have HB2 := Lib.hid (HBX.out.trans (HB1.out.mono HBX.out.size))
  have cnm : ∀ u : Ext w1, Calls Tryz.prog 52 #[.int .i64 (A : Nat)] u.1 fun e w' => e = .returned (.string NM) ∧ Below u.1.heap.size u.1 w' := fun u => HCA.out u.1
  have cwd : ∀ u : Ext w1, Calls Tryz.prog 9 #[.int .u8 4] u.1 fun e w' => e = .returned (.string WD) ∧ w' = u.1 := fun u => HCW.out u.1
  clear hn1 HBX HNB HB1 HN
  refine region_ext (by kernel_rfl) (by kernel_rfl) ?_
  repeat go_big_quiet_step (first | exact ext_call _ (cnm _) | exact ext_call_same _ (cwd _))
  refine wpQuiet_nil ?_
  intro u
  have hu := u.2
  obtain ⟨Z, hZ⟩ : ∃ Z, Z = u.1 := ⟨_, rfl⟩
  rw [← hZ] at hu ⊢
  clear hZ cnm cwd hkc
  obtain ⟨S6, hS6⟩ : ∃ S, NM ++ ⟨#[32, 61, 32]⟩ ++ WD = S := ⟨_, rfl⟩
  rw [hS6]
  have h6s : S6.size ≤ 40 := by rw [← hS6, ByteArray.size_append, ByteArray.size_append, hsz3]; omega
  have h6l : S6.data.toList = NM.data.toList ++ [32, 61, 32] ++ WD.data.toList := by rw [← hS6, app_list, app_list]
  have hnz2 := HN1.out.below hu hz1
  have k0 : Z.cell? ⟨nb, 0, none⟩ = some (.int .u8 4) := by rw [hnz2.cell]; show some (Value.int .u8 n.kind) = _; rw [HK.out]; rfl
  obtain ⟨y0, hy0⟩ : ∃ y, n.f 14 = y := ⟨_, rfl⟩
  have k14 : Z.cell? ⟨nb, 14, none⟩ = some (.float .f64 y0) := by rw [hnz2.cell, ← hy0]; rfl
  obtain ⟨y1, hy1⟩ : ∃ y, n.f 7 = y := ⟨_, rfl⟩
  have k7 : Z.cell? ⟨nb, 7, none⟩ = some (.float .f64 y1) := by rw [hnz2.cell, ← hy1]; rfl
  obtain ⟨y2, hy2⟩ : ∃ y, n.f 8 = y := ⟨_, rfl⟩
  have k8 : Z.cell? ⟨nb, 8, none⟩ = some (.float .f64 y2) := by rw [hnz2.cell, ← hy2]; rfl
  obtain ⟨y3, hy3⟩ : ∃ y, n.f 9 = y := ⟨_, rfl⟩
  have k9 : Z.cell? ⟨nb, 9, none⟩ = some (.float .f64 y3) := by rw [hnz2.cell, ← hy3]; rfl
  obtain ⟨y4, hy4⟩ : ∃ y, n.f 10 = y := ⟨_, rfl⟩
  have k10 : Z.cell? ⟨nb, 10, none⟩ = some (.float .f64 y4) := by rw [hnz2.cell, ← hy4]; rfl
  obtain ⟨y5, hy5⟩ : ∃ y, n.f 11 = y := ⟨_, rfl⟩
  have k11 : Z.cell? ⟨nb, 11, none⟩ = some (.float .f64 y5) := by rw [hnz2.cell, ← hy5]; rfl
  obtain ⟨y6, hy6⟩ : ∃ y, n.f 12 = y := ⟨_, rfl⟩
  have k12 : Z.cell? ⟨nb, 12, none⟩ = some (.float .f64 y6) := by rw [hnz2.cell, ← hy6]; rfl
  have CS : ∀ v : World, Calls Tryz.prog 53 #[.slice (some ⟨v.heap.size, 0, none⟩) 7 7] (v.alloc (.cells #[.float .f64 y0, .float .f64 y1, .float .f64 y2, .float .f64 y3, .float .f64 y4, .float .f64 y5, .float .f64 y6] 46)) fun e w' => e = .returned (.string SN) ∧ Below v.heap.size v w' := fun v =>
    numbers_new v ((numsK 4).map n.f) HS.out.1 7 (by rw [List.length_map]; rfl) (by decide) _ (by show _ = (#[Value.float .f64 (n.f 14), Value.float .f64 (n.f 7), Value.float .f64 (n.f 8), Value.float .f64 (n.f 9), Value.float .f64 (n.f 10), Value.float .f64 (n.f 11), Value.float .f64 (n.f 12)] : Array Value); rw [hy0, hy1, hy2, hy3, hy4, hy5, hy6]) SN HS.out.2
  have HCS := Lib.hid CS
  have HU := Lib.hid (HB2.out.trans (hu.mono HB2.out.size))
  have HF := Lib.hid (show bA (lineT hiP loP n (A : Int)) = S6 ++ SN from (bA_of (by rw [app_list, h6l, HLP.out]; unfold subL subsN; rw [HK.out]; simp)).symm)
  clear CS hu hS6 h6l hnz2 hy0 hy1 hy2 hy3 hy4 hy5 hy6 HN1 HK HAB HLP HS HCA HCW
  go_wp2_with (go_at_call 53; (with_reducible refine (HCS.out _).mono ?_); rintro e w2 ⟨rfl, hb2⟩; have HU2 := Lib.hid (HU.out.trans (hb2.mono HU.out.size)); clear hb2)
  go_ret2
  exact ⟨by rw [HF.out]; rfl, HU2.out⟩
set_option maxRecDepth 100000 in
set_option maxHeartbeats 4000000 in
theorem rline_5 (n : Nd) (hn : n.ok) (hk : n.kind = 5) (A : Nat) (hA : A < 4096) (hok : lineOk n (A : Int) = true) (w : World) :
    Calls Tryz.prog 27 #[n.val, .int .i64 (A : Nat)] w (Bel w (.tuple #[.string (bA (lineT hiP loP n (A : Int))), .int .i64 0])) := by
  have hno : nodeOk n (A : Int) = true := by
    unfold lineOk at hok
    rw [Bool.and_eq_true] at hok
    exact hok.2
  have CN := fun W => refnode_any n hn (A : Int) W
  rw [hno] at CN
  have HN := Lib.hid CN
  have hlp := line_parts n (A : Int) hok
  rw [hk] at hlp
  obtain ⟨_, hab⟩ := node_facts hno (by omega)
  have hxs := nums_lt hn (numsK 5)
  have hnl := numL_len ((numsK 5).map n.f) hxs
  have hns := nmB_size (A : Int) (by omega) (by omega)
  have hws := wordF_size 5
  obtain ⟨NM, hNM⟩ : ∃ S, nmB (A : Int) = S := ⟨_, rfl⟩
  obtain ⟨WD, hWD⟩ : ∃ S, wordF 5 = S := ⟨_, rfl⟩
  obtain ⟨SN, hSN⟩ : ∃ S, bA (numL ((numsK 5).map n.f)) = S := ⟨_, rfl⟩
  have CA := fun W => name19_any A hA W
  have CW := fun W => rword_any 5 W
  have hwp : parw.wordF 5 = WD := by rw [← hWD]; rfl
  rw [hNM] at CA hlp hns
  rw [hwp] at CW
  rw [hWD] at hlp hws
  have hSs : SN.size ≤ 1000 := by
    rw [← hSN, bA_size]
    have : ((numsK 5).map n.f).length = 1 := by rw [List.length_map]; rfl
    omega
  have hSl : numL ((numsK 5).map n.f) = SN.data.toList := by rw [← hSN, bA_list]
  rw [hSl] at hlp
  have HLP := Lib.hid hlp
  have HCA := Lib.hid CA
  have HCW := Lib.hid CW
  have HS := Lib.hid (And.intro hxs hSN)
  have HAB := Lib.hid hab
  have HK := Lib.hid hk
  have hai : (A : Int) < 4096 := by omega
  have hsz3 : (⟨#[32, 61, 32]⟩ : ByteArray).size = 3 := rfl
  have hsz1 : (⟨#[32]⟩ : ByteArray).size = 1 := rfl
  have x1 : ¬ (4096 : Int) ≤ (A : Int) := by omega
  have x2 : ¬ (A : Int) < 0 := by omega
  clear hno hok CN hlp hab hxs hnl hNM hWD hwp hSN CA CW hSl hn hA
  go_enter Tryz.func27, Tryz.ntmps27
  go_upto_region 0 with (fail)
  refine wp_region_lit ?_
  refine wl_val rfl _ (exec_box (.tmp 0) rfl _ _ n rfl) ?_
  have hbx := (Below.refl w.heap.size w).alloc (Nat.le_refl _) (.cells n.cells.toArray 49)
  have hnb := heap_alloc_new w (.cells n.cells.toArray 49)
  obtain ⟨W, hW⟩ : ∃ W, W = w.alloc (.cells n.cells.toArray 49) := ⟨_, rfl⟩
  have hWz : w.heap.size < W.heap.size := by rw [hW]; simp
  rw [← hW] at hbx hnb ⊢
  have hnb : NBlk W w.heap.size n := hnb
  obtain ⟨nb, hnbe⟩ : ∃ nb, nb = w.heap.size := ⟨_, rfl⟩
  have hnz : nb < W.heap.size := by omega
  rw [← hnbe] at hnb ⊢
  have HBX := Lib.hid hbx
  have HNB := Lib.hid hnb
  clear hW hbx hnb hnbe
  go_upto_region 3 with (first
    | (refine wpList_load_nd_g _ ?_ (.tmp 2) rfl nb rfl n HNB.out ?_; rotate_right)
    | (go_at_call 51; (with_reducible refine (HN.out _).mono ?_); rintro e w1 ⟨rfl, hb1⟩; have HB1 := Lib.hid hb1; clear hb1))
  have hn1 : NBlk w1 nb n := HNB.out.below HB1.out hnz
  have hz1 : nb < w1.heap.size := Nat.lt_of_lt_of_le hnz HB1.out.size
  have hkc : ∀ u : Ext w1, u.1.cell? ⟨nb, 0, none⟩ = some (.int .u8 5) := fun u => ext_cell (by rw [hn1.cell]; show some (Value.int .u8 n.kind) = _; rw [HK.out]; rfl) u
  have HN1 := Lib.hid hn1
  have HB2 := Lib.hid (HBX.out.trans (HB1.out.mono HBX.out.size))
  have cnm : ∀ u : Ext w1, Calls Tryz.prog 52 #[.int .i64 (A : Nat)] u.1 fun e w' => e = .returned (.string NM) ∧ Below u.1.heap.size u.1 w' := fun u => HCA.out u.1
  have cwd : ∀ u : Ext w1, Calls Tryz.prog 9 #[.int .u8 5] u.1 fun e w' => e = .returned (.string WD) ∧ w' = u.1 := fun u => HCW.out u.1
  clear hn1 HBX HNB HB1 HN
  refine region_ext (by kernel_rfl) (by kernel_rfl) ?_
  repeat go_big_quiet_step (first | exact ext_call _ (cnm _) | exact ext_call_same _ (cwd _))
  refine wpQuiet_nil ?_
  intro u
  have hu := u.2
  obtain ⟨Z, hZ⟩ : ∃ Z, Z = u.1 := ⟨_, rfl⟩
  rw [← hZ] at hu ⊢
  clear hZ cnm cwd hkc
  obtain ⟨S6, hS6⟩ : ∃ S, NM ++ ⟨#[32, 61, 32]⟩ ++ WD = S := ⟨_, rfl⟩
  rw [hS6]
  have h6s : S6.size ≤ 40 := by rw [← hS6, ByteArray.size_append, ByteArray.size_append, hsz3]; omega
  have h6l : S6.data.toList = NM.data.toList ++ [32, 61, 32] ++ WD.data.toList := by rw [← hS6, app_list, app_list]
  have hnz2 := HN1.out.below hu hz1
  have k0 : Z.cell? ⟨nb, 0, none⟩ = some (.int .u8 5) := by rw [hnz2.cell]; show some (Value.int .u8 n.kind) = _; rw [HK.out]; rfl
  obtain ⟨y0, hy0⟩ : ∃ y, n.f 16 = y := ⟨_, rfl⟩
  have k16 : Z.cell? ⟨nb, 16, none⟩ = some (.float .f64 y0) := by rw [hnz2.cell, ← hy0]; rfl
  obtain ⟨a, ha⟩ : ∃ a : Nat, n.a = (a : Int) := ⟨n.a.toNat, by have := HAB.out.1.1; omega⟩
  have ka : Z.cell? ⟨nb, 17, none⟩ = some (.int .i64 a) := by rw [hnz2.cell, ← ha]; rfl
  have ha4 : a < 4096 := by have := HAB.out.1.2; omega
  obtain ⟨b, hb⟩ : ∃ b : Nat, n.b = (b : Int) := ⟨n.b.toNat, by have := HAB.out.2.1; omega⟩
  have kb : Z.cell? ⟨nb, 18, none⟩ = some (.int .i64 b) := by rw [hnz2.cell, ← hb]; rfl
  have hb4 : b < 4096 := by have := HAB.out.2.2; omega
  have hna := nmB_size (a : Int) (by omega) (by omega)
  obtain ⟨NA, hNA⟩ : ∃ S, nmB (a : Int) = S := ⟨_, rfl⟩
  have CNA := fun W => name19_any a ha4 W
  rw [hNA] at CNA hna
  have HCN := Lib.hid CNA
  have hnb5 := nmB_size (b : Int) (by omega) (by omega)
  obtain ⟨NB, hNB⟩ : ∃ S, nmB (b : Int) = S := ⟨_, rfl⟩
  have CNB := fun W => name19_any b hb4 W
  rw [hNB] at CNB hnb5
  have HCB := Lib.hid CNB
  have HF := Lib.hid (show bA (lineT hiP loP n (A : Int)) = S6 ++ SN ++ ⟨#[32]⟩ ++ NA ++ ⟨#[32]⟩ ++ NB from (bA_of (by
    rw [app_list, app_list, app_list, app_list, app_list, h6l, HLP.out]
    unfold subL subsN
    rw [HK.out]
    simp only [List.map_cons, List.map_nil, List.flatten_cons, List.flatten_nil, ha, hb, hNA, hNB, List.append_assoc, List.append_nil, List.cons_append, List.nil_append])).symm)
  clear CNA CNB hNA hNB ha hb ha4 hb4
  have CS : ∀ v b, NumsAt v b [y0] → Calls Tryz.prog 53 #[.slice (some ⟨b, 0, none⟩) 1 1] v (Bel v (.string SN)) := fun v b h => by
    have := numbers_at (xs := (numsK 5).map n.f) (v := v) (b := b) (by
      show NumsAt v b [n.f 16]
      rw [hy0]
      exact h) HS.out.1 1 (by rw [List.length_map]; rfl) (by decide) 1
    rw [HS.out.2] at this
    exact this
  have HCS := Lib.hid CS
  have HU := Lib.hid (HB2.out.trans (hu.mono HB2.out.size))
  clear CS hu hS6 h6l hnz2 hy0 HN1 HK HAB HLP HS HCA HCW
  go_upto_region 14 with fail
  have q0 : ∀ u : Ext Z, u.1.cell? ⟨nb, 17, none⟩ = some (.int .i64 a) := fun u => ext_cell ka u
  have q1 : ∀ u : Ext Z, u.1.cell? ⟨nb, 18, none⟩ = some (.int .i64 b) := fun u => ext_cell kb u
  have p16 : ∀ u : Ext Z, u.1.cell? ⟨nb, 16, none⟩ = some (.float .f64 y0) := fun u => ext_cell k16 u
  clear k16 ka kb k0
  refine region_reads (C := fun w' => ∃ u : Ext Z, w' = u.1) [0, 1, 2, 7, 8, 12, 13] 11 (by kernel_rfl) (by kernel_rfl) (ext_self Z) ?_
  simp only [List.filterMap_cons, List.filterMap_nil, List.getElem?_cons_zero, List.getElem?_cons_succ]
  change wpQuiet _ _ _ _ (_ :: _ :: _ :: _ :: _ :: _ :: _ :: []) _
  repeat go_big_quiet_step (fail)
  refine wpQuiet_nil ?_
  clear p16 q0 q1
  obtain ⟨v0, hv0⟩ : ∃ v0, v0 = Z.drew := ⟨_, rfl⟩
  have BV0 := Lib.hid (show Below Z.heap.size Z v0 from by rw [hv0]; exact (Below.refl _ _).drew)
  rw [← hv0]
  clear hv0
  refine anyG_one 3 _ (by kernel_rfl) rfl rfl ?_
  refine goUpon_val _ _ (exec_bsF1 (.tmp 100) rfl _ _ y0 rfl ) ⟨⟨_, BV0.out.alloc BV0.out.size _⟩, rfl⟩ ?_
  obtain ⟨v1, hv1⟩ : ∃ v1, v1 = World.alloc v0 (.cells #[.float .f64 y0] 46) := ⟨_, rfl⟩
  have BV1 := Lib.hid (show Below Z.heap.size Z v1 from by rw [hv1]; exact BV0.out.alloc BV0.out.size _)
  obtain ⟨sb, hsb⟩ : ∃ sb, sb = v0.heap.size := ⟨_, rfl⟩
  have NV1 := Lib.hid (show NumsAt v1 sb [y0] from by rw [hsb, hv1]; exact nums_new v0 [y0] _ rfl)
  rw [← hv1, ← hsb]
  clear hv1 hsb
  change anyG _ _ _ _ _ _ _ (Act.put _ (some 101) _) _
  simp only [Act.put, List.setIfInBounds_toArray, List.set_cons_succ, List.set_cons_zero]
  refine anyG_one 4 _ (by kernel_rfl) rfl rfl ?_
  refine goUpon_call _ _ _ (exec_nb (.tmp 101) _ rfl _ (.slice (some ⟨sb, 0, none⟩) 1 1) rfl _) ?_
  (with_reducible refine (HCS.out v1 sb NV1.out).mono ?_)
  rintro e v2 ⟨rfl, hb2⟩
  have BV2 := Lib.hid (BV1.out.trans (hb2.mono BV1.out.size))
  clear hb2
  refine ⟨_, rfl, ⟨⟨v2, BV2.out⟩, rfl⟩, ?_⟩
  change anyG _ _ _ _ _ _ _ (Act.put _ (some 102) _) _
  simp only [Act.put, List.setIfInBounds_toArray, List.set_cons_succ, List.set_cons_zero]
  refine anyG_reads (f := 7) (by kernel_rfl) ⟨⟨_, BV2.out⟩, rfl⟩ [5, 6] _ _ (by kernel_rfl) ?_
  simp only [List.filterMap_cons, List.filterMap_nil, List.getElem?_toArray, List.getElem?_cons_zero, List.getElem?_cons_succ]
  change wpQuiet _ _ _ _ (_ :: _ :: []) _
  repeat go_big_quiet_step (fail)
  refine wpQuiet_nil ?_
  refine anyG_one 9 _ (by kernel_rfl) rfl rfl ?_
  refine goUpon_call _ _ _ (exec_na (.tmp 106) _ rfl _ (.int .i64 (a : Nat)) rfl _) ?_
  (with_reducible refine (HCN.out v2).mono ?_)
  rintro e v3 ⟨rfl, hb3⟩
  have BV3 := Lib.hid (BV2.out.trans (hb3.mono BV2.out.size))
  clear hb3
  refine ⟨_, rfl, ⟨⟨v3, BV3.out⟩, rfl⟩, ?_⟩
  change anyG _ _ _ _ _ _ _ (Act.put _ (some 107) _) _
  simp only [Act.put, List.setIfInBounds_toArray, List.set_cons_succ, List.set_cons_zero]
  refine anyG_reads (f := 4) (by kernel_rfl) ⟨⟨_, BV3.out⟩, rfl⟩ [10, 11] _ _ (by kernel_rfl) ?_
  simp only [List.filterMap_cons, List.filterMap_nil, List.getElem?_toArray, List.getElem?_cons_zero, List.getElem?_cons_succ]
  change wpQuiet _ _ _ _ (_ :: _ :: []) _
  repeat go_big_quiet_step (fail)
  refine wpQuiet_nil ?_
  refine anyG_one 14 _ (by kernel_rfl) rfl rfl ?_
  refine goUpon_call _ _ _ (exec_na (.tmp 111) _ rfl _ (.int .i64 (b : Nat)) rfl _) ?_
  (with_reducible refine (HCB.out v3).mono ?_)
  rintro e v4 ⟨rfl, hb4⟩
  have BV4 := Lib.hid (BV3.out.trans (hb4.mono BV3.out.size))
  clear hb4
  refine ⟨_, rfl, ⟨⟨v4, BV4.out⟩, rfl⟩, ?_⟩
  change anyG _ _ _ _ _ _ _ (Act.put _ (some 112) _) _
  simp only [Act.put, List.setIfInBounds_toArray, List.set_cons_succ, List.set_cons_zero]
  refine anyG_reads (f := 0) (by kernel_rfl) ⟨⟨_, BV4.out⟩, rfl⟩ [15, 16, 17] _ _ (by kernel_rfl) ?_
  simp only [List.filterMap_cons, List.filterMap_nil, List.getElem?_toArray, List.getElem?_cons_zero, List.getElem?_cons_succ]
  change wpQuiet _ _ _ _ (_ :: _ :: _ :: []) _
  repeat go_big_quiet_step (fail)
  refine wpQuiet_nil ?_
  refine anyG_end (by kernel_rfl) ?_
  simp only [Exit.then]
  go_wp2_with fail
  go_ret2
  exact ⟨by rw [HF.out]; rfl, HU.out.trans (BV4.out.mono HU.out.size)⟩
set_option maxRecDepth 100000 in
set_option maxHeartbeats 4000000 in
theorem rline_6 (n : Nd) (hn : n.ok) (hk : n.kind = 6) (A : Nat) (hA : A < 4096) (hok : lineOk n (A : Int) = true) (w : World) :
    Calls Tryz.prog 27 #[n.val, .int .i64 (A : Nat)] w (Bel w (.tuple #[.string (bA (lineT hiP loP n (A : Int))), .int .i64 0])) := by
  have hno : nodeOk n (A : Int) = true := by
    unfold lineOk at hok
    rw [Bool.and_eq_true] at hok
    exact hok.2
  have CN := fun W => refnode_any n hn (A : Int) W
  rw [hno] at CN
  have HN := Lib.hid CN
  have hlp := line_parts n (A : Int) hok
  rw [hk] at hlp
  obtain ⟨_, hab⟩ := node_facts hno (by omega)
  have hxs := nums_lt hn (numsK 6)
  have hnl := numL_len ((numsK 6).map n.f) hxs
  have hns := nmB_size (A : Int) (by omega) (by omega)
  have hws := wordF_size 6
  obtain ⟨NM, hNM⟩ : ∃ S, nmB (A : Int) = S := ⟨_, rfl⟩
  obtain ⟨WD, hWD⟩ : ∃ S, wordF 6 = S := ⟨_, rfl⟩
  obtain ⟨SN, hSN⟩ : ∃ S, bA (numL ((numsK 6).map n.f)) = S := ⟨_, rfl⟩
  have CA := fun W => name19_any A hA W
  have CW := fun W => rword_any 6 W
  have hwp : parw.wordF 6 = WD := by rw [← hWD]; rfl
  rw [hNM] at CA hlp hns
  rw [hwp] at CW
  rw [hWD] at hlp hws
  have hSs : SN.size ≤ 1000 := by
    rw [← hSN, bA_size]
    have : ((numsK 6).map n.f).length = 4 := by rw [List.length_map]; rfl
    omega
  have hSl : numL ((numsK 6).map n.f) = SN.data.toList := by rw [← hSN, bA_list]
  rw [hSl] at hlp
  have HLP := Lib.hid hlp
  have HCA := Lib.hid CA
  have HCW := Lib.hid CW
  have HS := Lib.hid (And.intro hxs hSN)
  have HAB := Lib.hid hab
  have HK := Lib.hid hk
  have hai : (A : Int) < 4096 := by omega
  have hsz3 : (⟨#[32, 61, 32]⟩ : ByteArray).size = 3 := rfl
  have hsz1 : (⟨#[32]⟩ : ByteArray).size = 1 := rfl
  have x1 : ¬ (4096 : Int) ≤ (A : Int) := by omega
  have x2 : ¬ (A : Int) < 0 := by omega
  clear hno hok CN hlp hab hxs hnl hNM hWD hwp hSN CA CW hSl hn hA
  go_enter Tryz.func27, Tryz.ntmps27
  go_upto_region 0 with (fail)
  refine wp_region_lit ?_
  refine wl_val rfl _ (exec_box (.tmp 0) rfl _ _ n rfl) ?_
  have hbx := (Below.refl w.heap.size w).alloc (Nat.le_refl _) (.cells n.cells.toArray 49)
  have hnb := heap_alloc_new w (.cells n.cells.toArray 49)
  obtain ⟨W, hW⟩ : ∃ W, W = w.alloc (.cells n.cells.toArray 49) := ⟨_, rfl⟩
  have hWz : w.heap.size < W.heap.size := by rw [hW]; simp
  rw [← hW] at hbx hnb ⊢
  have hnb : NBlk W w.heap.size n := hnb
  obtain ⟨nb, hnbe⟩ : ∃ nb, nb = w.heap.size := ⟨_, rfl⟩
  have hnz : nb < W.heap.size := by omega
  rw [← hnbe] at hnb ⊢
  have HBX := Lib.hid hbx
  have HNB := Lib.hid hnb
  clear hW hbx hnb hnbe
  go_upto_region 3 with (first
    | (refine wpList_load_nd_g _ ?_ (.tmp 2) rfl nb rfl n HNB.out ?_; rotate_right)
    | (go_at_call 51; (with_reducible refine (HN.out _).mono ?_); rintro e w1 ⟨rfl, hb1⟩; have HB1 := Lib.hid hb1; clear hb1))
  have hn1 : NBlk w1 nb n := HNB.out.below HB1.out hnz
  have hz1 : nb < w1.heap.size := Nat.lt_of_lt_of_le hnz HB1.out.size
  have hkc : ∀ u : Ext w1, u.1.cell? ⟨nb, 0, none⟩ = some (.int .u8 6) := fun u => ext_cell (by rw [hn1.cell]; show some (Value.int .u8 n.kind) = _; rw [HK.out]; rfl) u
  have HN1 := Lib.hid hn1
  have HB2 := Lib.hid (HBX.out.trans (HB1.out.mono HBX.out.size))
  have cnm : ∀ u : Ext w1, Calls Tryz.prog 52 #[.int .i64 (A : Nat)] u.1 fun e w' => e = .returned (.string NM) ∧ Below u.1.heap.size u.1 w' := fun u => HCA.out u.1
  have cwd : ∀ u : Ext w1, Calls Tryz.prog 9 #[.int .u8 6] u.1 fun e w' => e = .returned (.string WD) ∧ w' = u.1 := fun u => HCW.out u.1
  clear hn1 HBX HNB HB1 HN
  refine region_ext (by kernel_rfl) (by kernel_rfl) ?_
  repeat go_big_quiet_step (first | exact ext_call _ (cnm _) | exact ext_call_same _ (cwd _))
  refine wpQuiet_nil ?_
  intro u
  have hu := u.2
  obtain ⟨Z, hZ⟩ : ∃ Z, Z = u.1 := ⟨_, rfl⟩
  rw [← hZ] at hu ⊢
  clear hZ cnm cwd hkc
  obtain ⟨S6, hS6⟩ : ∃ S, NM ++ ⟨#[32, 61, 32]⟩ ++ WD = S := ⟨_, rfl⟩
  rw [hS6]
  have h6s : S6.size ≤ 40 := by rw [← hS6, ByteArray.size_append, ByteArray.size_append, hsz3]; omega
  have h6l : S6.data.toList = NM.data.toList ++ [32, 61, 32] ++ WD.data.toList := by rw [← hS6, app_list, app_list]
  have hnz2 := HN1.out.below hu hz1
  have k0 : Z.cell? ⟨nb, 0, none⟩ = some (.int .u8 6) := by rw [hnz2.cell]; show some (Value.int .u8 n.kind) = _; rw [HK.out]; rfl
  obtain ⟨y0, hy0⟩ : ∃ y, n.f 15 = y := ⟨_, rfl⟩
  have k15 : Z.cell? ⟨nb, 15, none⟩ = some (.float .f64 y0) := by rw [hnz2.cell, ← hy0]; rfl
  obtain ⟨y1, hy1⟩ : ∃ y, n.f 4 = y := ⟨_, rfl⟩
  have k4 : Z.cell? ⟨nb, 4, none⟩ = some (.float .f64 y1) := by rw [hnz2.cell, ← hy1]; rfl
  obtain ⟨y2, hy2⟩ : ∃ y, n.f 5 = y := ⟨_, rfl⟩
  have k5 : Z.cell? ⟨nb, 5, none⟩ = some (.float .f64 y2) := by rw [hnz2.cell, ← hy2]; rfl
  obtain ⟨y3, hy3⟩ : ∃ y, n.f 6 = y := ⟨_, rfl⟩
  have k6 : Z.cell? ⟨nb, 6, none⟩ = some (.float .f64 y3) := by rw [hnz2.cell, ← hy3]; rfl
  obtain ⟨a, ha⟩ : ∃ a : Nat, n.a = (a : Int) := ⟨n.a.toNat, by have := HAB.out.1.1; omega⟩
  have ka : Z.cell? ⟨nb, 17, none⟩ = some (.int .i64 a) := by rw [hnz2.cell, ← ha]; rfl
  have ha4 : a < 4096 := by have := HAB.out.1.2; omega
  have hna := nmB_size (a : Int) (by omega) (by omega)
  obtain ⟨NA, hNA⟩ : ∃ S, nmB (a : Int) = S := ⟨_, rfl⟩
  have CNA := fun W => name19_any a ha4 W
  rw [hNA] at CNA hna
  have HCN := Lib.hid CNA
  have HF := Lib.hid (show bA (lineT hiP loP n (A : Int)) = S6 ++ SN ++ ⟨#[32]⟩ ++ NA from (bA_of (by
    rw [app_list, app_list, app_list, h6l, HLP.out]
    unfold subL subsN
    rw [HK.out]
    simp only [List.map_cons, List.map_nil, List.flatten_cons, List.flatten_nil, ha, hNA, List.append_assoc, List.append_nil, List.cons_append, List.nil_append])).symm)
  clear CNA hNA ha ha4
  have CS : ∀ v b, NumsAt v b [y0, y1, y2, y3] → Calls Tryz.prog 53 #[.slice (some ⟨b, 0, none⟩) 4 4] v (Bel v (.string SN)) := fun v b h => by
    have := numbers_at (xs := (numsK 6).map n.f) (v := v) (b := b) (by
      show NumsAt v b [n.f 15, n.f 4, n.f 5, n.f 6]
      rw [hy0, hy1, hy2, hy3]
      exact h) HS.out.1 4 (by rw [List.length_map]; rfl) (by decide) 4
    rw [HS.out.2] at this
    exact this
  have HCS := Lib.hid CS
  have HU := Lib.hid (HB2.out.trans (hu.mono HB2.out.size))
  clear CS hu hS6 h6l hnz2 hy0 hy1 hy2 hy3 HN1 HK HAB HLP HS HCA HCW
  go_upto_region 15 with fail
  have q0 : ∀ u : Ext Z, u.1.cell? ⟨nb, 17, none⟩ = some (.int .i64 a) := fun u => ext_cell ka u
  have p15 : ∀ u : Ext Z, u.1.cell? ⟨nb, 15, none⟩ = some (.float .f64 y0) := fun u => ext_cell k15 u
  have p4 : ∀ u : Ext Z, u.1.cell? ⟨nb, 4, none⟩ = some (.float .f64 y1) := fun u => ext_cell k4 u
  have p5 : ∀ u : Ext Z, u.1.cell? ⟨nb, 5, none⟩ = some (.float .f64 y2) := fun u => ext_cell k5 u
  have p6 : ∀ u : Ext Z, u.1.cell? ⟨nb, 6, none⟩ = some (.float .f64 y3) := fun u => ext_cell k6 u
  clear k15 k4 k5 k6 ka k0
  refine region_reads (C := fun w' => ∃ u : Ext Z, w' = u.1) [0, 1, 2, 3, 4, 5, 6, 7, 8, 9, 10, 11, 16, 17] 8 (by kernel_rfl) (by kernel_rfl) (ext_self Z) ?_
  simp only [List.filterMap_cons, List.filterMap_nil, List.getElem?_cons_zero, List.getElem?_cons_succ]
  change wpQuiet _ _ _ _ (_ :: _ :: _ :: _ :: _ :: _ :: _ :: _ :: _ :: _ :: _ :: _ :: _ :: _ :: []) _
  repeat go_big_quiet_step (fail)
  refine wpQuiet_nil ?_
  clear p15 p4 p5 p6 q0
  obtain ⟨v0, hv0⟩ : ∃ v0, v0 = Z.drew := ⟨_, rfl⟩
  have BV0 := Lib.hid (show Below Z.heap.size Z v0 from by rw [hv0]; exact (Below.refl _ _).drew)
  rw [← hv0]
  clear hv0
  refine anyG_one 12 _ (by kernel_rfl) rfl rfl ?_
  refine goUpon_val _ _ (exec_bsF4 (.tmp 116) (.tmp 119) (.tmp 122) (.tmp 125) rfl _ _ y0 y1 y2 y3 rfl rfl rfl rfl ) ⟨⟨_, BV0.out.alloc BV0.out.size _⟩, rfl⟩ ?_
  obtain ⟨v1, hv1⟩ : ∃ v1, v1 = World.alloc v0 (.cells #[.float .f64 y0, .float .f64 y1, .float .f64 y2, .float .f64 y3] 46) := ⟨_, rfl⟩
  have BV1 := Lib.hid (show Below Z.heap.size Z v1 from by rw [hv1]; exact BV0.out.alloc BV0.out.size _)
  obtain ⟨sb, hsb⟩ : ∃ sb, sb = v0.heap.size := ⟨_, rfl⟩
  have NV1 := Lib.hid (show NumsAt v1 sb [y0, y1, y2, y3] from by rw [hsb, hv1]; exact nums_new v0 [y0, y1, y2, y3] _ rfl)
  rw [← hv1, ← hsb]
  clear hv1 hsb
  change anyG _ _ _ _ _ _ _ (Act.put _ (some 126) _) _
  simp only [Act.put, List.setIfInBounds_toArray, List.set_cons_succ, List.set_cons_zero]
  refine anyG_one 13 _ (by kernel_rfl) rfl rfl ?_
  refine goUpon_call _ _ _ (exec_nb (.tmp 126) _ rfl _ (.slice (some ⟨sb, 0, none⟩) 4 4) rfl _) ?_
  (with_reducible refine (HCS.out v1 sb NV1.out).mono ?_)
  rintro e v2 ⟨rfl, hb2⟩
  have BV2 := Lib.hid (BV1.out.trans (hb2.mono BV1.out.size))
  clear hb2
  refine ⟨_, rfl, ⟨⟨v2, BV2.out⟩, rfl⟩, ?_⟩
  change anyG _ _ _ _ _ _ _ (Act.put _ (some 127) _) _
  simp only [Act.put, List.setIfInBounds_toArray, List.set_cons_succ, List.set_cons_zero]
  refine anyG_reads (f := 4) (by kernel_rfl) ⟨⟨_, BV2.out⟩, rfl⟩ [14, 15] _ _ (by kernel_rfl) ?_
  simp only [List.filterMap_cons, List.filterMap_nil, List.getElem?_toArray, List.getElem?_cons_zero, List.getElem?_cons_succ]
  change wpQuiet _ _ _ _ (_ :: _ :: []) _
  repeat go_big_quiet_step (fail)
  refine wpQuiet_nil ?_
  refine anyG_one 18 _ (by kernel_rfl) rfl rfl ?_
  refine goUpon_call _ _ _ (exec_na (.tmp 131) _ rfl _ (.int .i64 (a : Nat)) rfl _) ?_
  (with_reducible refine (HCN.out v2).mono ?_)
  rintro e v3 ⟨rfl, hb3⟩
  have BV3 := Lib.hid (BV2.out.trans (hb3.mono BV2.out.size))
  clear hb3
  refine ⟨_, rfl, ⟨⟨v3, BV3.out⟩, rfl⟩, ?_⟩
  change anyG _ _ _ _ _ _ _ (Act.put _ (some 132) _) _
  simp only [Act.put, List.setIfInBounds_toArray, List.set_cons_succ, List.set_cons_zero]
  refine anyG_reads (f := 0) (by kernel_rfl) ⟨⟨_, BV3.out⟩, rfl⟩ [19, 20, 21] _ _ (by kernel_rfl) ?_
  simp only [List.filterMap_cons, List.filterMap_nil, List.getElem?_toArray, List.getElem?_cons_zero, List.getElem?_cons_succ]
  change wpQuiet _ _ _ _ (_ :: _ :: _ :: []) _
  repeat go_big_quiet_step (fail)
  refine wpQuiet_nil ?_
  refine anyG_end (by kernel_rfl) ?_
  simp only [Exit.then]
  go_wp2_with fail
  go_ret2
  exact ⟨by rw [HF.out]; rfl, HU.out.trans (BV3.out.mono HU.out.size)⟩
theorem rline_any (n : Nd) (hn : n.ok) (at_ : Int) (w : World) :
    Calls Tryz.prog 27 #[n.val, .int .i64 at_] w (Bel w (.tuple #[.string (bA (lineT hiP loP n at_)), .int .i64 (lineE n at_)])) := by
  cases hok : lineOk n at_ with
  | false => exact rline_no n hn at_ hok w
  | true =>
    have h := hok
    unfold lineOk at h
    rw [Bool.and_eq_true, Bool.and_eq_true, decide_eq_true_eq, decide_eq_true_eq] at h
    obtain ⟨A, rfl⟩ : ∃ A : Nat, at_ = (A : Int) := ⟨at_.toNat, by omega⟩
    have hA : A < 4096 := by omega
    have e : lineE n (A : Int) = 0 := by unfold lineE; rw [if_pos hok]
    rw [e]
    obtain ⟨hk, _⟩ := node_facts h.2 h.1.2
    rcases hk with hk | hk | hk | hk | hk | hk
    · exact rline_1 n hn hk A hA hok w
    · exact rline_2 n hn hk A hA hok w
    · exact rline_3 n hn hk A hA hok w
    · exact rline_4 n hn hk A hA hok w
    · exact rline_5 n hn hk A hA hok w
    · exact rline_6 n hn hk A hA hok w
end Go.Proofs.YtcbgkbidgpemfaaGreatDoor.rh
