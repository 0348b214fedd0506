/- The walk of burnishlaw17.ParseFirst. Conditions: the tokens lie in memory; seven of the library's variables hold what the program's text lays. -/
import Derived.Test.YtdmhebibnnemnaaDoorPfM
import Derived.Test.YtdmhebibnnemnaaDoorPfT
import Derived.Test.YtdmhebibnnemnaaDoorAwaC
import Derived.Test.YtdmhebibnnemnaaDoorQt
namespace Go.Proofs.YtdmhebibnnemnaaDoor.pft
open Go.RowKit
open Go.Proofs.YtdmhebibnnemnaaDoor.lexw
open Go.Proofs.YtdmhebibnnemnaaDoor.parw
open Go.Proofs.YtdmhebibnnemnaaDoor.flow
open Go.Proofs.YtdmhebibnnemnaaDoor.awaw
open Go.Proofs.YtdmhebibnnemnaaDoor.qt
open Go.Proofs.YtdmhebibnnemnaaDoor.pfm
open Go.BigFrame
open Go.Proofs.YtdmhebibnnemnaaDoor.bsw (wl_val wl_val_g)

/-- the end that is put behind -/
def endT : PTok := ⟨4, 7, ⟨#[]⟩⟩
theorem args_len (dec : ByteArray → Nat × Nat) (en : Int) : ∀ (l : List Bool) (s : RSt), (argsS dec en l s).1.length = l.length
  | [], s => rfl
  | b :: r, s => by
    show ((argS dec en b s).1 :: _).length = _
    rw [List.length_cons, List.length_cons, args_len dec en r]
theorem form_len (k : Nat) : (formL k).length ≤ 7 := by
  unfold formL
  match k with
  | 0 => decide
  | 1 => decide
  | 2 => decide
  | 3 => decide
  | 4 => decide
  | 5 => decide
  | 6 => decide
  | k + 7 => exact Nat.zero_le _
theorem stmt_len (dec : ByteArray → Nat × Nat) (en : Int) (s : RSt) : (stmtS dec en s).1.args.length ≤ 7 := by
  unfold stmtS
  simp only
  rw [args_len]
  exact form_len _
theorem parseL_len (dec : ByteArray → Nat × Nat) (en : Int) : ∀ (f : Nat) (s : RSt) (out : List PStmt), (∀ x ∈ out, x.args.length ≤ 7) → (parseL dec en f s out).1.length ≤ out.length + f ∧ ∀ x ∈ (parseL dec en f s out).1, x.args.length ≤ 7
  | 0, s, out, h => ⟨Nat.le_refl _, h⟩
  | f + 1, s, out, h => by
    unfold parseL
    by_cases h0 : s.er = 0
    · rw [if_pos h0]
      cases s.ts with
      | nil => exact ⟨Nat.le_add_right _ _, h⟩
      | cons t r =>
        simp only
        by_cases hk : t.kind = 4
        · rw [if_pos hk]
          obtain ⟨a1, a2⟩ := parseL_len dec en f { s with ts := r } out h
          exact ⟨by omega, a2⟩
        · rw [if_neg hk]
          obtain ⟨a1, a2⟩ := parseL_len dec en f (stmtS dec en s).2 (out ++ [(stmtS dec en s).1]) (fun x hx => by
            rcases List.mem_append.1 hx with hx | hx
            · exact h x hx
            · obtain rfl : x = _ := by simpa using hx
              exact stmt_len dec en s)
          rw [List.length_append] at a1
          exact ⟨by simpa [Nat.add_comm, Nat.add_left_comm] using a1, a2⟩
    · rw [if_neg h0]
      exact ⟨Nat.le_add_right _ _, h⟩
theorem res_len (dec : ByteArray → Nat × Nat) (ts : List PTok) : (parseRes dec ts).1.length ≤ ts.length + 1 ∧ ∀ x ∈ (parseRes dec ts).1, x.args.length ≤ 7 := by
  unfold parseRes
  simp only
  obtain ⟨a1, a2⟩ := parseL_len dec (endOf ts) (ts.length + 1) ⟨ts, 0, 0⟩ [] (fun x hx => by cases hx)
  split
  · exact ⟨by simpa using a1, a2⟩
  · exact ⟨Nat.zero_le _, fun x hx => by cases hx⟩
/-- a token's cells in a row -/
theorem tok_at {W : World} {B : Nat} {A : Option Addr} {c : Nat} {ts : List PTok} (h : TArg W B (.slice A ts.length c) ts) (i : Nat) (hi : i < ts.length) :
    ∃ g off, A = some ⟨g, off, none⟩ ∧ g < W.heap.size ∧ W.cell? ⟨g, off + i * 3, none⟩ = some (.int .u8 (ts[i].kind : Nat)) ∧ W.cell? ⟨g, off + i * 3 + 1, none⟩ = some (.int .i64 ts[i].pos) ∧ W.cell? ⟨g, off + i * 3 + 2, none⟩ = some (.string ts[i].text) := by
  obtain ⟨A', c', hv, _, _, hx⟩ := h
  injection hv with e1 e2 e3
  subst e1
  obtain ⟨g, off, hA, _, hg, hx⟩ := hx (by intro e; rw [e] at hi; simp at hi)
  have key : ∀ (l : List PTok) (i : Nat) (hi : i < l.length) (j : Nat), j < 3 → (pcells l)[i * 3 + j]? = l[i].cells[j]? := by
    intro l
    induction l with
    | nil => intro i hi; simp at hi
    | cons t r ih =>
      intro i hi j hj
      rw [pcells_cons]
      cases i with
      | zero =>
        rw [Nat.zero_mul, Nat.zero_add, List.getElem?_append_left (by simp [PTok.cells]; omega)]
        rfl
      | succ i =>
        rw [List.getElem?_append_right (by simp [PTok.cells]; omega)]
        have e : (i + 1) * 3 + j - t.cells.length = i * 3 + j := by simp [PTok.cells]; omega
        rw [e]
        have := ih i (by simpa using hi) j hj
        simpa using this
  refine ⟨g, off, hA, hg, ?_, ?_, ?_⟩
  · have := hx (i * 3 + 0) _ ((key ts i hi 0 (by omega)).trans rfl)
    simpa using this
  · rw [Nat.add_assoc]
    exact hx (i * 3 + 1) _ ((key ts i hi 1 (by omega)).trans rfl)
  · rw [Nat.add_assoc]
    exact hx (i * 3 + 2) _ ((key ts i hi 2 (by omega)).trans rfl)
theorem _root_.Go.Proofs.YtdmhebibnnemnaaDoor.parw.SRow.form {W : World} {base : Nat} {o : Value} {l : List PStmt} (h : SRow W base o l) : ∃ A c, o = .slice A l.length c := by
  obtain ⟨_, _, ho, _⟩ := h
  rcases ho.2 with ⟨rfl, hn⟩ | ⟨_, _, _, rfl, _⟩
  · exact ⟨none, 0, by rw [hn]⟩
  · exact ⟨_, _, rfl⟩
theorem SArg.up {W : World} {B B' : Nat} {v : Value} {l : List PStmt} {vs : List Value} (h : SArg W B v l vs) (hb : B ≤ B') : SArg W B' v l vs := by
  obtain ⟨hl, ⟨A, c, hv, hc, hn, hx⟩, ha⟩ := h
  refine ⟨hl, ⟨A, c, hv, hc, hn, fun h0 => ?_⟩, fun i h1 h2 => ⟨aread_mono (ha i h1 h2).1 hb, (ha i h1 h2).2⟩⟩
  obtain ⟨g, off, hA, hg, hx⟩ := hx h0
  exact ⟨g, off, hA, by omega, hx⟩
theorem sread_mono {W : World} {B B' : Nat} {v : Value} {l : List PStmt} (h : SRead W B v l) (hb : B ≤ B') : SRead W B' v l := by
  obtain ⟨vs, A, c, hl, hv, hx, ha⟩ := h
  refine ⟨vs, A, c, hl, hv, fun h0 => ?_, fun i h1 h2 => aread_mono (ha i h1 h2) hb⟩
  obtain ⟨g, off, hA, hg, hcell⟩ := hx h0
  exact ⟨g, off, hA, by omega, hcell⟩
set_option maxRecDepth 100000 in
set_option maxHeartbeats 4000000 in
theorem first_any (B : Nat) (v1 v2 : Value) (a b : List PTok) (hab : a.length + b.length ≤ 900000) (w : World) (hw : Laid B w) (h1 : TArg w B v1 a) (h2 : TArg w B v2 b) (hB : B ≤ w.heap.size) :
    Calls Tryd.prog 3 #[v1, v2] w fun e w' => e = .returned (.bool true) ∧ Below w.heap.size w w' := by
  obtain ⟨A1, c1, rfl⟩ := h1.form
  obtain ⟨A2, c2, rfl⟩ := h2.form
  have HW := Lib.hid hw
  have H1 := Lib.hid h1
  have H2 := Lib.hid h2
  clear hw h1 h2
  have haw : ∀ u : World, Below w.heap.size w u → Calls Tryd.prog 4 #[] u fun e w' => e = .returned (.bool true) ∧ Below u.heap.size u w' := fun u hu =>
    awake_any B u (Laid.stable B w u none HW.out (grown_below hu none) (fun r e => by cases e)) (by have := hu.size; omega)
  have HAW := Lib.hid haw
  clear haw
  go_enter Tryd.func3, Tryd.ntmps3
  go_upto_region 1 with (fail)
  have x0 := (Below.refl w.heap.size w).alloc (Nat.le_refl _) (.cells #[] 24)
  have o0 := own_tbs0 w w.heap.size (Nat.le_refl _)
  obtain ⟨v19, w2, hrun2, o2, gr2⟩ := tapp_run w.heap.size _ 0 [] o0 B _ a (TArg.ext H1.out x0) (by omega) x0.size
  have x2 := x0.grown gr2 x0.size (fun r e => own_base o0 e)
  obtain ⟨v21, w3, hrun3, o3, gr3⟩ := tapp_run w.heap.size v19 (0 + a.length) ([] ++ pcells a) o2 B _ b (TArg.ext H2.out x2) (by omega) x2.size
  have x3 := x2.grown gr3 x2.size (fun r e => own_base o2 e)
  have hta : TArg w3 w3.heap.size v21 (a ++ b) := TArg.of_own (base := w.heap.size) (by rw [List.length_append, pcells_app]; simpa using o3)
  obtain ⟨A3, c3, hv21⟩ := hta.form
  subst hv21
  obtain ⟨N, hN⟩ : ∃ N, (a ++ b).length = N := ⟨_, rfl⟩
  have hN9 : N ≤ 900000 := by rw [← hN, List.length_append]; exact hab
  have HTA := Lib.hid hta
  have HNN := Lib.hid hN
  have X3 := Lib.hid x3
  rw [hN] at hrun3
  clear x3 x2 x0 o0 o2 o3 gr2 gr3 hta hN
  refine wp_region_lit ?_
  refine wl_val rfl _ (exec_tbs0 rfl _ _) ?_
  refine wl_val rfl (.slice A1 a.length c1) rfl ?_
  refine wl_val rfl v19 (hrun2 _ _ (.tmp 17) (.tmp 18) rfl rfl rfl) ?_
  refine wl_val rfl (.slice A2 b.length c2) rfl ?_
  refine wl_val rfl (.slice A3 N c3) (hrun3 _ _ (.tmp 19) (.tmp 20) rfl rfl rfl) ?_
  simp only [Act.put, List.setIfInBounds_toArray, List.set_cons_succ, List.set_cons_zero]
  clear hrun2 hrun3
  go_upto_block 0 with (fail)
  go_cut [6, 23] from 24 to 32 (fun s6 s23 wx => Below w.heap.size w wx ∧ ∀ t ∈ a ++ b, t.text.size ≤ 60)
  case first =>
    go_wp2_with fail
    go_loopw [23] (fun s23 wr => ∃ i : Nat, i ≤ N ∧ s23 = .int .i64 ((i : Nat) : Int) ∧ Below w.heap.size w wr ∧ TArg wr w3.heap.size (.slice A3 N c3) (a ++ b) ∧ ∀ j (h : j < (a ++ b).length), j < i → (a ++ b)[j].text.size ≤ 60) (fun s23 _ => N - (intOf s23).toNat)
    case atStart => exact ⟨0, Nat.zero_le _, rfl, X3.out, by have := HTA.out; rw [HNN.out] at this; exact this, fun j h hj => absurd hj (Nat.not_lt_zero _)⟩
    case round =>
      obtain ⟨i, hi, rfl, hbr, htr, hno⟩ := hrel
      have i0 : (0 : Int) ≤ (i : Int) := by omega
      have i9 : (i : Int) ≤ 900000 := by omega
      have n9 : (N : Int) ≤ 900000 := by omega
      by_cases hlt : i < N
      · have d1 : decide (i < N) = true := decide_eq_true hlt
        have d2 : (i : Int) < (N : Int) := by omega
        have htr2 : TArg wr w3.heap.size (.slice A3 (a ++ b).length c3) (a ++ b) := by rw [HNN.out]; exact htr
        have hil : i < (a ++ b).length := by rw [HNN.out]; exact hlt
        obtain ⟨g, off, hA, hg, e1, e2, e3⟩ := tok_at htr2 i hil
        obtain ⟨t, ht⟩ : ∃ t, (a ++ b)[i] = t := ⟨_, rfl⟩
        rw [ht] at e1 e2 e3
        subst hA
        have hx1 := hbr.alloc hbr.size (.cells t.cells.toArray 24)
        have HT := Lib.hid (And.intro ht (And.intro htr hno))
        have HBR := Lib.hid hbr
        by_cases h60 : 60 < t.text.size
        · have f1 : (60 : Int) < (t.text.size : Int) := by omega
          clear htr2 htr hno hbr ht hx1
          go_upto_region 5 with (fail)
          obtain ⟨X, hX⟩ : ∃ X, X = wr.alloc (.cells #[.int .u8 (t.kind : Nat), .int .i64 t.pos, .string t.text] 24) := ⟨_, rfl⟩
          have hx1 : Below w.heap.size w X := by rw [hX]; exact HBR.out.alloc HBR.out.size _
          rw [← hX]
          have HX1 := Lib.hid hx1
          clear hx1 hX
          go_wp2_with (go_at_call 4; (with_reducible refine (HAW.out _ HX1.out).mono ?_); rintro e w4 ⟨rfl, hw4⟩; have HB4 := Lib.hid hw4; clear hw4)
          go_ret
          exact ⟨rfl, HX1.out.trans (HB4.out.mono HX1.out.size)⟩
        · have f1 : ¬ (60 : Int) < (t.text.size : Int) := by omega
          have H60 := Lib.hid h60
          have HL := Lib.hid hlt
          clear htr2 htr hno hbr ht hx1 h60 hlt
          go_wp2_with fail
          have hx1 : Below wr.heap.size wr (wr.alloc (.cells #[.int .u8 (t.kind : Nat), .int .i64 t.pos, .string t.text] 24)) := (Below.refl _ _).alloc (Nat.le_refl _) _
          refine ⟨⟨i + 1, HL.out, by go_num, HBR.out.trans (hx1.mono HBR.out.size), TArg.ext HT.out.2.1 hx1, fun j hj hji => ?_⟩, by have := HL.out; simp only [intOf]; omega⟩
          by_cases hjj : j < i
          · exact HT.out.2.2 j hj hjj
          · obtain rfl : j = i := by omega
            rw [HT.out.1]
            have := H60.out
            omega
      · have hiN : i = N := by omega
        have d1 : decide (i < N) = false := decide_eq_false hlt
        have d2 : ¬ (i : Int) < (N : Int) := by omega
        have HBR := Lib.hid hbr
        have HNO := Lib.hid (And.intro hiN hno)
        clear hno htr hbr hiN
        go_wp2_with fail
        go_meet
        refine ⟨HBR.out, fun t ht => ?_⟩
        obtain ⟨j, hj, rfl⟩ := List.getElem_of_mem ht
        exact HNO.out.2 j hj (by have := HNN.out; have := HNO.out.1; omega)
  case rest =>
    obtain ⟨hbx, h60⟩ := hcut
    have HBX := Lib.hid hbx
    clear hbx h60 X3 HTA
    by_cases hout : 60 < a.length ∨ 60 < b.length
    · by_cases p1 : 60 < a.length
      · have p1' : (60 : Int) < (a.length : Int) := by omega
        clear hout
        go_wp2_with (go_at_call 4; (with_reducible refine (HAW.out _ HBX.out).mono ?_); rintro e w4 ⟨rfl, hw4⟩; have HB4 := Lib.hid hw4; clear hw4)
        go_ret
        exact ⟨rfl, HBX.out.trans (HB4.out.mono HBX.out.size)⟩
      · have p1' : ¬ (60 : Int) < (a.length : Int) := by omega
        have p2' : (60 : Int) < (b.length : Int) := by omega
        clear hout
        go_wp2_with (go_at_call 4; (with_reducible refine (HAW.out _ HBX.out).mono ?_); rintro e w4 ⟨rfl, hw4⟩; have HB4 := Lib.hid hw4; clear hw4)
        go_ret
        exact ⟨rfl, HBX.out.trans (HB4.out.mono HBX.out.size)⟩
    have p1' : ¬ (60 : Int) < (a.length : Int) := by omega
    have p2' : ¬ (60 : Int) < (b.length : Int) := by omega
    have ha60 : a.length ≤ 60 := by omega
    have hb60 : b.length ≤ 60 := by omega
    clear hout
    go_upto_region 10 with (fail)
    obtain ⟨tb, htb⟩ : ∃ tb, wc.heap.size = tb := ⟨_, rfl⟩
    obtain ⟨W, hW⟩ : ∃ W, W = wc.alloc (.cells #[.int .u8 4, .int .i64 7, .string ⟨#[]⟩] 24) := ⟨_, rfl⟩
    have hkW : W.heap[tb]? = some (.cells #[.int .u8 4, .int .i64 7, .string ⟨#[]⟩] 24 (0, 0)) := by rw [hW, ← htb]; exact heap_alloc_new wc _
    have hbW : Below w.heap.size w W := by rw [hW]; exact HBX.out.alloc HBX.out.size _
    rw [← hW, htb]
    clear hW htb
    have d0 : W.cell? ⟨tb, 0, none⟩ = some (.int .u8 4) := (cell_of_row _ tb 0 _ _ _ hkW).trans rfl
    have d1 : W.cell? ⟨tb, 1, none⟩ = some (.int .i64 7) := (cell_of_row _ tb 1 _ _ _ hkW).trans rfl
    have d2 : W.cell? ⟨tb, 2, none⟩ = some (.string ⟨#[]⟩) := (cell_of_row _ tb 2 _ _ _ hkW).trans rfl
    have f0 : ∀ u : Ext W, u.1.cell? ⟨tb, 0, none⟩ = some (.int .u8 4) := fun u => ext_cell d0 u
    have f1 : ∀ u : Ext W, u.1.cell? ⟨tb, 1, none⟩ = some (.int .i64 7) := fun u => ext_cell d1 u
    have f2 : ∀ u : Ext W, u.1.cell? ⟨tb, 2, none⟩ = some (.string ⟨#[]⟩) := fun u => ext_cell d2 u
    have hV1 : TArg W B (.slice A1 a.length c1) a := TArg.ext H1.out hbW
    have HV1 := Lib.hid hV1
    have HBW := Lib.hid hbW
    have HKW := Lib.hid hkW
    clear hV1 hbW hkW d0 d1 d2 HBX
    go_cut [0] from 43 to 48 (fun s0 wx => wx.ownsRow W.heap.size 24 3 s0 (a ++ [endT]).length (pcells (a ++ [endT])) ∧ Below W.heap.size W wx)
    case first =>
      refine region_reads (C := fun w' => ∃ u : Ext W, w' = u.1) [1, 3] 5 (by kernel_rfl) (by kernel_rfl) (ext_self W) ?_
      simp only [List.filterMap_cons, List.filterMap_nil, List.getElem?_cons_zero, List.getElem?_cons_succ]
      change wpQuiet _ _ _ _ (_ :: _ :: []) _
      go_big_quiet_step (fail)
      go_big_quiet_step (fail)
      refine wpQuiet_nil ?_
      obtain ⟨X, hX⟩ : ∃ X, X = W.drew := ⟨_, rfl⟩
      have hx0 : Below W.heap.size W X := by rw [hX]; exact (Below.refl _ _).drew
      rw [← hX]
      clear hX
      refine anyG_two 0 4 _ _ (by kernel_rfl) rfl rfl rfl rfl ?_ ?_
      · refine goUpon_val _ _ (exec_tbs0 rfl _ _) ⟨⟨_, hx0.alloc hx0.size _⟩, rfl⟩ ?_
        change anyG _ _ _ _ _ _ _ (Act.put _ (some 43) _) _
        simp only [Act.put, List.setIfInBounds_toArray, List.set_cons_succ, List.set_cons_zero]
        have ho1 := own_tbs0 X W.heap.size hx0.size
        have hx1 := hx0.alloc hx0.size (.cells #[] 24)
        obtain ⟨X1, hX1⟩ : ∃ Y, Y = X.alloc (.cells #[] 24) := ⟨_, rfl⟩
        have hz1 : X1.heap.size = X.heap.size + 1 := by rw [hX1]; simp
        rw [← hX1] at ho1 hx1 ⊢
        clear hX1
        refine anyG_two 2 4 _ _ (by kernel_rfl) rfl rfl rfl rfl ?_ ?_
        · obtain ⟨u16, X2, hrun, ho2, hg⟩ := tapp_run W.heap.size _ 0 [] ho1 B (.slice A1 a.length c1) a (TArg.ext HV1.out hx1) (by omega) hx1.size
          refine goUpon_val _ _ (hrun _ _ (.tmp 43) (.tmp 44) rfl rfl rfl) ⟨⟨_, hx1.grown hg hx1.size (fun r e => own_base ho1 e)⟩, rfl⟩ ?_
          change anyG _ _ _ _ _ _ _ (Act.put _ (some 45) _) _
          simp only [Act.put, List.setIfInBounds_toArray, List.set_cons_succ, List.set_cons_zero]
          have hx2 := hx1.grown hg hx1.size (fun r e => own_base ho1 e)
          refine anyG_one 4 _ (by kernel_rfl) rfl rfl ?_
          refine goUpon_val _ _ (exec_tbs1 (.tmp 46) rfl _ _ endT rfl) ⟨⟨_, hx2.alloc hx2.size _⟩, rfl⟩ ?_
          change anyG _ _ _ _ _ _ _ (Act.put _ (some 47) _) _
          simp only [Act.put, List.setIfInBounds_toArray, List.set_cons_succ, List.set_cons_zero]
          have hn3 := heap_alloc_new X2 (.cells endT.cells.toArray 24)
          have ho3 := ho2.alloc (.cells endT.cells.toArray 24)
          have hx3 := hx2.alloc hx2.size (.cells endT.cells.toArray 24)
          obtain ⟨X3, hX3⟩ : ∃ Y, Y = X2.alloc (.cells endT.cells.toArray 24) := ⟨_, rfl⟩
          have hz3 : X3.heap.size = X2.heap.size + 1 := by rw [hX3]; simp
          rw [← hX3] at hn3 hx3 ho3 ⊢
          clear hX3
          refine anyG_one 5 _ (by kernel_rfl) rfl rfl ?_
          obtain ⟨u19, X4, hrun2, ho4, hg2⟩ := tapp_run W.heap.size _ (0 + a.length) ([] ++ pcells a) ho3 X3.heap.size _ [endT] (TArg.one _ endT X3 hn3) (by simp; omega) hx3.size
          refine goUpon_val _ _ (hrun2 _ _ (.tmp 45) (.tmp 47) rfl rfl rfl) ⟨⟨_, hx3.grown hg2 hx3.size (fun r e => own_base ho3 e)⟩, rfl⟩ ?_
          change anyG _ _ _ _ _ _ _ (Act.put _ (some 48) _) _
          simp only [Act.put, List.setIfInBounds_toArray, List.set_cons_succ, List.set_cons_zero]
          have hx4 := hx3.grown hg2 hx3.size (fun r e => own_base ho3 e)
          refine anyG_one 6 _ (by kernel_rfl) rfl rfl ?_
          refine goUpon_val u19 _ rfl ⟨⟨_, hx4⟩, rfl⟩ ?_
          change anyG _ _ _ _ _ _ _ (Act.put _ (some 0) _) _
          simp only [Act.put, List.setIfInBounds_toArray, List.set_cons_zero]
          refine anyG_end (by kernel_rfl) ?_
          simp only [Exit.then]
          go_wp2_with fail
          go_meet
          exact ⟨by rw [pcells_app, List.length_append]; simpa [pcells] using ho4, hx4⟩
        · refine goUpon_val _ _ (exec_tbs1 (.tmp 46) rfl _ _ endT rfl) ⟨⟨_, hx1.alloc hx1.size _⟩, rfl⟩ ?_
          change anyG _ _ _ _ _ _ _ (Act.put _ (some 47) _) _
          simp only [Act.put, List.setIfInBounds_toArray, List.set_cons_succ, List.set_cons_zero]
          have hn2 := heap_alloc_new X1 (.cells endT.cells.toArray 24)
          have ho2 := ho1.alloc (.cells endT.cells.toArray 24)
          have hx2 := hx1.alloc hx1.size (.cells endT.cells.toArray 24)
          obtain ⟨X2, hX2⟩ : ∃ Y, Y = X1.alloc (.cells endT.cells.toArray 24) := ⟨_, rfl⟩
          have hz2 : X2.heap.size = X1.heap.size + 1 := by rw [hX2]; simp
          rw [← hX2] at hn2 hx2 ho2 ⊢
          clear hX2
          refine anyG_one 2 _ (by kernel_rfl) rfl rfl ?_
          obtain ⟨u16, X3, hrun, ho3, hg⟩ := tapp_run W.heap.size _ 0 [] ho2 B (.slice A1 a.length c1) a (TArg.ext HV1.out hx2) (by omega) hx2.size
          refine goUpon_val _ _ (hrun _ _ (.tmp 43) (.tmp 44) rfl rfl rfl) ⟨⟨_, hx2.grown hg hx2.size (fun r e => own_base ho2 e)⟩, rfl⟩ ?_
          change anyG _ _ _ _ _ _ _ (Act.put _ (some 45) _) _
          simp only [Act.put, List.setIfInBounds_toArray, List.set_cons_succ, List.set_cons_zero]
          have hx3 := hx2.grown hg hx2.size (fun r e => own_base ho2 e)
          have hn3 := (hg.block _ (Array.getElem?_eq_some_iff.1 hn2).1 (by simp [Value.ownBlock]; omega)).trans hn2
          refine anyG_one 5 _ (by kernel_rfl) rfl rfl ?_
          obtain ⟨u19, X4, hrun2, ho4, hg2⟩ := tapp_run W.heap.size _ (0 + a.length) ([] ++ pcells a) ho3 X3.heap.size _ [endT] (TArg.one _ endT X3 hn3) (by simp; omega) hx3.size
          refine goUpon_val _ _ (hrun2 _ _ (.tmp 45) (.tmp 47) rfl rfl rfl) ⟨⟨_, hx3.grown hg2 hx3.size (fun r e => own_base ho3 e)⟩, rfl⟩ ?_
          change anyG _ _ _ _ _ _ _ (Act.put _ (some 48) _) _
          simp only [Act.put, List.setIfInBounds_toArray, List.set_cons_succ, List.set_cons_zero]
          have hx4 := hx3.grown hg2 hx3.size (fun r e => own_base ho3 e)
          refine anyG_one 6 _ (by kernel_rfl) rfl rfl ?_
          refine goUpon_val u19 _ rfl ⟨⟨_, hx4⟩, rfl⟩ ?_
          change anyG _ _ _ _ _ _ _ (Act.put _ (some 0) _) _
          simp only [Act.put, List.setIfInBounds_toArray, List.set_cons_zero]
          refine anyG_end (by kernel_rfl) ?_
          simp only [Exit.then]
          go_wp2_with fail
          go_meet
          exact ⟨by rw [pcells_app, List.length_append]; simpa [pcells] using ho4, hx4⟩
      · refine goUpon_val _ _ (exec_tbs1 (.tmp 46) rfl _ _ endT rfl) ⟨⟨_, hx0.alloc hx0.size _⟩, rfl⟩ ?_
        change anyG _ _ _ _ _ _ _ (Act.put _ (some 47) _) _
        simp only [Act.put, List.setIfInBounds_toArray, List.set_cons_succ, List.set_cons_zero]
        have hn1 := heap_alloc_new X (.cells endT.cells.toArray 24)
        have hx1 := hx0.alloc hx0.size (.cells endT.cells.toArray 24)
        obtain ⟨X1, hX1⟩ : ∃ Y, Y = X.alloc (.cells endT.cells.toArray 24) := ⟨_, rfl⟩
        have hz1 : X1.heap.size = X.heap.size + 1 := by rw [hX1]; simp
        rw [← hX1] at hn1 hx1 ⊢
        clear hX1
        refine anyG_one 0 _ (by kernel_rfl) rfl rfl ?_
        refine goUpon_val _ _ (exec_tbs0 rfl _ _) ⟨⟨_, hx1.alloc hx1.size _⟩, rfl⟩ ?_
        change anyG _ _ _ _ _ _ _ (Act.put _ (some 43) _) _
        simp only [Act.put, List.setIfInBounds_toArray, List.set_cons_succ, List.set_cons_zero]
        have ho2 := own_tbs0 X1 W.heap.size hx1.size
        have hn2 := (Below.heap_alloc X1 (.cells #[] 24) _ (Array.getElem?_eq_some_iff.1 hn1).1).trans hn1
        have hx2 := hx1.alloc hx1.size (.cells #[] 24)
        obtain ⟨X2, hX2⟩ : ∃ Y, Y = X1.alloc (.cells #[] 24) := ⟨_, rfl⟩
        have hz2 : X2.heap.size = X1.heap.size + 1 := by rw [hX2]; simp
        rw [← hX2] at ho2 hx2 hn2 ⊢
        clear hX2
        refine anyG_one 2 _ (by kernel_rfl) rfl rfl ?_
        obtain ⟨u16, X3, hrun, ho3, hg⟩ := tapp_run W.heap.size _ 0 [] ho2 B (.slice A1 a.length c1) a (TArg.ext HV1.out hx2) (by omega) hx2.size
        refine goUpon_val _ _ (hrun _ _ (.tmp 43) (.tmp 44) rfl rfl rfl) ⟨⟨_, hx2.grown hg hx2.size (fun r e => own_base ho2 e)⟩, rfl⟩ ?_
        change anyG _ _ _ _ _ _ _ (Act.put _ (some 45) _) _
        simp only [Act.put, List.setIfInBounds_toArray, List.set_cons_succ, List.set_cons_zero]
        have hx3 := hx2.grown hg hx2.size (fun r e => own_base ho2 e)
        have hn3 := (hg.block _ (Array.getElem?_eq_some_iff.1 hn2).1 (by simp [Value.ownBlock]; omega)).trans hn2
        refine anyG_one 5 _ (by kernel_rfl) rfl rfl ?_
        obtain ⟨u19, X4, hrun2, ho4, hg2⟩ := tapp_run W.heap.size _ (0 + a.length) ([] ++ pcells a) ho3 X3.heap.size _ [endT] (TArg.one _ endT X3 hn3) (by simp; omega) hx3.size
        refine goUpon_val _ _ (hrun2 _ _ (.tmp 45) (.tmp 47) rfl rfl rfl) ⟨⟨_, hx3.grown hg2 hx3.size (fun r e => own_base ho3 e)⟩, rfl⟩ ?_
        change anyG _ _ _ _ _ _ _ (Act.put _ (some 48) _) _
        simp only [Act.put, List.setIfInBounds_toArray, List.set_cons_succ, List.set_cons_zero]
        have hx4 := hx3.grown hg2 hx3.size (fun r e => own_base ho3 e)
        refine anyG_one 6 _ (by kernel_rfl) rfl rfl ?_
        refine goUpon_val u19 _ rfl ⟨⟨_, hx4⟩, rfl⟩ ?_
        change anyG _ _ _ _ _ _ _ (Act.put _ (some 0) _) _
        simp only [Act.put, List.setIfInBounds_toArray, List.set_cons_zero]
        refine anyG_end (by kernel_rfl) ?_
        simp only [Exit.then]
        go_wp2_with fail
        go_meet
        exact ⟨by rw [pcells_app, List.length_append]; simpa [pcells] using ho4, hx4⟩
    case rest =>
      clear f0 f1 f2
      obtain ⟨ho, hbx⟩ := hcut
      obtain ⟨Z, hZ⟩ : ∃ Z, Z = wc := ⟨_, rfl⟩
      rw [← hZ] at ho hbx ⊢
      clear hZ
      have htb : tb < W.heap.size := (Array.getElem?_eq_some_iff.1 HKW.out).1
      have hkZ : Z.heap[tb]? = some (.cells #[.int .u8 4, .int .i64 7, .string ⟨#[]⟩] 24 (0, 0)) := (hbx.block tb htb).trans HKW.out
      have d0 : Z.cell? ⟨tb, 0, none⟩ = some (.int .u8 4) := (cell_of_row _ tb 0 _ _ _ hkZ).trans rfl
      have d1 : Z.cell? ⟨tb, 1, none⟩ = some (.int .i64 7) := (cell_of_row _ tb 1 _ _ _ hkZ).trans rfl
      have d2 : Z.cell? ⟨tb, 2, none⟩ = some (.string ⟨#[]⟩) := (cell_of_row _ tb 2 _ _ _ hkZ).trans rfl
      have f0 : ∀ u : Ext Z, u.1.cell? ⟨tb, 0, none⟩ = some (.int .u8 4) := fun u => ext_cell d0 u
      have f1 : ∀ u : Ext Z, u.1.cell? ⟨tb, 1, none⟩ = some (.int .i64 7) := fun u => ext_cell d1 u
      have f2 : ∀ u : Ext Z, u.1.cell? ⟨tb, 2, none⟩ = some (.string ⟨#[]⟩) := fun u => ext_cell d2 u
      have hbZ := HBW.out.trans (hbx.mono HBW.out.size)
      have hV2 : TArg Z B (.slice A2 b.length c2) b := TArg.ext H2.out hbZ
      have hVa := TArg.of_own ho
      have HV2 := Lib.hid hV2
      have HVa := Lib.hid hVa
      have HBZ := Lib.hid hbZ
      clear ho hbx hkZ d0 d1 d2 hbZ hV2 hVa HV1 HBW HKW htb
      go_upto_region 11 with (fail)
      go_cut [1] from 49 to 54 (fun s1 wx => wx.ownsRow Z.heap.size 24 3 s1 (b ++ [endT]).length (pcells (b ++ [endT])) ∧ Below Z.heap.size Z wx)
      case first =>
        refine region_reads (C := fun w' => ∃ u : Ext Z, w' = u.1) [1, 3] 5 (by kernel_rfl) (by kernel_rfl) (ext_self Z) ?_
        simp only [List.filterMap_cons, List.filterMap_nil, List.getElem?_cons_zero, List.getElem?_cons_succ]
        change wpQuiet _ _ _ _ (_ :: _ :: []) _
        go_big_quiet_step (fail)
        go_big_quiet_step (fail)
        refine wpQuiet_nil ?_
        obtain ⟨X, hX⟩ : ∃ X, X = Z.drew := ⟨_, rfl⟩
        have hx0 : Below Z.heap.size Z X := by rw [hX]; exact (Below.refl _ _).drew
        rw [← hX]
        clear hX
        refine anyG_two 0 4 _ _ (by kernel_rfl) rfl rfl rfl rfl ?_ ?_
        · refine goUpon_val _ _ (exec_tbs0 rfl _ _) ⟨⟨_, hx0.alloc hx0.size _⟩, rfl⟩ ?_
          change anyG _ _ _ _ _ _ _ (Act.put _ (some 49) _) _
          simp only [Act.put, List.setIfInBounds_toArray, List.set_cons_succ, List.set_cons_zero]
          have ho1 := own_tbs0 X Z.heap.size hx0.size
          have hx1 := hx0.alloc hx0.size (.cells #[] 24)
          obtain ⟨X1, hX1⟩ : ∃ Y, Y = X.alloc (.cells #[] 24) := ⟨_, rfl⟩
          have hz1 : X1.heap.size = X.heap.size + 1 := by rw [hX1]; simp
          rw [← hX1] at ho1 hx1 ⊢
          clear hX1
          refine anyG_two 2 4 _ _ (by kernel_rfl) rfl rfl rfl rfl ?_ ?_
          · obtain ⟨u16, X2, hrun, ho2, hg⟩ := tapp_run Z.heap.size _ 0 [] ho1 B (.slice A2 b.length c2) b (TArg.ext HV2.out hx1) (by omega) hx1.size
            refine goUpon_val _ _ (hrun _ _ (.tmp 49) (.tmp 50) rfl rfl rfl) ⟨⟨_, hx1.grown hg hx1.size (fun r e => own_base ho1 e)⟩, rfl⟩ ?_
            change anyG _ _ _ _ _ _ _ (Act.put _ (some 51) _) _
            simp only [Act.put, List.setIfInBounds_toArray, List.set_cons_succ, List.set_cons_zero]
            have hx2 := hx1.grown hg hx1.size (fun r e => own_base ho1 e)
            refine anyG_one 4 _ (by kernel_rfl) rfl rfl ?_
            refine goUpon_val _ _ (exec_tbs1 (.tmp 52) rfl _ _ endT rfl) ⟨⟨_, hx2.alloc hx2.size _⟩, rfl⟩ ?_
            change anyG _ _ _ _ _ _ _ (Act.put _ (some 53) _) _
            simp only [Act.put, List.setIfInBounds_toArray, List.set_cons_succ, List.set_cons_zero]
            have hn3 := heap_alloc_new X2 (.cells endT.cells.toArray 24)
            have ho3 := ho2.alloc (.cells endT.cells.toArray 24)
            have hx3 := hx2.alloc hx2.size (.cells endT.cells.toArray 24)
            obtain ⟨X3, hX3⟩ : ∃ Y, Y = X2.alloc (.cells endT.cells.toArray 24) := ⟨_, rfl⟩
            have hz3 : X3.heap.size = X2.heap.size + 1 := by rw [hX3]; simp
            rw [← hX3] at hn3 hx3 ho3 ⊢
            clear hX3
            refine anyG_one 5 _ (by kernel_rfl) rfl rfl ?_
            obtain ⟨u19, X4, hrun2, ho4, hg2⟩ := tapp_run Z.heap.size _ (0 + b.length) ([] ++ pcells b) ho3 X3.heap.size _ [endT] (TArg.one _ endT X3 hn3) (by simp; omega) hx3.size
            refine goUpon_val _ _ (hrun2 _ _ (.tmp 51) (.tmp 53) rfl rfl rfl) ⟨⟨_, hx3.grown hg2 hx3.size (fun r e => own_base ho3 e)⟩, rfl⟩ ?_
            change anyG _ _ _ _ _ _ _ (Act.put _ (some 54) _) _
            simp only [Act.put, List.setIfInBounds_toArray, List.set_cons_succ, List.set_cons_zero]
            have hx4 := hx3.grown hg2 hx3.size (fun r e => own_base ho3 e)
            refine anyG_one 6 _ (by kernel_rfl) rfl rfl ?_
            refine goUpon_val u19 _ rfl ⟨⟨_, hx4⟩, rfl⟩ ?_
            change anyG _ _ _ _ _ _ _ (Act.put _ (some 1) _) _
            simp only [Act.put, List.setIfInBounds_toArray, List.set_cons_succ, List.set_cons_zero]
            refine anyG_end (by kernel_rfl) ?_
            simp only [Exit.then]
            go_wp2_with fail
            go_meet
            exact ⟨by rw [pcells_app, List.length_append]; simpa [pcells] using ho4, hx4⟩
          · refine goUpon_val _ _ (exec_tbs1 (.tmp 52) rfl _ _ endT rfl) ⟨⟨_, hx1.alloc hx1.size _⟩, rfl⟩ ?_
            change anyG _ _ _ _ _ _ _ (Act.put _ (some 53) _) _
            simp only [Act.put, List.setIfInBounds_toArray, List.set_cons_succ, List.set_cons_zero]
            have hn2 := heap_alloc_new X1 (.cells endT.cells.toArray 24)
            have ho2 := ho1.alloc (.cells endT.cells.toArray 24)
            have hx2 := hx1.alloc hx1.size (.cells endT.cells.toArray 24)
            obtain ⟨X2, hX2⟩ : ∃ Y, Y = X1.alloc (.cells endT.cells.toArray 24) := ⟨_, rfl⟩
            have hz2 : X2.heap.size = X1.heap.size + 1 := by rw [hX2]; simp
            rw [← hX2] at hn2 hx2 ho2 ⊢
            clear hX2
            refine anyG_one 2 _ (by kernel_rfl) rfl rfl ?_
            obtain ⟨u16, X3, hrun, ho3, hg⟩ := tapp_run Z.heap.size _ 0 [] ho2 B (.slice A2 b.length c2) b (TArg.ext HV2.out hx2) (by omega) hx2.size
            refine goUpon_val _ _ (hrun _ _ (.tmp 49) (.tmp 50) rfl rfl rfl) ⟨⟨_, hx2.grown hg hx2.size (fun r e => own_base ho2 e)⟩, rfl⟩ ?_
            change anyG _ _ _ _ _ _ _ (Act.put _ (some 51) _) _
            simp only [Act.put, List.setIfInBounds_toArray, List.set_cons_succ, List.set_cons_zero]
            have hx3 := hx2.grown hg hx2.size (fun r e => own_base ho2 e)
            have hn3 := (hg.block _ (Array.getElem?_eq_some_iff.1 hn2).1 (by simp [Value.ownBlock]; omega)).trans hn2
            refine anyG_one 5 _ (by kernel_rfl) rfl rfl ?_
            obtain ⟨u19, X4, hrun2, ho4, hg2⟩ := tapp_run Z.heap.size _ (0 + b.length) ([] ++ pcells b) ho3 X3.heap.size _ [endT] (TArg.one _ endT X3 hn3) (by simp; omega) hx3.size
            refine goUpon_val _ _ (hrun2 _ _ (.tmp 51) (.tmp 53) rfl rfl rfl) ⟨⟨_, hx3.grown hg2 hx3.size (fun r e => own_base ho3 e)⟩, rfl⟩ ?_
            change anyG _ _ _ _ _ _ _ (Act.put _ (some 54) _) _
            simp only [Act.put, List.setIfInBounds_toArray, List.set_cons_succ, List.set_cons_zero]
            have hx4 := hx3.grown hg2 hx3.size (fun r e => own_base ho3 e)
            refine anyG_one 6 _ (by kernel_rfl) rfl rfl ?_
            refine goUpon_val u19 _ rfl ⟨⟨_, hx4⟩, rfl⟩ ?_
            change anyG _ _ _ _ _ _ _ (Act.put _ (some 1) _) _
            simp only [Act.put, List.setIfInBounds_toArray, List.set_cons_succ, List.set_cons_zero]
            refine anyG_end (by kernel_rfl) ?_
            simp only [Exit.then]
            go_wp2_with fail
            go_meet
            exact ⟨by rw [pcells_app, List.length_append]; simpa [pcells] using ho4, hx4⟩
        · refine goUpon_val _ _ (exec_tbs1 (.tmp 52) rfl _ _ endT rfl) ⟨⟨_, hx0.alloc hx0.size _⟩, rfl⟩ ?_
          change anyG _ _ _ _ _ _ _ (Act.put _ (some 53) _) _
          simp only [Act.put, List.setIfInBounds_toArray, List.set_cons_succ, List.set_cons_zero]
          have hn1 := heap_alloc_new X (.cells endT.cells.toArray 24)
          have hx1 := hx0.alloc hx0.size (.cells endT.cells.toArray 24)
          obtain ⟨X1, hX1⟩ : ∃ Y, Y = X.alloc (.cells endT.cells.toArray 24) := ⟨_, rfl⟩
          have hz1 : X1.heap.size = X.heap.size + 1 := by rw [hX1]; simp
          rw [← hX1] at hn1 hx1 ⊢
          clear hX1
          refine anyG_one 0 _ (by kernel_rfl) rfl rfl ?_
          refine goUpon_val _ _ (exec_tbs0 rfl _ _) ⟨⟨_, hx1.alloc hx1.size _⟩, rfl⟩ ?_
          change anyG _ _ _ _ _ _ _ (Act.put _ (some 49) _) _
          simp only [Act.put, List.setIfInBounds_toArray, List.set_cons_succ, List.set_cons_zero]
          have ho2 := own_tbs0 X1 Z.heap.size hx1.size
          have hn2 := (Below.heap_alloc X1 (.cells #[] 24) _ (Array.getElem?_eq_some_iff.1 hn1).1).trans hn1
          have hx2 := hx1.alloc hx1.size (.cells #[] 24)
          obtain ⟨X2, hX2⟩ : ∃ Y, Y = X1.alloc (.cells #[] 24) := ⟨_, rfl⟩
          have hz2 : X2.heap.size = X1.heap.size + 1 := by rw [hX2]; simp
          rw [← hX2] at ho2 hx2 hn2 ⊢
          clear hX2
          refine anyG_one 2 _ (by kernel_rfl) rfl rfl ?_
          obtain ⟨u16, X3, hrun, ho3, hg⟩ := tapp_run Z.heap.size _ 0 [] ho2 B (.slice A2 b.length c2) b (TArg.ext HV2.out hx2) (by omega) hx2.size
          refine goUpon_val _ _ (hrun _ _ (.tmp 49) (.tmp 50) rfl rfl rfl) ⟨⟨_, hx2.grown hg hx2.size (fun r e => own_base ho2 e)⟩, rfl⟩ ?_
          change anyG _ _ _ _ _ _ _ (Act.put _ (some 51) _) _
          simp only [Act.put, List.setIfInBounds_toArray, List.set_cons_succ, List.set_cons_zero]
          have hx3 := hx2.grown hg hx2.size (fun r e => own_base ho2 e)
          have hn3 := (hg.block _ (Array.getElem?_eq_some_iff.1 hn2).1 (by simp [Value.ownBlock]; omega)).trans hn2
          refine anyG_one 5 _ (by kernel_rfl) rfl rfl ?_
          obtain ⟨u19, X4, hrun2, ho4, hg2⟩ := tapp_run Z.heap.size _ (0 + b.length) ([] ++ pcells b) ho3 X3.heap.size _ [endT] (TArg.one _ endT X3 hn3) (by simp; omega) hx3.size
          refine goUpon_val _ _ (hrun2 _ _ (.tmp 51) (.tmp 53) rfl rfl rfl) ⟨⟨_, hx3.grown hg2 hx3.size (fun r e => own_base ho3 e)⟩, rfl⟩ ?_
          change anyG _ _ _ _ _ _ _ (Act.put _ (some 54) _) _
          simp only [Act.put, List.setIfInBounds_toArray, List.set_cons_succ, List.set_cons_zero]
          have hx4 := hx3.grown hg2 hx3.size (fun r e => own_base ho3 e)
          refine anyG_one 6 _ (by kernel_rfl) rfl rfl ?_
          refine goUpon_val u19 _ rfl ⟨⟨_, hx4⟩, rfl⟩ ?_
          change anyG _ _ _ _ _ _ _ (Act.put _ (some 1) _) _
          simp only [Act.put, List.setIfInBounds_toArray, List.set_cons_succ, List.set_cons_zero]
          refine anyG_end (by kernel_rfl) ?_
          simp only [Exit.then]
          go_wp2_with fail
          go_meet
          exact ⟨by rw [pcells_app, List.length_append]; simpa [pcells] using ho4, hx4⟩
      case rest =>
        clear f0 f1 f2
        obtain ⟨ho, hbx⟩ := hcut
        obtain ⟨Y, hY⟩ : ∃ Y, Y = wc := ⟨_, rfl⟩
        rw [← hY] at ho hbx ⊢
        clear hY
        have hbY := HBZ.out.trans (hbx.mono HBZ.out.size)
        have hVa : TArg Y Z.heap.size u0 (a ++ [endT]) := TArg.ext HVa.out hbx
        have hVb := TArg.of_own ho
        have pc : ∀ (v : Value) (ts : List PTok) (B' : Nat) (U : World), ts.length ≤ 1000 → B' ≤ U.heap.size → Below w.heap.size w U → TArg U B' v ts → Calls Tryd.prog 5 #[v] U (ParsePost U (parseRes decE ts)) := fun v ts B' U hts hB' hU hv =>
          parse_any decE (Laid B) ts (by omega) v U (Stable.more (Laid.stable B) (by have := hU.size; omega)) (dec_ok B ts) (hv.row hB') (Laid.stable B w U none HW.out (grown_below hU none) (fun r e => by cases e))
        obtain ⟨l1, l2, l3⟩ := first_law decE (a ++ [endT]) (b ++ [endT]) ⟨a, endT, rfl, rfl⟩ (by simp)
        have na : (a ++ [endT]).length ≤ 61 := by rw [List.length_append]; simp; omega
        have nb : (b ++ [endT]).length ≤ 61 := by rw [List.length_append]; simp; omega
        obtain ⟨ra1, ra2⟩ := res_len decE (a ++ [endT])
        obtain ⟨rb1, rb2⟩ := res_len decE (b ++ [endT])
        obtain ⟨a', ha'⟩ : ∃ a', a ++ [endT] = a' := ⟨_, rfl⟩
        obtain ⟨b', hb'⟩ : ∃ b', b ++ [endT] = b' := ⟨_, rfl⟩
        rw [ha'] at hVa l1 l2 l3 na ra1 ra2
        rw [hb'] at hVb l1 l2 l3 nb rb1 rb2
        have hpa := pc u0 a' Z.heap.size Y (by omega) hbx.size hbY hVa
        obtain ⟨⟨xa, pa, ea⟩, hra⟩ : ∃ r, parseRes decE a' = r := ⟨_, rfl⟩
        obtain ⟨⟨xb, pb, eb⟩, hrb⟩ : ∃ r, parseRes decE b' = r := ⟨_, rfl⟩
        obtain ⟨⟨xc, pc', ec⟩, hrc⟩ : ∃ r, parseRes decE (a' ++ b') = r := ⟨_, rfl⟩
        rw [hra] at hpa l1 l2 l3 ra1 ra2
        rw [hrb] at l2 l3 rb1 rb2
        rw [hrc] at l1 l2 l3
        simp only at l1 l2 l3 ra1 ra2 rb1 rb2
        have HPA := Lib.hid hpa
        have HVA := Lib.hid hVa
        have HVB := Lib.hid hVb
        have HBY := Lib.hid hbY
        have HPC := Lib.hid pc
        have HL := Lib.hid (And.intro l1 (And.intro l2 l3))
        have HLN := Lib.hid (And.intro na (And.intro nb (And.intro (And.intro ra1 ra2) (And.intro rb1 rb2))))
        have HRB := Lib.hid hrb
        have HRC := Lib.hid hrc
        clear ho hbx hbY hVa hVb pc l1 l2 l3 na nb ra1 ra2 rb1 rb2 ha' hb' hpa hra hrb hrc HVa HV2 HBZ
        go_upto_region 13 with (go_at_call 5; (with_reducible refine HPA.out.mono ?_); rintro e w4 ⟨oa, rfl, hoa, hb4⟩; have HOA := Lib.hid hoa; have HB4 := Lib.hid hb4; clear hoa hb4)
        have hb4 := HBY.out.trans (HB4.out.mono HBY.out.size)
        have hVb4 := TArg.ext HVB.out HB4.out
        have hpb := HPC.out u1 b' Y.heap.size w4 (by have := HLN.out.2.1; omega) HB4.out.size hb4 hVb4
        rw [HRB.out] at hpb
        have HPB := Lib.hid hpb
        have HBx4 := Lib.hid hb4
        clear hpb hb4 hVb4
        go_upto_region 14 with (go_at_call 5; (with_reducible refine HPB.out.mono ?_); rintro e w5 ⟨ob, rfl, hob, hb5⟩; have HOB := Lib.hid hob; have HB5 := Lib.hid hb5; clear hob hb5)
        have hb5 := HBx4.out.trans (HB5.out.mono HBx4.out.size)
        have hY5 : Below Y.heap.size Y w5 := HB4.out.trans (HB5.out.mono HB4.out.size)
        have x0 := (Below.refl w5.heap.size w5).alloc (Nat.le_refl _) (.cells #[] 24)
        have o0 := own_tbs0 w5 w5.heap.size (Nat.le_refl _)
        obtain ⟨v70, w6, hrun6, o6, gr6⟩ := tapp_run w5.heap.size _ 0 [] o0 Z.heap.size u0 a' (TArg.ext (TArg.ext HVA.out hY5) x0) (by have := HLN.out.1; omega) x0.size
        have x6 := x0.grown gr6 x0.size (fun r e => own_base o0 e)
        obtain ⟨v72, w7, hrun7, o7, gr7⟩ := tapp_run w5.heap.size v70 (0 + a'.length) ([] ++ pcells a') o6 Y.heap.size u1 b' (TArg.ext (TArg.ext HVB.out hY5) x6) (by have := HLN.out.1; have := HLN.out.2.1; omega) x6.size
        have x7 := x6.grown gr7 x6.size (fun r e => own_base o6 e)
        have hV7 : TArg w7 w7.heap.size v72 (a' ++ b') := TArg.of_own (base := w5.heap.size) (by rw [List.length_append, pcells_app]; simpa using o7)
        have hb7 := hb5.trans (x7.mono hb5.size)
        have hpc := HPC.out v72 (a' ++ b') w7.heap.size w7 (by rw [List.length_append]; have := HLN.out.1; have := HLN.out.2.1; omega) (Nat.le_refl _) hb7 hV7
        rw [HRC.out] at hpc
        have HPC7 := Lib.hid hpc
        have HB7 := Lib.hid hb7
        have HX7 := Lib.hid x7
        clear x0 o0 x6 o6 gr6 x7 o7 gr7 hV7 hb7 hpc hb5 hY5
        refine wp_region_lit ?_
        refine wl_val rfl _ (exec_tbs0 rfl _ _) ?_
        refine wl_val rfl u0 rfl ?_
        refine wl_val rfl v70 (hrun6 _ _ (.tmp 68) (.tmp 69) rfl rfl rfl) ?_
        refine wl_val rfl u1 rfl ?_
        refine wl_val rfl v72 (hrun7 _ _ (.tmp 70) (.tmp 71) rfl rfl rfl) ?_
        simp only [Act.put, List.setIfInBounds_toArray, List.set_cons_succ, List.set_cons_zero]
        clear hrun6 hrun7
        go_upto_region 15 with (go_at_call 5; (with_reducible refine HPC7.out.mono ?_); rintro e w8 ⟨oc, rfl, hoc, hb8⟩; have HOC := Lib.hid hoc; have HB8 := Lib.hid hb8; clear hoc hb8)
        have hb8 := HB7.out.trans (HB8.out.mono HB7.out.size)
        have HBx8 := Lib.hid hb8
        clear hb8
        obtain ⟨A5, c5, hf5⟩ := HOC.out.form
        obtain ⟨A6, c6, hf6⟩ := HOA.out.form
        by_cases he : ea = 0
        · by_cases hf : eb = 0
          · obtain ⟨q1, q2, q3⟩ := HL.out
            have q4 := q3 he hf
            injection q4 with q5 q6
            injection q6 with q7 q8
            subst q5 q7 q8 he hf
            have h48 : Below w4.heap.size w4 w8 := HB5.out.trans ((HX7.out.mono HB5.out.size).trans (HB8.out.mono (Nat.le_trans HB5.out.size HX7.out.size)))
            have h58 : Below w5.heap.size w5 w8 := HX7.out.trans (HB8.out.mono HX7.out.size)
            obtain ⟨us, hsa0⟩ := SArg.of_row HOA.out
            obtain ⟨vs, hsb0⟩ := SArg.of_row HOB.out
            have hsa := SArg.ext hsa0 h48
            have hsb := SArg.ext hsb0 h58
            have x0 := (Below.refl w8.heap.size w8).alloc (Nat.le_refl _) (.cells #[] 38)
            have o0 := own_sbs0 w8 w8.heap.size (Nat.le_refl _)
            obtain ⟨⟨ra1, ra2⟩, rb1, rb2⟩ := HLN.out.2.2
            have na := HLN.out.1
            have nb := HLN.out.2.1
            obtain ⟨v130, w9, hrun9, o9, gr9⟩ := sapp_run w8.heap.size _ 0 [] o0 w4.heap.size oa xa us (SArg.ext hsa x0) (by omega) x0.size
            have x9 := x0.grown gr9 x0.size (fun r e => own_base o0 e)
            obtain ⟨v132, w10, hrun10, o10, gr10⟩ := sapp_run w8.heap.size v130 (0 + xa.length) ([] ++ scells xa us) o9 w5.heap.size ob xb vs (SArg.ext hsb x9) (by omega) x9.size
            have x10 := x9.grown gr10 x9.size (fun r e => own_base o9 e)
            have k4 : w4.heap.size ≤ w10.heap.size := Nat.le_trans h48.size x10.size
            have k5 : w5.heap.size ≤ w10.heap.size := Nat.le_trans h58.size x10.size
            have hs2 : SRead w10 w10.heap.size v132 (xa ++ xb) := sread_app (base := w8.heap.size) (SArg.up (SArg.ext hsa x10) k4) (SArg.up (SArg.ext hsb x10) k5) (Nat.le_refl _) (by rw [scells_app _ _ _ _ hsa.1, List.length_append]; simpa using o10)
            have hs1 : SRead w10 w10.heap.size oc (xa ++ xb) := sread_mono ((SRead.of_row HOC.out).keep fun g hg _ => x10.block g hg) x10.size
            have hcs := same17_eq w10.heap.size oc v132 (xa ++ xb) w10 hs1 hs2 (Nat.le_refl _) (by rw [List.length_append]; omega) (fun s hs => by
              rcases List.mem_append.1 hs with hs | hs
              · have := ra2 s hs; omega
              · have := rb2 s hs; omega)
            have HCS := Lib.hid hcs
            have hb10 := HBx8.out.trans (x10.mono HBx8.out.size)
            have HB10 := Lib.hid hb10
            clear h48 h58 hsa0 hsb0 hsa hsb x0 o0 ra1 ra2 rb1 rb2 x9 o9 gr9 x10 o10 gr10 hs1 hs2 hcs hb10 q1 q2 q3 k4 k5
            clear hf5 hf6
            go_upto_region 19 with (fail)
            go_wp2_with (first
              | ((with_reducible refine prnw.wl_pre ?_); (first | (refine wl_val_g rfl _ (exec_sbs0 rfl _ _) ?_) | (refine wl_val_g rfl v130 (hrun9 _ _ (.tmp 128) (.tmp 129) rfl rfl rfl) ?_) | (refine wl_val_g rfl v132 (hrun10 _ _ (.tmp 130) (.tmp 131) rfl rfl rfl) ?_)); (simp only [Act.put, List.setIfInBounds_toArray, List.set_cons_succ, List.set_cons_zero]))
              | (go_at_call 6; (with_reducible refine HCS.out.mono ?_); rintro e w11 ⟨rfl, hw11⟩; have HB11 := Lib.hid (HB10.out.trans (hw11.mono HB10.out.size)); clear hw11)
              | (go_at_call 4; (with_reducible refine (HAW.out _ HB11.out).mono ?_); rintro e w12 ⟨rfl, hw12⟩; have HB12 := Lib.hid hw12; clear hw12))
            go_ret
            exact ⟨rfl, HB11.out.trans (HB12.out.mono HB11.out.size)⟩
          · obtain ⟨q1, q2, q3⟩ := HL.out
            have q4 := q2 he hf
            injection q4 with q5 q6
            injection q6 with q7 q8
            subst q5 q7 q8 he hf5
            have z1 : ((ec : Int) != 0) = true := by rw [bne_iff_ne]; omega
            clear q1 q2 q3 hf hf6
            go_wp2_with (go_at_call 4; (with_reducible refine (HAW.out _ HBx8.out).mono ?_); rintro e w9 ⟨rfl, hw9⟩; have HB9 := Lib.hid hw9; clear hw9)
            go_ret
            exact ⟨rfl, HBx8.out.trans (HB9.out.mono HBx8.out.size)⟩
        · obtain ⟨q1, q2, q3⟩ := HL.out
          obtain ⟨q4, q9⟩ := q1 he
          injection q4 with q5 q6
          injection q6 with q7 q8
          subst q5 q7 q8 q9 hf5 hf6
          have z1 : ((ec : Int) != 0) = true := by rw [bne_iff_ne]; omega
          clear q1 q2 q3 he
          go_wp2_with (go_at_call 4; (with_reducible refine (HAW.out _ HBx8.out).mono ?_); rintro e w9 ⟨rfl, hw9⟩; have HB9 := Lib.hid hw9; clear hw9)
          go_ret
          exact ⟨rfl, HBx8.out.trans (HB9.out.mono HBx8.out.size)⟩
end Go.Proofs.YtdmhebibnnemnaaDoor.pft
