/- Depth: how deep a right program is. No conditions but those stated. -/
import Derived.Test.YtlhdabpoljoobaaFlaJ
import Derived.StillTailTactics
import Derived.Deep.WholeRow
import Derived.Deep.DeepCutAuto
namespace Go.Proofs.Ytlhdabpoljoobaa.flatw
open Go.RowKit Go.Shelf
open Go.Proofs.Ytlhdabpoljoobaa.nodew
open Go.Proofs.Ytlhdabpoljoobaa.chkw
open Go.Proofs.Ytlhdabpoljoobaa.flatm

theorem toA_cell' {W : World} {tb n x : Nat} {tm : Nat → Nat} (h : W.heap[tb]? = some (.cells (toA n tm) 3 (0, 0))) (hx : x < n) : W.cell? ⟨tb, x, none⟩ = some (.int .i64 (tm x : Nat)) := by rw [cell_of_row _ _ _ _ _ _ h]; exact toA_at _ _ _ hx
theorem toA_frozen' {W : World} {tb n : Nat} {tm : Nat → Nat} (h : W.heap[tb]? = some (.cells (toA n tm) 3 (0, 0))) (x : Nat) : W.frozen? ⟨tb, x, none⟩ = false := by simp [World.frozen?, h]
theorem max_le (g : Nat → Nat) (f : Nat) : ∀ (L : List Nat) (a : Nat), a ≤ f → (∀ c ∈ L, g c ≤ f) → L.foldl (fun m c => max m (g c)) a ≤ f
  | [], a, h, _ => h
  | c :: r, a, h, hc => by
    rw [List.foldl_cons]
    exact max_le g f r _ (Nat.max_le.2 ⟨h, hc c (.head _)⟩) (fun d hd => hc d (.tail _ hd))
theorem dep_le (p : Nat → Nd) : ∀ (f x : Nat), depF p f x ≤ f
  | 0, _ => Nat.le_refl _
  | f + 1, x => Nat.succ_le_succ (max_le _ f _ 0 (Nat.zero_le _) (fun c _ => dep_le p f c))
/-- how deep the first j of them are -/
def mx (l : List Nd) (ks : List Nat) (j : Nat) : Nat := (ks.take j).foldl (fun m c => max m (depP l c)) 0
theorem mx_zero (l : List Nd) (ks : List Nat) : mx l ks 0 = 0 := rfl
theorem mx_succ (l : List Nd) (ks : List Nat) (j c : Nat) (h : ks[j]? = some c) : mx l ks (j + 1) = max (mx l ks j) (depP l c) := by
  unfold mx
  rw [List.take_add_one, h]
  simp [List.foldl_append]
theorem mx_all (l : List Nd) (ks : List Nat) : mx l ks ks.length = ks.foldl (fun m c => max m (depP l c)) 0 := by
  unfold mx; rw [List.take_length]
/-- the row up to place k -/
def dk (l : List Nd) (k : Nat) : Nat → Nat := fun i => if i < k then depP l i else 0
theorem dk_lt (l : List Nd) {k i : Nat} (h : i < k) : dk l k i = depP l i := if_pos h
theorem dk_ge (l : List Nd) {k i : Nat} (h : k ≤ i) : dk l k i = 0 := if_neg (by omega)
theorem dk_zero (l : List Nd) : dk l 0 = fun _ => 0 := by funext i; unfold dk; simp
theorem dk_succ {l : List Nd} (hr : rightP l = true) {k : Nat} (hk : k < l.length) : upd (upd (dk l k) k (mx l (kids (nth l k)) (kids (nth l k)).length)) k (mx l (kids (nth l k)) (kids (nth l k)).length + 1) = dk l (k + 1) := by
  funext i
  by_cases e : i = k
  · subst e
    rw [upd_same, dk_lt l (Nat.lt_succ_self _), depP_eq hr i hk, mx_all]
  · rw [upd_ne _ _ _ _ e, upd_ne _ _ _ _ e]
    unfold dk
    by_cases h : i < k
    · rw [if_pos h, if_pos (by omega)]
    · rw [if_neg h, if_neg (by omega)]
theorem upd_upd (g : Nat → Nat) (k a b : Nat) : upd (upd g k a) k b = upd g k b := by
  funext i
  by_cases e : i = k
  · subst e; rw [upd_same, upd_same]
  · rw [upd_ne _ _ _ _ e, upd_ne _ _ _ _ e, upd_ne _ _ _ _ e]
theorem upd_zero (l : List Nd) (k : Nat) : upd (dk l k) k 0 = dk l k := by
  funext i
  by_cases e : i = k
  · subst e; rw [upd_same, dk_ge l (Nat.le_refl _)]
  · rw [upd_ne _ _ _ _ e]
/-- the row lies in block tb -/
def DS (tb n : Nat) (w : World) (tm : Nat → Nat) (W : World) : Prop := W.heap[tb]? = some (.cells (toA n tm) 3 (0, 0)) ∧ Below w.heap.size w W
theorem DS.set {tb n : Nat} {w : World} {l : List Nd} {k m : Nat} {W : World} (h : DS tb n w (upd (dk l k) k m) W) (ht : w.heap.size ≤ tb) (hk : k < n) (m' : Nat) : DS tb n w (upd (dk l k) k m') (W.setCell ⟨tb, k, none⟩ (.int .i64 (m' : Nat))) := by
  refine ⟨?_, h.2.setCell ht _⟩
  rw [heap_set W tb k _ _ _ _ h.1, toA_set _ _ _ _ hk, upd_upd]
def DepPost (w : World) (d e : Int) (x : Ending) (w' : World) : Prop := x = .returned (.tuple #[.int .i64 d, .int .i64 e]) ∧ Below w.heap.size w w'

theorem NRead.at' {w : World} {A : Option Addr} {c : Nat} {l : List Nd} (h : NArg w w.heap.size (.slice A l.length c) l) {k : Nat} (hk : k < l.length) :
    ∃ g off, A = some ⟨g, off, none⟩ ∧ ∀ W : World, Below w.heap.size w W → (Instr.loadAt 37 (.pointer (some ⟨g, off + k * 19, none⟩))).run Try.prog W = .ok (nth l k).val W := by
  obtain ⟨A', c', hv, _, _, hx⟩ := h
  injection hv with e1 _ _
  subst e1
  obtain ⟨g, off, hA, hgB, hgl, hcl⟩ := hx (by intro e; rw [e] at hk; simp at hk)
  refine ⟨g, off, hA, fun W hB => ?_⟩
  have := (NRead.at (B := w.heap.size) (g := g) (off := off) (W := w) (l := l) (k := k) (fun _ => ⟨g, off, rfl, hgB, hgl, hcl⟩) hk).2 W (hB.block g hgl)
  rw [this]
  unfold nth
  simp [hk]
theorem wl_alloc_nd {ops : Array Oper} {rest : List Oper} {o : Oper} {a : Act} {w : World} {Q : Exit → Act → World → Prop} (hgd : o.guard = none) (ho : o.op = .alloc 37)
    (h : wpList Try.prog ops Q rest (a.put o.dst (pt w.heap.size 0)) (w.alloc (.cells zcells 37))) : wpList Try.prog ops Q (o :: rest) a w :=
  wl_val hgd _ (exec_alloc_nd ho a w) h
theorem wl_store_new {ops : Array Oper} {rest : List Oper} {o : Oper} {a : Act} {u : World} {Q : Exit → Act → World → Prop} (hgd : o.guard = none) (x y : Operand) (ho : o.op = .store 37 x y) (nd : Nd) (hx : a.eval x = pt u.heap.size 0) (hy : a.eval y = nd.val)
    (h : wpList Try.prog ops Q rest (a.put o.dst undef) (u.alloc (.cells nd.cells.toArray 37))) : wpList Try.prog ops Q (o :: rest) a (u.alloc (.cells zcells 37)) := by
  have hr : (Instr.storeAt 37 (.pointer (some ⟨u.heap.size, 0, none⟩)) (.agg nd.cells.toArray)).run Try.prog (u.alloc (.cells zcells 37)) = .ok () (u.alloc (.cells nd.cells.toArray 37)) :=
    run_storeAt_new u 37 zcells nd.cells.toArray (nd_info nd) (by rw [nd_size]; rfl) (nd_one nd)
  have hx' : a.eval x = .pointer (some ⟨u.heap.size, 0, none⟩) := hx
  have hy' : a.eval y = .agg nd.cells.toArray := hy
  refine wpList_plain hgd fun K hK => ?_
  unfold Oper.wp execOp
  simp only [ho, hx', hy', hr, Sem.run_bind, Sem.run_pure, Result.andThen_ok]
  exact hK _ _ h

set_option maxRecDepth 100000 in
set_option maxHeartbeats 1000000 in
theorem depth_no (l : List Nd) (hok : ∀ n ∈ l, n.ok) (hll : l.length ≤ 1000000000000) (hr : rightP l = false) (v : Value) (w : World) (hn : NArg w w.heap.size v l) :
    Calls Try.prog 7 #[v] w (DepPost w 0 190) := by
  have hrt := right_any w.heap.size v l hok hll w hn.read (Nat.le_refl _)
  obtain ⟨A, c, rfl⟩ := hn.form
  rw [hr] at hrt
  have HRT := Lib.hid hrt
  clear hrt hn hok hr
  go_enter Try.func7, Try.ntmps7
  go_wp2_with fail
  refine HRT.out.mono ?_
  rintro e w' ⟨rfl, hB⟩
  go_wp2_with fail
  go_ret2
  exact ⟨rfl, hB⟩

set_option maxRecDepth 100000 in
set_option maxHeartbeats 4000000 in
theorem depth_any (l : List Nd) (hok : ∀ n ∈ l, n.ok) (hr : rightP l = true) (v : Value) (w : World) (hn : NArg w w.heap.size v l) :
    Calls Try.prog 7 #[v] w (DepPost w (depP l (l.length - 1) : Nat) 0) := by
  obtain ⟨_, h0, h4⟩ := right_nodes hr
  have hrt := right_any w.heap.size v l hok (by omega) w hn.read (Nat.le_refl _)
  obtain ⟨A, c, rfl⟩ := hn.form
  rw [hr] at hrt
  have HRT := Lib.hid hrt
  have HN := Lib.hid hn
  have HR := Lib.hid hr
  clear hrt hn hok hr
  go_enter Try.func7, Try.ntmps7
  go_wp2_with fail
  refine HRT.out.mono ?_
  rintro e W1 ⟨rfl, hB1⟩
  obtain ⟨tb, htb⟩ : ∃ tb, tb = W1.heap.size := ⟨_, rfl⟩
  obtain ⟨W2, hW2⟩ : ∃ W2, W2 = W1.alloc (.cells (toA l.length fun _ => 0) 3) := ⟨_, rfl⟩
  have hmk : (Instr.makeSlice 30 (.int .i64 l.length) (.int .i64 l.length)).run Try.prog W1 = .ok (.slice (some ⟨tb, 0, none⟩) l.length l.length) W2 := by
    rw [htb, hW2]; exact mk_int l.length h4 W1
  have hd2 : DS tb l.length w (dk l 0) W2 := by
    rw [dk_zero, hW2, htb]
    exact ⟨heap_alloc_new W1 _, hB1.alloc hB1.size _⟩
  have htw : w.heap.size ≤ tb := by rw [htb]; exact hB1.size
  have HD2 := Lib.hid hd2
  clear hW2 htb hd2 hB1
  go_wp2_with fail
  go_loopw [17] (fun i wr => ∃ k : Nat, k ≤ l.length ∧ i = .int .i64 k ∧ DS tb l.length w (dk l k) wr) (fun i _ => l.length - (intOf i).toNat)
  case atStart => exact ⟨0, Nat.zero_le _, rfl, HD2.out⟩
  case round =>
    obtain ⟨k, hk, rfl, hD⟩ := hrel
    obtain ⟨wo, hwo⟩ : ∃ wo, wo = wr := ⟨_, rfl⟩
    subst hwo
    by_cases hkl : k < l.length
    · have hz := hD.2.size
      obtain ⟨g, off, rfl, hld⟩ := NRead.at' HN.out hkl
      have hld1 := hld wo hD.2
      obtain ⟨nd, hnd⟩ : ∃ nd, nth l k = nd := ⟨_, rfl⟩
      rw [hnd] at hld1
      obtain ⟨Wa, hWa⟩ : ∃ Wa, Wa = wo.alloc (.cells nd.cells.toArray 37) := ⟨_, rfl⟩
      have hna : NBlk Wa wo.heap.size nd := by rw [hWa]; exact heap_alloc_new wo _
      have hga : wo.grownBy Wa none := by rw [hWa]; exact World.grownBy_alloc wo _ none
      have k0 : (0 : Int) ≤ (k : Int) := by omega
      have ki : (k : Int) < (l.length : Int) := by omega
      have HLD := Lib.hid hld1
      have HNA := Lib.hid hna
      have HGA := Lib.hid hga
      have HD := Lib.hid hD
      have HND := Lib.hid hnd
      clear hld hld1 hna hga hD hnd
      go_wp2_with (first | (rw [← hWa]) | (refine wl_load_nd rfl (.tmp 20) rfl (.pointer (some ⟨g, off + k * 19, none⟩)) rfl nd HLD.out ?_) | (refine wl_alloc_nd rfl rfl ?_) | (refine wl_store_new rfl (.tmp 6) (.tmp 21) rfl nd rfl rfl ?_) | (refine wl_load_nd rfl (.tmp 6) rfl (.pointer (some ⟨wo.heap.size, 0, none⟩)) rfl nd HNA.out.loadAt ?_))
      refine (below_any nd Wa).mono ?_
      rintro e Wb ⟨vb, rfl, hIA, hBb, hnew⟩
      have hki := kidsI_right HR.out k hkl
      have hac := right_ac HR.out k hkl
      rw [HND.out] at hki hac
      rw [hki] at hIA
      obtain ⟨ks, hks⟩ : ∃ ks, kids nd = ks := ⟨_, rfl⟩
      rw [hks] at hIA hac
      obtain ⟨A2, rfl, hA2⟩ := hIA.uni
      rw [List.length_map] at hA2 hnew ⊢
      have hk2 : ks.length ≤ 2 := by
        rw [← hks]; unfold kids
        split
        · simp
        · split <;> simp
      have hgb : wo.grownBy Wb none := grown_trans HGA.out (grown_below hBb none)
      have hDb : DS tb l.length w (upd (dk l k) k (mx l ks 0)) Wb := by
        rw [mx_zero, upd_zero]
        exact ⟨(hgb.block tb (Array.getElem?_eq_some_iff.1 HD.out.1).1 (by simp)).trans HD.out.1, HD.out.2.grown hgb hz (fun r e => by cases e)⟩
      have hlast := dk_succ HR.out hkl
      rw [HND.out, hks] at hlast
      have hnew2 : ∀ g, A2 = some ⟨g, 0, none⟩ → tb < g := fun g e => by
        have h1 := hnew g 0 ks.length (by rw [e])
        have h2 := HGA.out.size
        have h3 := (Array.getElem?_eq_some_iff.1 HD.out.1).1
        omega
      have HNW := Lib.hid hnew2
      have HA2 := Lib.hid hA2
      have HDB := Lib.hid hDb
      have HAC := Lib.hid hac
      have HLAST := Lib.hid hlast
      have htl : tb < Wb.heap.size := (Array.getElem?_eq_some_iff.1 hDb.1).1
      clear hA2 hnew hnew2 hDb hac hlast hki hIA hgb hBb hks hWa
      go_wp2_with fail
      go_loopw [25] (fun i wq => ∃ j : Nat, j ≤ ks.length ∧ i = .int .i64 j ∧ DS tb l.length w (upd (dk l k) k (mx l ks j)) wq ∧ ∀ b, b ≠ tb → b < Wb.heap.size → wq.heap[b]? = Wb.heap[b]?) (fun i _ => ks.length - (intOf i).toNat)
      case atStart => exact ⟨0, Nat.zero_le _, rfl, HDB.out, fun _ _ _ => rfl⟩
      case round =>
        obtain ⟨j, hj, rfl, hD, hkeep⟩ := hrel
        by_cases hjl : j < ks.length
        · obtain ⟨gb, rfl, hgb⟩ := HA2.out j hjl
          have hgt : gb ≠ tb := by
            have := HNW.out gb rfl
            omega
          have cg : wr.cell? ⟨gb, j, none⟩ = some (.int .i64 (ks[j] : Nat)) := by
            rw [cell_of_row _ _ _ _ _ _ ((hkeep gb hgt (Array.getElem?_eq_some_iff.1 hgb).1).trans hgb)]
            simp [hjl]
          obtain ⟨cc, hcc⟩ : ∃ cc, ks[j] = cc := ⟨_, rfl⟩
          rw [hcc] at cg
          have hck : cc < k := HAC.out cc (by rw [← hcc]; exact List.getElem_mem hjl)
          have c1 := toA_cell' hD.1 hkl
          have c2 := toA_cell' hD.1 (x := cc) (by omega)
          rw [upd_same] at c1
          rw [upd_ne _ _ _ _ (by omega), dk_lt l hck] at c2
          have hmx := mx_succ l ks j cc (by rw [List.getElem?_eq_getElem hjl, hcc])
          obtain ⟨a, ha⟩ : ∃ a, mx l ks j = a := ⟨_, rfl⟩
          obtain ⟨b, hb⟩ : ∃ b, depP l cc = b := ⟨_, rfl⟩
          rw [ha] at c1
          rw [hb] at c2
          have HD := Lib.hid hD
          have HK := Lib.hid hkeep
          have HMX := Lib.hid hmx
          have HA := Lib.hid ha
          have HB := Lib.hid hb
          clear hD hkeep hgb hcc hmx ha hb
          have j0 : (0 : Int) ≤ (j : Int) := by omega
          have ji : (j : Int) < (ks.length : Int) := by omega
          have cc0 : (0 : Int) ≤ (cc : Int) := by omega
          have cci : (cc : Int) < (l.length : Int) := by omega
          have fx := toA_frozen' HD.out.1 k
          go_wp2_with fail
          go_still_tail 12, (by kernel_rfl)
          change wpList _ _ _ _ _ wr.drew
          obtain ⟨X, hX⟩ : ∃ X, X = wr.drew := ⟨_, rfl⟩
          have hDX : DS tb l.length w (upd (dk l k) k (mx l ks j)) X := by rw [hX]; exact ⟨HD.out.1, HD.out.2.drew⟩
          have hXk : ∀ b, b ≠ tb → b < Wb.heap.size → X.heap[b]? = Wb.heap[b]? := by rw [hX]; exact HK.out
          rw [← hX]
          have d1 := toA_cell' hDX.1 hkl
          rw [upd_same, HA.out] at d1
          have gx := toA_frozen' hDX.1 k
          have HDX := Lib.hid hDX
          have HXK := Lib.hid hXk
          clear hX hDX hXk c1 c2 cg fx
          go_wp2_with fail
          go_roundw
          case rel =>
            refine ⟨j + 1, by omega, by go_num, ?_, fun b hb1 hb2 => ?_⟩
            · rw [HMX.out, HA.out, HB.out]
              have hmm : (if a < b then Value.int .i64 (b : Int) else .int .i64 (a : Int)) = .int .i64 ((max a b : Nat) : Int) := by
                by_cases h : a < b
                · rw [if_pos h, Nat.max_eq_right (by omega)]
                · rw [if_neg h, Nat.max_eq_left (by omega)]
              have hmm2 : (if a < b then (b : Int) else (a : Int)) = ((max a b : Nat) : Int) := by
                by_cases h : a < b
                · rw [if_pos h, Nat.max_eq_right (by omega)]
                · rw [if_neg h, Nat.max_eq_left (by omega)]
              rw [hmm2]
              exact HDX.out.set htw hkl _
            · rw [Below.heap_setCell X ⟨tb, k, none⟩ _ b hb1]
              exact HXK.out b hb1 hb2
          case measure => simp [intOf]; omega
        · obtain rfl : j = ks.length := by omega
          obtain ⟨a, ha⟩ : ∃ a, mx l ks ks.length = a := ⟨_, rfl⟩
          have c1 := toA_cell' hD.1 hkl
          rw [upd_same, ha] at c1
          have fx := toA_frozen' hD.1 k
          have hDn := hD.set htw hkl (a + 1)
          have hlast := HLAST.out
          rw [ha, upd_upd] at hlast
          rw [hlast] at hDn
          have hal : a + 1 ≤ k + 1 := by
            have h1 := congrFun hlast k
            rw [upd_same, dk_lt l (Nat.lt_succ_self k)] at h1
            rw [h1]
            exact dep_le _ _ _
          have HDN := Lib.hid hDn
          clear hDn hlast hD hkeep ha
          go_wp2_with fail
          go_roundw
          case rel =>
            refine ⟨k + 1, by omega, by go_num, ?_⟩
            exact HDN.out
          case measure => simp [intOf]; omega
    · obtain rfl : k = l.length := by omega
      have hld : wo.cell? ⟨tb, l.length - 1, none⟩ = some (.int .i64 (depP l (l.length - 1) : Nat)) := by
        rw [cell_of_row _ _ _ _ _ _ hD.1, toA_at _ _ _ (by omega), dk_lt l (by omega)]
      have hx1 : ((l.length - 1 : Nat) : Int) = (l.length : Int) - 1 := by omega
      have hx2 : ((l.length : Int) - 1).toNat = l.length - 1 := by omega
      have hx3 : (0 : Int) ≤ (l.length : Int) - 1 := by omega
      have HD := Lib.hid hD
      clear hD
      go_wp2_with fail
      go_ret2
      exact ⟨rfl, HD.out.2⟩
end Go.Proofs.Ytlhdabpoljoobaa.flatw
