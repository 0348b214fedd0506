/- strings.Builder's copyCheck and WriteString. No conditions but those stated. -/
import Derived.Test.YtejmbbkklhpnaaaGreatDoorMp22
namespace Go.Proofs.YtejmbbkklhpnaaaGreatDoor.prnw
open Go.RowKit
open Go.Shelf
open Go.Sort
open Go.Proofs.YtejmbbkklhpnaaaGreatDoor.nodew
open Go.Proofs.YtejmbbkklhpnaaaGreatDoor.chkw
open Go.Proofs.YtejmbbkklhpnaaaGreatDoor.flatm

theorem bldInfo : (Tryz.prog.info? 71).map (·.size) = some 2 := by kernel_rfl
theorem bldLies : liesAt Tryz.prog Tryz.prog.depth 71 (2 / Tryz.prog.cellsOf 71) 0 71 1 = true := by kernel_rfl
set_option maxRecDepth 100000 in
set_option maxHeartbeats 1000000 in
theorem copy_fresh (b : Nat) (w : World) (h0 : w.cell? ⟨b, 0, none⟩ = some (.pointer none)) (hsh : w.shape? b = some (71, 2)) (hfz : w.frozen? ⟨b, 0, none⟩ = false) :
    Calls Tryz.prog 54 #[.pointer (some ⟨b, 0, none⟩)] w fun e w' => e = .returned (.tuple #[]) ∧ w' = w.setCell ⟨b, 0, none⟩ (.pointer (some ⟨b, 0, none⟩)) := by
  obtain ⟨j, hj, hjs⟩ := Option.map_eq_some_iff.1 bldInfo
  go_enter Tryz.func54, Tryz.ntmps54
  go_wp2
  rw [Lib.run_to_unsafe w ⟨b, 0, none⟩ Tryz.underlying69 Tryz.underlying144 hj (by rw [hjs]; decide) hsh (Nat.zero_lt_succ 1)]
  simp only [Result.andThen]
  rw [Oper.upon_value]
  go_wp2
  rw [run_callFunc_extern Tryz.func82 (by kernel_rfl) (by kernel_rfl) (by kernel_rfl) (e := Extern.AbiNoEscape.same) (by kernel_rfl)]
  rw [Lib.run_noEscape]
  simp only [Result.andThen]
  rw [Oper.upon_value]
  go_wp2
  rw [Lib.run_from_unsafe w ⟨b, 0, none⟩ Tryz.underlying144 Tryz.underlying69 hj hsh bldLies]
  simp only [Result.andThen]
  rw [Oper.upon_value]
  go_wp2
  go_end0
  exact ⟨rfl, rfl⟩
set_option maxRecDepth 100000 in
set_option maxHeartbeats 1000000 in
theorem copy_used (b : Nat) (w : World) (h0 : w.cell? ⟨b, 0, none⟩ = some (.pointer (some ⟨b, 0, none⟩))) :
    Calls Tryz.prog 54 #[.pointer (some ⟨b, 0, none⟩)] w fun e w' => e = .returned (.tuple #[]) ∧ w' = w := by
  obtain ⟨j, hj, hjs⟩ := Option.map_eq_some_iff.1 bldInfo
  go_enter Tryz.func54, Tryz.ntmps54
  go_wp2
  rw [Lib.run_neq_ptr_same w _ Tryz.underlying69 hj]
  go_wp2
  go_end0
  exact ⟨rfl, rfl⟩
abbrev BlF (B b : Nat) (bs : List Value) (w : World) : Prop := Lib.IsBuilderF 71 5 B b bs w
theorem copy_any (B b : Nat) (bs : List Value) (w : World) (h : BlF B b bs w) :
    Calls Tryz.prog 54 #[.pointer (some ⟨b, 0, none⟩)] w fun e w' => e = .returned (.tuple #[]) ∧ (Lib.BuilderAtF 71 5 B b (.pointer (some ⟨b, 0, none⟩)) bs w' ∧ Below B w w') := by
  rcases h with h | h
  · refine (copy_fresh b w h.cell0 h.shape h.frozen0).mono ?_
    rintro e w' ⟨rfl, rfl⟩
    exact ⟨rfl, h.used _, (Below.refl B w).setCell (p := ⟨b, 0, none⟩) h.1 _⟩
  · refine (copy_used b w h.cell0).mono ?_
    rintro e w' ⟨rfl, rfl⟩
    exact ⟨rfl, h, Below.refl B _⟩
set_option maxRecDepth 100000 in
set_option maxHeartbeats 1000000 in
theorem ws_any (B b : Nat) (bs : List Value) (s : ByteArray) (w : World) (h : BlF B b bs w) (hlen : bs.length + s.size ≤ 140737488355328) (hBw : B ≤ w.heap.size) :
    Calls Tryz.prog 26 #[.pointer (some ⟨b, 0, none⟩), .string s] w fun e w' => e = .returned (.tuple #[.int .i64 s.size, .nilIface]) ∧ (BlF B b (bs ++ Lib.strCells s) w' ∧ Below B w w') := by
  obtain ⟨i0, hi, hz0, hz1, hz2⟩ := info_parts u8Info
  have CC := Lib.hid (copy_any B b bs w h)
  have hs9 : (s.size : Int) ≤ 140737488355328 := by omega
  clear h
  go_enter Tryz.func26, Tryz.ntmps26
  go_upto_region 2 with (go_at_call 54; (with_reducible refine CC.out.mono ?_); rintro e w1 ⟨rfl, h1, hb1⟩; have H1 := Lib.hid (And.intro h1 hb1); clear h1 hb1)
  obtain ⟨⟨hB, v, hbk, hown, hne⟩, hb1⟩ := H1.out
  have c0 : w1.cell? ⟨b, 0, none⟩ = some (.pointer (some ⟨b, 0, none⟩)) := by rw [Lib.cell_of_heap hbk]; rfl
  have c1 : w1.cell? ⟨b, 1, none⟩ = some v := by rw [Lib.cell_of_heap hbk]; rfl
  have HH := Lib.hid (And.intro hB (And.intro hbk (And.intro hown (And.intro hne hb1))))
  clear hB hbk hown hne hb1
  go_wp2_with (at_builtin; refine Lib.wpList_append_own_stringF _ rfl (.tmp 12) (.tmp 13) 23 9 rfl B 5 i0 Tryz.underlying23 Tryz.underlying9 hi hz0 hz1 hz2 _ _ _ rfl HH.out.2.2.1 s rfl ?c3 ?c4 ?c5 ?_)
  case c3 => unfold maxLen; omega
  case c4 => omega
  case c5 => have := HH.out.2.2.2.2.size; omega
  intro v' w2 hown' hgrow _
  obtain ⟨hB, hbk, hown, hne, hb1⟩ := HH.out
  have hlt : b < w1.heap.size := blk_lt hbk
  have hb2 : w2.heap[b]? = some (.cells #[.pointer (some ⟨b, 0, none⟩), v] 71 (0, 0)) := by
    rw [hgrow.block b hlt (fun e => hne e.symm)]
    exact hbk
  have d0 : w2.cell? ⟨b, 0, none⟩ = some (.pointer (some ⟨b, 0, none⟩)) := by rw [Lib.cell_of_heap hb2]; rfl
  have d1 : w2.cell? ⟨b, 1, none⟩ = some v := by rw [Lib.cell_of_heap hb2]; rfl
  have f1 : w2.frozen? ⟨b, 1, none⟩ = false := Lib.frozen_of_heap hb2 1
  obtain ⟨ao, n', cap, rfl⟩ : ∃ ao n' cap, v' = .slice ao n' cap := by
    rcases hown'.2 with ⟨hv, _⟩ | ⟨g, cap, cur, fz, hv, _⟩
    · exact ⟨_, _, _, hv⟩
    · exact ⟨_, _, _, hv⟩
  have K2 := Lib.hid (And.intro hb2 (And.intro hown' hgrow))
  clear hB hbk hown hne hb1 hb2 hown' hgrow hlt
  go_wp2_with fail
  go_ret2
  obtain ⟨hB, hbk, hown, hne, hb1⟩ := HH.out
  obtain ⟨hb2, hown', hgrow⟩ := K2.out
  refine ⟨rfl, .inr ?_, ?_⟩
  · exact Lib.BuilderAtF.put (T := 71) (e := 5) hB hb2 (bs' := bs ++ Lib.strCells s) (by simpa [Lib.strCells_length] using hown') (by decide)
  · exact (hb1.grown hgrow (by have := hb1.size; omega) (fun k hk => (hown.lt k hk).1)).setCell (p := ⟨b, 1, none⟩) hB _
end Go.Proofs.YtejmbbkklhpnaaaGreatDoor.prnw

/- print.Text. Conditions: the nodes lie in memory, at most 4096. -/
namespace Go.Proofs.YtejmbbkklhpnaaaGreatDoor.prnw
open Go.RowKit
open Go.Shelf
open Go.Sort
open Go.Proofs.YtejmbbkklhpnaaaGreatDoor.nodew
open Go.Proofs.YtejmbbkklhpnaaaGreatDoor.chkw
open Go.Proofs.YtejmbbkklhpnaaaGreatDoor.flatm
attribute [local go_sem] nodew.run_store_float

theorem BlF.grown {B b : Nat} {bs : List Value} {w w' : World} (h : BlF B b bs w) (hg : w.grownBy w' none) : BlF B b bs w' := by
  have k : ∀ p, Lib.BuilderAtF 71 5 B b p bs w → Lib.BuilderAtF 71 5 B b p bs w' := fun p h => by
    have hlt := h.lt
    obtain ⟨hB, v, hb, hown, hne⟩ := h
    exact ⟨hB, v, (hg.block b hlt (by simp)).trans hb, hown.kept hg (by cases hv : v.ownBlock <;> simp), hne⟩
  rcases h with h | h
  · exact .inl (k _ h)
  · exact .inr (k _ h)
def atN (l : List Nd) (k : Nat) : Nd := l.getD k ⟨0, [], 0, 0⟩
theorem atN_eq (l : List Nd) (k : Nat) (h : k < l.length) : atN l k = l[k] := by
  unfold atN
  rw [List.getD_eq_getElem?_getD, List.getElem?_eq_getElem h]
  rfl
/-- the text of the first k lines -/
def textP (hi lo : Nat → Nat) (l : List Nd) : Nat → List UInt8
  | 0 => []
  | k + 1 => textP hi lo l k ++ (lineT hi lo (atN l k) k ++ [10])
def textT (hi lo : Nat → Nat) (l : List Nd) : List UInt8 := if rightP l = true then textP hi lo l l.length else []
def textE (l : List Nd) : Int := if rightP l = true then 0 else 190
theorem right_at {l : List Nd} (h : rightP l = true) : l.length ≤ 4096 ∧ 0 < l.length ∧ ∀ k (hk : k < l.length), nodeOk l[k] k = true := by
  unfold rightP at h
  simp only [Bool.and_eq_true, decide_eq_true_eq] at h
  refine ⟨h.2, h.1.2, fun k hk => ?_⟩
  have := List.all_eq_true.1 h.1.1 k (List.mem_range.2 hk)
  rw [List.getElem?_eq_getElem hk] at this
  exact this
theorem nf64 {n : Nd} (hn : n.ok) (j : Nat) (h1 : 1 ≤ j) (h2 : j ≤ 16) : n.f j < 18446744073709551616 := by
  refine hn.2 _ ?_
  unfold Nd.f
  have hj : j - 1 < n.x.length := by rw [hn.1]; omega
  rw [List.getD_eq_getElem?_getD, List.getElem?_eq_getElem hj]
  exact List.getElem_mem hj
theorem lineT_len {hi lo : Nat → Nat} (hh : ∀ i, i < 696 → 9223372036854775808 ≤ hi i ∧ hi i < 18446744073709551616) (n : Nd) (hn : n.ok) (k : Int) : (lineT hi lo n k).length ≤ 3000 := by
  unfold lineT
  split
  · rename_i hok
    have h3 : nodeOk n k = true ∧ 0 ≤ k ∧ k < 4096 := by
      unfold lineOk at hok
      simp only [Bool.and_eq_true, decide_eq_true_eq] at hok
      exact ⟨hok.2, hok.1.1, hok.1.2⟩
    obtain ⟨_, ha, hb⟩ := node_facts h3.1 h3.2.2
    have hs := lineL_size (lo := lo) hh n (fun j h1 h2 => nf64 hn j h1 h2) (by omega) (by omega) k (by omega) (by omega)
    have h12 := lineL_len hi lo n k
    have hj := join_len [32] ((lineL hi lo n k).map (·.data.toList)) (fun x hx => by
      obtain ⟨s, hs', rfl⟩ := List.mem_map.1 hx
      rw [bl_len]
      exact hs s hs')
    rw [List.length_map] at hj
    have hj2 : (200 + [(32 : UInt8)].length) * (lineL hi lo n k).length ≤ 201 * 12 := Nat.mul_le_mul_left 201 h12
    omega
  · decide
theorem textP_len {hi lo : Nat → Nat} (hh : ∀ i, i < 696 → 9223372036854775808 ≤ hi i ∧ hi i < 18446744073709551616) (l : List Nd) (hl : ∀ n ∈ l, n.ok) : ∀ k, k ≤ l.length → (textP hi lo l k).length ≤ 3001 * k
  | 0, _ => Nat.zero_le _
  | k + 1, hk => by
    have h1 := textP_len (lo := lo) hh l hl k (by omega)
    have h2 := lineT_len (lo := lo) hh (atN l k) (by rw [atN_eq l k (by omega)]; exact hl _ (List.getElem_mem _)) k
    have e : textP hi lo l (k + 1) = textP hi lo l k ++ (lineT hi lo (atN l k) k ++ [10]) := rfl
    rw [e, List.length_append, List.length_append, List.length_cons, List.length_nil]
    omega
set_option maxRecDepth 100000 in
set_option maxHeartbeats 4000000 in
theorem text_any (hi lo : Nat → Nat) (B : Nat) (v : Value) (l : List Nd) (hok : ∀ n ∈ l, n.ok) (hkd : ∀ n ∈ l, n.kind < 256) (hl : l.length ≤ 1000000000000) (w : World) (hr : NRead w B v l) (hB : B ≤ w.heap.size) (hE : Env hi lo w) (hG : Gl w.heap.size) :
    Calls Tryz.prog 13 #[v] w (Bel w (.tuple #[.string (bA (textT hi lo l)), .int .i64 (textE l)])) := by
  have CR := right_any B v l hok hl w hr hB
  obtain ⟨A, c, rfl, hx⟩ := hr
  have HR := Lib.hid CR
  have HE := Lib.hid (And.intro hE (And.intro hG hB))
  have HX := Lib.hid hx
  have HO := Lib.hid (And.intro hok hkd)
  cases hq : rightP l with
  | false =>
    have HQ := Lib.hid hq
    rw [hq] at CR
    have HR2 := Lib.hid CR
    clear CR hE hG hB hok hkd hq hx
    go_enter Tryz.func13, Tryz.ntmps13
    go_wp2_with (go_at_call 14; (with_reducible refine HR2.out.mono ?_); rintro e w1 ⟨rfl, hb1⟩)
    go_ret2
    refine ⟨?_, hb1⟩
    unfold textT textE
    rw [if_neg (by rw [HQ.out]; decide), if_neg (by rw [HQ.out]; decide)]
    rfl
  | true =>
    have HQ := Lib.hid hq
    obtain ⟨hl4, hl0, hall⟩ := right_at hq
    rw [hq] at CR
    have HR2 := Lib.hid CR
    have HA := Lib.hid hall
    clear CR hE hG hB hok hkd hq hx hall hl
    go_enter Tryz.func13, Tryz.ntmps13
    go_upto_region 3 with (go_at_call 14; (with_reducible refine HR2.out.mono ?_); rintro e w1 ⟨rfl, hb1⟩; have B1 := Lib.hid hb1; clear hb1)
    go_wp2_with fail
    obtain ⟨hE, hG, hB⟩ := HE.out
    have b1 := B1.out
    have hz1 := b1.size
    have hE1 : Env hi lo w1 := hE.later b1
    have hG1 : Gl w1.heap.size := ⟨Nat.lt_of_lt_of_le hG.1 hz1, Nat.lt_of_lt_of_le hG.2.1 hz1, Nat.lt_of_lt_of_le hG.2.2 hz1⟩
    have HE1 := Lib.hid (And.intro hE1 (And.intro hG1 hz1))
    obtain ⟨wb, hwb⟩ : ∃ wb, wb = w1.alloc (.cells #[.pointer none, .slice none 0 0] 71) := ⟨_, rfl⟩
    have hbf : BlF w1.heap.size w1.heap.size (Lib.byteCells (textP hi lo l 0)) wb := by
      rw [hwb]
      exact .inl ⟨Nat.le_refl _, .slice none 0 0, heap_alloc_new w1 _, World.ownsRowF_nil _ _ _ _, by simp [Value.ownBlock]⟩
    have hbb : Below w1.heap.size w1 wb := by rw [hwb]; exact (Below.refl _ _).alloc (Nat.le_refl _) _
    rw [← hwb]
    have HBF := Lib.hid (And.intro hbf hbb)
    clear hwb hbf hbb hE hG hB b1 hz1 hE1 hG1
    go_loopw [14] (fun i wr => ∃ k : Nat, k ≤ l.length ∧ i = .int .i64 k ∧ BlF w1.heap.size w1.heap.size (Lib.byteCells (textP hi lo l k)) wr ∧ Below w1.heap.size w1 wr) (fun i _ => l.length - (intOf i).toNat)
    case atStart => exact ⟨0, Nat.zero_le _, rfl, HBF.out.1, HBF.out.2⟩
    case round =>
      obtain ⟨k, hk, rfl, hF, hBr⟩ := hrel
      have hz := hBr.size
      by_cases hkl : k < l.length
      · obtain ⟨g, off, rfl, hgB, hgl, hcell⟩ := HX.out (by intro e; subst e; simp at hkl)
        obtain ⟨n, hn⟩ : ∃ n, l[k] = n := ⟨_, rfl⟩
        have hno : n.ok := HO.out.1 n (by rw [← hn]; exact List.getElem_mem hkl)
        have hnk : n.kind < 256 := HO.out.2 n (by rw [← hn]; exact List.getElem_mem hkl)
        have hgw : g < w1.heap.size := Nat.lt_of_lt_of_le hgl HE1.out.2.2
        have hrg : wr.rangeAt g (off + k * 19) n.cells := fun j u hu => by
          have hj : j < 19 := by have := (List.getElem?_eq_some_iff.1 hu).1; rwa [nd_cells_len] at this
          rw [Nat.add_assoc]
          exact (World.cell?_of_block (a := ⟨g, off + (k * 19 + j), none⟩) (hBr.block g hgw)).trans ((World.cell?_of_block (a := ⟨g, off + (k * 19 + j), none⟩) (B1.out.block g hgl)).trans (hcell (k * 19 + j) u (by rw [ncells_get l k j hkl hj, hn]; exact hu)))
        have HNO := Lib.hid (And.intro hno hnk)
        have HN := Lib.hid hn
        have HR := Lib.hid hrg
        have HF := Lib.hid (And.intro hF hBr)
        clear hno hnk hn hcell hrg hF hBr
        go_wp2_with (first
          | (refine wpList_load_mid rfl 67 (.tmp 17) rfl g (off + k * 19) rfl n.cells _ HR.out Tryz.underlying67 rfl (by kernel_rfl) ?_)
          | (refine wpList_store_row rfl 67 (.tmp 6) (.tmp 18) rfl wr.heap.size n.cells.toArray rfl rfl _ _ (heap_alloc_new wr _) (nd_info n) (by rw [nd_size]; rfl) (nd_one n) ?_)
          | (refine wpList_load_row rfl 67 (.tmp 6) rfl wr.heap.size rfl _ n.cells.toArray _ _ (setRow_heap _ _ _ _ _ _ (heap_alloc_new wr _)) Tryz.underlying67 rfl (by kernel_rfl) ?_))
        obtain ⟨W, hW⟩ : ∃ W, W = (wr.alloc (.cells #[.int .u8 0, .float .f64 0, .float .f64 0, .float .f64 0, .float .f64 0, .float .f64 0, .float .f64 0, .float .f64 0, .float .f64 0, .float .f64 0, .float .f64 0, .float .f64 0, .float .f64 0, .float .f64 0, .float .f64 0, .float .f64 0, .float .f64 0, .int .i64 0, .int .i64 0] 67)).setRow wr.heap.size n.cells.toArray := ⟨_, rfl⟩
        have hBW : Below wr.heap.size wr W := by rw [hW]; exact below_setRow ((Below.refl _ _).alloc (Nat.le_refl _) _) (Nat.le_refl _) _
        rw [← hW]
        clear hW
        obtain ⟨hF, hBr⟩ := HF.out
        obtain ⟨hE1, hG1, hz1⟩ := HE1.out
        have hWs := hBW.size
        have hEW : Env hi lo W := hE1.later (hBr.trans (hBW.mono hz))
        have hGW : Gl W.heap.size := ⟨Nat.lt_of_lt_of_le hG1.1 (by omega), Nat.lt_of_lt_of_le hG1.2.1 (by omega), Nat.lt_of_lt_of_le hG1.2.2 (by omega)⟩
        have hok := HA.out k hkl
        rw [HN.out] at hok
        have hlo : lineOk n k = true := by unfold lineOk; rw [hok, decide_eq_true (by omega), decide_eq_true (by omega)]; rfl
        have hle : lineE n k = 0 := by unfold lineE; rw [if_pos hlo]
        have hll := lineT_len (lo := lo) hE1.tabs.2.1 n HNO.out.1 k
        have CLn := line_any hi lo n HNO.out.1 HNO.out.2 k (by omega) (by omega) W hEW hGW
        rw [hle] at CLn
        refine CLn.mono ?_
        rintro e wy ⟨rfl, hBy⟩
        have hFy : BlF w1.heap.size w1.heap.size (Lib.byteCells (textP hi lo l k)) wy := hF.grown (grown_below (hBW.trans (hBy.mono hWs)) none)
        have hBry : Below w1.heap.size w1 wy := hBr.trans ((hBW.trans (hBy.mono hWs)).mono hz)
        obtain ⟨S, hS⟩ : ∃ S, S = bA (lineT hi lo n k) := ⟨_, rfl⟩
        have hSs : S.size ≤ 3000 := by rw [hS, bA_size]; exact hll
        rw [← hS]
        have hpl := textP_len (lo := lo) hE1.tabs.2.1 l HO.out.1 k hk
        have CW := Lib.hid (ws_any w1.heap.size w1.heap.size _ (S ++ ⟨#[10]⟩) wy hFy (by rw [Lib.byteCells_length, ByteArray.size_append]; show _ + (S.size + 1) ≤ _; omega) hBry.size)
        have HS := Lib.hid (And.intro hS (And.intro hFy hBry))
        clear hF hBr hE1 hG1 hz1 hWs hEW hGW hok hlo hle hll CLn hBy hFy hBry hS hpl hBW
        go_wp2_with (go_at_call 26; (with_reducible refine CW.out.mono ?_); rintro e w5 ⟨rfl, hF5, hB5⟩; have H5 := Lib.hid (And.intro hF5 hB5); clear hF5 hB5)
        go_roundw
        case rel =>
          refine ⟨k + 1, by omega, by go_num, ?_, HS.out.2.2.trans H5.out.2⟩
          have h5 := H5.out.1
          have e : textP hi lo l (k + 1) = textP hi lo l k ++ (lineT hi lo n k ++ [10]) := by
            show _ ++ (lineT hi lo (atN l k) k ++ [10]) = _
            rw [atN_eq l k hkl, HN.out]
          have e2 : Lib.strCells (S ++ ⟨#[10]⟩) = Lib.byteCells (lineT hi lo n k ++ [10]) := by
            rw [Lib.strCells_eq, str_app, HS.out.1, bA_list]
          rw [e2, ← Lib.byteCells_append, ← e] at h5
          exact h5
        case measure => simp [intOf]; omega
      · obtain rfl : k = l.length := by omega
        have CS := Lib.hid (Tryz.Builder_String_any_k w1.heap.size w1.heap.size (textP hi lo l l.length) wr hF hBr.size)
        have HB := Lib.hid hBr
        clear hF hBr
        go_wp2_with (go_at_call 27; (with_reducible refine CS.out.mono ?_); rintro e w5 ⟨rfl, hF5, hB5, _⟩; have H5 := Lib.hid hB5; clear hF5 hB5)
        go_ret2
        refine ⟨?_, B1.out.trans ((HB.out.trans H5.out).mono HE1.out.2.2)⟩
        unfold textT textE
        rw [if_pos HQ.out, if_pos HQ.out]
        rfl
end Go.Proofs.YtejmbbkklhpnaaaGreatDoor.prnw
