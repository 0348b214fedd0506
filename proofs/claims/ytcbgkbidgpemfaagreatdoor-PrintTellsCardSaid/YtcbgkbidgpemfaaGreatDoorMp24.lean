/- strings.Builder's copyCheck and WriteString. No conditions but those stated. -/
import Derived.Test.YtcbgkbidgpemfaaGreatDoorMp23
import Derived.Test.YtcbgkbidgpemfaaGreatDoorRows
import Derived.Test.YtcbgkbidgpemfaaGreatDoorMp21
import Derived.Test.YtcbgkbidgpemfaaGreatDoorMp12
import Derived.Test.YtcbgkbidgpemfaaGreatDoorMp11
import Derived.Test.YtcbgkbidgpemfaaGreatDoorMp13
import Derived.Test.YtcbgkbidgpemfaaGreatDoorMp19
import Derived.Lib.LaidU8
import Derived.LaidMore
import Derived.ChangeArms
import Derived.Shelf.Vars
import Derived.Lib.SplitLaws
namespace Go.Proofs.YtcbgkbidgpemfaaGreatDoor.prnw
open Go.RowKit
open Go.Shelf
open Go.Sort
open Go.Proofs.YtcbgkbidgpemfaaGreatDoor.nodew
open Go.Proofs.YtcbgkbidgpemfaaGreatDoor.chkw
open Go.Proofs.YtcbgkbidgpemfaaGreatDoor.flatm

theorem bldInfo : (Tryz.prog.info? 94).map (·.size) = some 2 := by kernel_rfl
theorem bldLies : liesAt Tryz.prog Tryz.prog.depth 94 (2 / Tryz.prog.cellsOf 94) 0 94 1 = true := by kernel_rfl
set_option maxRecDepth 100000 in
set_option maxHeartbeats 1000000 in
theorem copy_fresh (b : Nat) (w : World) (h0 : w.cell? ⟨b, 0, none⟩ = some (.pointer none)) (hsh : w.shape? b = some (94, 2)) (hfz : w.frozen? ⟨b, 0, none⟩ = false) :
    Calls Tryz.prog 93 #[.pointer (some ⟨b, 0, none⟩)] w fun e w' => e = .returned (.tuple #[]) ∧ w' = w.setCell ⟨b, 0, none⟩ (.pointer (some ⟨b, 0, none⟩)) := by
  obtain ⟨j, hj, hjs⟩ := Option.map_eq_some_iff.1 bldInfo
  go_enter Tryz.func93, Tryz.ntmps93
  go_wp2
  rw [Lib.run_to_unsafe w ⟨b, 0, none⟩ Tryz.underlying91 Tryz.underlying167 hj (by rw [hjs]; decide) hsh (Nat.zero_lt_succ 1)]
  simp only [Result.andThen]
  rw [Oper.upon_value]
  go_wp2
  rw [run_callFunc_extern Tryz.func126 (by kernel_rfl) (by kernel_rfl) (by kernel_rfl) (e := Extern.AbiNoEscape.same) (by kernel_rfl)]
  rw [Lib.run_noEscape]
  simp only [Result.andThen]
  rw [Oper.upon_value]
  go_wp2
  rw [Lib.run_from_unsafe w ⟨b, 0, none⟩ Tryz.underlying167 Tryz.underlying91 hj hsh bldLies]
  simp only [Result.andThen]
  rw [Oper.upon_value]
  go_wp2
  go_end0
  exact ⟨rfl, rfl⟩
set_option maxRecDepth 100000 in
set_option maxHeartbeats 1000000 in
theorem copy_used (b : Nat) (w : World) (h0 : w.cell? ⟨b, 0, none⟩ = some (.pointer (some ⟨b, 0, none⟩))) :
    Calls Tryz.prog 93 #[.pointer (some ⟨b, 0, none⟩)] w fun e w' => e = .returned (.tuple #[]) ∧ w' = w := by
  obtain ⟨j, hj, hjs⟩ := Option.map_eq_some_iff.1 bldInfo
  go_enter Tryz.func93, Tryz.ntmps93
  go_wp2
  rw [Lib.run_neq_ptr_same w _ Tryz.underlying91 hj]
  go_wp2
  go_end0
  exact ⟨rfl, rfl⟩
abbrev BlF (B b : Nat) (bs : List Value) (w : World) : Prop := Lib.IsBuilderF 94 5 B b bs w
theorem copy_any (B b : Nat) (bs : List Value) (w : World) (h : BlF B b bs w) :
    Calls Tryz.prog 93 #[.pointer (some ⟨b, 0, none⟩)] w fun e w' => e = .returned (.tuple #[]) ∧ (Lib.BuilderAtF 94 5 B b (.pointer (some ⟨b, 0, none⟩)) bs w' ∧ Below B w w') := by
  rcases h with h | h
  · refine (copy_fresh b w h.cell0 h.shape h.frozen0).mono ?_
    rintro e w' ⟨rfl, rfl⟩
    exact ⟨rfl, h.used _, (Below.refl B w).setCell (p := ⟨b, 0, none⟩) h.1 _⟩
  · refine (copy_used b w h.cell0).mono ?_
    rintro e w' ⟨rfl, rfl⟩
    exact ⟨rfl, h, Below.refl B _⟩
set_option maxRecDepth 100000 in
set_option maxHeartbeats 1000000 in
theorem ws_any (B b : Nat) (bs : List Value) (s : ByteArray) (w : World) (h : BlF B b bs w) (hlen : bs.length + s.size ≤ 140737488355328) (hBw : B ≤ w.heap.size) :
    Calls Tryz.prog 54 #[.pointer (some ⟨b, 0, none⟩), .string s] w fun e w' => e = .returned (.tuple #[.int .i64 s.size, .nilIface]) ∧ (BlF B b (bs ++ Lib.strCells s) w' ∧ Below B w w') := by
  obtain ⟨i0, hi, hz0, hz1, hz2⟩ := info_parts u8Info
  have CC := Lib.hid (copy_any B b bs w h)
  have hs9 : (s.size : Int) ≤ 140737488355328 := by omega
  clear h
  go_enter Tryz.func54, Tryz.ntmps54
  go_upto_region 2 with (go_at_call 93; (with_reducible refine CC.out.mono ?_); rintro e w1 ⟨rfl, h1, hb1⟩; have H1 := Lib.hid (And.intro h1 hb1); clear h1 hb1)
  obtain ⟨⟨hB, v, hbk, hown, hne⟩, hb1⟩ := H1.out
  have c0 : w1.cell? ⟨b, 0, none⟩ = some (.pointer (some ⟨b, 0, none⟩)) := by rw [Lib.cell_of_heap hbk]; rfl
  have c1 : w1.cell? ⟨b, 1, none⟩ = some v := by rw [Lib.cell_of_heap hbk]; rfl
  have HH := Lib.hid (And.intro hB (And.intro hbk (And.intro hown (And.intro hne hb1))))
  clear hB hbk hown hne hb1
  go_wp2_with (at_builtin; refine Lib.wpList_append_own_stringF _ rfl (.tmp 12) (.tmp 13) 92 9 rfl B 5 i0 Tryz.underlying92 Tryz.underlying9 hi hz0 hz1 hz2 _ _ _ rfl HH.out.2.2.1 s rfl ?c3 ?c4 ?c5 ?_)
  case c3 => unfold maxLen; omega
  case c4 => omega
  case c5 => have := HH.out.2.2.2.2.size; omega
  intro v' w2 hown' hgrow _
  obtain ⟨hB, hbk, hown, hne, hb1⟩ := HH.out
  have hlt : b < w1.heap.size := blk_lt hbk
  have hb2 : w2.heap[b]? = some (.cells #[.pointer (some ⟨b, 0, none⟩), v] 94 (0, 0)) := by
    rw [hgrow.block b hlt (fun e => hne e.symm)]
    exact hbk
  have d0 : w2.cell? ⟨b, 0, none⟩ = some (.pointer (some ⟨b, 0, none⟩)) := by rw [Lib.cell_of_heap hb2]; rfl
  have d1 : w2.cell? ⟨b, 1, none⟩ = some v := by rw [Lib.cell_of_heap hb2]; rfl
  have f1 : w2.frozen? ⟨b, 1, none⟩ = false := Lib.frozen_of_heap hb2 1
  obtain ⟨ao, n', cap, rfl⟩ : ∃ ao n' cap, v' = .slice ao n' cap := by
    rcases hown'.2 with ⟨hv, _⟩ | ⟨g, cap, cur, fz, hv, _⟩
    · exact ⟨_, _, _, hv⟩
    · exact ⟨_, _, _, hv⟩
  have K2 := Lib.hid (And.intro hb2 (And.intro hown' hgrow))
  clear hB hbk hown hne hb1 hb2 hown' hgrow hlt
  go_wp2_with fail
  go_ret2
  obtain ⟨hB, hbk, hown, hne, hb1⟩ := HH.out
  obtain ⟨hb2, hown', hgrow⟩ := K2.out
  refine ⟨rfl, .inr ?_, ?_⟩
  · exact Lib.BuilderAtF.put (T := 94) (e := 5) hB hb2 (bs' := bs ++ Lib.strCells s) (by simpa [Lib.strCells_length] using hown') (by decide)
  · exact (hb1.grown hgrow (by have := hb1.size; omega) (fun k hk => (hown.lt k hk).1)).setCell (p := ⟨b, 1, none⟩) hB _
end Go.Proofs.YtcbgkbidgpemfaaGreatDoor.prnw

/- print.Text. Conditions: the nodes lie in memory, at most 4096. -/
namespace Go.Proofs.YtcbgkbidgpemfaaGreatDoor.prnw
open Go.RowKit
open Go.Shelf
open Go.Sort
open Go.Proofs.YtcbgkbidgpemfaaGreatDoor.nodew
open Go.Proofs.YtcbgkbidgpemfaaGreatDoor.chkw
open Go.Proofs.YtcbgkbidgpemfaaGreatDoor.flatm
attribute [local go_sem] nodew.run_store_float

theorem BlF.grown {B b : Nat} {bs : List Value} {w w' : World} (h : BlF B b bs w) (hg : w.grownBy w' none) : BlF B b bs w' := by
  have k : ∀ p, Lib.BuilderAtF 94 5 B b p bs w → Lib.BuilderAtF 94 5 B b p bs w' := fun p h => by
    have hlt := h.lt
    obtain ⟨hB, v, hb, hown, hne⟩ := h
    exact ⟨hB, v, (hg.block b hlt (by simp)).trans hb, hown.kept hg (by cases hv : v.ownBlock <;> simp), hne⟩
  rcases h with h | h
  · exact .inl (k _ h)
  · exact .inr (k _ h)
def atN (l : List Nd) (k : Nat) : Nd := l.getD k ⟨0, [], 0, 0⟩
theorem atN_eq (l : List Nd) (k : Nat) (h : k < l.length) : atN l k = l[k] := by
  unfold atN
  rw [List.getD_eq_getElem?_getD, List.getElem?_eq_getElem h]
  rfl
/-- the text of the first k lines -/
def textP (hi lo : Nat → Nat) (l : List Nd) : Nat → List UInt8
  | 0 => []
  | k + 1 => textP hi lo l k ++ (lineT hi lo (atN l k) k ++ [10])
def textT (hi lo : Nat → Nat) (l : List Nd) : List UInt8 := if rightP l = true then textP hi lo l l.length else []
def textE (l : List Nd) : Int := if rightP l = true then 0 else 190
theorem right_at {l : List Nd} (h : rightP l = true) : l.length ≤ 4096 ∧ 0 < l.length ∧ ∀ k (hk : k < l.length), nodeOk l[k] k = true := by
  unfold rightP at h
  simp only [Bool.and_eq_true, decide_eq_true_eq] at h
  refine ⟨h.2, h.1.2, fun k hk => ?_⟩
  have := List.all_eq_true.1 h.1.1 k (List.mem_range.2 hk)
  rw [List.getElem?_eq_getElem hk] at this
  exact this
theorem nf64 {n : Nd} (hn : n.ok) (j : Nat) (h1 : 1 ≤ j) (h2 : j ≤ 16) : n.f j < 18446744073709551616 := by
  refine hn.2 _ ?_
  unfold Nd.f
  have hj : j - 1 < n.x.length := by rw [hn.1]; omega
  rw [List.getD_eq_getElem?_getD, List.getElem?_eq_getElem hj]
  exact List.getElem_mem hj
theorem lineT_len {hi lo : Nat → Nat} (hh : ∀ i, i < 696 → 9223372036854775808 ≤ hi i ∧ hi i < 18446744073709551616) (n : Nd) (hn : n.ok) (k : Int) : (lineT hi lo n k).length ≤ 3000 := by
  unfold lineT
  split
  · rename_i hok
    have h3 : nodeOk n k = true ∧ 0 ≤ k ∧ k < 4096 := by
      unfold lineOk at hok
      simp only [Bool.and_eq_true, decide_eq_true_eq] at hok
      exact ⟨hok.2, hok.1.1, hok.1.2⟩
    obtain ⟨_, ha, hb⟩ := node_facts h3.1 h3.2.2
    have hs := lineL_size (lo := lo) hh n (fun j h1 h2 => nf64 hn j h1 h2) (by omega) (by omega) k (by omega) (by omega)
    have h12 := lineL_len hi lo n k
    have hj := join_len [32] ((lineL hi lo n k).map (·.data.toList)) (fun x hx => by
      obtain ⟨s, hs', rfl⟩ := List.mem_map.1 hx
      rw [bl_len]
      exact hs s hs')
    rw [List.length_map] at hj
    have hj2 : (200 + [(32 : UInt8)].length) * (lineL hi lo n k).length ≤ 201 * 12 := Nat.mul_le_mul_left 201 h12
    omega
  · decide
theorem textP_len {hi lo : Nat → Nat} (hh : ∀ i, i < 696 → 9223372036854775808 ≤ hi i ∧ hi i < 18446744073709551616) (l : List Nd) (hl : ∀ n ∈ l, n.ok) : ∀ k, k ≤ l.length → (textP hi lo l k).length ≤ 3001 * k
  | 0, _ => Nat.zero_le _
  | k + 1, hk => by
    have h1 := textP_len (lo := lo) hh l hl k (by omega)
    have h2 := lineT_len (lo := lo) hh (atN l k) (by rw [atN_eq l k (by omega)]; exact hl _ (List.getElem_mem _)) k
    have e : textP hi lo l (k + 1) = textP hi lo l k ++ (lineT hi lo (atN l k) k ++ [10]) := rfl
    rw [e, List.length_append, List.length_append, List.length_cons, List.length_nil]
    omega
set_option maxRecDepth 100000 in
set_option maxHeartbeats 4000000 in
theorem text_any (hi lo : Nat → Nat) (B : Nat) (v : Value) (l : List Nd) (hok : ∀ n ∈ l, n.ok) (hkd : ∀ n ∈ l, n.kind < 256) (hl : l.length ≤ 1000000000000) (w : World) (hr : NRead w B v l) (hB : B ≤ w.heap.size) (hE : Env hi lo w) (hG : Gl w.heap.size) :
    Calls Tryz.prog 28 #[v] w (Bel w (.tuple #[.string (bA (textT hi lo l)), .int .i64 (textE l)])) := by
  have CR := right_any B v l hok hl w hr hB
  obtain ⟨A, c, rfl, hx⟩ := hr
  have HR := Lib.hid CR
  have HE := Lib.hid (And.intro hE (And.intro hG hB))
  have HX := Lib.hid hx
  have HO := Lib.hid (And.intro hok hkd)
  cases hq : rightP l with
  | false =>
    have HQ := Lib.hid hq
    rw [hq] at CR
    have HR2 := Lib.hid CR
    clear CR hE hG hB hok hkd hq hx
    go_enter Tryz.func28, Tryz.ntmps28
    go_wp2_with (go_at_call 36; (with_reducible refine HR2.out.mono ?_); rintro e w1 ⟨rfl, hb1⟩)
    go_ret2
    refine ⟨?_, hb1⟩
    unfold textT textE
    rw [if_neg (by rw [HQ.out]; decide), if_neg (by rw [HQ.out]; decide)]
    rfl
  | true =>
    have HQ := Lib.hid hq
    obtain ⟨hl4, hl0, hall⟩ := right_at hq
    rw [hq] at CR
    have HR2 := Lib.hid CR
    have HA := Lib.hid hall
    clear CR hE hG hB hok hkd hq hx hall hl
    go_enter Tryz.func28, Tryz.ntmps28
    go_upto_region 3 with (go_at_call 36; (with_reducible refine HR2.out.mono ?_); rintro e w1 ⟨rfl, hb1⟩; have B1 := Lib.hid hb1; clear hb1)
    go_wp2_with fail
    obtain ⟨hE, hG, hB⟩ := HE.out
    have b1 := B1.out
    have hz1 := b1.size
    have hE1 : Env hi lo w1 := hE.later b1
    have hG1 : Gl w1.heap.size := ⟨Nat.lt_of_lt_of_le hG.1 hz1, Nat.lt_of_lt_of_le hG.2.1 hz1, Nat.lt_of_lt_of_le hG.2.2 hz1⟩
    have HE1 := Lib.hid (And.intro hE1 (And.intro hG1 hz1))
    obtain ⟨wb, hwb⟩ : ∃ wb, wb = w1.alloc (.cells #[.pointer none, .slice none 0 0] 94) := ⟨_, rfl⟩
    have hbf : BlF w1.heap.size w1.heap.size (Lib.byteCells (textP hi lo l 0)) wb := by
      rw [hwb]
      exact .inl ⟨Nat.le_refl _, .slice none 0 0, heap_alloc_new w1 _, World.ownsRowF_nil _ _ _ _, by simp [Value.ownBlock]⟩
    have hbb : Below w1.heap.size w1 wb := by rw [hwb]; exact (Below.refl _ _).alloc (Nat.le_refl _) _
    rw [← hwb]
    have HBF := Lib.hid (And.intro hbf hbb)
    clear hwb hbf hbb hE hG hB b1 hz1 hE1 hG1
    go_loopw [14] (fun i wr => ∃ k : Nat, k ≤ l.length ∧ i = .int .i64 k ∧ BlF w1.heap.size w1.heap.size (Lib.byteCells (textP hi lo l k)) wr ∧ Below w1.heap.size w1 wr) (fun i _ => l.length - (intOf i).toNat)
    case atStart => exact ⟨0, Nat.zero_le _, rfl, HBF.out.1, HBF.out.2⟩
    case round =>
      obtain ⟨k, hk, rfl, hF, hBr⟩ := hrel
      have hz := hBr.size
      by_cases hkl : k < l.length
      · obtain ⟨g, off, rfl, hgB, hgl, hcell⟩ := HX.out (by intro e; subst e; simp at hkl)
        obtain ⟨n, hn⟩ : ∃ n, l[k] = n := ⟨_, rfl⟩
        have hno : n.ok := HO.out.1 n (by rw [← hn]; exact List.getElem_mem hkl)
        have hnk : n.kind < 256 := HO.out.2 n (by rw [← hn]; exact List.getElem_mem hkl)
        have hgw : g < w1.heap.size := Nat.lt_of_lt_of_le hgl HE1.out.2.2
        have hrg : wr.rangeAt g (off + k * 19) n.cells := fun j u hu => by
          have hj : j < 19 := by have := (List.getElem?_eq_some_iff.1 hu).1; rwa [nd_cells_len] at this
          rw [Nat.add_assoc]
          exact (World.cell?_of_block (a := ⟨g, off + (k * 19 + j), none⟩) (hBr.block g hgw)).trans ((World.cell?_of_block (a := ⟨g, off + (k * 19 + j), none⟩) (B1.out.block g hgl)).trans (hcell (k * 19 + j) u (by rw [ncells_get l k j hkl hj, hn]; exact hu)))
        have HNO := Lib.hid (And.intro hno hnk)
        have HN := Lib.hid hn
        have HR := Lib.hid hrg
        have HF := Lib.hid (And.intro hF hBr)
        clear hno hnk hn hcell hrg hF hBr
        go_wp2_with (first
          | (refine wpList_load_mid rfl 49 (.tmp 17) rfl g (off + k * 19) rfl n.cells _ HR.out Tryz.underlying49 rfl (by kernel_rfl) ?_)
          | (refine wpList_store_row rfl 49 (.tmp 6) (.tmp 18) rfl wr.heap.size n.cells.toArray rfl rfl _ _ (heap_alloc_new wr _) (nd_info n) (by rw [nd_size]; rfl) (nd_one n) ?_)
          | (refine wpList_load_row rfl 49 (.tmp 6) rfl wr.heap.size rfl _ n.cells.toArray _ _ (setRow_heap _ _ _ _ _ _ (heap_alloc_new wr _)) Tryz.underlying49 rfl (by kernel_rfl) ?_))
        obtain ⟨W, hW⟩ : ∃ W, W = (wr.alloc (.cells #[.int .u8 0, .float .f64 0, .float .f64 0, .float .f64 0, .float .f64 0, .float .f64 0, .float .f64 0, .float .f64 0, .float .f64 0, .float .f64 0, .float .f64 0, .float .f64 0, .float .f64 0, .float .f64 0, .float .f64 0, .float .f64 0, .float .f64 0, .int .i64 0, .int .i64 0] 49)).setRow wr.heap.size n.cells.toArray := ⟨_, rfl⟩
        have hBW : Below wr.heap.size wr W := by rw [hW]; exact below_setRow ((Below.refl _ _).alloc (Nat.le_refl _) _) (Nat.le_refl _) _
        rw [← hW]
        clear hW
        obtain ⟨hF, hBr⟩ := HF.out
        obtain ⟨hE1, hG1, hz1⟩ := HE1.out
        have hWs := hBW.size
        have hEW : Env hi lo W := hE1.later (hBr.trans (hBW.mono hz))
        have hGW : Gl W.heap.size := ⟨Nat.lt_of_lt_of_le hG1.1 (by omega), Nat.lt_of_lt_of_le hG1.2.1 (by omega), Nat.lt_of_lt_of_le hG1.2.2 (by omega)⟩
        have hok := HA.out k hkl
        rw [HN.out] at hok
        have hlo : lineOk n k = true := by unfold lineOk; rw [hok, decide_eq_true (by omega), decide_eq_true (by omega)]; rfl
        have hle : lineE n k = 0 := by unfold lineE; rw [if_pos hlo]
        have hll := lineT_len (lo := lo) hE1.tabs.2.1 n HNO.out.1 k
        have CLn := line_any hi lo n HNO.out.1 HNO.out.2 k (by omega) (by omega) W hEW hGW
        rw [hle] at CLn
        refine CLn.mono ?_
        rintro e wy ⟨rfl, hBy⟩
        have hFy : BlF w1.heap.size w1.heap.size (Lib.byteCells (textP hi lo l k)) wy := hF.grown (grown_below (hBW.trans (hBy.mono hWs)) none)
        have hBry : Below w1.heap.size w1 wy := hBr.trans ((hBW.trans (hBy.mono hWs)).mono hz)
        obtain ⟨S, hS⟩ : ∃ S, S = bA (lineT hi lo n k) := ⟨_, rfl⟩
        have hSs : S.size ≤ 3000 := by rw [hS, bA_size]; exact hll
        rw [← hS]
        have hpl := textP_len (lo := lo) hE1.tabs.2.1 l HO.out.1 k hk
        have CW := Lib.hid (ws_any w1.heap.size w1.heap.size _ (S ++ ⟨#[10]⟩) wy hFy (by rw [Lib.byteCells_length, ByteArray.size_append]; show _ + (S.size + 1) ≤ _; omega) hBry.size)
        have HS := Lib.hid (And.intro hS (And.intro hFy hBry))
        clear hF hBr hE1 hG1 hz1 hWs hEW hGW hok hlo hle hll CLn hBy hFy hBry hS hpl hBW
        go_wp2_with (go_at_call 54; (with_reducible refine CW.out.mono ?_); rintro e w5 ⟨rfl, hF5, hB5⟩; have H5 := Lib.hid (And.intro hF5 hB5); clear hF5 hB5)
        go_roundw
        case rel =>
          refine ⟨k + 1, by omega, by go_num, ?_, HS.out.2.2.trans H5.out.2⟩
          have h5 := H5.out.1
          have e : textP hi lo l (k + 1) = textP hi lo l k ++ (lineT hi lo n k ++ [10]) := by
            show _ ++ (lineT hi lo (atN l k) k ++ [10]) = _
            rw [atN_eq l k hkl, HN.out]
          have e2 : Lib.strCells (S ++ ⟨#[10]⟩) = Lib.byteCells (lineT hi lo n k ++ [10]) := by
            rw [Lib.strCells_eq, str_app, HS.out.1, bA_list]
          rw [e2, ← Lib.byteCells_append, ← e] at h5
          exact h5
        case measure => simp [intOf]; omega
      · obtain rfl : k = l.length := by omega
        have CS := Lib.hid (Tryz.Builder_String_any_k w1.heap.size w1.heap.size (textP hi lo l l.length) wr hF hBr.size)
        have HB := Lib.hid hBr
        clear hF hBr
        go_wp2_with (go_at_call 55; (with_reducible refine CS.out.mono ?_); rintro e w5 ⟨rfl, hF5, hB5, _⟩; have H5 := Lib.hid hB5; clear hF5 hB5)
        go_ret2
        refine ⟨?_, B1.out.trans ((HB.out.trans H5.out).mono HE1.out.2.2)⟩
        unfold textT textE
        rw [if_pos HQ.out, if_pos HQ.out]
        rfl
end Go.Proofs.YtcbgkbidgpemfaaGreatDoor.prnw

/- What the library's tables hold, out of the row's condition. No condition. -/
namespace Go.Proofs.YtcbgkbidgpemfaaGreatDoor.prnw
open Go.RowKit
open Go.Shelf
open Go.Proofs.YtcbgkbidgpemfaaGreatDoor.nodew

/-- the table of powers of ten -/
def hiP (i : Nat) : Nat := (Go.Pinned.pow10Rows.getD i (0, 0)).1
def loP (i : Nat) : Nat := (Go.Pinned.pow10Rows.getD i (0, 0)).2
theorem tabP : (List.range 696).all (fun i => decide (9223372036854775808 ≤ hiP i) && decide (hiP i < 18446744073709551616) && decide (loP i < 18446744073709551616)) = true := by kernel_rfl
theorem tabP_bd (i : Nat) (h : i < 696) : 9223372036854775808 ≤ hiP i ∧ hiP i < 18446744073709551616 ∧ loP i < 18446744073709551616 := by
  have := List.all_eq_true.1 tabP i (List.mem_range.2 h)
  simp only [Bool.and_eq_true, decide_eq_true_eq] at this
  exact ⟨this.1.1, this.1.2, this.2⟩
theorem rowsP_len : Go.Pinned.pow10Rows.length = 696 := by kernel_rfl
theorem u64tab : Rows.laid_internal_strconv_uint64pow10 (H := Unit) = Lib.tabData .u64 Lib.pow10Tab := by kernel_rfl
set_option maxRecDepth 100000 in
theorem env_of (L : List (String × DataW Unit)) (W : World) (h : laidMet Tryz.prog L W) (m1 : ("internal/strconv.uint64pow10", Rows.laid_internal_strconv_uint64pow10) ∈ L) (m2 : ("internal/strconv.pow10Tab", Rows.laid_internal_strconv_pow10Tab) ∈ L) (hsh : W.ShapedOpen Tryz.prog) : Env hiP loP W ∧ Gl W.heap.size := by
  obtain ⟨g1, t1, cs1, f1, p1, hg1, ht1, hv1, hd1⟩ := Lib.laidMet.reads h m1
  obtain ⟨g2, t2, cs2, f2, p2, hg2, ht2, hv2, hd2⟩ := Lib.laidMet.reads h m2
  obtain rfl := Option.some.inj ((show Tryz.prog.globalNamed "internal/strconv.uint64pow10" = some 7 by kernel_rfl).symm.trans hg1)
  obtain rfl := Option.some.inj ((show Tryz.prog.globalNamed "internal/strconv.pow10Tab" = some 8 by kernel_rfl).symm.trans hg2)
  obtain rfl := Option.some.inj ((show (Tryz.prog.globals[7]?).map (·.type) = some 250 by kernel_rfl).symm.trans ht1)
  obtain rfl := Option.some.inj ((show (Tryz.prog.globals[8]?).map (·.type) = some 278 by kernel_rfl).symm.trans ht2)
  have k1 : Lib.TabIs Tryz.prog W "internal/strconv.uint64pow10" .u64 Lib.pow10Tab := by
    rw [u64tab] at hd1
    unfold Lib.TabIs
    rw [hv1, ← Lib.cells_of_tab Tryz.underlying250 Tryz.underlying109 (by kernel_rfl) (by kernel_rfl) hd1]
  have k2 : ∀ i, i < 696 → W.cell? ⟨8, i * 2, none⟩ = some (.int .u64 (hiP i : Nat)) ∧ W.cell? ⟨8, i * 2 + 1, none⟩ = some (.int .u64 (loP i : Nat)) := fun i hi => by
    obtain ⟨f', d, q, hd, he⟩ := Lib.array_elem Tryz.underlying278 hd2 i hi
    have hr : Go.Pinned.pow10Rows[i]? = some (hiP i, loP i) := by
      have : i < Go.Pinned.pow10Rows.length := by rw [rowsP_len]; exact hi
      unfold hiP loP
      rw [List.getD_eq_getElem?_getD, List.getElem?_eq_getElem this]
      rfl
    rw [List.getElem?_map, hr] at hd
    obtain rfl := (Option.some.inj hd).symm
    have hz := Lib.ints_of_struct (zs := [(hiP i : Int), (loP i : Int)]) (k := .u64) Tryz.underlying277 (fun j f hf => ?_) (by kernel_rfl) he
    · have hc2 : Tryz.prog.cellsOf 277 = 2 := by kernel_rfl
      rw [hc2] at hz
      have c0 : cs2[i * 2]? = some (.int .u64 (hiP i : Int)) := by
        have := congrArg (·[0]?) hz
        simpa [List.getElem?_take, List.getElem?_drop] using this
      have c1 : cs2[i * 2 + 1]? = some (.int .u64 (loP i : Int)) := by
        have := congrArg (·[1]?) hz
        simpa [List.getElem?_take, List.getElem?_drop] using this
      exact ⟨by rw [World.var?_cell hg2 hv2 (i * 2)]; exact c0, by rw [World.var?_cell hg2 hv2 (i * 2 + 1)]; exact c1⟩
    · match j, hf with
      | 0, hf => obtain rfl := Option.some.inj hf; exact ⟨Tryz.underlying109, rfl, by kernel_rfl⟩
      | 1, hf => obtain rfl := Option.some.inj hf; exact ⟨Tryz.underlying109, rfl, by kernel_rfl⟩
      | k + 2, hf => cases hf
  have k3 : ∃ m : Int, W.cell? ⟨1, 0, none⟩ = some (.int .i64 m) :=
    cell_of_shapedOpen_int (t := 3) (zero := #[.int .i64 0]) hsh (of_decide_eq_true (by kernel_rfl)) (by kernel_rfl) rfl (by kernel_rfl) (by kernel_rfl) Tryz.underlying3
  have n1 := World.block_lt_of_cell? W _ (k2 0 (by decide)).1
  have n2 : 7 < W.heap.size := World.block_lt_of_cell? W _ (k1.cell hg1 0 (by decide))
  obtain ⟨m, hm⟩ := k3
  have n3 := World.block_lt_of_cell? W _ hm
  exact ⟨⟨⟨fun i hi => ⟨(tabP_bd i hi).2.1, (tabP_bd i hi).2.2, (k2 i hi).1, (k2 i hi).2⟩, fun i hi => ⟨(tabP_bd i hi).1, (tabP_bd i hi).2.1⟩, k1⟩, ⟨m, hm⟩, n1, n2, n3⟩, n1, n2, n3⟩
end Go.Proofs.YtcbgkbidgpemfaaGreatDoor.prnw

/- Two positive floats' digits are of two values. Plain. -/
namespace Go.Proofs.YtcbgkbidgpemfaaGreatDoor.fpm
open Go Go.RowKit Go.Proofs.YtcbgkbidgpemfaaGreatDoor.prnw

end Go.Proofs.YtcbgkbidgpemfaaGreatDoor.fpm

/- Plain laws ahead of PrintLines: lines of a text, words of a line. No conditions but those stated. -/
namespace Go.Proofs.YtcbgkbidgpemfaaGreatDoor.prnw
open Go.RowKit
open Go.Shelf
open Go.Proofs.YtcbgkbidgpemfaaGreatDoor.nodew

/-- bytes that are no blank, and no end of a line -/
def Ink (l : List UInt8) : Prop := ∀ b ∈ l, 33 ≤ b.toNat
theorem Ink.cons {b : UInt8} {r : List UInt8} (h : 33 ≤ b.toNat) (k : Ink r) : Ink (b :: r) := fun x hx => by
  rcases List.mem_cons.1 hx with rfl | hx
  · exact h
  · exact k x hx
end Go.Proofs.YtcbgkbidgpemfaaGreatDoor.prnw

/- The value of a number's text. Plain. -/
namespace Go.Proofs.YtcbgkbidgpemfaaGreatDoor.fpm
open Go Go.RowKit Go.Proofs.YtcbgkbidgpemfaaGreatDoor.prnw

/-- digits, as a number -/
def decA (v : Nat) : List UInt8 → Nat
  | [] => v
  | b :: r => decA (10 * v + (b.toNat - 48)) r
def decV (l : List UInt8) : Nat := decA 0 l
theorem decA_app (r : List UInt8) : ∀ (l : List UInt8) (v : Nat), decA v (l ++ r) = decA (decA v l) r
  | [], _ => rfl
  | _ :: l, _ => decA_app r l _
theorem dg_val (u j : Nat) : (Lib.dg u j).toNat - 48 = u / 10 ^ j % 10 := by
  unfold Lib.dg
  rw [UInt8.toNat_ofNat']
  omega
theorem dec_front (u N : Nat) (h : u < 10 ^ N) : ∀ n, n ≤ N → decV ((List.range n).map fun t => Lib.dg u (N - 1 - t)) = u / 10 ^ (N - n)
  | 0, _ => by
    rw [Nat.sub_zero, Nat.div_eq_of_lt h]
    rfl
  | n + 1, hn => by
    have ih := dec_front u N h n (by omega)
    unfold decV at ih ⊢
    rw [List.range_succ, List.map_append, decA_app, ih]
    show 10 * (u / 10 ^ (N - n)) + ((Lib.dg u (N - 1 - n)).toNat - 48) = _
    rw [dg_val, show N - 1 - n = N - (n + 1) by omega, show N - n = N - (n + 1) + 1 by omega, Nat.pow_succ, ← Nat.div_div_eq_div_mul]
    omega
theorem trim_val (u : Nat) : ∀ n, n ≤ Lib.nDigits u → u / 10 ^ (Lib.nDigits u - n) = u / 10 ^ (Lib.nDigits u - trimTo u n) * 10 ^ (n - trimTo u n)
  | 0, _ => by
    show _ = u / 10 ^ (Lib.nDigits u - 0) * 10 ^ 0
    rw [Nat.pow_zero, Nat.mul_one]
  | n + 1, hn => by
    have ih := trim_val u n (by omega)
    have hle := trim_le u n
    by_cases hc : Lib.dg u (Lib.nDigits u - 1 - n) = 48
    · have e : trimTo u (n + 1) = trimTo u n := if_pos hc
      rw [e]
      have hz := dg_val u (Lib.nDigits u - 1 - n)
      rw [hc] at hz
      change 0 = _ at hz
      rw [show n + 1 - trimTo u n = (n - trimTo u n) + 1 by omega, Nat.pow_succ, ← Nat.mul_assoc, ← ih, show Lib.nDigits u - n = Lib.nDigits u - (n + 1) + 1 by omega, Nat.pow_succ, ← Nat.div_div_eq_div_mul]
      rw [show Lib.nDigits u - 1 - n = Lib.nDigits u - (n + 1) by omega] at hz
      omega
    · have e : trimTo u (n + 1) = n + 1 := if_neg hc
      rw [e, Nat.sub_self, Nat.pow_zero, Nat.mul_one]
/-- the digits that count, and how many do not -/
theorem dec_sd (u : Nat) (h : 1 ≤ u) : u = decV (sdH u :: sdL u) * 10 ^ (Lib.nDigits u - (sdH u :: sdL u).length) ∧ (sdH u :: sdL u).length ≤ Lib.nDigits u := by
  have hl := sdL_len u h
  have ht := trim_le u (Lib.nDigits u)
  have hv := trim_val u (Lib.nDigits u) (Nat.le_refl _)
  rw [Nat.sub_self, Nat.pow_zero, Nat.div_one] at hv
  have e : sdH u :: sdL u = (List.range (trimTo u (Lib.nDigits u))).map fun t => Lib.dg u (Lib.nDigits u - 1 - t) := by
    obtain ⟨T, hT⟩ : ∃ T, trimTo u (Lib.nDigits u) = T + 1 := ⟨(sdL u).length, hl.symm⟩
    rw [hT, List.range_succ_eq_map, List.map_cons, List.map_map]
    unfold sdH sdL
    rw [hT]
    rfl
  have hd := dec_front u (Lib.nDigits u) (Lib.lt_pow_nDigits u) (trimTo u (Lib.nDigits u)) ht
  rw [List.length_cons, hl]
  refine ⟨?_, ht⟩
  rw [e, hd]
  exact hv
theorem hh_T : ∀ i, i < 696 → 9223372036854775808 ≤ hiP i ∧ hiP i < 18446744073709551616 := fun i h => by
  obtain ⟨r1, r2, _⟩ := row_spec i (by omega)
  exact ⟨r1, r2⟩
end Go.Proofs.YtcbgkbidgpemfaaGreatDoor.fpm

/- Reading what was printed: it is the number; with its last digit cut it is another one. Plain. -/
namespace Go.Proofs.YtcbgkbidgpemfaaGreatDoor.rdf
open Go.RowKit
open Go.Proofs.YtcbgkbidgpemfaaGreatDoor.dmx
open Go.Proofs.YtcbgkbidgpemfaaGreatDoor.fpm
open Go.Proofs.YtcbgkbidgpemfaaGreatDoor.prnw
open Go.Proofs.YtcbgkbidgpemfaaGreatDoor.flatm
open Go.Proofs.YtcbgkbidgpemfaaGreatDoor.nodew

theorem decA_fold : ∀ (l : List UInt8) (v : Nat), decA v l = l.foldl (fun N c => N * 10 + (c.toNat - 48)) v
  | [], _ => rfl
  | b :: r, v => by
    show decA (10 * v + (b.toNat - 48)) r = r.foldl (fun N c => N * 10 + (c.toNat - 48)) (v * 10 + (b.toNat - 48))
    rw [decA_fold r, Nat.mul_comm 10]
theorem dec_dval (l : List UInt8) : decV l = dval l := decA_fold l 0
theorem digL_sd (u : Nat) : DigL (sdH u :: sdL u) := fun b hb => (isD_iff b).2 (sd_dg u b hb)
theorem trim_last (u : Nat) : ∀ n, 0 < trimTo u n → Lib.dg u (Lib.nDigits u - trimTo u n) ≠ 48
  | 0, h => absurd h (Nat.lt_irrefl _)
  | n + 1, h => by
    by_cases hc : Lib.dg u (Lib.nDigits u - 1 - n) = 48
    · have e : trimTo u (n + 1) = trimTo u n := if_pos hc
      rw [e] at h ⊢
      exact trim_last u n h
    · have e : trimTo u (n + 1) = n + 1 := if_neg hc
      rw [e, show Lib.nDigits u - (n + 1) = Lib.nDigits u - 1 - n by omega]
      exact hc
theorem sd_list (u : Nat) (h : 1 ≤ u) : sdH u :: sdL u = (List.range (trimTo u (Lib.nDigits u))).map fun t => Lib.dg u (Lib.nDigits u - 1 - t) := by
  have hl := sdL_len u h
  obtain ⟨T, hT⟩ : ∃ T, trimTo u (Lib.nDigits u) = T + 1 := ⟨(sdL u).length, hl.symm⟩
  rw [hT, List.range_succ_eq_map, List.map_cons, List.map_map]
  unfold sdH sdL
  rw [hT]
  rfl
theorem sd_last (u : Nat) (h : 1 ≤ u) : ∃ (D' : List UInt8) (z : UInt8), sdH u :: sdL u = D' ++ [z] ∧ z ≠ 48 := by
  have hl := sdL_len u h
  obtain ⟨T, hT⟩ : ∃ T, trimTo u (Lib.nDigits u) = T + 1 := ⟨(sdL u).length, hl.symm⟩
  refine ⟨(List.range T).map (fun t => Lib.dg u (Lib.nDigits u - 1 - t)), Lib.dg u (Lib.nDigits u - 1 - T), ?_, ?_⟩
  · rw [sd_list u h, hT, List.range_succ, List.map_append]
    rfl
  · have := trim_last u (Lib.nDigits u) (by omega)
    rw [hT] at this
    rw [show Lib.nDigits u - 1 - T = Lib.nDigits u - (T + 1) by omega]
    exact this
theorem nd_low (u : Nat) (h : 1 ≤ u) : 10 ^ (Lib.nDigits u - 1) ≤ u := by
  induction u using Nat.strongRecOn with
  | _ u ih =>
    by_cases h9 : u < 10
    · rw [Lib.nDigits_small h9]
      exact h
    · have := ih (u / 10) (by omega) (by omega)
      have hp := Lib.nDigits_pos (u / 10)
      rw [Lib.nDigits_big h9, show Lib.nDigits (u / 10) + 1 - 1 = (Lib.nDigits (u / 10) - 1) + 1 by omega, Nat.pow_succ]
      omega
end Go.Proofs.YtcbgkbidgpemfaaGreatDoor.rdf

/- burnishref16: Shortest's tries, in order, find the digits that are printed. Plain; no condition but those stated. -/
namespace Go.Proofs.YtcbgkbidgpemfaaGreatDoor.rh
open Go.RowKit
open Go.Proofs.YtcbgkbidgpemfaaGreatDoor.rg
open Go.Proofs.YtcbgkbidgpemfaaGreatDoor.rdf
open Go.Proofs.YtcbgkbidgpemfaaGreatDoor.fpm
open Go.Proofs.YtcbgkbidgpemfaaGreatDoor.prnw
open Go.Proofs.YtcbgkbidgpemfaaGreatDoor.dmx

theorem tp (k : Nat) : 0 < 10 ^ k := Nat.pow_pos (by decide)
/-- a times ten to p is not above X -/
def leX (X a : Nat) (p : Int) : Prop := a * 10 ^ p.toNat * 2 ^ unB ≤ qv X * 10 ^ (-p).toNat
theorem leX_shift (X a t : Nat) (p : Int) : leX X (a * 10 ^ t) p ↔ leX X a (p + t) := by
  obtain ⟨c, h1, h2⟩ : ∃ c : Nat, (-p).toNat = (-(p + t)).toNat + c ∧ t + p.toNat = (p + t).toNat + c := ⟨(-p).toNat - (-(p + t)).toNat, by omega, by omega⟩
  unfold leX
  have e1 : a * 10 ^ t * 10 ^ p.toNat = a * 10 ^ (p + t).toNat * 10 ^ c := by
    rw [Nat.mul_assoc a, ← Nat.pow_add, h2, Nat.pow_add, Nat.mul_assoc a]
  rw [h1, Nat.pow_add, e1, Nat.mul_right_comm _ (10 ^ c), ← Nat.mul_assoc (qv X)]
  exact ⟨fun h => Nat.le_of_mul_le_mul_right h (tp c), fun h => Nat.mul_le_mul_right _ h⟩
theorem leX_mono {X a b : Nat} {p : Int} (h : a ≤ b) (hb : leX X b p) : leX X a p :=
  Nat.le_trans (Nat.mul_le_mul_right _ (Nat.mul_le_mul_right _ h)) hb
theorem leX_down {X a : Nat} {p q : Int} (h : q ≤ p) (hb : leX X a p) : leX X a q := by
  obtain ⟨t, ht⟩ : ∃ t : Nat, p = q + t := ⟨(p - q).toNat, by omega⟩
  rw [ht] at hb
  refine leX_mono ?_ ((leX_shift X a t q).2 hb)
  exact Nat.le_mul_of_pos_right _ (tp t)
theorem leX_plain (X a : Nat) (p : Int) :
    (a * 10 ^ p.toNat * 2 ^ (-(ftE X - 52)).toNat < ftM X * 10 ^ (-p).toNat * 2 ^ (ftE X - 52).toNat ↔ a * 10 ^ p.toNat * 2 ^ unB < qv X * 10 ^ (-p).toNat) ∧
    (a * 10 ^ p.toNat * 2 ^ (-(ftE X - 52)).toNat = ftM X * 10 ^ (-p).toNat * 2 ^ (ftE X - 52).toNat ↔ a * 10 ^ p.toNat * 2 ^ unB = qv X * 10 ^ (-p).toNat) := by
  have hE : -1074 ≤ ftE X - 52 := by unfold ftE; split <;> omega
  have h := against_eq (a * 10 ^ p.toNat) (10 ^ (-p).toNat) (ftM X) (ftE X - 52) (by omega)
  rw [at_qv] at h
  exact h
theorem leX_iff (X a : Nat) (p : Int) : leX X a p ↔ a * 10 ^ p.toNat * 2 ^ (-(ftE X - 52)).toNat ≤ ftM X * 10 ^ (-p).toNat * 2 ^ (ftE X - 52).toNat := by
  obtain ⟨h1, h2⟩ := leX_plain X a p
  unfold leX
  rw [Nat.le_iff_lt_or_eq, Nat.le_iff_lt_or_eq, h1, h2]
theorem gt_leX (X : Nat) (k : Int) : gtX X k ↔ ¬ leX X 1 k := by
  rw [leX_iff]
  unfold gtX
  omega
theorem fl_spec {X : Nat} {p : Int} (h : ¬ leX X 1000000000000000000 p) : leX X (flX X p) p ∧ ¬ leX X (flX X p + 1) p := by
  rw [leX_iff] at h
  rw [leX_iff, leX_iff]
  unfold flX flN
  obtain ⟨x, hx⟩ : ∃ x, ftM X * 10 ^ (-p).toNat * 2 ^ (ftE X - 52).toNat = x := ⟨_, rfl⟩
  obtain ⟨y, hy⟩ : ∃ y, 10 ^ p.toNat * 2 ^ (-(ftE X - 52)).toNat = y := ⟨_, rfl⟩
  have hy0 : 0 < y := by rw [← hy]; exact Nat.mul_pos (tp _) (Nat.two_pow_pos _)
  rw [hx, Nat.mul_assoc, hy] at h
  rw [hx, Nat.mul_assoc, Nat.mul_assoc, hy]
  have hq : x / y < 1000000000000000000 := (Nat.div_lt_iff_lt_mul hy0).2 (by omega)
  rw [Nat.min_eq_left (by omega)]
  refine ⟨Nat.div_mul_le_self x y, ?_⟩
  have := Nat.lt_div_mul_add (a := x) hy0
  rw [Nat.add_mul, Nat.one_mul]
  omega
theorem over_spec (X a : Nat) (p : Int) : overB X a p = true ↔ ((2 * a + 1) * 10 ^ p.toNat * 2 ^ unB < 2 * qv X * 10 ^ (-p).toNat ∨ ((2 * a + 1) * 10 ^ p.toNat * 2 ^ unB = 2 * qv X * 10 ^ (-p).toNat ∧ a % 2 = 1)) := by
  have hE : -1074 ≤ ftE X - 52 := by unfold ftE; split <;> omega
  have h := against_eq ((2 * a + 1) * 10 ^ p.toNat) (10 ^ (-p).toNat) (2 * ftM X) (ftE X - 52) (by omega)
  have aq : 2 * ftM X * 2 ^ (ftE X - 52 + 1076).toNat * 10 ^ (-p).toNat = 2 * qv X * 10 ^ (-p).toNat := by
    rw [Nat.mul_assoc 2 (ftM X), Nat.mul_assoc 2 _ (10 ^ (-p).toNat), at_qv, ← Nat.mul_assoc]
  rw [aq] at h
  unfold overB
  rw [Bool.or_eq_true, Bool.and_eq_true, decide_eq_true_eq, decide_eq_true_eq, decide_eq_true_eq, h.1, h.2]
theorem nx_self (X : Nat) : nearX (qv X) (2 ^ unB) = X := by
  have hB := Nat.two_pow_pos unB
  have h := near_low (X := X) (A := qv X) (B := 2 ^ unB)
  generalize 2 ^ unB = Z at *
  exact h hB (Nat.le_refl _) (.inl ((Nat.mul_lt_mul_right hB).2 (qv_endU X)))
theorem nx_le {X a : Nat} {p : Int} (h : leX X a p) : nx a p ≤ X := by
  have := near_le (tp (-p).toNat) (Nat.two_pow_pos unB) h
  rw [nx_self] at this
  exact this
theorem nx_ge {X a : Nat} {p : Int} (h : ¬ leX X a p) : X ≤ nx a p := by
  have := near_le (Nat.two_pow_pos unB) (tp (-p).toNat) (Nat.le_of_lt (Nat.lt_of_not_le h))
  rw [nx_self] at this
  exact this
theorem hit_iff {X : Nat} (hX : X < 9218868437227405312) (a : Nat) (p : Int) : hitB X a p = true ↔ nx a p = X := by
  have hi : infX = 9218868437227405312 := rfl
  unfold hitB nearR
  by_cases h : infX ≤ nx a p
  · rw [if_pos h]
    refine ⟨fun h => by simp at h, fun h2 => by omega⟩
  · rw [if_neg h]
    simp
theorem hit_fl {X j : Nat} {p : Int} (h : ¬ leX X 1000000000000000000 p) (hj : nx j p = X) : nx (flX X p) p = X ∨ nx (flX X p + 1) p = X := by
  obtain ⟨f1, f2⟩ := fl_spec h
  by_cases hl : j ≤ flX X p
  · left
    have h1 := nx_mono hl p
    have h2 := nx_le f1
    omega
  · right
    have h1 := nx_mono (show flX X p + 1 ≤ j by omega) p
    have h2 := nx_ge f2
    omega
/-- what the program's digits are -/
theorem ft_more (X : Nat) (hX0 : 0 < X) (hX : X < 9218868437227405312) : ∃ (k : Nat) (p : Int), nx k p = X ∧ k < 100000000000000000 ∧
    (ftR hiP loP X = ((k : Int), p) ∨ ∃ k' : Nat, k = k' * 10 ∧ ftR hiP loP X = ((k' : Int), p + 1)) ∧ (∀ j : Nat, nx (10 * j) p = X → ftR hiP loP X = ((j : Int), p + 1)) ∧
    leX X 1 p ∧ (10 ≤ X → leX X 1 (p + 1)) ∧
    (k % 10 = 0 ∨ (∀ j : Nat, nx j p = X → j = k) ∨
      ((2 * k - 1) * 10 ^ p.toNat * 2 ^ unB ≤ 2 * qv X * 10 ^ (-p).toNat ∧ 2 * qv X * 10 ^ (-p).toNat ≤ (2 * k + 1) * 10 ^ p.toNat * 2 ^ unB ∧
        ((2 * k - 1) * 10 ^ p.toNat * 2 ^ unB = 2 * qv X * 10 ^ (-p).toNat ∨ 2 * qv X * 10 ^ (-p).toNat = (2 * k + 1) * 10 ^ p.toNat * 2 ^ unB → k % 2 = 0))) := by
  obtain ⟨r1, r2, r3, r4, r5⟩ := ft_range X hX0 hX
  obtain ⟨S, hS⟩ : ∃ S, S = 64 - Lib.bitLen (ftM X) := ⟨_, rfl⟩
  obtain ⟨k, P, p1, p2, p3, i1, i2, i3, i4, i5, i6, i7⟩ := sf_more (ftM X) S (ftE X - 52) r1 r2 r3 r4 r5 hS
  have hR : ftR hiP loP X = sfR hiT loT ((ftM X * 2 ^ S : Nat) : Int) (ftE X - 52 - S) := by
    unfold ftR
    rw [← hS, show ftE X - (S : Int) - 52 = ftE X - 52 - S by omega]
    rfl
  rw [← hR] at p3 i5
  rw [ftM_odd] at i3 i5 i7
  have hx : ∀ K, nx K (-P) = nearX (K * 10 ^ (-P).toNat) (10 ^ P.toNat) := fun K => by
    unfold nx
    rw [Int.neg_neg]
  have hu : unB = fpm.upB := rfl
  have sw : ∀ K, K * 10 ^ (-P).toNat * 2 ^ unB = K * 2 ^ fpm.upB * 10 ^ (-P).toNat := fun K => by
    rw [hu]
    exact Nat.mul_right_comm _ _ _
  have hp10 : 0 < 10 ^ P.toNat := Nat.pow_pos (by decide)
  have ein : ∀ j, nx j (-P) = X → endL X * 10 ^ P.toNat ≤ j * 2 ^ fpm.upB * 10 ^ (-P).toNat ∧ j * 2 ^ fpm.upB * 10 ^ (-P).toNat ≤ endU X * 10 ^ P.toNat ∧
      (X % 2 = 1 → endL X * 10 ^ P.toNat < j * 2 ^ fpm.upB * 10 ^ (-P).toNat ∧ j * 2 ^ fpm.upB * 10 ^ (-P).toNat < endU X * 10 ^ P.toNat) := fun j hj => by
    rw [hx] at hj
    have h := near_of (j * 10 ^ (-P).toNat) (10 ^ P.toNat) hp10
    rw [hj] at h
    obtain ⟨n1, n2, n3⟩ := h
    rw [sw] at n1 n2 n3
    exact ⟨n1, n2, n3⟩
  have e8 : 2 * qv X = 8 * ftM X * 2 ^ (ftE X - 52 + 1074).toNat := by
    unfold qv
    rw [← Nat.mul_assoc, ← Nat.mul_assoc]
  have e4 : 4 * 2 ^ (ftE X - 52 + 1074).toNat * ftM X = qv X := by
    unfold qv
    exact Nat.mul_right_comm _ _ _
  refine ⟨k, -P, ?_, i4, ?_, fun j hj => ?_, ?_, fun h10 => ?_, ?_⟩
  · rw [hx]
    refine (near_eq hp10 ⟨?_, ?_, fun h => ?_⟩).symm
    · rw [sw]
      exact i1
    · rw [sw]
      exact i2
    · rw [sw]
      exact i3 h
  · rcases p3 with h | ⟨k', h1, h2⟩
    · exact .inl h
    · exact .inr ⟨k', h1, by rw [h2, show -(P - 1) = -P + 1 by omega]⟩
  · obtain ⟨n1, n2, n3⟩ := ein _ hj
    rw [i5 j n1 n2 n3, show -(P - 1) = -P + 1 by omega]
  · unfold leX
    rw [Int.neg_neg, sw, ← e4]
    exact Nat.le_trans i6 (Nat.mul_le_mul_right _ (Nat.le_mul_of_pos_right _ r1))
  · have hM : 10 ≤ ftM X := by
      unfold ftM
      split <;> omega
    have := (leX_shift X 1 1 (-P)).1 (by
      unfold leX
      rw [Int.neg_neg, sw, ← e4, Nat.pow_one, Nat.mul_comm 1 10]
      have h1 := Nat.mul_le_mul_left 10 i6
      have h2 : 4 * 2 ^ (ftE X - 52 + 1074).toNat * 10 * 10 ^ P.toNat ≤ 4 * 2 ^ (ftE X - 52 + 1074).toNat * ftM X * 10 ^ P.toNat := Nat.mul_le_mul_right _ (Nat.mul_le_mul_left _ hM)
      generalize 4 * 2 ^ (ftE X - 52 + 1074).toNat = g1 at *
      generalize 2 ^ fpm.upB = g2 at *
      generalize 10 ^ (-P).toNat = g3 at *
      generalize 10 ^ P.toNat = g4 at *
      rw [Nat.mul_comm g1 10, Nat.mul_assoc 10] at h2
      refine Nat.le_trans ?_ h2
      refine Nat.le_trans (Nat.le_of_eq ?_) h1
      rw [Nat.mul_assoc 10 1, Nat.mul_assoc 10, Nat.mul_assoc 1])
    exact this
  · rcases i7 with h | h | ⟨h1, h2, h3⟩
    · exact .inl h
    · exact .inr (.inl fun j hj => by
        obtain ⟨n1, n2, n3⟩ := ein _ hj
        exact h j n1 n2 n3)
    · right
      right
      rw [Int.neg_neg, e8, sw, sw]
      exact ⟨h1, h2, h3⟩
end Go.Proofs.YtcbgkbidgpemfaaGreatDoor.rh

/- burnishref16: Shortest's first try that hits tells the digits and the place of the point that are printed. Plain; no condition but those stated. -/
namespace Go.Proofs.YtcbgkbidgpemfaaGreatDoor.rh
open Go.RowKit
open Go.Proofs.YtcbgkbidgpemfaaGreatDoor.rg
open Go.Proofs.YtcbgkbidgpemfaaGreatDoor.rdf
open Go.Proofs.YtcbgkbidgpemfaaGreatDoor.fpm
open Go.Proofs.YtcbgkbidgpemfaaGreatDoor.prnw
open Go.Proofs.YtcbgkbidgpemfaaGreatDoor.dmx

theorem least (q : Nat → Prop) (n : Nat) (h : q n) : ∃ m, m ≤ n ∧ q m ∧ ∀ i, i < m → ¬ q i := by
  induction n using Nat.strongRecOn with
  | ind n ih =>
    by_cases hc : ∃ i, i < n ∧ q i
    · obtain ⟨i, h1, h2⟩ := hc
      obtain ⟨m, a, b, c⟩ := ih i h1 h2
      exact ⟨m, by omega, b, c⟩
    · exact ⟨n, Nat.le_refl _, h, fun i hi hq => hc ⟨i, hi, hq⟩⟩
theorem txL_add : ∀ m a n, txL m (a * 10 ^ m + n) = txL m n
  | 0, _, _ => rfl
  | m + 1, a, n => by
    have e : a * 10 ^ (m + 1) + n = (a * 10) * 10 ^ m + n := by rw [Nat.pow_succ, Nat.mul_comm (10 ^ m) 10, Nat.mul_assoc]
    rw [e]
    show (48 + ((a * 10) * 10 ^ m + n) / 10 ^ m % 10).toUInt8 :: txL m ((a * 10) * 10 ^ m + n) = (48 + n / 10 ^ m % 10).toUInt8 :: txL m n
    rw [txL_add m (a * 10) n]
    have h1 : ((a * 10) * 10 ^ m + n) / 10 ^ m = a * 10 + n / 10 ^ m := by
      rw [Nat.add_comm, Nat.add_mul_div_right _ _ (tp m), Nat.add_comm]
    rw [h1, Nat.add_comm (a * 10), Nat.add_mul_mod_self_right]
theorem txL_snoc : ∀ m n, txL (m + 1) n = txL m (n / 10) ++ [(48 + n % 10).toUInt8]
  | 0, n => by
    show [(48 + n / 10 ^ 0 % 10).toUInt8] = [(48 + n % 10).toUInt8]
    rw [Nat.pow_zero, Nat.div_one]
  | m + 1, n => by
    show (48 + n / 10 ^ (m + 1) % 10).toUInt8 :: txL (m + 1) n = (48 + n / 10 / 10 ^ m % 10).toUInt8 :: txL m (n / 10) ++ [(48 + n % 10).toUInt8]
    rw [txL_snoc m n, Nat.div_div_eq_div_mul, Nat.pow_succ, Nat.mul_comm (10 ^ m)]
    rfl
theorem dval_lt : ∀ D, DigL D → dval D < 10 ^ D.length
  | [], _ => by decide
  | c :: D, h => by
    have h1 := dval_lt D fun x hx => h x (by simp [hx])
    have h2 := (isD_iff c).1 (h c (by simp))
    rw [dval_cons, List.length_cons, Nat.pow_succ, Nat.zero_mul, Nat.zero_add]
    have h3 : (c.toNat - 48 + 1) * 10 ^ D.length ≤ 10 * 10 ^ D.length := Nat.mul_le_mul_right _ (by omega)
    rw [Nat.add_mul, Nat.one_mul] at h3
    omega
theorem txL_dval : ∀ D, DigL D → txL D.length (dval D) = D
  | [], _ => rfl
  | c :: D, h => by
    have h1 := txL_dval D fun x hx => h x (by simp [hx])
    have h2 := (isD_iff c).1 (h c (by simp))
    have h3 := dval_lt D fun x hx => h x (by simp [hx])
    rw [dval_cons, Nat.zero_mul, Nat.zero_add, List.length_cons]
    show (48 + ((c.toNat - 48) * 10 ^ D.length + dval D) / 10 ^ D.length % 10).toUInt8 :: txL D.length ((c.toNat - 48) * 10 ^ D.length + dval D) = c :: D
    rw [txL_add, h1]
    congr 1
    rw [Nat.add_comm ((c.toNat - 48) * _), Nat.add_mul_div_right _ _ (tp _), Nat.div_eq_of_lt h3, Nat.zero_add, Nat.mod_eq_of_lt (by omega), show 48 + (c.toNat - 48) = c.toNat by omega]
    exact UInt8.toNat_inj.1 (by rw [Nat.toUInt8, UInt8.toNat_ofNat']; have := c.toNat_lt; omega)
theorem trim_ten : ∀ n, trimL (txL (n + 1) (10 ^ n)) = [49]
  | 0 => rfl
  | n + 1 => by
    have e1 : 10 ^ (n + 1) / 10 = 10 ^ n := by rw [Nat.pow_succ, Nat.mul_div_cancel _ (by decide)]
    have e2 : 10 ^ (n + 1) % 10 = 0 := by rw [Nat.pow_succ, Nat.mul_mod_left]
    rw [txL_snoc, e1, e2, trim_snoc _ _ (fun h => by have := congrArg List.length h; rw [txL_len] at this; cases this), if_pos (by decide), trim_ten n]
theorem canonN {D : List UInt8} (hD : DigL D) (hL : 1 ≤ D.length) (hVm : dval D % 10 ≠ 0) (htr : trimL D = D) (hlt : dval D < 10 ^ D.length) (hV : 10 ^ (D.length - 1) ≤ dval D)
    (n h a b : Nat) (h1 : 10 ^ n ≤ h) (h2 : h < 10 ^ (n + 1)) (h3 : h * 10 ^ a = dval D * 10 ^ b) (hhm : h % 10 ≠ 0) : trimL (txL (n + 1) h) = D ∧ D.length + b = n + 1 + a := by
  have hab : a = b := by
    rcases Nat.lt_trichotomy a b with hl | hl | hl
    · exfalso
      obtain ⟨t, rfl⟩ : ∃ t, b = t + 1 + a := ⟨b - a - 1, by omega⟩
      rw [Nat.pow_add, ← Nat.mul_assoc] at h3
      have h4 := Nat.eq_of_mul_eq_mul_right (tp a) h3
      rw [Nat.pow_succ, ← Nat.mul_assoc] at h4
      omega
    · exact hl
    · exfalso
      obtain ⟨t, rfl⟩ : ∃ t, a = t + 1 + b := ⟨a - b - 1, by omega⟩
      rw [Nat.pow_add, ← Nat.mul_assoc] at h3
      have h4 := Nat.eq_of_mul_eq_mul_right (tp b) h3
      rw [Nat.pow_succ, ← Nat.mul_assoc] at h4
      omega
  subst hab
  have hh : h = dval D := Nat.eq_of_mul_eq_mul_right (tp a) h3
  subst hh
  have hn : D.length = n + 1 := by
    rcases Nat.lt_trichotomy D.length (n + 1) with hl | hl | hl
    · have := Nat.pow_le_pow_right (show 0 < 10 by decide) (show D.length ≤ n by omega)
      omega
    · exact hl
    · have := Nat.pow_le_pow_right (show 0 < 10 by decide) (show n + 1 ≤ D.length - 1 by omega)
      omega
  rw [← hn, txL_dval D hD]
  exact ⟨htr, rfl⟩
/-- digits, of which the first and the last one are not 0, are told by their value -/
theorem canon {D D' : List UInt8} {z : UInt8} (hD : DigL D) (hz : D = D' ++ [z]) (hz48 : z ≠ 48) (hV : 10 ^ (D.length - 1) ≤ dval D) :
    ∀ n h a b, 10 ^ n ≤ h → h < 10 ^ (n + 1) → h * 10 ^ a = dval D * 10 ^ b → trimL (txL (n + 1) h) = D ∧ D.length + b = n + 1 + a := by
  have hlt := dval_lt D hD
  have hL : 1 ≤ D.length := by rw [hz]; simp
  have hVm : dval D % 10 ≠ 0 := by
    have h1 := (isD_iff z).1 (hD z (by rw [hz]; simp))
    have h2 : z.toNat ≠ 48 := fun h => hz48 ((u8_eq z 48 (by decide)).2 h)
    have h3 : dval D = dval D' * 10 + (z.toNat - 48) := by
      rw [hz, dval_app, dval_cons]
      simp [dval]
    omega
  have htr : trimL D = D := by
    rw [hz]
    cases D' with
    | nil => exact trim_one z
    | cons c r =>
      rw [trim_snoc _ _ (by simp), if_neg hz48]
  intro n
  induction n with
  | zero =>
    intro h a b h1 h2 h3
    rw [Nat.pow_zero] at h1
    have hhm : h % 10 ≠ 0 := by
      have : h < 10 := h2
      omega
    exact canonN hD hL hVm htr hlt hV 0 h a b (by simpa using h1) h2 h3 hhm
  | succ n ih =>
    intro h a b h1 h2 h3
    by_cases hhm : h % 10 = 0
    · obtain ⟨g, rfl⟩ : ∃ g, h = g * 10 := ⟨h / 10, by omega⟩
      rw [Nat.pow_succ] at h1 h2
      have g1 := Nat.le_of_mul_le_mul_right h1 (by decide)
      have g2 := Nat.lt_of_mul_lt_mul_right h2
      have := ih g (a + 1) b g1 g2 (by rw [← h3, Nat.pow_succ, Nat.mul_comm (10 ^ a) 10, ← Nat.mul_assoc])
      rw [txL_snoc, Nat.mul_div_cancel _ (by decide), Nat.mul_mod_left, trim_snoc _ _ (fun h => by have := congrArg List.length h; rw [txL_len] at this; cases this), if_pos (by decide)]
      exact ⟨this.1, by have := this.2; omega⟩
    · exact canonN hD hL hVm htr hlt hV (n + 1) h a b h1 h2 h3 hhm
/-- the nearest one of two, as both programs take it -/
theorem near_two {X k : Nat} {p : Int} {a : Nat} (hk : 1 ≤ k) (h1 : leX X a p) (h2 : ¬ leX X (a + 1) p)
    (r1 : (2 * k - 1) * 10 ^ p.toNat * 2 ^ unB ≤ 2 * qv X * 10 ^ (-p).toNat) (r2 : 2 * qv X * 10 ^ (-p).toNat ≤ (2 * k + 1) * 10 ^ p.toNat * 2 ^ unB)
    (r3 : (2 * k - 1) * 10 ^ p.toNat * 2 ^ unB = 2 * qv X * 10 ^ (-p).toNat ∨ 2 * qv X * 10 ^ (-p).toNat = (2 * k + 1) * 10 ^ p.toNat * 2 ^ unB → k % 2 = 0) :
    (k = a ∧ overB X a p = false) ∨ (k = a + 1 ∧ overB X a p = true) := by
  have ho := over_spec X a p
  unfold leX at h1 h2
  rw [Nat.mul_assoc 2 (qv X)] at r1 r2 r3 ho
  obtain ⟨x, hx⟩ : ∃ x, qv X * 10 ^ (-p).toNat = x := ⟨_, rfl⟩
  rw [hx] at r1 r2 r3 ho h1 h2
  have ms : ∀ c, c * 10 ^ p.toNat * 2 ^ unB = c * (10 ^ p.toNat * 2 ^ unB) := fun c => Nat.mul_assoc _ _ _
  rw [ms] at r1 r2 ho h1 h2
  rw [ms, ms] at r3
  obtain ⟨u, hu⟩ : ∃ u, 10 ^ p.toNat * 2 ^ unB = u := ⟨_, rfl⟩
  rw [hu] at r1 r2 r3 ho h1 h2
  have hu0 : 0 < u := by rw [← hu]; exact Nat.mul_pos (tp _) (Nat.two_pow_pos _)
  clear hu hx ms
  have k1 : a ≤ k := by
    refine Nat.le_of_not_lt fun hl => ?_
    have := Nat.mul_le_mul_right u (show 2 * k + 2 ≤ 2 * a by omega)
    rw [Nat.add_mul] at this r2
    rw [Nat.mul_assoc 2 a] at this
    omega
  have k2 : k ≤ a + 1 := by
    refine Nat.le_of_not_lt fun hl => ?_
    have := Nat.mul_le_mul_right u (show 2 * (a + 1) + 1 ≤ 2 * k - 1 by omega)
    rw [Nat.add_mul, Nat.mul_assoc 2 (a + 1)] at this
    omega
  rcases (show k = a ∨ k = a + 1 by omega) with rfl | rfl
  · refine .inl ⟨rfl, Bool.eq_false_iff.2 fun h => ?_⟩
    rcases ho.1 h with h | ⟨h, h'⟩
    · omega
    · have := r3 (.inr h.symm)
      omega
  · refine .inr ⟨rfl, ho.2 ?_⟩
    rw [show 2 * (a + 1) - 1 = 2 * a + 1 by omega] at r1 r3
    rcases Nat.lt_or_ge ((2 * a + 1) * u) (2 * x) with h | h
    · exact .inl h
    · have he : (2 * a + 1) * u = 2 * x := Nat.le_antisymm r1 h
      have := r3 (.inl he)
      exact .inr ⟨he, by omega⟩
theorem leX_start (X : Nat) (hX0 : 0 < X) : leX X 1 (-330) := by
  have hM := ftM_pos X hX0
  have hq : 4 ≤ qv X := by
    unfold qv
    exact Nat.le_trans (show 4 ≤ 4 * ftM X * 1 by omega) (Nat.mul_le_mul_left _ (Nat.two_pow_pos _))
  unfold leX
  exact Nat.le_trans (show 1 * 10 ^ (-330 : Int).toNat * 2 ^ unB ≤ 4 * 10 ^ (-(-330) : Int).toNat by decide +kernel) (Nat.mul_le_mul_right _ hq)
def topE : Nat := 2045
theorem leX_stop (X : Nat) (hX0 : 0 < X) (hX : X < 9218868437227405312) : ¬ leX X 1 310 := by
  obtain ⟨r1, r2, r3, r4, r5⟩ := ft_range X hX0 hX
  have hte : topE = 2045 := rfl
  have hq : qv X ≤ 36028797018963968 * 2 ^ topE := by
    unfold qv
    have h2 : 2 ^ (ftE X - 52 + 1074).toNat ≤ 2 ^ topE := Nat.pow_le_pow_right (by decide) (by omega)
    exact Nat.mul_le_mul (by omega) h2
  unfold leX
  intro h
  have h1 := Nat.le_trans h (Nat.mul_le_mul_right (10 ^ (-310 : Int).toNat) hq)
  exact absurd h1 (by decide +kernel)
/-- what the program prints of a positive number, as digits and a place -/
theorem pos_parts (X : Nat) (hX0 : 0 < X) (hX : X < 9218868437227405312) : ∃ (D' : List UInt8) (z : UInt8) (u t : Nat) (e : Int), posD hiP loP X = D' ++ [z] ∧ z ≠ 48 ∧ DigL (posD hiP loP X) ∧
    10 ^ ((posD hiP loP X).length - 1) ≤ dval (posD hiP loP X) ∧ ftR hiP loP X = ((u : Int), e) ∧ u = dval (posD hiP loP X) * 10 ^ t ∧ posK hiP loP X = (posD hiP loP X).length + t + e := by
  obtain ⟨b1, b2, b3, b4⟩ := ft_bd hiP loP X hX0 hX hh_T
  obtain ⟨u, hu⟩ : ∃ u, (ftR hiP loP X).1.toNat = u := ⟨_, rfl⟩
  obtain ⟨e, he⟩ : ∃ e, (ftR hiP loP X).2 = e := ⟨_, rfl⟩
  have hD : posD hiP loP X = sdH u :: sdL u := by unfold posD; rw [hu]
  have hK : posK hiP loP X = (Lib.nDigits u : Nat) + e := by unfold posK; rw [hu, he]
  rw [hu] at b1
  obtain ⟨d1, d2⟩ := dec_sd u b1
  obtain ⟨D', z, l1, l2⟩ := sd_last u b1
  have hlow := nd_low u b1
  have hdg := digL_sd u
  rw [hD, hK]
  have hlen : 1 ≤ (sdH u :: sdL u).length := by rw [List.length_cons]; omega
  generalize sdH u :: sdL u = D at *
  rw [dec_dval] at d1
  obtain ⟨t, ht⟩ : ∃ t, t = Lib.nDigits u - D.length := ⟨_, rfl⟩
  rw [← ht] at d1
  refine ⟨D', z, u, t, e, l1, l2, hdg, ?_, Prod.ext (by show (ftR hiP loP X).1 = (u : Int); omega) he, d1, by omega⟩
  have h1 : 10 ^ (D.length - 1) * 10 ^ t ≤ dval D * 10 ^ t := by
    rw [← Nat.pow_add, show D.length - 1 + t = Lib.nDigits u - 1 by omega, ← d1]
    exact hlow
  exact Nat.le_of_mul_le_mul_right h1 (tp t)
def ShL (X : Nat) (k0 : Int) (n0 : Nat) : Prop := (-330 ≤ k0 ∧ k0 ≤ 310) ∧ gtX X k0 ∧ (∀ k, -330 ≤ k → k < k0 → ¬ gtX X k) ∧ (1 ≤ n0 ∧ n0 ≤ 18) ∧
  tryS X k0 n0 = some (posD hiP loP X, posK hiP loP X) ∧ ∀ n, 1 ≤ n → n < n0 → tryS X k0 n = none
theorem sh_law (X : Nat) (h10 : 10 ≤ X) (hX : X < 9218868437227405312) : ∃ (k0 : Int) (n0 : Nat), ShL X k0 n0 := by
  have hX0 : 0 < X := by omega
  have g640 : gtX X (-330 + ((640 : Nat) : Int)) := by
    rw [show (-330 : Int) + ((640 : Nat) : Int) = 310 by decide]
    exact (gt_leX X 310).2 (leX_stop X hX0 hX)
  obtain ⟨i, i1, i2, i3⟩ := least (fun i => gtX X (-330 + ((i : Nat) : Int))) 640 g640
  clear g640
  have i0 : 1 ≤ i := Nat.pos_of_ne_zero fun h => by
    rw [h, show (-330 : Int) + ((0 : Nat) : Int) = -330 by decide] at i2
    exact (gt_leX X (-330)).1 i2 (leX_start X hX0)
  obtain ⟨k0, hk0⟩ : ∃ k0 : Int, k0 = -330 + (i : Nat) := ⟨_, rfl⟩
  have hg : ¬ leX X 1 k0 := by
    rw [hk0]
    exact (gt_leX X _).1 i2
  have hl : leX X 1 (k0 - 1) := by
    have := i3 (i - 1) (by omega)
    rw [show (-330 : Int) + ((i - 1 : Nat) : Int) = k0 - 1 by omega, gt_leX] at this
    exact Classical.not_not.1 this
  have hup : ∀ n, ¬ leX X (10 ^ n) (k0 - (n : Nat)) := fun n h => by
    have := (leX_shift X 1 n (k0 - (n : Nat))).1 (by rw [Nat.one_mul]; exact h)
    rw [show k0 - (n : Nat) + (n : Nat) = k0 by omega] at this
    exact hg this
  have hcap : ∀ n : Nat, n ≤ 18 → ¬ leX X 1000000000000000000 (k0 - (n : Nat)) := fun n hn h =>
    hup n (leX_mono (Nat.pow_le_pow_right (n := 10) (by decide) hn) h)
  obtain ⟨k, p, f1, f2, f3, f4, f5, f6, f7⟩ := ft_more X hX0 hX
  have hp1 : p + 1 < k0 := Int.lt_of_not_ge fun h => hg (leX_down h (f6 h10))
  have hp18 : k0 - p ≤ 18 := by
    refine Int.not_lt.1 fun h => ?_
    have h1 : leX X 1 (p + (18 : Nat)) := leX_down (by omega) hl
    have h2 : leX X (10 ^ 18) p := by
      have := (leX_shift X 1 18 p).2 h1
      rw [Nat.one_mul] at this
      exact this
    have h3 : ∀ j, 100000000000000000 ≤ j → j ≤ 10 ^ 18 → nx j p = X := fun j j1 j2 => by
      have a1 := nx_le (leX_mono j2 h2)
      have a2 := nx_mono (show k ≤ j by omega) p
      omega
    have h4 := f4 10000000000000000 (h3 _ (by decide) (by decide))
    have h5 := f4 10000000000000001 (h3 _ (by decide) (by decide))
    rw [h4] at h5
    have := (Prod.mk.inj h5).1
    omega
  obtain ⟨N, hN⟩ : ∃ N : Nat, k0 - (N : Int) = p := ⟨(k0 - p).toNat, by omega⟩
  have hN2 : 2 ≤ N ∧ N ≤ 18 := by omega
  obtain ⟨m, m1, m2, m3⟩ := least (fun m => ∃ j, nx j (k0 - ((m + 1 : Nat) : Int)) = X) (N - 1) ⟨k, by rw [show k0 - ((N - 1 + 1 : Nat) : Int) = p by omega]; exact f1⟩
  obtain ⟨P, hP⟩ : ∃ P, k0 - ((m + 1 : Nat) : Int) = P := ⟨_, rfl⟩
  rw [hP] at m2
  obtain ⟨j, hj⟩ := m2
  have hcP := hcap (m + 1) (by omega)
  have huP := hup (m + 1)
  rw [hP] at hcP huP
  obtain ⟨t, ht⟩ : ∃ t : Nat, P = p + t := ⟨(P - p).toNat, by omega⟩
  have hk1 : 1 ≤ k := Nat.pos_of_ne_zero fun h => by
    rw [h, nx_zero] at f1
    omega
  obtain ⟨a, ha⟩ : ∃ a, flX X P = a := ⟨_, rfl⟩
  have hfl := fl_spec hcP
  have hhit := hit_fl hcP hj
  rw [ha] at hfl hhit
  -- the digits' number, if it is a multiple of ten, or the only one
  have key : ∀ h, nx h P = X → (t = 0 → (∀ j, nx j p = X → j = k) ∨ h = k) → h * 10 ^ t = k := fun h hh hc => by
    cases t with
    | zero =>
      rw [Nat.pow_zero, Nat.mul_one]
      rcases hc rfl with hc | hc
      · refine hc h ?_
        have hPp : P = p := by omega
        rw [← hPp]
        exact hh
      · exact hc
    | succ t =>
      have h1 : nx (10 * (h * 10 ^ t)) p = X := by
        have := nx_shift h (t + 1) p
        rw [← ht, hh, Nat.pow_succ, ← Nat.mul_assoc, Nat.mul_comm _ 10] at this
        exact this
      have h2 := f4 _ h1
      rw [Nat.pow_succ, ← Nat.mul_assoc]
      rcases f3 with h3 | ⟨k', h3, h4⟩
      · rw [h3] at h2
        have := (Prod.mk.inj h2).2
        omega
      · rw [h4] at h2
        have := Int.ofNat.inj (Prod.mk.inj h2).1
        rw [← this, ← h3]
  -- which of the two it is, if t is 0
  have two : t = 0 → (∀ j, nx j p = X → j = k) ∨ (k = a ∧ overB X a P = false) ∨ (k = a + 1 ∧ overB X a P = true) := fun ht0 => by
    have hPp : P = p := by omega
    rcases f7 with h | h | ⟨h1, h2, h3⟩
    · exfalso
      have hm : m = N - 1 := by omega
      refine m3 (m - 1) (by omega) ⟨k / 10, ?_⟩
      have := nx_shift (k / 10) 1 p
      rw [Nat.pow_one, show k / 10 * 10 = k by omega, f1] at this
      rw [show k0 - ((m - 1 + 1 : Nat) : Int) = p + ((1 : Nat) : Int) by omega]
      exact this.symm
    · exact .inl h
    · right
      rw [hPp] at hfl ⊢
      exact near_two hk1 hfl.1 hfl.2 h1 h2 h3
  have hkP : t = 0 → nx k P = X := fun ht0 => by
    rw [show P = p by omega]
    exact f1
  have hale : 10 ^ m ≤ a := by
    refine Nat.le_of_lt_succ (Nat.lt_of_not_le fun h => hfl.2 ?_)
    refine leX_mono h ?_
    have := (leX_shift X 1 m P).2 (by rw [show P + (m : Nat) = k0 - 1 by omega]; exact hl)
    rw [Nat.one_mul] at this
    exact this
  have halt : a < 10 ^ (m + 1) := Nat.lt_of_not_le fun h => huP (leX_mono h hfl.1)
  obtain ⟨D', z, u, t2, e, q1, q2, q3, q4, q5, q6, q7⟩ := pos_parts X hX0 hX
  have hkk : ∃ s : Nat, k = dval (posD hiP loP X) * 10 ^ (t2 + s) ∧ e = p + s := by
    rcases f3 with h | ⟨k', h1, h2⟩
    · rw [q5] at h
      have := Int.ofNat.inj (Prod.mk.inj h).1
      exact ⟨0, by rw [← this, q6]; rfl, by have := (Prod.mk.inj h).2; omega⟩
    · rw [q5] at h2
      have := Int.ofNat.inj (Prod.mk.inj h2).1
      exact ⟨1, by rw [h1, ← this, q6, Nat.mul_assoc, ← Nat.pow_succ], by have := (Prod.mk.inj h2).2; omega⟩
  obtain ⟨s, s1, s2⟩ := hkk
  have hcan := canon q3 q1 q2 q4
  have fin : ∀ h, 10 ^ m ≤ h → h < 10 ^ (m + 1) → h * 10 ^ t = k → trimL (txL (m + 1) h) = posD hiP loP X ∧ posK hiP loP X = k0 := fun h h1 h2 h3 => by
    obtain ⟨c1, c2⟩ := hcan m h t (t2 + s) h1 h2 (by rw [h3, s1])
    exact ⟨c1, by omega⟩
  have hno : ∀ n, 1 ≤ n → n < m + 1 → tryS X k0 n = none := fun n n1 n2 => by
    have h1 : ∀ j, hitB X j (k0 - (n : Nat)) = false := fun j => by
      refine Bool.eq_false_iff.2 fun h => m3 (n - 1) (by omega) ⟨j, ?_⟩
      rw [show k0 - ((n - 1 + 1 : Nat) : Int) = k0 - (n : Nat) by omega]
      exact (hit_iff hX j _).1 h
    unfold tryS
    rw [h1, h1]
    rfl
  refine ⟨k0, m + 1, ⟨by omega, by omega⟩, (gt_leX X k0).2 hg, fun k' k1 k2 => ?_, ⟨by omega, by omega⟩, ?_, hno⟩
  · have := i3 (k' + 330).toNat (by omega)
    rw [show (-330 : Int) + ((k' + 330).toNat : Nat) = k' by omega] at this
    exact this
  unfold tryS
  rw [hP, ha]
  by_cases hlo : (hitB X a P && !(hitB X (a + 1) P && overB X a P)) = true
  · rw [if_pos hlo]
    rw [Bool.and_eq_true, Bool.not_eq_true', Bool.and_eq_false_iff] at hlo
    obtain ⟨l1, l2⟩ := hlo
    have hv := key a ((hit_iff hX _ _).1 l1) fun ht0 => by
      rcases two ht0 with h | ⟨h, _⟩ | ⟨h, h'⟩
      · exact .inl h
      · exact .inr h.symm
      · exfalso
        rcases l2 with l2 | l2
        · have := (hit_iff hX (a + 1) P).2 (by rw [← h]; exact hkP ht0)
          rw [l2] at this
          cases this
        · rw [l2] at h'
          cases h'
    obtain ⟨c1, c2⟩ := fin a hale halt hv
    rw [c1, c2]
  · rw [if_neg hlo]
    have hb : hitB X (a + 1) P = true := by
      rcases hhit with h | h
      · have := (hit_iff hX a P).2 h
        rw [this, Bool.true_and, Bool.not_eq_true', Bool.not_eq_false, Bool.and_eq_true] at hlo
        exact hlo.1
      · exact (hit_iff hX _ _).2 h
    rw [if_pos hb]
    have hv := key (a + 1) ((hit_iff hX _ _).1 hb) fun ht0 => by
      rcases two ht0 with h | ⟨h, h'⟩ | ⟨h, _⟩
      · exact .inl h
      · exfalso
        apply hlo
        rw [h', Bool.and_false, Bool.not_false, Bool.and_true]
        exact (hit_iff hX a P).2 (by rw [← h]; exact hkP ht0)
      · exact .inr h.symm
    by_cases hten : a + 1 = 10 ^ (m + 1)
    · rw [if_pos hten]
      rw [hten] at hv
      obtain ⟨c1, c2⟩ := hcan (m + 1) (10 ^ (m + 1)) t (t2 + s) (Nat.le_refl _) (Nat.pow_lt_pow_right (by decide) (by omega)) (by rw [hv, s1])
      rw [trim_ten] at c1
      rw [← c1]
      have : posK hiP loP X = k0 + 1 := by omega
      rw [this]
    · rw [if_neg hten]
      obtain ⟨c1, c2⟩ := fin (a + 1) (by omega) (by omega) hv
      rw [c1, c2]
/-- the nine least numbers, one by one -/
def gtB (X : Nat) (k : Int) : Bool := decide (ftM X * 10 ^ (-k).toNat * 2 ^ (ftE X - 52).toNat < 1 * 10 ^ k.toNat * 2 ^ (-(ftE X - 52)).toNat)
def smB (X : Nat) (k0 : Int) (n0 : Nat) : Bool :=
  gtB X k0 && (List.range (k0 + 330).toNat).all (fun i => !gtB X (-330 + (i : Nat))) && decide (tryS X k0 n0 = some (posD hiP loP X, posK hiP loP X)) && (List.range n0).all (fun n => n == 0 || (tryS X k0 n).isNone)
theorem sm_of {X : Nat} {k0 : Int} {n0 : Nat} (h : smB X k0 n0 = true) (hk : -330 ≤ k0 ∧ k0 ≤ 310) (hn : 1 ≤ n0 ∧ n0 ≤ 18) : ShL X k0 n0 := by
  unfold smB at h
  rw [Bool.and_eq_true, Bool.and_eq_true, Bool.and_eq_true, decide_eq_true_eq, List.all_eq_true, List.all_eq_true] at h
  obtain ⟨⟨⟨h1, h2⟩, h3⟩, h4⟩ := h
  unfold gtB at h1
  have g1 : gtX X k0 := by
    unfold gtX
    exact of_decide_eq_true h1
  refine ⟨hk, g1, fun k k1 k2 hg => ?_, hn, h3, fun n n1 n2 => ?_⟩
  · have := h2 (k + 330).toNat (List.mem_range.2 (by omega))
    rw [show (-330 : Int) + ((k + 330).toNat : Nat) = k by omega, Bool.not_eq_true'] at this
    unfold gtB at this
    unfold gtX at hg
    exact of_decide_eq_false this hg
  · have := h4 n (List.mem_range.2 n2)
    rw [Bool.or_eq_true, beq_iff_eq, Option.isNone_iff_eq_none] at this
    rcases this with h | h
    · omega
    · exact h
theorem sm_1 : smB 1 (-323) 1 = true := by decide +kernel
theorem sm_2 : smB 2 (-323) 1 = true := by decide +kernel
theorem sm_3 : smB 3 (-322) 2 = true := by decide +kernel
theorem sm_4 : smB 4 (-322) 1 = true := by decide +kernel
theorem sm_5 : smB 5 (-322) 2 = true := by decide +kernel
theorem sm_6 : smB 6 (-322) 1 = true := by decide +kernel
theorem sm_7 : smB 7 (-322) 2 = true := by decide +kernel
theorem sm_8 : smB 8 (-322) 1 = true := by decide +kernel
theorem sm_9 : smB 9 (-322) 2 = true := by decide +kernel
theorem sh_all (X : Nat) (hX0 : 0 < X) (hX : X < 9218868437227405312) : ∃ (k0 : Int) (n0 : Nat), ShL X k0 n0 := by
  by_cases h10 : 10 ≤ X
  · exact sh_law X h10 hX
  have h : X = 1 ∨ X = 2 ∨ X = 3 ∨ X = 4 ∨ X = 5 ∨ X = 6 ∨ X = 7 ∨ X = 8 ∨ X = 9 := by omega
  rcases h with rfl | rfl | rfl | rfl | rfl | rfl | rfl | rfl | rfl
  · exact ⟨_, _, sm_of sm_1 (by decide) (by decide)⟩
  · exact ⟨_, _, sm_of sm_2 (by decide) (by decide)⟩
  · exact ⟨_, _, sm_of sm_3 (by decide) (by decide)⟩
  · exact ⟨_, _, sm_of sm_4 (by decide) (by decide)⟩
  · exact ⟨_, _, sm_of sm_5 (by decide) (by decide)⟩
  · exact ⟨_, _, sm_of sm_6 (by decide) (by decide)⟩
  · exact ⟨_, _, sm_of sm_7 (by decide) (by decide)⟩
  · exact ⟨_, _, sm_of sm_8 (by decide) (by decide)⟩
  · exact ⟨_, _, sm_of sm_9 (by decide) (by decide)⟩
end Go.Proofs.YtcbgkbidgpemfaaGreatDoor.rh

/- What burnishref16 lays is what the program lays. Plain; no condition but those stated. -/
namespace Go.Proofs.YtcbgkbidgpemfaaGreatDoor.rh
open Go.RowKit
open Go.Proofs.YtcbgkbidgpemfaaGreatDoor.rg
open Go.Proofs.YtcbgkbidgpemfaaGreatDoor.rdf
open Go.Proofs.YtcbgkbidgpemfaaGreatDoor.prnw

def itR (k : Int) : List UInt8 := (if k < 0 then [45] else []) ++ kL k.natAbs
theorem it_all : (List.range 801).all (fun i => decide (Lib.itoa ((i : Int) - 400) = itR ((i : Int) - 400))) = true := by decide +kernel
theorem it_at (k : Int) (h0 : -400 ≤ k) (h1 : k ≤ 400) : Lib.itoa k = itR k := by
  have := List.all_eq_true.1 it_all (k + 400).toNat (List.mem_range.2 (by omega))
  rw [show (((k + 400).toNat : Nat) : Int) - 400 = k by omega] at this
  exact of_decide_eq_true this
theorem rep_48 : ∀ n, Lib.repeatL [48] n = List.replicate n 48
  | 0 => rfl
  | n + 1 => by
    rw [List.replicate_succ, ← rep_48 n]
    rfl
theorem laid_same (D : List UInt8) (k : Int) (h0 : -399 ≤ k) (h1 : k ≤ 400) : laidR D k = laidT D k := by
  unfold laidR laidT
  rw [rep_48, rep_48, it_at (k - 1) (by omega) (by omega)]
  unfold itR
  simp only [List.append_assoc]
end Go.Proofs.YtcbgkbidgpemfaaGreatDoor.rh

/- Programs of nodes in plain words: a front, a node more, a node that stands first. No conditions but those stated. -/
namespace Go.Proofs.YtcbgkbidgpemfaaGreatDoor.chkw
open Go.Proofs.YtcbgkbidgpemfaaGreatDoor.nodew

end Go.Proofs.YtcbgkbidgpemfaaGreatDoor.chkw

/- A right node in which one number is another: is it right? In plain words. Conditions: as each theorem states. -/
namespace Go.Proofs.YtcbgkbidgpemfaaGreatDoor.chkw
open Go.Proofs.YtcbgkbidgpemfaaGreatDoor.nodew

theorem f_put (n : Nd) (hl : n.x.length = 16) (o x j : Nat) (h1 : 1 ≤ o) (h2 : o ≤ 16) (j1 : 1 ≤ j) : (Nd.put n o x).f j = if j = o then x else n.f j := by
  unfold Nd.put Nd.f
  simp only [List.getD_eq_getElem?_getD]
  by_cases h : j = o
  · subst h
    rw [List.getElem?_set_self (by omega), if_pos rfl]
    rfl
  · rw [List.getElem?_set_ne (by omega), if_neg h]
theorem f_zero (n : Nd) (hl : n.x.length = 16) (o j : Nat) (h1 : 1 ≤ o) (h2 : o ≤ 16) (j1 : 1 ≤ j) : (n.zero o).f j = if j = o then 0 else n.f j := f_put n hl o 0 j h1 h2 j1
theorem f_zeros : ∀ (l : List Nat) (n : Nd), n.x.length = 16 → (∀ o ∈ l, 1 ≤ o ∧ o ≤ 16) → ∀ j, 1 ≤ j → (n.zeros l).f j = if j ∈ l then 0 else n.f j
  | [], n, _, _, j, _ => by simp [Nd.zeros]
  | o :: r, n, hl, ho, j, hj => by
    show ((n.zero o).zeros r).f j = _
    rw [f_zeros r (n.zero o) ((n.zero_len o).trans hl) (fun p hp => ho p (by simp [hp])) j hj, f_zero n hl o j (ho o (by simp)).1 (ho o (by simp)).2 hj]
    by_cases h : j = o
    · subst h
      by_cases hr : j ∈ r <;> simp [hr]
    · by_cases hr : j ∈ r <;> simp [h, hr]
theorem offs_range (k : Nat) : ∀ o ∈ offs k, 1 ≤ o ∧ o ≤ 16 := fun o ho => by
  unfold offs at ho
  obtain ⟨d, hd, rfl⟩ := List.mem_map.1 ho
  exact fieldList_range k d hd
theorem nodeOk_iff (n : Nd) (hl : n.x.length = 16) (at_ : Int) : nodeOk n at_ = true ↔ (∀ d ∈ fieldList n.kind, withinF d.2.1 d.2.2 (n.f d.1) = true) ∧ placeOk (decide (0 < belowN n.kind)) n.a at_ = true ∧ placeOk (decide (1 < belowN n.kind)) n.b at_ = true ∧ 0 < (fieldList n.kind).length ∧ ∀ j, 1 ≤ j → j ≤ 16 → j ∉ offs n.kind → n.f j = 0 := by
  unfold nodeOk ndOk bare
  simp only [Bool.and_eq_true, List.all_eq_true, decide_eq_true_eq, beq_iff_eq, List.mem_range]
  have hz := f_zeros (offs n.kind) n hl (offs_range n.kind)
  constructor
  · rintro ⟨⟨⟨⟨h1, h2⟩, h3⟩, h4⟩, h5⟩
    refine ⟨h1, h2, h3, h4, fun j j1 j2 hj => ?_⟩
    have := h5 (j - 1) (by omega)
    rw [show j - 1 + 1 = j by omega, hz j j1, if_neg hj] at this
    exact this
  · rintro ⟨h1, h2, h3, h4, h5⟩
    refine ⟨⟨⟨⟨h1, h2⟩, h3⟩, h4⟩, fun j hj => ?_⟩
    rw [hz (j + 1) (by omega)]
    by_cases h : j + 1 ∈ offs n.kind
    · rw [if_pos h]
    · rw [if_neg h]; exact h5 (j + 1) (by omega) (by omega) h
theorem kinds_six (k : Nat) (h : 0 < (fieldList k).length) : k ∈ [1, 2, 3, 4, 5, 6] := by
  unfold fieldList at h
  simp
  repeat' split at h
  all_goals first | omega | (simp at h)
end Go.Proofs.YtcbgkbidgpemfaaGreatDoor.chkw

/- The walks of burnishref18's within, nothing, all, none, and of burnishref01.Right; which numbers are nothing. No conditions but those stated. -/
namespace Go.Proofs.YtcbgkbidgpemfaaGreatDoor.chkw
open Go.RowKit
open Go.Proofs.YtcbgkbidgpemfaaGreatDoor.nodew
attribute [local go_sem] nodew.fo_eq nodew.run_store_float

/-! which word is equal to 0 -/
theorem signed_zero (s : Bool) (m k : Nat) : Ieee.signed s m k = 0 ↔ m = 0 := by
  have h : m <<< k = 0 ↔ m = 0 := by
    rw [Nat.shiftLeft_eq]
    constructor
    · intro h
      rcases Nat.mul_eq_zero.1 h with h | h
      · exact h
      · exact absurd h (Nat.ne_of_gt (Nat.two_pow_pos k))
    · intro h; rw [h, Nat.zero_mul]
  unfold Ieee.signed
  cases s <;> simp <;> omega
theorem order_zero (s t : Bool) (m : Nat) (i j : Int) (h : Ieee.Datum.order (.number s m i) (.number t 0 j) = some .eq) : m = 0 := by
  unfold Ieee.Datum.order at h
  simp only [Option.some.injEq] at h
  have hc := Std.LawfulEqOrd.eq_of_compare h
  rw [(signed_zero t 0 _).2 rfl] at hc
  exact (signed_zero s m _).1 hc
theorem fo_nz (x : Nat) (h : x % 9223372036854775808 ≠ 0) : fo x 0 ≠ some .eq := by
  intro he
  have hz : Ieee.Format.read Ieee.double 0 = .number false 0 (-1074) := by kernel_rfl
  have he' : Ieee.Datum.order (Ieee.Format.read Ieee.double x) (Ieee.Format.read Ieee.double 0) = some .eq := he
  rw [hz] at he'
  have hw : Ieee.double.signWeight = 9223372036854775808 := by kernel_rfl
  unfold Ieee.Format.read at he'
  simp only [hw] at he'
  split at he'
  · exact h (order_zero _ _ _ _ _ he')
  · split at he'
    · have := order_zero _ _ _ _ _ he'
      have hb : Ieee.double.binade = 4503599627370496 := by kernel_rfl
      rw [hb] at this
      omega
    · split at he'
      · cases hs : (x / 9223372036854775808 % 2 == 1) <;> rw [hs] at he' <;> cases he'
      · cases he'
theorem nothing_law (x : Nat) (hx : x < 18446744073709551616) : (fo x 0 == some .eq && rightF x) = decide (x = 0) := by
  by_cases h0 : x = 0
  · subst h0; kernel_rfl
  · rw [decide_eq_false h0]
    by_cases h1 : x = 9223372036854775808
    · subst h1; kernel_rfl
    · have := fo_nz x (by omega)
      have e : (fo x 0 == some .eq) = false := by rw [beq_eq_false_iff_ne]; exact this
      rw [e]; rfl

/-! the walks -/
theorem right_ref (x : Nat) (w : World) : Calls Tryz.prog 123 #[.float .f64 x] w fun e w' => e = .returned (.bool (rightF x)) ∧ w' = w := by
  go_enter Tryz.func123, Tryz.ntmps123
  go_wp2_with (first | (go_at_call 110; refine (isNaN_any _ _).mono ?_; rintro e w' ⟨rfl, rfl⟩) | (go_at_call 111; refine (isInf_any _ _).mono ?_; rintro e w' ⟨rfl, rfl⟩) | (go_at_call 112; refine (signbit_any _ _).mono ?_; rintro e w' ⟨rfl, rfl⟩))
  all_goals go_ret
  all_goals exact ⟨ret_bool (by simp_all [rightF]), rfl⟩
theorem within_ref (lo hi x : Nat) (w : World) : Calls Tryz.prog 90 #[.float .f64 x, .float .f64 lo, .float .f64 hi] w fun e w' => e = .returned (.bool (withinF lo hi x)) ∧ w' = w := by
  go_enter Tryz.func90, Tryz.ntmps90
  go_wp2_with (first | (go_at_call 123; refine (right_ref _ _).mono ?_; rintro e w' ⟨rfl, rfl⟩))
  all_goals go_ret
  all_goals exact ⟨ret_bool (by simp_all [withinF, geqF, leqF]), rfl⟩
theorem nothing_ref (x : Nat) (hx : x < 18446744073709551616) (w : World) : Calls Tryz.prog 91 #[.float .f64 x] w fun e w' => e = .returned (.bool (decide (x = 0))) ∧ w' = w := by
  rw [← nothing_law x hx]
  clear hx
  go_enter Tryz.func91, Tryz.ntmps91
  go_wp2_with (first | (go_at_call 123; refine (right_ref _ _).mono ?_; rintro e w' ⟨rfl, rfl⟩))
  all_goals go_ret
  all_goals exact ⟨ret_bool (by simp_all), rfl⟩
def all3 (lo hi a b c : Nat) : Bool := withinF lo hi a && (withinF lo hi b && withinF lo hi c)
def none3 (a b c : Nat) : Bool := decide (a = 0) && (decide (b = 0) && decide (c = 0))
theorem all_ref (lo hi a b c : Nat) (w : World) : Calls Tryz.prog 88 #[.agg #[.float .f64 a, .float .f64 b, .float .f64 c], .float .f64 lo, .float .f64 hi] w fun e w' => e = .returned (.bool (all3 lo hi a b c)) ∧ Below w.heap.size w w' := by
  obtain ⟨qa, ha⟩ : ∃ q, withinF lo hi a = q := ⟨_, rfl⟩
  obtain ⟨qb, hb⟩ : ∃ q, withinF lo hi b = q := ⟨_, rfl⟩
  obtain ⟨qc, hc⟩ : ∃ q, withinF lo hi c = q := ⟨_, rfl⟩
  have ra : ∀ u : World, Calls Tryz.prog 90 #[.float .f64 a, .float .f64 lo, .float .f64 hi] u fun e w' => e = .returned (.bool qa) ∧ w' = u := fun u => by rw [← ha]; exact within_ref lo hi a u
  have rb : ∀ u : World, Calls Tryz.prog 90 #[.float .f64 b, .float .f64 lo, .float .f64 hi] u fun e w' => e = .returned (.bool qb) ∧ w' = u := fun u => by rw [← hb]; exact within_ref lo hi b u
  have rc : ∀ u : World, Calls Tryz.prog 90 #[.float .f64 c, .float .f64 lo, .float .f64 hi] u fun e w' => e = .returned (.bool qc) ∧ w' = u := fun u => by rw [← hc]; exact within_ref lo hi c u
  have hr : all3 lo hi a b c = (qa && (qb && qc)) := by unfold all3; rw [ha, hb, hc]
  rw [hr]
  clear hr ha hb hc
  cases qa
  case' true => cases qb
  all_goals
    go_enter Tryz.func88, Tryz.ntmps88
    go_wp2_with (first
      | (with_reducible refine (ra _).mono ?_; rintro e w' ⟨rfl, rfl⟩)
      | (with_reducible refine (rb _).mono ?_; rintro e w' ⟨rfl, rfl⟩)
      | (with_reducible refine (rc _).mono ?_; rintro e w' ⟨rfl, rfl⟩))
    go_ret
    exact ⟨rfl, (Below.refl _ _).alloc (Nat.le_refl _) _⟩
theorem none_ref (a b c : Nat) (la : a < 18446744073709551616) (lb : b < 18446744073709551616) (lc : c < 18446744073709551616) (w : World) : Calls Tryz.prog 89 #[.agg #[.float .f64 a, .float .f64 b, .float .f64 c]] w fun e w' => e = .returned (.bool (none3 a b c)) ∧ Below w.heap.size w w' := by
  obtain ⟨qa, ha⟩ : ∃ q, decide (a = 0) = q := ⟨_, rfl⟩
  obtain ⟨qb, hb⟩ : ∃ q, decide (b = 0) = q := ⟨_, rfl⟩
  obtain ⟨qc, hc⟩ : ∃ q, decide (c = 0) = q := ⟨_, rfl⟩
  have ra : ∀ u : World, Calls Tryz.prog 91 #[.float .f64 a] u fun e w' => e = .returned (.bool qa) ∧ w' = u := fun u => by rw [← ha]; exact nothing_ref a la u
  have rb : ∀ u : World, Calls Tryz.prog 91 #[.float .f64 b] u fun e w' => e = .returned (.bool qb) ∧ w' = u := fun u => by rw [← hb]; exact nothing_ref b lb u
  have rc : ∀ u : World, Calls Tryz.prog 91 #[.float .f64 c] u fun e w' => e = .returned (.bool qc) ∧ w' = u := fun u => by rw [← hc]; exact nothing_ref c lc u
  have hr : none3 a b c = (qa && (qb && qc)) := by unfold none3; rw [ha, hb, hc]
  rw [hr]
  clear hr ha hb hc la lb lc
  cases qa
  case' true => cases qb
  all_goals
    go_enter Tryz.func89, Tryz.ntmps89
    go_wp2_with (first
      | (with_reducible refine (ra _).mono ?_; rintro e w' ⟨rfl, rfl⟩)
      | (with_reducible refine (rb _).mono ?_; rintro e w' ⟨rfl, rfl⟩)
      | (with_reducible refine (rc _).mono ?_; rintro e w' ⟨rfl, rfl⟩))
    go_ret
    exact ⟨rfl, (Below.refl _ _).alloc (Nat.le_refl _) _⟩
/-! how many numbers and names a kind has -/
end Go.Proofs.YtcbgkbidgpemfaaGreatDoor.chkw

/- burnishref16: the walk of Print: it tells the text that the program tells. Conditions: as each theorem states. -/
namespace Go.Proofs.YtcbgkbidgpemfaaGreatDoor.rh
open Go.RowKit
open Go.Proofs.YtcbgkbidgpemfaaGreatDoor.nodew
open Go.Proofs.YtcbgkbidgpemfaaGreatDoor.rg
open Go.Proofs.YtcbgkbidgpemfaaGreatDoor.chkw
open Go.Proofs.YtcbgkbidgpemfaaGreatDoor.flatm
open Go.Proofs.YtcbgkbidgpemfaaGreatDoor.fpm
open Go.Proofs.YtcbgkbidgpemfaaGreatDoor.rdf
open Go.Proofs.YtcbgkbidgpemfaaGreatDoor.prnw
attribute [local go_sem] nodew.fo_eq

theorem sh16 (X : Nat) (hX0 : 0 < X) (hX : X < 9218868437227405312) (w : World) :
    Calls Tryz.prog 124 #[.float .f64 X] w (ShPost w (posD hiP loP X, posK hiP loP X)) := by
  obtain ⟨k0, n0, h1, h2, h3, h4, h5, h6⟩ := sh_all X hX0 hX
  exact short_any X hX0 hX k0 n0 _ h1 h2 h3 h4 h5 h6 w
theorem ld16 (X : Nat) (hX0 : 0 < X) (hX : X < 9218868437227405312) (w : World) :
    Calls Tryz.prog 125 #[.string ⟨(posD hiP loP X).toArray⟩, .int .i64 (posK hiP loP X)] w (StrPost w (posT hiP loP X)) := by
  obtain ⟨p1, p2, p3, p4⟩ := pos_bd hiP loP X hX0 hX hh_T
  have hs : (⟨(posD hiP loP X).toArray⟩ : ByteArray).size = (posD hiP loP X).length := by show (posD hiP loP X).toArray.size = _; simp
  have h := laid_any ⟨(posD hiP loP X).toArray⟩ (by rw [hs]; omega) (posK hiP loP X) (by omega) w
  have hd : (⟨(posD hiP loP X).toArray⟩ : ByteArray).data.toList = posD hiP loP X := List.toList_toArray ..
  rw [hd, laid_same _ _ (by omega) (by omega)] at h
  exact h
theorem big_neg {x : Nat} (hx : x < 18446744073709551616) (fx : x % 9223372036854775808 < 9218868437227405312) (h : 9223372036854775808 ≤ x) :
    (fo x 13965662444475908096 == some .lt) = bigF x ∧ (fo x 4742290407621132288 == some .gt) = false := by
  rw [big_w hx fx, fo_sv fx (by decide), fo_sv fx (by decide)]
  unfold sv
  rw [if_pos (by omega), if_pos (by decide), if_neg (by decide), show (13965662444475908096 : Nat) % 9223372036854775808 = 4742290407621132288 by decide]
  rw [Int.compare_eq_ite_lt, Int.compare_eq_ite_lt]
  refine ⟨?_, ?_⟩
  · by_cases hc : 4742290407621132288 < x % 9223372036854775808
    · have := val_lt hc
      rw [if_pos (by omega), decide_eq_true hc]
      rfl
    · have := val_le (show x % 9223372036854775808 ≤ 4742290407621132288 by omega)
      rw [if_neg (by omega), decide_eq_false hc]
      split <;> rfl
  · split
    · rfl
    · rw [if_neg (by omega)]
      rfl
theorem big_pos {x : Nat} (hx : x < 18446744073709551616) (fx : x % 9223372036854775808 < 9218868437227405312) (h : x < 9223372036854775808) :
    (fo x 13965662444475908096 == some .lt) = false ∧ (fo x 4742290407621132288 == some .gt) = bigF x := by
  rw [big_w hx fx, fo_sv fx (by decide), fo_sv fx (by decide)]
  unfold sv
  rw [if_neg (by omega), if_pos (by decide), if_neg (by decide), show (13965662444475908096 : Nat) % 9223372036854775808 = 4742290407621132288 by decide]
  rw [Int.compare_eq_ite_lt, Int.compare_eq_ite_lt]
  refine ⟨?_, ?_⟩
  · rw [if_neg (by omega)]
    split <;> rfl
  · by_cases hc : 4742290407621132288 < x % 9223372036854775808
    · have := val_lt hc
      rw [if_neg (by omega), if_pos (by omega), decide_eq_true hc]
      rfl
    · have := val_le (show x % 9223372036854775808 ≤ 4742290407621132288 by omega)
      rw [decide_eq_false hc]
      split
      · rfl
      · rw [if_neg (by omega)]
        rfl
set_option maxRecDepth 100000 in
set_option maxHeartbeats 1000000 in
theorem print16_any (x : Nat) (hx : x < 18446744073709551616) (w : World) :
    Calls Tryz.prog 92 #[.float .f64 x] w (PrPost hiP loP x w) := by
  have HRt := Lib.hid (fun W => right_ref x W)
  cases hr : rightF x with
  | false =>
    rw [hr] at HRt
    have ho : prOk x = false := by unfold prOk; rw [hr]; rfl
    have e1 : prT hiP loP x = [] := by unfold prT; rw [if_neg (by rw [ho]; decide)]
    have e2 : prE x = 2 := by unfold prE; rw [if_neg (by rw [ho]; decide)]
    have HQ := Lib.hid (And.intro e1 e2)
    clear hr ho e1 e2
    go_enter Tryz.func92, Tryz.ntmps92
    go_wp2_with (go_at_call 123; (with_reducible refine (HRt.out _).mono ?_); rintro e w' ⟨rfl, rfl⟩)
    go_ret2
    exact ⟨⟨⟨#[]⟩, by rw [HQ.out.1], by rw [HQ.out.2]; rfl⟩, Below.refl _ _⟩
  | true =>
    rw [hr] at HRt
    obtain ⟨fx, nx⟩ := right_word hx hr
    obtain ⟨z1, z2⟩ := fo_zero hx fx nx
    cases hb : bigF x with
    | true =>
      have ho : prOk x = false := by unfold prOk; rw [hr, hb]; rfl
      have e1 : prT hiP loP x = [] := by unfold prT; rw [if_neg (by rw [ho]; decide)]
      have e2 : prE x = 2 := by unfold prE; rw [if_neg (by rw [ho]; decide)]
      have HQ := Lib.hid (And.intro e1 e2)
      by_cases hn : 9223372036854775808 ≤ x
      · obtain ⟨b1, b2⟩ := big_neg hx fx hn
        rw [hb] at b1
        clear hr ho e1 e2 z1 z2 hb hn fx nx hx b2
        go_enter Tryz.func92, Tryz.ntmps92
        go_wp2_with (go_at_call 123; (with_reducible refine (HRt.out _).mono ?_); rintro e w' ⟨rfl, rfl⟩)
        go_ret2
        exact ⟨⟨⟨#[]⟩, by rw [HQ.out.1], by rw [HQ.out.2]; rfl⟩, Below.refl _ _⟩
      · obtain ⟨b1, b2⟩ := big_pos hx fx (by omega)
        rw [hb] at b2
        clear hr ho e1 e2 z1 z2 hb hn fx nx hx
        go_enter Tryz.func92, Tryz.ntmps92
        go_wp2_with (go_at_call 123; (with_reducible refine (HRt.out _).mono ?_); rintro e w' ⟨rfl, rfl⟩)
        go_ret2
        exact ⟨⟨⟨#[]⟩, by rw [HQ.out.1], by rw [HQ.out.2]; rfl⟩, Below.refl _ _⟩
    | false =>
      have ho : prOk x = true := by unfold prOk; rw [hr, hb]; rfl
      have e2 : prE x = 0 := by unfold prE; rw [if_pos ho]
      by_cases hn : 9223372036854775808 ≤ x
      · obtain ⟨b1, b2⟩ := big_neg hx fx hn
        rw [hb] at b1
        have h0 : x ≠ 0 := by omega
        rw [decide_eq_false h0] at z1
        rw [decide_eq_true hn] at z2
        have e1 : prT hiP loP x = 45 :: posT hiP loP (x - 9223372036854775808) := by unfold prT; rw [if_pos ho, if_neg h0, if_pos hn]
        have hng := neg_w x hx
        rw [if_pos hn] at hng
        obtain ⟨Y, hY⟩ : ∃ Y, Y = x - 9223372036854775808 := ⟨_, rfl⟩
        rw [← hY] at hng e1
        have hun : ∀ W : World, (Op.unary .neg (.float .f64 x)).run Tryz.prog W = .ok (.float .f64 Y) W := fun W => by rw [← hng]; rfl
        have hl := pos_len hiP loP Y (by omega) (by omega) hh_T
        have HS := Lib.hid (fun W => sh16 Y (by omega) (by omega) W)
        have HL := Lib.hid (fun W => ld16 Y (by omega) (by omega) W)
        obtain ⟨D, hD⟩ : ∃ D : ByteArray, D = ⟨(posD hiP loP Y).toArray⟩ := ⟨_, rfl⟩
        obtain ⟨k, hk⟩ : ∃ k, k = posK hiP loP Y := ⟨_, rfl⟩
        obtain ⟨T, hT⟩ : ∃ T : ByteArray, T = ⟨(posT hiP loP Y).toArray⟩ := ⟨_, rfl⟩
        unfold ShPost at HS
        unfold StrPost at HL
        rw [← hD, ← hk, ← hT] at HL
        simp only [← hD, ← hk] at HS
        have hTs : T.size ≤ 100 := by rw [hT]; show (posT hiP loP Y).toArray.size ≤ 100; simpa using hl
        have hTl : T.data.toList = posT hiP loP Y := by rw [hT]
        have HQ := Lib.hid (And.intro e1 (And.intro e2 hTl))
        have hs1 : (⟨#[45]⟩ : ByteArray).size = 1 := rfl
        clear hr ho e1 e2 hb hn fx nx hx hng hY hl hD hk hT hTl h0
        go_enter Tryz.func92, Tryz.ntmps92
        go_wp2_with (first
          | (go_at_call 123; (with_reducible refine (HRt.out _).mono ?_); rintro e w' ⟨rfl, rfl⟩)
          | (go_at_call 124; (with_reducible refine (HS.out _).mono ?_); rintro e w1 ⟨rfl, hb1⟩; have B1 := Lib.hid hb1; clear hb1)
          | (go_at_call 125; (with_reducible refine (HL.out _).mono ?_); rintro e w2 ⟨rfl, hb2⟩; have B2 := Lib.hid (B1.out.trans (hb2.mono B1.out.size)); clear hb2))
        go_ret2
        exact ⟨⟨⟨#[45]⟩ ++ T, by rw [HQ.out.1, app_list, HQ.out.2.2]; rfl, by rw [HQ.out.2.1]; rfl⟩, B2.out⟩
      · obtain ⟨b1, b2⟩ := big_pos hx fx (by omega)
        rw [hb] at b2
        rw [decide_eq_false hn] at z2
        by_cases h0 : x = 0
        · have e1 : prT hiP loP x = [48] := by unfold prT; rw [if_pos ho, if_pos h0]
          rw [decide_eq_true h0] at z1
          have HQ := Lib.hid (And.intro e1 e2)
          clear hr ho e1 e2 hb hn fx nx hx h0 z2
          go_enter Tryz.func92, Tryz.ntmps92
          go_wp2_with (go_at_call 123; (with_reducible refine (HRt.out _).mono ?_); rintro e w' ⟨rfl, rfl⟩)
          go_ret2
          exact ⟨⟨⟨#[48]⟩, by rw [HQ.out.1], by rw [HQ.out.2]; rfl⟩, Below.refl _ _⟩
        · have e1 : prT hiP loP x = posT hiP loP x := by unfold prT; rw [if_pos ho, if_neg h0, if_neg hn]
          rw [decide_eq_false h0] at z1
          have HS := Lib.hid (fun W => sh16 x (by omega) (by omega) W)
          have HL := Lib.hid (fun W => ld16 x (by omega) (by omega) W)
          obtain ⟨D, hD⟩ : ∃ D : ByteArray, D = ⟨(posD hiP loP x).toArray⟩ := ⟨_, rfl⟩
          obtain ⟨k, hk⟩ : ∃ k, k = posK hiP loP x := ⟨_, rfl⟩
          obtain ⟨T, hT⟩ : ∃ T : ByteArray, T = ⟨(posT hiP loP x).toArray⟩ := ⟨_, rfl⟩
          unfold ShPost at HS
          unfold StrPost at HL
          rw [← hD, ← hk, ← hT] at HL
          simp only [← hD, ← hk] at HS
          have hTl : T.data.toList = posT hiP loP x := by rw [hT]
          have HQ := Lib.hid (And.intro e1 (And.intro e2 hTl))
          clear hr ho e1 e2 hb hn fx nx hx hD hk hT hTl h0
          go_enter Tryz.func92, Tryz.ntmps92
          go_wp2_with (first
            | (go_at_call 123; (with_reducible refine (HRt.out _).mono ?_); rintro e w' ⟨rfl, rfl⟩)
            | (go_at_call 124; (with_reducible refine (HS.out _).mono ?_); rintro e w1 ⟨rfl, hb1⟩; have B1 := Lib.hid hb1; clear hb1)
            | (go_at_call 125; (with_reducible refine (HL.out _).mono ?_); rintro e w2 ⟨rfl, hb2⟩; have B2 := Lib.hid (B1.out.trans (hb2.mono B1.out.size)); clear hb2))
          go_ret2
          exact ⟨⟨T, by rw [HQ.out.1, HQ.out.2.2], by rw [HQ.out.2.1]; rfl⟩, B2.out⟩
end Go.Proofs.YtcbgkbidgpemfaaGreatDoor.rh
