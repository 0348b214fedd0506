/- burnishlaw19.PrintLines. Conditions: the nodes lie in memory, their numbers are numbers; the library's tables hold what the row lists. -/
import Derived.Test.YtcfokpnoblnidaaGreatDoorPrnU
import Derived.Test.YtcfokpnoblnidaaGreatDoorPrnV
namespace Go.Proofs.YtcfokpnoblnidaaGreatDoor.prnw
open Go.RowKit
open Go.Shelf
open Go.Sort
open Go.Proofs.YtcfokpnoblnidaaGreatDoor.nodew
open Go.Proofs.YtcfokpnoblnidaaGreatDoor.chkw
open Go.Proofs.YtcfokpnoblnidaaGreatDoor.flatm
attribute [local go_sem] nodew.run_store_float

theorem sbeq {s a : ByteArray} (h : ¬ s = a) : (s.toList == a.toList) = false := by
  rw [beq_eq_false_iff_ne]
  intro e
  apply h
  rw [ByteArray.toList_eq, ByteArray.toList_eq] at e
  obtain ⟨⟨s⟩⟩ := s
  obtain ⟨⟨a⟩⟩ := a
  simp only at e
  rw [e]
/-- the lines of a text, as Split lays them -/
def lineA (hi lo : Nat → Nat) (l : List Nd) : List ByteArray := (linesP hi lo l l.length).map bA ++ [⟨#[]⟩]
theorem lineA_at (hi lo : Nat → Nat) (l : List Nd) (k : Nat) (h : k < l.length) : (lineA hi lo l)[k]? = some (bA (lineT hi lo (atN l k) k)) := by
  unfold lineA
  rw [List.getElem?_append_left (by rw [List.length_map, linesP_len]; exact h), List.getElem?_map]
  unfold linesP
  rw [List.getElem?_map, List.getElem?_range h]
  rfl
theorem lineA_end (hi lo : Nat → Nat) (l : List Nd) : (lineA hi lo l)[l.length]? = some ⟨#[]⟩ := by
  unfold lineA
  rw [List.getElem?_append_right (by rw [List.length_map, linesP_len]; exact Nat.le_refl _), List.length_map, linesP_len, Nat.sub_self]
  rfl
theorem split_c {hi lo : Nat → Nat} {w : World} (h : Env hi lo w) (l : List Nd) (hs : (bA (textP hi lo l l.length)).size ≤ 4000000) :
    Calls Tryz.prog 6 #[.string (bA (textP hi lo l l.length)), .string ⟨#[10]⟩] w fun e w' => ∃ g, e = .returned (.slice (some ⟨g, 0, none⟩) (l.length + 1) (l.length + 1)) ∧ g < w'.heap.size ∧ (∀ k b, (lineA hi lo l)[k]? = some b → w'.cell? ⟨g, k, none⟩ = some (.string b)) ∧ Below w.heap.size w w' := by
  obtain ⟨m, hm⟩ := h.ml
  obtain ⟨h1, h2⟩ := text_split hi lo l
  refine (Tryz.strings_Split (bA (textP hi lo l l.length)) ⟨#[10]⟩ m w (by omega) hm (by decide)).mono fun e w' h => ?_
  obtain ⟨he, hw⟩ := h
  rw [h1] at he hw
  rw [h2] at hw
  refine ⟨w.heap.size, he, by rw [hw]; simp, fun k b hb => ?_, by rw [hw]; exact (Below.refl _ _).alloc (Nat.le_refl _) _⟩
  rw [hw, cell_of_row _ _ k _ _ _ (heap_alloc_new w _)]
  have hb' : ((linesP hi lo l l.length).map bA ++ [(⟨#[]⟩ : ByteArray)])[k]? = some b := hb
  rw [List.getElem?_toArray, List.getElem?_map, hb']
  rfl
set_option maxRecDepth 100000 in
set_option maxHeartbeats 4000000 in
theorem law_any (B : Nat) (v : Value) (l : List Nd) (hok : ∀ n ∈ l, n.ok) (hkd : ∀ n ∈ l, n.kind < 256) (n : Nd) (hn : n.ok) (hnk : n.kind < 256) (at_ other : Int) (w : World) (hr : NRead w B v l) (hB : B ≤ w.heap.size) (hE : Env hiP loP w) (hG : Gl w.heap.size) :
    Calls Tryz.prog 3 #[v, n.val, .int .i64 at_, .int .i64 other] w (Bel w (.bool true)) := by
  obtain ⟨A, c, rfl, hx⟩ := id hr
  obtain ⟨W, hW⟩ : ∃ W, W = w.alloc (.cells n.cells.toArray 26) := ⟨_, rfl⟩
  have hBW : Below w.heap.size w W := by rw [hW]; exact (Below.refl _ _).alloc (Nat.le_refl _) _
  have hNB : NBlk W w.heap.size n := by rw [hW]; exact heap_alloc_new w _
  have hWs : W.heap.size = w.heap.size + 1 := by rw [hW]; simp
  have hGW : ∀ m, w.heap.size ≤ m → Gl m := fun m hm => ⟨Nat.lt_of_lt_of_le hG.1 hm, Nat.lt_of_lt_of_le hG.2.1 hm, Nat.lt_of_lt_of_le hG.2.2 hm⟩
  have HW := Lib.hid hW
  have HB := Lib.hid (And.intro hBW (And.intro hNB hWs))
  have CA := Lib.hid (fun (u : World) (hb : Below w.heap.size w u) => awake19 u (hE.later hb) (hGW _ hb.size))
  by_cases h40 : 40 < l.length
  · clear hok hkd hn hnk hr hB hE hG hx hW hBW hNB hWs hGW
    go_enter Tryz.func3, Tryz.ntmps3
    unfold Nd.val Nd.cells
    go_upto_region 1 with fail
    have hW2 : w.alloc (.cells n.cells.toArray 26) = W := HW.out.symm
    unfold Nd.cells at hW2
    rw [hW2]
    clear hW2
    go_wp2_with (go_at_call 4; (with_reducible refine (CA.out _ HB.out.1).mono ?_); rintro e w1 ⟨rfl, hb1⟩)
    go_ret
    exact ⟨rfl, HB.out.1.trans (hb1.mono HB.out.1.size)⟩
  · have hl40 : l.length ≤ 40 := by omega
    have hl : l.length ≤ 1000000000000 := by omega
    have hEW := hE.later hBW
    have CT := Lib.hid (text_any hiP loP B (.slice A l.length c) l hok hkd hl W (hr.keep hBW.size (fun g hgB hg => hBW.block g hg)) (by omega) hEW (hGW _ (by omega)))
    have HE := Lib.hid (And.intro hE (And.intro hGW (And.intro hok hkd)))
    have HX := Lib.hid (And.intro hx hB)
    have HN := Lib.hid (And.intro hn hnk)
    clear hok hkd hn hnk hr hB hE hG hx hW hBW hNB hWs hGW hEW hl h40
    go_enter Tryz.func3, Tryz.ntmps3
    unfold Nd.val Nd.cells
    go_upto_region 1 with fail
    have hW2 : w.alloc (.cells n.cells.toArray 26) = W := HW.out.symm
    unfold Nd.cells at hW2
    rw [hW2]
    clear hW2
    go_upto_if 36 with (go_at_call 5; (with_reducible refine CT.out.mono ?_); rintro e w1 ⟨rfl, hb1⟩; have B1 := Lib.hid (HB.out.1.trans (hb1.mono HB.out.1.size)); have N1 := Lib.hid (HB.out.2.1.below hb1 (blk_lt HB.out.2.1)); clear hb1)
    go_cut [] (fun wx => Below w1.heap.size w1 wx)
    case first =>
     as_aux_lemma =>
      obtain ⟨hE, hGW, hok, hkd⟩ := HE.out
      cases hq : rightP l with
      | false =>
        have te : (textE l == 0) = false := by unfold textE; rw [if_neg (by rw [hq]; decide)]; rfl
        clear hE hGW hok hkd hq
        go_wp2_with fail
        go_meet
        exact Below.refl _ _
      | true =>
        have te : (textE l == 0) = true := by unfold textE; rw [if_pos hq]; rfl
        have tt : textT hiP loP l = textP hiP loP l l.length := by unfold textT; rw [if_pos hq]
        have hE1 := hE.later B1.out
        have hpl := textP_len (lo := loP) hE.tabs.2.1 l hok l.length (Nat.le_refl _)
        have CS := split_c hE1 l (by rw [bA_size]; omega)
        rw [← tt] at CS
        obtain ⟨_, _, hall⟩ := right_at hq
        have HS := Lib.hid CS
        have HA := Lib.hid (And.intro hall (And.intro hok hkd))
        have HE1 := Lib.hid hE1
        clear hE hGW hok hkd hq tt hE1 hpl CS hall
        go_upto_region 6 with (go_at_call 6; (with_reducible refine HS.out.mono ?_); rintro e w2 ⟨g2, rfl, hg2, hcells, hb2⟩; have H2 := Lib.hid (And.intro hg2 (And.intro hcells hb2)); clear hg2 hcells hb2)
        have cend := H2.out.2.1 l.length _ (lineA_end hiP loP l)
        have q1 : (0 : Int) ≤ (l.length : Int) := by omega
        go_wp2_with fail
        clear cend te
        have b12 : Below w1.heap.size w1 w2 := H2.out.2.2
        have B2 := Lib.hid (And.intro b12 (B1.out.trans (b12.mono B1.out.size)))
        clear b12
        go_loopw [55] (fun i wr => ∃ k : Nat, k ≤ l.length ∧ i = .int .i64 k ∧ Below w2.heap.size w2 wr) (fun i _ => l.length - (intOf i).toNat)
        case atStart => exact ⟨0, Nat.zero_le _, rfl, Below.refl _ _⟩
        case round =>
          obtain ⟨k, hk, rfl, hBr⟩ := hrel
          have hz := hBr.size
          by_cases hkl : k < l.length
          · obtain ⟨g, off, rfl, hgB, hgl, hcell⟩ := HX.out.1 (by intro e; subst e; simp at hkl)
            obtain ⟨nd, hnd⟩ : ∃ n, l[k] = n := ⟨_, rfl⟩
            have hno : nd.ok := HA.out.2.1 nd (by rw [← hnd]; exact List.getElem_mem hkl)
            have hnk : nd.kind < 256 := HA.out.2.2 nd (by rw [← hnd]; exact List.getElem_mem hkl)
            have hgw : g < w2.heap.size := Nat.lt_of_lt_of_le hgl B2.out.2.size
            have hrg : wr.rangeAt g (off + k * 19) nd.cells := fun j u hu => by
              have hj : j < 19 := by have := (List.getElem?_eq_some_iff.1 hu).1; rwa [nd_cells_len] at this
              rw [Nat.add_assoc]
              exact (World.cell?_of_block (a := ⟨g, off + (k * 19 + j), none⟩) (hBr.block g hgw)).trans ((World.cell?_of_block (a := ⟨g, off + (k * 19 + j), none⟩) (B2.out.2.block g hgl)).trans (hcell (k * 19 + j) u (by rw [ncells_get l k j hkl hj, hnd]; exact hu)))
            have HNO := Lib.hid (And.intro hno hnk)
            have HND := Lib.hid hnd
            have HR := Lib.hid hrg
            have HF := Lib.hid hBr
            clear hno hnk hnd hcell hrg hBr
            go_wp2_with (first
              | (refine wpList_load_mid rfl 26 (.tmp 58) rfl g (off + k * 19) rfl nd.cells _ HR.out Tryz.underlying26 rfl (by kernel_rfl) ?_)
              | (refine wpList_store_row rfl 26 (.tmp 13) (.tmp 59) rfl wr.heap.size nd.cells.toArray rfl rfl _ _ (heap_alloc_new wr _) (nd_info nd) (by rw [nd_size]; rfl) (nd_one nd) ?_)
              | (refine wpList_load_row rfl 26 (.tmp 13) rfl wr.heap.size rfl _ nd.cells.toArray _ _ (setRow_heap _ _ _ _ _ _ (heap_alloc_new wr _)) Tryz.underlying26 rfl (by kernel_rfl) ?_))
            obtain ⟨WX, hWX⟩ : ∃ W, W = (wr.alloc (.cells #[.int .u8 0, .float .f64 0, .float .f64 0, .float .f64 0, .float .f64 0, .float .f64 0, .float .f64 0, .float .f64 0, .float .f64 0, .float .f64 0, .float .f64 0, .float .f64 0, .float .f64 0, .float .f64 0, .float .f64 0, .float .f64 0, .float .f64 0, .int .i64 0, .int .i64 0] 26)).setRow wr.heap.size nd.cells.toArray := ⟨_, rfl⟩
            have hBX : Below wr.heap.size wr WX := by rw [hWX]; exact below_setRow ((Below.refl _ _).alloc (Nat.le_refl _) _) (Nat.le_refl _) _
            rw [← hWX]
            clear hWX
            have hB2X : Below w2.heap.size w2 WX := HF.out.trans (hBX.mono hz)
            have hBwX : Below w.heap.size w WX := B2.out.2.trans (hB2X.mono B2.out.2.size)
            have hok := HA.out.1 k hkl
            rw [HND.out] at hok
            have hlo : lineOk nd k = true := by unfold lineOk; rw [hok, decide_eq_true (by omega), decide_eq_true (by omega)]; rfl
            have hle : lineE nd k = 0 := by unfold lineE; rw [if_pos hlo]
            have CLn := line_any hiP loP nd HNO.out.1 HNO.out.2 k (by omega) (by omega) WX (HE.out.1.later hBwX) (HE.out.2.1 _ hBwX.size)
            rw [hle] at CLn
            refine CLn.mono ?_
            rintro e wy ⟨rfl, hBy⟩
            have hB2y : Below w2.heap.size w2 wy := hB2X.trans (hBy.mono hB2X.size)
            have hck : wy.cell? ⟨g2, k, none⟩ = some (.string (bA (lineT hiP loP nd k))) := by
              rw [hB2y.cell (p := ⟨g2, k, none⟩) H2.out.1, H2.out.2.1 k _ (lineA_at hiP loP l k hkl), atN_eq l k hkl, HND.out]
            obtain ⟨S, hS⟩ : ∃ S, S = bA (lineT hiP loP nd k) := ⟨_, rfl⟩
            rw [← hS] at hck ⊢
            have HY := Lib.hid hB2y
            have hk1 : (k : Int) < (l.length : Int) + 1 := by omega
            have hk2 : k < l.length + 1 := by omega
            clear hBX hB2X hBwX hok hlo hle CLn hBy hB2y hS
            go_wp2_with fail
            go_roundw
            case rel => exact ⟨k + 1, by omega, by go_num, HY.out⟩
            case measure => simp [intOf]; omega
          · obtain rfl : k = l.length := by omega
            have HF := Lib.hid hBr
            clear hBr
            go_wp2_with fail
            go_meet
            exact B2.out.1.trans (HF.out.mono B2.out.1.size)
    case rest =>
      obtain ⟨a, ha⟩ : ∃ a, at_.tmod 5000 = a := ⟨_, rfl⟩
      obtain ⟨b, hb⟩ : ∃ b, other.tmod 5000 = b := ⟨_, rfl⟩
      have hab : -5000 < a ∧ a < 5000 := by
        rw [← ha]
        have h1 := Int.tmod_lt_of_pos at_ (show (0 : Int) < 5000 by decide)
        have h2 := Int.lt_tmod_of_pos at_ (show (0 : Int) < 5000 by decide)
        omega
      have hbb : -5000 < b ∧ b < 5000 := by
        rw [← hb]
        have h1 := Int.tmod_lt_of_pos other (show (0 : Int) < 5000 by decide)
        have h2 := Int.lt_tmod_of_pos other (show (0 : Int) < 5000 by decide)
        omega
      obtain ⟨hab1, hab2⟩ := hab
      obtain ⟨hbb1, hbb2⟩ := hbb
      have B3 := Lib.hid (B1.out.trans (hcut.mono B1.out.size))
      have N3 := Lib.hid (N1.out.below hcut (blk_lt N1.out))
      have LN := Lib.hid (fun (k : Int) (k0 : -5000 < k) (k1 : k < 5000) (u : World) (hu : Below w.heap.size w u) => line_any hiP loP n HN.out.1 HN.out.2 k (by omega) (by omega) u (HE.out.1.later hu) (HE.out.2.1 _ hu.size))
      clear hcut
      go_upto_region 16 with fail
      clear ha hb
      obtain ⟨SA, hSA⟩ : ∃ S, S = bA (lineT hiP loP n a) := ⟨_, rfl⟩
      obtain ⟨SB, hSB⟩ : ∃ S, S = bA (lineT hiP loP n b) := ⟨_, rfl⟩
      have la := fun (u : World) (hu : Below w.heap.size w u) => LN.out a hab1 hab2 u hu
      have lb := fun (u : World) (hu : Below w.heap.size w u) => LN.out b hbb1 hbb2 u hu
      rw [← hSA] at la
      rw [← hSB] at lb
      cases hka : lineOk n a with
      | false =>
       as_aux_lemma =>
        have ea : lineE n a = 190 := by unfold lineE; rw [if_neg (by rw [hka]; decide)]
        have sa : SA = ⟨#[]⟩ := by rw [hSA]; unfold lineT; rw [if_neg (by rw [hka]; decide)]; rfl
        have eb : lineE n b = 0 ∨ lineE n b = 190 := by unfold lineE; split <;> simp
        obtain ⟨E, hE⟩ : ∃ E, E = lineE n b := ⟨_, rfl⟩
        rw [ea, sa] at la
        rw [← hE] at lb eb
        have LA := Lib.hid la
        have LB := Lib.hid lb
        have CN := Lib.hid (fun u => node_any n HN.out.1.2 HN.out.1.1 a u)
        have eb2 : ((190 : Int) + E == 0) = false := by rw [beq_eq_false_iff_ne]; omega
        have eb3 : (0 : Int) ≤ E := by omega
        have eb4 : E ≤ 190 := by omega
        have hcase : a < 0 ∨ (0 ≤ a ∧ 4096 ≤ a) ∨ (0 ≤ a ∧ a < 4096 ∧ nodeOk n a = false) := by
          by_cases h0 : a < 0
          · exact .inl h0
          by_cases h1 : a < 4096
          · refine .inr (.inr ⟨by omega, h1, ?_⟩)
            unfold lineOk at hka
            rw [decide_eq_true (by omega), decide_eq_true h1] at hka
            exact hka
          · exact .inr (.inl ⟨by omega, by omega⟩)
        clear hSA hSB la lb ea sa hE eb hka LN hab1 hab2 hbb1 hbb2
        rcases hcase with h0 | ⟨h0, h1⟩ | ⟨h0, h1, h2⟩
        · have f1 : decide (0 ≤ a) = false := decide_eq_false (by omega)
          clear h0
          go_upto_region 17 with (first | (refine wpList_load_nd_g _ ?_ (.tmp 5) rfl w.heap.size rfl n N3.out ?_; rotate_right) | (go_at_call 7; (with_reducible refine (LA.out _ B3.out).mono ?_); rintro e v1 ⟨rfl, hv1⟩; have N4 := Lib.hid (N3.out.below hv1 (blk_lt N3.out)); have B4 := Lib.hid (B3.out.trans (hv1.mono B3.out.size)); clear hv1))
          go_upto_region 18 with (first | (refine wpList_load_nd_g _ ?_ (.tmp 5) rfl w.heap.size rfl n N4.out ?_; rotate_right) | (go_at_call 7; (with_reducible refine (LB.out _ B4.out).mono ?_); rintro e v2 ⟨rfl, hv2⟩; have N5 := Lib.hid (N4.out.below hv2 (blk_lt N4.out)); have B5 := Lib.hid (B4.out.trans (hv2.mono B4.out.size)); clear hv2))
          go_wp2_with (go_at_call 4; (with_reducible refine (CA.out _ B5.out).mono ?_); rintro e v9 ⟨rfl, hv9⟩)
          go_ret
          exact ⟨rfl, B5.out.trans (hv9.mono B5.out.size)⟩
        · have f1 : decide (0 ≤ a) = true := decide_eq_true h0
          have f2 : decide (a < 4096) = false := decide_eq_false (by omega)
          clear h0 h1
          go_upto_region 17 with (first | (refine wpList_load_nd_g _ ?_ (.tmp 5) rfl w.heap.size rfl n N3.out ?_; rotate_right) | (go_at_call 7; (with_reducible refine (LA.out _ B3.out).mono ?_); rintro e v1 ⟨rfl, hv1⟩; have N4 := Lib.hid (N3.out.below hv1 (blk_lt N3.out)); have B4 := Lib.hid (B3.out.trans (hv1.mono B3.out.size)); clear hv1))
          go_upto_region 18 with (first | (refine wpList_load_nd_g _ ?_ (.tmp 5) rfl w.heap.size rfl n N4.out ?_; rotate_right) | (go_at_call 7; (with_reducible refine (LB.out _ B4.out).mono ?_); rintro e v2 ⟨rfl, hv2⟩; have N5 := Lib.hid (N4.out.below hv2 (blk_lt N4.out)); have B5 := Lib.hid (B4.out.trans (hv2.mono B4.out.size)); clear hv2))
          go_wp2_with (go_at_call 4; (with_reducible refine (CA.out _ B5.out).mono ?_); rintro e v9 ⟨rfl, hv9⟩)
          go_ret
          exact ⟨rfl, B5.out.trans (hv9.mono B5.out.size)⟩
        · have f1 : decide (0 ≤ a) = true := decide_eq_true h0
          have f2 : decide (a < 4096) = true := decide_eq_true h1
          have cn := CN.out
          rw [h2] at cn
          have CN2 := Lib.hid cn
          clear h0 h1 h2 cn CN
          go_upto_region 17 with (first | (refine wpList_load_nd_g _ ?_ (.tmp 5) rfl w.heap.size rfl n N3.out ?_; rotate_right) | (go_at_call 7; (with_reducible refine (LA.out _ B3.out).mono ?_); rintro e v1 ⟨rfl, hv1⟩; have N4 := Lib.hid (N3.out.below hv1 (blk_lt N3.out)); have B4 := Lib.hid (B3.out.trans (hv1.mono B3.out.size)); clear hv1))
          go_upto_region 18 with (first | (refine wpList_load_nd_g _ ?_ (.tmp 5) rfl w.heap.size rfl n N4.out ?_; rotate_right) | (go_at_call 7; (with_reducible refine (LB.out _ B4.out).mono ?_); rintro e v2 ⟨rfl, hv2⟩; have N5 := Lib.hid (N4.out.below hv2 (blk_lt N4.out)); have B5 := Lib.hid (B4.out.trans (hv2.mono B4.out.size)); clear hv2))
          go_wp2_with (first
            | (refine wpList_load_nd_g _ ?_ (.tmp 5) rfl w.heap.size rfl n N5.out ?_; rotate_right)
            | (go_at_call 8; (with_reducible refine (CN2.out _).mono ?_); rintro e v3 ⟨rfl, hv3⟩; have B6 := Lib.hid (B5.out.trans (hv3.mono B5.out.size)); clear hv3)
            | (go_at_call 4; (with_reducible refine (CA.out _ B6.out).mono ?_); rintro e v9 ⟨rfl, hv9⟩))
          go_ret
          exact ⟨rfl, B6.out.trans (hv9.mono B6.out.size)⟩
      | true =>
        have ea : lineE n a = 0 := by unfold lineE; rw [if_pos hka]
        have h3 : 0 ≤ a ∧ a < 4096 ∧ nodeOk n a = true := by
          have hk := hka
          unfold lineOk at hk
          simp only [Bool.and_eq_true, decide_eq_true_eq] at hk
          exact ⟨hk.1.1, hk.1.2, hk.2⟩
        obtain ⟨h0, h1, h2⟩ := h3
        have cn := fun u => node_any n HN.out.1.2 HN.out.1.1 a u
        rw [h2] at cn
        have CN2 := Lib.hid cn
        have f1 : decide (0 ≤ a) = true := decide_eq_true h0
        have f2 : decide (a < 4096) = true := decide_eq_true h1
        rw [ea] at la
        have LA := Lib.hid la
        clear cn h2 la ea
        cases hkb : lineOk n b with
        | false =>
         as_aux_lemma =>
          have eb : lineE n b = 190 := by unfold lineE; rw [if_neg (by rw [hkb]; decide)]
          rw [eb] at lb
          have LB := Lib.hid lb
          clear hSA hSB lb eb hka hkb LN hab1 hab2 hbb1 hbb2 h0 h1
          go_upto_region 17 with (first | (refine wpList_load_nd_g _ ?_ (.tmp 5) rfl w.heap.size rfl n N3.out ?_; rotate_right) | (go_at_call 7; (with_reducible refine (LA.out _ B3.out).mono ?_); rintro e v1 ⟨rfl, hv1⟩; have N4 := Lib.hid (N3.out.below hv1 (blk_lt N3.out)); have B4 := Lib.hid (B3.out.trans (hv1.mono B3.out.size)); clear hv1))
          go_upto_region 18 with (first | (refine wpList_load_nd_g _ ?_ (.tmp 5) rfl w.heap.size rfl n N4.out ?_; rotate_right) | (go_at_call 7; (with_reducible refine (LB.out _ B4.out).mono ?_); rintro e v2 ⟨rfl, hv2⟩; have N5 := Lib.hid (N4.out.below hv2 (blk_lt N4.out)); have B5 := Lib.hid (B4.out.trans (hv2.mono B4.out.size)); clear hv2))
          go_wp2_with (first
            | (refine wpList_load_nd_g _ ?_ (.tmp 5) rfl w.heap.size rfl n N5.out ?_; rotate_right)
            | (go_at_call 8; (with_reducible refine (CN2.out _).mono ?_); rintro e v3 ⟨rfl, hv3⟩; have B6 := Lib.hid (B5.out.trans (hv3.mono B5.out.size)); clear hv3)
            | (go_at_call 4; (with_reducible refine (CA.out _ B6.out).mono ?_); rintro e v9 ⟨rfl, hv9⟩))
          go_ret
          exact ⟨rfl, B6.out.trans (hv9.mono B6.out.size)⟩
        | true =>
         as_aux_lemma =>
          have eb : lineE n b = 0 := by unfold lineE; rw [if_pos hkb]
          rw [eb] at lb
          have LB := Lib.hid lb
          have hinj : SA = SB ↔ a = b := by
            rw [hSA, hSB, ← line_inj hiP loP n a b hka hkb]
            refine ⟨fun h => ?_, fun h => by rw [h]⟩
            have := congrArg (fun B : ByteArray => B.data.toList) h
            simpa [bA_list] using this
          obtain ⟨X, hX⟩ : ∃ X, X = bA (tailT hiP loP n) := ⟨_, rfl⟩
          have hca := line_cut hiP loP n a hka
          have hcb := line_cut hiP loP n b hkb
          have hla := lineT_len (lo := loP) HE.out.1.tabs.2.1 n HN.out.1 a
          have hlb := lineT_len (lo := loP) HE.out.1.tabs.2.1 n HN.out.1 b
          have KA := Lib.hid (fun (u : World) (hu : Below w.heap.size w u) => cut_c (HE.out.1.later hu) SA ⟨#[32]⟩ (nmB a) X true (by rw [hSA, bA_size]; omega) (by rw [hSA, hX]; unfold nmB; rw [bA_list, bA_list, bA_list]; exact hca))
          have KB := Lib.hid (fun (u : World) (hu : Below w.heap.size w u) => cut_c (HE.out.1.later hu) SB ⟨#[32]⟩ (nmB b) X true (by rw [hSB, bA_size]; omega) (by rw [hSB, hX]; unfold nmB; rw [bA_list, bA_list, bA_list]; exact hcb))
          obtain ⟨QA, hQA⟩ : ∃ Q, Q = nmB a := ⟨_, rfl⟩
          obtain ⟨QB, hQB⟩ : ∃ Q, Q = nmB b := ⟨_, rfl⟩
          rw [← hQA] at KA
          rw [← hQB] at KB
          have hcase : (a = b ∧ SA = SB) ∨ (¬ a = b ∧ ¬ SA = SB) := by
            by_cases h : a = b
            · exact .inl ⟨h, hinj.2 h⟩
            · exact .inr ⟨h, fun e => h (hinj.1 e)⟩
          clear hSA hSB lb eb hka hkb LN hinj hX hca hcb hla hlb hQA hQB hab1 hab2 hbb1 hbb2 h0 h1
          rcases hcase with ⟨h, hs⟩ | ⟨h, hs⟩
          · subst h
            subst hs
            go_upto_region 17 with (first | (refine wpList_load_nd_g _ ?_ (.tmp 5) rfl w.heap.size rfl n N3.out ?_; rotate_right) | (go_at_call 7; (with_reducible refine (LA.out _ B3.out).mono ?_); rintro e v1 ⟨rfl, hv1⟩; have N4 := Lib.hid (N3.out.below hv1 (blk_lt N3.out)); have B4 := Lib.hid (B3.out.trans (hv1.mono B3.out.size)); clear hv1))
            go_upto_region 18 with (first | (refine wpList_load_nd_g _ ?_ (.tmp 5) rfl w.heap.size rfl n N4.out ?_; rotate_right) | (go_at_call 7; (with_reducible refine (LB.out _ B4.out).mono ?_); rintro e v2 ⟨rfl, hv2⟩; have N5 := Lib.hid (N4.out.below hv2 (blk_lt N4.out)); have B5 := Lib.hid (B4.out.trans (hv2.mono B4.out.size)); clear hv2))
            go_upto_region 22 with (first
              | (refine wpList_load_nd_g _ ?_ (.tmp 5) rfl w.heap.size rfl n N5.out ?_; rotate_right)
              | (go_at_call 8; (with_reducible refine (CN2.out _).mono ?_); rintro e v3 ⟨rfl, hv3⟩; have B6 := Lib.hid (B5.out.trans (hv3.mono B5.out.size)); clear hv3))
            go_upto_region 23 with (go_at_call 9; (with_reducible refine (KA.out _ B6.out).mono ?_); rintro e v4 ⟨rfl, hv4⟩; have B7 := Lib.hid (B6.out.trans (hv4.mono B6.out.size)); clear hv4)
            go_upto_region 24 with (go_at_call 9; (with_reducible refine (KB.out _ B7.out).mono ?_); rintro e v5 ⟨rfl, hv5⟩; have B8 := Lib.hid (B7.out.trans (hv5.mono B7.out.size)); clear hv5)
            go_wp2_with (go_at_call 4; (with_reducible refine (CA.out _ B8.out).mono ?_); rintro e v9 ⟨rfl, hv9⟩)
            go_ret
            exact ⟨rfl, B8.out.trans (hv9.mono B8.out.size)⟩
          · have g1 : (a == b) = false := beq_eq_false_iff_ne.2 h
            have g2 := sbeq hs
            clear h hs
            go_upto_region 17 with (first | (refine wpList_load_nd_g _ ?_ (.tmp 5) rfl w.heap.size rfl n N3.out ?_; rotate_right) | (go_at_call 7; (with_reducible refine (LA.out _ B3.out).mono ?_); rintro e v1 ⟨rfl, hv1⟩; have N4 := Lib.hid (N3.out.below hv1 (blk_lt N3.out)); have B4 := Lib.hid (B3.out.trans (hv1.mono B3.out.size)); clear hv1))
            go_upto_region 18 with (first | (refine wpList_load_nd_g _ ?_ (.tmp 5) rfl w.heap.size rfl n N4.out ?_; rotate_right) | (go_at_call 7; (with_reducible refine (LB.out _ B4.out).mono ?_); rintro e v2 ⟨rfl, hv2⟩; have N5 := Lib.hid (N4.out.below hv2 (blk_lt N4.out)); have B5 := Lib.hid (B4.out.trans (hv2.mono B4.out.size)); clear hv2))
            go_upto_region 22 with (first
              | (refine wpList_load_nd_g _ ?_ (.tmp 5) rfl w.heap.size rfl n N5.out ?_; rotate_right)
              | (go_at_call 8; (with_reducible refine (CN2.out _).mono ?_); rintro e v3 ⟨rfl, hv3⟩; have B6 := Lib.hid (B5.out.trans (hv3.mono B5.out.size)); clear hv3))
            go_upto_region 23 with (go_at_call 9; (with_reducible refine (KA.out _ B6.out).mono ?_); rintro e v4 ⟨rfl, hv4⟩; have B7 := Lib.hid (B6.out.trans (hv4.mono B6.out.size)); clear hv4)
            go_upto_region 24 with (go_at_call 9; (with_reducible refine (KB.out _ B7.out).mono ?_); rintro e v5 ⟨rfl, hv5⟩; have B8 := Lib.hid (B7.out.trans (hv5.mono B7.out.size)); clear hv5)
            go_wp2_with (go_at_call 4; (with_reducible refine (CA.out _ B8.out).mono ?_); rintro e v9 ⟨rfl, hv9⟩)
            go_ret
            exact ⟨rfl, B8.out.trans (hv9.mono B8.out.size)⟩
end Go.Proofs.YtcfokpnoblnidaaGreatDoor.prnw
