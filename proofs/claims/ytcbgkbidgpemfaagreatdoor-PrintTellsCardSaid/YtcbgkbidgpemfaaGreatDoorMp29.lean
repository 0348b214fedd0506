/- burnishref19: the walk of Text: it tells the text that the program tells. Condition: the nodes lie in memory. -/
import Derived.Test.YtcbgkbidgpemfaaGreatDoorMp28
import Derived.Test.YtcbgkbidgpemfaaGreatDoorMp24
import Derived.Test.YtcbgkbidgpemfaaGreatDoorMp20
import Derived.Deep.Slices
import Derived.ChangeSame
import Derived.ChangeArms
import Derived.OpenShut
import Derived.WideShapes
import Derived.Below
namespace Go.Proofs.YtcbgkbidgpemfaaGreatDoor.rh
open Go.RowKit
open Go.Proofs.YtcbgkbidgpemfaaGreatDoor.nodew
open Go.Proofs.YtcbgkbidgpemfaaGreatDoor.rg
open Go.Proofs.YtcbgkbidgpemfaaGreatDoor.chkw
open Go.Proofs.YtcbgkbidgpemfaaGreatDoor.fpm (hh_T)
open Go.Proofs.YtcbgkbidgpemfaaGreatDoor.prnw (Bel bA bA_list bA_of bA_size lineT lineE textT textE textP textP_len lineT_len right_at atN atN_eq hiP loP)

set_option maxRecDepth 100000 in
set_option maxHeartbeats 2000000 in
theorem rtext_any (B : Nat) (v : Value) (l : List Nd) (hok : ∀ n ∈ l, n.ok) (hl : l.length ≤ 1000000000000) (w : World) (hr : NRead w B v l) (hB : B ≤ w.heap.size) :
    Calls Tryz.prog 29 #[v] w (Bel w (.tuple #[.string (bA (textT hiP loP l)), .int .i64 (textE l)])) := by
  have CR := refright_any B v l hok hl w hr hB
  obtain ⟨A, c, rfl, hx⟩ := hr
  have HX := Lib.hid (And.intro hx hB)
  have HO := Lib.hid hok
  cases hq : rightP l with
  | false =>
    have HQ := Lib.hid hq
    rw [hq] at CR
    have HR2 := Lib.hid CR
    clear CR hB hok hq hx
    go_enter Tryz.func29, Tryz.ntmps29
    go_wp2_with (go_at_call 39; (with_reducible refine HR2.out.mono ?_); rintro e w1 ⟨rfl, hb1⟩; have B1 := Lib.hid hb1; clear hb1)
    go_ret2
    refine ⟨?_, B1.out⟩
    unfold textT textE
    rw [if_neg (by rw [HQ.out]; decide), if_neg (by rw [HQ.out]; decide)]
    rfl
  | true =>
    have HQ := Lib.hid hq
    obtain ⟨hl4, hl0, hall⟩ := right_at hq
    rw [hq] at CR
    have HR2 := Lib.hid CR
    clear CR hB hok hq hx hall hl
    go_enter Tryz.func29, Tryz.ntmps29
    go_wp2_with (go_at_call 39; (with_reducible refine HR2.out.mono ?_); rintro e w1 ⟨rfl, hb1⟩; have B1 := Lib.hid hb1; clear hb1)
    go_loopw [4, 5] (fun s4 s5 wr => ∃ (k : Nat) (t : ByteArray), k ≤ l.length ∧ s5 = .int .i64 k ∧ s4 = .string t ∧ t = bA (textP hiP loP l k) ∧ Below w.heap.size w wr) (fun _ s5 _ => l.length - (intOf s5).toNat)
    case atStart => exact ⟨0, _, Nat.zero_le _, rfl, rfl, rfl, B1.out⟩
    case round =>
      obtain ⟨k, t, hk, rfl, rfl, ht, hBr⟩ := hrel
      have hts : t.size ≤ 20000000 := by
        rw [ht, bA_size]
        have := textP_len (lo := loP) hh_T l HO.out k hk
        omega
      have HT := Lib.hid ht
      clear ht
      by_cases hkl : k < l.length
      · obtain ⟨g, off, rfl, hgB, hgl, hcell⟩ := HX.out.1 (by intro e; subst e; simp at hkl)
        obtain ⟨n, hn⟩ : ∃ n, l[k] = n := ⟨_, rfl⟩
        have hno : n.ok := HO.out n (by rw [← hn]; exact List.getElem_mem hkl)
        have hrg : wr.rangeAt g (off + k * 19) n.cells := fun j u hu => by
          have hj : j < 19 := by have := (List.getElem?_eq_some_iff.1 hu).1; rwa [nd_cells_len] at this
          rw [Nat.add_assoc]
          exact (World.cell?_of_block (a := ⟨g, off + (k * 19 + j), none⟩) (hBr.block g hgl)).trans (hcell (k * 19 + j) u (by rw [ncells_get l k j hkl hj, hn]; exact hu))
        have CL := rline_any n hno (k : Int) wr
        have hls := lineT_len (lo := loP) hh_T n hno (k : Int)
        obtain ⟨S, hS⟩ : ∃ S, bA (lineT hiP loP n (k : Int)) = S := ⟨_, rfl⟩
        have hSs : S.size ≤ 3000 := by rw [← hS, bA_size]; exact hls
        rw [hS] at CL
        have HL := Lib.hid (show Calls Tryz.prog 27 #[.agg n.cells.toArray, .int .i64 (k : Nat)] wr (Bel wr (.tuple #[.string S, .int .i64 (lineE n (k : Int))])) from CL)
        have HN := Lib.hid (And.intro hn hS)
        have HR := Lib.hid hrg
        have HBR := Lib.hid hBr
        have hs1 : (⟨#[10]⟩ : ByteArray).size = 1 := rfl
        have hkli : (k : Int) < (l.length : Int) := by omega
        clear hno hn hcell hrg hBr CL hls hS hgB hgl
        go_wp2_with (first
          | (refine wpList_load_mid rfl 49 (.tmp 20) rfl g (off + k * 19) rfl n.cells _ HR.out Tryz.underlying49 rfl (by kernel_rfl) ?_)
          | (go_at_call 27; (with_reducible refine HL.out.mono ?_); rintro e w2 ⟨rfl, hb2⟩; have B2 := Lib.hid (HBR.out.trans (hb2.mono HBR.out.size)); clear hb2))
        refine ⟨⟨k + 1, t ++ S ++ ⟨#[10]⟩, by omega, by go_num, rfl, ?_, B2.out⟩, by simp only [intOf]; omega⟩
        refine bA_of ?_
        rw [app_list, app_list, HT.out, bA_list, ← HN.out.2, bA_list, List.append_assoc]
        show _ = textP hiP loP l k ++ (lineT hiP loP (atN l k) k ++ [10])
        rw [atN_eq l k hkl, HN.out.1]
      · have hke : k = l.length := by omega
        have HF := Lib.hid (show bA (textT hiP loP l) = t ∧ textE l = 0 from ⟨by
          unfold textT
          rw [if_pos HQ.out, HT.out, hke], by unfold textE; rw [if_pos HQ.out]⟩)
        have HBR := Lib.hid hBr
        have hkli : ¬ (k : Int) < (l.length : Int) := by omega
        clear hke hBr
        go_wp2_with fail
        go_ret2
        exact ⟨by rw [HF.out.1, HF.out.2]; rfl, HBR.out⟩
end Go.Proofs.YtcbgkbidgpemfaaGreatDoor.rh

/- burnishlaw19.awake: the chapter's examples. Condition: the library's tables hold what the row lists. -/
namespace Go.Proofs.YtcbgkbidgpemfaaGreatDoor.prnw
open Go.RowKit
open Go.Shelf
open Go.Sort
open Go.Proofs.YtcbgkbidgpemfaaGreatDoor.nodew
open Go.Proofs.YtcbgkbidgpemfaaGreatDoor.chkw
open Go.Proofs.YtcbgkbidgpemfaaGreatDoor.flatm

theorem nd_eq : ∀ (n u : Nat), 10 ^ n ≤ u → u < 10 ^ (n + 1) → Lib.nDigits u = n + 1
  | 0, u, _, h => Lib.nDigits_small (by simpa using h)
  | n + 1, u, h1, h2 => by
    have h3 : 10 ≤ u := Nat.le_trans (by rw [Nat.pow_succ]; have := Nat.pow_pos (n := n) (show 0 < 10 by decide); omega) h1
    rw [Lib.nDigits_big (by omega), nd_eq n (u / 10) (by rw [Nat.pow_succ] at h1; omega) (by rw [Nat.pow_succ] at h2; omega)]
def trX (u N : Nat) : Nat → Nat
  | 0 => 0
  | n + 1 => if Lib.dg u (N - 1 - n) = 48 then trX u N n else n + 1
theorem tr_x (u N : Nat) (h : Lib.nDigits u = N) : ∀ n, trimTo u n = trX u N n
  | 0 => rfl
  | n + 1 => by
    unfold trimTo trX
    rw [h, tr_x u N h n]
/-- a positive number's text, the count of its digits given -/
def posX (u N : Nat) (p : Int) : List UInt8 := laidT (Lib.dg u (N - 1) :: (List.range (trX u N N - 1)).map fun t => Lib.dg u (N - 1 - (t + 1))) ((N : Nat) + p)
theorem pos_x (hi lo : Nat → Nat) (X u n : Nat) (p : Int) (h : ftR hi lo X = ((u : Int), p)) (h1 : 10 ^ n ≤ u) (h2 : u < 10 ^ (n + 1)) : posT hi lo X = posX u (n + 1) p := by
  have hn := nd_eq n u h1 h2
  unfold posT posD posK posX sdH sdL
  rw [h]
  simp only [Int.toNat_natCast]
  rw [hn, tr_x u (n + 1) hn]
theorem prT_pos (hi lo : Nat → Nat) (x : Nat) (h : prOk x = true) (h0 : x ≠ 0) (h1 : ¬ 9223372036854775808 ≤ x) : prT hi lo x = posT hi lo x := by
  unfold prT
  rw [if_pos h, if_neg h0, if_neg h1]
theorem prT_h : prT hiP loP 4602678819172646912 = [48, 46, 53] := by
  have h := pos_x hiP loP 4602678819172646912 5000000000000000 15 (-16) (by kernel_rfl) (by decide) (by decide)
  exact (prT_pos _ _ _ (by kernel_rfl) (by decide) (by decide)).trans (h.trans (by kernel_rfl))
theorem prT_1 : prT hiP loP 4607182418800017408 = [49] := by
  have h := pos_x hiP loP 4607182418800017408 1000000000000000 15 (-15) (by kernel_rfl) (by decide) (by decide)
  exact (prT_pos _ _ _ (by kernel_rfl) (by decide) (by decide)).trans (h.trans (by kernel_rfl))
theorem prT_q : prT hiP loP 4598175219545276416 = [48, 46, 50, 53] := by
  have h := pos_x hiP loP 4598175219545276416 2500000000000000 15 (-16) (by kernel_rfl) (by decide) (by decide)
  exact (prT_pos _ _ _ (by kernel_rfl) (by decide) (by decide)).trans (h.trans (by kernel_rfl))
theorem prT_0 : prT hiP loP 0 = [48] := by
  unfold prT
  rw [if_pos (by kernel_rfl), if_pos rfl]
theorem itoa_d (k : Nat) (h : k < 10) : Lib.itoa (k : Int) = [UInt8.ofNat (48 + k)] := by
  unfold Lib.itoa
  rw [if_neg (by omega), Int.toNat_natCast, Lib.decDigits, dif_pos h]
/-- the examples' nodes -/
def exL : Nd := ⟨1, [4602678819172646912, 4607182418800017408, 0, 0, 0, 0, 0, 0, 0, 0, 0, 0, 0, 0, 0, 0], 0, 0⟩
def exM : Nd := ⟨5, [0, 0, 0, 0, 0, 0, 0, 0, 0, 0, 0, 0, 0, 0, 0, 4598175219545276416], 0, 1⟩
theorem exL_ok : exL.ok := ⟨rfl, by decide⟩
theorem exM_ok : exM.ok := ⟨rfl, by decide⟩
theorem exL_t : lineT hiP loP exL 0 = [110, 48, 32, 61, 32, 108, 97, 109, 98, 101, 114, 116, 32, 48, 46, 53, 32, 49, 32, 48] ∧ lineE exL 0 = 0 := by
  have ho : lineOk exL 0 = true := by kernel_rfl
  have hn : nmB 0 = ⟨#[110, 48]⟩ := by
    unfold nmB
    rw [show (0 : Int) = ((0 : Nat) : Int) from rfl, itoa_d 0 (by decide)]
    rfl
  have hp : ∀ x l, prT hiP loP x = l → prB hiP loP x = bA l := fun x l h => by unfold prB; rw [h]
  refine ⟨?_, by unfold lineE; rw [if_pos ho]⟩
  have hT : lineT hiP loP exL 0 = Lib.join ((lineL hiP loP exL 0).map (·.data.toList)) [32] := if_pos ho
  have e : lineL hiP loP exL 0 = [⟨#[110, 48]⟩, eqB, wd1, bA [48, 46, 53], bA [49], bA [48]] := by
    show [nmB 0, eqB, wd1, prB hiP loP 4602678819172646912, prB hiP loP 4607182418800017408, prB hiP loP 0] = _
    rw [hn, hp _ _ prT_h, hp _ _ prT_1, hp _ _ prT_0]
  rw [e] at hT
  exact hT.trans (by kernel_rfl)
theorem exM_t : lineT hiP loP exM 2 = [110, 50, 32, 61, 32, 109, 105, 120, 32, 48, 46, 50, 53, 32, 110, 48, 32, 110, 49] ∧ lineE exM 2 = 0 := by
  have ho : lineOk exM 2 = true := by kernel_rfl
  have hn : ∀ k : Nat, k < 10 → nmB (k : Int) = bA [110, UInt8.ofNat (48 + k)] := fun k h => by
    unfold nmB
    rw [itoa_d k h]
  have hp : ∀ x l, prT hiP loP x = l → prB hiP loP x = bA l := fun x l h => by unfold prB; rw [h]
  refine ⟨?_, by unfold lineE; rw [if_pos ho]⟩
  have hT : lineT hiP loP exM 2 = Lib.join ((lineL hiP loP exM 2).map (·.data.toList)) [32] := if_pos ho
  have e : lineL hiP loP exM 2 = [bA [110, 50], eqB, wd5, bA [48, 46, 50, 53], bA [110, 48], bA [110, 49]] := by
    show [nmB ((2 : Nat) : Int), eqB, wd5, prB hiP loP 4598175219545276416, nmB ((0 : Nat) : Int), nmB ((1 : Nat) : Int)] = _
    rw [hn 2 (by decide), hn 0 (by decide), hn 1 (by decide), hp _ _ prT_q]
    rfl
  rw [e] at hT
  exact hT.trans (by kernel_rfl)
theorem exM_w : lineT hiP loP exM 1 = [] ∧ lineE exM 1 = 190 := by
  have ho : lineOk exM 1 = false := by kernel_rfl
  exact ⟨by unfold lineT; rw [if_neg (by rw [ho]; decide)], by unfold lineE; rw [if_neg (by rw [ho]; decide)]⟩
end Go.Proofs.YtcbgkbidgpemfaaGreatDoor.prnw

/- burnishlaw19.awake: the walk. Condition: the library's tables hold what the row lists. -/
namespace Go.Proofs.YtcbgkbidgpemfaaGreatDoor.prnw
open Go.RowKit
open Go.Shelf
open Go.Sort
open Go.Proofs.YtcbgkbidgpemfaaGreatDoor.nodew
open Go.Proofs.YtcbgkbidgpemfaaGreatDoor.chkw
open Go.Proofs.YtcbgkbidgpemfaaGreatDoor.flatm
attribute [local go_sem] nodew.run_store_float

set_option maxRecDepth 100000 in
set_option maxHeartbeats 4000000 in
theorem awake19 (w : World) (hE : Env hiP loP w) (hG : Gl w.heap.size) : Calls Tryz.prog 25 #[] w (Bel w (.bool true)) := by
  have hGW : ∀ n, w.heap.size ≤ n → Gl n := fun n hn => ⟨Nat.lt_of_lt_of_le hG.1 hn, Nat.lt_of_lt_of_le hG.2.1 hn, Nat.lt_of_lt_of_le hG.2.2 hn⟩
  obtain ⟨S0, hS0⟩ : ∃ S, S = bA (lineT hiP loP exL 0) := ⟨_, rfl⟩
  obtain ⟨S2, hS2⟩ : ∃ S, S = bA (lineT hiP loP exM 2) := ⟨_, rfl⟩
  have e0 : (S0 : ByteArray) = ⟨#[110, 48, 32, 61, 32, 108, 97, 109, 98, 101, 114, 116, 32, 48, 46, 53, 32, 49, 32, 48]⟩ := by rw [hS0, exL_t.1]; rfl
  have e2 : (S2 : ByteArray) = ⟨#[110, 50, 32, 61, 32, 109, 105, 120, 32, 48, 46, 50, 53, 32, 110, 48, 32, 110, 49]⟩ := by rw [hS2, exM_t.1]; rfl
  have C0 := Lib.hid (fun (v : World) (hb : Below w.heap.size w v) => show Calls Tryz.prog 26 #[exL.val, .int .i64 0] v (Bel v (.tuple #[.string ⟨#[110, 48, 32, 61, 32, 108, 97, 109, 98, 101, 114, 116, 32, 48, 46, 53, 32, 49, 32, 48]⟩, .int .i64 0])) from by
    have := line_any hiP loP exL exL_ok (by decide) 0 (by decide) (by decide) v (hE.later hb) (hGW _ hb.size)
    rw [exL_t.2, ← hS0, e0] at this
    exact this)
  have C2 := Lib.hid (fun (v : World) (hb : Below w.heap.size w v) => show Calls Tryz.prog 26 #[exM.val, .int .i64 2] v (Bel v (.tuple #[.string ⟨#[110, 50, 32, 61, 32, 109, 105, 120, 32, 48, 46, 50, 53, 32, 110, 48, 32, 110, 49]⟩, .int .i64 0])) from by
    have := line_any hiP loP exM exM_ok (by decide) 2 (by decide) (by decide) v (hE.later hb) (hGW _ hb.size)
    rw [exM_t.2, ← hS2, e2] at this
    exact this)
  have C1 := Lib.hid (fun (v : World) (hb : Below w.heap.size w v) => show Calls Tryz.prog 26 #[exM.val, .int .i64 1] v (Bel v (.tuple #[.string ⟨#[]⟩, .int .i64 190])) from by
    have := line_any hiP loP exM exM_ok (by decide) 1 (by decide) (by decide) v (hE.later hb) (hGW _ hb.size)
    rw [exM_w.2, exM_w.1] at this
    exact this)
  clear hE hG hGW hS0 hS2 e0 e2
  go_enter Tryz.func25, Tryz.ntmps25
  go_upto_region 2 with (refine wpList_store_row rfl 49 (.tmp 1) (.tmp 8) rfl w.heap.size exM.cells.toArray rfl rfl _ _ (heap_alloc_new w _) (nd_info exM) (by rw [nd_size]; rfl) (nd_one exM) ?_)
  obtain ⟨W, hW⟩ : ∃ W, W = (w.alloc (.cells #[.int .u8 0, .float .f64 0, .float .f64 0, .float .f64 0, .float .f64 0, .float .f64 0, .float .f64 0, .float .f64 0, .float .f64 0, .float .f64 0, .float .f64 0, .float .f64 0, .float .f64 0, .float .f64 0, .float .f64 0, .float .f64 0, .float .f64 0, .int .i64 0, .int .i64 0] 49)).setRow w.heap.size exM.cells.toArray := ⟨_, rfl⟩
  have hBW : Below w.heap.size w W := by rw [hW]; exact below_setRow ((Below.refl _ _).alloc (Nat.le_refl _) _) (Nat.le_refl _) _
  have hNB : NBlk W w.heap.size exM := by rw [hW]; exact setRow_heap _ _ _ _ _ _ (heap_alloc_new w _)
  rw [← hW]
  have B0 := Lib.hid hBW
  have N0 := Lib.hid hNB
  clear hW hBW hNB
  go_upto_region 3 with (refine (C0.out _ B0.out).mono ?_; rintro e v1 ⟨rfl, hb1⟩; have N1 := Lib.hid (N0.out.below hb1 (blk_lt N0.out)); have B1 := Lib.hid (B0.out.trans (hb1.mono B0.out.size)); clear hb1)
  go_upto_region 4 with (first | (refine wpList_load_nd_g _ ?_ (.tmp 1) rfl w.heap.size rfl exM N1.out ?_; rotate_right) | (refine (C2.out _ B1.out).mono ?_; rintro e v2 ⟨rfl, hb2⟩; have N2 := Lib.hid (N1.out.below hb2 (blk_lt N1.out)); have B2 := Lib.hid (B1.out.trans (hb2.mono B1.out.size)); clear hb2))
  go_wp2_with (first | (refine wpList_load_nd_g _ ?_ (.tmp 1) rfl w.heap.size rfl exM N2.out ?_; rotate_right) | (refine (C1.out _ B2.out).mono ?_; rintro e v3 ⟨rfl, hb3⟩; have B3 := Lib.hid (B2.out.trans (hb3.mono B2.out.size)); clear hb3))
  go_ret
  exact ⟨rfl, B3.out⟩
end Go.Proofs.YtcbgkbidgpemfaaGreatDoor.prnw

/- The walk of burnishlaw19.PrintTells. Conditions: the nodes lie in memory; the library's tables hold what the row lists. -/
namespace Go.Proofs.YtcbgkbidgpemfaaGreatDoor.rh
open Go.RowKit
open Go.BigFrame
open Go.Proofs.YtcbgkbidgpemfaaGreatDoor.nodew
open Go.Proofs.YtcbgkbidgpemfaaGreatDoor.rg
open Go.Proofs.YtcbgkbidgpemfaaGreatDoor.chkw
open Go.Proofs.YtcbgkbidgpemfaaGreatDoor.prnw (Bel Env Gl bA lineT lineE textT textE hiP loP awake19 line_all text_any)

set_option maxRecDepth 100000 in
set_option maxHeartbeats 4000000 in
theorem ptells_any (B : Nat) (n : Nd) (hn : n.ok) (hkd : n.kind < 256) (at_ : Int) (v : Value) (l : List Nd) (hok : ∀ n ∈ l, n.ok) (hkl : ∀ n ∈ l, n.kind < 256) (w : World) (hr : NRead w B v l) (hB : B ≤ w.heap.size) (hE : Env hiP loP w) (hG : Gl w.heap.size) :
    Calls Tryz.prog 5 #[n.val, .int .i64 at_, v] w (Bel w (.bool true)) := by
  obtain ⟨A, c, rfl⟩ : ∃ A c, v = .slice A l.length c := by
    obtain ⟨A, c, hv, _⟩ := hr
    exact ⟨A, c, hv⟩
  have hGW : ∀ m, w.heap.size ≤ m → Gl m := fun m hm => ⟨Nat.lt_of_lt_of_le hG.1 hm, Nat.lt_of_lt_of_le hG.2.1 hm, Nat.lt_of_lt_of_le hG.2.2 hm⟩
  have CA := Lib.hid (fun (u : World) (hb : Below w.heap.size w u) => awake19 u (hE.later hb) (hGW _ hb.size))
  obtain ⟨S1, hS1⟩ : ∃ S, bA (lineT hiP loP n at_) = S := ⟨_, rfl⟩
  obtain ⟨S2, hS2⟩ : ∃ S, bA (textT hiP loP l) = S := ⟨_, rfl⟩
  obtain ⟨E1, hE1⟩ : ∃ E, lineE n at_ = E := ⟨_, rfl⟩
  obtain ⟨E2, hE2⟩ : ∃ E, textE l = E := ⟨_, rfl⟩
  have CL := fun (u : World) (hb : Below w.heap.size w u) => line_all hiP loP n hn hkd at_ u (hE.later hb) (hGW _ hb.size)
  have CM := fun (u : World) => rline_any n hn at_ u
  have hnr : ∀ u : World, Below w.heap.size w u → NRead u B (.slice A l.length c) l := fun u hb => hr.keep hb.size (fun g _ hg => hb.block g hg)
  rw [hS1, hE1] at CL CM
  go_enter Tryz.func5, Tryz.ntmps5
  go_upto_region 0 with (fail)
  refine wp_region_lit ?_
  refine wl_val rfl _ (exec_box (.tmp 0) rfl _ _ n rfl) ?_
  have hbx := (Below.refl w.heap.size w).alloc (Nat.le_refl _) (.cells n.cells.toArray 49)
  have hnb := heap_alloc_new w (.cells n.cells.toArray 49)
  obtain ⟨W, hW⟩ : ∃ W, W = w.alloc (.cells n.cells.toArray 49) := ⟨_, rfl⟩
  have hWz : w.heap.size < W.heap.size := by rw [hW]; simp
  rw [← hW] at hbx hnb ⊢
  have hnb : NBlk W w.heap.size n := hnb
  obtain ⟨nb, hnbe⟩ : ∃ nb, nb = w.heap.size := ⟨_, rfl⟩
  have hnz : nb < W.heap.size := by omega
  rw [← hnbe] at hnb ⊢
  have HBX := Lib.hid hbx
  have HNB := Lib.hid hnb
  have HR := Lib.hid (And.intro hnr (And.intro hE (And.intro hGW (And.intro hB (And.intro hok hkl)))))
  have HCL := Lib.hid CL
  have HCM := Lib.hid CM
  have HS := Lib.hid (And.intro hS2 hE2)
  clear hW hbx hnb hnbe hE hG hGW hnr hr hB hok hkl hn hkd CL CM hS1 hS2 hE1 hE2
  by_cases h40 : 40 < l.length
  · have d1 : decide (40 < l.length) = true := decide_eq_true h40
    have d2 : (40 : Int) < (l.length : Int) := by omega
    clear h40
    go_wp2_with (go_at_call 25; (with_reducible refine (CA.out _ HBX.out).mono ?_); rintro e w1 ⟨rfl, hb1⟩; have B1 := Lib.hid (HBX.out.trans (hb1.mono HBX.out.size)); clear hb1)
    go_ret
    exact ⟨rfl, B1.out⟩
  · have d1 : decide (40 < l.length) = false := decide_eq_false h40
    have d2 : ¬ (40 : Int) < (l.length : Int) := by omega
    clear h40
    have CT := fun (u : World) (hb : Below w.heap.size w u) => text_any hiP loP B (.slice A l.length c) l HR.out.2.2.2.2.1 HR.out.2.2.2.2.2 (by omega) u (HR.out.1 u hb) (Nat.le_trans HR.out.2.2.2.1 hb.size) (HR.out.2.1.later hb) (HR.out.2.2.1 _ hb.size)
    have CU := fun (u : World) (hb : Below w.heap.size w u) => rtext_any B (.slice A l.length c) l HR.out.2.2.2.2.1 (by omega) u (HR.out.1 u hb) (Nat.le_trans HR.out.2.2.2.1 hb.size)
    rw [HS.out.1, HS.out.2] at CT CU
    have HCT := Lib.hid CT
    have HCU := Lib.hid CU
    have t1 : (S1.toList == S1.toList) = true := by simp
    have t2 : (S2.toList == S2.toList) = true := by simp
    clear CT CU HR HS
    go_wp2_with (first
      | (refine wpList_load_nd_g _ ?_ (.tmp 3) rfl nb rfl n HNB.out ?_; rotate_right)
      | (refine wpList_load_nd_g _ ?_ (.tmp 3) rfl nb rfl n N1.out ?_; rotate_right)
      | (go_at_call 26; (with_reducible refine (HCL.out _ HBX.out).mono ?_); rintro e w1 ⟨rfl, hb1⟩; have B1 := Lib.hid (HBX.out.trans (hb1.mono HBX.out.size)); have N1 := Lib.hid (HNB.out.below hb1 hnz); clear hb1)
      | (go_at_call 27; (with_reducible refine (HCM.out _).mono ?_); rintro e w2 ⟨rfl, hb2⟩; have B2 := Lib.hid (B1.out.trans (hb2.mono B1.out.size)); clear hb2)
      | (go_at_call 28; (with_reducible refine (HCT.out _ B2.out).mono ?_); rintro e w3 ⟨rfl, hb3⟩; have B3 := Lib.hid (B2.out.trans (hb3.mono B2.out.size)); clear hb3)
      | (go_at_call 29; (with_reducible refine (HCU.out _ B3.out).mono ?_); rintro e w4 ⟨rfl, hb4⟩; have B4 := Lib.hid (B3.out.trans (hb4.mono B3.out.size)); clear hb4)
      | (go_at_call 25; (with_reducible refine (CA.out _ B4.out).mono ?_); rintro e w5 ⟨rfl, hb5⟩; have B5 := Lib.hid (B4.out.trans (hb5.mono B4.out.size)); clear hb5))
    go_ret
    exact ⟨rfl, B5.out⟩
end Go.Proofs.YtcbgkbidgpemfaaGreatDoor.rh

/- (As XFlaD, with the kind's bound.) What a node, and a slice of nodes, that the row reads is. No conditions. -/
namespace Go.Proofs.YtcbgkbidgpemfaaGreatDoor.prnw
open Go.RowKit
open Go.Proofs.YtcbgkbidgpemfaaGreatDoor.nodew
open Go.Proofs.YtcbgkbidgpemfaaGreatDoor.chkw
open Go.ChangeShapes Go.WideShapes Go.Deep

section
variable {H : Type} {enc : TypeId × Value → H} {w : World} {base : Nat} {sp : Nat → Bool} {held : Bool}
/-- a node's numbers are numbers, its kind a byte -/
def okk (n : Nd) : Prop := n.ok ∧ n.kind < 256
theorem float_gen {t : TypeId} {k : FloatKind} {fuel : Nat} {cs : List Value} {x : DataW H × List MemPlace} (ht : Tryz.prog.underlying t = some (.float k)) (h : DataW.trod enc Tryz.prog w base sp held fuel t cs = some x) : ∃ n, cs = [.float k n] ∧ (Lit.float k n).wf = true := by
  cases fuel with
  | zero => simp [DataW.trod] at h
  | succ n =>
    unfold DataW.trod at h
    rw [ht] at h
    split at h <;> simp_all
theorem float_of {t : TypeId} {fuel : Nat} {cs : List Value} {x : DataW H × List MemPlace} (ht : Tryz.prog.underlying t = some (.float .f64)) (h : DataW.trod enc Tryz.prog w base sp held fuel t cs = some x) : ∃ n, cs = [.float .f64 n] ∧ n < 18446744073709551616 := by
  obtain ⟨n, hc, hw⟩ := float_gen ht h
  exact ⟨n, hc, by simpa [Lit.wf] using hw⟩
theorem cells_u8 : Tryz.prog.cellsOf 5 = 1 := by kernel_rfl
theorem cells_int : Tryz.prog.cellsOf 3 = 1 := by kernel_rfl
theorem cells_f64 : Tryz.prog.cellsOf 46 = 1 := by kernel_rfl
theorem cells_arr : Tryz.prog.cellsOf 47 = 3 := by kernel_rfl
theorem cells_node : Tryz.prog.cellsOf 49 = 19 := by kernel_rfl
theorem arr_of {fuel : Nat} {c1 c2 c3 : Value} {x : DataW H × List MemPlace} (h : DataW.trod enc Tryz.prog w base sp held fuel 47 [c1, c2, c3] = some x) :
    ∃ a b c, c1 = .float .f64 a ∧ c2 = .float .f64 b ∧ c3 = .float .f64 c ∧ a < 18446744073709551616 ∧ b < 18446744073709551616 ∧ c < 18446744073709551616 := by
  obtain ⟨xs, m, _, _, _, hlen, hf⟩ := DataW.trod_array Tryz.underlying47 h
  have g := fun i (hi : i < xs.length) => List.getElem?_eq_getElem hi
  have h0 := (hf 0 (by omega)).trans (g 0 (by omega))
  have h1 := (hf 1 (by omega)).trans (g 1 (by omega))
  have h2 := (hf 2 (by omega)).trans (g 2 (by omega))
  simp only [cells_f64] at h0 h1 h2
  obtain ⟨a, ha, la⟩ := float_of Tryz.underlying46 h0
  obtain ⟨b, hb, lb⟩ := float_of Tryz.underlying46 h1
  obtain ⟨c, hc, lc⟩ := float_of Tryz.underlying46 h2
  simp at ha hb hc
  exact ⟨a, b, c, ha, hb, hc, la, lb, lc⟩
set_option maxRecDepth 100000 in
theorem nd_of_trod {fuel : Nat} {cs : List Value} {x : DataW H × List MemPlace} (h : DataW.trod enc Tryz.prog w base sp held fuel 49 cs = some x) : ∃ n : Nd, cs = n.cells ∧ okk n := by
  obtain ⟨xs, m, _, _, hl, hlen, hf⟩ := DataW.trod_struct Tryz.underlying49 h
  rw [cells_node] at hl
  match cs, hl with
  | [c0, c1, c2, c3, c4, c5, c6, c7, c8, c9, c10, c11, c12, c13, c14, c15, c16, c17, c18], _ =>
    have g := fun i (hi : i < xs.length) => List.getElem?_eq_getElem hi
    have hlen' : xs.length = 11 := hlen
    have h0 := (hf 0 _ rfl).trans (g 0 (by omega))
    change DataW.trod enc Tryz.prog w base sp held m 5 ((List.drop 0 [c0, c1, c2, c3, c4, c5, c6, c7, c8, c9, c10, c11, c12, c13, c14, c15, c16, c17, c18]).take (Tryz.prog.cellsOf 5)) = _ at h0
    rw [cells_u8] at h0
    change DataW.trod enc Tryz.prog w base sp held m 5 [c0] = _ at h0
    have h1 := (hf 1 _ rfl).trans (g 1 (by omega))
    change DataW.trod enc Tryz.prog w base sp held m 47 ((List.drop 1 [c0, c1, c2, c3, c4, c5, c6, c7, c8, c9, c10, c11, c12, c13, c14, c15, c16, c17, c18]).take (Tryz.prog.cellsOf 47)) = _ at h1
    rw [cells_arr] at h1
    change DataW.trod enc Tryz.prog w base sp held m 47 [c1, c2, c3] = _ at h1
    have h2 := (hf 2 _ rfl).trans (g 2 (by omega))
    change DataW.trod enc Tryz.prog w base sp held m 47 ((List.drop 4 [c0, c1, c2, c3, c4, c5, c6, c7, c8, c9, c10, c11, c12, c13, c14, c15, c16, c17, c18]).take (Tryz.prog.cellsOf 47)) = _ at h2
    rw [cells_arr] at h2
    change DataW.trod enc Tryz.prog w base sp held m 47 [c4, c5, c6] = _ at h2
    have h3 := (hf 3 _ rfl).trans (g 3 (by omega))
    change DataW.trod enc Tryz.prog w base sp held m 47 ((List.drop 7 [c0, c1, c2, c3, c4, c5, c6, c7, c8, c9, c10, c11, c12, c13, c14, c15, c16, c17, c18]).take (Tryz.prog.cellsOf 47)) = _ at h3
    rw [cells_arr] at h3
    change DataW.trod enc Tryz.prog w base sp held m 47 [c7, c8, c9] = _ at h3
    have h4 := (hf 4 _ rfl).trans (g 4 (by omega))
    change DataW.trod enc Tryz.prog w base sp held m 47 ((List.drop 10 [c0, c1, c2, c3, c4, c5, c6, c7, c8, c9, c10, c11, c12, c13, c14, c15, c16, c17, c18]).take (Tryz.prog.cellsOf 47)) = _ at h4
    rw [cells_arr] at h4
    change DataW.trod enc Tryz.prog w base sp held m 47 [c10, c11, c12] = _ at h4
    have h5 := (hf 5 _ rfl).trans (g 5 (by omega))
    change DataW.trod enc Tryz.prog w base sp held m 46 ((List.drop 13 [c0, c1, c2, c3, c4, c5, c6, c7, c8, c9, c10, c11, c12, c13, c14, c15, c16, c17, c18]).take (Tryz.prog.cellsOf 46)) = _ at h5
    rw [cells_f64] at h5
    change DataW.trod enc Tryz.prog w base sp held m 46 [c13] = _ at h5
    have h6 := (hf 6 _ rfl).trans (g 6 (by omega))
    change DataW.trod enc Tryz.prog w base sp held m 46 ((List.drop 14 [c0, c1, c2, c3, c4, c5, c6, c7, c8, c9, c10, c11, c12, c13, c14, c15, c16, c17, c18]).take (Tryz.prog.cellsOf 46)) = _ at h6
    rw [cells_f64] at h6
    change DataW.trod enc Tryz.prog w base sp held m 46 [c14] = _ at h6
    have h7 := (hf 7 _ rfl).trans (g 7 (by omega))
    change DataW.trod enc Tryz.prog w base sp held m 46 ((List.drop 15 [c0, c1, c2, c3, c4, c5, c6, c7, c8, c9, c10, c11, c12, c13, c14, c15, c16, c17, c18]).take (Tryz.prog.cellsOf 46)) = _ at h7
    rw [cells_f64] at h7
    change DataW.trod enc Tryz.prog w base sp held m 46 [c15] = _ at h7
    have h8 := (hf 8 _ rfl).trans (g 8 (by omega))
    change DataW.trod enc Tryz.prog w base sp held m 46 ((List.drop 16 [c0, c1, c2, c3, c4, c5, c6, c7, c8, c9, c10, c11, c12, c13, c14, c15, c16, c17, c18]).take (Tryz.prog.cellsOf 46)) = _ at h8
    rw [cells_f64] at h8
    change DataW.trod enc Tryz.prog w base sp held m 46 [c16] = _ at h8
    have h9 := (hf 9 _ rfl).trans (g 9 (by omega))
    change DataW.trod enc Tryz.prog w base sp held m 3 ((List.drop 17 [c0, c1, c2, c3, c4, c5, c6, c7, c8, c9, c10, c11, c12, c13, c14, c15, c16, c17, c18]).take (Tryz.prog.cellsOf 3)) = _ at h9
    rw [cells_int] at h9
    change DataW.trod enc Tryz.prog w base sp held m 3 [c17] = _ at h9
    have h10 := (hf 10 _ rfl).trans (g 10 (by omega))
    change DataW.trod enc Tryz.prog w base sp held m 3 ((List.drop 18 [c0, c1, c2, c3, c4, c5, c6, c7, c8, c9, c10, c11, c12, c13, c14, c15, c16, c17, c18]).take (Tryz.prog.cellsOf 3)) = _ at h10
    rw [cells_int] at h10
    change DataW.trod enc Tryz.prog w base sp held m 3 [c18] = _ at h10
    obtain ⟨k, ek, -, wk⟩ := DataW.trod_int Tryz.underlying5 h0
    obtain ⟨f1, f2, f3, rfl, rfl, rfl, l1, l2, l3⟩ := arr_of h1
    obtain ⟨f4, f5, f6, rfl, rfl, rfl, l4, l5, l6⟩ := arr_of h2
    obtain ⟨f7, f8, f9, rfl, rfl, rfl, l7, l8, l9⟩ := arr_of h3
    obtain ⟨f10, f11, f12, rfl, rfl, rfl, l10, l11, l12⟩ := arr_of h4
    obtain ⟨f13, e13, l13⟩ := float_of Tryz.underlying46 h5
    obtain ⟨f14, e14, l14⟩ := float_of Tryz.underlying46 h6
    obtain ⟨f15, e15, l15⟩ := float_of Tryz.underlying46 h7
    obtain ⟨f16, e16, l16⟩ := float_of Tryz.underlying46 h8
    obtain ⟨a, ea, -, -⟩ := DataW.trod_int Tryz.underlying3 h9
    obtain ⟨b, eb, -, -⟩ := DataW.trod_int Tryz.underlying3 h10
    have ek : c0 = .int .u8 k := by simpa using ek
    have e13 : c13 = .float .f64 f13 := by simpa using e13
    have e14 : c14 = .float .f64 f14 := by simpa using e14
    have e15 : c15 = .float .f64 f15 := by simpa using e15
    have e16 : c16 = .float .f64 f16 := by simpa using e16
    have ea : c17 = .int .i64 a := by simpa using ea
    have eb : c18 = .int .i64 b := by simpa using eb
    subst ek e13 e14 e15 e16 ea eb
    have hk9 : 0 ≤ k ∧ k ≤ 255 := by simpa [Lit.wf, IntKind.min, IntKind.max, IntKind.signed, IntKind.bits] using wk
    have hk0 := hk9.1
    refine ⟨⟨k.toNat, [f1, f2, f3, f4, f5, f6, f7, f8, f9, f10, f11, f12, f13, f14, f15, f16], a, b⟩, ?_, ⟨rfl, ?_⟩, by show k.toNat < 256; omega⟩
    · have : ((k.toNat : Nat) : Int) = k := Int.toNat_of_nonneg hk0
      simp [Nd.cells, Nd.f, this]
    · intro v hv
      simp only [List.mem_cons, List.not_mem_nil, or_false] at hv
      omega

/-- a slice of nodes that comes in -/
theorem nodes_of {fuel : Nat} {v : Value} {x : DataW H × List MemPlace} (hv : ∃ a len cap, v = .slice a len cap) (h : DataW.trod enc Tryz.prog w base (fun _ => true) held fuel 34 v.cells.toList = some x) : ∃ l : List Nd, NArg w w.heap.size v l ∧ ∀ y ∈ l, okk y := by
  obtain ⟨va, vl, vc, rfl⟩ := hv
  have h' : DataW.trod enc Tryz.prog w base (fun _ => true) held fuel 34 [.slice va vl vc] = some x := h
  rcases open_slice Tryz.underlying34 h' with ⟨hcs, _⟩ | ⟨a, len, cap, m, n, D, Pl, hcs, hb, hl, hm, hmm, hx, hi⟩
  · simp only [List.cons.injEq, and_true] at hcs
    exact ⟨[], ⟨none, 0, hcs, by simp, fun _ => rfl, fun h => absurd rfl h⟩, (fun y hy => by cases hy)⟩
  · simp only [List.cons.injEq, and_true] at hcs
    have hml : len ≤ m := by rw [hmm]; simp; exact hl
    have hnd : ∀ i, i < len → ∃ y : Nd, okk y ∧ ∀ j u, y.cells[j]? = some u → w.cell? (a.add (i * 19 + j)) = some u := fun i hil => by
      obtain ⟨cs', hc, ht⟩ := hi i (by omega)
      rw [cells_node] at hc
      obtain ⟨y, hy, hyo⟩ := nd_of_trod ht
      obtain ⟨_, hcl, hat⟩ := World.cells?_some hc
      refine ⟨y, hyo, fun j u hu => ?_⟩
      have hj : j < 19 := by have := (List.getElem?_eq_some_iff.1 hu).1; rwa [nd_cells_len] at this
      have := hat j hj
      rw [Go.Deep.add_add] at this
      rw [this, hy]
      exact hu
    have hall : ∀ k, k ≤ len → ∃ l : List Nd, l.length = k ∧ (∀ y ∈ l, okk y) ∧ ∀ j u, (ncells l)[j]? = some u → w.cell? (a.add j) = some u := by
      intro k
      induction k with
      | zero => exact fun _ => ⟨[], rfl, (fun y hy => by cases hy), (fun j u hu => by simp [ncells] at hu)⟩
      | succ k ih =>
        intro hk
        obtain ⟨l, hll, hlo, hlc⟩ := ih (by omega)
        obtain ⟨y, hyo, hyc⟩ := hnd k (by omega)
        refine ⟨l ++ [y], by rw [List.length_append, hll]; rfl, fun z hz => ?_, fun j u hu => ?_⟩
        · rcases List.mem_append.1 hz with hz | hz
          · exact hlo z hz
          · have : z = y := by simpa using hz
            rw [this]; exact hyo
        · rw [ncells_snoc] at hu
          by_cases hj : j < (ncells l).length
          · rw [List.getElem?_append_left hj] at hu; exact hlc j u hu
          · rw [List.getElem?_append_right (by omega)] at hu
            have := hyc _ u hu
            rw [ncells_len, hll] at this hj
            rwa [show k * 19 + (j - k * 19) = j by omega] at this
    obtain ⟨l, hll, hlo, hlc⟩ := hall len (Nat.le_refl _)
    refine ⟨l, ⟨some a, cap, by rw [hcs, hll], by omega, fun h => by simp at h, fun h0 => ?_⟩, hlo⟩
    have hpos : 0 < l.length := List.length_pos_iff.2 h0
    have h00 : (ncells l)[0]? = some ((ncells l)[0]'(by rw [ncells_len]; omega)) := List.getElem?_eq_getElem _
    have hc0 := hlc 0 _ h00
    have ha0 : a.add 0 = a := by unfold Addr.add; simp
    rw [ha0] at hc0
    obtain ⟨g, off, spot⟩ := a
    have hspot : spot = none := by
      cases spot with
      | none => rfl
      | some p => unfold World.cell? at hc0; split at hc0 <;> simp at hc0
    subst hspot
    have hgl : g < w.heap.size := World.block_lt_of_cell? w _ hc0
    refine ⟨g, off, rfl, hgl, hgl, fun j u hu => ?_⟩
    have := hlc j u hu
    have hadd : (⟨g, off, none⟩ : Addr).add j = ⟨g, off + j, none⟩ := by unfold Addr.add; split <;> simp_all
    rwa [hadd] at this
end

end Go.Proofs.YtcbgkbidgpemfaaGreatDoor.prnw

/- A small lemma for every law of this seat: what has only grown is as the row asks. Its text is the guide's (extra-small), as the guide bids to copy it. -/
namespace Go.Proofs.YtcbgkbidgpemfaaGreatDoor.post
open Go.RowKit Go.WideShapes Go.ChangeShapes
section
variable {H : Type} {enc : TypeId × Value → H} {P : Program}
theorem post_of_below {f : Func} {s : ChangeSpec} {apart fresh handsOn again : Bool} {W W' : World} {args : Array Value} {v : Value} {ds gs : List (DataW H)} {before pa pv : List MemPlace}
    (hW : DataW.Whole enc P f.params.toList s.vars apart W args.toList ds gs before)
    (hres : ∀ (b : Nat) (sp : Nat → Bool) (hd : Bool), DataW.TrodAll enc P W' b sp hd f.resultTypes.toList (v.resultList f.resultTypes.size) (s.fn H (ds ++ gs)).results [])
    (hargs : ∀ sp : Nat → Bool, (∀ p ∈ before, sp p.block = true) → DataW.TrodAll enc P W' 0 sp true f.params.toList args.toList (s.fn H (ds ++ gs)).args pa)
    (hvars : ∀ sp : Nat → Bool, (∀ p ∈ before, sp p.block = true) → DataW.TrodVars enc P W' sp s.vars (s.fn H (ds ++ gs)).vars pv)
    (hps : before = pa ++ pv) (hb : Below W.heap.size W W')
    (hok : ∀ (j : Nat) (t : TypeId) (r : Value), f.resultTypes[j]? = some t → (v.resultList f.resultTypes.size)[j]? = some r → Value.okWide P W' .any 0 t r) :
    s.post enc P f apart fresh handsOn again W args v W' := by
  have hlt : ∀ p ∈ before, p.block < W.heap.size := fun p hp => hW.lt p hp
  have hold : ∀ p ∈ before, (fun b => decide (b < W.heap.size)) p.block = true := fun p hp => by simpa using hlt p hp
  refine ⟨ds, gs, before, [], pa, pv, hW, hres _ _ _, hargs _ hold, hvars _ hold, World.keptBut_mono (fun p hp => ⟨hp, ?_⟩) (hb.frame (· ∈ before)), fun _ => ?_⟩
  · rw [hps, List.mem_append] at hp
    exact Or.inr hp
  · obtain ⟨_, _, _, _, _, hz, hn⟩ := hW
    refine ⟨hok, _, _, ([] ++ pa) ++ pv, ⟨[] ++ pa, pv, trodAll_append (hargs _ (fun _ _ => rfl)) (hres _ _ _), hvars _ (fun _ _ => rfl), rfl, ?_, ?_⟩, ?_⟩
    · intro b off hp
      have hin : MemPlace.cell b off ∈ before := by rw [hps]; simpa using hp
      rw [hb.frozen (hlt _ hin)]
      exact hz b off hin
    · intro ha
      have := hn ha
      rw [hps] at this
      simpa using this
    · intro p hp _
      rw [hps]
      simpa using hp
end
end Go.Proofs.YtcbgkbidgpemfaaGreatDoor.post
