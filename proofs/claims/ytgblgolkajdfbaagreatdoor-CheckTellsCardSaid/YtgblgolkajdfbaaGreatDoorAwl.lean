/- The walk of burnishlaw18.awake. Condition: three of strconv's variables hold what the program's text lays. -/
import Derived.Test.YtgblgolkajdfbaaGreatDoorAwk
namespace Go.Proofs.YtgblgolkajdfbaaGreatDoor.chkw
open Go.RowKit
open Go.Proofs.YtgblgolkajdfbaaGreatDoor.lexm
open Go.Proofs.YtgblgolkajdfbaaGreatDoor.lexw
open Go.Proofs.YtgblgolkajdfbaaGreatDoor.parw
open Go.Proofs.YtgblgolkajdfbaaGreatDoor.flow
open Go.Proofs.YtgblgolkajdfbaaGreatDoor.awaw
open Go.Proofs.YtgblgolkajdfbaaGreatDoor.nodew
open Go.Proofs.YtgblgolkajdfbaaGreatDoor.qt
open Go.BigFrame

theorem NRead.of_own {W : World} {base : Nat} {v : Value} {l : List Nd} (h : W.ownsRow base 25 19 v l.length (ncells l)) : NRead W W.heap.size v l := by
  rcases h.2 with ⟨rfl, hn⟩ | ⟨g, cap, cur, rfl, _, hgg, _⟩
  · exact ⟨_, _, by rw [hn], fun h0 => absurd (List.eq_nil_of_length_eq_zero hn) h0⟩
  · refine ⟨_, _, rfl, fun _ => ⟨g, 0, rfl, (Array.getElem?_eq_some_iff.1 hgg).1, (Array.getElem?_eq_some_iff.1 hgg).1, fun j u hu => ?_⟩⟩
    have hc := h.cells (g := g) rfl j u hu
    have hadd : (⟨g, 0, none⟩ : Addr).add j = ⟨g, j, none⟩ := by unfold Addr.add; split <;> simp_all
    rw [hadd] at hc
    rw [Nat.zero_add]
    exact hc
theorem NRead.mono {W : World} {B B' : Nat} {v : Value} {l : List Nd} (h : NRead W B v l) (hb : B ≤ B') : NRead W B' v l := by
  obtain ⟨A, c, hv, hx⟩ := h
  refine ⟨A, c, hv, fun h0 => ?_⟩
  obtain ⟨g, off, hA, hg, hgl, hcell⟩ := hx h0
  exact ⟨g, off, hA, by omega, hgl, hcell⟩
theorem NRead.ext {W u : World} {B : Nat} {v : Value} {l : List Nd} (h : NRead W B v l) (hb : Below W.heap.size W u) : NRead u B v l :=
  h.keep hb.size fun g _ hg => hb.block g hg

set_option maxRecDepth 100000 in
set_option maxHeartbeats 4000000 in
theorem awake18 (B : Nat) (w : World) (hw : Laid B w) (hB : B ≤ w.heap.size) : Calls Tryz.prog 8 #[] w fun e w' => e = .returned (.bool true) ∧ Below w.heap.size w w' := by
  have HW := Lib.hid hw
  have hc0 := of18_0 B w hw hB
  clear hw
  go_enter Tryz.func8, Tryz.ntmps8
  go_wp2_with fail
  refine hc0.mono ?_
  rintro e w1 ⟨o, rfl, ho, hB1⟩
  have hs1 := hB1.size
  have hR1 := NRead.of_own ho
  have HR1 := Lib.hid hR1
  have HB1 := Lib.hid hB1
  clear hc0 ho hB1 hR1
  go_wp2_with fail
  have hcs : ∃ X, X = w1.alloc (.cells (ncells wantL).toArray 25) := ⟨_, rfl⟩
  obtain ⟨X, hX⟩ := hcs
  have hbx : Below w1.heap.size w1 X := by rw [hX]; exact (Below.refl _ _).alloc (Nat.le_refl _) _
  have hown : X.ownsRow w1.heap.size 25 19 (.slice (some ⟨w1.heap.size, 0, none⟩) 2 2) 2 (ncells wantL) := by
    rw [hX]; exact own_new w1 w1.heap.size w1.heap.size rfl (Nat.le_refl _) _ 19 2 (ncells wantL) rfl (by decide)
  have hxe : X = w1.alloc (.cells #[.int .u8 1, .float .f64 4602678819172646912, .float .f64 4607182418800017408, .float .f64 0, .float .f64 0, .float .f64 0, .float .f64 0, .float .f64 0, .float .f64 0, .float .f64 0, .float .f64 0, .float .f64 0, .float .f64 0, .float .f64 0, .float .f64 0, .float .f64 0, .float .f64 0, .int .i64 0, .int .i64 0, .int .u8 6, .float .f64 0, .float .f64 0, .float .f64 0, .float .f64 4607182418800017408, .float .f64 4607182418800017408, .float .f64 4607182418800017408, .float .f64 0, .float .f64 0, .float .f64 0, .float .f64 0, .float .f64 0, .float .f64 0, .float .f64 0, .float .f64 0, .float .f64 4609434218613702656, .float .f64 0, .int .i64 0, .int .i64 0] 25) := hX
  rw [← hxe]
  clear hxe hX
  have hR2 := NRead.of_own (l := wantL) hown
  have hR1 := NRead.mono (NRead.ext HR1.out hbx) hbx.size
  have hzx := hbx.size
  refine (same18_eq X.heap.size _ _ wantL (by decide) X hR1 hR2 (Nat.le_refl _)).mono ?_
  rintro e w2 ⟨rfl, hB2⟩
  have hR3 := NRead.mono (NRead.ext hR1 hB2) hB2.size
  have hok : ∀ n ∈ wantL, n.ok := by
    intro n hn
    simp only [wantL, List.mem_cons, List.not_mem_nil, or_false] at hn
    rcases hn with rfl | rfl
    · exact ⟨rfl, by decide⟩
    · exact ⟨rfl, by decide⟩
  have hrt : rightP wantL = true := by kernel_rfl
  have hright := right_any w2.heap.size o wantL hok (by decide) w2 hR3 (Nat.le_refl _)
  rw [hrt] at hright
  have HB2 := Lib.hid hB2
  have HBX := Lib.hid hbx
  clear hB2 hbx hR1 hR2 hR3 hown hok hrt HR1
  go_wp2_with fail
  refine hright.mono ?_
  rintro e w3 ⟨rfl, hB3⟩
  have hBw : Below w.heap.size w w3 := HB1.out.trans ((HBX.out.mono hs1).trans ((HB2.out.mono (by omega)).trans (hB3.mono (by have := HB2.out.size; omega))))
  have hgw := grown_below hBw none
  have hw3 := hBw.size
  have hG3 : Laid B w3 := Laid.stable B w w3 none HW.out hgw (fun r e => by cases e)
  have HBW := Lib.hid hBw
  clear hB3 hright hgw HB2 HBX HB1 hBw
  go_wp2_with fail
  go_loopw [40] (fun i wr => ∃ (k : Nat) (T : TypeId), k ≤ 5 ∧ i = .int .i64 k ∧ Below w3.heap.size w3 wr ∧ wr.heap[w3.heap.size]? = some (.cells #[.string ⟨#[97, 32, 61, 32, 108, 97, 109, 98, 101, 114, 116, 32, 50, 32, 49, 32, 48]⟩, .int .i64 12, .int .i64 184, .string ⟨#[97, 32, 61, 32, 108, 97, 109, 98, 101, 114, 116, 32, 49, 32, 49, 32, 48, 10, 98, 32, 61, 32, 109, 105, 120, 32, 48, 46, 53, 32, 97, 32, 99]⟩, .int .i64 32, .int .i64 183, .string ⟨#[97, 32, 61, 32, 108, 97, 109, 98, 101, 114, 116, 32, 49, 32, 49, 32, 48, 10, 97, 32, 61, 32, 108, 97, 109, 98, 101, 114, 116, 32, 49, 32, 49, 32, 48]⟩, .int .i64 18, .int .i64 182, .string ⟨#[109, 105, 120, 32, 61, 32, 108, 97, 109, 98, 101, 114, 116, 32, 49, 32, 49, 32, 48]⟩, .int .i64 0, .int .i64 182, .string ⟨#[]⟩, .int .i64 0, .int .i64 180] T (0, 0)))
    (fun i _ => 5 - (intOf i).toNat)
  case atStart => exact ⟨0, _, by omega, rfl, (Below.refl _ w3).alloc (Nat.le_refl _) _, heap_alloc_new w3 _⟩
  case round =>
    obtain ⟨k, T, hk, rfl, hg, hb⟩ := hrel
    have hGr : Laid B wr := Laid.stable B _ wr none hG3 (grown_below hg none) (fun r e => by cases e)
    have hbl : w3.heap.size < wr.heap.size := (Array.getElem?_eq_some_iff.1 hb).1
    have HB := Lib.hid hb
    have HG := Lib.hid hGr
    have HGG := Lib.hid hg
    clear hb hGr hg
    have hk6 : k = 0 ∨ k = 1 ∨ k = 2 ∨ k = 3 ∨ k = 4 ∨ k = 5 := by omega
    rcases hk6 with rfl | rfl | rfl | rfl | rfl | rfl
    · have c0 := (cell_of_row wr w3.heap.size 0 _ _ _ HB.out).trans rfl
      have c1 := (cell_of_row wr w3.heap.size 1 _ _ _ HB.out).trans rfl
      have c2 := (cell_of_row wr w3.heap.size 2 _ _ _ HB.out).trans rfl
      go_wp2_with fail
      refine (of18_1 B _ (Laid.stable B wr _ none HG.out (World.grownBy_alloc wr _ _) (fun r e => by cases e)) (by simp; omega)).mono ?_
      rintro e wx ⟨o', rfl, ho', hBx⟩
      have hlen : ∃ A' c', o' = .slice A' 0 c' := by
        rcases ho'.2 with ⟨rfl, _⟩ | ⟨g, cap, cur, rfl, _⟩
        · exact ⟨_, _, rfl⟩
        · exact ⟨_, _, rfl⟩
      obtain ⟨A', c', rfl⟩ := hlen
      have kt := (hBx.block wr.heap.size (by simp)).trans (heap_alloc_new wr _)
      have t1 := (cell_of_row wx wr.heap.size 1 _ _ _ kt).trans rfl
      have t2 := (cell_of_row wx wr.heap.size 2 _ _ _ kt).trans rfl
      have gx : Below wr.heap.size wr wx := ((Below.refl _ wr).alloc (Nat.le_refl _) _).trans (hBx.mono (by simp))
      have GX := Lib.hid gx
      simp only
      clear kt c0 c1 c2 hBx ho' gx
      go_wp2_with fail
      go_roundw
      case rel => exact ⟨1, T, by omega, by go_num, HGG.out.trans (GX.out.mono (by omega)), (GX.out.block _ hbl).trans HB.out⟩
      case measure => simp [intOf]
    · have c0 := (cell_of_row wr w3.heap.size 3 _ _ _ HB.out).trans rfl
      have c1 := (cell_of_row wr w3.heap.size 4 _ _ _ HB.out).trans rfl
      have c2 := (cell_of_row wr w3.heap.size 5 _ _ _ HB.out).trans rfl
      go_wp2_with fail
      refine (of18_2 B _ (Laid.stable B wr _ none HG.out (World.grownBy_alloc wr _ _) (fun r e => by cases e)) (by simp; omega)).mono ?_
      rintro e wx ⟨o', rfl, ho', hBx⟩
      have hlen : ∃ A' c', o' = .slice A' 0 c' := by
        rcases ho'.2 with ⟨rfl, _⟩ | ⟨g, cap, cur, rfl, _⟩
        · exact ⟨_, _, rfl⟩
        · exact ⟨_, _, rfl⟩
      obtain ⟨A', c', rfl⟩ := hlen
      have kt := (hBx.block wr.heap.size (by simp)).trans (heap_alloc_new wr _)
      have t1 := (cell_of_row wx wr.heap.size 1 _ _ _ kt).trans rfl
      have t2 := (cell_of_row wx wr.heap.size 2 _ _ _ kt).trans rfl
      have gx : Below wr.heap.size wr wx := ((Below.refl _ wr).alloc (Nat.le_refl _) _).trans (hBx.mono (by simp))
      have GX := Lib.hid gx
      simp only
      clear kt c0 c1 c2 hBx ho' gx
      go_wp2_with fail
      go_roundw
      case rel => exact ⟨2, T, by omega, by go_num, HGG.out.trans (GX.out.mono (by omega)), (GX.out.block _ hbl).trans HB.out⟩
      case measure => simp [intOf]
    · have c0 := (cell_of_row wr w3.heap.size 6 _ _ _ HB.out).trans rfl
      have c1 := (cell_of_row wr w3.heap.size 7 _ _ _ HB.out).trans rfl
      have c2 := (cell_of_row wr w3.heap.size 8 _ _ _ HB.out).trans rfl
      go_wp2_with fail
      refine (of18_3 B _ (Laid.stable B wr _ none HG.out (World.grownBy_alloc wr _ _) (fun r e => by cases e)) (by simp; omega)).mono ?_
      rintro e wx ⟨o', rfl, ho', hBx⟩
      have hlen : ∃ A' c', o' = .slice A' 0 c' := by
        rcases ho'.2 with ⟨rfl, _⟩ | ⟨g, cap, cur, rfl, _⟩
        · exact ⟨_, _, rfl⟩
        · exact ⟨_, _, rfl⟩
      obtain ⟨A', c', rfl⟩ := hlen
      have kt := (hBx.block wr.heap.size (by simp)).trans (heap_alloc_new wr _)
      have t1 := (cell_of_row wx wr.heap.size 1 _ _ _ kt).trans rfl
      have t2 := (cell_of_row wx wr.heap.size 2 _ _ _ kt).trans rfl
      have gx : Below wr.heap.size wr wx := ((Below.refl _ wr).alloc (Nat.le_refl _) _).trans (hBx.mono (by simp))
      have GX := Lib.hid gx
      simp only
      clear kt c0 c1 c2 hBx ho' gx
      go_wp2_with fail
      go_roundw
      case rel => exact ⟨3, T, by omega, by go_num, HGG.out.trans (GX.out.mono (by omega)), (GX.out.block _ hbl).trans HB.out⟩
      case measure => simp [intOf]
    · have c0 := (cell_of_row wr w3.heap.size 9 _ _ _ HB.out).trans rfl
      have c1 := (cell_of_row wr w3.heap.size 10 _ _ _ HB.out).trans rfl
      have c2 := (cell_of_row wr w3.heap.size 11 _ _ _ HB.out).trans rfl
      go_wp2_with fail
      refine (of18_4 B _ (Laid.stable B wr _ none HG.out (World.grownBy_alloc wr _ _) (fun r e => by cases e)) (by simp; omega)).mono ?_
      rintro e wx ⟨o', rfl, ho', hBx⟩
      have hlen : ∃ A' c', o' = .slice A' 0 c' := by
        rcases ho'.2 with ⟨rfl, _⟩ | ⟨g, cap, cur, rfl, _⟩
        · exact ⟨_, _, rfl⟩
        · exact ⟨_, _, rfl⟩
      obtain ⟨A', c', rfl⟩ := hlen
      have kt := (hBx.block wr.heap.size (by simp)).trans (heap_alloc_new wr _)
      have t1 := (cell_of_row wx wr.heap.size 1 _ _ _ kt).trans rfl
      have t2 := (cell_of_row wx wr.heap.size 2 _ _ _ kt).trans rfl
      have gx : Below wr.heap.size wr wx := ((Below.refl _ wr).alloc (Nat.le_refl _) _).trans (hBx.mono (by simp))
      have GX := Lib.hid gx
      simp only
      clear kt c0 c1 c2 hBx ho' gx
      go_wp2_with fail
      go_roundw
      case rel => exact ⟨4, T, by omega, by go_num, HGG.out.trans (GX.out.mono (by omega)), (GX.out.block _ hbl).trans HB.out⟩
      case measure => simp [intOf]
    · have c0 := (cell_of_row wr w3.heap.size 12 _ _ _ HB.out).trans rfl
      have c1 := (cell_of_row wr w3.heap.size 13 _ _ _ HB.out).trans rfl
      have c2 := (cell_of_row wr w3.heap.size 14 _ _ _ HB.out).trans rfl
      go_wp2_with fail
      refine (of18_5 B _ (Laid.stable B wr _ none HG.out (World.grownBy_alloc wr _ _) (fun r e => by cases e)) (by simp; omega)).mono ?_
      rintro e wx ⟨o', rfl, ho', hBx⟩
      have hlen : ∃ A' c', o' = .slice A' 0 c' := by
        rcases ho'.2 with ⟨rfl, _⟩ | ⟨g, cap, cur, rfl, _⟩
        · exact ⟨_, _, rfl⟩
        · exact ⟨_, _, rfl⟩
      obtain ⟨A', c', rfl⟩ := hlen
      have kt := (hBx.block wr.heap.size (by simp)).trans (heap_alloc_new wr _)
      have t1 := (cell_of_row wx wr.heap.size 1 _ _ _ kt).trans rfl
      have t2 := (cell_of_row wx wr.heap.size 2 _ _ _ kt).trans rfl
      have gx : Below wr.heap.size wr wx := ((Below.refl _ wr).alloc (Nat.le_refl _) _).trans (hBx.mono (by simp))
      have GX := Lib.hid gx
      simp only
      clear kt c0 c1 c2 hBx ho' gx
      go_wp2_with fail
      go_roundw
      case rel => exact ⟨5, T, by omega, by go_num, HGG.out.trans (GX.out.mono (by omega)), (GX.out.block _ hbl).trans HB.out⟩
      case measure => simp [intOf]
    · go_wp2_with fail
      go_ret
      exact ⟨rfl, HBW.out.trans (HGG.out.mono hw3)⟩

end Go.Proofs.YtgblgolkajdfbaaGreatDoor.chkw
