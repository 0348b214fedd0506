/- The walk of burnishlaw17.awake. Condition: three of strconv's variables hold what the program's text lays. -/
import Derived.Test.YtdmhebibnnemnaaDoorAwaB
import Derived.Test.YtdmhebibnnemnaaDoorSevB
namespace Go.Proofs.YtdmhebibnnemnaaDoor.awaw
open Go.RowKit
open Go.Proofs.YtdmhebibnnemnaaDoor.lexm
open Go.Proofs.YtdmhebibnnemnaaDoor.lexw
open Go.Proofs.YtdmhebibnnemnaaDoor.parw
open Go.Proofs.YtdmhebibnnemnaaDoor.flow

theorem own_at (w : World) (cs : List Value) (t : TypeId) : ∀ j u, cs[j]? = some u → (w.alloc (.cells cs.toArray t)).cell? ⟨w.heap.size, j, none⟩ = some u := fun j u hu => by
  rw [cell_of_row _ w.heap.size j _ _ _ (heap_alloc_new w _)]
  simpa using hu

theorem ARead.mono {W : World} {B B' : Nat} {v : Value} {l : List PArg} (h : ARead W B v l) (hb : B ≤ B') : ARead W B' v l := by
  obtain ⟨A, c, hv, hx⟩ := h
  refine ⟨A, c, hv, fun h0 => ?_⟩
  obtain ⟨g, off, hA, hg, hcell⟩ := hx h0
  exact ⟨g, off, hA, by omega, hcell⟩
theorem SRead.mono {W : World} {B B' : Nat} {v : Value} {l : List PStmt} (h : SRead W B v l) (hb : B ≤ B') : SRead W B' v l := by
  obtain ⟨vs, A, c, hl, hv, hx, ha⟩ := h
  refine ⟨vs, A, c, hl, hv, fun h0 => ?_, fun i h1 h2 => ARead.mono (ha i h1 h2) hb⟩
  obtain ⟨g, off, hA, hg, hcell⟩ := hx h0
  exact ⟨g, off, hA, by omega, hcell⟩
/-- one statement, written out: its arguments' block, its own block -/
theorem one_read (w : World) (s : PStmt) (n : Nat) (hn : s.args.length = n) (ca cs : Array Value) (hca : ca = (acells s.args).toArray) (hcs : cs = (stCells s (.slice (some ⟨w.heap.size, 0, none⟩) n n)).toArray) :
    SRead ((w.alloc (.cells ca 35)).alloc (.cells cs 38)) (w.heap.size + 2) (.slice (some ⟨w.heap.size + 1, 0, none⟩) 1 1) [s] := by
  subst hn hca hcs
  have hsz : (w.alloc (.cells (acells s.args).toArray 35)).heap.size = w.heap.size + 1 := by simp
  refine ⟨[.slice (some ⟨w.heap.size, 0, none⟩) s.args.length s.args.length], _, _, rfl, rfl, fun _ => ⟨w.heap.size + 1, 0, rfl, by omega, fun j u hu => ?_⟩, fun i h1 h2 => ?_⟩
  · rw [cell_of_row _ (w.heap.size + 1) _ _ _ _ (heap_at _ _ _ hsz), Nat.zero_add]
    simpa [scells] using hu
  · have h0 : i = 0 := by simp at h2; omega
    subst h0
    refine ⟨_, _, rfl, fun _ => ⟨w.heap.size, 0, rfl, by omega, fun j u hu => ?_⟩⟩
    rw [cell_of_row _ w.heap.size _ _ _ _ ((World.heap_alloc_lt' _ _ _ (by rw [hsz]; omega)).trans (heap_alloc_new w _)), Nat.zero_add]
    simpa using hu

set_option maxRecDepth 100000 in
set_option maxHeartbeats 4000000 in
theorem awake_any (B : Nat) (w : World) (hw : Laid B w) (hB : B ≤ w.heap.size) : Calls Tryd.prog 4 #[] w fun e w' => e = .returned (.bool true) ∧ Below w.heap.size w w' := by
  have HW := Lib.hid hw
  have hc0 := of_0 B w hw hB
  clear hw
  go_enter Tryd.func4, Tryd.ntmps4
  go_wp2_with fail
  refine hc0.mono ?_
  rintro e w1 ⟨o, rfl, ho, hB1⟩
  have hs1 := hB1.size
  unfold res0 at ho ⊢
  simp only at ho ⊢
  go_wp2_with fail
  have hG1 : Laid B w1 := Laid.stable B w w1 none HW.out (grown_below hB1 none) (fun r e => by cases e)
  have hR2 := one_read w1 ⟨⟨#[97]⟩, 0, 1, [⟨12, 4602678819172646912, ⟨#[]⟩⟩, ⟨16, 4607182418800017408, ⟨#[]⟩⟩, ⟨18, 0, ⟨#[]⟩⟩]⟩ 3 rfl
    #[.int .i64 12, .float .f64 4602678819172646912, .string ⟨#[]⟩, .int .i64 16, .float .f64 4607182418800017408, .string ⟨#[]⟩, .int .i64 18, .float .f64 0, .string ⟨#[]⟩] #[.string ⟨#[97]⟩, .int .i64 0, .int .u8 1, .slice (some ⟨w1.heap.size, 0, none⟩) 3 3] rfl rfl
  have hg2 : w1.grownBy ((w1.alloc (.cells #[.int .i64 12, .float .f64 4602678819172646912, .string ⟨#[]⟩, .int .i64 16, .float .f64 4607182418800017408, .string ⟨#[]⟩, .int .i64 18, .float .f64 0, .string ⟨#[]⟩] 35)).alloc
    (.cells #[.string ⟨#[97]⟩, .int .i64 0, .int .u8 1, .slice (some ⟨w1.heap.size, 0, none⟩) 3 3] 38)) none := grown_trans (World.grownBy_alloc w1 _ _) (World.grownBy_alloc _ _ _)
  have hR1 := SRead.mono (ho.keep (fun g h _ => hg2.block g h (by simp))) (show w1.heap.size ≤ w1.heap.size + 2 by omega)
  have hG2 := Laid.stable B w1 _ none hG1 hg2 (fun r e => by cases e)
  refine (same17_eq (w1.heap.size + 2) o _ _ _ hR1 hR2 (by simp) (by simp) (by intro s hs; simp at hs; subst hs; simp)).mono ?_
  rintro e w2 ⟨rfl, hB2⟩
  have hG3 := Laid.stable B _ w2 none hG2 (grown_below hB2 none) (fun r e => by cases e)
  have hgw : w.grownBy w2 none := grown_trans (grown_below hB1 none) (grown_trans hg2 (grown_below hB2 none))
  have hw2 := hgw.size
  clear hR1 hR2 hg2 hG1 hG2 ho hB1 hB2
  have HGW := Lib.hid hgw
  clear hgw
  go_wp2_with fail
  go_loopw [36] (fun i wr => ∃ (k : Nat) (T : TypeId), k ≤ 5 ∧ i = .int .i64 k ∧ w2.grownBy wr none ∧ wr.heap[w2.heap.size]? = some (.cells #[.string ⟨#[97, 32, 61, 32, 103, 108, 97, 115, 115, 32, 49]⟩, .int .i64 4, .int .i64 171, .string ⟨#[97, 32, 108, 97, 109, 98, 101, 114, 116]⟩, .int .i64 2, .int .i64 170, .string ⟨#[97, 32, 61, 32, 109, 105, 120, 32, 48, 46, 53, 32, 98]⟩, .int .i64 13, .int .i64 170, .string ⟨#[97, 32, 61, 32, 112, 108, 97, 115, 116, 105, 99, 32, 49, 46, 46, 50, 32, 50]⟩, .int .i64 12, .int .i64 160, .string ⟨#[97, 32, 61, 32, 99, 111, 97, 116, 32, 49, 46, 53, 32, 49, 32, 49, 32, 49, 32, 49]⟩, .int .i64 19, .int .i64 170] T (0, 0)))
    (fun i _ => 5 - (intOf i).toNat)
  case atStart => exact ⟨0, _, by omega, rfl, World.grownBy_alloc w2 _ _, heap_alloc_new w2 _⟩
  case round =>
    obtain ⟨k, T, hk, rfl, hg, hb⟩ := hrel
    have hGr : Laid B wr := Laid.stable B _ wr none hG3 hg (fun r e => by cases e)
    have hbl : w2.heap.size < wr.heap.size := (Array.getElem?_eq_some_iff.1 hb).1
    have HB := Lib.hid hb
    have HG := Lib.hid hGr
    clear hb hGr
    have hk6 : k = 0 ∨ k = 1 ∨ k = 2 ∨ k = 3 ∨ k = 4 ∨ k = 5 := by omega
    rcases hk6 with rfl | rfl | rfl | rfl | rfl | rfl
    · have c0 := (cell_of_row wr w2.heap.size 0 _ _ _ HB.out).trans rfl
      have c1 := (cell_of_row wr w2.heap.size 1 _ _ _ HB.out).trans rfl
      have c2 := (cell_of_row wr w2.heap.size 2 _ _ _ HB.out).trans rfl
      go_wp2_with fail
      refine (of_1 B _ (Laid.stable B wr _ none HG.out (World.grownBy_alloc wr _ _) (fun r e => by cases e)) (by simp; omega)).mono ?_
      rintro e wx ⟨o', rfl, ho', hBx⟩
      obtain ⟨_, A', c', _, rfl, _, _⟩ := ho'
      have kt := (hBx.block wr.heap.size (by simp)).trans (heap_alloc_new wr _)
      have t1 := (cell_of_row wx wr.heap.size 1 _ _ _ kt).trans rfl
      have t2 := (cell_of_row wx wr.heap.size 2 _ _ _ kt).trans rfl
      have gx : wr.grownBy wx none := grown_trans (World.grownBy_alloc wr _ _) (grown_below hBx none)
      unfold res1
      simp only
      clear kt c0 c1 c2 hBx
      go_wp2_with fail
      go_roundw
      case rel => exact ⟨1, T, by omega, by go_num, grown_trans hg gx, (gx.block _ hbl (by simp)).trans HB.out⟩
      case measure => simp [intOf]
    · have c0 := (cell_of_row wr w2.heap.size 3 _ _ _ HB.out).trans rfl
      have c1 := (cell_of_row wr w2.heap.size 4 _ _ _ HB.out).trans rfl
      have c2 := (cell_of_row wr w2.heap.size 5 _ _ _ HB.out).trans rfl
      go_wp2_with fail
      refine (of_2 B _ (Laid.stable B wr _ none HG.out (World.grownBy_alloc wr _ _) (fun r e => by cases e)) (by simp; omega)).mono ?_
      rintro e wx ⟨o', rfl, ho', hBx⟩
      obtain ⟨_, A', c', _, rfl, _, _⟩ := ho'
      have kt := (hBx.block wr.heap.size (by simp)).trans (heap_alloc_new wr _)
      have t1 := (cell_of_row wx wr.heap.size 1 _ _ _ kt).trans rfl
      have t2 := (cell_of_row wx wr.heap.size 2 _ _ _ kt).trans rfl
      have gx : wr.grownBy wx none := grown_trans (World.grownBy_alloc wr _ _) (grown_below hBx none)
      unfold res2
      simp only
      clear kt c0 c1 c2 hBx
      go_wp2_with fail
      go_roundw
      case rel => exact ⟨2, T, by omega, by go_num, grown_trans hg gx, (gx.block _ hbl (by simp)).trans HB.out⟩
      case measure => simp [intOf]
    · have c0 := (cell_of_row wr w2.heap.size 6 _ _ _ HB.out).trans rfl
      have c1 := (cell_of_row wr w2.heap.size 7 _ _ _ HB.out).trans rfl
      have c2 := (cell_of_row wr w2.heap.size 8 _ _ _ HB.out).trans rfl
      go_wp2_with fail
      refine (of_3 B _ (Laid.stable B wr _ none HG.out (World.grownBy_alloc wr _ _) (fun r e => by cases e)) (by simp; omega)).mono ?_
      rintro e wx ⟨o', rfl, ho', hBx⟩
      obtain ⟨_, A', c', _, rfl, _, _⟩ := ho'
      have kt := (hBx.block wr.heap.size (by simp)).trans (heap_alloc_new wr _)
      have t1 := (cell_of_row wx wr.heap.size 1 _ _ _ kt).trans rfl
      have t2 := (cell_of_row wx wr.heap.size 2 _ _ _ kt).trans rfl
      have gx : wr.grownBy wx none := grown_trans (World.grownBy_alloc wr _ _) (grown_below hBx none)
      unfold res3
      simp only
      clear kt c0 c1 c2 hBx
      go_wp2_with fail
      go_roundw
      case rel => exact ⟨3, T, by omega, by go_num, grown_trans hg gx, (gx.block _ hbl (by simp)).trans HB.out⟩
      case measure => simp [intOf]
    · have c0 := (cell_of_row wr w2.heap.size 9 _ _ _ HB.out).trans rfl
      have c1 := (cell_of_row wr w2.heap.size 10 _ _ _ HB.out).trans rfl
      have c2 := (cell_of_row wr w2.heap.size 11 _ _ _ HB.out).trans rfl
      go_wp2_with fail
      refine (of_4 B _ (Laid.stable B wr _ none HG.out (World.grownBy_alloc wr _ _) (fun r e => by cases e)) (by simp; omega)).mono ?_
      rintro e wx ⟨o', rfl, ho', hBx⟩
      obtain ⟨_, A', c', _, rfl, _, _⟩ := ho'
      have kt := (hBx.block wr.heap.size (by simp)).trans (heap_alloc_new wr _)
      have t1 := (cell_of_row wx wr.heap.size 1 _ _ _ kt).trans rfl
      have t2 := (cell_of_row wx wr.heap.size 2 _ _ _ kt).trans rfl
      have gx : wr.grownBy wx none := grown_trans (World.grownBy_alloc wr _ _) (grown_below hBx none)
      unfold res4
      simp only
      clear kt c0 c1 c2 hBx
      go_wp2_with fail
      go_roundw
      case rel => exact ⟨4, T, by omega, by go_num, grown_trans hg gx, (gx.block _ hbl (by simp)).trans HB.out⟩
      case measure => simp [intOf]
    · have c0 := (cell_of_row wr w2.heap.size 12 _ _ _ HB.out).trans rfl
      have c1 := (cell_of_row wr w2.heap.size 13 _ _ _ HB.out).trans rfl
      have c2 := (cell_of_row wr w2.heap.size 14 _ _ _ HB.out).trans rfl
      go_wp2_with fail
      refine (of_5 B _ (Laid.stable B wr _ none HG.out (World.grownBy_alloc wr _ _) (fun r e => by cases e)) (by simp; omega)).mono ?_
      rintro e wx ⟨o', rfl, ho', hBx⟩
      obtain ⟨_, A', c', _, rfl, _, _⟩ := ho'
      have kt := (hBx.block wr.heap.size (by simp)).trans (heap_alloc_new wr _)
      have t1 := (cell_of_row wx wr.heap.size 1 _ _ _ kt).trans rfl
      have t2 := (cell_of_row wx wr.heap.size 2 _ _ _ kt).trans rfl
      have gx : wr.grownBy wx none := grown_trans (World.grownBy_alloc wr _ _) (grown_below hBx none)
      unfold res5
      simp only
      clear kt c0 c1 c2 hBx
      go_wp2_with fail
      go_roundw
      case rel => exact ⟨5, T, by omega, by go_num, grown_trans hg gx, (gx.block _ hbl (by simp)).trans HB.out⟩
      case measure => simp [intOf]
    · go_wp2_with fail
      go_ret
      exact ⟨rfl, below_of_grown (grown_trans HGW.out hg)⟩

end Go.Proofs.YtdmhebibnnemnaaDoor.awaw
