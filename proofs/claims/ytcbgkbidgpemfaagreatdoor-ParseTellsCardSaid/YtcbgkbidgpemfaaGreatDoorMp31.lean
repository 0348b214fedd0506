/- The walk of burnishlaw17.awake. Condition: three of strconv's variables hold what the program's text lays. -/
import Derived.Test.YtcbgkbidgpemfaaGreatDoorMp30
import Derived.Test.YtcbgkbidgpemfaaGreatDoorMp10
import Derived.Test.YtcbgkbidgpemfaaGreatDoorMp28
namespace Go.Proofs.YtcbgkbidgpemfaaGreatDoor.awaw
open Go.RowKit
open Go.Proofs.YtcbgkbidgpemfaaGreatDoor.lexm
open Go.Proofs.YtcbgkbidgpemfaaGreatDoor.lexw
open Go.Proofs.YtcbgkbidgpemfaaGreatDoor.parw
open Go.Proofs.YtcbgkbidgpemfaaGreatDoor.flow

theorem ARead.mono {W : World} {B B' : Nat} {v : Value} {l : List PArg} (h : ARead W B v l) (hb : B ≤ B') : ARead W B' v l := by
  obtain ⟨A, c, hv, hx⟩ := h
  refine ⟨A, c, hv, fun h0 => ?_⟩
  obtain ⟨g, off, hA, hg, hcell⟩ := hx h0
  exact ⟨g, off, hA, by omega, hcell⟩
theorem SRead.mono {W : World} {B B' : Nat} {v : Value} {l : List PStmt} (h : SRead W B v l) (hb : B ≤ B') : SRead W B' v l := by
  obtain ⟨vs, A, c, hl, hv, hx, ha⟩ := h
  refine ⟨vs, A, c, hl, hv, fun h0 => ?_, fun i h1 h2 => ARead.mono (ha i h1 h2) hb⟩
  obtain ⟨g, off, hA, hg, hcell⟩ := hx h0
  exact ⟨g, off, hA, by omega, hcell⟩
/-- one statement, written out: its arguments' block, its own block -/
theorem one_read (w : World) (s : PStmt) (n : Nat) (hn : s.args.length = n) (ca cs : Array Value) (hca : ca = (acells s.args).toArray) (hcs : cs = (stCells s (.slice (some ⟨w.heap.size, 0, none⟩) n n)).toArray) :
    SRead ((w.alloc (.cells ca 59)).alloc (.cells cs 62)) (w.heap.size + 2) (.slice (some ⟨w.heap.size + 1, 0, none⟩) 1 1) [s] := by
  subst hn hca hcs
  have hsz : (w.alloc (.cells (acells s.args).toArray 59)).heap.size = w.heap.size + 1 := by simp
  refine ⟨[.slice (some ⟨w.heap.size, 0, none⟩) s.args.length s.args.length], _, _, rfl, rfl, fun _ => ⟨w.heap.size + 1, 0, rfl, by omega, fun j u hu => ?_⟩, fun i h1 h2 => ?_⟩
  · rw [cell_of_row _ (w.heap.size + 1) _ _ _ _ (heap_at _ _ _ hsz), Nat.zero_add]
    simpa [scells] using hu
  · have h0 : i = 0 := by simp at h2; omega
    subst h0
    refine ⟨_, _, rfl, fun _ => ⟨w.heap.size, 0, rfl, by omega, fun j u hu => ?_⟩⟩
    rw [cell_of_row _ w.heap.size _ _ _ _ ((World.heap_alloc_lt' _ _ _ (by rw [hsz]; omega)).trans (heap_alloc_new w _)), Nat.zero_add]
    simpa using hu

set_option maxRecDepth 100000 in
set_option maxHeartbeats 4000000 in
theorem awake_any (B : Nat) (w : World) (hw : Laid B w) (hB : B ≤ w.heap.size) : Calls Tryz.prog 10 #[] w fun e w' => e = .returned (.bool true) ∧ Below w.heap.size w w' := by
  have HW := Lib.hid hw
  have hc0 := of_0 B w hw hB
  clear hw
  go_enter Tryz.func10, Tryz.ntmps10
  go_wp2_with fail
  refine hc0.mono ?_
  rintro e w1 ⟨o, rfl, ho, hB1⟩
  have hs1 := hB1.size
  unfold res0 at ho ⊢
  simp only at ho ⊢
  go_wp2_with fail
  have hG1 : Laid B w1 := Laid.stable B w w1 none HW.out (grown_below hB1 none) (fun r e => by cases e)
  have hR2 := one_read w1 ⟨⟨#[97]⟩, 0, 1, [⟨12, 4602678819172646912, ⟨#[]⟩⟩, ⟨16, 4607182418800017408, ⟨#[]⟩⟩, ⟨18, 0, ⟨#[]⟩⟩]⟩ 3 rfl
    #[.int .i64 12, .float .f64 4602678819172646912, .string ⟨#[]⟩, .int .i64 16, .float .f64 4607182418800017408, .string ⟨#[]⟩, .int .i64 18, .float .f64 0, .string ⟨#[]⟩] #[.string ⟨#[97]⟩, .int .i64 0, .int .u8 1, .slice (some ⟨w1.heap.size, 0, none⟩) 3 3] rfl rfl
  have hg2 : w1.grownBy ((w1.alloc (.cells #[.int .i64 12, .float .f64 4602678819172646912, .string ⟨#[]⟩, .int .i64 16, .float .f64 4607182418800017408, .string ⟨#[]⟩, .int .i64 18, .float .f64 0, .string ⟨#[]⟩] 59)).alloc
    (.cells #[.string ⟨#[97]⟩, .int .i64 0, .int .u8 1, .slice (some ⟨w1.heap.size, 0, none⟩) 3 3] 62)) none := grown_trans (World.grownBy_alloc w1 _ _) (World.grownBy_alloc _ _ _)
  have hR1 := SRead.mono (ho.keep (fun g h _ => hg2.block g h (by simp))) (show w1.heap.size ≤ w1.heap.size + 2 by omega)
  have hG2 := Laid.stable B w1 _ none hG1 hg2 (fun r e => by cases e)
  refine (same17_eq (w1.heap.size + 2) o _ _ _ hR1 hR2 (by simp) (by simp) (by intro s hs; simp at hs; subst hs; simp)).mono ?_
  rintro e w2 ⟨rfl, hB2⟩
  have hG3 := Laid.stable B _ w2 none hG2 (grown_below hB2 none) (fun r e => by cases e)
  have hgw : w.grownBy w2 none := grown_trans (grown_below hB1 none) (grown_trans hg2 (grown_below hB2 none))
  have hw2 := hgw.size
  clear hR1 hR2 hg2 hG1 hG2 ho hB1 hB2
  have HGW := Lib.hid hgw
  clear hgw
  go_wp2_with fail
  go_loopw [36] (fun i wr => ∃ (k : Nat) (T : TypeId), k ≤ 5 ∧ i = .int .i64 k ∧ w2.grownBy wr none ∧ wr.heap[w2.heap.size]? = some (.cells #[.string ⟨#[97, 32, 61, 32, 103, 108, 97, 115, 115, 32, 49]⟩, .int .i64 4, .int .i64 171, .string ⟨#[97, 32, 108, 97, 109, 98, 101, 114, 116]⟩, .int .i64 2, .int .i64 170, .string ⟨#[97, 32, 61, 32, 109, 105, 120, 32, 48, 46, 53, 32, 98]⟩, .int .i64 13, .int .i64 170, .string ⟨#[97, 32, 61, 32, 112, 108, 97, 115, 116, 105, 99, 32, 49, 46, 46, 50, 32, 50]⟩, .int .i64 12, .int .i64 160, .string ⟨#[97, 32, 61, 32, 99, 111, 97, 116, 32, 49, 46, 53, 32, 49, 32, 49, 32, 49, 32, 49]⟩, .int .i64 19, .int .i64 170] T (0, 0)))
    (fun i _ => 5 - (intOf i).toNat)
  case atStart => exact ⟨0, _, by omega, rfl, World.grownBy_alloc w2 _ _, heap_alloc_new w2 _⟩
  case round =>
    obtain ⟨k, T, hk, rfl, hg, hb⟩ := hrel
    have hGr : Laid B wr := Laid.stable B _ wr none hG3 hg (fun r e => by cases e)
    have hbl : w2.heap.size < wr.heap.size := (Array.getElem?_eq_some_iff.1 hb).1
    have HB := Lib.hid hb
    have HG := Lib.hid hGr
    clear hb hGr
    have hk6 : k = 0 ∨ k = 1 ∨ k = 2 ∨ k = 3 ∨ k = 4 ∨ k = 5 := by omega
    rcases hk6 with rfl | rfl | rfl | rfl | rfl | rfl
    · have c0 := (cell_of_row wr w2.heap.size 0 _ _ _ HB.out).trans rfl
      have c1 := (cell_of_row wr w2.heap.size 1 _ _ _ HB.out).trans rfl
      have c2 := (cell_of_row wr w2.heap.size 2 _ _ _ HB.out).trans rfl
      go_wp2_with fail
      refine (of_1 B _ (Laid.stable B wr _ none HG.out (World.grownBy_alloc wr _ _) (fun r e => by cases e)) (by simp; omega)).mono ?_
      rintro e wx ⟨o', rfl, ho', hBx⟩
      obtain ⟨_, A', c', _, rfl, _, _⟩ := ho'
      have kt := (hBx.block wr.heap.size (by simp)).trans (heap_alloc_new wr _)
      have t1 := (cell_of_row wx wr.heap.size 1 _ _ _ kt).trans rfl
      have t2 := (cell_of_row wx wr.heap.size 2 _ _ _ kt).trans rfl
      have gx : wr.grownBy wx none := grown_trans (World.grownBy_alloc wr _ _) (grown_below hBx none)
      unfold res1
      simp only
      clear kt c0 c1 c2 hBx
      go_wp2_with fail
      go_roundw
      case rel => exact ⟨1, T, by omega, by go_num, grown_trans hg gx, (gx.block _ hbl (by simp)).trans HB.out⟩
      case measure => simp [intOf]
    · have c0 := (cell_of_row wr w2.heap.size 3 _ _ _ HB.out).trans rfl
      have c1 := (cell_of_row wr w2.heap.size 4 _ _ _ HB.out).trans rfl
      have c2 := (cell_of_row wr w2.heap.size 5 _ _ _ HB.out).trans rfl
      go_wp2_with fail
      refine (of_2 B _ (Laid.stable B wr _ none HG.out (World.grownBy_alloc wr _ _) (fun r e => by cases e)) (by simp; omega)).mono ?_
      rintro e wx ⟨o', rfl, ho', hBx⟩
      obtain ⟨_, A', c', _, rfl, _, _⟩ := ho'
      have kt := (hBx.block wr.heap.size (by simp)).trans (heap_alloc_new wr _)
      have t1 := (cell_of_row wx wr.heap.size 1 _ _ _ kt).trans rfl
      have t2 := (cell_of_row wx wr.heap.size 2 _ _ _ kt).trans rfl
      have gx : wr.grownBy wx none := grown_trans (World.grownBy_alloc wr _ _) (grown_below hBx none)
      unfold res2
      simp only
      clear kt c0 c1 c2 hBx
      go_wp2_with fail
      go_roundw
      case rel => exact ⟨2, T, by omega, by go_num, grown_trans hg gx, (gx.block _ hbl (by simp)).trans HB.out⟩
      case measure => simp [intOf]
    · have c0 := (cell_of_row wr w2.heap.size 6 _ _ _ HB.out).trans rfl
      have c1 := (cell_of_row wr w2.heap.size 7 _ _ _ HB.out).trans rfl
      have c2 := (cell_of_row wr w2.heap.size 8 _ _ _ HB.out).trans rfl
      go_wp2_with fail
      refine (of_3 B _ (Laid.stable B wr _ none HG.out (World.grownBy_alloc wr _ _) (fun r e => by cases e)) (by simp; omega)).mono ?_
      rintro e wx ⟨o', rfl, ho', hBx⟩
      obtain ⟨_, A', c', _, rfl, _, _⟩ := ho'
      have kt := (hBx.block wr.heap.size (by simp)).trans (heap_alloc_new wr _)
      have t1 := (cell_of_row wx wr.heap.size 1 _ _ _ kt).trans rfl
      have t2 := (cell_of_row wx wr.heap.size 2 _ _ _ kt).trans rfl
      have gx : wr.grownBy wx none := grown_trans (World.grownBy_alloc wr _ _) (grown_below hBx none)
      unfold res3
      simp only
      clear kt c0 c1 c2 hBx
      go_wp2_with fail
      go_roundw
      case rel => exact ⟨3, T, by omega, by go_num, grown_trans hg gx, (gx.block _ hbl (by simp)).trans HB.out⟩
      case measure => simp [intOf]
    · have c0 := (cell_of_row wr w2.heap.size 9 _ _ _ HB.out).trans rfl
      have c1 := (cell_of_row wr w2.heap.size 10 _ _ _ HB.out).trans rfl
      have c2 := (cell_of_row wr w2.heap.size 11 _ _ _ HB.out).trans rfl
      go_wp2_with fail
      refine (of_4 B _ (Laid.stable B wr _ none HG.out (World.grownBy_alloc wr _ _) (fun r e => by cases e)) (by simp; omega)).mono ?_
      rintro e wx ⟨o', rfl, ho', hBx⟩
      obtain ⟨_, A', c', _, rfl, _, _⟩ := ho'
      have kt := (hBx.block wr.heap.size (by simp)).trans (heap_alloc_new wr _)
      have t1 := (cell_of_row wx wr.heap.size 1 _ _ _ kt).trans rfl
      have t2 := (cell_of_row wx wr.heap.size 2 _ _ _ kt).trans rfl
      have gx : wr.grownBy wx none := grown_trans (World.grownBy_alloc wr _ _) (grown_below hBx none)
      unfold res4
      simp only
      clear kt c0 c1 c2 hBx
      go_wp2_with fail
      go_roundw
      case rel => exact ⟨4, T, by omega, by go_num, grown_trans hg gx, (gx.block _ hbl (by simp)).trans HB.out⟩
      case measure => simp [intOf]
    · have c0 := (cell_of_row wr w2.heap.size 12 _ _ _ HB.out).trans rfl
      have c1 := (cell_of_row wr w2.heap.size 13 _ _ _ HB.out).trans rfl
      have c2 := (cell_of_row wr w2.heap.size 14 _ _ _ HB.out).trans rfl
      go_wp2_with fail
      refine (of_5 B _ (Laid.stable B wr _ none HG.out (World.grownBy_alloc wr _ _) (fun r e => by cases e)) (by simp; omega)).mono ?_
      rintro e wx ⟨o', rfl, ho', hBx⟩
      obtain ⟨_, A', c', _, rfl, _, _⟩ := ho'
      have kt := (hBx.block wr.heap.size (by simp)).trans (heap_alloc_new wr _)
      have t1 := (cell_of_row wx wr.heap.size 1 _ _ _ kt).trans rfl
      have t2 := (cell_of_row wx wr.heap.size 2 _ _ _ kt).trans rfl
      have gx : wr.grownBy wx none := grown_trans (World.grownBy_alloc wr _ _) (grown_below hBx none)
      unfold res5
      simp only
      clear kt c0 c1 c2 hBx
      go_wp2_with fail
      go_roundw
      case rel => exact ⟨5, T, by omega, by go_num, grown_trans hg gx, (gx.block _ hbl (by simp)).trans HB.out⟩
      case measure => simp [intOf]
    · go_wp2_with fail
      go_ret
      exact ⟨rfl, below_of_grown (grown_trans HGW.out hg)⟩

end Go.Proofs.YtcbgkbidgpemfaaGreatDoor.awaw

/- The walk of burnishlaw17.ParseTells. Conditions: the tokens lie in memory; seven of the library's variables hold what the program's text lays. -/
namespace Go.Proofs.YtcbgkbidgpemfaaGreatDoor.tlw
open Go.RowKit
open Go.Proofs.YtcbgkbidgpemfaaGreatDoor.lexw
open Go.Proofs.YtcbgkbidgpemfaaGreatDoor.parw
open Go.Proofs.YtcbgkbidgpemfaaGreatDoor.flow
open Go.Proofs.YtcbgkbidgpemfaaGreatDoor.awaw
open Go.Proofs.YtcbgkbidgpemfaaGreatDoor.pft
open Go.Proofs.YtcbgkbidgpemfaaGreatDoor.rg

theorem tok_at {W : World} {B : Nat} {A : Option Addr} {n c : Nat} {ts : List PTok} (h : TArg W B (.slice A n c) ts) (i : Nat) (hi : i < ts.length) :
    ∃ g off, A = some ⟨g, off, none⟩ ∧ g < W.heap.size ∧ W.cell? ⟨g, off + i * 3, none⟩ = some (.int .u8 (ts[i].kind : Nat)) ∧ W.cell? ⟨g, off + i * 3 + 1, none⟩ = some (.int .i64 ts[i].pos) ∧ W.cell? ⟨g, off + i * 3 + 2, none⟩ = some (.string ts[i].text) := by
  obtain ⟨A', c', hv, _, _, hx⟩ := h
  injection hv with e1 e2 e3
  subst e1
  obtain ⟨g, off, hA, _, hg, hx⟩ := hx (by intro e; rw [e] at hi; simp at hi)
  have key : ∀ j u, (ts[i].cells)[j]? = some u → (pcells ts)[i * 3 + j]? = some u := fun j u hu => by
    have : pcells ts = pcells (ts.take i) ++ (ts[i].cells ++ pcells (ts.drop (i + 1))) := by rw [← pcells_cons, ← List.drop_eq_getElem_cons hi, ← pcells_app, List.take_append_drop]
    have hlen : (pcells (ts.take i)).length = i * 3 := by rw [pcells_length, List.length_take, Nat.min_eq_left (by omega)]
    rw [this, List.getElem?_append_right (by omega), hlen, Nat.add_sub_cancel_left, List.getElem?_append_left (List.getElem?_eq_some_iff.1 hu).1]
    exact hu
  refine ⟨g, off, hA, hg, ?_, ?_, ?_⟩
  · have := hx (i * 3 + 0) _ (key 0 _ rfl)
    simpa using this
  · rw [Nat.add_assoc]
    exact hx (i * 3 + 1) _ (key 1 _ rfl)
  · rw [Nat.add_assoc]
    exact hx (i * 3 + 2) _ (key 2 _ rfl)
theorem decR_ok (L : List PTok) (h : ∀ t ∈ L, t.text.size ≤ 1000) : DecR decE L := fun t ht w => parse16_any t.text (h t ht) w
theorem srow_form {W : World} {base : Nat} {o : Value} {l : List PStmt} (h : SRow W base o l) : ∃ A c, o = .slice A l.length c := by
  obtain ⟨_, _, ho, _⟩ := h
  exact row_form ho
theorem args_le (dec : ByteArray → Nat × Nat) (en : Int) : ∀ (l : List Bool) (s : RSt), (argsS dec en l s).1.length = l.length
  | [], s => rfl
  | b :: r, s => by
    show ((argS dec en b s).1 :: _).length = _
    rw [List.length_cons, List.length_cons, args_le dec en r]
theorem form_le (k : Nat) : (formL k).length ≤ 7 := by
  unfold formL
  match k with
  | 0 => decide
  | 1 => decide
  | 2 => decide
  | 3 => decide
  | 4 => decide
  | 5 => decide
  | 6 => decide
  | k + 7 => exact Nat.zero_le _
theorem parseL_le (dec : ByteArray → Nat × Nat) (en : Int) : ∀ (f : Nat) (s : RSt) (out : List PStmt), (∀ x ∈ out, x.args.length ≤ 7) → (parseL dec en f s out).1.length ≤ out.length + f ∧ ∀ x ∈ (parseL dec en f s out).1, x.args.length ≤ 7
  | 0, s, out, h => ⟨Nat.le_refl _, h⟩
  | f + 1, s, out, h => by
    unfold parseL
    by_cases h0 : s.er = 0
    · rw [if_pos h0]
      cases s.ts with
      | nil => exact ⟨Nat.le_add_right _ _, h⟩
      | cons t r =>
        simp only
        by_cases hk : t.kind = 4
        · rw [if_pos hk]
          obtain ⟨a1, a2⟩ := parseL_le dec en f { s with ts := r } out h
          exact ⟨by omega, a2⟩
        · rw [if_neg hk]
          obtain ⟨a1, a2⟩ := parseL_le dec en f (stmtS dec en s).2 (out ++ [(stmtS dec en s).1]) (fun x hx => by
            rcases List.mem_append.1 hx with hx | hx
            · exact h x hx
            · obtain rfl : x = _ := by simpa using hx
              unfold stmtS
              simp only
              rw [args_le]
              exact form_le _)
          rw [List.length_append] at a1
          exact ⟨by simpa [Nat.add_comm, Nat.add_left_comm] using a1, a2⟩
    · rw [if_neg h0]
      exact ⟨Nat.le_add_right _ _, h⟩
theorem res_le (dec : ByteArray → Nat × Nat) (ts : List PTok) : (parseRes dec ts).1.length ≤ ts.length + 1 ∧ ∀ x ∈ (parseRes dec ts).1, x.args.length ≤ 7 := by
  unfold parseRes
  simp only
  obtain ⟨a1, a2⟩ := parseL_le dec (endOf ts) (ts.length + 1) ⟨ts, 0, 0⟩ [] (fun x hx => by cases hx)
  split
  · exact ⟨by simpa using a1, a2⟩
  · exact ⟨Nat.zero_le _, fun x hx => by cases hx⟩
set_option maxRecDepth 100000 in
set_option maxHeartbeats 4000000 in
theorem ptells_any (B : Nat) (word : ByteArray) (kind : Nat) (hkind : kind < 256) (v : Value) (L : List PTok) (w : World) (hw : Laid B w) (h1 : TArg w B v L) (hB : B ≤ w.heap.size) :
    Calls Tryz.prog 3 #[.string word, .int .u8 kind, v] w fun e w' => e = .returned (.bool true) ∧ Below w.heap.size w w' := by
  obtain ⟨A, c, rfl⟩ := h1.form
  have hst : ∀ u : World, Below w.heap.size w u → Laid B u := fun u hu => Laid.stable B w u none hw (grown_below hu none) (fun r e => by cases e)
  have HST := Lib.hid hst
  have H1 := Lib.hid h1
  have HAW := Lib.hid (fun (u : World) (hu : Below w.heap.size w u) => awake_any B u (hst u hu) (by have := hu.size; omega))
  have HK := Lib.hid (fun (u : World) (hu : Below w.heap.size w u) => show Calls Tryz.prog 6 #[.string word] u fun e w' => e = .returned (.int .u8 (kindF word)) ∧ Below w.heap.size w w' from (kind_any word u).mono fun e w' ⟨h1, h2⟩ => ⟨h1, by subst h2; exact hu.alloc hu.size _⟩)
  have HW := Lib.hid (fun (u : World) (hu : Below w.heap.size w u) => show Calls Tryz.prog 8 #[.int .u8 kind] u fun e w' => e = .returned (.string (wordF kind)) ∧ Below w.heap.size w w' from (word_any kind hkind u).mono fun e w' ⟨h1, h2⟩ => ⟨h1, by subst h2; exact hu.alloc hu.size _⟩)
  have HRK := Lib.hid (fun (u : World) => rkind_any word u)
  have HRW := Lib.hid (fun (u : World) => rword_any kind u)
  obtain ⟨K, hK⟩ : ∃ K, kindF word = K := ⟨_, rfl⟩
  obtain ⟨T, hT⟩ : ∃ T, wordF kind = T := ⟨_, rfl⟩
  rw [hK] at HK HRK
  rw [hT] at HW HRW
  obtain ⟨N, hN⟩ : ∃ N, L.length = N := ⟨_, rfl⟩
  have HN := Lib.hid hN
  rw [hN] at H1 ⊢
  clear hK hT hN hst h1 hw
  by_cases hbig : 200 < N
  · have g1 : (200 : Int) < (N : Int) := by omega
    go_enter Tryz.func3, Tryz.ntmps3
    go_wp2_with (go_at_call 10; (with_reducible refine (HAW.out _ (Below.refl _ _)).mono ?_); rintro e w4 ⟨rfl, hw4⟩; have HB4 := Lib.hid hw4; clear hw4)
    go_ret
    exact ⟨rfl, HB4.out⟩
  have g1 : ¬ (200 : Int) < (N : Int) := by omega
  have hNi : (N : Int) ≤ 200 := by omega
  go_enter Tryz.func3, Tryz.ntmps3
  go_upto_region 3 with (first
    | (go_at_call 6; (with_reducible refine (HK.out _ (Below.refl _ _)).mono ?_); rintro e w1 ⟨rfl, x1⟩; have X1 := Lib.hid x1; clear x1)
    | (go_at_call 7; (with_reducible refine (HRK.out _).mono ?_); rintro e w' ⟨rfl, rfl⟩)
    | (go_at_call 8; (with_reducible refine (HW.out _ X1.out).mono ?_); rintro e w2 ⟨rfl, x2⟩; have X2 := Lib.hid x2; clear x2)
    | (go_at_call 9; (with_reducible refine (HRW.out _).mono ?_); rintro e w' ⟨rfl, rfl⟩))
  clear HK HW HRK HRW X1
  go_wp2_with fail
  go_loopw [40] (fun s40 wr => ∃ i : Nat, i ≤ N ∧ s40 = .int .i64 i ∧ Below w.heap.size w wr ∧ ∀ j (h : j < L.length), j < i → L[j].text.size ≤ 60) (fun s40 _ => N - (intOf s40).toNat)
  case atStart => exact ⟨0, Nat.zero_le _, rfl, X2.out, fun j _ h => absurd h (Nat.not_lt_zero _)⟩
  case round =>
    clear X2
    obtain ⟨i, hi, rfl, hbr, hno⟩ := hrel
    obtain ⟨wo, rfl⟩ : ∃ wo : World, wo = wr := ⟨_, rfl⟩
    have HBR := Lib.hid hbr
    have HNO := Lib.hid hno
    clear hbr hno
    have hii : (i : Int) ≤ (N : Int) := by omega
    by_cases hlt : i < N
    · have hiL : i < L.length := by rw [HN.out]; exact hlt
      obtain ⟨g, off, rfl, hg, e1, e2, e3⟩ := tok_at (H1.out.ext HBR.out) i hiL
      obtain ⟨t, ht⟩ : ∃ t, L[i] = t := ⟨_, rfl⟩
      rw [ht] at e1 e2 e3
      have HT := Lib.hid ht
      have hlti : (i : Int) < (N : Int) := by omega
      obtain ⟨X, hX⟩ : ∃ X, wo.alloc (.cells #[.int .u8 (t.kind : Nat), .int .i64 t.pos, .string t.text] 27) = X := ⟨_, rfl⟩
      obtain ⟨G, hG⟩ : ∃ G, wo.heap.size = G := ⟨_, rfl⟩
      have hkX : X.heap[G]? = some (.cells #[.int .u8 (t.kind : Nat), .int .i64 t.pos, .string t.text] 27 (0, 0)) := by rw [← hX, ← hG]; exact heap_alloc_new wo _
      have k2 := (cell_of_row X G 2 _ _ _ hkX).trans rfl
      have HBX := Lib.hid (show Below w.heap.size w X by rw [← hX]; exact HBR.out.alloc HBR.out.size _)
      clear ht hkX
      go_upto_region 6 with fail
      try rw [hX]
      try rw [hG]
      clear hX hG
      by_cases h60 : 60 < t.text.size
      · have f1 : (60 : Int) < (t.text.size : Int) := by omega
        go_wp2_with (go_at_call 10; (with_reducible refine (HAW.out _ HBX.out).mono ?_); rintro e w4 ⟨rfl, hw4⟩; have HB4 := Lib.hid hw4; clear hw4)
        go_ret
        exact ⟨rfl, HBX.out.trans (HB4.out.mono HBX.out.size)⟩
      · have f1 : ¬ (60 : Int) < (t.text.size : Int) := by omega
        have H60 := Lib.hid h60
        clear h60
        go_wp2_with fail
        refine ⟨⟨i + 1, by omega, by go_num, HBX.out, fun j hj hji => ?_⟩, by simp only [intOf]; omega⟩
        by_cases hjj : j < i
        · exact HNO.out j hj hjj
        · obtain rfl : j = i := by omega
          rw [HT.out]
          have := H60.out
          omega
    · obtain rfl : i = N := by omega
      have hall : ∀ t ∈ L, t.text.size ≤ 60 := fun t ht => by
        obtain ⟨j, hj, rfl⟩ := List.getElem_of_mem ht
        exact HNO.out j hj (by have := HN.out; omega)
      have hNL : L.length ≤ 200 := by rw [HN.out]; omega
      have hz := HBR.out.size
      have hta := H1.out.ext HBR.out
      have hrow : PRow wo wo.heap.size (.slice A i c) L := hta.row (by omega)
      have CP := parse_any decE (Laid B) L (by omega) (.slice A i c) wo (fun a b row h1 h2 h3 => Laid.stable B a b row h1 h2 fun r e => by have := h3 r e; omega) (dec_ok B L) hrow (HST.out wo HBR.out)
      have HRP := Lib.hid (fun (u : World) (hu : Below wo.heap.size wo u) => show Calls Tryz.prog 12 #[.slice A i c] u (ParsePost u (parseRes decE L)) from by
        have := parse17_any decE L (by omega) (decR_ok L fun t ht => by have := hall t ht; omega) (.slice A i c) u (prow_below hrow hu)
        rw [parse_ref] at this
        exact this)
      have hres := res_le decE L
      obtain ⟨R, hR⟩ : ∃ R, parseRes decE L = R := ⟨_, rfl⟩
      rw [hR] at CP HRP hres
      obtain ⟨l, pl, er⟩ := R
      simp only at hres
      have HSM := Lib.hid (fun (v1 v2 : Value) (u : World) (h1 : SRead u u.heap.size v1 l) (h2 : SRead u u.heap.size v2 l) => same17_eq u.heap.size v1 v2 l u h1 h2 (Nat.le_refl _) (by omega) (fun s hs => by have := hres.2 s hs; omega))
      have HCP := Lib.hid CP
      clear hall hNL hz hta hrow CP hR hres hlt HNO HN H1 HST
      go_wp2_with (first
        | (go_at_call 11; (with_reducible refine HCP.out.mono ?_); rintro e w1 ⟨o1, rfl, hs1, b1⟩; obtain ⟨A1, c1, rfl⟩ := srow_form hs1; have HS1 := Lib.hid (SRead.of_row hs1); have X1 := Lib.hid b1; clear hs1 b1)
        | (go_at_call 12; (with_reducible refine (HRP.out _ X1.out).mono ?_); rintro e w2 ⟨o2, rfl, hs2, b2⟩; obtain ⟨A2, c2, rfl⟩ := srow_form hs2; have HS2 := Lib.hid (SRead.of_row hs2); have HS3 := Lib.hid (awaw.SRead.mono (HS1.out.keep fun g hg _ => b2.block g hg) b2.size); have X2 := Lib.hid (HBR.out.trans ((X1.out.trans (b2.mono X1.out.size)).mono HBR.out.size)); clear hs2 b2)
        | (go_at_call 13; (with_reducible refine (HSM.out _ _ _ HS3.out HS2.out).mono ?_); rintro e w3 ⟨rfl, b3⟩; have X3 := Lib.hid (X2.out.trans (b3.mono X2.out.size)); clear b3)
        | (go_at_call 10; (with_reducible refine (HAW.out _ X3.out).mono ?_); rintro e w4 ⟨rfl, hw4⟩; have X4 := Lib.hid (X3.out.trans (hw4.mono X3.out.size)); clear hw4))
      go_ret
      exact ⟨rfl, X4.out⟩
end Go.Proofs.YtcbgkbidgpemfaaGreatDoor.tlw
