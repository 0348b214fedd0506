/- The walks of parse's words, Kind, Word, forms, and of slices.Index. Conditions: as each theorem states. -/
import Derived.Test.YtcbgkbidgpemfaaGreatDoorMp05
import Derived.Below
import Derived.Laws.OwnMore
import Derived.Deep.AppendLies
import Derived.Deep.Draws
import Derived.Maps.AppendAt
import Derived.RegionTactic
import Derived.OwnWalk
namespace Go.Proofs.YtcbgkbidgpemfaaGreatDoor.parw
open Go.RowKit
open Go.Proofs.YtcbgkbidgpemfaaGreatDoor.lexw

def wd1 : ByteArray := ⟨#[108, 97, 109, 98, 101, 114, 116]⟩
def wd2 : ByteArray := ⟨#[111, 114, 101, 110]⟩
def wd3 : ByteArray := ⟨#[112, 108, 97, 115, 116, 105, 99]⟩
def wd4 : ByteArray := ⟨#[109, 101, 116, 97, 108]⟩
def wd5 : ByteArray := ⟨#[109, 105, 120]⟩
def wd6 : ByteArray := ⟨#[99, 111, 97, 116]⟩
def wordsL : List ByteArray := [⟨#[]⟩, wd1, wd2, wd3, wd4, wd5, wd6]

def idxS : List ByteArray → ByteArray → Nat → Int
  | [], _, _ => -1
  | a :: r, s, k => if s = a then k else idxS r s (k + 1)

theorem sbeq {s a : ByteArray} (h : ¬ s = a) : (s.toList == a.toList) = false := by
  rw [beq_eq_false_iff_ne]
  intro e
  apply h
  rw [ByteArray.toList_eq, ByteArray.toList_eq] at e
  obtain ⟨⟨s⟩⟩ := s
  obtain ⟨⟨a⟩⟩ := a
  simp only at e
  rw [e]
theorem words_any (w : World) : Calls Tryz.prog 31 #[] w fun e w' => e = .returned (.slice (some ⟨w.heap.size, 0, none⟩) 7 7) ∧ w' = w.alloc (.cells (wordsL.map Value.string).toArray 9) := by
  go_enter Tryz.func31, Tryz.ntmps31
  go_wp2
  go_ret
  exact ⟨rfl, rfl⟩

set_option maxHeartbeats 1000000 in
theorem index_any (l : List ByteArray) (hl : l.length ≤ 1000) (g c : Nat) (s : ByteArray) (w : World) (hc : ∀ j (hj : j < l.length), w.cell? ⟨g, j, none⟩ = some (.string l[j])) :
    Calls Tryz.prog 30 #[.slice (some ⟨g, 0, none⟩) l.length c, .string s] w fun e w' => e = .returned (.int .i64 (idxS l s 0)) ∧ w' = w := by
  go_enter Tryz.func30, Tryz.ntmps30
  go_wp2_with fail
  go_loop [8] (fun i => ∃ k : Nat, k ≤ l.length ∧ i = .int .i64 k ∧ idxS l s 0 = idxS (l.drop k) s k) (fun i => l.length - (intOf i).toNat)
  case atStart => exact ⟨0, by omega, rfl, rfl⟩
  case round =>
    obtain ⟨k, hk, rfl, hx⟩ := hrel
    by_cases hkl : k < l.length
    · have ck := hc k hkl
      rw [List.drop_eq_getElem_cons hkl] at hx
      obtain ⟨a, ha⟩ : ∃ a, l[k] = a := ⟨_, rfl⟩
      rw [ha] at hx ck
      by_cases he : s = a
      · have hx' : idxS l s 0 = k := by rw [hx]; unfold idxS; rw [if_pos he]
        have HX := Lib.hid hx'
        subst he
        clear hx hx' hc
        go_wp2
        go_ret
        exact ⟨ret_int HX.out.symm, rfl⟩
      · have hx' : idxS l s 0 = idxS (l.drop (k + 1)) s (k + 1) := by rw [hx]; conv => { lhs; unfold idxS }; rw [if_neg he]
        have HX := Lib.hid hx'
        have hb := sbeq he
        clear hx hx' hc ha
        go_wp2
        go_round
        case rel => exact ⟨k + 1, by omega, by go_num, HX.out⟩
        case measure => simp [intOf]; omega
    · obtain rfl : k = l.length := by omega
      have hx' : idxS l s 0 = -1 := by rw [hx, List.drop_length]; rfl
      have HX := Lib.hid hx'
      clear hx hx' hc
      go_wp2
      go_ret
      exact ⟨ret_int HX.out.symm, rfl⟩

def kindF (s : ByteArray) : Nat := if s = wd1 then 1 else if s = wd2 then 2 else if s = wd3 then 3 else if s = wd4 then 4 else if s = wd5 then 5 else if s = wd6 then 6 else 0
theorem kind_idx (s : ByteArray) : IntKind.u8.wrap (max (idxS wordsL s 0) 0) = kindF s := by
  by_cases h0 : s = ⟨#[]⟩
  · subst h0; decide +kernel
  · unfold kindF wordsL
    simp only [idxS]
    rw [if_neg h0]
    repeat' split
    all_goals rfl
theorem kindF_le (s : ByteArray) : kindF s ≤ 6 := by
  unfold kindF
  repeat' split
  all_goals omega

theorem words_cells (w : World) : ∀ j (hj : j < wordsL.length), (w.alloc (.cells (wordsL.map Value.string).toArray 9)).cell? ⟨w.heap.size, j, none⟩ = some (.string wordsL[j]) := by
  intro j hj
  rw [cell_of_row _ w.heap.size j _ _ _ (heap_alloc_new w _)]
  simp [hj]

theorem kind_any (s : ByteArray) (w : World) : Calls Tryz.prog 6 #[.string s] w fun e w' => e = .returned (.int .u8 (kindF s)) ∧ w' = w.alloc (.cells (wordsL.map Value.string).toArray 9) := by
  have hk := kind_idx s
  have hk1 : idxS wordsL s 0 < 0 → ((kindF s : Nat) : Int) = 0 := fun h => by rw [← hk, Int.max_eq_right (by omega)]; rfl
  have hk2 : 0 ≤ idxS wordsL s 0 → ((kindF s : Nat) : Int) = idxS wordsL s 0 % 256 := fun h => by rw [← hk, Int.max_eq_left (by omega)]; rfl
  have hk3 : max (idxS wordsL s 0) 0 % 256 = ((kindF s : Nat) : Int) := by rw [← hk]; rfl
  have H1 := Lib.hid hk1
  have H2 := Lib.hid hk2
  have H3 := Lib.hid hk3
  clear hk hk1 hk2 hk3
  go_enter Tryz.func6, Tryz.ntmps6
  go_wp2_with (first | (go_at_call 31; refine (words_any _).mono ?_; rintro e wx ⟨rfl, rfl⟩) | (go_at_call 30; refine (index_any wordsL (by decide) _ 7 s _ (words_cells w)).mono ?_; rintro e wy ⟨rfl, rfl⟩))
  all_goals go_ret
  all_goals first
    | exact ⟨ret_int H3.out, rfl⟩
    | exact ⟨ret_int (H1.out (by assumption)).symm, rfl⟩
    | exact ⟨ret_int (H2.out (by assumption)).symm, rfl⟩

def formsV : Value := .agg #[.string ⟨#[]⟩, .string ⟨#[110, 110, 110]⟩, .string ⟨#[110, 110, 110, 110]⟩, .string ⟨#[110, 110]⟩, .string ⟨#[110, 110, 110, 110, 110, 110, 110]⟩, .string ⟨#[110, 119, 119]⟩, .string ⟨#[110, 110, 110, 110, 119]⟩]
theorem forms_any (w : World) : Calls Tryz.prog 58 #[] w fun e w' => e = .returned formsV ∧ Below w.heap.size w w' := by
  go_enter Tryz.func58, Tryz.ntmps58
  go_wp2
  refine bodyPost_ret (results_cell_row (ty := 102) (p := 0) rfl _ _ w.heap.size _ _ _ _ rfl (heap_alloc_new w _) Tryz.underlying102 rfl (by kernel_rfl)) rfl ?_
  exact ⟨rfl, (Below.refl _ w).alloc (Nat.le_refl _) _⟩

end Go.Proofs.YtcbgkbidgpemfaaGreatDoor.parw

/- The walk of parse.Word. Condition: the kind is a byte. -/
namespace Go.Proofs.YtcbgkbidgpemfaaGreatDoor.parw
open Go.RowKit
open Go.Proofs.YtcbgkbidgpemfaaGreatDoor.lexw

def wordF (k : Nat) : ByteArray := wordsL.getD k ⟨#[]⟩
theorem word_any (k : Nat) (hk : k < 256) (w : World) : Calls Tryz.prog 8 #[.int .u8 k] w fun e w' => e = .returned (.string (wordF k)) ∧ w' = w.alloc (.cells (wordsL.map Value.string).toArray 9) := by
  have hw := words_cells w
  by_cases h7 : k < 7
  · have hc := hw k h7
    have hf : wordF k = wordsL[k]'h7 := by unfold wordF; rw [List.getD_eq_getElem?_getD, List.getElem?_eq_getElem h7]; rfl
    have hw64 : IntKind.i64.wrap (k : Int) = k := IntWalk.i64_in _ (by omega)
    have hw64' : wrap64 (k : Int) = k := IntWalk.wrap64_in _ (by omega)
    go_enter Tryz.func8, Tryz.ntmps8
    go_wp2_with (go_at_call 31; refine (words_any _).mono ?_; rintro e wx ⟨rfl, rfl⟩)
    go_ret
    exact ⟨congrArg (fun x => Ending.returned (Value.string x)) hf.symm, rfl⟩
  · have hf : wordF k = ⟨#[]⟩ := by unfold wordF; rw [List.getD_eq_getElem?_getD, List.getElem?_eq_none (by show 7 ≤ k; omega)]; rfl
    clear hw
    have hw64' : wrap64 (k : Int) = k := IntWalk.wrap64_in _ (by omega)
    rw [hf]
    go_enter Tryz.func8, Tryz.ntmps8
    go_wp2_with (go_at_call 31; refine (words_any _).mono ?_; rintro e wx ⟨rfl, rfl⟩)
    go_ret
    exact ⟨rfl, rfl⟩

end Go.Proofs.YtcbgkbidgpemfaaGreatDoor.parw

/- The walks of the reader's word and number. Conditions: as each theorem states. -/
namespace Go.Proofs.YtcbgkbidgpemfaaGreatDoor.parw
open Go.RowKit
open Go.Proofs.YtcbgkbidgpemfaaGreatDoor.lexw

theorem run_store_float (P : Program) (w : World) (a : Addr) (m : Mode) (k : FloatKind) (b : Nat) : (store a (.float k b) m).run P w = stored P w a (.float k b) m := run_store P w a _ m rfl
attribute [local go_sem] run_store_float

/-- what stands behind a kind -/
structure PArg where
  pos : Int
  num : Nat
  name : ByteArray
def PArg.cells (a : PArg) : List Value := [.int .i64 a.pos, .float .f64 a.num, .string a.name]
def PArg.val (a : PArg) : Value := .agg #[.int .i64 a.pos, .float .f64 a.num, .string a.name]
def PArg.no : PArg := ⟨0, 0, ⟨#[]⟩⟩

theorem store3 (W : World) (g : Nat) (cs : Array Value) (t : TypeId) (x y z : Value) (hk : W.heap[g]? = some (.cells cs t (0, 0))) (hcs : cs.size = 3) :
    (((W.setCell ⟨g, 0, none⟩ x).setCell ⟨g, 1, none⟩ y).setCell ⟨g, 2, none⟩ z).heap[g]? = some (.cells #[x, y, z] t (0, 0)) ∧
    W.grownBy (((W.setCell ⟨g, 0, none⟩ x).setCell ⟨g, 1, none⟩ y).setCell ⟨g, 2, none⟩ z) (some g) := by
  have k0 := heap_set W g 0 _ _ _ x hk
  have k1 := heap_set _ g 1 _ _ _ y k0
  have k2 := heap_set _ g 2 _ _ _ z k1
  refine ⟨k2.trans ?_, grown_trans (grown_trans (grown_setCell W ⟨g, 0, none⟩ x) (grown_setCell _ ⟨g, 1, none⟩ y)) (grown_setCell _ ⟨g, 2, none⟩ z)⟩
  obtain ⟨cs⟩ := cs
  match cs, hcs with
  | [_, _, _], _ => rfl

/-- what a reader's function hands back -/
def ArgPost (rb B : Nat) (en : Int) (r : PArg × RSt) (w : World) (e : Ending) (w' : World) : Prop :=
  e = .returned r.1.val ∧ RdAt w' rb B en r.2 ∧ w.grownBy w' (some rb)

def wordS (en : Int) (s : RSt) : PArg × RSt := (⟨(nextS en s 1).1.pos, 0, (nextS en s 1).1.text⟩, (nextS en s 1).2)

set_option maxHeartbeats 1000000 in
theorem rword_any (rb B : Nat) (en : Int) (s : RSt) (w : World) (h : RdAt w rb B en s) :
    Calls Tryz.prog 60 #[.pointer (some ⟨rb, 0, none⟩)] w (ArgPost rb B en (wordS en s) w) := by
  have hlt := h.lt
  have hB := h.1
  unfold wordS
  obtain ⟨⟨t, s1⟩, hr⟩ : ∃ r, nextS en s 1 = r := ⟨_, rfl⟩
  have hn := next_any rb B en s 1 _ (h.alloc (.cells #[.int .i64 0, .float .f64 0, .string ⟨#[]⟩] 59))
  rw [hr] at hn ⊢
  go_enter Tryz.func60, Tryz.ntmps60
  go_wp2_with fail
  refine hn.mono ?_
  rintro e w1 ⟨rfl, h1, g1⟩
  have hk : w1.heap[w.heap.size]? = _ := (g1.block w.heap.size (by simp) (by simp; omega)).trans (heap_alloc_new w _)
  have hsz : w.heap.size < w1.heap.size := by have := g1.size; simp at this; omega
  have F0 := not_frozen hk 0
  have F1 := not_frozen hk 1
  have F2 := not_frozen hk 2
  have C0 := (cell_of_row w1 w.heap.size 0 _ _ _ hk).trans rfl
  have C1 := (cell_of_row w1 w.heap.size 1 _ _ _ hk).trans rfl
  have C2 := (cell_of_row w1 w.heap.size 2 _ _ _ hk).trans rfl
  unfold PTok.val
  go_wp2
  obtain ⟨b1, b2⟩ := store3 w1 w.heap.size _ _ (.int .i64 t.pos) (.float .f64 0) (.string t.text) hk rfl
  refine bodyPost_ret (results_cell_row (ty := 59) (p := 2) rfl _ _ w.heap.size _ _ _ _ rfl ((World.heap_alloc_lt' _ _ _ (by simpa using hsz)).trans b1) Tryz.underlying59 rfl (by kernel_rfl)) rfl ?_
  exact ⟨rfl, (h1.kept b2 fun q e => by injection e with e; omega).alloc _, grown_trans (grown_into (grown_trans (World.grownBy_alloc w _ _) g1) b2) (World.grownBy_alloc _ _ _)⟩

/-- what decimal.Parse hands back -/
def DecPost (r : Nat × Nat) (w : World) (e : Ending) (w' : World) : Prop :=
  e = .returned (.tuple #[.float .f64 r.1, .int .i64 r.2]) ∧ Below w.heap.size w w'
/-- a condition on the blocks below B -/
def Stable (G : World → Prop) (B : Nat) : Prop := ∀ w w' row, G w → w.grownBy w' row → (∀ r, row = some r → B ≤ r) → G w'

def numS (dec : ByteArray → Nat × Nat) (en : Int) (s : RSt) : PArg × RSt :=
  if (nextS en s 2).2.er = 0 then
    (⟨(nextS en s 2).1.pos, (dec (nextS en s 2).1.text).1, ⟨#[]⟩⟩, if (dec (nextS en s 2).1.text).2 = 0 then (nextS en s 2).2 else (nextS en s 2).2.fail (nextS en s 2).1.pos (dec (nextS en s 2).1.text).2)
  else (PArg.no, (nextS en s 2).2)

set_option maxHeartbeats 1000000 in
theorem number_any (dec : ByteArray → Nat × Nat) (G : World → Prop) (rb B : Nat) (hG : Stable G B) (en : Int) (s : RSt)
    (hd : (nextS en s 2).2.er = 0 → ∀ w, G w → Calls Tryz.prog 94 #[.string (nextS en s 2).1.text] w (DecPost (dec (nextS en s 2).1.text) w)) (w : World) (h : RdAt w rb B en s) (hw : G w) :
    Calls Tryz.prog 59 #[.pointer (some ⟨rb, 0, none⟩)] w (ArgPost rb B en (numS dec en s) w) := by
  have hlt := h.lt
  have hB := h.1
  unfold numS
  obtain ⟨⟨t, s1⟩, hr⟩ : ∃ r, nextS en s 2 = r := ⟨_, rfl⟩
  have hn := next_any rb B en s 2 _ (h.alloc (.cells #[.int .i64 0, .float .f64 0, .string ⟨#[]⟩] 59))
  rw [hr] at hn hd ⊢
  simp only at hd ⊢
  obtain ⟨⟨x, er⟩, hx⟩ : ∃ r, dec t.text = r := ⟨_, rfl⟩
  rw [hx] at hd ⊢
  obtain ⟨R, hR⟩ : ∃ R, R = (if s1.er = 0 then ((⟨t.pos, x, ⟨#[]⟩⟩ : PArg), if er = 0 then s1 else s1.fail t.pos er) else (PArg.no, s1)) := ⟨_, rfl⟩
  have HR := Lib.hid hR
  simp only
  rw [← hR]
  clear hR
  go_enter Tryz.func59, Tryz.ntmps59
  go_wp2_with fail
  refine hn.mono ?_
  rintro e w1 ⟨rfl, h1, g1⟩
  have hk : w1.heap[w.heap.size]? = _ := (g1.block w.heap.size (by simp) (by simp; omega)).trans (heap_alloc_new w _)
  have hsz : w.heap.size < w1.heap.size := by have := g1.size; simp at this; omega
  have hg1 := grown_trans (World.grownBy_alloc w (.cells #[.int .i64 0, .float .f64 0, .string ⟨#[]⟩] 59) _) g1
  have hG1 : G w1 := hG w w1 _ hw hg1 (fun r e => by injection e with e; omega)
  simp only at h1
  clear g1
  unfold PTok.val
  by_cases h0 : s1.er = 0
  · have hD := hd h0
    clear hd
    obtain ⟨_, v, _, hb⟩ := id h1
    have c3 := (cell_of_row w1 rb 3 _ _ _ hb).trans rfl
    have e0 : ((s1.er : Int) != 0) = false := by rw [h0]; rfl
    have hlt1 := h1.lt
    clear hb hr hn
    go_wp2_with fail
    refine (hD _ (hG _ _ none hG1 (World.grownBy_alloc w1 _ _) (fun r e => by cases e))).mono ?_
    rintro e w2 ⟨rfl, hB2⟩
    have h2 : RdAt w2 rb B en s1 := (h1.alloc _).below hB2
    have hg2 := grown_trans hg1 (grown_trans (World.grownBy_alloc w1 _ _) (grown_below hB2 (some rb)))
    have ht2 : w2.heap[w1.heap.size]? = _ := (hB2.block w1.heap.size (by simp)).trans (heap_alloc_new w1 _)
    have hk2 : w2.heap[w.heap.size]? = _ := (hB2.block w.heap.size (by simp; omega)).trans ((World.heap_alloc_lt' _ _ _ hsz).trans hk)
    have hs2 : w1.heap.size + 1 ≤ w2.heap.size := by have := hB2.size; simpa using this
    simp only
    by_cases he : er = 0
    · have ee : ((er : Int) != 0) = false := by rw [he]; rfl
      have hR : R = (⟨t.pos, x, ⟨#[]⟩⟩, s1) := by have := HR.out; rw [if_pos h0, if_pos he] at this; exact this
      subst hR
      have T1 := (cell_of_row w2 w1.heap.size 1 _ _ _ ht2).trans rfl
      have F0 := not_frozen hk2 0
      have F1 := not_frozen hk2 1
      have F2 := not_frozen hk2 2
      have C0 := (cell_of_row w2 w.heap.size 0 _ _ _ hk2).trans rfl
      have C1 := (cell_of_row w2 w.heap.size 1 _ _ _ hk2).trans rfl
      have C2 := (cell_of_row w2 w.heap.size 2 _ _ _ hk2).trans rfl
      have HG := Lib.hid hg2
      clear hg1 hg2 hB2 ht2 c3
      go_wp2
      obtain ⟨b1, b2⟩ := store3 w2 w.heap.size _ _ (.int .i64 t.pos) (.float .f64 x) (.string ⟨#[]⟩) hk2 rfl
      refine bodyPost_ret (results_cell_row (ty := 59) (p := 2) rfl _ _ w.heap.size _ _ _ _ rfl b1 Tryz.underlying59 rfl (by kernel_rfl)) rfl ?_
      exact ⟨rfl, h2.kept b2 fun q e => by injection e with e; omega, grown_into HG.out b2⟩
    · have ee : ((er : Int) != 0) = true := by simp; omega
      have hR : R = (⟨t.pos, x, ⟨#[]⟩⟩, s1.fail t.pos er) := by have := HR.out; rw [if_pos h0, if_neg he] at this; exact this
      subst hR
      have T1 := (cell_of_row w2 w1.heap.size 1 _ _ _ ht2).trans rfl
      clear c3
      go_wp2_with fail
      refine (fails_any rb B en s1 _ _ _ h2).mono ?_
      rintro e w3 ⟨rfl, h3, g3⟩
      have ht3 : w3.heap[w1.heap.size]? = _ := (g3.block w1.heap.size (by omega) (by simp; omega)).trans ht2
      have hk3 : w3.heap[w.heap.size]? = _ := (g3.block w.heap.size (by omega) (by simp; omega)).trans hk2
      have T1 := (cell_of_row w3 w1.heap.size 1 _ _ _ ht3).trans rfl
      have F0 := not_frozen hk3 0
      have F1 := not_frozen hk3 1
      have F2 := not_frozen hk3 2
      have C0 := (cell_of_row w3 w.heap.size 0 _ _ _ hk3).trans rfl
      have C1 := (cell_of_row w3 w.heap.size 1 _ _ _ hk3).trans rfl
      have C2 := (cell_of_row w3 w.heap.size 2 _ _ _ hk3).trans rfl
      have hg3 := grown_trans hg2 g3
      clear hg1 hg2 hB2 ht2 ht3 g3
      go_wp2
      obtain ⟨b1, b2⟩ := store3 w3 w.heap.size _ _ (.int .i64 t.pos) (.float .f64 x) (.string ⟨#[]⟩) hk3 rfl
      refine bodyPost_ret (results_cell_row (ty := 59) (p := 2) rfl _ _ w.heap.size _ _ _ _ rfl b1 Tryz.underlying59 rfl (by kernel_rfl)) rfl ?_
      exact ⟨rfl, h3.kept b2 fun q e => by injection e with e; omega, grown_into hg3 b2⟩
  · have hR : R = (PArg.no, s1) := by have := HR.out; rw [if_neg h0] at this; exact this
    subst hR
    clear hd
    obtain ⟨_, v, _, hb⟩ := id h1
    have c3 := (cell_of_row w1 rb 3 _ _ _ hb).trans rfl
    have e0 : ((s1.er : Int) != 0) = true := by simp; omega
    have hlt1 := h1.lt
    have F0 := not_frozen hk 0
    have F1 := not_frozen hk 1
    have F2 := not_frozen hk 2
    have C0 := (cell_of_row w1 w.heap.size 0 _ _ _ hk).trans rfl
    have C1 := (cell_of_row w1 w.heap.size 1 _ _ _ hk).trans rfl
    have C2 := (cell_of_row w1 w.heap.size 2 _ _ _ hk).trans rfl
    clear hb hr hn
    go_wp2
    obtain ⟨b1, b2⟩ := store3 w1 w.heap.size _ _ (.int .i64 0) (.float .f64 0) (.string ⟨#[]⟩) hk rfl
    refine bodyPost_ret (results_cell_row (ty := 59) (p := 2) rfl _ _ w.heap.size _ _ _ _ rfl ((World.heap_alloc_lt' _ _ _ (by simpa using hsz)).trans b1) Tryz.underlying59 rfl (by kernel_rfl)) rfl ?_
    exact ⟨rfl, (h1.kept b2 fun q e => by injection e with e; omega).alloc _, grown_trans (grown_into hg1 b2) (World.grownBy_alloc _ _ _)⟩

end Go.Proofs.YtcbgkbidgpemfaaGreatDoor.parw

/- Small lemmas on slices for every law of this seat: a slice that reads as a list, an append onto a row of the call's own. The texts are the guide's (extra-words), as the guide bids to copy them. -/
namespace Go.Proofs.YtcbgkbidgpemfaaGreatDoor.words
open Go.RowKit
theorem block_of_add (a : Addr) (n : Nat) : (a.add n).block = a.block := by unfold Addr.add; split <;> rfl
theorem add_of_add (a : Addr) (i j : Nat) : (a.add i).add j = a.add (i + j) := by
  unfold Addr.add
  by_cases hi : i = 0 <;> by_cases hj : j = 0 <;> simp [hi, hj, Nat.add_assoc]

def Reads (w : World) (B size : Nat) (A : Option Addr) (n : Nat) (xs : List Value) : Prop :=
  xs.length = n * size ∧ (0 < n → ∃ ad, A = some ad ∧ ad.block < B ∧ ∀ j u, xs[j]? = some u → w.cell? (ad.add j) = some u)

section
variable {w w' : World} {B B' size n : Nat} {A : Option Addr} {xs : List Value}
theorem Reads.at_ {k : Nat} (h : Reads w B 1 A n xs) (hk : k < n) : ∃ ad u, A = some ad ∧ ad.block < B ∧ xs[k]? = some u ∧ w.cell? (ad.add k) = some u := by
  obtain ⟨ad, e, hb, hc⟩ := h.2 (by omega)
  have hl : k < xs.length := by have := h.1; omega
  exact ⟨ad, xs[k], e, hb, List.getElem?_eq_getElem hl, hc k _ (List.getElem?_eq_getElem hl)⟩
theorem Reads.keep (h : Reads w B size A n xs) (hk : ∀ p : Addr, p.block < B → w'.cell? p = w.cell? p) : Reads w' B size A n xs :=
  ⟨h.1, fun hn => by
    obtain ⟨ad, e, hb, hc⟩ := h.2 hn
    exact ⟨ad, e, hb, fun j u hu => (hk _ (by rw [block_of_add]; exact hb)).trans (hc j u hu)⟩⟩
theorem Reads.below (h : Reads w B size A n xs) (hb : Below B w w') : Reads w' B size A n xs := h.keep fun _ hp => hb.cell hp
theorem Reads.cut (h : Reads w B size A n xs) {k cap : Nat} (hk : k ≤ n) (hc : n ≤ cap) :
    Reads w B size (if cap = k then A else A.map (·.add (k * size))) (n - k) (xs.drop (k * size)) := by
  refine ⟨by rw [List.length_drop, h.1, Nat.sub_mul], fun hn => ?_⟩
  obtain ⟨ad, rfl, hb, hcell⟩ := h.2 (by omega)
  rw [if_neg (by omega)]
  refine ⟨ad.add (k * size), rfl, by rw [block_of_add]; exact hb, fun j u hu => ?_⟩
  rw [add_of_add]
  exact hcell _ u (by rw [← hu, List.getElem?_drop])
end
section
variable {P : Program} (w : World)

end
end Go.Proofs.YtcbgkbidgpemfaaGreatDoor.words
