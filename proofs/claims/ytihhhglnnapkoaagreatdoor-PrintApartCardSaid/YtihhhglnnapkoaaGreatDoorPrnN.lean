/- print: names, words, and the closure that puts numbers behind a row of strings. No conditions but those stated. -/
import Derived.Test.YtihhhglnnapkoaaGreatDoorPrnM
namespace Go.Proofs.YtihhhglnnapkoaaGreatDoor.prnw
open Go.RowKit
open Go.Shelf
open Go.Sort
open Go.Proofs.YtihhhglnnapkoaaGreatDoor.nodew
open Go.Proofs.YtihhhglnnapkoaaGreatDoor.chkw
open Go.Proofs.YtihhhglnnapkoaaGreatDoor.flatm

def bA (l : List UInt8) : ByteArray := ⟨l.toArray⟩
theorem bA_list (l : List UInt8) : (bA l).data.toList = l := str_mk l
theorem bA_size (l : List UInt8) : (bA l).size = l.length := by show l.toArray.size = _; simp
theorem bA_of {T : ByteArray} {l : List UInt8} (h : T.data.toList = l) : T = bA l := str_ext (h.trans (str_mk l).symm)
/-- a place's name, a number's text -/
def nmB (k : Int) : ByteArray := bA (110 :: Lib.itoa k)
def prB (hi lo : Nat → Nat) (x : Nat) : ByteArray := bA (prT hi lo x)
theorem prB_size {hi lo : Nat → Nat} (hh : ∀ i, i < 696 → 9223372036854775808 ≤ hi i ∧ hi i < 18446744073709551616) (x : Nat) (hx : x < 18446744073709551616) : (prB hi lo x).size ≤ 101 := by
  unfold prB
  rw [bA_size]
  unfold prT
  split
  · rename_i ho
    have hr : rightF x = true := by
      unfold prOk at ho
      simp only [Bool.and_eq_true] at ho
      exact ho.1
    obtain ⟨fx, nx⟩ := right_word hx hr
    split
    · decide
    · split
      · have := pos_len hi lo (x - 9223372036854775808) (by omega) (by omega) hh
        rw [List.length_cons]
        omega
      · have := pos_len hi lo x (by omega) (by omega) hh
        omega
  · decide
theorem print_b {hi lo : Nat → Nat} (x : Nat) (hx : x < 18446744073709551616) (w : World) (hE : Env hi lo w) :
    Calls Tryz.prog 16 #[.float .f64 x] w (Bel w (.tuple #[.string (prB hi lo x), .int .i64 (prE x)])) :=
  (print_any hi lo x hx w hE).mono fun e w' h => by
    obtain ⟨⟨T, hT, he⟩, hb⟩ := h
    refine ⟨?_, hb⟩
    rw [he, bA_of hT]
    rfl
theorem name_any {hi lo : Nat → Nat} (k : Int) (k0 : -4000 ≤ k) (k1 : k ≤ 4999) (w : World) (hE : Env hi lo w) : Calls Tryz.prog 13 #[.int .i64 k] w (Bel w (.string (nmB k))) := by
  have CI := Lib.hid (itoa_c k k0 k1 w hE.tabs.2.2)
  clear hE
  go_enter Tryz.func13, Tryz.ntmps13
  go_wp2_with (go_at_call 24; (with_reducible refine CI.out.mono ?_); rintro e w1 ⟨⟨R, hR0, hR, rfl⟩, hb1⟩; have HR := Lib.hid hR; clear hR)
  go_ret
  refine ⟨?_, hb1⟩
  have e : (⟨#[110]⟩ ++ R : ByteArray) = nmB k := bA_of (by rw [str_app, HR.out]; rfl)
  rw [← e]
  rfl
/-! words -/
def wd1 : ByteArray := ⟨#[108, 97, 109, 98, 101, 114, 116]⟩
def wd2 : ByteArray := ⟨#[111, 114, 101, 110]⟩
def wd3 : ByteArray := ⟨#[112, 108, 97, 115, 116, 105, 99]⟩
def wd4 : ByteArray := ⟨#[109, 101, 116, 97, 108]⟩
def wd5 : ByteArray := ⟨#[109, 105, 120]⟩
def wd6 : ByteArray := ⟨#[99, 111, 97, 116]⟩
def wordsL : List ByteArray := [⟨#[]⟩, wd1, wd2, wd3, wd4, wd5, wd6]
theorem words_any (w : World) : Calls Tryz.prog 25 #[] w fun e w' => e = .returned (.slice (some ⟨w.heap.size, 0, none⟩) 7 7) ∧ w' = w.alloc (.cells (wordsL.map Value.string).toArray 9) := by
  go_enter Tryz.func25, Tryz.ntmps25
  go_wp2
  go_ret
  exact ⟨rfl, rfl⟩
theorem words_cells (w : World) : ∀ j (hj : j < wordsL.length), (w.alloc (.cells (wordsL.map Value.string).toArray 9)).cell? ⟨w.heap.size, j, none⟩ = some (.string wordsL[j]) := by
  intro j hj
  rw [cell_of_row _ w.heap.size j _ _ _ (heap_alloc_new w _)]
  simp [hj]
def wordF (k : Nat) : ByteArray := wordsL.getD k ⟨#[]⟩
theorem word_any (k : Nat) (hk : k < 256) (w : World) : Calls Tryz.prog 14 #[.int .u8 k] w (Bel w (.string (wordF k))) := by
  have hw := words_cells w
  by_cases h7 : k < 7
  · have hc := hw k h7
    have hf : wordF k = wordsL[k]'h7 := by unfold wordF; rw [List.getD_eq_getElem?_getD, List.getElem?_eq_getElem h7]; rfl
    have hw64 : IntKind.i64.wrap (k : Int) = k := IntWalk.i64_in _ (by omega)
    have hw64' : wrap64 (k : Int) = k := IntWalk.wrap64_in _ (by omega)
    go_enter Tryz.func14, Tryz.ntmps14
    go_wp2_with (go_at_call 25; refine (words_any _).mono ?_; rintro e wx ⟨rfl, rfl⟩)
    go_ret
    exact ⟨congrArg (fun x => Ending.returned (Value.string x)) hf.symm, (Below.refl _ _).alloc (Nat.le_refl _) _⟩
  · have hf : wordF k = ⟨#[]⟩ := by unfold wordF; rw [List.getD_eq_getElem?_getD, List.getElem?_eq_none (by show 7 ≤ k; omega)]; rfl
    clear hw
    have hw64' : wrap64 (k : Int) = k := IntWalk.wrap64_in _ (by omega)
    rw [hf]
    go_enter Tryz.func14, Tryz.ntmps14
    go_wp2_with (go_at_call 25; refine (words_any _).mono ?_; rintro e wx ⟨rfl, rfl⟩)
    go_ret
    exact ⟨rfl, (Below.refl _ _).alloc (Nat.le_refl _) _⟩
/-! a row of strings that grows -/
theorem sInfo : (Tryz.prog.info? 9).map (fun i => (i.zero, i.size, i.bytes)) = some (some (.string ByteArray.empty), 1, 16) := by kernel_rfl
def SBuf (w : World) (base g cap : Nat) (l : List ByteArray) : Prop := w.ownsRow base 9 1 (.slice (some ⟨g, 0, none⟩) l.length cap) l.length (l.map Value.string)
theorem SBuf.lt {w : World} {base g cap : Nat} {l : List ByteArray} (h : SBuf w base g cap l) : base ≤ g ∧ g < w.heap.size := World.ownsRow.lt h g rfl
theorem wl_appS {ops : Array Oper} {rest : List Oper} {o : Oper} {a : Act} {w : World} {Q : Exit → Act → World → Prop} (hgd : o.guard = none) (s x : Operand)
    (ho : o.op = .call { callee := .builtin .append, args := #[s, x], argTypes := #[47, 47] }) (base g cap : Nat) (l : List ByteArray) (hs : a.eval s = .slice (some ⟨g, 0, none⟩) l.length cap) (hown : SBuf w base g cap l)
    (ad : Addr) (m c : Nat) (news : List ByteArray) (hx : a.eval x = .slice (some ad) m c) (hm : news.length = m) (hm0 : 0 < m) (hnews : ∀ j b, news[j]? = some b → w.cell? (ad.add j) = some (.string b)) (hlen : l.length + m ≤ 1000) (hbase : base ≤ w.heap.size)
    (h : ∀ g' cap' w', SBuf w' base g' cap' (l ++ news) → w.grownBy w' (some g) → (g' = g ∨ g' = w.heap.size) → wpList Tryz.prog ops Q rest (a.put o.dst (.slice (some ⟨g', 0, none⟩) (l ++ news).length cap')) w') :
    wpList Tryz.prog ops Q (o :: rest) a w := by
  obtain ⟨i0, hi, hz1, hz2, hz3⟩ := info_parts sInfo
  refine wpList_append_lies w hgd s x 47 ho base 9 i0 _ 1 16 Tryz.underlying47 hi hz1 hz2 hz3 rfl (by decide) _ _ _ hs hown ad m c (news.map Value.string) hx (by rw [List.length_map, hm]; omega) (fun j u hu => ?_) (fun u hu => ?_) hm0 (by unfold maxLen; omega) (by omega) hbase _ rfl ?_
  · rw [List.getElem?_map, Option.map_eq_some_iff] at hu
    obtain ⟨b, hb, rfl⟩ := hu
    exact hnews j b hb
  · obtain ⟨b, _, rfl⟩ := List.mem_map.1 hu
    rfl
  · intro g' cap' w' how hg hgg _
    have e : l.length + m = (l ++ news).length := by rw [List.length_append, hm]
    rw [e, ← List.map_append] at how
    rw [e]
    refine h g' cap' w' how hg ?_
    rcases hgg with h1 | h1
    · exact .inl (Option.some.inj h1).symm
    · exact .inr h1
/-- the variable in block lb holds the row of strings, in block g -/
structure LS (w : World) (base lb g cap : Nat) (l : List ByteArray) : Prop where
  blk : w.heap[lb]? = some (.cells #[.slice (some ⟨g, 0, none⟩) l.length cap] 47 (0, 0))
  buf : SBuf w base g cap l
  ne : g ≠ lb
  le : base ≤ lb
theorem LS.lt {w : World} {base lb g cap : Nat} {l : List ByteArray} (h : LS w base lb g cap l) : lb < w.heap.size := (Array.getElem?_eq_some_iff.1 h.blk).1
theorem LS.grown {w w' : World} {base lb g cap : Nat} {l : List ByteArray} (h : LS w base lb g cap l) (hg : w.grownBy w' none) : LS w' base lb g cap l :=
  ⟨(hg.block lb h.lt (by simp)).trans h.blk, World.ownsRow.kept h.buf hg (.inr (by simp [Value.ownBlock])), h.ne, h.le⟩
theorem LS.later {w w' : World} {base lb g cap : Nat} {l : List ByteArray} (h : LS w base lb g cap l) (hb : Below w.heap.size w w') : LS w' base lb g cap l := h.grown (grown_below hb none)
/-- behind an append and the store of what it gave -/
theorem LS.put {w w' : World} {base lb g cap g' cap' : Nat} {l l' : List ByteArray} (h : LS w base lb g cap l) (hg : w.grownBy w' (some g)) (hb : SBuf w' base g' cap' l') (hgg : g' = g ∨ g' = w.heap.size) :
    LS (w'.setCell ⟨lb, 0, none⟩ (.slice (some ⟨g', 0, none⟩) l'.length cap')) base lb g' cap' l' := by
  have hlt := h.lt
  have hne := h.ne
  have hgl := h.buf.lt
  have hne' : g' ≠ lb := by omega
  have hbl : w'.heap[lb]? = some (.cells #[.slice (some ⟨g, 0, none⟩) l.length cap] 47 (0, 0)) := (hg.block lb hlt (fun e => hne (Option.some.inj e).symm)).trans h.blk
  refine ⟨?_, World.ownsRow.kept hb (set_grown _ _ _ _) (.inr (fun e => hne' (Option.some.inj e))), hne', h.le⟩
  rw [heap_set w' lb 0 _ _ _ _ hbl]
  rfl
theorem LS.below {w w' : World} {base lb g cap g' cap' : Nat} {l l' : List ByteArray} {B : Nat} (h : LS w base lb g cap l) (hg : w.grownBy w' (some g)) (hB : B ≤ base) (hBw : B ≤ w.heap.size) :
    Below B w (w'.setCell ⟨lb, 0, none⟩ (.slice (some ⟨g', 0, none⟩) l'.length cap')) := by
  have hgl := h.buf.lt
  have hle := h.le
  exact ((Below.refl _ _).grown hg hBw (fun k e => by obtain rfl := Option.some.inj e; omega)).grown (set_grown _ lb 0 _) (Nat.le_trans hBw hg.size) (fun k e => by obtain rfl := Option.some.inj e; omega)
/-- the globals lie below -/
def Gl (B : Nat) : Prop := 8 < B ∧ 7 < B ∧ 1 < B
theorem Env.under {hi lo : Nat → Nat} {w w' : World} {B : Nat} (h : Env hi lo w) (g : Gl B) (hb : Below B w w') : Env hi lo w' := by
  have hs := hb.size
  refine ⟨⟨fun i h6 => ?_, h.tabs.2.1, tab_below h.tabs.2.2 hb g.2.1⟩, ?_, Nat.lt_of_lt_of_le h.n1 hs, Nat.lt_of_lt_of_le h.n2 hs, Nat.lt_of_lt_of_le h.n3 hs⟩
  · obtain ⟨a, b, c, d⟩ := h.tabs.1 i h6
    exact ⟨a, b, (hb.cell g.1).trans c, (hb.cell g.1).trans d⟩
  · obtain ⟨m, hm⟩ := h.ml
    exact ⟨m, (hb.cell g.2.2).trans hm⟩
end Go.Proofs.YtihhhglnnapkoaaGreatDoor.prnw
