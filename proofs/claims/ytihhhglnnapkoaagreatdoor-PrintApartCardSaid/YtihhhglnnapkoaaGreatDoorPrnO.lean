/- print.Line's closure: numbers put behind a row of strings. Condition: the numbers lie in memory, in another block. -/
import Derived.Test.YtihhhglnnapkoaaGreatDoorPrnN
namespace Go.Proofs.YtihhhglnnapkoaaGreatDoor.prnw
open Go.RowKit
open Go.Shelf
open Go.Sort
open Go.Proofs.YtihhhglnnapkoaaGreatDoor.nodew
open Go.Proofs.YtihhhglnnapkoaaGreatDoor.chkw
open Go.Proofs.YtihhhglnnapkoaaGreatDoor.flatm

def PutPost (w : World) (base lb fb : Nat) (l : List ByteArray) (e : Ending) (w' : World) : Prop :=
  e = .returned (.tuple #[]) ∧ (∃ g cap, LS w' base lb g cap l ∧ g ≠ fb) ∧ Below base w w'
theorem cells_newS (W : World) (news : List ByteArray) (t : TypeId) : ∀ j b, news[j]? = some b → (W.alloc (.cells (news.map Value.string).toArray t)).cell? ((⟨W.heap.size, 0, none⟩ : Addr).add j) = some (.string b) := by
  intro j b hb
  have hadd : (⟨W.heap.size, 0, none⟩ : Addr).add j = ⟨W.heap.size, j, none⟩ := by unfold Addr.add; split <;> simp_all
  rw [hadd, cell_of_row _ _ j _ _ _ (heap_alloc_new W _)]
  simp [hb]
theorem lb_cell {w w' : World} {base lb g cap : Nat} {l : List ByteArray} (h : LS w base lb g cap l) (hg : w.grownBy w' (some g)) : w'.cell? ⟨lb, 0, none⟩ = some (.slice (some ⟨g, 0, none⟩) l.length cap) ∧ w'.frozen? ⟨lb, 0, none⟩ = false := by
  have hlt := h.lt
  have hne := h.ne
  have hbl : w'.heap[lb]? = some (.cells #[.slice (some ⟨g, 0, none⟩) l.length cap] 47 (0, 0)) := (hg.block lb hlt (fun e => hne (Option.some.inj e).symm)).trans h.blk
  refine ⟨?_, ?_⟩
  · rw [cell_of_row w' lb 0 _ _ _ hbl]; rfl
  · simp only [World.frozen?, hbl]
    simp
set_option maxRecDepth 100000 in
set_option maxHeartbeats 2000000 in
theorem put_any (hi lo : Nat → Nat) (base lb fb off c g cap : Nat) (xs : List Nat) (l : List ByteArray) (hxs : ∀ x ∈ xs, x < 18446744073709551616) (hlen : l.length + xs.length ≤ 100) (w : World) (hE : Env hi lo w) (hG : Gl base) (hbw : base ≤ w.heap.size) (hL : LS w base lb g cap l)
    (hc : ∀ j x, xs[j]? = some x → w.cell? ⟨fb, off + j, none⟩ = some (.float .f64 x)) (hfl : fb ≠ lb) (hfg : g ≠ fb) (hfw : fb < w.heap.size) :
    Calls Tryz.prog 15 #[.slice (some ⟨fb, off, none⟩) xs.length c, .pointer (some ⟨lb, 0, none⟩)] w (PutPost w base lb fb (l ++ xs.map (prB hi lo))) := by
  obtain ⟨n, hn⟩ : ∃ n, xs.length = n := ⟨_, rfl⟩
  have HN := Lib.hid hn
  have HE := Lib.hid (And.intro hE (And.intro hG (And.intro hbw hL)))
  have HC := Lib.hid (And.intro hc (And.intro hfl (And.intro hfg hfw)))
  have HX := Lib.hid (And.intro hxs hlen)
  rw [hn]
  have hn9 : n ≤ 100 := by omega
  clear hn hE hG hbw hL hc hfl hfg hfw hxs hlen
  go_enter Tryz.func15, Tryz.ntmps15
  go_wp2_with fail
  go_loopw [9] (fun i wr => ∃ k : Nat, k ≤ n ∧ i = .int .i64 k ∧ (∃ g' cap', LS wr base lb g' cap' (l ++ (xs.take k).map (prB hi lo)) ∧ g' ≠ fb) ∧ Below base w wr ∧ wr.heap[fb]? = w.heap[fb]?) (fun i _ => n - (intOf i).toNat)
  case atStart => exact ⟨0, by omega, rfl, ⟨g, cap, by rw [List.take_zero, List.map_nil, List.append_nil]; exact HE.out.2.2.2, HC.out.2.2.1⟩, Below.refl _ _, rfl⟩
  case round =>
    obtain ⟨k, hk, rfl, ⟨g1, cap1, hL1, hg1⟩, hB, hf⟩ := hrel
    obtain ⟨wa, hwa⟩ : ∃ wa, wa = wr := ⟨_, rfl⟩
    rw [← hwa] at hL1 hB hf ⊢
    clear hwa
    obtain ⟨hE, hG, hbw, hL⟩ := HE.out
    obtain ⟨hc, hfl, hfg, hfw⟩ := HC.out
    by_cases hkn : k < n
    · obtain ⟨x, hx⟩ : ∃ x, xs[k]? = some x := ⟨xs[k]'(by have := HN.out; omega), List.getElem?_eq_getElem _⟩
      have hcell : wa.cell? ⟨fb, off + k, none⟩ = some (.float .f64 x) := (World.cell?_of_block (a := ⟨fb, off + k, none⟩) hf).trans (hc k x hx)
      have hx64 := HX.out.1 x (List.mem_of_getElem? hx)
      have hEa := hE.under hG hB
      have CP := Lib.hid (print_b x hx64 wa hEa)
      obtain ⟨m, hm⟩ : ∃ m, m = l ++ (xs.take k).map (prB hi lo) := ⟨_, rfl⟩
      rw [← hm] at hL1
      have hml : m.length ≤ 100 := by
        have h1 := HX.out.2
        have h2 := HN.out
        rw [hm, List.length_append, List.length_map, List.length_take]
        omega
      have hm2 : m ++ [prB hi lo x] = l ++ (xs.take (k + 1)).map (prB hi lo) := by
        rw [hm, List.take_add_one, hx, List.map_append, ← List.append_assoc]
        rfl
      have HM := Lib.hid (And.intro hm2 hml)
      have HL1 := Lib.hid hL1
      have HB := Lib.hid hB
      have HF := Lib.hid hf
      have HG1 := Lib.hid hg1
      clear hE hG hbw hL hc hfl hfg hfw hx hx64 hEa hm hml hm2 hL1 hB hf hg1
      go_upto_region 4 with (go_at_call 16; (with_reducible refine CP.out.mono ?_); rintro e w1 ⟨rfl, hb1⟩; have B1 := Lib.hid hb1; clear hb1)
      have hL2 := HL1.out.later B1.out
      have cl : w1.cell? ⟨lb, 0, none⟩ = some (.slice (some ⟨g1, 0, none⟩) m.length cap1) := by rw [cell_of_row w1 lb 0 _ _ _ hL2.blk]; rfl
      have hz1 := hL2.lt
      have HL2 := Lib.hid hL2
      obtain ⟨T, hT⟩ : ∃ T, T = prB hi lo x := ⟨_, rfl⟩
      rw [← hT]
      have HT := Lib.hid hT
      clear hL2 hT
      have hbs : base ≤ w1.heap.size := Nat.le_trans HE.out.2.2.1 (Nat.le_trans HB.out.size B1.out.size)
      have HBS := Lib.hid hbs
      clear hbs
      go_wp2_with (at_builtin; refine wl_appS rfl (.tmp 18) (.tmp 20) rfl base g1 cap1 m rfl (World.ownsRow.alloc HL2.out.buf _) ⟨w1.heap.size, 0, none⟩ 1 1 [T] rfl rfl (by decide) (cells_newS w1 [T] _) (by have := HM.out.2; omega) (by have := HBS.out; simp; omega) ?_; intro g2 cap2 w2 hS2 hg2 hgg2; have hL3 := (HL2.out.grown (World.grownBy_alloc w1 _ none)).put hg2 hS2 hgg2; have cl2 := lb_cell (HL2.out.grown (World.grownBy_alloc w1 _ none)) hg2; have HL3 := Lib.hid hL3; have HG2 := Lib.hid (And.intro hg2 (And.intro hgg2 hS2)); clear hS2 hg2 hgg2 hL3)
      have hL3 := HL3.out
      obtain ⟨hg2, hgg2, hS2⟩ := HG2.out
      obtain ⟨hE, hG, hbw, hL⟩ := HE.out
      obtain ⟨hc, hfl, hfg, hfw⟩ := HC.out
      have b1 := B1.out
      have hB := HB.out
      have hg1 := HG1.out
      have hm2 := HM.out.1
      rw [← HT.out] at hm2
      have hbl := (HL2.out.grown (World.grownBy_alloc w1 (.cells #[Value.string T] 9) none)).below (l' := m ++ [T]) (g' := g2) (cap' := cap2) (B := base) hg2 (Nat.le_refl _) (by have := HBS.out; simp; omega)
      rw [List.length_append] at hL3 hbl
      have hsz := hB.size
      have hsz1 := b1.size
      have haz : (w1.alloc (.cells #[Value.string T] 9)).heap.size = w1.heap.size + 1 := by simp
      have hfin : (w2.setCell ⟨lb, 0, none⟩ (.slice (some ⟨g2, 0, none⟩) (m.length + 1) cap2)).heap[fb]? = w.heap[fb]? := by
        rw [Below.heap_setCell w2 ⟨lb, 0, none⟩ _ fb hfl, hg2.block fb (by omega) (fun e => hg1 (Option.some.inj e).symm), Below.heap_alloc _ _ _ (by omega), b1.block fb (by omega)]
        exact HF.out
      refine ⟨⟨k + 1, by omega, by go_num, ⟨g2, cap2, by rw [← hm2]; exact hL3, ?_⟩, ?_, hfin⟩, by simp [intOf]; omega⟩
      · rcases hgg2 with h1 | h1
        · rw [h1]; exact hg1
        · omega
      · exact ((hB.trans (b1.mono (by omega))).alloc (by omega) _).trans hbl
    · obtain rfl : k = n := by omega
      have HL1 := Lib.hid hL1
      have HB := Lib.hid hB
      have HG1 := Lib.hid hg1
      clear hE hG hbw hL hc hfl hfg hfw hL1 hB hg1 hf
      go_wp2_with fail
      go_end0
      refine ⟨rfl, ⟨g1, cap1, ?_, HG1.out⟩, HB.out⟩
      have h1 := HL1.out
      rw [List.take_of_length_le (by rw [HN.out]; exact Nat.le_refl _)] at h1
      exact h1
end Go.Proofs.YtihhhglnnapkoaaGreatDoor.prnw
