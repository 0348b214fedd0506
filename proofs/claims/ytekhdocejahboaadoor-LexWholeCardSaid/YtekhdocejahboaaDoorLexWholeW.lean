/- The walk of burnishlaw15.LexWhole. No conditions. -/
import Derived.Test.YtekhdocejahboaaDoorLexCut
import Derived.Test.YtekhdocejahboaaDoorShelfB
import Derived.Test.YtekhdocejahboaaDoorWords
import Derived.Deep.DeepFit
import Derived.IntWalk
namespace Go.Proofs.YtekhdocejahboaaDoor.lexw
open Go.RowKit
open Go.Proofs.YtekhdocejahboaaDoor.lexm Go.Proofs.YtekhdocejahboaaDoor.words

theorem Toks.reads {W : World} {B : Nat} {A : Option Addr} {n c : Nat} {ts : List Tok} (h : Toks W B (.slice A n c) ts) : Reads W B 3 A n (cellsOf ts) := by
  obtain ⟨A', c', hv, hc⟩ := h
  injection hv with hA hn _
  subst hA hn
  refine ⟨cellsOf_length ts, fun h0 => ?_⟩
  obtain ⟨g, off, hA, hg, hcell⟩ := hc (by intro e; subst e; simp at h0)
  refine ⟨_, hA, hg, fun j u hu => ?_⟩
  have hadd : (⟨g, off, none⟩ : Addr).add j = ⟨g, off + j, none⟩ := by unfold Addr.add; split <;> simp_all
  rw [hadd]
  exact hcell j u hu
theorem cells_one (ts : List Tok) : ∀ u ∈ cellsOf ts, u.oneCell' = true := by
  intro u hu
  simp only [cellsOf, List.mem_flatMap, Tok.cells] at hu
  obtain ⟨t, _, hu⟩ := hu
  simp only [List.mem_cons, List.not_mem_nil, or_false] at hu
  rcases hu with rfl | rfl | rfl <;> rfl

/-- the library's three words at a gap -/
theorem gap_calls (s : ByteArray) (hs : s.size ≤ maxLen) (N p : Nat) (hg : gapOk ((s.data.toList.drop N).take (p - N))) : ∃ c : ByteArray,
    (∀ W : World, Calls Tryd.prog 6 #[.string (s.extract N p), .string ⟨#[35]⟩] W fun e w' => ∃ x y n, e = .returned (.tuple #[.string c, .string x, .bool y]) ∧ w' = W.drewN n) ∧
    (∀ W : World, Calls Tryd.prog 7 #[.string c, .string ⟨#[32]⟩] W fun e w' => e = .returned (.string ⟨#[]⟩) ∧ ∃ n, w' = W.drewN n) ∧
    (∀ W : World, Calls Tryd.prog 8 #[.string (s.extract N p), .string ⟨#[10]⟩] W fun e w' => e = .returned (.bool false) ∧ W = w') := by
  have hd : (s.extract N p).data.toList = (s.data.toList.drop N).take (p - N) := Lib.extract_data s N p
  rw [← hd] at hg
  have hsz : (s.extract N p).size ≤ maxLen := by rw [ByteArray.size_extract]; omega
  have hcl : (cutL (s.extract N p).data.toList).length ≤ (s.extract N p).data.toList.length := (List.takeWhile_sublist _).length_le
  have hcs : (⟨(cutL (s.extract N p).data.toList).toArray⟩ : ByteArray).size ≤ maxLen := by
    show (cutL (s.extract N p).data.toList).toArray.size ≤ maxLen
    rw [List.size_toArray]
    have : (s.extract N p).data.toList.length = (s.extract N p).size := by rw [Array.length_toList]; rfl
    omega
  refine ⟨⟨(cutL (s.extract N p).data.toList).toArray⟩, fun W => cut_any _ hsz W, fun W => ?_, fun W => ?_⟩
  · refine (Tryd.strings_Trim_one _ 32 (by decide) W (by unfold maxLen at hcs; omega)).mono ?_
    rintro e w' ⟨rfl, hw⟩
    refine ⟨?_, ?_⟩
    · rw [show (⟨(cutL (s.extract N p).data.toList).toArray⟩ : ByteArray).data.toList = cutL (s.extract N p).data.toList from rfl, trim_blanks _ hg.2]
    · rcases hw with rfl | rfl
      · exact ⟨0, rfl⟩
      · exact ⟨1, rfl⟩
  · refine (Tryd.strings_Contains_one _ 10 W).mono ?_
    rintro e w' ⟨rfl, rfl⟩
    rw [index_none _ _ hg.1]
    exact ⟨rfl, rfl⟩

set_option maxRecDepth 100000 in
set_option maxHeartbeats 4000000 in
theorem whole_any (s : ByteArray) (hs : s.size ≤ maxLen) (w : World) :
    Calls Tryd.prog 3 #[.string s] w fun e w' => e = .returned (.bool true) ∧ Below w.heap.size w w' := by
  have hsL := hs
  unfold maxLen at hs
  by_cases hl : 2000 < s.size
  · go_enter Tryd.func3, Tryd.ntmps3
    go_wp2_with fail
    refine (awake_any _).mono ?_
    rintro e w1 ⟨rfl, b1⟩
    go_wp2_with fail
    go_ret
    exact ⟨rfl, b1⟩
  · have hsz : s.data.toList.length = s.size := by simp
    have hcs := res_cases s.data.toList (by rw [hsz]; omega)
    rw [hsz] at hcs
    rcases hcs with ⟨p, hr, hp⟩ | ⟨toks, tl, hr, hch, htl, hlen⟩
    · have HC := Lib.hid (fun W => lex_ans s hsL _ _ _ hr W)
      clear hr hsz
      go_enter Tryd.func3, Tryd.ntmps3
      go_wp2_with fail
      refine (HC.out _).mono ?_
      rintro e w1 ⟨v1, rfl, k1, b1⟩
      obtain ⟨a1, c1, hv1, _⟩ := k1
      subst hv1
      go_wp2_with fail
      refine (awake_any _).mono ?_
      rintro e w2 ⟨rfl, b2⟩
      go_wp2_with fail
      go_ret
      exact ⟨rfl, b1.trans (b2.mono b1.size)⟩
    · have HC := Lib.hid (fun W => lex_ans s hsL _ _ _ hr W)
      have HCH := Lib.hid hch
      have htl2 : tl.length ≤ 1 := by rcases htl with ⟨rfl, _⟩ | rfl <;> simp
      have HTL := Lib.hid htl
      obtain ⟨ts, hts⟩ : ∃ ts, toks ++ tl = ts := ⟨_, rfl⟩
      have htsl : ts.length ≤ 2002 := by rw [← hts]; simp; omega
      rw [hts] at HC
      have HTS := Lib.hid hts
      clear hr hch htl hts
      have HZ := Lib.hid hsz
      clear hsz
      obtain ⟨i0, hi, hz0, hz1, hz2⟩ := info_parts Tryd.tokInfo
      have hc1 := cells_one ts
      go_enter Tryd.func3, Tryd.ntmps3
      go_wp2_with fail
      refine (HC.out _).mono ?_
      rintro e w1 ⟨v1, rfl, k1, b1⟩
      obtain ⟨a1, c1, hv1, _⟩ := id k1
      subst hv1
      have q1 := (k1.reads).alloc (Nat.le_refl _) (.cells #[] 28)
      have o1 : (w1.alloc (.cells #[] 28)).ownsRow w1.heap.size 28 3 (.slice (some ⟨w1.heap.size, 0, none⟩) 0 0) 0 [] := World.ownsRow_made w1 #[] 0 (Nat.le_refl _) (by unfold maxLen; omega) rfl
      go_wp2_with (first | (at_builtin; refine wpList_append_any _ rfl (.tmp 44) (.tmp 45) _ rfl w1.heap.size 28 i0 _ 3 32 Tryd.underlying23 hi hz0 hz1 hz2 rfl (by omega) (.slice (some ⟨w1.heap.size, 0, none⟩) 0 0) 0 [] rfl o1 w1.heap.size a1 ts.length c1 (cellsOf ts) rfl q1 hc1 (by unfold maxLen; omega) (by omega) (by simp) ?_; intro v2 w2 own2 gr2 at2; rw [Nat.zero_add, List.nil_append] at own2; obtain ⟨a2, c2, rfl⟩ := row_form own2) | (at_builtin; refine wpList_append_own _ rfl (.tmp 46) (.tmp 50) 23 rfl w1.heap.size 28 i0 _ 3 32 Tryd.underlying23 hi hz0 hz1 hz2 rfl (by decide) _ _ _ rfl (own2.alloc _) ⟨w2.heap.size, 0, none⟩ 1 1 [.int .u8 0, .int .i64 s.size, .string ⟨#[]⟩] rfl rfl (cells_new _ _ _) (by simp [Value.oneCell']) (by unfold maxLen; omega) (by omega) (by have := gr2.size; simp at this ⊢; omega) ?_; intro v3 w3 own3 gr3 _; obtain ⟨a3, c3, rfl⟩ := row_form own3))
      have hs2 : w1.heap.size ≤ w2.heap.size := by have := gr2.size; simp at this; omega
      have hB2 : Below w1.heap.size w1 w2 := ((Below.refl _ w1).alloc (Nat.le_refl _) _).grown gr2 (by simp) (by intro k hk; simp [Value.ownBlock] at hk; omega)
      have hB3 : Below w1.heap.size w1 w3 := (hB2.alloc hs2 _).grown gr3 (by simp; omega) (fun k hk => (own2.lt k hk).1)
      have t3 : Toks w3 w3.heap.size (.slice a3 (ts ++ [(⟨0, s.size, []⟩ : Tok)]).length c3) (ts ++ [(⟨0, s.size, []⟩ : Tok)]) := by
        have e1 : (ts ++ [(⟨0, s.size, []⟩ : Tok)]).length = ts.length + 1 := by simp
        have e2 : cellsOf (ts ++ [(⟨0, s.size, []⟩ : Tok)]) = cellsOf ts ++ [.int .u8 0, .int .i64 s.size, .string ⟨#[]⟩] := by simp [cellsOf, Tok.cells]
        refine Toks.of_own (base := w1.heap.size) ?_
        rw [e1, e2]
        exact own3
      have k3 : Toks w3 w1.heap.size (.slice a1 ts.length c1) ts := k1.below hB3 (Nat.le_refl _)
      have hw3 : Below w.heap.size w w3 := b1.trans (hB3.mono b1.size)
      clear own2 own3 gr2 gr3 at2 q1 o1 k1 hB2 b1
      go_loopw [6, 53] (fun nx i wr => ∃ (j N : Nat), i = .int .i64 j ∧ nx = .int .i64 N ∧ j ≤ ts.length + 1 ∧ N ≤ s.size ∧ WholeAt s.data.toList toks j N ∧ Below w3.heap.size w3 wr) (fun _ i _ => ts.length + 1 - (intOf i).toNat)
      case atStart => exact ⟨0, 0, rfl, rfl, by omega, by omega, .inl ⟨by omega, by simpa using HCH.out⟩, Below.refl _ _⟩
      case round =>
        obtain ⟨j, N, rfl, rfl, hj, hN, hat, hb⟩ := hrel
        obtain ⟨wo, rfl⟩ : ∃ wo : World, wo = wr := ⟨_, rfl⟩
        have HAT := Lib.hid hat
        clear hat
        by_cases hlt : j < ts.length + 1
        · have hjl : j < (ts ++ [(⟨0, s.size, []⟩ : Tok)]).length := by simp; omega
          have hfit := whole_step s.data.toList toks tl ts HTS.out HTL.out j N ((ts ++ [(⟨0, s.size, []⟩ : Tok)])[j]) (by rw [HZ.out]; exact List.getElem?_eq_getElem hjl) HAT.out
          obtain ⟨g, off, c, hv, x0, x1, x2⟩ := (t3.below hb (Nat.le_refl _)).at_ hjl
          injection hv with hv _ hc
          subst hv hc
          obtain ⟨t, ht⟩ : ∃ t, (ts ++ [(⟨0, s.size, []⟩ : Tok)])[j] = t := ⟨_, rfl⟩
          rw [ht] at hfit x0 x1 x2
          clear ht hjl
          obtain ⟨kd, p, tx⟩ := t
          obtain ⟨f1, f2, f3, f4, f5, f6⟩ := hfit
          simp only at f1 f2 f3 f4 f5 f6 x0 x1 x2
          rw [HZ.out] at f2
          obtain ⟨c, g1, g2, g3⟩ := gap_calls s hsL N p f4
          have G1 := Lib.hid g1
          have G2 := Lib.hid g2
          have G3 := Lib.hid g3
          obtain ⟨tb, htb⟩ : ∃ tb : ByteArray, (⟨tx.toArray⟩ : ByteArray) = tb := ⟨_, rfl⟩
          have htz : tx.length = tb.size := by rw [← htb]; rfl
          have hte : tx = [] ↔ tb.data.toList = [] := by rw [← htb]
          have hex : s.extract p (p + tb.size) = tb := by rw [← htz, tok_text, f3, htb]
          rw [htb] at x2
          rw [htz] at f2 f5
          have F5 := Lib.hid f5
          clear f3 f4 f5 htz htb g1 g2 g3
          have n1 : decide (p < N) = false := by rw [decide_eq_false_iff_not]; omega
          have n2 : decide ((s.size : Int) < p + tb.size) = false := by rw [decide_eq_false_iff_not]; omega
          have n5 : (0 : Int) ≤ (p : Int) + tb.size := by omega
          have n6 : ((p : Int) + tb.size).toNat = p + tb.size := by omega
          have n7 : IntKind.i64.wrap ((p : Int) + tb.size) = (p : Int) + tb.size := IntWalk.i64_in _ (by omega)
          have n3 : (N : Int) ≤ p := by omega
          have n4 : p ≤ s.size := by omega
          go_wp2_with fail
          go_quiet (fail)
          clear n5 n6 n7
          go_wp2_with fail
          refine (G1.out _).mono ?_
          rintro e w4 ⟨x, y, m4, rfl, rfl⟩
          go_wp2_with fail
          refine (G2.out _).mono ?_
          rintro e w5 ⟨rfl, m5, rfl⟩
          go_wp2_with fail
          refine (G3.out _).mono ?_
          rintro e w6 ⟨rfl, rfl⟩
          clear G1 G2 G3
          clear hex n1 n2 n3 x0 x1 x2
          by_cases hA : j < ts.length
          · obtain ⟨k1, k4, ht⟩ := f6 hA
            clear f6
            rcases ht with ht | ⟨ht, h6, rfl, h8⟩
            · have he : tb.toList.isEmpty = false := by
                rw [ByteArray.toList_eq]
                cases h : tb.data.toList with
                | nil => exact absurd (hte.2 h) ht
                | cons a r => rfl
              clear hte ht
              go_wp2_with fail
              go_roundw
              case rel => exact ⟨j + 1, p + tb.size, by go_num, by go_num, by omega, by omega, F5.out, by repeat (first | exact hb.alloc hb.size _ | apply below_drewN')⟩
              case measure => simp [intOf]; omega
            · have he : tb.toList.isEmpty = true := by
                rw [hte] at ht
                rw [ByteArray.toList_eq, ht]; rfl
              rw [HZ.out] at h8
              have h9 : ((j : Int) != ts.length - 1) = false := by rw [bne_eq_false_iff_eq]; omega
              have h10 : ((p : Int) != s.size) = false := by rw [bne_eq_false_iff_eq]; omega
              clear hte ht h8
              go_wp2_with fail
              go_roundw
              case rel => exact ⟨j + 1, p + tb.size, by go_num, by go_num, by omega, by omega, F5.out, by repeat (first | exact hb.alloc hb.size _ | apply below_drewN')⟩
              case measure => simp [intOf]; omega
          · clear f6 hte
            go_wp2_with fail
            go_roundw
            case rel => exact ⟨j + 1, p + tb.size, by go_num, by go_num, by omega, by omega, F5.out, by repeat (first | exact hb.alloc hb.size _ | apply below_drewN')⟩
            case measure => simp [intOf]; omega
        · have h3 : w.heap.size ≤ w3.heap.size := hw3.size
          have hB4 : Below w.heap.size w wo := hw3.trans (hb.mono h3)
          by_cases h0 : ts = []
          · have hl0 : ((ts.length : Int) == 0) = true := by rw [beq_iff_eq]; subst h0; rfl
            clear h0
            go_wp2_with fail
            refine (awake_any _).mono ?_
            rintro e w4 ⟨rfl, b4⟩
            go_wp2_with fail
            go_ret
            exact ⟨rfl, hB4.trans (b4.mono hB4.size)⟩
          · have hl1 : 0 < ts.length := List.length_pos_iff.2 h0
            have hl0 : ((ts.length : Int) == 0) = false := by rw [beq_eq_false_iff_ne]; omega
            have hlast := last_end s.data.toList toks tl ts HTS.out HTL.out hl1
            obtain ⟨g, off, c, hv, x0, _, _⟩ := (k3.below hb hB3.size).at_ (i := ts.length - 1) (by omega)
            injection hv with hv _ hc
            subst hv hc
            have x0' : wo.cell? ⟨g, off + (ts.length - 1) * 3, none⟩ = some (.int .u8 4) := by rw [x0, hlast]; rfl
            clear h0 hlast x0
            go_wp2_with fail
            refine (awake_any _).mono ?_
            rintro e w4 ⟨rfl, b4⟩
            go_wp2_with fail
            go_ret
            exact ⟨rfl, hB4.trans (b4.mono hB4.size)⟩

end Go.Proofs.YtekhdocejahboaaDoor.lexw
