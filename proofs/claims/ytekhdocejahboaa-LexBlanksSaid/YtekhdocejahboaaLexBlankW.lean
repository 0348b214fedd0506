/- The walk of burnishlaw15.LexBlanks. No conditions. -/
import Derived.Test.YtekhdocejahboaaLexAlike
import Derived.Test.YtekhdocejahboaaLexAwake
import Derived.Test.YtekhdocejahboaaShelfB
import Derived.Test.YtekhdocejahboaaWords
import Derived.Deep.RegionWith
namespace Go.Proofs.Ytekhdocejahboaa.lexw
open Go.RowKit
open Go.Proofs.Ytekhdocejahboaa.lexm Go.Proofs.Ytekhdocejahboaa.words

theorem lexRes_len (l : List UInt8) : (lexRes l).1.length ≤ l.length + 1 ∧ (lexRes l).1.length ≤ 1048577 := by
  unfold lexRes
  split
  · simp
  · split
    · simp
    · have := Nat.le_trans (toksOf_le (lexT l 0 4)) (lexT_len _ _ _)
      exact ⟨this, by simp only; omega⟩
theorem lexRes_er (l : List UInt8) : (lexRes l).2.2 ≤ 151 ∧ ((lexRes l).2.2 = 0 → (lexRes l).2.1 = 0) := by
  unfold lexRes
  split
  · simp
  · split <;> simp

theorem no10 (s : ByteArray) (h : ¬ 0 ≤ Lib.indexByte s.data.toList 10) : ∀ x, x ∈ s.data.toList → x ≠ 10 := by
  generalize s.data.toList = l at *
  induction l with
  | nil => simp
  | cons a l ih =>
    unfold Lib.indexByte at h
    by_cases ha : (a == 10) = true
    · rw [if_pos ha] at h; exact absurd (by decide) h
    · rw [if_neg ha] at h
      have ha' : a ≠ 10 := by simpa using ha
      intro x hx
      rcases List.mem_cons.1 hx with rfl | hx
      · exact ha'
      · refine ih ?_ x hx
        intro h0
        by_cases hm : (Lib.indexByte l 10 == -1) = true
        · have := beq_iff_eq.1 hm; omega
        · rw [if_neg hm] at h; omega

/-- what LexBlanks hands back -/
def Good (w : World) (e : Ending) (w' : World) : Prop := e = .returned (.bool true) ∧ Below w.heap.size w w'

set_option maxRecDepth 100000 in
set_option maxHeartbeats 4000000 in
theorem blanks_bad (s o rem : ByteArray) (p : Int) (hs : s.size ≤ maxLen) (ho : o.size ≤ maxLen) (hr : rem.size ≤ maxLen) (w : World)
    (hbad : 600 < s.size ∨ 600 < o.size ∨ 60 < rem.size ∨ 0 ≤ Lib.indexByte rem.data.toList 10 ∨ (lexRes s.data.toList).2.2 + (lexRes o.data.toList).2.2 ≠ 0) :
    Calls Try.prog 4 #[.string s, .string o, .int .u16 p, .string rem] w (Good w) := by
  have hq1 := lexRes_er s.data.toList
  have hq2 := lexRes_er o.data.toList
  obtain ⟨⟨ts, i, er⟩, hts⟩ : ∃ r, lexRes s.data.toList = r := ⟨_, rfl⟩
  obtain ⟨⟨us, j, er2⟩, hus⟩ : ∃ r, lexRes o.data.toList = r := ⟨_, rfl⟩
  rw [hts, hus] at hbad
  rw [hts] at hq1
  rw [hus] at hq2
  simp only at hbad hq1 hq2
  have HT := Lib.hid hts
  have HU := Lib.hid hus
  obtain ⟨ha, _⟩ := hq1
  obtain ⟨hb, _⟩ := hq2
  clear hts hus
  unfold maxLen at hs ho hr
  by_cases c1 : 600 < s.size
  · clear hbad
    go_enter Try.func4, Try.ntmps4
    go_wp2_with fail
    refine (lex_any s hs _).mono ?_
    rw [HT.out]
    rintro e w1 ⟨v1, rfl, k1, b1⟩
    go_wp2_with fail
    refine (lex_any o ho _).mono ?_
    rw [HU.out]
    rintro e w2 ⟨v2, rfl, k2, b2⟩
    go_wp2_with fail
    refine (awake_any _).mono ?_
    rintro e w3 ⟨rfl, b3⟩
    go_wp2_with fail
    go_ret
    exact ⟨rfl, (b1.trans (b2.mono b1.size)).trans (b3.mono (Nat.le_trans b1.size b2.size))⟩
  by_cases c2 : 600 < o.size
  · clear hbad
    go_enter Try.func4, Try.ntmps4
    go_wp2_with fail
    refine (lex_any s hs _).mono ?_
    rw [HT.out]
    rintro e w1 ⟨v1, rfl, k1, b1⟩
    go_wp2_with fail
    refine (lex_any o ho _).mono ?_
    rw [HU.out]
    rintro e w2 ⟨v2, rfl, k2, b2⟩
    go_wp2_with fail
    refine (awake_any _).mono ?_
    rintro e w3 ⟨rfl, b3⟩
    go_wp2_with fail
    go_ret
    exact ⟨rfl, (b1.trans (b2.mono b1.size)).trans (b3.mono (Nat.le_trans b1.size b2.size))⟩
  by_cases c3 : 60 < rem.size
  · clear hbad
    go_enter Try.func4, Try.ntmps4
    go_wp2_with fail
    refine (lex_any s hs _).mono ?_
    rw [HT.out]
    rintro e w1 ⟨v1, rfl, k1, b1⟩
    go_wp2_with fail
    refine (lex_any o ho _).mono ?_
    rw [HU.out]
    rintro e w2 ⟨v2, rfl, k2, b2⟩
    go_wp2_with fail
    refine (awake_any _).mono ?_
    rintro e w3 ⟨rfl, b3⟩
    go_wp2_with fail
    go_ret
    exact ⟨rfl, (b1.trans (b2.mono b1.size)).trans (b3.mono (Nat.le_trans b1.size b2.size))⟩
  by_cases c4 : 0 ≤ Lib.indexByte rem.data.toList 10
  · clear hbad
    have h4 : decide (0 ≤ Lib.indexByte rem.data.toList 10) = true := decide_eq_true c4
    have H4 := Lib.hid h4
    clear c4 h4
    go_enter Try.func4, Try.ntmps4
    go_wp2_with fail
    refine (lex_any s hs _).mono ?_
    rw [HT.out]
    rintro e w1 ⟨v1, rfl, k1, b1⟩
    go_wp2_with fail
    refine (lex_any o ho _).mono ?_
    rw [HU.out]
    rintro e w2 ⟨v2, rfl, k2, b2⟩
    go_wp2_with fail
    refine (Try.strings_Contains_one rem 10 _).mono ?_
    rw [H4.out]
    rintro e w3 ⟨rfl, rfl⟩
    go_wp2_with fail
    refine (awake_any _).mono ?_
    rintro e w3 ⟨rfl, b3⟩
    go_wp2_with fail
    go_ret
    exact ⟨rfl, (b1.trans (b2.mono b1.size)).trans (b3.mono (Nat.le_trans b1.size b2.size))⟩
  · have h4 : decide (0 ≤ Lib.indexByte rem.data.toList 10) = false := decide_eq_false c4
    have H4 := Lib.hid h4
    have h5 : (((er : Int) + er2) != 0) = true := by rw [bne_iff_ne]; omega
    clear c4 h4 hbad
    go_enter Try.func4, Try.ntmps4
    go_wp2_with fail
    refine (lex_any s hs _).mono ?_
    rw [HT.out]
    rintro e w1 ⟨v1, rfl, k1, b1⟩
    go_wp2_with fail
    refine (lex_any o ho _).mono ?_
    rw [HU.out]
    rintro e w2 ⟨v2, rfl, k2, b2⟩
    go_wp2_with fail
    refine (Try.strings_Contains_one rem 10 _).mono ?_
    rw [H4.out]
    rintro e w3 ⟨rfl, rfl⟩
    go_wp2_with fail
    refine (awake_any _).mono ?_
    rintro e w3 ⟨rfl, b3⟩
    go_wp2_with fail
    go_ret
    exact ⟨rfl, (b1.trans (b2.mono b1.size)).trans (b3.mono (Nat.le_trans b1.size b2.size))⟩

end Go.Proofs.Ytekhdocejahboaa.lexw
