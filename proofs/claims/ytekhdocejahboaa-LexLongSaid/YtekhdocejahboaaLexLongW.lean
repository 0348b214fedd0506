/- The walk of burnishlaw15.LexLong. No conditions. -/
import Derived.Test.YtekhdocejahboaaLexAwake
import Derived.Test.YtekhdocejahboaaLexLongM
import Derived.Test.YtekhdocejahboaaShelfC
import Derived.Deep.DeepFit
namespace Go.Proofs.Ytekhdocejahboaa.lexw
open Go.RowKit
open Go.Proofs.Ytekhdocejahboaa.lexm

theorem rep_any (c : UInt8) (m : Nat) (hm : m ≤ 2000000) (w : World) :
    Calls Try.prog 12 #[.string ⟨#[c]⟩, .int .i64 m] w fun e w' => e = .returned (.string (repS m c)) ∧ Below w.heap.size w w' :=
  (Try.strings_Repeat ⟨#[c]⟩ m w (by omega) (by rw [show (⟨#[c]⟩ : ByteArray).size = 1 from rfl]; omega)).mono fun e w' ⟨he, hb⟩ => ⟨by rw [he]; show Ending.returned (.string ⟨(Lib.repeatL [c] m).toArray⟩) = _; rw [repeatL_rep]; rfl, hb⟩

/-- what one round asks of the two texts -/
theorem lex_word (n m k : Nat) (c : UInt8) (hm : 0 < m) (hk : k ≠ 0) (h4 : k ≠ 4) (hf : firstL (rep m c) = (k, m, true)) (hl : n + m ≤ 1048576) (w : World) :
    Calls Try.prog 7 #[.string (repS n 32 ++ repS m c)] w (LexAns w [⟨k, n, rep m c⟩, ⟨4, n + m, []⟩] 0 0) :=
  lex_ans _ (by unfold maxLen; rw [ByteArray.size_append, repS_size, repS_size]; omega) _ _ _ (by rw [repS_add]; exact law_word n m k c hm hk h4 hf hl) w
theorem lex_over (n m k : Nat) (c : UInt8) (hm : 0 < m) (hf : firstL (rep m c) = (k, m, false)) (hl : n + m ≤ 1048576) (w : World) :
    Calls Try.prog 7 #[.string (repS n 32 ++ repS m c)] w (LexAns w [] n 150) :=
  lex_ans _ (by unfold maxLen; rw [ByteArray.size_append, repS_size, repS_size]; omega) _ _ _ (by rw [repS_add]; exact law_over n m k c hm hf hl) w
theorem lex_blanks (n : Nat) (hl : n ≤ 1048576) (w : World) : Calls Try.prog 7 #[.string (repS n 32)] w (LexAns w [] 0 0) :=
  lex_ans _ (by unfold maxLen; rw [repS_size]; omega) _ _ _ (law_blanks n hl) w
theorem lex_great (n : Nat) (c : UInt8) (h0 : 1048576 < n) (hl : n ≤ 2000000) (w : World) : Calls Try.prog 7 #[.string (repS n c)] w (LexAns w [] 1048576 151) :=
  lex_ans _ (by unfold maxLen; rw [repS_size]; omega) _ _ _ (law_great n c h0) w

set_option maxRecDepth 100000 in
set_option maxHeartbeats 4000000 in
theorem long_any (q : Nat) (hq : q ≤ 255) (w : World) : Calls Try.prog 5 #[.int .u8 q] w fun e w' => e = .returned (.bool true) ∧ Below w.heap.size w w' := by
  obtain ⟨n, hn⟩ : ∃ n, q % 101 = n := ⟨_, rfl⟩
  have hn1 : n ≤ 100 := by omega
  have hi : ((q : Int) % 101) = (n : Int) := by omega
  have z32 : ∀ m c, (repS m c).size = m := repS_size
  have hs0 : (repS n 32).size ≤ 100 := by rw [repS_size]; exact hn1
  have hs1 : (repS 32 120).size ≤ 100 := by rw [repS_size]; omega
  have hs2 : (repS 33 120).size ≤ 100 := by rw [repS_size]; omega
  have hs3 : (repS 40 55).size ≤ 100 := by rw [repS_size]; omega
  have hs4 : (repS 41 55).size ≤ 100 := by rw [repS_size]; omega
  clear z32 hn
  go_enter Try.func5, Try.ntmps5
  go_wp2_with fail
  refine (rep_any 32 n (by omega) _).mono ?_
  rintro e w1 ⟨rfl, b1⟩
  clear hi
  go_wp2_with fail
  obtain ⟨W2, hW2⟩ : ∃ W2, w1.alloc (.cells #[.string ⟨#[120]⟩, .int .i64 32, .int .u8 1, .string ⟨#[55]⟩, .int .i64 40, .int .u8 2] 35) = W2 := ⟨_, rfl⟩
  have k2 : Blk W2 w1.heap.size 35 #[.string ⟨#[120]⟩, .int .i64 32, .int .u8 1, .string ⟨#[55]⟩, .int .i64 40, .int .u8 2] := by rw [← hW2]; exact Blk.new _ _ _
  have hB2 : Below w.heap.size w W2 := by rw [← hW2]; exact b1.alloc b1.size _
  rw [hW2]
  clear hW2
  go_loopw [28] (fun i wr => ∃ k : Nat, k ≤ 2 ∧ i = .int .i64 k ∧ Below W2.heap.size W2 wr) (fun i _ => 2 - (intOf i).toNat)
  case atStart => exact ⟨0, by omega, rfl, Below.refl _ _⟩
  case round =>
    obtain ⟨k, hk, rfl, hb⟩ := hrel
    obtain ⟨wo, rfl⟩ : ∃ wo : World, wo = wr := ⟨_, rfl⟩
    have ko : Blk wo w1.heap.size 35 #[.string ⟨#[120]⟩, .int .i64 32, .int .u8 1, .string ⟨#[55]⟩, .int .i64 40, .int .u8 2] := (hb.block _ k2.lt).trans k2
    have x0 := ko.cell 0
    have x1 := ko.cell 1
    have x2 := ko.cell 2
    have x3 := ko.cell 3
    have x4 := ko.cell 4
    have x5 := ko.cell 5
    match k, hk with
    | 0, hk =>
      clear hk
      go_wp2_with fail
      refine (rep_any 120 32 (by omega) _).mono ?_
      rintro e w3 ⟨rfl, b3⟩
      have p3 : Blk w3 wo.heap.size 35 #[.string ⟨#[120]⟩, .int .i64 32, .int .u8 1] := (b3.block _ (by simp)).trans (Blk.new wo _ _)
      have b3' : Below wo.heap.size wo w3 := ((Below.refl _ wo).alloc (Nat.le_refl _) _).trans (b3.mono (by simp))
      clear b3
      go_wp2_with fail
      refine (lex_word n 32 1 120 (by omega) (by omega) (by omega) (by decide +kernel) (by omega) _).mono ?_
      rintro e w4 ⟨v4, rfl, t4, b4⟩
      have p4 := (b4.block _ p3.lt).trans p3
      have b4' := b3'.trans (b4.mono b3'.size)
      clear b4 p3 b3'
      have y0 := Blk.cell p4 0
      have y1 := Blk.cell p4 1
      have y2 := Blk.cell p4 2
      go_wp2_with fail
      refine (rep_any 120 33 (by omega) _).mono ?_
      rintro e w5 ⟨rfl, b5⟩
      have p5 := (b5.block _ (Blk.lt p4)).trans p4
      have b5' := b4'.trans (b5.mono b4'.size)
      have t5 := t4.below b5 (Nat.le_refl _)
      have b5s := b5.size
      clear b5 p4 b4' t4 y0 y1 y2
      go_wp2_with fail
      refine (lex_over n 33 1 120 (by omega) (by decide +kernel) (by omega) _).mono ?_
      rintro e w6 ⟨v6, rfl, t6, b6⟩
      have p6 := (b6.block _ (Blk.lt p5)).trans p5
      have b6' := b5'.trans (b6.mono b5'.size)
      have t7 := t5.below b6 b5s
      clear b6 p5 b5' t5
      have y0 := Blk.cell p6 0
      have y1 := Blk.cell p6 1
      have y2 := Blk.cell p6 2
      obtain ⟨g, off, c, hv, z0, z1, z2⟩ := t7.at_ (i := 0) (by simp)
      subst hv
      have u0 : w6.cell? ⟨g, off, none⟩ = some (.int .u8 1) := by simpa using z0
      have u1 : w6.cell? ⟨g, off + 1, none⟩ = some (.int .i64 n) := by simpa using z1
      have u2 : w6.cell? ⟨g, off + 2, none⟩ = some (.string (repS 32 120)) := by simpa [repS] using z2
      have hz : (((repS 32 120).size : Int) != 32) = false := by rw [repS_size]; decide
      have hl2 : ([⟨1, n, rep 32 120⟩, ⟨4, n + 32, []⟩] : List Tok).length = 2 := rfl
      rw [hl2]
      clear z0 z1 z2 t7 t6 p6 hl2
      go_wp2_with fail
      go_quiet (fail)
      go_wp2_with fail
      go_roundw
      case rel => exact ⟨1, by omega, rfl, (hb.trans (b6'.mono hb.size)).trans (below_drewN' (Below.refl _ _) _)⟩
      case measure => simp [intOf]
    | 1, hk =>
      clear hk
      go_wp2_with fail
      refine (rep_any 55 40 (by omega) _).mono ?_
      rintro e w3 ⟨rfl, b3⟩
      have p3 : Blk w3 wo.heap.size 35 #[.string ⟨#[55]⟩, .int .i64 40, .int .u8 2] := (b3.block _ (by simp)).trans (Blk.new wo _ _)
      have b3' : Below wo.heap.size wo w3 := ((Below.refl _ wo).alloc (Nat.le_refl _) _).trans (b3.mono (by simp))
      clear b3
      go_wp2_with fail
      refine (lex_word n 40 2 55 (by omega) (by omega) (by omega) (by decide +kernel) (by omega) _).mono ?_
      rintro e w4 ⟨v4, rfl, t4, b4⟩
      have p4 := (b4.block _ p3.lt).trans p3
      have b4' := b3'.trans (b4.mono b3'.size)
      clear b4 p3 b3'
      have y0 := Blk.cell p4 0
      have y1 := Blk.cell p4 1
      have y2 := Blk.cell p4 2
      go_wp2_with fail
      refine (rep_any 55 41 (by omega) _).mono ?_
      rintro e w5 ⟨rfl, b5⟩
      have p5 := (b5.block _ (Blk.lt p4)).trans p4
      have b5' := b4'.trans (b5.mono b4'.size)
      have t5 := t4.below b5 (Nat.le_refl _)
      have b5s := b5.size
      clear b5 p4 b4' t4 y0 y1 y2
      go_wp2_with fail
      refine (lex_over n 41 2 55 (by omega) (by decide +kernel) (by omega) _).mono ?_
      rintro e w6 ⟨v6, rfl, t6, b6⟩
      have p6 := (b6.block _ (Blk.lt p5)).trans p5
      have b6' := b5'.trans (b6.mono b5'.size)
      have t7 := t5.below b6 b5s
      clear b6 p5 b5' t5
      have y0 := Blk.cell p6 0
      have y1 := Blk.cell p6 1
      have y2 := Blk.cell p6 2
      obtain ⟨g, off, c, hv, z0, z1, z2⟩ := t7.at_ (i := 0) (by simp)
      subst hv
      have u0 : w6.cell? ⟨g, off, none⟩ = some (.int .u8 2) := by simpa using z0
      have u1 : w6.cell? ⟨g, off + 1, none⟩ = some (.int .i64 n) := by simpa using z1
      have u2 : w6.cell? ⟨g, off + 2, none⟩ = some (.string (repS 40 55)) := by simpa [repS] using z2
      have hz : (((repS 40 55).size : Int) != 40) = false := by rw [repS_size]; decide
      have hl2 : ([⟨2, n, rep 40 55⟩, ⟨4, n + 40, []⟩] : List Tok).length = 2 := rfl
      rw [hl2]
      clear z0 z1 z2 t7 t6 p6 hl2
      go_wp2_with fail
      go_quiet (fail)
      go_wp2_with fail
      go_roundw
      case rel => exact ⟨2, by omega, rfl, (hb.trans (b6'.mono hb.size)).trans (below_drewN' (Below.refl _ _) _)⟩
      case measure => simp [intOf]
    | 2, hk =>
      clear hk x0 x1 x2 x3 x4 x5 ko
      have hB3 : Below w.heap.size w wo := hB2.trans (hb.mono hB2.size)
      by_cases h2 : 2 < n
      · go_wp2_with fail
        refine (awake_any _).mono ?_
        rintro e w3 ⟨rfl, b3⟩
        go_wp2_with fail
        go_ret
        exact ⟨rfl, hB3.trans (b3.mono hB3.size)⟩
      · obtain ⟨m1, hm1⟩ : ∃ m1, m1 = 1048576 - n := ⟨_, rfl⟩
        obtain ⟨m2, hm2⟩ : ∃ m2, m2 = 1048577 + n := ⟨_, rfl⟩
        have l1 : m1 ≤ 1048576 := by omega
        have l2 : 1048576 < m2 := by omega
        have l3 : m2 ≤ 2000000 := by omega
        have e1 : (1048576 : Int) - n = m1 := by omega
        have e2 : (1048577 : Int) + n = m2 := by omega
        clear hm1 hm2
        go_wp2_with fail
        refine (rep_any 32 m1 (by omega) _).mono ?_
        rintro e w3 ⟨rfl, b3⟩
        have hB4 := hB3.trans (b3.mono hB3.size)
        clear b3
        go_wp2_with fail
        refine (lex_blanks m1 l1 _).mono ?_
        rintro e w4 ⟨v4, rfl, t4, b4⟩
        have hB5 := hB4.trans (b4.mono hB4.size)
        obtain ⟨a4, c4, hv4, _⟩ := t4
        subst hv4
        clear b4
        go_wp2_with fail
        refine (rep_any 36 m2 l3 _).mono ?_
        rintro e w5 ⟨rfl, b5⟩
        have hB6 := hB5.trans (b5.mono hB5.size)
        clear b5
        go_wp2_with fail
        refine (lex_great m2 36 l2 l3 _).mono ?_
        rintro e w6 ⟨v6, rfl, t6, b6⟩
        have hB7 := hB6.trans (b6.mono hB6.size)
        obtain ⟨a6, c6, hv6, _⟩ := t6
        subst hv6
        clear b6
        go_wp2_with fail
        refine (awake_any _).mono ?_
        rintro e w7 ⟨rfl, b7⟩
        go_wp2_with fail
        go_ret
        exact ⟨rfl, hB7.trans (b7.mono hB7.size)⟩

end Go.Proofs.Ytekhdocejahboaa.lexw
