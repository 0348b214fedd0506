/- The walks of strconv.ParseFloat and of decimal.Parse at any text. Conditions: as each theorem states. -/
import Derived.Test.YtbjengfoaobdbaaGreatDoorRdJ
namespace Go.Proofs.YtbjengfoaobdbaaGreatDoor.rdf
open Go.RowKit
open Go.Proofs.YtbjengfoaobdbaaGreatDoor.bsw
open Go.Proofs.YtbjengfoaobdbaaGreatDoor.prnw
open Go.Proofs.YtbjengfoaobdbaaGreatDoor.dcw
open Go.Proofs.YtbjengfoaobdbaaGreatDoor.dmx
open Go.Proofs.YtbjengfoaobdbaaGreatDoor.fpm
open Go.Proofs.YtbjengfoaobdbaaGreatDoor.flatm
open Go.Proofs.YtbjengfoaobdbaaGreatDoor.nodew
attribute [local go_sem] fo_eq

/-- what decimal.Parse reads, in blocks below B -/
structure DE (B : Nat) (w : World) : Prop extends NE B w where
  eb : 6 < B
  er : ∃ v, w.cell? ⟨6, 0, none⟩ = some v ∧ (v = .nilIface ∨ ∃ te pe, v = .iface te pe)
theorem DE.below {B : Nat} {w w' : World} (h : DE B w) (hb : Below w.heap.size w w') : DE B w' := by
  obtain ⟨v, h1, h2⟩ := h.er
  exact ⟨h.toNE.below hb, h.eb, v, (hb.cell (Nat.lt_of_lt_of_le h.eb h.lt)).trans h1, h2⟩
theorem fo_0 (s : Bool) (X : Nat) (hX : X < infW) : (fo (sgn s X) 0 == some .eq) = decide (X = 0) := by
  have hi := infW_eq
  have hm : sgn s X % 9223372036854775808 = X := by
    unfold sgn
    split <;> omega
  rw [fo_sv (by rw [hm]; omega) (by decide), sv_zero, sv_sgn s X hX]
  by_cases h0 : X = 0
  · rw [decide_eq_true h0, h0, val_low (by decide)]
    cases s <;> rfl
  · have := val_pos (Nat.pos_of_ne_zero h0)
    rw [decide_eq_false h0, Int.compare_eq_ite_lt]
    cases s
    · rw [show (if (false : Bool) = true then -(valR X : Int) else (valR X : Int)) = (valR X : Int) from rfl, if_neg (by omega), if_pos (by omega)]
      rfl
    · rw [show (if (true : Bool) = true then -(valR X : Int) else (valR X : Int)) = -(valR X : Int) from rfl, if_pos (by omega)]
      rfl
section
variable (B : Nat) (s : ByteArray) (neg : Bool) (x : MS) (rest : List UInt8) (ex : Int) (h : RfOk s neg x rest ex) (hnd : x.nd ≤ 30) (w : World)
include h hnd
theorem prefix_any (hN : NE B w) :
    Calls Tryz.prog 93 #[.string s, .int .i64 64] w (AtPost w neg (nx x.N (dpX x + ex - x.nd)) s.size) := by
  have hA := atof_any B s neg x rest ex h hnd w hN
  obtain ⟨F, E, k1, k2, k3⟩ := pk_parts neg (nx x.N (dpX x + ex - x.nd)) s.size
  have hA2 : Calls Tryz.prog 116 #[.string s] w fun e w' => e = .returned (.tuple #[.float .f64 F, .int .i64 (s.size : Nat), E]) ∧ Below w.heap.size w w' := by
    unfold AtPost at hA
    rw [k2] at hA
    exact hA
  have HA := Lib.hid hA2
  have HK := Lib.hid k2
  clear hA hA2 k1 k2 k3 hN h hnd
  go_enter Tryz.func93, Tryz.ntmps93
  go_wp2_with (go_at_call 116; (with_reducible refine HA.out.mono ?_); rintro e w1 ⟨rfl, hw1⟩; have HB1 := Lib.hid hw1; clear hw1)
  go_ret3
  exact ⟨congrArg Ending.returned HK.out.symm, HB1.out⟩
theorem iparse_any (hN : NE B w) :
    Calls Tryz.prog 63 #[.string s, .int .i64 64] w fun e w' => e = .returned (pkV neg (nx x.N (dpX x + ex - x.nd))) ∧ Below w.heap.size w w' := by
  have hA := prefix_any B s neg x rest ex h hnd w hN
  obtain ⟨F, E, k1, k2, k3⟩ := pk_parts neg (nx x.N (dpX x + ex - x.nd)) s.size
  have hA2 : Calls Tryz.prog 93 #[.string s, .int .i64 64] w fun e w' => e = .returned (.tuple #[.float .f64 F, .int .i64 (s.size : Nat), E]) ∧ Below w.heap.size w w' := by
    unfold AtPost at hA
    rw [k2] at hA
    exact hA
  have HA := Lib.hid hA2
  have HK := Lib.hid k1
  clear hA hA2 k1 k2 k3 hN h hnd
  go_enter Tryz.func63, Tryz.ntmps63
  go_wp2_with (go_at_call 93; (with_reducible refine HA.out.mono ?_); rintro e w1 ⟨rfl, hw1⟩; have HB1 := Lib.hid hw1; clear hw1)
  go_ret2
  exact ⟨congrArg Ending.returned HK.out.symm, HB1.out⟩
theorem sparse_any (hN : DE B w) :
    Calls Tryz.prog 25 #[.string s, .int .i64 64] w fun e w' => (∃ E, e = .returned (.tuple #[.float .f64 (sgn neg (min (nx x.N (dpX x + ex - x.nd)) infX)), E]) ∧ if infX ≤ nx x.N (dpX x + ex - x.nd) then ∃ t p, E = .iface t p else E = .nilIface) ∧ Below w.heap.size w w' := by
  have hA := iparse_any B s neg x rest ex h hnd w hN.toNE
  have hsz := h.sz
  obtain ⟨X, hX⟩ : ∃ X, nx x.N (dpX x + ex - x.nd) = X := ⟨_, rfl⟩
  rw [hX] at hA ⊢
  obtain ⟨F, hF⟩ : ∃ F, sgn neg (min X infX) = F := ⟨_, rfl⟩
  unfold pkV at hA
  rw [hF] at hA ⊢
  by_cases hc : infX ≤ X
  · rw [if_pos hc] at hA
    have CT : ∀ W, DE B W → Calls Tryz.prog 64 #[.string ⟨#[80, 97, 114, 115, 101, 70, 108, 111, 97, 116]⟩, .string s, .int .i64 0, .int .i64 64, .iface 112 (.int .i64 1)] W fun e w' => (∃ M : Nat, e = .returned (.iface 113 (.pointer (some ⟨M, 0, none⟩)))) ∧ Below W.heap.size W w' := fun W hW => by
      obtain ⟨v, e1, e2⟩ := hW.er
      refine (Tryz.strconv_toError_range ⟨#[80, 97, 114, 115, 101, 70, 108, 111, 97, 116]⟩ s 0 64 v W (by omega) e1 e2).mono ?_
      rintro e w' ⟨M, h1, -, -, h2⟩
      exact ⟨⟨M, h1⟩, h2⟩
    have HA := Lib.hid hA
    have HN := Lib.hid hN
    have HT := Lib.hid CT
    have HC := Lib.hid hc
    clear hA hN CT hc hX hF h hnd
    go_enter Tryz.func25, Tryz.ntmps25
    go_upto_region 2 with (go_at_call 63; (with_reducible refine HA.out.mono ?_); rintro e w1 ⟨rfl, hw1⟩; have HB1 := Lib.hid hw1; clear hw1)
    have HN1 := Lib.hid (HN.out.below HB1.out)
    go_wp2_with (go_at_call 64; (with_reducible refine (HT.out _ HN1.out).mono ?_); rintro e w2 ⟨⟨M, rfl⟩, hw2⟩; have HB2 := Lib.hid hw2; clear hw2)
    go_ret2
    exact ⟨⟨_, rfl, _, _, rfl⟩, HB1.out.trans (HB2.out.mono HB1.out.size)⟩
  · rw [if_neg hc] at hA
    have HA := Lib.hid hA
    have HC := Lib.hid hc
    clear hA hN hc hX hF h hnd
    go_enter Tryz.func25, Tryz.ntmps25
    go_wp2_with (go_at_call 63; (with_reducible refine HA.out.mono ?_); rintro e w1 ⟨rfl, hw1⟩; have HB1 := Lib.hid hw1; clear hw1)
    go_ret2
    exact ⟨rfl, HB1.out⟩
end
def DqPost (w : World) (r : Nat × Nat) (e : Ending) (w' : World) : Prop := e = .returned (.tuple #[.float .f64 r.1, .int .i64 ((r.2 : Nat) : Int)]) ∧ Below w.heap.size w w'
theorem dparse_any (B : Nat) (s : ByteArray) (w : World) (hN : DE B w) : Calls Tryz.prog 7 #[.string s] w (DqPost w (decR s.data.toList)) := by
  have CR := right_any s w
  cases hr : rightL s.data.toList with
  | false =>
    have hd : decR s.data.toList = (0, 160) := by unfold decR; rw [hr, if_neg (by decide)]
    rw [hd]
    rw [hr] at CR
    have HR := Lib.hid CR
    clear CR hd hr hN
    go_enter Tryz.func7, Tryz.ntmps7
    go_wp2_with (go_at_call 24; (with_reducible refine HR.out.mono ?_); rintro e w1 ⟨rfl, hw1⟩; have HB1 := Lib.hid hw1; clear hw1)
    go_ret2
    exact ⟨rfl, HB1.out⟩
  | true =>
    obtain ⟨hrf, hnd⟩ := right_rf s hr
    have CP := fun W hW => sparse_any B s _ _ _ _ hrf hnd W hW
    obtain ⟨r, hrr⟩ : ∃ r, decR s.data.toList = r := ⟨_, rfl⟩
    have hd : r = if infX ≤ decW s.data.toList then (0, 10) else if decW s.data.toList = 0 then (0, 0) else (sgn (sgL s.data.toList) (decW s.data.toList), 0) := by
      rw [← hrr]
      unfold decR
      rw [hr, if_pos rfl]
    rw [hrr]
    rw [hr] at CR
    have e0 : nx (msL s.data.toList).N (dpX (msL s.data.toList) + exL s.data.toList - (msL s.data.toList).nd) = decW s.data.toList := rfl
    rw [e0] at CP
    obtain ⟨X, hX⟩ : ∃ X, decW s.data.toList = X := ⟨_, rfl⟩
    obtain ⟨neg, hneg⟩ : ∃ neg, sgL s.data.toList = neg := ⟨_, rfl⟩
    rw [hX, hneg] at CP hd
    obtain ⟨F, hF⟩ : ∃ F, sgn neg (min X infX) = F := ⟨_, rfl⟩
    rw [hF] at CP
    have HR := Lib.hid CR
    have HN := Lib.hid hN
    clear hrf hnd hrr hr CR hN e0 hX hneg
    by_cases hc : infX ≤ X
    · rw [if_pos hc] at hd
      subst hd
      simp only [if_pos hc] at CP
      have HP := Lib.hid CP
      clear CP hc hF
      go_enter Tryz.func7, Tryz.ntmps7
      go_upto_region 3 with (go_at_call 24; (with_reducible refine HR.out.mono ?_); rintro e w1 ⟨rfl, hw1⟩; have HB1 := Lib.hid hw1; clear hw1)
      have HN1 := Lib.hid (HN.out.below HB1.out)
      go_wp2_with (go_at_call 25; (with_reducible refine (HP.out _ HN1.out).mono ?_); rintro e w2 ⟨⟨E, rfl, t, p, rfl⟩, hw2⟩; have HB2 := Lib.hid hw2; clear hw2)
      go_ret2
      exact ⟨rfl, HB1.out.trans (HB2.out.mono HB1.out.size)⟩
    · rw [if_neg hc] at hd
      simp only [if_neg hc] at CP
      have hXi : X < infW := by have : infX = infW := rfl; omega
      rw [Nat.min_eq_left (by omega)] at hF
      have hfo := fo_0 neg X hXi
      rw [hF] at hfo
      have HP := Lib.hid CP
      by_cases h0 : X = 0
      · rw [if_pos h0] at hd
        subst hd
        rw [decide_eq_true h0] at hfo
        clear CP hc hF h0 hXi
        go_enter Tryz.func7, Tryz.ntmps7
        go_upto_region 3 with (go_at_call 24; (with_reducible refine HR.out.mono ?_); rintro e w1 ⟨rfl, hw1⟩; have HB1 := Lib.hid hw1; clear hw1)
        have HN1 := Lib.hid (HN.out.below HB1.out)
        go_wp2_with (go_at_call 25; (with_reducible refine (HP.out _ HN1.out).mono ?_); rintro e w2 ⟨⟨E, rfl, rfl⟩, hw2⟩; have HB2 := Lib.hid hw2; clear hw2)
        go_ret2
        exact ⟨rfl, HB1.out.trans (HB2.out.mono HB1.out.size)⟩
      · rw [if_neg h0, hF] at hd
        subst hd
        rw [decide_eq_false h0] at hfo
        clear CP hc hF h0 hXi
        go_enter Tryz.func7, Tryz.ntmps7
        go_upto_region 3 with (go_at_call 24; (with_reducible refine HR.out.mono ?_); rintro e w1 ⟨rfl, hw1⟩; have HB1 := Lib.hid hw1; clear hw1)
        have HN1 := Lib.hid (HN.out.below HB1.out)
        go_wp2_with (go_at_call 25; (with_reducible refine (HP.out _ HN1.out).mono ?_); rintro e w2 ⟨⟨E, rfl, rfl⟩, hw2⟩; have HB2 := Lib.hid hw2; clear hw2)
        go_ret2
        exact ⟨rfl, HB1.out.trans (HB2.out.mono HB1.out.size)⟩
end Go.Proofs.YtbjengfoaobdbaaGreatDoor.rdf
