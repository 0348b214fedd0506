/- The walks of strconv.ParseFloat and of decimal.Parse at any text. Conditions: as each theorem states. -/
import Derived.Test.YtcbgkbidgpemfaaGreatDoorMp26
import Derived.Test.YtcbgkbidgpemfaaGreatDoorMp27
import Derived.Test.YtcbgkbidgpemfaaGreatDoorMp08
import Derived.Test.YtcbgkbidgpemfaaGreatDoorMp05
import Derived.Laws.FloatBits
import Derived.Laws.FloatArith
import Derived.Laws.Externs
import Derived.Laws.OwnMore
import Derived.Deep.Slices
import Derived.ChangeSame
import Derived.ChangeArms
import Derived.OpenShut
import Derived.WideShapes
namespace Go.Proofs.YtcbgkbidgpemfaaGreatDoor.rdf
open Go.RowKit
open Go.Proofs.YtcbgkbidgpemfaaGreatDoor.bsw
open Go.Proofs.YtcbgkbidgpemfaaGreatDoor.prnw
open Go.Proofs.YtcbgkbidgpemfaaGreatDoor.dcw
open Go.Proofs.YtcbgkbidgpemfaaGreatDoor.dmx
open Go.Proofs.YtcbgkbidgpemfaaGreatDoor.fpm
open Go.Proofs.YtcbgkbidgpemfaaGreatDoor.flatm
open Go.Proofs.YtcbgkbidgpemfaaGreatDoor.nodew
attribute [local go_sem] fo_eq

/-- what decimal.Parse reads, in blocks below B -/
structure DE (B : Nat) (w : World) : Prop extends NE B w where
  eb : 4 < B
  er : ∃ v, w.cell? ⟨4, 0, none⟩ = some v ∧ (v = .nilIface ∨ ∃ te pe, v = .iface te pe)
theorem DE.below {B : Nat} {w w' : World} (h : DE B w) (hb : Below w.heap.size w w') : DE B w' := by
  obtain ⟨v, h1, h2⟩ := h.er
  exact ⟨h.toNE.below hb, h.eb, v, (hb.cell (Nat.lt_of_lt_of_le h.eb h.lt)).trans h1, h2⟩
theorem fo_0 (s : Bool) (X : Nat) (hX : X < infW) : (fo (sgn s X) 0 == some .eq) = decide (X = 0) := by
  have hi := infW_eq
  have hm : sgn s X % 9223372036854775808 = X := by
    unfold sgn
    split <;> omega
  rw [fo_sv (by rw [hm]; omega) (by decide), sv_zero, sv_sgn s X hX]
  by_cases h0 : X = 0
  · rw [decide_eq_true h0, h0, val_low (by decide)]
    cases s <;> rfl
  · have := val_pos (Nat.pos_of_ne_zero h0)
    rw [decide_eq_false h0, Int.compare_eq_ite_lt]
    cases s
    · rw [show (if (false : Bool) = true then -(valR X : Int) else (valR X : Int)) = (valR X : Int) from rfl, if_neg (by omega), if_pos (by omega)]
      rfl
    · rw [show (if (true : Bool) = true then -(valR X : Int) else (valR X : Int)) = -(valR X : Int) from rfl, if_pos (by omega)]
      rfl
section
variable (B : Nat) (s : ByteArray) (neg : Bool) (x : MS) (rest : List UInt8) (ex : Int) (h : RfOk s neg x rest ex) (hnd : x.nd ≤ 30) (w : World)
include h hnd
theorem prefix_any (hN : NE B w) :
    Calls Tryz.prog 203 #[.string s, .int .i64 64] w (AtPost w neg (nx x.N (dpX x + ex - x.nd)) s.size) := by
  have hA := atof_any B s neg x rest ex h hnd w hN
  obtain ⟨F, E, k1, k2, k3⟩ := pk_parts neg (nx x.N (dpX x + ex - x.nd)) s.size
  have hA2 : Calls Tryz.prog 236 #[.string s] w fun e w' => e = .returned (.tuple #[.float .f64 F, .int .i64 (s.size : Nat), E]) ∧ Below w.heap.size w w' := by
    unfold AtPost at hA
    rw [k2] at hA
    exact hA
  have HA := Lib.hid hA2
  have HK := Lib.hid k2
  clear hA hA2 k1 k2 k3 hN h hnd
  go_enter Tryz.func203, Tryz.ntmps203
  go_wp2_with (go_at_call 236; (with_reducible refine HA.out.mono ?_); rintro e w1 ⟨rfl, hw1⟩; have HB1 := Lib.hid hw1; clear hw1)
  go_ret3
  exact ⟨congrArg Ending.returned HK.out.symm, HB1.out⟩
theorem iparse_any (hN : NE B w) :
    Calls Tryz.prog 164 #[.string s, .int .i64 64] w fun e w' => e = .returned (pkV neg (nx x.N (dpX x + ex - x.nd))) ∧ Below w.heap.size w w' := by
  have hA := prefix_any B s neg x rest ex h hnd w hN
  obtain ⟨F, E, k1, k2, k3⟩ := pk_parts neg (nx x.N (dpX x + ex - x.nd)) s.size
  have hA2 : Calls Tryz.prog 203 #[.string s, .int .i64 64] w fun e w' => e = .returned (.tuple #[.float .f64 F, .int .i64 (s.size : Nat), E]) ∧ Below w.heap.size w w' := by
    unfold AtPost at hA
    rw [k2] at hA
    exact hA
  have HA := Lib.hid hA2
  have HK := Lib.hid k1
  clear hA hA2 k1 k2 k3 hN h hnd
  go_enter Tryz.func164, Tryz.ntmps164
  go_wp2_with (go_at_call 203; (with_reducible refine HA.out.mono ?_); rintro e w1 ⟨rfl, hw1⟩; have HB1 := Lib.hid hw1; clear hw1)
  go_ret2
  exact ⟨congrArg Ending.returned HK.out.symm, HB1.out⟩
theorem sparse_any (hN : DE B w) :
    Calls Tryz.prog 128 #[.string s, .int .i64 64] w fun e w' => (∃ E, e = .returned (.tuple #[.float .f64 (sgn neg (min (nx x.N (dpX x + ex - x.nd)) infX)), E]) ∧ if infX ≤ nx x.N (dpX x + ex - x.nd) then ∃ t p, E = .iface t p else E = .nilIface) ∧ Below w.heap.size w w' := by
  have hA := iparse_any B s neg x rest ex h hnd w hN.toNE
  have hsz := h.sz
  obtain ⟨X, hX⟩ : ∃ X, nx x.N (dpX x + ex - x.nd) = X := ⟨_, rfl⟩
  rw [hX] at hA ⊢
  obtain ⟨F, hF⟩ : ∃ F, sgn neg (min X infX) = F := ⟨_, rfl⟩
  unfold pkV at hA
  rw [hF] at hA ⊢
  by_cases hc : infX ≤ X
  · rw [if_pos hc] at hA
    have CT : ∀ W, DE B W → Calls Tryz.prog 117 #[.string ⟨#[80, 97, 114, 115, 101, 70, 108, 111, 97, 116]⟩, .string s, .int .i64 0, .int .i64 64, .iface 185 (.int .i64 1)] W fun e w' => (∃ M : Nat, e = .returned (.iface 188 (.pointer (some ⟨M, 0, none⟩)))) ∧ Below W.heap.size W w' := fun W hW => by
      obtain ⟨v, e1, e2⟩ := hW.er
      refine (Tryz.strconv_toError_range ⟨#[80, 97, 114, 115, 101, 70, 108, 111, 97, 116]⟩ s 0 64 v W (by omega) e1 e2).mono ?_
      rintro e w' ⟨M, h1, -, -, h2⟩
      exact ⟨⟨M, h1⟩, h2⟩
    have HA := Lib.hid hA
    have HN := Lib.hid hN
    have HT := Lib.hid CT
    have HC := Lib.hid hc
    clear hA hN CT hc hX hF h hnd
    go_enter Tryz.func128, Tryz.ntmps128
    go_upto_region 2 with (go_at_call 164; (with_reducible refine HA.out.mono ?_); rintro e w1 ⟨rfl, hw1⟩; have HB1 := Lib.hid hw1; clear hw1)
    have HN1 := Lib.hid (HN.out.below HB1.out)
    go_wp2_with (go_at_call 117; (with_reducible refine (HT.out _ HN1.out).mono ?_); rintro e w2 ⟨⟨M, rfl⟩, hw2⟩; have HB2 := Lib.hid hw2; clear hw2)
    go_ret2
    exact ⟨⟨_, rfl, _, _, rfl⟩, HB1.out.trans (HB2.out.mono HB1.out.size)⟩
  · rw [if_neg hc] at hA
    have HA := Lib.hid hA
    have HC := Lib.hid hc
    clear hA hN hc hX hF h hnd
    go_enter Tryz.func128, Tryz.ntmps128
    go_wp2_with (go_at_call 164; (with_reducible refine HA.out.mono ?_); rintro e w1 ⟨rfl, hw1⟩; have HB1 := Lib.hid hw1; clear hw1)
    go_ret2
    exact ⟨rfl, HB1.out⟩
end
def DqPost (w : World) (r : Nat × Nat) (e : Ending) (w' : World) : Prop := e = .returned (.tuple #[.float .f64 r.1, .int .i64 ((r.2 : Nat) : Int)]) ∧ Below w.heap.size w w'
theorem dparse_any (B : Nat) (s : ByteArray) (w : World) (hN : DE B w) : Calls Tryz.prog 94 #[.string s] w (DqPost w (decR s.data.toList)) := by
  have CR := right_any s w
  cases hr : rightL s.data.toList with
  | false =>
    have hd : decR s.data.toList = (0, 160) := by unfold decR; rw [hr, if_neg (by decide)]
    rw [hd]
    rw [hr] at CR
    have HR := Lib.hid CR
    clear CR hd hr hN
    go_enter Tryz.func94, Tryz.ntmps94
    go_wp2_with (go_at_call 127; (with_reducible refine HR.out.mono ?_); rintro e w1 ⟨rfl, hw1⟩; have HB1 := Lib.hid hw1; clear hw1)
    go_ret2
    exact ⟨rfl, HB1.out⟩
  | true =>
    obtain ⟨hrf, hnd⟩ := right_rf s hr
    have CP := fun W hW => sparse_any B s _ _ _ _ hrf hnd W hW
    obtain ⟨r, hrr⟩ : ∃ r, decR s.data.toList = r := ⟨_, rfl⟩
    have hd : r = if infX ≤ decW s.data.toList then (0, 10) else if decW s.data.toList = 0 then (0, 0) else (sgn (sgL s.data.toList) (decW s.data.toList), 0) := by
      rw [← hrr]
      unfold decR
      rw [hr, if_pos rfl]
    rw [hrr]
    rw [hr] at CR
    have e0 : nx (msL s.data.toList).N (dpX (msL s.data.toList) + exL s.data.toList - (msL s.data.toList).nd) = decW s.data.toList := rfl
    rw [e0] at CP
    obtain ⟨X, hX⟩ : ∃ X, decW s.data.toList = X := ⟨_, rfl⟩
    obtain ⟨neg, hneg⟩ : ∃ neg, sgL s.data.toList = neg := ⟨_, rfl⟩
    rw [hX, hneg] at CP hd
    obtain ⟨F, hF⟩ : ∃ F, sgn neg (min X infX) = F := ⟨_, rfl⟩
    rw [hF] at CP
    have HR := Lib.hid CR
    have HN := Lib.hid hN
    clear hrf hnd hrr hr CR hN e0 hX hneg
    by_cases hc : infX ≤ X
    · rw [if_pos hc] at hd
      subst hd
      simp only [if_pos hc] at CP
      have HP := Lib.hid CP
      clear CP hc hF
      go_enter Tryz.func94, Tryz.ntmps94
      go_upto_region 3 with (go_at_call 127; (with_reducible refine HR.out.mono ?_); rintro e w1 ⟨rfl, hw1⟩; have HB1 := Lib.hid hw1; clear hw1)
      have HN1 := Lib.hid (HN.out.below HB1.out)
      go_wp2_with (go_at_call 128; (with_reducible refine (HP.out _ HN1.out).mono ?_); rintro e w2 ⟨⟨E, rfl, t, p, rfl⟩, hw2⟩; have HB2 := Lib.hid hw2; clear hw2)
      go_ret2
      exact ⟨rfl, HB1.out.trans (HB2.out.mono HB1.out.size)⟩
    · rw [if_neg hc] at hd
      simp only [if_neg hc] at CP
      have hXi : X < infW := by have : infX = infW := rfl; omega
      rw [Nat.min_eq_left (by omega)] at hF
      have hfo := fo_0 neg X hXi
      rw [hF] at hfo
      have HP := Lib.hid CP
      by_cases h0 : X = 0
      · rw [if_pos h0] at hd
        subst hd
        rw [decide_eq_true h0] at hfo
        clear CP hc hF h0 hXi
        go_enter Tryz.func94, Tryz.ntmps94
        go_upto_region 3 with (go_at_call 127; (with_reducible refine HR.out.mono ?_); rintro e w1 ⟨rfl, hw1⟩; have HB1 := Lib.hid hw1; clear hw1)
        have HN1 := Lib.hid (HN.out.below HB1.out)
        go_wp2_with (go_at_call 128; (with_reducible refine (HP.out _ HN1.out).mono ?_); rintro e w2 ⟨⟨E, rfl, rfl⟩, hw2⟩; have HB2 := Lib.hid hw2; clear hw2)
        go_ret2
        exact ⟨rfl, HB1.out.trans (HB2.out.mono HB1.out.size)⟩
      · rw [if_neg h0, hF] at hd
        subst hd
        rw [decide_eq_false h0] at hfo
        clear CP hc hF h0 hXi
        go_enter Tryz.func94, Tryz.ntmps94
        go_upto_region 3 with (go_at_call 127; (with_reducible refine HR.out.mono ?_); rintro e w1 ⟨rfl, hw1⟩; have HB1 := Lib.hid hw1; clear hw1)
        have HN1 := Lib.hid (HN.out.below HB1.out)
        go_wp2_with (go_at_call 128; (with_reducible refine (HP.out _ HN1.out).mono ?_); rintro e w2 ⟨⟨E, rfl, rfl⟩, hw2⟩; have HB2 := Lib.hid hw2; clear hw2)
        go_ret2
        exact ⟨rfl, HB1.out.trans (HB2.out.mono HB1.out.size)⟩
end Go.Proofs.YtcbgkbidgpemfaaGreatDoor.rdf

/- burnishref16.Parse is decimal.Parse. Condition: the text has at most 1000 bytes. -/
namespace Go.Proofs.YtcbgkbidgpemfaaGreatDoor.rg
open Go.RowKit
open Go.Proofs.YtcbgkbidgpemfaaGreatDoor.nodew
open Go.Proofs.YtcbgkbidgpemfaaGreatDoor.flatm
open Go.Proofs.YtcbgkbidgpemfaaGreatDoor.dcw
open Go.Proofs.YtcbgkbidgpemfaaGreatDoor.fpm
open Go.Proofs.YtcbgkbidgpemfaaGreatDoor.rdf
open Go.Proofs.YtcbgkbidgpemfaaGreatDoor.prnw
open Go.Proofs.YtcbgkbidgpemfaaGreatDoor.dmx
attribute [local go_sem] nodew.fo_eq un_neg

theorem parts_D {l : List UInt8} {D : List UInt8} {P : Int} (h : partsL l = some (D, P)) : (∀ c ∈ D, isD c = true) ∧ D.length ≤ 30 := by
  unfold partsL at h
  simp only at h
  split at h
  · cases h
  · next hb =>
    have hall := ps_isD (unsg l) ps0 (fun c hc => by cases hc)
    have h30 : (pS (unsg l) ps0).1.ds.length ≤ 30 := by omega
    split at h
    · have e := Option.some.inj h
      obtain ⟨e1, -⟩ := Prod.mk.inj e
      rw [← e1]
      exact ⟨hall, h30⟩
    · split at h
      · have e := Option.some.inj h
        obtain ⟨e1, -⟩ := Prod.mk.inj e
        rw [← e1]
        exact ⟨hall, h30⟩
      · cases h
theorem ps_pw : ∀ (l : List UInt8) (p : PS), p.ds.length ≤ (pS l p).1.ds.length ∧ (pS l p).1.pw ≤ p.pw ∧ p.pw ≤ (pS l p).1.pw + (pS l p).1.dots * ((pS l p).1.ds.length - p.ds.length : Nat)
  | [], p => by
    show p.ds.length ≤ p.ds.length ∧ p.pw ≤ p.pw ∧ p.pw ≤ p.pw + p.dots * ((p.ds.length - p.ds.length : Nat) : Int)
    rw [Nat.sub_self]
    simp
  | c :: l, p => by
    rw [ps_cons]
    split
    · have h1 := ps_pw l ⟨p.ds ++ [c], p.dots, p.pw - p.dots⟩
      have h2 := ps_more l ⟨p.ds ++ [c], p.dots, p.pw - p.dots⟩
      obtain ⟨q, hq⟩ : ∃ q, (pS l ⟨p.ds ++ [c], p.dots, p.pw - p.dots⟩).1 = q := ⟨_, rfl⟩
      rw [hq] at h1 h2 ⊢
      simp only [List.length_append, List.length_singleton] at h1 h2
      obtain ⟨a1, a2, a3⟩ := h1
      have h2' : p.dots ≤ q.dots := h2
      obtain ⟨n, hn⟩ : ∃ n, q.ds.length - (p.ds.length + 1) = n := ⟨_, rfl⟩
      rw [hn] at a3
      rw [show q.ds.length - p.ds.length = n + 1 by omega, Int.natCast_add, Int.mul_add]
      obtain ⟨y, hy⟩ : ∃ y : Int, (q.dots : Int) * (n : Int) = y := ⟨_, rfl⟩
      rw [hy] at a3 ⊢
      refine ⟨by omega, by omega, ?_⟩
      simp only [Int.natCast_one, Int.mul_one] at a3 ⊢
      omega
    · split
      · exact ps_pw l ⟨p.ds, p.dots + 1, p.pw⟩
      · show p.ds.length ≤ p.ds.length ∧ p.pw ≤ p.pw ∧ p.pw ≤ p.pw + p.dots * ((p.ds.length - p.ds.length : Nat) : Int)
        rw [Nat.sub_self]
        simp
theorem ok_eL {r : List UInt8} (h : okE r = true) : eL r 0 < 1000 := by
  have h1 := okE_len h
  unfold okE at h
  simp only [Bool.and_eq_true, decide_eq_true_eq] at h
  have h3 := eL_snoc_bd r 0 (dgs_all r h.2)
  have h4 : (10 : Nat) ^ r.length ≤ 10 ^ 3 := Nat.pow_le_pow_right (by decide) h1.2
  omega
theorem ex_bd {c : UInt8} {l : List UInt8} (h : expB (c :: l) = true) : -1000 ≤ exV l ∧ exV l ≤ 1000 := by
  rw [exp_cons, Bool.and_eq_true] at h
  have h1 := ok_eL (r := exR l) h.2
  cases l with
  | nil => decide
  | cons d l =>
    by_cases e1 : d.toNat = 45
    · rw [show d = 45 from UInt8.toNat_inj.1 e1] at h1 ⊢
      rw [(ex_45 l).1] at h1
      rw [(ex_45 l).2]
      omega
    by_cases e2 : d.toNat = 43
    · rw [show d = 43 from UInt8.toNat_inj.1 e2] at h1 ⊢
      rw [(ex_43 l).1] at h1
      rw [(ex_43 l).2]
      omega
    rw [(ex_else l e1 e2).1] at h1
    rw [(ex_else l e1 e2).2]
    omega
theorem parts_P {l : List UInt8} : ∀ (D : List UInt8) (P : Int), partsL l = some (D, P) → -2000 ≤ P ∧ P ≤ 2000 := by
  intro D P h
  have hb := ps_pw (unsg l) ps0
  unfold partsL at h
  simp only at h
  split at h
  · cases h
  · next hc =>
    obtain ⟨q, hq⟩ : ∃ q, (pS (unsg l) ps0) = q := ⟨_, rfl⟩
    rw [hq] at h hb hc
    obtain ⟨b1, b2, b3⟩ := hb
    have e0 : ps0.pw = 0 := rfl
    have e1 : ps0.ds.length = 0 := rfl
    rw [e0] at b2 b3
    rw [e1] at b3
    have hbd : -30 ≤ q.1.pw ∧ q.1.pw ≤ 0 := by
      have hm : q.1.dots * (q.1.ds.length - 0) ≤ 1 * 30 := Nat.mul_le_mul (by omega) (by omega)
      have hm' : ((q.1.dots * (q.1.ds.length - 0) : Nat) : Int) ≤ 30 := by omega
      rw [Int.natCast_mul] at hm'
      omega
    split at h
    · have e := Option.some.inj h
      obtain ⟨-, e2⟩ := Prod.mk.inj e
      omega
    · split at h
      · next hx =>
        have e := Option.some.inj h
        obtain ⟨-, e2⟩ := Prod.mk.inj e
        cases hr : q.2 with
        | nil => rw [hr] at hx; cases hx
        | cons c r =>
          rw [hr] at hx e2
          have := ex_bd hx
          rw [List.drop_succ_cons, List.drop_zero] at e2
          omega
      · cases h
set_option maxRecDepth 100000 in
set_option maxHeartbeats 1000000 in
theorem parse16_any (s : ByteArray) (hs : s.size ≤ 1000) (w : World) : Calls Tryz.prog 62 #[.string s] w (rdf.DqPost w (decR s.data.toList)) := by
  have HP := Lib.hid (fun W => parts_any s hs W)
  have hd := dec_ref s.data.toList
  obtain ⟨R, hR⟩ : ∃ R, partsL s.data.toList = R := ⟨_, rfl⟩
  have hpd := fun D P (h : partsL s.data.toList = some (D, P)) => parts_D h
  have hpb := parts_P (l := s.data.toList)
  rw [hR] at HP hd hpd hpb
  rw [hd]
  clear hd hR
  cases R with
  | none =>
    clear hpd hpb
    go_enter Tryz.func62, Tryz.ntmps62
    go_wp2_with (go_at_call 95; (with_reducible refine (HP.out _).mono ?_); rintro e w1 ⟨rfl, rfl⟩)
    go_ret2
    exact ⟨rfl, Below.refl _ _⟩
  | some p =>
    obtain ⟨D, P⟩ := p
    obtain ⟨d1, d2⟩ := hpd D P rfl
    have d3 := hpb D P rfl
    obtain ⟨b, hb⟩ : ∃ b, sgL s.data.toList = b := ⟨_, rfl⟩
    rw [hb] at HP
    simp only [hb]
    have HN := Lib.hid (fun (T : ByteArray) (hT : T.data.toList = D) W => show Calls Tryz.prog 96 #[.string T, .int .i64 P] W (NearPost W (nearR (dv 0 D) P)) from by
      have := near_any T (by rw [← list_len, hT]; exact d2) (by rw [hT]; exact d1) P d3 W
      rw [hT] at this
      exact this)
    have hX : (nearR (dv 0 D) P).1 < infW := by
      unfold nearR
      split
      · decide
      · next h => have := infW_eq; have e : infX = 9218868437227405312 := rfl; show nx _ _ < _; omega
    obtain ⟨r, hr⟩ : ∃ r, nearR (dv 0 D) P = r := ⟨_, rfl⟩
    rw [hr] at HN hX ⊢
    obtain ⟨X, ok⟩ := r
    simp only at hX ⊢
    clear hpd hpb d1 d2 hb hr
    cases ok with
    | false =>
      rw [if_neg (by decide)]
      go_enter Tryz.func62, Tryz.ntmps62
      go_wp2_with (first
        | (go_at_call 95; (with_reducible refine (HP.out _).mono ?_); rintro e w1 ⟨rfl, T, hT, rfl⟩; have HT := Lib.hid hT; clear hT)
        | (go_at_call 96; (with_reducible refine (HN.out _ HT.out _).mono ?_); rintro e w1 ⟨rfl, hb1⟩; have B1 := Lib.hid hb1; clear hb1))
      go_ret2
      exact ⟨rfl, B1.out⟩
    | true =>
      rw [if_pos rfl]
      have f0 := rdf.fo_0 false X hX
      rw [show sgn false X = X from rfl] at f0
      have hi := infW_eq
      have hng := rdf.neg_of X (by omega)
      have hsg : sgn true X = 9223372036854775808 + X := rfl
      have HF := Lib.hid f0
      have HG := Lib.hid (And.intro hng hsg)
      clear f0 hng hsg hi d3 hX
      cases b with
      | false =>
        rw [if_neg (fun h => by cases h.1)]
        go_enter Tryz.func62, Tryz.ntmps62
        go_wp2_with (first
          | (go_at_call 95; (with_reducible refine (HP.out _).mono ?_); rintro e w1 ⟨rfl, T, hT, rfl⟩; have HT := Lib.hid hT; clear hT)
          | (go_at_call 96; (with_reducible refine (HN.out _ HT.out _).mono ?_); rintro e w1 ⟨rfl, hb1⟩; have B1 := Lib.hid hb1; clear hb1))
        go_ret2
        exact ⟨rfl, B1.out⟩
      | true =>
        by_cases h0 : X = 0
        · subst h0
          rw [if_neg (fun h => h.2 rfl)]
          have f1 : (fo 0 0 == some .eq) = true := HF.out
          go_enter Tryz.func62, Tryz.ntmps62
          go_wp2_with (first
            | (go_at_call 95; (with_reducible refine (HP.out _).mono ?_); rintro e w1 ⟨rfl, T, hT, rfl⟩; have HT := Lib.hid hT; clear hT)
            | (go_at_call 96; (with_reducible refine (HN.out _ HT.out _).mono ?_); rintro e w1 ⟨rfl, hb1⟩; have B1 := Lib.hid hb1; clear hb1))
          go_ret2
          exact ⟨rfl, B1.out⟩
        · rw [if_pos ⟨rfl, h0⟩, HG.out.2]
          have f1 := HF.out
          rw [decide_eq_false h0] at f1
          have f3 : (fo X 0 != some .eq) = true := by simp [bne, f1]
          have f2 := HG.out.1
          obtain ⟨Y, hY⟩ : ∃ Y, 9223372036854775808 + X = Y := ⟨_, rfl⟩
          rw [hY] at f2 ⊢
          clear h0 hY HG HF
          go_enter Tryz.func62, Tryz.ntmps62
          go_wp2_with (first
            | (go_at_call 95; (with_reducible refine (HP.out _).mono ?_); rintro e w1 ⟨rfl, T, hT, rfl⟩; have HT := Lib.hid hT; clear hT)
            | (go_at_call 96; (with_reducible refine (HN.out _ HT.out _).mono ?_); rintro e w1 ⟨rfl, hb1⟩; have B1 := Lib.hid hb1; clear hb1))
          go_ret2
          exact ⟨rfl, B1.out⟩
end Go.Proofs.YtcbgkbidgpemfaaGreatDoor.rg

/- Rows of statements that lie in memory; burnishlaw01.Same at one number twice. Conditions: as each theorem states. -/
namespace Go.Proofs.YtcbgkbidgpemfaaGreatDoor.parw
open Go.RowKit
open Go.Proofs.YtcbgkbidgpemfaaGreatDoor.lexw
attribute [local go_sem] run_store_float

theorem fbits_run (x : Nat) (w : World) : (callFunc 63 #[.float .f64 x]).run Tryz.prog w = .ok (.value (.int .u64 x)) w := by
  rw [@run_callFunc_extern Tryz.prog 63 _ Extern.MathFloatBits.float64bits Tryz.func63 (by kernel_rfl) (by kernel_rfl) (by kernel_rfl) (by kernel_rfl)]
  rfl
attribute [local go_sem] fbits_run

theorem same01_self (x : Nat) (w : World) : Calls Tryz.prog 35 #[.float .f64 x, .float .f64 x] w fun e w' => e = .returned (.bool true) ∧ w' = w := by
  go_enter Tryz.func35, Tryz.ntmps35
  go_wp2
  go_ret
  exact ⟨by simp, rfl⟩

/-- the slice value v holds the arguments l, in blocks below B -/
def ARead (W : World) (B : Nat) (v : Value) (l : List PArg) : Prop :=
  ∃ A c, v = .slice A l.length c ∧ (l ≠ [] → ∃ g off, A = some ⟨g, off, none⟩ ∧ g < B ∧ ∀ j u, (acells l)[j]? = some u → W.cell? ⟨g, off + j, none⟩ = some u)
/-- the slice value v holds the statements l, in blocks below B -/
def SRead (W : World) (B : Nat) (v : Value) (l : List PStmt) : Prop :=
  ∃ (vs : List Value) (A : Option Addr) (c : Nat), vs.length = l.length ∧ v = .slice A l.length c ∧
    (l ≠ [] → ∃ g off, A = some ⟨g, off, none⟩ ∧ g < B ∧ ∀ j u, (scells l vs)[j]? = some u → W.cell? ⟨g, off + j, none⟩ = some u) ∧
    ∀ i (h1 : i < vs.length) (h2 : i < l.length), ARead W B vs[i] l[i].args
theorem ARead.keep {W W' : World} {B : Nat} {v : Value} {l : List PArg} (h : ARead W B v l) (hg : ∀ g, g < B → g < W.heap.size → W'.heap[g]? = W.heap[g]?) : ARead W' B v l := by
  obtain ⟨A, c, hv, hx⟩ := h
  refine ⟨A, c, hv, fun h0 => ?_⟩
  obtain ⟨g, off, hA, hB, hcell⟩ := hx h0
  exact ⟨g, off, hA, hB, fun j u hu => (World.cell?_of_block (a := ⟨g, off + j, none⟩) (hg g hB (World.block_lt_of_cell? W _ (hcell j u hu)))).trans (hcell j u hu)⟩
theorem SRead.keep {W W' : World} {B : Nat} {v : Value} {l : List PStmt} (h : SRead W B v l) (hg : ∀ g, g < B → g < W.heap.size → W'.heap[g]? = W.heap[g]?) : SRead W' B v l := by
  obtain ⟨vs, A, c, hl, hv, hx, ha⟩ := h
  refine ⟨vs, A, c, hl, hv, fun h0 => ?_, fun i h1 h2 => (ha i h1 h2).keep hg⟩
  obtain ⟨g, off, hA, hB, hcell⟩ := hx h0
  exact ⟨g, off, hA, hB, fun j u hu => (World.cell?_of_block (a := ⟨g, off + j, none⟩) (hg g hB (World.block_lt_of_cell? W _ (hcell j u hu)))).trans (hcell j u hu)⟩
theorem ARead.of_own {W : World} {base : Nat} {v : Value} {l : List PArg} (h : W.ownsRow base 59 3 v l.length (acells l)) : ARead W W.heap.size v l := by
  rcases h.2 with ⟨rfl, hn⟩ | ⟨g, cap, cur, rfl, _, hgg, _⟩
  · exact ⟨_, _, by rw [hn], fun h0 => absurd (List.eq_nil_of_length_eq_zero hn) h0⟩
  · refine ⟨_, _, rfl, fun _ => ⟨g, 0, rfl, (Array.getElem?_eq_some_iff.1 hgg).1, fun j u hu => ?_⟩⟩
    have hc := h.cells (g := g) rfl j u hu
    have hadd : (⟨g, 0, none⟩ : Addr).add j = ⟨g, j, none⟩ := by unfold Addr.add; split <;> simp_all
    rw [hadd] at hc
    rw [Nat.zero_add]
    exact hc
theorem SRead.of_row {W : World} {base : Nat} {v : Value} {l : List PStmt} (h : SRow W base v l) : SRead W W.heap.size v l := by
  obtain ⟨vs, hl, ho, ha⟩ := h
  rcases ho.2 with ⟨rfl, hn⟩ | ⟨g, cap, cur, rfl, _, hgg, _⟩
  · exact ⟨vs, _, _, hl, by rw [hn], fun h0 => absurd (List.eq_nil_of_length_eq_zero hn) h0, fun i h1 h2 => .of_own (ha i h1 h2)⟩
  · refine ⟨vs, _, _, hl, rfl, fun _ => ⟨g, 0, rfl, (Array.getElem?_eq_some_iff.1 hgg).1, fun j u hu => ?_⟩, fun i h1 h2 => .of_own (ha i h1 h2)⟩
    have hc := ho.cells (g := g) rfl j u hu
    have hadd : (⟨g, 0, none⟩ : Addr).add j = ⟨g, j, none⟩ := by unfold Addr.add; split <;> simp_all
    rw [hadd] at hc
    rw [Nat.zero_add]
    exact hc

theorem scells_get : ∀ (l : List PStmt) (vs : List Value) (i j : Nat) (h1 : i < vs.length) (h2 : i < l.length), j < 4 → vs.length = l.length → (scells l vs)[i * 4 + j]? = (stCells l[i] vs[i])[j]?
  | s :: r, v :: q, 0, j, _, _, hj, _ => by
    simp only [scells, Nat.zero_mul, Nat.zero_add, List.getElem_cons_zero]
    rw [List.getElem?_append_left (by simpa [stCells] using hj)]
  | s :: r, v :: q, i + 1, j, h1, h2, hj, hl => by
    simp only [scells, List.getElem_cons_succ]
    rw [List.getElem?_append_right (by simp [stCells]; omega)]
    have := scells_get r q i j (by simpa using h1) (by simpa using h2) hj (by simpa using hl)
    rw [← this]
    congr 1
    simp [stCells]; omega
  | [], _, i, j, _, h2, _, _ => by simp at h2
  | _ :: _, [], i, j, h1, _, _, _ => by simp at h1
theorem acells_get : ∀ (l : List PArg) (i j : Nat) (h : i < l.length), j < 3 → (acells l)[i * 3 + j]? = (l[i].cells)[j]?
  | a :: r, 0, j, _, hj => by
    show (a.cells ++ acells r)[0 * 3 + j]? = _
    rw [Nat.zero_mul, Nat.zero_add, List.getElem?_append_left (by simpa [PArg.cells] using hj)]; rfl
  | a :: r, i + 1, j, h, hj => by
    show (a.cells ++ acells r)[(i + 1) * 3 + j]? = _
    rw [List.getElem?_append_right (by simp [PArg.cells]; omega)]
    have := acells_get r i j (by simpa using h) hj
    rw [List.getElem_cons_succ, ← this]
    congr 1
    simp [PArg.cells]; omega
  | [], i, j, h, _ => by simp at h

end Go.Proofs.YtcbgkbidgpemfaaGreatDoor.parw

/- Slices of tokens that come in, and what an append of them does; the same of statements that parse.Parse hands back. Conditions: as each theorem states. -/
namespace Go.Proofs.YtcbgkbidgpemfaaGreatDoor.pft
open Go.RowKit
open Go.Proofs.YtcbgkbidgpemfaaGreatDoor.lexw
open Go.Proofs.YtcbgkbidgpemfaaGreatDoor.parw
open Go.ChangeShapes Go.WideShapes Go.Deep

/-- a slice of tokens, in blocks below B, no longer than its capacity -/
def TArg (W : World) (B : Nat) (v : Value) (ts : List PTok) : Prop :=
  ∃ A c, v = .slice A ts.length c ∧ ts.length ≤ c ∧ (A = none → c = 0) ∧ (ts ≠ [] → ∃ g off, A = some ⟨g, off, none⟩ ∧ g < B ∧ g < W.heap.size ∧ ∀ j u, (pcells ts)[j]? = some u → W.cell? ⟨g, off + j, none⟩ = some u)
theorem TArg.ext {W u : World} {B : Nat} {v : Value} {ts : List PTok} (h : TArg W B v ts) (hb : Below W.heap.size W u) : TArg u B v ts := by
  obtain ⟨A, c, hv, hc, hn, hx⟩ := h
  refine ⟨A, c, hv, hc, hn, fun h0 => ?_⟩
  obtain ⟨g, off, hA, hB, hgl, hx⟩ := hx h0
  exact ⟨g, off, hA, hB, by have := hb.size; omega, fun j u hu => (World.cell?_of_block (a := ⟨g, off + j, none⟩) (hb.block g hgl)).trans (hx j u hu)⟩
theorem TArg.row {W : World} {B : Nat} {v : Value} {ts : List PTok} (h : TArg W B v ts) (_hB : B ≤ W.heap.size) : PRow W W.heap.size v ts := by
  obtain ⟨A, c, hv, hc, hn, hx⟩ := h
  refine ⟨A, c, hv, hc, fun h0 => ?_⟩
  obtain ⟨g, off, hA, hg, _, hx⟩ := hx h0
  exact ⟨g, off, hA, by omega, hx⟩
theorem TArg.form {W : World} {B : Nat} {v : Value} {ts : List PTok} (h : TArg W B v ts) : ∃ A c, v = .slice A ts.length c := by
  obtain ⟨A, c, hv, _⟩ := h
  exact ⟨A, c, hv⟩
theorem TArg.one (w : World) (t : PTok) (u : World) (hu : u.heap[w.heap.size]? = some (.cells t.cells.toArray 27 (0, 0))) : TArg u u.heap.size (.slice (some ⟨w.heap.size, 0, none⟩) 1 1) [t] := by
  have hl := (Array.getElem?_eq_some_iff.1 hu).1
  refine ⟨_, 1, rfl, Nat.le_refl _, fun h => by simp at h, fun _ => ⟨w.heap.size, 0, rfl, hl, hl, fun j v hv => ?_⟩⟩
  rw [cell_of_row u w.heap.size _ _ _ _ hu, Nat.zero_add]
  simpa [pcells] using hv
/-! statements -/
/-- a slice of statements, in blocks below B, no longer than its capacity; vs: what their slices of arguments are -/
def SArg (W : World) (B : Nat) (v : Value) (l : List PStmt) (vs : List Value) : Prop :=
  vs.length = l.length ∧ (∃ A c, v = .slice A l.length c ∧ l.length ≤ c ∧ (A = none → c = 0) ∧ (l ≠ [] → ∃ g off, A = some ⟨g, off, none⟩ ∧ g < B ∧ g < W.heap.size ∧ ∀ j u, (scells l vs)[j]? = some u → W.cell? ⟨g, off + j, none⟩ = some u)) ∧
    ∀ i (h1 : i < vs.length) (h2 : i < l.length), ARead W B vs[i] l[i].args ∧ vs[i].oneCell' = true
theorem SArg.read {W : World} {B : Nat} {v : Value} {l : List PStmt} {vs : List Value} (h : SArg W B v l vs) : SRead W B v l := by
  obtain ⟨hl, ⟨A, c, hv, hc, hn, hx⟩, ha⟩ := h
  refine ⟨vs, A, c, hl, hv, fun h0 => ?_, fun i h1 h2 => (ha i h1 h2).1⟩
  obtain ⟨g, off, hA, hB, _, hx⟩ := hx h0
  exact ⟨g, off, hA, hB, hx⟩
section
variable {H : Type} {enc : TypeId × Value → H} {w : World} {base : Nat} {held : Bool}
/-- a slice whose elements are rows of k cells -/
theorem rows_of {t e : TypeId} {k : Nat} (ht : Tryz.prog.underlying t = some (.slice e)) (hC : Tryz.prog.cellsOf e = k) {α : Type} (f : α → List Value) (hlen : ∀ a, (f a).length = k) (hk : 0 < k) (Pr : α → Prop)
    (hel : ∀ (fuel : Nat) (cs : List Value) (x : DataW H × List MemPlace), DataW.trod enc Tryz.prog w base (fun _ => true) held fuel e cs = some x → ∃ a, cs = f a ∧ Pr a)
    {fuel : Nat} {v : Value} {x : DataW H × List MemPlace} (h : DataW.trod enc Tryz.prog w base (fun _ => true) held fuel t [v] = some x) :
    ∃ l : List α, (∃ A c, v = .slice A l.length c ∧ l.length ≤ c ∧ (A = none → c = 0) ∧ (l ≠ [] → ∃ g off, A = some ⟨g, off, none⟩ ∧ g < w.heap.size ∧ ∀ j u, (l.flatMap f)[j]? = some u → w.cell? ⟨g, off + j, none⟩ = some u)) ∧ ∀ a ∈ l, Pr a := by
  rcases open_slice ht h with ⟨hcs, _⟩ | ⟨a, len, cap, m, n, D, Pl, hcs, hb, hl, hm, hmm, hx, hi⟩
  · simp only [List.cons.injEq, and_true] at hcs
    exact ⟨[], ⟨none, 0, hcs, by simp, fun _ => rfl, fun h => absurd rfl h⟩, (fun y hy => by cases hy)⟩
  · simp only [List.cons.injEq, and_true] at hcs
    have hml : len ≤ m := by rw [hmm]; simp; exact hl
    have hnd : ∀ i, i < len → ∃ y : α, Pr y ∧ ∀ j u, (f y)[j]? = some u → w.cell? (a.add (i * k + j)) = some u := fun i hil => by
      obtain ⟨cs', hc, ht⟩ := hi i (by omega)
      rw [hC] at hc
      obtain ⟨y, hy, hyo⟩ := hel _ _ _ ht
      obtain ⟨_, hcl, hat⟩ := World.cells?_some hc
      refine ⟨y, hyo, fun j u hu => ?_⟩
      have hj : j < k := by have := (List.getElem?_eq_some_iff.1 hu).1; rwa [hlen] at this
      have := hat j hj
      rw [Go.Deep.add_add] at this
      rw [this, hy]
      exact hu
    have flen : ∀ l : List α, (l.flatMap f).length = l.length * k := by
      intro l
      induction l with
      | nil => simp
      | cons y r ih => rw [List.flatMap_cons, List.length_append, ih, hlen, List.length_cons, Nat.add_mul]; omega
    have hall : ∀ q, q ≤ len → ∃ l : List α, l.length = q ∧ (∀ y ∈ l, Pr y) ∧ ∀ j u, (l.flatMap f)[j]? = some u → w.cell? (a.add j) = some u := by
      intro q
      induction q with
      | zero => exact fun _ => ⟨[], rfl, (fun y hy => by cases hy), (fun j u hu => by simp at hu)⟩
      | succ q ih =>
        intro hq
        obtain ⟨l, hll, hlo, hlc⟩ := ih (by omega)
        obtain ⟨y, hyo, hyc⟩ := hnd q (by omega)
        refine ⟨l ++ [y], by rw [List.length_append, hll]; rfl, fun z hz => ?_, fun j u hu => ?_⟩
        · rcases List.mem_append.1 hz with hz | hz
          · exact hlo z hz
          · have : z = y := by simpa using hz
            rw [this]; exact hyo
        · rw [List.flatMap_append] at hu
          by_cases hj : j < (l.flatMap f).length
          · rw [List.getElem?_append_left hj] at hu; exact hlc j u hu
          · rw [List.getElem?_append_right (by omega)] at hu
            have hu' : (f y)[j - (l.flatMap f).length]? = some u := by simpa using hu
            have := hyc _ u hu'
            rw [flen, hll] at this hj
            rwa [show q * k + (j - q * k) = j by omega] at this
    obtain ⟨l, hll, hlo, hlc⟩ := hall len (Nat.le_refl _)
    refine ⟨l, ⟨some a, cap, by rw [hcs, hll], by omega, fun h => by simp at h, fun h0 => ?_⟩, hlo⟩
    have hpos : 0 < l.length := List.length_pos_iff.2 h0
    have hfp : 0 < (l.flatMap f).length := by rw [flen]; exact Nat.mul_pos hpos hk
    have hc0 := hlc 0 _ (List.getElem?_eq_getElem hfp)
    have ha0 : a.add 0 = a := by unfold Addr.add; simp
    rw [ha0] at hc0
    obtain ⟨g, off, spot⟩ := a
    have hspot : spot = none := by
      cases spot with
      | none => rfl
      | some p => unfold World.cell? at hc0; split at hc0 <;> simp at hc0
    subst hspot
    have hgl : g < w.heap.size := World.block_lt_of_cell? w _ hc0
    refine ⟨g, off, rfl, hgl, fun j u hu => ?_⟩
    have := hlc j u hu
    have hadd : (⟨g, off, none⟩ : Addr).add j = ⟨g, off + j, none⟩ := by unfold Addr.add; split <;> simp_all
    rwa [hadd] at this
theorem cells_u8 : Tryz.prog.cellsOf 5 = 1 := by kernel_rfl
theorem cells_int : Tryz.prog.cellsOf 3 = 1 := by kernel_rfl
theorem cells_str : Tryz.prog.cellsOf 9 = 1 := by kernel_rfl
theorem cells_tok : Tryz.prog.cellsOf 27 = 3 := by kernel_rfl
set_option maxRecDepth 100000 in
theorem tok_of_trod {sp : Nat → Bool} {fuel : Nat} {cs : List Value} {x : DataW H × List MemPlace} (h : DataW.trod enc Tryz.prog w base sp held fuel 27 cs = some x) : ∃ a : PTok, cs = a.cells := by
  obtain ⟨xs, m, _, _, hl, hlen, hf⟩ := DataW.trod_struct Tryz.underlying27 h
  rw [cells_tok] at hl
  match cs, hl with
  | [c0, c1, c2], _ =>
    have g := fun i (hi : i < xs.length) => List.getElem?_eq_getElem hi
    have hlen' : xs.length = 3 := hlen
    have h0 := (hf 0 _ rfl).trans (g 0 (by omega))
    change DataW.trod enc Tryz.prog w base sp held m 5 ((List.drop 0 [c0, c1, c2]).take (Tryz.prog.cellsOf 5)) = _ at h0
    rw [cells_u8] at h0
    change DataW.trod enc Tryz.prog w base sp held m 5 [c0] = _ at h0
    have h1 := (hf 1 _ rfl).trans (g 1 (by omega))
    change DataW.trod enc Tryz.prog w base sp held m 3 ((List.drop 1 [c0, c1, c2]).take (Tryz.prog.cellsOf 3)) = _ at h1
    rw [cells_int] at h1
    change DataW.trod enc Tryz.prog w base sp held m 3 [c1] = _ at h1
    have h2 := (hf 2 _ rfl).trans (g 2 (by omega))
    change DataW.trod enc Tryz.prog w base sp held m 9 ((List.drop 2 [c0, c1, c2]).take (Tryz.prog.cellsOf 9)) = _ at h2
    rw [cells_str] at h2
    change DataW.trod enc Tryz.prog w base sp held m 9 [c2] = _ at h2
    obtain ⟨k, ek, -, wk⟩ := DataW.trod_int Tryz.underlying5 h0
    obtain ⟨p, ep, -, -⟩ := DataW.trod_int Tryz.underlying3 h1
    obtain ⟨s, es, -, -⟩ := DataW.trod_string Tryz.underlying9 h2
    have ek : c0 = .int .u8 k := by simpa using ek
    have ep : c1 = .int .i64 p := by simpa using ep
    have es : c2 = .string s := by simpa using es
    subst ek ep es
    have hk : 0 ≤ k ∧ k ≤ 255 := by simpa [Lit.wf, IntKind.min, IntKind.max, IntKind.signed, IntKind.bits] using wk
    have hkk : ((k.toNat : Nat) : Int) = k := Int.toNat_of_nonneg hk.1
    exact ⟨⟨k.toNat, p, s⟩, by simp [PTok.cells, hkk]⟩
/-- a slice of tokens that comes in -/
theorem toks_of {fuel : Nat} {v : Value} {x : DataW H × List MemPlace} (hv : ∃ a len cap, v = .slice a len cap) (h : DataW.trod enc Tryz.prog w base (fun _ => true) held fuel 22 v.cells.toList = some x) :
    ∃ l : List PTok, TArg w w.heap.size v l := by
  have h' : DataW.trod enc Tryz.prog w base (fun _ => true) held fuel 22 [v] = some x := by
    obtain ⟨va, vl, vc, rfl⟩ := hv
    exact h
  obtain ⟨l, ⟨A, c, hv, hc, hn, hx⟩, _⟩ := rows_of (k := 3) Tryz.underlying22 cells_tok PTok.cells (fun a => rfl) (by omega) (fun _ => True) (fun fuel cs x h => by
    obtain ⟨a, ha⟩ := tok_of_trod h
    exact ⟨a, ha, trivial⟩) h'
  refine ⟨l, A, c, hv, hc, hn, fun h0 => ?_⟩
  obtain ⟨g, off, hA, hg, hcell⟩ := hx h0
  exact ⟨g, off, hA, hg, hg, hcell⟩
end
end Go.Proofs.YtcbgkbidgpemfaaGreatDoor.pft

/- decimal.Parse at any text, as the other texts ask for it. Condition: seven of the library's variables hold what the program's text lays. -/
namespace Go.Proofs.YtcbgkbidgpemfaaGreatDoor.flow
open Go.RowKit
open Go.Proofs.YtcbgkbidgpemfaaGreatDoor.parw
open Go.Proofs.YtcbgkbidgpemfaaGreatDoor.rdf

/-- what the variables hold, in blocks below B -/
def Laid (B : Nat) (w : World) : Prop := DE B w
theorem Laid.stable (B : Nat) : Stable (Laid B) B := by
  intro w w' row h hg hr
  have hk : ∀ (p : Addr) (v : Value), p.block < B → w.cell? p = some v → w'.cell? p = some v := fun p v hp hv =>
    (World.cell?_of_block (hg.block p.block (World.block_lt_of_cell? w _ hv) (fun e => by have := hr _ e.symm; omega))).trans hv
  obtain ⟨v, h1, h2⟩ := h.er
  exact ⟨⟨h.ev.keep hk, h.ft.keep hk, fun i hi => by
    obtain ⟨a1, a2, a3, a4⟩ := h.pt i hi
    exact ⟨a1, a2, hk _ _ h.pb a3, hk _ _ h.pb a4⟩, h.pb, h.ob, hk _ _ h.ob h.op, Nat.le_trans h.lt hg.size⟩, h.eb, v, hk _ _ h.eb h1, h2⟩
/-- what decimal.Parse says -/
def decE (s : ByteArray) : Nat × Nat := decR s.data.toList
theorem dparse_e (B : Nat) (s : ByteArray) (w : World) (h : Laid B w) : Calls Tryz.prog 94 #[.string s] w (DecPost (decE s) w) := dparse_any B s w h
theorem dec_ok (B : Nat) (ts : List PTok) : DecOk decE (Laid B) ts := fun t _ _ w hw => dparse_e B t.text w hw
end Go.Proofs.YtcbgkbidgpemfaaGreatDoor.flow

/- The walks of the reference's letter and digit. -/
namespace Go.Proofs.YtcbgkbidgpemfaaGreatDoor.lexw
open Go.RowKit
open Go.Proofs.YtcbgkbidgpemfaaGreatDoor.lexm

theorem rletter_any (c : Int) (w : World) : Calls Tryz.prog 68 #[.int .u8 c] w fun e w' => e = .returned (.bool (ltrI c)) ∧ w = w' := by
  by_cases h1 : 97 ≤ c
  · by_cases h2 : c ≤ 122
    · have hv : ltrI c = true := by simp [ltrI, h1, h2]
      have HV := Lib.hid hv
      clear hv
      go_enter Tryz.func68, Tryz.ntmps68
      go_wp2
      go_ret
      exact ⟨ret_bool HV.out.symm, rfl⟩
    · have hv : ltrI c = false := by
        have : ¬ c ≤ 90 := by omega
        have : ¬ c = 95 := by omega
        simp [ltrI, *]
      have HV := Lib.hid hv
      have h3 : 65 ≤ c := by omega
      have h4 : ¬ c ≤ 90 := by omega
      have h5 : (c == 95) = false := by rw [beq_eq_false_iff_ne]; omega
      clear hv
      go_enter Tryz.func68, Tryz.ntmps68
      go_wp2
      go_ret
      exact ⟨ret_bool HV.out.symm, rfl⟩
  · by_cases h2 : 65 ≤ c
    · by_cases h3 : c ≤ 90
      · have hv : ltrI c = true := by simp [ltrI, h2, h3]
        have HV := Lib.hid hv
        clear hv
        go_enter Tryz.func68, Tryz.ntmps68
        go_wp2
        go_ret
        exact ⟨ret_bool HV.out.symm, rfl⟩
      · have hv : ltrI c = (c == 95) := by simp [ltrI, h1, h3]
        have HV := Lib.hid hv
        clear hv
        go_enter Tryz.func68, Tryz.ntmps68
        go_wp2
        go_ret
        exact ⟨ret_bool HV.out.symm, rfl⟩
    · have hv : ltrI c = (c == 95) := by simp [ltrI, h1, h2]
      have HV := Lib.hid hv
      clear hv
      go_enter Tryz.func68, Tryz.ntmps68
      go_wp2
      go_ret
      exact ⟨ret_bool HV.out.symm, rfl⟩

theorem rdigit_any (c : Int) (w : World) : Calls Tryz.prog 69 #[.int .u8 c] w fun e w' => e = .returned (.bool (digI c)) ∧ w = w' := by
  go_enter Tryz.func69, Tryz.ntmps69
  go_wp2
  all_goals go_ret
  · have h : 48 ≤ c := by assumption
    exact ⟨ret_bool (by simp [digI, h]), rfl⟩
  · have h : ¬ 48 ≤ c := by omega
    exact ⟨ret_bool (by simp [digI, h]), rfl⟩

end Go.Proofs.YtcbgkbidgpemfaaGreatDoor.lexw
