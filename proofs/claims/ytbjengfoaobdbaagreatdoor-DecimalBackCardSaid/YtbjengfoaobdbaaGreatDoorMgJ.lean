/- FormatFloat for 'e', of a positive float. No conditions but those stated. -/
import Derived.Test.YtbjengfoaobdbaaGreatDoorPrnI
namespace Go.Proofs.YtbjengfoaobdbaaGreatDoor.prnw
open Go.RowKit
open Go.Shelf
open Go.Sort
open Go.Proofs.YtbjengfoaobdbaaGreatDoor.nodew
open Go.Proofs.YtbjengfoaobdbaaGreatDoor.chkw

/-- a list of bytes as a string -/
def strV (l : List UInt8) : Value := .string ⟨l.toArray⟩
theorem buf_string {w : World} {base g cap : Nat} {l : List UInt8} (h : Buf w base g cap l) : (convert 37 9 (.slice (some ⟨g, 0, none⟩) l.length cap)).run Tryz.prog w = .ok (.string ⟨l.toArray⟩) w := by
  refine run_convert_bytes_back w 37 9 5 ⟨g, 0, none⟩ cap l (by kernel_rfl) (by kernel_rfl) (by kernel_rfl) fun j hj => ?_
  refine World.ownsRow.cells h rfl j _ ?_
  rw [List.getElem?_map, List.getElem?_eq_getElem hj]
  rfl
theorem mk_u8 (w : World) : (Instr.makeSlice 37 (.int .i64 0) (.int .i64 24)).run Tryz.prog w = .ok (.slice (some ⟨w.heap.size, 0, none⟩) 0 24) (w.alloc (.cells (List.replicate 24 (bV 0)).toArray 5)) := by
  obtain ⟨i, hi, hz, h1, h2⟩ := info_parts u8Info
  have := run_makeSlice (P := Tryz.prog) w 37 5 i _ Tryz.underlying37 hi hz .i64 .i64 0 24 (by omega) (by omega) (by rw [h1]; omega) (by rw [h2]; omega) (by omega)
  rw [this, h1]
  have e : madeCells (Value.int IntKind.u8 0).cells (Int.toNat 24 * 1) = (List.replicate 24 (bV 0)).toArray := by kernel_rfl
  rw [e]
  rfl
/-- returns this text, and what lay below is as it was -/
def TxPost (w : World) (t : List UInt8) (x : Ending) (w' : World) : Prop := x = .returned (strV t) ∧ Below w.heap.size w w'
set_option maxRecDepth 100000 in
set_option maxHeartbeats 1000000 in
theorem ifmt_any (hi lo : Nat → Nat) (X : Nat) (hX0 : 0 < X) (hX : X < 9218868437227405312) (w : World) (hT : Tabs hi lo w) (hTn : 15 < w.heap.size) :
    Calls Tryz.prog 73 #[.float .f64 X, .int .u8 101, .int .i64 (-1), .int .i64 64] w (TxPost w (ftT hi lo X)) := by
  obtain ⟨W1, hW1⟩ : ∃ W1, W1 = w.alloc (.cells (List.replicate 24 (bV 0)).toArray 5) := ⟨_, rfl⟩
  have hmk := mk_u8 w
  rw [← hW1] at hmk
  have hb : Buf W1 w.heap.size w.heap.size 24 [] := by rw [hW1]; exact World.ownsRow_made w _ 24 (Nat.le_refl _) (by unfold maxLen; omega) (by simp)
  have hB1 : Below w.heap.size w W1 := by rw [hW1]; exact (Below.refl _ _).alloc (Nat.le_refl _) _
  have hT1 : Tabs hi lo W1 := by
    refine ⟨fun i h6 => ?_, hT.2.1, tab_below hT.2.2 hB1 (by omega)⟩
    obtain ⟨a, b, c, d⟩ := hT.1 i h6
    exact ⟨a, b, (hB1.cell hTn).trans c, (hB1.cell hTn).trans d⟩
  have C := Lib.hid (ftoa_any hi lo X hX0 hX w.heap.size w.heap.size 24 W1 hT1 hTn hb hB1.size)
  have HM := Lib.hid hmk
  have HB := Lib.hid hB1
  clear hW1 hmk hb hB1 hT1 hT hTn hX0 hX
  go_enter Tryz.func73, Tryz.ntmps73
  have hmk : (Instr.makeSlice 37 (.int .i64 0) (.int .i64 (max 3 24))).run Tryz.prog w = .ok (.slice (some ⟨w.heap.size, 0, none⟩) 0 24) W1 := HM.out
  go_wp2_with (go_at_call 104; (with_reducible refine C.out.mono ?_); rintro e w2 ⟨g, c, rfl, hb2, hbl⟩; have hcv := buf_string hb2)
  go_ret
  exact ⟨rfl, HB.out.trans hbl⟩
theorem fmt_any (hi lo : Nat → Nat) (X : Nat) (hX0 : 0 < X) (hX : X < 9218868437227405312) (w : World) (hT : Tabs hi lo w) (hTn : 15 < w.heap.size) :
    Calls Tryz.prog 39 #[.float .f64 X, .int .u8 101, .int .i64 (-1), .int .i64 64] w (TxPost w (ftT hi lo X)) := by
  have C := Lib.hid (ifmt_any hi lo X hX0 hX w hT hTn)
  clear hT hTn hX0 hX
  go_enter Tryz.func39, Tryz.ntmps39
  go_wp2_with (go_at_call 73; (with_reducible refine C.out.mono ?_); rintro e w2 ⟨rfl, hb2⟩)
  go_ret
  exact ⟨rfl, hb2⟩
end Go.Proofs.YtbjengfoaobdbaaGreatDoor.prnw

/- decimal.laid: digits by a place of the point. No conditions but those stated. -/
namespace Go.Proofs.YtbjengfoaobdbaaGreatDoor.prnw
open Go.RowKit
open Go.Shelf
open Go.Sort
open Go.Proofs.YtbjengfoaobdbaaGreatDoor.nodew
open Go.Proofs.YtbjengfoaobdbaaGreatDoor.chkw

theorem str_ext {S T : ByteArray} (h : S.data.toList = T.data.toList) : S = T := ByteArray.ext (Array.toList_inj.1 h)
theorem str_app (S T : ByteArray) : (S ++ T).data.toList = S.data.toList ++ T.data.toList := by simp
theorem str_mk (l : List UInt8) : (⟨l.toArray⟩ : ByteArray).data.toList = l := by simp
theorem str_head (S : ByteArray) (c : Nat) : (S.extract 0 c).data.toList = S.data.toList.take c := by rw [Lib.extract_data]; simp
theorem str_tail (S : ByteArray) (c : Nat) : (S.extract c S.size).data.toList = S.data.toList.drop c := by
  rw [Lib.extract_data]
  exact List.take_of_length_le (by rw [List.length_drop]; simp)
theorem str_cut (S : ByteArray) (a b : Nat) : (S.extract a b).data.toList = (S.data.toList.drop a).take (b - a) := Lib.extract_data S a b
theorem ret_str {S : ByteArray} {l : List UInt8} (h : S.data.toList = l) : Ending.returned (.string S) = .returned (strV l) := by
  rw [← h]
  rfl
/-- digits, by a place of the point -/
def laidT (D : List UInt8) (k : Int) : List UInt8 :=
  if 1 ≤ k ∧ k ≤ 15 then
    if (D.length : Int) ≤ k then D ++ Lib.repeatL [48] (k - D.length).toNat
    else D.take k.toNat ++ [46] ++ D.drop k.toNat
  else if -4 ≤ k ∧ k ≤ 0 then [48, 46] ++ Lib.repeatL [48] (-k).toNat ++ D
  else (if 1 < D.length then D.take 1 ++ [46] ++ D.drop 1 else D) ++ [101] ++ Lib.itoa (k - 1)
theorem below_grow (w : World) (k : Nat) (os : Array Obj) : Below w.heap.size w (grow (w.drewN k) os) :=
  ⟨rfl, rfl, rfl, by simp [grow], fun i hi => by
    show (w.heap ++ os)[i]? = w.heap[i]?
    exact Array.getElem?_append_left hi⟩
theorem rep_c (c : Nat) (hc : c ≤ 400) (W : World) : Calls Tryz.prog 11 #[.string ⟨#[48]⟩, .int .i64 c] W fun e w' => (∃ R : ByteArray, R.size ≤ 400 ∧ R.data.toList = Lib.repeatL [48] c ∧ e = .returned (.string R)) ∧ Below W.heap.size W w' := by
  refine (Tryz.strings_Repeat ⟨#[48]⟩ c W (by omega) (by show 1 * c ≤ _; omega)).mono fun e w' h => ?_
  refine ⟨⟨⟨(Lib.repeatL [48] c).toArray⟩, ?_, str_mk _, h.1⟩, h.2⟩
  show (Lib.repeatL [48] c).toArray.size ≤ 400
  rw [List.size_toArray, Lib.repeatL_length]
  simpa using hc
theorem itoa_c (k : Int) (k0 : -4000 ≤ k) (k1 : k ≤ 4999) (W : World) (htab : Lib.TabIs Tryz.prog W "internal/strconv.uint64pow10" .u64 Lib.pow10Tab) : Calls Tryz.prog 6 #[.int .i64 k] W fun e w' => (∃ R : ByteArray, R.size ≤ 400 ∧ R.data.toList = Lib.itoa k ∧ e = .returned (.string R)) ∧ Below W.heap.size W w' := by
  refine (Tryz.strconv_Itoa k (by omega) (by omega) W htab).mono fun e w' h => ?_
  obtain ⟨he, n, os, hw⟩ := h
  refine ⟨⟨⟨(Lib.itoa k).toArray⟩, ?_, str_mk _, he⟩, by rw [hw]; exact below_grow W n os⟩
  show (Lib.itoa k).toArray.size ≤ 400
  rw [List.size_toArray]
  exact Nat.le_trans (Lib.itoa_length_le k (by omega) (by omega)) (by decide)
set_option maxRecDepth 100000 in
set_option maxHeartbeats 1000000 in
theorem laid_any (S : ByteArray) (k : Int) (hn1 : 1 ≤ S.size) (hn : S.size ≤ 24) (k0 : -400 ≤ k) (k1 : k ≤ 400) (w : World) (htab : Lib.TabIs Tryz.prog w "internal/strconv.uint64pow10" .u64 Lib.pow10Tab) :
    Calls Tryz.prog 41 #[.string S, .int .i64 k] w (TxPost w (laidT S.data.toList k)) := by
  have hsz : S.data.toList.length = S.size := by simp
  obtain ⟨T, hT⟩ : ∃ T, T = laidT S.data.toList k := ⟨_, rfl⟩
  rw [← hT]
  unfold laidT at hT
  rw [hsz] at hT
  by_cases h1 : 1 ≤ k ∧ k ≤ 15
  · rw [if_pos h1] at hT
    obtain ⟨h1, h2⟩ := h1
    by_cases h3 : (S.size : Int) ≤ k
    · rw [if_pos h3] at hT
      obtain ⟨c, hc⟩ : ∃ c : Nat, c = (k - S.size).toNat := ⟨_, rfl⟩
      have hci : k - (S.size : Int) = (c : Int) := by omega
      rw [← hc] at hT
      have HT := Lib.hid hT
      have HC := Lib.hid (rep_c c (by omega))
      have hS0 : (0 : Int) ≤ (S.size : Int) := by omega
      have hS9 : (S.size : Int) ≤ 24 := by omega
      clear hT hsz hc htab
      go_enter Tryz.func41, Tryz.ntmps41
      go_wp2_with (go_at_call 11; (with_reducible refine (HC.out _).mono ?_); rintro e w2 ⟨⟨R, hR0, hR, rfl⟩, hb2⟩; have HR := Lib.hid hR; clear hR)
      go_ret
      exact ⟨ret_str (by rw [str_app, HR.out, HT.out]), hb2⟩
    · rw [if_neg h3] at hT
      obtain ⟨c, rfl⟩ := Int.eq_ofNat_of_zero_le (show 0 ≤ k by omega)
      rw [Int.toNat_natCast] at hT
      have HT := Lib.hid hT
      clear hT hsz htab
      have h3' : decide (S.size ≤ c) = false := decide_eq_false (by omega)
      have h4 : c ≤ S.size := by omega
      have h5 : (c : Int) ≤ (S.size : Int) := by omega
      go_enter Tryz.func41, Tryz.ntmps41
      go_wp2_with fail
      go_quiet (fail)
      go_wp2_with fail
      go_ret
      exact ⟨ret_str (by rw [str_app, str_app, str_head, str_tail, HT.out]), below_drewN' (Below.refl _ _) _⟩
  · rw [if_neg h1] at hT
    by_cases h3 : -4 ≤ k ∧ k ≤ 0
    · rw [if_pos h3] at hT
      obtain ⟨c, hc⟩ : ∃ c : Nat, c = (-k).toNat := ⟨_, rfl⟩
      have hci : k = -(c : Int) := by omega
      rw [← hc] at hT
      have HT := Lib.hid hT
      have HC := Lib.hid (rep_c c (by omega))
      have hc4 : c ≤ 4 := by omega
      have hc0 : (0 : Int) ≤ (c : Int) := by omega
      have hc9 : (c : Int) ≤ 4 := by omega
      clear hT hsz hc htab h1 h3 k0 k1
      subst hci
      go_enter Tryz.func41, Tryz.ntmps41
      go_wp2_with (go_at_call 11; (with_reducible refine (HC.out _).mono ?_); rintro e w2 ⟨⟨R, hR0, hR, rfl⟩, hb2⟩; have HR := Lib.hid hR; clear hR)
      go_ret
      exact ⟨ret_str (by rw [str_app, str_app, HR.out, HT.out]), hb2⟩
    · rw [if_neg h3] at hT
      have HI := Lib.hid (fun n => itoa_c (k - 1) (by omega) (by omega) (w.drewN n) htab)
      have HJ := Lib.hid (itoa_c (k - 1) (by omega) (by omega) w htab)
      have hk1 : ¬ (1 ≤ k ∧ k ≤ 15) := h1
      have hS0 : (0 : Int) ≤ (S.size : Int) := by omega
      have hS9 : (S.size : Int) ≤ 24 := by omega
      by_cases hS1 : 1 < S.size
      · rw [if_pos hS1] at hT
        have HT := Lib.hid hT
        have s1 : 1 ≤ S.size := by omega
        have s2 : (1 : Int) ≤ (S.size : Int) := by omega
        have s3 : (1 : Int) < (S.size : Int) := by omega
        have s4 : decide (1 < S.size) = true := decide_eq_true hS1
        clear hT hsz htab h1
        rcases Int.lt_or_le k 1 with hlt | hge
        · have k4 : k < -4 := by omega
          clear hk1 h3
          go_enter Tryz.func41, Tryz.ntmps41
          go_wp2_with fail
          go_quiet (fail)
          go_wp2_with (go_at_call 6; (with_reducible refine (HI.out _).mono ?_); rintro e w2 ⟨⟨R, hR0, hR, rfl⟩, hb2⟩; have HR := Lib.hid hR; clear hR)
          go_ret
          exact ⟨ret_str (by rw [str_app, str_app, str_app, str_app, str_head, str_tail, HR.out, HT.out]), (below_drewN' (Below.refl _ _) _).trans hb2⟩
        · have k4 : 15 < k := by omega
          clear hk1 h3
          go_enter Tryz.func41, Tryz.ntmps41
          go_wp2_with fail
          go_quiet (fail)
          go_wp2_with (go_at_call 6; (with_reducible refine (HI.out _).mono ?_); rintro e w2 ⟨⟨R, hR0, hR, rfl⟩, hb2⟩; have HR := Lib.hid hR; clear hR)
          go_ret
          exact ⟨ret_str (by rw [str_app, str_app, str_app, str_app, str_head, str_tail, HR.out, HT.out]), (below_drewN' (Below.refl _ _) _).trans hb2⟩
      · rw [if_neg hS1] at hT
        have HT := Lib.hid hT
        have s3 : S.size = 1 := by omega
        have s4 : decide (1 < S.size) = false := decide_eq_false hS1
        have s5 : (S.size : Int) = 1 := by omega
        clear hT hsz htab h1
        rcases Int.lt_or_le k 1 with hlt | hge
        · have k4 : k < -4 := by omega
          clear hk1 h3
          go_enter Tryz.func41, Tryz.ntmps41
          go_wp2_with (go_at_call 6; (with_reducible refine HJ.out.mono ?_); rintro e w2 ⟨⟨R, hR0, hR, rfl⟩, hb2⟩; have HR := Lib.hid hR; clear hR)
          go_ret
          exact ⟨ret_str (by rw [str_app, str_app, HR.out, HT.out]), hb2⟩
        · have k4 : 15 < k := by omega
          clear hk1 h3
          go_enter Tryz.func41, Tryz.ntmps41
          go_wp2_with (go_at_call 6; (with_reducible refine HJ.out.mono ?_); rintro e w2 ⟨⟨R, hR0, hR, rfl⟩, hb2⟩; have HR := Lib.hid hR; clear hR)
          go_ret
          exact ⟨ret_str (by rw [str_app, str_app, HR.out, HT.out]), hb2⟩
end Go.Proofs.YtbjengfoaobdbaaGreatDoor.prnw
