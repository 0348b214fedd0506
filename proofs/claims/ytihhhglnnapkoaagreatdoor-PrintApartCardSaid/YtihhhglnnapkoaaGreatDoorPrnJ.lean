/- FormatFloat for 'e', of a positive float. No conditions but those stated. -/
import Derived.Test.YtihhhglnnapkoaaGreatDoorPrnI
namespace Go.Proofs.YtihhhglnnapkoaaGreatDoor.prnw
open Go.RowKit
open Go.Shelf
open Go.Sort
open Go.Proofs.YtihhhglnnapkoaaGreatDoor.nodew
open Go.Proofs.YtihhhglnnapkoaaGreatDoor.chkw

/-- a list of bytes as a string -/
def strV (l : List UInt8) : Value := .string ⟨l.toArray⟩
theorem buf_string {w : World} {base g cap : Nat} {l : List UInt8} (h : Buf w base g cap l) : (convert 35 9 (.slice (some ⟨g, 0, none⟩) l.length cap)).run Tryz.prog w = .ok (.string ⟨l.toArray⟩) w := by
  refine run_convert_bytes_back w 35 9 5 ⟨g, 0, none⟩ cap l (by kernel_rfl) (by kernel_rfl) (by kernel_rfl) fun j hj => ?_
  refine World.ownsRow.cells h rfl j _ ?_
  rw [List.getElem?_map, List.getElem?_eq_getElem hj]
  rfl
theorem mk_u8 (w : World) : (Instr.makeSlice 35 (.int .i64 0) (.int .i64 24)).run Tryz.prog w = .ok (.slice (some ⟨w.heap.size, 0, none⟩) 0 24) (w.alloc (.cells (List.replicate 24 (bV 0)).toArray 5)) := by
  obtain ⟨i, hi, hz, h1, h2⟩ := info_parts u8Info
  have := run_makeSlice (P := Tryz.prog) w 35 5 i _ Tryz.underlying35 hi hz .i64 .i64 0 24 (by omega) (by omega) (by rw [h1]; omega) (by rw [h2]; omega) (by omega)
  rw [this, h1]
  have e : madeCells (Value.int IntKind.u8 0).cells (Int.toNat 24 * 1) = (List.replicate 24 (bV 0)).toArray := by kernel_rfl
  rw [e]
  rfl
/-- returns this text, and what lay below is as it was -/
def TxPost (w : World) (t : List UInt8) (x : Ending) (w' : World) : Prop := x = .returned (strV t) ∧ Below w.heap.size w w'
set_option maxRecDepth 100000 in
set_option maxHeartbeats 1000000 in
theorem ifmt_any (hi lo : Nat → Nat) (X : Nat) (hX0 : 0 < X) (hX : X < 9218868437227405312) (w : World) (hT : Tabs hi lo w) (hTn : 8 < w.heap.size) :
    Calls Tryz.prog 50 #[.float .f64 X, .int .u8 101, .int .i64 (-1), .int .i64 64] w (TxPost w (ftT hi lo X)) := by
  obtain ⟨W1, hW1⟩ : ∃ W1, W1 = w.alloc (.cells (List.replicate 24 (bV 0)).toArray 5) := ⟨_, rfl⟩
  have hmk := mk_u8 w
  rw [← hW1] at hmk
  have hb : Buf W1 w.heap.size w.heap.size 24 [] := by rw [hW1]; exact World.ownsRow_made w _ 24 (Nat.le_refl _) (by unfold maxLen; omega) (by simp)
  have hB1 : Below w.heap.size w W1 := by rw [hW1]; exact (Below.refl _ _).alloc (Nat.le_refl _) _
  have hT1 : Tabs hi lo W1 := by
    refine ⟨fun i h6 => ?_, hT.2.1, tab_below hT.2.2 hB1 (by omega)⟩
    obtain ⟨a, b, c, d⟩ := hT.1 i h6
    exact ⟨a, b, (hB1.cell hTn).trans c, (hB1.cell hTn).trans d⟩
  have C := Lib.hid (ftoa_any hi lo X hX0 hX w.heap.size w.heap.size 24 W1 hT1 hTn hb hB1.size)
  have HM := Lib.hid hmk
  have HB := Lib.hid hB1
  clear hW1 hmk hb hB1 hT1 hT hTn hX0 hX
  go_enter Tryz.func50, Tryz.ntmps50
  have hmk : (Instr.makeSlice 35 (.int .i64 0) (.int .i64 (max 3 24))).run Tryz.prog w = .ok (.slice (some ⟨w.heap.size, 0, none⟩) 0 24) W1 := HM.out
  go_wp2_with (go_at_call 62; (with_reducible refine C.out.mono ?_); rintro e w2 ⟨g, c, rfl, hb2, hbl⟩; have hcv := buf_string hb2)
  go_ret
  exact ⟨rfl, HB.out.trans hbl⟩
theorem fmt_any (hi lo : Nat → Nat) (X : Nat) (hX0 : 0 < X) (hX : X < 9218868437227405312) (w : World) (hT : Tabs hi lo w) (hTn : 8 < w.heap.size) :
    Calls Tryz.prog 29 #[.float .f64 X, .int .u8 101, .int .i64 (-1), .int .i64 64] w (TxPost w (ftT hi lo X)) := by
  have C := Lib.hid (ifmt_any hi lo X hX0 hX w hT hTn)
  clear hT hTn hX0 hX
  go_enter Tryz.func29, Tryz.ntmps29
  go_wp2_with (go_at_call 50; (with_reducible refine C.out.mono ?_); rintro e w2 ⟨rfl, hb2⟩)
  go_ret
  exact ⟨rfl, hb2⟩
end Go.Proofs.YtihhhglnnapkoaaGreatDoor.prnw
