/- What burnishlaw18.of hands back at the chapter's six texts. Condition: three of strconv's variables hold what the program's text lays. -/
import Derived.Test.YtgblgolkajdfbaaGreatDoorChkC
import Derived.Test.YtgblgolkajdfbaaGreatDoorAwaB
import Derived.Test.YtgblgolkajdfbaaGreatDoorSam
namespace Go.Proofs.YtgblgolkajdfbaaGreatDoor.chkw
open Go.RowKit
open Go.Proofs.YtgblgolkajdfbaaGreatDoor.lexm
open Go.Proofs.YtgblgolkajdfbaaGreatDoor.lexw
open Go.Proofs.YtgblgolkajdfbaaGreatDoor.parw
open Go.Proofs.YtgblgolkajdfbaaGreatDoor.flow
open Go.Proofs.YtgblgolkajdfbaaGreatDoor.awaw
open Go.Proofs.YtgblgolkajdfbaaGreatDoor.nodew
open Go.Proofs.YtgblgolkajdfbaaGreatDoor.qt

def stOk (l : List PStmt) : Bool := decide (l.length ≤ 1000) && l.all fun s => decide (s.args.length ≤ 1000) && decide (s.kind < 256)
theorem of18 (B : Nat) (s : ByteArray) (r : List PStmt × Int × Nat) (x : List Nd × Int × Nat) (hs : s.size ≤ maxLen) (h1 : ((lexRes s.data.toList).1.all okTok && decide ((lexRes s.data.toList).1.length ≤ 1000)) = true) (h2 : parseRes decE ((lexRes s.data.toList).1.map toP) = r)
    (h3 : stOk r.1 = true) (h4 : checkS r.1 = x) (w : World) (hw : Laid B w) (hB : B ≤ w.heap.size) :
    Calls Tryz.prog 20 #[.string s] w (CkPost w x) := by
  unfold stOk at h3
  simp only [Bool.and_eq_true, decide_eq_true_eq, List.all_eq_true] at h3
  have hof := of_ex B s r hs h1 h2 w hw hB
  have HX := Lib.hid h4
  have H3 := Lib.hid h3
  clear h1 h2 h3 h4
  go_enter Tryz.func20, Tryz.ntmps20
  go_wp2_with fail
  refine hof.mono ?_
  rintro e w1 ⟨o, rfl, -, ⟨base, hrow⟩, hB1⟩
  have hck := check_any w1.heap.size o r.1 (fun s hs => (H3.out.2 s hs).2) w1 (SR.of_row hrow) (Nat.le_refl _)
  rw [HX.out] at hck
  have hs1 := hB1.size
  have HB1 := Lib.hid hB1
  clear hrow hof hB1
  go_wp2_with fail
  refine hck.mono ?_
  rintro e w2 ⟨q, rfl, hq, hB2⟩
  go_wp2_with fail
  go_ret3
  exact ⟨q, rfl, nodew.own_le hq hs1, HB1.out.trans (hB2.mono hs1)⟩

def bhalf : Nat := 4602678819172646912
def b15 : Nat := 4609434218613702656
def wantL : List Nd := [⟨1, [4602678819172646912, 4607182418800017408, 0, 0, 0, 0, 0, 0, 0, 0, 0, 0, 0, 0, 0, 0], 0, 0⟩, ⟨6, [0, 0, 0, 4607182418800017408, 4607182418800017408, 4607182418800017408, 0, 0, 0, 0, 0, 0, 0, 0, 4609434218613702656, 0], 0, 0⟩]
theorem of18_0 (B : Nat) (w : World) (hw : Laid B w) (hB : B ≤ w.heap.size) :
    Calls Tryz.prog 20 #[.string ⟨#[97, 32, 61, 32, 108, 97, 109, 98, 101, 114, 116, 32, 48, 46, 53, 32, 49, 32, 48, 10, 98, 32, 61, 32, 99, 111, 97, 116, 32, 49, 46, 53, 32, 49, 32, 49, 32, 49, 32, 97]⟩] w (CkPost w (wantL, 0, 0)) :=
  of18 B _ _ _ (by decide) (by decide +kernel) rfl (by kernel_rfl) (by kernel_rfl) w hw hB
theorem of18_1 (B : Nat) (w : World) (hw : Laid B w) (hB : B ≤ w.heap.size) :
    Calls Tryz.prog 20 #[.string ⟨#[97, 32, 61, 32, 108, 97, 109, 98, 101, 114, 116, 32, 50, 32, 49, 32, 48]⟩] w (CkPost w ([], 12, 184)) :=
  of18 B _ _ _ (by decide) (by decide +kernel) rfl (by kernel_rfl) (by kernel_rfl) w hw hB
theorem of18_2 (B : Nat) (w : World) (hw : Laid B w) (hB : B ≤ w.heap.size) :
    Calls Tryz.prog 20 #[.string ⟨#[97, 32, 61, 32, 108, 97, 109, 98, 101, 114, 116, 32, 49, 32, 49, 32, 48, 10, 98, 32, 61, 32, 109, 105, 120, 32, 48, 46, 53, 32, 97, 32, 99]⟩] w (CkPost w ([], 32, 183)) :=
  of18 B _ _ _ (by decide) (by decide +kernel) rfl (by kernel_rfl) (by kernel_rfl) w hw hB
theorem of18_3 (B : Nat) (w : World) (hw : Laid B w) (hB : B ≤ w.heap.size) :
    Calls Tryz.prog 20 #[.string ⟨#[97, 32, 61, 32, 108, 97, 109, 98, 101, 114, 116, 32, 49, 32, 49, 32, 48, 10, 97, 32, 61, 32, 108, 97, 109, 98, 101, 114, 116, 32, 49, 32, 49, 32, 48]⟩] w (CkPost w ([], 18, 182)) :=
  of18 B _ _ _ (by decide) (by decide +kernel) rfl (by kernel_rfl) (by kernel_rfl) w hw hB
theorem of18_4 (B : Nat) (w : World) (hw : Laid B w) (hB : B ≤ w.heap.size) :
    Calls Tryz.prog 20 #[.string ⟨#[109, 105, 120, 32, 61, 32, 108, 97, 109, 98, 101, 114, 116, 32, 49, 32, 49, 32, 48]⟩] w (CkPost w ([], 0, 182)) :=
  of18 B _ _ _ (by decide) (by decide +kernel) rfl (by kernel_rfl) (by kernel_rfl) w hw hB
theorem of18_5 (B : Nat) (w : World) (hw : Laid B w) (hB : B ≤ w.heap.size) :
    Calls Tryz.prog 20 #[.string ⟨#[]⟩] w (CkPost w ([], 0, 180)) :=
  of18 B _ _ _ (by decide) (by decide +kernel) rfl (by kernel_rfl) (by kernel_rfl) w hw hB

end Go.Proofs.YtgblgolkajdfbaaGreatDoor.chkw
