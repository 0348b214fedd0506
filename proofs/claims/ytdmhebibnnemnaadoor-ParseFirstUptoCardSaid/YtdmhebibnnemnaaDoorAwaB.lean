/- The chapter's examples: what Of hands back at six texts. Condition: three of strconv's variables hold what the program's text lays. -/
import Derived.Test.YtdmhebibnnemnaaDoorAwaA
namespace Go.Proofs.YtdmhebibnnemnaaDoor.awaw
open Go.RowKit
open Go.Proofs.YtdmhebibnnemnaaDoor.lexm
open Go.Proofs.YtdmhebibnnemnaaDoor.lexw
open Go.Proofs.YtdmhebibnnemnaaDoor.parw
open Go.Proofs.YtdmhebibnnemnaaDoor.flow

theorem of_ex (B : Nat) (s : ByteArray) (r : List PStmt × Int × Nat) (hs : s.size ≤ maxLen) (h1 : decide ((lexRes s.data.toList).1.length ≤ 1000) = true) (h2 : parseRes decE ((lexRes s.data.toList).1.map toP) = r) (w : World) (hw : Laid B w) (hB : B ≤ w.heap.size) :
    Calls Tryd.prog 7 #[.string s] w (OfPost w r) := by
  have h1 := of_decide_eq_true h1
  exact of_any decE (Laid B) B (Laid.stable B) s hs (lexRes s.data.toList).1 (by omega) (lexRes s.data.toList).2.1 (lexRes s.data.toList).2.2 rfl r h2 (dec_ok B _) w hw hB

def res0 : List PStmt × Int × Nat := ([⟨⟨#[97]⟩, 0, 1, [⟨12, 4602678819172646912, ⟨#[]⟩⟩, ⟨16, 4607182418800017408, ⟨#[]⟩⟩, ⟨18, 0, ⟨#[]⟩⟩]⟩], 0, 0)
theorem of_0 (B : Nat) (w : World) (hw : Laid B w) (hB : B ≤ w.heap.size) : Calls Tryd.prog 7 #[.string ⟨#[97, 32, 61, 32, 108, 97, 109, 98, 101, 114, 116, 32, 48, 46, 53, 32, 49, 32, 48]⟩] w (OfPost w res0) :=
  of_ex B _ _ (by decide) (by decide +kernel) (by kernel_rfl) w hw hB
def res1 : List PStmt × Int × Nat := ([], 4, 171)
theorem of_1 (B : Nat) (w : World) (hw : Laid B w) (hB : B ≤ w.heap.size) : Calls Tryd.prog 7 #[.string ⟨#[97, 32, 61, 32, 103, 108, 97, 115, 115, 32, 49]⟩] w (OfPost w res1) :=
  of_ex B _ _ (by decide) (by decide +kernel) (by kernel_rfl) w hw hB
def res2 : List PStmt × Int × Nat := ([], 2, 170)
theorem of_2 (B : Nat) (w : World) (hw : Laid B w) (hB : B ≤ w.heap.size) : Calls Tryd.prog 7 #[.string ⟨#[97, 32, 108, 97, 109, 98, 101, 114, 116]⟩] w (OfPost w res2) :=
  of_ex B _ _ (by decide) (by decide +kernel) (by kernel_rfl) w hw hB
def res3 : List PStmt × Int × Nat := ([], 13, 170)
theorem of_3 (B : Nat) (w : World) (hw : Laid B w) (hB : B ≤ w.heap.size) : Calls Tryd.prog 7 #[.string ⟨#[97, 32, 61, 32, 109, 105, 120, 32, 48, 46, 53, 32, 98]⟩] w (OfPost w res3) :=
  of_ex B _ _ (by decide) (by decide +kernel) (by kernel_rfl) w hw hB
def res4 : List PStmt × Int × Nat := ([], 12, 160)
theorem of_4 (B : Nat) (w : World) (hw : Laid B w) (hB : B ≤ w.heap.size) : Calls Tryd.prog 7 #[.string ⟨#[97, 32, 61, 32, 112, 108, 97, 115, 116, 105, 99, 32, 49, 46, 46, 50, 32, 50]⟩] w (OfPost w res4) :=
  of_ex B _ _ (by decide) (by decide +kernel) (by kernel_rfl) w hw hB
def res5 : List PStmt × Int × Nat := ([], 19, 170)
theorem of_5 (B : Nat) (w : World) (hw : Laid B w) (hB : B ≤ w.heap.size) : Calls Tryd.prog 7 #[.string ⟨#[97, 32, 61, 32, 99, 111, 97, 116, 32, 49, 46, 53, 32, 49, 32, 49, 32, 49, 32, 49]⟩] w (OfPost w res5) :=
  of_ex B _ _ (by decide) (by decide +kernel) (by kernel_rfl) w hw hB

end Go.Proofs.YtdmhebibnnemnaaDoor.awaw
