/- The chapter's examples: what Of hands back at six texts. Condition: three of strconv's variables hold what the program's text lays. -/
import Derived.Test.YtgblgolkajdfbaaGreatDoorAwaA
namespace Go.Proofs.YtgblgolkajdfbaaGreatDoor.awaw
open Go.RowKit
open Go.Proofs.YtgblgolkajdfbaaGreatDoor.lexm
open Go.Proofs.YtgblgolkajdfbaaGreatDoor.lexw
open Go.Proofs.YtgblgolkajdfbaaGreatDoor.parw
open Go.Proofs.YtgblgolkajdfbaaGreatDoor.flow

def okTok (t : Tok) : Bool := t.kind != 2 || ([[49], [48], [50], [48, 46, 53], [49, 46, 53], [49, 46, 46, 50]] : List (List UInt8)).contains t.text
theorem decOk_of (B : Nat) (ts : List Tok) (h : ts.all okTok = true) : DecOk decE (Laid B) (ts.map toP) := by
  intro t ht hk w hw
  obtain ⟨u, hu, rfl⟩ := List.mem_map.1 ht
  have h1 := List.all_eq_true.1 h u hu
  unfold okTok at h1
  have h2 : u.kind = 2 := hk
  rw [h2] at h1
  simp at h1
  have he : isE (toP u).text := by
    unfold isE toP
    rcases h1 with h | h | h | h | h | h
    all_goals rw [h]
    all_goals simp
  exact dparse_e B _ he w hw
theorem of_ex (B : Nat) (s : ByteArray) (r : List PStmt × Int × Nat) (hs : s.size ≤ maxLen) (h1 : ((lexRes s.data.toList).1.all okTok && decide ((lexRes s.data.toList).1.length ≤ 1000)) = true) (h2 : parseRes decE ((lexRes s.data.toList).1.map toP) = r) (w : World) (hw : Laid B w) (hB : B ≤ w.heap.size) :
    Calls Tryz.prog 40 #[.string s] w (OfPost w r) := by
  simp only [Bool.and_eq_true, decide_eq_true_eq] at h1
  exact of_any decE (Laid B) B (Laid.stable B) s hs (lexRes s.data.toList).1 (by omega) (lexRes s.data.toList).2.1 (lexRes s.data.toList).2.2 rfl r h2 (decOk_of B _ h1.1) w hw hB

def res0 : List PStmt × Int × Nat := ([⟨⟨#[97]⟩, 0, 1, [⟨12, 4602678819172646912, ⟨#[]⟩⟩, ⟨16, 4607182418800017408, ⟨#[]⟩⟩, ⟨18, 0, ⟨#[]⟩⟩]⟩], 0, 0)
theorem of_0 (B : Nat) (w : World) (hw : Laid B w) (hB : B ≤ w.heap.size) : Calls Tryz.prog 40 #[.string ⟨#[97, 32, 61, 32, 108, 97, 109, 98, 101, 114, 116, 32, 48, 46, 53, 32, 49, 32, 48]⟩] w (OfPost w res0) :=
  of_ex B _ _ (by decide) (by decide +kernel) (by kernel_rfl) w hw hB
def res1 : List PStmt × Int × Nat := ([], 4, 171)
theorem of_1 (B : Nat) (w : World) (hw : Laid B w) (hB : B ≤ w.heap.size) : Calls Tryz.prog 40 #[.string ⟨#[97, 32, 61, 32, 103, 108, 97, 115, 115, 32, 49]⟩] w (OfPost w res1) :=
  of_ex B _ _ (by decide) (by decide +kernel) (by kernel_rfl) w hw hB
def res2 : List PStmt × Int × Nat := ([], 2, 170)
theorem of_2 (B : Nat) (w : World) (hw : Laid B w) (hB : B ≤ w.heap.size) : Calls Tryz.prog 40 #[.string ⟨#[97, 32, 108, 97, 109, 98, 101, 114, 116]⟩] w (OfPost w res2) :=
  of_ex B _ _ (by decide) (by decide +kernel) (by kernel_rfl) w hw hB
def res3 : List PStmt × Int × Nat := ([], 13, 170)
theorem of_3 (B : Nat) (w : World) (hw : Laid B w) (hB : B ≤ w.heap.size) : Calls Tryz.prog 40 #[.string ⟨#[97, 32, 61, 32, 109, 105, 120, 32, 48, 46, 53, 32, 98]⟩] w (OfPost w res3) :=
  of_ex B _ _ (by decide) (by decide +kernel) (by kernel_rfl) w hw hB
def res4 : List PStmt × Int × Nat := ([], 12, 160)
theorem of_4 (B : Nat) (w : World) (hw : Laid B w) (hB : B ≤ w.heap.size) : Calls Tryz.prog 40 #[.string ⟨#[97, 32, 61, 32, 112, 108, 97, 115, 116, 105, 99, 32, 49, 46, 46, 50, 32, 50]⟩] w (OfPost w res4) :=
  of_ex B _ _ (by decide) (by decide +kernel) (by kernel_rfl) w hw hB
def res5 : List PStmt × Int × Nat := ([], 19, 170)
theorem of_5 (B : Nat) (w : World) (hw : Laid B w) (hB : B ≤ w.heap.size) : Calls Tryz.prog 40 #[.string ⟨#[97, 32, 61, 32, 99, 111, 97, 116, 32, 49, 46, 53, 32, 49, 32, 49, 32, 49, 32, 49]⟩] w (OfPost w res5) :=
  of_ex B _ _ (by decide) (by decide +kernel) (by kernel_rfl) w hw hB

end Go.Proofs.YtgblgolkajdfbaaGreatDoor.awaw
