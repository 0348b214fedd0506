/- The plain mathematics of LexLong: blanks, and one word or number behind them. -/
import Derived.Test.YtekhdocejahboaaLexChunks
import Derived.Lib.Repeat
namespace Go.Proofs.Ytekhdocejahboaa.lexm

/-- m times a byte -/
def rep (m : Nat) (c : UInt8) : List UInt8 := List.replicate m c
/-- .. as a string -/
def repS (m : Nat) (c : UInt8) : ByteArray := ⟨(rep m c).toArray⟩
theorem rep_len (m : Nat) (c : UInt8) : (rep m c).length = m := List.length_replicate
theorem repS_size (m : Nat) (c : UInt8) : (repS m c).size = m := by
  show (rep m c).toArray.size = m
  rw [List.size_toArray, rep_len]
theorem repS_data (m : Nat) (c : UInt8) : (repS m c).data.toList = rep m c := rfl
theorem repS_add (m n : Nat) (c d : UInt8) : (repS m c ++ repS n d).data.toList = rep m c ++ rep n d := by
  rw [ByteArray.data_append, Array.toList_append, repS_data, repS_data]
theorem repeatL_rep (m : Nat) (c : UInt8) : Lib.repeatL [c] m = rep m c := by
  unfold rep
  induction m with
  | zero => rfl
  | succ m ih => simp [Lib.repeatL, ih, List.replicate_succ]

/-- n blanks as chunks -/
def blk (n : Nat) : List (Nat × List UInt8) := List.replicate n (0, [32])
theorem blk_flat (n : Nat) : flat (blk n) = rep n 32 := by
  unfold blk rep
  induction n with
  | zero => rfl
  | succ n ih => simp [List.replicate_succ, flat, ih]
theorem blk_ok (n : Nat) (R : List UInt8) : OkC (blk n) R := by
  unfold blk
  induction n with
  | zero => trivial
  | succ n ih =>
    rw [List.replicate_succ]
    exact ⟨by simp, rfl, ih⟩
theorem blk_toks (n i : Nat) : toksC (blk n) i = [] := by
  unfold blk
  induction n generalizing i with
  | zero => rfl
  | succ n ih => simp only [List.replicate_succ, toksC, if_true]; exact ih _
theorem blk_last (n kl : Nat) : lastC (blk n) kl = kl := by
  unfold blk
  induction n generalizing kl with
  | zero => rfl
  | succ n ih => simp only [List.replicate_succ, lastC, if_true]; exact ih _

theorem law_word (n m k : Nat) (c : UInt8) (hm : 0 < m) (hk : k ≠ 0) (h4 : k ≠ 4) (hf : firstL (rep m c) = (k, m, true)) (hl : n + m ≤ 1048576) :
    lexRes (rep n 32 ++ rep m c) = ([⟨k, n, rep m c⟩, ⟨4, n + m, []⟩], 0, 0) := by
  have hne : rep m c ≠ [] := by
    intro e
    have := rep_len m c
    rw [e] at this
    simp at this
    omega
  have hx := lexRes_chunks (blk n ++ [(k, rep m c)]) ((OkC_app _ _ _).2 ⟨blk_ok n _, hne, by simpa [flat, rep_len] using hf, trivial⟩) (by rw [flat_app, blk_flat]; simp [flat, rep_len]; omega)
  rw [flat_app, blk_flat, toksC_app, blk_toks, lastC_app, blk_last, blk_flat, rep_len] at hx
  simpa [flat, toksC, lastC, hk, h4, rep_len] using hx

theorem law_over (n m k : Nat) (c : UInt8) (hm : 0 < m) (hf : firstL (rep m c) = (k, m, false)) (hl : n + m ≤ 1048576) :
    lexRes (rep n 32 ++ rep m c) = ([], n, 150) := by
  have hne : rep m c ≠ [] := by
    intro e
    have := rep_len m c
    rw [e] at this
    simp at this
    omega
  have hx := lexT_chunks (blk n) (rep m c) 0 4 (blk_ok n _)
  rw [blk_flat, blk_toks, lexT_bad hne hf, rep_len] at hx
  unfold lexRes
  rw [if_neg (by rw [List.length_append, rep_len, rep_len]; omega), hx]
  simp [errOf]

theorem law_blanks (n : Nat) (hl : n ≤ 1048576) : lexRes (rep n 32) = ([], 0, 0) := by
  have hx := lexRes_chunks (blk n) (blk_ok n _) (by rw [blk_flat, rep_len]; exact hl)
  rw [blk_flat, blk_toks, blk_last] at hx
  simpa using hx
theorem law_great (n : Nat) (c : UInt8) (hl : 1048576 < n) : lexRes (rep n c) = ([], 1048576, 151) := by
  unfold lexRes
  rw [if_pos (by rw [rep_len]; exact hl)]

end Go.Proofs.Ytekhdocejahboaa.lexm
