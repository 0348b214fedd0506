/- The walks of parse's words, Kind, Word, forms, and of slices.Index. Conditions: as each theorem states. -/
import Derived.Test.YtdmhebibnnemnaaDoorParA
namespace Go.Proofs.YtdmhebibnnemnaaDoor.parw
open Go.RowKit
open Go.Proofs.YtdmhebibnnemnaaDoor.lexw

def wd1 : ByteArray := ⟨#[108, 97, 109, 98, 101, 114, 116]⟩
def wd2 : ByteArray := ⟨#[111, 114, 101, 110]⟩
def wd3 : ByteArray := ⟨#[112, 108, 97, 115, 116, 105, 99]⟩
def wd4 : ByteArray := ⟨#[109, 101, 116, 97, 108]⟩
def wd5 : ByteArray := ⟨#[109, 105, 120]⟩
def wd6 : ByteArray := ⟨#[99, 111, 97, 116]⟩
def wordsL : List ByteArray := [⟨#[]⟩, wd1, wd2, wd3, wd4, wd5, wd6]

def idxS : List ByteArray → ByteArray → Nat → Int
  | [], _, _ => -1
  | a :: r, s, k => if s = a then k else idxS r s (k + 1)

theorem sbeq {s a : ByteArray} (h : ¬ s = a) : (s.toList == a.toList) = false := by
  rw [beq_eq_false_iff_ne]
  intro e
  apply h
  rw [ByteArray.toList_eq, ByteArray.toList_eq] at e
  obtain ⟨⟨s⟩⟩ := s
  obtain ⟨⟨a⟩⟩ := a
  simp only at e
  rw [e]
theorem sbeq_self (s : ByteArray) : (s.toList == s.toList) = true := by simp

theorem words_any (w : World) : Calls Tryd.prog 21 #[] w fun e w' => e = .returned (.slice (some ⟨w.heap.size, 0, none⟩) 7 7) ∧ w' = w.alloc (.cells (wordsL.map Value.string).toArray 9) := by
  go_enter Tryd.func21, Tryd.ntmps21
  go_wp2
  go_ret
  exact ⟨rfl, rfl⟩

set_option maxHeartbeats 1000000 in
theorem index_any (l : List ByteArray) (hl : l.length ≤ 1000) (g c : Nat) (s : ByteArray) (w : World) (hc : ∀ j (hj : j < l.length), w.cell? ⟨g, j, none⟩ = some (.string l[j])) :
    Calls Tryd.prog 20 #[.slice (some ⟨g, 0, none⟩) l.length c, .string s] w fun e w' => e = .returned (.int .i64 (idxS l s 0)) ∧ w' = w := by
  go_enter Tryd.func20, Tryd.ntmps20
  go_wp2_with fail
  go_loop [8] (fun i => ∃ k : Nat, k ≤ l.length ∧ i = .int .i64 k ∧ idxS l s 0 = idxS (l.drop k) s k) (fun i => l.length - (intOf i).toNat)
  case atStart => exact ⟨0, by omega, rfl, rfl⟩
  case round =>
    obtain ⟨k, hk, rfl, hx⟩ := hrel
    by_cases hkl : k < l.length
    · have ck := hc k hkl
      rw [List.drop_eq_getElem_cons hkl] at hx
      obtain ⟨a, ha⟩ : ∃ a, l[k] = a := ⟨_, rfl⟩
      rw [ha] at hx ck
      by_cases he : s = a
      · have hx' : idxS l s 0 = k := by rw [hx]; unfold idxS; rw [if_pos he]
        have HX := Lib.hid hx'
        subst he
        clear hx hx' hc
        go_wp2
        go_ret
        exact ⟨ret_int HX.out.symm, rfl⟩
      · have hx' : idxS l s 0 = idxS (l.drop (k + 1)) s (k + 1) := by rw [hx]; conv => { lhs; unfold idxS }; rw [if_neg he]
        have HX := Lib.hid hx'
        have hb := sbeq he
        clear hx hx' hc ha
        go_wp2
        go_round
        case rel => exact ⟨k + 1, by omega, by go_num, HX.out⟩
        case measure => simp [intOf]; omega
    · obtain rfl : k = l.length := by omega
      have hx' : idxS l s 0 = -1 := by rw [hx, List.drop_length]; rfl
      have HX := Lib.hid hx'
      clear hx hx' hc
      go_wp2
      go_ret
      exact ⟨ret_int HX.out.symm, rfl⟩

def kindF (s : ByteArray) : Nat := if s = wd1 then 1 else if s = wd2 then 2 else if s = wd3 then 3 else if s = wd4 then 4 else if s = wd5 then 5 else if s = wd6 then 6 else 0
theorem kind_idx (s : ByteArray) : IntKind.u8.wrap (max (idxS wordsL s 0) 0) = kindF s := by
  by_cases h0 : s = ⟨#[]⟩
  · subst h0; decide +kernel
  · unfold kindF wordsL
    simp only [idxS]
    rw [if_neg h0]
    repeat' split
    all_goals rfl
theorem kindF_le (s : ByteArray) : kindF s ≤ 6 := by
  unfold kindF
  repeat' split
  all_goals omega

theorem words_cells (w : World) : ∀ j (hj : j < wordsL.length), (w.alloc (.cells (wordsL.map Value.string).toArray 9)).cell? ⟨w.heap.size, j, none⟩ = some (.string wordsL[j]) := by
  intro j hj
  rw [cell_of_row _ w.heap.size j _ _ _ (heap_alloc_new w _)]
  simp [hj]

theorem kind_any (s : ByteArray) (w : World) : Calls Tryd.prog 12 #[.string s] w fun e w' => e = .returned (.int .u8 (kindF s)) ∧ w' = w.alloc (.cells (wordsL.map Value.string).toArray 9) := by
  have hk := kind_idx s
  have hk1 : idxS wordsL s 0 < 0 → ((kindF s : Nat) : Int) = 0 := fun h => by rw [← hk, Int.max_eq_right (by omega)]; rfl
  have hk2 : 0 ≤ idxS wordsL s 0 → ((kindF s : Nat) : Int) = idxS wordsL s 0 % 256 := fun h => by rw [← hk, Int.max_eq_left (by omega)]; rfl
  have H1 := Lib.hid hk1
  have H2 := Lib.hid hk2
  clear hk hk1 hk2
  go_enter Tryd.func12, Tryd.ntmps12
  go_wp2_with (first | (go_at_call 21; refine (words_any _).mono ?_; rintro e wx ⟨rfl, rfl⟩) | (go_at_call 20; refine (index_any wordsL (by decide) _ 7 s _ (words_cells w)).mono ?_; rintro e wy ⟨rfl, rfl⟩))
  all_goals go_ret
  · exact ⟨ret_int (H1.out (by assumption)).symm, rfl⟩
  · exact ⟨ret_int (H2.out (by assumption)).symm, rfl⟩

def formsV : Value := .agg #[.string ⟨#[]⟩, .string ⟨#[110, 110, 110]⟩, .string ⟨#[110, 110, 110, 110]⟩, .string ⟨#[110, 110]⟩, .string ⟨#[110, 110, 110, 110, 110, 110, 110]⟩, .string ⟨#[110, 119, 119]⟩, .string ⟨#[110, 110, 110, 110, 119]⟩]
theorem forms_any (w : World) : Calls Tryd.prog 14 #[] w fun e w' => e = .returned formsV ∧ Below w.heap.size w w' := by
  go_enter Tryd.func14, Tryd.ntmps14
  go_wp2
  refine bodyPost_ret (results_cell_row (ty := 51) (p := 0) rfl _ _ w.heap.size _ _ _ _ rfl (heap_alloc_new w _) Tryd.underlying51 rfl (by kernel_rfl)) rfl ?_
  exact ⟨rfl, (Below.refl _ w).alloc (Nat.le_refl _) _⟩

end Go.Proofs.YtdmhebibnnemnaaDoor.parw
