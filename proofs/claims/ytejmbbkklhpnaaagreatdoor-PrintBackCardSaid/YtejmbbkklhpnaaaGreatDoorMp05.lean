/- The walks of lex's small functions: letter, digit, the closures, run, first. No conditions. -/
import Derived.Test.YtejmbbkklhpnaaaGreatDoorMp04
import Derived.Test.YtejmbbkklhpnaaaGreatDoorProg
import Derived.WalkKit
import Derived.WalkLawsBesides
import Derived.WalkSpells
import Derived.Lib.Hide
import Derived.Outline
namespace Go.Proofs.YtejmbbkklhpnaaaGreatDoor.lexw
open Go.RowKit
open Go.Proofs.YtejmbbkklhpnaaaGreatDoor.lexm

theorem ret_bool {a b : Bool} (h : a = b) : Ending.returned (.bool a) = .returned (.bool b) := by rw [h]
theorem ret_int {k : IntKind} {a b : Int} (h : a = b) : Ending.returned (.int k a) = .returned (.int k b) := by rw [h]

theorem or32 : ∀ n : Fin 256, (ltrI n.val = (decide ((n.val : Int) = 95) || (decide (97 ≤ bits BinOp.or IntKind.u8 n.val 32) && decide (bits BinOp.or IntKind.u8 n.val 32 ≤ 122)))) := by decide +kernel
theorem or32_int (c : Int) (h0 : 0 ≤ c) (h1 : c ≤ 255) : ltrI c = (decide (c = 95) || (decide (97 ≤ bits BinOp.or IntKind.u8 c 32) && decide (bits BinOp.or IntKind.u8 c 32 ≤ 122))) := by
  have := or32 ⟨c.toNat, by omega⟩
  simp only [Int.toNat_of_nonneg h0] at this
  exact this

theorem letter_any (c : Int) (h0 : 0 ≤ c) (h1 : c ≤ 255) (w : World) : Calls Tryz.prog 117 #[.int .u8 c] w fun e w' => e = .returned (.bool (ltrI c)) ∧ w = w' := by
  have H := Lib.hid (or32_int c h0 h1)
  go_enter Tryz.func117, Tryz.ntmps117
  go_wp2
  all_goals go_ret
  · have h : c = 95 := by assumption
    exact ⟨ret_bool (by rw [H.out, h]; rfl), rfl⟩
  · have h : ¬ c = 95 := by assumption
    have h2 : 97 ≤ bits BinOp.or IntKind.u8 c 32 := by assumption
    exact ⟨ret_bool (by rw [H.out]; simp [h, h2]), rfl⟩
  · have h : ¬ c = 95 := by assumption
    have h2 : bits BinOp.or IntKind.u8 c 32 < 97 := by assumption
    have h3 : ¬ 97 ≤ bits BinOp.or IntKind.u8 c 32 := by omega
    exact ⟨ret_bool (by rw [H.out]; simp [h, h3]), rfl⟩

theorem digit_any (c : Int) (w : World) : Calls Tryz.prog 118 #[.int .u8 c] w fun e w' => e = .returned (.bool (digI c)) ∧ w = w' := by
  go_enter Tryz.func118, Tryz.ntmps118
  go_wp2
  all_goals go_ret
  · have h : 48 ≤ c := by assumption
    exact ⟨ret_bool (by simp [digI, h]), rfl⟩
  · have h : ¬ 48 ≤ c := by omega
    exact ⟨ret_bool (by simp [digI, h]), rfl⟩

theorem name_any (c : Int) (h0 : 0 ≤ c) (h1 : c ≤ 255) (w : World) : Calls Tryz.prog 116 #[.int .u8 c] w fun e w' => e = .returned (.bool (namI c)) ∧ w = w' := by
  have hn : namI c = (ltrI c || digI c) := rfl
  cases hl : ltrI c
  all_goals
    have Hl := Lib.hid hl
    have Hn := Lib.hid hn
    clear hl hn
    go_enter Tryz.func116, Tryz.ntmps116
    go_wp2_with (first | (go_at_call 117; refine (letter_any _ h0 h1 _).mono ?_; rw [Hl.out]; rintro e w' ⟨rfl, rfl⟩) | (go_at_call 118; refine (digit_any _ _).mono ?_; rintro e w' ⟨rfl, rfl⟩))
    go_ret
    exact ⟨ret_bool (by rw [Hn.out, Hl.out]; rfl), rfl⟩

theorem rem_any (c : Int) (w : World) : Calls Tryz.prog 122 #[.int .u8 c] w fun e w' => e = .returned (.bool (remI c)) ∧ w = w' := by
  go_enter Tryz.func122, Tryz.ntmps122
  go_wp2
  go_ret
  exact ⟨ret_bool (by simp [remI, bne]), rfl⟩

-- RUN
theorem idx_num (c : Int) (h0 : 0 ≤ c) (h1 : c ≤ 255) : decide (0 ≤ Lib.indexByte [45, 43, 46] c.toNat.toUInt8) = (c == 45 || c == 43 || c == 46) := by
  have h : ∀ n : Fin 256, decide (0 ≤ Lib.indexByte [45, 43, 46] n.val.toUInt8) = ((n.val : Int) == 45 || (n.val : Int) == 43 || (n.val : Int) == 46) := by decide +kernel
  have := h ⟨c.toNat, by omega⟩
  simp only [Int.toNat_of_nonneg h0] at this
  exact this

theorem number_any (c : Int) (h0 : 0 ≤ c) (h1 : c ≤ 255) (w : World) (b : Nat) (hc : w.cell? ⟨b, 0, none⟩ = some (.func (.func 116) #[] #[])) :
    Calls Tryz.prog 119 #[.int .u8 c, .pointer (some ⟨b, 0, none⟩)] w fun e w' => e = .returned (.bool (numI c)) ∧ w = w' := by
  have hi := idx_num c h0 h1
  have hn : numI c = ((!(c == 95) && namI c) || (c == 45 || c == 43 || c == 46)) := by simp [numI, Bool.or_assoc]
  rw [← hi] at hn
  clear hi
  have HN := Lib.hid hn
  clear hn
  by_cases h95 : c = 95
  · subst h95
    go_enter Tryz.func119, Tryz.ntmps119
    go_wp2_with (first | (go_at_call 120; refine (Tryz.strings_IndexByte _ _ _).mono ?_; rintro e w' ⟨rfl, rfl⟩))
    go_ret
    exact ⟨ret_bool (by decide +kernel), rfl⟩
  · have h95' : (c == 95) = false := by simpa using h95
    have h95'' : (c != 95) = true := by simpa using h95
    cases hl : namI c
    all_goals
      have Hl := Lib.hid hl
      clear hl
      go_enter Tryz.func119, Tryz.ntmps119
      go_wp2_with (first | (go_at_call 116; refine (name_any _ h0 h1 _).mono ?_; rw [Hl.out]; rintro e w' ⟨rfl, rfl⟩) | (go_at_call 120; refine (Tryz.strings_IndexByte _ _ _).mono ?_; rintro e w' ⟨rfl, rfl⟩))
      go_ret
      exact ⟨ret_bool (by rw [HN.out, Hl.out, h95']; rfl), rfl⟩

theorem drop_cons (s : ByteArray) (k : Nat) (h : k < s.size) : s.data.toList.drop k = s[k] :: s.data.toList.drop (k + 1) := by
  rw [List.drop_eq_getElem_cons (by simpa using h)]; rfl
theorem drop_end (s : ByteArray) (k : Nat) (h : s.size ≤ k) : s.data.toList.drop k = [] := List.drop_eq_nil_of_le (by simpa using h)
theorem byte_le (s : ByteArray) (k : Nat) (h : k < s.size) : (s[k].toNat : Int) ≤ 255 := by have := UInt8.toNat_lt s[k]; omega

set_option maxHeartbeats 400000 in
theorem run_nam (s : ByteArray) (w : World) (hs : s.size ≤ maxLen) :
    Calls Tryz.prog 121 #[.string s, .func (.func 116) #[] #[]] w fun e w' => e = .returned (.int .i64 (runL namI s.data.toList)) ∧ w = w' := by
  unfold maxLen at hs
  go_enter Tryz.func121, Tryz.ntmps121
  go_wp2
  go_loop [5] (fun i => ∃ k : Nat, k ≤ s.size ∧ i = .int .i64 k ∧ runL namI s.data.toList = runL namI (s.data.toList.drop k) + k) (fun i => s.size - (intOf i).toNat)
  case atStart => exact ⟨0, Nat.zero_le _, rfl, rfl⟩
  case round =>
    obtain ⟨k, hk, rfl, hr⟩ := hrel
    have HR := Lib.hid hr
    clear hr
    by_cases hlt : k < s.size
    · have h255 := byte_le s k hlt
      cases hp : namI s[k].toNat
      · have h2 := runL_neg (p := namI) (r := s.data.toList.drop (k + 1)) hp
        rw [← drop_cons s k hlt] at h2
        have H2 := Lib.hid h2
        have HP := Lib.hid hp
        clear h2 hp
        go_wp2_with (first | (go_at_call 116; refine (name_any _ (by omega) (by omega) _).mono ?_; rw [HP.out]; rintro e w' ⟨rfl, rfl⟩))
        go_ret
        exact ⟨ret_int (by rw [HR.out, H2.out]; simp), rfl⟩
      · have h2 := runL_pos (p := namI) (r := s.data.toList.drop (k + 1)) hp
        rw [← drop_cons s k hlt] at h2
        have H2 := Lib.hid h2
        have HP := Lib.hid hp
        clear h2 hp
        go_wp2_with (first | (go_at_call 116; refine (name_any _ (by omega) (by omega) _).mono ?_; rw [HP.out]; rintro e w' ⟨rfl, rfl⟩))
        go_round
        case rel => exact ⟨k + 1, by omega, by go_num, by rw [HR.out, H2.out]; omega⟩
        case measure => simp [intOf]; omega
    · have h2 := drop_end s k (by omega)
      have H2 := Lib.hid h2
      clear h2
      go_wp2
      go_ret
      exact ⟨ret_int (by rw [HR.out, H2.out]; simp [runL]), rfl⟩

set_option maxHeartbeats 400000 in
theorem run_num (s : ByteArray) (w : World) (hs : s.size ≤ maxLen) (b : Nat) (hc : w.cell? ⟨b, 0, none⟩ = some (.func (.func 116) #[] #[])) :
    Calls Tryz.prog 121 #[.string s, .func (.func 119) #[] #[.pointer (some ⟨b, 0, none⟩)]] w fun e w' => e = .returned (.int .i64 (runL numI s.data.toList)) ∧ w = w' := by
  unfold maxLen at hs
  go_enter Tryz.func121, Tryz.ntmps121
  go_wp2
  go_loop [5] (fun i => ∃ k : Nat, k ≤ s.size ∧ i = .int .i64 k ∧ runL numI s.data.toList = runL numI (s.data.toList.drop k) + k) (fun i => s.size - (intOf i).toNat)
  case atStart => exact ⟨0, Nat.zero_le _, rfl, rfl⟩
  case round =>
    obtain ⟨k, hk, rfl, hr⟩ := hrel
    have HR := Lib.hid hr
    clear hr
    by_cases hlt : k < s.size
    · have h255 := byte_le s k hlt
      cases hp : numI s[k].toNat
      · have h2 := runL_neg (p := numI) (r := s.data.toList.drop (k + 1)) hp
        rw [← drop_cons s k hlt] at h2
        have H2 := Lib.hid h2
        have HP := Lib.hid hp
        clear h2 hp
        go_wp2_with (first | (go_at_call 119; refine (number_any _ (by omega) (by omega) _ b hc).mono ?_; rw [HP.out]; rintro e w' ⟨rfl, rfl⟩))
        go_ret
        exact ⟨ret_int (by rw [HR.out, H2.out]; simp), rfl⟩
      · have h2 := runL_pos (p := numI) (r := s.data.toList.drop (k + 1)) hp
        rw [← drop_cons s k hlt] at h2
        have H2 := Lib.hid h2
        have HP := Lib.hid hp
        clear h2 hp
        go_wp2_with (first | (go_at_call 119; refine (number_any _ (by omega) (by omega) _ b hc).mono ?_; rw [HP.out]; rintro e w' ⟨rfl, rfl⟩))
        go_round
        case rel => exact ⟨k + 1, by omega, by go_num, by rw [HR.out, H2.out]; omega⟩
        case measure => simp [intOf]; omega
    · have h2 := drop_end s k (by omega)
      have H2 := Lib.hid h2
      clear h2
      go_wp2
      go_ret
      exact ⟨ret_int (by rw [HR.out, H2.out]; simp [runL]), rfl⟩

set_option maxHeartbeats 400000 in
theorem run_rem (s : ByteArray) (w : World) (hs : s.size ≤ maxLen) :
    Calls Tryz.prog 121 #[.string s, .func (.func 122) #[] #[]] w fun e w' => e = .returned (.int .i64 (runL remI s.data.toList)) ∧ w = w' := by
  unfold maxLen at hs
  go_enter Tryz.func121, Tryz.ntmps121
  go_wp2
  go_loop [5] (fun i => ∃ k : Nat, k ≤ s.size ∧ i = .int .i64 k ∧ runL remI s.data.toList = runL remI (s.data.toList.drop k) + k) (fun i => s.size - (intOf i).toNat)
  case atStart => exact ⟨0, Nat.zero_le _, rfl, rfl⟩
  case round =>
    obtain ⟨k, hk, rfl, hr⟩ := hrel
    have HR := Lib.hid hr
    clear hr
    by_cases hlt : k < s.size
    · have h255 := byte_le s k hlt
      cases hp : remI s[k].toNat
      · have h2 := runL_neg (p := remI) (r := s.data.toList.drop (k + 1)) hp
        rw [← drop_cons s k hlt] at h2
        have H2 := Lib.hid h2
        have HP := Lib.hid hp
        clear h2 hp
        go_wp2_with (first | (go_at_call 122; refine (rem_any _ _).mono ?_; rw [HP.out]; rintro e w' ⟨rfl, rfl⟩))
        go_ret
        exact ⟨ret_int (by rw [HR.out, H2.out]; simp), rfl⟩
      · have h2 := runL_pos (p := remI) (r := s.data.toList.drop (k + 1)) hp
        rw [← drop_cons s k hlt] at h2
        have H2 := Lib.hid h2
        have HP := Lib.hid hp
        clear h2 hp
        go_wp2_with (first | (go_at_call 122; refine (rem_any _ _).mono ?_; rw [HP.out]; rintro e w' ⟨rfl, rfl⟩))
        go_round
        case rel => exact ⟨k + 1, by omega, by go_num, by rw [HR.out, H2.out]; omega⟩
        case measure => simp [intOf]; omega
    · have h2 := drop_end s k (by omega)
      have H2 := Lib.hid h2
      clear h2
      go_wp2
      go_ret
      exact ⟨ret_int (by rw [HR.out, H2.out]; simp [runL]), rfl⟩

end Go.Proofs.YtejmbbkklhpnaaaGreatDoor.lexw
