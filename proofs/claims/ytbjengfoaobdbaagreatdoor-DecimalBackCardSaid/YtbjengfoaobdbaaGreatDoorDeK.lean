/- burnishlaw16.DecimalBack: the walk. Condition: the library's tables hold what the row lists. -/
import Derived.Test.YtbjengfoaobdbaaGreatDoorMgM
import Derived.Test.YtbjengfoaobdbaaGreatDoorDeC
import Derived.Test.YtbjengfoaobdbaaGreatDoorDrF
namespace Go.Proofs.YtbjengfoaobdbaaGreatDoor.lawd
open Go.RowKit
open Go.Proofs.YtbjengfoaobdbaaGreatDoor.nodew
open Go.Proofs.YtbjengfoaobdbaaGreatDoor.rdf
open Go.Proofs.YtbjengfoaobdbaaGreatDoor.prnw
open Go.Proofs.YtbjengfoaobdbaaGreatDoor.fpm
open Go.Proofs.YtbjengfoaobdbaaGreatDoor.dmx
open Go.Proofs.YtbjengfoaobdbaaGreatDoor.flatm
open Go.Proofs.YtbjengfoaobdbaaGreatDoor.dirw
attribute [local go_sem] nodew.fo_eq

theorem right_neg (X : Nat) (h0 : 0 < X) (hX : X < 9218868437227405312) : rightF (9223372036854775808 + X) = true := by
  have hm : (9223372036854775808 + X) % 9223372036854775808 = X := by omega
  have h1 : nanF (9223372036854775808 + X) = false := by
    unfold nanF
    rw [fo_self (by omega)]
    rfl
  have h2 : infF (9223372036854775808 + X) = false := by
    obtain ⟨_, r2, _⟩ := right_parts X hX
    unfold infF at r2 ⊢
    rw [abs_w _ (by omega), hm]
    rw [abs_w X (by omega), Nat.mod_eq_of_lt (by omega)] at r2
    exact r2
  have h3 : (fo (9223372036854775808 + X) 0 == some .eq) = false := by
    rw [(fo_zero (x := 9223372036854775808 + X) (by omega) (by omega) (by omega)).1]
    exact decide_eq_false (by omega)
  unfold rightF
  rw [h1, h2, h3]
  rfl
/-- a number's other sign -/
theorem pr_turn (x X : Nat) (hx : x < 18446744073709551616) (h : prOk x = true) (h0 : x ≠ 0) (hX : X = x % 9223372036854775808) : 0 < X ∧ X < 9218868437227405312 ∧ absF x = X ∧ prOk X = true ∧ prOk (9223372036854775808 + X) = true ∧ (x = X ∨ x = 9223372036854775808 + X) := by
  have hr : rightF x = true := by
    unfold prOk at h
    rw [Bool.and_eq_true] at h
    exact h.1
  have hb : bigF x = false := by
    unfold prOk at h
    rw [Bool.and_eq_true] at h
    simpa using h.2
  obtain ⟨f1, f2⟩ := right_word hx hr
  have hX0 : 0 < X := by omega
  have hXi : X < 9218868437227405312 := by omega
  have hbX : bigF X = false := by
    rw [big_w (by omega) (by omega), show X % 9223372036854775808 = x % 9223372036854775808 by omega, ← big_w hx f1]
    exact hb
  have hbN : bigF (9223372036854775808 + X) = false := by
    rw [big_w (by omega) (by omega), show (9223372036854775808 + X) % 9223372036854775808 = x % 9223372036854775808 by omega, ← big_w hx f1]
    exact hb
  refine ⟨hX0, hXi, by rw [abs_w x hx, hX], ?_, ?_, by omega⟩
  · unfold prOk
    rw [right_pos hXi, hbX]
    rfl
  · unfold prOk
    rw [right_neg X hX0 hXi, hbN]
    rfl
theorem print_c (B : Nat) (x : Nat) (hx : x < 18446744073709551616) (S : ByteArray) (hS : S.data.toList = prT hiP loP x) (w : World) (hE : LE B w) : Calls Tryz.prog 14 #[.float .f64 x] w (Bel w (.tuple #[.string S, .int .i64 (prE x)])) := by
  refine (print_any hiP loP x hx w hE.en).mono fun e w' h => ?_
  obtain ⟨⟨T, hT, he⟩, hb⟩ := h
  rw [show T = S from str_ext (hT.trans hS.symm)] at he
  exact ⟨he, hb⟩
set_option maxRecDepth 100000 in
set_option maxHeartbeats 2000000 in
theorem back_no (B : Nat) (x : Nat) (hx : x < 18446744073709551616) (h : prOk x = false) (w : World) (hE : LE B w) : Calls Tryz.prog 5 #[.float .f64 x] w (Bel w (.bool true)) := by
  have hT : prT hiP loP x = [] := by unfold prT; rw [if_neg (by rw [h]; decide)]
  have hEr : prE x = 2 := by unfold prE; rw [if_neg (by rw [h]; decide)]
  have CP := print_c B x hx ⟨#[]⟩ (by rw [hT]) w hE
  rw [hEr] at CP
  have HP := Lib.hid CP
  have AW := Lib.hid (fun (v : World) (h : LE B v) => awake_any B v h)
  have HE := Lib.hid hE
  have CRt := fun W => right_num x W
  have CAb := fun W => abs_any x W
  obtain ⟨A, hA⟩ : ∃ A, A = absF x := ⟨_, rfl⟩
  rw [← hA] at CAb
  have hbg : (fo A 4742290407621132288 == some .gt) = bigF x := by rw [hA]; rfl
  obtain ⟨r, hr⟩ : ∃ r, rightF x = r := ⟨_, rfl⟩
  rw [hr] at CRt
  have HA := Lib.hid CAb
  unfold prOk at h
  rw [hr] at h
  have HR := Lib.hid CRt
  cases r with
  | false =>
    clear CP hE CAb hA hbg hr h hT hEr CRt
    go_enter Tryz.func5, Tryz.ntmps5
    go_wp2_with (first
      | (go_at_call 14; (with_reducible refine HP.out.mono ?_); rintro e v ⟨rfl, hb⟩; have E1 := Lib.hid (HE.out.below hb); have B1 := Lib.hid hb; clear hb)
      | (go_at_call 8; (with_reducible refine (HR.out _).mono ?_); rintro e v ⟨rfl, rfl⟩)
      | (go_at_call 10; (with_reducible refine (AW.out _ E1.out).mono ?_); rintro e v2 ⟨rfl, hb⟩; have B2 := Lib.hid (B1.out.trans (hb.mono B1.out.size)); clear hb))
    go_ret
    exact ⟨rfl, B2.out⟩
  | true =>
    have hb : bigF x = true := by simpa using h
    rw [hb] at hbg
    clear CP hE CAb hA hr h hT hEr CRt hb
    go_enter Tryz.func5, Tryz.ntmps5
    go_wp2_with (first
      | (go_at_call 14; (with_reducible refine HP.out.mono ?_); rintro e v ⟨rfl, hb⟩; have E1 := Lib.hid (HE.out.below hb); have B1 := Lib.hid hb; clear hb)
      | (go_at_call 8; (with_reducible refine (HR.out _).mono ?_); rintro e v ⟨rfl, rfl⟩)
      | (go_at_call 15; (with_reducible refine (HA.out _).mono ?_); rintro e v ⟨rfl, rfl⟩)
      | (go_at_call 10; (with_reducible refine (AW.out _ E1.out).mono ?_); rintro e v2 ⟨rfl, hb⟩; have B2 := Lib.hid (B1.out.trans (hb.mono B1.out.size)); clear hb))
    go_ret
    exact ⟨rfl, B2.out⟩
set_option maxRecDepth 100000 in
set_option maxHeartbeats 2000000 in
theorem back_zero (B : Nat) (w : World) (hE : LE B w) : Calls Tryz.prog 5 #[.float .f64 0] w (Bel w (.bool true)) := by
  have CP := print_c B 0 (by decide) ⟨#[48]⟩ (by rw [prT_0]) w hE
  rw [prE_ok 0 (by kernel_rfl)] at CP
  have HP := Lib.hid CP
  have AW := Lib.hid (fun (v : World) (h : LE B v) => awake_any B v h)
  have HS := Lib.hid (fun (v : World) (h : LE B v) => says_yes B ⟨#[48]⟩ 0 v h read_0)
  have HE := Lib.hid hE
  have HR := Lib.hid (fun W => show Calls Tryz.prog 8 #[.float .f64 0] W fun e w' => e = .returned (.bool true) ∧ w' = W from by have := right_num 0 W; rw [right_pos (by decide)] at this; exact this)
  have HA := Lib.hid (fun W => show Calls Tryz.prog 15 #[.float .f64 0] W fun e w' => e = .returned (.float .f64 0) ∧ w' = W from abs_any 0 W)
  have f1 : (fo 0 4742290407621132288 == some .gt) = false := by kernel_rfl
  have f2 : (fo 0 0 == some .eq) = true := by kernel_rfl
  clear CP hE
  go_enter Tryz.func5, Tryz.ntmps5
  go_wp2_with (first
    | (go_at_call 14; (with_reducible refine HP.out.mono ?_); rintro e v ⟨rfl, hb⟩; have E1 := Lib.hid (HE.out.below hb); have B1 := Lib.hid hb; clear hb)
    | (go_at_call 8; (with_reducible refine (HR.out _).mono ?_); rintro e v ⟨rfl, rfl⟩)
    | (go_at_call 15; (with_reducible refine (HA.out _).mono ?_); rintro e v ⟨rfl, rfl⟩)
    | (go_at_call 9; (with_reducible refine (HS.out _ E1.out).mono ?_); rintro e v2 ⟨rfl, hb⟩; have E2 := Lib.hid (E1.out.below hb); have B2 := Lib.hid (B1.out.trans (hb.mono B1.out.size)); clear hb)
    | (go_at_call 10; (with_reducible refine (AW.out _ E2.out).mono ?_); rintro e v3 ⟨rfl, hb⟩; have B3 := Lib.hid (B2.out.trans (hb.mono B2.out.size)); clear hb))
  go_ret
  exact ⟨rfl, B3.out⟩
end Go.Proofs.YtbjengfoaobdbaaGreatDoor.lawd
