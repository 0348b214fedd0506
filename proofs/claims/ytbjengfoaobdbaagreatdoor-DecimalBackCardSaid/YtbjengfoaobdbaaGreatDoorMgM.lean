/- burnishlaw16: Says, Prints; math.Ldexp at the examples. Conditions: the library's tables hold what the row lists. -/
import Derived.Test.YtbjengfoaobdbaaGreatDoorMgK
import Derived.Test.YtbjengfoaobdbaaGreatDoorRdK
import Derived.Test.YtbjengfoaobdbaaGreatDoorMgL
namespace Go.Proofs.YtbjengfoaobdbaaGreatDoor.lawd
open Go.RowKit
open Go.Proofs.YtbjengfoaobdbaaGreatDoor.nodew
open Go.Proofs.YtbjengfoaobdbaaGreatDoor.rdf
open Go.Proofs.YtbjengfoaobdbaaGreatDoor.prnw
open Go.Proofs.YtbjengfoaobdbaaGreatDoor.fpm
open Go.Proofs.YtbjengfoaobdbaaGreatDoor.dmx
attribute [local go_sem] nodew.fo_eq bits_run frombits_run

/-- what the library's functions read -/
structure LE (B : Nat) (w : World) : Prop where
  en : Env hiP loP w
  de : DE B w
theorem LE.below {B : Nat} {w w' : World} (h : LE B w) (hb : Below w.heap.size w w') : LE B w' := ⟨h.en.later hb, h.de.below hb⟩
theorem same_self (x : Nat) (w : World) : Calls Tryz.prog 12 #[.float .f64 x, .float .f64 x] w fun e w' => e = .returned (.bool true) ∧ w' = w := by
  go_enter Tryz.func12, Tryz.ntmps12
  go_wp2
  go_ret
  exact ⟨by simp, rfl⟩
theorem says_yes (B : Nat) (s : ByteArray) (x : Nat) (w : World) (hE : LE B w) (hd : decR s.data.toList = (x, 0)) : Calls Tryz.prog 9 #[.string s, .float .f64 x] w (Bel w (.bool true)) := by
  have CP := dparse_any B s w hE.de
  rw [hd] at CP
  have HP := Lib.hid CP
  clear CP hd hE
  go_enter Tryz.func9, Tryz.ntmps9
  go_wp2_with (first
    | (go_at_call 7; (with_reducible refine HP.out.mono ?_); rintro e w1 ⟨rfl, hb1⟩; have B1 := Lib.hid hb1; clear hb1)
    | (go_at_call 12; (with_reducible refine (same_self _ _).mono ?_); rintro e w2 ⟨rfl, rfl⟩))
  go_ret
  exact ⟨rfl, B1.out⟩
theorem prints_yes (B : Nat) (s : ByteArray) (x : Nat) (hx : x < 18446744073709551616) (w : World) (hE : LE B w) (hd : prT hiP loP x = s.data.toList) (he : prE x = 0) : Calls Tryz.prog 30 #[.float .f64 x, .string s] w (Bel w (.bool true)) := by
  have CP := print_any hiP loP x hx w hE.en
  unfold PrPost at CP
  rw [he, hd] at CP
  have CP2 : Calls Tryz.prog 14 #[.float .f64 x] w (Bel w (.tuple #[.string s, .int .i64 0])) := CP.mono fun e w' h => by
    obtain ⟨⟨T, hT, he⟩, hb⟩ := h
    rw [str_ext hT] at he
    exact ⟨he, hb⟩
  have HP := Lib.hid CP2
  clear CP CP2 hd he hE hx
  go_enter Tryz.func30, Tryz.ntmps30
  go_wp2_with (go_at_call 14; (with_reducible refine HP.out.mono ?_); rintro e w1 ⟨rfl, hb1⟩; have B1 := Lib.hid hb1; clear hb1)
  go_ret
  exact ⟨by simp, B1.out⟩
/-! math.Ldexp at two places -/
theorem mul_a (w : World) : (binOp BinOp.mul 25 (.float .f64 4607182418800017408) (.float .f64 4591870180066957722)).run Tryz.prog w = .ok (.float .f64 4591870180066957722) w := by kernel_rfl
theorem mul_b (w : World) : (binOp BinOp.mul 25 (.float .f64 4368491638549381120) (.float .f64 9007199254740992)).run Tryz.prog w = .ok (.float .f64 1) w := by kernel_rfl
attribute [local go_sem] mul_a mul_b
theorem norm_any (x : Nat) (h : (fo (absF x) 4503599627370496 == some .lt) = false) (w : World) : Calls Tryz.prog 98 #[.float .f64 x] w fun e w' => e = .returned (.tuple #[.float .f64 x, .int .i64 0]) ∧ w' = w := by
  go_enter Tryz.func98, Tryz.ntmps98
  go_wp2_with (go_at_call 15; refine (abs_any _ _).mono ?_; rintro e w' ⟨rfl, rfl⟩)
  go_ret2
  exact ⟨rfl, rfl⟩
theorem ldexp_a (w : World) : Calls Tryz.prog 66 #[.float .f64 4839568159572335002, .int .i64 (-55)] w fun e w' => e = .returned (.float .f64 4591870180066957722) ∧ w' = w := by
  have f0 : (fo 4839568159572335002 0 == some .eq) = false := by kernel_rfl
  have f1 : infF 4839568159572335002 = false := by kernel_rfl
  have f2 : nanF 4839568159572335002 = false := by kernel_rfl
  have f3 : (fo (absF 4839568159572335002) 4503599627370496 == some .lt) = false := by kernel_rfl
  have b1 : bits BinOp.and IntKind.i64 1074 2047 = 1074 := by decide +kernel
  have b2 : bits BinOp.andNot IntKind.u64 4839568159572335002 9218868437227405312 = 2702159776422298 := by decide +kernel
  have b3 : bits BinOp.or IntKind.u64 2702159776422298 4589168020290535424 = 4591870180066957722 := by decide +kernel
  have HN := Lib.hid (fun W => norm_any 4839568159572335002 f3 W)
  clear f3
  go_enter Tryz.func66, Tryz.ntmps66
  go_wp2_with (first
    | (go_at_call 27; refine (isInf_any _ _).mono ?_; rw [f1]; rintro e w' ⟨rfl, rfl⟩)
    | (go_at_call 26; refine (isNaN_any _ _).mono ?_; rw [f2]; rintro e w' ⟨rfl, rfl⟩)
    | (go_at_call 98; refine (HN.out _).mono ?_; rintro e w' ⟨rfl, rfl⟩))
  go_ret
  exact ⟨rfl, rfl⟩
theorem ldexp_b (w : World) : Calls Tryz.prog 66 #[.float .f64 4607182418800017408, .int .i64 (-1074)] w fun e w' => e = .returned (.float .f64 1) ∧ w' = w := by
  have f0 : (fo 4607182418800017408 0 == some .eq) = false := by kernel_rfl
  have f1 : infF 4607182418800017408 = false := by kernel_rfl
  have f2 : nanF 4607182418800017408 = false := by kernel_rfl
  have f3 : (fo (absF 4607182418800017408) 4503599627370496 == some .lt) = false := by kernel_rfl
  have b1 : bits BinOp.and IntKind.i64 1023 2047 = 1023 := by decide +kernel
  have b2 : bits BinOp.andNot IntKind.u64 4607182418800017408 9218868437227405312 = 0 := by decide +kernel
  have b3 : bits BinOp.or IntKind.u64 0 9007199254740992 = 9007199254740992 := by decide +kernel
  have HN := Lib.hid (fun W => norm_any 4607182418800017408 f3 W)
  clear f3
  go_enter Tryz.func66, Tryz.ntmps66
  go_wp2_with (first
    | (go_at_call 27; refine (isInf_any _ _).mono ?_; rw [f1]; rintro e w' ⟨rfl, rfl⟩)
    | (go_at_call 26; refine (isNaN_any _ _).mono ?_; rw [f2]; rintro e w' ⟨rfl, rfl⟩)
    | (go_at_call 98; refine (HN.out _).mono ?_; rintro e w' ⟨rfl, rfl⟩))
  go_ret
  exact ⟨rfl, rfl⟩
theorem Ldexp_a (w : World) : Calls Tryz.prog 29 #[.float .f64 4839568159572335002, .int .i64 (-55)] w fun e w' => e = .returned (.float .f64 4591870180066957722) ∧ w' = w := by
  go_enter Tryz.func29, Tryz.ntmps29
  go_wp2_with (go_at_call 66; (with_reducible refine (ldexp_a _).mono ?_); rintro e w' ⟨rfl, rfl⟩)
  go_ret
  exact ⟨rfl, rfl⟩
theorem Ldexp_b (w : World) : Calls Tryz.prog 29 #[.float .f64 4607182418800017408, .int .i64 (-1074)] w fun e w' => e = .returned (.float .f64 1) ∧ w' = w := by
  go_enter Tryz.func29, Tryz.ntmps29
  go_wp2_with (go_at_call 66; (with_reducible refine (ldexp_b _).mono ?_); rintro e w' ⟨rfl, rfl⟩)
  go_ret
  exact ⟨rfl, rfl⟩
end Go.Proofs.YtbjengfoaobdbaaGreatDoor.lawd

/- burnishlaw16.awake: the chapter's examples. Condition: the library's tables hold what the row lists. -/
namespace Go.Proofs.YtbjengfoaobdbaaGreatDoor.lawd
open Go.RowKit
open Go.Proofs.YtbjengfoaobdbaaGreatDoor.nodew
open Go.Proofs.YtbjengfoaobdbaaGreatDoor.rdf
open Go.Proofs.YtbjengfoaobdbaaGreatDoor.prnw
open Go.Proofs.YtbjengfoaobdbaaGreatDoor.fpm
open Go.Proofs.YtbjengfoaobdbaaGreatDoor.dmx

theorem prT_tenth : prT hiP loP 4591870180066957722 = [48, 46, 49] := by
  have h := pos_x hiP loP 4591870180066957722 1000000000000000 15 (-16) (by kernel_rfl) (by decide) (by decide)
  exact (prT_pos _ _ _ (by kernel_rfl) (by decide) (by decide)).trans (h.trans (by kernel_rfl))
theorem prT_third : prT hiP loP 4599676419421066581 = [48, 46, 51, 51, 51, 51, 51, 51, 51, 51, 51, 51, 51, 51, 51, 51, 51, 51] := by
  have h := pos_x hiP loP 4599676419421066581 3333333333333333 15 (-16) (by kernel_rfl) (by decide) (by decide)
  exact (prT_pos _ _ _ (by kernel_rfl) (by decide) (by decide)).trans (h.trans (by kernel_rfl))
theorem itoa_m8 : laidT [49] (-6) = [49, 101, 45, 55] := by
  unfold laidT
  rw [if_neg (by decide), if_neg (by decide), if_neg (by decide)]
  unfold Lib.itoa
  rw [if_pos (by decide), show ((-6 : Int) - 1).natAbs = 7 from rfl, Lib.decDigits, dif_pos (by decide)]
  rfl
theorem itoa_m324 : laidT [53] (-323) = [53, 101, 45, 51, 50, 52] := by
  unfold laidT
  rw [if_neg (by decide), if_neg (by decide), if_neg (by decide)]
  unfold Lib.itoa
  rw [if_pos (by decide), show ((-323 : Int) - 1).natAbs = 324 from rfl, Lib.decDigits, dif_neg (by decide), Lib.decDigits, dif_neg (by decide), Lib.decDigits, dif_pos (by decide)]
  rfl
theorem prT_milli : prT hiP loP 4502148214488346440 = [49, 101, 45, 55] := by
  have h := pos_x hiP loP 4502148214488346440 1000000000000000 15 (-22) (by kernel_rfl) (by decide) (by decide)
  refine (prT_pos _ _ _ (by kernel_rfl) (by decide) (by decide)).trans (h.trans ?_)
  exact Eq.trans (by kernel_rfl) itoa_m8
theorem prT_nine : prT hiP loP 4728057454347157504 = [49, 50, 51, 52, 53, 54, 55, 56, 57] := by
  have h := pos_x hiP loP 4728057454347157504 1234567890000000 15 (-7) (by kernel_rfl) (by decide) (by decide)
  exact (prT_pos _ _ _ (by kernel_rfl) (by decide) (by decide)).trans (h.trans (by kernel_rfl))
theorem prT_giga : prT hiP loP 4742290407621132288 = [49, 48, 55, 51, 55, 52, 49, 56, 50, 52] := by
  have h := pos_x hiP loP 4742290407621132288 1073741824000000 15 (-6) (by kernel_rfl) (by decide) (by decide)
  exact (prT_pos _ _ _ (by kernel_rfl) (by decide) (by decide)).trans (h.trans (by kernel_rfl))
theorem prT_least : prT hiP loP 1 = [53, 101, 45, 51, 50, 52] := by
  have h := pos_x hiP loP 1 5 0 (-324) (by kernel_rfl) (by decide) (by decide)
  refine (prT_pos _ _ _ (by kernel_rfl) (by decide) (by decide)).trans (h.trans ?_)
  exact Eq.trans (by kernel_rfl) itoa_m324
theorem prT_big : prT hiP loP 4746794007248502784 = [] ∧ prE 4746794007248502784 = 2 := by
  have h : prOk 4746794007248502784 = false := by kernel_rfl
  exact ⟨by unfold prT; rw [if_neg (by rw [h]; decide)], by unfold prE; rw [if_neg (by rw [h]; decide)]⟩
theorem prE_ok (x : Nat) (h : prOk x = true) : prE x = 0 := by unfold prE; rw [if_pos h]
/-- the examples' texts, read -/
theorem rd_1 : decR [43, 49] = (0, 160) := by decide +kernel
theorem rd_2 : decR [49, 101, 57, 57, 57] = (0, 10) := by decide +kernel
theorem rd_3 : decR [48, 46, 49] = (4591870180066957722, 0) := by decide +kernel
theorem rd_4 : decR [49, 101, 51] = (4652007308841189376, 0) := by decide +kernel
theorem rd_5 : decR [49, 48, 48, 48, 46] = (4652007308841189376, 0) := by decide +kernel
theorem rd_6 : decR [46, 53, 101, 45, 49] = (4587366580439587226, 0) := by decide +kernel
theorem rd_7 : decR [49, 101, 45, 57, 57, 57] = (0, 0) := by decide +kernel
theorem rd_8 : decR [45, 48] = (0, 0) := by decide +kernel
set_option maxRecDepth 100000 in
set_option maxHeartbeats 2000000 in
theorem awake_any (B : Nat) (w : World) (hE : LE B w) : Calls Tryz.prog 10 #[] w (Bel w (.bool true)) := by
  have P1 := Lib.hid (fun (v : World) (h : LE B v) => show Calls Tryz.prog 7 #[.string ⟨#[43, 49]⟩] v (DqPost v (0, 160)) from by have := dparse_any B ⟨#[43, 49]⟩ v h.de; rw [show decR (⟨#[43, 49]⟩ : ByteArray).data.toList = (0, 160) from rd_1] at this; exact this)
  have P2 := Lib.hid (fun (v : World) (h : LE B v) => show Calls Tryz.prog 7 #[.string ⟨#[49, 101, 57, 57, 57]⟩] v (DqPost v (0, 10)) from by have := dparse_any B ⟨#[49, 101, 57, 57, 57]⟩ v h.de; rw [show decR (⟨#[49, 101, 57, 57, 57]⟩ : ByteArray).data.toList = (0, 10) from rd_2] at this; exact this)
  have P3 := Lib.hid (fun (v : World) (h : LE B v) => show Calls Tryz.prog 14 #[.float .f64 4746794007248502784] v (Bel v (.tuple #[.string ⟨#[]⟩, .int .i64 2])) from by
    refine (print_any hiP loP 4746794007248502784 (by decide) v h.en).mono fun e w' h => ?_
    obtain ⟨⟨T, hT, he⟩, hb⟩ := h
    rw [prT_big.1] at hT
    rw [prT_big.2, show T = ⟨#[]⟩ from str_ext hT] at he
    exact ⟨he, hb⟩)
  have S3 := Lib.hid (fun (v : World) (h : LE B v) => says_yes B ⟨#[48, 46, 49]⟩ 4591870180066957722 v h rd_3)
  have S4 := Lib.hid (fun (v : World) (h : LE B v) => says_yes B ⟨#[49, 101, 51]⟩ 4652007308841189376 v h rd_4)
  have S5 := Lib.hid (fun (v : World) (h : LE B v) => says_yes B ⟨#[49, 48, 48, 48, 46]⟩ 4652007308841189376 v h rd_5)
  have S6 := Lib.hid (fun (v : World) (h : LE B v) => says_yes B ⟨#[46, 53, 101, 45, 49]⟩ 4587366580439587226 v h rd_6)
  have S7 := Lib.hid (fun (v : World) (h : LE B v) => says_yes B ⟨#[49, 101, 45, 57, 57, 57]⟩ 0 v h rd_7)
  have S8 := Lib.hid (fun (v : World) (h : LE B v) => says_yes B ⟨#[45, 48]⟩ 0 v h rd_8)
  have R1 := Lib.hid (fun (v : World) (h : LE B v) => prints_yes B ⟨#[48, 46, 49]⟩ 4591870180066957722 (by decide) v h prT_tenth (prE_ok _ (by kernel_rfl)))
  have R2 := Lib.hid (fun (v : World) (h : LE B v) => prints_yes B ⟨#[48, 46, 51, 51, 51, 51, 51, 51, 51, 51, 51, 51, 51, 51, 51, 51, 51, 51]⟩ 4599676419421066581 (by decide) v h prT_third (prE_ok _ (by kernel_rfl)))
  have R3 := Lib.hid (fun (v : World) (h : LE B v) => prints_yes B ⟨#[49, 101, 45, 55]⟩ 4502148214488346440 (by decide) v h prT_milli (prE_ok _ (by kernel_rfl)))
  have R4 := Lib.hid (fun (v : World) (h : LE B v) => prints_yes B ⟨#[49, 50, 51, 52, 53, 54, 55, 56, 57]⟩ 4728057454347157504 (by decide) v h prT_nine (prE_ok _ (by kernel_rfl)))
  have R5 := Lib.hid (fun (v : World) (h : LE B v) => prints_yes B ⟨#[49, 48, 55, 51, 55, 52, 49, 56, 50, 52]⟩ 4742290407621132288 (by decide) v h prT_giga (prE_ok _ (by kernel_rfl)))
  have R6 := Lib.hid (fun (v : World) (h : LE B v) => prints_yes B ⟨#[53, 101, 45, 51, 50, 52]⟩ 1 (by decide) v h prT_least (prE_ok _ (by kernel_rfl)))
  have E0 := Lib.hid hE
  have B0 := Lib.hid (Below.refl w.heap.size w)
  clear hE
  go_enter Tryz.func10, Tryz.ntmps10
  go_wp2_with (first
    | (go_at_call 7; (with_reducible refine (P1.out _ E0.out).mono ?_); rintro e v ⟨rfl, hb⟩; have E1 := Lib.hid (E0.out.below hb); have B1 := Lib.hid (B0.out.trans (hb.mono B0.out.size)); clear hb E0 B0)
    | (go_at_call 7; (with_reducible refine (P2.out _ E1.out).mono ?_); rintro e v ⟨rfl, hb⟩; have E2 := Lib.hid (E1.out.below hb); have B2 := Lib.hid (B1.out.trans (hb.mono B1.out.size)); clear hb E1 B1)
    | (go_at_call 14; (with_reducible refine (P3.out _ E2.out).mono ?_); rintro e v ⟨rfl, hb⟩; have EE := Lib.hid (E2.out.below hb); have BB := Lib.hid (B2.out.trans (hb.mono B2.out.size)); clear hb E2 B2)
    | (go_at_call 29; (with_reducible refine (Ldexp_a _).mono ?_); rintro e v ⟨rfl, rfl⟩)
    | (go_at_call 29; (with_reducible refine (Ldexp_b _).mono ?_); rintro e v ⟨rfl, rfl⟩)
    | (go_at_call 9; (first
        | (with_reducible refine (S3.out _ EE.out).mono ?_) | (with_reducible refine (S4.out _ EE.out).mono ?_) | (with_reducible refine (S5.out _ EE.out).mono ?_)
        | (with_reducible refine (S6.out _ EE.out).mono ?_) | (with_reducible refine (S7.out _ EE.out).mono ?_) | (with_reducible refine (S8.out _ EE.out).mono ?_)); rintro e v ⟨rfl, hb⟩; have EN := Lib.hid (EE.out.below hb); have BN := Lib.hid (BB.out.trans (hb.mono BB.out.size)); clear hb EE BB; have EE := EN; have BB := BN; clear EN BN)
    | (go_at_call 30; (first
        | (with_reducible refine (R1.out _ EE.out).mono ?_) | (with_reducible refine (R2.out _ EE.out).mono ?_) | (with_reducible refine (R3.out _ EE.out).mono ?_)
        | (with_reducible refine (R4.out _ EE.out).mono ?_) | (with_reducible refine (R5.out _ EE.out).mono ?_) | (with_reducible refine (R6.out _ EE.out).mono ?_)); rintro e v ⟨rfl, hb⟩; have EN := Lib.hid (EE.out.below hb); have BN := Lib.hid (BB.out.trans (hb.mono BB.out.size)); clear hb EE BB; have EE := EN; have BB := BN; clear EN BN))
  go_ret
  exact ⟨rfl, BB.out⟩
end Go.Proofs.YtbjengfoaobdbaaGreatDoor.lawd
