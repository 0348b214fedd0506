/- burnishlaw16.DecimalGrows: the walk. Condition: the library's tables hold what the row lists. -/
import Derived.Test.YtbjengfoaobdbaaGreatDoorMgM
namespace Go.Proofs.YtbjengfoaobdbaaGreatDoor.lawd
open Go.RowKit
open Go.Proofs.YtbjengfoaobdbaaGreatDoor.nodew
open Go.Proofs.YtbjengfoaobdbaaGreatDoor.rdf
open Go.Proofs.YtbjengfoaobdbaaGreatDoor.prnw
open Go.Proofs.YtbjengfoaobdbaaGreatDoor.fpm
open Go.Proofs.YtbjengfoaobdbaaGreatDoor.dmx
open Go.Proofs.YtbjengfoaobdbaaGreatDoor.flatm
attribute [local go_sem] nodew.fo_eq

theorem fo_no_gt {X Y : Nat} (hX : X < infX) (hY : Y < infX) (h : X ≤ Y) : (fo X Y == some .gt) = false := by
  have hi : infX = 9218868437227405312 := rfl
  rw [fo_sv (by omega) (by omega)]
  unfold sv
  rw [if_neg (by omega), if_neg (by omega), Nat.mod_eq_of_lt (by omega), Nat.mod_eq_of_lt (by omega), Int.compare_eq_ite_lt]
  have := val_le h
  rw [if_neg (show ¬ ((valR Y : Nat) : Int) < ((valR X : Nat) : Int) by omega)]
  split <;> rfl
/-- strconv.Itoa, its text named -/
theorem itoa_n (B : Nat) (k : Int) (hk0 : -100000000000 ≤ k) (hk1 : k ≤ 100000000000) (R : ByteArray) (hR : R.data.toList = Lib.itoa k) (W : World) (hE : LE B W) : Calls Tryz.prog 6 #[.int .i64 k] W (Bel W (.string R)) := by
  refine (Tryz.strconv_Itoa k (by omega) (by omega) W hE.en.tabs.2.2).mono fun e w' h => ?_
  obtain ⟨he, n, os, hw⟩ := h
  have : R = ⟨(Lib.itoa k).toArray⟩ := str_ext (by rw [hR, str_mk])
  rw [this]
  exact ⟨he, by rw [hw]; exact below_grow W n os⟩
theorem size_len (S : ByteArray) (l : List UInt8) (h : S.data.toList = l) : S.size = l.length := by
  rw [← h]
  simp
theorem itoa_nat (a : Nat) : Lib.itoa (a : Int) = Lib.decDigits a := by
  unfold Lib.itoa
  rw [if_neg (by omega), Int.toNat_natCast]
set_option maxRecDepth 100000 in
set_option maxHeartbeats 2000000 in
theorem grows_q (B : Nat) (a b : Nat) (ha : a < 4294967296) (hb : b < 4294967296) (p n : Int) (hn : n = Int.tmod p 291 - 10) (hn0 : -300 ≤ n) (hn1 : n ≤ 280) (hp0 : -32768 ≤ p) (hp1 : p ≤ 32767) (w : World) (hE : LE B w) :
    Calls Tryz.prog 3 #[.int .u32 (a : Nat), .int .u32 (b : Nat), .int .i16 p] w (Bel w (.bool true)) := by
  obtain ⟨lo, hlo⟩ : ∃ lo, lo = min a b := ⟨_, rfl⟩
  obtain ⟨hi, hhi⟩ : ∃ hi, hi = max a b := ⟨_, rfl⟩
  have hlh : lo ≤ hi := by omega
  have hlo9 : lo < 4294967296 := by omega
  have hhi9 : hi < 4294967296 := by omega
  obtain ⟨q1, q2, q3, q4, q5, q6, q7⟩ := grow_q lo n hlo9 hn0 hn1
  have r1 := (grow_q hi n hhi9 hn0 hn1).a
  have r7 := (grow_q hi n hhi9 hn0 hn1).lt
  have hxy := grow_le hlh n
  obtain ⟨dl1, dl2⟩ := dd_len lo hlo9
  obtain ⟨dh1, dh2⟩ := dd_len hi hhi9
  obtain ⟨X, hX⟩ : ∃ X, nx lo n = X := ⟨_, rfl⟩
  obtain ⟨Y, hY⟩ : ∃ Y, nx hi n = Y := ⟨_, rfl⟩
  rw [hX] at q1 q2 q3 q4 q5 q6 q7 hxy
  rw [hY] at r1 r7 hxy
  obtain ⟨LS, hLS⟩ : ∃ LS : ByteArray, LS = ⟨(Lib.decDigits lo).toArray⟩ := ⟨_, rfl⟩
  obtain ⟨HS, hHS⟩ : ∃ HS : ByteArray, HS = ⟨(Lib.decDigits hi).toArray⟩ := ⟨_, rfl⟩
  obtain ⟨NS, hNS⟩ : ∃ NS : ByteArray, NS = ⟨(Lib.itoa n).toArray⟩ := ⟨_, rfl⟩
  obtain ⟨MS', hMS⟩ : ∃ S : ByteArray, S = ⟨(Lib.itoa (n - 1)).toArray⟩ := ⟨_, rfl⟩
  obtain ⟨PS, hPS⟩ : ∃ S : ByteArray, S = ⟨(Lib.itoa (n + (Lib.decDigits lo).length)).toArray⟩ := ⟨_, rfl⟩
  have dLS : LS.data.toList = Lib.decDigits lo := by rw [hLS, str_mk]
  have dHS : HS.data.toList = Lib.decDigits hi := by rw [hHS, str_mk]
  have dNS : NS.data.toList = Lib.itoa n := by rw [hNS, str_mk]
  have dMS : MS'.data.toList = Lib.itoa (n - 1) := by rw [hMS, str_mk]
  have dPS : PS.data.toList = Lib.itoa (n + (Lib.decDigits lo).length) := by rw [hPS, str_mk]
  have sL := size_len _ _ dLS
  have sH := size_len _ _ dHS
  have sN := size_len _ _ dNS
  have sM := size_len _ _ dMS
  have sP := size_len _ _ dPS
  rw [← sL] at dPS dl1 dl2
  rw [← sH] at dh1 dh2
  have i4 := (it_ok n (by omega) (by omega)).2.2
  have j4 := (it_ok (n - 1) (by omega) (by omega)).2.2
  have k4 := (it_ok (n + LS.size) (by omega) (by omega)).2.2
  rw [← sN] at i4
  rw [← sM] at j4
  rw [← sL] at sP
  rw [← sP] at k4
  have E0 := Lib.hid hE
  have CL := Lib.hid (fun (v : World) (h : LE B v) => itoa_n B (lo : Int) (by omega) (by omega) LS (by rw [dLS, itoa_nat]) v h)
  have CH := Lib.hid (fun (v : World) (h : LE B v) => itoa_n B (hi : Int) (by omega) (by omega) HS (by rw [dHS, itoa_nat]) v h)
  have CN := Lib.hid (fun (v : World) (h : LE B v) => itoa_n B n (by omega) (by omega) NS dNS v h)
  have CM := Lib.hid (fun (v : World) (h : LE B v) => itoa_n B (n - 1) (by omega) (by omega) MS' dMS v h)
  have CP := Lib.hid (fun (v : World) (h : LE B v) => itoa_n B (n + LS.size) (by omega) (by omega) PS dPS v h)
  have P1 := Lib.hid (fun (v : World) (h : LE B v) => show Calls Tryz.prog 7 #[.string (LS ++ ((⟨#[101]⟩ : ByteArray) ++ NS))] v (DqPost v (X, 0)) from by
    have := dparse_any B (LS ++ ((⟨#[101]⟩ : ByteArray) ++ NS)) v h.de
    rw [str_app, str_app, dLS, dNS] at this
    rw [show decR (Lib.decDigits lo ++ ((⟨#[101]⟩ : ByteArray).data.toList ++ Lib.itoa n)) = (X, 0) from q1] at this
    exact this)
  have P2 := Lib.hid (fun (v : World) (h : LE B v) => show Calls Tryz.prog 7 #[.string (HS ++ ((⟨#[101]⟩ : ByteArray) ++ NS))] v (DqPost v (Y, 0)) from by
    have := dparse_any B (HS ++ ((⟨#[101]⟩ : ByteArray) ++ NS)) v h.de
    rw [str_app, str_app, dHS, dNS] at this
    rw [show decR (Lib.decDigits hi ++ ((⟨#[101]⟩ : ByteArray).data.toList ++ Lib.itoa n)) = (Y, 0) from r1] at this
    exact this)
  have S1 := Lib.hid (fun (v : World) (h : LE B v) => says_yes B (LS ++ (⟨#[46]⟩ : ByteArray) ++ ((⟨#[101]⟩ : ByteArray) ++ NS)) X v h (by
    rw [str_app, str_app, str_app, dLS, dNS, List.append_assoc]; exact q2))
  have S2 := Lib.hid (fun (v : World) (h : LE B v) => says_yes B ((⟨#[48]⟩ : ByteArray) ++ LS ++ ((⟨#[101]⟩ : ByteArray) ++ NS)) X v h (by
    rw [str_app, str_app, str_app, dLS, dNS, List.append_assoc]; exact q3))
  have S3 := Lib.hid (fun (v : World) (h : LE B v) => says_yes B (LS ++ (⟨#[46, 48, 48]⟩ : ByteArray) ++ ((⟨#[101]⟩ : ByteArray) ++ NS)) X v h (by
    rw [str_app, str_app, str_app, dLS, dNS, List.append_assoc]; exact q4))
  have S4 := Lib.hid (fun (v : World) (h : LE B v) => says_yes B (LS ++ (⟨#[48, 101]⟩ : ByteArray) ++ MS') X v h (by
    rw [str_app, str_app, dLS, dMS, List.append_assoc]; exact q5))
  have S5 := Lib.hid (fun (v : World) (h : LE B v) => says_yes B ((⟨#[46]⟩ : ByteArray) ++ LS ++ (⟨#[69]⟩ : ByteArray) ++ PS) X v h (by
    rw [str_app, str_app, str_app, dLS, dPS, sL, List.append_assoc, List.append_assoc]; exact q6))
  have hf := fo_no_gt q7 r7 hxy
  have hr := right_pos q7
  have HRt := Lib.hid (fun W => show Calls Tryz.prog 8 #[.float .f64 X] W fun e w' => e = .returned (.bool true) ∧ w' = W from by have := right_num X W; rw [hr] at this; exact this)
  have AW := Lib.hid (fun (v : World) (h : LE B v) => awake_any B v h)
  have B0 := Lib.hid (Below.refl w.heap.size w)
  have s1 : LS.size ≤ 20 := by omega
  have s2 : HS.size ≤ 20 := by omega
  have s3 : NS.size ≤ 20 := by omega
  have s4 : MS'.size ≤ 20 := by omega
  have s5 : PS.size ≤ 20 := by omega
  have e1 : min (a : Int) (b : Int) = (lo : Int) := by omega
  have e2 : max (a : Int) (b : Int) = (hi : Int) := by omega
  have e3 : Int.tmod p 291 - 10 = n := hn.symm
  have n1 : IntKind.i64.wrap (n - 1) = n - 1 := by rw [IntKind.wrap_i64]; omega
  have n2 : IntKind.i64.wrap (n + (LS.size : Int)) = n + (LS.size : Int) := by rw [IntKind.wrap_i64]; omega
  clear hlo hhi hn hlh
  clear hE q1 q2 q3 q4 q5 q6 q7 r1 r7 hxy hX hY hLS hHS hNS hMS hPS dLS dHS dNS dMS dPS sL sH sN sM sP i4 j4 k4 dl1 dl2 dh1 dh2 hr
  go_enter Tryz.func3, Tryz.ntmps3
  go_wp2_with (first
    | (go_at_call 6; (first | (with_reducible refine (CL.out _ E0.out).mono ?_) | (with_reducible refine (CH.out _ E0.out).mono ?_) | (with_reducible refine (CN.out _ E0.out).mono ?_) | (with_reducible refine (CM.out _ E0.out).mono ?_) | (with_reducible refine (CP.out _ E0.out).mono ?_)); rintro e v ⟨rfl, hb⟩; have EN := Lib.hid (E0.out.below hb); have BN := Lib.hid (B0.out.trans (hb.mono B0.out.size)); clear hb E0 B0; have E0 := EN; have B0 := BN; clear EN BN)
    | (go_at_call 7; (first | (with_reducible refine (P1.out _ E0.out).mono ?_) | (with_reducible refine (P2.out _ E0.out).mono ?_)); rintro e v ⟨rfl, hb⟩; have EN := Lib.hid (E0.out.below hb); have BN := Lib.hid (B0.out.trans (hb.mono B0.out.size)); clear hb E0 B0; have E0 := EN; have B0 := BN; clear EN BN)
    | (go_at_call 8; (with_reducible refine (HRt.out _).mono ?_); rintro e v ⟨rfl, rfl⟩)
    | (go_at_call 9; (first | (with_reducible refine (S1.out _ E0.out).mono ?_) | (with_reducible refine (S2.out _ E0.out).mono ?_) | (with_reducible refine (S3.out _ E0.out).mono ?_) | (with_reducible refine (S4.out _ E0.out).mono ?_) | (with_reducible refine (S5.out _ E0.out).mono ?_)); rintro e v ⟨rfl, hb⟩; have EN := Lib.hid (E0.out.below hb); have BN := Lib.hid (B0.out.trans (hb.mono B0.out.size)); clear hb E0 B0; have E0 := EN; have B0 := BN; clear EN BN)
    | (go_at_call 10; (with_reducible refine (AW.out _ E0.out).mono ?_); rintro e v ⟨rfl, hb⟩; have EN := Lib.hid (E0.out.below hb); have BN := Lib.hid (B0.out.trans (hb.mono B0.out.size)); clear hb E0 B0; have E0 := EN; have B0 := BN; clear EN BN))
  go_ret
  exact ⟨rfl, B0.out⟩
/-- the law -/
theorem grows_any (B : Nat) (a b : Nat) (ha : a < 4294967296) (hb : b < 4294967296) (p : Int) (hp0 : -32768 ≤ p) (hp1 : p ≤ 32767) (w : World) (hE : LE B w) :
    Calls Tryz.prog 3 #[.int .u32 (a : Nat), .int .u32 (b : Nat), .int .i16 p] w (Bel w (.bool true)) := by
  have h1 : -291 < Int.tmod p 291 ∧ Int.tmod p 291 < 291 := by
    have a1 := Int.tmod_lt_of_pos p (b := 291) (by decide)
    have a2 := Int.lt_tmod_of_pos p (b := 291) (by decide)
    omega
  exact grows_q B a b ha hb p _ rfl (by omega) (by omega) hp0 hp1 w hE
end Go.Proofs.YtbjengfoaobdbaaGreatDoor.lawd
