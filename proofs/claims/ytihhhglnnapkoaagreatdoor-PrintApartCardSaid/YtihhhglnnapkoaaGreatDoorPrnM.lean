/- decimal.Print. No conditions but those stated. -/
import Derived.Test.YtihhhglnnapkoaaGreatDoorPrnL
namespace Go.Proofs.YtihhhglnnapkoaaGreatDoor.prnw
open Go.RowKit
open Go.Shelf
open Go.Sort
open Go.Proofs.YtihhhglnnapkoaaGreatDoor.nodew
open Go.Proofs.YtihhhglnnapkoaaGreatDoor.chkw
open Go.Proofs.YtihhhglnnapkoaaGreatDoor.flatm
attribute [local go_sem] nodew.fo_eq

/-- what the library's functions read -/
structure Env (hi lo : Nat → Nat) (w : World) : Prop where
  tabs : Tabs hi lo w
  ml : ∃ m : Int, w.cell? ⟨1, 0, none⟩ = some (.int .i64 m)
  n1 : 8 < w.heap.size
  n2 : 7 < w.heap.size
  n3 : 1 < w.heap.size
theorem Env.later {hi lo : Nat → Nat} {w w' : World} (h : Env hi lo w) (hb : Below w.heap.size w w') : Env hi lo w' := by
  have hs := hb.size
  refine ⟨⟨fun i h6 => ?_, h.tabs.2.1, tab_below h.tabs.2.2 hb h.n2⟩, ?_, Nat.lt_of_lt_of_le h.n1 hs, Nat.lt_of_lt_of_le h.n2 hs, Nat.lt_of_lt_of_le h.n3 hs⟩
  · obtain ⟨a, b, c, d⟩ := h.tabs.1 i h6
    exact ⟨a, b, (hb.cell h.n1).trans c, (hb.cell h.n1).trans d⟩
  · obtain ⟨m, hm⟩ := h.ml
    exact ⟨m, (hb.cell h.n3).trans hm⟩
/-- returns this, and what lay below is as it was -/
def Bel (w : World) (v : Value) (x : Ending) (w' : World) : Prop := x = .returned v ∧ Below w.heap.size w w'
theorem cut_c {hi lo : Nat → Nat} {w : World} (h : Env hi lo w) (s sep H P : ByteArray) (b : Bool) (hs : s.size ≤ 100000) (hc : Lib.cut s.data.toList sep.data.toList = (H.data.toList, P.data.toList, b)) :
    Calls Tryz.prog 28 #[.string s, .string sep] w (Bel w (.tuple #[.string H, .string P, .bool b])) := by
  obtain ⟨m, hm⟩ := h.ml
  refine (Tryz.strings_Cut s sep m w (by omega) hm).mono fun e w' h => ?_
  obtain ⟨he, n, hw⟩ := h
  rw [hc] at he
  refine ⟨he, ?_⟩
  rw [hw]
  exact below_drewN' (Below.refl _ _) _
theorem replace_c {hi lo : Nat → Nat} {w : World} (h : Env hi lo w) (s old R : ByteArray) (n : Int) (hs : s.size ≤ 100000) (h1 : 1 ≤ old.size) (hc : Lib.replace s.data.toList old.data.toList [] n = R.data.toList) :
    Calls Tryz.prog 32 #[.string s, .string old, .string ⟨#[]⟩, .int .i64 n] w (Bel w (.string R)) := by
  obtain ⟨m, hm⟩ := h.ml
  refine (Tryz.strings_Replace s old ⟨#[]⟩ n m w (by omega) hm h1 (by show _ + _ * 0 ≤ _; omega)).mono fun e w' h => ?_
  obtain ⟨he, hw⟩ := h
  have e0 : (⟨#[]⟩ : ByteArray).data.toList = [] := rfl
  rw [e0, hc] at he
  exact ⟨he, hw⟩
theorem below_bytes (w : World) (s : ByteArray) : Below w.heap.size w (Lib.bytesWorld w 5 s) := by
  refine ⟨rfl, rfl, rfl, ?_, fun i hi => Lib.bytesWorld_at_old w _ s i hi⟩
  simp [Lib.bytesWorld, World.freeze, World.alloc, World.drew, -World.alloc_eq, -World.drew_eq]
theorem atoi_c (w : World) (s : ByteArray) (n : Int) (hl : s.size ≤ 18) (h : Lib.atoi s.data.toList = some n) : Calls Tryz.prog 30 #[.string s] w (Bel w (.tuple #[.int .i64 n, .nilIface])) := by
  refine (Tryz.strconv_Atoi s n hl h w).mono fun e w' h => ?_
  obtain ⟨he, t, hw⟩ := h
  exact ⟨he, by rw [hw]; exact below_bytes _ _⟩
/-- a positive number's digits, the place of its point, its text -/
def posD (hi lo : Nat → Nat) (X : Nat) : List UInt8 := sdH (ftR hi lo X).1.toNat :: sdL (ftR hi lo X).1.toNat
def posK (hi lo : Nat → Nat) (X : Nat) : Int := (Lib.nDigits (ftR hi lo X).1.toNat : Nat) + (ftR hi lo X).2
def posT (hi lo : Nat → Nat) (X : Nat) : List UInt8 := laidT (posD hi lo X) (posK hi lo X)
/-- bounds of the digits of a positive float -/
theorem ft_bd (hi lo : Nat → Nat) (X : Nat) (hX0 : 0 < X) (hX : X < 9218868437227405312) (hh : ∀ i, i < 696 → 9223372036854775808 ≤ hi i ∧ hi i < 18446744073709551616) :
    1 ≤ (ftR hi lo X).1.toNat ∧ (ftR hi lo X).1.toNat < 18446744073709551616 ∧ -348 ≤ (ftR hi lo X).2 ∧ (ftR hi lo X).2 ≤ 348 := by
  obtain ⟨m1, m2⟩ := ftM_pos X hX0
  obtain ⟨s0, s1, s2, s3⟩ := shl_bd (ftM X) m1 m2
  have he : -1022 ≤ ftE X ∧ ftE X ≤ 1023 := by
    unfold ftE
    split <;> omega
  have := sf_d hi lo ((ftM X * 2 ^ (64 - Lib.bitLen (ftM X)) : Nat) : Int) (ftE X - ((64 - Lib.bitLen (ftM X) : Nat) : Int) - 52) (by omega) (by omega) (by omega) (by omega) hh
  unfold ftR
  omega
theorem pos_bd (hi lo : Nat → Nat) (X : Nat) (hX0 : 0 < X) (hX : X < 9218868437227405312) (hh : ∀ i, i < 696 → 9223372036854775808 ≤ hi i ∧ hi i < 18446744073709551616) :
    1 ≤ (posD hi lo X).length ∧ (posD hi lo X).length ≤ 20 ∧ -347 ≤ posK hi lo X ∧ posK hi lo X ≤ 368 := by
  obtain ⟨b1, b2, b3, b4⟩ := ft_bd hi lo X hX0 hX hh
  have h1 := sdL_len _ b1
  have h2 := trim_le (ftR hi lo X).1.toNat (Lib.nDigits (ftR hi lo X).1.toNat)
  have h3 := Lib.nDigits_le20 _ b2
  have h4 := Lib.nDigits_pos (ftR hi lo X).1.toNat
  unfold posD posK
  rw [List.length_cons]
  omega
set_option maxRecDepth 100000 in
set_option maxHeartbeats 1000000 in
theorem print_pos (hi lo : Nat → Nat) (X : Nat) (hX0 : 0 < X) (hX : X < 9218868437227405312) (hb : bigF X = false) (w : World) (hE : Env hi lo w) :
    Calls Tryz.prog 16 #[.float .f64 X] w fun x w' => (∃ T : ByteArray, T.data.toList = posT hi lo X ∧ x = .returned (.tuple #[.string T, .int .i64 0])) ∧ Below w.heap.size w w' := by
  obtain ⟨p1, p2, p3, p4⟩ := pos_bd hi lo X hX0 hX hE.tabs.2.1
  obtain ⟨z1, z2⟩ := fo_zero (x := X) (by omega) (by omega) (by omega)
  rw [decide_eq_false (by omega)] at z1 z2
  have hdg : ∀ b ∈ posD hi lo X, isDg b := sd_dg _
  have hf : ftT hi lo X = efgT (sdH (ftR hi lo X).1.toNat) (sdL (ftR hi lo X).1.toNat) (posK hi lo X) := rfl
  have hl20 : (sdL (ftR hi lo X).1.toNat).length ≤ 20 := by
    have : (posD hi lo X).length = (sdL (ftR hi lo X).1.toNat).length + 1 := by unfold posD; rw [List.length_cons]
    omega
  obtain ⟨l1, l2, l3⟩ := efg_len (sdH (ftR hi lo X).1.toNat) (sdL (ftR hi lo X).1.toNat) (posK hi lo X) hl20
  have hcut := efg_cut (sdH (ftR hi lo X).1.toNat) (sdL (ftR hi lo X).1.toNat) (posK hi lo X) hdg
  have hrep := efg_replace (sdH (ftR hi lo X).1.toNat) (sdL (ftR hi lo X).1.toNat) hdg
  have hato := efg_atoi (posK hi lo X) (by omega) (by omega)
  rw [← hf] at l1 hcut
  obtain ⟨F, hF⟩ : ∃ F : ByteArray, F = ⟨(ftT hi lo X).toArray⟩ := ⟨_, rfl⟩
  obtain ⟨H, hH⟩ : ∃ H : ByteArray, H = ⟨(efgH (sdH (ftR hi lo X).1.toNat) (sdL (ftR hi lo X).1.toNat)).toArray⟩ := ⟨_, rfl⟩
  obtain ⟨P, hP⟩ : ∃ P : ByteArray, P = ⟨(efgP (posK hi lo X)).toArray⟩ := ⟨_, rfl⟩
  obtain ⟨D, hD⟩ : ∃ D : ByteArray, D = ⟨(posD hi lo X).toArray⟩ := ⟨_, rfl⟩
  have sz : ∀ l : List UInt8, (⟨l.toArray⟩ : ByteArray).size = l.length := fun l => by show l.toArray.size = _; simp
  have CF := fmt_any hi lo X hX0 hX w hE.tabs hE.n1
  have CF2 : Calls Tryz.prog 29 #[.float .f64 X, .int .u8 101, .int .i64 (-1), .int .i64 64] w (Bel w (.string F)) := by
    rw [hF]
    exact CF
  have CC : ∀ W, Env hi lo W → Calls Tryz.prog 28 #[.string F, .string ⟨#[101]⟩] W (Bel W (.tuple #[.string H, .string P, .bool true])) := fun W hW =>
    cut_c hW F ⟨#[101]⟩ H P true (by rw [hF, sz]; omega) (by rw [hF, hH, hP, str_mk, str_mk, str_mk]; exact hcut)
  have CA : ∀ W, Calls Tryz.prog 30 #[.string P] W (Bel W (.tuple #[.int .i64 (posK hi lo X - 1), .nilIface])) := fun W =>
    atoi_c W P _ (by rw [hP, sz]; omega) (by rw [hP, str_mk]; exact hato)
  have CR : ∀ W, Env hi lo W → Calls Tryz.prog 32 #[.string H, .string ⟨#[46]⟩, .string ⟨#[]⟩, .int .i64 1] W (Bel W (.string D)) := fun W hW =>
    replace_c hW H ⟨#[46]⟩ D 1 (by rw [hH, sz]; omega) (by decide) (by rw [hH, hD, str_mk, str_mk]; exact hrep)
  obtain ⟨k, hk⟩ : ∃ k, k = posK hi lo X := ⟨_, rfl⟩
  have CL : ∀ W, Env hi lo W → Calls Tryz.prog 31 #[.string D, .int .i64 k] W fun x w' => (∃ T : ByteArray, T.data.toList = posT hi lo X ∧ x = .returned (.string T)) ∧ Below W.heap.size W w' := fun W hW => by
    have hds : D.size = (posD hi lo X).length := by rw [hD, sz]
    refine (laid_any D k (by omega) (by omega) (by omega) (by omega) W hW.tabs.2.2).mono fun e w' h => ?_
    refine ⟨⟨⟨(laidT D.data.toList k).toArray⟩, ?_, h.1⟩, h.2⟩
    rw [str_mk, hD, str_mk, hk]
    rfl
  rw [← hk] at p3 p4 CA
  have hr := right_pos hX
  have CRt := fun W => right_num X W
  rw [hr] at CRt
  have CAb := fun W => abs_any X W
  obtain ⟨A, hA⟩ : ∃ A, A = absF X := ⟨_, rfl⟩
  rw [← hA] at CAb
  have hbg : (fo A 4742290407621132288 == some .gt) = false := by rw [hA]; exact hb
  have HE := Lib.hid hE
  have HF := Lib.hid CF2
  have HC := Lib.hid CC
  have HA := Lib.hid CA
  have HR := Lib.hid CR
  have HL := Lib.hid CL
  have HRt := Lib.hid CRt
  have HAb := Lib.hid CAb
  clear hE CF CF2 CC CA CR CL CRt CAb hr hA hb hX0 hX p1 p2 hdg hf hl20 l1 l2 l3 hcut hrep hato hF hH hP hD sz hk
  go_enter Tryz.func16, Tryz.ntmps16
  go_wp2_with (first
    | (go_at_call 26; (with_reducible refine (HRt.out _).mono ?_); rintro e w' ⟨rfl, rfl⟩)
    | (go_at_call 27; (with_reducible refine (HAb.out _).mono ?_); rintro e w' ⟨rfl, rfl⟩)
    | (go_at_call 29; (with_reducible refine HF.out.mono ?_); rintro e w1 ⟨rfl, hb1⟩; have E1 := Lib.hid (HE.out.later hb1); have B1 := Lib.hid hb1; clear hb1)
    | (go_at_call 28; (with_reducible refine (HC.out _ E1.out).mono ?_); rintro e w2 ⟨rfl, hb2⟩; have E2 := Lib.hid (E1.out.later hb2); have B2 := Lib.hid (B1.out.trans (hb2.mono B1.out.size)); clear hb2)
    | (go_at_call 30; (with_reducible refine (HA.out _).mono ?_); rintro e w3 ⟨rfl, hb3⟩; have E3 := Lib.hid (E2.out.later hb3); have B3 := Lib.hid (B2.out.trans (hb3.mono B2.out.size)); clear hb3)
    | (go_at_call 32; (with_reducible refine (HR.out _ E3.out).mono ?_); rintro e w4 ⟨rfl, hb4⟩; have E4 := Lib.hid (E3.out.later hb4); have B4 := Lib.hid (B3.out.trans (hb4.mono B3.out.size)); clear hb4)
    | (go_at_call 31; (with_reducible refine (HL.out _ E4.out).mono ?_); rintro e w5 ⟨⟨T, hT, rfl⟩, hb5⟩; have HT := Lib.hid hT; have B5 := Lib.hid (B4.out.trans (hb5.mono B4.out.size)); clear hb5 hT))
  go_ret2
  exact ⟨⟨T, HT.out, rfl⟩, B5.out⟩
def prOk (x : Nat) : Bool := rightF x && !bigF x
/-- a number's text, and the error told -/
def prT (hi lo : Nat → Nat) (x : Nat) : List UInt8 := if prOk x = true then (if x = 0 then [48] else if 9223372036854775808 ≤ x then 45 :: posT hi lo (x - 9223372036854775808) else posT hi lo x) else []
def prE (x : Nat) : Int := if prOk x = true then 0 else 2
def PrPost (hi lo : Nat → Nat) (x : Nat) (w : World) (e : Ending) (w' : World) : Prop := (∃ T : ByteArray, T.data.toList = prT hi lo x ∧ e = .returned (.tuple #[.string T, .int .i64 (prE x)])) ∧ Below w.heap.size w w'
theorem pos_len (hi lo : Nat → Nat) (X : Nat) (hX0 : 0 < X) (hX : X < 9218868437227405312) (hh : ∀ i, i < 696 → 9223372036854775808 ≤ hi i ∧ hi i < 18446744073709551616) : (posT hi lo X).length ≤ 100 := by
  obtain ⟨p1, p2, p3, p4⟩ := pos_bd hi lo X hX0 hX hh
  unfold posT laidT
  split
  · split
    · rw [List.length_append, Lib.repeatL_length]
      simp
      omega
    · simp only [List.length_append, List.length_take, List.length_drop, List.length_cons, List.length_nil]
      omega
  · split
    · rw [List.length_append, List.length_append, Lib.repeatL_length]
      simp
      omega
    · have := Lib.itoa_length_le (posK hi lo X - 1) (by omega) (by omega)
      rw [List.length_append, List.length_append]
      split
      · simp only [List.length_append, List.length_take, List.length_drop, List.length_cons, List.length_nil]
        omega
      · simp only [List.length_cons, List.length_nil]
        omega
set_option maxRecDepth 100000 in
set_option maxHeartbeats 1000000 in
theorem print_any (hi lo : Nat → Nat) (x : Nat) (hx : x < 18446744073709551616) (w : World) (hE : Env hi lo w) :
    Calls Tryz.prog 16 #[.float .f64 x] w (PrPost hi lo x w) := by
  have CRt := fun W => right_num x W
  have CAb := fun W => abs_any x W
  obtain ⟨A, hA⟩ : ∃ A, A = absF x := ⟨_, rfl⟩
  rw [← hA] at CAb
  have hbg : (fo A 4742290407621132288 == some .gt) = bigF x := by rw [hA]; rfl
  cases hr : rightF x with
  | false =>
    rw [hr] at CRt
    have ho : prOk x = false := by unfold prOk; rw [hr]; rfl
    have e1 : prT hi lo x = [] := by unfold prT; rw [if_neg (by rw [ho]; decide)]
    have e2 : prE x = 2 := by unfold prE; rw [if_neg (by rw [ho]; decide)]
    have HRt := Lib.hid CRt
    have HQ := Lib.hid (And.intro e1 e2)
    clear hE CRt CAb hA hbg hr ho e1 e2
    go_enter Tryz.func16, Tryz.ntmps16
    go_wp2_with (go_at_call 26; (with_reducible refine (HRt.out _).mono ?_); rintro e w' ⟨rfl, rfl⟩)
    go_ret2
    exact ⟨⟨⟨#[]⟩, by rw [HQ.out.1], by rw [HQ.out.2]; rfl⟩, Below.refl _ _⟩
  | true =>
    rw [hr] at CRt
    cases hb : bigF x with
    | true =>
      rw [hb] at hbg
      have ho : prOk x = false := by unfold prOk; rw [hr, hb]; rfl
      have e1 : prT hi lo x = [] := by unfold prT; rw [if_neg (by rw [ho]; decide)]
      have e2 : prE x = 2 := by unfold prE; rw [if_neg (by rw [ho]; decide)]
      have HRt := Lib.hid CRt
      have HAb := Lib.hid CAb
      have HQ := Lib.hid (And.intro e1 e2)
      clear hE CRt CAb hA hr hb ho e1 e2
      go_enter Tryz.func16, Tryz.ntmps16
      go_wp2_with (first
        | (go_at_call 26; (with_reducible refine (HRt.out _).mono ?_); rintro e w' ⟨rfl, rfl⟩)
        | (go_at_call 27; (with_reducible refine (HAb.out _).mono ?_); rintro e w' ⟨rfl, rfl⟩))
      go_ret2
      exact ⟨⟨⟨#[]⟩, by rw [HQ.out.1], by rw [HQ.out.2]; rfl⟩, Below.refl _ _⟩
    | false =>
      obtain ⟨fx, nx⟩ := right_word hx hr
      obtain ⟨z1, z2⟩ := fo_zero hx fx nx
      rw [hb] at hbg
      have ho : prOk x = true := by unfold prOk; rw [hr, hb]; rfl
      have e2 : prE x = 0 := by unfold prE; rw [if_pos ho]
      by_cases h0 : x = 0
      · have e1 : prT hi lo x = [48] := by unfold prT; rw [if_pos ho, if_pos h0]
        rw [decide_eq_true h0] at z1
        have HRt := Lib.hid CRt
        have HAb := Lib.hid CAb
        have HQ := Lib.hid (And.intro e1 e2)
        clear hE CRt CAb hA hr hb ho e1 e2 h0 z2 fx nx hx
        go_enter Tryz.func16, Tryz.ntmps16
        go_wp2_with (first
          | (go_at_call 26; (with_reducible refine (HRt.out _).mono ?_); rintro e w' ⟨rfl, rfl⟩)
          | (go_at_call 27; (with_reducible refine (HAb.out _).mono ?_); rintro e w' ⟨rfl, rfl⟩))
        go_ret2
        exact ⟨⟨⟨#[48]⟩, by rw [HQ.out.1], by rw [HQ.out.2]; rfl⟩, Below.refl _ _⟩
      · rw [decide_eq_false h0] at z1
        by_cases hn : 9223372036854775808 ≤ x
        · rw [decide_eq_true hn] at z2
          have e1 : prT hi lo x = 45 :: posT hi lo (x - 9223372036854775808) := by unfold prT; rw [if_pos ho, if_neg h0, if_pos hn]
          have hng := neg_w x hx
          rw [if_pos hn] at hng
          have hy : x - 9223372036854775808 = x % 9223372036854775808 := by omega
          obtain ⟨Y, hY⟩ : ∃ Y, Y = x - 9223372036854775808 := ⟨_, rfl⟩
          rw [← hY] at hng e1
          have hbY : bigF Y = false := by
            rw [big_w (by omega) (by omega), show Y % 9223372036854775808 = x % 9223372036854775808 by omega, ← big_w hx fx]
            exact hb
          have hun : ∀ W : World, (Op.unary .neg (.float .f64 x)).run Tryz.prog W = .ok (.float .f64 Y) W := fun W => by rw [← hng]; rfl
          clear hng
          have CP := print_pos hi lo Y (by omega) (by omega) hbY w hE
          have hl := pos_len hi lo Y (by omega) (by omega) hE.tabs.2.1
          have CP2 : Calls Tryz.prog 16 #[.float .f64 Y] w fun x w' => (∃ T : ByteArray, T.size ≤ 100 ∧ T.data.toList = posT hi lo Y ∧ x = .returned (.tuple #[.string T, .int .i64 0])) ∧ Below w.heap.size w w' :=
            CP.mono fun e w' h => by
              obtain ⟨⟨T, hT, he⟩, hb⟩ := h
              refine ⟨⟨T, ?_, hT, he⟩, hb⟩
              rw [← hT] at hl
              simpa using hl
          have HRt := Lib.hid CRt
          have HAb := Lib.hid CAb
          have HP := Lib.hid CP2
          have HQ := Lib.hid (And.intro e1 e2)
          clear hE CRt CAb hA hr hb ho e1 e2 h0 fx nx hn hy hY hbY CP CP2 hl hx
          go_enter Tryz.func16, Tryz.ntmps16
          go_wp2_with (first
            | (go_at_call 26; (with_reducible refine (HRt.out _).mono ?_); rintro e w' ⟨rfl, rfl⟩)
            | (go_at_call 27; (with_reducible refine (HAb.out _).mono ?_); rintro e w' ⟨rfl, rfl⟩)
            | (go_at_call 16; (with_reducible refine HP.out.mono ?_); rintro e w1 ⟨⟨T, hT9, hT, rfl⟩, hb1⟩; have B1 := Lib.hid hb1; have HT := Lib.hid hT; clear hT hb1))
          go_ret2
          exact ⟨⟨⟨#[45]⟩ ++ T, by rw [HQ.out.1, str_app, HT.out]; rfl, by rw [HQ.out.2]; rfl⟩, B1.out⟩
        · have e1 : prT hi lo x = posT hi lo x := by unfold prT; rw [if_pos ho, if_neg h0, if_neg hn]
          refine (print_pos hi lo x (by omega) (by omega) hb w hE).mono fun e w' h => ?_
          obtain ⟨⟨T, hT, he⟩, hb⟩ := h
          exact ⟨⟨T, by rw [hT, e1], by rw [he, e2]⟩, hb⟩
end Go.Proofs.YtihhhglnnapkoaaGreatDoor.prnw
