/- burnishlaw16.DecimalBack, whole. Condition: the library's tables hold what the row lists. -/
import Derived.Test.YtbjengfoaobdbaaGreatDoorDeL
namespace Go.Proofs.YtbjengfoaobdbaaGreatDoor.lawd
open Go.RowKit
open Go.Proofs.YtbjengfoaobdbaaGreatDoor.nodew
open Go.Proofs.YtbjengfoaobdbaaGreatDoor.rdf
open Go.Proofs.YtbjengfoaobdbaaGreatDoor.prnw
open Go.Proofs.YtbjengfoaobdbaaGreatDoor.fpm
open Go.Proofs.YtbjengfoaobdbaaGreatDoor.dmx
open Go.Proofs.YtbjengfoaobdbaaGreatDoor.flatm
open Go.Proofs.YtbjengfoaobdbaaGreatDoor.dirw

theorem tp_no (T : List UInt8) (h : T.head? ≠ some 45) : Lib.trimPrefix T [45] = T ∧ Lib.trimPrefix (45 :: T) [45, 45] = 45 :: T := by
  unfold Lib.trimPrefix Lib.hasPrefix
  cases T with
  | nil => exact ⟨rfl, rfl⟩
  | cons c T =>
    have hc : c ≠ 45 := fun e => h (by rw [e]; rfl)
    have h1 : ((45 : UInt8) == c) = false := by rw [beq_eq_false_iff_ne]; exact fun e => hc e.symm
    constructor
    · rw [List.isPrefixOf_cons_cons, h1]
      rfl
    · rw [List.isPrefixOf_cons_cons, List.isPrefixOf_cons_cons, h1]
      rfl
theorem tp_yes (T : List UInt8) : Lib.trimPrefix (45 :: T) [45] = T ∧ Lib.trimPrefix (45 :: 45 :: T) [45, 45] = T := ⟨rfl, rfl⟩
def bB (l : List UInt8) : ByteArray := ⟨l.toArray⟩
theorem bB_l (l : List UInt8) : (bB l).data.toList = l := str_mk l
theorem bB_s (l : List UInt8) : (bB l).size = l.length := by
  show l.toArray.size = _
  simp
theorem bB_e (l : List UInt8) : (bB l).toList.isEmpty = l.isEmpty := by
  rw [ByteArray.toList_eq, bB_l]
theorem trim_c (S P R : ByteArray) (h : Lib.trimPrefix S.data.toList P.data.toList = R.data.toList) : RowKit.Hid (∀ v : World, Calls Tryz.prog 16 #[.string S, .string P] v fun e w' => e = .returned (.string R) ∧ w' = v) := Lib.hid fun v => by
  have := Tryz.strings_TrimPrefix S P v
  rw [h, show (⟨R.data.toList.toArray⟩ : ByteArray) = R from str_ext (str_mk _)] at this
  exact this
theorem contains_c (B : Nat) (S P : ByteArray) (b : Bool) (hs : S.size ≤ 100) (h : Lib.contains S.data.toList P.data.toList = b) : RowKit.Hid (∀ v : World, LE B v → Calls Tryz.prog 20 #[.string S, .string P] v fun e w' => e = .returned (.bool b) ∧ w' = v) := Lib.hid fun v hE => by
  obtain ⟨m, hm⟩ := hE.en.ml
  have := Tryz.strings_Contains S P m v (by omega) hm
  rw [h] at this
  exact this
theorem core_any (B x y X : Nat) (S S2 : ByteArray) (hx : x < 18446744073709551616) (hy : y < 18446744073709551616) (X0 : 0 < X) (Xi : X < 9218868437227405312) (habs : absF x = X) (okx : prOk x = true) (oky : prOk y = true) (okX : prOk X = true)
    (hS : S.data.toList = prT hiP loP x) (hS2 : S2.data.toList = prT hiP loP y) (s1 : S.size ≤ 24) (s2 : S2.size ≤ 24) (hx0 : x ≠ 0) (hx63 : x ≠ 9223372036854775808) (hfin : x % 9223372036854775808 < 9218868437227405312)
    (ht1 : Lib.trimPrefix (45 :: S2.data.toList) [45, 45] = S.data.toList) (ht2 : Lib.trimPrefix S.data.toList [45] = posT hiP loP X) (hun : Op.negFloat .f64 x = y) (w : World) (hE : LE B w) :
    Calls Tryz.prog 5 #[.float .f64 x] w (Bel w (.bool true)) := by
  obtain ⟨H, P, bl, hq⟩ := cut_pos X X0 Xi
  obtain ⟨hcut, hlen, h1, q⟩ := hq
  have hHP : H.length ≤ 23 ∧ P.length ≤ 23 := by
    unfold Lib.cut at hcut
    split at hcut
    · injection hcut with e1 e2
      injection e2 with e2 e3
      rw [← e1, ← e2, List.length_take, List.length_drop]
      omega
    · injection hcut with e1 e2
      injection e2 with e2 e3
      rw [← e1, ← e2]
      exact ⟨hlen, by simp⟩
  have P1 : RowKit.Hid (∀ v : World, LE B v → Calls Tryz.prog 14 #[.float .f64 x] v (Bel v (.tuple #[.string S, .int .i64 0]))) := Lib.hid fun v h => by
    have := print_c B x hx S hS v h
    rw [prE_ok x okx] at this
    exact this
  have P2 : RowKit.Hid (∀ v : World, LE B v → Calls Tryz.prog 14 #[.float .f64 y] v (Bel v (.tuple #[.string S2, .int .i64 0]))) := Lib.hid fun v h => by
    have := print_c B y hy S2 hS2 v h
    rw [prE_ok y oky] at this
    exact this
  have hrx : rightF x = true := by
    unfold prOk at okx
    rw [Bool.and_eq_true] at okx
    exact okx.1
  have HR : RowKit.Hid (∀ v : World, Calls Tryz.prog 8 #[.float .f64 x] v fun e w' => e = .returned (.bool true) ∧ w' = v) := Lib.hid fun v => by
    have := right_num x v
    rw [hrx] at this
    exact this
  have HA : RowKit.Hid (∀ v : World, Calls Tryz.prog 15 #[.float .f64 x] v fun e w' => e = .returned (.float .f64 X) ∧ w' = v) := Lib.hid fun v => by
    have := abs_any x v
    rw [habs] at this
    exact this
  have HS : RowKit.Hid (∀ v : World, LE B v → Calls Tryz.prog 9 #[.string S, .float .f64 x] v (Bel v (.bool true))) := Lib.hid fun v h => says_yes B S x v h (by rw [hS]; exact read_prT x hx okx)
  have T1 := trim_c (⟨#[45]⟩ ++ S2) ⟨#[45, 45]⟩ S (by rw [str_app]; exact ht1)
  have T2 := trim_c S ⟨#[45]⟩ (bB (posT hiP loP X)) (by rw [bB_l]; exact ht2)
  have HC : RowKit.Hid (∀ v : World, LE B v → Calls Tryz.prog 17 #[.string (bB (posT hiP loP X)), .string ⟨#[101]⟩] v (Bel v (.tuple #[.string (bB H), .string (bB P), .bool bl]))) := Lib.hid fun v h => cut_c h.en _ _ _ _ _ (by rw [bB_s]; omega) (by rw [bB_l, bB_l, bB_l]; exact hcut)
  obtain ⟨R, hR⟩ : ∃ R, Lib.replace H [46] [] 1 = R := ⟨_, rfl⟩
  have HP : RowKit.Hid (∀ v : World, LE B v → Calls Tryz.prog 19 #[.string (bB H), .string ⟨#[46]⟩, .string ⟨#[]⟩, .int .i64 1] v (Bel v (.string (bB R)))) := Lib.hid fun v h => replace_c h.en _ _ _ _ (by rw [bB_s]; omega) (by decide) (by rw [bB_l, bB_l]; exact hR)
  obtain ⟨G, hG⟩ : ∃ G, Lib.trimLeftB R 48 = G := ⟨_, rfl⟩
  have TL : RowKit.Hid (∀ v : World, Calls Tryz.prog 18 #[.string (bB R), .string ⟨#[48]⟩] v fun e w' => e = .returned (.string (bB G)) ∧ w' = v) := Lib.hid fun v => by
    have := Tryz.strings_TrimLeft_one (bB R) 48 (by decide) v
    rw [bB_l, hG] at this
    exact this
  have AW : RowKit.Hid (∀ v : World, LE B v → Calls Tryz.prog 10 #[] v (Bel v (.bool true))) := Lib.hid fun v h => awake_any B v h
  have hun2 : ∀ W : World, (Op.unary .neg (.float .f64 x)).run Tryz.prog W = .ok (.float .f64 y) W := fun W => by rw [← hun]; rfl
  have f1 : (fo X 4742290407621132288 == some .gt) = false := by
    have hb : bigF X = false := by
      unfold prOk at okX
      rw [Bool.and_eq_true] at okX
      simpa using okX.2
    unfold bigF at hb
    rw [abs_w X (by omega), Nat.mod_eq_of_lt (by omega)] at hb
    exact hb
  have f2 : (fo x 0 == some .eq) = false := by
    rw [(fo_zero hx hfin hx63).1]
    exact decide_eq_false hx0
  rw [hR, hG] at q
  rcases q with ⟨c1, g2, hRl⟩ | ⟨c1, g4, Y, hd, hYi, hYX⟩
  · obtain ⟨G2, hG2⟩ : ∃ G2, Lib.trimRightB G 48 = G2 := ⟨_, rfl⟩
    rw [hG2] at g2
    have TR : RowKit.Hid (∀ v : World, Calls Tryz.prog 21 #[.string (bB G), .string ⟨#[48]⟩] v fun e w' => e = .returned (.string (bB G2)) ∧ w' = v) := Lib.hid fun v => by
      have hGl : G.length ≤ 1000 := by
        rw [← hG]
        have := dropW_len R
        unfold Lib.trimLeftB
        omega
      have := Tryz.strings_TrimRight_one (bB G) 48 (by decide) v (by rw [bB_s]; omega)
      rw [bB_l, hG2] at this
      exact this
    exact core_no B x y X S S2 (bB (posT hiP loP X)) (bB H) (bB P) (bB R) (bB G) bl w hE P1 P2 HR HA HS T1 T2 HC HP TL AW hun2 f1 f2 s1 s2 (contains_c B (bB H) ⟨#[46]⟩ false (by rw [bB_s]; omega) (by rw [bB_l]; exact c1)) (bB G2) TR (by rw [bB_s]; exact g2)
  · have CT := contains_c B (bB H) ⟨#[46]⟩ true (by rw [bB_s]; omega) (by rw [bB_l]; exact c1)
    by_cases g2 : G.length < 2
    · exact core_few B x y X S S2 (bB (posT hiP loP X)) (bB H) (bB P) (bB R) (bB G) bl w hE P1 P2 HR HA HS T1 T2 HC HP TL AW hun2 f1 f2 s1 s2 CT (by rw [bB_s]; exact g2)
    · have f3 : (fo Y X == some .eq) = false := by
        have := fo_eqw false Y X (by have : infX = infW := rfl; omega) (by have := infW_eq; omega)
        rw [show dcw.sgn false Y = Y from rfl, show dcw.sgn false X = X from rfl] at this
        rw [this]
        exact decide_eq_false hYX
      have AD : RowKit.Hid (∀ v : World, Calls Tryz.prog 22 #[.float .f64 Y, .float .f64 0, .bool true] v (Bel v (.tuple #[.float .f64 Y, .int .i64 0]))) := Lib.hid fun v => addz_any Y hYi v
      have hlow : ((bB H).extract 0 ((bB H).size - 1)).data.toList = H.take (H.length - 1) := by rw [str_head, bB_l, bB_s]
      by_cases hP : P = []
      · have hdd : decR ((bB H).extract 0 ((bB H).size - 1) ++ bB P).data.toList = (Y, 0) := by
          rw [str_app, hlow, bB_l, hP]
          rw [hP] at hd
          exact hd
        exact core_whole B x y X S S2 (bB (posT hiP loP X)) (bB H) (bB P) (bB R) (bB G) bl w hE P1 P2 HR HA HS T1 T2 HC HP TL AW hun2 f1 f2 s1 s2 CT (by rw [bB_s]; omega) (by rw [bB_s]; exact g4) Y (by rw [bB_s]; exact h1) (by rw [bB_s]; omega) (by rw [bB_s]; omega) f3 AD
          (Lib.hid fun v h => by have := dparse_any B ((bB H).extract 0 ((bB H).size - 1) ++ bB P) v h.de; rw [hdd] at this; exact this) (by rw [hP]; exact bB_e [])
      · have hdd : decR ((bB H).extract 0 ((bB H).size - 1) ++ (⟨#[101]⟩ ++ bB P)).data.toList = (Y, 0) := by
          rw [str_app, str_app, hlow, bB_l]
          unfold tailE at hd
          rw [if_neg hP] at hd
          exact hd
        exact core_exp B x y X S S2 (bB (posT hiP loP X)) (bB H) (bB P) (bB R) (bB G) bl w hE P1 P2 HR HA HS T1 T2 HC HP TL AW hun2 f1 f2 s1 s2 CT (by rw [bB_s]; omega) (by rw [bB_s]; exact g4) Y (by rw [bB_s]; exact h1) (by rw [bB_s]; omega) (by rw [bB_s]; omega) f3 AD
          (Lib.hid fun v h => by have := dparse_any B ((bB H).extract 0 ((bB H).size - 1) ++ (⟨#[101]⟩ ++ bB P)) v h.de; rw [hdd] at this; exact this) (by
            rw [bB_e]
            cases P with
            | nil => exact absurd rfl hP
            | cons c P => rfl)
theorem back_any (B : Nat) (x : Nat) (hx : x < 18446744073709551616) (w : World) (hE : LE B w) : Calls Tryz.prog 5 #[.float .f64 x] w (Bel w (.bool true)) := by
  by_cases hok : prOk x = true
  · by_cases h0 : x = 0
    · subst h0
      exact back_zero B w hE
    · obtain ⟨X0, Xi, habs, okX, okN, hor⟩ := pr_turn x (x % 9223372036854775808) hx hok h0 rfl
      obtain ⟨X, hX⟩ : ∃ X, x % 9223372036854775808 = X := ⟨_, rfl⟩
      rw [hX] at X0 Xi habs okX okN hor
      obtain ⟨H, P, bl, hq⟩ := cut_pos X X0 Xi
      have hlen := hq.len
      have hhd := (pos_says X X0 Xi).hd
      have t1 : prT hiP loP X = posT hiP loP X := prT_pos hiP loP X okX (by omega) (by omega)
      have t2 : prT hiP loP (9223372036854775808 + X) = 45 :: posT hiP loP X := by
        unfold prT
        rw [if_pos okN, if_neg (by omega), if_pos (by omega), show 9223372036854775808 + X - 9223372036854775808 = X by omega]
      have hneg := neg_w x hx
      rcases hor with rfl | rfl
      · rw [if_neg (by omega), Nat.add_comm] at hneg
        exact core_any B x (9223372036854775808 + x) x (bB (posT hiP loP x)) (bB (45 :: posT hiP loP x)) hx (by omega) X0 Xi habs hok okN okX (by rw [bB_l, t1]) (by rw [bB_l, t2]) (by rw [bB_s]; omega) (by rw [bB_s, List.length_cons]; omega) h0 (by omega) (by omega)
          (by rw [bB_l, bB_l]; exact (tp_yes _).2) (by rw [bB_l]; exact (tp_no _ hhd).1) hneg w hE
      · rw [if_pos (by omega), show 9223372036854775808 + X - 9223372036854775808 = X by omega] at hneg
        exact core_any B (9223372036854775808 + X) X X (bB (45 :: posT hiP loP X)) (bB (posT hiP loP X)) hx (by omega) X0 Xi habs hok okX okX (by rw [bB_l, t2]) (by rw [bB_l, t1]) (by rw [bB_s, List.length_cons]; omega) (by rw [bB_s]; omega) h0 (by omega) (by omega)
          (by rw [bB_l, bB_l]; exact (tp_no _ hhd).2) (by rw [bB_l]; exact (tp_yes _).1) hneg w hE
  · exact back_no B x hx (by simpa using hok) w hE
end Go.Proofs.YtbjengfoaobdbaaGreatDoor.lawd
