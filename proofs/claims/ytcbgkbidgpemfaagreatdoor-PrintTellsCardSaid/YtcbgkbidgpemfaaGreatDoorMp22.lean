/- decimal.laid: digits by a place of the point. No conditions but those stated. -/
import Derived.Test.YtcbgkbidgpemfaaGreatDoorMp21
import Derived.Test.YtcbgkbidgpemfaaGreatDoorMp13
import Derived.Test.YtcbgkbidgpemfaaGreatDoorMp06
import Derived.Test.YtcbgkbidgpemfaaGreatDoorMp18
namespace Go.Proofs.YtcbgkbidgpemfaaGreatDoor.prnw
open Go.RowKit
open Go.Shelf
open Go.Sort
open Go.Proofs.YtcbgkbidgpemfaaGreatDoor.nodew
open Go.Proofs.YtcbgkbidgpemfaaGreatDoor.chkw

theorem str_ext {S T : ByteArray} (h : S.data.toList = T.data.toList) : S = T := ByteArray.ext (Array.toList_inj.1 h)
theorem str_app (S T : ByteArray) : (S ++ T).data.toList = S.data.toList ++ T.data.toList := by simp
theorem str_mk (l : List UInt8) : (⟨l.toArray⟩ : ByteArray).data.toList = l := by simp
theorem str_head (S : ByteArray) (c : Nat) : (S.extract 0 c).data.toList = S.data.toList.take c := by rw [Lib.extract_data]; simp
theorem str_tail (S : ByteArray) (c : Nat) : (S.extract c S.size).data.toList = S.data.toList.drop c := by
  rw [Lib.extract_data]
  exact List.take_of_length_le (by rw [List.length_drop]; simp)
theorem ret_str {S : ByteArray} {l : List UInt8} (h : S.data.toList = l) : Ending.returned (.string S) = .returned (strV l) := by
  rw [← h]
  rfl
/-- digits, by a place of the point -/
def laidT (D : List UInt8) (k : Int) : List UInt8 :=
  if 1 ≤ k ∧ k ≤ 15 then
    if (D.length : Int) ≤ k then D ++ Lib.repeatL [48] (k - D.length).toNat
    else D.take k.toNat ++ [46] ++ D.drop k.toNat
  else if -4 ≤ k ∧ k ≤ 0 then [48, 46] ++ Lib.repeatL [48] (-k).toNat ++ D
  else (if 1 < D.length then D.take 1 ++ [46] ++ D.drop 1 else D) ++ [101] ++ Lib.itoa (k - 1)
theorem below_grow (w : World) (k : Nat) (os : Array Obj) : Below w.heap.size w (grow (w.drewN k) os) :=
  ⟨rfl, rfl, rfl, by simp [grow], fun i hi => by
    show (w.heap ++ os)[i]? = w.heap[i]?
    exact Array.getElem?_append_left hi⟩
theorem rep_c (c : Nat) (hc : c ≤ 400) (W : World) : Calls Tryz.prog 118 #[.string ⟨#[48]⟩, .int .i64 c] W fun e w' => (∃ R : ByteArray, R.size ≤ 400 ∧ R.data.toList = Lib.repeatL [48] c ∧ e = .returned (.string R)) ∧ Below W.heap.size W w' := by
  refine (Tryz.strings_Repeat ⟨#[48]⟩ c W (by omega) (by show 1 * c ≤ _; omega)).mono fun e w' h => ?_
  refine ⟨⟨⟨(Lib.repeatL [48] c).toArray⟩, ?_, str_mk _, h.1⟩, h.2⟩
  show (Lib.repeatL [48] c).toArray.size ≤ 400
  rw [List.size_toArray, Lib.repeatL_length]
  simpa using hc
theorem itoa_c (k : Int) (k0 : -4000 ≤ k) (k1 : k ≤ 4999) (W : World) (htab : Lib.TabIs Tryz.prog W "internal/strconv.uint64pow10" .u64 Lib.pow10Tab) : Calls Tryz.prog 79 #[.int .i64 k] W fun e w' => (∃ R : ByteArray, R.size ≤ 400 ∧ R.data.toList = Lib.itoa k ∧ e = .returned (.string R)) ∧ Below W.heap.size W w' := by
  refine (Tryz.strconv_Itoa k (by omega) (by omega) W htab).mono fun e w' h => ?_
  obtain ⟨he, n, os, hw⟩ := h
  refine ⟨⟨⟨(Lib.itoa k).toArray⟩, ?_, str_mk _, he⟩, by rw [hw]; exact below_grow W n os⟩
  show (Lib.itoa k).toArray.size ≤ 400
  rw [List.size_toArray]
  exact Nat.le_trans (Lib.itoa_length_le k (by omega) (by omega)) (by decide)
set_option maxRecDepth 100000 in
set_option maxHeartbeats 1000000 in
theorem laid_any (S : ByteArray) (k : Int) (hn1 : 1 ≤ S.size) (hn : S.size ≤ 24) (k0 : -400 ≤ k) (k1 : k ≤ 400) (w : World) (htab : Lib.TabIs Tryz.prog w "internal/strconv.uint64pow10" .u64 Lib.pow10Tab) :
    Calls Tryz.prog 85 #[.string S, .int .i64 k] w (TxPost w (laidT S.data.toList k)) := by
  have hsz : S.data.toList.length = S.size := by simp
  obtain ⟨T, hT⟩ : ∃ T, T = laidT S.data.toList k := ⟨_, rfl⟩
  rw [← hT]
  unfold laidT at hT
  rw [hsz] at hT
  by_cases h1 : 1 ≤ k ∧ k ≤ 15
  · rw [if_pos h1] at hT
    obtain ⟨h1, h2⟩ := h1
    by_cases h3 : (S.size : Int) ≤ k
    · rw [if_pos h3] at hT
      obtain ⟨c, hc⟩ : ∃ c : Nat, c = (k - S.size).toNat := ⟨_, rfl⟩
      have hci : k - (S.size : Int) = (c : Int) := by omega
      rw [← hc] at hT
      have HT := Lib.hid hT
      have HC := Lib.hid (rep_c c (by omega))
      have hS0 : (0 : Int) ≤ (S.size : Int) := by omega
      have hS9 : (S.size : Int) ≤ 24 := by omega
      clear hT hsz hc htab
      go_enter Tryz.func85, Tryz.ntmps85
      go_wp2_with (go_at_call 118; (with_reducible refine (HC.out _).mono ?_); rintro e w2 ⟨⟨R, hR0, hR, rfl⟩, hb2⟩; have HR := Lib.hid hR; clear hR)
      go_ret
      exact ⟨ret_str (by rw [str_app, HR.out, HT.out]), hb2⟩
    · rw [if_neg h3] at hT
      obtain ⟨c, rfl⟩ := Int.eq_ofNat_of_zero_le (show 0 ≤ k by omega)
      rw [Int.toNat_natCast] at hT
      have HT := Lib.hid hT
      clear hT hsz htab
      have h3' : decide (S.size ≤ c) = false := decide_eq_false (by omega)
      have h4 : c ≤ S.size := by omega
      have h5 : (c : Int) ≤ (S.size : Int) := by omega
      go_enter Tryz.func85, Tryz.ntmps85
      go_wp2_with fail
      go_quiet (fail)
      go_wp2_with fail
      go_ret
      exact ⟨ret_str (by rw [str_app, str_app, str_head, str_tail, HT.out]), below_drewN' (Below.refl _ _) _⟩
  · rw [if_neg h1] at hT
    by_cases h3 : -4 ≤ k ∧ k ≤ 0
    · rw [if_pos h3] at hT
      obtain ⟨c, hc⟩ : ∃ c : Nat, c = (-k).toNat := ⟨_, rfl⟩
      have hci : k = -(c : Int) := by omega
      rw [← hc] at hT
      have HT := Lib.hid hT
      have HC := Lib.hid (rep_c c (by omega))
      have hc4 : c ≤ 4 := by omega
      have hc0 : (0 : Int) ≤ (c : Int) := by omega
      have hc9 : (c : Int) ≤ 4 := by omega
      clear hT hsz hc htab h1 h3 k0 k1
      subst hci
      go_enter Tryz.func85, Tryz.ntmps85
      go_wp2_with (go_at_call 118; (with_reducible refine (HC.out _).mono ?_); rintro e w2 ⟨⟨R, hR0, hR, rfl⟩, hb2⟩; have HR := Lib.hid hR; clear hR)
      go_ret
      exact ⟨ret_str (by rw [str_app, str_app, HR.out, HT.out]), hb2⟩
    · rw [if_neg h3] at hT
      have HI := Lib.hid (fun n => itoa_c (k - 1) (by omega) (by omega) (w.drewN n) htab)
      have HJ := Lib.hid (itoa_c (k - 1) (by omega) (by omega) w htab)
      have hk1 : ¬ (1 ≤ k ∧ k ≤ 15) := h1
      have hS0 : (0 : Int) ≤ (S.size : Int) := by omega
      have hS9 : (S.size : Int) ≤ 24 := by omega
      by_cases hS1 : 1 < S.size
      · rw [if_pos hS1] at hT
        have HT := Lib.hid hT
        have s1 : 1 ≤ S.size := by omega
        have s2 : (1 : Int) ≤ (S.size : Int) := by omega
        have s3 : (1 : Int) < (S.size : Int) := by omega
        have s4 : decide (1 < S.size) = true := decide_eq_true hS1
        clear hT hsz htab h1
        rcases Int.lt_or_le k 1 with hlt | hge
        · have k4 : k < -4 := by omega
          clear hk1 h3
          go_enter Tryz.func85, Tryz.ntmps85
          go_wp2_with fail
          go_quiet (fail)
          go_wp2_with (go_at_call 79; (with_reducible refine (HI.out _).mono ?_); rintro e w2 ⟨⟨R, hR0, hR, rfl⟩, hb2⟩; have HR := Lib.hid hR; clear hR)
          go_ret
          exact ⟨ret_str (by rw [str_app, str_app, str_app, str_app, str_head, str_tail, HR.out, HT.out]), (below_drewN' (Below.refl _ _) _).trans hb2⟩
        · have k4 : 15 < k := by omega
          clear hk1 h3
          go_enter Tryz.func85, Tryz.ntmps85
          go_wp2_with fail
          go_quiet (fail)
          go_wp2_with (go_at_call 79; (with_reducible refine (HI.out _).mono ?_); rintro e w2 ⟨⟨R, hR0, hR, rfl⟩, hb2⟩; have HR := Lib.hid hR; clear hR)
          go_ret
          exact ⟨ret_str (by rw [str_app, str_app, str_app, str_app, str_head, str_tail, HR.out, HT.out]), (below_drewN' (Below.refl _ _) _).trans hb2⟩
      · rw [if_neg hS1] at hT
        have HT := Lib.hid hT
        have s3 : S.size = 1 := by omega
        have s4 : decide (1 < S.size) = false := decide_eq_false hS1
        have s5 : (S.size : Int) = 1 := by omega
        clear hT hsz htab h1
        rcases Int.lt_or_le k 1 with hlt | hge
        · have k4 : k < -4 := by omega
          clear hk1 h3
          go_enter Tryz.func85, Tryz.ntmps85
          go_wp2_with (go_at_call 79; (with_reducible refine HJ.out.mono ?_); rintro e w2 ⟨⟨R, hR0, hR, rfl⟩, hb2⟩; have HR := Lib.hid hR; clear hR)
          go_ret
          exact ⟨ret_str (by rw [str_app, str_app, HR.out, HT.out]), hb2⟩
        · have k4 : 15 < k := by omega
          clear hk1 h3
          go_enter Tryz.func85, Tryz.ntmps85
          go_wp2_with (go_at_call 79; (with_reducible refine HJ.out.mono ?_); rintro e w2 ⟨⟨R, hR0, hR, rfl⟩, hb2⟩; have HR := Lib.hid hR; clear hR)
          go_ret
          exact ⟨ret_str (by rw [str_app, str_app, HR.out, HT.out]), hb2⟩
end Go.Proofs.YtcbgkbidgpemfaaGreatDoor.prnw

/- Two right numbers are equal just where their bits are. Condition: neither is a NaN, an infinity or minus 0. -/
namespace Go.Proofs.YtcbgkbidgpemfaaGreatDoor.flatm
open Go.Proofs.YtcbgkbidgpemfaaGreatDoor.nodew

theorem fo_self {x : Nat} (fx : x % 9223372036854775808 < 9218868437227405312) : fo x x = some .eq := by
  obtain ⟨m, a, e1, _⟩ := read_num x fx
  show Ieee.Datum.order (Ieee.Format.read Ieee.double x) (Ieee.Format.read Ieee.double x) = some .eq
  rw [e1]
  unfold Ieee.Datum.order
  simp only [Option.some.injEq]
  exact Std.ReflCmp.compare_self
/-- right numbers -/
theorem right_word {x : Nat} (hx : x < 18446744073709551616) (h : rightF x = true) : x % 9223372036854775808 < 9218868437227405312 ∧ x ≠ 9223372036854775808 := by
  have h63 : rightF 9223372036854775808 = false := by kernel_rfl
  have hi1 : rightF 9218868437227405312 = false := by kernel_rfl
  have hi2 : rightF 18442240474082181120 = false := by kernel_rfl
  have hne : x ≠ 9223372036854775808 := fun e => by rw [e, h63] at h; cases h
  refine ⟨?_, hne⟩
  apply Nat.lt_of_not_le
  intro hge
  by_cases he : x % 9223372036854775808 = 9218868437227405312
  · have : x = 9218868437227405312 ∨ x = 18442240474082181120 := by omega
    rcases this with e | e
    · rw [e, hi1] at h; cases h
    · rw [e, hi2] at h; cases h
  · have hw : Ieee.double.signWeight = 9223372036854775808 := by kernel_rfl
    have hb : Ieee.double.binade = 4503599627370496 := by kernel_rfl
    have hi : Ieee.double.infRung = 9218868437227405312 := by kernel_rfl
    have hr : ∃ s f, Ieee.Format.read Ieee.double x = .nan s f := by
      unfold Ieee.Format.read
      simp only [hw, hb, hi]
      rw [if_neg (by omega), if_neg (by omega), if_neg he]
      exact ⟨_, _, rfl⟩
    obtain ⟨s, f, hr⟩ := hr
    have hn : nanF x = true := by
      unfold nanF
      show (Ieee.Datum.order (Ieee.Format.read Ieee.double x) (Ieee.Format.read Ieee.double x) != some .eq) = true
      rw [hr]
      rfl
    unfold rightF at h
    rw [hn] at h
    cases h
end Go.Proofs.YtcbgkbidgpemfaaGreatDoor.flatm

/- Plain laws ahead of decimal.Print: a float's order by its bits, and the pieces of a number's text. No conditions but those stated. -/
namespace Go.Proofs.YtcbgkbidgpemfaaGreatDoor.prnw
open Go.RowKit
open Go.Shelf
open Go.Proofs.YtcbgkbidgpemfaaGreatDoor.nodew
open Go.Proofs.YtcbgkbidgpemfaaGreatDoor.flatm

theorem abs_w (x : Nat) (hx : x < 18446744073709551616) : absF x = x % 9223372036854775808 := by
  unfold absF
  have h : bits BinOp.andNot IntKind.u64 (x : Int) 9223372036854775808 = IntKind.u64.wrap (((BitVec.ofInt 64 (x : Int) &&& ~~~ (BitVec.ofInt 64 9223372036854775808)).toNat : Nat) : Int) := rfl
  have h2 : (BitVec.ofInt 64 (x : Int)).toNat = x := by
    rw [BitVec.toNat_ofInt]
    omega
  have h3 : (~~~ (BitVec.ofInt 64 9223372036854775808)).toNat = 2 ^ 63 - 1 := by decide
  rw [h, BitVec.toNat_and, h2, h3, Nat.and_two_pow_sub_one_eq_mod, IntKind.wrap_u64]
  omega
theorem neg_w (x : Nat) (hx : x < 18446744073709551616) : Op.negFloat .f64 x = if 9223372036854775808 ≤ x then x - 9223372036854775808 else x + 9223372036854775808 := by
  have e : Op.negFloat .f64 x = x ^^^ 9223372036854775808 := rfl
  rw [e]
  have h2 : (9223372036854775808 : Nat) = 2 ^ 63 := by decide
  have h3 := Nat.xor_mod_two_pow (a := x) (b := 9223372036854775808) (n := 63)
  have h4 := Nat.xor_div_two_pow (a := x) (b := 9223372036854775808) (n := 63)
  have h5 : (9223372036854775808 : Nat) % 2 ^ 63 = 0 := by decide
  have h6 : (9223372036854775808 : Nat) / 2 ^ 63 = 1 := by decide
  rw [h5, Nat.xor_zero] at h3
  rw [h6] at h4
  rw [← h2] at h3 h4
  have h7 : x / 9223372036854775808 = 0 ∨ x / 9223372036854775808 = 1 := by omega
  split
  · have h8 : x / 9223372036854775808 = 1 := by omega
    rw [h8] at h4
    have : (1 ^^^ 1 : Nat) = 0 := by decide
    omega
  · have h8 : x / 9223372036854775808 = 0 := by omega
    rw [h8] at h4
    have : (0 ^^^ 1 : Nat) = 1 := by decide
    omega
theorem fo_zero {x : Nat} (hx : x < 18446744073709551616) (fx : x % 9223372036854775808 < 9218868437227405312) (nx : x ≠ 9223372036854775808) :
    (fo x 0 == some .eq) = decide (x = 0) ∧ (fo x 0 == some .lt) = decide (9223372036854775808 ≤ x) := by
  rw [fo_sv fx (by decide), sv_zero]
  unfold sv
  by_cases h : 9223372036854775808 ≤ x
  · rw [if_pos (by omega), decide_eq_true h, decide_eq_false (by omega)]
    have : 0 < valR (x % 9223372036854775808) := by
      apply Nat.pos_of_ne_zero
      intro e
      have := val_zero e
      omega
    rw [Int.compare_eq_ite_lt, if_pos (by omega)]
    exact ⟨rfl, rfl⟩
  · rw [if_neg (by omega), decide_eq_false h]
    by_cases h0 : x = 0
    · subst h0
      rw [show (0 : Nat) % 9223372036854775808 = 0 by decide, val_low (by decide)]
      exact ⟨rfl, rfl⟩
    · have : 0 < valR (x % 9223372036854775808) := by
        apply Nat.pos_of_ne_zero
        intro e
        have := val_zero e
        omega
      rw [Int.compare_eq_ite_lt, if_neg (by omega), if_pos (by omega), decide_eq_false h0]
      exact ⟨rfl, rfl⟩
theorem right_pos {x : Nat} (fx : x < 9218868437227405312) : rightF x = true := by
  have hm : x % 9223372036854775808 = x := Nat.mod_eq_of_lt (by omega)
  have h1 : nanF x = false := by
    unfold nanF
    rw [fo_self (by omega)]
    rfl
  have h2 : infF x = false := by
    unfold infF
    rw [abs_w x (by omega), hm, fo_sv (by omega) (by decide)]
    unfold sv
    rw [if_neg (by omega), if_neg (by decide), hm]
    have := val_le (show x ≤ 9218868437227405311 % 9223372036854775808 by omega)
    rw [Int.compare_eq_ite_lt]
    split
    · rfl
    · rw [if_neg (by omega)]; rfl
  have h3 : negF x = false := by
    unfold negF
    rw [decide_eq_false]
    unfold wrap64
    omega
  unfold rightF
  rw [h1, h2, h3]
  simp
/-- is a number beyond 2^30? -/
def bigF (x : Nat) : Bool := fo (absF x) 4742290407621132288 == some .gt
theorem big_w {x : Nat} (hx : x < 18446744073709551616) (fx : x % 9223372036854775808 < 9218868437227405312) : bigF x = decide (4742290407621132288 < x % 9223372036854775808) := by
  unfold bigF
  have hm : x % 9223372036854775808 % 9223372036854775808 = x % 9223372036854775808 := Nat.mod_mod _ _
  rw [abs_w x hx, fo_sv (by omega) (by decide)]
  unfold sv
  rw [if_neg (by omega), if_neg (by decide), hm, show (4742290407621132288 : Nat) % 9223372036854775808 = 4742290407621132288 by decide]
  rw [Int.compare_eq_ite_lt]
  by_cases h : 4742290407621132288 < x % 9223372036854775808
  · have := val_lt h
    rw [if_neg (by omega), if_pos (by omega), decide_eq_true h]
    rfl
  · have := val_le (show x % 9223372036854775808 ≤ 4742290407621132288 by omega)
    rw [decide_eq_false h]
    split
    · rfl
    · rw [if_neg (by omega)]; rfl

/-! texts -/
theorem idx_skip (c : UInt8) : ∀ (p q : List UInt8), (∀ b ∈ p, b ≠ c) → Lib.index (p ++ c :: q) [c] = p.length
  | [], q, _ => by
    rw [List.nil_append, Lib.index]
    rw [if_pos (by simp)]
    rfl
  | b :: p, q, h => by
    have h1 : b ≠ c := h b (by simp)
    have h2 := idx_skip c p q (fun x hx => h x (by simp [hx]))
    rw [List.cons_append, Lib.index, if_neg (by simp [Ne.symm h1]), h2, if_neg (by rw [beq_iff_eq]; omega)]
    rfl
theorem idx_none (c : UInt8) : ∀ (p : List UInt8), (∀ b ∈ p, b ≠ c) → Lib.index p [c] = -1
  | [], _ => rfl
  | b :: p, h => by
    have h1 : b ≠ c := h b (by simp)
    have h2 := idx_none c p (fun x hx => h x (by simp [hx]))
    rw [Lib.index, if_neg (by simp [Ne.symm h1]), h2]
    rfl
theorem cut_skip (c : UInt8) (p q : List UInt8) (h : ∀ b ∈ p, b ≠ c) : Lib.cut (p ++ c :: q) [c] = (p, q, true) := by
  have h1 := idx_skip c p q h
  unfold Lib.cut
  rw [h1, if_pos (by omega)]
  simp
/-- a digit -/
def isDg (b : UInt8) : Prop := 48 ≤ b.toNat ∧ b.toNat ≤ 57
theorem isDg.ne {b : UInt8} (h : isDg b) {c : UInt8} (hc : c.toNat < 48 ∨ 57 < c.toNat) : b ≠ c := by
  intro e
  subst e
  unfold isDg at h
  omega
theorem sd_dg (u : Nat) : ∀ b ∈ sdH u :: sdL u, isDg b := by
  intro b hb
  rcases List.mem_cons.1 hb with rfl | hb
  · exact dg_digit _ _
  · obtain ⟨t, _, rfl⟩ := List.mem_map.1 hb
    exact dg_digit _ _
/-- the digits with their point -/
def efgH (d0 : UInt8) (ds : List UInt8) : List UInt8 := [d0] ++ (if ds = [] then [] else 46 :: ds)
def efgP (dp : Int) : List UInt8 := [if dp - 1 < 0 then 45 else 43] ++ expD (dp - 1).natAbs
theorem efg_parts (d0 : UInt8) (ds : List UInt8) (dp : Int) : efgT d0 ds dp = efgH d0 ds ++ 101 :: efgP dp := by
  unfold efgT efgH efgP
  simp
theorem efg_cut (d0 : UInt8) (ds : List UInt8) (dp : Int) (h : ∀ b ∈ d0 :: ds, isDg b) : Lib.cut (efgT d0 ds dp) [101] = (efgH d0 ds, efgP dp, true) := by
  rw [efg_parts]
  refine cut_skip _ _ _ fun b hb => ?_
  unfold efgH at hb
  rcases List.mem_append.1 hb with hb | hb
  · have : b = d0 := by simpa using hb
    exact (h b (by rw [this]; simp)).ne (.inr (by decide))
  · split at hb
    · cases hb
    · rcases List.mem_cons.1 hb with rfl | hb
      · decide
      · exact (h b (by simp [hb])).ne (.inr (by decide))
theorem efg_replace (d0 : UInt8) (ds : List UInt8) (h : ∀ b ∈ d0 :: ds, isDg b) : Lib.replace (efgH d0 ds) [46] [] 1 = d0 :: ds := by
  have h0 : d0 ≠ 46 := (h d0 (by simp)).ne (.inl (by decide))
  unfold Lib.replace
  rw [if_neg (by decide)]
  by_cases hd : ds = []
  · subst hd
    have e : efgH d0 [] = [d0] := rfl
    have hi := idx_none 46 [d0] (fun b hb => by rw [show b = d0 by simpa using hb]; exact h0)
    have hc : Lib.count [d0] [46] = 0 := by
      unfold Lib.count
      rw [show [d0].length + 1 = 1 + 1 from rfl, Lib.countFrom, hi]
      rfl
    rw [e]
    unfold Lib.replaceNum
    rw [hc, if_pos (by decide)]
    rfl
  · have e : efgH d0 ds = [d0] ++ 46 :: ds := by unfold efgH; rw [if_neg hd]
    have hi := idx_skip 46 [d0] ds (fun b hb => by rw [show b = d0 by simpa using hb]; exact h0)
    rw [e]
    have hc : 1 ≤ Lib.count ([d0] ++ 46 :: ds) [46] := by
      unfold Lib.count
      rw [Lib.countFrom, hi, if_neg (by simp)]
      omega
    unfold Lib.replaceNum
    rw [if_neg (by omega), show (1 : Int).toNat = 0 + 1 from rfl, Lib.replaceK_hit _ _ _ _ 1 hi]
    simp [Lib.replaceK]
theorem dv (n : Nat) (h : n < 10) : Lib.digitVal (UInt8.ofNat (48 + n)) = some n := by
  have h1 : (UInt8.ofNat (48 + n)).toNat = 48 + n := by rw [UInt8.toNat_ofNat']; omega
  unfold Lib.digitVal
  rw [h1, if_pos (by omega)]
  congr 1
  omega
theorem exp_num (n : Nat) (h : n < 1000) : Lib.decNat (expD n) = some n := by
  unfold expD
  split
  · rename_i h1
    have e48 : Lib.digitVal 48 = some 0 := by decide
    show Lib.decFrom 0 [48, UInt8.ofNat (48 + n)] = some n
    rw [Lib.decFrom, e48]
    simp only
    rw [Lib.decFrom, dv n h1]
    simp only [Lib.decFrom]
    congr 1
    omega
  · split
    · rename_i h1 h2
      show Lib.decFrom 0 [UInt8.ofNat (48 + n / 10), UInt8.ofNat (48 + n % 10)] = some n
      rw [Lib.decFrom, dv (n / 10) (by omega)]
      simp only
      rw [Lib.decFrom, dv (n % 10) (by omega)]
      simp only [Lib.decFrom]
      congr 1
      omega
    · show Lib.decFrom 0 [UInt8.ofNat (48 + n / 100), UInt8.ofNat (48 + n / 10 % 10), UInt8.ofNat (48 + n % 10)] = some n
      rw [Lib.decFrom, dv (n / 100) (by omega)]
      simp only
      rw [Lib.decFrom, dv (n / 10 % 10) (by omega)]
      simp only
      rw [Lib.decFrom, dv (n % 10) (by omega)]
      simp only [Lib.decFrom]
      congr 1
      omega
theorem efg_atoi (dp : Int) (h0 : -400 ≤ dp) (h1 : dp ≤ 400) : Lib.atoi (efgP dp) = some (dp - 1) := by
  have h := exp_num (dp - 1).natAbs (by omega)
  unfold efgP
  by_cases hn : dp - 1 < 0
  · rw [if_pos hn]
    show Lib.atoi (45 :: expD _) = _
    rw [Lib.atoi, if_pos (by decide), h]
    simp only [Option.map_some]
    congr 1
    omega
  · rw [if_neg hn]
    show Lib.atoi (43 :: expD _) = _
    rw [Lib.atoi, if_neg (by decide), if_pos (by decide), h]
    simp only [Option.map_some]
    congr 1
    omega
theorem efg_len (d0 : UInt8) (ds : List UInt8) (dp : Int) (h : ds.length ≤ 20) : (efgT d0 ds dp).length ≤ 40 ∧ (efgP dp).length ≤ 18 ∧ (efgH d0 ds).length ≤ 30 := by
  have he : (expD (dp - 1).natAbs).length ≤ 3 := by
    unfold expD
    split
    · simp
    · split <;> simp
  unfold efgT efgP efgH
  split <;> simp only [List.length_append, List.length_cons, List.length_nil] <;> omega
end Go.Proofs.YtcbgkbidgpemfaaGreatDoor.prnw

/- decimal.Print. No conditions but those stated. -/
namespace Go.Proofs.YtcbgkbidgpemfaaGreatDoor.prnw
open Go.RowKit
open Go.Shelf
open Go.Sort
open Go.Proofs.YtcbgkbidgpemfaaGreatDoor.nodew
open Go.Proofs.YtcbgkbidgpemfaaGreatDoor.chkw
open Go.Proofs.YtcbgkbidgpemfaaGreatDoor.flatm
attribute [local go_sem] nodew.fo_eq

/-- what the library's functions read -/
structure Env (hi lo : Nat → Nat) (w : World) : Prop where
  tabs : Tabs hi lo w
  ml : ∃ m : Int, w.cell? ⟨1, 0, none⟩ = some (.int .i64 m)
  n1 : 8 < w.heap.size
  n2 : 7 < w.heap.size
  n3 : 1 < w.heap.size
theorem Env.later {hi lo : Nat → Nat} {w w' : World} (h : Env hi lo w) (hb : Below w.heap.size w w') : Env hi lo w' := by
  have hs := hb.size
  refine ⟨⟨fun i h6 => ?_, h.tabs.2.1, tab_below h.tabs.2.2 hb h.n2⟩, ?_, Nat.lt_of_lt_of_le h.n1 hs, Nat.lt_of_lt_of_le h.n2 hs, Nat.lt_of_lt_of_le h.n3 hs⟩
  · obtain ⟨a, b, c, d⟩ := h.tabs.1 i h6
    exact ⟨a, b, (hb.cell h.n1).trans c, (hb.cell h.n1).trans d⟩
  · obtain ⟨m, hm⟩ := h.ml
    exact ⟨m, (hb.cell h.n3).trans hm⟩
/-- returns this, and what lay below is as it was -/
def Bel (w : World) (v : Value) (x : Ending) (w' : World) : Prop := x = .returned v ∧ Below w.heap.size w w'
theorem cut_c {hi lo : Nat → Nat} {w : World} (h : Env hi lo w) (s sep H P : ByteArray) (b : Bool) (hs : s.size ≤ 100000) (hc : Lib.cut s.data.toList sep.data.toList = (H.data.toList, P.data.toList, b)) :
    Calls Tryz.prog 82 #[.string s, .string sep] w (Bel w (.tuple #[.string H, .string P, .bool b])) := by
  obtain ⟨m, hm⟩ := h.ml
  refine (Tryz.strings_Cut s sep m w (by omega) hm).mono fun e w' h => ?_
  obtain ⟨he, n, hw⟩ := h
  rw [hc] at he
  refine ⟨he, ?_⟩
  rw [hw]
  exact below_drewN' (Below.refl _ _) _
theorem replace_c {hi lo : Nat → Nat} {w : World} (h : Env hi lo w) (s old R : ByteArray) (n : Int) (hs : s.size ≤ 100000) (h1 : 1 ≤ old.size) (hc : Lib.replace s.data.toList old.data.toList [] n = R.data.toList) :
    Calls Tryz.prog 86 #[.string s, .string old, .string ⟨#[]⟩, .int .i64 n] w (Bel w (.string R)) := by
  obtain ⟨m, hm⟩ := h.ml
  refine (Tryz.strings_Replace s old ⟨#[]⟩ n m w (by omega) hm h1 (by show _ + _ * 0 ≤ _; omega)).mono fun e w' h => ?_
  obtain ⟨he, hw⟩ := h
  have e0 : (⟨#[]⟩ : ByteArray).data.toList = [] := rfl
  rw [e0, hc] at he
  exact ⟨he, hw⟩
theorem below_bytes (w : World) (s : ByteArray) : Below w.heap.size w (Lib.bytesWorld w 5 s) := by
  refine ⟨rfl, rfl, rfl, ?_, fun i hi => Lib.bytesWorld_at_old w _ s i hi⟩
  simp [Lib.bytesWorld, World.freeze, World.alloc, World.drew, -World.alloc_eq, -World.drew_eq]
theorem atoi_c (w : World) (s : ByteArray) (n : Int) (hl : s.size ≤ 18) (h : Lib.atoi s.data.toList = some n) : Calls Tryz.prog 84 #[.string s] w (Bel w (.tuple #[.int .i64 n, .nilIface])) := by
  refine (Tryz.strconv_Atoi s n hl h w).mono fun e w' h => ?_
  obtain ⟨he, t, hw⟩ := h
  exact ⟨he, by rw [hw]; exact below_bytes _ _⟩
/-- a positive number's digits, the place of its point, its text -/
def posD (hi lo : Nat → Nat) (X : Nat) : List UInt8 := sdH (ftR hi lo X).1.toNat :: sdL (ftR hi lo X).1.toNat
def posK (hi lo : Nat → Nat) (X : Nat) : Int := (Lib.nDigits (ftR hi lo X).1.toNat : Nat) + (ftR hi lo X).2
def posT (hi lo : Nat → Nat) (X : Nat) : List UInt8 := laidT (posD hi lo X) (posK hi lo X)
/-- bounds of the digits of a positive float -/
theorem ft_bd (hi lo : Nat → Nat) (X : Nat) (hX0 : 0 < X) (hX : X < 9218868437227405312) (hh : ∀ i, i < 696 → 9223372036854775808 ≤ hi i ∧ hi i < 18446744073709551616) :
    1 ≤ (ftR hi lo X).1.toNat ∧ (ftR hi lo X).1.toNat < 18446744073709551616 ∧ -348 ≤ (ftR hi lo X).2 ∧ (ftR hi lo X).2 ≤ 348 := by
  obtain ⟨m1, m2⟩ := ftM_pos X hX0
  obtain ⟨s0, s1, s2, s3⟩ := shl_bd (ftM X) m1 m2
  have he : -1022 ≤ ftE X ∧ ftE X ≤ 1023 := by
    unfold ftE
    split <;> omega
  have := sf_d hi lo ((ftM X * 2 ^ (64 - Lib.bitLen (ftM X)) : Nat) : Int) (ftE X - ((64 - Lib.bitLen (ftM X) : Nat) : Int) - 52) (by omega) (by omega) (by omega) (by omega) hh
  unfold ftR
  omega
theorem pos_bd (hi lo : Nat → Nat) (X : Nat) (hX0 : 0 < X) (hX : X < 9218868437227405312) (hh : ∀ i, i < 696 → 9223372036854775808 ≤ hi i ∧ hi i < 18446744073709551616) :
    1 ≤ (posD hi lo X).length ∧ (posD hi lo X).length ≤ 20 ∧ -347 ≤ posK hi lo X ∧ posK hi lo X ≤ 368 := by
  obtain ⟨b1, b2, b3, b4⟩ := ft_bd hi lo X hX0 hX hh
  have h1 := sdL_len _ b1
  have h2 := trim_le (ftR hi lo X).1.toNat (Lib.nDigits (ftR hi lo X).1.toNat)
  have h3 := Lib.nDigits_le20 _ b2
  have h4 := Lib.nDigits_pos (ftR hi lo X).1.toNat
  unfold posD posK
  rw [List.length_cons]
  omega
set_option maxRecDepth 100000 in
set_option maxHeartbeats 1000000 in
theorem print_pos (hi lo : Nat → Nat) (X : Nat) (hX0 : 0 < X) (hX : X < 9218868437227405312) (hb : bigF X = false) (w : World) (hE : Env hi lo w) :
    Calls Tryz.prog 49 #[.float .f64 X] w fun x w' => (∃ T : ByteArray, T.data.toList = posT hi lo X ∧ x = .returned (.tuple #[.string T, .int .i64 0])) ∧ Below w.heap.size w w' := by
  obtain ⟨p1, p2, p3, p4⟩ := pos_bd hi lo X hX0 hX hE.tabs.2.1
  obtain ⟨z1, z2⟩ := fo_zero (x := X) (by omega) (by omega) (by omega)
  rw [decide_eq_false (by omega)] at z1 z2
  have hdg : ∀ b ∈ posD hi lo X, isDg b := sd_dg _
  have hf : ftT hi lo X = efgT (sdH (ftR hi lo X).1.toNat) (sdL (ftR hi lo X).1.toNat) (posK hi lo X) := rfl
  have hl20 : (sdL (ftR hi lo X).1.toNat).length ≤ 20 := by
    have : (posD hi lo X).length = (sdL (ftR hi lo X).1.toNat).length + 1 := by unfold posD; rw [List.length_cons]
    omega
  obtain ⟨l1, l2, l3⟩ := efg_len (sdH (ftR hi lo X).1.toNat) (sdL (ftR hi lo X).1.toNat) (posK hi lo X) hl20
  have hcut := efg_cut (sdH (ftR hi lo X).1.toNat) (sdL (ftR hi lo X).1.toNat) (posK hi lo X) hdg
  have hrep := efg_replace (sdH (ftR hi lo X).1.toNat) (sdL (ftR hi lo X).1.toNat) hdg
  have hato := efg_atoi (posK hi lo X) (by omega) (by omega)
  rw [← hf] at l1 hcut
  obtain ⟨F, hF⟩ : ∃ F : ByteArray, F = ⟨(ftT hi lo X).toArray⟩ := ⟨_, rfl⟩
  obtain ⟨H, hH⟩ : ∃ H : ByteArray, H = ⟨(efgH (sdH (ftR hi lo X).1.toNat) (sdL (ftR hi lo X).1.toNat)).toArray⟩ := ⟨_, rfl⟩
  obtain ⟨P, hP⟩ : ∃ P : ByteArray, P = ⟨(efgP (posK hi lo X)).toArray⟩ := ⟨_, rfl⟩
  obtain ⟨D, hD⟩ : ∃ D : ByteArray, D = ⟨(posD hi lo X).toArray⟩ := ⟨_, rfl⟩
  have sz : ∀ l : List UInt8, (⟨l.toArray⟩ : ByteArray).size = l.length := fun l => by show l.toArray.size = _; simp
  have CF := fmt_any hi lo X hX0 hX w hE.tabs hE.n1
  have CF2 : Calls Tryz.prog 83 #[.float .f64 X, .int .u8 101, .int .i64 (-1), .int .i64 64] w (Bel w (.string F)) := by
    rw [hF]
    exact CF
  have CC : ∀ W, Env hi lo W → Calls Tryz.prog 82 #[.string F, .string ⟨#[101]⟩] W (Bel W (.tuple #[.string H, .string P, .bool true])) := fun W hW =>
    cut_c hW F ⟨#[101]⟩ H P true (by rw [hF, sz]; omega) (by rw [hF, hH, hP, str_mk, str_mk, str_mk]; exact hcut)
  have CA : ∀ W, Calls Tryz.prog 84 #[.string P] W (Bel W (.tuple #[.int .i64 (posK hi lo X - 1), .nilIface])) := fun W =>
    atoi_c W P _ (by rw [hP, sz]; omega) (by rw [hP, str_mk]; exact hato)
  have CR : ∀ W, Env hi lo W → Calls Tryz.prog 86 #[.string H, .string ⟨#[46]⟩, .string ⟨#[]⟩, .int .i64 1] W (Bel W (.string D)) := fun W hW =>
    replace_c hW H ⟨#[46]⟩ D 1 (by rw [hH, sz]; omega) (by decide) (by rw [hH, hD, str_mk, str_mk]; exact hrep)
  obtain ⟨k, hk⟩ : ∃ k, k = posK hi lo X := ⟨_, rfl⟩
  have CL : ∀ W, Env hi lo W → Calls Tryz.prog 85 #[.string D, .int .i64 k] W fun x w' => (∃ T : ByteArray, T.data.toList = posT hi lo X ∧ x = .returned (.string T)) ∧ Below W.heap.size W w' := fun W hW => by
    have hds : D.size = (posD hi lo X).length := by rw [hD, sz]
    refine (laid_any D k (by omega) (by omega) (by omega) (by omega) W hW.tabs.2.2).mono fun e w' h => ?_
    refine ⟨⟨⟨(laidT D.data.toList k).toArray⟩, ?_, h.1⟩, h.2⟩
    rw [str_mk, hD, str_mk, hk]
    rfl
  rw [← hk] at p3 p4 CA
  have hr := right_pos hX
  have CRt := fun W => right_num X W
  rw [hr] at CRt
  have CAb := fun W => abs_any X W
  obtain ⟨A, hA⟩ : ∃ A, A = absF X := ⟨_, rfl⟩
  rw [← hA] at CAb
  have hbg : (fo A 4742290407621132288 == some .gt) = false := by rw [hA]; exact hb
  have HE := Lib.hid hE
  have HF := Lib.hid CF2
  have HC := Lib.hid CC
  have HA := Lib.hid CA
  have HR := Lib.hid CR
  have HL := Lib.hid CL
  have HRt := Lib.hid CRt
  have HAb := Lib.hid CAb
  clear hE CF CF2 CC CA CR CL CRt CAb hr hA hb hX0 hX p1 p2 hdg hf hl20 l1 l2 l3 hcut hrep hato hF hH hP hD sz hk
  go_enter Tryz.func49, Tryz.ntmps49
  go_wp2_with (first
    | (go_at_call 80; (with_reducible refine (HRt.out _).mono ?_); rintro e w' ⟨rfl, rfl⟩)
    | (go_at_call 81; (with_reducible refine (HAb.out _).mono ?_); rintro e w' ⟨rfl, rfl⟩)
    | (go_at_call 83; (with_reducible refine HF.out.mono ?_); rintro e w1 ⟨rfl, hb1⟩; have E1 := Lib.hid (HE.out.later hb1); have B1 := Lib.hid hb1; clear hb1)
    | (go_at_call 82; (with_reducible refine (HC.out _ E1.out).mono ?_); rintro e w2 ⟨rfl, hb2⟩; have E2 := Lib.hid (E1.out.later hb2); have B2 := Lib.hid (B1.out.trans (hb2.mono B1.out.size)); clear hb2)
    | (go_at_call 84; (with_reducible refine (HA.out _).mono ?_); rintro e w3 ⟨rfl, hb3⟩; have E3 := Lib.hid (E2.out.later hb3); have B3 := Lib.hid (B2.out.trans (hb3.mono B2.out.size)); clear hb3)
    | (go_at_call 86; (with_reducible refine (HR.out _ E3.out).mono ?_); rintro e w4 ⟨rfl, hb4⟩; have E4 := Lib.hid (E3.out.later hb4); have B4 := Lib.hid (B3.out.trans (hb4.mono B3.out.size)); clear hb4)
    | (go_at_call 85; (with_reducible refine (HL.out _ E4.out).mono ?_); rintro e w5 ⟨⟨T, hT, rfl⟩, hb5⟩; have HT := Lib.hid hT; have B5 := Lib.hid (B4.out.trans (hb5.mono B4.out.size)); clear hb5 hT))
  go_ret2
  exact ⟨⟨T, HT.out, rfl⟩, B5.out⟩
def prOk (x : Nat) : Bool := rightF x && !bigF x
/-- a number's text, and the error told -/
def prT (hi lo : Nat → Nat) (x : Nat) : List UInt8 := if prOk x = true then (if x = 0 then [48] else if 9223372036854775808 ≤ x then 45 :: posT hi lo (x - 9223372036854775808) else posT hi lo x) else []
def prE (x : Nat) : Int := if prOk x = true then 0 else 2
def PrPost (hi lo : Nat → Nat) (x : Nat) (w : World) (e : Ending) (w' : World) : Prop := (∃ T : ByteArray, T.data.toList = prT hi lo x ∧ e = .returned (.tuple #[.string T, .int .i64 (prE x)])) ∧ Below w.heap.size w w'
theorem pos_len (hi lo : Nat → Nat) (X : Nat) (hX0 : 0 < X) (hX : X < 9218868437227405312) (hh : ∀ i, i < 696 → 9223372036854775808 ≤ hi i ∧ hi i < 18446744073709551616) : (posT hi lo X).length ≤ 100 := by
  obtain ⟨p1, p2, p3, p4⟩ := pos_bd hi lo X hX0 hX hh
  unfold posT laidT
  split
  · split
    · rw [List.length_append, Lib.repeatL_length]
      simp
      omega
    · simp only [List.length_append, List.length_take, List.length_drop, List.length_cons, List.length_nil]
      omega
  · split
    · rw [List.length_append, List.length_append, Lib.repeatL_length]
      simp
      omega
    · have := Lib.itoa_length_le (posK hi lo X - 1) (by omega) (by omega)
      rw [List.length_append, List.length_append]
      split
      · simp only [List.length_append, List.length_take, List.length_drop, List.length_cons, List.length_nil]
        omega
      · simp only [List.length_cons, List.length_nil]
        omega
set_option maxRecDepth 100000 in
set_option maxHeartbeats 1000000 in
theorem print_any (hi lo : Nat → Nat) (x : Nat) (hx : x < 18446744073709551616) (w : World) (hE : Env hi lo w) :
    Calls Tryz.prog 49 #[.float .f64 x] w (PrPost hi lo x w) := by
  have CRt := fun W => right_num x W
  have CAb := fun W => abs_any x W
  obtain ⟨A, hA⟩ : ∃ A, A = absF x := ⟨_, rfl⟩
  rw [← hA] at CAb
  have hbg : (fo A 4742290407621132288 == some .gt) = bigF x := by rw [hA]; rfl
  cases hr : rightF x with
  | false =>
    rw [hr] at CRt
    have ho : prOk x = false := by unfold prOk; rw [hr]; rfl
    have e1 : prT hi lo x = [] := by unfold prT; rw [if_neg (by rw [ho]; decide)]
    have e2 : prE x = 2 := by unfold prE; rw [if_neg (by rw [ho]; decide)]
    have HRt := Lib.hid CRt
    have HQ := Lib.hid (And.intro e1 e2)
    clear hE CRt CAb hA hbg hr ho e1 e2
    go_enter Tryz.func49, Tryz.ntmps49
    go_wp2_with (go_at_call 80; (with_reducible refine (HRt.out _).mono ?_); rintro e w' ⟨rfl, rfl⟩)
    go_ret2
    exact ⟨⟨⟨#[]⟩, by rw [HQ.out.1], by rw [HQ.out.2]; rfl⟩, Below.refl _ _⟩
  | true =>
    rw [hr] at CRt
    cases hb : bigF x with
    | true =>
      rw [hb] at hbg
      have ho : prOk x = false := by unfold prOk; rw [hr, hb]; rfl
      have e1 : prT hi lo x = [] := by unfold prT; rw [if_neg (by rw [ho]; decide)]
      have e2 : prE x = 2 := by unfold prE; rw [if_neg (by rw [ho]; decide)]
      have HRt := Lib.hid CRt
      have HAb := Lib.hid CAb
      have HQ := Lib.hid (And.intro e1 e2)
      clear hE CRt CAb hA hr hb ho e1 e2
      go_enter Tryz.func49, Tryz.ntmps49
      go_wp2_with (first
        | (go_at_call 80; (with_reducible refine (HRt.out _).mono ?_); rintro e w' ⟨rfl, rfl⟩)
        | (go_at_call 81; (with_reducible refine (HAb.out _).mono ?_); rintro e w' ⟨rfl, rfl⟩))
      go_ret2
      exact ⟨⟨⟨#[]⟩, by rw [HQ.out.1], by rw [HQ.out.2]; rfl⟩, Below.refl _ _⟩
    | false =>
      obtain ⟨fx, nx⟩ := right_word hx hr
      obtain ⟨z1, z2⟩ := fo_zero hx fx nx
      rw [hb] at hbg
      have ho : prOk x = true := by unfold prOk; rw [hr, hb]; rfl
      have e2 : prE x = 0 := by unfold prE; rw [if_pos ho]
      by_cases h0 : x = 0
      · have e1 : prT hi lo x = [48] := by unfold prT; rw [if_pos ho, if_pos h0]
        rw [decide_eq_true h0] at z1
        have HRt := Lib.hid CRt
        have HAb := Lib.hid CAb
        have HQ := Lib.hid (And.intro e1 e2)
        clear hE CRt CAb hA hr hb ho e1 e2 h0 z2 fx nx hx
        go_enter Tryz.func49, Tryz.ntmps49
        go_wp2_with (first
          | (go_at_call 80; (with_reducible refine (HRt.out _).mono ?_); rintro e w' ⟨rfl, rfl⟩)
          | (go_at_call 81; (with_reducible refine (HAb.out _).mono ?_); rintro e w' ⟨rfl, rfl⟩))
        go_ret2
        exact ⟨⟨⟨#[48]⟩, by rw [HQ.out.1], by rw [HQ.out.2]; rfl⟩, Below.refl _ _⟩
      · rw [decide_eq_false h0] at z1
        by_cases hn : 9223372036854775808 ≤ x
        · rw [decide_eq_true hn] at z2
          have e1 : prT hi lo x = 45 :: posT hi lo (x - 9223372036854775808) := by unfold prT; rw [if_pos ho, if_neg h0, if_pos hn]
          have hng := neg_w x hx
          rw [if_pos hn] at hng
          have hy : x - 9223372036854775808 = x % 9223372036854775808 := by omega
          obtain ⟨Y, hY⟩ : ∃ Y, Y = x - 9223372036854775808 := ⟨_, rfl⟩
          rw [← hY] at hng e1
          have hbY : bigF Y = false := by
            rw [big_w (by omega) (by omega), show Y % 9223372036854775808 = x % 9223372036854775808 by omega, ← big_w hx fx]
            exact hb
          have hun : ∀ W : World, (Op.unary .neg (.float .f64 x)).run Tryz.prog W = .ok (.float .f64 Y) W := fun W => by rw [← hng]; rfl
          clear hng
          have CP := print_pos hi lo Y (by omega) (by omega) hbY w hE
          have hl := pos_len hi lo Y (by omega) (by omega) hE.tabs.2.1
          have CP2 : Calls Tryz.prog 49 #[.float .f64 Y] w fun x w' => (∃ T : ByteArray, T.size ≤ 100 ∧ T.data.toList = posT hi lo Y ∧ x = .returned (.tuple #[.string T, .int .i64 0])) ∧ Below w.heap.size w w' :=
            CP.mono fun e w' h => by
              obtain ⟨⟨T, hT, he⟩, hb⟩ := h
              refine ⟨⟨T, ?_, hT, he⟩, hb⟩
              rw [← hT] at hl
              simpa using hl
          have HRt := Lib.hid CRt
          have HAb := Lib.hid CAb
          have HP := Lib.hid CP2
          have HQ := Lib.hid (And.intro e1 e2)
          clear hE CRt CAb hA hr hb ho e1 e2 h0 fx nx hn hy hY hbY CP CP2 hl hx
          go_enter Tryz.func49, Tryz.ntmps49
          go_wp2_with (first
            | (go_at_call 80; (with_reducible refine (HRt.out _).mono ?_); rintro e w' ⟨rfl, rfl⟩)
            | (go_at_call 81; (with_reducible refine (HAb.out _).mono ?_); rintro e w' ⟨rfl, rfl⟩)
            | (go_at_call 49; (with_reducible refine HP.out.mono ?_); rintro e w1 ⟨⟨T, hT9, hT, rfl⟩, hb1⟩; have B1 := Lib.hid hb1; have HT := Lib.hid hT; clear hT hb1))
          go_ret2
          exact ⟨⟨⟨#[45]⟩ ++ T, by rw [HQ.out.1, str_app, HT.out]; rfl, by rw [HQ.out.2]; rfl⟩, B1.out⟩
        · have e1 : prT hi lo x = posT hi lo x := by unfold prT; rw [if_pos ho, if_neg h0, if_neg hn]
          refine (print_pos hi lo x (by omega) (by omega) hb w hE).mono fun e w' h => ?_
          obtain ⟨⟨T, hT, he⟩, hb⟩ := h
          exact ⟨⟨T, by rw [hT, e1], by rw [he, e2]⟩, hb⟩
end Go.Proofs.YtcbgkbidgpemfaaGreatDoor.prnw

/- print: names, words, and the closure that puts numbers behind a row of strings. No conditions but those stated. -/
namespace Go.Proofs.YtcbgkbidgpemfaaGreatDoor.prnw
open Go.RowKit
open Go.Shelf
open Go.Sort
open Go.Proofs.YtcbgkbidgpemfaaGreatDoor.nodew
open Go.Proofs.YtcbgkbidgpemfaaGreatDoor.chkw
open Go.Proofs.YtcbgkbidgpemfaaGreatDoor.flatm

def bA (l : List UInt8) : ByteArray := ⟨l.toArray⟩
theorem bA_list (l : List UInt8) : (bA l).data.toList = l := str_mk l
theorem bA_size (l : List UInt8) : (bA l).size = l.length := by show l.toArray.size = _; simp
theorem bA_of {T : ByteArray} {l : List UInt8} (h : T.data.toList = l) : T = bA l := str_ext (h.trans (str_mk l).symm)
/-- a place's name, a number's text -/
def nmB (k : Int) : ByteArray := bA (110 :: Lib.itoa k)
def prB (hi lo : Nat → Nat) (x : Nat) : ByteArray := bA (prT hi lo x)
theorem prB_size {hi lo : Nat → Nat} (hh : ∀ i, i < 696 → 9223372036854775808 ≤ hi i ∧ hi i < 18446744073709551616) (x : Nat) (hx : x < 18446744073709551616) : (prB hi lo x).size ≤ 101 := by
  unfold prB
  rw [bA_size]
  unfold prT
  split
  · rename_i ho
    have hr : rightF x = true := by
      unfold prOk at ho
      simp only [Bool.and_eq_true] at ho
      exact ho.1
    obtain ⟨fx, nx⟩ := right_word hx hr
    split
    · decide
    · split
      · have := pos_len hi lo (x - 9223372036854775808) (by omega) (by omega) hh
        rw [List.length_cons]
        omega
      · have := pos_len hi lo x (by omega) (by omega) hh
        omega
  · decide
theorem print_b {hi lo : Nat → Nat} (x : Nat) (hx : x < 18446744073709551616) (w : World) (hE : Env hi lo w) :
    Calls Tryz.prog 49 #[.float .f64 x] w (Bel w (.tuple #[.string (prB hi lo x), .int .i64 (prE x)])) :=
  (print_any hi lo x hx w hE).mono fun e w' h => by
    obtain ⟨⟨T, hT, he⟩, hb⟩ := h
    refine ⟨?_, hb⟩
    rw [he, bA_of hT]
    rfl
theorem name_any {hi lo : Nat → Nat} (k : Int) (k0 : -4000 ≤ k) (k1 : k ≤ 4999) (w : World) (hE : Env hi lo w) : Calls Tryz.prog 47 #[.int .i64 k] w (Bel w (.string (nmB k))) := by
  have CI := Lib.hid (itoa_c k k0 k1 w hE.tabs.2.2)
  clear hE
  go_enter Tryz.func47, Tryz.ntmps47
  go_wp2_with (go_at_call 79; (with_reducible refine CI.out.mono ?_); rintro e w1 ⟨⟨R, hR0, hR, rfl⟩, hb1⟩; have HR := Lib.hid hR; clear hR)
  go_ret
  refine ⟨?_, hb1⟩
  have e : (⟨#[110]⟩ ++ R : ByteArray) = nmB k := bA_of (by rw [str_app, HR.out]; rfl)
  rw [← e]
  rfl
/-! words -/
def wd1 : ByteArray := ⟨#[108, 97, 109, 98, 101, 114, 116]⟩
def wd2 : ByteArray := ⟨#[111, 114, 101, 110]⟩
def wd3 : ByteArray := ⟨#[112, 108, 97, 115, 116, 105, 99]⟩
def wd4 : ByteArray := ⟨#[109, 101, 116, 97, 108]⟩
def wd5 : ByteArray := ⟨#[109, 105, 120]⟩
def wd6 : ByteArray := ⟨#[99, 111, 97, 116]⟩
def wordsL : List ByteArray := [⟨#[]⟩, wd1, wd2, wd3, wd4, wd5, wd6]
theorem words_any (w : World) : Calls Tryz.prog 31 #[] w fun e w' => e = .returned (.slice (some ⟨w.heap.size, 0, none⟩) 7 7) ∧ w' = w.alloc (.cells (wordsL.map Value.string).toArray 9) := by
  go_enter Tryz.func31, Tryz.ntmps31
  go_wp2
  go_ret
  exact ⟨rfl, rfl⟩
theorem words_cells (w : World) : ∀ j (hj : j < wordsL.length), (w.alloc (.cells (wordsL.map Value.string).toArray 9)).cell? ⟨w.heap.size, j, none⟩ = some (.string wordsL[j]) := by
  intro j hj
  rw [cell_of_row _ w.heap.size j _ _ _ (heap_alloc_new w _)]
  simp [hj]
def wordF (k : Nat) : ByteArray := wordsL.getD k ⟨#[]⟩
theorem word_any (k : Nat) (hk : k < 256) (w : World) : Calls Tryz.prog 8 #[.int .u8 k] w (Bel w (.string (wordF k))) := by
  have hw := words_cells w
  by_cases h7 : k < 7
  · have hc := hw k h7
    have hf : wordF k = wordsL[k]'h7 := by unfold wordF; rw [List.getD_eq_getElem?_getD, List.getElem?_eq_getElem h7]; rfl
    have hw64 : IntKind.i64.wrap (k : Int) = k := IntWalk.i64_in _ (by omega)
    have hw64' : wrap64 (k : Int) = k := IntWalk.wrap64_in _ (by omega)
    go_enter Tryz.func8, Tryz.ntmps8
    go_wp2_with (go_at_call 31; refine (words_any _).mono ?_; rintro e wx ⟨rfl, rfl⟩)
    go_ret
    exact ⟨congrArg (fun x => Ending.returned (Value.string x)) hf.symm, (Below.refl _ _).alloc (Nat.le_refl _) _⟩
  · have hf : wordF k = ⟨#[]⟩ := by unfold wordF; rw [List.getD_eq_getElem?_getD, List.getElem?_eq_none (by show 7 ≤ k; omega)]; rfl
    clear hw
    have hw64' : wrap64 (k : Int) = k := IntWalk.wrap64_in _ (by omega)
    rw [hf]
    go_enter Tryz.func8, Tryz.ntmps8
    go_wp2_with (go_at_call 31; refine (words_any _).mono ?_; rintro e wx ⟨rfl, rfl⟩)
    go_ret
    exact ⟨rfl, (Below.refl _ _).alloc (Nat.le_refl _) _⟩
/-! a row of strings that grows -/
theorem sInfo : (Tryz.prog.info? 9).map (fun i => (i.zero, i.size, i.bytes)) = some (some (.string ByteArray.empty), 1, 16) := by kernel_rfl
def SBuf (w : World) (base g cap : Nat) (l : List ByteArray) : Prop := w.ownsRow base 9 1 (.slice (some ⟨g, 0, none⟩) l.length cap) l.length (l.map Value.string)
theorem SBuf.lt {w : World} {base g cap : Nat} {l : List ByteArray} (h : SBuf w base g cap l) : base ≤ g ∧ g < w.heap.size := World.ownsRow.lt h g rfl
theorem wl_appS {ops : Array Oper} {rest : List Oper} {o : Oper} {a : Act} {w : World} {Q : Exit → Act → World → Prop} (hgd : o.guard = none) (s x : Operand)
    (ho : o.op = .call { callee := .builtin .append, args := #[s, x], argTypes := #[55, 55] }) (base g cap : Nat) (l : List ByteArray) (hs : a.eval s = .slice (some ⟨g, 0, none⟩) l.length cap) (hown : SBuf w base g cap l)
    (ad : Addr) (m c : Nat) (news : List ByteArray) (hx : a.eval x = .slice (some ad) m c) (hm : news.length = m) (hm0 : 0 < m) (hnews : ∀ j b, news[j]? = some b → w.cell? (ad.add j) = some (.string b)) (hlen : l.length + m ≤ 1000) (hbase : base ≤ w.heap.size)
    (h : ∀ g' cap' w', SBuf w' base g' cap' (l ++ news) → w.grownBy w' (some g) → (g' = g ∨ g' = w.heap.size) → wpList Tryz.prog ops Q rest (a.put o.dst (.slice (some ⟨g', 0, none⟩) (l ++ news).length cap')) w') :
    wpList Tryz.prog ops Q (o :: rest) a w := by
  obtain ⟨i0, hi, hz1, hz2, hz3⟩ := info_parts sInfo
  refine wpList_append_lies w hgd s x 55 ho base 9 i0 _ 1 16 Tryz.underlying55 hi hz1 hz2 hz3 rfl (by decide) _ _ _ hs hown ad m c (news.map Value.string) hx (by rw [List.length_map, hm]; omega) (fun j u hu => ?_) (fun u hu => ?_) hm0 (by unfold maxLen; omega) (by omega) hbase _ rfl ?_
  · rw [List.getElem?_map, Option.map_eq_some_iff] at hu
    obtain ⟨b, hb, rfl⟩ := hu
    exact hnews j b hb
  · obtain ⟨b, _, rfl⟩ := List.mem_map.1 hu
    rfl
  · intro g' cap' w' how hg hgg _
    have e : l.length + m = (l ++ news).length := by rw [List.length_append, hm]
    rw [e, ← List.map_append] at how
    rw [e]
    refine h g' cap' w' how hg ?_
    rcases hgg with h1 | h1
    · exact .inl (Option.some.inj h1).symm
    · exact .inr h1
/-- the variable in block lb holds the row of strings, in block g -/
structure LS (w : World) (base lb g cap : Nat) (l : List ByteArray) : Prop where
  blk : w.heap[lb]? = some (.cells #[.slice (some ⟨g, 0, none⟩) l.length cap] 55 (0, 0))
  buf : SBuf w base g cap l
  ne : g ≠ lb
  le : base ≤ lb
theorem LS.lt {w : World} {base lb g cap : Nat} {l : List ByteArray} (h : LS w base lb g cap l) : lb < w.heap.size := (Array.getElem?_eq_some_iff.1 h.blk).1
theorem LS.grown {w w' : World} {base lb g cap : Nat} {l : List ByteArray} (h : LS w base lb g cap l) (hg : w.grownBy w' none) : LS w' base lb g cap l :=
  ⟨(hg.block lb h.lt (by simp)).trans h.blk, World.ownsRow.kept h.buf hg (.inr (by simp [Value.ownBlock])), h.ne, h.le⟩
theorem LS.later {w w' : World} {base lb g cap : Nat} {l : List ByteArray} (h : LS w base lb g cap l) (hb : Below w.heap.size w w') : LS w' base lb g cap l := h.grown (grown_below hb none)
/-- behind an append and the store of what it gave -/
theorem LS.put {w w' : World} {base lb g cap g' cap' : Nat} {l l' : List ByteArray} (h : LS w base lb g cap l) (hg : w.grownBy w' (some g)) (hb : SBuf w' base g' cap' l') (hgg : g' = g ∨ g' = w.heap.size) :
    LS (w'.setCell ⟨lb, 0, none⟩ (.slice (some ⟨g', 0, none⟩) l'.length cap')) base lb g' cap' l' := by
  have hlt := h.lt
  have hne := h.ne
  have hgl := h.buf.lt
  have hne' : g' ≠ lb := by omega
  have hbl : w'.heap[lb]? = some (.cells #[.slice (some ⟨g, 0, none⟩) l.length cap] 55 (0, 0)) := (hg.block lb hlt (fun e => hne (Option.some.inj e).symm)).trans h.blk
  refine ⟨?_, World.ownsRow.kept hb (set_grown _ _ _ _) (.inr (fun e => hne' (Option.some.inj e))), hne', h.le⟩
  rw [heap_set w' lb 0 _ _ _ _ hbl]
  rfl
theorem LS.below {w w' : World} {base lb g cap g' cap' : Nat} {l l' : List ByteArray} {B : Nat} (h : LS w base lb g cap l) (hg : w.grownBy w' (some g)) (hB : B ≤ base) (hBw : B ≤ w.heap.size) :
    Below B w (w'.setCell ⟨lb, 0, none⟩ (.slice (some ⟨g', 0, none⟩) l'.length cap')) := by
  have hgl := h.buf.lt
  have hle := h.le
  exact ((Below.refl _ _).grown hg hBw (fun k e => by obtain rfl := Option.some.inj e; omega)).grown (set_grown _ lb 0 _) (Nat.le_trans hBw hg.size) (fun k e => by obtain rfl := Option.some.inj e; omega)
/-- the globals lie below -/
def Gl (B : Nat) : Prop := 8 < B ∧ 7 < B ∧ 1 < B
theorem Env.under {hi lo : Nat → Nat} {w w' : World} {B : Nat} (h : Env hi lo w) (g : Gl B) (hb : Below B w w') : Env hi lo w' := by
  have hs := hb.size
  refine ⟨⟨fun i h6 => ?_, h.tabs.2.1, tab_below h.tabs.2.2 hb g.2.1⟩, ?_, Nat.lt_of_lt_of_le h.n1 hs, Nat.lt_of_lt_of_le h.n2 hs, Nat.lt_of_lt_of_le h.n3 hs⟩
  · obtain ⟨a, b, c, d⟩ := h.tabs.1 i h6
    exact ⟨a, b, (hb.cell g.1).trans c, (hb.cell g.1).trans d⟩
  · obtain ⟨m, hm⟩ := h.ml
    exact ⟨m, (hb.cell g.2.2).trans hm⟩
end Go.Proofs.YtcbgkbidgpemfaaGreatDoor.prnw

/- print.Line's closure: numbers put behind a row of strings. Condition: the numbers lie in memory, in another block. -/
namespace Go.Proofs.YtcbgkbidgpemfaaGreatDoor.prnw
open Go.RowKit
open Go.Shelf
open Go.Sort
open Go.Proofs.YtcbgkbidgpemfaaGreatDoor.nodew
open Go.Proofs.YtcbgkbidgpemfaaGreatDoor.chkw
open Go.Proofs.YtcbgkbidgpemfaaGreatDoor.flatm

def PutPost (w : World) (base lb fb : Nat) (l : List ByteArray) (e : Ending) (w' : World) : Prop :=
  e = .returned (.tuple #[]) ∧ (∃ g cap, LS w' base lb g cap l ∧ g ≠ fb) ∧ Below base w w'
theorem cells_newS (W : World) (news : List ByteArray) (t : TypeId) : ∀ j b, news[j]? = some b → (W.alloc (.cells (news.map Value.string).toArray t)).cell? ((⟨W.heap.size, 0, none⟩ : Addr).add j) = some (.string b) := by
  intro j b hb
  have hadd : (⟨W.heap.size, 0, none⟩ : Addr).add j = ⟨W.heap.size, j, none⟩ := by unfold Addr.add; split <;> simp_all
  rw [hadd, cell_of_row _ _ j _ _ _ (heap_alloc_new W _)]
  simp [hb]
theorem lb_cell {w w' : World} {base lb g cap : Nat} {l : List ByteArray} (h : LS w base lb g cap l) (hg : w.grownBy w' (some g)) : w'.cell? ⟨lb, 0, none⟩ = some (.slice (some ⟨g, 0, none⟩) l.length cap) ∧ w'.frozen? ⟨lb, 0, none⟩ = false := by
  have hlt := h.lt
  have hne := h.ne
  have hbl : w'.heap[lb]? = some (.cells #[.slice (some ⟨g, 0, none⟩) l.length cap] 55 (0, 0)) := (hg.block lb hlt (fun e => hne (Option.some.inj e).symm)).trans h.blk
  refine ⟨?_, ?_⟩
  · rw [cell_of_row w' lb 0 _ _ _ hbl]; rfl
  · simp only [World.frozen?, hbl]
    simp
set_option maxRecDepth 100000 in
set_option maxHeartbeats 2000000 in
theorem put_any (hi lo : Nat → Nat) (base lb fb off c g cap : Nat) (xs : List Nat) (l : List ByteArray) (hxs : ∀ x ∈ xs, x < 18446744073709551616) (hlen : l.length + xs.length ≤ 100) (w : World) (hE : Env hi lo w) (hG : Gl base) (hbw : base ≤ w.heap.size) (hL : LS w base lb g cap l)
    (hc : ∀ j x, xs[j]? = some x → w.cell? ⟨fb, off + j, none⟩ = some (.float .f64 x)) (hfl : fb ≠ lb) (hfg : g ≠ fb) (hfw : fb < w.heap.size) :
    Calls Tryz.prog 48 #[.slice (some ⟨fb, off, none⟩) xs.length c, .pointer (some ⟨lb, 0, none⟩)] w (PutPost w base lb fb (l ++ xs.map (prB hi lo))) := by
  obtain ⟨n, hn⟩ : ∃ n, xs.length = n := ⟨_, rfl⟩
  have HN := Lib.hid hn
  have HE := Lib.hid (And.intro hE (And.intro hG (And.intro hbw hL)))
  have HC := Lib.hid (And.intro hc (And.intro hfl (And.intro hfg hfw)))
  have HX := Lib.hid (And.intro hxs hlen)
  rw [hn]
  have hn9 : n ≤ 100 := by omega
  clear hn hE hG hbw hL hc hfl hfg hfw hxs hlen
  go_enter Tryz.func48, Tryz.ntmps48
  go_wp2_with fail
  go_loopw [9] (fun i wr => ∃ k : Nat, k ≤ n ∧ i = .int .i64 k ∧ (∃ g' cap', LS wr base lb g' cap' (l ++ (xs.take k).map (prB hi lo)) ∧ g' ≠ fb) ∧ Below base w wr ∧ wr.heap[fb]? = w.heap[fb]?) (fun i _ => n - (intOf i).toNat)
  case atStart => exact ⟨0, by omega, rfl, ⟨g, cap, by rw [List.take_zero, List.map_nil, List.append_nil]; exact HE.out.2.2.2, HC.out.2.2.1⟩, Below.refl _ _, rfl⟩
  case round =>
    obtain ⟨k, hk, rfl, ⟨g1, cap1, hL1, hg1⟩, hB, hf⟩ := hrel
    obtain ⟨wa, hwa⟩ : ∃ wa, wa = wr := ⟨_, rfl⟩
    rw [← hwa] at hL1 hB hf ⊢
    clear hwa
    obtain ⟨hE, hG, hbw, hL⟩ := HE.out
    obtain ⟨hc, hfl, hfg, hfw⟩ := HC.out
    by_cases hkn : k < n
    · obtain ⟨x, hx⟩ : ∃ x, xs[k]? = some x := ⟨xs[k]'(by have := HN.out; omega), List.getElem?_eq_getElem _⟩
      have hcell : wa.cell? ⟨fb, off + k, none⟩ = some (.float .f64 x) := (World.cell?_of_block (a := ⟨fb, off + k, none⟩) hf).trans (hc k x hx)
      have hx64 := HX.out.1 x (List.mem_of_getElem? hx)
      have hEa := hE.under hG hB
      have CP := Lib.hid (print_b x hx64 wa hEa)
      obtain ⟨m, hm⟩ : ∃ m, m = l ++ (xs.take k).map (prB hi lo) := ⟨_, rfl⟩
      rw [← hm] at hL1
      have hml : m.length ≤ 100 := by
        have h1 := HX.out.2
        have h2 := HN.out
        rw [hm, List.length_append, List.length_map, List.length_take]
        omega
      have hm2 : m ++ [prB hi lo x] = l ++ (xs.take (k + 1)).map (prB hi lo) := by
        rw [hm, List.take_add_one, hx, List.map_append, ← List.append_assoc]
        rfl
      have HM := Lib.hid (And.intro hm2 hml)
      have HL1 := Lib.hid hL1
      have HB := Lib.hid hB
      have HF := Lib.hid hf
      have HG1 := Lib.hid hg1
      clear hE hG hbw hL hc hfl hfg hfw hx hx64 hEa hm hml hm2 hL1 hB hf hg1
      go_upto_region 4 with (go_at_call 49; (with_reducible refine CP.out.mono ?_); rintro e w1 ⟨rfl, hb1⟩; have B1 := Lib.hid hb1; clear hb1)
      have hL2 := HL1.out.later B1.out
      have cl : w1.cell? ⟨lb, 0, none⟩ = some (.slice (some ⟨g1, 0, none⟩) m.length cap1) := by rw [cell_of_row w1 lb 0 _ _ _ hL2.blk]; rfl
      have hz1 := hL2.lt
      have HL2 := Lib.hid hL2
      obtain ⟨T, hT⟩ : ∃ T, T = prB hi lo x := ⟨_, rfl⟩
      rw [← hT]
      have HT := Lib.hid hT
      clear hL2 hT
      have hbs : base ≤ w1.heap.size := Nat.le_trans HE.out.2.2.1 (Nat.le_trans HB.out.size B1.out.size)
      have HBS := Lib.hid hbs
      clear hbs
      go_wp2_with (at_builtin; refine wl_appS rfl (.tmp 18) (.tmp 20) rfl base g1 cap1 m rfl (World.ownsRow.alloc HL2.out.buf _) ⟨w1.heap.size, 0, none⟩ 1 1 [T] rfl rfl (by decide) (cells_newS w1 [T] _) (by have := HM.out.2; omega) (by have := HBS.out; simp; omega) ?_; intro g2 cap2 w2 hS2 hg2 hgg2; have hL3 := (HL2.out.grown (World.grownBy_alloc w1 _ none)).put hg2 hS2 hgg2; have cl2 := lb_cell (HL2.out.grown (World.grownBy_alloc w1 _ none)) hg2; have HL3 := Lib.hid hL3; have HG2 := Lib.hid (And.intro hg2 (And.intro hgg2 hS2)); clear hS2 hg2 hgg2 hL3)
      have hL3 := HL3.out
      obtain ⟨hg2, hgg2, hS2⟩ := HG2.out
      obtain ⟨hE, hG, hbw, hL⟩ := HE.out
      obtain ⟨hc, hfl, hfg, hfw⟩ := HC.out
      have b1 := B1.out
      have hB := HB.out
      have hg1 := HG1.out
      have hm2 := HM.out.1
      rw [← HT.out] at hm2
      have hbl := (HL2.out.grown (World.grownBy_alloc w1 (.cells #[Value.string T] 9) none)).below (l' := m ++ [T]) (g' := g2) (cap' := cap2) (B := base) hg2 (Nat.le_refl _) (by have := HBS.out; simp; omega)
      rw [List.length_append] at hL3 hbl
      have hsz := hB.size
      have hsz1 := b1.size
      have haz : (w1.alloc (.cells #[Value.string T] 9)).heap.size = w1.heap.size + 1 := by simp
      have hfin : (w2.setCell ⟨lb, 0, none⟩ (.slice (some ⟨g2, 0, none⟩) (m.length + 1) cap2)).heap[fb]? = w.heap[fb]? := by
        rw [Below.heap_setCell w2 ⟨lb, 0, none⟩ _ fb hfl, hg2.block fb (by omega) (fun e => hg1 (Option.some.inj e).symm), Below.heap_alloc _ _ _ (by omega), b1.block fb (by omega)]
        exact HF.out
      refine ⟨⟨k + 1, by omega, by go_num, ⟨g2, cap2, by rw [← hm2]; exact hL3, ?_⟩, ?_, hfin⟩, by simp [intOf]; omega⟩
      · rcases hgg2 with h1 | h1
        · rw [h1]; exact hg1
        · omega
      · exact ((hB.trans (b1.mono (by omega))).alloc (by omega) _).trans hbl
    · obtain rfl : k = n := by omega
      have HL1 := Lib.hid hL1
      have HB := Lib.hid hB
      have HG1 := Lib.hid hg1
      clear hE hG hbw hL hc hfl hfg hfw hL1 hB hg1 hf
      go_wp2_with fail
      go_end0
      refine ⟨rfl, ⟨g1, cap1, ?_, HG1.out⟩, HB.out⟩
      have h1 := HL1.out
      rw [List.take_of_length_le (by rw [HN.out]; exact Nat.le_refl _)] at h1
      exact h1
end Go.Proofs.YtcbgkbidgpemfaaGreatDoor.prnw

/- A drawn region: some reads may be taken first; the other operations ahead of n in each order that the edges leave; then a forced tail that may leave the class. No conditions. -/
namespace Go.Proofs.YtcbgkbidgpemfaaGreatDoor.qt
open Go.RowKit
section
variable {P : Program} {ops : Array Oper} {md : Region.Mode} {C : World → Prop} {Q : Exit → Act → World → Prop}

/-- the end of the head: what is left stands in one forced order -/
def tailL (P : Program) (md : Region.Mode) (ops : Array Oper) (Q : Exit → Act → World → Prop) (n g : Nat) (l : List Oper) : Array Bool → Act → World → Prop :=
  fun listed a w => Region.seqB md ops g n listed = true ∧ wpList P ops Q l a w
theorem headG_reads (hsel : Region.noSelect ops = true) {n g : Nat} {l : List Oper} (hs : Region.sinkB md ops n = true) (hc : Region.chainB md ops n = true) (hn : n < ops.size) {f : Nat} {w : World} (hw : C w) :
    ∀ (is : List Nat) (listed : Array Bool) (a : Act), HeadInv md ops n listed → is.all (fun i => decide (i < n)) = true → readsB md ops is listed = true →
    wpQuiet P ops C (fun a' => headG P md ops C n (tailL P md ops Q n g l) f (listAll is listed) a' w) (is.filterMap fun i => ops[i]?) a → headG P md ops C n (tailL P md ops Q n g l) (is.length + f) listed a w
  | [], listed, a, _, _, _, h => by rw [List.length_nil, Nat.zero_add]; exact h
  | i :: is, listed, a, inv, hlt, hB, h => by
    simp only [readsB, Bool.and_eq_true] at hB
    obtain ⟨⟨⟨hr, hf⟩, hp⟩, hB'⟩ := hB
    simp only [List.all_cons, Bool.and_eq_true, decide_eq_true_eq] at hlt
    cases hi : ops[i]? with
    | none => rw [hi] at hp; cases hp
    | some o =>
      rw [hi] at hp
      have hr' : i ∈ Region.ready md ops listed := by simpa using hr
      rw [List.filterMap_cons, hi] at h
      have hst : qOp P ops C i (wpQuiet P ops C (fun a' => headG P md ops C n (tailL P md ops Q n g l) f (listAll is (listed.setIfInBounds i true)) a' w) (is.filterMap fun i => ops[i]?)) a := by unfold qOp; simp only [hi]; exact h
      obtain ⟨v, hy, hK⟩ := yieldsIn_of_qOp hi hst
      rw [List.length_cons, show is.length + 1 + f = (is.length + f) + 1 by omega]
      exact headG_first hi (Region.noSelect_spec hsel) hs hc hn hlt.1 (fun listed' a' w' hL => seqB_ready hL.1) _ listed a w hw inv (Region.free_spec hi hf) hr' (readsR_of hp hy)
        (headG_reads hsel hs hc hn hw is _ _ (inv.set hr' hlt.1) hlt.2 hB' hK)
/-- the law -/
theorem region_head {id : Nat} {a : Act} {w : World} {l : List Oper} (n : Nat) (is : List Nat) (f : Nat) (hm : P.follows .mixedOrders = true)
    (hB : (Region.noSelect l.toArray && decide (n < l.length) && Region.sinkB .any l.toArray n && Region.chainB .any l.toArray n && is.all (fun i => decide (i < n)) && readsB .any l.toArray is (Array.replicate l.toArray.size false) && decide (is.length + f = n)) = true) (hC : C w.drew)
    (h : wpQuiet P l.toArray C (fun a' => headG P .any l.toArray C n (tailL P .any l.toArray Q n (l.length - n) (l.drop n)) f (listAll is (Array.replicate l.toArray.size false)) a' w.drew) (is.filterMap fun i => l[i]?) a) : (Code.region id l.toArray true).wp P Q a w := by
  simp only [Bool.and_eq_true, decide_eq_true_eq] at hB
  obtain ⟨⟨⟨⟨⟨⟨hsel, hn⟩, hs⟩, hc⟩, hlt⟩, hr⟩, hf⟩ := hB
  have hn' : n < l.toArray.size := by simpa using hn
  have inv0 : HeadInv .any l.toArray n (Array.replicate l.toArray.size false) :=
    ⟨by simp, fun j oj _ hl => (by rw [getD_replicate_false] at hl; cases hl), fun t _ ht => getD_in (by simpa using ht) (getD_replicate_false _ _)⟩
  have e : (fun i => l.toArray[i]?) = fun i => l[i]? := funext fun i => List.getElem?_toArray
  have H := headG_reads (Q := Q) (g := l.length - n) (l := l.drop n) (f := f) hsel hs hc hn' hC is _ a inv0 hlt hr (by rw [e]; exact h)
  rw [hf] at H
  refine wp_region_any hm ?_
  have hdl : (l.drop n).length = l.length - n := by simp
  have := any_of_headG (Q := Q) (g := l.length - n) (fun listed a' w' hL => by
    have := wpAny_of_seq (md := .any) (Q' := Q) (l.drop n) n listed a' w' (fun j => by simp [List.getElem?_drop]) (by rw [hdl]; exact hL.1) hL.2
    rwa [hdl] at this) _ _ _ _ hC H
  rw [show n + (l.length - n) = l.toArray.size by simp; omega] at this
  exact this
theorem headG_one {L : Array Bool → Act → World → Prop} {n f : Nat} {listed : Array Bool} {a : Act} {w : World} (i : Nat) (o : Oper) (hr : Region.ready md ops listed = [i]) (hi : decide (i < n) = true) (ho : ops[i]? = some o) (hg : o.guard = none)
    (h : goUpon P C o a (headG P md ops C n L f (listed.setIfInBounds i true)) ((execOp a.eval o).run P w)) : headG P md ops C n L (f + 1) listed a w := by
  refine ⟨by rw [hr]; simp, fun j hj => ?_⟩
  rw [hr] at hj
  have hj : j = i := by simpa using hj
  subst hj
  refine ⟨of_decide_eq_true hi, ?_⟩
  unfold gOp
  simp only [ho, Region.wanted, hg, if_true]
  exact h
theorem headG_end {n g : Nat} {l : List Oper} {listed : Array Bool} {a : Act} {w : World} (hB : Region.seqB md ops g n listed = true) (h : wpList P ops Q l a w) : headG P md ops C n (tailL P md ops Q n g l) 0 listed a w := ⟨hB, h⟩
end
end Go.Proofs.YtcbgkbidgpemfaaGreatDoor.qt
