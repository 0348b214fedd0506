/- The walk of strconv's atof64 at a decimal. Conditions: as each theorem states. -/
import Derived.Test.YtejmbbkklhpnaaaGreatDoorMc20
import Derived.Test.YtejmbbkklhpnaaaGreatDoorMc21
import Derived.Test.YtejmbbkklhpnaaaGreatDoorMc10
import Derived.Test.YtejmbbkklhpnaaaGreatDoorMc01
import Derived.Test.YtejmbbkklhpnaaaGreatDoorMc18
import Derived.Test.YtejmbbkklhpnaaaGreatDoorMc05
import Derived.Lib.ItoaNum
import Derived.Lib.Repeat
import Derived.WalkKit
import Derived.WalkLawsBesides
import Derived.WalkSpells
import Derived.Lib.Hide
import Derived.Outline
import Derived.Laws.FloatBits
import Derived.Laws.FloatArith
import Derived.Laws.Externs
import Derived.RangeFuncBox
import Derived.Deep.QuietTactic
import Derived.BigQuiet
import Derived.Shelf.Abstract
import Derived.Lib.SmallJoins
namespace Go.Proofs.YtejmbbkklhpnaaaGreatDoor.rdf
open Go.RowKit
open Go.Proofs.YtejmbbkklhpnaaaGreatDoor.bsw
open Go.Proofs.YtejmbbkklhpnaaaGreatDoor.prnw
open Go.Proofs.YtejmbbkklhpnaaaGreatDoor.dcw
open Go.Proofs.YtejmbbkklhpnaaaGreatDoor.dmx
open Go.Proofs.YtejmbbkklhpnaaaGreatDoor.fpm
open Go.Proofs.YtejmbbkklhpnaaaGreatDoor.flatm
open Go.Proofs.YtejmbbkklhpnaaaGreatDoor.nodew

attribute [local go_sem] ifrombits_run un_neg fo_eq
/-- equal words of one sign -/
theorem fo_eqw (s : Bool) (X Y : Nat) (hX : X ≤ infW) (hY : Y ≤ infW) : (fo (sgn s X) (sgn s Y) == some .eq) = decide (X = Y) := by
  have hi := infW_eq
  have hmod : ∀ Z, Z ≤ infW → sgn s Z % 9223372036854775808 = Z := fun Z hZ => by
    unfold sgn
    split <;> omega
  have hinf : Ieee.Format.read Ieee.double (sgn s infW) = .infinity s := by cases s <;> kernel_rfl
  by_cases hx : X < infW
  · by_cases hy : Y < infW
    · rw [fo_sv (by rw [hmod X hX]; omega) (by rw [hmod Y hY]; omega), sv_sgn s X hx, sv_sgn s Y hy]
      by_cases he : X = Y
      · rw [decide_eq_true he, he]
        simp
      · have hv : valR X ≠ valR Y := fun h => he (val_inj h)
        rw [decide_eq_false he, Int.compare_eq_ite_lt]
        cases s
        · rw [show (if (false : Bool) = true then -(valR X : Int) else (valR X : Int)) = (valR X : Int) from rfl, show (if (false : Bool) = true then -(valR Y : Int) else (valR Y : Int)) = (valR Y : Int) from rfl]
          split
          · rfl
          · rw [if_pos (by omega)]; rfl
        · rw [show (if (true : Bool) = true then -(valR X : Int) else (valR X : Int)) = -(valR X : Int) from rfl, show (if (true : Bool) = true then -(valR Y : Int) else (valR Y : Int)) = -(valR Y : Int) from rfl]
          split
          · rfl
          · rw [if_pos (by omega)]; rfl
    · have e : Y = infW := by omega
      subst e
      obtain ⟨m, a, h1, _⟩ := word_read s X hx
      rw [← sgn_word] at h1
      rw [decide_eq_false (by omega)]
      show (Ieee.Datum.order (Ieee.Format.read Ieee.double (sgn s X)) (Ieee.Format.read Ieee.double (sgn s infW)) == some .eq) = false
      rw [h1, hinf]
      cases s <;> rfl
  · have e : X = infW := by omega
    subst e
    by_cases hy : Y < infW
    · obtain ⟨m, a, h1, _⟩ := word_read s Y hy
      rw [← sgn_word] at h1
      rw [decide_eq_false (by omega)]
      show (Ieee.Datum.order (Ieee.Format.read Ieee.double (sgn s infW)) (Ieee.Format.read Ieee.double (sgn s Y)) == some .eq) = false
      rw [h1, hinf]
      cases s <;> rfl
    · have e : Y = infW := by omega
      subst e
      rw [decide_eq_true rfl]
      show (Ieee.Datum.order (Ieee.Format.read Ieee.double (sgn s infW)) (Ieee.Format.read Ieee.double (sgn s infW)) == some .eq) = true
      rw [hinf]
      cases s <;> rfl

/-- the nearest float of N times ten to P -/
def nx (N : Nat) (P : Int) : Nat := nearX (N * 10 ^ P.toNat) (10 ^ (-P).toNat)
theorem ten_pos (k : Nat) : 0 < 10 ^ k := Nat.pow_pos (by decide)
theorem nx_mono {M N : Nat} (h : M ≤ N) (P : Int) : nx M P ≤ nx N P := near_le (ten_pos _) (ten_pos _) (Nat.mul_le_mul_right _ (Nat.mul_le_mul_right _ h))
theorem nx_shift (N k : Nat) (P : Int) : nx (N * 10 ^ k) P = nx N (P + k) := by
  refine near_same (ten_pos _) (ten_pos _) ?_
  have e : P.toNat + k + (-(P + k)).toNat = (P + k).toNat + (-P).toNat := by omega
  calc N * 10 ^ k * 10 ^ P.toNat * 10 ^ (-(P + k)).toNat = N * 10 ^ (P.toNat + k + (-(P + k)).toNat) := by rw [Nat.pow_add, Nat.pow_add]; ac_rfl
    _ = N * 10 ^ ((P + k).toNat + (-P).toNat) := by rw [e]
    _ = N * 10 ^ (P + k).toNat * 10 ^ (-P).toNat := by rw [Nat.pow_add]; ac_rfl
def tenF : Nat := 346
theorem tenF_eq : tenF = 346 := rfl
theorem nx_zero (P : Int) : nx 0 P = 0 := by
  unfold nx
  rw [Nat.zero_mul]
  refine near_low (ten_pos _) ?_
  rw [Nat.zero_mul]
  exact Nat.zero_le _
theorem two_ten : 2 ^ twoC ≤ 10 ^ tenA := by decide +kernel
theorem nx_big {N : Nat} (h : 0 < N) {P : Int} (hP : 310 < P) : infX ≤ nx N P := by
  unfold nx
  rw [show (-P).toNat = 0 by omega, Nat.pow_zero]
  refine near_big (by decide) ?_
  rw [Nat.mul_one]
  refine Nat.le_trans two_ten ?_
  have h1 : (10 : Nat) ^ tenA ≤ 10 ^ P.toNat := Nat.pow_le_pow_right (by decide) (by have := tenA_eq; omega)
  exact Nat.le_trans h1 (Nat.le_mul_of_pos_left _ h)
theorem low_ten : 10 ^ 20 * 2 ^ lowE ≤ 10 ^ tenF := by decide +kernel
theorem nx_low {N : Nat} (h : N ≤ 10 ^ 20) {P : Int} (hP : P < -345) : nx N P = 0 := by
  unfold nx
  rw [show P.toNat = 0 by omega, Nat.pow_zero, Nat.mul_one]
  refine near_low (ten_pos _) ?_
  have h1 : (10 : Nat) ^ tenF ≤ 10 ^ (-P).toNat := Nat.pow_le_pow_right (by decide) (by have := tenF_eq; omega)
  exact Nat.le_trans (Nat.le_trans (Nat.mul_le_mul_right _ h) low_ten) h1
/-- by the slow road -/
theorem nx_val (N n : Nat) (dp : Int) (h : (n : Int) ≤ dp + 2000) : nearX (val N n dp) one = nx N (dp - n) := by
  refine near_same one_pos (ten_pos _) ?_
  unfold val one
  have ho := oneE_eq
  have e : (dp - (n : Int) + 2000).toNat + (-(dp - (n : Int))).toNat = (dp - (n : Int)).toNat + oneE := by omega
  rw [Nat.mul_assoc, ← Nat.pow_add, e, Nat.pow_add, Nat.mul_assoc]
/-- an exponent has three digits at most -/
theorem rf_ex {s : ByteArray} {neg : Bool} {x : MS} {rest : List UInt8} {ex : Int} (h : RfOk s neg x rest ex) : -1000 ≤ ex ∧ ex ≤ 1000 := by
  rcases h.re with ⟨_, r⟩ | ⟨r1, r2⟩
  · rw [r]
    decide
  · rw [r2]
    cases rest with
    | nil => exact absurd r1 (by decide)
    | cons c l =>
      unfold expB at r1
      rw [Bool.and_eq_true] at r1
      have h2 := r1.2
      rw [List.drop_succ_cons, List.drop_zero]
      simp only [Bool.and_eq_true, decide_eq_true_eq] at h2
      have key : ∀ r : List UInt8, dgs r ≤ 3 → dgs r = r.length → eL r 0 < 1000 := fun r a b => by
        have h3 := eL_snoc_bd r 0 (dgs_all r b)
        have h4 : (10 : Nat) ^ r.length ≤ 10 ^ 3 := Nat.pow_le_pow_right (by decide) (by omega)
        omega
      unfold exV
      by_cases h45 : l.head? = some 45
      · rw [if_pos (.inr h45)] at h2
        have := key _ h2.1.2 h2.2
        rw [if_pos h45]
        omega
      · rw [if_neg h45]
        by_cases h43 : l.head? = some 43
        · rw [if_pos (.inl h43)] at h2
          have := key _ h2.1.2 h2.2
          rw [if_pos h43]
          omega
        · rw [if_neg (fun h => h.elim h43 h45)] at h2
          have := key _ h2.1.2 h2.2
          rw [if_neg h43]
          omega

/-- an empty decimal -/
def decZ : Array Value := (List.replicate 800 (Value.int .u8 0) ++ [Value.int .i64 0, Value.int .i64 0, Value.bool false, Value.bool false]).toArray
theorem alloc_dec (w : World) : (Instr.alloc 194 true (.tuple #[])).run Tryz.prog w = .ok (.pointer (some ⟨w.heap.size, 0, none⟩)) (w.alloc (.cells decZ 194)) := by
  kernel_rfl
theorem dec_at (w : World) : SeW (w.alloc (.cells decZ 194)) w.heap.size 0 0 0 false (w.alloc (.cells decZ 194)) := by
  refine ⟨fun _ => 0, ⟨decZ, heap_at w _ _ rfl, fun j hj => ?_, by kernel_rfl, by kernel_rfl, by kernel_rfl, by kernel_rfl⟩, fun j hj => absurd hj (Nat.not_lt_zero _), ⟨rfl, rfl, rfl, Nat.le_refl _, fun _ _ _ => rfl⟩⟩
  unfold decZ
  rw [List.getElem?_toArray, List.getElem?_append_left (by rw [List.length_replicate]; exact hj), List.getElem?_replicate, if_pos hj]
  rfl

/-- what reading reads, in blocks below B -/
structure NE (B : Nat) (w : World) : Prop where
  ev : EV B w
  ft : FT B w
  pt : PT hiT loT w
  pb : 8 < B
  ob : 2 < B
  op : w.cell? ⟨2, 0, none⟩ = some (.bool true)
  lt : B ≤ w.heap.size
theorem NE.below {B : Nat} {w w' : World} (h : NE B w) (hb : Below w.heap.size w w') : NE B w' := by
  have hk : ∀ (p : Addr) (v : Value), p.block < B → w.cell? p = some v → w'.cell? p = some v := fun p v hp hv => (hb.cell (Nat.lt_of_lt_of_le hp h.lt)).trans hv
  exact ⟨h.ev.keep hk, h.ft.keep hk, fun i hi => by
    obtain ⟨a1, a2, a3, a4⟩ := h.pt i hi
    exact ⟨a1, a2, hk _ _ h.pb a3, hk _ _ h.pb a4⟩, h.pb, h.ob, hk _ _ h.ob h.op, Nat.le_trans h.lt hb.size⟩
theorem ml_ok : ∀ (l : List UInt8) (n : Nat) (y x : MS) (rest : List UInt8), MOk n y → mL l y = (x, rest) → MOk (n + l.length) x
  | [], n, y, x, rest, h, hm => by
    unfold mL at hm
    injection hm with e1 e2
    rw [← e1]
    exact h
  | c :: l, n, y, x, rest, h, hm => by
    have stop : ∀ z : MS × List UInt8, (y, c :: l) = (x, rest) → MOk (n + (c :: l).length) x := fun _ e => by
      injection e with e1 e2
      rw [← e1]
      exact mok_mono h (Nat.le_add_right _ _)
    have hl : n + (c :: l).length = n + 1 + l.length := by rw [List.length_cons]; omega
    unfold mL at hm
    split at hm
    · split at hm
      · exact stop (x, rest) hm
      · rw [hl]
        exact ml_ok l (n + 1) _ x rest (mok_dot h) hm
    · split at hm
      · rename_i hd
        rw [hl]
        exact ml_ok l (n + 1) _ x rest (mok_dg h c hd) hm
      · exact stop (x, rest) hm
theorem rf_ok {s : ByteArray} {neg : Bool} {x : MS} {rest : List UInt8} {ex : Int} (h : RfOk s neg x rest ex) : MOk 60 x := by
  refine mok_mono (ml_ok _ 0 ms0 x rest mok0 h.run) ?_
  have := h.sz
  rw [List.length_drop]
  simp
  omega
/-- the digits that are read, and what is left out -/
theorem rf_near {x : MS} {n : Nat} (h : MOk n x) (D : Int) : (x.m = 0 → x.N = 0) ∧ (∀ p : Int, p = D - x.nm → nx x.m p ≤ nx x.N (D - x.nd) ∧ nx x.N (D - x.nd) ≤ nx (x.m + 1) p ∧ (x.tr = false → nx x.N (D - x.nd) = nx x.m p)) := by
  obtain ⟨k, hk⟩ : ∃ k, x.nd - x.nm = k := ⟨_, rfl⟩
  have hq := h.q
  have ht := h.t
  have hmn := h.mn
  rw [hk] at hq ht
  have hp := ten_pos k
  refine ⟨fun h0 => ?_, fun p hp2 => ?_⟩
  · by_cases hk0 : k = 0
    · rw [hk0, Nat.pow_zero, Nat.div_one, h0] at hq
      exact hq.symm
    · have h19 : ¬ x.nm < 19 := fun hl => by have := h.full hl; omega
      have h4 := h.lo (by omega)
      have h5 : 10 ^ k ≤ 10 ^ (x.nd - 1) := Nat.pow_le_pow_right (by decide) (by omega)
      have h6 : 1 ≤ x.N / 10 ^ k := by
        rw [Nat.le_div_iff_mul_le hp, Nat.one_mul]
        omega
      omega
  · have hdm := Nat.div_add_mod x.N (10 ^ k)
    have hml := Nat.mod_lt x.N hp
    rw [← hq, Nat.mul_comm] at hdm
    have e : ∀ M, nx (M * 10 ^ k) (D - x.nd) = nx M p := fun M => by
      rw [nx_shift, hp2]
      congr 1
      omega
    rw [← e x.m, ← e (x.m + 1)]
    refine ⟨nx_mono (by omega) _, nx_mono ?_ _, fun h0 => ?_⟩
    · rw [Nat.add_mul, Nat.one_mul]
      omega
    · rw [h0] at ht
      have hz : x.N % 10 ^ k = 0 := by
        have := of_decide_eq_false ht.symm
        exact Decidable.not_not.1 this
      rw [hz, Nat.add_zero] at hdm
      rw [hdm]
def atV (neg : Bool) (X n : Nat) : Value := .tuple #[.float .f64 (sgn neg (min X infX)), .int .i64 (n : Nat), if infX ≤ X then .iface 160 (.int .i64 1) else .nilIface]
def AtPost (w : World) (neg : Bool) (X n : Nat) (e : Ending) (w' : World) : Prop := e = .returned (atV neg X n) ∧ Below w.heap.size w w'
theorem exec_alloc_dec {o : Oper} (ho : o.op = .alloc 194) (a : Act) (w : World) : (execOp a.eval o).run Tryz.prog w = .ok (.value (.pointer (some ⟨w.heap.size, 0, none⟩))) (w.alloc (.cells decZ 194)) := by
  unfold execOp
  simp only [ho, Sem.run_bind, alloc_dec, Result.andThen_ok, Sem.run_pure]
theorem pk_parts (neg : Bool) (X n : Nat) : ∃ F E, pkV neg X = .tuple #[.float .f64 F, E] ∧ atV neg X n = .tuple #[.float .f64 F, .int .i64 (n : Nat), E] ∧ F = sgn neg (min X infX) := ⟨_, _, rfl, rfl, rfl⟩
theorem at_same (neg : Bool) (X Y n : Nat) (h1 : min X infX = min Y infX) : atV neg X n = atV neg Y n := by
  unfold atV
  rw [h1]
  by_cases h : infX ≤ X
  · rw [if_pos h, if_pos (by omega)]
  · rw [if_neg h, if_neg (by omega)]
set_option maxRecDepth 100000 in
set_option maxHeartbeats 4000000 in
theorem atof_any (B : Nat) (s : ByteArray) (neg : Bool) (x : MS) (rest : List UInt8) (ex : Int) (h : RfOk s neg x rest ex) (hnd : x.nd ≤ 30) (w : World) (hN : NE B w) :
    Calls Tryz.prog 189 #[.string s] w (AtPost w neg (nx x.N (dpX x + ex - x.nd)) s.size) := by
  have CS := fun W => special_any s neg x rest ex h W
  obtain ⟨p, hp⟩ : ∃ p, rfE x ex = p := ⟨_, rfl⟩
  have CR : ∀ W, Calls Tryz.prog 193 #[.string s] W fun e w' => e = .returned (.tuple #[.int .u64 ((x.m : Nat) : Int), .int .i64 p, .bool neg, .bool x.tr, .bool false, .int .i64 ((s.size : Nat) : Int), .bool true]) ∧ w' = W := fun W => by
    have := readFloat_any s neg x rest ex h W
    unfold RfPost at this
    rw [hp] at this
    exact this
  have CB := fun W => b2u neg W
  have hsh : ∀ b : Nat, b = (if neg then 1 else 0) → IntKind.u64.wrap ((b : Int) * 9223372036854775808) = ((sgn neg 0 : Nat) : Int) := fun b hb => by
    subst hb
    cases neg <;> decide +kernel
  obtain ⟨nb, hnb⟩ : ∃ nb : Nat, nb = if neg then 1 else 0 := ⟨_, rfl⟩
  have hsh2 := hsh nb hnb
  have CB2 : ∀ W, Calls Tryz.prog 183 #[.bool neg] W (Same W (.int .u64 ((nb : Nat) : Int))) := fun W => by
    have := CB W
    rw [hnb]
    cases neg <;> exact this
  have nb0 : (0 : Int) ≤ (nb : Int) := by omega
  have nb1 : (nb : Int) ≤ 1 := by rw [hnb]; split <;> decide
  have hC := Lib.hid (And.intro CS (And.intro CR CB2))
  have hMO := rf_ok h
  have o1 := hN.op
  clear CS CR CB CB2 hsh hnb
  obtain ⟨X, hX⟩ : ∃ X, nx x.N (dpX x + ex - x.nd) = X := ⟨_, rfl⟩
  rw [hX]
  go_enter Tryz.func189, Tryz.ntmps189
  go_upto_region 12 with (first | (go_at_call 192; (with_reducible refine (hC.out.1 _).mono ?_); rintro e w' ⟨rfl, hw'⟩; obtain rfl := hw'.symm) | (go_at_call 193; (with_reducible refine (hC.out.2.1 _).mono ?_); rintro e w' ⟨rfl, hw'⟩; obtain rfl := hw'.symm) | (go_at_call 183; (with_reducible refine (hC.out.2.2 _).mono ?_); rintro e w' ⟨rfl, hw'⟩; obtain rfl := hw'.symm))
  obtain ⟨n1, n2⟩ := rf_near hMO (dpX x + ex)
  rw [hX] at n2
  have hpm : x.m ≠ 0 → p = dpX x + ex - x.nm := fun h0 => by
    rw [← hp]
    unfold rfE
    rw [if_neg h0]
    rfl
  have bS : ∀ b : Nat, sgn neg 0 = b → bits BinOp.or IntKind.u64 (b : Int) 0 = (b : Int) ∧ bits BinOp.or IntKind.u64 (b : Int) 9218868437227405312 = ((sgn neg infX : Nat) : Int) := fun b hb => by
    subst hb
    cases neg <;> decide +kernel
  obtain ⟨S0, hS0⟩ : ∃ S0, sgn neg 0 = S0 := ⟨_, rfl⟩
  obtain ⟨bs1, bs2⟩ := bS S0 hS0
  obtain ⟨SI, hSI⟩ : ∃ SI, sgn neg infX = SI := ⟨_, rfl⟩
  rw [hSI] at bs2
  rw [hS0]
  have HSg := Lib.hid (And.intro hS0 hSI)
  clear hC bS hSI
  by_cases hm0 : x.m = 0
  · have hX0 : X = 0 := by rw [← hX, n1 hm0, nx_zero]
    have hV : atV neg X s.size = .tuple #[.float .f64 S0, .int .i64 (s.size : Nat), .nilIface] := by
      rw [hX0, ← hS0]
      unfold atV
      rw [Nat.min_eq_left (Nat.zero_le _), if_neg (by decide)]
    have g1 : ((x.m : Int) == 0) = true := by rw [hm0]; rfl
    have HV := Lib.hid hV
    clear n1 n2 hpm hX hX0 hV hMO hS0 hN h hp hsh2
    go_wp2_with fail
    go_ret3
    exact ⟨congrArg Ending.returned HV.out.symm, Below.refl _ _⟩
  have g1 : ((x.m : Int) == 0) = false := by rw [beq_eq_false_iff_ne]; omega
  have hpp := hpm hm0
  obtain ⟨l1, l2, l3⟩ := n2 p hpp
  have hm19 : x.m < 10 ^ 19 := Nat.lt_of_lt_of_le hMO.m (Nat.pow_le_pow_right (by decide) hMO.nm)
  have h19 : (10 : Nat) ^ 19 = 10000000000000000000 := by decide
  rw [h19] at hm19
  by_cases hbig : 310 < p
  · have hXb : infX ≤ X := Nat.le_trans (nx_big (by omega) hbig) l1
    have hV : atV neg X s.size = .tuple #[.float .f64 SI, .int .i64 (s.size : Nat), .iface 160 (.int .i64 1)] := by
      unfold atV
      rw [Nat.min_eq_right hXb, if_pos hXb, HSg.out.2]
    have g2 : decide (310 < p) = true := decide_eq_true hbig
    have HV := Lib.hid hV
    clear n1 n2 hpm hX hXb hV hMO hS0 hN h hp hsh2 l1 l2 l3 hbig hpp
    go_wp2_with fail
    go_ret3
    exact ⟨congrArg Ending.returned HV.out.symm, Below.refl _ _⟩
  have g2 : decide (310 < p) = false := decide_eq_false hbig
  by_cases hlow : p < -345
  · have hX0 : X = 0 := by
      have := nx_low (N := x.m + 1) (P := p) (by omega) hlow
      omega
    have hV : atV neg X s.size = .tuple #[.float .f64 S0, .int .i64 (s.size : Nat), .nilIface] := by
      rw [hX0, ← hS0]
      unfold atV
      rw [Nat.min_eq_left (Nat.zero_le _), if_neg (by decide)]
    have g3 : decide (p < -345) = true := decide_eq_true hlow
    have HV := Lib.hid hV
    clear n1 n2 hpm hX hX0 hV hMO hS0 hN h hp hsh2 l1 l2 l3 hbig hpp hlow
    go_wp2_with fail
    go_ret3
    exact ⟨congrArg Ending.returned HV.out.symm, Below.refl _ _⟩
  have g3 : decide (p < -345) = false := decide_eq_false hlow
  go_upto_region 18 with (fail)
  obtain ⟨i, hi⟩ : ∃ i : Nat, p = (i : Int) - 348 := ⟨(p + 348).toNat, by omega⟩
  have CP : ∀ (d : Nat) (W : World), 0 < d → d < 18446744073709551616 → NE B W → Calls Tryz.prog 203 #[.int .u64 (d : Nat), .int .i64 p, .int .u64 ((S0 : Nat) : Int)] W (PfPost W (pkV neg (nx d p))) := fun d W hd0 hd hNW => by
    have := pf64_any neg d i hd0 hd (by omega) (by omega) W hNW.pt (Nat.lt_of_lt_of_le hNW.pb hNW.lt)
    rw [← hi, hS0] at this
    exact this
  clear hi
  have CE : ∀ W, NE B W → Calls Tryz.prog 202 #[.int .u64 ((x.m : Nat) : Int), .int .i64 p, .bool neg] W fun e w' => w' = W ∧ ∃ F b, e = .returned (.tuple #[.float .f64 F, .bool b]) ∧ (b = true → nx x.m p < infW ∧ F = sgn neg (nx x.m p)) := fun W hNW => by
    refine (exact_any B neg x.m p (by omega) (by omega) (by omega) (by omega) W hNW.ev hNW.ft).mono ?_
    rintro e w' ⟨h1, ⟨G, h2⟩ | ⟨h2, h3⟩⟩
    · exact ⟨h1, G, false, h2, fun h => by cases h⟩
    · exact ⟨h1, _, true, h3, fun _ => ⟨h2, rfl⟩⟩
  have hex : s.extract 0 s.size = s := by
    apply ByteArray.ext
    rw [ByteArray.data_extract]
    simp
  have HN := Lib.hid hN
  have HCP := Lib.hid (And.intro CP CE)
  obtain ⟨Y, hY⟩ : ∃ Y, nx x.m p = Y := ⟨_, rfl⟩
  rw [hY] at l1 l3
  obtain ⟨F, E, k1, k2, k3⟩ := pk_parts neg Y s.size
  -- the fast road
  have HF1 : ∀ W, NE B W → Calls Tryz.prog 203 #[.int .u64 ((x.m : Nat) : Int), .int .i64 p, .int .u64 ((S0 : Nat) : Int)] W fun e w' => e = .returned (.tuple #[.float .f64 F, E]) ∧ Below W.heap.size W w' := fun W hNW => by
    have := CP x.m W (by omega) (by omega) hNW
    rw [hY, k1] at this
    exact this
  cases htr : x.tr with
  | false =>
    have hXY := l3 htr
    have HCE := Lib.hid (CE w hN)
    have HV := Lib.hid (And.intro (And.intro hXY k2) (And.intro hY k3))
    have HF := Lib.hid HF1
    clear CP CE HF1 hXY k1 k2 k3 l1 l2 l3 hm19 hMO hS0 hX hY n1 n2 hpm hpp hN h hp HCP bs1 bs2 hex hsh2
    go_upto_region 20 with (go_at_call 202; (with_reducible refine HCE.out.mono ?_); rintro e w' ⟨hw', G, b, rfl, hb⟩; obtain rfl := hw'.symm; have HG := Lib.hid hb; clear hb)
    cases b with
    | true =>
      go_wp2_with fail
      go_ret3
      obtain ⟨⟨v1, v2⟩, v3, v4⟩ := HV.out
      obtain ⟨b1, b2⟩ : nx x.m p < infW ∧ G = sgn neg (nx x.m p) := by first | exact HG.out rfl | exact HG.out trivial
      refine ⟨congrArg Ending.returned ?_, Below.refl _ _⟩
      rw [v1]
      unfold atV
      rw [b2, v3] at *
      have hne : ¬ infX ≤ Y := by
        have : infX = infW := rfl
        omega
      rw [if_neg hne, Nat.min_eq_left (by omega)]
      rfl
    | false =>
      go_wp2_with (go_at_call 203; (with_reducible refine (HF.out _ HN.out).mono ?_); rintro e w1 ⟨rfl, hw1⟩; have HB1 := Lib.hid hw1; clear hw1)
      go_ret3
      obtain ⟨⟨v1, v2⟩, v3, v4⟩ := HV.out
      refine ⟨congrArg Ending.returned ?_, HB1.out⟩
      rw [v1, v2]
      rfl
  | true =>
    obtain ⟨Z, hZ⟩ : ∃ Z, nx (x.m + 1) p = Z := ⟨_, rfl⟩
    obtain ⟨F2, E2, j1, j2, j3⟩ := pk_parts neg Z s.size
    have HF2 : ∀ W, NE B W → Calls Tryz.prog 203 #[.int .u64 ((x.m : Int) + 1), .int .i64 p, .int .u64 ((S0 : Nat) : Int)] W fun e w' => e = .returned (.tuple #[.float .f64 F2, E2]) ∧ Below W.heap.size W w' := fun W hNW => by
      have := CP (x.m + 1) W (by omega) (by omega) hNW
      rw [hZ, j1] at this
      rw [show (x.m : Int) + 1 = ((x.m + 1 : Nat) : Int) by omega]
      exact this
    have hfo : (fo F F2 == some .eq) = decide (min Y infW = min Z infW) := by
      rw [k3, j3]
      exact fo_eqw neg _ _ (Nat.min_le_right _ _) (Nat.min_le_right _ _)
    have m0 : (0 : Int) ≤ (x.m : Int) := by omega
    have m9 : (x.m : Int) + 1 < 18446744073709551616 := by omega
    have HFF := Lib.hid (And.intro HF1 HF2)
    by_cases hsame : min Y infW = min Z infW
    · rw [decide_eq_true hsame] at hfo
      have hX9 : min X infX = min Y infX := by
        have : infX = infW := rfl
        rw [hZ] at l2
        omega
      have hV := at_same neg X Y s.size hX9
      have HV := Lib.hid (hV.trans k2)
      clear CP CE HF1 HF2 k1 k2 k3 j1 j2 j3 l1 l2 l3 hm19 hMO hS0 hX hY hZ n1 n2 hpm hpp hN h hp HCP bs1 bs2 hex hsh2 hsame hX9 hV
      go_upto_region 23 with (go_at_call 203; (with_reducible refine (HFF.out.1 _ HN.out).mono ?_); rintro e w1 ⟨rfl, hw1⟩; have HB1 := Lib.hid hw1; clear hw1)
      have HN1 := Lib.hid (HN.out.below HB1.out)
      go_upto_region 26 with (go_at_call 203; (with_reducible refine (HFF.out.2 _ HN1.out).mono ?_); rintro e w2 ⟨rfl, hw2⟩; have HB2 := Lib.hid hw2; clear hw2)
      go_wp2_with fail
      go_ret3
      exact ⟨congrArg Ending.returned HV.out.symm, Below.trans HB1.out (HB2.out.mono HB1.out.size)⟩
    · rw [decide_eq_false hsame] at hfo
      -- the slow road
      have hnd0 : 0 < x.nd := Nat.pos_of_ne_zero fun e => by
        have h1 := hMO.hN
        rw [e, Nat.pow_zero] at h1
        have h2 := hMO.q
        rw [show x.N = 0 by omega, Nat.zero_div] at h2
        exact hm0 h2
      obtain ⟨ex0, ex9⟩ := rf_ex h
      have hdx : -60 ≤ dpX x ∧ dpX x ≤ 60 := by
        have a1 := hMO.d0
        have a2 := hMO.d1
        have a3 := hMO.nd
        unfold dpX
        split <;> omega
      have CS : ∀ (a : Nat) (W : World), SeW W a 0 0 0 false W → Calls Tryz.prog 199 #[.pointer (some ⟨a, 0, none⟩), .string s] W (SetPost W a x.N x.nd (dpX x + ex) neg) := fun a W hS => set_any a s neg x rest ex h W hS
      have CF : ∀ (a : Nat) (W W' : World), B ≤ a → EV B W' → SeW W a x.N x.nd (dpX x + ex) neg W' → Calls Tryz.prog 200 #[.pointer (some ⟨a, 0, none⟩), .pointer (some ⟨11, 0, none⟩)] W' fun e w' => e = .returned (.tuple #[.int .u64 ((sgn neg (min X infX) : Nat) : Int), .bool (decide (infX ≤ X))]) ∧ W'.grownBy w' (some a) := fun a W W' hB hEV hS => by
        obtain ⟨f, s1, s2, s3⟩ := hS
        have hb := fbits_any B a (val x.N x.nd (dpX x + ex)) x.N x.nd (dpX x + ex) neg W' hEV hB hnd (by omega) (by omega) ⟨f, s1, s2, ⟨hnd0, hMO.lo hnd0, hMO.hN⟩, by omega, rfl⟩
        rw [nx_val x.N x.nd (dpX x + ex) (by omega), hX] at hb
        exact hb
      obtain ⟨b, hb⟩ : ∃ b, decide (infX ≤ X) = b := ⟨_, rfl⟩
      obtain ⟨G, hG⟩ : ∃ G, sgn neg (min X infX) = G := ⟨_, rfl⟩
      have hV : atV neg X s.size = .tuple #[.float .f64 G, .int .i64 (s.size : Nat), if b then .iface 160 (.int .i64 1) else .nilIface] := by
        unfold atV
        rw [hG, ← hb]
        by_cases h : infX ≤ X
        · rw [if_pos h, decide_eq_true h, if_pos rfl]
        · rw [if_neg h, decide_eq_false h, if_neg (by decide)]
      rw [hG, hb] at CF
      have HV := Lib.hid hV
      have HC := Lib.hid (And.intro CS CF)
      clear CP CE HF1 HF2 k1 k2 k3 j1 j2 j3 l1 l2 l3 hm19 hMO hS0 hX hY hZ n1 n2 hpm hpp hN h hp HCP bs1 bs2 hsh2 hsame hV CS CF hnd0 hdx ex0 ex9 hb hG
      go_upto_region 23 with (go_at_call 203; (with_reducible refine (HFF.out.1 _ HN.out).mono ?_); rintro e w1 ⟨rfl, hw1⟩; have HB1 := Lib.hid hw1; clear hw1)
      have HN1 := Lib.hid (HN.out.below HB1.out)
      go_upto_region 26 with (go_at_call 203; (with_reducible refine (HFF.out.2 _ HN1.out).mono ?_); rintro e w2 ⟨rfl, hw2⟩; have HB2 := Lib.hid hw2; clear hw2)
      have HN2 := Lib.hid (HN1.out.below HB2.out)
      have HB3 := Lib.hid (Below.trans HB1.out (HB2.out.mono HB1.out.size))
      clear HB1 HB2 HN1
      go_upto_region 28 with (fail)
      refine wp_region_lit ?_
      refine wl_val rfl _ (exec_alloc_dec rfl _ _) ?_
      obtain ⟨a, ha⟩ : ∃ a, w2.heap.size = a := ⟨_, rfl⟩
      obtain ⟨W3, hW3⟩ : ∃ W3, w2.alloc (.cells decZ 194) = W3 := ⟨_, rfl⟩
      have hS3 := dec_at w2
      have hB3 : Below w2.heap.size w2 W3 := by rw [← hW3]; exact (Below.refl _ _).alloc (Nat.le_refl _) _
      rw [hW3] at hS3 ⊢
      have HN3 := Lib.hid (HN2.out.below hB3)
      have hBa := HN2.out.lt
      rw [ha] at hS3 hBa hB3 ⊢
      have HB4 := Lib.hid (And.intro (Below.trans HB3.out (hB3.mono (by rw [← ha]; exact HB3.out.size))) (And.intro hBa (show w.heap.size ≤ a by rw [← ha]; exact HB3.out.size)))
      have HS3 := Lib.hid hS3
      clear hS3 hB3 hBa HB3 HN2 hW3
      simp only [Act.put, List.setIfInBounds_toArray, List.set_cons_succ, List.set_cons_zero]
      go_upto_region 31 with (go_at_call 199; (with_reducible refine (HC.out.1 _ _ HS3.out).mono ?_); rintro e w4 ⟨rfl, hw4⟩; have HS4 := Lib.hid hw4; clear hw4)
      obtain ⟨f4, s41, s42, s43⟩ := id HS4.out
      have hBa := HB4.out.2.1
      have hE4 : EV B w4 := HN3.out.ev.grown s43 (fun r e => by obtain rfl := Option.some.inj e; exact hBa)
      have HE4 := Lib.hid (And.intro hBa (And.intro hE4 s43))
      clear s41 s42 s43 hBa hE4
      go_upto_region 32 with (go_at_call 200; (with_reducible refine (HC.out.2 _ _ _ HE4.out.1 HE4.out.2.1 HS4.out).mono ?_); rintro e w5 ⟨rfl, hw5⟩; have HS5 := Lib.hid hw5; clear hw5)
      have hfin : Below w.heap.size w w5 := by
        have q1 := HB4.out.1
        have q2 := HB4.out.2.2
        refine (q1.grown HE4.out.2.2 q1.size ?_).grown HS5.out ?_ ?_
        · intro r e
          obtain rfl := Option.some.inj e
          exact q2
        · exact Nat.le_trans q1.size HE4.out.2.2.size
        · intro r e
          obtain rfl := Option.some.inj e
          exact q2
      have HFin := Lib.hid hfin
      clear hfin
      cases b with
      | true =>
        go_wp2_with fail
        go_ret3
        exact ⟨congrArg Ending.returned HV.out.symm, HFin.out⟩
      | false =>
        go_wp2_with fail
        go_ret3
        exact ⟨congrArg Ending.returned HV.out.symm, HFin.out⟩
end Go.Proofs.YtejmbbkklhpnaaaGreatDoor.rdf

/- What decimal.right takes is what strconv's reading takes: plain. -/
namespace Go.Proofs.YtejmbbkklhpnaaaGreatDoor.rdf
open Go.RowKit
open Go.Proofs.YtejmbbkklhpnaaaGreatDoor.dmx
open Go.Proofs.YtejmbbkklhpnaaaGreatDoor.fpm

/-- a row of digits, read -/
def foldD (l : List UInt8) (y : MS) : MS := l.foldl (fun y c => dgS c y) y
theorem dgS_keep (c : UInt8) (y : MS) : (dgS c y).dot = y.dot ∧ (dgS c y).sd = true ∧ (dgS c y).nd ≤ y.nd + 1 := by
  unfold dgS
  split
  · exact ⟨rfl, rfl, Nat.le_succ _⟩
  · split <;> exact ⟨rfl, rfl, Nat.le_refl _⟩
theorem fold_keep : ∀ (l : List UInt8) (y : MS), (foldD l y).dot = y.dot ∧ (y.sd = true ∨ 0 < l.length → (foldD l y).sd = true) ∧ (foldD l y).nd ≤ y.nd + l.length
  | [], y => ⟨rfl, fun h => h.elim id (fun h => absurd h (Nat.lt_irrefl _)), Nat.le_refl _⟩
  | c :: l, y => by
    obtain ⟨a1, a2, a3⟩ := dgS_keep c y
    obtain ⟨b1, b2, b3⟩ := fold_keep l (dgS c y)
    refine ⟨b1.trans a1, fun _ => b2 (.inl a2), ?_⟩
    show (foldD l (dgS c y)).nd ≤ _
    rw [List.length_cons]
    omega
theorem isD_46 {c : UInt8} (h : isD c = true) : ¬ c.toNat = 46 := fun e => by
  have := (isD_iff c).1 h
  omega
/-- the digits first -/
theorem ml_dgs : ∀ (l : List UInt8) (y : MS), mL l y = mL (l.drop (dgs l)) (foldD (l.take (dgs l)) y)
  | [], y => rfl
  | c :: l, y => by
    by_cases h : isD c = true
    · have e : dgs (c :: l) = dgs l + 1 := by
        conv => lhs; unfold dgs
        rw [if_pos h]
      rw [e, List.drop_succ_cons, List.take_succ_cons]
      conv => lhs; unfold mL
      rw [if_neg (isD_46 h), if_pos h]
      exact ml_dgs l (dgS c y)
    · have e : dgs (c :: l) = 0 := by
        conv => lhs; unfold dgs
        rw [if_neg h]
      rw [e]
      rfl
/-- what is no digit, and no first point, stops it -/
theorem ml_stop (l : List UInt8) (y : MS) (h1 : dgs l = 0) (h2 : l.head? = some 46 → y.dot = true) : mL l y = (y, l) := by
  cases l with
  | nil => rfl
  | cons c l =>
    have hd : ¬ isD c = true := fun h => by
      unfold dgs at h1
      rw [if_pos h] at h1
      omega
    unfold mL
    by_cases h46 : c.toNat = 46
    · have hc : c = 46 := (u8_eq c 46 (by decide)).2 h46
      rw [if_pos h46, if_pos (h2 (by rw [hc]; rfl))]
    · rw [if_neg h46, if_neg hd]
theorem dgs_drop : ∀ l : List UInt8, dgs (l.drop (dgs l)) = 0
  | [] => rfl
  | c :: l => by
    by_cases h : isD c = true
    · have e : dgs (c :: l) = dgs l + 1 := by
        conv => lhs; unfold dgs
        rw [if_pos h]
      rw [e, List.drop_succ_cons]
      exact dgs_drop l
    · have e : dgs (c :: l) = 0 := by
        conv => lhs; unfold dgs
        rw [if_neg h]
      rw [e]
      exact e
theorem take_len (l : List UInt8) : (l.take (dgs l)).length = dgs l := by
  rw [List.length_take]
  have := dgs_le l
  omega
/-- what the reading of a text without its sign comes to -/
theorem ml_cut (l : List UInt8) (hq : 1 ≤ (cutN l).1) : ∃ x, mL l ms0 = (x, (cutN l).2) ∧ x.sd = true ∧ x.nd ≤ (cutN l).1 := by
  obtain ⟨a1, a2, a3⟩ := fold_keep (l.take (dgs l)) ms0
  rw [take_len] at a2 a3
  rw [ml_dgs l ms0]
  unfold cutN at hq ⊢
  by_cases h46 : (l.drop (dgs l)).head? = some 46
  · simp only [if_pos h46] at hq ⊢
    obtain ⟨r, hr⟩ : ∃ r, l.drop (dgs l) = 46 :: r := by
      cases hl : l.drop (dgs l) with
      | nil => rw [hl] at h46; cases h46
      | cons c r =>
        rw [hl] at h46
        obtain rfl : c = 46 := by simpa using h46
        exact ⟨r, rfl⟩
    rw [hr] at hq ⊢
    rw [List.drop_succ_cons, List.drop_zero] at hq ⊢
    have e : mL (46 :: r) (foldD (l.take (dgs l)) ms0) = mL r (dotS (foldD (l.take (dgs l)) ms0)) := by
      conv => lhs; unfold mL
      rw [if_pos (by decide), if_neg (by rw [a1]; decide)]
    rw [e, ml_dgs r]
    obtain ⟨b1, b2, b3⟩ := fold_keep (r.take (dgs r)) (dotS (foldD (l.take (dgs l)) ms0))
    rw [take_len] at b2 b3
    refine ⟨_, ml_stop _ _ (dgs_drop r) (fun _ => b1), ?_, ?_⟩
    · by_cases h0 : 0 < dgs l
      · exact b2 (.inl (a2 (.inr h0)))
      · exact b2 (.inr (by omega))
    · have : (dotS (foldD (l.take (dgs l)) ms0)).nd = (foldD (l.take (dgs l)) ms0).nd := rfl
      have h0 : ms0.nd = 0 := rfl
      omega
  · simp only [if_neg h46] at hq ⊢
    refine ⟨_, ml_stop _ _ (dgs_drop l) (fun h => absurd h h46), a2 (.inr (by omega)), ?_⟩
    have h0 : ms0.nd = 0 := rfl
    omega
/-- its bytes -/
theorem okc_dig {c : UInt8} (h : isD c = true) : okc c = true := by
  unfold okc
  rw [h]
  simp
theorem all_take : ∀ (l : List UInt8), ∀ c ∈ l.take (dgs l), isD c = true
  | [], c, h => by cases h
  | a :: l, c, h => by
    by_cases ha : isD a = true
    · have e : dgs (a :: l) = dgs l + 1 := by
        conv => lhs; unfold dgs
        rw [if_pos ha]
      rw [e, List.take_succ_cons] at h
      rcases List.mem_cons.1 h with rfl | h
      · exact ha
      · exact all_take l c h
    · have e : dgs (a :: l) = 0 := by
        conv => lhs; unfold dgs
        rw [if_neg ha]
      rw [e] at h
      cases h
theorem okc_drop (l : List UInt8) (h : ∀ c ∈ l.drop (dgs l), okc c = true) : ∀ c ∈ l, okc c = true := fun c hc => by
  rw [← List.take_append_drop (dgs l) l] at hc
  rcases List.mem_append.1 hc with h1 | h1
  · exact okc_dig (all_take l c h1)
  · exact h c h1
theorem okc_cons {c : UInt8} {l : List UInt8} (h1 : okc c = true) (h : ∀ d ∈ l, okc d = true) : ∀ d ∈ c :: l, okc d = true := fun d hd => by
  rcases List.mem_cons.1 hd with rfl | hd
  · exact h1
  · exact h d hd
theorem okc_cut (l : List UInt8) (h : ∀ c ∈ (cutN l).2, okc c = true) : ∀ c ∈ l, okc c = true := by
  refine okc_drop l ?_
  unfold cutN at h
  by_cases h46 : (l.drop (dgs l)).head? = some 46
  · simp only [if_pos h46] at h
    cases hl : l.drop (dgs l) with
    | nil => intro c hc; cases hc
    | cons c r =>
      rw [hl] at h46 h
      obtain rfl : c = 46 := by simpa using h46
      rw [List.drop_succ_cons, List.drop_zero] at h
      exact okc_cons (by decide) (okc_drop r h)
  · simp only [if_neg h46] at h
    exact h
theorem okc_exp (l : List UInt8) (h : expB l = true) : ∀ c ∈ l, okc c = true := by
  cases l with
  | nil => intro c hc; cases hc
  | cons c l =>
    rw [exp_cons, Bool.and_eq_true, Bool.or_eq_true, beq_iff_eq, beq_iff_eq] at h
    obtain ⟨h1, h2⟩ := h
    simp only [Bool.and_eq_true, decide_eq_true_eq] at h2
    refine okc_cons (by rcases h1 with rfl | rfl <;> decide) ?_
    have hr : ∀ d ∈ exR l, okc d = true := fun d hd => okc_dig (dgs_all _ h2.2 d hd)
    unfold exR at hr
    by_cases hs : l.head? = some 43 ∨ l.head? = some 45
    · rw [if_pos hs] at hr
      cases l with
      | nil => intro d hd; cases hd
      | cons a l =>
        refine okc_cons ?_ hr
        rcases hs with hs | hs
        · obtain rfl : a = 43 := by simpa using hs
          decide
        · obtain rfl : a = 45 := by simpa using hs
          decide
    · rw [if_neg hs] at hr
      exact hr
theorem okc_unsg (l : List UInt8) (h : ∀ c ∈ unsg l, okc c = true) : ∀ c ∈ l, okc c = true := by
  unfold unsg at h
  by_cases hs : l.head? = some 45
  · rw [if_pos hs] at h
    cases l with
    | nil => intro d hd; cases hd
    | cons a l =>
      obtain rfl : a = 45 := by simpa using hs
      exact okc_cons (by decide) h
  · rw [if_neg hs] at h
    exact h
/-- the parts of a decimal -/
def sgL (l : List UInt8) : Bool := decide (l.head? = some 45)
def msL (l : List UInt8) : MS := (mL (unsg l) ms0).1
def exL (l : List UInt8) : Int := if (mL (unsg l) ms0).2 = [] then 0 else exV ((mL (unsg l) ms0).2.drop 1)
theorem right_rf (s : ByteArray) (h : rightL s.data.toList = true) : RfOk s (sgL s.data.toList) (msL s.data.toList) (mL (unsg s.data.toList) ms0).2 (exL s.data.toList) ∧ (msL s.data.toList).nd ≤ 30 := by
  obtain ⟨l, hl⟩ : ∃ l, s.data.toList = l := ⟨_, rfl⟩
  have hlen : l.length = s.size := by rw [← hl, list_len]
  rw [hl] at h ⊢
  unfold rightL at h
  by_cases h40 : 40 < l.length
  · rw [if_pos h40] at h
    cases h
  rw [if_neg h40] at h
  obtain ⟨q, hq⟩ : ∃ q, cutN (unsg l) = q := ⟨_, rfl⟩
  simp only [hq] at h
  have h1 : 1 ≤ q.1 ∧ q.1 ≤ 30 ∧ (q.2 = [] ∨ expB q.2 = true) := by
    by_cases hc : q.1 < 1 ∨ 30 < q.1 ∨ q.2 = []
    · rw [if_pos hc, Bool.and_eq_true, decide_eq_true_eq, decide_eq_true_eq] at h
      refine ⟨h.1, h.2, ?_⟩
      rcases hc with hc | hc | hc
      · omega
      · omega
      · exact .inl hc
    · rw [if_neg hc] at h
      exact ⟨by omega, by omega, .inr h⟩
  obtain ⟨h1a, h1b, h1c⟩ := h1
  obtain ⟨x, m1, m2, m3⟩ := ml_cut (unsg l) (by rw [hq]; exact h1a)
  rw [hq] at m1 m3
  have e1 : msL l = x := by unfold msL; rw [m1]
  have e2 : (mL (unsg l) ms0).2 = q.2 := by rw [m1]
  have e3 : exL l = if q.2 = [] then 0 else exV (q.2.drop 1) := by unfold exL; rw [e2]
  have hu : unsg l ≠ [] := fun e => by
    rw [e] at hq
    have : q.1 = 0 := by rw [← hq]; rfl
    omega
  have hne : l ≠ [] := fun e => hu (by rw [e]; rfl)
  have hpos : 1 ≤ s.size := by
    rw [← hlen]
    exact List.length_pos_iff.2 hne
  have hok : ∀ c ∈ l, okc c = true := okc_unsg l (okc_cut _ (by
    rw [hq]
    rcases h1c with e | e
    · rw [e]; intro c hc; cases hc
    · exact okc_exp _ e))
  have hat : ∀ (k : Nat) (hk : k < s.size), l[k]? = some s[k] := fun k hk => by
    rw [← hl, List.getElem?_eq_getElem (by rw [list_len]; exact hk)]
    rfl
  have h0 : l.head? = some s[0] := by rw [List.head?_eq_getElem?]; exact hat 0 hpos
  rw [e1, e2, e3]
  refine ⟨⟨by omega, hpos, fun k hk => hok _ (List.mem_of_getElem? (hat k hk)), ?_, ?_, ?_, m2, ?_, ?_⟩, Nat.le_trans m3 h1b⟩
  · intro h43
    have hc : s[0] = 43 := (u8_eq _ 43 (by decide)).2 h43
    rw [hc] at h0
    cases l with
    | nil => cases h0
    | cons a l =>
      obtain rfl : a = 43 := by simpa using h0
      have : q.1 = 0 := by rw [← hq]; rfl
      omega
  · unfold sgL
    rw [h0]
    by_cases h45 : (s[0]).toNat = 45
    · rw [decide_eq_true h45, (u8_eq _ 45 (by decide)).2 h45]
      rfl
    · have hd : decide (some s[0] = some 45) = false := decide_eq_false (fun h => h45 ((u8_eq _ 45 (by decide)).1 (Option.some.inj h)))
      rw [decide_eq_false h45, hd]
  · rw [← m1]
    congr 1
    rw [hl]
    unfold sgL unsg
    by_cases h45 : l.head? = some 45
    · rw [decide_eq_true h45, if_pos rfl, if_pos h45]
    · rw [decide_eq_false h45, if_neg (by decide), if_neg h45, List.drop_zero]
  · intro hn
    have h45 := of_decide_eq_true hn
    unfold unsg at hu
    rw [if_pos h45] at hu
    rw [← hlen]
    refine Nat.lt_of_not_le fun hle => hu (List.drop_eq_nil_of_le hle)
  · by_cases he : q.2 = []
    · exact .inl ⟨he, if_pos he⟩
    · rw [if_neg he]
      exact .inr ⟨h1c.resolve_left he, rfl⟩
/-- what decimal.Parse says of a text: a number's word, and an error -/
def decW (l : List UInt8) : Nat := nx (msL l).N (dpX (msL l) + exL l - (msL l).nd)
def decR (l : List UInt8) : Nat × Nat := if rightL l then (if infX ≤ decW l then (0, 10) else if decW l = 0 then (0, 0) else (dcw.sgn (sgL l) (decW l), 0)) else (0, 160)
end Go.Proofs.YtejmbbkklhpnaaaGreatDoor.rdf

/- What a laid text of digits says when it is read: the digits times ten to a power. Plain. -/
namespace Go.Proofs.YtejmbbkklhpnaaaGreatDoor.rdf
open Go.RowKit
open Go.Proofs.YtejmbbkklhpnaaaGreatDoor.dmx
open Go.Proofs.YtejmbbkklhpnaaaGreatDoor.fpm

/-- a row of digits as a number -/
def dval (l : List UInt8) : Nat := l.foldl (fun N c => N * 10 + (c.toNat - 48)) 0
theorem foldN : ∀ (l : List UInt8) (N : Nat), l.foldl (fun N c => N * 10 + (c.toNat - 48)) N = N * 10 ^ l.length + dval l
  | [], N => by simp [dval]
  | c :: l, N => by
    show l.foldl _ (N * 10 + (c.toNat - 48)) = _
    rw [foldN l]
    have h : dval (c :: l) = (0 * 10 + (c.toNat - 48)) * 10 ^ l.length + dval l := foldN l _
    rw [h, List.length_cons, Nat.pow_succ, Nat.add_mul, Nat.zero_mul, Nat.zero_add, Nat.add_assoc, Nat.mul_assoc, Nat.mul_comm 10]
theorem dval_cons (c : UInt8) (l : List UInt8) : dval (c :: l) = (0 * 10 + (c.toNat - 48)) * 10 ^ l.length + dval l := by
  conv => lhs; unfold dval
  exact foldN l (0 * 10 + (c.toNat - 48))
theorem dval_app (a b : List UInt8) : dval (a ++ b) = dval a * 10 ^ b.length + dval b := by
  show (a ++ b).foldl _ 0 = _
  rw [List.foldl_append, foldN]
  rfl
def DigL (l : List UInt8) : Prop := ∀ c ∈ l, isD c = true
theorem digL_app {a b : List UInt8} (ha : DigL a) (hb : DigL b) : DigL (a ++ b) := fun c hc => (List.mem_append.1 hc).elim (ha c) (hb c)
theorem digL_zero (z : Nat) : DigL (List.replicate z 48) := fun c hc => by
  rw [List.eq_of_mem_replicate hc]
  decide
theorem dval_zero : ∀ z, dval (List.replicate z 48) = 0
  | 0 => rfl
  | z + 1 => by
    rw [List.replicate_succ]
    rw [dval_cons, dval_zero z]
    simp
theorem dgs_app : ∀ (a r : List UInt8), DigL a → dgs (a ++ r) = a.length + dgs r
  | [], r, _ => by simp
  | c :: a, r, h => by
    have hc := h c (by simp)
    show dgs (c :: (a ++ r)) = _
    conv => lhs; unfold dgs
    rw [if_pos hc, dgs_app a r (fun d hd => h d (by simp [hd])), List.length_cons]
    omega
theorem dgs_no {c : UInt8} {l : List UInt8} (h : isD c = false) : dgs (c :: l) = 0 := by
  unfold dgs
  rw [h]
  rfl
/-- digits, the first of which counts -/
theorem fold_pos : ∀ (l : List UInt8) (y : MS), 0 < y.nd → (foldD l y).N = y.N * 10 ^ l.length + dval l ∧ (foldD l y).nd = y.nd + l.length ∧ (foldD l y).dp = y.dp
  | [], y, h => by simp [foldD, dval]
  | c :: l, y, h => by
    have hz : ¬ (c.toNat = 48 ∧ y.nd = 0) := fun e => by omega
    have e : (dgS c y).N = y.N * 10 + (c.toNat - 48) ∧ (dgS c y).nd = y.nd + 1 ∧ (dgS c y).dp = y.dp := by
      unfold dgS
      rw [if_neg hz]
      split <;> exact ⟨rfl, rfl, rfl⟩
    obtain ⟨a1, a2, a3⟩ := fold_pos l (dgS c y) (by omega)
    have hd := dval_cons c l
    refine ⟨?_, ?_, ?_⟩
    · show (foldD l (dgS c y)).N = _
      rw [a1, e.1, hd, List.length_cons, Nat.pow_succ, Nat.zero_mul, Nat.zero_add, Nat.add_mul, Nat.add_assoc, Nat.mul_assoc, Nat.mul_comm 10]
    · show (foldD l (dgS c y)).nd = _
      rw [a2, e.2.1, List.length_cons]
      omega
    · show (foldD l (dgS c y)).dp = _
      rw [a3, e.2.2]
theorem fold_first (c : UInt8) (l : List UInt8) (y : MS) (hc : c.toNat ≠ 48) (hy : y.nd = 0) (hN : y.N = 0) : (foldD (c :: l) y).N = dval (c :: l) ∧ (foldD (c :: l) y).nd = l.length + 1 ∧ (foldD (c :: l) y).dp = y.dp := by
  have hz : ¬ (c.toNat = 48 ∧ y.nd = 0) := fun e => hc e.1
  have e : (dgS c y).N = y.N * 10 + (c.toNat - 48) ∧ (dgS c y).nd = y.nd + 1 ∧ (dgS c y).dp = y.dp := by
    unfold dgS
    rw [if_neg hz]
    split <;> exact ⟨rfl, rfl, rfl⟩
  obtain ⟨a1, a2, a3⟩ := fold_pos l (dgS c y) (by omega)
  have hd := dval_cons c l
  refine ⟨?_, ?_, ?_⟩
  · show (foldD l (dgS c y)).N = _
    rw [a1, e.1, hN, hd]
  · show (foldD l (dgS c y)).nd = _
    rw [a2, e.2.1]
    omega
  · show (foldD l (dgS c y)).dp = _
    rw [a3, e.2.2]
theorem fold_zero : ∀ (z : Nat) (y : MS), y.nd = 0 → (foldD (List.replicate z 48) y).N = y.N ∧ (foldD (List.replicate z 48) y).nd = 0 ∧ (foldD (List.replicate z 48) y).dp = y.dp - z ∧ (foldD (List.replicate z 48) y).dot = y.dot
  | 0, y, h => ⟨rfl, h, by show y.dp = y.dp - ((0 : Nat) : Int); omega, rfl⟩
  | z + 1, y, h => by
    have e : dgS 48 y = { y with sd := true, dp := y.dp - 1 } := by
      unfold dgS
      rw [if_pos ⟨by decide, h⟩]
    obtain ⟨a1, a2, a3, a4⟩ := fold_zero z { y with sd := true, dp := y.dp - 1 } h
    rw [List.replicate_succ]
    have e2 : foldD (48 :: List.replicate z 48) y = foldD (List.replicate z 48) { y with sd := true, dp := y.dp - 1 } := by
      show foldD (List.replicate z 48) (dgS 48 y) = _
      rw [e]
    rw [e2]
    refine ⟨a1, a2, ?_, a4⟩
    rw [a3]
    show y.dp - 1 - (z : Int) = y.dp - ((z + 1 : Nat) : Int)
    omega
theorem foldD_app (a b : List UInt8) (y : MS) : foldD (a ++ b) y = foldD b (foldD a y) := List.foldl_append
/-- a text of digits, read: (whole) -/
theorem ml_whole (D : List UInt8) (r : List UInt8) (hD : DigL D) (y : MS) (hr : dgs r = 0) (h46 : r.head? = some 46 → (foldD D y).dot = true) : mL (D ++ r) y = (foldD D y, r) := by
  rw [ml_dgs, dgs_app D r hD, hr, Nat.add_zero, List.drop_left, List.take_left]
  exact ml_stop r _ hr h46
theorem ml_point (D E r : List UInt8) (hD : DigL D) (hE : DigL E) (y : MS) (hy : y.dot = false) (hr : dgs r = 0) : mL (D ++ 46 :: (E ++ r)) y = (foldD E (dotS (foldD D y)), r) := by
  have h0 : dgs (46 :: (E ++ r)) = 0 := dgs_no (by decide)
  rw [ml_dgs, dgs_app D _ hD, h0, Nat.add_zero, List.drop_left, List.take_left]
  have hdot : (foldD D y).dot = false := (fold_keep D y).1.trans hy
  have e : mL (46 :: (E ++ r)) (foldD D y) = mL (E ++ r) (dotS (foldD D y)) := by
    conv => lhs; unfold mL
    rw [if_pos (by decide), if_neg (by rw [hdot]; decide)]
  rw [e]
  exact ml_whole E r hE _ hr (fun _ => (fold_keep E _).1)
/-- the exponents that are printed -/
def itB (k : Nat) : Bool :=
  let l := Lib.itoa ((k : Int) - 400)
  expB (101 :: l) && decide (exV l = (k : Int) - 400) && decide (l.length ≤ 4)
theorem it_all : (List.range 800).all itB = true := by decide +kernel
theorem it_ok (k : Int) (h0 : -400 ≤ k) (h1 : k < 400) : expB (101 :: Lib.itoa k) = true ∧ exV (Lib.itoa k) = k ∧ (Lib.itoa k).length ≤ 4 := by
  have := List.all_eq_true.1 it_all (k + 400).toNat (List.mem_range.2 (by omega))
  unfold itB at this
  rw [show (((k + 400).toNat : Nat) : Int) - 400 = k by omega] at this
  simp only [Bool.and_eq_true, decide_eq_true_eq] at this
  exact ⟨this.1.1, this.1.2, this.2⟩
/-- digits, by a place of the point, as they are laid -/
def laidQ (D : List UInt8) (k : Int) : List UInt8 :=
  if 1 ≤ k ∧ k ≤ 15 then
    if (D.length : Int) ≤ k then D ++ Lib.repeatL [48] (k - D.length).toNat
    else D.take k.toNat ++ [46] ++ D.drop k.toNat
  else if -4 ≤ k ∧ k ≤ 0 then [48, 46] ++ Lib.repeatL [48] (-k).toNat ++ D
  else (if 1 < D.length then D.take 1 ++ [46] ++ D.drop 1 else D) ++ [101] ++ Lib.itoa (k - 1)
theorem rep_eq : ∀ z, Lib.repeatL [48] z = List.replicate z 48
  | 0 => rfl
  | z + 1 => by
    rw [List.replicate_succ, ← rep_eq z]
    rfl
/-- what a text says -/
structure SaysQ (t : List UInt8) (N : Nat) (P : Int) : Prop where
  rt : rightL t = true
  sg : sgL t = false
  w : decW t = nx N P
  hd : t.head? ≠ some 45
  ln : t.length ≤ 39
theorem says_mk (t : List UInt8) (x : MS) (rest : List UInt8) (q : Nat) (hl : t.length ≤ 39) (h45 : t.head? ≠ some 45) (hcut : cutN t = (q, rest)) (hq1 : 1 ≤ q) (hq30 : q ≤ 30) (hr : rest = [] ∨ expB rest = true) (hm : mL t ms0 = (x, rest)) (N : Nat) (P : Int)
    (hv : nx x.N (dpX x + (if rest = [] then 0 else exV (rest.drop 1)) - x.nd) = nx N P) : SaysQ t N P := by
  have hu : unsg t = t := if_neg h45
  refine ⟨?_, decide_eq_false h45, ?_, h45, hl⟩
  · unfold rightL
    rw [if_neg (by omega), hu]
    simp only [hcut]
    by_cases h0 : rest = []
    · rw [if_pos (.inr (.inr h0)), decide_eq_true hq1, decide_eq_true hq30]
      rfl
    · rw [if_neg (fun h => h.elim (fun h => absurd h (by omega)) (fun h => h.elim (fun h => absurd h (by omega)) h0))]
      exact hr.resolve_left h0
  · unfold decW msL exL
    rw [hu, hm]
    exact hv
theorem head_dig {D r : List UInt8} (hD : DigL D) (h0 : 0 < D.length) : (D ++ r).head? ≠ some 45 := by
  cases D with
  | nil => exact absurd h0 (Nat.lt_irrefl _)
  | cons c D =>
    intro h
    have hc := hD c (by simp)
    have : c = 45 := by simpa using h
    rw [this] at hc
    exact absurd hc (by decide)
theorem cut_whole (D r : List UInt8) (hD : DigL D) (hr : dgs r = 0) (h46 : r.head? ≠ some 46) : cutN (D ++ r) = (D.length, r) := by
  unfold cutN
  rw [dgs_app D r hD, hr, Nat.add_zero, List.drop_left]
  simp only [if_neg h46]
theorem cut_point (D E r : List UInt8) (hD : DigL D) (hE : DigL E) (hr : dgs r = 0) : cutN (D ++ 46 :: (E ++ r)) = (D.length + E.length, r) := by
  have h0 : dgs (46 :: (E ++ r)) = 0 := dgs_no (by decide)
  unfold cutN
  rw [dgs_app D _ hD, h0, Nat.add_zero, List.drop_left]
  simp only [List.head?_cons, if_true, List.drop_succ_cons, List.drop_zero]
  rw [dgs_app E r hE, hr, Nat.add_zero, List.drop_left]
theorem says_laid (D : List UInt8) (k : Int) (hD : DigL D) (c : UInt8) (D' : List UInt8) (hc : D = c :: D') (h48 : c.toNat ≠ 48) (hn : D.length ≤ 20) (hk0 : -390 ≤ k) (hk1 : k ≤ 390) : SaysQ (laidQ D k) (dval D) (k - D.length) := by
  have hn1 : 1 ≤ D.length := by rw [hc]; exact Nat.succ_le_succ (Nat.zero_le _)
  have hf : ∀ (E : List UInt8) (y : MS), y.nd = 0 → y.N = 0 → (foldD (D ++ E) y).N = dval (D ++ E) ∧ (foldD (D ++ E) y).nd = (D ++ E).length ∧ (foldD (D ++ E) y).dp = y.dp := fun E y h1 h2 => by
    subst hc
    have := fold_first c (D' ++ E) y h48 h1 h2
    exact this
  unfold laidQ
  by_cases hA : 1 ≤ k ∧ k ≤ 15
  · rw [if_pos hA]
    by_cases hB : (D.length : Int) ≤ k
    · rw [if_pos hB, rep_eq]
      obtain ⟨z, hz⟩ : ∃ z, (k - (D.length : Int)).toNat = z := ⟨_, rfl⟩
      rw [hz]
      obtain ⟨f1, f2, f3⟩ := hf (List.replicate z 48) ms0 rfl rfl
      have hdl := digL_app hD (digL_zero z)
      have hlen : (D ++ List.replicate z 48).length = D.length + z := by rw [List.length_append, List.length_replicate]
      have hm := ml_whole (D ++ List.replicate z 48) [] hdl ms0 rfl (fun h => by cases h)
      rw [List.append_nil] at hm
      have hcut := cut_whole (D ++ List.replicate z 48) [] hdl rfl (by simp)
      rw [List.append_nil] at hcut
      refine says_mk _ _ [] _ (by rw [hlen]; omega) (head_dig hD hn1) hcut (by rw [hlen]; omega) (by rw [hlen]; omega) (.inl rfl) hm _ _ ?_
      have hdot : (foldD (D ++ List.replicate z 48) ms0).dot = false := (fold_keep _ _).1
      have hdpx : dpX (foldD (D ++ List.replicate z 48) ms0) = ((D.length + z : Nat) : Int) := by
        unfold dpX
        rw [hdot, if_neg (by decide), f2, hlen]
      rw [if_pos rfl, hdpx, f1, f2, hlen, dval_app, dval_zero, List.length_replicate, Nat.add_zero, nx_shift]
      congr 1
      omega
    · rw [if_neg hB]
      obtain ⟨z, hz⟩ : ∃ z : Nat, k = z := ⟨k.toNat, by omega⟩
      subst hz
      rw [Int.toNat_natCast]
      have hT : DigL (D.take z) := fun d hd => hD d (List.mem_of_mem_take hd)
      have hE : DigL (D.drop z) := fun d hd => hD d (List.mem_of_mem_drop hd)
      have hlt : (D.take z).length = z := by rw [List.length_take]; omega
      have hld : (D.drop z).length = D.length - z := List.length_drop
      have hm := ml_point (D.take z) (D.drop z) [] hT hE ms0 rfl rfl
      have hcut := cut_point (D.take z) (D.drop z) [] hT hE rfl
      rw [List.append_nil] at hm hcut
      have e : D.take z ++ [46] ++ D.drop z = D.take z ++ 46 :: D.drop z := by simp
      rw [e]
      refine says_mk _ _ [] _ (by simp only [List.length_append, List.length_cons, hlt, hld]; omega) (head_dig hT (by omega)) hcut (by rw [hlt]; omega) (by rw [hlt, hld]; omega) (.inl rfl) hm _ _ ?_
      -- the digits ahead of the point, then those behind it
      obtain ⟨z', rfl⟩ : ∃ z', z = z' + 1 := ⟨z - 1, by omega⟩
      have et : D.take (z' + 1) = c :: D'.take z' := by rw [hc]; rfl
      obtain ⟨a1, a2, a3⟩ := fold_first c (D'.take z') ms0 h48 rfl rfl
      rw [← et] at a1 a2 a3
      have hl2 : (D'.take z').length = z' := by
        have := hlt
        rw [et, List.length_cons] at this
        omega
      rw [hl2] at a2
      obtain ⟨b1, b2, b3⟩ := fold_pos (D.drop (z' + 1)) (dotS (foldD (D.take (z' + 1)) ms0)) (by show 0 < (foldD (D.take (z' + 1)) ms0).nd; omega)
      have hdot : (foldD (D.drop (z' + 1)) (dotS (foldD (D.take (z' + 1)) ms0))).dot = true := (fold_keep _ _).1
      have c1 : (dotS (foldD (D.take (z' + 1)) ms0)).N = dval (D.take (z' + 1)) := a1
      have c2 : (dotS (foldD (D.take (z' + 1)) ms0)).nd = z' + 1 := a2
      have c3 : (dotS (foldD (D.take (z' + 1)) ms0)).dp = ((z' + 1 : Nat) : Int) := by
        show (((foldD (D.take (z' + 1)) ms0).nd : Nat) : Int) = _
        rw [a2]
      have hval : dval D = dval (D.take (z' + 1)) * 10 ^ (D.drop (z' + 1)).length + dval (D.drop (z' + 1)) := by rw [← dval_app, List.take_append_drop]
      rw [if_pos rfl]
      unfold dpX
      rw [hdot, if_pos rfl, b1, b2, b3, c1, c2, c3, ← hval, hld]
      congr 1
      omega
  · rw [if_neg hA]
    by_cases hC : -4 ≤ k ∧ k ≤ 0
    · rw [if_pos hC, rep_eq]
      obtain ⟨z, hz⟩ : ∃ z : Nat, -k = z := ⟨(-k).toNat, by omega⟩
      rw [hz, Int.toNat_natCast]
      have hZ : DigL (List.replicate z 48 ++ D) := digL_app (digL_zero z) hD
      have h1 : DigL [48] := fun c hc => by
        have : c = 48 := by simpa using hc
        rw [this]; decide
      have hlen : (List.replicate z 48 ++ D).length = z + D.length := by rw [List.length_append, List.length_replicate]
      have hm := ml_point [48] (List.replicate z 48 ++ D) [] h1 hZ ms0 rfl rfl
      have hcut := cut_point [48] (List.replicate z 48 ++ D) [] h1 hZ rfl
      rw [List.append_nil] at hm hcut
      have e : [48, 46] ++ List.replicate z 48 ++ D = [48] ++ 46 :: (List.replicate z 48 ++ D) := by simp
      rw [e]
      refine says_mk _ _ [] _ (by simp only [List.length_append, List.length_cons, List.length_nil, List.length_replicate]; omega) (by simp) hcut (by simp) (by rw [hlen]; simp; omega) (.inl rfl) hm _ _ ?_
      obtain ⟨a1, a2, a3, a4⟩ := fold_zero 1 ms0 rfl
      have r1 : List.replicate 1 (48 : UInt8) = [48] := rfl
      rw [r1] at a1 a2 a3 a4
      have d0 : (dotS (foldD [48] ms0)).nd = 0 := a2
      have d1 : (dotS (foldD [48] ms0)).N = 0 := a1
      have d2 : (dotS (foldD [48] ms0)).dp = 0 := by
        show (((foldD [48] ms0).nd : Nat) : Int) = 0
        rw [a2]
        rfl
      obtain ⟨b1, b2, b3, b4⟩ := fold_zero z (dotS (foldD [48] ms0)) d0
      obtain ⟨c1, c2, c3⟩ := hf [] (foldD (List.replicate z 48) (dotS (foldD [48] ms0))) b2 (by rw [b1]; exact d1)
      rw [List.append_nil] at c1 c2 c3
      have hdot : (foldD (List.replicate z 48 ++ D) (dotS (foldD [48] ms0))).dot = true := (fold_keep _ _).1
      rw [if_pos rfl]
      unfold dpX
      rw [hdot, if_pos rfl, foldD_app, c1, c2, c3, b3, d2]
      congr 1
      omega
    · rw [if_neg hC]
      obtain ⟨i1, i2, i3⟩ := it_ok (k - 1) (by omega) (by omega)
      have hr : dgs (101 :: Lib.itoa (k - 1)) = 0 := dgs_no (by decide)
      by_cases hone : 1 < D.length
      · rw [if_pos hone]
        have hT : DigL (D.take 1) := fun d hd => hD d (List.mem_of_mem_take hd)
        have hE : DigL (D.drop 1) := fun d hd => hD d (List.mem_of_mem_drop hd)
        have hlt : (D.take 1).length = 1 := by rw [List.length_take]; omega
        have hld : (D.drop 1).length = D.length - 1 := List.length_drop
        have hm := ml_point (D.take 1) (D.drop 1) (101 :: Lib.itoa (k - 1)) hT hE ms0 rfl hr
        have hcut := cut_point (D.take 1) (D.drop 1) (101 :: Lib.itoa (k - 1)) hT hE hr
        have e : D.take 1 ++ [46] ++ D.drop 1 ++ [101] ++ Lib.itoa (k - 1) = D.take 1 ++ 46 :: (D.drop 1 ++ 101 :: Lib.itoa (k - 1)) := by simp
        rw [e]
        refine says_mk _ _ _ _ (by simp only [List.length_append, List.length_cons, hlt, hld]; omega) (head_dig hT (by omega)) hcut (by rw [hlt]; omega) (by rw [hlt, hld]; omega) (.inr i1) hm _ _ ?_
        have et : D.take 1 = [c] := by rw [hc]; rfl
        obtain ⟨a1, a2, a3⟩ := fold_first c [] ms0 h48 rfl rfl
        rw [← et] at a1 a2 a3
        obtain ⟨b1, b2, b3⟩ := fold_pos (D.drop 1) (dotS (foldD (D.take 1) ms0)) (by show 0 < (foldD (D.take 1) ms0).nd; rw [a2]; decide)
        have hdot : (foldD (D.drop 1) (dotS (foldD (D.take 1) ms0))).dot = true := (fold_keep _ _).1
        have c1 : (dotS (foldD (D.take 1) ms0)).N = dval (D.take 1) := a1
        have c2 : (dotS (foldD (D.take 1) ms0)).nd = 1 := a2
        have c3 : (dotS (foldD (D.take 1) ms0)).dp = 1 := by
          show (((foldD (D.take 1) ms0).nd : Nat) : Int) = _
          rw [a2]
          rfl
        have hval : dval D = dval (D.take 1) * 10 ^ (D.drop 1).length + dval (D.drop 1) := by rw [← dval_app, List.take_append_drop]
        rw [if_neg (by simp), List.drop_succ_cons, List.drop_zero, i2]
        unfold dpX
        rw [hdot, if_pos rfl, b1, b2, b3, c1, c2, c3, ← hval, hld]
        congr 1
        omega
      · rw [if_neg hone]
        have hm := ml_whole D (101 :: Lib.itoa (k - 1)) hD ms0 hr (fun h => absurd h (by simp))
        have hcut := cut_whole D (101 :: Lib.itoa (k - 1)) hD hr (by simp)
        have e : D ++ [101] ++ Lib.itoa (k - 1) = D ++ 101 :: Lib.itoa (k - 1) := by simp
        rw [e]
        refine says_mk _ _ _ _ (by simp only [List.length_append, List.length_cons]; omega) (head_dig hD hn1) hcut hn1 (by omega) (.inr i1) hm _ _ ?_
        obtain ⟨f1, f2, f3⟩ := hf [] ms0 rfl rfl
        rw [List.append_nil] at f1 f2 f3
        have hdot : (foldD D ms0).dot = false := (fold_keep _ _).1
        rw [if_neg (by simp), List.drop_succ_cons, List.drop_zero, i2]
        unfold dpX
        rw [hdot, if_neg (by decide), f1, f2]
        congr 1
        omega
/-- a minus ahead -/
theorem says_neg {t : List UInt8} {N : Nat} {P : Int} (h : SaysQ t N P) : rightL (45 :: t) = true ∧ sgL (45 :: t) = true ∧ decW (45 :: t) = nx N P := by
  have hu : unsg t = t := if_neg h.hd
  have hu2 : unsg (45 :: t) = t := if_pos (by rfl)
  have hr := h.rt
  have hl := h.ln
  refine ⟨?_, decide_eq_true rfl, ?_⟩
  · unfold rightL at hr ⊢
    rw [if_neg (by omega), hu] at hr
    rw [if_neg (by rw [List.length_cons]; omega), hu2]
    exact hr
  · have hw := h.w
    unfold decW msL exL at hw ⊢
    rw [hu] at hw
    rw [hu2]
    exact hw
/-- what reading answers -/
theorem says_r {t : List UInt8} {N X : Nat} {P : Int} (h : SaysQ t N P) (hX : nx N P = X) (h0 : 0 < X) (h1 : X < infX) : decR t = (X, 0) ∧ decR (45 :: t) = (9223372036854775808 + X, 0) := by
  obtain ⟨n1, n2, n3⟩ := says_neg h
  unfold decR
  rw [if_pos h.rt, if_pos n1, h.w, n3, hX, if_neg (by omega), if_neg (by omega), if_neg (by omega), if_neg (by omega), h.sg, n2]
  exact ⟨rfl, rfl⟩
end Go.Proofs.YtejmbbkklhpnaaaGreatDoor.rdf

/- The contracts of library functions: in ShfP. -/


/- The walks of math.Abs, IsNaN, IsInf, Signbit and of dir.Right. No conditions. -/
namespace Go.Proofs.YtejmbbkklhpnaaaGreatDoor.nodew
open Go.RowKit

theorem bits_run (x : Nat) (w : World) : (callFunc 43 #[.float .f64 x]).run Tryz.prog w = .ok (.value (.int .u64 x)) w := by
  rw [@run_callFunc_extern Tryz.prog 43 _ Extern.MathFloatBits.float64bits Tryz.func43 (by kernel_rfl) (by kernel_rfl) (by kernel_rfl) (by kernel_rfl)]
  rfl
theorem frombits_run (n : Int) (w : World) : (callFunc 69 #[.int .u64 n]).run Tryz.prog w = .ok (.value (.float .f64 n.toNat)) w := by
  rw [@run_callFunc_extern Tryz.prog 69 _ Extern.MathFloatBits.float64frombits Tryz.func69 (by kernel_rfl) (by kernel_rfl) (by kernel_rfl) (by kernel_rfl)]
  rfl
attribute [local go_sem] bits_run frombits_run

theorem run_store_float (P : Program) (w : World) (a : Addr) (m : Mode) (k : FloatKind) (b : Nat) : (store a (.float k b) m).run P w = stored P w a (.float k b) m := run_store P w a _ m rfl

attribute [local go_sem] fo_eq
def absF (x : Nat) : Nat := (bits BinOp.andNot IntKind.u64 (x : Int) 9223372036854775808).toNat
def nanF (x : Nat) : Bool := fo x x != some .eq
def infF (x : Nat) : Bool := fo (absF x) 9218868437227405311 == some .gt
def negF (x : Nat) : Bool := decide (wrap64 (x : Int) < 0)
def rightF (x : Nat) : Bool := !nanF x && !infF x && !(fo x 0 == some .eq && negF x)
theorem ret_bool {a b : Bool} (h : a = b) : Ending.returned (.bool a) = .returned (.bool b) := by rw [h]

theorem abs_any (x : Nat) (w : World) : Calls Tryz.prog 37 #[.float .f64 x] w fun e w' => e = .returned (.float .f64 (absF x)) ∧ w' = w := by
  go_enter Tryz.func37, Tryz.ntmps37
  go_wp2
  go_ret
  exact ⟨rfl, rfl⟩

theorem isNaN_any (x : Nat) (w : World) : Calls Tryz.prog 66 #[.float .f64 x] w fun e w' => e = .returned (.bool (nanF x)) ∧ w' = w := by
  go_enter Tryz.func66, Tryz.ntmps66
  go_wp2
  go_ret
  exact ⟨rfl, rfl⟩

theorem signbit_any (x : Nat) (w : World) : Calls Tryz.prog 68 #[.float .f64 x] w fun e w' => e = .returned (.bool (negF x)) ∧ w' = w := by
  go_enter Tryz.func68, Tryz.ntmps68
  go_wp2
  go_ret
  exact ⟨rfl, rfl⟩

theorem isInf_any (x : Nat) (w : World) : Calls Tryz.prog 67 #[.float .f64 x, .int .i64 0] w fun e w' => e = .returned (.bool (infF x)) ∧ w' = w := by
  go_enter Tryz.func67, Tryz.ntmps67
  go_wp2_with (first | (go_at_call 37; refine (abs_any _ _).mono ?_; rintro e w' ⟨rfl, rfl⟩))
  go_ret
  exact ⟨rfl, rfl⟩

theorem right_num (x : Nat) (w : World) : Calls Tryz.prog 36 #[.float .f64 x] w fun e w' => e = .returned (.bool (rightF x)) ∧ w' = w := by
  go_enter Tryz.func36, Tryz.ntmps36
  go_wp2_with (first | (go_at_call 66; refine (isNaN_any _ _).mono ?_; rintro e w' ⟨rfl, rfl⟩) | (go_at_call 67; refine (isInf_any _ _).mono ?_; rintro e w' ⟨rfl, rfl⟩) | (go_at_call 68; refine (signbit_any _ _).mono ?_; rintro e w' ⟨rfl, rfl⟩))
  all_goals go_ret
  all_goals exact ⟨ret_bool (by simp_all [rightF]), rfl⟩

end Go.Proofs.YtejmbbkklhpnaaaGreatDoor.nodew

/- The walks of check's fields, part one: the closures that say where a number of a node lies; three. No conditions. -/
namespace Go.Proofs.YtejmbbkklhpnaaaGreatDoor.nodew
open Go.RowKit Go.Shelf
open Go.Proofs.YtejmbbkklhpnaaaGreatDoor.words

/-- the place of a cell of a node -/
abbrev pt (n off : Nat) : Value := .pointer (some ⟨n, off, none⟩)

def singleF : List (FuncId × Nat) := [(85, 14), (86, 15), (87, 13), (90, 16)]
def tripleF : List (FuncId × Nat) := [(84, 1), (91, 4), (88, 7), (89, 10)]

/-- F says of a node where its cell 'off' lies; what it captured lies in the boxes of w -/
def FieldFn (w : World) (B : Nat) (F : Value) (off : Nat) : Prop :=
  (∃ f, F = .func (.func f) #[] #[] ∧ (f, off) ∈ singleF) ∨
  (∃ g b1 b2 c i, F = .func (.func 115) #[] #[pt b1 0, pt b2 0] ∧ (g, c) ∈ tripleF ∧ B ≤ b1 ∧ B ≤ b2 ∧ i < 3 ∧ off = c + i ∧
    Boxed w b1 148 (.func (.func g) #[] #[]) ∧ Boxed w b2 3 (.int .i64 i))

theorem FieldFn.kept {w w' : World} {B : Nat} {F : Value} {off : Nat} (h : FieldFn w B F off) (hk : ∀ b t v, B ≤ b → Boxed w b t v → t ≠ 114 → Boxed w' b t v) : FieldFn w' B F off := by
  rcases h with h | ⟨g, b1, b2, c, i, hF, hg, h1, h2, hi, ho, x1, x2⟩
  · exact .inl h
  · exact .inr ⟨g, b1, b2, c, i, hF, hg, h1, h2, hi, ho, hk _ _ _ h1 x1 (by decide), hk _ _ _ h2 x2 (by decide)⟩

theorem FieldFn.drew {w : World} {B : Nat} {F : Value} {off : Nat} (h : FieldFn w B F off) : FieldFn w.drew B F off := h
theorem FieldFn.drewN {w : World} {B : Nat} {F : Value} {off : Nat} (h : FieldFn w B F off) (n : Nat) : FieldFn (w.drewN n) B F off := h
theorem FieldFn.alloc {w : World} {B : Nat} {F : Value} {off : Nat} (h : FieldFn w B F off) (o : Obj) : FieldFn (w.alloc o) B F off := h.kept fun _ _ _ _ hb _ => hb.alloc o
/-- one of a kind's numbers: the function, the cell of the node, the range -/
structure Fd where
  F : Value
  off : Nat
  lo : Nat
  hi : Nat
def Fd.cells (d : Fd) : List Value := [d.F, .float .f64 d.lo, .float .f64 d.hi]
def Fd.val (d : Fd) : Value := .agg #[d.F, .float .f64 d.lo, .float .f64 d.hi]
def fcells (l : List Fd) : List Value := l.flatMap Fd.cells
def FOk (w : World) (B : Nat) (l : List Fd) : Prop := ∀ d ∈ l, FieldFn w B d.F d.off
theorem fcells_one (l : List Fd) : ∀ u ∈ fcells l, (∀ d ∈ l, d.F.oneCell' = true) → u.oneCell' = true := by
  intro u hu hF
  simp only [fcells, List.mem_flatMap] at hu
  obtain ⟨d, hd, hu⟩ := hu
  simp only [Fd.cells, List.mem_cons, List.not_mem_nil, or_false] at hu
  rcases hu with rfl | rfl | rfl
  · exact hF d hd
  · rfl
  · rfl
theorem FieldFn.one {w : World} {B : Nat} {F : Value} {off : Nat} (h : FieldFn w B F off) : F.oneCell' = true := by
  rcases h with ⟨f, rfl, _⟩ | ⟨g, b1, b2, c, i, rfl, _⟩
  · rfl
  · rfl
theorem FOk.one {w : World} {B : Nat} {l : List Fd} (h : FOk w B l) : ∀ u ∈ fcells l, u.oneCell' = true := fun u hu => fcells_one l u hu fun d hd => (h d hd).one
theorem FOk.kept {w w' : World} {B : Nat} {l : List Fd} (h : FOk w B l) (hk : ∀ b t v, B ≤ b → Boxed w b t v → t ≠ 114 → Boxed w' b t v) : FOk w' B l := fun d hd => (h d hd).kept hk
theorem FOk.grown {w w' : World} {B base n : Nat} {l : List Fd} {v : Value} {xs : List Value} (h : FOk w B l) (hr : w.ownsRow base 114 3 v n xs) (hg : w.grownBy w' v.ownBlock) : FOk w' B l :=
  h.kept fun _ _ _ _ hb ht => hb.kept hg (hb.not_row ht hr)
theorem FOk.alloc {w : World} {B : Nat} {l : List Fd} (h : FOk w B l) (o : Obj) : FOk (w.alloc o) B l := h.kept fun _ _ _ _ hb _ => hb.alloc o
theorem FOk.below {w w' : World} {B B' : Nat} {l : List Fd} (h : FOk w B l) (hb : Below B' w w') (hs : w.heap.size ≤ B') : FOk w' B l :=
  h.kept fun b _ _ _ hx _ => (hb.block b (Nat.lt_of_lt_of_le hx.lt hs)).trans hx
theorem FOk.le {w : World} {B B' : Nat} {l : List Fd} (h : FOk w B l) (hB : B' ≤ B) : FOk w B' l := fun d hd => by
  rcases h d hd with h | ⟨g, b1, b2, c, i, hF, hg, h1, h2, r⟩
  · exact .inl h
  · exact .inr ⟨g, b1, b2, c, i, hF, hg, Nat.le_trans hB h1, Nat.le_trans hB h2, r⟩
theorem own_base {W : World} {base : Nat} {e : TypeId} {size : Nat} {v : Value} {k : Nat} {xs : List Value} (h : W.ownsRow base e size v k xs) {r : Nat} (hr : v.ownBlock = some r) : base ≤ r := by
  rcases h.2 with ⟨rfl, h0⟩ | ⟨g, cap, _, rfl, hb, _⟩
  · cases hr
  · cases hr; exact hb

end Go.Proofs.YtejmbbkklhpnaaaGreatDoor.nodew
