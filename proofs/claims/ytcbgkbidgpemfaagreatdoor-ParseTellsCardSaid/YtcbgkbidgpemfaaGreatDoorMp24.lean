/- The walk of strconv's atof64 at a decimal. Conditions: as each theorem states. -/
import Derived.Test.YtcbgkbidgpemfaaGreatDoorMp21
import Derived.Test.YtcbgkbidgpemfaaGreatDoorMp23
import Derived.Test.YtcbgkbidgpemfaaGreatDoorMp22
import Derived.Test.YtcbgkbidgpemfaaGreatDoorMp20
import Derived.WalkKit
import Derived.WalkLawsBesides
import Derived.WalkSpells
import Derived.Lib.Hide
import Derived.Outline
import Derived.Laws.FloatBits
import Derived.Laws.FloatArith
import Derived.Laws.Externs
namespace Go.Proofs.YtcbgkbidgpemfaaGreatDoor.rdf
open Go.RowKit
open Go.Proofs.YtcbgkbidgpemfaaGreatDoor.bsw
open Go.Proofs.YtcbgkbidgpemfaaGreatDoor.prnw
open Go.Proofs.YtcbgkbidgpemfaaGreatDoor.dcw
open Go.Proofs.YtcbgkbidgpemfaaGreatDoor.dmx
open Go.Proofs.YtcbgkbidgpemfaaGreatDoor.fpm
open Go.Proofs.YtcbgkbidgpemfaaGreatDoor.flatm
open Go.Proofs.YtcbgkbidgpemfaaGreatDoor.nodew

attribute [local go_sem] ifrombits_run un_neg fo_eq
/-- equal words of one sign -/
theorem fo_eqw (s : Bool) (X Y : Nat) (hX : X ≤ infW) (hY : Y ≤ infW) : (fo (sgn s X) (sgn s Y) == some .eq) = decide (X = Y) := by
  have hi := infW_eq
  have hmod : ∀ Z, Z ≤ infW → sgn s Z % 9223372036854775808 = Z := fun Z hZ => by
    unfold sgn
    split <;> omega
  have hinf : Ieee.Format.read Ieee.double (sgn s infW) = .infinity s := by cases s <;> kernel_rfl
  by_cases hx : X < infW
  · by_cases hy : Y < infW
    · rw [fo_sv (by rw [hmod X hX]; omega) (by rw [hmod Y hY]; omega), sv_sgn s X hx, sv_sgn s Y hy]
      by_cases he : X = Y
      · rw [decide_eq_true he, he]
        simp
      · have hv : valR X ≠ valR Y := fun h => he (val_inj h)
        rw [decide_eq_false he, Int.compare_eq_ite_lt]
        cases s
        · rw [show (if (false : Bool) = true then -(valR X : Int) else (valR X : Int)) = (valR X : Int) from rfl, show (if (false : Bool) = true then -(valR Y : Int) else (valR Y : Int)) = (valR Y : Int) from rfl]
          split
          · rfl
          · rw [if_pos (by omega)]; rfl
        · rw [show (if (true : Bool) = true then -(valR X : Int) else (valR X : Int)) = -(valR X : Int) from rfl, show (if (true : Bool) = true then -(valR Y : Int) else (valR Y : Int)) = -(valR Y : Int) from rfl]
          split
          · rfl
          · rw [if_pos (by omega)]; rfl
    · have e : Y = infW := by omega
      subst e
      obtain ⟨m, a, h1, _⟩ := word_read s X hx
      rw [← sgn_word] at h1
      rw [decide_eq_false (by omega)]
      show (Ieee.Datum.order (Ieee.Format.read Ieee.double (sgn s X)) (Ieee.Format.read Ieee.double (sgn s infW)) == some .eq) = false
      rw [h1, hinf]
      cases s <;> rfl
  · have e : X = infW := by omega
    subst e
    by_cases hy : Y < infW
    · obtain ⟨m, a, h1, _⟩ := word_read s Y hy
      rw [← sgn_word] at h1
      rw [decide_eq_false (by omega)]
      show (Ieee.Datum.order (Ieee.Format.read Ieee.double (sgn s infW)) (Ieee.Format.read Ieee.double (sgn s Y)) == some .eq) = false
      rw [h1, hinf]
      cases s <;> rfl
    · have e : Y = infW := by omega
      subst e
      rw [decide_eq_true rfl]
      show (Ieee.Datum.order (Ieee.Format.read Ieee.double (sgn s infW)) (Ieee.Format.read Ieee.double (sgn s infW)) == some .eq) = true
      rw [hinf]
      cases s <;> rfl

/-- the nearest float of N times ten to P -/
def nx (N : Nat) (P : Int) : Nat := nearX (N * 10 ^ P.toNat) (10 ^ (-P).toNat)
theorem ten_pos (k : Nat) : 0 < 10 ^ k := Nat.pow_pos (by decide)
theorem nx_mono {M N : Nat} (h : M ≤ N) (P : Int) : nx M P ≤ nx N P := near_le (ten_pos _) (ten_pos _) (Nat.mul_le_mul_right _ (Nat.mul_le_mul_right _ h))
theorem nx_shift (N k : Nat) (P : Int) : nx (N * 10 ^ k) P = nx N (P + k) := by
  refine near_same (ten_pos _) (ten_pos _) ?_
  have e : P.toNat + k + (-(P + k)).toNat = (P + k).toNat + (-P).toNat := by omega
  calc N * 10 ^ k * 10 ^ P.toNat * 10 ^ (-(P + k)).toNat = N * 10 ^ (P.toNat + k + (-(P + k)).toNat) := by rw [Nat.pow_add, Nat.pow_add]; ac_rfl
    _ = N * 10 ^ ((P + k).toNat + (-P).toNat) := by rw [e]
    _ = N * 10 ^ (P + k).toNat * 10 ^ (-P).toNat := by rw [Nat.pow_add]; ac_rfl
def tenF : Nat := 346
theorem tenF_eq : tenF = 346 := rfl
theorem nx_zero (P : Int) : nx 0 P = 0 := by
  unfold nx
  rw [Nat.zero_mul]
  refine near_low (ten_pos _) ?_
  rw [Nat.zero_mul]
  exact Nat.zero_le _
theorem two_ten : 2 ^ twoC ≤ 10 ^ tenA := by decide +kernel
theorem nx_big {N : Nat} (h : 0 < N) {P : Int} (hP : 310 < P) : infX ≤ nx N P := by
  unfold nx
  rw [show (-P).toNat = 0 by omega, Nat.pow_zero]
  refine near_big (by decide) ?_
  rw [Nat.mul_one]
  refine Nat.le_trans two_ten ?_
  have h1 : (10 : Nat) ^ tenA ≤ 10 ^ P.toNat := Nat.pow_le_pow_right (by decide) (by have := tenA_eq; omega)
  exact Nat.le_trans h1 (Nat.le_mul_of_pos_left _ h)
theorem low_ten : 10 ^ 20 * 2 ^ lowE ≤ 10 ^ tenF := by decide +kernel
theorem nx_low {N : Nat} (h : N ≤ 10 ^ 20) {P : Int} (hP : P < -345) : nx N P = 0 := by
  unfold nx
  rw [show P.toNat = 0 by omega, Nat.pow_zero, Nat.mul_one]
  refine near_low (ten_pos _) ?_
  have h1 : (10 : Nat) ^ tenF ≤ 10 ^ (-P).toNat := Nat.pow_le_pow_right (by decide) (by have := tenF_eq; omega)
  exact Nat.le_trans (Nat.le_trans (Nat.mul_le_mul_right _ h) low_ten) h1
/-- by the slow road -/
theorem nx_val (N n : Nat) (dp : Int) (h : (n : Int) ≤ dp + 2000) : nearX (val N n dp) one = nx N (dp - n) := by
  refine near_same one_pos (ten_pos _) ?_
  unfold val one
  have ho := oneE_eq
  have e : (dp - (n : Int) + 2000).toNat + (-(dp - (n : Int))).toNat = (dp - (n : Int)).toNat + oneE := by omega
  rw [Nat.mul_assoc, ← Nat.pow_add, e, Nat.pow_add, Nat.mul_assoc]
/-- an exponent has three digits at most -/
theorem rf_ex {s : ByteArray} {neg : Bool} {x : MS} {rest : List UInt8} {ex : Int} (h : RfOk s neg x rest ex) : -1000 ≤ ex ∧ ex ≤ 1000 := by
  rcases h.re with ⟨_, r⟩ | ⟨r1, r2⟩
  · rw [r]
    decide
  · rw [r2]
    cases rest with
    | nil => exact absurd r1 (by decide)
    | cons c l =>
      unfold expB at r1
      rw [Bool.and_eq_true] at r1
      have h2 := r1.2
      rw [List.drop_succ_cons, List.drop_zero]
      simp only [Bool.and_eq_true, decide_eq_true_eq] at h2
      have key : ∀ r : List UInt8, dgs r ≤ 3 → dgs r = r.length → eL r 0 < 1000 := fun r a b => by
        have h3 := eL_snoc_bd r 0 (dgs_all r b)
        have h4 : (10 : Nat) ^ r.length ≤ 10 ^ 3 := Nat.pow_le_pow_right (by decide) (by omega)
        omega
      unfold exV
      by_cases h45 : l.head? = some 45
      · rw [if_pos (.inr h45)] at h2
        have := key _ h2.1.2 h2.2
        rw [if_pos h45]
        omega
      · rw [if_neg h45]
        by_cases h43 : l.head? = some 43
        · rw [if_pos (.inl h43)] at h2
          have := key _ h2.1.2 h2.2
          rw [if_pos h43]
          omega
        · rw [if_neg (fun h => h.elim h43 h45)] at h2
          have := key _ h2.1.2 h2.2
          rw [if_neg h43]
          omega

/-- an empty decimal -/
def decZ : Array Value := (List.replicate 800 (Value.int .u8 0) ++ [Value.int .i64 0, Value.int .i64 0, Value.bool false, Value.bool false]).toArray
theorem alloc_dec (w : World) : (Instr.alloc 231 true (.tuple #[])).run Tryz.prog w = .ok (.pointer (some ⟨w.heap.size, 0, none⟩)) (w.alloc (.cells decZ 231)) := by
  kernel_rfl
theorem dec_at (w : World) : SeW (w.alloc (.cells decZ 231)) w.heap.size 0 0 0 false (w.alloc (.cells decZ 231)) := by
  refine ⟨fun _ => 0, ⟨decZ, heap_at w _ _ rfl, fun j hj => ?_, by kernel_rfl, by kernel_rfl, by kernel_rfl, by kernel_rfl⟩, fun j hj => absurd hj (Nat.not_lt_zero _), ⟨rfl, rfl, rfl, Nat.le_refl _, fun _ _ _ => rfl⟩⟩
  unfold decZ
  rw [List.getElem?_toArray, List.getElem?_append_left (by rw [List.length_replicate]; exact hj), List.getElem?_replicate, if_pos hj]
  rfl

/-- what reading reads, in blocks below B -/
structure NE (B : Nat) (w : World) : Prop where
  ev : EV B w
  ft : FT B w
  pt : PT hiT loT w
  pb : 8 < B
  ob : 2 < B
  op : w.cell? ⟨2, 0, none⟩ = some (.bool true)
  lt : B ≤ w.heap.size
theorem NE.below {B : Nat} {w w' : World} (h : NE B w) (hb : Below w.heap.size w w') : NE B w' := by
  have hk : ∀ (p : Addr) (v : Value), p.block < B → w.cell? p = some v → w'.cell? p = some v := fun p v hp hv => (hb.cell (Nat.lt_of_lt_of_le hp h.lt)).trans hv
  exact ⟨h.ev.keep hk, h.ft.keep hk, fun i hi => by
    obtain ⟨a1, a2, a3, a4⟩ := h.pt i hi
    exact ⟨a1, a2, hk _ _ h.pb a3, hk _ _ h.pb a4⟩, h.pb, h.ob, hk _ _ h.ob h.op, Nat.le_trans h.lt hb.size⟩
theorem ml_ok : ∀ (l : List UInt8) (n : Nat) (y x : MS) (rest : List UInt8), MOk n y → mL l y = (x, rest) → MOk (n + l.length) x
  | [], n, y, x, rest, h, hm => by
    unfold mL at hm
    injection hm with e1 e2
    rw [← e1]
    exact h
  | c :: l, n, y, x, rest, h, hm => by
    have stop : ∀ z : MS × List UInt8, (y, c :: l) = (x, rest) → MOk (n + (c :: l).length) x := fun _ e => by
      injection e with e1 e2
      rw [← e1]
      exact mok_mono h (Nat.le_add_right _ _)
    have hl : n + (c :: l).length = n + 1 + l.length := by rw [List.length_cons]; omega
    unfold mL at hm
    split at hm
    · split at hm
      · exact stop (x, rest) hm
      · rw [hl]
        exact ml_ok l (n + 1) _ x rest (mok_dot h) hm
    · split at hm
      · rename_i hd
        rw [hl]
        exact ml_ok l (n + 1) _ x rest (mok_dg h c hd) hm
      · exact stop (x, rest) hm
theorem rf_ok {s : ByteArray} {neg : Bool} {x : MS} {rest : List UInt8} {ex : Int} (h : RfOk s neg x rest ex) : MOk 60 x := by
  refine mok_mono (ml_ok _ 0 ms0 x rest mok0 h.run) ?_
  have := h.sz
  rw [List.length_drop]
  simp
  omega
/-- the digits that are read, and what is left out -/
theorem rf_near {x : MS} {n : Nat} (h : MOk n x) (D : Int) : (x.m = 0 → x.N = 0) ∧ (∀ p : Int, p = D - x.nm → nx x.m p ≤ nx x.N (D - x.nd) ∧ nx x.N (D - x.nd) ≤ nx (x.m + 1) p ∧ (x.tr = false → nx x.N (D - x.nd) = nx x.m p)) := by
  obtain ⟨k, hk⟩ : ∃ k, x.nd - x.nm = k := ⟨_, rfl⟩
  have hq := h.q
  have ht := h.t
  have hmn := h.mn
  rw [hk] at hq ht
  have hp := ten_pos k
  refine ⟨fun h0 => ?_, fun p hp2 => ?_⟩
  · by_cases hk0 : k = 0
    · rw [hk0, Nat.pow_zero, Nat.div_one, h0] at hq
      exact hq.symm
    · have h19 : ¬ x.nm < 19 := fun hl => by have := h.full hl; omega
      have h4 := h.lo (by omega)
      have h5 : 10 ^ k ≤ 10 ^ (x.nd - 1) := Nat.pow_le_pow_right (by decide) (by omega)
      have h6 : 1 ≤ x.N / 10 ^ k := by
        rw [Nat.le_div_iff_mul_le hp, Nat.one_mul]
        omega
      omega
  · have hdm := Nat.div_add_mod x.N (10 ^ k)
    have hml := Nat.mod_lt x.N hp
    rw [← hq, Nat.mul_comm] at hdm
    have e : ∀ M, nx (M * 10 ^ k) (D - x.nd) = nx M p := fun M => by
      rw [nx_shift, hp2]
      congr 1
      omega
    rw [← e x.m, ← e (x.m + 1)]
    refine ⟨nx_mono (by omega) _, nx_mono ?_ _, fun h0 => ?_⟩
    · rw [Nat.add_mul, Nat.one_mul]
      omega
    · rw [h0] at ht
      have hz : x.N % 10 ^ k = 0 := by
        have := of_decide_eq_false ht.symm
        exact Decidable.not_not.1 this
      rw [hz, Nat.add_zero] at hdm
      rw [hdm]
def atV (neg : Bool) (X n : Nat) : Value := .tuple #[.float .f64 (sgn neg (min X infX)), .int .i64 (n : Nat), if infX ≤ X then .iface 185 (.int .i64 1) else .nilIface]
def AtPost (w : World) (neg : Bool) (X n : Nat) (e : Ending) (w' : World) : Prop := e = .returned (atV neg X n) ∧ Below w.heap.size w w'
theorem exec_alloc_dec {o : Oper} (ho : o.op = .alloc 231) (a : Act) (w : World) : (execOp a.eval o).run Tryz.prog w = .ok (.value (.pointer (some ⟨w.heap.size, 0, none⟩))) (w.alloc (.cells decZ 231)) := by
  unfold execOp
  simp only [ho, Sem.run_bind, alloc_dec, Result.andThen_ok, Sem.run_pure]
theorem pk_parts (neg : Bool) (X n : Nat) : ∃ F E, pkV neg X = .tuple #[.float .f64 F, E] ∧ atV neg X n = .tuple #[.float .f64 F, .int .i64 (n : Nat), E] ∧ F = sgn neg (min X infX) := ⟨_, _, rfl, rfl, rfl⟩
theorem at_same (neg : Bool) (X Y n : Nat) (h1 : min X infX = min Y infX) : atV neg X n = atV neg Y n := by
  unfold atV
  rw [h1]
  by_cases h : infX ≤ X
  · rw [if_pos h, if_pos (by omega)]
  · rw [if_neg h, if_neg (by omega)]
set_option maxRecDepth 100000 in
set_option maxHeartbeats 4000000 in
theorem atof_any (B : Nat) (s : ByteArray) (neg : Bool) (x : MS) (rest : List UInt8) (ex : Int) (h : RfOk s neg x rest ex) (hnd : x.nd ≤ 30) (w : World) (hN : NE B w) :
    Calls Tryz.prog 236 #[.string s] w (AtPost w neg (nx x.N (dpX x + ex - x.nd)) s.size) := by
  have CS := fun W => special_any s neg x rest ex h W
  obtain ⟨p, hp⟩ : ∃ p, rfE x ex = p := ⟨_, rfl⟩
  have CR : ∀ W, Calls Tryz.prog 244 #[.string s] W fun e w' => e = .returned (.tuple #[.int .u64 ((x.m : Nat) : Int), .int .i64 p, .bool neg, .bool x.tr, .bool false, .int .i64 ((s.size : Nat) : Int), .bool true]) ∧ w' = W := fun W => by
    have := readFloat_any s neg x rest ex h W
    unfold RfPost at this
    rw [hp] at this
    exact this
  have CB := fun W => b2u neg W
  have hsh : ∀ b : Nat, b = (if neg then 1 else 0) → IntKind.u64.wrap ((b : Int) * 9223372036854775808) = ((sgn neg 0 : Nat) : Int) := fun b hb => by
    subst hb
    cases neg <;> decide +kernel
  obtain ⟨nb, hnb⟩ : ∃ nb : Nat, nb = if neg then 1 else 0 := ⟨_, rfl⟩
  have hsh2 := hsh nb hnb
  have CB2 : ∀ W, Calls Tryz.prog 240 #[.bool neg] W (Same W (.int .u64 ((nb : Nat) : Int))) := fun W => by
    have := CB W
    rw [hnb]
    cases neg <;> exact this
  have nb0 : (0 : Int) ≤ (nb : Int) := by omega
  have nb1 : (nb : Int) ≤ 1 := by rw [hnb]; split <;> decide
  have hC := Lib.hid (And.intro CS (And.intro CR CB2))
  have hMO := rf_ok h
  have o1 := hN.op
  clear CS CR CB CB2 hsh hnb
  obtain ⟨X, hX⟩ : ∃ X, nx x.N (dpX x + ex - x.nd) = X := ⟨_, rfl⟩
  rw [hX]
  go_enter Tryz.func236, Tryz.ntmps236
  go_upto_region 12 with (first | (go_at_call 243; (with_reducible refine (hC.out.1 _).mono ?_); rintro e w' ⟨rfl, hw'⟩; obtain rfl := hw'.symm) | (go_at_call 244; (with_reducible refine (hC.out.2.1 _).mono ?_); rintro e w' ⟨rfl, hw'⟩; obtain rfl := hw'.symm) | (go_at_call 240; (with_reducible refine (hC.out.2.2 _).mono ?_); rintro e w' ⟨rfl, hw'⟩; obtain rfl := hw'.symm))
  obtain ⟨n1, n2⟩ := rf_near hMO (dpX x + ex)
  rw [hX] at n2
  have hpm : x.m ≠ 0 → p = dpX x + ex - x.nm := fun h0 => by
    rw [← hp]
    unfold rfE
    rw [if_neg h0]
    rfl
  have bS : ∀ b : Nat, sgn neg 0 = b → bits BinOp.or IntKind.u64 (b : Int) 0 = (b : Int) ∧ bits BinOp.or IntKind.u64 (b : Int) 9218868437227405312 = ((sgn neg infX : Nat) : Int) := fun b hb => by
    subst hb
    cases neg <;> decide +kernel
  obtain ⟨S0, hS0⟩ : ∃ S0, sgn neg 0 = S0 := ⟨_, rfl⟩
  obtain ⟨bs1, bs2⟩ := bS S0 hS0
  obtain ⟨SI, hSI⟩ : ∃ SI, sgn neg infX = SI := ⟨_, rfl⟩
  rw [hSI] at bs2
  rw [hS0]
  have HSg := Lib.hid (And.intro hS0 hSI)
  clear hC bS hSI
  by_cases hm0 : x.m = 0
  · have hX0 : X = 0 := by rw [← hX, n1 hm0, nx_zero]
    have hV : atV neg X s.size = .tuple #[.float .f64 S0, .int .i64 (s.size : Nat), .nilIface] := by
      rw [hX0, ← hS0]
      unfold atV
      rw [Nat.min_eq_left (Nat.zero_le _), if_neg (by decide)]
    have g1 : ((x.m : Int) == 0) = true := by rw [hm0]; rfl
    have HV := Lib.hid hV
    clear n1 n2 hpm hX hX0 hV hMO hS0 hN h hp hsh2
    go_wp2_with fail
    go_ret3
    exact ⟨congrArg Ending.returned HV.out.symm, Below.refl _ _⟩
  have g1 : ((x.m : Int) == 0) = false := by rw [beq_eq_false_iff_ne]; omega
  have hpp := hpm hm0
  obtain ⟨l1, l2, l3⟩ := n2 p hpp
  have hm19 : x.m < 10 ^ 19 := Nat.lt_of_lt_of_le hMO.m (Nat.pow_le_pow_right (by decide) hMO.nm)
  have h19 : (10 : Nat) ^ 19 = 10000000000000000000 := by decide
  rw [h19] at hm19
  by_cases hbig : 310 < p
  · have hXb : infX ≤ X := Nat.le_trans (nx_big (by omega) hbig) l1
    have hV : atV neg X s.size = .tuple #[.float .f64 SI, .int .i64 (s.size : Nat), .iface 185 (.int .i64 1)] := by
      unfold atV
      rw [Nat.min_eq_right hXb, if_pos hXb, HSg.out.2]
    have g2 : decide (310 < p) = true := decide_eq_true hbig
    have HV := Lib.hid hV
    clear n1 n2 hpm hX hXb hV hMO hS0 hN h hp hsh2 l1 l2 l3 hbig hpp
    go_wp2_with fail
    go_ret3
    exact ⟨congrArg Ending.returned HV.out.symm, Below.refl _ _⟩
  have g2 : decide (310 < p) = false := decide_eq_false hbig
  by_cases hlow : p < -345
  · have hX0 : X = 0 := by
      have := nx_low (N := x.m + 1) (P := p) (by omega) hlow
      omega
    have hV : atV neg X s.size = .tuple #[.float .f64 S0, .int .i64 (s.size : Nat), .nilIface] := by
      rw [hX0, ← hS0]
      unfold atV
      rw [Nat.min_eq_left (Nat.zero_le _), if_neg (by decide)]
    have g3 : decide (p < -345) = true := decide_eq_true hlow
    have HV := Lib.hid hV
    clear n1 n2 hpm hX hX0 hV hMO hS0 hN h hp hsh2 l1 l2 l3 hbig hpp hlow
    go_wp2_with fail
    go_ret3
    exact ⟨congrArg Ending.returned HV.out.symm, Below.refl _ _⟩
  have g3 : decide (p < -345) = false := decide_eq_false hlow
  go_upto_region 18 with (fail)
  obtain ⟨i, hi⟩ : ∃ i : Nat, p = (i : Int) - 348 := ⟨(p + 348).toNat, by omega⟩
  have CP : ∀ (d : Nat) (W : World), 0 < d → d < 18446744073709551616 → NE B W → Calls Tryz.prog 254 #[.int .u64 (d : Nat), .int .i64 p, .int .u64 ((S0 : Nat) : Int)] W (PfPost W (pkV neg (nx d p))) := fun d W hd0 hd hNW => by
    have := pf64_any neg d i hd0 hd (by omega) (by omega) W hNW.pt (Nat.lt_of_lt_of_le hNW.pb hNW.lt)
    rw [← hi, hS0] at this
    exact this
  clear hi
  have CE : ∀ W, NE B W → Calls Tryz.prog 253 #[.int .u64 ((x.m : Nat) : Int), .int .i64 p, .bool neg] W fun e w' => w' = W ∧ ∃ F b, e = .returned (.tuple #[.float .f64 F, .bool b]) ∧ (b = true → nx x.m p < infW ∧ F = sgn neg (nx x.m p)) := fun W hNW => by
    refine (exact_any B neg x.m p (by omega) (by omega) (by omega) (by omega) W hNW.ev hNW.ft).mono ?_
    rintro e w' ⟨h1, ⟨G, h2⟩ | ⟨h2, h3⟩⟩
    · exact ⟨h1, G, false, h2, fun h => by cases h⟩
    · exact ⟨h1, _, true, h3, fun _ => ⟨h2, rfl⟩⟩
  have hex : s.extract 0 s.size = s := by
    apply ByteArray.ext
    rw [ByteArray.data_extract]
    simp
  have HN := Lib.hid hN
  have HCP := Lib.hid (And.intro CP CE)
  obtain ⟨Y, hY⟩ : ∃ Y, nx x.m p = Y := ⟨_, rfl⟩
  rw [hY] at l1 l3
  obtain ⟨F, E, k1, k2, k3⟩ := pk_parts neg Y s.size
  -- the fast road
  have HF1 : ∀ W, NE B W → Calls Tryz.prog 254 #[.int .u64 ((x.m : Nat) : Int), .int .i64 p, .int .u64 ((S0 : Nat) : Int)] W fun e w' => e = .returned (.tuple #[.float .f64 F, E]) ∧ Below W.heap.size W w' := fun W hNW => by
    have := CP x.m W (by omega) (by omega) hNW
    rw [hY, k1] at this
    exact this
  cases htr : x.tr with
  | false =>
    have hXY := l3 htr
    have HCE := Lib.hid (CE w hN)
    have HV := Lib.hid (And.intro (And.intro hXY k2) (And.intro hY k3))
    have HF := Lib.hid HF1
    clear CP CE HF1 hXY k1 k2 k3 l1 l2 l3 hm19 hMO hS0 hX hY n1 n2 hpm hpp hN h hp HCP bs1 bs2 hex hsh2
    go_upto_region 20 with (go_at_call 253; (with_reducible refine HCE.out.mono ?_); rintro e w' ⟨hw', G, b, rfl, hb⟩; obtain rfl := hw'.symm; have HG := Lib.hid hb; clear hb)
    cases b with
    | true =>
      go_wp2_with fail
      go_ret3
      obtain ⟨⟨v1, v2⟩, v3, v4⟩ := HV.out
      obtain ⟨b1, b2⟩ : nx x.m p < infW ∧ G = sgn neg (nx x.m p) := by first | exact HG.out rfl | exact HG.out trivial
      refine ⟨congrArg Ending.returned ?_, Below.refl _ _⟩
      rw [v1]
      unfold atV
      rw [b2, v3] at *
      have hne : ¬ infX ≤ Y := by
        have : infX = infW := rfl
        omega
      rw [if_neg hne, Nat.min_eq_left (by omega)]
      rfl
    | false =>
      go_wp2_with (go_at_call 254; (with_reducible refine (HF.out _ HN.out).mono ?_); rintro e w1 ⟨rfl, hw1⟩; have HB1 := Lib.hid hw1; clear hw1)
      go_ret3
      obtain ⟨⟨v1, v2⟩, v3, v4⟩ := HV.out
      refine ⟨congrArg Ending.returned ?_, HB1.out⟩
      rw [v1, v2]
      rfl
  | true =>
    obtain ⟨Z, hZ⟩ : ∃ Z, nx (x.m + 1) p = Z := ⟨_, rfl⟩
    obtain ⟨F2, E2, j1, j2, j3⟩ := pk_parts neg Z s.size
    have HF2 : ∀ W, NE B W → Calls Tryz.prog 254 #[.int .u64 ((x.m : Int) + 1), .int .i64 p, .int .u64 ((S0 : Nat) : Int)] W fun e w' => e = .returned (.tuple #[.float .f64 F2, E2]) ∧ Below W.heap.size W w' := fun W hNW => by
      have := CP (x.m + 1) W (by omega) (by omega) hNW
      rw [hZ, j1] at this
      rw [show (x.m : Int) + 1 = ((x.m + 1 : Nat) : Int) by omega]
      exact this
    have hfo : (fo F F2 == some .eq) = decide (min Y infW = min Z infW) := by
      rw [k3, j3]
      exact fo_eqw neg _ _ (Nat.min_le_right _ _) (Nat.min_le_right _ _)
    have m0 : (0 : Int) ≤ (x.m : Int) := by omega
    have m9 : (x.m : Int) + 1 < 18446744073709551616 := by omega
    have HFF := Lib.hid (And.intro HF1 HF2)
    by_cases hsame : min Y infW = min Z infW
    · rw [decide_eq_true hsame] at hfo
      have hX9 : min X infX = min Y infX := by
        have : infX = infW := rfl
        rw [hZ] at l2
        omega
      have hV := at_same neg X Y s.size hX9
      have HV := Lib.hid (hV.trans k2)
      clear CP CE HF1 HF2 k1 k2 k3 j1 j2 j3 l1 l2 l3 hm19 hMO hS0 hX hY hZ n1 n2 hpm hpp hN h hp HCP bs1 bs2 hex hsh2 hsame hX9 hV
      go_upto_region 23 with (go_at_call 254; (with_reducible refine (HFF.out.1 _ HN.out).mono ?_); rintro e w1 ⟨rfl, hw1⟩; have HB1 := Lib.hid hw1; clear hw1)
      have HN1 := Lib.hid (HN.out.below HB1.out)
      go_upto_region 26 with (go_at_call 254; (with_reducible refine (HFF.out.2 _ HN1.out).mono ?_); rintro e w2 ⟨rfl, hw2⟩; have HB2 := Lib.hid hw2; clear hw2)
      go_wp2_with fail
      go_ret3
      exact ⟨congrArg Ending.returned HV.out.symm, Below.trans HB1.out (HB2.out.mono HB1.out.size)⟩
    · rw [decide_eq_false hsame] at hfo
      -- the slow road
      have hnd0 : 0 < x.nd := Nat.pos_of_ne_zero fun e => by
        have h1 := hMO.hN
        rw [e, Nat.pow_zero] at h1
        have h2 := hMO.q
        rw [show x.N = 0 by omega, Nat.zero_div] at h2
        exact hm0 h2
      obtain ⟨ex0, ex9⟩ := rf_ex h
      have hdx : -60 ≤ dpX x ∧ dpX x ≤ 60 := by
        have a1 := hMO.d0
        have a2 := hMO.d1
        have a3 := hMO.nd
        unfold dpX
        split <;> omega
      have CS : ∀ (a : Nat) (W : World), SeW W a 0 0 0 false W → Calls Tryz.prog 250 #[.pointer (some ⟨a, 0, none⟩), .string s] W (SetPost W a x.N x.nd (dpX x + ex) neg) := fun a W hS => set_any a s neg x rest ex h W hS
      have CF : ∀ (a : Nat) (W W' : World), B ≤ a → EV B W' → SeW W a x.N x.nd (dpX x + ex) neg W' → Calls Tryz.prog 251 #[.pointer (some ⟨a, 0, none⟩), .pointer (some ⟨11, 0, none⟩)] W' fun e w' => e = .returned (.tuple #[.int .u64 ((sgn neg (min X infX) : Nat) : Int), .bool (decide (infX ≤ X))]) ∧ W'.grownBy w' (some a) := fun a W W' hB hEV hS => by
        obtain ⟨f, s1, s2, s3⟩ := hS
        have hb := fbits_any B a (val x.N x.nd (dpX x + ex)) x.N x.nd (dpX x + ex) neg W' hEV hB hnd (by omega) (by omega) ⟨f, s1, s2, ⟨hnd0, hMO.lo hnd0, hMO.hN⟩, by omega, rfl⟩
        rw [nx_val x.N x.nd (dpX x + ex) (by omega), hX] at hb
        exact hb
      obtain ⟨b, hb⟩ : ∃ b, decide (infX ≤ X) = b := ⟨_, rfl⟩
      obtain ⟨G, hG⟩ : ∃ G, sgn neg (min X infX) = G := ⟨_, rfl⟩
      have hV : atV neg X s.size = .tuple #[.float .f64 G, .int .i64 (s.size : Nat), if b then .iface 185 (.int .i64 1) else .nilIface] := by
        unfold atV
        rw [hG, ← hb]
        by_cases h : infX ≤ X
        · rw [if_pos h, decide_eq_true h, if_pos rfl]
        · rw [if_neg h, decide_eq_false h, if_neg (by decide)]
      rw [hG, hb] at CF
      have HV := Lib.hid hV
      have HC := Lib.hid (And.intro CS CF)
      clear CP CE HF1 HF2 k1 k2 k3 j1 j2 j3 l1 l2 l3 hm19 hMO hS0 hX hY hZ n1 n2 hpm hpp hN h hp HCP bs1 bs2 hsh2 hsame hV CS CF hnd0 hdx ex0 ex9 hb hG
      go_upto_region 23 with (go_at_call 254; (with_reducible refine (HFF.out.1 _ HN.out).mono ?_); rintro e w1 ⟨rfl, hw1⟩; have HB1 := Lib.hid hw1; clear hw1)
      have HN1 := Lib.hid (HN.out.below HB1.out)
      go_upto_region 26 with (go_at_call 254; (with_reducible refine (HFF.out.2 _ HN1.out).mono ?_); rintro e w2 ⟨rfl, hw2⟩; have HB2 := Lib.hid hw2; clear hw2)
      have HN2 := Lib.hid (HN1.out.below HB2.out)
      have HB3 := Lib.hid (Below.trans HB1.out (HB2.out.mono HB1.out.size))
      clear HB1 HB2 HN1
      go_upto_region 28 with (fail)
      refine wp_region_lit ?_
      refine wl_val rfl _ (exec_alloc_dec rfl _ _) ?_
      obtain ⟨a, ha⟩ : ∃ a, w2.heap.size = a := ⟨_, rfl⟩
      obtain ⟨W3, hW3⟩ : ∃ W3, w2.alloc (.cells decZ 231) = W3 := ⟨_, rfl⟩
      have hS3 := dec_at w2
      have hB3 : Below w2.heap.size w2 W3 := by rw [← hW3]; exact (Below.refl _ _).alloc (Nat.le_refl _) _
      rw [hW3] at hS3 ⊢
      have HN3 := Lib.hid (HN2.out.below hB3)
      have hBa := HN2.out.lt
      rw [ha] at hS3 hBa hB3 ⊢
      have HB4 := Lib.hid (And.intro (Below.trans HB3.out (hB3.mono (by rw [← ha]; exact HB3.out.size))) (And.intro hBa (show w.heap.size ≤ a by rw [← ha]; exact HB3.out.size)))
      have HS3 := Lib.hid hS3
      clear hS3 hB3 hBa HB3 HN2 hW3
      simp only [Act.put, List.setIfInBounds_toArray, List.set_cons_succ, List.set_cons_zero]
      go_upto_region 31 with (go_at_call 250; (with_reducible refine (HC.out.1 _ _ HS3.out).mono ?_); rintro e w4 ⟨rfl, hw4⟩; have HS4 := Lib.hid hw4; clear hw4)
      obtain ⟨f4, s41, s42, s43⟩ := id HS4.out
      have hBa := HB4.out.2.1
      have hE4 : EV B w4 := HN3.out.ev.grown s43 (fun r e => by obtain rfl := Option.some.inj e; exact hBa)
      have HE4 := Lib.hid (And.intro hBa (And.intro hE4 s43))
      clear s41 s42 s43 hBa hE4
      go_upto_region 32 with (go_at_call 251; (with_reducible refine (HC.out.2 _ _ _ HE4.out.1 HE4.out.2.1 HS4.out).mono ?_); rintro e w5 ⟨rfl, hw5⟩; have HS5 := Lib.hid hw5; clear hw5)
      have hfin : Below w.heap.size w w5 := by
        have q1 := HB4.out.1
        have q2 := HB4.out.2.2
        refine (q1.grown HE4.out.2.2 q1.size ?_).grown HS5.out ?_ ?_
        · intro r e
          obtain rfl := Option.some.inj e
          exact q2
        · exact Nat.le_trans q1.size HE4.out.2.2.size
        · intro r e
          obtain rfl := Option.some.inj e
          exact q2
      have HFin := Lib.hid hfin
      clear hfin
      cases b with
      | true =>
        go_wp2_with fail
        go_ret3
        exact ⟨congrArg Ending.returned HV.out.symm, HFin.out⟩
      | false =>
        go_wp2_with fail
        go_ret3
        exact ⟨congrArg Ending.returned HV.out.symm, HFin.out⟩
end Go.Proofs.YtcbgkbidgpemfaaGreatDoor.rdf

/- The nearest number by halving, as burnishref16 looks for it, is the nearest one. Plain; no condition but those stated. -/
namespace Go.Proofs.YtcbgkbidgpemfaaGreatDoor.rg
open Go.Proofs.YtcbgkbidgpemfaaGreatDoor.prnw
open Go.Proofs.YtcbgkbidgpemfaaGreatDoor.fpm

/-- a float's value, in quarters of the least unit -/
def qv (X : Nat) : Nat := 4 * ftM X * 2 ^ (ftE X - 52 + 1074).toNat
theorem endL_qv (X : Nat) : endL X ≤ qv X ∧ (0 < X → endL X < qv X) := by
  unfold endL qv
  have h1 := loQ_bd (ftM X) (ftE X - 52)
  refine ⟨?_, fun h => ?_⟩
  · exact Nat.mul_le_mul_right _ (by omega)
  · have h2 := ftM_pos X h
    exact (Nat.mul_lt_mul_right (Nat.two_pow_pos _)).2 (by omega)
theorem qv_endU (X : Nat) : qv X < endU X := by
  unfold endU qv
  exact (Nat.mul_lt_mul_right (Nat.two_pow_pos _)).2 (by omega)
theorem qv_zero : qv 0 = 0 := by decide
/-- the greatest one below is found; the midst above it tells which one is the nearest -/
theorem near_low {X A B : Nat} (hB : 0 < B) (h1 : qv X * B ≤ A * 2 ^ unB) (h : A * 2 ^ unB < endU X * B ∨ (A * 2 ^ unB = endU X * B ∧ ftM X % 2 = 0)) : nearX A B = X := by
  refine (near_eq hB ⟨?_, ?_, fun ho => ⟨?_, ?_⟩⟩).symm
  · exact Nat.le_trans (Nat.mul_le_mul_right _ (endL_qv X).1) h1
  · rcases h with h | h
    · exact Nat.le_of_lt h
    · exact Nat.le_of_eq h.1
  · exact Nat.lt_of_lt_of_le ((Nat.mul_lt_mul_right hB).2 ((endL_qv X).2 (by omega))) h1
  · rcases h with h | h
    · exact h
    · have := ftM_odd X
      omega
theorem near_next {X A B : Nat} (hB : 0 < B) (h1 : A * 2 ^ unB < qv (X + 1) * B) (h : endU X * B < A * 2 ^ unB ∨ (A * 2 ^ unB = endU X * B ∧ ftM X % 2 = 1)) : nearX A B = X + 1 := by
  refine (near_eq hB ⟨?_, ?_, fun ho => ⟨?_, ?_⟩⟩).symm
  · rw [ends_meet]
    rcases h with h | h
    · exact Nat.le_of_lt h
    · exact Nat.le_of_eq h.1.symm
  · exact Nat.le_of_lt (Nat.lt_trans h1 ((Nat.mul_lt_mul_right hB).2 (qv_endU _)))
  · rw [ends_meet]
    rcases h with h | h
    · exact h
    · have := ftM_odd X
      omega
  · exact Nat.lt_trans h1 ((Nat.mul_lt_mul_right hB).2 (qv_endU _))
theorem endU_mono (X : Nat) : ∀ n, endU X ≤ endU (X + n)
  | 0 => Nat.le_refl _
  | n + 1 => by
    have h1 := endU_mono X n
    have h2 := ends_lt (X + n + 1) (by omega)
    rw [ends_meet] at h2
    rw [← Nat.add_assoc]
    omega
theorem near_over {X A B : Nat} (hB : 0 < B) (h : endU X * B < A * 2 ^ unB ∨ (A * 2 ^ unB = endU X * B ∧ ftM X % 2 = 1)) : X + 1 ≤ nearX A B := by
  refine Nat.le_of_not_lt fun hl => ?_
  obtain ⟨n, hn⟩ : ∃ n, X = nearX A B + n := ⟨X - nearX A B, by omega⟩
  obtain ⟨-, h2, h3⟩ := near_of A B hB
  have h4 := endU_mono (nearX A B) n
  rw [← hn] at h4
  have h5 : endU (nearX A B) * B ≤ endU X * B := Nat.mul_le_mul_right _ h4
  rcases h with h | ⟨h, ho⟩
  · omega
  · have h6 : endU (nearX A B) = endU X := Nat.le_antisymm h4 (Nat.le_of_mul_le_mul_right (by omega) hB)
    have h7 : n = 0 := by
      cases n with
      | zero => rfl
      | succ n =>
        have e1 := endU_mono (nearX A B) n
        have e2 := ends_lt (nearX A B + n + 1) (by omega)
        rw [ends_meet] at e2
        rw [hn, ← Nat.add_assoc] at h6
        omega
    have h8 : nearX A B = X := by omega
    have := ftM_odd X
    have := h3 (by omega)
    rw [h8] at this
    omega
/-- what is held against a whole number by a power of two -/
theorem against_eq (A B m : Nat) (e : Int) (he : -1076 ≤ e) :
    (A * 2 ^ (-e).toNat < m * B * 2 ^ e.toNat ↔ A * 2 ^ unB < m * 2 ^ (e + 1076).toNat * B) ∧ (A * 2 ^ (-e).toNat = m * B * 2 ^ e.toNat ↔ A * 2 ^ unB = m * 2 ^ (e + 1076).toNat * B) := by
  obtain ⟨k, hk⟩ : ∃ k, (-e).toNat + k = unB := ⟨unB - (-e).toNat, by rw [unB_eq]; omega⟩
  have e1 : A * 2 ^ unB = A * 2 ^ (-e).toNat * 2 ^ k := by rw [← hk, Nat.pow_add, Nat.mul_assoc]
  have e2 : m * 2 ^ (e + 1076).toNat * B = m * B * 2 ^ e.toNat * 2 ^ k := by
    have : (e + 1076).toNat = e.toNat + k := by rw [unB_eq] at hk; omega
    rw [this, Nat.pow_add, Nat.mul_right_comm m, ← Nat.mul_assoc]
  rw [e1, e2]
  have hp := Nat.two_pow_pos k
  exact ⟨⟨fun h => (Nat.mul_lt_mul_right hp).2 h, fun h => (Nat.mul_lt_mul_right hp).1 h⟩, ⟨fun h => by rw [h], fun h => Nat.mul_right_cancel hp h⟩⟩
theorem at_qv (X B : Nat) : ftM X * 2 ^ (ftE X - 52 + 1076).toNat * B = qv X * B := by
  have hE : -1074 ≤ ftE X - 52 := by unfold ftE; split <;> omega
  unfold qv
  rw [show (ftE X - 52 + 1076).toNat = (ftE X - 52 + 1074).toNat + 2 by omega, Nat.pow_add]
  generalize 2 ^ (ftE X - 52 + 1074).toNat = t
  congr 1
  show ftM X * (t * 4) = 4 * ftM X * t
  rw [Nat.mul_comm t, ← Nat.mul_assoc, Nat.mul_comm (ftM X)]
theorem at_endU (X B : Nat) : (2 * ftM X + 1) * 2 ^ (ftE X - 52 - 1 + 1076).toNat * B = endU X * B := by
  have hE : -1074 ≤ ftE X - 52 := by unfold ftE; split <;> omega
  unfold endU
  rw [show (ftE X - 52 - 1 + 1076).toNat = (ftE X - 52 + 1074).toNat + 1 by omega, Nat.pow_succ]
  generalize 2 ^ (ftE X - 52 + 1074).toNat = t
  congr 1
  rw [Nat.mul_comm t, ← Nat.mul_assoc]
  congr 1
  omega
end Go.Proofs.YtcbgkbidgpemfaaGreatDoor.rg

/- Floats as burnishref16.pieces takes them: plain facts of their bits. No conditions but those stated. -/
namespace Go.Proofs.YtcbgkbidgpemfaaGreatDoor.rg
open Go.RowKit
open Go.Proofs.YtcbgkbidgpemfaaGreatDoor.fpm
open Go.Proofs.YtcbgkbidgpemfaaGreatDoor.prnw
open Go.Proofs.YtcbgkbidgpemfaaGreatDoor.flatm

def way_out (m a : Nat) : Nat := m <<< ((-1074 : Int) + a).toNat / 2 ^ (-((-1074 : Int) + a)).toNat
theorem cut_zero (neg : Bool) (n v : Nat) : Ieee.Toward.cut .zero neg n v = n / 2 ^ v := by
  have e : Ieee.Toward.cut .zero neg n v = n / (1 <<< min v (n.log2 + 2)) + 0 := rfl
  rw [e, Nat.add_zero, Nat.one_shiftLeft]
  by_cases h : v ≤ n.log2 + 2
  · rw [Nat.min_eq_left h]
  · rw [Nat.min_eq_right (by omega)]
    have h1 : n < 2 ^ (n.log2 + 2) := by
      by_cases h0 : n = 0
      · rw [h0]; exact Nat.two_pow_pos _
      · exact Nat.lt_of_lt_of_le ((Nat.log2_lt h0).1 (Nat.lt_succ_self _)) (Nat.pow_le_pow_right (by decide) (by omega))
    rw [Nat.div_eq_of_lt h1, Nat.div_eq_of_lt (Nat.lt_of_lt_of_le h1 (Nat.pow_le_pow_right (by decide) (by omega)))]
/-- a float that is a whole number, as that -/
theorem f2u (Z d : Nat) (hZ : Z < infW) (h : valR Z = d * 2 ^ leB) (hd : d < 18446744073709551616) : floatToIntVal .f64 Z .u64 = some (d : Int) := by
  obtain ⟨m, a, h1, h2⟩ := word_read false Z hZ
  rw [word_eq, if_neg (by decide)] at h1
  rw [h] at h2
  have hl := leB_eq
  have hw : way_out m a = d := by
    unfold way_out
    by_cases hc : leB ≤ a
    · obtain ⟨k, rfl⟩ : ∃ k, a = leB + k := ⟨a - leB, by omega⟩
      rw [show ((-1074 : Int) + ((leB + k : Nat) : Int)).toNat = k by rw [hl]; omega, show (-((-1074 : Int) + ((leB + k : Nat) : Int))).toNat = 0 by rw [hl]; omega, Nat.shiftLeft_eq, Nat.pow_zero, Nat.div_one]
      rw [Nat.pow_add, Nat.mul_comm (2 ^ leB), ← Nat.mul_assoc] at h2
      exact two_cancel h2
    · obtain ⟨k, hk⟩ : ∃ k, leB = a + k := ⟨leB - a, by omega⟩
      rw [show ((-1074 : Int) + (a : Int)).toNat = 0 by omega, show (-((-1074 : Int) + (a : Int))).toNat = k by omega, Nat.shiftLeft_eq, Nat.pow_zero, Nat.mul_one]
      rw [hk, Nat.pow_add, Nat.mul_comm (2 ^ a), ← Nat.mul_assoc] at h2
      rw [two_cancel h2, Nat.mul_div_cancel _ (Nat.two_pow_pos k)]
  have hr : FloatKind.f64.decode Z = .number false m ((-1074 : Int) + a) := h1
  unfold floatToIntVal
  rw [hr]
  have ht : Ieee.Datum.toInt .zero (.number false m ((-1074 : Int) + a)) = some (d : Int) := by
    have e : Ieee.Datum.toInt .zero (.number false m ((-1074 : Int) + a)) = some (Ieee.signed false (Ieee.Toward.cut .zero false (m <<< ((-1074 : Int) + a).toNat) (-((-1074 : Int) + a)).toNat) 0) := rfl
    rw [e, cut_zero]
    have hw' : m <<< ((-1074 : Int) + a).toNat / 2 ^ (-((-1074 : Int) + a)).toNat = d := hw
    rw [hw', signed_nat]
    simp
  rw [ht]
  have h0 : IntKind.u64.min = 0 := rfl
  have h9 : IntKind.u64.max = 18446744073709551615 := rfl
  show (if IntKind.u64.min ≤ (d : Int) ∧ (d : Int) ≤ IntKind.u64.max then some (d : Int) else none) = _
  rw [h0, h9, if_pos ⟨by omega, by omega⟩]
/-- a number below the normal ones, times two to 52 -/
def upW (X : Nat) : Nat := (X.log2 + 1) * 4503599627370496 + (X - 2 ^ X.log2) * 2 ^ (52 - X.log2)
theorem up_parts (X : Nat) (h0 : 0 < X) (h : X < 4503599627370496) : X.log2 ≤ 51 ∧ (X - 2 ^ X.log2) * 2 ^ (52 - X.log2) < 4503599627370496 ∧ 2 ^ X.log2 ≤ X ∧ 4503599627370496 * 2 ^ X.log2 + (X - 2 ^ X.log2) * 2 ^ (52 - X.log2) * 2 ^ X.log2 = X * 4503599627370496 := by
  have hb : 2 ^ X.log2 ≤ X := Nat.log2_self_le (by omega)
  have hb2 : X < 2 ^ (X.log2 + 1) := (Nat.log2_lt (by omega)).1 (Nat.lt_succ_self _)
  obtain ⟨b, hbe⟩ : ∃ b, X.log2 = b := ⟨_, rfl⟩
  rw [hbe] at hb hb2 ⊢
  have h51 : b ≤ 51 := by
    refine Nat.le_of_not_lt fun hl => ?_
    have : 2 ^ 52 ≤ 2 ^ b := Nat.pow_le_pow_right (by decide) hl
    have e : (2 : Nat) ^ 52 = 4503599627370496 := by decide
    omega
  have e : (2 : Nat) ^ (52 - b) * 2 ^ b = 4503599627370496 := by
    rw [← Nat.pow_add, show 52 - b + b = 52 by omega]
  rw [Nat.pow_succ] at hb2
  have hp := Nat.two_pow_pos (52 - b)
  refine ⟨h51, ?_, hb, ?_⟩
  · have h1 : (X - 2 ^ b) * 2 ^ (52 - b) < 2 ^ b * 2 ^ (52 - b) := (Nat.mul_lt_mul_right hp).2 (by omega)
    rw [Nat.mul_comm (2 ^ b), e] at h1
    exact h1
  · rw [Nat.mul_assoc, e, Nat.mul_comm 4503599627370496, ← Nat.add_mul]
    congr 1
    omega
theorem val_norm (t r : Nat) (hr : r < 4503599627370496) : valR ((t + 1) * 4503599627370496 + r) = (4503599627370496 + r) * 2 ^ t := by
  unfold valR
  rw [if_neg (by omega), show ((t + 1) * 4503599627370496 + r) % 4503599627370496 = r by omega, show ((t + 1) * 4503599627370496 + r) / 4503599627370496 = t + 1 by omega, Nat.add_sub_cancel]
theorem pow_split (L a b : Nat) (h : L = a + b) : 2 ^ L = 2 ^ a * 2 ^ b := by rw [h, Nat.pow_add]
theorem up_val (X : Nat) (h0 : 0 < X) (h : X < 4503599627370496) : valR (upW X) = X * 4503599627370496 ∧ valR (upW X + 1022 * 4503599627370496) = X * 2 ^ leB ∧ upW X + 1022 * 4503599627370496 < infW ∧ 0 < upW X ∧ upW X < 53 * 4503599627370496 := by
  obtain ⟨h1, h2, h3, h4⟩ := up_parts X h0 h
  obtain ⟨r, hr⟩ : ∃ r, (X - 2 ^ X.log2) * 2 ^ (52 - X.log2) = r := ⟨_, rfl⟩
  unfold upW
  rw [hr] at h2 h4 ⊢
  obtain ⟨b, hb⟩ : ∃ b, X.log2 = b := ⟨_, rfl⟩
  rw [hb] at h1 h4 ⊢
  have hi := infW_eq
  refine ⟨?_, ?_, by omega, by omega, by omega⟩
  · rw [val_norm b r h2, Nat.add_mul]
    exact h4
  · obtain ⟨K, hK⟩ : ∃ K, K = 1022 := ⟨_, rfl⟩
    have hl : leB = 52 + K := by rw [hK]; exact leB_eq
    rw [← hK, show (b + 1) * 4503599627370496 + r + K * 4503599627370496 = (b + K + 1) * 4503599627370496 + r by omega, val_norm _ r h2, Nat.pow_add, ← Nat.mul_assoc, Nat.add_mul, h4, pow_split leB 52 K hl, ← Nat.mul_assoc]
/-- a normal one's mantissa as a float -/
theorem fr_val (X : Nat) (h : 4503599627370496 ≤ X) : valR (X % 4503599627370496 + 1075 * 4503599627370496) = ftM X * 2 ^ leB ∧ X % 4503599627370496 + 1075 * 4503599627370496 < infW := by
  have hi := infW_eq
  refine ⟨?_, by omega⟩
  rw [show X % 4503599627370496 + 1075 * 4503599627370496 = (1074 + 1) * 4503599627370496 + X % 4503599627370496 by omega, val_norm _ _ (Nat.mod_lt _ (by decide))]
  unfold ftM
  rw [if_neg (by omega), Nat.add_comm, leB_eq]
theorem ft_low {X : Nat} (h : X < 4503599627370496) : ftM X = X ∧ ftE X - 52 = -1074 := by
  unfold ftM ftE
  rw [if_pos (by omega), if_pos (by omega)]
  omega
theorem ft_high {X : Nat} (h : 4503599627370496 ≤ X) : ftE X - 52 = ((X / 4503599627370496 : Nat) : Int) - 1075 := by
  unfold ftE
  rw [if_neg (by omega)]
  omega
end Go.Proofs.YtcbgkbidgpemfaaGreatDoor.rg

/- The walks of math.Abs, IsNaN, IsInf, Signbit and of dir.Right. No conditions. -/
namespace Go.Proofs.YtcbgkbidgpemfaaGreatDoor.nodew
open Go.RowKit

theorem bits_run (x : Nat) (w : World) : (callFunc 63 #[.float .f64 x]).run Tryz.prog w = .ok (.value (.int .u64 x)) w := by
  rw [@run_callFunc_extern Tryz.prog 63 _ Extern.MathFloatBits.float64bits Tryz.func63 (by kernel_rfl) (by kernel_rfl) (by kernel_rfl) (by kernel_rfl)]
  rfl
theorem frombits_run (n : Int) (w : World) : (callFunc 113 #[.int .u64 n]).run Tryz.prog w = .ok (.value (.float .f64 n.toNat)) w := by
  rw [@run_callFunc_extern Tryz.prog 113 _ Extern.MathFloatBits.float64frombits Tryz.func113 (by kernel_rfl) (by kernel_rfl) (by kernel_rfl) (by kernel_rfl)]
  rfl
attribute [local go_sem] bits_run frombits_run

theorem run_store_float (P : Program) (w : World) (a : Addr) (m : Mode) (k : FloatKind) (b : Nat) : (store a (.float k b) m).run P w = stored P w a (.float k b) m := run_store P w a _ m rfl

attribute [local go_sem] fo_eq
def absF (x : Nat) : Nat := (bits BinOp.andNot IntKind.u64 (x : Int) 9223372036854775808).toNat
def nanF (x : Nat) : Bool := fo x x != some .eq
def infF (x : Nat) : Bool := fo (absF x) 9218868437227405311 == some .gt
def negF (x : Nat) : Bool := decide (wrap64 (x : Int) < 0)
theorem abs_any (x : Nat) (w : World) : Calls Tryz.prog 81 #[.float .f64 x] w fun e w' => e = .returned (.float .f64 (absF x)) ∧ w' = w := by
  go_enter Tryz.func81, Tryz.ntmps81
  go_wp2
  go_ret
  exact ⟨rfl, rfl⟩

theorem isNaN_any (x : Nat) (w : World) : Calls Tryz.prog 110 #[.float .f64 x] w fun e w' => e = .returned (.bool (nanF x)) ∧ w' = w := by
  go_enter Tryz.func110, Tryz.ntmps110
  go_wp2
  go_ret
  exact ⟨rfl, rfl⟩

theorem signbit_any (x : Nat) (w : World) : Calls Tryz.prog 112 #[.float .f64 x] w fun e w' => e = .returned (.bool (negF x)) ∧ w' = w := by
  go_enter Tryz.func112, Tryz.ntmps112
  go_wp2
  go_ret
  exact ⟨rfl, rfl⟩

theorem isInf_any (x : Nat) (w : World) : Calls Tryz.prog 111 #[.float .f64 x, .int .i64 0] w fun e w' => e = .returned (.bool (infF x)) ∧ w' = w := by
  go_enter Tryz.func111, Tryz.ntmps111
  go_wp2_with (first | (go_at_call 81; refine (abs_any _ _).mono ?_; rintro e w' ⟨rfl, rfl⟩))
  go_ret
  exact ⟨rfl, rfl⟩

end Go.Proofs.YtcbgkbidgpemfaaGreatDoor.nodew

/- burnishref16.pieces: the walks of math.Ldexp and math.Frexp where it calls them, and of pieces. Conditions: as each theorem states. -/
namespace Go.Proofs.YtcbgkbidgpemfaaGreatDoor.rg
open Go.RowKit
open Go.Proofs.YtcbgkbidgpemfaaGreatDoor.nodew
open Go.Proofs.YtcbgkbidgpemfaaGreatDoor.flatm
open Go.Proofs.YtcbgkbidgpemfaaGreatDoor.dcw
open Go.Proofs.YtcbgkbidgpemfaaGreatDoor.fpm
open Go.Proofs.YtcbgkbidgpemfaaGreatDoor.rdf
open Go.Proofs.YtcbgkbidgpemfaaGreatDoor.prnw
attribute [local go_sem] nodew.fo_eq bits_run frombits_run

theorem sv_pos {X : Nat} (h : X < 9218868437227405312) : sv X = (valR X : Int) := by
  unfold sv
  rw [if_neg (by omega), Nat.mod_eq_of_lt (by omega)]
theorem fo_lt_pos {X Y : Nat} (hX : X < 9218868437227405312) (hY : Y < 9218868437227405312) : (fo X Y == some .lt) = decide (X < Y) := by
  rw [fo_sv (by omega) (by omega), sv_pos hX, sv_pos hY, Int.compare_eq_ite_lt]
  by_cases h : X < Y
  · have := val_lt h
    rw [if_pos (by omega), decide_eq_true h]
    rfl
  · have := val_le (show Y ≤ X by omega)
    rw [if_neg (by omega), decide_eq_false h]
    split <;> rfl
theorem fo_eq_pos {X Y : Nat} (hX : X < 9218868437227405312) (hY : Y < 9218868437227405312) : (fo X Y == some .eq) = decide (X = Y) := by
  rw [fo_sv (by omega) (by omega), sv_pos hX, sv_pos hY]
  by_cases h : X = Y
  · rw [decide_eq_true h, h]
    simp
  · have hv : valR X ≠ valR Y := fun e => h (val_inj e)
    rw [decide_eq_false h, Int.compare_eq_ite_lt]
    split
    · rfl
    · rw [if_pos (by omega)]; rfl
theorem abs_pos {x : Nat} (hx : x < 9223372036854775808) : absF x = x := by
  unfold absF
  have h : bits BinOp.andNot IntKind.u64 (x : Int) 9223372036854775808 = IntKind.u64.wrap (((BitVec.ofInt 64 (x : Int) &&& ~~~ (BitVec.ofInt 64 9223372036854775808)).toNat : Nat) : Int) := rfl
  have h2 : (BitVec.ofInt 64 (x : Int)).toNat = x := by
    rw [BitVec.toNat_ofInt]
    omega
  have h3 : (~~~ (BitVec.ofInt 64 9223372036854775808)).toNat = 2 ^ 63 - 1 := by decide
  rw [h, BitVec.toNat_and, h2, h3, Nat.and_two_pow_sub_one_eq_mod, IntKind.wrap_u64]
  omega
theorem plain_parts {F : Nat} (h : F < 9218868437227405312) : nanF F = false ∧ infF F = false ∧ negF F = false := by
  refine ⟨?_, ?_, ?_⟩
  · have := fo_eq_pos h h
    rw [decide_eq_true rfl] at this
    unfold nanF
    simpa using this
  · unfold infF
    rw [abs_pos (by omega), fo_sv (by omega) (by decide), sv_pos h, sv_pos (by decide), Int.compare_eq_ite_lt]
    have := val_le (show F ≤ 9218868437227405311 by omega)
    split
    · rfl
    · rw [if_neg (by omega)]
      rfl
  · unfold negF
    rw [decide_eq_false]
    unfold wrap64
    omega
theorem near_own (X : Nat) : nearX (valR X) (2 ^ leB) = X := by
  have hB : 0 < 2 ^ leB := Nat.two_pow_pos _
  by_cases h : X < 4503599627370496
  · have hv := val_low h
    have := near_eq hB (near_mk (valR X) (2 ^ leB) 1 X 0 X hB (by decide) (by rw [hv, Nat.pow_zero]; simp) (by omega) (by omega) (fun _ => by omega) (by omega) (.inl rfl))
    omega
  · obtain ⟨t, ht⟩ : ∃ t, t = X / 4503599627370496 - 1 := ⟨_, rfl⟩
    obtain ⟨R, hR⟩ : ∃ R, R = 4503599627370496 + X % 4503599627370496 := ⟨_, rfl⟩
    have hv : valR X = R * 2 ^ t := by unfold valR; rw [if_neg h, ← hR, ← ht]
    have := near_eq hB (near_mk (valR X) (2 ^ leB) 1 R t R hB (by decide) (by rw [hv, Nat.mul_one]) (by omega) (by omega) (fun _ => by omega) (by omega) (.inr (by omega)))
    omega
theorem andn_x (a : Nat) (ha : a < 9223372036854775808) : bits BinOp.andNot IntKind.u64 (a : Int) 9218868437227405312 = ((a % 4503599627370496 : Nat) : Int) := by
  have h : bits BinOp.andNot IntKind.u64 (a : Int) 9218868437227405312 = IntKind.u64.wrap (((BitVec.ofInt 64 (a : Int) &&& ~~~ (BitVec.ofInt 64 9218868437227405312)).toNat : Nat) : Int) := rfl
  have h2 : (BitVec.ofInt 64 (a : Int)).toNat = a := by
    rw [BitVec.toNat_ofInt]
    omega
  have h3 : (~~~ (BitVec.ofInt 64 9218868437227405312)).toNat = 2 ^ 63 ||| (2 ^ 52 - 1) := by decide
  have h4 : a &&& 2 ^ 63 = 0 := by
    apply Nat.eq_of_testBit_eq
    intro i
    rw [Nat.testBit_and, Nat.testBit_two_pow, Nat.zero_testBit]
    by_cases hi : 63 = i
    · subst hi
      rw [Nat.testBit_lt_two_pow (show a < 2 ^ 63 by omega)]
      rfl
    · rw [decide_eq_false hi, Bool.and_false]
  rw [h, BitVec.toNat_and, h2, h3, Nat.and_or_distrib_left, h4, Nat.and_two_pow_sub_one_eq_mod, Nat.zero_or, IntKind.wrap_u64]
  omega
theorem or_x (r b : Nat) (hr : r < 4503599627370496) (hb : b < 2048) : bits BinOp.or IntKind.u64 (r : Int) ((b * 4503599627370496 : Nat) : Int) = ((b * 4503599627370496 + r : Nat) : Int) := by
  have h := or52s false r b hr hb
  rw [show sgn false r = r from rfl, show sgn false (b * 4503599627370496 + r) = b * 4503599627370496 + r from rfl] at h
  exact h
theorem and_x (k : IntKind) (hk : k = .i64 ∨ k = .u64) (a : Nat) (ha : a < 2048) : bits BinOp.and k (a : Int) 2047 = (a : Int) := by
  have := and_mask k hk a 11 (by omega) (by decide)
  rw [Nat.mod_eq_of_lt (by omega), show ((2 ^ 11 - 1 : Nat) : Int) = 2047 from rfl] at this
  exact this
theorem mul_k (a b : Nat) : a * b * a = b * a * a := by rw [Nat.mul_comm a b]
theorem mul_k3 (x a b : Nat) : x * (a * b) * b = x * a * b * b := by rw [← Nat.mul_assoc]
theorem one_times (Y : Nat) (h0 : 0 < Y) (hY : Y < infW) (w : World) : (binOp BinOp.mul 46 (.float .f64 4607182418800017408) (.float .f64 Y)).run Tryz.prog w = .ok (.float .f64 Y) w := by
  have hv : valR 4607182418800017408 = 2 ^ leB := by decide +kernel
  have := mul_run w false 4607182418800017408 Y (valR Y) (2 ^ leB) (by decide) (by decide) h0 hY (Nat.two_pow_pos _) (by rw [hv]; exact mul_k _ _)
  rw [near_own, Nat.min_eq_left (Nat.le_of_lt hY)] at this
  exact this
theorem up_run (X : Nat) (h0 : 0 < X) (hX : X < 4503599627370496) (w : World) : (binOp BinOp.mul 46 (.float .f64 X) (.float .f64 4841369599423283200)).run Tryz.prog w = .ok (.float .f64 (upW X)) w := by
  have hv : valR 4841369599423283200 = 4503599627370496 * 2 ^ leB := by decide +kernel
  obtain ⟨u1, -, -, u2, u3⟩ := up_val X h0 hX
  have hi := infW_eq
  have := mul_run w false X 4841369599423283200 (valR (upW X)) (2 ^ leB) h0 (by omega) (by decide) (by decide) (Nat.two_pow_pos _) (by rw [hv, u1, val_low hX]; exact mul_k3 _ _ _)
  rw [near_own, Nat.min_eq_left (by omega)] at this
  exact this
theorem norm_hi (x : Nat) (h : 4503599627370496 ≤ x) (hx : x < 9218868437227405312) (w : World) : Calls Tryz.prog 237 #[.float .f64 x] w fun e w' => e = .returned (.tuple #[.float .f64 x, .int .i64 0]) ∧ w' = w := by
  have h1 : (fo (absF x) 4503599627370496 == some .lt) = false := by
    rw [abs_pos (by omega), fo_lt_pos hx (by decide)]
    exact decide_eq_false (by omega)
  clear h hx
  go_enter Tryz.func237, Tryz.ntmps237
  go_wp2_with (go_at_call 81; refine (abs_any _ _).mono ?_; rintro e w' ⟨rfl, rfl⟩)
  go_ret2
  exact ⟨rfl, rfl⟩
theorem norm_lo (x : Nat) (h0 : 0 < x) (h : x < 4503599627370496) (w : World) : Calls Tryz.prog 237 #[.float .f64 x] w fun e w' => e = .returned (.tuple #[.float .f64 (upW x), .int .i64 (-52)]) ∧ w' = w := by
  have h1 : (fo (absF x) 4503599627370496 == some .lt) = true := by
    rw [abs_pos (by omega), fo_lt_pos (by omega) (by decide)]
    exact decide_eq_true h
  have hr := up_run x h0 h
  clear h h0
  go_enter Tryz.func237, Tryz.ntmps237
  go_wp2_with (go_at_call 81; refine (abs_any _ _).mono ?_; rintro e w' ⟨rfl, rfl⟩)
  go_ret2
  exact ⟨rfl, rfl⟩
set_option maxHeartbeats 1000000 in
/-- a number of 53 digits by a power of two, where the result is such a one too -/
theorem ldexp_n (F c : Nat) (E : Int) (hF0 : 4503599627370496 ≤ F) (hF : F < 9218868437227405312) (hc : ((F / 4503599627370496 : Nat) : Int) + E = c) (hc1 : 1 ≤ c) (hc2 : c ≤ 2046) (w : World) :
    Calls Tryz.prog 205 #[.float .f64 F, .int .i64 E] w fun e w' => e = .returned (.float .f64 (c * 4503599627370496 + F % 4503599627370496)) ∧ w' = w := by
  obtain ⟨q, hq⟩ : ∃ q, F / 4503599627370496 = q := ⟨_, rfl⟩
  obtain ⟨r, hr⟩ : ∃ r, F % 4503599627370496 = r := ⟨_, rfl⟩
  rw [hq] at hc
  rw [hr]
  have hr9 : r < 4503599627370496 := by omega
  obtain ⟨n1, n2, n3⟩ := plain_parts hF
  have n5 : (fo F 0 == some .eq) = false := by
    rw [fo_eq_pos hF (by decide)]
    exact decide_eq_false (by omega)
  have HN := Lib.hid (fun W => norm_hi F hF0 hF W)
  have HI := Lib.hid (fun W => show Calls Tryz.prog 111 #[.float .f64 F, .int .i64 0] W fun e w' => e = .returned (.bool false) ∧ w' = W from by have := isInf_any F W; rw [n2] at this; exact this)
  have HA := Lib.hid (fun W => show Calls Tryz.prog 110 #[.float .f64 F] W fun e w' => e = .returned (.bool false) ∧ w' = W from by have := isNaN_any F W; rw [n1] at this; exact this)
  have fq : (F : Int) / 4503599627370496 = (q : Int) := by omega
  have b1 : bits BinOp.and IntKind.i64 (q : Int) 2047 = (q : Int) := and_x .i64 (.inl rfl) _ (by omega)
  have b2 : bits BinOp.andNot IntKind.u64 (F : Int) 9218868437227405312 = (r : Int) := by rw [andn_x F (by omega), hr]
  obtain ⟨Z, hZ⟩ : ∃ Z, c * 4503599627370496 + r = Z := ⟨_, rfl⟩
  rw [hZ]
  have b3 : bits BinOp.or IntKind.u64 (r : Int) ((E + ((q : Int) - 1023) + 1023) * 4503599627370496) = (Z : Int) := by
    rw [show (E + ((q : Int) - 1023) + 1023) * 4503599627370496 = ((c * 4503599627370496 : Nat) : Int) by omega, or_x r c hr9 (by omega), hZ]
  have hi := infW_eq
  have hmul := fun W => one_times Z (by omega) (by omega) W
  have g1 : (-1022 : Int) ≤ E + ((q : Int) - 1023) := by omega
  have g2 : E + ((q : Int) - 1023) ≤ 1023 := by omega
  have g3 : (q : Int) ≤ 2046 := by omega
  have g4 : (0 : Int) ≤ (q : Int) := by omega
  have g5 : (-2046 : Int) ≤ E := by omega
  have g6 : E ≤ 2046 := by omega
  clear n1 n2 n3 hq hr hc hZ hi hF0 hF hc1 hc2
  go_enter Tryz.func205, Tryz.ntmps205
  go_wp2_with (first
    | (go_at_call 111; (with_reducible refine (HI.out _).mono ?_); rintro e w' ⟨rfl, rfl⟩)
    | (go_at_call 110; (with_reducible refine (HA.out _).mono ?_); rintro e w' ⟨rfl, rfl⟩)
    | (go_at_call 237; (with_reducible refine (HN.out _).mono ?_); rintro e w' ⟨rfl, rfl⟩))
  go_ret
  exact ⟨rfl, rfl⟩
set_option maxHeartbeats 1000000 in
/-- one below the normal ones, as a whole number -/
theorem ldexp_s (X : Nat) (h0 : 0 < X) (hX : X < 4503599627370496) (w : World) :
    Calls Tryz.prog 205 #[.float .f64 X, .int .i64 1074] w fun e w' => e = .returned (.float .f64 (upW X + 1022 * 4503599627370496)) ∧ w' = w := by
  obtain ⟨-, -, u0, u1, u2⟩ := up_val X h0 hX
  obtain ⟨n1, n2, n3⟩ := plain_parts (show X < 9218868437227405312 by omega)
  have n5 : (fo X 0 == some .eq) = false := by
    rw [fo_eq_pos (by omega) (by decide)]
    exact decide_eq_false (by omega)
  have HN := Lib.hid (fun W => norm_lo X h0 hX W)
  have HI := Lib.hid (fun W => show Calls Tryz.prog 111 #[.float .f64 X, .int .i64 0] W fun e w' => e = .returned (.bool false) ∧ w' = W from by have := isInf_any X W; rw [n2] at this; exact this)
  have HA := Lib.hid (fun W => show Calls Tryz.prog 110 #[.float .f64 X] W fun e w' => e = .returned (.bool false) ∧ w' = W from by have := isNaN_any X W; rw [n1] at this; exact this)
  obtain ⟨F, hF⟩ : ∃ F, upW X = F := ⟨_, rfl⟩
  rw [hF] at u0 u1 u2 HN ⊢
  obtain ⟨q, hq⟩ : ∃ q, F / 4503599627370496 = q := ⟨_, rfl⟩
  obtain ⟨r, hr⟩ : ∃ r, F % 4503599627370496 = r := ⟨_, rfl⟩
  have hr9 : r < 4503599627370496 := by omega
  have fq : (F : Int) / 4503599627370496 = (q : Int) := by omega
  have b1 : bits BinOp.and IntKind.i64 (q : Int) 2047 = (q : Int) := and_x .i64 (.inl rfl) _ (by omega)
  have b2 : bits BinOp.andNot IntKind.u64 (F : Int) 9218868437227405312 = (r : Int) := by rw [andn_x F (by omega), hr]
  obtain ⟨Z, hZ⟩ : ∃ Z, F + 1022 * 4503599627370496 = Z := ⟨_, rfl⟩
  rw [hZ] at u0 ⊢
  have b3 : bits BinOp.or IntKind.u64 (r : Int) ((1022 + ((q : Int) - 1023) + 1023) * 4503599627370496) = (Z : Int) := by
    rw [show (1022 + ((q : Int) - 1023) + 1023) * 4503599627370496 = (((q + 1022) * 4503599627370496 : Nat) : Int) by omega, or_x r (q + 1022) hr9 (by omega), show (q + 1022) * 4503599627370496 + r = Z by omega]
  have hmul := fun W => one_times Z (by omega) u0 W
  have g3 : (q : Int) ≤ 53 := by omega
  have g4 : (0 : Int) ≤ (q : Int) := by omega
  clear n1 n2 n3 hq hr hZ h0 hX hF u0 u1 u2
  go_enter Tryz.func205, Tryz.ntmps205
  go_wp2_with (first
    | (go_at_call 111; (with_reducible refine (HI.out _).mono ?_); rintro e w' ⟨rfl, rfl⟩)
    | (go_at_call 110; (with_reducible refine (HA.out _).mono ?_); rintro e w' ⟨rfl, rfl⟩)
    | (go_at_call 237; (with_reducible refine (HN.out _).mono ?_); rintro e w' ⟨rfl, rfl⟩))
  go_ret
  exact ⟨rfl, rfl⟩
theorem ldexp_0 (w : World) : Calls Tryz.prog 205 #[.float .f64 0, .int .i64 1074] w fun e w' => e = .returned (.float .f64 0) ∧ w' = w := by
  have n5 : (fo 0 0 == some .eq) = true := by kernel_rfl
  go_enter Tryz.func205, Tryz.ntmps205
  go_wp2_with fail
  go_ret
  exact ⟨rfl, rfl⟩
theorem Ldexp_of {F Z : Nat} {E : Int} (h : ∀ w : World, Calls Tryz.prog 205 #[.float .f64 F, .int .i64 E] w fun e w' => e = .returned (.float .f64 Z) ∧ w' = w) (w : World) :
    Calls Tryz.prog 166 #[.float .f64 F, .int .i64 E] w fun e w' => e = .returned (.float .f64 Z) ∧ w' = w := by
  have H := Lib.hid h
  clear h
  go_enter Tryz.func166, Tryz.ntmps166
  go_wp2_with (go_at_call 205; (with_reducible refine (H.out _).mono ?_); rintro e w' ⟨rfl, rfl⟩)
  go_ret
  exact ⟨rfl, rfl⟩
set_option maxHeartbeats 1000000 in
theorem frexp_n (X : Nat) (h0 : 4503599627370496 ≤ X) (hX : X < 9218868437227405312) (w : World) :
    Calls Tryz.prog 207 #[.float .f64 X] w fun e w' => e = .returned (.tuple #[.float .f64 (1022 * 4503599627370496 + X % 4503599627370496), .int .i64 (((X / 4503599627370496 : Nat) : Int) - 1022)]) ∧ w' = w := by
  obtain ⟨q, hq⟩ : ∃ q, X / 4503599627370496 = q := ⟨_, rfl⟩
  obtain ⟨r, hr⟩ : ∃ r, X % 4503599627370496 = r := ⟨_, rfl⟩
  rw [hr, hq]
  have hr9 : r < 4503599627370496 := by omega
  obtain ⟨n1, n2, n3⟩ := plain_parts hX
  have n5 : (fo X 0 == some .eq) = false := by
    rw [fo_eq_pos hX (by decide)]
    exact decide_eq_false (by omega)
  have HN := Lib.hid (fun W => norm_hi X h0 hX W)
  have HI := Lib.hid (fun W => show Calls Tryz.prog 111 #[.float .f64 X, .int .i64 0] W fun e w' => e = .returned (.bool false) ∧ w' = W from by have := isInf_any X W; rw [n2] at this; exact this)
  have HA := Lib.hid (fun W => show Calls Tryz.prog 110 #[.float .f64 X] W fun e w' => e = .returned (.bool false) ∧ w' = W from by have := isNaN_any X W; rw [n1] at this; exact this)
  have fq : (X : Int) / 4503599627370496 = (q : Int) := by omega
  have b1 : bits BinOp.and IntKind.u64 (q : Int) 2047 = (q : Int) := and_x .u64 (.inr rfl) _ (by omega)
  have b2 : bits BinOp.andNot IntKind.u64 (X : Int) 9218868437227405312 = (r : Int) := by rw [andn_x X (by omega), hr]
  obtain ⟨Z, hZ⟩ : ∃ Z, 1022 * 4503599627370496 + r = Z := ⟨_, rfl⟩
  rw [hZ]
  have b3 : bits BinOp.or IntKind.u64 (r : Int) 4602678819172646912 = (Z : Int) := by
    have := or_x r 1022 hr9 (by decide)
    rw [hZ] at this
    exact this
  have g3 : (q : Int) ≤ 2046 := by omega
  have g4 : (0 : Int) ≤ (q : Int) := by omega
  clear n1 n2 n3 hq hr hZ h0 hX
  go_enter Tryz.func207, Tryz.ntmps207
  go_wp2_with (first
    | (go_at_call 111; (with_reducible refine (HI.out _).mono ?_); rintro e w' ⟨rfl, rfl⟩)
    | (go_at_call 110; (with_reducible refine (HA.out _).mono ?_); rintro e w' ⟨rfl, rfl⟩)
    | (go_at_call 237; (with_reducible refine (HN.out _).mono ?_); rintro e w' ⟨rfl, rfl⟩))
  go_ret2
  refine ⟨?_, rfl⟩
  show Ending.returned (.tuple #[.float .f64 Z, .int .i64 ((q : Int) - 1023 + 1)]) = _
  rw [show (q : Int) - 1023 + 1 = (q : Int) - 1022 by omega]
theorem Frexp_of {F Z : Nat} {E : Int} (h : ∀ w : World, Calls Tryz.prog 207 #[.float .f64 F] w fun e w' => e = .returned (.tuple #[.float .f64 Z, .int .i64 E]) ∧ w' = w) (w : World) :
    Calls Tryz.prog 167 #[.float .f64 F] w fun e w' => e = .returned (.tuple #[.float .f64 Z, .int .i64 E]) ∧ w' = w := by
  have H := Lib.hid h
  clear h
  go_enter Tryz.func167, Tryz.ntmps167
  go_wp2_with (go_at_call 207; (with_reducible refine (H.out _).mono ?_); rintro e w' ⟨rfl, rfl⟩)
  go_ret2
  exact ⟨rfl, rfl⟩
theorem conv_fu (Z d : Nat) (h : floatToIntVal .f64 Z .u64 = some (d : Int)) (w : World) : (convert 46 109 (.float .f64 Z)).run Tryz.prog w = .ok (.int .u64 (d : Int)) w :=
  run_convert_float_int (P := Tryz.prog) w 46 109 .f64 .u64 Z (d : Int) (by rw [Tryz.underlying46]; rfl) Tryz.underlying109 h
set_option maxHeartbeats 1000000 in
/-- a number as a whole one by a power of two -/
theorem pieces_any (X : Nat) (hX : X < 9218868437227405312) (w : World) :
    Calls Tryz.prog 130 #[.float .f64 X] w fun e w' => e = .returned (.tuple #[.int .u64 (ftM X : Nat), .int .i64 (ftE X - 52)]) ∧ w' = w := by
  have H1 := Lib.hid (fun W => Ldexp_of (fun w => ldexp_n 4607182418800017408 1 (-1022) (by decide) (by decide) (by decide) (by decide) (by decide) w) W)
  have hi := infW_eq
  by_cases hl : X < 4503599627370496
  · obtain ⟨e1, e2⟩ := ft_low hl
    rw [e1, e2]
    have d1 : (fo X 4503599627370496 == some .lt) = true := by rw [fo_lt_pos hX (by decide)]; exact decide_eq_true hl
    by_cases h0 : X = 0
    · subst h0
      have H2 := Lib.hid (fun W => Ldexp_of ldexp_0 W)
      have hcv := fun W => conv_fu 0 0 (by kernel_rfl) W
      clear hX hl e1 e2 hi
      go_enter Tryz.func130, Tryz.ntmps130
      go_wp2_with (first
        | (go_at_call 166; (with_reducible refine (H1.out _).mono ?_); rintro e w' ⟨rfl, rfl⟩)
        | (go_at_call 166; (with_reducible refine (H2.out _).mono ?_); rintro e w' ⟨rfl, rfl⟩))
      go_ret2
      exact ⟨rfl, rfl⟩
    · obtain ⟨-, u1, u2, -, -⟩ := up_val X (by omega) hl
      have H2 := Lib.hid (fun W => Ldexp_of (fun w => ldexp_s X (by omega) hl w) W)
      have hcv := fun W => conv_fu _ X (f2u _ X u2 u1 (by omega)) W
      obtain ⟨Z, hZ⟩ : ∃ Z, upW X + 1022 * 4503599627370496 = Z := ⟨_, rfl⟩
      rw [hZ] at H2 hcv
      clear hX hl e1 e2 hi u1 u2 hZ h0
      go_enter Tryz.func130, Tryz.ntmps130
      go_wp2_with (first
        | (go_at_call 166; (with_reducible refine (H1.out _).mono ?_); rintro e w' ⟨rfl, rfl⟩)
        | (go_at_call 166; (with_reducible refine (H2.out _).mono ?_); rintro e w' ⟨rfl, rfl⟩))
      go_ret2
      exact ⟨rfl, rfl⟩
  · have e2 := ft_high (show 4503599627370496 ≤ X by omega)
    have d1 : (fo X 4503599627370496 == some .lt) = false := by rw [fo_lt_pos hX (by decide)]; exact decide_eq_false hl
    obtain ⟨u1, u2⟩ := fr_val X (by omega)
    have hm := (ftM_pos X (by omega)).2
    have HF := Lib.hid (fun W => Frexp_of (fun w => frexp_n X (by omega) hX w) W)
    have H2 := Lib.hid (fun W => Ldexp_of (fun w => ldexp_n (1022 * 4503599627370496 + X % 4503599627370496) 1075 53 (by omega) (by omega) (by omega) (by decide) (by decide) w) W)
    rw [show (1022 * 4503599627370496 + X % 4503599627370496) % 4503599627370496 = X % 4503599627370496 by omega] at H2
    have hcv := fun W => conv_fu _ (ftM X) (f2u _ _ u2 u1 (by omega)) W
    rw [Nat.add_comm (X % 4503599627370496)] at hcv
    obtain ⟨Z, hZ⟩ : ∃ Z, 1075 * 4503599627370496 + X % 4503599627370496 = Z := ⟨_, rfl⟩
    obtain ⟨Y, hY⟩ : ∃ Y, 1022 * 4503599627370496 + X % 4503599627370496 = Y := ⟨_, rfl⟩
    obtain ⟨M, hM⟩ : ∃ M, ftM X = M := ⟨_, rfl⟩
    obtain ⟨q, hq⟩ : ∃ q, X / 4503599627370496 = q := ⟨_, rfl⟩
    rw [hZ] at H2 hcv
    rw [hY] at H2 HF
    rw [hM] at hcv ⊢
    rw [hq] at HF e2
    rw [e2]
    have q1 : (q : Int) ≤ 2046 := by omega
    have q0 : (0 : Int) ≤ (q : Int) := by omega
    clear hX hl e2 hi u1 u2 hZ hY hm hM hq
    go_enter Tryz.func130, Tryz.ntmps130
    go_wp2_with (first
      | (go_at_call 166; (with_reducible refine (H1.out _).mono ?_); rintro e w' ⟨rfl, rfl⟩)
      | (go_at_call 167; (with_reducible refine (HF.out _).mono ?_); rintro e w' ⟨rfl, rfl⟩)
      | (go_at_call 166; (with_reducible refine (H2.out _).mono ?_); rintro e w' ⟨rfl, rfl⟩))
    go_ret2
    refine ⟨?_, rfl⟩
    show Ending.returned (.tuple #[.int .u64 (M : Int), .int .i64 ((q : Int) - 1022 - 53)]) = _
    rw [show (q : Int) - 1022 - 53 = (q : Int) - 1075 by omega]
end Go.Proofs.YtcbgkbidgpemfaaGreatDoor.rg

/- burnishref16: the walks of Times, power and Compare: whole numbers digit by digit. Conditions: as each theorem states. -/
namespace Go.Proofs.YtcbgkbidgpemfaaGreatDoor.rg
open Go.RowKit

theorem u64Info : (Tryz.prog.info? 109).map (fun i => (i.zero, i.size, i.bytes)) = some (some (.int .u64 0), 1, 8) := by kernel_rfl
def uV (l : List Nat) : List Value := l.map fun d : Nat => Value.int .u64 (d : Int)
/-- the slice v reads as the digits l -/
def BigV (W : World) (v : Value) (l : List Nat) : Prop :=
  ∃ A c, v = .slice A l.length c ∧ (l ≠ [] → ∃ g, A = some ⟨g, 0, none⟩ ∧ g < W.heap.size ∧ ∀ j (h : j < l.length), W.cell? ⟨g, j, none⟩ = some (.int .u64 ((l[j] : Nat) : Int)))
theorem BigV.below {W W' : World} {v : Value} {l : List Nat} (h : BigV W v l) (hb : Below W.heap.size W W') : BigV W' v l := by
  obtain ⟨A, c, hv, hx⟩ := h
  refine ⟨A, c, hv, fun h0 => ?_⟩
  obtain ⟨g, hA, hg, hc⟩ := hx h0
  exact ⟨g, hA, by have := hb.size; omega, fun j hj => (hb.cell (p := ⟨g, j, none⟩) hg).trans (hc j hj)⟩
theorem BigV.of_own {W : World} {base : Nat} {v : Value} {ds : List Nat} (h : W.ownsRow base 109 1 v ds.length (uV ds)) : BigV W v ds := by
  rcases h.2 with ⟨rfl, hn⟩ | ⟨g, cap, cur, rfl, _, hgg, _⟩
  · exact ⟨_, _, by rw [hn], fun h0 => absurd (List.eq_nil_of_length_eq_zero hn) h0⟩
  · refine ⟨_, _, rfl, fun _ => ⟨g, rfl, (Array.getElem?_eq_some_iff.1 hgg).1, fun j hj => ?_⟩⟩
    have hc := h.cells (g := g) rfl j (.int .u64 ((ds[j] : Nat) : Int)) (by simp [uV, hj])
    have hadd : (⟨g, 0, none⟩ : Addr).add j = ⟨g, j, none⟩ := by unfold Addr.add; split <;> simp_all
    rw [hadd] at hc
    exact hc
theorem BigV.nil (W : World) (c : Nat) (A : Option Addr) : BigV W (.slice A 0 c) [] := ⟨A, c, rfl, fun h => absurd rfl h⟩
theorem cells_new1 (W : World) (u : Value) (t : TypeId) : ∀ j v, [u][j]? = some v → (W.alloc (.cells #[u] t)).cell? ((⟨W.heap.size, 0, none⟩ : Addr).add j) = some v := by
  intro j v hv
  have hadd : (⟨W.heap.size, 0, none⟩ : Addr).add j = ⟨W.heap.size, j, none⟩ := by unfold Addr.add; split <;> simp_all
  rw [hadd, cell_of_row _ _ j _ _ _ (heap_alloc_new W _)]
  simpa using hv
theorem dig_len3 (n : Nat) (h : n < 18446744073709551616) : (dig n).length ≤ 3 := by
  by_cases h0 : n = 0
  · subst h0; rw [dig_zero]; decide
  · rw [dig_pos h0, List.length_cons]
    have := dig_len (n / 1000000000) (by omega)
    omega
set_option maxRecDepth 100000 in
set_option maxHeartbeats 1000000 in
theorem times_any (v : Value) (l : List Nat) (by_ more : Nat) (w : World) (hv : BigV w v l) (ho : BOk l) (hb : by_ ≤ 10000000000) (hl : l.length ≤ 100000) (hm : l ≠ [] → more ≤ 10000000000) (hm2 : more < 18446744073709551616) :
    Calls Tryz.prog 165 #[v, .int .u64 by_, .int .u64 more] w fun e w' => ∃ v', e = .returned v' ∧ BigV w' v' (timesL by_ l more) ∧ Below w.heap.size w w' := by
  obtain ⟨A, c, rfl, hx⟩ := hv
  obtain ⟨i0, hi, hz0, hz1, hz2⟩ := info_parts u64Info
  have HX := Lib.hid hx
  have HO := Lib.hid ho
  have HM := Lib.hid hm
  clear hx ho hm
  go_enter Tryz.func165, Tryz.ntmps165
  go_wp2_with fail
  go_loopw [2, 7, 8] (fun sm so si wr => ∃ (i m : Nat) (ds : List Nat), i ≤ l.length ∧ ds.length = i ∧ si = .int .i64 i ∧ sm = .int .u64 m ∧ wr.ownsRow w.heap.size 109 1 so ds.length (uV ds) ∧ Below w.heap.size w wr ∧
    timesL by_ l more = ds ++ timesL by_ (l.drop i) m ∧ (i < l.length → m ≤ 10000000000) ∧ m < 18446744073709551616) (fun _ _ si _ => l.length - (intOf si).toNat)
  case atStart => exact ⟨0, more, [], Nat.zero_le _, rfl, rfl, rfl, ⟨rfl, .inl ⟨rfl, rfl⟩⟩, Below.refl _ _, rfl, fun h => HM.out (by intro e; subst e; simp at h), hm2⟩
  case round =>
    obtain ⟨i, m, ds, hil, hds, rfl, rfl, hown, hB, heq, hmi, hm64⟩ := hrel
    obtain ⟨wo, rfl⟩ : ∃ wo : World, wo = wr := ⟨_, rfl⟩
    have HB := Lib.hid hB
    have HE := Lib.hid heq
    clear hB heq
    by_cases hlt : i < l.length
    · obtain ⟨g, rfl, hg, hc⟩ := HX.out (by intro e; subst e; simp at hlt)
      have hcell := (HB.out.cell (p := ⟨g, i, none⟩) hg).trans (hc i hlt)
      have hd9 := HO.out l[i] (List.getElem_mem hlt)
      have hmi' := hmi hlt
      have heq2 := HE.out
      rw [List.drop_eq_getElem_cons hlt] at heq2
      obtain ⟨d, hd⟩ : ∃ d, l[i] = d := ⟨_, rfl⟩
      rw [hd] at hcell hd9 heq2
      obtain ⟨P, hP⟩ : ∃ P, d * by_ = P := ⟨_, rfl⟩
      have hPb : P ≤ 9999999990000000000 := by
        rw [← hP]
        exact Nat.mul_le_mul (show d ≤ 999999999 by omega) hb
      have hPi : (d : Int) * (by_ : Int) = (P : Int) := by rw [← hP]; simp
      obtain ⟨X, hX⟩ : ∃ X, P + m = X := ⟨_, rfl⟩
      have hXi : (P : Int) + (m : Int) = (X : Int) := by omega
      have e2 : timesL by_ (d :: l.drop (i + 1)) m = X % 1000000000 :: timesL by_ (l.drop (i + 1)) (X / 1000000000) := by
        show (d * by_ + m) % 1000000000 :: timesL by_ (l.drop (i + 1)) ((d * by_ + m) / 1000000000) = _
        rw [hP, hX]
      rw [e2] at heq2
      have HQ := Lib.hid heq2
      have hX2 : X < 18446744073709551616 := by omega
      obtain ⟨R, hR⟩ : ∃ R, X % 1000000000 = R := ⟨_, rfl⟩
      obtain ⟨D, hD⟩ : ∃ D, X / 1000000000 = D := ⟨_, rfl⟩
      have hXm : (X : Int) % 1000000000 = (R : Int) := by omega
      have hXd : (X : Int) / 1000000000 = (D : Int) := by omega
      have hXd9 : D ≤ 10000000000 := by omega
      rw [hR, hD] at HQ
      have hli : (l.length : Int) ≤ 100000 := by omega
      have hlt' : (i : Int) < (l.length : Int) := by omega
      clear hc hd heq2 e2 hP hX hmi HE hR hD
      go_wp2_with (at_builtin; go_loud (refine wpList_append_own _ rfl _ _ 173 rfl w.heap.size 109 i0 _ 1 8 Tryz.underlying173 hi hz0 hz1 hz2 rfl (by decide) _ _ _ rfl (hown.alloc _) ⟨wo.heap.size, 0, none⟩ 1 1 [.int .u64 ((R : Nat) : Int)] rfl rfl (cells_new1 _ _ _) (by simp [Value.oneCell']) (by unfold maxLen; omega) (by omega) (by have := HB.out.size; simp; omega) ?_); intro v' w1 hown' hgrow _)
      have hB' := (HB.out.alloc HB.out.size (.cells #[.int .u64 ((R : Nat) : Int)] 109)).grown hgrow (by have := HB.out.size; simp; omega) (fun j ej => (hown.lt j ej).1)
      refine ⟨⟨i + 1, D, ds ++ [R], by omega, by simp [hds], by go_num, by first | rfl | rw [hXd], ?_, hB', ?_, fun _ => hXd9, by omega⟩, by simp only [intOf]; omega⟩
      · rw [List.length_append]
        have : uV (ds ++ [R]) = uV ds ++ [.int .u64 ((R : Nat) : Int)] := by simp [uV]
        rw [this]
        exact hown'
      · rw [HQ.out]; simp
    · have hie : i = l.length := by omega
      have heq2 := HE.out
      rw [List.drop_eq_nil_of_le (by omega)] at heq2
      have HQ := Lib.hid (show timesL by_ l more = ds ++ dig m from heq2)
      clear heq2 HE hmi
      have hlt' : ¬ (i : Int) < (l.length : Int) := by omega
      have hdsl : ds.length + 3 ≤ 100003 := by omega
      clear hil hds hlt
      go_wp2_with fail
      have H3 := Lib.hid (show (dig m).length ≤ 3 from dig_len3 m hm64)
      obtain ⟨ml, hml⟩ : ∃ ml, (dig m).length = ml := ⟨_, rfl⟩
      go_loopw [2, 7] (fun sm so wr => ∃ (m : Nat) (ds : List Nat), ds.length + (dig m).length ≤ 100003 ∧ sm = .int .u64 m ∧ wr.ownsRow w.heap.size 109 1 so ds.length (uV ds) ∧ Below w.heap.size w wr ∧
        timesL by_ l more = ds ++ dig m ∧ m < 18446744073709551616) (fun sm _ _ => (intOf sm).toNat)
      case atStart => exact ⟨m, ds, by have := H3.out; omega, rfl, hown, HB.out, HQ.out, hm64⟩
      case round =>
        clear hown HB HQ H3 hml hm64 hdsl
        obtain ⟨m, ds, hdl, rfl, hown, hB, heq, hm64⟩ := hrel
        obtain ⟨wq, rfl⟩ : ∃ wq : World, wq = wr := ⟨_, rfl⟩
        have HB := Lib.hid hB
        by_cases hm0 : m = 0
        · subst hm0
          rw [dig_zero, List.append_nil] at heq
          have HR := Lib.hid (BigV.of_own hown)
          have HQ := Lib.hid heq
          clear hB heq hown hdl
          go_wp2_with fail
          go_ret
          exact ⟨_, rfl, by rw [HQ.out]; exact HR.out, HB.out⟩
        · rw [dig_pos hm0] at heq hdl
          have HQ := Lib.hid heq
          rw [List.length_cons] at hdl
          have HD := Lib.hid hdl
          have hd0 : ds.length ≤ 100002 := by omega
          have hmp : (0 : Int) < (m : Int) := by omega
          obtain ⟨R, hR⟩ : ∃ R, m % 1000000000 = R := ⟨_, rfl⟩
          obtain ⟨D, hD⟩ : ∃ D, m / 1000000000 = D := ⟨_, rfl⟩
          have hXm : (m : Int) % 1000000000 = (R : Int) := by omega
          have hXd : (m : Int) / 1000000000 = (D : Int) := by omega
          have hDm : D < m := by omega
          rw [hR, hD] at HQ
          rw [hD] at HD
          clear hB heq hdl hR hD hm0
          go_wp2_with (at_builtin; go_loud (refine wpList_append_own _ rfl _ _ 173 rfl w.heap.size 109 i0 _ 1 8 Tryz.underlying173 hi hz0 hz1 hz2 rfl (by decide) _ _ _ rfl (hown.alloc _) ⟨wq.heap.size, 0, none⟩ 1 1 [.int .u64 ((R : Nat) : Int)] rfl rfl (cells_new1 _ _ _) (by simp [Value.oneCell']) (by unfold maxLen; omega) (by omega) (by have := HB.out.size; simp; omega) ?_); intro v' w1 hown' hgrow _)
          have hB' := (HB.out.alloc HB.out.size (.cells #[.int .u64 ((R : Nat) : Int)] 109)).grown hgrow (by have := HB.out.size; simp; omega) (fun j ej => (hown.lt j ej).1)
          refine ⟨⟨D, ds ++ [R], by rw [List.length_append]; have := HD.out; simp only [List.length_singleton]; omega, by first | rfl | rw [hXd], ?_, hB', ?_, by omega⟩, by simp only [intOf]; omega⟩
          · rw [List.length_append]
            have : uV (ds ++ [R]) = uV ds ++ [.int .u64 ((R : Nat) : Int)] := by simp [uV]
            rw [this]
            exact hown'
          · rw [HQ.out]; simp
end Go.Proofs.YtcbgkbidgpemfaaGreatDoor.rg
