/- The walk of strconv's atof64 at a decimal. Conditions: as each theorem states. -/
import Derived.Test.YtbjengfoaobdbaaGreatDoorRdF
import Derived.Test.YtbjengfoaobdbaaGreatDoorRdG
namespace Go.Proofs.YtbjengfoaobdbaaGreatDoor.rdf
open Go.RowKit
open Go.Proofs.YtbjengfoaobdbaaGreatDoor.bsw
open Go.Proofs.YtbjengfoaobdbaaGreatDoor.prnw
open Go.Proofs.YtbjengfoaobdbaaGreatDoor.dcw
open Go.Proofs.YtbjengfoaobdbaaGreatDoor.dmx
open Go.Proofs.YtbjengfoaobdbaaGreatDoor.fpm
open Go.Proofs.YtbjengfoaobdbaaGreatDoor.flatm
open Go.Proofs.YtbjengfoaobdbaaGreatDoor.nodew

attribute [local go_sem] ifrombits_run un_neg fo_eq
/-- equal words of one sign -/
theorem fo_eqw (s : Bool) (X Y : Nat) (hX : X ≤ infW) (hY : Y ≤ infW) : (fo (sgn s X) (sgn s Y) == some .eq) = decide (X = Y) := by
  have hi := infW_eq
  have hmod : ∀ Z, Z ≤ infW → sgn s Z % 9223372036854775808 = Z := fun Z hZ => by
    unfold sgn
    split <;> omega
  have hinf : Ieee.Format.read Ieee.double (sgn s infW) = .infinity s := by cases s <;> kernel_rfl
  by_cases hx : X < infW
  · by_cases hy : Y < infW
    · rw [fo_sv (by rw [hmod X hX]; omega) (by rw [hmod Y hY]; omega), sv_sgn s X hx, sv_sgn s Y hy]
      by_cases he : X = Y
      · rw [decide_eq_true he, he]
        simp
      · have hv : valR X ≠ valR Y := fun h => he (val_inj h)
        rw [decide_eq_false he, Int.compare_eq_ite_lt]
        cases s
        · rw [show (if (false : Bool) = true then -(valR X : Int) else (valR X : Int)) = (valR X : Int) from rfl, show (if (false : Bool) = true then -(valR Y : Int) else (valR Y : Int)) = (valR Y : Int) from rfl]
          split
          · rfl
          · rw [if_pos (by omega)]; rfl
        · rw [show (if (true : Bool) = true then -(valR X : Int) else (valR X : Int)) = -(valR X : Int) from rfl, show (if (true : Bool) = true then -(valR Y : Int) else (valR Y : Int)) = -(valR Y : Int) from rfl]
          split
          · rfl
          · rw [if_pos (by omega)]; rfl
    · have e : Y = infW := by omega
      subst e
      obtain ⟨m, a, h1, _⟩ := word_read s X hx
      rw [← sgn_word] at h1
      rw [decide_eq_false (by omega)]
      show (Ieee.Datum.order (Ieee.Format.read Ieee.double (sgn s X)) (Ieee.Format.read Ieee.double (sgn s infW)) == some .eq) = false
      rw [h1, hinf]
      cases s <;> rfl
  · have e : X = infW := by omega
    subst e
    by_cases hy : Y < infW
    · obtain ⟨m, a, h1, _⟩ := word_read s Y hy
      rw [← sgn_word] at h1
      rw [decide_eq_false (by omega)]
      show (Ieee.Datum.order (Ieee.Format.read Ieee.double (sgn s infW)) (Ieee.Format.read Ieee.double (sgn s Y)) == some .eq) = false
      rw [h1, hinf]
      cases s <;> rfl
    · have e : Y = infW := by omega
      subst e
      rw [decide_eq_true rfl]
      show (Ieee.Datum.order (Ieee.Format.read Ieee.double (sgn s infW)) (Ieee.Format.read Ieee.double (sgn s infW)) == some .eq) = true
      rw [hinf]
      cases s <;> rfl

/-- the nearest float of N times ten to P -/
def nx (N : Nat) (P : Int) : Nat := nearX (N * 10 ^ P.toNat) (10 ^ (-P).toNat)
theorem ten_pos (k : Nat) : 0 < 10 ^ k := Nat.pow_pos (by decide)
theorem nx_mono {M N : Nat} (h : M ≤ N) (P : Int) : nx M P ≤ nx N P := near_le (ten_pos _) (ten_pos _) (Nat.mul_le_mul_right _ (Nat.mul_le_mul_right _ h))
theorem nx_shift (N k : Nat) (P : Int) : nx (N * 10 ^ k) P = nx N (P + k) := by
  refine near_same (ten_pos _) (ten_pos _) ?_
  have e : P.toNat + k + (-(P + k)).toNat = (P + k).toNat + (-P).toNat := by omega
  calc N * 10 ^ k * 10 ^ P.toNat * 10 ^ (-(P + k)).toNat = N * 10 ^ (P.toNat + k + (-(P + k)).toNat) := by rw [Nat.pow_add, Nat.pow_add]; ac_rfl
    _ = N * 10 ^ ((P + k).toNat + (-P).toNat) := by rw [e]
    _ = N * 10 ^ (P + k).toNat * 10 ^ (-P).toNat := by rw [Nat.pow_add]; ac_rfl
def tenF : Nat := 346
theorem tenF_eq : tenF = 346 := rfl
theorem nx_zero (P : Int) : nx 0 P = 0 := by
  unfold nx
  rw [Nat.zero_mul]
  refine near_low (ten_pos _) ?_
  rw [Nat.zero_mul]
  exact Nat.zero_le _
theorem two_ten : 2 ^ twoC ≤ 10 ^ tenA := by decide +kernel
theorem nx_big {N : Nat} (h : 0 < N) {P : Int} (hP : 310 < P) : infX ≤ nx N P := by
  unfold nx
  rw [show (-P).toNat = 0 by omega, Nat.pow_zero]
  refine near_big (by decide) ?_
  rw [Nat.mul_one]
  refine Nat.le_trans two_ten ?_
  have h1 : (10 : Nat) ^ tenA ≤ 10 ^ P.toNat := Nat.pow_le_pow_right (by decide) (by have := tenA_eq; omega)
  exact Nat.le_trans h1 (Nat.le_mul_of_pos_left _ h)
theorem low_ten : 10 ^ 20 * 2 ^ lowE ≤ 10 ^ tenF := by decide +kernel
theorem nx_low {N : Nat} (h : N ≤ 10 ^ 20) {P : Int} (hP : P < -345) : nx N P = 0 := by
  unfold nx
  rw [show P.toNat = 0 by omega, Nat.pow_zero, Nat.mul_one]
  refine near_low (ten_pos _) ?_
  have h1 : (10 : Nat) ^ tenF ≤ 10 ^ (-P).toNat := Nat.pow_le_pow_right (by decide) (by have := tenF_eq; omega)
  exact Nat.le_trans (Nat.le_trans (Nat.mul_le_mul_right _ h) low_ten) h1
/-- by the slow road -/
theorem nx_val (N n : Nat) (dp : Int) (h : (n : Int) ≤ dp + 2000) : nearX (val N n dp) one = nx N (dp - n) := by
  refine near_same one_pos (ten_pos _) ?_
  unfold val one
  have ho := oneE_eq
  have e : (dp - (n : Int) + 2000).toNat + (-(dp - (n : Int))).toNat = (dp - (n : Int)).toNat + oneE := by omega
  rw [Nat.mul_assoc, ← Nat.pow_add, e, Nat.pow_add, Nat.mul_assoc]
/-- an exponent has three digits at most -/
theorem rf_ex {s : ByteArray} {neg : Bool} {x : MS} {rest : List UInt8} {ex : Int} (h : RfOk s neg x rest ex) : -1000 ≤ ex ∧ ex ≤ 1000 := by
  rcases h.re with ⟨_, r⟩ | ⟨r1, r2⟩
  · rw [r]
    decide
  · rw [r2]
    cases rest with
    | nil => exact absurd r1 (by decide)
    | cons c l =>
      unfold expB at r1
      rw [Bool.and_eq_true] at r1
      have h2 := r1.2
      rw [List.drop_succ_cons, List.drop_zero]
      simp only [Bool.and_eq_true, decide_eq_true_eq] at h2
      have key : ∀ r : List UInt8, dgs r ≤ 3 → dgs r = r.length → eL r 0 < 1000 := fun r a b => by
        have h3 := eL_snoc_bd r 0 (dgs_all r b)
        have h4 : (10 : Nat) ^ r.length ≤ 10 ^ 3 := Nat.pow_le_pow_right (by decide) (by omega)
        omega
      unfold exV
      by_cases h45 : l.head? = some 45
      · rw [if_pos (.inr h45)] at h2
        have := key _ h2.1.2 h2.2
        rw [if_pos h45]
        omega
      · rw [if_neg h45]
        by_cases h43 : l.head? = some 43
        · rw [if_pos (.inl h43)] at h2
          have := key _ h2.1.2 h2.2
          rw [if_pos h43]
          omega
        · rw [if_neg (fun h => h.elim h43 h45)] at h2
          have := key _ h2.1.2 h2.2
          rw [if_neg h43]
          omega

/-- an empty decimal -/
def decZ : Array Value := (List.replicate 800 (Value.int .u8 0) ++ [Value.int .i64 0, Value.int .i64 0, Value.bool false, Value.bool false]).toArray
theorem alloc_dec (w : World) : (Instr.alloc 159 true (.tuple #[])).run Tryz.prog w = .ok (.pointer (some ⟨w.heap.size, 0, none⟩)) (w.alloc (.cells decZ 159)) := by
  kernel_rfl
theorem dec_at (w : World) : SeW (w.alloc (.cells decZ 159)) w.heap.size 0 0 0 false (w.alloc (.cells decZ 159)) := by
  refine ⟨fun _ => 0, ⟨decZ, heap_at w _ _ rfl, fun j hj => ?_, by kernel_rfl, by kernel_rfl, by kernel_rfl, by kernel_rfl⟩, fun j hj => absurd hj (Nat.not_lt_zero _), ⟨rfl, rfl, rfl, Nat.le_refl _, fun _ _ _ => rfl⟩⟩
  unfold decZ
  rw [List.getElem?_toArray, List.getElem?_append_left (by rw [List.length_replicate]; exact hj), List.getElem?_replicate, if_pos hj]
  rfl

/-- what reading reads, in blocks below B -/
structure NE (B : Nat) (w : World) : Prop where
  ev : EV B w
  ft : FT B w
  pt : PT hiT loT w
  pb : 15 < B
  ob : 7 < B
  op : w.cell? ⟨7, 0, none⟩ = some (.bool true)
  lt : B ≤ w.heap.size
theorem NE.below {B : Nat} {w w' : World} (h : NE B w) (hb : Below w.heap.size w w') : NE B w' := by
  have hk : ∀ (p : Addr) (v : Value), p.block < B → w.cell? p = some v → w'.cell? p = some v := fun p v hp hv => (hb.cell (Nat.lt_of_lt_of_le hp h.lt)).trans hv
  exact ⟨h.ev.keep hk, h.ft.keep hk, fun i hi => by
    obtain ⟨a1, a2, a3, a4⟩ := h.pt i hi
    exact ⟨a1, a2, hk _ _ h.pb a3, hk _ _ h.pb a4⟩, h.pb, h.ob, hk _ _ h.ob h.op, Nat.le_trans h.lt hb.size⟩
theorem ml_ok : ∀ (l : List UInt8) (n : Nat) (y x : MS) (rest : List UInt8), MOk n y → mL l y = (x, rest) → MOk (n + l.length) x
  | [], n, y, x, rest, h, hm => by
    unfold mL at hm
    injection hm with e1 e2
    rw [← e1]
    exact h
  | c :: l, n, y, x, rest, h, hm => by
    have stop : ∀ z : MS × List UInt8, (y, c :: l) = (x, rest) → MOk (n + (c :: l).length) x := fun _ e => by
      injection e with e1 e2
      rw [← e1]
      exact mok_mono h (Nat.le_add_right _ _)
    have hl : n + (c :: l).length = n + 1 + l.length := by rw [List.length_cons]; omega
    unfold mL at hm
    split at hm
    · split at hm
      · exact stop (x, rest) hm
      · rw [hl]
        exact ml_ok l (n + 1) _ x rest (mok_dot h) hm
    · split at hm
      · rename_i hd
        rw [hl]
        exact ml_ok l (n + 1) _ x rest (mok_dg h c hd) hm
      · exact stop (x, rest) hm
theorem rf_ok {s : ByteArray} {neg : Bool} {x : MS} {rest : List UInt8} {ex : Int} (h : RfOk s neg x rest ex) : MOk 60 x := by
  refine mok_mono (ml_ok _ 0 ms0 x rest mok0 h.run) ?_
  have := h.sz
  rw [List.length_drop]
  simp
  omega
/-- the digits that are read, and what is left out -/
theorem rf_near {x : MS} {n : Nat} (h : MOk n x) (D : Int) : (x.m = 0 → x.N = 0) ∧ (∀ p : Int, p = D - x.nm → nx x.m p ≤ nx x.N (D - x.nd) ∧ nx x.N (D - x.nd) ≤ nx (x.m + 1) p ∧ (x.tr = false → nx x.N (D - x.nd) = nx x.m p)) := by
  obtain ⟨k, hk⟩ : ∃ k, x.nd - x.nm = k := ⟨_, rfl⟩
  have hq := h.q
  have ht := h.t
  have hmn := h.mn
  rw [hk] at hq ht
  have hp := ten_pos k
  refine ⟨fun h0 => ?_, fun p hp2 => ?_⟩
  · by_cases hk0 : k = 0
    · rw [hk0, Nat.pow_zero, Nat.div_one, h0] at hq
      exact hq.symm
    · have h19 : ¬ x.nm < 19 := fun hl => by have := h.full hl; omega
      have h4 := h.lo (by omega)
      have h5 : 10 ^ k ≤ 10 ^ (x.nd - 1) := Nat.pow_le_pow_right (by decide) (by omega)
      have h6 : 1 ≤ x.N / 10 ^ k := by
        rw [Nat.le_div_iff_mul_le hp, Nat.one_mul]
        omega
      omega
  · have hdm := Nat.div_add_mod x.N (10 ^ k)
    have hml := Nat.mod_lt x.N hp
    rw [← hq, Nat.mul_comm] at hdm
    have e : ∀ M, nx (M * 10 ^ k) (D - x.nd) = nx M p := fun M => by
      rw [nx_shift, hp2]
      congr 1
      omega
    rw [← e x.m, ← e (x.m + 1)]
    refine ⟨nx_mono (by omega) _, nx_mono ?_ _, fun h0 => ?_⟩
    · rw [Nat.add_mul, Nat.one_mul]
      omega
    · rw [h0] at ht
      have hz : x.N % 10 ^ k = 0 := by
        have := of_decide_eq_false ht.symm
        exact Decidable.not_not.1 this
      rw [hz, Nat.add_zero] at hdm
      rw [hdm]
def atV (neg : Bool) (X n : Nat) : Value := .tuple #[.float .f64 (sgn neg (min X infX)), .int .i64 (n : Nat), if infX ≤ X then .iface 112 (.int .i64 1) else .nilIface]
def AtPost (w : World) (neg : Bool) (X n : Nat) (e : Ending) (w' : World) : Prop := e = .returned (atV neg X n) ∧ Below w.heap.size w w'
theorem exec_alloc_dec {o : Oper} (ho : o.op = .alloc 159) (a : Act) (w : World) : (execOp a.eval o).run Tryz.prog w = .ok (.value (.pointer (some ⟨w.heap.size, 0, none⟩))) (w.alloc (.cells decZ 159)) := by
  unfold execOp
  simp only [ho, Sem.run_bind, alloc_dec, Result.andThen_ok, Sem.run_pure]
theorem pk_parts (neg : Bool) (X n : Nat) : ∃ F E, pkV neg X = .tuple #[.float .f64 F, E] ∧ atV neg X n = .tuple #[.float .f64 F, .int .i64 (n : Nat), E] ∧ F = sgn neg (min X infX) := ⟨_, _, rfl, rfl, rfl⟩
theorem at_same (neg : Bool) (X Y n : Nat) (h1 : min X infX = min Y infX) : atV neg X n = atV neg Y n := by
  unfold atV
  rw [h1]
  by_cases h : infX ≤ X
  · rw [if_pos h, if_pos (by omega)]
  · rw [if_neg h, if_neg (by omega)]
set_option maxRecDepth 100000 in
set_option maxHeartbeats 4000000 in
theorem atof_any (B : Nat) (s : ByteArray) (neg : Bool) (x : MS) (rest : List UInt8) (ex : Int) (h : RfOk s neg x rest ex) (hnd : x.nd ≤ 30) (w : World) (hN : NE B w) :
    Calls Tryz.prog 116 #[.string s] w (AtPost w neg (nx x.N (dpX x + ex - x.nd)) s.size) := by
  have CS := fun W => special_any s neg x rest ex h W
  obtain ⟨p, hp⟩ : ∃ p, rfE x ex = p := ⟨_, rfl⟩
  have CR : ∀ W, Calls Tryz.prog 137 #[.string s] W fun e w' => e = .returned (.tuple #[.int .u64 ((x.m : Nat) : Int), .int .i64 p, .bool neg, .bool x.tr, .bool false, .int .i64 ((s.size : Nat) : Int), .bool true]) ∧ w' = W := fun W => by
    have := readFloat_any s neg x rest ex h W
    unfold RfPost at this
    rw [hp] at this
    exact this
  have CB := fun W => b2u neg W
  have hsh : ∀ b : Nat, b = (if neg then 1 else 0) → IntKind.u64.wrap ((b : Int) * 9223372036854775808) = ((sgn neg 0 : Nat) : Int) := fun b hb => by
    subst hb
    cases neg <;> decide +kernel
  obtain ⟨nb, hnb⟩ : ∃ nb : Nat, nb = if neg then 1 else 0 := ⟨_, rfl⟩
  have hsh2 := hsh nb hnb
  have CB2 : ∀ W, Calls Tryz.prog 145 #[.bool neg] W (Same W (.int .u64 ((nb : Nat) : Int))) := fun W => by
    have := CB W
    rw [hnb]
    cases neg <;> exact this
  have nb0 : (0 : Int) ≤ (nb : Int) := by omega
  have nb1 : (nb : Int) ≤ 1 := by rw [hnb]; split <;> decide
  have hC := Lib.hid (And.intro CS (And.intro CR CB2))
  have hMO := rf_ok h
  have o1 := hN.op
  clear CS CR CB CB2 hsh hnb
  obtain ⟨X, hX⟩ : ∃ X, nx x.N (dpX x + ex - x.nd) = X := ⟨_, rfl⟩
  rw [hX]
  go_enter Tryz.func116, Tryz.ntmps116
  go_upto_region 12 with (first | (go_at_call 136; (with_reducible refine (hC.out.1 _).mono ?_); rintro e w' ⟨rfl, hw'⟩; obtain rfl := hw'.symm) | (go_at_call 137; (with_reducible refine (hC.out.2.1 _).mono ?_); rintro e w' ⟨rfl, hw'⟩; obtain rfl := hw'.symm) | (go_at_call 145; (with_reducible refine (hC.out.2.2 _).mono ?_); rintro e w' ⟨rfl, hw'⟩; obtain rfl := hw'.symm))
  obtain ⟨n1, n2⟩ := rf_near hMO (dpX x + ex)
  rw [hX] at n2
  have hpm : x.m ≠ 0 → p = dpX x + ex - x.nm := fun h0 => by
    rw [← hp]
    unfold rfE
    rw [if_neg h0]
    rfl
  have bS : ∀ b : Nat, sgn neg 0 = b → bits BinOp.or IntKind.u64 (b : Int) 0 = (b : Int) ∧ bits BinOp.or IntKind.u64 (b : Int) 9218868437227405312 = ((sgn neg infX : Nat) : Int) := fun b hb => by
    subst hb
    cases neg <;> decide +kernel
  obtain ⟨S0, hS0⟩ : ∃ S0, sgn neg 0 = S0 := ⟨_, rfl⟩
  obtain ⟨bs1, bs2⟩ := bS S0 hS0
  obtain ⟨SI, hSI⟩ : ∃ SI, sgn neg infX = SI := ⟨_, rfl⟩
  rw [hSI] at bs2
  rw [hS0]
  have HSg := Lib.hid (And.intro hS0 hSI)
  clear hC bS hSI
  by_cases hm0 : x.m = 0
  · have hX0 : X = 0 := by rw [← hX, n1 hm0, nx_zero]
    have hV : atV neg X s.size = .tuple #[.float .f64 S0, .int .i64 (s.size : Nat), .nilIface] := by
      rw [hX0, ← hS0]
      unfold atV
      rw [Nat.min_eq_left (Nat.zero_le _), if_neg (by decide)]
    have g1 : ((x.m : Int) == 0) = true := by rw [hm0]; rfl
    have HV := Lib.hid hV
    clear n1 n2 hpm hX hX0 hV hMO hS0 hN h hp hsh2
    go_wp2_with fail
    go_ret3
    exact ⟨congrArg Ending.returned HV.out.symm, Below.refl _ _⟩
  have g1 : ((x.m : Int) == 0) = false := by rw [beq_eq_false_iff_ne]; omega
  have hpp := hpm hm0
  obtain ⟨l1, l2, l3⟩ := n2 p hpp
  have hm19 : x.m < 10 ^ 19 := Nat.lt_of_lt_of_le hMO.m (Nat.pow_le_pow_right (by decide) hMO.nm)
  have h19 : (10 : Nat) ^ 19 = 10000000000000000000 := by decide
  rw [h19] at hm19
  by_cases hbig : 310 < p
  · have hXb : infX ≤ X := Nat.le_trans (nx_big (by omega) hbig) l1
    have hV : atV neg X s.size = .tuple #[.float .f64 SI, .int .i64 (s.size : Nat), .iface 112 (.int .i64 1)] := by
      unfold atV
      rw [Nat.min_eq_right hXb, if_pos hXb, HSg.out.2]
    have g2 : decide (310 < p) = true := decide_eq_true hbig
    have HV := Lib.hid hV
    clear n1 n2 hpm hX hXb hV hMO hS0 hN h hp hsh2 l1 l2 l3 hbig hpp
    go_wp2_with fail
    go_ret3
    exact ⟨congrArg Ending.returned HV.out.symm, Below.refl _ _⟩
  have g2 : decide (310 < p) = false := decide_eq_false hbig
  by_cases hlow : p < -345
  · have hX0 : X = 0 := by
      have := nx_low (N := x.m + 1) (P := p) (by omega) hlow
      omega
    have hV : atV neg X s.size = .tuple #[.float .f64 S0, .int .i64 (s.size : Nat), .nilIface] := by
      rw [hX0, ← hS0]
      unfold atV
      rw [Nat.min_eq_left (Nat.zero_le _), if_neg (by decide)]
    have g3 : decide (p < -345) = true := decide_eq_true hlow
    have HV := Lib.hid hV
    clear n1 n2 hpm hX hX0 hV hMO hS0 hN h hp hsh2 l1 l2 l3 hbig hpp hlow
    go_wp2_with fail
    go_ret3
    exact ⟨congrArg Ending.returned HV.out.symm, Below.refl _ _⟩
  have g3 : decide (p < -345) = false := decide_eq_false hlow
  go_upto_region 18 with (fail)
  obtain ⟨i, hi⟩ : ∃ i : Nat, p = (i : Int) - 348 := ⟨(p + 348).toNat, by omega⟩
  have CP : ∀ (d : Nat) (W : World), 0 < d → d < 18446744073709551616 → NE B W → Calls Tryz.prog 148 #[.int .u64 (d : Nat), .int .i64 p, .int .u64 ((S0 : Nat) : Int)] W (PfPost W (pkV neg (nx d p))) := fun d W hd0 hd hNW => by
    have := pf64_any neg d i hd0 hd (by omega) (by omega) W hNW.pt (Nat.lt_of_lt_of_le hNW.pb hNW.lt)
    rw [← hi, hS0] at this
    exact this
  clear hi
  have CE : ∀ W, NE B W → Calls Tryz.prog 147 #[.int .u64 ((x.m : Nat) : Int), .int .i64 p, .bool neg] W fun e w' => w' = W ∧ ∃ F b, e = .returned (.tuple #[.float .f64 F, .bool b]) ∧ (b = true → nx x.m p < infW ∧ F = sgn neg (nx x.m p)) := fun W hNW => by
    refine (exact_any B neg x.m p (by omega) (by omega) (by omega) (by omega) W hNW.ev hNW.ft).mono ?_
    rintro e w' ⟨h1, ⟨G, h2⟩ | ⟨h2, h3⟩⟩
    · exact ⟨h1, G, false, h2, fun h => by cases h⟩
    · exact ⟨h1, _, true, h3, fun _ => ⟨h2, rfl⟩⟩
  have hex : s.extract 0 s.size = s := by
    apply ByteArray.ext
    rw [ByteArray.data_extract]
    simp
  have HN := Lib.hid hN
  have HCP := Lib.hid (And.intro CP CE)
  obtain ⟨Y, hY⟩ : ∃ Y, nx x.m p = Y := ⟨_, rfl⟩
  rw [hY] at l1 l3
  obtain ⟨F, E, k1, k2, k3⟩ := pk_parts neg Y s.size
  -- the fast road
  have HF1 : ∀ W, NE B W → Calls Tryz.prog 148 #[.int .u64 ((x.m : Nat) : Int), .int .i64 p, .int .u64 ((S0 : Nat) : Int)] W fun e w' => e = .returned (.tuple #[.float .f64 F, E]) ∧ Below W.heap.size W w' := fun W hNW => by
    have := CP x.m W (by omega) (by omega) hNW
    rw [hY, k1] at this
    exact this
  cases htr : x.tr with
  | false =>
    have hXY := l3 htr
    have HCE := Lib.hid (CE w hN)
    have HV := Lib.hid (And.intro (And.intro hXY k2) (And.intro hY k3))
    have HF := Lib.hid HF1
    clear CP CE HF1 hXY k1 k2 k3 l1 l2 l3 hm19 hMO hS0 hX hY n1 n2 hpm hpp hN h hp HCP bs1 bs2 hex hsh2
    go_upto_region 20 with (go_at_call 147; (with_reducible refine HCE.out.mono ?_); rintro e w' ⟨hw', G, b, rfl, hb⟩; obtain rfl := hw'.symm; have HG := Lib.hid hb; clear hb)
    cases b with
    | true =>
      go_wp2_with fail
      go_ret3
      obtain ⟨⟨v1, v2⟩, v3, v4⟩ := HV.out
      obtain ⟨b1, b2⟩ : nx x.m p < infW ∧ G = sgn neg (nx x.m p) := by first | exact HG.out rfl | exact HG.out trivial
      refine ⟨congrArg Ending.returned ?_, Below.refl _ _⟩
      rw [v1]
      unfold atV
      rw [b2, v3] at *
      have hne : ¬ infX ≤ Y := by
        have : infX = infW := rfl
        omega
      rw [if_neg hne, Nat.min_eq_left (by omega)]
      rfl
    | false =>
      go_wp2_with (go_at_call 148; (with_reducible refine (HF.out _ HN.out).mono ?_); rintro e w1 ⟨rfl, hw1⟩; have HB1 := Lib.hid hw1; clear hw1)
      go_ret3
      obtain ⟨⟨v1, v2⟩, v3, v4⟩ := HV.out
      refine ⟨congrArg Ending.returned ?_, HB1.out⟩
      rw [v1, v2]
      rfl
  | true =>
    obtain ⟨Z, hZ⟩ : ∃ Z, nx (x.m + 1) p = Z := ⟨_, rfl⟩
    obtain ⟨F2, E2, j1, j2, j3⟩ := pk_parts neg Z s.size
    have HF2 : ∀ W, NE B W → Calls Tryz.prog 148 #[.int .u64 ((x.m : Int) + 1), .int .i64 p, .int .u64 ((S0 : Nat) : Int)] W fun e w' => e = .returned (.tuple #[.float .f64 F2, E2]) ∧ Below W.heap.size W w' := fun W hNW => by
      have := CP (x.m + 1) W (by omega) (by omega) hNW
      rw [hZ, j1] at this
      rw [show (x.m : Int) + 1 = ((x.m + 1 : Nat) : Int) by omega]
      exact this
    have hfo : (fo F F2 == some .eq) = decide (min Y infW = min Z infW) := by
      rw [k3, j3]
      exact fo_eqw neg _ _ (Nat.min_le_right _ _) (Nat.min_le_right _ _)
    have m0 : (0 : Int) ≤ (x.m : Int) := by omega
    have m9 : (x.m : Int) + 1 < 18446744073709551616 := by omega
    have HFF := Lib.hid (And.intro HF1 HF2)
    by_cases hsame : min Y infW = min Z infW
    · rw [decide_eq_true hsame] at hfo
      have hX9 : min X infX = min Y infX := by
        have : infX = infW := rfl
        rw [hZ] at l2
        omega
      have hV := at_same neg X Y s.size hX9
      have HV := Lib.hid (hV.trans k2)
      clear CP CE HF1 HF2 k1 k2 k3 j1 j2 j3 l1 l2 l3 hm19 hMO hS0 hX hY hZ n1 n2 hpm hpp hN h hp HCP bs1 bs2 hex hsh2 hsame hX9 hV
      go_upto_region 23 with (go_at_call 148; (with_reducible refine (HFF.out.1 _ HN.out).mono ?_); rintro e w1 ⟨rfl, hw1⟩; have HB1 := Lib.hid hw1; clear hw1)
      have HN1 := Lib.hid (HN.out.below HB1.out)
      go_upto_region 26 with (go_at_call 148; (with_reducible refine (HFF.out.2 _ HN1.out).mono ?_); rintro e w2 ⟨rfl, hw2⟩; have HB2 := Lib.hid hw2; clear hw2)
      go_wp2_with fail
      go_ret3
      exact ⟨congrArg Ending.returned HV.out.symm, Below.trans HB1.out (HB2.out.mono HB1.out.size)⟩
    · rw [decide_eq_false hsame] at hfo
      -- the slow road
      have hnd0 : 0 < x.nd := Nat.pos_of_ne_zero fun e => by
        have h1 := hMO.hN
        rw [e, Nat.pow_zero] at h1
        have h2 := hMO.q
        rw [show x.N = 0 by omega, Nat.zero_div] at h2
        exact hm0 h2
      obtain ⟨ex0, ex9⟩ := rf_ex h
      have hdx : -60 ≤ dpX x ∧ dpX x ≤ 60 := by
        have a1 := hMO.d0
        have a2 := hMO.d1
        have a3 := hMO.nd
        unfold dpX
        split <;> omega
      have CS : ∀ (a : Nat) (W : World), SeW W a 0 0 0 false W → Calls Tryz.prog 143 #[.pointer (some ⟨a, 0, none⟩), .string s] W (SetPost W a x.N x.nd (dpX x + ex) neg) := fun a W hS => set_any a s neg x rest ex h W hS
      have CF : ∀ (a : Nat) (W W' : World), B ≤ a → EV B W' → SeW W a x.N x.nd (dpX x + ex) neg W' → Calls Tryz.prog 144 #[.pointer (some ⟨a, 0, none⟩), .pointer (some ⟨9, 0, none⟩)] W' fun e w' => e = .returned (.tuple #[.int .u64 ((sgn neg (min X infX) : Nat) : Int), .bool (decide (infX ≤ X))]) ∧ W'.grownBy w' (some a) := fun a W W' hB hEV hS => by
        obtain ⟨f, s1, s2, s3⟩ := hS
        have hb := fbits_any B a (val x.N x.nd (dpX x + ex)) x.N x.nd (dpX x + ex) neg W' hEV hB hnd (by omega) (by omega) ⟨f, s1, s2, ⟨hnd0, hMO.lo hnd0, hMO.hN⟩, by omega, rfl⟩
        rw [nx_val x.N x.nd (dpX x + ex) (by omega), hX] at hb
        exact hb
      obtain ⟨b, hb⟩ : ∃ b, decide (infX ≤ X) = b := ⟨_, rfl⟩
      obtain ⟨G, hG⟩ : ∃ G, sgn neg (min X infX) = G := ⟨_, rfl⟩
      have hV : atV neg X s.size = .tuple #[.float .f64 G, .int .i64 (s.size : Nat), if b then .iface 112 (.int .i64 1) else .nilIface] := by
        unfold atV
        rw [hG, ← hb]
        by_cases h : infX ≤ X
        · rw [if_pos h, decide_eq_true h, if_pos rfl]
        · rw [if_neg h, decide_eq_false h, if_neg (by decide)]
      rw [hG, hb] at CF
      have HV := Lib.hid hV
      have HC := Lib.hid (And.intro CS CF)
      clear CP CE HF1 HF2 k1 k2 k3 j1 j2 j3 l1 l2 l3 hm19 hMO hS0 hX hY hZ n1 n2 hpm hpp hN h hp HCP bs1 bs2 hsh2 hsame hV CS CF hnd0 hdx ex0 ex9 hb hG
      go_upto_region 23 with (go_at_call 148; (with_reducible refine (HFF.out.1 _ HN.out).mono ?_); rintro e w1 ⟨rfl, hw1⟩; have HB1 := Lib.hid hw1; clear hw1)
      have HN1 := Lib.hid (HN.out.below HB1.out)
      go_upto_region 26 with (go_at_call 148; (with_reducible refine (HFF.out.2 _ HN1.out).mono ?_); rintro e w2 ⟨rfl, hw2⟩; have HB2 := Lib.hid hw2; clear hw2)
      have HN2 := Lib.hid (HN1.out.below HB2.out)
      have HB3 := Lib.hid (Below.trans HB1.out (HB2.out.mono HB1.out.size))
      clear HB1 HB2 HN1
      go_upto_region 28 with (fail)
      refine wp_region_lit ?_
      refine wl_val rfl _ (exec_alloc_dec rfl _ _) ?_
      obtain ⟨a, ha⟩ : ∃ a, w2.heap.size = a := ⟨_, rfl⟩
      obtain ⟨W3, hW3⟩ : ∃ W3, w2.alloc (.cells decZ 159) = W3 := ⟨_, rfl⟩
      have hS3 := dec_at w2
      have hB3 : Below w2.heap.size w2 W3 := by rw [← hW3]; exact (Below.refl _ _).alloc (Nat.le_refl _) _
      rw [hW3] at hS3 ⊢
      have HN3 := Lib.hid (HN2.out.below hB3)
      have hBa := HN2.out.lt
      rw [ha] at hS3 hBa hB3 ⊢
      have HB4 := Lib.hid (And.intro (Below.trans HB3.out (hB3.mono (by rw [← ha]; exact HB3.out.size))) (And.intro hBa (show w.heap.size ≤ a by rw [← ha]; exact HB3.out.size)))
      have HS3 := Lib.hid hS3
      clear hS3 hB3 hBa HB3 HN2 hW3
      simp only [Act.put, List.setIfInBounds_toArray, List.set_cons_succ, List.set_cons_zero]
      go_upto_region 31 with (go_at_call 143; (with_reducible refine (HC.out.1 _ _ HS3.out).mono ?_); rintro e w4 ⟨rfl, hw4⟩; have HS4 := Lib.hid hw4; clear hw4)
      obtain ⟨f4, s41, s42, s43⟩ := id HS4.out
      have hBa := HB4.out.2.1
      have hE4 : EV B w4 := HN3.out.ev.grown s43 (fun r e => by obtain rfl := Option.some.inj e; exact hBa)
      have HE4 := Lib.hid (And.intro hBa (And.intro hE4 s43))
      clear s41 s42 s43 hBa hE4
      go_upto_region 32 with (go_at_call 144; (with_reducible refine (HC.out.2 _ _ _ HE4.out.1 HE4.out.2.1 HS4.out).mono ?_); rintro e w5 ⟨rfl, hw5⟩; have HS5 := Lib.hid hw5; clear hw5)
      have hfin : Below w.heap.size w w5 := by
        have q1 := HB4.out.1
        have q2 := HB4.out.2.2
        refine (q1.grown HE4.out.2.2 q1.size ?_).grown HS5.out ?_ ?_
        · intro r e
          obtain rfl := Option.some.inj e
          exact q2
        · exact Nat.le_trans q1.size HE4.out.2.2.size
        · intro r e
          obtain rfl := Option.some.inj e
          exact q2
      have HFin := Lib.hid hfin
      clear hfin
      cases b with
      | true =>
        go_wp2_with fail
        go_ret3
        exact ⟨congrArg Ending.returned HV.out.symm, HFin.out⟩
      | false =>
        go_wp2_with fail
        go_ret3
        exact ⟨congrArg Ending.returned HV.out.symm, HFin.out⟩
end Go.Proofs.YtbjengfoaobdbaaGreatDoor.rdf
