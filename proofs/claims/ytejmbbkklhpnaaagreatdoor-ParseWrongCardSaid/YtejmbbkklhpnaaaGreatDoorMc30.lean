/- The digits of a positive float lie in its interval. Plain. -/
import Derived.Test.YtejmbbkklhpnaaaGreatDoorMc29
namespace Go.Proofs.YtejmbbkklhpnaaaGreatDoor.fpm
open Go Go.RowKit Go.Proofs.YtejmbbkklhpnaaaGreatDoor.prnw

/-- unrounded scaling at a printed number -/
theorem us_at (i s x : Nat) (h1 : 56 ≤ i) (h2 : i < 673) (hs : 5 ≤ s) (hs2 : s < 59) (hx0 : 4611686018427387904 ≤ x) (hx : x < 18446744073709551616) (hd : x % 512 = 0) :
    ∃ u : Nat, usI x (hiT i) (loT i) (s : Int) = (u : Int) ∧ u = unr (x * nT i) (dT i * 2 ^ (128 + s)) ∧ 7 ≤ u ∧ u < 9223372036854775808 := by
  obtain ⟨r1, r2, r3, r4, r5⟩ := row_spec i (by omega)
  have e := us_eq x (hiT i) (loT i) s hx r1 r2 r3 (by omega)
  have b := us_lo x (hiT i) (loT i) (s : Int) hx0 hx r1 r2 (by omega) (by omega)
  refine ⟨usN x (hiT i) (loT i) s, e, ?_, ?_, ?_⟩
  · have := us_print i s (x / 512) h1 h2 hs (by omega) (by omega)
    rw [show 512 * (x / 512) = x by omega] at this
    exact this
  · rw [e] at b; omega
  · rw [e] at b; omega
theorem ceil_n (u o : Nat) (h : u < 9223372036854775808) (ho : o ≤ 1) : ceilI (nudgeI (u : Int) (o : Int)) = (((u + o + 3) / 4 : Nat) : Int) := by
  unfold ceilI nudgeI
  rw [IntKind.wrap_u64, IntKind.wrap_u64, IntKind.wrap_u64]
  omega
theorem lt_scaled {a b c d α β : Nat} (hα : 0 < α) (hβ : 0 < β) (h1 : a * α = c * β) (h2 : b * α = d * β) : a < b ↔ c < d := by
  have := le_scaled hα hβ h2 h1
  omega
theorem floor_n (u o : Nat) (h : u < 9223372036854775808) (h7 : 7 ≤ u) (ho : o ≤ 1) : nudgeI (u : Int) (-(o : Int)) / 4 = (((u - o) / 4 : Nat) : Int) := by
  unfold nudgeI
  rw [IntKind.wrap_u64, IntKind.wrap_u64]
  omega
/-- a float's mantissa, normalized: what the code has set up -/
structure Base (M S m p2 : Nat) (E e : Int) (bd : Bool) : Prop where
  s11 : 11 ≤ S ∧ S ≤ 63
  hm : m = M * 2 ^ S
  he : e = E - S
  norm : 4503599627370496 ≤ M → S = 11 ∧ p2 = 512
  deno : M < 4503599627370496 → 12 ≤ S ∧ E = -1074
  hp2 : p2 = 2 ^ (S - 2)
  e2S : 2 ^ S = 4 * p2
  p512 : ∃ r, p2 = 512 * r ∧ 1 ≤ r
  hm4 : m = 4 * M * p2
  lo : 9223372036854775808 ≤ m
  hi : m + 4 * p2 ≤ 18446744073709551616
  hbd : bd = (decide (M = 4503599627370496) && decide (-1074 < E))
  hB : sfB (m : Int) e = bd
  hz : sfZ e = (S : Int)
  hE : -1074 ≤ E ∧ E ≤ 971
theorem sf_base (M S : Nat) (E : Int) (hM1 : 1 ≤ M) (hM2 : M < 9007199254740992) (hE0 : -1074 ≤ E) (hE1 : E ≤ 971) (hsub : M < 4503599627370496 → E = -1074) (hS : S = 64 - Lib.bitLen M) :
    ∃ m p2 e bd, Base M S m p2 E e bd := by
  obtain ⟨sl0, sl1, sl2, sl3⟩ := shl_bd M hM1 hM2
  rw [← hS] at sl2 sl3
  have hS11 : 11 ≤ S ∧ S ≤ 63 := by omega
  have hnorm : 4503599627370496 ≤ M → S = 11 := fun h => by have := bl_norm M h hM2; omega
  have hdeno : M < 4503599627370496 → 12 ≤ S := fun h => by have := bl_sub M hM1 h; omega
  obtain ⟨m, hm⟩ : ∃ m, m = M * 2 ^ S := ⟨_, rfl⟩
  rw [← hm] at sl2 sl3
  obtain ⟨e, he⟩ : ∃ e : Int, e = E - S := ⟨_, rfl⟩
  have hz : sfZ e = (S : Int) := by
    unfold sfZ
    by_cases h : M < 4503599627370496
    · have := hsub h
      have := hdeno h
      rw [if_neg (by omega)]
      omega
    · have := hnorm (by omega)
      rw [if_pos (by omega)]
      omega
  obtain ⟨p2, hp2⟩ : ∃ p2, p2 = 2 ^ (S - 2) := ⟨_, rfl⟩
  have e2S : 2 ^ S = 4 * p2 := by
    rw [hp2, show (4 : Nat) = 2 ^ 2 by decide, ← Nat.pow_add]
    exact congrArg (fun z : Nat => 2 ^ z) (by omega)
  have hp512 : ∃ r, p2 = 512 * r ∧ 1 ≤ r := ⟨2 ^ (S - 11), by
    rw [hp2, show (512 : Nat) = 2 ^ 9 by decide, ← Nat.pow_add]
    exact congrArg (fun z : Nat => 2 ^ z) (by omega), Nat.two_pow_pos _⟩
  have hm4 : m = 4 * M * p2 := by rw [hm, e2S, ← Nat.mul_assoc, Nat.mul_comm M 4]
  -- is it the lower end of a binade?
  obtain ⟨bd, hbd⟩ : ∃ bd : Bool, bd = (decide (M = 4503599627370496) && decide (-1074 < E)) := ⟨_, rfl⟩
  have hB : sfB (m : Int) e = bd := by
    rw [hbd]
    unfold sfB
    by_cases h : M < 4503599627370496
    · have h1 := hsub h
      have h2 := hdeno h
      rw [decide_eq_false (show ¬ -1085 < e by omega), decide_eq_false (show ¬ M = 4503599627370496 by omega), Bool.and_false, Bool.false_and]
    · have h1 := hnorm (by omega)
      have h2 : p2 = 512 := by rw [hp2, h1]
      have h3 : ((m : Int) == 9223372036854775808) = decide (M = 4503599627370496) := by
        rw [Bool.eq_iff_iff, beq_iff_eq, decide_eq_true_eq]
        rw [h2] at hm4
        omega
      have h4 : decide (-1085 < e) = decide (-1074 < E) := by
        rw [Bool.eq_iff_iff, decide_eq_true_eq, decide_eq_true_eq]
        omega
      rw [h3, h4]
  refine ⟨m, p2, e, bd, hS11, hm, he, fun h => ⟨hnorm h, ?_⟩, fun h => ⟨hdeno h, hsub h⟩, hp2, e2S, hp512, hm4, sl2, ?_, hbd, hB, hz, hE0, hE1⟩
  · rw [hp2, hnorm h]
  · obtain ⟨b1, b2, b3, b4⟩ := bl_bd 64 M (by omega) (by omega)
    change M < 2 ^ Lib.bitLen M at b4
    have h1 : (M + 1) * 2 ^ S ≤ 2 ^ Lib.bitLen M * 2 ^ S := Nat.mul_le_mul_right _ b4
    rw [← Nat.pow_add, show Lib.bitLen M + S = 64 by omega] at h1
    rw [hm, ← e2S, ← Nat.succ_mul]
    exact h1
end Go.Proofs.YtejmbbkklhpnaaaGreatDoor.fpm

/- The set-up of shortFloat: power, shift, ends. Plain. -/
namespace Go.Proofs.YtejmbbkklhpnaaaGreatDoor.fpm
open Go Go.RowKit Go.Proofs.YtejmbbkklhpnaaaGreatDoor.prnw

theorem ba_P {M S m p2 : Nat} {E e : Int} {bd : Bool} (b : Base M S m p2 E e bd) : sfP (m : Int) e = if bd then -((E * 631305 - 261663) / 2097152) else -(E * 78913 / 262144) := by
  have h1 := b.he
  have hE := b.hE
  unfold sfP
  rw [b.hB, b.hz, show e + (S : Int) = E by omega]
  cases hb : bd
  · rfl
  · have hbd := b.hbd
    rw [hb] at hbd
    have hb2 := hbd.symm
    rw [Bool.and_eq_true, decide_eq_true_eq, decide_eq_true_eq] at hb2
    have := (b.norm (by omega)).1
    rw [show e + 11 = E by omega]
theorem ba_rng (E P : Int) (S : Nat) (bd : Bool) (h0 : -1074 ≤ E) (h1 : E ≤ 971) (hS : 11 ≤ S) (hP : P = if bd then -((E * 631305 - 261663) / 2097152) else -(E * 78913 / 262144)) :
    -292 ≤ P ∧ P ≤ 324 ∧ 5 ≤ (S : Int) - 3 - E - P * 108853 / 32768 := by
  cases bd
  · simp only [Bool.false_eq_true, if_false] at hP
    omega
  · simp only [if_true] at hP
    omega
theorem ba_W {M S m p2 : Nat} {E e : Int} {bd : Bool} (b : Base M S m p2 E e bd) : loQ M E = if bd then 4 * M - 1 else 4 * M - 2 := by
  rw [b.hbd]
  unfold loQ
  by_cases h : M = 4503599627370496 ∧ -1074 < E
  · rw [if_pos h, if_pos (by rw [Bool.and_eq_true, decide_eq_true_eq, decide_eq_true_eq]; exact h)]
  · rw [if_neg h, if_neg (by rw [Bool.and_eq_true, decide_eq_true_eq, decide_eq_true_eq]; exact h)]
theorem pw_half (S p2 : Nat) (hS : 11 ≤ S) (hp2 : p2 = 2 ^ (S - 2)) : (2 : Int) ^ (((S : Int)).toNat - 1) = ((2 * p2 : Nat) : Int) := by
  have : 2 * p2 = 2 ^ (S - 1) := by
    rw [hp2, show S - 1 = (S - 2) + 1 by omega, Nat.pow_succ, Nat.mul_comm 2]
  rw [this, show ((S : Int)).toNat - 1 = S - 1 by omega]
  simp
theorem ba_Mx {M S m p2 : Nat} {E e : Int} {bd : Bool} (b : Base M S m p2 E e bd) : sfMx (m : Int) e = ((m + 2 * p2 : Nat) : Int) := by
  have h1 := b.he
  have hE := b.hE
  have h2 := b.hi
  have h3 := b.lo
  obtain ⟨r, h4, h5⟩ := b.p512
  unfold sfMx
  by_cases h : M < 4503599627370496
  · have h6 := b.deno h
    rw [if_neg (by omega), b.hz, pw_half S p2 b.s11.1 b.hp2, IntKind.wrap_u64, IntKind.wrap_u64]
    omega
  · have h6 := b.norm (by omega)
    rw [if_pos (by omega), IntKind.wrap_u64]
    omega
theorem ba_Mn {M S m p2 : Nat} {E e : Int} {bd : Bool} (b : Base M S m p2 E e bd) : sfMn (m : Int) e = (((if bd then m - p2 else m - 2 * p2) : Nat) : Int) := by
  have h1 := b.he
  have hE := b.hE
  have h2 := b.hi
  have h3 := b.lo
  obtain ⟨r, h4, h5⟩ := b.p512
  unfold sfMn
  rw [b.hB]
  cases hb : bd
  · simp only [Bool.false_eq_true, if_false]
    by_cases h : M < 4503599627370496
    · have h6 := b.deno h
      have h7 : 4 * p2 ≤ m := by
        rw [b.hm4, Nat.mul_assoc, Nat.mul_left_comm]
        have : 1 ≤ M := by
          have := b.hm4
          by_cases h0 : M = 0
          · rw [h0] at this; omega
          · omega
        exact Nat.le_mul_of_pos_left _ this
      rw [if_neg (by omega), b.hz, pw_half S p2 b.s11.1 b.hp2, IntKind.wrap_u64, IntKind.wrap_u64]
      omega
    · have h6 := b.norm (by omega)
      rw [if_pos (by omega), IntKind.wrap_u64]
      omega
  · have hbd := b.hbd
    rw [hb] at hbd
    have hb2 := hbd.symm
    rw [Bool.and_eq_true, decide_eq_true_eq, decide_eq_true_eq] at hb2
    have h6 := b.norm (by omega)
    simp only [if_true]
    rw [IntKind.wrap_u64]
    omega
theorem ba_O {M S m p2 : Nat} {E e : Int} {bd : Bool} (b : Base M S m p2 E e bd) (hM : M < 9007199254740992) : sfO (m : Int) e = ((M % 2 : Nat) : Int) := by
  unfold sfO
  rw [b.hz, show ((S : Int)).toNat = S by omega]
  have h1 : (m : Int) / 2 ^ S = (M : Int) := by
    have : ((m / 2 ^ S : Nat) : Int) = (m : Int) / 2 ^ S := by simp
    rw [← this, b.hm, Nat.mul_div_cancel _ (Nat.two_pow_pos _)]
  rw [h1]
  have h2 : wrap64 (M : Int) = (M : Int) := by
    unfold wrap64
    omega
  rw [h2]
  have := and_mask .i64 (Or.inl rfl) M 1 (by omega) (by decide)
  simpa using this
theorem ba_S {M S m p2 : Nat} {E e : Int} {bd : Bool} (b : Base M S m p2 E e bd) (P : Int) (hP : P = sfP (m : Int) e) : sfS (m : Int) e = S - 3 - E - P * 108853 / 32768 := by
  unfold sfS
  rw [← hP, b.he]
  omega
end Go.Proofs.YtejmbbkklhpnaaaGreatDoor.fpm

/- The digits of a positive float lie in its interval. Plain. -/
namespace Go.Proofs.YtejmbbkklhpnaaaGreatDoor.fpm
open Go Go.RowKit Go.Proofs.YtejmbbkklhpnaaaGreatDoor.prnw

/-- scaled by the power's fraction: as many quarters of the last place -/
theorem ba_u {M S m p2 : Nat} {E e : Int} {bd : Bool} (b : Base M S m p2 E e bd) (hM1 : 1 ≤ M) (i s W : Nat) (h1 : 56 ≤ i) (h2 : i < 673) (hs : 5 ≤ s) (hs2 : s < 59) (hW : 4 * M - 2 ≤ W) (hW2 : W ≤ 4 * M + 2) :
    ∃ u : Nat, usI (W * p2) (hiT i) (loT i) (s : Int) = (u : Int) ∧ u = unr (W * p2 * nT i) (dT i * 2 ^ (128 + s)) ∧ 7 ≤ u ∧ u < 9223372036854775808 := by
  obtain ⟨r, h4, h5⟩ := b.p512
  have a1 : (4 * M - 2) * p2 ≤ W * p2 := Nat.mul_le_mul_right _ hW
  have a2 : W * p2 ≤ (4 * M + 2) * p2 := Nat.mul_le_mul_right _ hW2
  have a3 : (4 * M - 2) * p2 + 2 * p2 = m := by rw [b.hm4, ← Nat.add_mul]; congr 1; omega
  have a4 : (4 * M + 2) * p2 = m + 2 * p2 := by rw [b.hm4, ← Nat.add_mul]
  have a5 : 4 * p2 ≤ m := by rw [b.hm4]; exact Nat.mul_le_mul_right _ (by omega)
  have a6 := b.hi
  have a7 := b.lo
  refine us_at i s (W * p2) h1 h2 hs hs2 (by omega) (by omega) ?_
  rw [h4, Nat.mul_left_comm]
  exact Nat.mul_mod_right _ _
theorem ba_wd {M S m p2 : Nat} {E e : Int} {bd : Bool} (b : Base M S m p2 E e bd) (hM1 : 1 ≤ M) (P : Int) (hPv : P = if bd then -((E * 631305 - 261663) / 2097152) else -(E * 78913 / 262144)) :
    ∃ c, c + loQ M E = 4 * M + 2 ∧ (c = 3 ∨ c = 4) ∧ 1 * 2 ^ upB * 10 ^ (-P).toNat ≤ c * 2 ^ (E + 1074).toNat * 10 ^ P.toNat ∧
      (M % 2 = 1 → c = 4 ∧ (1 * 2 ^ upB * 10 ^ (-P).toNat < 4 * 2 ^ (E + 1074).toNat * 10 ^ P.toNat ∨ E = 0 ∧ P = 0)) := by
  have hW := ba_W b
  obtain ⟨hB, hC⟩ := pow_at E b.hE.1 b.hE.2
  have hS := powS_at E b.hE.1 b.hE.2
  cases hb : bd
  · rw [hb] at hW hPv
    simp only [Bool.false_eq_true, if_false] at hW hPv
    have e1 : -P = E * 78913 / 262144 := by omega
    unfold powB at hB
    rw [decide_eq_true_eq, ← e1, show -(-P) = P by omega] at hB
    refine ⟨4, by omega, Or.inr rfl, width P E 4 4 b.hE.1 (Nat.mul_le_mul_left 4 hB) rfl, fun _ => ⟨rfl, ?_⟩⟩
    unfold powS at hS
    rw [Bool.or_eq_true, decide_eq_true_eq, decide_eq_true_eq, ← e1, show -(-P) = P by omega] at hS
    rcases hS with h | h
    · right
      clear hB hC
      rw [h] at e1
      exact ⟨h, by omega⟩
    · left
      exact width_lt P E b.hE.1 h
  · rw [hb] at hW hPv
    simp only [if_true] at hW hPv
    have e1 : -P = (E * 631305 - 261663) / 2097152 := by omega
    unfold powC at hC
    rw [decide_eq_true_eq, ← e1, show -(-P) = P by omega] at hC
    refine ⟨3, by omega, Or.inl rfl, width P E 3 4 b.hE.1 hC rfl, fun ho => ?_⟩
    have hbd := b.hbd
    rw [hb] at hbd
    have hb2 := hbd.symm
    rw [Bool.and_eq_true, decide_eq_true_eq, decide_eq_true_eq] at hb2
    rw [hb2.1] at ho
    exact absurd ho (by decide)
/-- the upper bound of an interval's width: less than ten units -/
def powW (E : Int) : Bool := decide (10 ^ (-(E * 78913 / 262144)).toNat * 2 ^ E.toNat < 10 * (10 ^ (E * 78913 / 262144).toNat * 2 ^ (-E).toNat)) && decide (3 * (10 ^ (-((E * 631305 - 261663) / 2097152)).toNat * 2 ^ E.toNat) < 40 * (10 ^ ((E * 631305 - 261663) / 2097152).toNat * 2 ^ (-E).toNat))
theorem powWAll : (List.range 2046).all (fun j => powW ((j : Int) - 1074)) = true := by kernel_rfl
theorem powW_at (E : Int) (h0 : -1074 ≤ E) (h1 : E ≤ 971) : powW E = true := by
  have := List.all_eq_true.1 powWAll (E + 1074).toNat (List.mem_range.2 (by omega))
  rw [show (((E + 1074).toNat : Nat) : Int) - 1074 = E by omega] at this
  exact this
theorem width_up (P E : Int) (W : Nat) (hE : -1074 ≤ E) (h : W * (10 ^ P.toNat * 2 ^ E.toNat) < 40 * (10 ^ (-P).toNat * 2 ^ (-E).toNat)) : W * 2 ^ (E + 1074).toNat * 10 ^ P.toNat < 10 * 2 ^ upB * 10 ^ (-P).toNat := by
  have hB := upB_eq
  obtain ⟨t, ht⟩ : ∃ t, t = 1074 - (-E).toNat := ⟨_, rfl⟩
  have e1 : 2 ^ upB = 4 * (2 ^ (-E).toNat * 2 ^ t) := by
    rw [show (4 : Nat) = 2 ^ 2 by decide, ← Nat.pow_add, ← Nat.pow_add]
    exact congrArg (fun z : Nat => 2 ^ z) (by omega)
  have e2 : 2 ^ (E + 1074).toNat = 2 ^ E.toNat * 2 ^ t := by
    rw [← Nat.pow_add]
    exact congrArg (fun z : Nat => 2 ^ z) (by omega)
  have h5 : 0 < 2 ^ t := Nat.two_pow_pos t
  rw [e1, e2]
  generalize 10 ^ (-P).toNat = x1 at *
  generalize 10 ^ P.toNat = x2 at *
  generalize 2 ^ (-E).toNat = x3 at *
  generalize 2 ^ E.toNat = x4 at *
  generalize 2 ^ t = x5 at *
  have := (Nat.mul_lt_mul_right h5).2 h
  have a1 : 10 * (4 * (x3 * x5)) * x1 = 40 * (x1 * x3) * x5 := by rw [← Nat.mul_assoc 10 4]; ac_rfl
  have a2 : W * (x4 * x5) * x2 = W * (x2 * x4) * x5 := by ac_rfl
  rw [a1, a2]
  exact this
theorem ba_up {M S m p2 : Nat} {E e : Int} {bd : Bool} (b : Base M S m p2 E e bd) (P : Int) (hPv : P = if bd then -((E * 631305 - 261663) / 2097152) else -(E * 78913 / 262144)) (c : Nat) (hc : c + loQ M E = 4 * M + 2) (hM1 : 1 ≤ M) :
    c * 2 ^ (E + 1074).toNat * 10 ^ P.toNat < 10 * 2 ^ upB * 10 ^ (-P).toNat ∧ (c = 3 → M = 4503599627370496) := by
  have hW := ba_W b
  have hS := powW_at E b.hE.1 b.hE.2
  unfold powW at hS
  rw [Bool.and_eq_true, decide_eq_true_eq, decide_eq_true_eq] at hS
  obtain ⟨hS1, hS2⟩ := hS
  cases hb : bd
  · rw [hb] at hW hPv
    simp only [Bool.false_eq_true, if_false] at hW hPv
    have e1 : -P = E * 78913 / 262144 := by omega
    rw [← e1, show -(-P) = P by omega] at hS1
    have h4 : c = 4 := by clear hS1 hS2; omega
    subst h4
    refine ⟨width_up P E 4 b.hE.1 ?_, fun h => by cases h⟩
    generalize 10 ^ P.toNat * 2 ^ E.toNat = q1 at *
    generalize 10 ^ (-P).toNat * 2 ^ (-E).toNat = q2 at *
    clear hS2
    omega
  · rw [hb] at hW hPv
    simp only [if_true] at hW hPv
    have e1 : -P = (E * 631305 - 261663) / 2097152 := by omega
    rw [← e1, show -(-P) = P by omega] at hS2
    have h3 : c = 3 := by clear hS1 hS2; omega
    subst h3
    refine ⟨width_up P E 3 b.hE.1 hS2, fun _ => ?_⟩
    have hbd := b.hbd
    rw [hb] at hbd
    have hb2 := hbd.symm
    rw [Bool.and_eq_true, decide_eq_true_eq, decide_eq_true_eq] at hb2
    exact hb2.1
/-- bounds of the picked number, and the one multiple of ten -/
theorem pick_one {Am : Nat} (Q Amin Amax o k j : Nat) (hQ : 0 < Q) (ho : o ≤ 1) (hA : 0 < Amax) (hw : Amax < Amin + 10 * (4 * Q))
    (hk : k = if (unr Amin Q + o + 3) / 4 ≤ (unr Amax Q - o) / 4 / 10 * 10 then (unr Amax Q - o) / 4 / 10 * 10 else if (unr Amin Q + o + 3) / 4 < (unr Amax Q - o) / 4 then rnd (unr Am Q) else (unr Amin Q + o + 3) / 4)
    (hk2 : k * (4 * Q) ≤ Amax)
    (h1 : Amin ≤ 10 * j * (4 * Q)) (h2 : 10 * j * (4 * Q) ≤ Amax) (h3 : o = 1 → Amin < 10 * j * (4 * Q) ∧ 10 * j * (4 * Q) < Amax) :
    (unr Amin Q + o + 3) / 4 ≤ (unr Amax Q - o) / 4 / 10 * 10 ∧ k = 10 * j := by
  have ho2 : o = 0 ∨ o = 1 := by omega
  have a1 : (unr Amin Q + o + 3) / 4 ≤ 10 * j := by
    rcases ho2 with rfl | rfl
    · exact (r_ceil Amin Q hQ (10 * j)).2 h1
    · exact (r_above Amin Q hQ (10 * j)).2 (h3 rfl).1
  have a2 : 10 * j ≤ (unr Amax Q - o) / 4 := by
    rcases ho2 with rfl | rfl
    · exact (r_under Amax Q hQ (10 * j)).2 h2
    · exact (r_below Amax Q hQ hA (10 * j)).2 (h3 rfl).2
  have c1 : (unr Amin Q + o + 3) / 4 ≤ (unr Amax Q - o) / 4 / 10 * 10 := by omega
  refine ⟨c1, ?_⟩
  rw [if_pos c1] at hk
  have h4 : k * (4 * Q) < (10 * j + 10) * (4 * Q) := by
    rw [Nat.add_mul]
    omega
  have h5 := Nat.lt_of_mul_lt_mul_right h4
  omega
theorem sf_all (M S : Nat) (E : Int) (hM1 : 1 ≤ M) (hM2 : M < 9007199254740992) (hE0 : -1074 ≤ E) (hE1 : E ≤ 971) (hsub : M < 4503599627370496 → E = -1074) (hS : S = 64 - Lib.bitLen M) :
    ∃ (k : Nat) (P : Int), -348 ≤ P ∧ P ≤ 348 ∧ (sfR hiT loT ((M * 2 ^ S : Nat) : Int) (E - S) = ((k : Int), -P) ∨ ∃ k' : Nat, k = k' * 10 ∧ sfR hiT loT ((M * 2 ^ S : Nat) : Int) (E - S) = ((k' : Int), -(P - 1))) ∧
      loQ M E * 2 ^ (E + 1074).toNat * 10 ^ P.toNat ≤ k * 2 ^ upB * 10 ^ (-P).toNat ∧ k * 2 ^ upB * 10 ^ (-P).toNat ≤ (4 * M + 2) * 2 ^ (E + 1074).toNat * 10 ^ P.toNat ∧
      (M % 2 = 1 → loQ M E * 2 ^ (E + 1074).toNat * 10 ^ P.toNat < k * 2 ^ upB * 10 ^ (-P).toNat ∧ k * 2 ^ upB * 10 ^ (-P).toNat < (4 * M + 2) * 2 ^ (E + 1074).toNat * 10 ^ P.toNat) ∧ k < 100000000000000000 ∧
      (∀ j : Nat, loQ M E * 2 ^ (E + 1074).toNat * 10 ^ P.toNat ≤ 10 * j * 2 ^ upB * 10 ^ (-P).toNat → 10 * j * 2 ^ upB * 10 ^ (-P).toNat ≤ (4 * M + 2) * 2 ^ (E + 1074).toNat * 10 ^ P.toNat →
        (M % 2 = 1 → loQ M E * 2 ^ (E + 1074).toNat * 10 ^ P.toNat < 10 * j * 2 ^ upB * 10 ^ (-P).toNat ∧ 10 * j * 2 ^ upB * 10 ^ (-P).toNat < (4 * M + 2) * 2 ^ (E + 1074).toNat * 10 ^ P.toNat) →
        sfR hiT loT ((M * 2 ^ S : Nat) : Int) (E - S) = ((j : Int), -(P - 1))) := by
  obtain ⟨o, ho⟩ : ∃ o, o = M % 2 := ⟨_, rfl⟩
  have ho1 : o ≤ 1 := by omega
  obtain ⟨m, p2, e, bd, b⟩ := sf_base M S E hM1 hM2 hE0 hE1 hsub hS
  rw [← b.hm, ← b.he]
  obtain ⟨P, hP⟩ : ∃ P, P = sfP (m : Int) e := ⟨_, rfl⟩
  have hPv := ba_P b
  rw [← hP] at hPv
  obtain ⟨hP1, hP2, hs5⟩ := ba_rng E P S bd hE0 hE1 b.s11.1 hPv
  have hSd := ba_S b P hP
  obtain ⟨lp, hlp⟩ : ∃ lp, lp = P * 108853 / 32768 := ⟨_, rfl⟩
  obtain ⟨s, hs⟩ : ∃ s : Nat, (s : Int) = S - 3 - E - lp := ⟨(S - 3 - E - lp : Int).toNat, by omega⟩
  have hs58 := (sf_p (m : Int) e (by have := b.he; have := b.s11; omega) (by have := b.he; have := b.s11; omega)).2.2.2
  rw [← hlp, ← hs] at hSd hs5
  rw [hSd] at hs58
  obtain ⟨i, hi⟩ : ∃ i, i = (P + 348).toNat := ⟨_, rfl⟩
  have hI : sfI (m : Int) e = i := by unfold sfI; rw [← hP, hi]
  obtain ⟨W, hW⟩ : ∃ W, W = loQ M E := ⟨_, rfl⟩
  have hWv := ba_W b
  obtain ⟨w1, w2, w3⟩ := loQ_bd M E
  rw [← hW] at hWv w1 w2 w3 ⊢
  have hi1 : 56 ≤ i ∧ i < 673 := by omega
  have hs6 : 5 ≤ s ∧ s < 59 := by omega
  obtain ⟨u1, ue1, uv1, ua1, ub1⟩ := ba_u b hM1 i s W hi1.1 hi1.2 hs6.1 hs6.2 w1 (by omega)
  obtain ⟨u2, ue2, uv2, ua2, ub2⟩ := ba_u b hM1 i s (4 * M) hi1.1 hi1.2 hs6.1 hs6.2 (by omega) (by omega)
  obtain ⟨u3, ue3, uv3, ua3, ub3⟩ := ba_u b hM1 i s (4 * M + 2) hi1.1 hi1.2 hs6.1 hs6.2 (by omega) (by omega)
  have hP0 : -348 ≤ P := Int.le_trans (by decide) hP1
  have hS2 : 2 ≤ S := Nat.le_trans (by decide) b.s11.1
  have hMn := ba_Mn b
  have hMx := ba_Mx b
  have hO := ba_O b hM2
  have x1 : (if bd then m - p2 else m - 2 * p2) = W * p2 := by
    rw [hWv, b.hm4]
    cases bd
    · simp only [Bool.false_eq_true, if_false]; rw [Nat.sub_mul]
    · simp only [if_true]; rw [Nat.sub_mul, Nat.one_mul]
  have x3 : m + 2 * p2 = (4 * M + 2) * p2 := by rw [b.hm4, Nat.add_mul]
  rw [x1] at hMn
  rw [x3] at hMx
  rw [← ho] at hO
  have hDn : sfDn hiT loT (m : Int) e = (((u1 + o + 3) / 4 : Nat) : Int) := by
    unfold sfDn sfU
    rw [hMn, hO, hI, hSd, Int.toNat_natCast, ue1]
    exact ceil_n u1 o ub1 ho1
  have hDx : sfDx hiT loT (m : Int) e = (((u3 - o) / 4 : Nat) : Int) := by
    unfold sfDx sfU
    rw [hMx, hO, hI, hSd, Int.toNat_natCast, ue3]
    exact floor_n u3 o ub3 ua3 ho1
  have hDm : roundI (sfU hiT loT (m : Int) e (m : Int)) = (rnd u2 : Int) := by
    unfold sfU
    rw [hI, hSd, Int.toNat_natCast]
    have : usI m (hiT i) (loT i) (s : Int) = (u2 : Int) := by rw [b.hm4]; exact ue2
    rw [this]
    exact round_eq u2 ub2
  obtain ⟨Q, hQ⟩ : ∃ Q, Q = dT i * 2 ^ (128 + s) := ⟨_, rfl⟩
  rw [← hQ] at uv1 uv2 uv3
  have hQ0 : 0 < Q := by rw [hQ]; exact Nat.mul_pos (dT_pos i) (Nat.two_pow_pos _)
  have hn0 : 0 < nT i := by
    unfold nT
    split
    · exact Nat.mul_pos (Nat.pow_pos (by decide)) (Nat.two_pow_pos _)
    · exact Nat.two_pow_pos _
  have hp0 : 0 < p2 := by rw [b.hp2]; exact Nat.two_pow_pos _
  have hpn : 0 < p2 * nT i := Nat.mul_pos hp0 hn0
  -- the spelling of a comparison
  have sc := fun k W' => scale_id P E hP0 i hi lp hlp hE0 S s hS2 hs k W'
  rw [← hQ, ← b.hp2] at sc
  obtain ⟨c, hc, hc34, hcw, hco⟩ := ba_wd b hM1 P hPv
  obtain ⟨hup, hc3⟩ := ba_up b P hPv c hc hM1
  rw [← hW] at hc
  have hEz : E = 0 → 2 ^ upB = 4 * 2 ^ (E + 1074).toNat := fun h => by
    rw [show upB = (E + 1074).toNat + 2 by rw [h]; rfl, Nat.pow_add, Nat.mul_comm]
  clear ue1 ue2 ue3 ua1 ua2 ua3 ub1 ub2 ub3 hSd hI hMn hMx hO x1 x3 hs58 hs6 hs5 hPv hWv
  obtain ⟨v, hv⟩ : ∃ v, v = p2 * nT i := ⟨_, rfl⟩
  have hA : ∀ V, V * p2 * nT i = V * v := fun V => by rw [hv]; exact Nat.mul_assoc _ _ _
  have hv0 : 0 < v := by rw [hv]; exact hpn
  simp only [hA] at uv1 uv2 uv3 sc
  obtain ⟨T1, hT1⟩ : ∃ T, T = 2 ^ (E + 1074).toNat := ⟨_, rfl⟩
  obtain ⟨T2, hT2⟩ : ∃ T, T = 10 ^ P.toNat := ⟨_, rfl⟩
  obtain ⟨T3, hT3⟩ : ∃ T, T = 10 ^ (-P).toNat := ⟨_, rfl⟩
  obtain ⟨T4, hT4⟩ : ∃ T, T = 2 ^ upB := ⟨_, rfl⟩
  rw [← hT1, ← hT2, ← hT3, ← hT4] at sc
  rw [← hT1, ← hT2, ← hT3, ← hT4] at hcw hco hup
  rw [← hT1, ← hT4] at hEz
  have hP348 : P ≤ 348 := Int.le_trans hP2 (by decide)
  obtain ⟨dn, hdn⟩ : ∃ d, d = (u1 + o + 3) / 4 := ⟨_, rfl⟩
  obtain ⟨dx, hdx⟩ : ∃ d, d = (u3 - o) / 4 := ⟨_, rfl⟩
  rw [← hdn] at hDn
  rw [← hdx] at hDx
  obtain ⟨k, hk⟩ : ∃ k, k = if dn ≤ dx / 10 * 10 then dx / 10 * 10 else if dn < dx then rnd u2 else dn := ⟨_, rfl⟩
  refine ⟨k, P, hP0, hP348, ?_⟩
  rw [← hT1, ← hT2, ← hT3, ← hT4]
  have hT00 : P = 0 → T2 = 1 ∧ T3 = 1 := fun h => by rw [hT2, hT3, h]; exact ⟨rfl, rfl⟩
  clear hT1 hT2 hT3 hT4 hv hpn hp0 hn0 hQ hP1 hP2 hi1 hs hlp hi
  have hMv : 4 * M * v = 4 * (M * v) := Nat.mul_assoc _ _ _
  have hMv2 : (4 * M + 2) * v = 4 * (M * v) + 2 * v := by rw [Nat.add_mul, hMv]
  have hcv : c * v + W * v = 4 * (M * v) + 2 * v := by rw [← Nat.add_mul, hc, hMv2]
  have hcv34 : c * v = 3 * v ∨ c * v = 4 * v := by rcases hc34 with rfl | rfl <;> simp
  have hWpos : 0 < W * v := Nat.mul_pos (by omega) hv0
  have hq4 : 4 * Q ≤ c * v := by
    obtain ⟨α, β, a0, b0, q1, q2⟩ := sc 1 c
    rw [Nat.one_mul (4 * Q)] at q1
    exact (le_scaled a0 b0 q1 q2).2 hcw
  have hq40 : c * v < 10 * (4 * Q) := by
    obtain ⟨α, β, a0, b0, q1, q2⟩ := sc 10 c
    exact (lt_scaled a0 b0 q2 q1).2 hup
  have hR1 : dn ≤ dx / 10 * 10 → sfR hiT loT (m : Int) e = (((dx / 10 : Nat) : Int), -(P - 1)) := fun c1 => by
    unfold sfR
    rw [hDn, hDx, hDm, ← hP, if_pos (by omega), Int.natCast_ediv]
    rfl
  have hpick := pick Q (W * v) (4 * M * v) ((4 * M + 2) * v) o hQ0 ho1 hWpos (by omega) (by omega) (by omega) (by omega) (fun h => by
    obtain ⟨hc4, hor⟩ := hco (by omega)
    rcases hor with h1 | ⟨h1, h2⟩
    · left
      obtain ⟨α, β, a0, b0, q1, q2⟩ := sc 1 4
      rw [Nat.one_mul (4 * Q)] at q1
      have := (lt_scaled a0 b0 q1 q2).2 h1
      rw [hc4] at hcv
      omega
    · right
      refine ⟨M, ?_⟩
      obtain ⟨α, β, a0, b0, q1, q2⟩ := sc M (4 * M)
      obtain ⟨t2, t3⟩ := hT00 h2
      have he : M * T4 * T3 = 4 * M * T1 * T2 := by
        rw [hEz h1, t2, t3, Nat.mul_one, Nat.mul_one, ← Nat.mul_assoc, Nat.mul_comm M 4]
      have l1 := (le_scaled a0 b0 q1 q2).2 (Nat.le_of_eq he)
      have l2 := (le_scaled a0 b0 q2 q1).2 (Nat.le_of_eq he.symm)
      omega) k (by rw [hk, hdn, hdx, uv1, uv2, uv3])
  obtain ⟨⟨k1, k2⟩, k3⟩ := hpick
  have t1 : W * T1 * T2 ≤ k * T4 * T3 := by
    obtain ⟨α, β, a0, b0, q1, q2⟩ := sc k W
    exact (le_scaled a0 b0 q2 q1).1 k1
  have t2 : k * T4 * T3 ≤ (4 * M + 2) * T1 * T2 := by
    obtain ⟨α, β, a0, b0, q1, q2⟩ := sc k (4 * M + 2)
    exact (le_scaled a0 b0 q1 q2).1 k2
  refine ⟨?_, t1, t2, fun h => ?_, ?_, fun j j1 j2 j3 => ?_⟩
  · unfold sfR
    rw [hDn, hDx, hDm, ← hP, hk]
    by_cases c1 : dn ≤ dx / 10 * 10
    · right
      rw [if_pos c1, if_pos (by omega)]
      exact ⟨dx / 10, rfl, by rw [Int.natCast_ediv]; rfl⟩
    · left
      rw [if_neg c1, if_neg (by omega)]
      by_cases c2 : dn < dx
      · rw [if_pos c2, if_pos (by omega)]
      · rw [if_neg c2, if_neg (by omega)]
  · obtain ⟨k4, k5⟩ := k3 (by omega)
    refine ⟨?_, ?_⟩
    · obtain ⟨α, β, a0, b0, q1, q2⟩ := sc k W
      exact (lt_scaled a0 b0 q2 q1).1 k4
    · obtain ⟨α, β, a0, b0, q1, q2⟩ := sc k (4 * M + 2)
      exact (lt_scaled a0 b0 q1 q2).1 k5
  · apply Nat.lt_of_mul_lt_mul_right (a := 4 * Q)
    rcases hc34 with rfl | rfl
    · have hM := hc3 rfl
      rw [hM] at hMv2 k2
      omega
    · have h9 : M * v ≤ 9007199254740991 * v := Nat.mul_le_mul_right _ (by omega)
      omega
  · obtain ⟨α, β, a0, b0, q1, q2⟩ := sc (10 * j) W
    obtain ⟨α', β', a0', b0', q1', q2'⟩ := sc (10 * j) (4 * M + 2)
    obtain ⟨o1, o2⟩ := pick_one (Am := 4 * M * v) Q (W * v) ((4 * M + 2) * v) o k j hQ0 ho1 (by omega) (by omega) (by rw [hk, hdn, hdx, uv1, uv2, uv3]) k2
      ((le_scaled a0 b0 q2 q1).2 j1) ((le_scaled a0' b0' q1' q2').2 j2) (fun h => by
        obtain ⟨l1, l2⟩ := j3 (by omega)
        exact ⟨(lt_scaled a0 b0 q2 q1).2 l1, (lt_scaled a0' b0' q1' q2').2 l2⟩)
    rw [← uv1, ← uv3, ← hdn, ← hdx] at o1
    rw [hR1 o1]
    rw [if_pos o1] at hk
    rw [show dx / 10 = j by omega]
end Go.Proofs.YtejmbbkklhpnaaaGreatDoor.fpm
