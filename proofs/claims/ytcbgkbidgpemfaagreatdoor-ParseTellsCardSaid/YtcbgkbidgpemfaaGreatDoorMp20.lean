/- Unrounded scaling at the table's powers, and rounding of what it answers. Plain. -/
import Derived.Test.YtcbgkbidgpemfaaGreatDoorMp19
import Derived.Test.YtcbgkbidgpemfaaGreatDoorMp14
import Derived.Test.YtcbgkbidgpemfaaGreatDoorMp10
namespace Go.Proofs.YtcbgkbidgpemfaaGreatDoor.fpm

theorem pow_split (D j s k : Nat) (h : k ≤ s) : j * (2 * (D * 2 ^ (128 + s))) = (j * 2 ^ (s - k)) * (2 * (D * 2 ^ (128 + k))) := by
  have e : (2 : Nat) ^ (128 + s) = 2 ^ (s - k) * 2 ^ (128 + k) := by rw [← Nat.pow_add]; congr 1; omega
  rw [e]
  generalize 2 ^ (s - k) = a
  generalize 2 ^ (128 + k) = b
  rw [Nat.mul_assoc j a, ← Nat.mul_assoc D a, Nat.mul_comm D a, Nat.mul_assoc a D, ← Nat.mul_assoc 2 a, Nat.mul_comm 2 a, Nat.mul_assoc a 2]
theorem us_parse (i s x : Nat) (h1 : 1 ≤ i) (h2 : i < 696) (hs : 8 ≤ s) (hx0 : 9223372036854775808 ≤ x) (hx : x < 18446744073709551616) :
    usN x (hiT i) (loT i) s = unr (x * nT i) (dT i * 2 ^ (128 + s)) := by
  obtain ⟨r1, r2, r3, r4, r5⟩ := row_spec i (by omega)
  refine us_spec _ _ _ _ _ _ hx r3 (dT_pos i) r4 r5 fun j => ?_
  obtain ⟨a, c, hc⟩ := quad_at paB certPa 1 (i - 1) paAll (by rw [paLen]; omega)
  rw [show 1 + (i - 1) = i by omega] at hc
  have h := nm_of_cert hc x (j * 2 ^ (s - 8)) (by omega) hx hx0
  rw [pow_split (dT i) j s 8 hs]
  exact h
/-! rounding: v = A / (4 Q) -/
theorem unr_parts (A Q : Nat) (hQ : 0 < Q) : ∃ k r, A = 4 * Q * k + r ∧ r < 4 * Q ∧ unr A Q / 4 = k ∧
    (unr A Q % 4 = 0 ↔ r = 0) ∧ (unr A Q % 4 = 1 ↔ 0 < r ∧ r < 2 * Q) ∧ (unr A Q % 4 = 2 ↔ r = 2 * Q) ∧ (unr A Q % 4 = 3 ↔ 2 * Q < r) := by
  obtain ⟨F, hF⟩ : ∃ F, F = A / Q := ⟨_, rfl⟩
  obtain ⟨t, ht⟩ : ∃ t, t = A % Q := ⟨_, rfl⟩
  have e := Nat.div_add_mod A Q
  rw [← hF, ← ht] at e
  have bt : t < Q := by rw [ht]; exact Nat.mod_lt _ hQ
  obtain ⟨k, hk⟩ : ∃ k, k = F / 4 := ⟨_, rfl⟩
  obtain ⟨f, hf⟩ : ∃ f, f = F % 4 := ⟨_, rfl⟩
  have eF : F = 4 * k + f := by omega
  have eQ : Q * F = 4 * Q * k + Q * f := by rw [eF, Nat.mul_add, ← Nat.mul_assoc, Nat.mul_comm Q 4]
  have hf4 : f = 0 ∨ f = 1 ∨ f = 2 ∨ f = 3 := by omega
  have hu : unr A Q = if t = 0 then F else F / 2 * 2 + 1 := by unfold unr; rw [← hF, ← ht]
  refine ⟨k, Q * f + t, by omega, ?_, ?_, ?_, ?_, ?_, ?_⟩
  all_goals rcases hf4 with rfl | rfl | rfl | rfl
  all_goals try rw [hu]
  all_goals try split
  all_goals omega
/-- rounded to the nearest, between two to the even one -/
def rnd (u : Nat) : Nat := (u + 1 + u / 4 % 2) / 4
theorem r_round (A Q : Nat) (hQ : 0 < Q) : 2 * (rnd (unr A Q) * (4 * Q)) ≤ 2 * A + 4 * Q ∧ 2 * A ≤ 2 * (rnd (unr A Q) * (4 * Q)) + 4 * Q ∧
    ((2 * (rnd (unr A Q) * (4 * Q)) = 2 * A + 4 * Q ∨ 2 * A = 2 * (rnd (unr A Q) * (4 * Q)) + 4 * Q) → rnd (unr A Q) % 2 = 0) := by
  obtain ⟨k, r, e, hr, h, h0, h1, h2, h3⟩ := unr_parts A Q hQ
  obtain ⟨P, hP⟩ : ∃ P, P = 4 * Q := ⟨_, rfl⟩
  rw [← hP] at e hr ⊢
  have hm : unr A Q % 4 = 0 ∨ unr A Q % 4 = 1 ∨ unr A Q % 4 = 2 ∨ unr A Q % 4 = 3 := by omega
  have ek : (k + 1) * P = k * P + P := by rw [Nat.add_mul, Nat.one_mul]
  rw [Nat.mul_comm P k] at e
  unfold rnd
  rcases hm with m | m | m | m
  · have hr0 := h0.1 m
    have : (unr A Q + 1 + unr A Q / 4 % 2) / 4 = k := by omega
    rw [this]
    omega
  · have hr1 := h1.1 m
    have : (unr A Q + 1 + unr A Q / 4 % 2) / 4 = k := by omega
    rw [this]
    omega
  · have hr2 := h2.1 m
    by_cases hk : k % 2 = 0
    · have : (unr A Q + 1 + unr A Q / 4 % 2) / 4 = k := by omega
      rw [this]
      omega
    · have : (unr A Q + 1 + unr A Q / 4 % 2) / 4 = k + 1 := by omega
      rw [this, ek]
      omega
  · have hr3 := h3.1 m
    have : (unr A Q + 1 + unr A Q / 4 % 2) / 4 = k + 1 := by omega
    rw [this, ek]
    omega
end Go.Proofs.YtcbgkbidgpemfaaGreatDoor.fpm

/- Unrounded scaling: the model's words in plain numbers. Plain. -/
namespace Go.Proofs.YtcbgkbidgpemfaaGreatDoor.fpm
open Go Go.RowKit Go.Proofs.YtcbgkbidgpemfaaGreatDoor.prnw
theorem or_one (a : Nat) (h : a < 18446744073709551616) : bits BinOp.or IntKind.u64 (a : Int) 1 = ((a / 2 * 2 + 1 : Nat) : Int) := by
  have e : bits BinOp.or IntKind.u64 (a : Int) 1 = IntKind.u64.wrap (((BitVec.ofInt 64 (a : Int) ||| BitVec.ofInt 64 1).toNat : Nat) : Int) := rfl
  have h2 : (BitVec.ofInt 64 (a : Int)).toNat = a := by
    rw [BitVec.toNat_ofInt]
    omega
  have h3 : (BitVec.ofInt 64 1).toNat = 1 := by decide
  have h4 : a ||| 1 = a / 2 * 2 + 1 := by
    apply Nat.eq_of_testBit_eq
    intro i
    rw [Nat.testBit_or]
    cases i with
    | zero => simp [Nat.testBit_zero]
    | succ i =>
      rw [Nat.testBit_succ, Nat.testBit_succ, Nat.testBit_succ]
      rw [show (a / 2 * 2 + 1) / 2 = a / 2 by omega]
      simp
  rw [e, BitVec.toNat_or, h2, h3, h4, IntKind.wrap_u64]
  omega
theorem or_zero (a : Nat) (h : a < 18446744073709551616) : bits BinOp.or IntKind.u64 (a : Int) 0 = (a : Int) := by
  have e : bits BinOp.or IntKind.u64 (a : Int) 0 = IntKind.u64.wrap (((BitVec.ofInt 64 (a : Int) ||| BitVec.ofInt 64 0).toNat : Nat) : Int) := rfl
  have h2 : (BitVec.ofInt 64 (a : Int)).toNat = a := by
    rw [BitVec.toNat_ofInt]
    omega
  have h3 : (BitVec.ofInt 64 0).toNat = 0 := by decide
  rw [e, BitVec.toNat_or, h2, h3, Nat.or_zero, IntKind.wrap_u64]
  omega
theorem us_eq (x hi lo s : Nat) (hx : x < 18446744073709551616) (hh : 9223372036854775808 ≤ hi) (hh2 : hi < 18446744073709551616) (hl : lo < 18446744073709551616) (hs : s < 64) : usI x hi lo (s : Int) = (usN x hi lo s : Int) := by
  have hk := toNat_bits63 (s : Int) (by omega) (by omega)
  unfold usI usN
  rw [hk, Int.toNat_natCast]
  have bH : x * hi / 18446744073709551616 < 18446744073709551616 := by
    have h1 : x * hi < 18446744073709551616 * 18446744073709551616 := Nat.mul_lt_mul_of_lt_of_lt hx hh2
    exact Nat.div_lt_of_lt_mul h1
  have bL : x * lo / 18446744073709551616 < 18446744073709551616 := by
    have h1 : x * lo < 18446744073709551616 * 18446744073709551616 := Nat.mul_lt_mul_of_lt_of_lt hx hl
    exact Nat.div_lt_of_lt_mul h1
  have bL2 : x * lo / 18446744073709551616 + 2 ≤ 18446744073709551616 := by
    have h1 : x * lo ≤ 18446744073709551615 * 18446744073709551615 := Nat.mul_le_mul (by omega) (by omega)
    omega
  have hHL : x * hi / 18446744073709551616 = 0 → ¬ x * hi % 18446744073709551616 < x * lo / 18446744073709551616 := by
    intro h0 h1
    have h2 : x * lo ≤ x * 18446744073709551615 := Nat.mul_le_mul_left x (by omega)
    have h3 : x * 9223372036854775808 ≤ x * hi := Nat.mul_le_mul_left x hh
    omega
  obtain ⟨H, hH⟩ : ∃ H, H = x * hi / 18446744073709551616 := ⟨_, rfl⟩
  obtain ⟨M, hM⟩ : ∃ M, M = x * hi % 18446744073709551616 := ⟨_, rfl⟩
  obtain ⟨L, hL⟩ : ∃ L, L = x * lo / 18446744073709551616 := ⟨_, rfl⟩
  have bM : M < 18446744073709551616 := by rw [hM]; exact Nat.mod_lt _ (by decide)
  rw [← hH] at bH
  rw [← hL] at bL bL2
  rw [← hH, ← hM, ← hL] at hHL ⊢
  have e2 : ((2 : Int) ^ s) = ((2 ^ s : Nat) : Int) := by norm_cast
  obtain ⟨z, hz⟩ : ∃ z, z = 2 ^ s := ⟨_, rfl⟩
  have pz : 0 < z := by rw [hz]; exact Nat.two_pow_pos s
  rw [e2, ← hz]
  have d1 : ((H : Int) / (z : Int)) = ((H / z : Nat) : Int) := by norm_cast
  have d2 : (((H / z : Nat) : Int) * (z : Int)) = ((H / z * z : Nat) : Int) := by norm_cast
  have dm := Nat.div_add_mod H z
  rw [Nat.mul_comm] at dm
  have bz : H / z ≤ H := Nat.div_le_self _ _
  have hw : IntKind.u64.wrap (((H / z * z : Nat) : Int)) = ((H / z * z : Nat) : Int) := by rw [IntKind.wrap_u64]; omega
  rw [d1, d2, hw]
  by_cases c1 : H % z = 0
  · rw [if_neg (by rw [bne_iff_ne]; intro h; apply h; omega), if_neg (show ¬ (H % z ≠ 0) from fun h => h c1)]
    by_cases c2 : M < L
    · have hH0 : H ≠ 0 := fun h => hHL h c2
      rw [if_pos c2, if_pos c2]
      have e3 : IntKind.u64.wrap ((H : Int) - 1) = ((H - 1 : Nat) : Int) := by rw [IntKind.wrap_u64]; omega
      have e4 : (((H - 1 : Nat) : Int) / (z : Int)) = (((H - 1) / z : Nat) : Int) := by norm_cast
      have b4 : (H - 1) / z ≤ H - 1 := Nat.div_le_self _ _
      have e5 : (1 : Int) < IntKind.u64.wrap ((M : Int) - (L : Int)) := by rw [IntKind.wrap_u64]; omega
      rw [e3, e4, if_pos e5, or_one _ (by omega)]
    · rw [if_neg c2, if_neg c2]
      have e3 : IntKind.u64.wrap ((H : Int) - 0) = (H : Int) := by rw [IntKind.wrap_u64]; omega
      have e5 : IntKind.u64.wrap ((M : Int) - (L : Int)) = (M : Int) - (L : Int) := by rw [IntKind.wrap_u64]; omega
      rw [e3, d1, e5]
      by_cases c3 : L + 1 < M
      · rw [if_pos (by omega), if_pos c3, or_one _ (by omega)]
      · rw [if_neg (by omega), if_neg c3, or_zero _ (by omega)]
  · rw [if_pos (by rw [bne_iff_ne]; intro h; apply c1; omega), if_pos (show H % z ≠ 0 from c1), or_one _ (by omega)]
theorem round_eq (u : Nat) (h : u < 9223372036854775808) : roundI (u : Int) = (rnd u : Int) := by
  unfold roundI rnd
  have e1 : IntKind.u64.wrap ((u : Int) + 1) = ((u + 1 : Nat) : Int) := by rw [IntKind.wrap_u64]; omega
  have e2 : bits BinOp.and IntKind.u64 ((u : Int) / 4) 1 = ((u / 4 % 2 : Nat) : Int) := by
    have := and_mask .u64 (.inr rfl) (u / 4) 1 (by omega) (by decide)
    have e : ((u : Int) / 4) = ((u / 4 : Nat) : Int) := by norm_cast
    rw [e]
    exact this
  rw [e1, e2, IntKind.wrap_u64]
  omega
theorem nd_id (P : Int) (h0 : -348 ≤ P) (i : Nat) (hi : i = (P + 348).toNat) (lp : Int) (hlp : lp = P * 108853 / 32768) :
    nT i * 10 ^ (-P).toNat * 2 ^ (lp - 127).toNat = dT i * 10 ^ P.toNat * 2 ^ (127 - lp).toNat := by
  have hl : lpT i = lp := by
    unfold lpT
    rw [hlp]
    congr 2
    omega
  unfold nT dT
  rw [hl]
  by_cases h : 348 ≤ i
  · rw [if_pos h, if_pos h, show i - 348 = P.toNat by omega, show (-P).toNat = 0 by omega, Nat.pow_zero, Nat.mul_one]
    ac_rfl
  · rw [if_neg h, if_neg h, show 348 - i = (-P).toNat by omega, show P.toNat = 0 by omega, show (lp - 127).toNat = 0 by omega, Nat.pow_zero, Nat.mul_one]
    ac_rfl
end Go.Proofs.YtcbgkbidgpemfaaGreatDoor.fpm

/- Unrounded scaling of a decimal's digits, rounded: the nearest float. Plain. -/
namespace Go.Proofs.YtcbgkbidgpemfaaGreatDoor.fpm
open Go Go.RowKit Go.Proofs.YtcbgkbidgpemfaaGreatDoor.prnw

/-- the table's fractions lie between 2^127 and (1 - 2^-12) 2^128 -/
def ndB (i : Nat) : Bool := decide (dT i * 170141183460469231731687303715884105728 ≤ nT i) && decide (nT i * 4096 ≤ dT i * 1393456292541243007882519017433090825912320)
theorem ndAll : (List.range 656).all (fun j => ndB (j + 3)) = true := by kernel_rfl
theorem nd_at (i : Nat) (h0 : 3 ≤ i) (h1 : i < 659) : dT i * 170141183460469231731687303715884105728 ≤ nT i ∧ nT i * 4096 ≤ dT i * 1393456292541243007882519017433090825912320 := by
  have := List.all_eq_true.1 ndAll (i - 3) (List.mem_range.2 (by omega))
  rw [show i - 3 + 3 = i by omega] at this
  unfold ndB at this
  simpa using this
/-- a decimal d by ten to P: its value, and the scaled one -/
theorem pq_id (P : Int) (h0 : -348 ≤ P) (i : Nat) (hi : i = (P + 348).toNat) (lp : Int) (hlp : lp = P * 108853 / 32768) (d z s t : Nat) (hs : (s : Int) = z + t - 1074 - lp - 3) :
    d * 10 ^ P.toNat * 2 ^ leB * (4 * (dT i * 2 ^ (128 + s))) = d * 2 ^ z * nT i * 2 ^ t * 10 ^ (-P).toNat := by
  have hid := nd_id P h0 i hi lp hlp
  obtain ⟨u, hu⟩ : ∃ u, u = (lp - 127).toNat := ⟨_, rfl⟩
  obtain ⟨v, hv⟩ : ∃ v, v = (127 - lp).toNat := ⟨_, rfl⟩
  rw [← hu, ← hv] at hid
  have e : 2 ^ leB * (4 * 2 ^ (128 + s)) * 2 ^ u = 2 ^ z * 2 ^ t * 2 ^ v := by
    rw [show (4 : Nat) = 2 ^ 2 by decide, ← Nat.pow_add, ← Nat.pow_add, ← Nat.pow_add, ← Nat.pow_add, ← Nat.pow_add]
    have he := leB_eq
    exact congrArg (fun y : Nat => 2 ^ y) (by omega)
  refine Nat.eq_of_mul_eq_mul_right (Nat.two_pow_pos u) ?_
  generalize 2 ^ leB = x1 at *
  generalize 2 ^ (128 + s) = x2 at *
  generalize 2 ^ u = x3 at *
  generalize 2 ^ z = x4 at *
  generalize 2 ^ t = x5 at *
  generalize 2 ^ v = x6 at *
  generalize 10 ^ P.toNat = T at *
  generalize 10 ^ (-P).toNat = T' at *
  have e1 : d * T * x1 * (4 * (dT i * x2)) * x3 = d * T * dT i * (x1 * (4 * x2) * x3) := by ac_rfl
  have e2 : d * x4 * nT i * x5 * T' * x3 = d * x4 * x5 * (nT i * T' * x3) := by ac_rfl
  rw [e1, e2, e, hid]
  ac_rfl
/-- half of an unrounded number -/
theorem unr_half (A Q : Nat) (hQ : 0 < Q) : (if unr A Q % 2 = 1 then unr A Q / 2 / 2 * 2 + 1 else unr A Q / 2) = unr A (2 * Q) := by
  have h := Nat.div_add_mod A Q
  have hm := Nat.mod_lt A hQ
  obtain ⟨F, hF⟩ : ∃ F, F = A / Q := ⟨_, rfl⟩
  obtain ⟨m, hm2⟩ : ∃ m, m = A % Q := ⟨_, rfl⟩
  rw [← hF, ← hm2] at h
  rw [← hm2] at hm
  have e1 : A / (2 * Q) = F / 2 := by rw [Nat.mul_comm, ← Nat.div_div_eq_div_mul, ← hF]
  have e2 : A % (2 * Q) = 0 ↔ (m = 0 ∧ F % 2 = 0) := by
    have h2 := Nat.div_add_mod A (2 * Q)
    rw [e1] at h2
    have hq : 2 * Q * (F / 2) = Q * (F / 2 * 2) := by rw [Nat.mul_comm 2 Q, Nat.mul_assoc, Nat.mul_comm 2]
    rcases Nat.mod_two_eq_zero_or_one F with hf | hf
    · have hF2 : F / 2 * 2 = F := by omega
      rw [hq, hF2] at h2
      omega
    · have hF2 : F = F / 2 * 2 + 1 := by omega
      have : Q * F = Q * (F / 2 * 2) + Q := by rw [hF2, Nat.mul_add, Nat.mul_one, ← hF2]
      rw [hq] at h2
      omega
  unfold unr
  rw [← hF, ← hm2, e1]
  by_cases h0 : m = 0
  · rw [if_pos h0]
    rcases Nat.mod_two_eq_zero_or_one F with hf | hf
    · rw [if_neg (by omega), if_pos (e2.2 ⟨h0, hf⟩)]
    · rw [if_pos hf, if_neg (fun h => by have := (e2.1 h).2; omega)]
  · rw [if_neg h0, if_pos (by omega), if_neg (fun h => h0 (e2.1 h).1)]
    omega
theorem rnd_spec (A Q : Nat) (hQ : 0 < Q) : 2 * (rnd (unr A Q) * (4 * Q)) ≤ 2 * A + 4 * Q ∧ 2 * A ≤ 2 * (rnd (unr A Q) * (4 * Q)) + 4 * Q ∧
    (rnd (unr A Q) % 2 = 1 → 2 * (rnd (unr A Q) * (4 * Q)) < 2 * A + 4 * Q ∧ 2 * A < 2 * (rnd (unr A Q) * (4 * Q)) + 4 * Q) := by
  obtain ⟨a, b, c⟩ := r_round A Q hQ
  exact ⟨a, b, fun h => by omega⟩
theorem rnd_big (u : Nat) : 36028797018963966 ≤ u ↔ 9007199254740992 ≤ rnd u := by
  unfold rnd
  omega
theorem pf_core (A B N Q t : Nat) (hB : 0 < B) (hQ : 0 < Q) (hq : A * 2 ^ leB * (4 * Q) = N * 2 ^ t * B) (hn : t = 0 ∨ 4503599627370496 * (4 * Q) ≤ N) (hu : N + 4 * Q < 18014398509481984 * (4 * Q)) :
    (¬ 36028797018963966 ≤ unr N Q → Near (t * 4503599627370496 + rnd (unr N Q)) A B ∧ rnd (unr N Q) < 9007199254740992 ∧ (t = 0 ∨ 4503599627370496 ≤ rnd (unr N Q))) ∧
    (36028797018963966 ≤ unr N Q → Near ((t + 1) * 4503599627370496 + rnd (unr N (2 * Q))) A B ∧ rnd (unr N (2 * Q)) < 9007199254740992 ∧ 4503599627370496 ≤ rnd (unr N (2 * Q))) := by
  obtain ⟨D, hD⟩ : ∃ D, D = 4 * Q := ⟨_, rfl⟩
  have hD0 : 0 < D := by omega
  obtain ⟨a, b, c⟩ := rnd_spec N Q hQ
  obtain ⟨a', b', c'⟩ := rnd_spec N (2 * Q) (by omega)
  have hD2 : 4 * (2 * Q) = 2 * D := by omega
  rw [hD2] at a' b' c'
  rw [← hD] at a b c hq hn hu
  have hbig := rnd_big (unr N Q)
  obtain ⟨R, hR⟩ : ∃ R, R = rnd (unr N Q) := ⟨_, rfl⟩
  obtain ⟨R', hR'⟩ : ∃ R', R' = rnd (unr N (2 * Q)) := ⟨_, rfl⟩
  rw [← hR] at a b c hbig
  rw [← hR'] at a' b' c'
  rw [← hR, ← hR']
  -- comparisons of R D with multiples of D
  have le_of : ∀ x y : Nat, x * D ≤ y * D → x ≤ y := fun x y h => Nat.le_of_mul_le_mul_right h hD0
  have e2 : R' * (2 * D) = 2 * R' * D := by ac_rfl
  rw [e2] at a' b' c'
  constructor
  · intro h
    have hlt : R < 9007199254740992 := by omega
    refine ⟨near_mk A B D N t R hB hD0 hq a b c (by omega) hn, hlt, hn.imp_right fun h1 => ?_⟩
    refine Nat.le_of_not_lt fun hl => ?_
    have : R * D ≤ 4503599627370495 * D := Nat.mul_le_mul_right _ (by omega)
    omega
  · intro h
    have hge : 9007199254740992 ≤ R := hbig.1 h
    have hRD : 9007199254740992 * D ≤ R * D := Nat.mul_le_mul_right _ hge
    have hR'lt : R' < 9007199254740992 := by
      refine Nat.lt_of_not_le fun hl => ?_
      have h1 : 2 * 9007199254740992 * D ≤ 2 * R' * D := Nat.mul_le_mul_right _ (by omega)
      omega
    have hR'ge : 4503599627370496 ≤ R' := by
      refine Nat.le_of_not_lt fun hl => ?_
      have h1 : 2 * R' * D ≤ 2 * 4503599627370495 * D := Nat.mul_le_mul_right _ (by omega)
      omega
    refine ⟨?_, hR'lt, hR'ge⟩
    by_cases hv : N < 9007199254740992 * D
    · have hR1 : R = 9007199254740992 := by
        refine Nat.le_antisymm (Nat.le_of_not_lt fun hl => ?_) hge
        have h1 : 9007199254740993 * D ≤ R * D := Nat.mul_le_mul_right _ hl
        omega
      have hR2 : R' = 4503599627370496 := by
        refine Nat.le_antisymm (Nat.le_of_not_lt fun hl => ?_) hR'ge
        have h1 : 2 * 4503599627370497 * D ≤ 2 * R' * D := Nat.mul_le_mul_right _ (by omega)
        omega
      have hX : (t + 1) * 4503599627370496 + R' = t * 4503599627370496 + R := by omega
      rw [hX]
      exact near_mk A B D N t R hB hD0 hq a b c (by omega) hn
    · refine near_mk A B (2 * D) N (t + 1) R' hB (by omega) ?_ (by rw [e2]; exact a') (by rw [e2]; exact b') (fun h => by rw [e2]; exact c' h) (by omega) (.inr (by omega))
      rw [Nat.pow_succ]
      generalize 2 ^ leB = y at *
      generalize 2 ^ t = y2 at *
      have e3 : A * y * (2 * D) = A * y * D * 2 := by ac_rfl
      rw [e3, hq]
      ac_rfl
/-- a decimal d by ten to P, scaled by the table's row: too small for any float but nought -/
theorem pf_zero (P : Int) (h0 : -345 ≤ P) (h1 : P ≤ 310) (lp : Int) (hlp : lp = P * 108853 / 32768) (d z s : Nat) (hx : d * 2 ^ z < 18446744073709551616) (hs : (s : Int) = z - 1074 - lp - 3) (hs2 : 64 ≤ s) :
    Near 0 (d * 10 ^ P.toNat) (10 ^ (-P).toNat) := by
  obtain ⟨i, hi⟩ : ∃ i, i = (P + 348).toNat := ⟨_, rfl⟩
  obtain ⟨n1, n2⟩ := nd_at i (by omega) (by omega)
  have hq := pq_id P (by omega) i hi lp hlp d z s 0 (by omega)
  have hdT := dT_pos i
  obtain ⟨g, hg⟩ : ∃ g, s = 64 + g := ⟨s - 64, by omega⟩
  have hQ : 0 < dT i * 2 ^ (128 + s) := Nat.mul_pos hdT (Nat.two_pow_pos _)
  have hN : d * 2 ^ z * nT i ≤ dT i * 2 ^ (128 + s) := by
    have e1 : (2 : Nat) ^ (128 + s) = 6277101735386680763835789423207666416102355444464034512896 * 2 ^ g := by
      rw [hg, show 128 + (64 + g) = 192 + g by omega, Nat.pow_add]
    have k1 : d * 2 ^ z * nT i ≤ 18446744073709551616 * nT i := Nat.mul_le_mul_right _ (by omega)
    have k2 : dT i * 6277101735386680763835789423207666416102355444464034512896 ≤ dT i * 2 ^ (128 + s) := by
      rw [e1]
      exact Nat.mul_le_mul_left _ (Nat.le_mul_of_pos_right _ (Nat.two_pow_pos g))
    omega
  have := near_mk (d * 10 ^ P.toNat) (10 ^ (-P).toNat) (4 * (dT i * 2 ^ (128 + s))) (d * 2 ^ z * nT i) 0 0 (Nat.pow_pos (by decide)) (by omega) (by rw [hq]) (by omega) (by omega) (fun h => by omega) (by omega) (.inl rfl)
  exact this
/-- .. and else -/
theorem pf_near (P : Int) (h0 : -345 ≤ P) (h1 : P ≤ 310) (lp : Int) (hlp : lp = P * 108853 / 32768) (d z s t : Nat) (hx0 : 9223372036854775808 ≤ d * 2 ^ z) (hx : d * 2 ^ z < 18446744073709551616)
    (hs : (s : Int) = z + t - 1074 - lp - 3) (hs8 : 8 ≤ s) (ht : t = 0 ∨ s = 8) (u : Nat) (hu : u = usN (d * 2 ^ z) (hiT (P + 348).toNat) (loT (P + 348).toNat) s) :
    (¬ 36028797018963966 ≤ u → Near (t * 4503599627370496 + rnd u) (d * 10 ^ P.toNat) (10 ^ (-P).toNat) ∧ rnd u < 9007199254740992 ∧ (t = 0 ∨ 4503599627370496 ≤ rnd u)) ∧
    (36028797018963966 ≤ u → Near ((t + 1) * 4503599627370496 + rnd (if u % 2 = 1 then u / 2 / 2 * 2 + 1 else u / 2)) (d * 10 ^ P.toNat) (10 ^ (-P).toNat) ∧ rnd (if u % 2 = 1 then u / 2 / 2 * 2 + 1 else u / 2) < 9007199254740992 ∧ 4503599627370496 ≤ rnd (if u % 2 = 1 then u / 2 / 2 * 2 + 1 else u / 2)) := by
  obtain ⟨i, hi⟩ : ∃ i, i = (P + 348).toNat := ⟨_, rfl⟩
  rw [← hi] at hu
  obtain ⟨n1, n2⟩ := nd_at i (by omega) (by omega)
  have hq := pq_id P (by omega) i hi lp hlp d z s t hs
  have hdT := dT_pos i
  rw [us_parse i s (d * 2 ^ z) (by omega) (by omega) hs8 hx0 hx] at hu
  have hQ : 0 < dT i * 2 ^ (128 + s) := Nat.mul_pos hdT (Nat.two_pow_pos _)
  obtain ⟨g, hg⟩ : ∃ g, s = 8 + g := ⟨s - 8, by omega⟩
  have e1 : (2 : Nat) ^ (128 + s) = 87112285931760246646623899502532662132736 * 2 ^ g := by
    rw [hg, show 128 + (8 + g) = 136 + g by omega, Nat.pow_add]
  have hn : t = 0 ∨ 4503599627370496 * (4 * (dT i * 2 ^ (128 + s))) ≤ d * 2 ^ z * nT i := by
    refine ht.imp_right fun h => ?_
    have hg0 : g = 0 := by omega
    rw [e1, hg0, Nat.pow_zero, Nat.mul_one]
    have k1 : 9223372036854775808 * nT i ≤ d * 2 ^ z * nT i := Nat.mul_le_mul_right _ hx0
    omega
  have hb : d * 2 ^ z * nT i + 4 * (dT i * 2 ^ (128 + s)) < 18014398509481984 * (4 * (dT i * 2 ^ (128 + s))) := by
    have k1 : d * 2 ^ z * nT i ≤ 18446744073709551616 * nT i := Nat.mul_le_mul_right _ (by omega)
    have k2 : dT i * 87112285931760246646623899502532662132736 ≤ dT i * 2 ^ (128 + s) := by
      rw [e1]
      exact Nat.mul_le_mul_left _ (Nat.le_mul_of_pos_right _ (Nat.two_pow_pos g))
    omega
  rw [hu, unr_half _ _ hQ]
  exact pf_core _ _ _ _ t (Nat.pow_pos (by decide)) hQ hq hn hb
end Go.Proofs.YtcbgkbidgpemfaaGreatDoor.fpm

/- The walk of strconv's parseFloat64. Conditions: as the theorem states. -/
namespace Go.Proofs.YtcbgkbidgpemfaaGreatDoor.rdf
open Go.RowKit
open Go.Proofs.YtcbgkbidgpemfaaGreatDoor.bsw
open Go.Proofs.YtcbgkbidgpemfaaGreatDoor.prnw
open Go.Proofs.YtcbgkbidgpemfaaGreatDoor.dcw
open Go.Proofs.YtcbgkbidgpemfaaGreatDoor.dmx
open Go.Proofs.YtcbgkbidgpemfaaGreatDoor.fpm

theorem b2i (b : Bool) (w : World) : Calls Tryz.prog 211 #[.bool b] w (Same w (.int .i64 (if b then 1 else 0))) := by
  go_enter Tryz.func211, Tryz.ntmps211
  cases b
  all_goals go_wp2
  all_goals go_ret
  all_goals exact ⟨rfl, rfl⟩
theorem unmin_53 (w : World) : Calls Tryz.prog 226 #[.int .u64 9007199254740992] w (Same w (.int .u64 36028797018963966)) := by
  go_enter Tryz.func226, Tryz.ntmps226
  go_wp2
  go_ret
  exact ⟨rfl, rfl⟩
/-- a world later, with nothing of the old changed, and an answer -/
def PfPost (w : World) (v : Value) (e : Ending) (w' : World) : Prop := e = .returned v ∧ Below w.heap.size w w'
/-- the places that parseFloat64 works out -/
theorem pf_parts (d : Nat) (P lp e : Int) (hd0 : 0 < d) (hd : d < 18446744073709551616) (hP0 : -345 ≤ P) (hP1 : P ≤ 310) (hlp : lp = P * 108853 / 32768) (he : e = min 1074 (53 - (Lib.bitLen d : Int) - lp)) :
    ∃ b z t : Nat, ∃ s : Int, Lib.bitLen d = b ∧ 1 ≤ b ∧ b ≤ 64 ∧ z = 64 - b ∧ 9223372036854775808 ≤ d * 2 ^ z ∧ d * 2 ^ z < 18446744073709551616 ∧ e = 1074 - (t : Int) ∧ s = (z : Int) + t - 1074 - lp - 3 ∧ s = -(e - (64 - (b : Int)) + lp + 3) ∧ 8 ≤ s ∧ (t = 0 ∨ s = 8) ∧ t ≤ 2199 ∧ -1200 ≤ lp ∧ lp ≤ 1100 := by
  obtain ⟨b1, b2, b3, b4⟩ := bl_bd 64 d (by omega) hd0
  change 1 ≤ Lib.bitLen d at b1
  change Lib.bitLen d ≤ 64 at b2
  change 2 ^ (Lib.bitLen d - 1) ≤ d at b3
  change d < 2 ^ Lib.bitLen d at b4
  obtain ⟨b, hb⟩ : ∃ b, Lib.bitLen d = b := ⟨_, rfl⟩
  rw [hb] at b1 b2 b3 b4 he
  have hl : -1200 ≤ lp ∧ lp ≤ 1100 := by omega
  refine ⟨b, 64 - b, (1074 - e).toNat, ((64 - b : Nat) : Int) + (1074 - e).toNat - 1074 - lp - 3, hb, b1, b2, rfl, ?_, ?_, by omega, rfl, by omega, by omega, by omega, by omega, hl.1, hl.2⟩
  · have h1 := Nat.mul_le_mul_right (2 ^ (64 - b)) b3
    rw [← Nat.pow_add, show b - 1 + (64 - b) = 63 by omega] at h1
    exact Nat.le_trans (by decide) h1
  · have h1 := Nat.mul_lt_mul_of_pos_right b4 (Nat.two_pow_pos (64 - b))
    rw [← Nat.pow_add, show b + (64 - b) = 64 by omega] at h1
    exact Nat.lt_of_lt_of_le h1 (by decide)
/-- a sign and what lies below it -/
theorem orS (neg : Bool) (R : Nat) (hR : R < 9007199254740992) : bits BinOp.or IntKind.u64 ((sgn neg 0 : Nat) : Int) (R : Int) = ((sgn neg R : Nat) : Int) := by
  have e : bits BinOp.or IntKind.u64 ((sgn neg 0 : Nat) : Int) (R : Int) = IntKind.u64.wrap (((BitVec.ofInt 64 ((sgn neg 0 : Nat) : Int) ||| BitVec.ofInt 64 (R : Int)).toNat : Nat) : Int) := rfl
  have hs : sgn neg 0 < 18446744073709551616 := by unfold sgn; split <;> omega
  have hs2 : sgn neg R < 18446744073709551616 := by unfold sgn; split <;> omega
  have p63 : (2 : Nat) ^ 63 = 9223372036854775808 := by decide
  have h4 : sgn neg 0 ||| R = sgn neg R := by
    cases neg with
    | true =>
      show 9223372036854775808 + 0 ||| R = 9223372036854775808 + R
      rw [Nat.add_zero, ← p63]
      have h1 := Nat.two_pow_add_eq_or_of_lt (i := 63) (b := R) (by rw [p63]; omega) 1
      rw [Nat.mul_one] at h1
      exact h1.symm
    | false => exact Nat.zero_or R
  rw [e, BitVec.toNat_or, bv_nat _ hs, bv_nat _ (by omega), h4, IntKind.wrap_u64]
  omega
theorem and_one (a : Nat) (h : a < 18446744073709551616) : bits BinOp.and IntKind.u64 (a : Int) 1 = ((a % 2 : Nat) : Int) := and_mask64 a 1 h (by decide)
attribute [local go_sem] ifrombits_run
set_option maxRecDepth 100000 in
set_option maxHeartbeats 2000000 in
theorem pf64_any (neg : Bool) (d i : Nat) (hd0 : 0 < d) (hd : d < 18446744073709551616) (hi0 : 3 ≤ i) (hi1 : i ≤ 658) (w : World) (hT : PT hiT loT w) (hB : 8 < w.heap.size) :
    Calls Tryz.prog 254 #[.int .u64 (d : Nat), .int .i64 ((i : Int) - 348), .int .u64 ((sgn neg 0 : Nat) : Int)] w (PfPost w (pkV neg (nearX (d * 10 ^ ((i : Int) - 348).toNat) (10 ^ (-((i : Int) - 348)).toNat)))) := by
  obtain ⟨lp, hlp⟩ : ∃ lp : Int, lp = ((i : Int) - 348) * 108853 / 32768 := ⟨_, rfl⟩
  obtain ⟨e, he⟩ : ∃ e : Int, e = min 1074 (53 - (Lib.bitLen d : Int) - lp) := ⟨_, rfl⟩
  obtain ⟨b, z, t, s, p1, p2, p3, p4, p5, p6, p7, p8, p9, p10, p11, p12, p13, p14⟩ := pf_parts d ((i : Int) - 348) lp e hd0 hd (by omega) (by omega) hlp he
  have CL := fun W => Tryz.bits_Len64 (d : Int) W (by omega) (by omega)
  rw [Int.toNat_natCast, p1] at CL
  have C2 := fun W => l2_any ((i : Int) - 348) (by omega) (by omega) W
  rw [← hlp] at C2
  have HL := Lib.hid (And.intro CL C2)
  rw [p1] at he
  have HE := Lib.hid he
  have HP := Lib.hid (And.intro p4 (And.intro p5 (And.intro p6 (And.intro p7 (And.intro p8 (And.intro p9 (And.intro p10 (And.intro p11 p12))))))))
  have b0 : (1 : Int) ≤ (b : Int) := by omega
  have b9 : (b : Int) ≤ 64 := by omega
  have HT := Lib.hid (And.intro hT hB)
  have HLP := Lib.hid hlp
  clear CL C2 he p1 p4 p5 p6 p7 p8 p9 p10 p11 p12 hT hB hlp
  go_enter Tryz.func254, Tryz.ntmps254
  go_upto_region 3 with (first | (go_at_call 186; (with_reducible refine (HL.out.1 _).mono ?_); rintro e w' ⟨rfl, hw'⟩; obtain rfl := hw'.symm) | (go_at_call 220; (with_reducible refine (HL.out.2 _).mono ?_); rintro e w' ⟨rfl, hw'⟩; obtain rfl := hw'.symm))
  have hmin : min (1074 : Int) (53 - (b : Int) - lp) = e := HE.out.symm
  go_upto_region 5 with (fail)
  obtain ⟨W0, hW0⟩ : ∃ W0, W0 = w.alloc (.cells #[.int .u64 0, .int .u64 0, .int .i64 0] 258) := ⟨_, rfl⟩
  rw [← hW0]
  have hbw : Below w.heap.size w W0 := by rw [hW0]; exact (Below.refl _ _).alloc (Nat.le_refl _) _
  have hsc : SC W0 w.heap.size 0 0 0 := by rw [hW0]; exact heap_at w _ _ rfl
  have hpt : PT hiT loT W0 := fun k hk => by
    obtain ⟨a1, a2, a3, a4⟩ := HT.out.1 k hk
    exact ⟨a1, a2, (hbw.cell (p := ⟨8, k * 2, none⟩) HT.out.2).trans a3, (hbw.cell (p := ⟨8, k * 2 + 1, none⟩) HT.out.2).trans a4⟩
  have hp := HP.out
  have CP := prescale_any hiT loT w.heap.size (e - (64 - (b : Int))) i lp (by omega) (by omega) (by omega) (by omega) (by omega) 0 0 0 W0 hpt (by have := HT.out.2; omega) hsc
  rw [← hp.2.2.2.2.2.1] at CP
  have HC := Lib.hid CP
  have e0 : -1200 ≤ e := by omega
  have e9 : e ≤ 1074 := by omega
  have HBW := Lib.hid hbw
  clear CP hbw hsc hpt hp hW0 hmin
  go_upto_region 6 with (go_at_call 219; (with_reducible refine HC.out.mono ?_); rintro e w1 ⟨rfl, hs1, hg1⟩; have HS1 := Lib.hid (And.intro hs1 hg1); clear hs1 hg1)
  have d2 : w1.cell? ⟨w.heap.size, 2, none⟩ = some (.int .i64 s) := by rw [cell_of_row _ _ _ _ _ _ HS1.out.1]; rfl
  have hbel : Below w.heap.size w w1 := HBW.out.grown HS1.out.2 HBW.out.size (fun k e => by obtain rfl := Option.some.inj e; exact Nat.le_refl _)
  have HBL := Lib.hid hbel
  clear hbel
  by_cases h64 : 64 ≤ s
  · have t1 : decide (64 ≤ s) = true := decide_eq_true h64
    have b1 : bits BinOp.or IntKind.u64 ((sgn neg 0 : Nat) : Int) 0 = ((sgn neg 0 : Nat) : Int) := by cases neg <;> decide +kernel
    obtain ⟨q4, q5, q6, q7, q8, q9, q10, q11, q12⟩ := HP.out
    have hz := pf_zero ((i : Int) - 348) (by omega) (by omega) lp HLP.out d z s.toNat q6 (by omega) (by omega)
    have hn := near_eq (Nat.pow_pos (by decide)) hz
    have hv : pkV neg (nearX (d * 10 ^ ((i : Int) - 348).toNat) (10 ^ (-((i : Int) - 348)).toNat)) = .tuple #[.float .f64 (sgn neg 0), .nilIface] := by
      rw [← hn]
      unfold pkV infX
      rw [Nat.min_eq_left (by decide), if_neg (by decide)]
    rw [hv]
    obtain ⟨m, hm⟩ : ∃ m, sgn neg 0 = m := ⟨_, rfl⟩
    rw [hm] at b1 hv ⊢
    clear hm hn hz q4 q5 q6 q7 q8 q9 q10 q11 q12 h64
    go_wp2_with fail
    go_ret2
    exact ⟨by rw [hv]; rfl, HBL.out⟩
  · have t1 : decide (64 ≤ s) = false := decide_eq_false h64
    obtain ⟨q4, q5, q6, q7, q8, q9, q10, q11, q12⟩ := HP.out
    obtain ⟨S, hS⟩ : ∃ S : Nat, s = (S : Int) := ⟨s.toNat, by omega⟩
    subst hS
    obtain ⟨r1, r2, r3, r4, r5⟩ := row_spec i (by omega)
    have hN := pf_near ((i : Int) - 348) (by omega) (by omega) lp HLP.out d z S t q5 q6 (by omega) (by omega) (by omega) _ rfl
    rw [show ((i : Int) - 348 + 348).toNat = i by omega] at hN
    obtain ⟨x, hx⟩ : ∃ x, d * 2 ^ z = x := ⟨_, rfl⟩
    rw [hx] at q5 q6 hN
    have CU := uscale_any x (hiT i) (loT i) S q6 r2 r3 w.heap.size w1 HS1.out.1
    rw [us_eq x (hiT i) (loT i) S q6 r1 r2 r3 (by omega)] at CU
    obtain ⟨u, hu⟩ : ∃ u, u = usN x (hiT i) (loT i) S := ⟨_, rfl⟩
    rw [← hu] at CU hN
    have HU := Lib.hid CU
    have HN := Lib.hid hN
    have k0 : (64 : Int) - (b : Int) = (z : Int) := by omega
    have k1 : IntKind.u64.wrap ((d : Int) * 2 ^ z) = (x : Int) := by
      rw [show (d : Int) * 2 ^ z = ((d * 2 ^ z : Nat) : Int) by norm_cast, hx, IntKind.wrap_u64]
      omega
    have z0 : (0 : Int) ≤ (z : Int) := by omega
    have z9 : (z : Int) ≤ 63 := by omega
    clear CU hN hu r1 r2 r3 r4 r5 q4 q5 q6 q7 q8 q9 q10 q11 q12
    go_upto_region 9 with (go_at_call 221; (with_reducible refine HU.out.mono ?_); rintro e w2 ⟨rfl, n, hw2⟩; have HW2 := Lib.hid hw2; clear hw2)
    have hu9 : u < 9223372036854775808 := by
      by_cases hc : 36028797018963966 ≤ u
      · have := (HN.out.2 hc).2.1
        unfold rnd at this
        split at this <;> omega
      · omega
    have u0 : (0 : Int) ≤ (u : Int) := by omega
    have u9 : (u : Int) < 9223372036854775808 := by omega
    have hbelow : Below w.heap.size w w2 := by
      rw [HW2.out]
      exact ⟨HBL.out.os, HBL.out.tape, HBL.out.output, HBL.out.size, HBL.out.block⟩
    have HBL2 := Lib.hid hbelow
    have hA0 := and_one u (by omega)
    clear hbelow
    by_cases hc : 36028797018963966 ≤ u
    · have t2 : decide ((36028797018963966 : Int) ≤ (u : Int)) = true := decide_eq_true (by omega)
      obtain ⟨v, hv⟩ : ∃ v, v = (if u % 2 = 1 then u / 2 / 2 * 2 + 1 else u / 2) := ⟨_, rfl⟩
      have hn := HN.out.2 hc
      rw [← hv] at hn
      have hv9 : v < 9223372036854775808 := by rw [hv]; split <;> omega
      have hor : bits BinOp.or IntKind.u64 ((u : Int) / 2) (bits BinOp.and IntKind.u64 (u : Int) 1) = (v : Int) := by
        rw [hA0, show (u : Int) / 2 = ((u / 2 : Nat) : Int) by omega, hv]
        by_cases ho : u % 2 = 1
        · rw [ho, if_pos rfl]
          exact or_one _ (by omega)
        · rw [if_neg ho, show u % 2 = 0 by omega]
          exact or_zero _ (by omega)
      have hrd := fun W => round_any (v : Int) (by omega) (by omega) W
      rw [round_eq v hv9] at hrd
      obtain ⟨R, hR⟩ : ∃ R, rnd v = R := ⟨_, rfl⟩
      rw [hR] at hrd hn
      have hsg := orS neg R hn.2.1
      have hpk := fun W => pack_any neg R (t + 1) hn.2.1 (.inr hn.2.2) (by have := HP.out.2.2.2.2.2.2.2.2; omega) W
      have het : -(e - 1) = ((t + 1 : Nat) : Int) - 1074 := by have := HP.out.2.2.2.1; omega
      rw [← het, near_eq (Nat.pow_pos (by decide)) hn.1] at hpk
      obtain ⟨F, E, hFE⟩ : ∃ F E, pkV neg (nearX (d * 10 ^ ((i : Int) - 348).toNat) (10 ^ (-((i : Int) - 348)).toNat)) = .tuple #[F, E] := ⟨_, _, rfl⟩
      rw [hFE] at hpk ⊢
      have HPK := Lib.hid (And.intro hrd hpk)
      have HFE := Lib.hid hFE
      clear hrd hpk hFE hn hv hR het hA0
      go_upto_region 10 with (first | (go_at_call 226; (with_reducible refine (unmin_53 _).mono ?_); rintro e w' ⟨rfl, hw'⟩; obtain rfl := hw'.symm) | (go_at_call 211; (with_reducible refine (b2i true _).mono ?_); rintro e w' ⟨rfl, hw'⟩; obtain rfl := hw'.symm))
      go_wp2_with (first | (go_at_call 225; (with_reducible refine (HPK.out.1 _).mono ?_); rintro e w' ⟨rfl, hw'⟩; obtain rfl := hw'.symm) | (go_at_call 260; (with_reducible refine (HPK.out.2 _).mono ?_); rintro e w' ⟨rfl, hw'⟩; obtain rfl := hw'.symm))
      go_ret2
      exact ⟨by rw [HFE.out]; rfl, HBL2.out⟩
    · have t2 : decide ((36028797018963966 : Int) ≤ (u : Int)) = false := decide_eq_false (by omega)
      have hn := HN.out.1 hc
      have hor : bits BinOp.or IntKind.u64 (u : Int) (bits BinOp.and IntKind.u64 (u : Int) 1) = (u : Int) := by
        rw [hA0]
        by_cases ho : u % 2 = 1
        · rw [ho]
          refine (or_one _ (by omega)).trans ?_
          omega
        · rw [show u % 2 = 0 by omega]
          exact or_zero _ (by omega)
      have hrd := fun W => round_any (u : Int) (by omega) (by omega) W
      rw [round_eq u hu9] at hrd
      obtain ⟨R, hR⟩ : ∃ R, rnd u = R := ⟨_, rfl⟩
      rw [hR] at hrd hn
      have hsg := orS neg R hn.2.1
      have hpk := fun W => pack_any neg R t hn.2.1 hn.2.2 (Nat.le_succ_of_le HP.out.2.2.2.2.2.2.2.2) W
      have het : -e = (t : Int) - 1074 := by have := HP.out.2.2.2.1; omega
      rw [← het, near_eq (Nat.pow_pos (by decide)) hn.1] at hpk
      obtain ⟨F, E, hFE⟩ : ∃ F E, pkV neg (nearX (d * 10 ^ ((i : Int) - 348).toNat) (10 ^ (-((i : Int) - 348)).toNat)) = .tuple #[F, E] := ⟨_, _, rfl⟩
      rw [hFE] at hpk ⊢
      have HPK := Lib.hid (And.intro hrd hpk)
      have HFE := Lib.hid hFE
      clear hrd hpk hFE hn hR het hA0
      go_upto_region 10 with (first | (go_at_call 226; (with_reducible refine (unmin_53 _).mono ?_); rintro e w' ⟨rfl, hw'⟩; obtain rfl := hw'.symm) | (go_at_call 211; (with_reducible refine (b2i false _).mono ?_); rintro e w' ⟨rfl, hw'⟩; obtain rfl := hw'.symm))
      go_wp2_with (first | (go_at_call 225; (with_reducible refine (HPK.out.1 _).mono ?_); rintro e w' ⟨rfl, hw'⟩; obtain rfl := hw'.symm) | (go_at_call 260; (with_reducible refine (HPK.out.2 _).mono ?_); rintro e w' ⟨rfl, hw'⟩; obtain rfl := hw'.symm))
      go_ret2
      exact ⟨by rw [HFE.out]; rfl, HBL2.out⟩
end Go.Proofs.YtcbgkbidgpemfaaGreatDoor.rdf

/- A float's size and order, by its bits. Plain. -/
namespace Go.Proofs.YtcbgkbidgpemfaaGreatDoor.nodew
open Go.RowKit
/-- an order of float64s, by their bits -/
def fo (x y : Nat) : Option Ordering := FloatKind.f64.format.order x y
theorem fo_eq (x y : Nat) : FloatKind.f64.format.order x y = fo x y := rfl
end Go.Proofs.YtcbgkbidgpemfaaGreatDoor.nodew
namespace Go.Proofs.YtcbgkbidgpemfaaGreatDoor.flatm
open Go.Proofs.YtcbgkbidgpemfaaGreatDoor.nodew
/-- the size of a rung, in the least unit -/
def valR (r : Nat) : Nat := if r < 4503599627370496 then r else (4503599627370496 + r % 4503599627370496) * 2 ^ (r / 4503599627370496 - 1)
theorem val_low {r : Nat} (h : r < 4503599627370496) : valR r = r := if_pos h
theorem val_high {r : Nat} (h : ¬ r < 4503599627370496) : 4503599627370496 * 2 ^ (r / 4503599627370496 - 1) ≤ valR r ∧ valR r < 4503599627370496 * 2 ^ (r / 4503599627370496) ∧ 1 ≤ r / 4503599627370496 := by
  have hq : 1 ≤ r / 4503599627370496 := by omega
  have hp := Nat.two_pow_pos (r / 4503599627370496 - 1)
  have hs : (2 : Nat) ^ (r / 4503599627370496) = 2 * 2 ^ (r / 4503599627370496 - 1) := by
    conv => lhs; rw [show r / 4503599627370496 = (r / 4503599627370496 - 1) + 1 by omega]
    rw [Nat.pow_succ]; omega
  have hf : r % 4503599627370496 < 4503599627370496 := Nat.mod_lt _ (by decide)
  unfold valR
  rw [if_neg h]
  refine ⟨Nat.mul_le_mul_right _ (by omega), ?_, hq⟩
  rw [hs, ← Nat.mul_assoc]
  exact Nat.mul_lt_mul_of_pos_right (by omega) hp
theorem val_inj {r s : Nat} (h : valR r = valR s) : r = s := by
  by_cases hr : r < 4503599627370496
  · by_cases hs : s < 4503599627370496
    · rwa [val_low hr, val_low hs] at h
    · have h1 := val_high hs
      have hp := Nat.two_pow_pos (s / 4503599627370496 - 1)
      have h2 : 4503599627370496 * 1 ≤ 4503599627370496 * 2 ^ (s / 4503599627370496 - 1) := Nat.mul_le_mul_left _ hp
      rw [val_low hr] at h
      omega
  · have a1 := val_high hr
    by_cases hs : s < 4503599627370496
    · have hp := Nat.two_pow_pos (r / 4503599627370496 - 1)
      have h2 : 4503599627370496 * 1 ≤ 4503599627370496 * 2 ^ (r / 4503599627370496 - 1) := Nat.mul_le_mul_left _ hp
      rw [val_low hs] at h
      omega
    · have b1 := val_high hs
      have hq : r / 4503599627370496 = s / 4503599627370496 := by
        rcases Nat.lt_trichotomy (r / 4503599627370496) (s / 4503599627370496) with hlt | heq | hlt
        · exfalso
          have h2 : (2 : Nat) ^ (r / 4503599627370496) ≤ 2 ^ (s / 4503599627370496 - 1) := Nat.pow_le_pow_right (by decide) (by omega)
          have h3 := Nat.mul_le_mul_left 4503599627370496 h2
          omega
        · exact heq
        · exfalso
          have h2 : (2 : Nat) ^ (s / 4503599627370496) ≤ 2 ^ (r / 4503599627370496 - 1) := Nat.pow_le_pow_right (by decide) (by omega)
          have h3 := Nat.mul_le_mul_left 4503599627370496 h2
          omega
      unfold valR at h
      rw [if_neg hr, if_neg hs, hq] at h
      have := Nat.eq_of_mul_eq_mul_right (Nat.two_pow_pos _) h
      omega
theorem signed_nat (s : Bool) (m k : Nat) : Ieee.signed s m k = if s then -((m * 2 ^ k : Nat) : Int) else ((m * 2 ^ k : Nat) : Int) := by
  unfold Ieee.signed
  rw [Nat.shiftLeft_eq]
/-- what a word below infinity stands for -/
theorem read_num (x : Nat) (h : x % 9223372036854775808 < 9218868437227405312) : ∃ m a : Nat, Ieee.Format.read Ieee.double x = .number (x / 9223372036854775808 % 2 == 1) m ((-1074 : Int) + a) ∧ m * 2 ^ a = valR (x % 9223372036854775808) := by
  have hw : Ieee.double.signWeight = 9223372036854775808 := by kernel_rfl
  have hb : Ieee.double.binade = 4503599627370496 := by kernel_rfl
  have hi : Ieee.double.infRung = 9218868437227405312 := by kernel_rfl
  have hl : Ieee.double.leastPlace = -1074 := by kernel_rfl
  unfold Ieee.Format.read
  simp only [hw, hb, hi, hl]
  by_cases h1 : x % 9223372036854775808 < 4503599627370496
  · rw [if_pos h1]
    exact ⟨x % 9223372036854775808, 0, rfl, by rw [val_low h1]; simp⟩
  · rw [if_neg h1, if_pos h]
    refine ⟨_, _, rfl, ?_⟩
    unfold valR
    rw [if_neg h1]
end Go.Proofs.YtcbgkbidgpemfaaGreatDoor.flatm
namespace Go.Proofs.YtcbgkbidgpemfaaGreatDoor.prnw
open Go.RowKit
open Go.Proofs.YtcbgkbidgpemfaaGreatDoor.nodew
open Go.Proofs.YtcbgkbidgpemfaaGreatDoor.flatm
theorem val_lt {r s : Nat} (h : r < s) : valR r < valR s := by
  by_cases hr : r < 4503599627370496
  · rw [val_low hr]
    by_cases hs : s < 4503599627370496
    · rw [val_low hs]; exact h
    · have b := val_high hs
      have hp := Nat.two_pow_pos (s / 4503599627370496 - 1)
      have h2 : 4503599627370496 * 1 ≤ 4503599627370496 * 2 ^ (s / 4503599627370496 - 1) := Nat.mul_le_mul_left _ hp
      omega
  · have hs : ¬ s < 4503599627370496 := by omega
    have a := val_high hr
    have b := val_high hs
    by_cases hq : r / 4503599627370496 = s / 4503599627370496
    · unfold valR
      rw [if_neg hr, if_neg hs, hq]
      exact (Nat.mul_lt_mul_right (Nat.two_pow_pos _)).2 (by omega)
    · have hlt : r / 4503599627370496 < s / 4503599627370496 := by omega
      have h2 : (2 : Nat) ^ (r / 4503599627370496) ≤ 2 ^ (s / 4503599627370496 - 1) := Nat.pow_le_pow_right (by decide) (by omega)
      have h3 := Nat.mul_le_mul_left 4503599627370496 h2
      omega
theorem val_le {r s : Nat} (h : r ≤ s) : valR r ≤ valR s := by
  rcases Nat.lt_or_ge r s with h1 | h1
  · exact Nat.le_of_lt (val_lt h1)
  · rw [show r = s by omega]; exact Nat.le_refl _
/-- what a word stands for, in the least unit -/
def sv (x : Nat) : Int := if x / 9223372036854775808 % 2 = 1 then -(valR (x % 9223372036854775808) : Int) else (valR (x % 9223372036854775808) : Int)
theorem cmp_scale (a b : Int) (k : Nat) (hk : 0 < k) : compare (a * k) (b * k) = compare a b := by
  have hk' : (0 : Int) < (k : Int) := by omega
  rcases Int.lt_trichotomy a b with h | h | h
  · have h2 : a * k < b * k := Int.mul_lt_mul_of_pos_right h hk'
    rw [Int.compare_eq_ite_lt, Int.compare_eq_ite_lt, if_pos h, if_pos h2]
  · subst h
    simp
  · have h2 : b * k < a * k := Int.mul_lt_mul_of_pos_right h hk'
    rw [Int.compare_eq_ite_lt, Int.compare_eq_ite_lt, if_neg (by omega), if_pos h2, if_neg (by omega), if_pos h]
theorem fo_sv {x y : Nat} (fx : x % 9223372036854775808 < 9218868437227405312) (fy : y % 9223372036854775808 < 9218868437227405312) : fo x y = some (compare (sv x) (sv y)) := by
  obtain ⟨m, a, e1, v1⟩ := read_num x fx
  obtain ⟨n, b, e2, v2⟩ := read_num y fy
  show Ieee.Datum.order (Ieee.Format.read Ieee.double x) (Ieee.Format.read Ieee.double y) = _
  rw [e1, e2]
  unfold Ieee.Datum.order
  simp only [Option.some.injEq]
  have q1 : ((-1074 : Int) + (a : Int) - min (-1074 + (a : Int)) (-1074 + (b : Int))).toNat = a - min a b := by omega
  have q2 : ((-1074 : Int) + (b : Int) - min (-1074 + (a : Int)) (-1074 + (b : Int))).toNat = b - min a b := by omega
  rw [q1, q2, ← cmp_scale _ _ (2 ^ min a b) (Nat.two_pow_pos _)]
  have p1 : (2 : Nat) ^ a = 2 ^ (a - min a b) * 2 ^ (min a b) := by rw [← Nat.pow_add]; congr 1; omega
  have p2 : (2 : Nat) ^ b = 2 ^ (b - min a b) * 2 ^ (min a b) := by rw [← Nat.pow_add]; congr 1; omega
  have r1 : Ieee.signed (x / 9223372036854775808 % 2 == 1) m (a - min a b) * ((2 ^ min a b : Nat) : Int) = sv x := by
    unfold sv
    rw [← v1, p1, signed_nat]
    by_cases h : x / 9223372036854775808 % 2 = 1
    · rw [if_pos (beq_iff_eq.2 h), if_pos h, Int.neg_mul, ← Nat.mul_assoc]; norm_cast
    · rw [if_neg (by rw [beq_iff_eq]; exact h), if_neg h, ← Nat.mul_assoc]; norm_cast
  have r2 : Ieee.signed (y / 9223372036854775808 % 2 == 1) n (b - min a b) * ((2 ^ min a b : Nat) : Int) = sv y := by
    unfold sv
    rw [← v2, p2, signed_nat]
    by_cases h : y / 9223372036854775808 % 2 = 1
    · rw [if_pos (beq_iff_eq.2 h), if_pos h, Int.neg_mul, ← Nat.mul_assoc]; norm_cast
    · rw [if_neg (by rw [beq_iff_eq]; exact h), if_neg h, ← Nat.mul_assoc]; norm_cast
  rw [r1, r2]
theorem sv_zero : sv 0 = 0 := by
  unfold sv
  rw [if_neg (by decide), val_low (by decide)]
  rfl
theorem val_zero {r : Nat} (h : valR r = 0) : r = 0 := val_inj (h.trans (val_low (by decide)).symm)
end Go.Proofs.YtcbgkbidgpemfaaGreatDoor.prnw
