/- Small laws of worlds and of operations. No conditions but those stated. -/
import Derived.Test.YtbjengfoaobdbaaGreatDoorProg
import Derived.Outline
import Derived.Deep.LoopGhost
import Derived.Laws.OwnMore
import Derived.Laws.FloatBits
import Derived.Laws.FloatArith
import Derived.Laws.Externs
import Derived.Lib.Hide
import Derived.WalkKit
import Derived.WalkLawsBesides
import Derived.Handy
import Derived.WalkMore
import Derived.IntWalk
import Derived.BigQuiet
import Derived.Lib.BitFns
import Derived.Below
import Derived.Deep.AppendLies
import Derived.Deep.Cut
import Derived.Deep.CutBlock
import Derived.Deep.CutRange
import Derived.Deep.Draws
import Derived.Deep.MidRow
import Derived.Deep.QuietTactic
import Derived.Deep.RegionHeld3
import Derived.Deep.DeepFit
import Derived.Laws.BitsAllLaws
import Derived.Laws.Pointers
import Derived.Laws.Tables
import Derived.OwnWalk
import Derived.RegionTactic
import Derived.StillTactics
import Derived.WalkSpells
namespace Go.Proofs.YtbjengfoaobdbaaGreatDoor.bsw
open Go.RowKit
theorem grown_below {w w' : World} (h : Below w.heap.size w w') (row : Option Nat) : w.grownBy w' row := ⟨h.os, h.tape, h.output, h.size, fun k hk _ => h.block k hk⟩
theorem grown_trans {a b c : World} {row : Option Nat} (h : a.grownBy b row) (k : b.grownBy c row) : a.grownBy c row :=
  ⟨k.os.trans h.os, k.tape.trans h.tape, k.output.trans h.output, Nat.le_trans h.size k.size, fun i hi hr => (k.block i (Nat.lt_of_lt_of_le hi h.size) hr).trans (h.block i hi hr)⟩
theorem heap_set (w : World) (g j : Nat) (cs : Array Value) (t : TypeId) (fr : Nat × Nat) (v : Value) (h : w.heap[g]? = some (.cells cs t fr)) :
    (w.setCell ⟨g, j, none⟩ v).heap[g]? = some (.cells (cs.setIfInBounds j v) t fr) := by
  obtain ⟨hlt, hk⟩ := Array.getElem?_eq_some_iff.1 h
  show (w.heap.modify g _)[g]? = _
  rw [Array.getElem?_eq_getElem (by rw [Array.size_modify]; exact hlt), Array.getElem_modify_self, hk]
  simp
theorem below_of_grown {w w' : World} (h : w.grownBy w' none) : Below w.heap.size w w' := ⟨h.os, h.tape, h.output, h.size, fun k hk => h.block k hk (by simp)⟩
theorem heap_at (w : World) (o : Obj) (k : Nat) (h : w.heap.size = k) : (w.alloc o).heap[k]? = some o := by subst h; exact heap_alloc_new w o
/-- an operation that yields a value -/
theorem wl_val {P : Program} {ops : Array Oper} {rest : List Oper} {o : Oper} {a : Act} {w w' : World} {Q : Exit → Act → World → Prop} (hgd : o.guard = none) (v : Value) (hr : (execOp a.eval o).run P w = .ok (.value v) w')
    (h : wpList P ops Q rest (a.put o.dst v) w') : wpList P ops Q (o :: rest) a w :=
  wpList_plain hgd fun K hK => by
    unfold Oper.wp
    rw [hr]
    exact hK _ _ h
theorem wpList_wanted {P : Program} (w : World) {ops : Array Oper} {rest : List Oper} {o : Oper} {a : Act} {Q : Exit → Act → World → Prop} (hw : Region.wanted o (yielded ops a.tmps) = true)
    (h : ∀ K : Act → World → Prop, (∀ a w, wpList P ops Q rest a w → K a w) → o.wp P a w K Q) : wpList P ops Q (o :: rest) a w :=
  wpList_step fun K hK => by rw [if_pos hw]; exact h K hK
theorem wl_val_g {P : Program} {ops : Array Oper} {rest : List Oper} {o : Oper} {a : Act} {w w' : World} {Q : Exit → Act → World → Prop} (hgd : Region.wanted o (yielded ops a.tmps) = true) (v : Value) (hr : (execOp a.eval o).run P w = .ok (.value v) w')
    (h : wpList P ops Q rest (a.put o.dst v) w') : wpList P ops Q (o :: rest) a w :=
  wpList_wanted w hgd fun K hK => by
    unfold Oper.wp
    rw [hr]
    exact hK _ _ h
theorem grown_setCell (w : World) (p : Addr) (v : Value) : w.grownBy (w.setCell p v) (some p.block) :=
  ⟨rfl, rfl, rfl, by simp, fun k _ hk => Below.heap_setCell _ _ _ _ (fun e => hk (by rw [e]))⟩
theorem not_frozen {w : World} {g : Nat} {cs : Array Value} {t : TypeId} (h : w.heap[g]? = some (.cells cs t (0, 0))) (j : Nat) : w.frozen? ⟨g, j, none⟩ = false := by
  simp [World.frozen?, h]
end Go.Proofs.YtbjengfoaobdbaaGreatDoor.bsw

/- A float's mantissa, exponent and interval. Plain. -/
namespace Go.Proofs.YtbjengfoaobdbaaGreatDoor.prnw
open Go.RowKit
theorem and_mask (k : IntKind) (hk : k = .i64 ∨ k = .u64) (a n : Nat) (ha : a < 9223372036854775808) (hn : n ≤ 62) : bits BinOp.and k (a : Int) ((2 ^ n - 1 : Nat) : Int) = ((a % 2 ^ n : Nat) : Int) := by
  have hp : 2 ^ n ≤ 4611686018427387904 := by
    have := Nat.pow_le_pow_right (show 0 < 2 by decide) hn
    simpa using this
  have hp0 : 0 < 2 ^ n := Nat.pow_pos (by decide)
  obtain ⟨q, hq⟩ : ∃ q, q = 2 ^ n := ⟨_, rfl⟩
  have h2 : (BitVec.ofInt 64 (a : Int)).toNat = a := by
    rw [BitVec.toNat_ofInt]
    omega
  have h3 : (BitVec.ofInt 64 ((2 ^ n - 1 : Nat) : Int)).toNat = 2 ^ n - 1 := by
    rw [BitVec.toNat_ofInt, ← hq]
    rw [← hq] at hp hp0
    omega
  have hm : a % 2 ^ n < 2 ^ n := Nat.mod_lt _ hp0
  rcases hk with rfl | rfl
  · have h : bits BinOp.and IntKind.i64 (a : Int) ((2 ^ n - 1 : Nat) : Int) = IntKind.i64.wrap (((BitVec.ofInt 64 (a : Int) &&& BitVec.ofInt 64 ((2 ^ n - 1 : Nat) : Int)).toNat : Nat) : Int) := rfl
    rw [h, BitVec.toNat_and, h2, h3, Nat.and_two_pow_sub_one_eq_mod, IntKind.wrap_i64]
    obtain ⟨r, hr⟩ : ∃ r, r = a % 2 ^ n := ⟨_, rfl⟩
    rw [← hr] at hm ⊢
    rw [← hq] at hp hm
    omega
  · have h : bits BinOp.and IntKind.u64 (a : Int) ((2 ^ n - 1 : Nat) : Int) = IntKind.u64.wrap (((BitVec.ofInt 64 (a : Int) &&& BitVec.ofInt 64 ((2 ^ n - 1 : Nat) : Int)).toNat : Nat) : Int) := rfl
    rw [h, BitVec.toNat_and, h2, h3, Nat.and_two_pow_sub_one_eq_mod, IntKind.wrap_u64]
    obtain ⟨r, hr⟩ : ∃ r, r = a % 2 ^ n := ⟨_, rfl⟩
    rw [← hr] at hm ⊢
    rw [← hq] at hp hm
    omega
theorem or_top (a : Nat) (ha : a < 4503599627370496) : bits BinOp.or IntKind.u64 (a : Int) 4503599627370496 = ((a + 4503599627370496 : Nat) : Int) := by
  have h : bits BinOp.or IntKind.u64 (a : Int) 4503599627370496 = IntKind.u64.wrap (((BitVec.ofInt 64 (a : Int) ||| BitVec.ofInt 64 4503599627370496).toNat : Nat) : Int) := rfl
  have h2 : (BitVec.ofInt 64 (a : Int)).toNat = a := by
    rw [BitVec.toNat_ofInt]
    omega
  have h3 : (BitVec.ofInt 64 4503599627370496).toNat = 2 ^ 52 * 1 := by decide
  have h4 : a ||| 2 ^ 52 * 1 = 2 ^ 52 * 1 + a := by
    rw [Nat.or_comm]
    exact (Nat.two_pow_add_eq_or_of_lt (by simpa using ha) 1).symm
  rw [h, BitVec.toNat_or, h2, h3, h4, IntKind.wrap_u64]
  omega
/-- a float's mantissa and exponent -/
def ftM (X : Nat) : Nat := if X / 4503599627370496 = 0 then X % 4503599627370496 else X % 4503599627370496 + 4503599627370496
def ftE (X : Nat) : Int := if X / 4503599627370496 = 0 then -1022 else ((X / 4503599627370496 : Nat) : Int) - 1023
theorem ftM_pos (X : Nat) (h : 0 < X) : 1 ≤ ftM X ∧ ftM X < 9007199254740992 := by
  unfold ftM
  split
  · omega
  · omega
theorem bl_bd : ∀ (f x : Nat), x < 2 ^ f → 0 < x → 1 ≤ Lib.bitLenAux f x ∧ Lib.bitLenAux f x ≤ f ∧ 2 ^ (Lib.bitLenAux f x - 1) ≤ x ∧ x < 2 ^ Lib.bitLenAux f x
  | 0, x, h, h0 => by
    have : x < 1 := by simpa using h
    omega
  | f + 1, x, h, h0 => by
    rw [Lib.bitLenAux, if_neg (by omega)]
    by_cases h2 : x / 2 = 0
    · have e : x = 1 := by omega
      have : Lib.bitLenAux f (x / 2) = 0 := by
        rw [h2]
        cases f with
        | zero => rfl
        | succ f => rw [Lib.bitLenAux, if_pos rfl]
      rw [this, e]
      refine ⟨?_, ?_, ?_, ?_⟩
      · omega
      · omega
      · decide
      · decide
    · obtain ⟨a, b, c, d⟩ := bl_bd f (x / 2) (by rw [Nat.pow_succ] at h; omega) (by omega)
      obtain ⟨k, hk⟩ : ∃ k, Lib.bitLenAux f (x / 2) = k + 1 := ⟨Lib.bitLenAux f (x / 2) - 1, by omega⟩
      rw [hk] at a b c d ⊢
      rw [show k + 1 - 1 = k by omega] at c
      rw [Nat.pow_succ] at d
      refine ⟨by omega, by omega, ?_, ?_⟩
      · rw [show 1 + (k + 1) - 1 = k + 1 by omega, Nat.pow_succ]
        omega
      · rw [show 1 + (k + 1) = k + 1 + 1 by omega, Nat.pow_succ, Nat.pow_succ]
        omega
theorem toNat_bits63 (s : Int) (h0 : 0 ≤ s) (h1 : s ≤ 63) : bits BinOp.and IntKind.i64 s 63 = s := by
  obtain ⟨n, rfl⟩ := Int.eq_ofNat_of_zero_le h0
  have hn : n < 64 := by omega
  revert hn
  revert n
  intro n _ _ hn
  have h : bits BinOp.and IntKind.i64 (n : Int) 63 = IntKind.i64.wrap (((BitVec.ofInt 64 (n : Int) &&& BitVec.ofInt 64 63).toNat : Nat) : Int) := rfl
  have h2 : (BitVec.ofInt 64 (n : Int)).toNat = n := by
    rw [BitVec.toNat_ofInt]
    omega
  have h3 : (BitVec.ofInt 64 63).toNat = 2 ^ 6 - 1 := by decide
  rw [h, BitVec.toNat_and, h2, h3, Nat.and_two_pow_sub_one_eq_mod, IntKind.wrap_i64]
  omega
end Go.Proofs.YtbjengfoaobdbaaGreatDoor.prnw
namespace Go.Proofs.YtbjengfoaobdbaaGreatDoor.fpm
open Go Go.RowKit Go.Proofs.YtbjengfoaobdbaaGreatDoor.prnw
/-- the interval's lower end, in quarters of the last place -/
def loQ (M : Nat) (E : Int) : Nat := if M = 4503599627370496 ∧ -1074 < E then 4 * M - 1 else 4 * M - 2
theorem loQ_bd (M : Nat) (E : Int) : 4 * M - 2 ≤ loQ M E ∧ loQ M E ≤ 4 * M - 1 ∧ (M % 2 = 1 → loQ M E = 4 * M - 2) := by
  unfold loQ
  by_cases h : M = 4503599627370496 ∧ -1074 < E
  · rw [if_pos h]
    have := h.1
    exact ⟨by omega, by omega, fun h2 => by omega⟩
  · rw [if_neg h]
    exact ⟨Nat.le_refl _, by omega, fun _ => rfl⟩
/-- the ends of a float's interval, in quarters of the least unit -/
def endL (X : Nat) : Nat := loQ (ftM X) (ftE X - 52) * 2 ^ (ftE X - 52 + 1074).toNat
def endU (X : Nat) : Nat := (4 * ftM X + 2) * 2 ^ (ftE X - 52 + 1074).toNat
theorem ends_meet (X : Nat) : endL (X + 1) = endU X := by
  unfold endL endU
  obtain ⟨q, hq⟩ : ∃ q, q = X / 4503599627370496 := ⟨_, rfl⟩
  obtain ⟨r, hr⟩ : ∃ r, r = X % 4503599627370496 := ⟨_, rfl⟩
  by_cases hl : r + 1 < 4503599627370496
  · have e1 : (X + 1) / 4503599627370496 = q := by omega
    have e2 : (X + 1) % 4503599627370496 = r + 1 := by omega
    have hM : ftM (X + 1) = ftM X + 1 := by
      unfold ftM
      rw [e1, e2, ← hq, ← hr]
      split <;> omega
    have hE : ftE (X + 1) = ftE X := by
      unfold ftE
      rw [e1, ← hq]
    have hM0 : ftM X + 1 ≠ 4503599627370496 ∨ ¬ -1074 < ftE X - 52 := by
      unfold ftM ftE
      rw [← hq, ← hr]
      split <;> omega
    rw [hM, hE]
    congr 1
    unfold loQ
    rw [if_neg (by omega)]
    omega
  · have e1 : (X + 1) / 4503599627370496 = q + 1 := by omega
    have e2 : (X + 1) % 4503599627370496 = 0 := by omega
    have hM : ftM (X + 1) = 4503599627370496 := by
      unfold ftM
      rw [e1, e2, if_neg (by omega)]
    have hE : ftE (X + 1) = (q : Int) - 1022 := by
      unfold ftE
      rw [e1, if_neg (by omega)]
      omega
    rw [hM, hE]
    by_cases h0 : q = 0
    · have hM2 : ftM X = 4503599627370495 := by
        unfold ftM
        rw [← hq, ← hr, if_pos h0]
        omega
      have hE2 : ftE X = -1022 := by unfold ftE; rw [← hq, if_pos h0]
      rw [hM2, hE2, h0]
      decide
    · have hM2 : ftM X = 9007199254740991 := by
        unfold ftM
        rw [← hq, ← hr, if_neg h0]
        omega
      have hE2 : ftE X = (q : Int) - 1023 := by unfold ftE; rw [← hq, if_neg h0]
      rw [hM2, hE2]
      unfold loQ
      rw [if_pos ⟨rfl, by omega⟩, show ((q : Int) - 1022 - 52 + 1074).toNat = q - 1 + 1 by omega, show ((q : Int) - 1023 - 52 + 1074).toNat = q - 1 by omega, Nat.pow_succ]
      generalize 2 ^ (q - 1) = t
      omega
theorem ends_lt (X : Nat) (h : 0 < X) : endL X < endU X := by
  unfold endL endU
  refine (Nat.mul_lt_mul_right (Nat.two_pow_pos _)).2 ?_
  have := loQ_bd (ftM X) (ftE X - 52)
  have := ftM_pos X h
  omega
theorem ends_mono (X : Nat) (h : 0 < X) : ∀ n, endL X + n ≤ endL (X + n)
  | 0 => Nat.le_refl _
  | n + 1 => by
    have h1 := ends_mono X h n
    have h2 := ends_lt (X + n) (by omega)
    rw [← Nat.add_assoc X, ends_meet (X + n)]
    omega
theorem ftM_odd (X : Nat) : ftM X % 2 = X % 2 := by
  unfold ftM
  split <;> omega
end Go.Proofs.YtbjengfoaobdbaaGreatDoor.fpm

/- A float's size and order, by its bits. Plain. -/
namespace Go.Proofs.YtbjengfoaobdbaaGreatDoor.nodew
open Go.RowKit
/-- an order of float64s, by their bits -/
def fo (x y : Nat) : Option Ordering := FloatKind.f64.format.order x y
theorem fo_eq (x y : Nat) : FloatKind.f64.format.order x y = fo x y := rfl
end Go.Proofs.YtbjengfoaobdbaaGreatDoor.nodew
namespace Go.Proofs.YtbjengfoaobdbaaGreatDoor.flatm
open Go.Proofs.YtbjengfoaobdbaaGreatDoor.nodew
/-- the size of a rung, in the least unit -/
def valR (r : Nat) : Nat := if r < 4503599627370496 then r else (4503599627370496 + r % 4503599627370496) * 2 ^ (r / 4503599627370496 - 1)
theorem val_low {r : Nat} (h : r < 4503599627370496) : valR r = r := if_pos h
theorem val_high {r : Nat} (h : ¬ r < 4503599627370496) : 4503599627370496 * 2 ^ (r / 4503599627370496 - 1) ≤ valR r ∧ valR r < 4503599627370496 * 2 ^ (r / 4503599627370496) ∧ 1 ≤ r / 4503599627370496 := by
  have hq : 1 ≤ r / 4503599627370496 := by omega
  have hp := Nat.two_pow_pos (r / 4503599627370496 - 1)
  have hs : (2 : Nat) ^ (r / 4503599627370496) = 2 * 2 ^ (r / 4503599627370496 - 1) := by
    conv => lhs; rw [show r / 4503599627370496 = (r / 4503599627370496 - 1) + 1 by omega]
    rw [Nat.pow_succ]; omega
  have hf : r % 4503599627370496 < 4503599627370496 := Nat.mod_lt _ (by decide)
  unfold valR
  rw [if_neg h]
  refine ⟨Nat.mul_le_mul_right _ (by omega), ?_, hq⟩
  rw [hs, ← Nat.mul_assoc]
  exact Nat.mul_lt_mul_of_pos_right (by omega) hp
theorem val_inj {r s : Nat} (h : valR r = valR s) : r = s := by
  by_cases hr : r < 4503599627370496
  · by_cases hs : s < 4503599627370496
    · rwa [val_low hr, val_low hs] at h
    · have h1 := val_high hs
      have hp := Nat.two_pow_pos (s / 4503599627370496 - 1)
      have h2 : 4503599627370496 * 1 ≤ 4503599627370496 * 2 ^ (s / 4503599627370496 - 1) := Nat.mul_le_mul_left _ hp
      rw [val_low hr] at h
      omega
  · have a1 := val_high hr
    by_cases hs : s < 4503599627370496
    · have hp := Nat.two_pow_pos (r / 4503599627370496 - 1)
      have h2 : 4503599627370496 * 1 ≤ 4503599627370496 * 2 ^ (r / 4503599627370496 - 1) := Nat.mul_le_mul_left _ hp
      rw [val_low hs] at h
      omega
    · have b1 := val_high hs
      have hq : r / 4503599627370496 = s / 4503599627370496 := by
        rcases Nat.lt_trichotomy (r / 4503599627370496) (s / 4503599627370496) with hlt | heq | hlt
        · exfalso
          have h2 : (2 : Nat) ^ (r / 4503599627370496) ≤ 2 ^ (s / 4503599627370496 - 1) := Nat.pow_le_pow_right (by decide) (by omega)
          have h3 := Nat.mul_le_mul_left 4503599627370496 h2
          omega
        · exact heq
        · exfalso
          have h2 : (2 : Nat) ^ (s / 4503599627370496) ≤ 2 ^ (r / 4503599627370496 - 1) := Nat.pow_le_pow_right (by decide) (by omega)
          have h3 := Nat.mul_le_mul_left 4503599627370496 h2
          omega
      unfold valR at h
      rw [if_neg hr, if_neg hs, hq] at h
      have := Nat.eq_of_mul_eq_mul_right (Nat.two_pow_pos _) h
      omega
theorem signed_nat (s : Bool) (m k : Nat) : Ieee.signed s m k = if s then -((m * 2 ^ k : Nat) : Int) else ((m * 2 ^ k : Nat) : Int) := by
  unfold Ieee.signed
  rw [Nat.shiftLeft_eq]
theorem signed_inj {s t : Bool} {m n a b : Nat} (h : Ieee.signed s m a = Ieee.signed t n b) : m * 2 ^ a = n * 2 ^ b ∧ (s = t ∨ m * 2 ^ a = 0) := by
  rw [signed_nat, signed_nat] at h
  cases s <;> cases t <;> simp only [if_true, if_false, Bool.false_eq_true] at h
  · exact ⟨by omega, .inl rfl⟩
  · exact ⟨by omega, .inr (by omega)⟩
  · exact ⟨by omega, .inr (by omega)⟩
  · exact ⟨by omega, .inl rfl⟩
theorem order_scale {s t : Bool} {m n a b : Nat} {c : Int} (h : Ieee.Datum.order (.number s m (c + a)) (.number t n (c + b)) = some .eq) : m * 2 ^ a = n * 2 ^ b ∧ (s = t ∨ m * 2 ^ a = 0) := by
  unfold Ieee.Datum.order at h
  simp only [Option.some.injEq] at h
  have hc := Std.LawfulEqOrd.eq_of_compare h
  have e1 : (c + (a : Int) - min (c + (a : Int)) (c + (b : Int))).toNat = a - min a b := by omega
  have e2 : (c + (b : Int) - min (c + (a : Int)) (c + (b : Int))).toNat = b - min a b := by omega
  rw [e1, e2] at hc
  obtain ⟨h1, h2⟩ := signed_inj hc
  have p1 : (2 : Nat) ^ a = 2 ^ (a - min a b) * 2 ^ (min a b) := by rw [← Nat.pow_add]; congr 1; omega
  have p2 : (2 : Nat) ^ b = 2 ^ (b - min a b) * 2 ^ (min a b) := by rw [← Nat.pow_add]; congr 1; omega
  refine ⟨by rw [p1, p2, ← Nat.mul_assoc, ← Nat.mul_assoc, h1], ?_⟩
  rcases h2 with h2 | h2
  · exact .inl h2
  · exact .inr (by rw [p1, ← Nat.mul_assoc, h2, Nat.zero_mul])
/-- what a word below infinity stands for -/
theorem read_num (x : Nat) (h : x % 9223372036854775808 < 9218868437227405312) : ∃ m a : Nat, Ieee.Format.read Ieee.double x = .number (x / 9223372036854775808 % 2 == 1) m ((-1074 : Int) + a) ∧ m * 2 ^ a = valR (x % 9223372036854775808) := by
  have hw : Ieee.double.signWeight = 9223372036854775808 := by kernel_rfl
  have hb : Ieee.double.binade = 4503599627370496 := by kernel_rfl
  have hi : Ieee.double.infRung = 9218868437227405312 := by kernel_rfl
  have hl : Ieee.double.leastPlace = -1074 := by kernel_rfl
  unfold Ieee.Format.read
  simp only [hw, hb, hi, hl]
  by_cases h1 : x % 9223372036854775808 < 4503599627370496
  · rw [if_pos h1]
    exact ⟨x % 9223372036854775808, 0, rfl, by rw [val_low h1]; simp⟩
  · rw [if_neg h1, if_pos h]
    refine ⟨_, _, rfl, ?_⟩
    unfold valR
    rw [if_neg h1]
end Go.Proofs.YtbjengfoaobdbaaGreatDoor.flatm
namespace Go.Proofs.YtbjengfoaobdbaaGreatDoor.prnw
open Go.RowKit
open Go.Proofs.YtbjengfoaobdbaaGreatDoor.nodew
open Go.Proofs.YtbjengfoaobdbaaGreatDoor.flatm
theorem val_lt {r s : Nat} (h : r < s) : valR r < valR s := by
  by_cases hr : r < 4503599627370496
  · rw [val_low hr]
    by_cases hs : s < 4503599627370496
    · rw [val_low hs]; exact h
    · have b := val_high hs
      have hp := Nat.two_pow_pos (s / 4503599627370496 - 1)
      have h2 : 4503599627370496 * 1 ≤ 4503599627370496 * 2 ^ (s / 4503599627370496 - 1) := Nat.mul_le_mul_left _ hp
      omega
  · have hs : ¬ s < 4503599627370496 := by omega
    have a := val_high hr
    have b := val_high hs
    by_cases hq : r / 4503599627370496 = s / 4503599627370496
    · unfold valR
      rw [if_neg hr, if_neg hs, hq]
      exact (Nat.mul_lt_mul_right (Nat.two_pow_pos _)).2 (by omega)
    · have hlt : r / 4503599627370496 < s / 4503599627370496 := by omega
      have h2 : (2 : Nat) ^ (r / 4503599627370496) ≤ 2 ^ (s / 4503599627370496 - 1) := Nat.pow_le_pow_right (by decide) (by omega)
      have h3 := Nat.mul_le_mul_left 4503599627370496 h2
      omega
theorem val_le {r s : Nat} (h : r ≤ s) : valR r ≤ valR s := by
  rcases Nat.lt_or_ge r s with h1 | h1
  · exact Nat.le_of_lt (val_lt h1)
  · rw [show r = s by omega]; exact Nat.le_refl _
/-- what a word stands for, in the least unit -/
def sv (x : Nat) : Int := if x / 9223372036854775808 % 2 = 1 then -(valR (x % 9223372036854775808) : Int) else (valR (x % 9223372036854775808) : Int)
theorem cmp_scale (a b : Int) (k : Nat) (hk : 0 < k) : compare (a * k) (b * k) = compare a b := by
  have hk' : (0 : Int) < (k : Int) := by omega
  rcases Int.lt_trichotomy a b with h | h | h
  · have h2 : a * k < b * k := Int.mul_lt_mul_of_pos_right h hk'
    rw [Int.compare_eq_ite_lt, Int.compare_eq_ite_lt, if_pos h, if_pos h2]
  · subst h
    simp
  · have h2 : b * k < a * k := Int.mul_lt_mul_of_pos_right h hk'
    rw [Int.compare_eq_ite_lt, Int.compare_eq_ite_lt, if_neg (by omega), if_pos h2, if_neg (by omega), if_pos h]
theorem fo_sv {x y : Nat} (fx : x % 9223372036854775808 < 9218868437227405312) (fy : y % 9223372036854775808 < 9218868437227405312) : fo x y = some (compare (sv x) (sv y)) := by
  obtain ⟨m, a, e1, v1⟩ := read_num x fx
  obtain ⟨n, b, e2, v2⟩ := read_num y fy
  show Ieee.Datum.order (Ieee.Format.read Ieee.double x) (Ieee.Format.read Ieee.double y) = _
  rw [e1, e2]
  unfold Ieee.Datum.order
  simp only [Option.some.injEq]
  have q1 : ((-1074 : Int) + (a : Int) - min (-1074 + (a : Int)) (-1074 + (b : Int))).toNat = a - min a b := by omega
  have q2 : ((-1074 : Int) + (b : Int) - min (-1074 + (a : Int)) (-1074 + (b : Int))).toNat = b - min a b := by omega
  rw [q1, q2, ← cmp_scale _ _ (2 ^ min a b) (Nat.two_pow_pos _)]
  have p1 : (2 : Nat) ^ a = 2 ^ (a - min a b) * 2 ^ (min a b) := by rw [← Nat.pow_add]; congr 1; omega
  have p2 : (2 : Nat) ^ b = 2 ^ (b - min a b) * 2 ^ (min a b) := by rw [← Nat.pow_add]; congr 1; omega
  have r1 : Ieee.signed (x / 9223372036854775808 % 2 == 1) m (a - min a b) * ((2 ^ min a b : Nat) : Int) = sv x := by
    unfold sv
    rw [← v1, p1, signed_nat]
    by_cases h : x / 9223372036854775808 % 2 = 1
    · rw [if_pos (beq_iff_eq.2 h), if_pos h, Int.neg_mul, ← Nat.mul_assoc]; norm_cast
    · rw [if_neg (by rw [beq_iff_eq]; exact h), if_neg h, ← Nat.mul_assoc]; norm_cast
  have r2 : Ieee.signed (y / 9223372036854775808 % 2 == 1) n (b - min a b) * ((2 ^ min a b : Nat) : Int) = sv y := by
    unfold sv
    rw [← v2, p2, signed_nat]
    by_cases h : y / 9223372036854775808 % 2 = 1
    · rw [if_pos (beq_iff_eq.2 h), if_pos h, Int.neg_mul, ← Nat.mul_assoc]; norm_cast
    · rw [if_neg (by rw [beq_iff_eq]; exact h), if_neg h, ← Nat.mul_assoc]; norm_cast
  rw [r1, r2]
theorem sv_zero : sv 0 = 0 := by
  unfold sv
  rw [if_neg (by decide), val_low (by decide)]
  rfl
theorem val_zero {r : Nat} (h : valR r = 0) : r = 0 := val_inj (h.trans (val_low (by decide)).symm)
end Go.Proofs.YtbjengfoaobdbaaGreatDoor.prnw

/- The nearest float of a quotient: what it is, that it is one, and how it is found. Plain. -/
namespace Go.Proofs.YtbjengfoaobdbaaGreatDoor.fpm
open Go Go.RowKit Go.Proofs.YtbjengfoaobdbaaGreatDoor.prnw

def unB : Nat := 1076
theorem unB_eq : unB = 1076 := rfl
def leB : Nat := 1074
theorem leB_eq : leB = 1074 := rfl
theorem unB_le : (2 : Nat) ^ unB = 4 * 2 ^ leB := by rw [show unB = leB + 2 from rfl, Nat.pow_add, Nat.mul_comm]
/-- X is the nearest float of A / B; between two the one whose last bit is 0 -/
def Near (X A B : Nat) : Prop := endL X * B ≤ A * 2 ^ unB ∧ A * 2 ^ unB ≤ endU X * B ∧ (X % 2 = 1 → endL X * B < A * 2 ^ unB ∧ A * 2 ^ unB < endU X * B)
theorem ends_far (X n : Nat) : endU X ≤ endL (X + (n + 1)) ∧ (0 < n → endU X < endL (X + (n + 1))) := by
  have hm := ends_mono (X + 1) (by omega) n
  rw [Nat.add_assoc X 1 n, Nat.add_comm 1 n, ends_meet X] at hm
  exact ⟨by omega, fun h => by omega⟩
/-- of two quotients the greater one's nearest float is no less -/
theorem near_mono {X Y A B C D : Nat} (hB : 0 < B) (hD : 0 < D) (h1 : Near X A B) (h2 : Near Y C D) (h : A * D ≤ C * B) : X ≤ Y := by
  refine Nat.le_of_not_lt fun hl => ?_
  obtain ⟨n, rfl⟩ : ∃ n, X = Y + (n + 1) := ⟨X - Y - 1, by omega⟩
  obtain ⟨e1, e2⟩ := ends_far Y n
  obtain ⟨a1, a2, a3⟩ := h1
  obtain ⟨b1, b2, b3⟩ := h2
  generalize endU Y = u at *
  generalize endL (Y + (n + 1)) = l at *
  generalize 2 ^ unB = z at *
  -- l B <= A z, C z <= u D, u <= l, A D <= C B
  have k1 : l * B * D ≤ A * z * D := Nat.mul_le_mul_right _ a1
  have k2 : A * z * D ≤ C * z * B := by
    have := Nat.mul_le_mul_right z h
    rw [show A * z * D = A * D * z by ac_rfl, show C * z * B = C * B * z by ac_rfl]
    exact this
  have k3 : C * z * B ≤ u * D * B := Nat.mul_le_mul_right _ b2
  have k4 : l * B * D = l * D * B := by ac_rfl
  have k5 : l * D * B ≤ u * D * B := by omega
  have k6 : l ≤ u := Nat.le_of_mul_le_mul_right (Nat.le_of_mul_le_mul_right k5 hB) hD
  have hn : n = 0 := Nat.eq_zero_of_not_pos fun hp => by have := e2 hp; omega
  have hlu : l = u := by omega
  subst hn
  by_cases ho : (Y + (0 + 1)) % 2 = 1
  · obtain ⟨c1, _⟩ := a3 ho
    have := Nat.mul_lt_mul_of_pos_right c1 hD
    rw [hlu] at this k4
    omega
  · obtain ⟨_, c2⟩ := b3 (by omega)
    have := Nat.mul_lt_mul_of_pos_right c2 hB
    rw [hlu] at k4 k1
    omega
theorem near_inj {X Y A B C D : Nat} (hB : 0 < B) (hD : 0 < D) (h1 : Near X A B) (h2 : Near Y C D) (h : A * D = C * B) : X = Y :=
  Nat.le_antisymm (near_mono hB hD h1 h2 (Nat.le_of_eq h)) (near_mono hD hB h2 h1 (Nat.le_of_eq h.symm))
/-- the nearest one stays so for what lies between -/
theorem near_between {X A B C D E F : Nat} (hB : 0 < B) (hD : 0 < D) (hF : 0 < F) (h1 : Near X A B) (h2 : Near X C D) (l1 : A * F ≤ E * B) (l2 : E * D ≤ C * F) : Near X E F := by
  obtain ⟨a1, a2, a3⟩ := h1
  obtain ⟨b1, b2, b3⟩ := h2
  unfold Near
  generalize endU X = u at *
  generalize endL X = l at *
  generalize 2 ^ unB = z at *
  have m1 : A * z * F ≤ E * z * B := by
    rw [show A * z * F = A * F * z by ac_rfl, show E * z * B = E * B * z by ac_rfl]
    exact Nat.mul_le_mul_right z l1
  have m2 : E * z * D ≤ C * z * F := by
    rw [show E * z * D = E * D * z by ac_rfl, show C * z * F = C * F * z by ac_rfl]
    exact Nat.mul_le_mul_right z l2
  refine ⟨?_, ?_, fun ho => ⟨?_, ?_⟩⟩
  · have k1 : l * B * F ≤ A * z * F := Nat.mul_le_mul_right _ a1
    have k4 : l * B * F = l * F * B := by ac_rfl
    exact Nat.le_of_mul_le_mul_right (show l * F * B ≤ E * z * B by omega) hB
  · have k1 : C * z * F ≤ u * D * F := Nat.mul_le_mul_right _ b2
    have k4 : u * D * F = u * F * D := by ac_rfl
    exact Nat.le_of_mul_le_mul_right (show E * z * D ≤ u * F * D by omega) hD
  · have k1 : l * B * F < A * z * F := Nat.mul_lt_mul_of_pos_right (a3 ho).1 hF
    have k4 : l * B * F = l * F * B := by ac_rfl
    exact Nat.lt_of_mul_lt_mul_right (show l * F * B < E * z * B by omega)
  · have k1 : C * z * F < u * D * F := Nat.mul_lt_mul_of_pos_right (b3 ho).2 hF
    have k4 : u * D * F = u * F * D := by ac_rfl
    exact Nat.lt_of_mul_lt_mul_right (show E * z * D < u * F * D by omega)

/-- the float of a significand and a place -/
theorem fl_parts (t R : Nat) (hR : R < 9007199254740992) (hn : t = 0 ∨ 4503599627370496 ≤ R) :
    ftM (t * 4503599627370496 + R) = R ∧ ftE (t * 4503599627370496 + R) - 52 = (t : Int) - 1074 := by
  unfold ftM ftE
  by_cases h : t * 4503599627370496 + R < 4503599627370496
  · rw [if_pos (by omega), if_pos (by omega)]
    omega
  · rw [if_neg (by omega), if_neg (by omega)]
    omega
theorem fl_top (t : Nat) : ftM ((t + 1) * 4503599627370496 + 4503599627370496) = 4503599627370496 ∧ ftE ((t + 1) * 4503599627370496 + 4503599627370496) - 52 = ((t + 1 : Nat) : Int) - 1074 := by
  unfold ftM ftE
  rw [if_neg (by omega), if_neg (by omega)]
  omega
theorem fl_two (t : Nat) : t * 4503599627370496 + 9007199254740992 = (t + 1) * 4503599627370496 + 4503599627370496 := by omega
theorem near_mk (A B D N t R : Nat) (hB : 0 < B) (hD : 0 < D) (hq : A * 2 ^ leB * D = N * 2 ^ t * B) (h1 : 2 * (R * D) ≤ 2 * N + D) (h2 : 2 * N ≤ 2 * (R * D) + D)
    (h3 : R % 2 = 1 → 2 * (R * D) < 2 * N + D ∧ 2 * N < 2 * (R * D) + D) (hR : R ≤ 9007199254740992) (hn : t = 0 ∨ 4503599627370496 * D ≤ N) : Near (t * 4503599627370496 + R) A B := by
  have hz : (2 : Nat) ^ unB = 4 * 2 ^ leB := unB_le
  obtain ⟨X, hX⟩ : ∃ X, X = t * 4503599627370496 + R := ⟨_, rfl⟩
  have ho : X % 2 = R % 2 := by omega
  obtain ⟨T, hT⟩ : ∃ T : Nat, T = 2 ^ t := ⟨_, rfl⟩
  have hT0 : 0 < T := by rw [hT]; exact Nat.two_pow_pos t
  have key : ∀ c, (c * D ≤ 4 * N → c * T * B ≤ A * 2 ^ unB) ∧ (4 * N ≤ c * D → A * 2 ^ unB ≤ c * T * B) ∧ (c * D < 4 * N → c * T * B < A * 2 ^ unB) ∧ (4 * N < c * D → A * 2 ^ unB < c * T * B) := by
    intro c
    rw [hz]
    rw [← hT] at hq
    generalize 2 ^ leB = z at *
    have hTB : 0 < T * B := Nat.mul_pos hT0 hB
    have e1 : A * (4 * z) * D = 4 * N * (T * B) := by
      rw [show A * (4 * z) * D = 4 * (A * z * D) by ac_rfl, hq]
      ac_rfl
    have e2 : c * T * B * D = c * D * (T * B) := by ac_rfl
    refine ⟨fun h => ?_, fun h => ?_, fun h => ?_, fun h => ?_⟩
    · exact Nat.le_of_mul_le_mul_right (by rw [e1, e2]; exact Nat.mul_le_mul_right _ h) hD
    · exact Nat.le_of_mul_le_mul_right (by rw [e1, e2]; exact Nat.mul_le_mul_right _ h) hD
    · exact Nat.lt_of_mul_lt_mul_right (a := D) (by rw [e1, e2]; exact Nat.mul_lt_mul_of_pos_right h hTB)
    · exact Nat.lt_of_mul_lt_mul_right (a := D) (by rw [e1, e2]; exact Nat.mul_lt_mul_of_pos_right h hTB)
  clear hz hq
  rw [← hX]
  obtain ⟨P, hP⟩ : ∃ P, P = R * D := ⟨_, rfl⟩
  rw [← hP] at h1 h2 h3
  by_cases hlt : R < 9007199254740992 ∧ (t = 0 ∨ 4503599627370496 ≤ R)
  · obtain ⟨f1, f2⟩ := fl_parts t R hlt.1 hlt.2
    rw [← hX] at f1 f2
    have eL : endL X = loQ R ((t : Int) - 1074) * T := by unfold endL; rw [f1, f2, hT, show ((t : Int) - 1074 + 1074).toNat = t by omega]
    have eU : endU X = (4 * R + 2) * T := by unfold endU; rw [f1, f2, hT, show ((t : Int) - 1074 + 1074).toNat = t by omega]
    unfold Near
    rw [eL, eU, ho]
    have cU : (4 * R + 2) * D = 4 * P + 2 * D := by rw [Nat.add_mul, Nat.mul_assoc, ← hP]
    have cL : (4 * R - 2) * D = 4 * P - 2 * D := by rw [Nat.sub_mul, Nat.mul_assoc, ← hP]
    have b1 : loQ R ((t : Int) - 1074) * D ≤ 4 * N := by
      unfold loQ
      by_cases hb : R = 4503599627370496 ∧ -1074 < (t : Int) - 1074
      · rw [if_pos hb]
        have := hb.1
        have := hb.2
        rcases hn with h | h
        · omega
        · have : (4 * R - 1) * D ≤ 4 * R * D := Nat.mul_le_mul_right _ (by omega)
          rw [Nat.mul_assoc, ← hP] at this
          have e : P = 4503599627370496 * D := by rw [hP, hb.1]
          omega
      · rw [if_neg hb, cL]
        omega
    refine ⟨(key _).1 b1, (key _).2.1 (by rw [cU]; omega), fun h => ?_⟩
    have h4 := h3 h
    refine ⟨(key _).2.2.1 ?_, (key _).2.2.2 (by rw [cU]; omega)⟩
    unfold loQ
    rw [if_neg (by omega), cL]
    have : D ≤ P := by
      rw [hP]
      exact Nat.le_mul_of_pos_left D (by omega)
    omega
  · by_cases hR2 : R = 9007199254740992
    · have e0 : X = (t + 1) * 4503599627370496 + 4503599627370496 := by
        rw [hX, hR2]
        exact fl_two t
      obtain ⟨f1, f2⟩ := fl_top t
      rw [← e0] at f1 f2
      have eL : endL X = (4 * R - 2) * T := by
        unfold endL
        rw [f1, f2, show (((t + 1 : Nat) : Int) - 1074 + 1074).toNat = t + 1 by omega, Nat.pow_succ, ← hT]
        unfold loQ
        rw [if_pos ⟨rfl, by omega⟩, hR2]
        omega
      have eU : endU X = (4 * R + 4) * T := by
        unfold endU
        rw [f1, f2, show (((t + 1 : Nat) : Int) - 1074 + 1074).toNat = t + 1 by omega, Nat.pow_succ, ← hT, hR2]
        omega
      unfold Near
      rw [eL, eU, ho]
      have cU : (4 * R + 4) * D = 4 * P + 4 * D := by rw [Nat.add_mul, Nat.mul_assoc, ← hP]
      have cL : (4 * R - 2) * D = 4 * P - 2 * D := by rw [Nat.sub_mul, Nat.mul_assoc, ← hP]
      exact ⟨(key _).1 (by rw [cL]; omega), (key _).2.1 (by rw [cU]; omega), fun h => by omega⟩
    · exfalso
      have ht : ¬ t = 0 := fun e => hlt ⟨by omega, .inl e⟩
      have hr : R < 4503599627370496 := by
        refine Nat.lt_of_not_le fun h => hlt ⟨by omega, .inr h⟩
      rcases hn with h | h
      · exact ht h
      · have : R * D ≤ 4503599627370495 * D := Nat.mul_le_mul_right _ (by omega)
        rw [← hP] at this
        -- R <= 2^52 - 1, N >= 2^52 D, 2 N <= 2 P + D
        have e : 4503599627370496 * D = 4503599627370495 * D + D := by omega
        omega
end Go.Proofs.YtbjengfoaobdbaaGreatDoor.fpm

/- The nearest float of a quotient, worked out. Plain. -/
namespace Go.Proofs.YtbjengfoaobdbaaGreatDoor.fpm
open Go Go.RowKit Go.Proofs.YtbjengfoaobdbaaGreatDoor.prnw

/-- a quotient rounded to a whole number, between two to the even one -/
def rne (N D : Nat) : Nat := N / D + if D < 2 * (N % D) ∨ (2 * (N % D) = D ∧ N / D % 2 = 1) then 1 else 0
theorem rne_spec (N D : Nat) (hD : 0 < D) : 2 * (rne N D * D) ≤ 2 * N + D ∧ 2 * N ≤ 2 * (rne N D * D) + D ∧ (rne N D % 2 = 1 → 2 * (rne N D * D) < 2 * N + D ∧ 2 * N < 2 * (rne N D * D) + D) := by
  have h := Nat.div_add_mod N D
  have hm := Nat.mod_lt N hD
  unfold rne
  generalize N % D = m at *
  generalize N / D = q at *
  rw [Nat.mul_comm] at h
  split
  · rw [Nat.add_mul, Nat.one_mul]
    generalize q * D = p at *
    omega
  · rw [Nat.add_zero]
    generalize q * D = p at *
    omega
theorem rne_le {N D K : Nat} (hD : 0 < D) (h : N ≤ K * D) : rne N D ≤ K := by
  have h1 : N / D ≤ K := Nat.div_le_of_le_mul (by rw [Nat.mul_comm]; exact h)
  have hm := Nat.div_add_mod N D
  unfold rne
  split
  · rename_i hc
    by_cases he : N / D = K
    · rw [he, Nat.mul_comm] at hm
      have : N % D = 0 := by omega
      rw [this] at hc
      omega
    · omega
  · omega
/-- the nearest float of A / B -/
def nearX (A B : Nat) : Nat :=
  ((A * 2 ^ leB / B).log2 - 52) * 4503599627370496 + rne (A * 2 ^ leB) (B * 2 ^ ((A * 2 ^ leB / B).log2 - 52))
theorem near_of (A B : Nat) (hB : 0 < B) : Near (nearX A B) A B := by
  unfold nearX
  obtain ⟨N, hN⟩ : ∃ N, N = A * 2 ^ leB := ⟨_, rfl⟩
  rw [← hN]
  obtain ⟨F, hF⟩ : ∃ F, F = N / B := ⟨_, rfl⟩
  rw [← hF]
  obtain ⟨t, ht⟩ : ∃ t, t = F.log2 - 52 := ⟨_, rfl⟩
  rw [← ht]
  obtain ⟨T, hT⟩ : ∃ T : Nat, T = 2 ^ t := ⟨_, rfl⟩
  have hT0 : 0 < T := by rw [hT]; exact Nat.two_pow_pos t
  have hD : 0 < B * T := Nat.mul_pos hB hT0
  have f1 := Nat.div_add_mod N B
  have f2 := Nat.mod_lt N hB
  rw [← hF] at f1
  have hup : F + 1 ≤ 9007199254740992 * T := by
    have h1 : F < 2 ^ (F.log2 + 1) := Nat.lt_log2_self
    have h2 : (2 : Nat) ^ (F.log2 + 1) ≤ 2 ^ (53 + t) := Nat.pow_le_pow_right (by decide) (by omega)
    rw [Nat.pow_add 2 53 t, ← hT] at h2
    have : (2 : Nat) ^ 53 = 9007199254740992 := by decide
    rw [this] at h2
    omega
  have hlow : t = 0 ∨ 4503599627370496 * T ≤ F := by
    by_cases h0 : t = 0
    · exact .inl h0
    · have hF0 : F ≠ 0 := by
        intro e
        rw [e] at ht
        have : Nat.log2 0 = 0 := by decide
        omega
      have h1 : 2 ^ F.log2 ≤ F := Nat.log2_self_le hF0
      have h2 : (2 : Nat) ^ (52 + t) ≤ 2 ^ F.log2 := Nat.pow_le_pow_right (by decide) (by omega)
      rw [Nat.pow_add 2 52 t, ← hT] at h2
      have : (2 : Nat) ^ 52 = 4503599627370496 := by decide
      rw [this] at h2
      exact .inr (Nat.le_trans h2 h1)
  rw [← hT]
  obtain ⟨a, b, c⟩ := rne_spec N (B * T) hD
  refine near_mk A B (B * T) N t _ hB hD ?_ a b c (rne_le hD ?_) ?_
  · rw [← hN, ← hT]
    ac_rfl
  · have h3 : B * (F + 1) ≤ B * (9007199254740992 * T) := Nat.mul_le_mul_left _ hup
    rw [Nat.mul_add, Nat.mul_one] at h3
    have h4 : B * (9007199254740992 * T) = 9007199254740992 * (B * T) := by ac_rfl
    rw [h4] at h3
    omega
  · refine hlow.imp_right fun h => ?_
    have h3 : B * (4503599627370496 * T) ≤ B * F := Nat.mul_le_mul_left _ h
    have h4 : B * (4503599627370496 * T) = 4503599627370496 * (B * T) := by ac_rfl
    rw [h4] at h3
    omega
theorem near_eq {X A B : Nat} (hB : 0 < B) (h : Near X A B) : X = nearX A B := near_inj hB hB h (near_of A B hB) rfl
theorem near_same {A B C D : Nat} (hB : 0 < B) (hD : 0 < D) (h : A * D = C * B) : nearX A B = nearX C D := near_inj hB hD (near_of A B hB) (near_of C D hD) h
end Go.Proofs.YtbjengfoaobdbaaGreatDoor.fpm

/- Rounding to a float64, and the product and the quotient of two, are the nearest floats of what is exact. Plain. -/
namespace Go.Proofs.YtbjengfoaobdbaaGreatDoor.fpm
open Go Go.RowKit Go.Proofs.YtbjengfoaobdbaaGreatDoor.prnw Go.Proofs.YtbjengfoaobdbaaGreatDoor.flatm

theorem cut_rne (neg : Bool) (n v : Nat) : Ieee.Toward.cut .even neg n v = rne n (2 ^ v) := by
  have e : Ieee.Toward.cut .even neg n v = rne n (2 ^ min v (n.log2 + 2)) := by
    unfold Ieee.Toward.cut rne
    rw [Nat.shiftLeft_eq, Nat.one_mul]
    generalize 2 ^ min v (n.log2 + 2) = g
    simp only
    congr 1
    by_cases h1 : g < 2 * (n % g)
    · rw [decide_eq_true h1, if_pos (.inl h1)]
      rfl
    · rw [decide_eq_false h1, Bool.false_or]
      by_cases h2 : 2 * (n % g) = g ∧ n / g % 2 = 1
      · rw [if_pos (.inr h2)]
        have a1 : (g == 2 * (n % g)) = true := beq_iff_eq.2 h2.1.symm
        have a2 : (n / g % 2 == 1) = true := beq_iff_eq.2 h2.2
        rw [a1, a2]
        rfl
      · rw [if_neg (fun h => h.elim h1 h2)]
        have a1 : ((g == 2 * (n % g)) && (n / g % 2 == 1)) = false := by
          rw [Bool.and_eq_false_iff]
          by_cases h3 : 2 * (n % g) = g
          · exact .inr (beq_eq_false_iff_ne.2 fun h => h2 ⟨h3, h⟩)
          · exact .inl (beq_eq_false_iff_ne.2 fun h => h3 h.symm)
        rw [a1]
        rfl
  rw [e]
  by_cases h : v ≤ n.log2 + 2
  · rw [Nat.min_eq_left h]
  · rw [Nat.min_eq_right (by omega)]
    have small : ∀ k, n.log2 + 2 ≤ k → rne n (2 ^ k) = 0 := fun k hk => by
      have h1 : n < 2 ^ (n.log2 + 1) := Nat.lt_log2_self
      have h2 : (2 : Nat) ^ (n.log2 + 1) * 2 ≤ 2 ^ k := by
        rw [← Nat.pow_succ]
        exact Nat.pow_le_pow_right (by decide) hk
      generalize 2 ^ k = g at *
      generalize 2 ^ (n.log2 + 1) = l at *
      unfold rne
      rw [Nat.div_eq_of_lt (by omega), Nat.mod_eq_of_lt (by omega), if_neg (by omega)]
    rw [small _ (Nat.le_refl _), small v (by omega)]

def infW : Nat := 9218868437227405312
theorem infW_eq : infW = 9218868437227405312 := rfl
/-- rounding: the place, and the digits that are kept -/
theorem near_core (neg : Bool) (m : Nat) (p : Int) (hm : 0 < m) : ∃ t u v : Nat, (t : Int) = p - u + v + 1074 ∧ (t = 0 ∨ 4503599627370496 * 2 ^ v ≤ m * 2 ^ u) ∧ m * 2 ^ u ≤ 9007199254740992 * 2 ^ v ∧ (54 ≤ m.log2 → u = 0 ∧ 2 ≤ v) ∧
    Ieee.Format.nearest Ieee.double neg m p = Ieee.double.word neg (min (t * 4503599627370496 + rne (m * 2 ^ u) (2 ^ v)) infW) := by
  have hf : Ieee.double.fractionBits = 52 := rfl
  have hb : Ieee.double.binade = 4503599627370496 := by kernel_rfl
  have hi : Ieee.double.infRung = infW := by kernel_rfl
  have hl : Ieee.double.leastPlace = -1074 := by kernel_rfl
  obtain ⟨L, hL⟩ : ∃ L, m.log2 = L := ⟨_, rfl⟩
  obtain ⟨last, hlast⟩ : ∃ last : Int, last = max (p + (L : Int) - 52) (-1074) := ⟨_, rfl⟩
  have h1 : m < 2 ^ (L + 1) := by rw [← hL]; exact Nat.lt_log2_self
  have h2 : 2 ^ L ≤ m := by rw [← hL]; exact Nat.log2_self_le (by omega)
  refine ⟨(last + 1074).toNat, (p - last).toNat, (last - p).toNat, by omega, ?_, ?_, fun h => by omega, ?_⟩
  · by_cases h0 : last = -1074
    · left; omega
    · right
      have e : last = p + (L : Int) - 52 := by omega
      by_cases h52 : L ≤ 52
      · have e1 : (p - last).toNat = 52 - L := by omega
        have e2 : (last - p).toNat = 0 := by omega
        rw [e1, e2, Nat.pow_zero, Nat.mul_one]
        have := Nat.mul_le_mul_right (2 ^ (52 - L)) h2
        rw [← Nat.pow_add, show L + (52 - L) = 52 by omega] at this
        exact Nat.le_trans (by decide) this
      · have e1 : (p - last).toNat = 0 := by omega
        have e2 : (last - p).toNat = L - 52 := by omega
        rw [e1, e2, Nat.pow_zero, Nat.mul_one]
        have : (4503599627370496 : Nat) * 2 ^ (L - 52) = 2 ^ L := by
          rw [show (4503599627370496 : Nat) = 2 ^ 52 by decide, ← Nat.pow_add, show 52 + (L - 52) = L by omega]
        omega
  · have hu : L + 1 + (p - last).toNat ≤ 53 + (last - p).toNat := by omega
    have h3 : m * 2 ^ (p - last).toNat ≤ 2 ^ (L + 1) * 2 ^ (p - last).toNat := Nat.mul_le_mul_right _ (Nat.le_of_lt h1)
    rw [← Nat.pow_add] at h3
    have h4 : (2 : Nat) ^ (L + 1 + (p - last).toNat) ≤ 2 ^ (53 + (last - p).toNat) := Nat.pow_le_pow_right (by decide) hu
    rw [Nat.pow_add 2 53] at h4
    exact Nat.le_trans h3 (Nat.le_trans h4 (Nat.le_of_eq (by congr 1)))
  · unfold Ieee.Format.nearest
    rw [if_neg (by omega)]
    simp only [hf, hb, hi, hl]
    rw [hL, show ((52 : Nat) : Int) = 52 by rfl, ← hlast, cut_rne, Nat.shiftLeft_eq, show last - -1074 = last + 1074 by omega]
theorem two_cancel {a b k : Nat} (h : a * 2 ^ k = b * 2 ^ k) : a = b := Nat.eq_of_mul_eq_mul_right (Nat.two_pow_pos k) h
theorem pw3 (m x y z : Nat) : m * 2 ^ x * 2 ^ y * 2 ^ z = m * 2 ^ (x + y + z) := by rw [Nat.pow_add, Nat.pow_add, ← Nat.mul_assoc, ← Nat.mul_assoc]
theorem nearest_eq (neg : Bool) (m : Nat) (p : Int) (hm : 0 < m) : Ieee.Format.nearest Ieee.double neg m p = Ieee.double.word neg (min (nearX (m * 2 ^ p.toNat) (2 ^ (-p).toNat)) infW) := by
  obtain ⟨t, u, v, e1, e2, e3, _, e5⟩ := near_core neg m p hm
  obtain ⟨a, b, c⟩ := rne_spec (m * 2 ^ u) (2 ^ v) (Nat.two_pow_pos v)
  rw [e5]
  refine congrArg (fun x => Ieee.double.word neg (min x infW)) ?_
  refine near_eq (Nat.two_pow_pos _) (near_mk _ _ (2 ^ v) (m * 2 ^ u) t _ (Nat.two_pow_pos _) (Nat.two_pow_pos v) ?_ a b c (rne_le (Nat.two_pow_pos v) e3) e2)
  have hk : p.toNat + leB + v = u + t + (-p).toNat := by
    have := leB_eq
    omega
  rw [pw3, pw3, hk]
/-- a quotient with a digit that tells whether anything is left -/
theorem nearest_frac (neg : Bool) (E n : Nat) (p : Int) (hn : 0 < n) (hq : 9007199254740992 ≤ E / n) (C D : Nat) (hD : 0 < D) (h : E * 2 ^ (p + 1).toNat * D = C * n * 2 ^ (-(p + 1)).toNat) :
    Ieee.Format.nearest Ieee.double neg (2 * (E / n) + (E % n != 0).toNat) p = Ieee.double.word neg (min (nearX C D) infW) := by
  obtain ⟨q, hqd⟩ : ∃ q, E / n = q := ⟨_, rfl⟩
  obtain ⟨r, hr⟩ : ∃ r, E % n = r := ⟨_, rfl⟩
  have hEn : E = n * q + r := by rw [← hqd, ← hr]; exact (Nat.div_add_mod E n).symm
  have hrn : r < n := by rw [← hr]; exact Nat.mod_lt _ hn
  rw [hqd] at hq ⊢
  rw [hr]
  obtain ⟨s, hs⟩ : ∃ s, (r != 0).toNat = s := ⟨_, rfl⟩
  have hs1 : (s = 0 ∧ r = 0) ∨ (s = 1 ∧ 0 < r) := by
    by_cases h0 : r = 0
    · left; rw [← hs, h0]; exact ⟨rfl, rfl⟩
    · right
      rw [← hs, show (r != 0) = true from bne_iff_ne.2 h0]
      exact ⟨rfl, by omega⟩
  rw [hs]
  obtain ⟨t, u, v, e1, e2, e3, e4, e5⟩ := near_core neg (2 * q + s) p (by omega)
  rw [e5]
  have hlog : 54 ≤ (2 * q + s).log2 := by
    rw [Nat.le_log2 (by omega)]
    exact Nat.le_trans (show (2 : Nat) ^ 54 ≤ 2 * 9007199254740992 by decide) (by omega)
  obtain ⟨hu, hv⟩ := e4 hlog
  subst hu
  rw [Nat.pow_zero, Nat.mul_one] at e2 e3 ⊢
  obtain ⟨a, b, c⟩ := rne_spec (2 * q + s) (2 ^ v) (Nat.two_pow_pos v)
  have hR := rne_le (Nat.two_pow_pos v) e3
  refine congrArg (fun x => Ieee.double.word neg (min x infW)) ?_
  obtain ⟨R, hRd⟩ : ∃ R, rne (2 * q + s) (2 ^ v) = R := ⟨_, rfl⟩
  rw [hRd] at a b c hR ⊢
  refine near_eq hD (near_mk C D (n * 2 ^ v) (2 * E) t R hD (Nat.mul_pos hn (Nat.two_pow_pos v)) ?_ ?_ ?_ ?_ hR ?_)
  · have hk2 : (p + 1).toNat + (leB + v) = 1 + t + (-(p + 1)).toNat := by
      have := leB_eq
      omega
    have hp2 : 2 ^ (p + 1).toNat * (2 ^ leB * 2 ^ v) = 2 * 2 ^ t * 2 ^ (-(p + 1)).toNat := by
      rw [← Nat.pow_add, ← Nat.pow_add, hk2, Nat.pow_add, Nat.pow_add, Nat.pow_one]
    have hK : 0 < 2 ^ (-(p + 1)).toNat := Nat.two_pow_pos _
    generalize 2 ^ leB = Z at *
    generalize 2 ^ (p + 1).toNat = P at *
    generalize 2 ^ (-(p + 1)).toNat = K at *
    generalize 2 ^ t = T at *
    generalize 2 ^ v = V at *
    clear e1 e2 e3 e5 a b c
    refine Nat.eq_of_mul_eq_mul_right hK ?_
    calc C * Z * (n * V) * K = C * n * K * (Z * V) := by ac_rfl
      _ = E * D * (P * (Z * V)) := by rw [← h]; ac_rfl
      _ = E * D * (2 * T * K) := by rw [hp2]
      _ = 2 * E * T * D * K := by ac_rfl
  all_goals
    obtain ⟨z, hz⟩ : ∃ z, 2 ^ v = 4 * z := ⟨2 ^ (v - 2), by
      have h4 : (2 : Nat) ^ v = 2 ^ (2 + (v - 2)) := by congr 1; omega
      rw [h4, Nat.pow_add]⟩
    rw [hz] at a b c e2 ⊢
    obtain ⟨Q, hQ⟩ : ∃ Q, Q = R * z := ⟨_, rfl⟩
    obtain ⟨Qn, hQn⟩ : ∃ Qn, Qn = Q * n := ⟨_, rfl⟩
    obtain ⟨zn, hzn⟩ : ∃ zn, zn = z * n := ⟨_, rfl⟩
    obtain ⟨qn, hqn⟩ : ∃ qn, qn = q * n := ⟨_, rfl⟩
    have k1 : R * (4 * z) = 4 * Q := by rw [hQ]; ac_rfl
    have k2 : R * (n * (4 * z)) = 4 * Qn := by rw [hQn, hQ]; ac_rfl
    have k3 : n * (4 * z) = 4 * zn := by rw [hzn]; ac_rfl
    have k4 : E = qn + r := by rw [hqn, Nat.mul_comm q n]; exact hEn
    have mul_le : ∀ x y : Nat, x ≤ y → x * n ≤ y * n := fun x y h => Nat.mul_le_mul_right n h
  · rw [k1] at a b
    rw [k2, k3, k4]
    have f1 := mul_le (4 * Q) (2 * q + 2 * z) (by omega)
    rw [Nat.add_mul, Nat.mul_assoc, Nat.mul_assoc, Nat.mul_assoc, ← hQn, ← hqn, ← hzn] at f1
    omega
  · rw [k1] at a b
    rw [k2, k3, k4]
    rcases hs1 with ⟨s0, r0⟩ | ⟨s1, r1⟩
    · have f1 := mul_le (2 * q) (4 * Q + 2 * z) (by omega)
      rw [Nat.add_mul, Nat.mul_assoc, Nat.mul_assoc, Nat.mul_assoc, ← hQn, ← hqn, ← hzn] at f1
      omega
    · have f1 := mul_le (2 * q + 2) (4 * Q + 2 * z) (by omega)
      rw [Nat.add_mul, Nat.add_mul, Nat.mul_assoc, Nat.mul_assoc, Nat.mul_assoc, ← hQn, ← hqn, ← hzn] at f1
      omega
  · intro ho
    have hc := c ho
    rw [k1] at hc
    rw [k2, k3, k4]
    rcases hs1 with ⟨s0, r0⟩ | ⟨s1, r1⟩
    · have f1 := mul_le (4 * Q + 1) (2 * q + 2 * z) (by omega)
      have f2 := mul_le (2 * q + 1) (4 * Q + 2 * z) (by omega)
      rw [Nat.add_mul, Nat.add_mul, Nat.mul_assoc, Nat.mul_assoc, Nat.mul_assoc, ← hQn, ← hqn, ← hzn] at f1 f2
      omega
    · have f1 := mul_le (4 * Q) (2 * q + 2 * z) (by omega)
      have f2 := mul_le (2 * q + 2) (4 * Q + 2 * z) (by omega)
      rw [Nat.add_mul, Nat.mul_assoc, Nat.mul_assoc, Nat.mul_assoc, ← hQn, ← hqn, ← hzn] at f1
      rw [Nat.add_mul, Nat.add_mul, Nat.mul_assoc, Nat.mul_assoc, Nat.mul_assoc, ← hQn, ← hqn, ← hzn] at f2
      omega
  · rw [k3, k4]
    refine e2.imp_right fun h2 => ?_
    have f1 := mul_le (4503599627370496 * (2 * z)) q (by omega)
    have e : 4503599627370496 * (2 * z) * n = 4503599627370496 * (2 * zn) := by rw [hzn]; ac_rfl
    rw [e, ← hqn] at f1
    omega

/-- what a sign and a size below infinity are read as -/
theorem word_eq (s : Bool) (X : Nat) : Ieee.double.word s X = if s then 9223372036854775808 + X else X := by
  have hw : Ieee.double.signWeight = 9223372036854775808 := by kernel_rfl
  unfold Ieee.Format.word
  rw [hw]
theorem word_read (s : Bool) (X : Nat) (hX : X < infW) : ∃ m a : Nat, Ieee.Format.read Ieee.double (Ieee.double.word s X) = .number s m ((-1074 : Int) + a) ∧ m * 2 ^ a = valR X := by
  have hi := infW_eq
  have hm : Ieee.double.word s X % 9223372036854775808 = X := by
    rw [word_eq]
    split <;> omega
  obtain ⟨m, a, h1, h2⟩ := read_num (Ieee.double.word s X) (by rw [hm]; omega)
  rw [hm] at h2
  refine ⟨m, a, ?_, h2⟩
  rw [h1]
  congr 1
  rw [word_eq]
  cases s
  · rw [if_neg (by decide), beq_eq_false_iff_ne]
    omega
  · rw [if_pos rfl, beq_iff_eq]
    omega
theorem val_pos {X : Nat} (h : 0 < X) : 0 < valR X := Nat.pos_of_ne_zero fun e => by have := val_zero e; omega
theorem mul_near (s t : Bool) (X Y C D : Nat) (hX0 : 0 < X) (hX : X < infW) (hY0 : 0 < Y) (hY : Y < infW) (hD : 0 < D) (h : valR X * valR Y * D = C * 2 ^ leB * 2 ^ leB) :
    Ieee.double.mul (Ieee.double.word s X) (Ieee.double.word t Y) = some (Ieee.double.word (s ^^ t) (min (nearX C D) infW)) := by
  obtain ⟨m, a, e1, v1⟩ := word_read s X hX
  obtain ⟨n, b, e2, v2⟩ := word_read t Y hY
  have hm : 0 < m := Nat.pos_of_ne_zero fun e => by
    have := val_pos hX0
    rw [← v1, e, Nat.zero_mul] at this
    omega
  have hn : 0 < n := Nat.pos_of_ne_zero fun e => by
    have := val_pos hY0
    rw [← v2, e, Nat.zero_mul] at this
    omega
  unfold Ieee.Format.mul
  rw [e1, e2]
  show some (Ieee.Format.nearest Ieee.double (s ^^ t) (m * n) _) = _
  rw [nearest_eq _ _ _ (Nat.mul_pos hm hn)]
  refine congrArg (fun x => some (Ieee.double.word (s ^^ t) (min x infW))) ?_
  refine near_same (Nat.two_pow_pos _) hD ?_
  obtain ⟨p, hp⟩ : ∃ p : Int, (-1074 : Int) + a + (-1074 + b) = p := ⟨_, rfl⟩
  rw [hp]
  have hk : p.toNat + (leB + leB) = a + b + (-p).toNat := by
    have := leB_eq
    omega
  have hp2 : 2 ^ p.toNat * (2 ^ leB * 2 ^ leB) = 2 ^ a * 2 ^ b * 2 ^ (-p).toNat := by
    rw [← Nat.pow_add, ← Nat.pow_add, hk, Nat.pow_add, Nat.pow_add]
  rw [← v1, ← v2] at h
  have hZ : 0 < 2 ^ leB := Nat.two_pow_pos _
  generalize 2 ^ leB = Z at *
  generalize 2 ^ p.toNat = P at *
  generalize 2 ^ (-p).toNat = K at *
  generalize 2 ^ a = u at *
  generalize 2 ^ b = v at *
  refine Nat.eq_of_mul_eq_mul_right (Nat.mul_pos hZ hZ) ?_
  calc m * n * P * D * (Z * Z) = m * n * D * (P * (Z * Z)) := by ac_rfl
    _ = m * u * (n * v) * D * K := by rw [hp2]; ac_rfl
    _ = C * K * (Z * Z) := by rw [h]; ac_rfl
theorem div_near (s t : Bool) (X Y C D : Nat) (hX0 : 0 < X) (hX : X < infW) (hY0 : 0 < Y) (hY : Y < infW) (hD : 0 < D) (h : valR X * D = C * valR Y) :
    Ieee.double.div (Ieee.double.word s X) (Ieee.double.word t Y) = some (Ieee.double.word (s ^^ t) (min (nearX C D) infW)) := by
  obtain ⟨m, a, e1, v1⟩ := word_read s X hX
  obtain ⟨n, b, e2, v2⟩ := word_read t Y hY
  have hm : 0 < m := Nat.pos_of_ne_zero fun e => by
    have := val_pos hX0
    rw [← v1, e, Nat.zero_mul] at this
    omega
  have hn : 0 < n := Nat.pos_of_ne_zero fun e => by
    have := val_pos hY0
    rw [← v2, e, Nat.zero_mul] at this
    omega
  unfold Ieee.Format.div
  rw [e1, e2]
  unfold Ieee.Datum.quotient
  dsimp only
  rw [if_neg (by omega)]
  obtain ⟨k, hk⟩ : ∃ k, Ieee.double.fractionBits + 2 + n.log2 - m.log2 = k := ⟨_, rfl⟩
  simp only [hk, Nat.shiftLeft_eq]
  have hk2 : 54 + n.log2 ≤ m.log2 + k := by
    have : Ieee.double.fractionBits = 52 := rfl
    omega
  show some (Ieee.Format.nearest Ieee.double (s ^^ t) _ _) = _
  rw [nearest_frac (s ^^ t) (m * 2 ^ k) n _ hn ?_ C D hD ?_]
  · rw [Nat.le_div_iff_mul_le hn]
    have f1 : n < 2 ^ (n.log2 + 1) := Nat.lt_log2_self
    have f2 : 2 ^ m.log2 ≤ m := Nat.log2_self_le (by omega)
    have f3 : 2 ^ m.log2 * 2 ^ k ≤ m * 2 ^ k := Nat.mul_le_mul_right _ f2
    rw [← Nat.pow_add] at f3
    have f4 : (2 : Nat) ^ (54 + n.log2) ≤ 2 ^ (m.log2 + k) := Nat.pow_le_pow_right (by decide) hk2
    rw [show 54 + n.log2 = 53 + (n.log2 + 1) by omega, Nat.pow_add 2 53] at f4
    have f5 : 9007199254740992 * n ≤ 2 ^ 53 * 2 ^ (n.log2 + 1) := Nat.mul_le_mul (by decide) (Nat.le_of_lt f1)
    omega
  · rw [← v1, ← v2] at h
    obtain ⟨p, hp⟩ : ∃ p : Int, (-1074 : Int) + a - (-1074 + b) - k - 1 = p := ⟨_, rfl⟩
    rw [hp]
    have hk3 : k + (p + 1).toNat + b = a + (-(p + 1)).toNat := by omega
    refine two_cancel (k := b) ?_
    calc m * 2 ^ k * 2 ^ (p + 1).toNat * D * 2 ^ b = m * D * 2 ^ (k + (p + 1).toNat + b) := by rw [Nat.pow_add, Nat.pow_add]; ac_rfl
      _ = m * D * 2 ^ (a + (-(p + 1)).toNat) := by rw [hk3]
      _ = m * 2 ^ a * D * 2 ^ (-(p + 1)).toNat := by rw [Nat.pow_add]; ac_rfl
      _ = C * n * 2 ^ (-(p + 1)).toNat * 2 ^ b := by rw [h]; ac_rfl

/-- a whole number below 2^53 is a float -/
theorem ex_int (d : Nat) (h0 : 0 < d) (hd : d ≤ 9007199254740992) : ∃ X, 0 < X ∧ X < infW ∧ valR X = d * 2 ^ leB ∧ nearX d 1 = X := by
  by_cases he : d = 9007199254740992
  · refine ⟨4845873199050653696, by decide, by decide, by rw [he]; decide +kernel, by rw [he]; decide +kernel⟩
  obtain ⟨L, hL⟩ : ∃ L, d.log2 = L := ⟨_, rfl⟩
  have h1 : d < 2 ^ (L + 1) := by rw [← hL]; exact Nat.lt_log2_self
  have h2 : 2 ^ L ≤ d := by rw [← hL]; exact Nat.log2_self_le (by omega)
  have hL52 : L ≤ 52 := by
    have : (2 : Nat) ^ L < 2 ^ 53 := Nat.lt_of_le_of_lt h2 (Nat.lt_of_lt_of_le (show d < 9007199254740992 by omega) (by decide))
    have := (Nat.pow_lt_pow_iff_right (show 1 < 2 by decide)).1 this
    omega
  obtain ⟨R, hR⟩ : ∃ R, R = d * 2 ^ (52 - L) := ⟨_, rfl⟩
  obtain ⟨t, ht⟩ : ∃ t, t = 1022 + L := ⟨_, rfl⟩
  have hR0 : 4503599627370496 ≤ R := by
    have := Nat.mul_le_mul_right (2 ^ (52 - L)) h2
    rw [← Nat.pow_add, show L + (52 - L) = 52 by omega, ← hR] at this
    exact Nat.le_trans (by decide) this
  have hR1 : R < 9007199254740992 := by
    have := Nat.mul_lt_mul_of_pos_right h1 (Nat.two_pow_pos (52 - L))
    rw [← Nat.pow_add, show L + 1 + (52 - L) = 53 by omega, ← hR] at this
    exact Nat.lt_of_lt_of_le this (by decide)
  have hv : R * 2 ^ t = d * 2 ^ leB := by
    rw [hR, Nat.mul_assoc, ← Nat.pow_add]
    congr 2
    have := leB_eq
    omega
  refine ⟨t * 4503599627370496 + R, by omega, by have := infW_eq; omega, ?_, ?_⟩
  · unfold valR
    rw [if_neg (by omega), show (t * 4503599627370496 + R) / 4503599627370496 = t + 1 by omega, show 4503599627370496 + (t * 4503599627370496 + R) % 4503599627370496 = R by omega, Nat.add_sub_cancel, hv]
  · refine (near_eq (by decide) (near_mk d 1 1 R t R (by decide) (by decide) (by rw [hv]) (by omega) (by omega) (fun _ => by omega) (by omega) (.inr (by omega)))).symm
theorem near_le {A B C D : Nat} (hB : 0 < B) (hD : 0 < D) (h : A * D ≤ C * B) : nearX A B ≤ nearX C D := near_mono hB hD (near_of A B hB) (near_of C D hD) h
end Go.Proofs.YtbjengfoaobdbaaGreatDoor.fpm
