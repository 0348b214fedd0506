/- What decimal.right and strconv's readFloat read in a text: plain. -/
import Derived.Test.YtcbgkbidgpemfaaGreatDoorMp10
namespace Go.Proofs.YtcbgkbidgpemfaaGreatDoor.rdf

def isD (c : UInt8) : Bool := decide (48 ≤ c.toNat) && decide (c.toNat ≤ 57)
/-- how many digits a text begins with -/
def dgs : List UInt8 → Nat
  | [] => 0
  | c :: l => if isD c then dgs l + 1 else 0
theorem dgs_le : ∀ l, dgs l ≤ l.length
  | [] => Nat.le_refl _
  | c :: l => by
    unfold dgs
    have := dgs_le l
    split <;> simp <;> omega
/-- is what is left behind the digits an exponent, with its e? -/
def expB : List UInt8 → Bool
  | [] => false
  | c :: l => (c == 101 || c == 69) && (let r := if l.head? = some 43 ∨ l.head? = some 45 then l.drop 1 else l
      decide (1 ≤ dgs r) && decide (dgs r ≤ 3) && decide (dgs r = r.length))
def unsg (l : List UInt8) : List UInt8 := if l.head? = some 45 then l.drop 1 else l
/-- whole digits, digits behind the point, and what is left -/
def cutN (l : List UInt8) : Nat × List UInt8 :=
  let r := l.drop (dgs l)
  if r.head? = some 46 then (dgs l + dgs (r.drop 1), (r.drop 1).drop (dgs (r.drop 1))) else (dgs l, r)
/-- is a text a decimal? -/
def rightL (l : List UInt8) : Bool :=
  if 40 < l.length then false
  else let q := cutN (unsg l)
    if q.1 < 1 ∨ 30 < q.1 ∨ q.2 = [] then decide (1 ≤ q.1) && decide (q.1 ≤ 30) else expB q.2

/-- readFloat's mantissa; N: the whole number that the digits spell -/
structure MS where
  N : Nat
  m : Nat
  dot : Bool
  sd : Bool
  nd : Nat
  nm : Nat
  dp : Int
  tr : Bool
def ms0 : MS := ⟨0, 0, false, false, 0, 0, 0, false⟩
def dgS (c : UInt8) (x : MS) : MS :=
  if c.toNat = 48 ∧ x.nd = 0 then { x with sd := true, dp := x.dp - 1 }
  else if x.nm < 19 then { x with N := x.N * 10 + (c.toNat - 48), sd := true, nd := x.nd + 1, m := x.m * 10 + (c.toNat - 48), nm := x.nm + 1 }
  else { x with N := x.N * 10 + (c.toNat - 48), sd := true, nd := x.nd + 1, tr := x.tr || decide (c.toNat ≠ 48) }
def dotS (x : MS) : MS := { x with dot := true, dp := x.nd }
def mL : List UInt8 → MS → MS × List UInt8
  | [], x => (x, [])
  | c :: l, x => if c.toNat = 46 then (if x.dot then (x, c :: l) else mL l (dotS x))
      else if isD c then mL l (dgS c x) else (x, c :: l)
theorem isD_iff (c : UInt8) : isD c = true ↔ 48 ≤ c.toNat ∧ c.toNat ≤ 57 := by
  unfold isD
  rw [Bool.and_eq_true, decide_eq_true_eq, decide_eq_true_eq]
/-- what holds of it when n bytes are read -/
structure MOk (n : Nat) (x : MS) : Prop where
  m : x.m < 10 ^ x.nm
  nm : x.nm ≤ 19
  nd : x.nd ≤ n
  d0 : -(n : Int) ≤ x.dp
  d1 : x.dp ≤ n
  mn : x.nm ≤ x.nd
  full : x.nm < 19 → x.nm = x.nd
  hN : x.N < 10 ^ x.nd
  lo : 0 < x.nd → 10 ^ (x.nd - 1) ≤ x.N
  q : x.m = x.N / 10 ^ (x.nd - x.nm)
  t : x.tr = decide (x.N % 10 ^ (x.nd - x.nm) ≠ 0)
theorem mok0 : MOk 0 ms0 := ⟨by decide, by decide, by decide, by decide, by decide, by decide, by decide, by decide, by decide, by decide, by decide⟩
theorem mok_mono {n k : Nat} {x : MS} (h : MOk n x) (hk : n ≤ k) : MOk k x :=
  ⟨h.m, h.nm, Nat.le_trans h.nd hk, by have := h.d0; omega, by have := h.d1; omega, h.mn, h.full, h.hN, h.lo, h.q, h.t⟩
theorem mok_dg {n : Nat} {x : MS} (h : MOk n x) (c : UInt8) (hc : isD c = true) : MOk (n + 1) (dgS c x) := by
  have hc2 := (isD_iff c).1 hc
  obtain ⟨a, b, d, e, f, g, i, j, k, q, t⟩ := h
  obtain ⟨y, hy⟩ : ∃ y, c.toNat - 48 = y := ⟨_, rfl⟩
  have hy9 : y ≤ 9 := by omega
  unfold dgS
  rw [hy]
  have hlow : 0 < x.nd → 10 ^ (x.nd + 1 - 1) ≤ x.N * 10 + y := fun h0 => by
    have h1 := k h0
    rw [show x.nd + 1 - 1 = x.nd - 1 + 1 by omega, Nat.pow_succ]
    omega
  have hhi : x.N * 10 + y < 10 ^ (x.nd + 1) := by
    rw [Nat.pow_succ]
    omega
  split
  · exact ⟨a, b, Nat.le_succ_of_le d, by show -((n + 1 : Nat) : Int) ≤ x.dp - 1; omega, by show x.dp - 1 ≤ ((n + 1 : Nat) : Int); omega, g, i, j, k, q, t⟩
  · rename_i hns
    have hlo2 : 0 < x.nd + 1 → 10 ^ (x.nd + 1 - 1) ≤ x.N * 10 + y := fun _ => by
      by_cases h0 : 0 < x.nd
      · exact hlow h0
      · have h1 : x.nd = 0 := by omega
        have h2 : ¬ c.toNat = 48 := fun h => hns ⟨h, h1⟩
        rw [h1]
        show 1 ≤ _
        omega
    split
    · rename_i hm
      have hf := i hm
      have hd0 : x.nd - x.nm = 0 := by omega
      rw [hd0, Nat.pow_zero, Nat.div_one] at q
      rw [hd0, Nat.pow_zero, Nat.mod_one] at t
      refine ⟨?_, by show x.nm + 1 ≤ 19; omega, by show x.nd + 1 ≤ n + 1; omega, by show -((n + 1 : Nat) : Int) ≤ x.dp; omega, by show x.dp ≤ ((n + 1 : Nat) : Int); omega, by show x.nm + 1 ≤ x.nd + 1; omega, fun _ => by show x.nm + 1 = x.nd + 1; omega, hhi, hlo2, ?_, ?_⟩
      · show x.m * 10 + y < 10 ^ (x.nm + 1)
        rw [Nat.pow_succ]
        omega
      · show x.m * 10 + y = (x.N * 10 + y) / 10 ^ (x.nd + 1 - (x.nm + 1))
        rw [show x.nd + 1 - (x.nm + 1) = 0 by omega, Nat.pow_zero, Nat.div_one, q]
      · show x.tr = decide ((x.N * 10 + y) % 10 ^ (x.nd + 1 - (x.nm + 1)) ≠ 0)
        rw [show x.nd + 1 - (x.nm + 1) = 0 by omega, Nat.pow_zero, Nat.mod_one, t]
    · rename_i hm
      have hm19 : x.nm = 19 := by omega
      have he : x.nd + 1 - x.nm = x.nd - x.nm + 1 := by omega
      have hp : 0 < 10 ^ (x.nd - x.nm) := Nat.pow_pos (by decide)
      refine ⟨a, b, by show x.nd + 1 ≤ n + 1; omega, by show -((n + 1 : Nat) : Int) ≤ x.dp; omega, by show x.dp ≤ ((n + 1 : Nat) : Int); omega, Nat.le_succ_of_le g, fun h => absurd h hm, hhi, hlo2, ?_, ?_⟩
      · show x.m = (x.N * 10 + y) / 10 ^ (x.nd + 1 - x.nm)
        rw [he, Nat.pow_succ, Nat.mul_comm (10 ^ (x.nd - x.nm)) 10, ← Nat.div_div_eq_div_mul, show (x.N * 10 + y) / 10 = x.N by omega, q]
      · show (x.tr || decide (c.toNat ≠ 48)) = decide ((x.N * 10 + y) % 10 ^ (x.nd + 1 - x.nm) ≠ 0)
        rw [he, Nat.pow_succ, Nat.mul_comm (10 ^ (x.nd - x.nm)) 10, Nat.mod_mul, show (x.N * 10 + y) % 10 = y by omega, show (x.N * 10 + y) / 10 = x.N by omega, t]
        have h48 : decide (c.toNat ≠ 48) = decide (y ≠ 0) := by
          by_cases h : c.toNat = 48
          · rw [decide_eq_false (by omega), decide_eq_false (by omega)]
          · rw [decide_eq_true (by omega), decide_eq_true (by omega)]
        rw [h48]
        generalize x.N % 10 ^ (x.nd - x.nm) = Z
        by_cases h1 : Z = 0
        · by_cases h2 : y = 0
          · rw [h1, h2]; rfl
          · have e1 : decide (y + 10 * Z ≠ 0) = true := decide_eq_true (by omega)
            have e2 : decide (y ≠ 0) = true := decide_eq_true h2
            rw [e1, e2, Bool.or_true]
        · have e1 : decide (y + 10 * Z ≠ 0) = true := decide_eq_true (by omega)
          have e2 : decide (Z ≠ 0) = true := decide_eq_true h1
          rw [e1, e2, Bool.true_or]
theorem mok_dot {n : Nat} {x : MS} (h : MOk n x) : MOk (n + 1) (dotS x) :=
  ⟨h.m, h.nm, Nat.le_succ_of_le h.nd, by show -((n + 1 : Nat) : Int) ≤ (x.nd : Int); omega, by have := h.nd; show (x.nd : Int) ≤ ((n + 1 : Nat) : Int); omega, h.mn, h.full, h.hN, h.lo, h.q, h.t⟩
/-- an exponent's digits -/
def eL : List UInt8 → Nat → Nat
  | [], e => e
  | c :: l, e => eL l (e * 10 + (c.toNat - 48))
/-- an exponent, without its e -/
def exV (l : List UInt8) : Int := if l.head? = some 45 then -(eL (l.drop 1) 0 : Int) else if l.head? = some 43 then (eL (l.drop 1) 0 : Int) else (eL l 0 : Int)
end Go.Proofs.YtcbgkbidgpemfaaGreatDoor.rdf
