/- burnishlaw19.awake: the chapter's examples. Condition: the library's tables hold what the row lists. -/
import Derived.Test.YtihhhglnnapkoaaGreatDoorPrnS
namespace Go.Proofs.YtihhhglnnapkoaaGreatDoor.prnw
open Go.RowKit
open Go.Shelf
open Go.Sort
open Go.Proofs.YtihhhglnnapkoaaGreatDoor.nodew
open Go.Proofs.YtihhhglnnapkoaaGreatDoor.chkw
open Go.Proofs.YtihhhglnnapkoaaGreatDoor.flatm

theorem nd_eq : ∀ (n u : Nat), 10 ^ n ≤ u → u < 10 ^ (n + 1) → Lib.nDigits u = n + 1
  | 0, u, _, h => Lib.nDigits_small (by simpa using h)
  | n + 1, u, h1, h2 => by
    have h3 : 10 ≤ u := Nat.le_trans (by rw [Nat.pow_succ]; have := Nat.pow_pos (n := n) (show 0 < 10 by decide); omega) h1
    rw [Lib.nDigits_big (by omega), nd_eq n (u / 10) (by rw [Nat.pow_succ] at h1; omega) (by rw [Nat.pow_succ] at h2; omega)]
def trX (u N : Nat) : Nat → Nat
  | 0 => 0
  | n + 1 => if Lib.dg u (N - 1 - n) = 48 then trX u N n else n + 1
theorem tr_x (u N : Nat) (h : Lib.nDigits u = N) : ∀ n, trimTo u n = trX u N n
  | 0 => rfl
  | n + 1 => by
    unfold trimTo trX
    rw [h, tr_x u N h n]
/-- a positive number's text, the count of its digits given -/
def posX (u N : Nat) (p : Int) : List UInt8 := laidT (Lib.dg u (N - 1) :: (List.range (trX u N N - 1)).map fun t => Lib.dg u (N - 1 - (t + 1))) ((N : Nat) + p)
theorem pos_x (hi lo : Nat → Nat) (X u n : Nat) (p : Int) (h : ftR hi lo X = ((u : Int), p)) (h1 : 10 ^ n ≤ u) (h2 : u < 10 ^ (n + 1)) : posT hi lo X = posX u (n + 1) p := by
  have hn := nd_eq n u h1 h2
  unfold posT posD posK posX sdH sdL
  rw [h]
  simp only [Int.toNat_natCast]
  rw [hn, tr_x u (n + 1) hn]
theorem prT_pos (hi lo : Nat → Nat) (x : Nat) (h : prOk x = true) (h0 : x ≠ 0) (h1 : ¬ 9223372036854775808 ≤ x) : prT hi lo x = posT hi lo x := by
  unfold prT
  rw [if_pos h, if_neg h0, if_neg h1]
theorem prT_h : prT hiP loP 4602678819172646912 = [48, 46, 53] := by
  have h := pos_x hiP loP 4602678819172646912 5000000000000000 15 (-16) (by kernel_rfl) (by decide) (by decide)
  exact (prT_pos _ _ _ (by kernel_rfl) (by decide) (by decide)).trans (h.trans (by kernel_rfl))
theorem prT_1 : prT hiP loP 4607182418800017408 = [49] := by
  have h := pos_x hiP loP 4607182418800017408 1000000000000000 15 (-15) (by kernel_rfl) (by decide) (by decide)
  exact (prT_pos _ _ _ (by kernel_rfl) (by decide) (by decide)).trans (h.trans (by kernel_rfl))
theorem prT_q : prT hiP loP 4598175219545276416 = [48, 46, 50, 53] := by
  have h := pos_x hiP loP 4598175219545276416 2500000000000000 15 (-16) (by kernel_rfl) (by decide) (by decide)
  exact (prT_pos _ _ _ (by kernel_rfl) (by decide) (by decide)).trans (h.trans (by kernel_rfl))
theorem prT_0 : prT hiP loP 0 = [48] := by
  unfold prT
  rw [if_pos (by kernel_rfl), if_pos rfl]
theorem itoa_d (k : Nat) (h : k < 10) : Lib.itoa (k : Int) = [UInt8.ofNat (48 + k)] := by
  unfold Lib.itoa
  rw [if_neg (by omega), Int.toNat_natCast, Lib.decDigits, dif_pos h]
/-- the examples' nodes -/
def exL : Nd := ⟨1, [4602678819172646912, 4607182418800017408, 0, 0, 0, 0, 0, 0, 0, 0, 0, 0, 0, 0, 0, 0], 0, 0⟩
def exM : Nd := ⟨5, [0, 0, 0, 0, 0, 0, 0, 0, 0, 0, 0, 0, 0, 0, 0, 4598175219545276416], 0, 1⟩
theorem exL_ok : exL.ok := ⟨rfl, by decide⟩
theorem exM_ok : exM.ok := ⟨rfl, by decide⟩
theorem exL_t : lineT hiP loP exL 0 = [110, 48, 32, 61, 32, 108, 97, 109, 98, 101, 114, 116, 32, 48, 46, 53, 32, 49, 32, 48] ∧ lineE exL 0 = 0 := by
  have ho : lineOk exL 0 = true := by kernel_rfl
  have hn : nmB 0 = ⟨#[110, 48]⟩ := by
    unfold nmB
    rw [show (0 : Int) = ((0 : Nat) : Int) from rfl, itoa_d 0 (by decide)]
    rfl
  have hp : ∀ x l, prT hiP loP x = l → prB hiP loP x = bA l := fun x l h => by unfold prB; rw [h]
  refine ⟨?_, by unfold lineE; rw [if_pos ho]⟩
  have hT : lineT hiP loP exL 0 = Lib.join ((lineL hiP loP exL 0).map (·.data.toList)) [32] := if_pos ho
  have e : lineL hiP loP exL 0 = [⟨#[110, 48]⟩, eqB, wd1, bA [48, 46, 53], bA [49], bA [48]] := by
    show [nmB 0, eqB, wd1, prB hiP loP 4602678819172646912, prB hiP loP 4607182418800017408, prB hiP loP 0] = _
    rw [hn, hp _ _ prT_h, hp _ _ prT_1, hp _ _ prT_0]
  rw [e] at hT
  exact hT.trans (by kernel_rfl)
theorem exM_t : lineT hiP loP exM 2 = [110, 50, 32, 61, 32, 109, 105, 120, 32, 48, 46, 50, 53, 32, 110, 48, 32, 110, 49] ∧ lineE exM 2 = 0 := by
  have ho : lineOk exM 2 = true := by kernel_rfl
  have hn : ∀ k : Nat, k < 10 → nmB (k : Int) = bA [110, UInt8.ofNat (48 + k)] := fun k h => by
    unfold nmB
    rw [itoa_d k h]
  have hp : ∀ x l, prT hiP loP x = l → prB hiP loP x = bA l := fun x l h => by unfold prB; rw [h]
  refine ⟨?_, by unfold lineE; rw [if_pos ho]⟩
  have hT : lineT hiP loP exM 2 = Lib.join ((lineL hiP loP exM 2).map (·.data.toList)) [32] := if_pos ho
  have e : lineL hiP loP exM 2 = [bA [110, 50], eqB, wd5, bA [48, 46, 50, 53], bA [110, 48], bA [110, 49]] := by
    show [nmB ((2 : Nat) : Int), eqB, wd5, prB hiP loP 4598175219545276416, nmB ((0 : Nat) : Int), nmB ((1 : Nat) : Int)] = _
    rw [hn 2 (by decide), hn 0 (by decide), hn 1 (by decide), hp _ _ prT_q]
    rfl
  rw [e] at hT
  exact hT.trans (by kernel_rfl)
theorem exM_w : lineT hiP loP exM 1 = [] ∧ lineE exM 1 = 190 := by
  have ho : lineOk exM 1 = false := by kernel_rfl
  exact ⟨by unfold lineT; rw [if_neg (by rw [ho]; decide)], by unfold lineE; rw [if_neg (by rw [ho]; decide)]⟩
end Go.Proofs.YtihhhglnnapkoaaGreatDoor.prnw
