/- setDigits. No conditions but those stated. -/
import Derived.Test.YtihhhglnnapkoaaGreatDoorPrnD
import Derived.Lib.ItoaLen
namespace Go.Proofs.YtihhhglnnapkoaaGreatDoor.prnw
open Go.RowKit
open Go.Shelf
open Go.Sort
open Go.Proofs.YtihhhglnnapkoaaGreatDoor.nodew
open Go.Proofs.YtihhhglnnapkoaaGreatDoor.chkw

/-- a byte as a value -/
def bV (b : UInt8) : Value := Value.int .u8 (b.toNat : Int)
/-- how many of the first n digits of u stay, without the noughts behind -/
def trimTo (u : Nat) : Nat → Nat
  | 0 => 0
  | n + 1 => if Lib.dg u (Lib.nDigits u - 1 - n) = 48 then trimTo u n else n + 1
theorem trim_le (u : Nat) : ∀ n, trimTo u n ≤ n
  | 0 => Nat.le_refl _
  | n + 1 => by
    unfold trimTo
    split
    · exact Nat.le_succ_of_le (trim_le u n)
    · exact Nat.le_refl _
/-- the digits of u lie in the block, and how many of them count -/
def SdPost (w : World) (bb u : Nat) (p : Int) (x : Ending) (w' : World) : Prop :=
  x = .returned (.tuple #[.int .i64 ((Lib.nDigits u : Nat) + p), .int .i64 (trimTo u (Lib.nDigits u) : Nat)]) ∧
    (∀ t, t < Lib.nDigits u → w'.cell? ⟨bb, t, none⟩ = some (bV (Lib.dg u (Lib.nDigits u - 1 - t)))) ∧ w.grownBy w' (some bb)
set_option maxRecDepth 100000 in
set_option maxHeartbeats 1000000 in
theorem setd_any (bb u : Nat) (p : Int) (_hu : 1 ≤ u) (hu2 : u < 18446744073709551616) (p0 : -400 ≤ p) (p1 : p ≤ 400) (w : World) (hb : Holds bV w bb 0 (Array.replicate 32 0)) :
    Calls Tryz.prog 90 #[.slice (some ⟨bb, 0, none⟩) 32 32, .int .u64 u, .int .i64 p, .int .i64 (Lib.nDigits u : Nat)] w (SdPost w bb u p) := by
  have hn := Lib.nDigits_le20 u hu2
  have hn1 := Lib.nDigits_pos u
  have hlt := Lib.lt_pow_nDigits u
  obtain ⟨N, hN⟩ : ∃ N, Lib.nDigits u = N := ⟨_, rfl⟩
  have hH : Holds bV w bb 0 (Array.replicate N 0) := fun j hj => by
    have h1 : j < N := by simpa using hj
    have := hb j (by simp; omega)
    rw [getElem!_pos _ j (by simp; omega), Array.getElem_replicate] at this
    rw [getElem!_pos _ j hj, Array.getElem_replicate]
    exact this
  have C := Tryz.internal_strconv_formatBase10 bb 0 32 u (Array.replicate N 0) w hH (by rw [Array.size_replicate, ← hN]; exact hlt) hu2 (by rw [Array.size_replicate]; omega)
  rw [Array.size_replicate] at C
  have C2 : Calls Tryz.prog 77 #[.slice (some ⟨bb, 0, none⟩) N 32, .int .u64 u] w fun e w' => e = .returned (.tuple #[]) ∧ (∀ t, t < N → w'.cell? ⟨bb, t, none⟩ = some (bV (Lib.dg u (N - 1 - t)))) ∧ w.grownBy w' (some bb) := C.mono fun e w' h => by
    obtain ⟨he, n, v, dk, hw, hf⟩ := h
    have hds : dk.size = (Array.replicate N (0 : UInt8)).size := by rw [hf.size, Array.size_replicate]
    refine ⟨he, fun t ht => ?_, ?_⟩
    · rw [hw]
      have h1 := cell?_putRow bV w bb 0 (Array.replicate N 0) dk hH hds t (by rw [hf.size]; exact ht)
      have h2 := hf.done t (Nat.zero_le _) ht
      rw [Nat.zero_add, h2] at h1
      exact h1
    · rw [hw]
      refine ⟨rfl, rfl, rfl, by simp [World.drewN], fun i hi hne => ?_⟩
      show (w.heap.modify bb _)[i]? = _
      rw [Array.getElem?_modify, if_neg (fun e => hne (by rw [e]))]
  have hfz : ∀ (w' : World) (t : Nat), w.grownBy w' (some bb) → True := fun _ _ _ => trivial
  unfold SdPost
  rw [hN]
  have C3 := Lib.hid C2
  have hN20 : N ≤ 20 := by omega
  have hN1 : 1 ≤ N := by omega
  have HN := Lib.hid hN
  have hNi : (N : Int) ≤ 32 := by omega
  have hN0 : (0 : Int) ≤ (N : Int) := by omega
  have hNN : N ≤ 32 := by omega
  clear hn hn1 hlt hN hH C C2 hfz hb _hu hu2
  go_enter Tryz.func90, Tryz.ntmps90
  go_wp2_with (go_at_call 77; (with_reducible refine C3.out.mono ?_); rintro e w' ⟨rfl, hc, hg⟩)
  obtain ⟨W, hW⟩ : ∃ W, W = w' := ⟨_, rfl⟩
  rw [← hW] at hc hg ⊢
  have hcn : ∀ n : Nat, n < N → W.cell? ⟨bb, n, none⟩ = some (.int .u8 ((Lib.dg u (N - 1 - n)).toNat : Int)) := hc
  have HC := Lib.hid hc
  have HG := Lib.hid hg
  have HCN := Lib.hid hcn
  clear hW hc hg hcn
  go_loopw [3] (fun i wr => ∃ n : Nat, n ≤ N ∧ i = .int .i64 n ∧ trimTo u n = trimTo u N ∧ wr = W) (fun i _ => (intOf i).toNat)
  case atStart => exact ⟨N, Nat.le_refl _, rfl, rfl, rfl⟩
  case round =>
    obtain ⟨n, hnN, rfl, hq, rfl⟩ := hrel
    obtain ⟨wx, hwx⟩ : ∃ wx, wx = wr := ⟨_, rfl⟩
    cases n with
    | zero =>
      have hq1 : trimTo u N = 0 := by rw [← hq]; rfl
      have HQ := Lib.hid hq1
      clear hq hq1 hwx
      go_wp2_with fail
      go_ret2
      exact ⟨by rw [HQ.out]; rfl, HC.out, HG.out⟩
    | succ n =>
      have c1 := HCN.out n (by omega)
      have hn0 : (0 : Int) ≤ (n : Int) := by omega
      have hn1 : (n : Int) + 1 ≤ 32 := by omega
      have hn2 : (n : Int) < 32 := by omega
      have ec : ((n + 1 : Nat) : Int) = (n : Int) + 1 := by omega
      have et : trimTo u (n + 1) = if Lib.dg u (Lib.nDigits u - 1 - n) = 48 then trimTo u n else n + 1 := rfl
      rw [HN.out] at et
      rw [ec]
      obtain ⟨b, hb⟩ : ∃ b, Lib.dg u (N - 1 - n) = b := ⟨_, rfl⟩
      rw [hb] at c1 et
      have hb0 : (0 : Int) ≤ (b.toNat : Int) := by omega
      by_cases h48 : b = 48
      · rw [if_pos h48] at et
        have hq2 : trimTo u n = trimTo u N := by rw [← et]; exact hq
        have e48 : ((b.toNat : Int) == 48) = true := by rw [h48]; rfl
        have HQ := Lib.hid hq2
        clear hq hq2 et hb ec h48 hwx
        go_wp2_with fail
        exact ⟨⟨n, by omega, rfl, HQ.out, trivial⟩, by show ((n : Int)).toNat < ((n : Int) + 1).toNat; omega⟩
      · rw [if_neg h48] at et
        have hq2 : trimTo u N = n + 1 := by rw [← hq]; exact et
        have e48 : ((b.toNat : Int) == 48) = false := by
          rw [beq_eq_false_iff_ne]
          intro h
          exact h48 (UInt8.toNat_inj.1 (by have : (48 : UInt8).toNat = 48 := rfl; omega))
        have HQ := Lib.hid hq2
        clear hq hq2 et hb ec h48 hwx
        go_wp2_with fail
        go_ret2
        exact ⟨by rw [HQ.out]; rfl, HC.out, HG.out⟩
end Go.Proofs.YtihhhglnnapkoaaGreatDoor.prnw
