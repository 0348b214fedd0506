/- The walk of strconv's floatBits. Conditions: as the theorem states. -/
import Derived.Test.YtcbgkbidgpemfaaGreatDoorMp02
namespace Go.Proofs.YtcbgkbidgpemfaaGreatDoor.dcw
open Go.RowKit
open Go.Proofs.YtcbgkbidgpemfaaGreatDoor.bsw
open Go.Proofs.YtcbgkbidgpemfaaGreatDoor.prnw
open Go.Proofs.YtcbgkbidgpemfaaGreatDoor.dmx
open Go.Proofs.YtcbgkbidgpemfaaGreatDoor.fpm
open Go.Proofs.YtcbgkbidgpemfaaGreatDoor.scp

/-- what the slow road reads, in blocks below B -/
structure EV (B : Nat) (w : World) : Prop where
  lc : LC B w
  fi : 11 < B
  f0 : w.cell? ⟨11, 0, none⟩ = some (.int .u64 52)
  f1 : w.cell? ⟨11, 1, none⟩ = some (.int .u64 11)
  f2 : w.cell? ⟨11, 2, none⟩ = some (.int .i64 (-1023))
  pi : 15 < B
  pt : ∃ bb bo cap, bb < B ∧ w.cell? ⟨15, 0, none⟩ = some (.slice (some ⟨bb, bo, none⟩) 9 cap) ∧ ∀ d, d ≤ 8 → w.cell? ⟨bb, bo + d, none⟩ = some (.int .i64 (powT d : Nat))
theorem EV.keep {B : Nat} {w w' : World} (h : EV B w) (hk : ∀ (p : Addr) (v : Value), p.block < B → w.cell? p = some v → w'.cell? p = some v) : EV B w' := by
  obtain ⟨⟨l1, bb, bo, cap, l2, l3, l4⟩, fi, f0, f1, f2, pi, b2, o2, c2, p2, p3, p4⟩ := h
  refine ⟨⟨l1, bb, bo, cap, l2, hk _ _ l1 l3, fun k h1 h2 => ?_⟩, fi, hk _ _ fi f0, hk _ _ fi f1, hk _ _ fi f2, pi, b2, o2, c2, p2, hk _ _ pi p3, fun d hd => hk _ _ p2 (p4 d hd)⟩
  obtain ⟨c, s, a1, a2, a3⟩ := l4 k h1 h2
  exact ⟨c, s, hk _ _ l2 a1, hk _ _ l2 a2, a3⟩
theorem DV.drewN {w : World} {a V N n : Nat} {dp : Int} {neg : Bool} (h : DV w a V N n dp neg) (q : Nat) : DV (w.drewN q) a V N n dp neg := by
  obtain ⟨f, h1, h2⟩ := h
  exact ⟨f, h1.drewN q, h2⟩
theorem EV.drewN {B : Nat} {w : World} (h : EV B w) (q : Nat) : EV B (w.drewN q) := h.keep fun _ _ _ hv => hv
def sgn (neg : Bool) (X : Nat) : Nat := if neg then 9223372036854775808 + X else X
theorem bv_nat (a : Nat) (h : a < 18446744073709551616) : (BitVec.ofInt 64 (a : Int)).toNat = a := by
  rw [BitVec.toNat_ofInt]
  omega
end Go.Proofs.YtcbgkbidgpemfaaGreatDoor.dcw
