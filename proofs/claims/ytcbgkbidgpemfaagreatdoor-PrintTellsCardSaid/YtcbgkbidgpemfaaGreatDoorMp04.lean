/- What decimal.right and strconv's readFloat read in a text: plain. -/
import Derived.Test.YtcbgkbidgpemfaaGreatDoorMp01
namespace Go.Proofs.YtcbgkbidgpemfaaGreatDoor.rdf

def isD (c : UInt8) : Bool := decide (48 ≤ c.toNat) && decide (c.toNat ≤ 57)
theorem isD_iff (c : UInt8) : isD c = true ↔ 48 ≤ c.toNat ∧ c.toNat ≤ 57 := by
  unfold isD
  rw [Bool.and_eq_true, decide_eq_true_eq, decide_eq_true_eq]
/-- an exponent's digits -/
def eL : List UInt8 → Nat → Nat
  | [], e => e
  | c :: l, e => eL l (e * 10 + (c.toNat - 48))
end Go.Proofs.YtcbgkbidgpemfaaGreatDoor.rdf
