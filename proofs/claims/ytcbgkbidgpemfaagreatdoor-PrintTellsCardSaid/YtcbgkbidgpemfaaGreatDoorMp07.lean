/- The walk of strconv's atof64exact. Conditions: as each theorem states. -/
import Derived.Test.YtcbgkbidgpemfaaGreatDoorMp06
namespace Go.Proofs.YtcbgkbidgpemfaaGreatDoor.rdf
open Go.RowKit
open Go.Proofs.YtcbgkbidgpemfaaGreatDoor.bsw
open Go.Proofs.YtcbgkbidgpemfaaGreatDoor.prnw
open Go.Proofs.YtcbgkbidgpemfaaGreatDoor.dcw
open Go.Proofs.YtcbgkbidgpemfaaGreatDoor.dmx
open Go.Proofs.YtcbgkbidgpemfaaGreatDoor.fpm
open Go.Proofs.YtcbgkbidgpemfaaGreatDoor.flatm
open Go.Proofs.YtcbgkbidgpemfaaGreatDoor.nodew

/-- the words of ten to k -/
def p10 (k : Nat) : Nat := ([4607182418800017408, 4621819117588971520, 4636737291354636288, 4652007308841189376, 4666723172467343360, 4681608360884174848, 4696837146684686336, 4711630319722168320, 4726483295884279808, 4741671816366391296, 4756540486875873280, 4771362005757984768, 4786511204640096256, 4801453603149578240, 4816244402031689728, 4831355200913801216, 4846369599423283200, 4861130398305394688, 4876203697187506176, 4891288408196988160, 4906019910204099648, 4921056587992461136, 4936209963552724370] : List Nat).getD k 0
/-- the table of the exact powers, in blocks below B -/
def FT (B : Nat) (w : World) : Prop :=
  16 < B ∧ ∃ bb bo cap, bb < B ∧ w.cell? ⟨16, 0, none⟩ = some (.slice (some ⟨bb, bo, none⟩) 23 cap) ∧ ∀ k, k ≤ 22 → w.cell? ⟨bb, bo + k, none⟩ = some (.float .f64 (p10 k))
theorem FT.keep {B : Nat} {w w' : World} (h : FT B w) (hk : ∀ (p : Addr) (v : Value), p.block < B → w.cell? p = some v → w'.cell? p = some v) : FT B w' := by
  obtain ⟨h1, bb, bo, cap, h2, h3, h4⟩ := h
  exact ⟨h1, bb, bo, cap, h2, hk _ _ h1 h3, fun k h => hk _ _ h2 (h4 k h)⟩
theorem un_neg (k : FloatKind) (b : Nat) : Op.unary .neg (.float k b) = pure (.float k (Op.negFloat k b)) := rfl
attribute [local go_sem] un_neg fo_eq
theorem sgn_word (neg : Bool) (X : Nat) : sgn neg X = Ieee.double.word neg X := (word_eq neg X).symm
/-- a product and a quotient of words -/
theorem mul_run (w : World) (s : Bool) (X Y C D : Nat) (hX0 : 0 < X) (hX : X < infW) (hY0 : 0 < Y) (hY : Y < infW) (hD : 0 < D) (h : valR X * valR Y * D = C * 2 ^ leB * 2 ^ leB) :
    (binOp BinOp.mul 46 (.float .f64 (sgn s X)) (.float .f64 Y)).run Tryz.prog w = .ok (.float .f64 (sgn s (min (nearX C D) infW))) w := by
  refine run_float_arith w .mul _ .f64 _ _ _ ?_
  have := mul_near s false X Y C D hX0 hX hY0 hY hD h
  rw [word_eq false Y, if_neg (by decide), Bool.xor_false, ← sgn_word, ← sgn_word] at this
  exact this
end Go.Proofs.YtcbgkbidgpemfaaGreatDoor.rdf
