/-
  Proved: burnishlaw20.FlatSame returns true for every row of nodes and every row of numbers, and its arguments read afterwards as they read before. No conditions.
-/
import Derived.Test.YtlhdabpoljoobaaRows
import Derived.Test.YtlhdabpoljoobaaFlbK
import Derived.Test.YtlhdabpoljoobaaFlaD
import Derived.Test.YtlhdabpoljoobaaFlaF
import Derived.Test.YtlhdabpoljoobaaPost
import Derived.WalkKit
import Derived.ProofKit
import Derived.OpenShut
import Derived.ShutString
import Derived.Deep.DeepHandedRow
import Derived.Carry
namespace Go.Proofs.Ytlhdabpoljoobaa.flatSame
open Go.ChangeShapes Go.WideShapes Go.ChangeAt Go.RowKit
open Go.Proofs.Ytlhdabpoljoobaa.post
open Go.Proofs.Ytlhdabpoljoobaa.nodew
open Go.Proofs.Ytlhdabpoljoobaa.chkw
open Go.Proofs.Ytlhdabpoljoobaa.flatw

theorem own : ownKnob Try.prog.godebug = none := by kernel_rfl
theorem laidOut : laidOutB Try.prog = true := by kernel_rfl
theorem walk (l : List Nd) (hok : ∀ n ∈ l, n.ok) (bs : List Nat) (hb : ∀ b ∈ bs, b < 256) (v vb : Value) (w : World) (hn : NArg w w.heap.size v l) (hbs : BArg w w.heap.size vb bs) : Calls Try.prog 4 #[v, vb] w (TruePost w) := by
  by_cases h : l.length ≤ 40
  · cases hr : rightP l with
    | true => exact same_right l h hok hr bs hb v vb w hn hbs
    | false => exact same_wrong l h hok hr v vb w hn
  · exact same_long l (by omega) v vb w hn.form

set_option maxRecDepth 100000 in
theorem lifted (os : Os) (started : os.Started) (H : Type) (enc : TypeId × Value → H) :
    ReturnsInHanded {} Try.checked os 4 .any (Rows.flatSameSpec.pre6 enc Try.prog Try.f4 Rows.flatSameRow.domain false) (Rows.flatSameSpec.post enc Try.prog Try.f4 false true false false) := by
  refine returnsInHanded_of_change (C := Try.checked) own started (by kernel_rfl) Try.func4
    (ChangeSpec.witness6 (enc := enc) (C := Try.checked) false ⟨#[], #[.slice none 0 0, .slice none 0 0], []⟩ 8 (by kernel_rfl) (by kernel_rfl) (by kernel_rfl) (by kernel_rfl)) ?_
  intro W base args ds gs before hval0 hW _ _
  have hval : ∀ (j : Nat) t v, Try.f4.params[j]? = some t → args[j]? = some v → Value.okWide Try.prog W .any base t v := hval0
  have hW' := hW
  have hlt : ∀ p ∈ before, p.block < W.heap.size := fun p hp => hW.lt p hp
  obtain ⟨p, q, hA0, hV, hbe, _, _⟩ := hW
  have hA : DataW.TrodAll enc Try.prog W 0 (fun _ => true) true Try.f4.params.toList args.toList ds p := hA0
  rw [Try.params4] at hA hval
  obtain ⟨v0, vs0, d0, ds0, p0, q0, hargs, rfl, rfl, h0, r0⟩ := trodAll_cons hA
  obtain ⟨v1, vs1, d1, ds1, p1, q1, rfl, rfl, rfl, h1, r1⟩ := trodAll_cons r0
  obtain ⟨rfl, rfl, rfl⟩ := trodAll_nil r1
  obtain rfl : args = #[v0, v1] := by cases args; simp_all
  obtain ⟨rfl, rfl⟩ := trodVars_none hV
  obtain ⟨l, hla, hlo⟩ : ∃ l : List Nd, NArg W W.heap.size v0 l ∧ ∀ y ∈ l, y.ok := by
    obtain ⟨fuel, hf⟩ := id h0
    exact nodes_of (okWide_slice Try.underlying22 (hval 0 22 v0 rfl rfl)) hf
  obtain ⟨bs, hbs, hbo⟩ : ∃ bs : List Nat, BArg W W.heap.size v1 bs ∧ ∀ b ∈ bs, b < 256 := by
    obtain ⟨fuel, hf⟩ := id h1
    exact bytes_of (okWide_slice Try.underlying39 (hval 1 39 v1 rfl rfl)) hf
  refine (walk l hlo bs hbo v0 v1 W hla hbs).mono fun e W' ⟨he, hg⟩ => ?_
  subst he
  have hin : ∀ x, x ∈ p0 ++ (p1 ++ []) → x ∈ before := fun x hx => by rw [hbe]; simpa using hx
  have stay : ∀ (t : TypeId) (v : Value) (d : DataW H) (ps : List MemPlace), Try.prog.readableRec t = true → t < Try.prog.types.size → DataW.Trod enc Try.prog W 0 (fun _ => true) true t v d ps → (∀ x ∈ ps, x ∈ before) → ∀ sp : Nat → Bool, (∀ p ∈ before, sp p.block = true) → DataW.Trod enc Try.prog W' 0 sp true t v d ps :=
    fun t v d ps hr hrow h hm sp hsp => WideElems.Trod_stays laidOut hr hrow h (fun x hx => hg.same (hlt x (hm x hx))) (fun x hx => hsp x (hm x hx))
  exact ⟨_, rfl, post_of_below (pa := p0 ++ (p1 ++ [])) (pv := []) hW' (fun _ _ _ => (trodAll_cons_mk (shut_bool Try.underlying4 _) trodAll_mk0))
    (fun sp hsp => trodAll_cons_mk (stay _ _ _ _ (by kernel_rfl) (of_decide_eq_true (by kernel_rfl)) h0 (fun x hx => hin x (by simp [hx])) sp hsp)
      (trodAll_cons_mk (stay _ _ _ _ (by kernel_rfl) (of_decide_eq_true (by kernel_rfl)) h1 (fun x hx => hin x (by simp [hx])) sp hsp) trodAll_mk0)) (fun _ _ => rfl) (by rw [hbe])
    hg (ok_one (by kernel_rfl) rfl (okWide_bool_mk Try.underlying4 _))⟩

theorem proved : Rows.FlatSameSaid :=
  OpenClaim.holds_of_wide 4 Try.f4 rfl rfl rfl rfl rfl rfl rfl ⟨rfl, rfl, rfl, rfl, rfl⟩ rfl rfl rfl rfl rfl (by kernel_rfl) Try.func4 (by kernel_rfl)
    (of_decide_eq_true (by kernel_rfl)) (by unfold Func.isWrapper; first | (rw [if_pos (by decide +kernel)]; kernel_rfl) | (rw [if_neg (by decide +kernel)]; exact ⟨rfl, rfl⟩))
    (fun os started H enc _ => lifted os started H enc)
#print axioms proved
end Go.Proofs.Ytlhdabpoljoobaa.flatSame
