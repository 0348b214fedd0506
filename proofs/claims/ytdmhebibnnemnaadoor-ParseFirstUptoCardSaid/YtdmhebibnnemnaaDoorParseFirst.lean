/-
  Proved: burnishlaw17.ParseFirst returns true for every two rows of tokens, and its arguments read afterwards as they read before; the variables of Go's library that the row lists are tied to the program's text; of them the call reads seven. Condition: the two rows together are of bulk at most 1048576 (the second form); what the card lists.
-/
import Derived.Test.YtdmhebibnnemnaaDoorCards
import Derived.Test.YtdmhebibnnemnaaDoorTie
import Derived.Test.YtdmhebibnnemnaaDoorPfW
import Derived.Test.YtdmhebibnnemnaaDoorLaidR
import Derived.Test.YtdmhebibnnemnaaDoorPost
import Derived.WalkKit
import Derived.ProofKit
import Derived.OpenShut
import Derived.ShutString
import Derived.Deep.DeepHandedRow
import Derived.Lay
import Derived.LaidMore
import Derived.MakeChecks
import Derived.Carry
namespace Go.Proofs.YtdmhebibnnemnaaDoor.parseFirst
open Go.ChangeShapes Go.WideShapes Go.ChangeAt Go.RowKit
open Go.Proofs.YtdmhebibnnemnaaDoor.post
open Go.Proofs.YtdmhebibnnemnaaDoor.flow
open Go.Proofs.YtdmhebibnnemnaaDoor.pft

theorem own : ownKnob Tryd.prog.godebug = none := by kernel_rfl
theorem laidOut : laidOutB Tryd.prog = true := by kernel_rfl

theorem one_le {H : Type} (d : DataW H) : 1 ≤ Rows.uptoBulk d := by
  cases d with
  | lit l => cases l <;> simp [Rows.uptoBulk]
  | nil => simp [Rows.uptoBulk]
  | ptr d => simp [Rows.uptoBulk]
  | slice elems spare => simp [Rows.uptoBulk]
  | agg parts => simp [Rows.uptoBulk]
  | iface t d => simp [Rows.uptoBulk]
  | map entries => simp [Rows.uptoBulk]
  | held h => simp [Rows.uptoBulk]
theorem length_le {H : Type} (l : List (DataW H)) : l.length ≤ Rows.uptoBulkAll l := by
  induction l with
  | nil => simp [Rows.uptoBulkAll]
  | cons x r ih => have := one_le x; simp only [Rows.uptoBulkAll, List.length_cons]; omega
theorem agg_le {H : Type} (a b c : DataW H) : 4 ≤ Rows.uptoBulk (.agg [a, b, c]) := by
  have h1 := one_le a
  have h2 := one_le b
  have h3 := one_le c
  simp only [Rows.uptoBulk, Rows.uptoBulkAll]
  omega
/-- a slice's places -/
theorem len_bulk {H : Type} {enc : TypeId × Value → H} {w : World} {base fuel : Nat} {sp : Nat → Bool} {held : Bool} {A : Option Addr} {n c : Nat} {x : DataW H × List MemPlace} (h : DataW.trod enc Tryd.prog w base sp held fuel 22 [.slice A n c] = some x) : n * 4 ≤ Rows.uptoBulk x.1 := by
  rcases DataW.trod_slice Tryd.underlying22 h with ⟨hc, _⟩ | ⟨a, len, cap, elems, rest, m, _, hc, hx, _, _, _, hl, hel, _⟩
  · simp only [List.cons.injEq, Value.slice.injEq, and_true] at hc
    omega
  · simp only [List.cons.injEq, Value.slice.injEq, and_true] at hc
    have hall : ∀ l : List (DataW H × List MemPlace), (∀ y ∈ l, 4 ≤ Rows.uptoBulk y.1) → l.length * 4 ≤ Rows.uptoBulkAll (l.map (·.1)) := by
      intro l
      induction l with
      | nil => intro _; simp
      | cons y r ih =>
        intro hy
        have h1 := hy y (by simp)
        have h2 := ih (fun z hz => hy z (by simp [hz]))
        simp only [List.map_cons, Rows.uptoBulkAll, List.length_cons]
        omega
    have h4 : ∀ y ∈ elems, 4 ≤ Rows.uptoBulk y.1 := fun y hy => by
      obtain ⟨i, hi, rfl⟩ := List.getElem_of_mem hy
      have := hel i (by omega)
      rw [List.getElem?_eq_getElem hi, Option.bind_eq_some_iff] at this
      obtain ⟨us, _, ht⟩ := this
      obtain ⟨xs, _, _, hxs, _, hn, _⟩ := DataW.trod_struct Tryd.underlying24 ht
      rw [hxs]
      have hn3 : xs.length = 3 := hn
      match xs, hn3 with
      | [p, q, r], _ => exact agg_le _ _ _
    have := hall elems h4
    rw [hx]
    simp only [Rows.uptoBulk]
    omega

set_option maxRecDepth 100000 in
theorem contract (H : Type) (enc : TypeId × Value → H) (W : World) (base : Nat) (args : Array Value) (ds gs : List (DataW H)) (before : List MemPlace) (hL : laidMet Tryd.prog Rows.parseFirstUptoRow.laid W) (hk : Rows.uptoSmall H (ds ++ gs) = true)
    (hval0 : ∀ (j : Nat) t v, Tryd.f3.params[j]? = some t → args[j]? = some v → Value.okWide Tryd.prog W .any base t v)
    (hW : DataW.Whole enc Tryd.prog Tryd.f3.params.toList Rows.parseFirstSpec.vars false W args.toList ds gs before) :
    Calls Tryd.prog 3 args W fun e W' => ∃ v, e = .returned v ∧ Rows.parseFirstSpec.post enc Tryd.prog Tryd.f3 false true false false W args v W' := by
  have hval : ∀ (j : Nat) t v, Tryd.f3.params[j]? = some t → args[j]? = some v → Value.okWide Tryd.prog W .any base t v := hval0
  have hW' := hW
  have hlt : ∀ p ∈ before, p.block < W.heap.size := fun p hp => hW.lt p hp
  obtain ⟨p, q, hA0, hV, hbe, _, _⟩ := hW
  have hA : DataW.TrodAll enc Tryd.prog W 0 (fun _ => true) true Tryd.f3.params.toList args.toList ds p := hA0
  rw [Tryd.params3] at hA hval
  obtain ⟨v0, vs0, d0, ds0, p0, q0, hargs, rfl, rfl, h0, r0⟩ := trodAll_cons hA
  obtain ⟨v1, vs1, d1, ds1, p1, q1, rfl, rfl, rfl, h1, r1⟩ := trodAll_cons r0
  obtain ⟨rfl, rfl, rfl⟩ := trodAll_nil r1
  obtain rfl : args = #[v0, v1] := by cases args; simp_all
  obtain ⟨rfl, rfl⟩ := trodVars_none hV
  have hbulk : Rows.uptoBulk d0 + (Rows.uptoBulk d1 + 0) ≤ 1048576 := of_decide_eq_true hk
  obtain ⟨a, hsa, hla⟩ : ∃ l : List parw.PTok, TArg W W.heap.size v0 l ∧ l.length * 4 ≤ Rows.uptoBulk d0 := by
    obtain ⟨fuel, hf⟩ := id h0
    obtain ⟨va, vl, vc, rfl⟩ := okWide_slice Tryd.underlying22 (hval 0 22 v0 rfl rfl)
    obtain ⟨l, hl⟩ := toks_of ⟨va, vl, vc, rfl⟩ hf
    refine ⟨l, hl, ?_⟩
    have hb := len_bulk hf
    obtain ⟨A, c, hv⟩ := hl.form
    injection hv with e1 e2 e3
    rw [← e2]
    exact hb
  obtain ⟨b, hsb, hlb⟩ : ∃ l : List parw.PTok, TArg W W.heap.size v1 l ∧ l.length * 4 ≤ Rows.uptoBulk d1 := by
    obtain ⟨fuel, hf⟩ := id h1
    obtain ⟨va, vl, vc, rfl⟩ := okWide_slice Tryd.underlying22 (hval 1 22 v1 rfl rfl)
    obtain ⟨l, hl⟩ := toks_of ⟨va, vl, vc, rfl⟩ hf
    refine ⟨l, hl, ?_⟩
    have hb := len_bulk hf
    obtain ⟨A, c, hv⟩ := hl.form
    injection hv with e1 e2 e3
    rw [← e2]
    exact hb
  have hLd : Laid W.heap.size W := laid_of _ W hL (by simp [Rows.parseFirstUptoRow]) (by simp [Rows.parseFirstUptoRow]) (by simp [Rows.parseFirstUptoRow]) (by simp [Rows.parseFirstUptoRow]) (by simp [Rows.parseFirstUptoRow]) (by simp [Rows.parseFirstUptoRow]) (by simp [Rows.parseFirstUptoRow])
  have hcall := first_any W.heap.size v0 v1 a b (by omega) W hLd hsa hsb (Nat.le_refl _)
  refine hcall.mono fun e W' ⟨he, hg⟩ => ?_
  subst he
  have hin : ∀ x, x ∈ p0 ++ (p1 ++ []) → x ∈ before := fun x hx => by rw [hbe]; simpa using hx
  have stay : ∀ (t : TypeId) (v : Value) (d : DataW H) (ps : List MemPlace), Tryd.prog.readableRec t = true → t < Tryd.prog.types.size → DataW.Trod enc Tryd.prog W 0 (fun _ => true) true t v d ps → (∀ x ∈ ps, x ∈ before) → ∀ sp : Nat → Bool, (∀ p ∈ before, sp p.block = true) → DataW.Trod enc Tryd.prog W' 0 sp true t v d ps :=
    fun t v d ps hr hrow h hm sp hsp => WideElems.Trod_stays laidOut hr hrow h (fun x hx => hg.same (hlt x (hm x hx))) (fun x hx => hsp x (hm x hx))
  exact ⟨_, rfl, post_of_below (pa := p0 ++ (p1 ++ [])) (pv := []) hW' (fun _ _ _ => (trodAll_cons_mk (shut_bool Tryd.underlying4 _) trodAll_mk0))
    (fun sp hsp => trodAll_cons_mk (stay _ _ _ _ (by kernel_rfl) (of_decide_eq_true (by kernel_rfl)) h0 (fun x hx => hin x (by simp [hx])) sp hsp)
      (trodAll_cons_mk (stay _ _ _ _ (by kernel_rfl) (of_decide_eq_true (by kernel_rfl)) h1 (fun x hx => hin x (by simp [hx])) sp hsp) trodAll_mk0)) (fun _ _ => rfl) (by rw [hbe])
    hg (ok_one (by kernel_rfl) rfl (okWide_bool_mk Tryd.underlying4 _))⟩

theorem reads (os : Os) {H : Type} (enc : TypeId × Value → H) : ∃ places, DataW.whole enc Tryd.prog ((World.laidAll Tryd.prog os Rows.parseFirstUptoRow.laid).forCall (fun _ _ => 0) ⟨#[], #[.slice none 0 0, .slice none 0 0], []⟩).memory Tryd.f3.params.toList Rows.parseFirstSpec.vars false #[Value.slice none 0 0, .slice none 0 0].toList 8 = some ([.nil, .nil], [], places) :=
  ⟨[], by kernel_rfl⟩
set_option maxRecDepth 100000 in
theorem lifted (os : Os) (started : os.Started) (H : Type) (enc : TypeId × Value → H) (F : Stop.Interp) :
    ReturnsInHanded {} Tryd.checked os 3 .any ((Rows.OpenSpec.upto Rows.parseFirstSpec).preRow enc Tryd.prog Tryd.f3 Rows.parseFirstUptoRow.domain false Rows.parseFirstUptoRow.laid) (((Rows.OpenSpec.upto Rows.parseFirstSpec).at F).post enc Tryd.prog Tryd.f3 false true false false) := by
  obtain ⟨places, hx⟩ := reads os enc
  have hok : Input.okWideB Tryd.checked.prog ((World.laidAll Tryd.prog os Rows.parseFirstUptoRow.laid).forCall (fun _ _ => 0) ⟨#[], #[.slice none 0 0, .slice none 0 0], []⟩) 3 ⟨#[], #[.slice none 0 0, .slice none 0 0], []⟩ = true := by kernel_rfl
  refine returnsInHanded_of_row (C := Tryd.checked) (s := Rows.OpenSpec.upto Rows.parseFirstSpec) own started (by kernel_rfl) Tryd.func3
    ⟨World.laidAll Tryd.prog os Rows.parseFirstUptoRow.laid, fun _ _ => 0, ⟨#[], #[.slice none 0 0, .slice none 0 0], []⟩, World.laidAll_os _ _ _, World.shaped_of_ZipB (by kernel_rfl) (by kernel_rfl), (Input.okWide_of_okWideB (base := 0) hok).1, (Input.okWide_of_okWideB hok).2,
      OpenSpec.preRow_of_cond 8 hx (by kernel_rfl) (fun k hk => by cases hk; kernel_rfl) (by kernel_rfl) (by rw [MakeChecks.laidMetH_plain _ _ _ (by kernel_rfl)]; exact laidMet_laidAll _ (by kernel_rfl) (by kernel_rfl)), by
        simp only [Assume.holds]
        exact ⟨by simp, by simp, fun _ => Modest.zero, by simp, by simp⟩⟩ ?_
  intro W base args ds gs before hval hW _ hk _ hL _ _
  rw [MakeChecks.laidMetH_plain _ _ _ (by kernel_rfl)] at hL
  exact contract H enc W base args ds gs before hL (hk _ rfl) hval hW

theorem said : Rows.ParseFirstUptoSaid :=
  OpenClaim.holds_of_cond 3 Tryd.f3 rfl rfl rfl rfl rfl rfl rfl ⟨rfl, rfl, rfl, rfl, rfl⟩ rfl rfl rfl rfl rfl (by kernel_rfl) Tryd.func3 (by kernel_rfl)
    (of_decide_eq_true (by kernel_rfl)) (by unfold Func.isWrapper; first | (rw [if_pos (by decide +kernel)]; kernel_rfl) | (rw [if_neg (by decide +kernel)]; exact ⟨rfl, rfl⟩))
    (fun os started H enc _ F => by rw [OpenClaim.pre_eq_preRow]; exact lifted os started H enc F)

theorem plain (f : FuncId) (fn : Func) (hf : Tryd.pinned.checked.prog.funcNamed "burnish/burnishlaw17.ParseFirst" = some f) (hfn : Tryd.pinned.checked.prog.funcs[f]? = some fn) :
    true = Tryd.pinned.checked.prog.looks [] ∧ ∀ (j : Nat) t, fn.params[j]? = some t → Tryd.pinned.checked.prog.wantsStandIn t = false := by
  obtain rfl : f = 3 := Option.some.inj ((show Tryd.prog.funcNamed "burnish/burnishlaw17.ParseFirst" = some 3 by kernel_rfl).symm.trans hf) |>.symm
  obtain rfl : fn = Tryd.f3 := (Option.some.inj (Tryd.func3.symm.trans hfn)).symm
  refine ⟨by kernel_rfl, fun j t ht => ?_⟩
  rw [Tryd.params3] at ht
  have hm : t = 22 := by simpa using Array.mem_of_getElem? ht
  subst hm
  exact (show Tryd.prog.wantsStandIn 22 = false by kernel_rfl)

theorem card : Rows.ParseFirstUptoCardSaid :=
  Claim7.holds_tied_plain_at .later [] _ _ _ _ said (fun _ h => by cases h) (by kernel_rfl) (fun _ h => by cases h) parseFirstUpto_row_tie rfl ⟨rfl, rfl⟩ (by kernel_rfl) rfl plain (by kernel_rfl)
#print axioms card
end Go.Proofs.YtdmhebibnnemnaaDoor.parseFirst
