/-
  Proved: burnishlaw19.PrintLines returns true for every row of nodes, every node and every two places, and its arguments read afterwards as they read before; the variables of Go's library that the row lists are tied to the program's text; of them the call reads two, and one more that the row names. No conditions but what the card lists.
-/
import Derived.Test.YtcfokpnoblnidaaGreatDoorCards
import Derived.Test.YtcfokpnoblnidaaGreatDoorTie
import Derived.Test.YtcfokpnoblnidaaGreatDoorPrnW
import Derived.Test.YtcfokpnoblnidaaGreatDoorPrnX
import Derived.Test.YtcfokpnoblnidaaGreatDoorPost
import Derived.WalkKit
import Derived.ProofKit
import Derived.OpenShut
import Derived.ShutString
import Derived.Deep.DeepHandedRow
import Derived.Lay
import Derived.LaidMore
import Derived.MakeChecks
import Derived.Carry
namespace Go.Proofs.YtcfokpnoblnidaaGreatDoor.printLines
open Go.ChangeShapes Go.WideShapes Go.ChangeAt Go.RowKit
open Go.Proofs.YtcfokpnoblnidaaGreatDoor.post
open Go.Proofs.YtcfokpnoblnidaaGreatDoor.prnw
open Go.Proofs.YtcfokpnoblnidaaGreatDoor.nodew
open Go.Proofs.YtcfokpnoblnidaaGreatDoor.chkw

theorem own : ownKnob Tryz.prog.godebug = none := by kernel_rfl
theorem laidOut : laidOutB Tryz.prog = true := by kernel_rfl

set_option maxRecDepth 100000 in
theorem contract (H : Type) (enc : TypeId × Value → H) (W : World) (base : Nat) (args : Array Value) (ds gs : List (DataW H)) (before : List MemPlace) (hL : laidMet Tryz.prog Rows.printLinesRow.laid W) (hsh : W.ShapedOpen Tryz.prog)
    (hval0 : ∀ (j : Nat) t v, Tryz.f3.params[j]? = some t → args[j]? = some v → Value.okWide Tryz.prog W .any base t v)
    (hW : DataW.Whole enc Tryz.prog Tryz.f3.params.toList Rows.printLinesSpec.vars false W args.toList ds gs before) :
    Calls Tryz.prog 3 args W fun e W' => ∃ v, e = .returned v ∧ Rows.printLinesSpec.post enc Tryz.prog Tryz.f3 false true false false W args v W' := by
  have hval : ∀ (j : Nat) t v, Tryz.f3.params[j]? = some t → args[j]? = some v → Value.okWide Tryz.prog W .any base t v := hval0
  have hW' := hW
  have hlt : ∀ p ∈ before, p.block < W.heap.size := fun p hp => hW.lt p hp
  obtain ⟨p, q, hA0, hV, hbe, _, _⟩ := hW
  have hA : DataW.TrodAll enc Tryz.prog W 0 (fun _ => true) true Tryz.f3.params.toList args.toList ds p := hA0
  rw [Tryz.params3] at hA hval
  obtain ⟨v0, vs0, d0, ds0, p0, q0, hargs, rfl, rfl, h0, r0⟩ := trodAll_cons hA
  obtain ⟨v1, vs1, d1, ds1, p1, q1, rfl, rfl, rfl, h1, r1⟩ := trodAll_cons r0
  obtain ⟨v2, vs2, d2, ds2, p2, q2, rfl, rfl, rfl, h2, r2⟩ := trodAll_cons r1
  obtain ⟨v3, vs3, d3, ds3, p3, q3, rfl, rfl, rfl, h3, r3⟩ := trodAll_cons r2
  obtain ⟨rfl, rfl, rfl⟩ := trodAll_nil r3
  obtain rfl : args = #[v0, v1, v2, v3] := by cases args; simp_all
  obtain ⟨rfl, rfl⟩ := trodVars_none hV
  obtain ⟨x2, hx2, hd2, hp2, wx2⟩ := open_int Tryz.underlying3 (hval 2 3 v2 rfl rfl) h2
  obtain ⟨x3, hx3, hd3, hp3, wx3⟩ := open_int Tryz.underlying3 (hval 3 3 v3 rfl rfl) h3
  obtain ⟨cs, hcs, hsz⟩ := okWide_struct Tryz.underlying26 (hval 1 26 v1 rfl rfl)
  obtain ⟨n, hn, hno⟩ : ∃ n : Nd, v1 = n.val ∧ okk n := by
    obtain ⟨fuel, hf⟩ := id h1
    rw [hcs] at hf
    obtain ⟨n, hn, hno⟩ := nd_of_trod hf
    refine ⟨n, ?_, hno⟩
    have hn' : cs.toList = n.cells := hn
    rw [hcs]
    show Value.agg cs = .agg n.cells.toArray
    rw [← hn']
  obtain ⟨l, hla, hlo⟩ : ∃ l : List Nd, NArg W W.heap.size v0 l ∧ ∀ y ∈ l, okk y := by
    obtain ⟨fuel, hf⟩ := id h0
    exact nodes_of (okWide_slice Tryz.underlying22 (hval 0 22 v0 rfl rfl)) hf
  obtain ⟨hEv, hGl⟩ := env_of _ W hL (.tail _ (.tail _ (.tail _ (.head _)))) (.tail _ (.tail _ (.tail _ (.tail _ (.tail _ (.tail _ (.tail _ (.tail _ (.head _))))))))) hsh
  have hcall := law_any W.heap.size v0 l (fun y hy => (hlo y hy).1) (fun y hy => (hlo y hy).2) n hno.1 hno.2 x2 x3 W hla.read (Nat.le_refl _) hEv hGl
  rw [← hn, ← hx2, ← hx3] at hcall
  refine hcall.mono fun e W' ⟨he, hg⟩ => ?_
  subst he
  have hin : ∀ x, x ∈ p0 ++ (p1 ++ (p2 ++ (p3 ++ []))) → x ∈ before := fun x hx => by rw [hbe]; simpa using hx
  have stay : ∀ (t : TypeId) (v : Value) (d : DataW H) (ps : List MemPlace), Tryz.prog.readableRec t = true → t < Tryz.prog.types.size → DataW.Trod enc Tryz.prog W 0 (fun _ => true) true t v d ps → (∀ x ∈ ps, x ∈ before) → ∀ sp : Nat → Bool, (∀ p ∈ before, sp p.block = true) → DataW.Trod enc Tryz.prog W' 0 sp true t v d ps :=
    fun t v d ps hr hrow h hm sp hsp => WideElems.Trod_stays laidOut hr hrow h (fun x hx => hg.same (hlt x (hm x hx))) (fun x hx => hsp x (hm x hx))
  exact ⟨_, rfl, post_of_below (pa := p0 ++ (p1 ++ (p2 ++ (p3 ++ [])))) (pv := []) hW' (fun _ _ _ => (trodAll_cons_mk (shut_bool Tryz.underlying4 _) trodAll_mk0))
    (fun sp hsp => trodAll_cons_mk (stay _ _ _ _ (by kernel_rfl) (of_decide_eq_true (by kernel_rfl)) h0 (fun x hx => hin x (by simp [hx])) sp hsp)
      (trodAll_cons_mk (stay _ _ _ _ (by kernel_rfl) (of_decide_eq_true (by kernel_rfl)) h1 (fun x hx => hin x (by simp [hx])) sp hsp)
        (trodAll_cons_mk (stay _ _ _ _ (by kernel_rfl) (of_decide_eq_true (by kernel_rfl)) h2 (fun x hx => hin x (by simp [hx])) sp hsp)
          (trodAll_cons_mk (stay _ _ _ _ (by kernel_rfl) (of_decide_eq_true (by kernel_rfl)) h3 (fun x hx => hin x (by simp [hx])) sp hsp) trodAll_mk0)))) (fun _ _ => rfl) (by rw [hbe])
    hg (ok_one (by kernel_rfl) rfl (okWide_bool_mk Tryz.underlying4 _))⟩

set_option maxRecDepth 100000 in
theorem lifted (os : Os) (started : os.Started) (H : Type) (enc : TypeId × Value → H) :
    ReturnsInHanded {} Tryz.checked os 3 .any (fun w args => (Rows.printLinesSpec.pre enc Tryz.prog Tryz.f3 [] false w args ∧ laidMetH Tryz.prog Rows.printLinesRow.laid w) ∧ sizedMet enc Tryz.prog Tryz.f3 (OpenSpec.ofChange Rows.printLinesSpec) false w args)
      (Rows.printLinesSpec.post enc Tryz.prog Tryz.f3 false true false false) := by
  refine returnsInHanded_of_calls own started (by kernel_rfl)
    (ChangeSpec.witness_shaped (enc := enc) (C := Tryz.checked) (os := os) (X := fun w _ => laidMetH Tryz.prog Rows.printLinesRow.laid w) false (World.laidAll Tryz.prog os Rows.printLinesRow.laid) #[.slice none 0 0, .agg #[.int .u8 0, .float .f64 0, .float .f64 0, .float .f64 0, .float .f64 0, .float .f64 0, .float .f64 0, .float .f64 0, .float .f64 0, .float .f64 0, .float .f64 0, .float .f64 0, .float .f64 0, .float .f64 0, .float .f64 0, .float .f64 0, .float .f64 0, .int .i64 0, .int .i64 0], .int .i64 0, .int .i64 0] 8 (World.laidAll_os _ _ _)
      (World.shaped_of_ZipB (by kernel_rfl) (by kernel_rfl)) (by kernel_rfl) (by kernel_rfl) (by kernel_rfl)
      (by rw [MakeChecks.laidMetH_plain _ _ _ (by kernel_rfl)]; exact laidMet_laidAll _ (by kernel_rfl) (by kernel_rfl))) ?_
  intro w tape i _ hsh _ hok hpre _
  obtain ⟨_, _, _, fn', hfn', _, _, _, _, hval⟩ := hok
  obtain rfl : fn' = Tryz.f3 := Option.some.inj (hfn'.symm.trans Tryz.func3)
  obtain ⟨⟨⟨ds, gs, before, hw, _⟩, hL⟩, _⟩ := hpre
  have hw' := DataW.Whole.of_heap (w' := w.forCall tape i) (by rfl) hw
  have hL' : laidMetH Tryz.prog Rows.printLinesRow.laid (w.forCall tape i) := hL.of_heap (by rfl)
  rw [MakeChecks.laidMetH_plain _ _ _ (by kernel_rfl)] at hL'
  refine (contract H enc (w.forCall tape i) w.heap.size i.args ds gs before hL' hsh hval hw').mono fun e W' ⟨v, he, hp⟩ => ?_
  subst he
  exact ChangeSpec.post_blind hp

theorem said : Rows.PrintLinesSaid :=
  OpenClaim.holds_of_wide 3 Tryz.f3 rfl rfl rfl rfl rfl rfl rfl ⟨rfl, rfl, rfl, rfl, rfl⟩ rfl rfl rfl rfl rfl (by kernel_rfl) Tryz.func3 (by kernel_rfl)
    (of_decide_eq_true (by kernel_rfl)) (by unfold Func.isWrapper; first | (rw [if_pos (by decide +kernel)]; kernel_rfl) | (rw [if_neg (by decide +kernel)]; exact ⟨rfl, rfl⟩))
    (fun os started H enc _ => lifted os started H enc)

theorem plain (f : FuncId) (fn : Func) (hf : Tryz.pinned.checked.prog.funcNamed "burnish/burnishlaw19.PrintLines" = some f) (hfn : Tryz.pinned.checked.prog.funcs[f]? = some fn) :
    true = Tryz.pinned.checked.prog.looks [] ∧ ∀ (j : Nat) t, fn.params[j]? = some t → Tryz.pinned.checked.prog.wantsStandIn t = false := by
  obtain rfl : f = 3 := Option.some.inj ((show Tryz.prog.funcNamed "burnish/burnishlaw19.PrintLines" = some 3 by kernel_rfl).symm.trans hf) |>.symm
  obtain rfl : fn = Tryz.f3 := (Option.some.inj (Tryz.func3.symm.trans hfn)).symm
  refine ⟨by kernel_rfl, fun j t ht => ?_⟩
  rw [Tryz.params3] at ht
  have hm : t = 22 ∨ t = 26 ∨ t = 3 := by simpa using Array.mem_of_getElem? ht
  rcases hm with rfl | rfl | rfl
  · exact (show Tryz.prog.wantsStandIn 22 = false by kernel_rfl)
  · exact (show Tryz.prog.wantsStandIn 26 = false by kernel_rfl)
  · exact (show Tryz.prog.wantsStandIn 3 = false by kernel_rfl)

theorem card : Rows.PrintLinesCardSaid :=
  Claim7.holds_tied_plain_at .later [] _ _ _ _ said (fun _ h => by cases h) (by kernel_rfl) (fun _ h => by cases h) printLines_row_tie rfl ⟨rfl, rfl⟩ (by kernel_rfl) rfl plain (by kernel_rfl)
#print axioms card
end Go.Proofs.YtcfokpnoblnidaaGreatDoor.printLines
