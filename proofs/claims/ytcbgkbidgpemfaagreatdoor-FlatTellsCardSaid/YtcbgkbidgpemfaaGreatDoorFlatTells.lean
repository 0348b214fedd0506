/-
  Proved: burnishlaw20.FlatTells returns true for every row of nodes and every text, and its arguments read afterwards as they read before; the variables of Go's library that the row lists are tied to the program's text; of them the call reads eight, and one more that the row names. No conditions but what the card lists.
-/
import Derived.Test.YtcbgkbidgpemfaaGreatDoorCards
import Derived.Test.YtcbgkbidgpemfaaGreatDoorTie
import Derived.Test.YtcbgkbidgpemfaaGreatDoorMf38
import Derived.Test.YtcbgkbidgpemfaaGreatDoorMf19
import Derived.WalkKit
import Derived.ProofKit
import Derived.OpenShut
import Derived.ShutString
import Derived.Deep.DeepHandedRow
import Derived.Lay
import Derived.LaidMore
import Derived.MakeChecks
import Derived.Carry
set_option maxRecDepth 100000
namespace Go.Proofs.YtcbgkbidgpemfaaGreatDoor.flatTells
open Go.ChangeShapes Go.WideShapes Go.ChangeAt Go.RowKit
open Go.ChangeMaps (open_string shut_string)
open post
open tfw
theorem own:ownKnob Tryz.prog.godebug=none:=by kernel_rfl
theorem laidOut:laidOutB Tryz.prog=true:=by kernel_rfl
theorem contract (H:Type) (enc:TypeId × Value -> H) (W:World) (base:Nat) (args:Array Value) (ds gs:List (DataW H)) (before:List MemPlace) (hL:laidMet Tryz.prog Rows.flatTellsRow.laid W)
  (hval0:∀ (j:Nat) t v,Tryz.f4.params[j]? = some t -> args[j]? = some v -> Value.okWide Tryz.prog W .any base t v)
  (hW:DataW.Whole enc Tryz.prog Tryz.f4.params.toList Rows.flatTellsSpec.vars false W args.toList ds gs before) :
  Calls Tryz.prog 4 args W fun e W'=>∃ v,e = .returned v∧Rows.flatTellsSpec.post enc Tryz.prog Tryz.f4 false true false false W args v W':=by
 have hval:∀ (j:Nat) t v,Tryz.f4.params[j]? = some t -> args[j]? = some v -> Value.okWide Tryz.prog W .any base t v:=hval0;have hW':=hW;have hlt:∀ p∈before,p.block<W.heap.size:=fun p hp=>hW.lt p hp;obtain ⟨p,q,hA0,hV,hbe,_,_⟩:=hW;have hA:DataW.TrodAll enc Tryz.prog W 0 (fun _=>true) true Tryz.f4.params.toList args.toList ds p:=hA0;rw [Tryz.params4] at hA hval;obtain ⟨v0,vs0,d0,ds0,p0,q0,hargs,rfl,rfl,h0,r0⟩:=trodAll_cons hA;obtain ⟨v1,vs1,d1,ds1,p1,q1,rfl,rfl,rfl,h1,r1⟩:=trodAll_cons r0;obtain ⟨rfl,rfl,rfl⟩:=trodAll_nil r1;obtain rfl:args = #[v0,v1]:=by cases args; simp_all
 obtain ⟨rfl,rfl⟩:=trodVars_none hV;obtain ⟨l0,ha0,ho0⟩:∃ l:List nodew.Nd,chkw.NArg W W.heap.size v0 l ∧ ∀ y∈l,prnw.okk y:=by
  obtain ⟨fuel,hf⟩:=id h0;exact prnw.nodes_of (okWide_slice Tryz.underlying34 (hval 0 34 v0 rfl rfl)) hf
 obtain ⟨x1,hx1,_,_,_⟩:=open_string Tryz.underlying9 (hval 1 9 v1 rfl rfl) h1;have hDE:Go.Proofs.YtcbgkbidgpemfaaGreatDoor.flow.Laid W.heap.size W:=Go.Proofs.YtcbgkbidgpemfaaGreatDoor.flow.laid_of _ W hL (.tail _ (.tail _ (.tail _ (.tail _ (.head _))))) (.tail _ (.tail _ (.tail _ (.head _)))) (.tail _ (.tail _ (.tail _ (.tail _ (.tail _ (.tail _ (.head _))))))) (.tail _ (.tail _ (.tail _ (.tail _ (.tail _ (.head _)))))) (.tail _ (.tail _ (.tail _ (.tail _ (.tail _ (.tail _ (.tail _ (.tail _ (.tail _ (.head _)))))))))) (.tail _ (.tail _ (.tail _ (.tail _ (.tail _ (.tail _ (.tail _ (.tail _ (.tail _ (.tail _ (.tail _ (.head _)))))))))))) (.tail _ (.tail _ (.tail _ (.tail _ (.tail _ (.tail _ (.tail _ (.tail _ (.tail _ (.tail _ (.tail _ (.tail _ (.head _)))))))))))));have hcall:=Go.Proofs.YtcbgkbidgpemfaaGreatDoor.tfw.ftells_any W.heap.size v0 l0 (fun y hy=>(ho0 y hy).1) x1 W hDE ha0 (Nat.le_refl _);rw [<- hx1] at hcall;refine hcall.mono fun e W' ⟨he,hg⟩ => ?_;subst he;have hin:∀ x,x∈p0 ++ (p1 ++ []) -> x∈before:=fun x hx=>by rw [hbe]; simpa using hx
 have stay:∀ (t:TypeId) (v:Value) (d:DataW H) (ps:List MemPlace),Tryz.prog.readableRec t=true -> t < Tryz.prog.types.size -> DataW.Trod enc Tryz.prog W 0 (fun _=>true) true t v d ps -> (∀ x∈ps,x∈before) -> ∀ sp:Nat -> Bool,(∀ p∈before,sp p.block=true) -> DataW.Trod enc Tryz.prog W' 0 sp true t v d ps :=
  fun t v d ps hr hrow h hm sp hsp=>WideElems.Trod_stays laidOut hr hrow h (fun x hx=>hg.same (hlt x (hm x hx))) (fun x hx=>hsp x (hm x hx))
 exact ⟨_,rfl,post_of_below (pa:=p0 ++ (p1 ++ [])) (pv:=[]) hW' (fun _ _ _=>(trodAll_cons_mk (shut_bool Tryz.underlying4 _) trodAll_mk0))
  (fun sp hsp=>(trodAll_cons_mk (stay _ _ _ _ (by kernel_rfl) (of_decide_eq_true (by kernel_rfl)) h0 (fun x hx=>hin x (by simp [hx])) sp hsp) (trodAll_cons_mk (stay _ _ _ _ (by kernel_rfl) (of_decide_eq_true (by kernel_rfl)) h1 (fun x hx=>hin x (by simp [hx])) sp hsp) trodAll_mk0))) (fun _ _=>rfl) (by rw [hbe])
  hg (ok_one (by kernel_rfl) rfl (okWide_bool_mk Tryz.underlying4 _))⟩
theorem lifted (os:Os) (started:os.Started) (H:Type) (enc:TypeId × Value -> H) :
    ReturnsInHanded {} Tryz.checked os 4 .any (fun w args=>(Rows.flatTellsSpec.pre enc Tryz.prog Tryz.f4 [] false w args∧laidMetH Tryz.prog Rows.flatTellsRow.laid w)∧sizedMet enc Tryz.prog Tryz.f4 (OpenSpec.ofChange Rows.flatTellsSpec) false w args)
      (Rows.flatTellsSpec.post enc Tryz.prog Tryz.f4 false true false false):=by
  refine returnsInHanded_of_calls own started (by kernel_rfl)
    (ChangeSpec.witness_shaped (enc:=enc) (C:=Tryz.checked) (os:=os) (X:=fun w _=>laidMetH Tryz.prog Rows.flatTellsRow.laid w) false (World.laidAll Tryz.prog os Rows.flatTellsRow.laid) #[.slice none 0 0,.string ByteArray.empty] 8 (World.laidAll_os _ _ _)
      (World.shaped_of_ZipB (by kernel_rfl) (by kernel_rfl)) (by kernel_rfl) (by kernel_rfl) (by kernel_rfl)
      (by rw [MakeChecks.laidMetH_plain _ _ _ (by kernel_rfl)]; exact laidMet_laidAll _ (by kernel_rfl) (by kernel_rfl))) ?_
  intro w tape i _ _ _ hok hpre _;obtain ⟨_,_,_,fn',hfn',_,_,_,_,hval⟩:=hok;obtain rfl:fn' = Tryz.f4 := Option.some.inj (hfn'.symm.trans Tryz.func4);obtain ⟨⟨⟨ds,gs,before,hw,_⟩,hL⟩,_⟩:=hpre;have hw':=DataW.Whole.of_heap (w':=w.forCall tape i) (by rfl) hw;have hL':laidMetH Tryz.prog Rows.flatTellsRow.laid (w.forCall tape i):=hL.of_heap (by rfl);rw [MakeChecks.laidMetH_plain _ _ _ (by kernel_rfl)] at hL';refine (contract H enc (w.forCall tape i) w.heap.size i.args ds gs before hL' hval hw').mono fun e W' ⟨v,he,hp⟩ => ?_;subst he;exact ChangeSpec.post_blind hp
theorem said:Rows.FlatTellsSaid :=
 OpenClaim.holds_of_wide 4 Tryz.f4 rfl rfl rfl rfl rfl rfl rfl ⟨rfl,rfl,rfl,rfl,rfl⟩ rfl rfl rfl rfl rfl (by kernel_rfl) Tryz.func4 (by kernel_rfl)
  (of_decide_eq_true (by kernel_rfl)) (by unfold Func.isWrapper; first | (rw [if_pos (by decide +kernel)]; kernel_rfl) | (rw [if_neg (by decide +kernel)]; exact ⟨rfl,rfl⟩))
  (fun os started H enc _=>lifted os started H enc)
theorem plain (f:FuncId) (fn:Func) (hf : Tryz.pinned.checked.prog.funcNamed "burnish/burnishlaw20.FlatTells" = some f) (hfn : Tryz.pinned.checked.prog.funcs[f]? = some fn) :
  true = Tryz.pinned.checked.prog.looks [] ∧ ∀ (j:Nat) t,fn.params[j]? = some t -> Tryz.pinned.checked.prog.wantsStandIn t=false:=by
 obtain rfl:f = 4 := Option.some.inj ((show Tryz.prog.funcNamed "burnish/burnishlaw20.FlatTells" = some 4 by kernel_rfl).symm.trans hf) |>.symm;obtain rfl:fn = Tryz.f4 := (Option.some.inj (Tryz.func4.symm.trans hfn)).symm;refine ⟨by kernel_rfl,fun j t ht => ?_⟩;rw [Tryz.params4] at ht;have hm:t = 34 ∨ t = 9 := by simpa using Array.mem_of_getElem? ht
 rcases hm with rfl | rfl
 ·exact (show Tryz.prog.wantsStandIn 34 = false by kernel_rfl)
 ·exact (show Tryz.prog.wantsStandIn 9 = false by kernel_rfl)
theorem card:Rows.FlatTellsCardSaid :=
 Claim7.holds_tied_plain_at .later [] _ _ _ _ said (fun _ h=>by cases h) (by kernel_rfl) (fun _ h=>by cases h) flatTells_row_tie rfl ⟨rfl,rfl⟩ (by kernel_rfl) rfl plain (by kernel_rfl)
#print axioms card
end Go.Proofs.YtcbgkbidgpemfaaGreatDoor.flatTells
