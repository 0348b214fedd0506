/- (As XFlaD, with the kind's bound.) What a node, and a slice of nodes, that the row reads is. No conditions. -/
import Derived.Test.YtejmbbkklhpnaaaGreatDoorMf12
import Derived.Deep.Slices
import Derived.ChangeSame
import Derived.ChangeArms
import Derived.OpenShut
import Derived.WideShapes
import Derived.Laws.FloatBits
import Derived.Laws.FloatArith
import Derived.Laws.Externs
import Derived.Deep.DeepCutAuto
namespace Go.Proofs.YtejmbbkklhpnaaaGreatDoor.prnw
open Go.RowKit
open nodew
open chkw
open Go.ChangeShapes Go.WideShapes Go.Deep
section
variable {H:Type} {enc:TypeId × Value -> H} {w:World} {base:Nat} {sp:Nat -> Bool} {held:Bool}
def okk (n:Nd):Prop:=n.ok∧n.kind<256
theorem float_gen {t:TypeId} {k:FloatKind} {fuel:Nat} {cs:List Value} {x:DataW H × List MemPlace} (ht : Tryz.prog.underlying t=some (.float k)) (h:DataW.trod enc Tryz.prog w base sp held fuel t cs=some x):∃ n,cs=[.float k n]∧(Lit.float k n).wf=true:=by
 cases fuel with
 | zero=>simp [DataW.trod] at h
 | succ n =>
  unfold DataW.trod at h
  rw [ht] at h
  split at h <;> simp_all
theorem float_of {t:TypeId} {fuel:Nat} {cs:List Value} {x:DataW H × List MemPlace} (ht : Tryz.prog.underlying t=some (.float .f64)) (h:DataW.trod enc Tryz.prog w base sp held fuel t cs=some x):∃ n,cs=[.float .f64 n]∧n<18446744073709551616:=by
 obtain ⟨n,hc,hw⟩:=float_gen ht h
 exact ⟨n,hc,by simpa [Lit.wf] using hw⟩
theorem cells_u8 : Tryz.prog.cellsOf 5 = 1:=by kernel_rfl
theorem cells_int : Tryz.prog.cellsOf 3 = 1:=by kernel_rfl
theorem cells_f64 : Tryz.prog.cellsOf 38 = 1:=by kernel_rfl
theorem cells_arr : Tryz.prog.cellsOf 65 = 3:=by kernel_rfl
theorem cells_node : Tryz.prog.cellsOf 67 = 19:=by kernel_rfl
theorem arr_of {fuel:Nat} {c1 c2 c3:Value} {x:DataW H × List MemPlace} (h:DataW.trod enc Tryz.prog w base sp held fuel 65 [c1,c2,c3]=some x) :
  ∃ a b c,c1 = .float .f64 a∧c2 = .float .f64 b∧c3 = .float .f64 c∧a<18446744073709551616∧b<18446744073709551616∧c<18446744073709551616:=by
 obtain ⟨xs,m,_,_,_,hlen,hf⟩:=DataW.trod_array Tryz.underlying65 h
 have g:=fun i (hi:i<xs.length)=>List.getElem?_eq_getElem hi
 have h0:=(hf 0 (by omega)).trans (g 0 (by omega))
 have h1:=(hf 1 (by omega)).trans (g 1 (by omega))
 have h2:=(hf 2 (by omega)).trans (g 2 (by omega))
 simp only [cells_f64] at h0 h1 h2
 obtain ⟨a,ha,la⟩:=float_of Tryz.underlying38 h0
 obtain ⟨b,hb,lb⟩:=float_of Tryz.underlying38 h1
 obtain ⟨c,hc,lc⟩:=float_of Tryz.underlying38 h2
 simp at ha hb hc
 exact ⟨a,b,c,ha,hb,hc,la,lb,lc⟩
set_option maxRecDepth 100000 in
theorem nd_of_trod {fuel:Nat} {cs:List Value} {x:DataW H × List MemPlace} (h:DataW.trod enc Tryz.prog w base sp held fuel 67 cs=some x):∃ n:Nd,cs=n.cells∧okk n:=by
 obtain ⟨xs,m,_,_,hl,hlen,hf⟩:=DataW.trod_struct Tryz.underlying67 h
 rw [cells_node] at hl
 match cs,hl with
 | [c0,c1,c2,c3,c4,c5,c6,c7,c8,c9,c10,c11,c12,c13,c14,c15,c16,c17,c18],_ =>
  have g:=fun i (hi:i<xs.length)=>List.getElem?_eq_getElem hi
  have hlen':xs.length=11:=hlen
  have h0:=(hf 0 _ rfl).trans (g 0 (by omega))
  change DataW.trod enc Tryz.prog w base sp held m 5 ((List.drop 0 [c0,c1,c2,c3,c4,c5,c6,c7,c8,c9,c10,c11,c12,c13,c14,c15,c16,c17,c18]).take (Tryz.prog.cellsOf 5))=_ at h0
  rw [cells_u8] at h0
  change DataW.trod enc Tryz.prog w base sp held m 5 [c0]=_ at h0
  have h1:=(hf 1 _ rfl).trans (g 1 (by omega))
  change DataW.trod enc Tryz.prog w base sp held m 65 ((List.drop 1 [c0,c1,c2,c3,c4,c5,c6,c7,c8,c9,c10,c11,c12,c13,c14,c15,c16,c17,c18]).take (Tryz.prog.cellsOf 65))=_ at h1
  rw [cells_arr] at h1
  change DataW.trod enc Tryz.prog w base sp held m 65 [c1,c2,c3]=_ at h1
  have h2:=(hf 2 _ rfl).trans (g 2 (by omega))
  change DataW.trod enc Tryz.prog w base sp held m 65 ((List.drop 4 [c0,c1,c2,c3,c4,c5,c6,c7,c8,c9,c10,c11,c12,c13,c14,c15,c16,c17,c18]).take (Tryz.prog.cellsOf 65))=_ at h2
  rw [cells_arr] at h2
  change DataW.trod enc Tryz.prog w base sp held m 65 [c4,c5,c6]=_ at h2
  have h3:=(hf 3 _ rfl).trans (g 3 (by omega))
  change DataW.trod enc Tryz.prog w base sp held m 65 ((List.drop 7 [c0,c1,c2,c3,c4,c5,c6,c7,c8,c9,c10,c11,c12,c13,c14,c15,c16,c17,c18]).take (Tryz.prog.cellsOf 65))=_ at h3
  rw [cells_arr] at h3
  change DataW.trod enc Tryz.prog w base sp held m 65 [c7,c8,c9]=_ at h3
  have h4:=(hf 4 _ rfl).trans (g 4 (by omega))
  change DataW.trod enc Tryz.prog w base sp held m 65 ((List.drop 10 [c0,c1,c2,c3,c4,c5,c6,c7,c8,c9,c10,c11,c12,c13,c14,c15,c16,c17,c18]).take (Tryz.prog.cellsOf 65))=_ at h4
  rw [cells_arr] at h4
  change DataW.trod enc Tryz.prog w base sp held m 65 [c10,c11,c12]=_ at h4
  have h5:=(hf 5 _ rfl).trans (g 5 (by omega))
  change DataW.trod enc Tryz.prog w base sp held m 38 ((List.drop 13 [c0,c1,c2,c3,c4,c5,c6,c7,c8,c9,c10,c11,c12,c13,c14,c15,c16,c17,c18]).take (Tryz.prog.cellsOf 38))=_ at h5
  rw [cells_f64] at h5
  change DataW.trod enc Tryz.prog w base sp held m 38 [c13]=_ at h5
  have h6:=(hf 6 _ rfl).trans (g 6 (by omega))
  change DataW.trod enc Tryz.prog w base sp held m 38 ((List.drop 14 [c0,c1,c2,c3,c4,c5,c6,c7,c8,c9,c10,c11,c12,c13,c14,c15,c16,c17,c18]).take (Tryz.prog.cellsOf 38))=_ at h6
  rw [cells_f64] at h6
  change DataW.trod enc Tryz.prog w base sp held m 38 [c14]=_ at h6
  have h7:=(hf 7 _ rfl).trans (g 7 (by omega))
  change DataW.trod enc Tryz.prog w base sp held m 38 ((List.drop 15 [c0,c1,c2,c3,c4,c5,c6,c7,c8,c9,c10,c11,c12,c13,c14,c15,c16,c17,c18]).take (Tryz.prog.cellsOf 38))=_ at h7
  rw [cells_f64] at h7
  change DataW.trod enc Tryz.prog w base sp held m 38 [c15]=_ at h7
  have h8:=(hf 8 _ rfl).trans (g 8 (by omega))
  change DataW.trod enc Tryz.prog w base sp held m 38 ((List.drop 16 [c0,c1,c2,c3,c4,c5,c6,c7,c8,c9,c10,c11,c12,c13,c14,c15,c16,c17,c18]).take (Tryz.prog.cellsOf 38))=_ at h8
  rw [cells_f64] at h8
  change DataW.trod enc Tryz.prog w base sp held m 38 [c16]=_ at h8
  have h9:=(hf 9 _ rfl).trans (g 9 (by omega))
  change DataW.trod enc Tryz.prog w base sp held m 3 ((List.drop 17 [c0,c1,c2,c3,c4,c5,c6,c7,c8,c9,c10,c11,c12,c13,c14,c15,c16,c17,c18]).take (Tryz.prog.cellsOf 3))=_ at h9
  rw [cells_int] at h9
  change DataW.trod enc Tryz.prog w base sp held m 3 [c17]=_ at h9
  have h10:=(hf 10 _ rfl).trans (g 10 (by omega))
  change DataW.trod enc Tryz.prog w base sp held m 3 ((List.drop 18 [c0,c1,c2,c3,c4,c5,c6,c7,c8,c9,c10,c11,c12,c13,c14,c15,c16,c17,c18]).take (Tryz.prog.cellsOf 3))=_ at h10
  rw [cells_int] at h10
  change DataW.trod enc Tryz.prog w base sp held m 3 [c18]=_ at h10
  obtain ⟨k,ek,-,wk⟩:=DataW.trod_int Tryz.underlying5 h0
  obtain ⟨f1,f2,f3,rfl,rfl,rfl,l1,l2,l3⟩:=arr_of h1
  obtain ⟨f4,f5,f6,rfl,rfl,rfl,l4,l5,l6⟩:=arr_of h2
  obtain ⟨f7,f8,f9,rfl,rfl,rfl,l7,l8,l9⟩:=arr_of h3
  obtain ⟨f10,f11,f12,rfl,rfl,rfl,l10,l11,l12⟩:=arr_of h4
  obtain ⟨f13,e13,l13⟩:=float_of Tryz.underlying38 h5
  obtain ⟨f14,e14,l14⟩:=float_of Tryz.underlying38 h6
  obtain ⟨f15,e15,l15⟩:=float_of Tryz.underlying38 h7
  obtain ⟨f16,e16,l16⟩:=float_of Tryz.underlying38 h8
  obtain ⟨a,ea,-,-⟩:=DataW.trod_int Tryz.underlying3 h9
  obtain ⟨b,eb,-,-⟩:=DataW.trod_int Tryz.underlying3 h10
  have ek:c0 = .int .u8 k:=by simpa using ek
  have e13:c13 = .float .f64 f13:=by simpa using e13
  have e14:c14 = .float .f64 f14:=by simpa using e14
  have e15:c15 = .float .f64 f15:=by simpa using e15
  have e16:c16 = .float .f64 f16:=by simpa using e16
  have ea:c17 = .int .i64 a:=by simpa using ea
  have eb:c18 = .int .i64 b:=by simpa using eb
  subst ek e13 e14 e15 e16 ea eb
  have hk9:0 <= k∧k <= 255:=by simpa [Lit.wf,IntKind.min,IntKind.max,IntKind.signed,IntKind.bits] using wk
  have hk0:=hk9.1
  refine ⟨⟨k.toNat,[f1,f2,f3,f4,f5,f6,f7,f8,f9,f10,f11,f12,f13,f14,f15,f16],a,b⟩,?_,⟨rfl,?_⟩,by show k.toNat<256; omega⟩
  ·have:((k.toNat:Nat):Int)=k:=Int.toNat_of_nonneg hk0
   simp [Nd.cells,Nd.f,this]
  ·intro v hv
   simp only [List.mem_cons,List.not_mem_nil,or_false] at hv
   omega
theorem nodes_of {fuel:Nat} {v:Value} {x:DataW H × List MemPlace} (hv:∃ a len cap,v = .slice a len cap) (h:DataW.trod enc Tryz.prog w base (fun _=>true) held fuel 43 v.cells.toList=some x):∃ l:List Nd,NArg w w.heap.size v l ∧ ∀ y∈l,okk y:=by
 obtain ⟨va,vl,vc,rfl⟩:=hv
 have h':DataW.trod enc Tryz.prog w base (fun _=>true) held fuel 43 [.slice va vl vc]=some x:=h
 rcases open_slice Tryz.underlying43 h' with ⟨hcs,_⟩ | ⟨a,len,cap,m,n,D,Pl,hcs,hb,hl,hm,hmm,hx,hi⟩
 ·simp only [List.cons.injEq,and_true] at hcs
  exact ⟨[],⟨none,0,hcs,by simp,fun _=>rfl,fun h=>absurd rfl h⟩,(fun y hy=>by cases hy)⟩
 ·simp only [List.cons.injEq,and_true] at hcs
  have hml:len <= m:=by rw [hmm]; simp; exact hl
  have hnd:∀ i,i<len -> ∃ y:Nd,okk y ∧ ∀ j u,y.cells[j]? = some u -> w.cell? (a.add (i*19+j))=some u:=fun i hil=>by
   obtain ⟨cs',hc,ht⟩:=hi i (by omega)
   rw [cells_node] at hc
   obtain ⟨y,hy,hyo⟩:=nd_of_trod ht
   obtain ⟨_,hcl,hat⟩:=World.cells?_some hc
   refine ⟨y,hyo,fun j u hu => ?_⟩
   have hj:j<19:=by have:=(List.getElem?_eq_some_iff.1 hu).1; rwa [nd_cells_len] at this
   have:=hat j hj
   rw [Go.Deep.add_add] at this
   rw [this,hy]
   exact hu
  have hall:∀ k,k <= len -> ∃ l:List Nd,l.length=k∧(∀ y∈l,okk y) ∧ ∀ j u,(ncells l)[j]? = some u -> w.cell? (a.add j)=some u:=by
   intro k
   induction k with
   | zero=>exact fun _=>⟨[],rfl,(fun y hy=>by cases hy),(fun j u hu=>by simp [ncells] at hu)⟩
   | succ k ih =>
    intro hk
    obtain ⟨l,hll,hlo,hlc⟩:=ih (by omega)
    obtain ⟨y,hyo,hyc⟩:=hnd k (by omega)
    refine ⟨l ++ [y],by rw [List.length_append,hll]; rfl,fun z hz => ?_,fun j u hu => ?_⟩
    ·rcases List.mem_append.1 hz with hz | hz
     ·exact hlo z hz
     ·have:z=y:=by simpa using hz
      rw [this]; exact hyo
    ·rw [ncells_snoc] at hu
     by_cases hj:j<(ncells l).length
     ·rw [List.getElem?_append_left hj] at hu; exact hlc j u hu
     ·rw [List.getElem?_append_right (by omega)] at hu
      have:=hyc _ u hu
      rw [ncells_len,hll] at this hj
      rwa [show k*19+(j-k*19)=j by omega] at this
  obtain ⟨l,hll,hlo,hlc⟩:=hall len (Nat.le_refl _)
  refine ⟨l,⟨some a,cap,by rw [hcs,hll],by omega,fun h=>by simp at h,fun h0 => ?_⟩,hlo⟩
  have hpos:0<l.length:=List.length_pos_iff.2 h0
  have h00:(ncells l)[0]? = some ((ncells l)[0]'(by rw [ncells_len]; omega)):=List.getElem?_eq_getElem _
  have hc0:=hlc 0 _ h00
  have ha0:a.add 0=a:=by unfold Addr.add; simp
  rw [ha0] at hc0
  obtain ⟨g,off,spot⟩:=a
  have hspot:spot=none:=by
   cases spot with
   | none=>rfl
   | some p=>unfold World.cell? at hc0; split at hc0 <;> simp at hc0
  subst hspot
  have hgl:g<w.heap.size:=World.block_lt_of_cell? w _ hc0
  refine ⟨g,off,rfl,hgl,hgl,fun j u hu => ?_⟩
  have:=hlc j u hu
  have hadd:(⟨g,off,none⟩:Addr).add j=⟨g,off+j,none⟩:=by unfold Addr.add; split <;> simp_all
  rwa [hadd] at this
end
end Go.Proofs.YtejmbbkklhpnaaaGreatDoor.prnw

/- The walk of burnishlaw18.Same at one row of nodes twice. Conditions: the nodes lie in memory, within the reach. -/
namespace Go.Proofs.YtejmbbkklhpnaaaGreatDoor.chkw
open Go.RowKit
open nodew
open qt
open Go.BigFrame
attribute [local go_sem] nodew.run_store_float
theorem fbits_run (x:Nat) (w:World):(callFunc 43 #[.float .f64 x]).run Tryz.prog w = .ok (.value (.int .u64 x)) w:=nodew.bits_run x w
attribute [local go_sem] fbits_run
theorem same01_self (x:Nat) (w:World):Calls Tryz.prog 22 #[.float .f64 x,.float .f64 x] w fun e w'=>e = .returned (.bool true)∧w'=w:=by
 go_enter Tryz.func22,Tryz.ntmps22
 go_wp2
 go_ret
 exact ⟨by simp,rfl⟩
def zcells:Array Value:=#[.int .u8 0,.float .f64 0,.float .f64 0,.float .f64 0,.float .f64 0,.float .f64 0,.float .f64 0,.float .f64 0,.float .f64 0,.float .f64 0,.float .f64 0,.float .f64 0,.float .f64 0,.float .f64 0,.float .f64 0,.float .f64 0,.float .f64 0,.int .i64 0,.int .i64 0]
theorem alloc_nd (w:World):(Instr.alloc 67 true (.tuple #[])).run Tryz.prog w = .ok (pt w.heap.size 0) (w.alloc (.cells zcells 67)):=by
 kernel_rfl
theorem exec_alloc_nd {o:Oper} (ho:o.op = .alloc 67) (a:Act) (w:World):(execOp a.eval o).run Tryz.prog w = .ok (.value (pt w.heap.size 0)) (w.alloc (.cells zcells 67)):=by
 unfold execOp
 simp only [ho,Sem.run_bind,alloc_nd,Result.andThen_ok,Sem.run_pure]
theorem exec_store_nd {o:Oper} (x y:Operand) (ho:o.op = .store 67 x y) {a:Act} {w:World} (g:Nat) (n:Nd) (hx:a.eval x=pt g 0) (hy:a.eval y=n.val) (old:Array Value) (hg:w.heap[g]? = some (.cells old 67 (0,0))) (hold:old.size=19) :
  (execOp a.eval o).run Tryz.prog w = .ok .skip (w.setRow g n.cells.toArray):=by
 have hr:=run_storeVar_row w g 67 67 old n.cells.toArray hg (nd_info n) (by rw [nd_size]; exact hold) (nd_one n)
 have hy':a.eval y = .agg n.cells.toArray:=hy
 have hx':a.eval x = .pointer (some ⟨g,0,none⟩):=hx
 unfold execOp
 simp only [ho,hx',hy',Instr.storeAt,Instr.sureAddr,Sem.run_bind,Sem.run_pure,Result.andThen_ok,hr]
theorem quiet_load_at {C:World -> Prop} {ops:Array Oper} {o:Oper} {rest:List Oper} {a:Act} {Q:Act -> Prop} (hgd:o.guard=none) (x:Operand) (ho:o.op = .load 67 x) (ad:Value) (hx:a.eval x=ad) (n:Nd)
  (hg:∀ w,C w -> (Instr.loadAt 67 ad).run Tryz.prog w = .ok n.val w) (h:wpQuiet Tryz.prog ops C Q rest (a.put o.dst n.val)):wpQuiet Tryz.prog ops C Q (o :: rest) a:=by
 refine wpQuiet_want (by simp [Region.wanted,hgd]) fun K hK=>⟨n.val,?_,hK _ h⟩
 intro w' hw'
 unfold Oper.quietAt execOp
 simp only [ho,hx,hg w' hw',Sem.run_bind,Sem.run_pure,Result.andThen_ok,Oper.quietUpon]
 exact ⟨trivial,trivial⟩
theorem NRead.at {W:World} {B:Nat} {l:List Nd} {g off k:Nat} (h:l≠[] -> ∃ g' off',some (⟨g,off,none⟩:Addr)=some ⟨g',off',none⟩∧g'<B∧g'<W.heap.size ∧ ∀ j u,(ncells l)[j]? = some u -> W.cell? ⟨g',off'+j,none⟩=some u) (hk:k<l.length) :
  g<W.heap.size ∧ ∀ u:World,u.heap[g]? = W.heap[g]? -> (Instr.loadAt 67 (.pointer (some ⟨g,off+k*19,none⟩))).run Tryz.prog u = .ok (l[k]).val u:=by
 obtain ⟨g',off',e,_,hgl,hc⟩:=h (by intro e; subst e; simp at hk)
 injection e with e
 injection e with e1 e2
 subst e1 e2
 refine ⟨hgl,fun u hu=>(l[k]).load_at u g (off+k*19) fun j v hj => ?_⟩
 have hj':j<19:=by have:=(List.getElem?_eq_some_iff.1 hj).1; rwa [nd_cells_len] at this
 rw [Nat.add_assoc]
 exact (World.cell?_of_block (a:=⟨g,off+(k*19+j),none⟩) hu).trans (hc (k*19+j) v (by rw [ncells_get l k j hk hj']; exact hj))
set_option maxRecDepth 100000 in
set_option maxHeartbeats 4000000 in
theorem same18_eq (B:Nat) (v1 v2:Value) (l:List Nd) (hl:l.length <= 1000000000000) (w:World) (h1:NRead w B v1 l) (h2:NRead w B v2 l) (_hB:B <= w.heap.size) :
  Calls Tryz.prog 16 #[v1,v2] w fun e w'=>e = .returned (.bool true)∧Below w.heap.size w w':=by
 obtain ⟨A1,c1,rfl,hx1⟩:=h1
 obtain ⟨A2,c2,rfl,hx2⟩:=h2
 have HX1:=Lib.hid hx1
 have HX2:=Lib.hid hx2
 clear hx1 hx2
 go_enter Tryz.func16,Tryz.ntmps16
 go_wp2_with fail
 go_loopg [16] l.length (fun gk i wr=>∃ k:Nat,k+gk=l.length∧i = .int .i64 k∧Below w.heap.size w wr)
 case atStart=>exact ⟨0,Nat.zero_add _,rfl,Below.refl _ _⟩
 case round =>
  obtain ⟨k,hkg,rfl,hBr⟩:=hrel
  have HKG:=Lib.hid hkg
  have hk:k <= l.length:=by omega
  clear hkg
  have hz:=hBr.size
  by_cases hkl:k<l.length
  ·have hne:l≠[]:=by intro e; subst e; simp at hkl
   obtain ⟨g1,o1,rfl,-⟩:=HX1.out hne
   obtain ⟨g2,o2,rfl,-⟩:=HX2.out hne
   obtain ⟨hg1,hld1⟩:=NRead.at HX1.out hkl
   obtain ⟨hg2,hld2⟩:=NRead.at HX2.out hkl
   obtain ⟨n,hn⟩:∃ n,l[k]=n:=⟨_,rfl⟩
   rw [hn] at hld1 hld2
   have HL1:=Lib.hid hld1
   have HL2:=Lib.hid hld2
   have hk0:(0:Int) <= (k:Int):=by omega
   have hkl':(k:Int)<(l.length:Int):=by omega
   clear hld1 hld2 hn hne
   go_upto_region 6 with (fail)
   go_cut [6,7] from 19 to 26 (fun s6 s7 wx=>∃ b6 b7,s6 = .pointer (some ⟨b6,0,none⟩)∧s7 = .pointer (some ⟨b7,0,none⟩)∧NBlk wx b6 n∧NBlk wx b7 n∧Below w.heap.size w wx)
   case first =>
    refine region_reads (C:=fun w'=>∃ u:Ext wr,w'=u.1) [0,1,2,3,4,5,6,7] 4 (by kernel_rfl) (by kernel_rfl) (ext_self wr) ?_
    simp only [List.filterMap_cons,List.filterMap_nil,List.getElem?_cons_zero,List.getElem?_cons_succ]
    change wpQuiet _ _ _ _ (_ :: _ :: _ :: _ :: _ :: _ :: _ :: _ :: []) _
    go_big_quiet_step (fail)
    go_big_quiet_step (fail)
    go_big_quiet_step (fail)
    refine quiet_load_at rfl (.tmp 21) rfl (.pointer (some ⟨g1,o1+k*19,none⟩)) rfl n (by rintro _ ⟨u,rfl⟩; exact HL1.out u.1 ((u.2.block g1 (by omega)).trans (hBr.block g1 hg1))) ?_
    simp only [Act.put,List.setIfInBounds_toArray,List.set_cons_succ,List.set_cons_zero]
    go_big_quiet_step (fail)
    go_big_quiet_step (fail)
    go_big_quiet_step (fail)
    refine quiet_load_at rfl (.tmp 25) rfl (.pointer (some ⟨g2,o2+k*19,none⟩)) rfl n (by rintro _ ⟨u,rfl⟩; exact HL2.out u.1 ((u.2.block g2 (by omega)).trans (hBr.block g2 hg2))) ?_
    simp only [Act.put,List.setIfInBounds_toArray,List.set_cons_succ,List.set_cons_zero]
    refine wpQuiet_nil ?_
    obtain ⟨X,hX⟩:∃ X,X=wr.drew:=⟨_,rfl⟩
    have hbx:Below wr.heap.size wr X:=by rw [hX]; exact (Below.refl _ _).drew
    rw [<- hX]
    clear hX
    have hzx:=hbx.size
    have a1:=hbx.alloc hzx (.cells zcells 67)
    have a2:=a1.alloc a1.size (.cells zcells 67)
    have n1:((X.alloc (.cells zcells 67)).alloc (.cells zcells 67)).heap[X.heap.size]? = some (.cells zcells 67 (0,0)):=(Below.heap_alloc _ _ _ (by simp)).trans (heap_alloc_new _ _)
    have n2:((X.alloc (.cells zcells 67)).alloc (.cells zcells 67)).heap[X.heap.size+1]? = some (.cells zcells 67 (0,0)):=heap_alloc2_new _ _ _
    have b1:=below_setRow a2 hzx n.cells.toArray
    have b2:=below_setRow a2 (show wr.heap.size <= X.heap.size+1 by omega) n.cells.toArray
    have c1':=below_setRow b1 (show wr.heap.size <= X.heap.size+1 by omega) n.cells.toArray
    have c2':=below_setRow b2 hzx n.cells.toArray
    have m1:=setRow_heap _ X.heap.size zcells n.cells.toArray _ _ n1
    have m2:=setRow_heap _ (X.heap.size+1) zcells n.cells.toArray _ _ n2
    have p2:(((X.alloc (.cells zcells 67)).alloc (.cells zcells 67)).setRow X.heap.size n.cells.toArray).heap[X.heap.size+1]? = some (.cells zcells 67 (0,0)):=(setRow_other _ _ _ _ (by omega)).trans n2
    have p1:(((X.alloc (.cells zcells 67)).alloc (.cells zcells 67)).setRow (X.heap.size+1) n.cells.toArray).heap[X.heap.size]? = some (.cells zcells 67 (0,0)):=(setRow_other _ _ _ _ (by omega)).trans n1
    have hsz:(X.alloc (.cells zcells 67)).heap.size=X.heap.size+1:=by simp
    have q1:=setRow_heap _ (X.heap.size+1) zcells n.cells.toArray _ _ p2
    have q2:=setRow_heap _ X.heap.size zcells n.cells.toArray _ _ p1
    have r1:=(setRow_other _ (X.heap.size+1) X.heap.size n.cells.toArray (by omega)).trans m1
    have r2:=(setRow_other _ X.heap.size (X.heap.size+1) n.cells.toArray (by omega)).trans m2
    refine anyG_two 8 9 _ _ (by kernel_rfl) rfl rfl rfl rfl ?_ ?_
    ·refine goUpon_val _ _ (exec_alloc_nd rfl _ _) ⟨⟨_,a1⟩,rfl⟩ ?_
     change anyG _ _ _ _ _ _ _ (Act.put _ (some 6) _) _
     simp only [Act.put,List.setIfInBounds_toArray,List.set_cons_succ,List.set_cons_zero]
     refine anyG_one 9 _ (by kernel_rfl) rfl rfl ?_
     refine goUpon_val _ _ (exec_alloc_nd rfl _ _) ⟨⟨_,a2⟩,rfl⟩ ?_
     rw [hsz]
     change anyG _ _ _ _ _ _ _ (Act.put _ (some 7) _) _
     simp only [Act.put,List.setIfInBounds_toArray,List.set_cons_succ,List.set_cons_zero]
     refine anyG_one 10 _ (by kernel_rfl) rfl rfl ?_
     refine goUpon_skip _ (exec_store_nd (.tmp 6) (.tmp 22) rfl X.heap.size n rfl rfl zcells n1 rfl) ⟨⟨_,b1⟩,rfl⟩ ?_
     change anyG _ _ _ _ _ _ _ (Act.put _ none _) _
     simp only [Act.put]
     refine anyG_one 11 _ (by kernel_rfl) rfl rfl ?_
     refine goUpon_skip _ (exec_store_nd (.tmp 7) (.tmp 26) rfl (X.heap.size+1) n rfl rfl zcells p2 rfl) ⟨⟨_,c1'⟩,rfl⟩ ?_
     change anyG _ _ _ _ _ _ _ (Act.put _ none _) _
     simp only [Act.put]
     refine anyG_end (by kernel_rfl) ?_
     simp only [Exit.then]
     go_wp2_with fail
     go_meet
     exact ⟨X.heap.size,X.heap.size+1,rfl,rfl,r1,q1,hBr.trans (c1'.mono hz)⟩
    ·refine goUpon_val _ _ (exec_alloc_nd rfl _ _) ⟨⟨_,a1⟩,rfl⟩ ?_
     change anyG _ _ _ _ _ _ _ (Act.put _ (some 7) _) _
     simp only [Act.put,List.setIfInBounds_toArray,List.set_cons_succ,List.set_cons_zero]
     refine anyG_one 8 _ (by kernel_rfl) rfl rfl ?_
     refine goUpon_val _ _ (exec_alloc_nd rfl _ _) ⟨⟨_,a2⟩,rfl⟩ ?_
     rw [hsz]
     change anyG _ _ _ _ _ _ _ (Act.put _ (some 6) _) _
     simp only [Act.put,List.setIfInBounds_toArray,List.set_cons_succ,List.set_cons_zero]
     refine anyG_one 10 _ (by kernel_rfl) rfl rfl ?_
     refine goUpon_skip _ (exec_store_nd (.tmp 6) (.tmp 22) rfl (X.heap.size+1) n rfl rfl zcells n2 rfl) ⟨⟨_,b2⟩,rfl⟩ ?_
     change anyG _ _ _ _ _ _ _ (Act.put _ none _) _
     simp only [Act.put]
     refine anyG_one 11 _ (by kernel_rfl) rfl rfl ?_
     refine goUpon_skip _ (exec_store_nd (.tmp 7) (.tmp 26) rfl X.heap.size n rfl rfl zcells p1 rfl) ⟨⟨_,c2'⟩,rfl⟩ ?_
     change anyG _ _ _ _ _ _ _ (Act.put _ none _) _
     simp only [Act.put]
     refine anyG_end (by kernel_rfl) ?_
     simp only [Exit.then]
     go_wp2_with fail
     go_meet
     exact ⟨X.heap.size+1,X.heap.size,rfl,rfl,r2,q2,hBr.trans (c2'.mono hz)⟩
   case rest =>
    obtain ⟨b6,b7,rfl,rfl,h6,h7,hBc⟩:=hcut
    clear HX1 HX2 HL1 HL2 hBr hz
    have H67:=Lib.hid (And.intro h6 (And.intro h7 hBc))
    clear h6 h7 hBc
    go_wp2_with fail
    go_loopw [27] (fun i wr=>∃ j:Nat,j <= 3∧i = .int .i64 j∧NBlk wr b6 n∧NBlk wr b7 n∧Below w.heap.size w wr) (fun i _=>3-(intOf i).toNat)
    case atStart=>exact ⟨0,by omega,rfl,H67.out.1,H67.out.2.1,H67.out.2.2⟩
    case round =>
     obtain ⟨j,hj,rfl,h6,h7,hBc⟩:=hrel
     have hc6:∀ j u,n.cells[j]? = some u -> wr.cell? ⟨b6,j,none⟩=some u:=fun j u hu=>(h6.cell j).trans hu
     have hc7:∀ j u,n.cells[j]? = some u -> wr.cell? ⟨b7,j,none⟩=some u:=fun j u hu=>(h7.cell j).trans hu
     have HC6:=Lib.hid hc6
     have HC7:=Lib.hid hc7
     have HN:=Lib.hid (And.intro h6 (And.intro h7 hBc))
     clear hc6 hc7 h6 h7 hBc H67
     by_cases hj3:j<3
     ·have hj0:(0:Int) <= (j:Int):=by omega
      have hj3':(j:Int)<3:=by omega
      have x1:=HC6.out (1+j) _ (n.cell_f (1+j) (by omega) (by omega))
      have x2:=HC6.out (4+j) _ (n.cell_f (4+j) (by omega) (by omega))
      have x3:=HC6.out (7+j) _ (n.cell_f (7+j) (by omega) (by omega))
      have x4:=HC6.out (10+j) _ (n.cell_f (10+j) (by omega) (by omega))
      have y1:=HC7.out (1+j) _ (n.cell_f (1+j) (by omega) (by omega))
      have y2:=HC7.out (4+j) _ (n.cell_f (4+j) (by omega) (by omega))
      have y3:=HC7.out (7+j) _ (n.cell_f (7+j) (by omega) (by omega))
      have y4:=HC7.out (10+j) _ (n.cell_f (10+j) (by omega) (by omega))
      go_wp2_with fail
      go_quiet (exact Calls.quiet_of_same (same01_self _ _))
      go_wp2_with fail
      go_roundw
      case rel=>exact ⟨j+1,by omega,by go_num,HN.out.1.drewN nq,HN.out.2.1.drewN nq,nodew.below_drewN' HN.out.2.2 nq⟩
      case measure=>simp [intOf]; omega
     ·obtain rfl:j=3:=by omega
      have x0:=HC6.out 0 _ rfl
      have x5:=HC6.out 13 _ rfl
      have x6:=HC6.out 14 _ rfl
      have x7:=HC6.out 15 _ rfl
      have x8:=HC6.out 16 _ rfl
      have x9:=HC6.out 17 _ rfl
      have xa:=HC6.out 18 _ rfl
      have y0:=HC7.out 0 _ rfl
      have y5:=HC7.out 13 _ rfl
      have y6:=HC7.out 14 _ rfl
      have y7:=HC7.out 15 _ rfl
      have y8:=HC7.out 16 _ rfl
      have y9:=HC7.out 17 _ rfl
      have ya:=HC7.out 18 _ rfl
      go_wp2_with (first | (go_at_call 22; refine (same01_self _ _).mono ?_; rintro e wy ⟨rfl,rfl⟩))
      have hkg:=HKG.out
      go_roundg (gk-1)
      case measure=>omega
      case rel=>exact ⟨k+1,by omega,by go_num,HN.out.2.2⟩
  ·obtain rfl:k=l.length:=by omega
   go_wp2_with fail
   go_ret
   exact ⟨rfl,hBr⟩
end Go.Proofs.YtejmbbkklhpnaaaGreatDoor.chkw
