/- The walk through what a root needs: one call of the walker hands on what the plain walk lists, each place once. No conditions but those stated. -/
import Derived.Test.YtcbgkbidgpemfaaGreatDoorMf00
import Derived.Test.YtcbgkbidgpemfaaGreatDoorMf09
import Derived.Test.YtcbgkbidgpemfaaGreatDoorMf02
import Derived.Test.YtcbgkbidgpemfaaGreatDoorMf08
import Derived.Laws.MakeOwn
import Derived.Maps.OwnIn
import Derived.Deep.Onto
import Derived.Deep.DeepCutAuto
namespace Go.Proofs.YtcbgkbidgpemfaaGreatDoor
set_option maxRecDepth 100000
set_option maxHeartbeats 4000000
namespace flatw
open Go.RowKit Go.Shelf
open nodew
open chkw
open flatm
attribute [local go_sem] Oper.semAt_some
theorem IArg.uni {W:World} {v:Value} {ks:List Int} (h:IArg W v ks):∃ A,v = .slice A ks.length ks.length ∧ ∀ i,i<ks.length -> ∃ g,A=some ⟨g,0,none⟩∧W.heap[g]? = some (.cells (ks.map (Value.int .i64)).toArray 3 (0,0)):=by
 rcases h with ⟨rfl,rfl⟩ | ⟨g,rfl,_,hg⟩
 ·exact ⟨none,rfl,fun i hi=>by simp at hi⟩
 ·exact ⟨_,rfl,fun i _=>⟨g,rfl,hg⟩⟩
theorem runK_cons (g:Nat -> (Nat -> Bool) -> (Nat -> Bool) × List Nat) (c:Nat) (r:List Nat) (m:Nat -> Bool):runK g (c :: r) m=((runK g r (g c m).1).1,(g c m).2 ++ (runK g r (g c m).1).2):=rfl
theorem wli_load_nd {n:Nat} {ops:Array Oper} {rest:List Oper} {o:Oper} {a:Act} {w:World} {Q:Exit -> Act -> World -> Prop} (hgd:o.guard=none) (x:Operand) (ho:o.op = .load 49 x) (ad:Value) (hx:a.eval x=ad) (nd:Nd)
  (hl:(Instr.loadAt 49 ad).run Tryz.prog w = .ok nd.val w) (h:wpListIn Fence.wide n Tryz.prog ops Q rest (a.put o.dst nd.val) w):wpListIn Fence.wide n Tryz.prog ops Q (o :: rest) a w:=by
 refine wpListIn_plain hgd fun K hK => ?_;have hr:(execOp a.eval o).run Tryz.prog w = .ok (.value nd.val) w:=by
  unfold execOp;simp only [ho,hx,hl,Sem.run_bind,Sem.run_pure,Result.andThen_ok]
 refine ⟨fun f _=>trivial,?_⟩;show Oper.uponIn _ _ _ _ _ _ _ ((execOp a.eval o).run Tryz.prog w);rw [hr];exact hK _ _ h
def ThrPost (foot:World -> Nat -> Prop) (B:Nat) (J:List Nat -> World -> Prop) (pb mb b1 b3 b4 lp:Nat) (v:Value) (l:List Nd) (pre:List Nat) (r:(Nat -> Bool) × List Nat) (W:World) (e:Ending) (W':World):Prop :=
 e = .returned (.bool true)∧TS foot B pb mb b1 b3 b4 lp v l r.1 W'∧J (pre ++ r.2) W'∧KeepP foot B (some mb) W W'
theorem thr_any {foot:World -> Nat -> Prop} {B:Nat} {J:List Nat -> World -> Prop} (hF:Foot foot B J) (l:List Nd) (_hl:l.length <= 4096) (hac:∀ x,x<l.length -> ∀ c∈kids (nth l x),c<x) (hki:∀ x,x<l.length -> kidsI (nth l x)=(kids (nth l x)).map (fun c:Nat=>(c:Int)))
  (ord:List Nat) (pb mb b1 b3 b4 lp:Nat) (v:Value)
  (hY:∀ (m:Nat) (pre:List Nat) (x:Nat) (W1:World),J pre W1 -> x<l.length -> pre ++ [x] <+: ord -> YieldAt Fence.wide m Tryz.prog lp #[.int .i64 x] W1 fun e W'=>e = .returned (.bool true)∧J (pre ++ [x]) W'∧KeepP foot B none W1 W') :
  ∀ (f x:Nat),x<f -> x<l.length -> ∀ (m:Nat -> Bool) (pre:List Nat) (W:World),TS foot B pb mb b1 b3 b4 lp v l m W -> J pre W -> pre ++ (visit (nth l) f x m).2 <+: ord ->
   Calls Tryz.prog 65 #[.int .i64 x,.pointer (some ⟨b1,0,none⟩),.pointer (some ⟨pb,0,none⟩),.pointer (some ⟨b3,0,none⟩),.pointer (some ⟨b4,0,none⟩)] W (ThrPost foot B J pb mb b1 b3 b4 lp v l pre (visit (nth l) f x m) W):=by
 intro f
 induction f with
 | zero=>intro x h; omega
 | succ f ih =>
  intro x hxf hxl m pre W hT hJ hpre;have IH:=Yd ih;have HY:=Yd hY;have HF:=Yd hF;have HAC:=Yd hac;have HKI:=Yd hki;have HT:=Yd hT;have HJ:=Yd hJ;clear ih hY hF hac hki;obtain ⟨q,hq⟩:∃ q,visit (nth l) (f+1) x m=q:=⟨_,rfl⟩;rw [hq] at hpre ⊢;have c1:=hT.h1.cell;have cm:W.cell? ⟨mb,x,none⟩=some (.bool (m x)):=by rw [cell_of_row W mb x _ _ _ hT.hm]; exact metA_at _ _ _ hxl
  have x0:(0:Int) <= (x:Int):=by omega
  have xi:(x:Int)<(l.length:Int):=by omega
  rw [<- callsIn_wide (n:=0)]
  cases hmx:m x with
  | true =>
   have hq':q=(m,[]):=by rw [<- hq]; unfold visit; rw [if_pos hmx]
   rw [hmx] at cm;clear hT hJ hq hmx hpre;refine callsIn_of_wp Tryz.func65 rfl trivial ?_ rfl;simp only [Tryz.ntmps65,List.size_toArray,List.length_cons,List.length_nil,Nat.reduceAdd,Nat.reduceSub,Array.replicate_succ,Array.replicate_zero,List.push_toArray,List.append_toArray,List.nil_append,List.cons_append]
   gi_wp2
   go_ret;subst hq';exact ⟨rfl,HT.out,by rw [List.append_nil]; exact HJ.out,KeepP.refl _ _ _ _⟩
  | false =>
   have hq':q=((runK (visit (nth l) f) (kids (nth l x)) (upd m x true)).1,(runK (visit (nth l) f) (kids (nth l x)) (upd m x true)).2 ++ [x]):=by rw [<- hq]; unfold visit; rw [if_neg (by rw [hmx]; simp)]
   rw [hmx] at cm;have HQ:=Yd hq';have HPRE:=Yd hpre;clear hq hmx hq' hpre;obtain ⟨W1,hW1⟩:∃ W1,W1=W.setCell ⟨mb,x,none⟩ (.bool true):=⟨_,rfl⟩;have hg1:W.grownBy W1 (some mb):=by
    rw [hW1];exact ⟨rfl,rfl,rfl,by simp,fun k hk hne=>Below.heap_setCell W ⟨mb,x,none⟩ (.bool true) k (by intro e; exact hne (by rw [e]))⟩
   have hm1:W1.heap[mb]? = some (.cells (metA l.length (upd m x true)) 4 (0,0)):=by rw [hW1,heap_set W mb x _ _ _ _ hT.hm,metA_set _ _ _ hxl]
   obtain ⟨hJ1,hK1,_⟩:=HF.out.alloc hJ hg1 (fun r e=>by obtain rfl:=Option.some.inj e; exact ⟨hT.bm,⟨⟨_,_,_,hT.hm⟩,hT.pm⟩,_,_,_,hm1⟩);have hT1:=hT.step hK1 hm1;have fm:W.frozen? ⟨mb,x,none⟩=false:=by simp [World.frozen?,hT.hm]
   have HT1:=Yd hT1;have HJ1:=Yd hJ1;have HK1:=Yd hK1;have cp:=hT1.hp.cell;have cpW:=hT.hp.cell;have npm:pb≠mb:=boxed_ne hT.hp hT.hm (by decide);have cpS:=cp;rw [hW1] at cpS;have ca:=hT1.h4.cell;clear hT hJ hg1 hm1 hJ1 hK1;obtain ⟨A,c,rfl,hlc,_,hcell⟩:=hT1.hn;obtain ⟨g,off,rfl,hgB,hgl,hcl⟩:=hcell (by intro e; rw [e] at hxl; simp at hxl);have hld:=(NRead.at (B:=B) (g:=g) (off:=off) (W:=W1) (l:=l) (k:=x) (fun _=>⟨g,off,rfl,hgB,hgl,hcl⟩) hxl).2 W1 rfl;have hnx:l[x]=nth l x:=by unfold nth; simp [hxl]
   rw [hnx] at hld;have HLD:=Yd hld;have HCE:=Yd hcell;clear hld hcell hcl hT1;refine callsIn_of_wp Tryz.func65 rfl trivial ?_ rfl;simp only [Tryz.ntmps65,List.size_toArray,List.length_cons,List.length_nil,Nat.reduceAdd,Nat.reduceSub,Array.replicate_succ,Array.replicate_zero,List.push_toArray,List.append_toArray,List.nil_append,List.cons_append]
   gi_wp2_with (first | (rw [<- hW1]) | (refine wli_load_nd rfl (.tmp 18) rfl (.pointer (some ⟨g,off+x*19,none⟩)) rfl (nth l x) HLD.out ?_))
   refine ⟨trivial,rfl,(callsIn_wide.2 (below_any (nth l x) W1)).mono ?_⟩;rintro e W2 ⟨vb,rfl,hIA,hB2,hnew⟩;rw [HKI.out x hxl] at hIA;obtain ⟨ks,hks⟩:∃ ks,kids (nth l x)=ks:=⟨_,rfl⟩;have hk2:ks.length <= 2:=by
    rw [<- hks]; unfold kids
    split
    ·simp
    ·split <;> simp
   have hkx:∀ c∈ks,c<x:=by rw [<- hks]; exact HAC.out x hxl
   have hQ:=HQ.out;rw [hks] at hIA hQ;have HQ:=Yd hQ;clear hQ;obtain ⟨A2,rfl,hA2⟩:=hIA.uni;rw [List.length_map] at hA2 hnew ⊢;obtain ⟨hJ2,hK2,hP2⟩:=HF.out.alloc HJ1.out (grown_below hB2 none) (fun r e=>by cases e);have hK2':=HK1.out.trans hK2.weak;have hT2:=HT1.out.keep hK2;have hA3:∀ i,i<ks.length -> ∃ gb,A2=some ⟨gb,0,none⟩∧W2.heap[gb]? = some (.cells ((ks.map (fun c:Nat=>(c:Int))).map (Value.int .i64)).toArray 3 (0,0))∧Priv foot W2 gb∧gb≠mb:=by
    intro i hi;obtain ⟨gb,rfl,hgb⟩:=hA2 i hi;refine ⟨gb,rfl,hgb,hP2 gb _ _ _ (hnew gb 0 _ rfl) hgb,fun e => ?_⟩;rw [e,hT2.hm] at hgb;injection hgb with hgb;injection hgb with _ e2 _;exact absurd e2 (by decide)
   have HA3:=Yd hA3;have HKX:=Yd hkx;have HT2:=Yd hT2;have HK2:=Yd hK2';have HJ2:=Yd hJ2;clear hA3 hA2 hnew hP2 hIA hT2 hK2 hK2' hJ2 hB2 hks hkx;have hkl:ks.length <= 4096∨True:=.inr trivial
   gi_wp2_with fail
   gi_loopw [22] (fun i wr=>∃ (dn rest outs:List Nat) (mi:Nat -> Bool),ks=dn ++ rest∧i = .int .i64 dn.length∧runK (visit (nth l) f) ks (upd m x true)=((runK (visit (nth l) f) rest mi).1,outs ++ (runK (visit (nth l) f) rest mi).2)∧TS foot B pb mb b1 b3 b4 lp (.slice (some ⟨g,off,none⟩) l.length c) l mi wr∧J (pre ++ outs) wr∧KeepP foot B (some mb) W2 wr) (fun i _=>ks.length-(intOf i).toNat)
   case atStart=>exact ⟨[],ks,[],upd m x true,rfl,rfl,by simp,HT2.out,by rw [List.append_nil]; exact HJ2.out,KeepP.refl _ _ _ _⟩
   case round =>
    obtain ⟨dn,rest,outs,mi,hks,rfl,hrun,hTr,hJr,hKr⟩:=hrel;have HRUN:=Yd hrun;have HTR:=Yd hTr;have HJR:=Yd hJr;have HKR:=Yd hKr;have c3:=hTr.h3.cell;have c4:=hTr.h4.cell;have hlen:ks.length=dn.length+rest.length:=by rw [hks,List.length_append]
    have HKS:=Yd hks;clear hrun hTr hJr hKr hks;have hd0:(0:Int) <= (dn.length:Int):=by omega
    cases rest with
    | nil =>
     have hdl:ks.length=dn.length:=by simpa using hlen
     have hnl:decide ((dn.length:Int)<(ks.length:Int))=false:=by rw [decide_eq_false_iff_not]; omega
     have hni:¬ (dn.length:Int)<(ks.length:Int):=by omega
     have hr0:runK (visit (nth l) f) ks (upd m x true)=(mi,outs):=by rw [HRUN.out]; simp [runK]
     have hq0:q=(mi,outs ++ [x]):=by rw [HQ.out,hr0]
     have hpr:(pre ++ outs) ++ [x] <+: ord:=by have:=HPRE.out; rw [hq0] at this; rw [List.append_assoc]; exact this
     have HQ0:=Yd hq0;clear hr0 hq0;obtain ⟨fn,tmps,assign,body,hy,hR⟩:=HY.out 0 (pre ++ outs) x wr HJR.out hxl hpr;clear hlen
     gi_wp2_with fail
     refine ⟨rfl,hR.mono ?_⟩;rintro e W3 ⟨rfl,hJ3,hK3⟩
     gi_wp2
     go_ret;rw [HQ0.out];exact ⟨rfl,HTR.out.keep hK3,by rw [<- List.append_assoc]; exact hJ3,(HK2.out.trans HKR.out).trans hK3.weak⟩
    | cons cc rest =>
     have hdl:dn.length<ks.length:=by rw [hlen]; simp
     have hnl:decide ((dn.length:Int)<(ks.length:Int))=true:=by rw [decide_eq_true_iff]; omega
     have hni:(dn.length:Int)<(ks.length:Int):=by omega
     obtain ⟨gb,rfl,hgb,hpb,hnb⟩:=HA3.out dn.length hdl;have hgw:wr.heap[gb]? = some (.cells ((ks.map (fun c:Nat=>(c:Int))).map (Value.int .i64)).toArray 3 (0,0)):=((HKR.out.2.2 gb hpb).2 (by simpa using hnb)).trans hgb;have cg:wr.cell? ⟨gb,dn.length,none⟩=some (.int .i64 cc):=by
      rw [cell_of_row wr gb dn.length _ _ _ hgw,HKS.out];simp
     have hcx:cc<x:=HKX.out cc (by rw [HKS.out]; simp);have hrn:=HRUN.out;rw [runK_cons] at hrn;obtain ⟨r,hr⟩:∃ r,visit (nth l) f cc mi=r:=⟨_,rfl⟩;rw [hr] at hrn;have hih:=IH.out cc (by omega) (by omega) mi (pre ++ outs) wr HTR.out HJR.out (by
      rw [hr];have h1:=HPRE.out;rw [HQ.out,hrn] at h1;refine List.IsPrefix.trans ?_ h1;refine ⟨(runK (visit (nth l) f) rest r.1).2 ++ [x],?_⟩;simp only [List.append_assoc])
     rw [hr] at hih;have HRN:=Yd hrn;have HIH:=Yd hih;have HLE:=Yd hlen;clear hr hrn hih hgb hgw hpb hnb hdl hlen
     gi_wp2_with fail
     refine ⟨trivial,rfl,(callsIn_wide.2 HIH.out).mono ?_⟩;rintro e W3 ⟨rfl,hT3,hJ3,hK3⟩;have HT3:=Yd hT3;have HJ3:=Yd hJ3;have HK3:=Yd hK3;clear hT3 hJ3 hK3
     gi_wp2_with fail
     go_roundw
     case rel=>exact ⟨dn ++ [cc],rest,outs ++ r.2,r.1,by rw [HKS.out]; simp,by simp,by rw [HRN.out,List.append_assoc],HT3.out,by rw [<- List.append_assoc]; exact HJ3.out,HKR.out.trans HK3.out⟩
     case measure=>have:=HLE.out; simp at this; simp [intOf]; omega
end flatw

/- The iterator of what a root needs: its contract. No conditions but those stated. -/
namespace flatw
open Go.RowKit Go.Shelf
open nodew
open chkw
open flatm
attribute [local go_sem] Oper.semAt_some
theorem boolInfo:(Tryz.prog.info? 4).map (fun i=>(i.zero,i.size,i.bytes))=some (some (.bool false),1,1):=by kernel_rfl
theorem intInfo:(Tryz.prog.info? 3).map (fun i=>(i.zero,i.size,i.bytes))=some (some (.int .i64 0),1,8):=by kernel_rfl
theorem made_one (v:Value) (n:Nat):madeCells #[v] n=((List.range n).map fun _=>v).toArray:=by
 unfold madeCells;apply Array.ext_getElem?;intro j
 by_cases hj:j<n
 ·simp [hj,Nat.mod_one]
 ·simp [hj]
theorem mk_bool (n:Nat) (hn:n <= 4096) (w:World):(Instr.makeSlice 112 (.int .i64 n) (.int .i64 n)).run Tryz.prog w = .ok (.slice (some ⟨w.heap.size,0,none⟩) n n) (w.alloc (.cells (metA n none_) 4)):=by
 obtain ⟨i,hi,hz,h1,h2⟩:=info_parts boolInfo;have:=run_makeSlice (P:=Tryz.prog) w 112 4 i _ Tryz.underlying112 hi hz .i64 .i64 n n (by omega) (Int.le_refl _) (by rw [h1]; omega) (by rw [h2]; omega) (by omega);rw [this,h1];simp only [Int.toNat_natCast,Nat.mul_one];rw [show (Value.bool false).cells = #[Value.bool false] from rfl,made_one];rfl
theorem mk_int (n:Nat) (hn:n <= 4096) (w:World):(Instr.makeSlice 42 (.int .i64 n) (.int .i64 n)).run Tryz.prog w = .ok (.slice (some ⟨w.heap.size,0,none⟩) n n) (w.alloc (.cells ((List.range n).map fun _=>Value.int .i64 0).toArray 3)):=by
 obtain ⟨i,hi,hz,h1,h2⟩:=info_parts intInfo;have:=run_makeSlice (P:=Tryz.prog) w 42 3 i _ Tryz.underlying42 hi hz .i64 .i64 n n (by omega) (Int.le_refl _) (by rw [h1]; omega) (by rw [h2]; omega) (by omega);rw [this,h1];simp only [Int.toNat_natCast,Nat.mul_one];rw [show (Value.int .i64 0).cells = #[Value.int .i64 0] from rfl,made_one]
theorem seq_any {foot:World -> Nat -> Prop} {B:Nat} {J:List Nat -> World -> Prop} (hF:Foot foot B J) (l:List Nd) (h0:0<l.length) (hl:l.length <= 4096) (hac:∀ x,x<l.length -> ∀ c∈kids (nth l x),c<x) (hki:∀ x,x<l.length -> kidsI (nth l x)=(kids (nth l x)).map (fun c:Nat=>(c:Int)))
  (pb lp:Nat) (v:Value)
  (hY:∀ (m:Nat) (pre:List Nat) (x:Nat) (W1:World),J pre W1 -> x<l.length -> pre ++ [x] <+: ordP l -> YieldAt Fence.wide m Tryz.prog lp #[.int .i64 x] W1 fun e W'=>e = .returned (.bool true)∧J (pre ++ [x]) W'∧KeepP foot B none W1 W')
  (n:Nat) (W:World) (hB:B <= W.heap.size) (hp:Boxed W pb 34 v) (hpp:¬ foot W pb) (hn:NArg W B v l) (hJ:J [] W) :
  CallsIn Fence.wide n Tryz.prog 64 #[.func (.yield lp) #[] #[],.pointer (some ⟨pb,0,none⟩)] W fun e W'=>(∃ v,e = .returned v)∧J (ordP l) W':=by
 have HF:=Yd hF;have HY:=Yd hY;have HAC:=Yd hac;have HKI:=Yd hki;have HN:=Yd hn;have HJ:=Yd hJ;clear hF hY hac hki hJ;obtain ⟨A,c,rfl⟩:=hn.form;clear hn;have hpl:=hp.lt;have hpA:=fun (X:World) (h:Boxed X pb 34 (.slice A l.length c)) (o:Obj)=>h.alloc o;obtain ⟨W1,hW1⟩:∃ W1,W1=W.alloc (.cells #[.func (.yield lp) #[] #[]] 111):=⟨_,rfl⟩;have e1:W1.heap.size=W.heap.size+1:=by rw [hW1]; simp
 have p1:Boxed W1 pb 34 (.slice A l.length c):=by rw [hW1]; exact hp.alloc _
 have y1:Boxed W1 W.heap.size 111 (.func (.yield lp) #[] #[]):=by rw [hW1]; exact Boxed.new W _ _
 have g1:W.grownBy W1 none:=by rw [hW1]; exact World.grownBy_alloc W _ none
 have cp1:=p1.cell;have cp1r:=cp1;rw [hW1] at cp1r;obtain ⟨W2,hW2⟩:∃ W2,W2=W1.alloc (.cells (metA l.length none_) 4):=⟨_,rfl⟩;have hmk:(Instr.makeSlice 112 (.int .i64 l.length) (.int .i64 l.length)).run Tryz.prog W1 = .ok (.slice (some ⟨W1.heap.size,0,none⟩) l.length l.length) W2:=by rw [hW2]; exact mk_bool l.length hl W1
 obtain ⟨W5,hW5⟩:∃ W5,W5=((W1.alloc (.cells (metA l.length none_) 4)).alloc (.cells #[.slice (some ⟨W.heap.size+1,0,none⟩) l.length l.length] 112)).alloc (.cells #[.func (.func 65) #[] #[.pointer (some ⟨W.heap.size+1+1,0,none⟩),.pointer (some ⟨pb,0,none⟩),.pointer (some ⟨W.heap.size+1+1+1,0,none⟩),.pointer (some ⟨W.heap.size,0,none⟩)]] 111):=⟨_,rfl⟩;have p5:Boxed W5 pb 34 (.slice A l.length c):=by rw [hW5]; exact ((p1.alloc _).alloc _).alloc _
 have y5:Boxed W5 W.heap.size 111 (.func (.yield lp) #[] #[]):=by rw [hW5]; exact ((y1.alloc _).alloc _).alloc _
 have m5:W5.heap[W.heap.size+1]? = some (.cells (metA l.length none_) 4 (0,0)):=by
  rw [hW5,Below.heap_alloc _ _ _ (by simp; omega),Below.heap_alloc _ _ _ (by simp; omega)];exact heap_at W1 _ _ e1
 have b5:Boxed W5 (W.heap.size+1+1) 112 (.slice (some ⟨W.heap.size+1,0,none⟩) l.length l.length):=by
  unfold Boxed;rw [hW5,Below.heap_alloc _ _ _ (by simp; omega)];exact heap_at _ _ _ (by simp; omega)
 have t5:Boxed W5 (W.heap.size+1+1+1) 111 (.func (.func 65) #[] #[.pointer (some ⟨W.heap.size+1+1,0,none⟩),.pointer (some ⟨pb,0,none⟩),.pointer (some ⟨W.heap.size+1+1+1,0,none⟩),.pointer (some ⟨W.heap.size,0,none⟩)]):=by
  unfold Boxed;rw [hW5];exact heap_at _ _ _ (by simp; omega)
 have g5:W.grownBy W5 none:=by
  rw [hW5];exact grown_trans (grown_trans (grown_trans g1 (World.grownBy_alloc _ _ none)) (World.grownBy_alloc _ _ none)) (World.grownBy_alloc _ _ none)
 obtain ⟨hJ5,hK5,hP5⟩:=HF.out.alloc HJ.out g5 (fun r e=>by cases e);have hT5:TS foot B pb (W.heap.size+1) (W.heap.size+1+1) (W.heap.size+1+1+1) W.heap.size lp (.slice A l.length c) l none_ W5 :=
  ⟨b5,p5,t5,y5,m5,HN.out.keep hK5.1 (fun g hg hs=>hK5.2.1 g hg hs),(hP5 _ _ _ _ (by omega) b5).2,(hK5.2.2 pb (boxed_priv hp hpp)).1.2,(hP5 _ _ _ _ (by omega) t5).2,(hP5 _ _ _ _ (by omega) y5).2,(hP5 _ _ _ _ (by omega) m5).2,by omega⟩
 have hthr:=thr_any HF.out l hl HAC.out HKI.out (ordP l) pb (W.heap.size+1) (W.heap.size+1+1) (W.heap.size+1+1+1) W.heap.size lp (.slice A l.length c) HY.out l.length (l.length-1) (by omega) (by omega) none_ [] W5 hT5 hJ5 (by rw [List.nil_append]; exact List.prefix_refl _);have HTHR:=Yd hthr;have cp5:=p5.cell;rw [hW5] at cp5;have cp5r:=cp5;rw [hW1] at cp5r;have hx1:((l.length-1:Nat):Int)=(l.length:Int)-1:=by omega
 have hmkr:=hmk;rw [hW1] at hmkr;have HX1:=Yd hx1;clear hthr hT5 hP5 hK5 hJ5 g5 t5 b5 m5 y5 p5 hx1 p1 y1 g1 e1 hp;refine callsIn_of_wp Tryz.func64 rfl trivial ?_ rfl;simp only [Tryz.ntmps64,List.size_toArray,List.length_cons,List.length_nil,Nat.reduceAdd,Nat.reduceSub,Array.replicate_succ,Array.replicate_zero,List.push_toArray,List.append_toArray,List.nil_append,List.cons_append]
 gi_wp2_with (rw [<- hW1])
 rw [<- HX1.out,<- hW5];refine ⟨trivial,fun h=>(by cases h),(callsIn_wide.2 HTHR.out).mono ?_⟩;rintro e W6 ⟨rfl,hT6,hJ6,hK6⟩
 gi_wp2
 go_end0
 refine ⟨⟨_,rfl⟩,?_⟩;rw [List.nil_append] at hJ6;exact hJ6
end flatw

/- A range over what a root needs: the statement, out of one walk of the body. No conditions but those stated. -/
namespace flatw
open Go.RowKit Go.Shelf
open nodew
open chkw
open flatm
theorem put_rec_priv {foot:World -> Nat -> Prop} {W:World} {k:Nat} {o o':Obj} (ho:W.heap[k]? = some o) (hr:isRec o=true) (hf:∀ i,foot (W.putObj k o') i -> foot W i) {i:Nat} (h:Priv foot W i):Priv foot (W.putObj k o') i∧(W.putObj k o').heap[i]? = W.heap[i]?:=by
 have hne:i≠k:=by
  rintro rfl;obtain ⟨⟨cs,t,fr,hc⟩,_⟩:=h;rw [hc] at ho;injection ho with ho;subst ho
  cases hr
 have he:(W.putObj k o').heap[i]? = W.heap[i]?:=World.putObj_heap_other hne;obtain ⟨⟨cs,t,fr,hc⟩,hn⟩:=h;exact ⟨⟨⟨cs,t,fr,he.trans hc⟩,fun h=>hn (hf i h)⟩,he⟩
theorem range_seq {n:Nat} (h1:1 <= n) {g:Operand} {p:Tmp} {assign body:Code} {Q:Exit -> Act -> World -> Prop} {a:Act} {w:World} {foot:World -> Nat -> Prop} {B:Nat} {I:List Nat -> World -> Prop} (hF:Foot foot B I)
    (hput:∀ pre W k o o',I pre W -> w.heap.size <= k -> W.heap[k]? = some o -> isRec o=true -> isRec o'=true -> I pre (W.putObj k o'))
    (hputf:∀ W k o o',W.heap[k]? = some o -> isRec o=true -> isRec o'=true -> ∀ i,foot (W.putObj k o') i -> foot W i)
    (l:List Nd) (h0:0<l.length) (hl:l.length <= 4096) (hac:∀ x,x<l.length -> ∀ c∈kids (nth l x),c<x) (hki:∀ x,x<l.length -> kidsI (nth l x)=(kids (nth l x)).map (fun c:Nat=>(c:Int)))
    (pb:Nat) (v:Value) (hB:B <= w.heap.size) (hp:Boxed w pb 34 v) (hpp:¬ foot w pb) (hn:NArg w B v l) (hI:I [] w)
    (hg:a.eval g = .func (.func 64) #[] #[.pointer (some ⟨pb,0,none⟩)])
    (a₁:Nat -> Act)
    (hassign:∀ (lb m:Nat) (x:Nat) (W:World) (K:Act -> World -> Prop),K (a₁ x) W ->
      assign.wpIn (Fence.wide.inRound lb) m Tryz.prog (Exit.then K (fun _ _ _=>False)) { tmps:=(#[p].zip #[Value.int .i64 x]).foldl (fun t (p,v)=>t.setIfInBounds p v) a.tmps,defers:=[] } W)
    (hbody:∀ (lb m:Nat) (pre:List Nat) (x:Nat) (W:World),I pre W -> x<l.length -> pre ++ [x] <+: ordP l -> body.wpIn (Fence.wide.inRound lb) m Tryz.prog (bodyEnd I (KeepP foot B none) (pre ++ [x]) W) (a₁ x) W)
    (hdone:∀ W:World,I (ordP l) W -> W.heap[w.heap.size]? = some (.deferred (some [])) -> Q .normal { a with defers:={ target:=.collected w.heap.size,args:=#[] } :: a.defers } W) :
    (Code.rangeFunc g #[p] assign body).wpIn Fence.wide n Tryz.prog Q a w:=by
  refine range_law (F:=Fence.wide) rfl h1 (gf := 64) (lb:=#[.pointer (some ⟨pb,0,none⟩)]) hg trivial (enters_of Tryz.func64 (by kernel_rfl) rfl)
    (fun x:Nat => #[Value.int .i64 x]) (fun _=>rfl) I (KeepP foot B none) (fun pre x=>pre ++ [x] <+: ordP l∧x<l.length) (ordP l) 0 hput ?_ (fun h k=>h.trans k) ?_ a₁ hassign ?_ hdone
  · intro W k o o' hk ho hr hr';refine ⟨?_,fun i hi hs=>World.putObj_heap_other (by omega),fun i hi => ?_⟩
    · simp [World.putObj]
    · obtain ⟨h2,h3⟩:=put_rec_priv ho hr (hputf W k o o' ho hr hr') hi;exact ⟨h2,fun _=>h3⟩
  · intro r hr hY;obtain ⟨W1,hW1⟩:∃ W1,(w.alloc (.deferred (some []))).alloc (.loop r)=W1:=⟨_,rfl⟩;rw [hW1] at hr ⊢;have hg1:w.grownBy W1 none:=by rw [<- hW1]; exact grown_trans (World.grownBy_alloc w _ none) (World.grownBy_alloc _ _ none)
    obtain ⟨hI1,hK1,_⟩:=hF.alloc hI hg1 (fun r e=>by cases e);have hFJ:Foot foot B (fun pre W=>I pre W∧Recs w.heap.size r W):=by
      refine ⟨fun pre X k h hf=>hF.size pre X k h.1 hf,fun pre X Y row h hg hr => ?_⟩;obtain ⟨h2,h3⟩:=hF.own pre X Y row h.1 hg hr;refine ⟨⟨h2,h.2.keep ?_⟩,h3⟩;intro k o ho hro;rw [<- ho];refine hg.block k (Array.getElem?_eq_some_iff.1 ho).1 (fun e => ?_);obtain ⟨_,⟨cs,t,fr,hc⟩,_⟩:=hr k e.symm;rw [hc] at ho;injection ho with ho;subst ho
      cases hro
    refine (seq_any hFJ l h0 hl hac hki pb (w.heap.size+1) v ?_ (n-1) W1 (Nat.le_trans hB hg1.size) ?_ ?_ (hn.keep hg1.size (fun g hg hs=>hK1.2.1 g hg hs)) ⟨hI1,hr⟩).mono ?_
    · intro m pre x W hJ hx hpre;obtain ⟨fn,tmps,asg,bd,hy,hR⟩:=hY m pre x W (Nat.zero_le _) hJ.1 hJ.2 ⟨hpre,hx⟩;refine ⟨fn,tmps,asg,bd,hy,hR.mono ?_⟩;rintro e W' ⟨he,hi,hk,hrec⟩;exact ⟨he,⟨hi,hrec⟩,hk⟩
    · exact hp.kept hg1 (by simp)
    · exact (hK1.2.2 pb (boxed_priv hp hpp)).1.2
    · rintro e W' ⟨hv,hi,hrec⟩;exact ⟨hv,hi,hrec⟩
  · intro lb m pre x W _ hi hN;exact hbody lb m pre x W hi hN.2 hN.1
end flatw

/- A box that holds a growing row, as the other side of an iterator. No conditions but those stated. -/
namespace flatw
open Go.RowKit Go.Shelf
open nodew
open chkw
open flatm
def footR (bs:Nat) (W:World) (k:Nat):Prop:=k=bs ∨ ∃ v,W.cell? ⟨bs,0,none⟩=some v∧v.ownBlock=some k
def HR (n0 bs t e size:Nat) (k:Nat) (xs:List Value) (W:World):Prop:=∃ v,Boxed W bs t v∧W.ownsRow n0 e size v k xs
theorem HR.foot_lt {n0 bs t e size k:Nat} {xs:List Value} {W:World} (h:HR n0 bs t e size k xs W) (hb:n0 <= bs) {i:Nat} (hi:footR bs W i):n0 <= i∧i<W.heap.size:=by
 obtain ⟨v,hv,ho⟩:=h
 rcases hi with rfl | ⟨u,hu,hi⟩
 ·exact ⟨hb,hv.lt⟩
 ·rw [hv.cell] at hu;obtain rfl:=Option.some.inj hu;exact ho.lt i hi
theorem HR.own {n0 bs t e size k:Nat} {xs:List Value} {X Y:World} {row:Option Nat} (h:HR n0 bs t e size k xs X) (hg:X.grownBy Y row) (hr:∀ r,row=some r -> ¬ footR bs X r):HR n0 bs t e size k xs Y ∧ ∀ i,footR bs Y i -> footR bs X i:=by
 obtain ⟨v,hv,ho⟩:=h;have hv':Boxed Y bs t v:=hv.kept hg (fun e=>hr bs e.symm (.inl rfl));refine ⟨⟨v,hv',ho.kept hg ?_⟩,?_⟩
 ·cases hvo:v.ownBlock with
  | none=>exact .inl rfl
  | some g=>exact .inr fun e=>hr g e.symm (.inr ⟨v,hv.cell,hvo⟩)
 ·rintro i (rfl | ⟨u,hu,hi⟩)
  ·exact .inl rfl
  ·rw [hv'.cell] at hu;exact .inr ⟨u,hv.cell.trans hu,hi⟩
theorem HR.put {n0 bs t e size k:Nat} {xs:List Value} {W:World} (h:HR n0 bs t e size k xs W) {l:Nat} {o o':Obj} (hl:W.heap[l]? = some o) (ho:isRec o=true):HR n0 bs t e size k xs (W.putObj l o'):=by
 obtain ⟨v,hv,hw⟩:=h;have hne:∀ b cs t fr,W.heap[b]? = some (.cells cs t fr) -> b≠l:=by
  rintro b cs t fr hb rfl;rw [hb] at hl;injection hl with hl;subst hl
  cases ho
 refine ⟨v,(World.putObj_heap_other (hne _ _ _ _ hv)).trans hv,hw.1,?_⟩
 rcases hw.2 with h0 | ⟨g,cap,cur,hg,h2,hh,r⟩
 ·exact .inl h0
 ·exact .inr ⟨g,cap,cur,hg,h2,(World.putObj_heap_other (hne _ _ _ _ hh)).trans hh,r⟩
theorem footR_put {bs:Nat} {W:World} {k:Nat} {o o':Obj} (ho:W.heap[k]? = some o) (_hr:isRec o=true) (hr':isRec o'=true) (i:Nat) (h:footR bs (W.putObj k o') i):footR bs W i:=by
 rcases h with rfl | ⟨u,hu,hi⟩
 ·exact .inl rfl
 ·refine .inr ⟨u,?_,hi⟩
  by_cases e:bs=k
  ·subst e;exfalso;unfold World.cell? at hu;rw [show (W.putObj bs o').heap[bs]? = some o' from World.putObj_heap_same (Array.getElem?_eq_some_iff.1 ho).1] at hu
   cases o' <;> simp_all [isRec]
  ·rw [<- hu];exact (World.cell?_of_block (a:=⟨bs,0,none⟩) (World.putObj_heap_other e)).symm
theorem HR.step {n0 bs t e size k k':Nat} {xs xs':List Value} {W w1:World} {v v':Value} {tmp:Obj} (hb:n0 <= bs) (hte:t≠e) (hv:Boxed W bs t v) (ho:W.ownsRow n0 e size v k xs)
  (hg:(W.alloc tmp).grownBy w1 v.ownBlock) (ho':w1.ownsRow n0 e size v' k' xs') (hvb:v'.ownBlock=v.ownBlock∨v'.ownBlock=some (W.alloc tmp).heap.size) :
  HR n0 bs t e size k' xs' (w1.setCell ⟨bs,0,none⟩ v')∧KeepP (footR bs) n0 none W (w1.setCell ⟨bs,0,none⟩ v')∧KeepsRec W (w1.setCell ⟨bs,0,none⟩ v')∧Boxed w1 bs t v:=by
 have hv1:Boxed w1 bs t v:=(hv.alloc tmp).kept hg (hv.not_row hte ho);have hbs:some bs≠v'.ownBlock:=hv1.not_row hte ho';have hz:(w1.setCell ⟨bs,0,none⟩ v').heap.size=w1.heap.size:=by simp
 have hW1:W.heap.size<w1.heap.size:=by have:=hg.size; rw [World.size_alloc] at this; omega
 have hblk:∀ i,i<W.heap.size -> ¬ footR bs W i -> (w1.setCell ⟨bs,0,none⟩ v').heap[i]? = W.heap[i]?:=by
  intro i hi hf;rw [Below.heap_setCell w1 ⟨bs,0,none⟩ v' i (fun e=>hf (.inl e)),hg.block i (by rw [World.size_alloc]; omega) (fun e=>hf (.inr ⟨v,hv.cell,e.symm⟩)),Below.heap_alloc W tmp i hi]
 have hv2:Boxed (w1.setCell ⟨bs,0,none⟩ v') bs t v':=hv1.set v';refine ⟨⟨v',hv2,ho'.kept (grownBy_setCell' w1 bs v') ?_⟩,⟨by omega,fun i hi hs=>hblk i hs ?_,fun i hi=>⟨⟨?_,?_⟩,fun _=>hblk i hi.lt hi.2⟩⟩,?_,hv1⟩
 ·cases h:v'.ownBlock with
  | none=>exact .inl rfl
  | some g=>exact .inr fun e=>hbs (by rw [h,e])
 ·intro hf
  rcases hf with rfl | ⟨u,hu,hf⟩
  ·omega
  ·rw [hv.cell] at hu;obtain rfl:=Option.some.inj hu;have:=(ho.lt i hf).1;omega
 ·rw [hblk i hi.lt hi.2]; exact hi.1
 ·rintro (rfl | ⟨u,hu,hf⟩)
  ·exact hi.2 (.inl rfl)
  ·rw [hv2.cell] at hu;obtain rfl:=Option.some.inj hu
   rcases hvb with h | h
   ·exact hi.2 (.inr ⟨v,hv.cell,h.symm.trans hf⟩)
   ·rw [hf] at h;have:=Option.some.inj h;rw [World.size_alloc] at this;have:=hi.lt;omega
 ·intro i o hi hro;rw [hblk i (Array.getElem?_eq_some_iff.1 hi).1 ?_]
  ·exact hi
  ·rintro (rfl | ⟨u,hu,hf⟩)
   ·rw [show W.heap[i]? = _ from hv] at hi;injection hi with hi;subst hi
    cases hro
   ·rw [hv.cell] at hu;obtain rfl:=Option.some.inj hu
    rcases ho.2 with ⟨rfl,_⟩ | ⟨g,cap,cur,rfl,_,hh,_⟩
    ·cases hf
    ·have:g=i:=by simpa [Value.ownBlock] using hf
     subst this;rw [hh] at hi;injection hi with hi;subst hi
     cases hro
end flatw

/- The row of what a root needs: slices.AppendSeq, slices.Collect, Used. No conditions but those stated. -/
namespace flatw
open Go.RowKit Go.Shelf
open nodew
open chkw
open flatm
attribute [local go_sem] Oper.semAt_some
def intsV (l:List Nat):List Value:=l.map fun x:Nat=>Value.int .i64 (x:Int)
def IU (n0:Nat) (w:World) (pre:List Nat) (W:World):Prop:=HR n0 n0 42 3 1 pre.length (intsV pre) W∧Below n0 w W
theorem footIU (n0:Nat) (w:World) (hn:n0 <= w.heap.size):Foot (footR n0) n0 (IU n0 w):=by
 refine ⟨fun pre X k h hk=>h.1.foot_lt (Nat.le_refl _) hk,fun pre X Y row h hg hr => ?_⟩;obtain ⟨h1,h2⟩:=h.1.own hg (fun r e=>(hr r e).2.2);exact ⟨⟨h1,h.2.grown hg (Nat.le_trans hn h.2.size) (fun r e=>(hr r e).1)⟩,h2⟩
theorem intsV_snoc (l:List Nat) (x:Nat):intsV (l ++ [x])=intsV l ++ [.int .i64 (x:Int)]:=by simp [intsV]
theorem cells_one (W:World) (v:Value) (t:TypeId):∀ j u,[v][j]? = some u -> (W.alloc (.cells #[v] t)).cell? ((⟨W.heap.size,0,none⟩:Addr).add j)=some u:=by
 intro j u hu;have hadd:(⟨W.heap.size,0,none⟩:Addr).add j=⟨W.heap.size,j,none⟩:=by unfold Addr.add; split <;> simp_all
 rw [hadd,cell_of_row _ _ _ _ _ _ (heap_alloc_new W _)];simpa using hu
theorem appendSeq_any (l:List Nd) (h0:0<l.length) (hl:l.length <= 4096) (hac:∀ x,x<l.length -> ∀ c∈kids (nth l x),c<x) (hki:∀ x,x<l.length -> kidsI (nth l x)=(kids (nth l x)).map (fun c:Nat=>(c:Int))) (hol:(ordP l).length <= 4096)
  (pb:Nat) (v:Value) (w:World) (hp:Boxed w pb 34 v) (hn:NArg w w.heap.size v l) :
  Calls Tryz.prog 74 #[.slice none 0 0,.func (.func 64) #[] #[.pointer (some ⟨pb,0,none⟩)]] w fun e w'=>∃ v',e = .returned v'∧w'.ownsRow w.heap.size 3 1 v' (ordP l).length (intsV (ordP l))∧Below w.heap.size w w':=by
 rw [<- callsIn_wide (n:=3)];have HAC:=Yd hac;have HKI:=Yd hki;clear hac hki;refine callsIn_of_wp_marks Tryz.func74 rfl trivial ?_ rfl;simp only [Tryz.ntmps74,List.size_toArray,List.length_cons,List.length_nil,Nat.reduceAdd,Nat.reduceSub,Array.replicate_succ,Array.replicate_zero,List.push_toArray,List.append_toArray,List.nil_append,List.cons_append]
 gi_wp2_with fail
 obtain ⟨W0,hW0⟩:∃ W0,W0=w.alloc (.cells #[.slice none 0 0] 42):=⟨_,rfl⟩;have hz0:W0.heap.size=w.heap.size+1:=by rw [hW0]; simp
 have b0:Boxed W0 w.heap.size 42 (.slice none 0 0):=by rw [hW0]; exact Boxed.new w _ _
 have hB0:Below w.heap.size w W0:=by rw [hW0]; exact (Below.refl _ w).alloc (Nat.le_refl _) _
 rw [<- hW0];have hpl:=hp.lt;obtain ⟨i0,hi,hz1,hz2,hz3⟩:=info_parts intInfo;refine range_seq (by omega) (footIU w.heap.size w (Nat.le_refl _)) (fun pre W k o o' h hk ho hr hr'=>⟨h.1.put ho hr,h.2.grown (row:=some k) ⟨rfl,rfl,rfl,by simp [World.putObj],fun i hi hne=>World.putObj_heap_other (fun e=>hne (by rw [e]))⟩ h.2.size (fun r e=>by injection e with e; omega)⟩)
  (fun W k o o' ho hr hr' i hi=>footR_put ho hr hr' i hi) l h0 hl HAC.out HKI.out pb v (by omega) (hp.kept (grown_below hB0 none) (by simp)) ?_ (hn.ext hB0) ⟨⟨_,b0,World.ownsRow_nil _ _ _ _⟩,hB0⟩ rfl
  (fun x:Nat=>{ tmps:=#[.slice none 0 0,.func (.func 64) #[] #[.pointer (some ⟨pb,0,none⟩)],.pointer (some ⟨w.heap.size,0,none⟩),undef,.slice none 0 0,.int .i64 x,.func (.func 64) #[] #[.pointer (some ⟨pb,0,none⟩)],.int .i64 x,undef,undef,undef,undef,undef],defers:=[] }) ?_ ?_ ?_
 ·rintro (e | ⟨u,hu,hf⟩)
  ·omega
  ·rw [b0.cell] at hu;obtain rfl:=Option.some.inj hu
   cases hf
 ·intro lb m x W K hK
  gi_wp2
  exact hK
 ·intro lb m pre x W hI hx hpre;obtain ⟨⟨u,hu,ho⟩,hB1⟩:=hI;have hlen:pre.length<4096:=by
   have:=hpre.length_le;simp at this;omega
  have hcu:=hu.cell;have HO:=Yd ho;have HU:=Yd hu;have HB1:=Yd hB1;clear hpre;obtain ⟨ua,uc,rfl⟩:=row_form ho;clear ho hu
  gi_wp2_with (gi_at_builtin; go_loud (refine wpListIn_append_own_at _ rfl _ _ 42 rfl w.heap.size 3 i0 _ 1 8 Tryz.underlying42 hi hz1 hz2 hz3 rfl (by decide) _ _ _ rfl (HO.out.alloc _) ⟨W.heap.size,0,none⟩ 1 1 [.int .i64 x] rfl rfl (cells_one _ _ _) (by simp [Value.oneCell']) (by unfold maxLen; omega) (by omega) (by have:=HB1.out.size; simp; omega) ?_; intro v' w1 hown' hgrow _ hvb; obtain ⟨g',cap',rfl⟩:=ownsRow_succ hown'; obtain ⟨s1,s2,s3,hv1⟩:=HR.step (t := 42) (e := 3) (Nat.le_refl w.heap.size) (show (42 : Nat) ≠ 3 by decide) HU.out HO.out hgrow hown' hvb; have hB2:Below w.heap.size w w1:=Below.grown (HB1.out.alloc HB1.out.size _) hgrow (by rw [World.size_alloc]; exact Nat.le_succ_of_le HB1.out.size) (fun r e=>(HO.out.lt r e).1); have hc1:=hv1.cell; have hf1:=hv1.frozen))
  refine ⟨⟨?_,hB2.setCell (Nat.le_refl _) _⟩,s2,s3⟩;rw [intsV_snoc,List.length_append];exact s1
 ·intro W hI hd;obtain ⟨⟨u,hu,ho⟩,hB1⟩:=hI;have hcu:=hu.cell;have HO:=Yd ho;obtain ⟨ua,uc,rfl⟩:=row_form ho;clear ho hu
  gi_wp2
  refine ⟨by simp,.inl ⟨_,_,rfl,run_takeDeferred hd,?_⟩⟩;have hg:=grownBy_putObj' W W0.heap.size (.deferred none);have frow:=ownsRow_putObj HO.out (.deferred none) hd rfl;refine ⟨.slice ua (ordP l).length uc,by simp [results,Tryz.results74,go_sem],?_⟩;exact ⟨_,rfl,frow,hB1.grown hg hB1.size (fun r e=>by injection e with e; omega)⟩
def RowPost (w:World) (l:List Nat) (e:Ending) (w':World):Prop:=∃ v',e = .returned v'∧w'.ownsRow w.heap.size 3 1 v' l.length (intsV l)∧Below w.heap.size w w'
theorem collect_any (l:List Nd) (h0:0<l.length) (hl:l.length <= 4096) (hac:∀ x,x<l.length -> ∀ c∈kids (nth l x),c<x) (hki:∀ x,x<l.length -> kidsI (nth l x)=(kids (nth l x)).map (fun c:Nat=>(c:Int))) (hol:(ordP l).length <= 4096)
  (pb:Nat) (v:Value) (w:World) (hp:Boxed w pb 34 v) (hn:NArg w w.heap.size v l) :
  Calls Tryz.prog 44 #[.func (.func 64) #[] #[.pointer (some ⟨pb,0,none⟩)]] w (RowPost w (ordP l)):=by
 have h:=appendSeq_any l h0 hl hac hki hol pb v w hp hn;have H:=Yd h;clear h hac hki hp hn;go_enter Tryz.func44,Tryz.ntmps44;go_wp2_with fail;refine H.out.mono ?_;rintro e w' ⟨v',rfl,ho,hB⟩;go_wp2_with fail;go_ret;exact ⟨v',rfl,ho,hB⟩
end flatw

/- What a right program gives the walks, and Used. No conditions but those stated. -/
namespace flatw
open Go.RowKit Go.Shelf
open nodew
open chkw
open flatm
theorem fold_snoc (L acc:List Nat):L.foldl (fun s x=>s ++ [x]) acc=acc ++ L:=by
 induction L generalizing acc with
 | nil=>simp
 | cons x r ih=>rw [List.foldl_cons,ih]; simp
theorem nodup_lt:∀ (n:Nat) (l:List Nat),l.Nodup -> (∀ x∈l,x<n) -> l.length <= n
 | 0,[],_,_=>Nat.le_refl _
 | 0,a :: r,_,h=>absurd (h a (.head _)) (Nat.not_lt_zero _)
 | n+1,l,hd,h=>by
  by_cases hm:n∈l
  ·have h1:=nodup_lt n (l.erase n) (hd.erase n) (fun x hx=>by
    have:=hd.mem_erase_iff.1 hx;have:=h x this.2;omega)
   rw [List.length_erase_of_mem hm] at h1;omega
  ·have:=nodup_lt n l hd (fun x hx=>by
    have:=h x hx;have:x≠n:=fun e=>hm (e ▸ hx);omega)
   omega
theorem ord_len {l:List Nd} (hr:rightP l=true):(ordP l).Nodup∧(ordP l).length <= l.length ∧ ∀ x∈ordP l,x<l.length:=by
 have hac:=right_ac hr;have h0:=(right_nodes hr).2.1;have he:ordP l=(runP l).2:=(visit_same (nth l) l.length hac l.length (l.length-1) l.length none_ none_ (by omega) (by omega) (fun _ _=>rfl)).1;obtain ⟨⟨h1,h2⟩,_⟩:=visitD_inv (nth l) l.length hac (fun D (s:List Nat)=>s.Nodup ∧ ∀ y∈s,y<l.length∧D y=true) (fun s x=>s ++ [x]) (by
  rintro D s x hx ⟨h1,h2⟩ hD _;refine ⟨?_,fun y hy => ?_⟩
  ·rw [List.nodup_append];refine ⟨h1,by simp,?_⟩;rintro a ha b hb rfl;have:a=x:=by simpa using hb
   subst this;rw [(h2 a ha).2] at hD
   cases hD
  ·rcases List.mem_append.1 hy with hy | hy
   ·refine ⟨(h2 y hy).1,?_⟩
    by_cases e:y=x
    ·rw [e,upd_same]
    ·rw [upd_ne _ _ _ _ e]; exact (h2 y hy).2
   ·have:y=x:=by simpa using hy
    subst this;exact ⟨hx,upd_same _ _ _⟩) l.length (l.length-1) none_ [] (by omega) (by omega) ⟨List.nodup_nil,(fun y hy=>by cases hy)⟩
 rw [fold_snoc,List.nil_append] at h1 h2;have h1':(ordP l).Nodup:=by rw [he]; exact h1
 have h2':∀ x∈ordP l,x<l.length:=by rw [he]; exact fun x hx=>(h2 x hx).1
 refine ⟨h1',?_,h2'⟩;exact nodup_lt _ _ h1' h2'
theorem kidsI_right {l:List Nd} (hr:rightP l=true):∀ x,x<l.length -> kidsI (nth l x)=(kids (nth l x)).map (fun c:Nat=>(c:Int)):=by
 intro x hx;obtain ⟨_,ha,hb,_⟩:=nodeOk_parts ((right_nodes hr).1 x hx);unfold kidsI kids
 by_cases h5:(nth l x).kind=5
 ·rw [h5] at ha hb;have ha':0 <= (nth l x).a:=by simp [placeOk,belowN] at ha; omega
  have hb':0 <= (nth l x).b:=by simp [placeOk,belowN] at hb; omega
  rw [if_pos h5,if_pos h5];simp;omega
 ·by_cases h6:(nth l x).kind=6
  ·rw [h6] at ha;have ha':0 <= (nth l x).a:=by simp [placeOk,belowN] at ha; omega
   rw [if_neg h5,if_pos h6,if_neg h5,if_pos h6];simp;omega
  ·rw [if_neg h5,if_neg h6,if_neg h5,if_neg h6];rfl
def usedP (l:List Nd):List Nat:=if rightP l=true then ordP l else []
theorem used_any (l:List Nd) (hok:∀ n∈l,n.ok) (hll:l.length <= 1000000000000) (v:Value) (w:World) (hn:NArg w w.heap.size v l) :
  Calls Tryz.prog 22 #[v] w (RowPost w (usedP l)):=by
 have hrt:=right_any w.heap.size v l hok hll w hn.read (Nat.le_refl _);obtain ⟨A,c,rfl⟩:=hn.form;have HRT:=Yd hrt;have HN:=Yd hn;have HOK:=Yd hok;clear hrt hn hok;unfold usedP
 cases hr:rightP l with
 | false =>
  rw [hr] at HRT;rw [if_neg (by simp)];go_enter Tryz.func22,Tryz.ntmps22;go_wp2_with fail;refine HRT.out.mono ?_;rintro e w' ⟨rfl,hB⟩;go_wp2_with fail;go_ret;exact ⟨_,rfl,World.ownsRow_nil _ _ _ _,hB⟩
 | true =>
  rw [hr] at HRT;rw [if_pos rfl];obtain ⟨_,h0,h4⟩:=right_nodes hr;have HR:=Yd hr;clear hr;go_enter Tryz.func22,Tryz.ntmps22;go_wp2_with fail;refine HRT.out.mono ?_;rintro e w1 ⟨rfl,hB1⟩;have HB1:=Yd hB1;clear hB1;go_wp2_with fail;refine (callsIn_wide.1 (needed_in 0 A l.length c w1)).mono ?_;rintro e w2 ⟨rfl,hw2⟩;have hB2:Below w.heap.size w w2:=by rw [hw2]; exact HB1.out.alloc HB1.out.size _
  have hp:Boxed w2 w1.heap.size 34 (.slice A l.length c):=by rw [hw2]; exact Boxed.new _ _ _
  have hn2:NArg w2 w2.heap.size (.slice A l.length c) l:=(HN.out.ext hB2).mono hB2.size;have hcl:=collect_any l h0 h4 (right_ac HR.out) (kidsI_right HR.out) (by have:=(ord_len HR.out).2.1; omega) w1.heap.size _ w2 hp hn2;have HB2:=Yd hB2;have HCL:=Yd hcl;clear hw2 hB2 hp hn2 hcl;go_wp2_with fail;refine HCL.out.mono ?_;rintro e w3 ⟨v',rfl,ho,hB3⟩;go_wp2_with fail;go_ret;exact ⟨v',rfl,ho.mono HB2.out.size,HB2.out.trans (hB3.mono HB2.out.size)⟩
end flatw

/- Programs of nodes in plain words: a front, a node more, a node that stands first. No conditions but those stated. -/
namespace chkw
open nodew
end chkw

/- A right node in which one number is another: is it right? In plain words. Conditions: as each theorem states. -/
namespace chkw
open nodew
theorem f_put (n:Nd) (hl:n.x.length=16) (o x j:Nat) (h1:1 <= o) (h2:o <= 16) (j1:1 <= j):(Nd.put n o x).f j=if j=o then x else n.f j:=by
 unfold Nd.put Nd.f;simp only [List.getD_eq_getElem?_getD]
 by_cases h:j=o
 ·subst h;rw [List.getElem?_set_self (by omega),if_pos rfl];rfl
 ·rw [List.getElem?_set_ne (by omega),if_neg h]
theorem f_zero (n:Nd) (hl:n.x.length=16) (o j:Nat) (h1:1 <= o) (h2:o <= 16) (j1:1 <= j):(n.zero o).f j=if j=o then 0 else n.f j:=f_put n hl o 0 j h1 h2 j1
theorem f_zeros:∀ (l:List Nat) (n:Nd),n.x.length=16 -> (∀ o∈l,1 <= o∧o <= 16) -> ∀ j,1 <= j -> (n.zeros l).f j=if j∈l then 0 else n.f j
 | [],n,_,_,j,_=>by simp [Nd.zeros]
 | o :: r,n,hl,ho,j,hj=>by
  show ((n.zero o).zeros r).f j=_;rw [f_zeros r (n.zero o) ((n.zero_len o).trans hl) (fun p hp=>ho p (by simp [hp])) j hj,f_zero n hl o j (ho o (by simp)).1 (ho o (by simp)).2 hj]
  by_cases h:j=o
  ·subst h
   by_cases hr:j∈r <;> simp [hr]
  ·by_cases hr:j∈r <;> simp [h,hr]
theorem offs_range (k:Nat):∀ o∈offs k,1 <= o∧o <= 16:=fun o ho=>by
 unfold offs at ho;obtain ⟨d,hd,rfl⟩:=List.mem_map.1 ho;exact fieldList_range k d hd
theorem nodeOk_iff (n:Nd) (hl:n.x.length=16) (at_:Int):nodeOk n at_=true↔(∀ d∈fieldList n.kind,withinF d.2.1 d.2.2 (n.f d.1)=true)∧placeOk (decide (0<belowN n.kind)) n.a at_=true∧placeOk (decide (1<belowN n.kind)) n.b at_=true∧0<(fieldList n.kind).length ∧ ∀ j,1 <= j -> j <= 16 -> j ∉ offs n.kind -> n.f j=0:=by
 unfold nodeOk ndOk bare;simp only [Bool.and_eq_true,List.all_eq_true,decide_eq_true_eq,beq_iff_eq,List.mem_range];have hz:=f_zeros (offs n.kind) n hl (offs_range n.kind)
 constructor
 ·rintro ⟨⟨⟨⟨h1,h2⟩,h3⟩,h4⟩,h5⟩;refine ⟨h1,h2,h3,h4,fun j j1 j2 hj => ?_⟩;have:=h5 (j-1) (by omega);rw [show j-1+1=j by omega,hz j j1,if_neg hj] at this;exact this
 ·rintro ⟨h1,h2,h3,h4,h5⟩;refine ⟨⟨⟨⟨h1,h2⟩,h3⟩,h4⟩,fun j hj => ?_⟩;rw [hz (j+1) (by omega)]
  by_cases h:j+1∈offs n.kind
  ·rw [if_pos h]
  ·rw [if_neg h]; exact h5 (j+1) (by omega) (by omega) h
theorem kinds_six (k:Nat) (h:0<(fieldList k).length):k∈[1,2,3,4,5,6]:=by
 unfold fieldList at h;simp
 repeat' split at h
 all_goals first | omega | (simp at h)
end chkw

/- The walks of burnishref18's within, nothing, all, none, and of burnishref01.Right; which numbers are nothing. No conditions but those stated. -/
namespace chkw
open Go.RowKit
open nodew
attribute [local go_sem] nodew.fo_eq nodew.run_store_float
theorem signed_zero (s:Bool) (m k:Nat):Ieee.signed s m k=0↔m=0:=by
 have h:m <<< k=0↔m=0:=by
  rw [Nat.shiftLeft_eq]
  constructor
  ·intro h
   rcases Nat.mul_eq_zero.1 h with h | h
   ·exact h
   ·exact absurd h (Nat.ne_of_gt (Nat.two_pow_pos k))
  ·intro h; rw [h,Nat.zero_mul]
 unfold Ieee.signed
 cases s <;> simp <;> omega
theorem order_zero (s t:Bool) (m:Nat) (i j:Int) (h:Ieee.Datum.order (.number s m i) (.number t 0 j)=some .eq):m=0:=by
 unfold Ieee.Datum.order at h;simp only [Option.some.injEq] at h;have hc:=Std.LawfulEqOrd.eq_of_compare h;rw [(signed_zero t 0 _).2 rfl] at hc;exact (signed_zero s m _).1 hc
theorem fo_nz (x:Nat) (h:x % 9223372036854775808≠0):fo x 0≠some .eq:=by
 intro he;have hz:Ieee.Format.read Ieee.double 0 = .number false 0 (-1074):=by kernel_rfl
 have he':Ieee.Datum.order (Ieee.Format.read Ieee.double x) (Ieee.Format.read Ieee.double 0)=some .eq:=he;rw [hz] at he';have hw:Ieee.double.signWeight=9223372036854775808:=by kernel_rfl
 unfold Ieee.Format.read at he';simp only [hw] at he'
 split at he'
 ·exact h (order_zero _ _ _ _ _ he')
 ·split at he'
  ·have:=order_zero _ _ _ _ _ he';have hb:Ieee.double.binade=4503599627370496:=by kernel_rfl
   rw [hb] at this;omega
  ·split at he'
   ·cases hs:(x / 9223372036854775808 % 2 == 1) <;> rw [hs] at he' <;> cases he'
   ·cases he'
theorem nothing_law (x:Nat) (hx:x<18446744073709551616):(fo x 0 == some .eq && rightF x)=decide (x=0):=by
 by_cases h0:x=0
 ·subst h0; kernel_rfl
 ·rw [decide_eq_false h0]
  by_cases h1:x=9223372036854775808
  ·subst h1; kernel_rfl
  ·have:=fo_nz x (by omega);have e:(fo x 0 == some .eq)=false:=by rw [beq_eq_false_iff_ne]; exact this
   rw [e]; rfl
theorem right_ref (x:Nat) (w:World):Calls Tryz.prog 123 #[.float .f64 x] w fun e w'=>e = .returned (.bool (rightF x))∧w'=w:=by
 go_enter Tryz.func123,Tryz.ntmps123;go_wp2_with (first | (go_at_call 110; refine (isNaN_any _ _).mono ?_; rintro e w' ⟨rfl,rfl⟩) | (go_at_call 111; refine (isInf_any _ _).mono ?_; rintro e w' ⟨rfl,rfl⟩) | (go_at_call 112; refine (signbit_any _ _).mono ?_; rintro e w' ⟨rfl,rfl⟩))
 all_goals go_ret
 all_goals exact ⟨ret_bool (by simp_all [rightF]),rfl⟩
theorem within_ref (lo hi x:Nat) (w:World):Calls Tryz.prog 90 #[.float .f64 x,.float .f64 lo,.float .f64 hi] w fun e w'=>e = .returned (.bool (withinF lo hi x))∧w'=w:=by
 go_enter Tryz.func90,Tryz.ntmps90;go_wp2_with (first | (go_at_call 123; refine (right_ref _ _).mono ?_; rintro e w' ⟨rfl,rfl⟩))
 all_goals go_ret
 all_goals exact ⟨ret_bool (by simp_all [withinF,geqF,leqF]),rfl⟩
theorem nothing_ref (x:Nat) (hx:x<18446744073709551616) (w:World):Calls Tryz.prog 91 #[.float .f64 x] w fun e w'=>e = .returned (.bool (decide (x=0)))∧w'=w:=by
 rw [<- nothing_law x hx];clear hx;go_enter Tryz.func91,Tryz.ntmps91;go_wp2_with (first | (go_at_call 123; refine (right_ref _ _).mono ?_; rintro e w' ⟨rfl,rfl⟩))
 all_goals go_ret
 all_goals exact ⟨ret_bool (by simp_all),rfl⟩
def all3 (lo hi a b c:Nat):Bool:=withinF lo hi a && (withinF lo hi b && withinF lo hi c)
def none3 (a b c:Nat):Bool:=decide (a=0) && (decide (b=0) && decide (c=0))
theorem all_ref (lo hi a b c:Nat) (w:World):Calls Tryz.prog 88 #[.agg #[.float .f64 a,.float .f64 b,.float .f64 c],.float .f64 lo,.float .f64 hi] w fun e w'=>e = .returned (.bool (all3 lo hi a b c))∧Below w.heap.size w w':=by
 obtain ⟨qa,ha⟩:∃ q,withinF lo hi a=q:=⟨_,rfl⟩;obtain ⟨qb,hb⟩:∃ q,withinF lo hi b=q:=⟨_,rfl⟩;obtain ⟨qc,hc⟩:∃ q,withinF lo hi c=q:=⟨_,rfl⟩;have ra:∀ u:World,Calls Tryz.prog 90 #[.float .f64 a,.float .f64 lo,.float .f64 hi] u fun e w'=>e = .returned (.bool qa)∧w'=u:=fun u=>by rw [<- ha]; exact within_ref lo hi a u
 have rb:∀ u:World,Calls Tryz.prog 90 #[.float .f64 b,.float .f64 lo,.float .f64 hi] u fun e w'=>e = .returned (.bool qb)∧w'=u:=fun u=>by rw [<- hb]; exact within_ref lo hi b u
 have rc:∀ u:World,Calls Tryz.prog 90 #[.float .f64 c,.float .f64 lo,.float .f64 hi] u fun e w'=>e = .returned (.bool qc)∧w'=u:=fun u=>by rw [<- hc]; exact within_ref lo hi c u
 have hr:all3 lo hi a b c=(qa && (qb && qc)):=by unfold all3; rw [ha,hb,hc]
 rw [hr];clear hr ha hb hc
 cases qa
 case' true=>cases qb
 all_goals
  go_enter Tryz.func88,Tryz.ntmps88;go_wp2_with (first
   | (with_reducible refine (ra _).mono ?_; rintro e w' ⟨rfl,rfl⟩)
   | (with_reducible refine (rb _).mono ?_; rintro e w' ⟨rfl,rfl⟩)
   | (with_reducible refine (rc _).mono ?_; rintro e w' ⟨rfl,rfl⟩))
  go_ret;exact ⟨rfl,(Below.refl _ _).alloc (Nat.le_refl _) _⟩
theorem none_ref (a b c:Nat) (la:a<18446744073709551616) (lb:b<18446744073709551616) (lc:c<18446744073709551616) (w:World):Calls Tryz.prog 89 #[.agg #[.float .f64 a,.float .f64 b,.float .f64 c]] w fun e w'=>e = .returned (.bool (none3 a b c))∧Below w.heap.size w w':=by
 obtain ⟨qa,ha⟩:∃ q,decide (a=0)=q:=⟨_,rfl⟩;obtain ⟨qb,hb⟩:∃ q,decide (b=0)=q:=⟨_,rfl⟩;obtain ⟨qc,hc⟩:∃ q,decide (c=0)=q:=⟨_,rfl⟩;have ra:∀ u:World,Calls Tryz.prog 91 #[.float .f64 a] u fun e w'=>e = .returned (.bool qa)∧w'=u:=fun u=>by rw [<- ha]; exact nothing_ref a la u
 have rb:∀ u:World,Calls Tryz.prog 91 #[.float .f64 b] u fun e w'=>e = .returned (.bool qb)∧w'=u:=fun u=>by rw [<- hb]; exact nothing_ref b lb u
 have rc:∀ u:World,Calls Tryz.prog 91 #[.float .f64 c] u fun e w'=>e = .returned (.bool qc)∧w'=u:=fun u=>by rw [<- hc]; exact nothing_ref c lc u
 have hr:none3 a b c=(qa && (qb && qc)):=by unfold none3; rw [ha,hb,hc]
 rw [hr];clear hr ha hb hc la lb lc
 cases qa
 case' true=>cases qb
 all_goals
  go_enter Tryz.func89,Tryz.ntmps89;go_wp2_with (first
   | (with_reducible refine (ra _).mono ?_; rintro e w' ⟨rfl,rfl⟩)
   | (with_reducible refine (rb _).mono ?_; rintro e w' ⟨rfl,rfl⟩)
   | (with_reducible refine (rc _).mono ?_; rintro e w' ⟨rfl,rfl⟩))
  go_ret;exact ⟨rfl,(Below.refl _ _).alloc (Nat.le_refl _) _⟩
theorem many_ref (k:Nat) (w:World):Calls Tryz.prog 71 #[.int .u8 k] w fun e w'=>e = .returned (.tuple #[.int .i64 ((fieldList k).length:Nat),.int .i64 (belowN k:Nat)])∧w'=w:=by
 by_cases h1:k=1
 case' neg=>by_cases h2:k=2
 case' neg=>by_cases h3:k=3
 case' neg=>by_cases h4:k=4
 case' neg=>by_cases h5:k=5
 case' neg=>by_cases h6:k=6
 case neg =>
  have e1:((k:Int) == 1)=false:=Yf (by omega)
  have e2:((k:Int) == 2)=false:=Yf (by omega)
  have e3:((k:Int) == 3)=false:=Yf (by omega)
  have e4:((k:Int) == 4)=false:=Yf (by omega)
  have e5:((k:Int) == 5)=false:=Yf (by omega)
  have e6:((k:Int) == 6)=false:=Yf (by omega)
  have ef:(fieldList k).length=0:=by
   unfold fieldList
   repeat' split
   all_goals first | omega | rfl
  have eb:belowN k=0:=by unfold belowN; rw [if_neg h5,if_neg h6]
  rw [ef,eb];clear ef eb h1 h2 h3 h4 h5 h6;go_enter Tryz.func71,Tryz.ntmps71;go_wp2;go_ret2;exact ⟨rfl,rfl⟩
 all_goals
  subst_vars;go_enter Tryz.func71,Tryz.ntmps71;go_wp2;go_ret2;exact ⟨rfl,rfl⟩
end chkw

/- The first laws of NRead, as FlatTells wants them (check/XAwl without awake). Conditions: as each theorem states. -/
namespace chkw
open Go.RowKit
open nodew
open qt
theorem NRead.mono {W:World} {B B':Nat} {v:Value} {l:List Nd} (h:NRead W B v l) (hb:B <= B'):NRead W B' v l:=by
 obtain ⟨A,c,hv,hx⟩:=h;refine ⟨A,c,hv,fun h0 => ?_⟩;obtain ⟨g,off,hA,hg,hgl,hcell⟩:=hx h0;exact ⟨g,off,hA,by omega,hgl,hcell⟩
theorem NRead.ext {W u:World} {B:Nat} {v:Value} {l:List Nd} (h:NRead W B v l) (hb:Below W.heap.size W u):NRead u B v l :=
 h.keep hb.size fun g _ hg=>hb.block g hg
end chkw

/- A stand-in for check/XProB: what FlatTells wants of it lies in bk/XFlaB. No conditions. -/
namespace chkw
end chkw
end Go.Proofs.YtcbgkbidgpemfaaGreatDoor
