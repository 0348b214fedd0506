/- burnishref20: the walk of Flat. Conditions: the nodes lie in memory. -/
import Derived.Test.YtcbgkbidgpemfaaGreatDoorMf00
import Derived.Test.YtcbgkbidgpemfaaGreatDoorMf13
import Derived.Test.YtcbgkbidgpemfaaGreatDoorMf01
import Derived.Deep.AppendLies
import Derived.Deep.DeepCutAuto
namespace Go.Proofs.YtcbgkbidgpemfaaGreatDoor
set_option maxRecDepth 100000
set_option maxHeartbeats 4000000
namespace tfw
open Go.RowKit
open Go.BigFrame
open nodew
open chkw
open qt
open flatm
open flatw
open rg
open bsw (grown_setCell)
theorem nb_kind {W:World} {nb K:Nat} {n:Nd} (h:NBlk W nb n) (hk:n.kind=K):W.cell? ⟨nb,0,none⟩=some (.int .u8 (K:Nat)):=by
 rw [h.cell 0,<- hk];rfl
theorem nb_a {W:World} {nb:Nat} {n:Nd} {x:Int} (h:NBlk W nb n) (hk:n.a=x):W.cell? ⟨nb,17,none⟩=some (.int .i64 x):=by
 rw [h.cell 17,<- hk];rfl
theorem nb_b {W:World} {nb:Nat} {n:Nd} {x:Int} (h:NBlk W nb n) (hk:n.b=x):W.cell? ⟨nb,18,none⟩=some (.int .i64 x):=by
 rw [h.cell 18,<- hk];rfl
theorem remap_two (ta:Nat -> Nat) {nd:Nd} {K:Nat} (hK:nd.kind=K) (h:K <= 6):remap ta nd=if K=5 then { (if 5 <= K then { nd with a:=((ta nd.a.toNat:Nat):Int) } else nd) with b:=((ta nd.b.toNat:Nat):Int) } else (if 5 <= K then { nd with a:=((ta nd.a.toNat:Nat):Int) } else nd):=by
 subst hK;unfold remap
 by_cases h5:nd.kind=5
 ·simp only [if_pos h5,if_pos (show 5 <= nd.kind by omega)]
 ·by_cases h6:nd.kind=6
  ·simp only [if_neg h5,if_pos h6,if_pos (show 5 <= nd.kind by omega)]
  ·simp only [if_neg h5,if_neg h6,if_neg (show ¬ 5 <= nd.kind by omega)]
theorem kid_a {nd:Nd} {x K:Nat} (hk:nd.kind=K) (h5:5 <= K) (h6:K <= 6) (hI:kidsI nd=(kids nd).map (fun c:Nat=>(c:Int))) (hac:∀ c∈kids nd,c<x):∃ c:Nat,nd.a=(c:Int)∧nd.a.toNat=c∧c<x:=by
 unfold kidsI kids at hI;unfold kids at hac;rw [hk] at hI hac
 by_cases h:K=5
 ·rw [if_pos h,if_pos h] at hI;rw [if_pos h] at hac;simp only [List.map_cons,List.map_nil,List.cons.injEq,and_true] at hI;exact ⟨nd.a.toNat,hI.1,rfl,hac _ (by simp)⟩
 ·have h':K=6:=by omega
  rw [if_neg h,if_pos h',if_neg h,if_pos h'] at hI;rw [if_neg h,if_pos h'] at hac;simp only [List.map_cons,List.map_nil,List.cons.injEq,and_true] at hI;exact ⟨nd.a.toNat,hI,rfl,hac _ (by simp)⟩
theorem kid_b {nd:Nd} {x:Nat} (hk:nd.kind=5) (hI:kidsI nd=(kids nd).map (fun c:Nat=>(c:Int))) (hac:∀ c∈kids nd,c<x):∃ c:Nat,nd.b=(c:Int)∧nd.b.toNat=c∧c<x:=by
 unfold kidsI kids at hI;unfold kids at hac;rw [if_pos hk,if_pos hk] at hI;rw [if_pos hk] at hac;simp only [List.map_cons,List.map_nil,List.cons.injEq,and_true] at hI;exact ⟨nd.b.toNat,hI.2,rfl,hac _ (by simp)⟩
theorem rflat_any (l:List Nd) (hok:∀ n∈l,n.ok) (hr:rightP l=true) (v:Value) (w:World) (hn:NArg w w.heap.size v l) :
  Calls Tryz.prog 16 #[v] w fun e w'=>∃ v',e = .returned (.tuple #[v',.int .i64 0])∧w'.ownsRow w.heap.size 49 19 v' (flatP l).length (ncells (flatP l))∧Below w.heap.size w w':=by
 obtain ⟨_,h0,h4⟩:=right_nodes hr;have hrt:=refright_any w.heap.size v l hok (by omega) w hn.read (Nat.le_refl _);obtain ⟨A,c,rfl⟩:=hn.form;rw [hr] at hrt;have hus:=fun (u:World) (h:Below w.heap.size w u)=>rused_any l hok (by omega) (.slice A l.length c) u ((hn.ext h).mono h.size);have hup:usedP l=ordP l:=by unfold usedP; rw [if_pos hr]
 rw [hup] at hus;have hord:=ord_len hr;have hfl:flatP l=((ordP l).foldl (stepF (nth l)) ⟨fun _=>0,[]⟩).out:=by unfold flatP endP; rw [ordP_eq hr]
 obtain ⟨O,hO⟩:∃ O,ordP l=O:=⟨_,rfl⟩;rw [hO] at hus hord hfl;have HRT:=Yd hrt;have HUS:=Yd hus;have HNL:=Yd hn;have HR:=Yd hr;have HOK:=Yd hok;have HORD:=Yd hord;have HFL:=Yd hfl;have hOl:O.length <= 4096:=by omega
 clear hrt hn hok hr hus hord hfl hup hO;have hOi:(O.length:Int) <= 4096:=by omega
 go_enter Tryz.func16,Tryz.ntmps16;go_upto_region 3 with (go_at_call 39; (with_reducible refine HRT.out.mono ?_); rintro e W1 ⟨rfl,hB1⟩);obtain ⟨tb,htb⟩:∃ tb,tb=W1.heap.size:=⟨_,rfl⟩;obtain ⟨W2,hW2⟩:∃ W2,W2=W1.alloc (.cells (toA l.length fun _=>0) 3):=⟨_,rfl⟩;have hmk:(Instr.makeSlice 42 (.int .i64 l.length) (.int .i64 l.length)).run Tryz.prog W1 = .ok (.slice (some ⟨tb,0,none⟩) l.length l.length) W2:=by
  rw [htb,hW2]; exact mk_int l.length h4 W1
 have hto2:W2.heap[tb]? = some (.cells (toA l.length fun _=>0) 3 (0,0)):=by rw [hW2,htb]; exact heap_alloc_new W1 _
 have hz2:W2.heap.size=tb+1:=by rw [hW2,htb]; simp
 have hbel2:Below w.heap.size w W2:=by rw [hW2]; exact hB1.alloc hB1.size _
 have htw:w.heap.size <= tb:=by rw [htb]; exact hB1.size
 have HT2:=Yd (And.intro hto2 (And.intro hz2 hbel2));clear hW2 htb hto2 hz2 hbel2 hB1;go_wp2_with (go_at_call 23; (with_reducible refine (HUS.out _ HT2.out.2.2).mono ?_); rintro e W6 ⟨o6,rfl,ho6,hB6⟩; obtain ⟨oa,oc,rfl⟩:=row_form ho6; have HO6:=Yd ho6; have HB6:=Yd hB6; clear ho6 hB6);have hF6:FI w W6 tb l.length W6.heap.size ⟨fun _=>0,[]⟩ (.slice none 0 0) W6:=by
  have hs:=HB6.out.size;have hz:=HT2.out.2.1;exact ⟨(HB6.out.block tb (by omega)).trans HT2.out.1,World.ownsRow_nil _ _ _ _,fun _ _ _=>rfl,Nat.le_refl _,HT2.out.2.2.trans (HB6.out.mono HT2.out.2.2.size),by omega,htw⟩
 have HF6:=Yd hF6;clear hF6 hmk HRT HUS
 go_loopw [5,7] (fun s5 s7 wr=>∃ i:Nat,i <= O.length∧s7 = .int .i64 i∧FI w W6 tb l.length W6.heap.size ((O.take i).foldl (stepF (nth l)) ⟨fun _=>0,[]⟩) s5 wr) (fun _ s7 _=>O.length-(intOf s7).toNat)
 case atStart=>exact ⟨0,Nat.zero_le _,rfl,HF6.out⟩
 case round =>
  obtain ⟨i,hi,rfl,hF⟩:=hrel;obtain ⟨wo,rfl⟩:∃ wo:World,wo=wr:=⟨_,rfl⟩;clear HF6;have hii:(i:Int) <= (O.length:Int):=by omega
  obtain ⟨st,hst⟩:∃ st,(O.take i).foldl (stepF (nth l)) ⟨fun _=>0,[]⟩=st:=⟨_,rfl⟩;rw [hst] at hF;obtain ⟨ua,uc,hso⟩:=row_form hF.own;subst hso
  by_cases hlt:i<O.length
  ·have hlti:(i:Int)<(O.length:Int):=by omega
   obtain ⟨x,hx⟩:∃ x,O[i]=x:=⟨_,rfl⟩;have hxN:x<l.length:=by rw [<- hx]; exact HORD.out.2.2 _ (List.getElem_mem hlt)
   have hxi:(x:Int)<(l.length:Int):=by omega
   have hstep:(O.take (i+1)).foldl (stepF (nth l)) ⟨fun _=>0,[]⟩=stepF (nth l) st x:=by
    rw [List.take_succ_eq_append_getElem hlt,List.foldl_append,hst,hx];rfl
   have hM:st.out.length <= i:=by
    have:=flatm.fold_len (nth l) (O.take i) ⟨fun _=>0,[]⟩;rw [hst,List.length_take] at this;have h2:([]:List Nd).length=0:=rfl;simp only [List.length_nil] at this;omega
   have hrtq:∀ q∈st.out,Nd.rt q:=by
    rw [<- hst];exact fold_rt (nth l) (O.take i) _ (fun y hy=>nth_rt HR.out HOK.out (HORD.out.2.2 y (List.mem_of_mem_take hy))) (fun q hq=>by cases hq)
   obtain ⟨g6,cap6,hv6,hc6⟩:=ints_at HO6.out (i:=i) hlt;injection hv6 with e6 _ _;subst e6;rw [hx] at hc6;have hg6:=HO6.out.lt g6 rfl;have hx6:wo.cell? ⟨g6,i,none⟩=some (.int .i64 (x:Int)):=by
    have hz:=HT2.out.2.1;exact (World.cell?_of_block (a:=⟨g6,i,none⟩) (hF.keep g6 hg6.2 (by omega))).trans hc6
   obtain ⟨g,off,hA,hld⟩:=NRead.at' HNL.out hxN;subst hA;have HLD:=Yd (hld wo hF.bel);have hkI:=kidsI_right HR.out x hxN;have hac:=right_ac HR.out x hxN;have hkle:=kind_le HR.out x hxN;have hndrt:=nth_rt HR.out HOK.out hxN;have hremap:∀ ta,remap ta (nth l x)=remap ta (nth l x):=fun _=>rfl;obtain ⟨nd,hnd⟩:∃ nd,nth l x=nd:=⟨_,rfl⟩;rw [hnd] at HLD hkI hac hkle hndrt;obtain ⟨K,hK⟩:∃ K,nd.kind=K:=⟨_,rfl⟩;rw [hK] at hkle;have HF:=Yd hF;have HST:=Yd hstep;have HND:=Yd hnd;have HRQ:=Yd hrtq;have HNR:=Yd hndrt;have HKI:=Yd hkI;have HAC:=Yd hac;have HG6:=Yd hg6;clear hF hstep hnd hrtq hndrt hkI hac hld hx hst hremap hg6 hc6;go_upto_region 10 with (first
    | (refine wl_load_nd rfl (.tmp 29) rfl (.pointer (some ⟨g,off+x*19,none⟩)) rfl nd HLD.out ?_)
    | (refine wl_alloc_nd rfl rfl ?_)
    | (refine wl_store_new rfl (.tmp 8) (.tmp 30) rfl nd rfl rfl ?_))
   obtain ⟨Wa,hWa⟩:∃ Wa,wo.alloc (.cells nd.cells.toArray 49)=Wa:=⟨_,rfl⟩;rw [hWa];obtain ⟨nb,hnb⟩:∃ nb,wo.heap.size=nb:=⟨_,rfl⟩;rw [hnb];have hna:NBlk Wa nb nd:=by rw [<- hWa,<- hnb]; exact heap_alloc_new wo _
   have hga:wo.grownBy Wa (some nb):=by rw [<- hWa]; exact World.grownBy_alloc wo _ _
   have k0:=nb_kind hna hK;have HX6:=Yd (show ∀ wy:World,wo.grownBy wy (some nb) -> wy.cell? ⟨g6,i,none⟩=some (.int .i64 (x:Int)) from fun wy h=>(World.cell?_of_block (a:=⟨g6,i,none⟩) (h.block g6 (by have:=HG6.out.2; have:=HF.out.size; omega) (fun e=>by have:=HG6.out.2; have:=HF.out.size; injection e with e; omega))).trans hx6);have HFW:=Yd (show ∀ wy:World,wo.grownBy wy (some nb) -> FI w W6 tb l.length W6.heap.size st (.slice ua st.out.length uc) wy from fun wy h=>HF.out.fresh (Nat.le_of_eq hnb) h);have HNA:=Yd hna;have HGA:=Yd hga;obtain ⟨n1,hn1⟩:∃ n1,(if 5 <= K then { nd with a:=((st.tm nd.a.toNat:Nat):Int) } else nd)=n1:=⟨_,rfl⟩;have hk1:n1.kind=K:=by rw [<- hn1]; split <;> exact hK
   have hb1:n1.b=nd.b:=by rw [<- hn1]; split <;> rfl
   have hrm:remap st.tm nd=if K=5 then { n1 with b:=((st.tm nd.b.toNat:Nat):Int) } else n1:=by rw [<- hn1]; exact remap_two st.tm hK hkle
   have HN1:=Yd (And.intro hn1 (And.intro hk1 (And.intro hb1 (And.intro hrm hK))));clear hx6 hWa hna hga hn1 hk1 hb1 hrm hK;go_upto_if 33 with fail
   go_cut [] (fun wx=>wo.grownBy wx (some nb)∧NBlk wx nb n1)
   case first =>
    by_cases h5:5 <= K
    ·obtain ⟨c1,hc1,hc1t,hc1x⟩:=kid_a HN1.out.2.2.2.2 h5 hkle HKI.out HAC.out;have ca:=toA_cell' (HFW.out Wa HGA.out).tos (x:=c1) (by omega);have k17:=nb_a HNA.out hc1;have f17:=nblk_frozen HNA.out 17;obtain ⟨t1,ht1⟩:∃ t1,st.tm c1=t1:=⟨_,rfl⟩;rw [ht1] at ca;have hnew:n1={ nd with a:=(t1:Int) }:=by rw [<- HN1.out.1,if_pos h5,hc1t,ht1]
     have HNEW:=Yd hnew;have a1:(5:Int) <= (K:Int):=by omega
     have l1:(c1:Int)<(l.length:Int):=by omega
     clear hnew ht1 hc1t hc1;go_wp2_with fail;go_meet;exact ⟨grown_trans HGA.out (grown_setCell Wa ⟨nb,17,none⟩ _),by rw [HNEW.out]; exact nblk_store HNA.out 17 _ rfl⟩
    ·have a1:¬ (5:Int) <= (K:Int):=by omega
     have HNEW:=Yd (show n1=nd by rw [<- HN1.out.1,if_neg h5]);go_wp2_with fail;go_meet;exact ⟨HGA.out,by rw [HNEW.out]; exact HNA.out⟩
   obtain ⟨hgc,hnc⟩:=hcut;obtain ⟨W3,hW3⟩:∃ W3,W3=wc:=⟨_,rfl⟩;subst hW3;have k1:=nb_kind hnc HN1.out.2.1;obtain ⟨m,hm⟩:∃ m,remap st.tm nd=m:=⟨_,rfl⟩;have HM:=Yd hm;have HGC:=Yd hgc;have HNC:=Yd hnc;clear hm hgc hnc k0;go_upto_if 42 with fail
   go_cut [] (fun wx=>wo.grownBy wx (some nb)∧NBlk wx nb m)
   case first =>
    by_cases h5:K=5
    ·obtain ⟨c2,hc2,hc2t,hc2x⟩:=kid_b (HN1.out.2.2.2.2.trans h5) HKI.out HAC.out;have ca:=toA_cell' (HFW.out W3 HGC.out).tos (x:=c2) (by omega);have k18:=nb_b HNC.out (HN1.out.2.2.1.trans hc2);have f18:=nblk_frozen HNC.out 18;obtain ⟨t1,ht1⟩:∃ t1,st.tm c2=t1:=⟨_,rfl⟩;rw [ht1] at ca;have hnew:m={ n1 with b:=(t1:Int) }:=by rw [<- HM.out,HN1.out.2.2.2.1,if_pos h5,hc2t,ht1]
     have HNEW:=Yd hnew;have a1:((K:Int) == 5)=true:=Yt (by omega)
     have l1:(c2:Int)<(l.length:Int):=by omega
     clear hnew ht1 hc2t hc2 h5;go_wp2_with fail;go_meet;exact ⟨grown_trans HGC.out (grown_setCell W3 ⟨nb,18,none⟩ _),by rw [HNEW.out]; exact nblk_store HNC.out 18 _ rfl⟩
    ·have a1:((K:Int) == 5)=false:=Yf (by omega)
     have HNEW:=Yd (show m=n1 by rw [<- HM.out,HN1.out.2.2.2.1,if_neg h5]);clear h5;go_wp2_with fail;go_meet;exact ⟨HGC.out,by rw [HNEW.out]; exact HNC.out⟩
   obtain ⟨hg4,hn4⟩:=hcut;obtain ⟨W4,hW4⟩:∃ W4,W4=wc:=⟨_,rfl⟩;subst hW4;have HMR:=Yd (show Nd.rt m by rw [<- HM.out]; exact remap_rt _ HNR.out);have HMX:=Yd (show remap st.tm (nth l x)=m by rw [HND.out]; exact HM.out);have H4:=Yd (And.intro hg4 hn4);clear hg4 hn4 k1 HGC HNC HGA HNA HN1;go_wp2_with fail
   go_loopw [9] (fun s9 wy=>∃ j:Nat,j <= st.out.length∧s9 = .int .i64 j∧(∀ k (h:k<st.out.length),k<j -> st.out[k]≠m)∧wo.grownBy wy (some nb)∧NBlk wy nb m) (fun s9 _=>st.out.length-(intOf s9).toNat)
   case atStart=>exact ⟨0,Nat.zero_le _,rfl,fun k _ h=>absurd h (Nat.not_lt_zero _),H4.out.1,H4.out.2⟩
   case round =>
    obtain ⟨j,hj,rfl,hno,hgy,hny⟩:=hrel;obtain ⟨wq,rfl⟩:∃ wq:World,wq=wr:=⟨_,rfl⟩;have hji:(j:Int) <= (st.out.length:Int):=by omega
    have hFy:=HFW.out wq hgy;have hnz:=(Array.getElem?_eq_some_iff.1 hny).1;have HNO:=Yd hno;clear hno H4
    by_cases hjl:j<st.out.length
    ·have hjli:(j:Int)<(st.out.length:Int):=by omega
     obtain ⟨go',capo,hvo,_,_⟩:=hFy.own.form (by omega);injection hvo with eo _ ec;subst eo;subst ec;obtain ⟨A',c',hv',hx'⟩:=NRead.of_own hFy.own;injection hv' with e1 _ ec';subst e1;subst ec';obtain ⟨hgo,hlq⟩:=NRead.at hx' hjl;obtain ⟨q,hq⟩:∃ q,st.out[j]=q:=⟨_,rfl⟩;rw [hq] at hlq;have hqr:Nd.rt q:=HRQ.out q (hq ▸ List.getElem_mem hjl);have HLQ:=Yd (show ∀ u:Ext wq,(Instr.loadAt 49 (.pointer (some ⟨go',j*19,none⟩))).run Tryz.prog u.1 = .ok q.val u.1 from fun u=>by have h:=hlq u.1 (u.2.block go' hgo); rw [Nat.zero_add] at h; exact h);have HLM:=Yd (show ∀ u:Ext wq,(Instr.loadAt 49 (.pointer (some ⟨nb,0,none⟩))).run Tryz.prog u.1 = .ok m.val u.1 from fun u=>NBlk.loadAt ((u.2.block nb hnz).trans hny));have HG:=Yd (And.intro hgy (And.intro hny hnz));have HQ:=Yd (And.intro hq hqr);clear hlq hx' hFy hgy hny hnz hq hqr
     by_cases hqm:q=m
     ·have HB:=Yd (show (!eqN q m)=false by rw [eqN_law HQ.out.2 HMR.out,decide_eq_true hqm]; rfl);have hjm:((j:Int) == (st.out.length:Int))=false:=Yf (by omega)
      have HI:=Yd (idx_first hjl (HQ.out.1.trans hqm) HNO.out);clear hqm;go_upto_region 15 with fail;refine region_ext (by kernel_rfl) (by kernel_rfl) ?_
      repeat (first
       | (refine quiet_at_w rfl (.tmp 56) rfl (.pointer (some ⟨go',j*19,none⟩)) rfl q (by rintro _ ⟨u,rfl⟩; exact HLQ.out u) ?_; simp only [Act.put,List.setIfInBounds_toArray,List.set_cons_succ,List.set_cons_zero])
       | (refine quiet_at_w rfl (.tmp 8) rfl (.pointer (some ⟨nb,0,none⟩)) rfl m (by rintro _ ⟨u,rfl⟩; exact HLM.out u) ?_; simp only [Act.put,List.setIfInBounds_toArray,List.set_cons_succ,List.set_cons_zero])
       | (refine quiet_neq_w rfl (.tmp 57) (.tmp 58) _ rfl q m rfl rfl false HB.out ?_; simp only [Act.put,List.setIfInBounds_toArray,List.set_cons_succ,List.set_cons_zero])
       | go_big_quiet_step (fail))
      refine wpQuiet_nil ?_;intro u;obtain ⟨X,hX⟩:∃ X,u.1=X:=⟨_,rfl⟩;have hu:=u.2;rw [hX] at hu ⊢;have hgX:=grown_trans HG.out.1 (grown_below hu _);have hFX:=HFW.out X hgX;have t5:=toA_cell' hFX.tos hxN;have t6:=toA_frozen' hFX.tos x;have y6:=HX6.out X hgX;have HFX:=Yd hFX;clear hX hu hgX hFX;go_wp2_with fail;go_roundw
      case rel =>
       refine ⟨i+1,by omega,by go_num,?_⟩;rw [HST.out,step_some HMX.out HI.out];exact HFX.out.setTo x j hxN
      case measure=>simp only [intOf]; omega
     ·have HB:=Yd (show (!eqN q m)=true by rw [eqN_law HQ.out.2 HMR.out,decide_eq_false hqm]; rfl);go_upto_region 15 with fail;refine region_ext (by kernel_rfl) (by kernel_rfl) ?_
      repeat (first
       | (refine quiet_at_w rfl (.tmp 56) rfl (.pointer (some ⟨go',j*19,none⟩)) rfl q (by rintro _ ⟨u,rfl⟩; exact HLQ.out u) ?_; simp only [Act.put,List.setIfInBounds_toArray,List.set_cons_succ,List.set_cons_zero])
       | (refine quiet_at_w rfl (.tmp 8) rfl (.pointer (some ⟨nb,0,none⟩)) rfl m (by rintro _ ⟨u,rfl⟩; exact HLM.out u) ?_; simp only [Act.put,List.setIfInBounds_toArray,List.set_cons_succ,List.set_cons_zero])
       | (refine quiet_neq_w rfl (.tmp 57) (.tmp 58) _ rfl q m rfl rfl true HB.out ?_; simp only [Act.put,List.setIfInBounds_toArray,List.set_cons_succ,List.set_cons_zero])
       | go_big_quiet_step (fail))
      refine wpQuiet_nil ?_;intro u;obtain ⟨X,hX⟩:∃ X,u.1=X:=⟨_,rfl⟩;have hu:=u.2;rw [hX] at hu ⊢;have HGX:=Yd (And.intro (grown_trans HG.out.1 (grown_below hu _)) ((hu.block nb HG.out.2.2).trans HG.out.2.1));have HQM:=Yd hqm;clear hX hu hqm;go_wp2_with fail;go_roundw
      case rel =>
       refine ⟨j+1,by omega,by go_num,fun k hk hkj => ?_,HGX.out.1,HGX.out.2⟩
       by_cases hkk:k<j
       ·exact HNO.out k hk hkk
       ·obtain rfl:k=j:=by omega
        rw [HQ.out.1];exact HQM.out
      case measure=>simp only [intOf]; omega
    ·obtain rfl:j=st.out.length:=by omega
     have hjl2:¬ (st.out.length:Int)<(st.out.length:Int):=by omega
     have hjm:((st.out.length:Int) == (st.out.length:Int))=true:=by rw [beq_iff_eq]
     have HI:=Yd (idx_never (l:=st.out) (m:=m) (fun k hk=>HNO.out k hk hk));have HG:=Yd (And.intro hgy (And.intro hny hnz));clear hFy hgy hny hnz;go_upto_region 15 with fail;refine region_ext (by kernel_rfl) (by kernel_rfl) ?_
     repeat (go_big_quiet_step (fail))
     refine wpQuiet_nil ?_;intro u;obtain ⟨X,hX⟩:∃ X,u.1=X:=⟨_,rfl⟩;have hu:=u.2;rw [hX] at hu ⊢;have hgX:=grown_trans HG.out.1 (grown_below hu _);have hFX:=HFW.out X hgX;have hnX:NBlk X nb m:=(hu.block nb HG.out.2.2).trans HG.out.2.1;have HFX:=Yd hFX;have HNX:=Yd hnX;have hown:=hFX.own;have HZX:=Yd hFX.size;obtain ⟨i0,hi0,hiz0,hiz1,hiz2⟩:=info_parts nodeInfo;have y6:=HX6.out X hgX;clear hX hu hFX hnX;go_wp2_with (first
      | (refine wl_load_nd rfl (.tmp 8) rfl (.pointer (some ⟨nb,0,none⟩)) rfl m HNX.out.loadAt ?_)
      | (refine wl_bs rfl (.tmp 68) rfl m rfl ?_)
      | (at_builtin; refine wpList_append_lies _ rfl (.tmp 67) (.tmp 69) 34 rfl W6.heap.size 49 i0 _ 19 152 Tryz.underlying34 hi0 hiz0 hiz1 hiz2 rfl (by omega) (.slice ua st.out.length uc) st.out.length (ncells st.out) rfl (hown.alloc _) ⟨X.heap.size,0,none⟩ 1 1 m.cells rfl rfl (World.news_of_block (heap_at X (.cells m.cells.toArray 49) _ rfl)) (nd_one' m) (by omega) (by unfold maxLen; omega) (by omega) (by simp; have:=HZX.out; omega) _ rfl ?_; intro gz capz wz hownz hgz hatz hltz; have hFz:=HFX.out.app (m:=m) hgz hownz; have t5:=toA_cell' hFz.tos hxN; have t6:=toA_frozen' hFz.tos x; have z6:wz.cell? ⟨g6,i,none⟩=some (.int .i64 (x:Int)):=(World.cell?_of_block (a:=⟨g6,i,none⟩) ((hFz.keep g6 HG6.out.2 (by have:=HT2.out.2.1; have:=HG6.out.1; omega)).trans (HFX.out.keep g6 HG6.out.2 (by have:=HT2.out.2.1; have:=HG6.out.1; omega)).symm)).trans y6; have HFZ:=Yd hFz; clear hFz hownz hgz hatz hltz y6))
     go_roundw
     case rel =>
      refine ⟨i+1,by omega,by go_num,?_⟩;rw [HST.out,step_none HMX.out HI.out];exact HFZ.out.setTo x st.out.length hxN
     case measure=>simp only [intOf]; omega
  ·obtain rfl:i=O.length:=by omega
   have hlti:¬ (O.length:Int)<(O.length:Int):=by omega
   have ho:=(hF.own);have HB:=Yd hF.bel;have hfin:st.out=flatP l:=by rw [HFL.out,<- hst,List.take_length]
   have HO:=Yd (show wo.ownsRow w.heap.size 49 19 (.slice ua st.out.length uc) st.out.length (ncells st.out) from ho.mono (Nat.le_trans htw (Nat.le_of_lt hF.lt)));have HFIN:=Yd hfin;clear ho hF hst hfin;go_wp2_with fail;go_ret2;exact ⟨_,rfl,by rw [<- HFIN.out]; exact HO.out,HB.out⟩
end tfw

/- A float's mantissa, exponent and interval. Plain. -/
namespace prnw
open Go.RowKit
theorem and_mask (k:IntKind) (hk:k = .i64∨k = .u64) (a n:Nat) (ha:a<9223372036854775808) (hn:n <= 62):bits BinOp.and k (a:Int) ((2 ^ n-1:Nat):Int)=((a % 2 ^ n:Nat):Int):=by
 have hp:2 ^ n <= 4611686018427387904:=by
  have:=Nat.pow_le_pow_right (show 0<2 by decide) hn;simpa using this
 have hp0:0<2 ^ n:=Nat.pow_pos (by decide);obtain ⟨q,hq⟩:∃ q,q=2 ^ n:=⟨_,rfl⟩;have h2:(BitVec.ofInt 64 (a:Int)).toNat=a:=by
  rw [BitVec.toNat_ofInt];omega
 have h3:(BitVec.ofInt 64 ((2 ^ n-1:Nat):Int)).toNat=2 ^ n-1:=by
  rw [BitVec.toNat_ofInt,<- hq];rw [<- hq] at hp hp0;omega
 have hm:a % 2 ^ n<2 ^ n:=Nat.mod_lt _ hp0
 rcases hk with rfl | rfl
 ·have h:bits BinOp.and IntKind.i64 (a:Int) ((2 ^ n-1:Nat):Int)=IntKind.i64.wrap (((BitVec.ofInt 64 (a:Int) &&& BitVec.ofInt 64 ((2 ^ n-1:Nat):Int)).toNat:Nat):Int):=rfl;rw [h,BitVec.toNat_and,h2,h3,Nat.and_two_pow_sub_one_eq_mod,IntKind.wrap_i64];obtain ⟨r,hr⟩:∃ r,r=a % 2 ^ n:=⟨_,rfl⟩;rw [<- hr] at hm ⊢;rw [<- hq] at hp hm;omega
 ·have h:bits BinOp.and IntKind.u64 (a:Int) ((2 ^ n-1:Nat):Int)=IntKind.u64.wrap (((BitVec.ofInt 64 (a:Int) &&& BitVec.ofInt 64 ((2 ^ n-1:Nat):Int)).toNat:Nat):Int):=rfl;rw [h,BitVec.toNat_and,h2,h3,Nat.and_two_pow_sub_one_eq_mod,IntKind.wrap_u64];obtain ⟨r,hr⟩:∃ r,r=a % 2 ^ n:=⟨_,rfl⟩;rw [<- hr] at hm ⊢;rw [<- hq] at hp hm;omega
def ftM (X:Nat):Nat:=if X / 4503599627370496=0 then X % 4503599627370496 else X % 4503599627370496+4503599627370496
def ftE (X:Nat):Int:=if X / 4503599627370496=0 then -1022 else ((X / 4503599627370496:Nat):Int)-1023
theorem ftM_pos (X:Nat) (h:0<X):1 <= ftM X∧ftM X<9007199254740992:=by
 unfold ftM
 split
 ·omega
 ·omega
theorem bl_bd:∀ (f x:Nat),x<2 ^ f -> 0<x -> 1 <= Lib.bitLenAux f x∧Lib.bitLenAux f x <= f∧2 ^ (Lib.bitLenAux f x-1) <= x∧x<2 ^ Lib.bitLenAux f x
 | 0,x,h,h0=>by
  have:x<1:=by simpa using h
  omega
 | f+1,x,h,h0=>by
  rw [Lib.bitLenAux,if_neg (by omega)]
  by_cases h2:x / 2=0
  ·have e:x=1:=by omega
   have:Lib.bitLenAux f (x / 2)=0:=by
    rw [h2]
    cases f with
    | zero=>rfl
    | succ f=>rw [Lib.bitLenAux,if_pos rfl]
   rw [this,e];refine ⟨?_,?_,?_,?_⟩
   ·omega
   ·omega
   ·decide
   ·decide
  ·obtain ⟨a,b,c,d⟩:=bl_bd f (x / 2) (by rw [Nat.pow_succ] at h; omega) (by omega);obtain ⟨k,hk⟩:∃ k,Lib.bitLenAux f (x / 2)=k+1:=⟨Lib.bitLenAux f (x / 2)-1,by omega⟩;rw [hk] at a b c d ⊢;rw [show k+1-1=k by omega] at c;rw [Nat.pow_succ] at d;refine ⟨by omega,by omega,?_,?_⟩
   ·rw [show 1+(k+1)-1=k+1 by omega,Nat.pow_succ];omega
   ·rw [show 1+(k+1)=k+1+1 by omega,Nat.pow_succ,Nat.pow_succ];omega
theorem toNat_bits63 (s:Int) (h0:0 <= s) (h1:s <= 63):bits BinOp.and IntKind.i64 s 63=s:=by
 obtain ⟨n,rfl⟩:=Int.eq_ofNat_of_zero_le h0;have hn:n<64:=by omega
 revert hn
 revert n
 intro n _ _ hn;have h:bits BinOp.and IntKind.i64 (n:Int) 63=IntKind.i64.wrap (((BitVec.ofInt 64 (n:Int) &&& BitVec.ofInt 64 63).toNat:Nat):Int):=rfl;have h2:(BitVec.ofInt 64 (n:Int)).toNat=n:=by
  rw [BitVec.toNat_ofInt];omega
 have h3:(BitVec.ofInt 64 63).toNat=2 ^ 6-1:=by decide
 rw [h,BitVec.toNat_and,h2,h3,Nat.and_two_pow_sub_one_eq_mod,IntKind.wrap_i64];omega
end prnw
namespace fpm
open Go Go.RowKit prnw
def loQ (M:Nat) (E:Int):Nat:=if M=4503599627370496 ∧ -1074<E then 4*M-1 else 4*M-2
theorem loQ_bd (M:Nat) (E:Int):4*M-2 <= loQ M E∧loQ M E <= 4*M-1∧(M % 2=1 -> loQ M E=4*M-2):=by
 unfold loQ
 by_cases h:M=4503599627370496 ∧ -1074<E
 ·rw [if_pos h];have:=h.1;exact ⟨by omega,by omega,fun h2=>by omega⟩
 ·rw [if_neg h];exact ⟨Nat.le_refl _,by omega,fun _=>rfl⟩
def endL (X:Nat):Nat:=loQ (ftM X) (ftE X-52)*2 ^ (ftE X-52+1074).toNat
def endU (X:Nat):Nat:=(4*ftM X+2)*2 ^ (ftE X-52+1074).toNat
theorem ends_meet (X:Nat):endL (X+1)=endU X:=by
 unfold endL endU;obtain ⟨q,hq⟩:∃ q,q=X / 4503599627370496:=⟨_,rfl⟩;obtain ⟨r,hr⟩:∃ r,r=X % 4503599627370496:=⟨_,rfl⟩
 by_cases hl:r+1<4503599627370496
 ·have e1:(X+1) / 4503599627370496=q:=by omega
  have e2:(X+1) % 4503599627370496=r+1:=by omega
  have hM:ftM (X+1)=ftM X+1:=by
   unfold ftM;rw [e1,e2,<- hq,<- hr]
   split <;> omega
  have hE:ftE (X+1)=ftE X:=by
   unfold ftE;rw [e1,<- hq]
  have hM0:ftM X+1≠4503599627370496 ∨ ¬ -1074<ftE X-52:=by
   unfold ftM ftE;rw [<- hq,<- hr]
   split <;> omega
  rw [hM,hE];congr 1;unfold loQ;rw [if_neg (by omega)];omega
 ·have e1:(X+1) / 4503599627370496=q+1:=by omega
  have e2:(X+1) % 4503599627370496=0:=by omega
  have hM:ftM (X+1)=4503599627370496:=by
   unfold ftM;rw [e1,e2,if_neg (by omega)]
  have hE:ftE (X+1)=(q:Int)-1022:=by
   unfold ftE;rw [e1,if_neg (by omega)];omega
  rw [hM,hE]
  by_cases h0:q=0
  ·have hM2:ftM X=4503599627370495:=by
    unfold ftM;rw [<- hq,<- hr,if_pos h0];omega
   have hE2:ftE X = -1022:=by unfold ftE; rw [<- hq,if_pos h0]
   rw [hM2,hE2,h0];decide
  ·have hM2:ftM X=9007199254740991:=by
    unfold ftM;rw [<- hq,<- hr,if_neg h0];omega
   have hE2:ftE X=(q:Int)-1023:=by unfold ftE; rw [<- hq,if_neg h0]
   rw [hM2,hE2];unfold loQ;rw [if_pos ⟨rfl,by omega⟩,show ((q:Int)-1022-52+1074).toNat=q-1+1 by omega,show ((q:Int)-1023-52+1074).toNat=q-1 by omega,Nat.pow_succ];generalize 2 ^ (q-1)=t;omega
theorem ends_lt (X:Nat) (h:0<X):endL X<endU X:=by
 unfold endL endU;refine (Nat.mul_lt_mul_right (Nat.two_pow_pos _)).2 ?_;have:=loQ_bd (ftM X) (ftE X-52);have:=ftM_pos X h;omega
theorem ends_mono (X:Nat) (h:0<X):∀ n,endL X+n <= endL (X+n)
 | 0=>Nat.le_refl _
 | n+1=>by
  have h1:=ends_mono X h n;have h2:=ends_lt (X+n) (by omega);rw [<- Nat.add_assoc X,ends_meet (X+n)];omega
theorem ftM_odd (X:Nat):ftM X % 2=X % 2:=by
 unfold ftM
 split <;> omega
end fpm
end Go.Proofs.YtcbgkbidgpemfaaGreatDoor
