/- The walks of burnishref18.Node at any kind, and of burnishref18.Right. Conditions: the nodes' numbers are of 64 bits; they lie in memory, within the reach. -/
import Derived.Test.YtcbgkbidgpemfaaGreatDoorMf00
import Derived.Test.YtcbgkbidgpemfaaGreatDoorMf11
import Derived.Test.YtcbgkbidgpemfaaGreatDoorMf02
import Derived.Test.YtcbgkbidgpemfaaGreatDoorMf10
import Derived.Test.YtcbgkbidgpemfaaGreatDoorMf01
import Derived.Laws.StructEq
import Derived.ChangeKeysEq
import Derived.MapKept
import Derived.Carry
import Derived.StillTailTactics
import Derived.Deep.WholeRow
import Derived.Deep.DeepCutAuto
namespace Go.Proofs.YtcbgkbidgpemfaaGreatDoor
set_option maxRecDepth 100000
set_option maxHeartbeats 4000000
namespace chkw
open Go.RowKit
open lexw
open parw
open nodew
open qt
theorem refnode_any (n:Nd) (hn:n.ok) (at_:Int) (w:World):Calls Tryz.prog 51 #[n.val,.int .i64 at_] w fun e w'=>e = .returned (.bool (nodeOk n at_))∧Below w.heap.size w w':=by
 by_cases h16:1 <= n.kind∧n.kind <= 6
 ·have:n.kind=1∨n.kind=2∨n.kind=3∨n.kind=4∨n.kind=5∨n.kind=6:=by omega
  rcases this with h | h | h | h | h | h
  ·exact refnode_k1 n hn h at_ w
  ·exact refnode_k2 n hn h at_ w
  ·exact refnode_k3 n hn h at_ w
  ·exact refnode_k4 n hn h at_ w
  ·exact refnode_k5 n hn h at_ w
  ·exact refnode_k6 n hn h at_ w
 ·have hno:nodeOk n at_=false:=by
   rw [Bool.eq_false_iff];intro h;have:=kinds_six n.kind ((nodeOk_iff n hn.1 at_).1 h).2.2.2.1;simp at this;omega
  have e1:((n.kind:Int) == 1)=false:=Yf (by omega)
  have e2:((n.kind:Int) == 2)=false:=Yf (by omega)
  have e3:((n.kind:Int) == 3)=false:=Yf (by omega)
  have e4:((n.kind:Int) == 4)=false:=Yf (by omega)
  have e5:((n.kind:Int) == 5)=false:=Yf (by omega)
  have e6:((n.kind:Int) == 6)=false:=Yf (by omega)
  have HN:=Yd hno;have HK:=Yd h16;clear hno h16;go_enter Tryz.func51,Tryz.ntmps51;go_upto_region 0 with (fail);refine wp_region_lit ?_;refine wl_val rfl _ (exec_box (.tmp 0) rfl _ _ n rfl) ?_;have hbx:=(Below.refl w.heap.size w).alloc (Nat.le_refl _) (.cells n.cells.toArray 49);have hnb:NBlk (w.alloc (.cells n.cells.toArray 49)) w.heap.size n:=heap_alloc_new w _;obtain ⟨W,hW⟩:∃ W,W=w.alloc (.cells n.cells.toArray 49):=⟨_,rfl⟩;rw [<- hW] at hbx hnb ⊢;clear hW;obtain ⟨nb,hnbe⟩:∃ nb,nb=w.heap.size:=⟨_,rfl⟩;rw [<- hnbe] at hnb ⊢;clear hnbe;have x0:W.cell? ⟨nb,0,none⟩=some (.int .u8 n.kind):=(hnb.cell 0).trans rfl;have HB0:=Yd hbx;clear hbx hnb;obtain ⟨kk,hkk⟩:∃ kk,n.kind=kk:=⟨_,rfl⟩;have HK:=HK.out;rw [hkk] at x0 e1 e2 e3 e4 e5 e6 HK
  by_cases h0:kk=0
  ·subst h0;clear e1 e2 e3 e4 e5 e6 HK;go_wp2_with fail;go_ret;exact ⟨nodew.ret_bool (by rw [HN.out]),HB0.out⟩
  ·have h7:(6:Int)<(kk:Int):=by omega
   have h1:¬ (kk:Int)<1:=by omega
   clear h0 HK hkk;go_wp2_with fail;go_ret;exact ⟨nodew.ret_bool (by rw [HN.out]),HB0.out⟩
theorem refright_any (B:Nat) (v:Value) (l:List Nd) (hok:∀ n∈l,n.ok) (hl:l.length <= 1000000000000) (w:World) (hr:NRead w B v l) (_hB:B <= w.heap.size) :
  Calls Tryz.prog 39 #[v] w fun e w'=>e = .returned (.bool (rightP l))∧Below w.heap.size w w':=by
 obtain ⟨A,c,rfl,hx⟩:=hr;go_enter Tryz.func39,Tryz.ntmps39;go_wp2_with fail
 go_loopw [3] (fun i wr=>∃ k:Nat,k <= l.length∧i = .int .i64 k∧Below w.heap.size w wr ∧ ∀ j (hj:j<l.length),j<k -> nodeOk l[j] j=true) (fun i _=>l.length-(intOf i).toNat)
 case atStart=>exact ⟨0,Nat.zero_le _,rfl,Below.refl _ _,fun _ _ h=>by omega⟩
 case round =>
  obtain ⟨k,hk,rfl,hBr,hall⟩:=hrel;have hz:=hBr.size
  by_cases hkl:k<l.length
  ·obtain ⟨g,off,rfl,hgB,hgl,hcell⟩:=hx (by intro e; subst e; simp at hkl);obtain ⟨n,hn⟩:∃ n,l[k]=n:=⟨_,rfl⟩;have hno:n.ok:=hok n (by rw [<- hn]; exact List.getElem_mem hkl);have hrg:wr.rangeAt g (off+k*19) n.cells:=fun j u hu=>by
    have hj:j<19:=by have:=(List.getElem?_eq_some_iff.1 hu).1; rwa [nd_cells_len] at this
    rw [Nat.add_assoc];exact (World.cell?_of_block (a:=⟨g,off+(k*19+j),none⟩) (hBr.block g hgl)).trans (hcell (k*19+j) u (by rw [ncells_get l k j hkl hj,hn]; exact hu))
   have HA:=Yd hall;have HN:=Yd hn;have HR:=Yd hrg;have hk0:(0:Int) <= (k:Int):=by omega
   have hkl':(k:Int)<(l.length:Int):=by omega
   have hq:=refnode_any n hno k wr;obtain ⟨q,hqe⟩:∃ q,nodeOk n k=q:=⟨_,rfl⟩;rw [hqe] at hq;have HC:=Yd hq;have HQ:=Yd hqe;clear hall hno hn hcell hrg hq hqe
   cases q with
   | true =>
    go_wp2_with (refine wpList_load_mid rfl 49 (.tmp 12) rfl g (off+k*19) rfl n.cells _ HR.out Tryz.underlying49 rfl (by kernel_rfl) ?_);refine HC.out.mono ?_;rintro e wy ⟨rfl,hBy⟩;have hBz:=hBr.trans (hBy.mono hz);have HBZ:=Yd hBz;clear hBz hBy hBr;go_wp2_with fail;go_roundw
    case rel =>
     refine ⟨k+1,by omega,by go_num,HBZ.out,fun j hj hjk => ?_⟩
     by_cases e:j=k
     ·subst e; rw [HN.out]; exact HQ.out
     ·exact HA.out j hj (by omega)
    case measure=>simp [intOf]; omega
   | false =>
    have hbad:rightP l=false:=rightP_bad hkl (by rw [HN.out]; exact HQ.out);have HB:=Yd hbad;clear hbad;go_wp2_with (refine wpList_load_mid rfl 49 (.tmp 12) rfl g (off+k*19) rfl n.cells _ HR.out Tryz.underlying49 rfl (by kernel_rfl) ?_);refine HC.out.mono ?_;rintro e wy ⟨rfl,hBy⟩;have hBz:=hBr.trans (hBy.mono hz);have HBZ:=Yd hBz;clear hBz hBy hBr;go_wp2_with fail;go_ret;exact ⟨nodew.ret_bool HB.out.symm,HBZ.out⟩
  ·obtain rfl:k=l.length:=by omega
   have hg:=rightP_good fun j hj=>hall j hj hj;have HG:=Yd hg;clear hg hall;go_wp2_with fail
   all_goals go_ret
   all_goals refine ⟨nodew.ret_bool ?_,hBr⟩
   all_goals rw [HG.out]
   all_goals by_cases h1:0<l.length
   all_goals by_cases h2:l.length <= 4096
   all_goals simp [h1,h2]
   all_goals omega
end chkw

/- burnishref20: the walks of way and Used. Conditions: as each theorem states. -/
namespace tfw
open Go.RowKit
open nodew
open chkw
open flatm
open flatw
open rg
theorem way_facts (p:Nat -> Nd) (n:Nat) (hac:∀ x,x<n -> ∀ c∈kids (p x),c<x):∀ (f x:Nat) (l:List Nat),x<n -> l.Nodup -> (∀ y∈l,y<n) ->
  (wayF p f x l).Nodup∧(∀ y∈wayF p f x l,y∈l∨y <= x)
 | 0,x,l,_,hd,_=>⟨hd,fun y hy => .inl hy⟩
 | f+1,x,l,hx,hd,hn=>by
  unfold wayF
  by_cases hm:x∈l
  ·rw [if_pos hm];exact ⟨hd,fun y hy => .inl hy⟩
  ·rw [if_neg hm];have key:∀ (L:List Nat),(∀ c∈L,c<x) -> ∀ l1:List Nat,l1.Nodup -> (∀ y∈l1,y<n) -> x ∉ l1 ->
     (L.foldl (fun l c=>wayF p f c l) l1).Nodup∧(∀ y∈L.foldl (fun l c=>wayF p f c l) l1,y∈l1∨y<x)∧x ∉ L.foldl (fun l c=>wayF p f c l) l1:=by
    intro L
    induction L with
    | nil=>exact fun _ l1 h1 _ h3=>⟨h1,fun y hy => .inl hy,h3⟩
    | cons c r ih =>
     intro hL l1 h1 h2 h3;have hc:=hL c (by simp);obtain ⟨g1,g2⟩:=way_facts p n hac f c l1 (by omega) h1 h2;have g3:x ∉ wayF p f c l1:=fun h=>by
      rcases g2 x h with h | h
      ·exact h3 h
      ·omega
     obtain ⟨i1,i2,i3⟩:=ih (fun d hd=>hL d (by simp [hd])) (wayF p f c l1) g1 (fun y hy=>by
      rcases g2 y hy with h | h
      ·exact h2 y h
      ·omega) g3
     refine ⟨i1,fun y hy => ?_,i3⟩
     rcases i2 y hy with h | h
     ·rcases g2 y h with h | h
      ·exact .inl h
      ·exact .inr (by omega)
     ·exact .inr h
   obtain ⟨k1,k2,k3⟩:=key (kids (p x)) (hac x hx) l hd hn hm;refine ⟨?_,fun y hy => ?_⟩
   ·rw [List.nodup_append];exact ⟨k1,by simp,fun a ha b hb=>by rw [List.mem_singleton.1 hb]; intro e; rw [e] at ha; exact k3 ha⟩
   ·rcases List.mem_append.1 hy with hy | hy
    ·rcases k2 y hy with h | h
     ·exact .inl h
     ·exact .inr (by omega)
    ·rw [List.mem_singleton.1 hy];exact .inr (Nat.le_refl _)
theorem way_len (p:Nat -> Nd) (n:Nat) (hac:∀ x,x<n -> ∀ c∈kids (p x),c<x) (f x:Nat) (l:List Nat) (hx:x<n) (hd:l.Nodup) (hn:∀ y∈l,y<n):(wayF p f x l).Nodup∧(∀ y∈wayF p f x l,y<n)∧(wayF p f x l).length <= n:=by
 obtain ⟨h1,h2⟩:=way_facts p n hac f x l hx hd hn;have h3:∀ y∈wayF p f x l,y<n:=fun y hy=>by
  rcases h2 y hy with h | h
  ·exact hn y h
  ·omega
 exact ⟨h1,h3,nodup_lt n _ h1 h3⟩
theorem nd_at {W:World} {B:Nat} {A:Option Addr} {n c:Nat} {l:List Nd} (h:NArg W B (.slice A n c) l) (_hok:∀ x∈l,x.ok) {k:Nat} (hk:k<l.length) :
  ∃ g off,A=some ⟨g,off,none⟩∧g<B∧g<W.heap.size∧W.cell? ⟨g,off+k*19,none⟩=some (.int .u8 ((nth l k).kind:Nat))∧W.cell? ⟨g,off+k*19+17,none⟩=some (.int .i64 (nth l k).a)∧W.cell? ⟨g,off+k*19+18,none⟩=some (.int .i64 (nth l k).b):=by
 obtain ⟨A',c',hv,_,_,hx⟩:=h;injection hv with e1 e2 e3;subst e1;obtain ⟨g,off,hA,hgB,hg,hx⟩:=hx (by intro e; rw [e] at hk; simp at hk);have hn:nth l k=l[k]:=nth_eq l k _ (List.getElem?_eq_getElem hk);have key:∀ j u,(nth l k).cells[j]? = some u -> W.cell? ⟨g,off+(k*19+j),none⟩=some u:=fun j u hu=>hx (k*19+j) u (by
  have e:ncells l=ncells (l.take k) ++ ((nth l k).cells ++ ncells (l.drop (k+1))):=by
   conv=>lhs; rw [<- List.take_append_drop k l]
   rw [ncells_app,List.drop_eq_getElem_cons hk,hn];rfl
  have hlen:(ncells (l.take k)).length=k*19:=by rw [ncells_len,List.length_take,Nat.min_eq_left (by omega)]
  rw [e,List.getElem?_append_right (by omega),hlen,Nat.add_sub_cancel_left,List.getElem?_append_left (List.getElem?_eq_some_iff.1 hu).1];exact hu)
 refine ⟨g,off,hA,hgB,hg,?_,?_,?_⟩
 ·have:=key 0 _ rfl;rw [Nat.add_zero] at this;exact this
 ·rw [Nat.add_assoc];exact key 17 _ rfl
 ·rw [Nat.add_assoc];exact key 18 _ rfl
theorem ints_at {W:World} {base:Nat} {o:Value} {l:List Nat} (h:W.ownsRow base 3 1 o l.length (intsV l)) {i:Nat} (hi:i<l.length):∃ g cap,o = .slice (some ⟨g,0,none⟩) l.length cap∧W.cell? ⟨g,i,none⟩=some (.int .i64 ((l[i]:Nat):Int)):=by
 obtain ⟨g,cap,hv,_,_⟩:=h.form (by omega);refine ⟨g,cap,hv,?_⟩;subst hv;have hc:=h.cells (g:=g) rfl i (.int .i64 ((l[i]:Nat):Int)) (by simp [intsV,hi]);have hadd:(⟨g,0,none⟩:Addr).add i=⟨g,i,none⟩:=by unfold Addr.add; split <;> simp_all
 rw [hadd] at hc;exact hc
theorem kind_le {l:List Nd} (hr:rightP l=true) (x:Nat) (hx:x<l.length):(nth l x).kind <= 6:=by
 obtain ⟨-,-,-,h4,-⟩:=nodeOk_parts ((right_nodes hr).1 x hx);refine Nat.le_of_not_lt fun h => ?_;have:(fieldList (nth l x).kind).length=0:=by
  unfold fieldList
  repeat' split
  all_goals first | omega | rfl
 omega
def WayPost (base:Nat) (w:World) (l:List Nat) (e:Ending) (w':World):Prop:=∃ o,e = .returned o∧w'.ownsRow base 3 1 o l.length (intsV l)∧Below base w w'
theorem narg_base {w w':World} {base:Nat} {v:Value} {l:List Nd} (h:NArg w base v l) (hb:Below base w w'):NArg w' base v l:=h.keep hb.size fun g hg _=>hb.block g hg
theorem way_any (l:List Nd) (hok:∀ n∈l,n.ok) (hr:rightP l=true) (base:Nat) (A:Option Addr) (c:Nat):∀ (f x:Nat),x<f -> x<l.length -> ∀ (met:List Nat) (o:Value) (W:World),met.Nodup -> (∀ y∈met,y<l.length) ->
  W.ownsRow base 3 1 o met.length (intsV met) -> NArg W base (.slice A l.length c) l -> base <= W.heap.size ->
  Calls Tryz.prog 45 #[.slice A l.length c,.int .i64 x,o] W (WayPost base W (wayF (nth l) f x met)):=by
 intro f
 induction f with
 | zero=>intro x hx; omega
 | succ f ih =>
  intro x hxf hxl met o W hmd hml hown hn hbase;obtain ⟨i0,hi0,hz0,hz1,hz2⟩:=info_parts intInfo;obtain ⟨_,hl0,hl4⟩:=right_nodes hr;have hac:=right_ac hr;have hkI:=kidsI_right hr x hxl;obtain ⟨g,off,rfl,hgB,hgl,q0,q17,q18⟩:=nd_at hn hok hxl;have hmlen:=nodup_lt l.length met hmd hml;have HIH:=Yd ih;have HRI:=Yd hr;have HOWN:=Yd hown;have HAC:=Yd (And.intro hac (And.intro hmd hml));have HNA:=Yd hn;obtain ⟨ma,mc,ho⟩:∃ a k,o = .slice a met.length k:=by
   rcases hown.2 with ⟨rfl,h0⟩ | ⟨g,cap,_,rfl,_⟩
   ·exact ⟨none,0,by rw [h0]⟩
   ·exact ⟨_,_,rfl⟩
  subst ho;obtain ⟨M,hM⟩:∃ M,met.length=M:=⟨_,rfl⟩;have HM:=Yd hM;rw [hM] at hmlen;obtain ⟨R,hR⟩:∃ R,wayF (nth l) (f+1) x met=R:=⟨_,rfl⟩;have HR:=Yd hR;rw [hR];rw [hM];clear hn hown ih hac hmd hml hM hR hr;have hMi:(M:Int) <= 4096:=by omega
  have hNi:(l.length:Int) <= 4096:=by omega
  have hxi:(x:Int)<(l.length:Int):=by omega
  go_enter Tryz.func45,Tryz.ntmps45;go_wp2_with fail
  go_loopw [7] (fun s7 wr=>∃ i:Nat,i <= M∧s7 = .int .i64 i∧(∀ j (h:j<met.length),j<i -> met[j]≠x)∧wr=W) (fun s7 _=>M-(intOf s7).toNat)
  case atStart=>exact ⟨0,Nat.zero_le _,rfl,fun j _ h=>absurd h (Nat.not_lt_zero _),rfl⟩
  case round =>
   obtain ⟨i,hi,rfl,hno,hwr⟩:=hrel;obtain rfl:=hwr.symm;have HNO:=Yd hno;clear hno;have hii:(i:Int) <= (M:Int):=by omega
   by_cases hlt:i<M
   ·have him:i<met.length:=by rw [HM.out]; exact hlt
    have hown:=HOWN.out;obtain ⟨g',cap',hv,hc⟩:=ints_at hown him;injection hv with e1 e2 e3;subst e1;obtain ⟨y,hy⟩:∃ y,met[i]=y:=⟨_,rfl⟩;rw [hy] at hc;have hlti:(i:Int)<(M:Int):=by omega
    have HY:=Yd hy;clear hown hy e2 e3
    by_cases hyx:y=x
    ·have hR:R=met:=by
      rw [<- HR.out];unfold wayF;rw [if_pos (by rw [<- hyx,<- HY.out]; exact List.getElem_mem him)]
     have a1:((y:Int) == (x:Int))=true:=Yt (by omega)
     have HRR:=Yd hR;clear hR hyx;go_wp2_with fail;go_ret;refine ⟨_,rfl,?_,Below.refl _ _⟩;rw [HRR.out,HM.out];have:=HOWN.out;rw [HM.out] at this;exact this
    ·have a1:((y:Int) == (x:Int))=false:=Yf (by omega)
     have HYX:=Yd hyx;clear hyx;go_wp2_with fail;refine ⟨⟨i+1,by omega,by go_num,fun j hj hji => ?_,by first | trivial | rfl⟩,by simp only [intOf]; omega⟩
     by_cases hjj:j<i
     ·exact HNO.out j hj hjj
     ·obtain rfl:j=i:=by omega
      rw [HY.out];exact HYX.out
   have hlti:¬ (i:Int)<(M:Int):=by omega
   have hnm:x ∉ met:=fun h=>by
    obtain ⟨j,hj,he⟩:=List.getElem_of_mem h;exact HNO.out j hj (by have:=HM.out; omega) he
   have hstep:R=(kids (nth l x)).foldl (fun l' c=>wayF (nth l) f c l') met ++ [x]:=by
    rw [<- HR.out]
    conv=>lhs; unfold wayF
    rw [if_neg hnm]
   have hown:=HOWN.out;rw [HM.out] at hown;clear hnm HR HOWN HNO hlt;obtain ⟨K,hK⟩:∃ K,(nth l x).kind=K:=⟨_,rfl⟩;rw [hK] at q0
   by_cases h5:K=5
   ·obtain ⟨c1,c2,hc1,hc2,hks⟩:∃ c1 c2:Nat,(nth l x).a=(c1:Int)∧(nth l x).b=(c2:Int)∧kids (nth l x)=[c1,c2]:=by
     unfold kidsI kids at hkI;rw [hK,if_pos h5,if_pos h5] at hkI;simp only [List.map_cons,List.map_nil,List.cons.injEq,and_true] at hkI;exact ⟨_,_,hkI.1,hkI.2,by unfold kids; rw [hK,if_pos h5]⟩
    have hl1:=HAC.out.1 x (hxl) c1 (by rw [hks]; simp);have hl2:=HAC.out.1 x (hxl) c2 (by rw [hks]; simp);rw [hks] at hstep;rw [hc1] at q17;rw [hc2] at q18;obtain ⟨d1,d2,d3⟩:=way_len (nth l) l.length HAC.out.1 f c1 met (by omega) HAC.out.2.1 HAC.out.2.2;obtain ⟨g1,g2,g3⟩:=way_len (nth l) l.length HAC.out.1 f c2 _ (by omega) d1 d2;have CP1:=HIH.out c1 (by omega) (by omega) met (.slice ma M mc) W HAC.out.2.1 HAC.out.2.2 (by rw [HM.out]; exact hown) HNA.out hbase;have CP2:=HIH.out c2 (by omega) (by omega) (wayF (nth l) f c1 met);obtain ⟨m1,hm1⟩:∃ m1,wayF (nth l) f c1 met=m1:=⟨_,rfl⟩;rw [hm1] at CP1 CP2 d1 d2 d3 g1 g2 g3;obtain ⟨m2,hm2⟩:∃ m2,wayF (nth l) f c2 m1=m2:=⟨_,rfl⟩;rw [hm2] at CP2 g1 g2 g3;have hR:R=m2 ++ [x]:=by
     rw [hstep,<- hm2,<- hm1];rfl
    have HRR:=Yd hR;have HC1:=Yd CP1;have HC2:=Yd (fun o W h=>CP2 o W d1 d2 h);obtain ⟨L2,hL2⟩:∃ L2,m2.length=L2:=⟨_,rfl⟩;have HL2:=Yd hL2;rw [hL2] at g3;have a1:(5:Int) <= (K:Int):=by omega
    have a2:((K:Int) == 5)=true:=Yt (by omega)
    clear hc1 hc2 hks hstep hm1 hm2 hR CP1 CP2 HIH d1 d2 d3 g1 g2 hkI hK hL2 hown;go_upto_region 8 with (go_at_call 45; (with_reducible refine HC1.out.mono ?_); rintro e w1 ⟨o1,rfl,ho1,b1⟩);have r0:=(b1.cell (p:=⟨g,off+x*19,none⟩) hgB).trans q0;have r18:=(b1.cell (p:=⟨g,off+x*19+18,none⟩) hgB).trans q18;have HC3:=Yd (HC2.out o1 w1 ho1 (narg_base HNA.out b1) (Nat.le_trans hbase b1.size));have HB1:=Yd b1;clear q0 q17 q18 ho1 b1 HC1 HC2;go_upto_region 10 with (go_at_call 45; (with_reducible refine HC3.out.mono ?_); rintro e w2 ⟨o2,rfl,ho2,b2⟩);have hz2':=Nat.le_trans (Nat.le_trans hbase HB1.out.size) b2.size;have hb2:=HB1.out.trans b2;rw [HL2.out] at ho2;have HO2:=Yd ho2;have HB2:=Yd hb2;clear b2 hb2 HB1 r0 r18 HC3;go_wp2_with (at_builtin; refine wpList_append_own _ rfl _ _ 42 rfl base 3 i0 _ 1 8 Tryz.underlying42 hi0 hz0 hz1 hz2 rfl (by decide) _ _ _ rfl (ho2.alloc _) ⟨w2.heap.size,0,none⟩ 1 1 [.int .i64 (x:Int)] rfl rfl (cells_one _ _ _) (by simp [Value.oneCell']) (by unfold maxLen; omega) (by omega) (by simp; omega) ?_; intro v' wz hownz hgz _; have HOZ:=Yd hownz; have HGZ:=Yd hgz; clear hownz hgz);go_ret;refine ⟨v',rfl,?_,(HB2.out.alloc hz2' _).grown HGZ.out (by simp; omega) (fun r e=>(HO2.out.lt r e).1)⟩;rw [HRR.out,List.length_append,List.length_singleton,intsV_snoc,HL2.out];exact HOZ.out
   have a5:((K:Int) == 5)=false:=Yf (by omega)
   by_cases h6:K=6
   ·obtain ⟨c1,hc1,hks⟩:∃ c1:Nat,(nth l x).a=(c1:Int)∧kids (nth l x)=[c1]:=by
     unfold kidsI kids at hkI;rw [hK,if_neg h5,if_pos h6,if_neg h5,if_pos h6] at hkI;simp only [List.map_cons,List.map_nil,List.cons.injEq,and_true] at hkI;exact ⟨_,hkI,by unfold kids; rw [hK,if_neg h5,if_pos h6]⟩
    have hl1:=HAC.out.1 x (hxl) c1 (by rw [hks]; simp);rw [hks] at hstep;rw [hc1] at q17;obtain ⟨d1,d2,d3⟩:=way_len (nth l) l.length HAC.out.1 f c1 met (by omega) HAC.out.2.1 HAC.out.2.2;have CP1:=HIH.out c1 (by omega) (by omega) met (.slice ma M mc) W HAC.out.2.1 HAC.out.2.2 (by rw [HM.out]; exact hown) HNA.out hbase;obtain ⟨m2,hm2⟩:∃ m2,wayF (nth l) f c1 met=m2:=⟨_,rfl⟩;rw [hm2] at CP1 d1 d2 d3;have hR:R=m2 ++ [x]:=by
     rw [hstep,<- hm2];rfl
    have HRR:=Yd hR;have HC1:=Yd CP1;obtain ⟨L2,hL2⟩:∃ L2,m2.length=L2:=⟨_,rfl⟩;have HL2:=Yd hL2;rw [hL2] at d3;have a1:(5:Int) <= (K:Int):=by omega
    clear hc1 hks hstep hm2 hR CP1 HIH d1 d2 hkI hK hL2 hown;go_upto_region 8 with (go_at_call 45; (with_reducible refine HC1.out.mono ?_); rintro e w2 ⟨o2,rfl,ho2,b2⟩);have r0:=(b2.cell (p:=⟨g,off+x*19,none⟩) hgB).trans q0;have hz2':=Nat.le_trans hbase b2.size;rw [HL2.out] at ho2;have HO2:=Yd ho2;have HB2:=Yd b2;clear b2 q0 q17 q18 HC1;go_wp2_with (at_builtin; refine wpList_append_own _ rfl _ _ 42 rfl base 3 i0 _ 1 8 Tryz.underlying42 hi0 hz0 hz1 hz2 rfl (by decide) _ _ _ rfl (ho2.alloc _) ⟨w2.heap.size,0,none⟩ 1 1 [.int .i64 (x:Int)] rfl rfl (cells_one _ _ _) (by simp [Value.oneCell']) (by unfold maxLen; omega) (by omega) (by simp; omega) ?_; intro v' wz hownz hgz _; have HOZ:=Yd hownz; have HGZ:=Yd hgz; clear hownz hgz);go_ret;refine ⟨v',rfl,?_,(HB2.out.alloc hz2' _).grown HGZ.out (by simp; omega) (fun r e=>(HO2.out.lt r e).1)⟩;rw [HRR.out,List.length_append,List.length_singleton,intsV_snoc,HL2.out];exact HOZ.out
   ·have hks:kids (nth l x)=[]:=by unfold kids; rw [hK,if_neg h5,if_neg h6]
    have hk4:K <= 4:=by
     have:=kind_le HRI.out x (hxl);rw [hK] at this;omega
    rw [hks] at hstep;have HRR:=Yd (show R=met ++ [x] from hstep);have a1:¬ (5:Int) <= (K:Int):=by omega
    have HO2:=Yd hown;clear hks hstep hkI hK h5 h6 HIH;go_wp2_with (at_builtin; refine wpList_append_own _ rfl _ _ 42 rfl base 3 i0 _ 1 8 Tryz.underlying42 hi0 hz0 hz1 hz2 rfl (by decide) _ _ _ rfl (hown.alloc _) ⟨W.heap.size,0,none⟩ 1 1 [.int .i64 (x:Int)] rfl rfl (cells_one _ _ _) (by simp [Value.oneCell']) (by unfold maxLen; omega) (by omega) (by simp; omega) ?_; intro v' wz hownz hgz _; have HOZ:=Yd hownz; have HGZ:=Yd hgz; clear hownz hgz);go_ret;refine ⟨v',rfl,?_,((Below.refl base W).alloc hbase _).grown HGZ.out (by simp; omega) (fun r e=>(HO2.out.lt r e).1)⟩;rw [HRR.out,List.length_append,List.length_singleton,intsV_snoc,HM.out];exact HOZ.out
end tfw

/- Two right numbers are equal just where their bits are. Condition: neither is a NaN, an infinity or minus 0. -/
namespace flatm
open nodew
theorem fo_inj {x y:Nat} (hx:x<18446744073709551616) (hy:y<18446744073709551616) (fx:x % 9223372036854775808<9218868437227405312) (fy:y % 9223372036854775808<9218868437227405312) (nx:x≠9223372036854775808) (ny:y≠9223372036854775808) (h:fo x y=some .eq):x=y:=by
 obtain ⟨m,a,e1,v1⟩:=read_num x fx;obtain ⟨n,b,e2,v2⟩:=read_num y fy;have h':Ieee.Datum.order (Ieee.Format.read Ieee.double x) (Ieee.Format.read Ieee.double y)=some .eq:=h;rw [e1,e2] at h';obtain ⟨h1,h2⟩:=order_scale h';rw [v1,v2] at h1;have hr:=val_inj h1;rw [v1] at h2
 rcases h2 with h2 | h2
 ·have:(x / 9223372036854775808 % 2=1)↔(y / 9223372036854775808 % 2=1):=by
   rw [<- beq_iff_eq,<- beq_iff_eq (a:=y / 9223372036854775808 % 2),h2]
  omega
 ·have h0:x % 9223372036854775808=0:=val_inj (h2.trans (val_low (by decide)).symm);omega
theorem fo_self {x:Nat} (fx:x % 9223372036854775808<9218868437227405312):fo x x=some .eq:=by
 obtain ⟨m,a,e1,_⟩:=read_num x fx;show Ieee.Datum.order (Ieee.Format.read Ieee.double x) (Ieee.Format.read Ieee.double x)=some .eq;rw [e1];unfold Ieee.Datum.order;simp only [Option.some.injEq];exact Std.ReflCmp.compare_self
theorem right_word {x:Nat} (hx:x<18446744073709551616) (h:rightF x=true):x % 9223372036854775808<9218868437227405312∧x≠9223372036854775808:=by
 have h63:rightF 9223372036854775808=false:=by kernel_rfl
 have hi1:rightF 9218868437227405312=false:=by kernel_rfl
 have hi2:rightF 18442240474082181120=false:=by kernel_rfl
 have hne:x≠9223372036854775808:=fun e=>by rw [e,h63] at h; cases h
 refine ⟨?_,hne⟩;apply Nat.lt_of_not_le;intro hge
 by_cases he:x % 9223372036854775808=9218868437227405312
 ·have:x=9218868437227405312∨x=18442240474082181120:=by omega
  rcases this with e | e
  ·rw [e,hi1] at h; cases h
  ·rw [e,hi2] at h; cases h
 ·have hw:Ieee.double.signWeight=9223372036854775808:=by kernel_rfl
  have hb:Ieee.double.binade=4503599627370496:=by kernel_rfl
  have hi:Ieee.double.infRung=9218868437227405312:=by kernel_rfl
  have hr:∃ s f,Ieee.Format.read Ieee.double x = .nan s f:=by
   unfold Ieee.Format.read;simp only [hw,hb,hi];rw [if_neg (by omega),if_neg (by omega),if_neg he];exact ⟨_,_,rfl⟩
  obtain ⟨s,f,hr⟩:=hr;have hn:nanF x=true:=by
   unfold nanF;show (Ieee.Datum.order (Ieee.Format.read Ieee.double x) (Ieee.Format.read Ieee.double x) != some .eq)=true;rw [hr];rfl
  unfold rightF at h;rw [hn] at h
  cases h
theorem fo_right {x y:Nat} (hx:x<18446744073709551616) (hy:y<18446744073709551616) (rx:rightF x=true) (ry:rightF y=true):(fo x y == some .eq)=decide (x=y):=by
 obtain ⟨fx,nx⟩:=right_word hx rx;obtain ⟨fy,ny⟩:=right_word hy ry
 by_cases e:x=y
 ·subst e;rw [fo_self fx,decide_eq_true rfl];rfl
 ·rw [decide_eq_false e,beq_eq_false_iff_ne];exact fun h=>e (fo_inj hx hy fx fy nx ny h)
end flatm

/- What '==' says of two nodes whose numbers are right ones. No conditions but those stated. -/
namespace flatm
open Go.RowKit
open nodew
theorem hsNode : Tryz.prog.stoodInHeld 49 = false:=by kernel_rfl
theorem guardNode : Tryz.prog.eqGuardType Tryz.prog.depth 49 = false:=by kernel_rfl
theorem eq_float (d:Nat) (x y:Nat) (w:World):(Op.equalIn (d+1) 46 (.float .f64 x) (.float .f64 y)).run Tryz.prog w = .ok (fo x y == some .eq) w:=by
 simp only [Op.equalIn,Sem.run_bind,run_underlying Tryz.underlying46,Result.andThen_ok,if_true,Sem.run_pure];rfl
theorem agg_f64 (w:World):(isAgg 46).run Tryz.prog w = .ok false w:=by kernel_rfl
theorem agg_int (w:World):(isAgg 3).run Tryz.prog w = .ok false w:=by kernel_rfl
theorem agg_u8 (w:World):(isAgg 5).run Tryz.prog w = .ok false w:=by kernel_rfl
def eq3 (a b c x y z:Nat):Bool:=(fo a x == some .eq) && ((fo b y == some .eq) && (fo c z == some .eq))
theorem eq_arr (d:Nat) (a b c x y z:Nat) (w:World):(Op.equalIn (d+2) 47 (.agg #[.float .f64 a,.float .f64 b,.float .f64 c]) (.agg #[.float .f64 x,.float .f64 y,.float .f64 z])).run Tryz.prog w = .ok (eq3 a b c x y z) w:=by
 obtain ⟨i,hi⟩:∃ i,Tryz.prog.info? 46 = some i:=Option.isSome_iff_exists.1 (by kernel_rfl);rw [run_equalIn_array w (d+1) _ _ Tryz.underlying47 hi];have hc : Tryz.prog.cellsOf 46 = 1:=by kernel_rfl
 rw [hc];show (Op.eqItems (d+1) _ 1 _ _ [0,1,2]).run _ _=_;have hp:∀ (cs:Array Value) (k:Nat) (v:Value) (u:World),cs[k]? = some v -> (part 46 cs k).run Tryz.prog u = .ok v u:=fun cs k v u h=>by
  simp [part,Sem.run_bind,Result.andThen_ok,h]
 unfold eq3;simp only [Op.eqItems,Sem.run_bind];rw [hp _ (0*1) (.float .f64 a) w rfl];simp only [Result.andThen_ok];rw [hp _ (0*1) (.float .f64 x) w rfl];simp only [Result.andThen_ok,eq_float]
 cases fo a x == some .eq
 ·rfl
 ·simp only [Bool.not_true,Bool.false_eq_true,if_false,Bool.true_and];simp only [Sem.run_bind];rw [hp _ (1*1) (.float .f64 b) w rfl];simp only [Result.andThen_ok];rw [hp _ (1*1) (.float .f64 y) w rfl];simp only [Result.andThen_ok,eq_float]
  cases fo b y == some .eq
  ·rfl
  ·simp only [Bool.not_true,Bool.false_eq_true,if_false,Bool.true_and];simp only [Sem.run_bind];rw [hp _ (2*1) (.float .f64 c) w rfl];simp only [Result.andThen_ok];rw [hp _ (2*1) (.float .f64 z) w rfl];simp only [Result.andThen_ok,eq_float]
   cases fo c z == some .eq <;> rfl
theorem field_step (d:Nat) (xs ys:Array Value) (f:Field) (fs:List Field) (a b:Value) (r q:Bool) (w:World) (hn:f.name ≠ "_") (ha:(part f.type xs f.offset).run Tryz.prog w = .ok a w) (hb:(part f.type ys f.offset).run Tryz.prog w = .ok b w)
  (hr:(Op.equalIn d f.type a b).run Tryz.prog w = .ok r w) (hq:(Op.eqFields d xs ys fs).run Tryz.prog w = .ok q w):(Op.eqFields d xs ys (f :: fs)).run Tryz.prog w = .ok (r && q) w:=by
 simp only [Op.eqFields,Sem.run_bind,Sem.run_ite,if_pos hn,ha,hb,hr,Result.andThen_ok]
 cases r
 ·simp
 ·simp [hq]
theorem part_cell (t:TypeId) (ht:∀ w,(isAgg t).run Tryz.prog w = .ok false w) (cs:Array Value) (k:Nat) (v:Value) (w:World) (h:cs[k]? = some v):(part t cs k).run Tryz.prog w = .ok v w:=by
 simp [part,Sem.run_bind,ht,h]
theorem part_arr (cs:Array Value) (k:Nat) (v:Array Value) (w:World) (h:cs.extract k (k+3)=v):(part 47 cs k).run Tryz.prog w = .ok (.agg v) w:=by
 simp [part,Sem.run_bind,h]
theorem eq_int (d:Nat) (x y:Int) (w:World):(Op.equalIn (d+1) 3 (.int .i64 x) (.int .i64 y)).run Tryz.prog w = .ok (x == y) w:=run_equalIn_int w d _ _ _ _ _ Tryz.underlying3
theorem eq_u8 (d:Nat) (x y:Int) (w:World):(Op.equalIn (d+1) 5 (.int .u8 x) (.int .u8 y)).run Tryz.prog w = .ok (x == y) w:=run_equalIn_int w d _ _ _ _ _ Tryz.underlying5
def eqN (n m:Nd):Bool :=
  ((n.kind:Int) == (m.kind:Int)) && (eq3 (n.f 1) (n.f 2) (n.f 3) (m.f 1) (m.f 2) (m.f 3) && (eq3 (n.f 4) (n.f 5) (n.f 6) (m.f 4) (m.f 5) (m.f 6) && (eq3 (n.f 7) (n.f 8) (n.f 9) (m.f 7) (m.f 8) (m.f 9) && (eq3 (n.f 10) (n.f 11) (n.f 12) (m.f 10) (m.f 11) (m.f 12) &&
    ((fo (n.f 13) (m.f 13) == some .eq) && ((fo (n.f 14) (m.f 14) == some .eq) && ((fo (n.f 15) (m.f 15) == some .eq) && ((fo (n.f 16) (m.f 16) == some .eq) && ((n.a == m.a) && ((n.b == m.b) && true))))))))))
theorem eq_node (n m:Nd) (w:World):(Op.equalIn 10000 49 n.val m.val).run Tryz.prog w = .ok (eqN n m) w:=by
 show (Op.equalIn (9999+1) _ (.agg n.cells.toArray) (.agg m.cells.toArray)).run _ _=_;rw [run_equalIn_struct w 9999 _ _ _ (by unfold Program.fieldsOf; rw [Tryz.underlying49]) hsNode];unfold Program.fieldsOf;rw [Tryz.underlying49];unfold eqN;refine field_step 9999 _ _ _ _ (.int .u8 n.kind) (.int .u8 m.kind) _ _ w (by decide) (part_cell _ agg_u8 _ _ _ w rfl) (part_cell _ agg_u8 _ _ _ w rfl) (eq_u8 9998 _ _ w) ?_;refine field_step 9999 _ _ _ _ (.agg #[.float .f64 (n.f 1),.float .f64 (n.f 2),.float .f64 (n.f 3)]) (.agg #[.float .f64 (m.f 1),.float .f64 (m.f 2),.float .f64 (m.f 3)]) _ _ w (by decide) (part_arr _ _ _ w rfl) (part_arr _ _ _ w rfl) (eq_arr 9997 _ _ _ _ _ _ w) ?_;refine field_step 9999 _ _ _ _ (.agg #[.float .f64 (n.f 4),.float .f64 (n.f 5),.float .f64 (n.f 6)]) (.agg #[.float .f64 (m.f 4),.float .f64 (m.f 5),.float .f64 (m.f 6)]) _ _ w (by decide) (part_arr _ _ _ w rfl) (part_arr _ _ _ w rfl) (eq_arr 9997 _ _ _ _ _ _ w) ?_;refine field_step 9999 _ _ _ _ (.agg #[.float .f64 (n.f 7),.float .f64 (n.f 8),.float .f64 (n.f 9)]) (.agg #[.float .f64 (m.f 7),.float .f64 (m.f 8),.float .f64 (m.f 9)]) _ _ w (by decide) (part_arr _ _ _ w rfl) (part_arr _ _ _ w rfl) (eq_arr 9997 _ _ _ _ _ _ w) ?_;refine field_step 9999 _ _ _ _ (.agg #[.float .f64 (n.f 10),.float .f64 (n.f 11),.float .f64 (n.f 12)]) (.agg #[.float .f64 (m.f 10),.float .f64 (m.f 11),.float .f64 (m.f 12)]) _ _ w (by decide) (part_arr _ _ _ w rfl) (part_arr _ _ _ w rfl) (eq_arr 9997 _ _ _ _ _ _ w) ?_;refine field_step 9999 _ _ _ _ (.float .f64 (n.f 13)) (.float .f64 (m.f 13)) _ _ w (by decide) (part_cell _ agg_f64 _ _ _ w rfl) (part_cell _ agg_f64 _ _ _ w rfl) (eq_float 9998 _ _ w) ?_;refine field_step 9999 _ _ _ _ (.float .f64 (n.f 14)) (.float .f64 (m.f 14)) _ _ w (by decide) (part_cell _ agg_f64 _ _ _ w rfl) (part_cell _ agg_f64 _ _ _ w rfl) (eq_float 9998 _ _ w) ?_;refine field_step 9999 _ _ _ _ (.float .f64 (n.f 15)) (.float .f64 (m.f 15)) _ _ w (by decide) (part_cell _ agg_f64 _ _ _ w rfl) (part_cell _ agg_f64 _ _ _ w rfl) (eq_float 9998 _ _ w) ?_;refine field_step 9999 _ _ _ _ (.float .f64 (n.f 16)) (.float .f64 (m.f 16)) _ _ w (by decide) (part_cell _ agg_f64 _ _ _ w rfl) (part_cell _ agg_f64 _ _ _ w rfl) (eq_float 9998 _ _ w) ?_;refine field_step 9999 _ _ _ _ (.int .i64 n.a) (.int .i64 m.a) _ _ w (by decide) (part_cell _ agg_int _ _ _ w rfl) (part_cell _ agg_int _ _ _ w rfl) (eq_int 9998 _ _ w) ?_;refine field_step 9999 _ _ _ _ (.int .i64 n.b) (.int .i64 m.b) _ _ w (by decide) (part_cell _ agg_int _ _ _ w rfl) (part_cell _ agg_int _ _ _ w rfl) (eq_int 9998 _ _ w) ?_;rfl
def Nd.rt (n:Nd):Prop:=n.x.length=16 ∧ ∀ v∈n.x,v<18446744073709551616∧rightF v=true
theorem rt_f {n:Nd} (h:Nd.rt n) (j:Nat) (h1:1 <= j) (h2:j <= 16):n.f j<18446744073709551616∧rightF (n.f j)=true:=by
 unfold Nd.f;rw [List.getD_eq_getElem?_getD,List.getElem?_eq_getElem (by rw [h.1]; omega)];exact h.2 _ (List.getElem_mem _)
theorem nd_ext {n m:Nd} (hn:n.x.length=16) (hm:m.x.length=16) (hk:n.kind=m.kind) (ha:n.a=m.a) (hb:n.b=m.b) (hf:∀ j,1 <= j -> j <= 16 -> n.f j=m.f j):n=m:=by
 obtain ⟨k,x,a,b⟩:=n;obtain ⟨k',x',a',b'⟩:=m;simp only at hn hm hk ha hb;subst hk ha hb;congr 1;apply List.ext_getElem (hn.trans hm.symm);intro i h1 h2;have:=hf (i+1) (by omega) (by omega);unfold Nd.f at this;simpa [List.getD_eq_getElem?_getD,h1,h2] using this
theorem eqN_law {n m:Nd} (hn:Nd.rt n) (hm:Nd.rt m):eqN n m=decide (n=m):=by
 have hfo:∀ j,1 <= j -> j <= 16 -> (fo (n.f j) (m.f j) == some .eq)=decide (n.f j=m.f j):=fun j h1 h2 =>
  fo_right (rt_f hn j h1 h2).1 (rt_f hm j h1 h2).1 (rt_f hn j h1 h2).2 (rt_f hm j h1 h2).2
 rw [Bool.eq_iff_iff,decide_eq_true_eq];unfold eqN eq3;rw [hfo 1 (by omega) (by omega),hfo 2 (by omega) (by omega),hfo 3 (by omega) (by omega),hfo 4 (by omega) (by omega),hfo 5 (by omega) (by omega),hfo 6 (by omega) (by omega),hfo 7 (by omega) (by omega),hfo 8 (by omega) (by omega),hfo 9 (by omega) (by omega),hfo 10 (by omega) (by omega),hfo 11 (by omega) (by omega),hfo 12 (by omega) (by omega),hfo 13 (by omega) (by omega),hfo 14 (by omega) (by omega),hfo 15 (by omega) (by omega),hfo 16 (by omega) (by omega)]
 constructor
 ·intro h;simp only [Bool.and_eq_true,decide_eq_true_eq,beq_iff_eq,and_true] at h;obtain ⟨hk,⟨f1,f2,f3⟩,⟨f4,f5,f6⟩,⟨f7,f8,f9⟩,⟨f10,f11,f12⟩,f13,f14,f15,f16,ha,hb⟩:=h;refine nd_ext hn.1 hm.1 (by omega) ha hb fun j h1 h2 => ?_;have:j=1∨j=2∨j=3∨j=4∨j=5∨j=6∨j=7∨j=8∨j=9∨j=10∨j=11∨j=12∨j=13∨j=14∨j=15∨j=16:=by omega
  rcases this with rfl | rfl | rfl | rfl | rfl | rfl | rfl | rfl | rfl | rfl | rfl | rfl | rfl | rfl | rfl | rfl <;> assumption
 ·rintro rfl;simp
end flatm

/- A program in which each node stands twice, in plain words: it is a program, and it has the same flat one, of the same depth. Conditions: at most 40 nodes, and they are a program. -/
namespace flatm
open nodew
end flatm

/- The numbers of a right node are right ones; what is read of them stays so in the flat program. No conditions but those stated. -/
namespace flatm
open nodew
theorem f_zero (n:Nd) (hl:n.x.length=16) (o j:Nat) (h1:1 <= o) (h2:o <= 16) (j1:1 <= j):(n.zero o).f j=if j=o then 0 else n.f j:=by
 unfold Nd.zero Nd.f;simp only [List.getD_eq_getElem?_getD]
 by_cases h:j=o
 ·subst h;rw [List.getElem?_set_self (by omega),if_pos rfl];rfl
 ·rw [List.getElem?_set_ne (by omega),if_neg h]
theorem f_zeros:∀ (l:List Nat) (n:Nd),n.x.length=16 -> (∀ o∈l,1 <= o∧o <= 16) -> ∀ j,1 <= j -> (n.zeros l).f j=if j∈l then 0 else n.f j
 | [],n,_,_,j,_=>by simp [Nd.zeros]
 | o :: r,n,hl,ho,j,hj=>by
  show ((n.zero o).zeros r).f j=_;rw [f_zeros r (n.zero o) ((n.zero_len o).trans hl) (fun p hp=>ho p (by simp [hp])) j hj,f_zero n hl o j (ho o (by simp)).1 (ho o (by simp)).2 hj]
  by_cases h:j=o
  ·subst h
   by_cases hr:j∈r <;> simp [hr]
  ·by_cases hr:j∈r <;> simp [h,hr]
theorem offs_range (k:Nat):∀ o∈offs k,1 <= o∧o <= 16:=fun o ho=>by
 unfold offs at ho;obtain ⟨d,hd,rfl⟩:=List.mem_map.1 ho;exact fieldList_range k d hd
theorem node_rt {n:Nd} (hn:n.ok) {x:Int} (h:nodeOk n x=true):Nd.rt n:=by
 obtain ⟨h1,_,_,_,h5⟩:=nodeOk_parts h;refine ⟨hn.1,fun v hv=>⟨hn.2 v hv,?_⟩⟩;obtain ⟨i,hi,rfl⟩:=List.getElem_of_mem hv;have hf:n.f (i+1)=n.x[i]:=by
  unfold Nd.f;simp [List.getD_eq_getElem?_getD,hi]
 rw [<- hf];have hi16:i<16:=by rw [<- hn.1]; exact hi
 by_cases hm:i+1∈offs n.kind
 ·unfold offs at hm;obtain ⟨d,hd,he⟩:=List.mem_map.1 hm;unfold ndOk at h1;rw [List.all_eq_true] at h1;have:=h1 d hd;rw [he] at this;unfold withinF at this;simp only [Bool.and_eq_true] at this;exact this.1.1
 ·have hb:=(bare_iff _).1 h5 i hi16;rw [f_zeros (offs n.kind) n hn.1 (offs_range _) (i+1) (by omega),if_neg hm] at hb;rw [hb];have h0:rightF 0=true:=by kernel_rfl
  exact h0
theorem remap_rt {n:Nd} (ta:Nat -> Nat) (h:Nd.rt n):Nd.rt (remap ta n):=by
 unfold remap
 split
 ·exact h
 ·split
  ·exact h
  ·exact h
theorem nth_mem {l:List Nd} {x:Nat} (h:x<l.length):nth l x∈l:=by
 rw [nth_eq l x l[x] (List.getElem?_eq_getElem h)];exact List.getElem_mem h
theorem nth_rt {l:List Nd} (hr:rightP l=true) (hok:∀ n∈l,n.ok) {x:Nat} (h:x<l.length):Nd.rt (nth l x):=node_rt (hok _ (nth_mem h)) ((right_nodes hr).1 x h)
end flatm

/- A map whose keys are nodes: what a look-up and a store do. Condition: the keys' numbers are right ones. -/
namespace flatm
open Go.RowKit
open nodew
theorem ck_node (em:Bool) (n:Nd) (w:World):(Instr.checkKey em 10000 49 n.val).run Tryz.prog w = .ok () w:=by
 unfold Nd.val Nd.cells;kernel_rfl
def lookN (ents:List (Nd × Nat)) (k:Nd):Option Nat:=(ents.find? fun p=>eqN k p.1).map (·.2)
def kvN (p:Nd × Nat):Value × Value:=(p.1.val,.int .i64 p.2)
theorem ask_run (k:Nd) (w:World):∀ (es:List MapEntry) (ents:List (Nd × Nat)) (i:Nat),es.map (fun e=>(e.key,e.val))=ents.map kvN ->
  ∃ r,(Instr.findAsking 49 k.val es i).run Tryz.prog w = .ok r w∧r.map (·.2)=(lookN ents k).map (fun p=>Value.int .i64 p)
 | [],[],i,_=>⟨none,rfl,rfl⟩
 | [],a :: r,i,h=>by simp at h
 | e :: es,[],i,h=>by simp at h
 | e :: es,a :: r,i,h=>by
  simp only [List.map_cons,List.cons.injEq,kvN,Prod.mk.injEq] at h;obtain ⟨⟨h1,h2⟩,h3⟩:=h;have he:(Op.equal 49 k.val e.key).run Tryz.prog w = .ok (eqN k a.1) w:=by rw [h1]; exact eq_node k a.1 w
  unfold Instr.findAsking;rw [Sem.run_bind,he]
  cases hq:eqN k a.1 with
  | true =>
   refine ⟨some (i,e.val),by simp,?_⟩;unfold lookN;rw [List.find?_cons_of_pos (by simpa using hq)];simp [h2]
  | false =>
   obtain ⟨r',hr,hv⟩:=ask_run k w es r (i+1) h3;refine ⟨r',by simpa using hr,?_⟩;unfold lookN at hv ⊢;rw [List.find?_cons_of_neg (by simpa using hq)];exact hv
theorem findKeyN (k:Nd) (es:List MapEntry) (ents:List (Nd × Nat)) (h:es.map (fun e=>(e.key,e.val))=ents.map kvN) (w:World) :
  ∃ r,(Instr.findKey 49 k.val es).run Tryz.prog w = .ok r w∧r.map (·.2)=(lookN ents k).map (fun p=>Value.int .i64 p):=by
 unfold Instr.findKey;rw [Sem.run_bind,run_underlying Tryz.underlying49];simp only [Result.andThen_ok]
 cases es with
 | nil =>
  refine ⟨none,rfl,?_⟩;have:ents=[]:=by simpa using h.symm
  subst this;rfl
 | cons e es =>
  obtain ⟨r,hr,hv⟩:=ask_run k w (e :: es) ents 0 h;refine ⟨r,?_,hv⟩;have hk:∃ vs,e.key = .agg vs:=by
   cases ents with
   | nil=>simp at h
   | cons a q =>
    simp only [List.map_cons,List.cons.injEq,kvN,Prod.mk.injEq] at h;exact ⟨_,h.1.1⟩
  obtain ⟨vs,hk⟩:=hk;have hn:∀ fs,Instr.findNow (.struct fs) k.val (e :: es) 0=none:=fun fs=>by
   unfold Instr.findNow;rw [hk];rfl
  rw [hn];exact hr
def entsN:Nat -> List Nd -> List (Nd × Nat)
 | _,[]=>[]
 | i,n :: r=>(n,i) :: entsN (i+1) r
theorem entsN_app:∀ (l:List Nd) (i:Nat) (n:Nd),entsN i (l ++ [n])=entsN i l ++ [(n,i+l.length)]
 | [],i,n=>rfl
 | m :: r,i,n=>by
  show (m,i) :: entsN (i+1) (r ++ [n])=(m,i) :: (entsN (i+1) r ++ _);rw [entsN_app r (i+1) n,List.length_cons,show i+1+r.length=i+(r.length+1) by omega]
theorem look_ents (k:Nd) (hk:Nd.rt k):∀ (l:List Nd) (i:Nat),(∀ n∈l,Nd.rt n) -> lookN (entsN i l) k=if k∈l then some (i+l.idxOf k) else none
 | [],i,_=>by simp [lookN,entsN]
 | m :: r,i,h=>by
  have ih:=look_ents k hk r (i+1) (fun n hn=>h n (.tail _ hn));have he:=eqN_law hk (h m (.head _));unfold lookN at ih ⊢;show Option.map _ (List.find? _ ((m,i) :: entsN (i+1) r))=_
  by_cases e:k=m
  ·subst e;rw [List.find?_cons_of_pos (by show eqN k k=true; rw [he]; simp)];simp
  ·rw [List.find?_cons_of_neg (by show ¬ eqN k m=true; rw [he]; simp [e]),ih]
   by_cases hm:k∈r
   ·have hi:(m :: r).idxOf k=r.idxOf k+1:=by
     rw [List.idxOf_cons];have:(m == k)=false:=by rw [beq_eq_false_iff_ne]; exact fun e'=>e e'.symm
     rw [this];rfl
    rw [if_pos hm,if_pos (List.mem_cons_of_mem _ hm),hi];congr 1;omega
   ·rw [if_neg hm,if_neg (by simp [e,hm])]
theorem look_idx (k:Nd) (hk:Nd.rt k) (l:List Nd) (h:∀ n∈l,Nd.rt n):lookN (entsN 0 l) k=idxN l k:=by
 rw [look_ents k hk l 0 h];unfold idxN;simp
def NM (W:World) (mb:Nat) (ents:List (Nd × Nat)):Prop :=
 ∃ (es:Array MapEntry) (clock:Nat),W.heap[mb]? = some (.map es clock)∧es.toList.map (fun e=>(e.key,e.val))=ents.map kvN
theorem NM.lt {W:World} {mb:Nat} {ents:List (Nd × Nat)} (h:NM W mb ents):mb<W.heap.size:=by
 obtain ⟨es,c,hb,_⟩:=h;exact (Array.getElem?_eq_some_iff.1 hb).1
theorem NM.keep {W W':World} {mb:Nat} {ents:List (Nd × Nat)} (h:NM W mb ents) (hk:W'.heap[mb]? = W.heap[mb]?):NM W' mb ents:=by
 obtain ⟨es,c,hb,he⟩:=h;exact ⟨es,c,hk.trans hb,he⟩
theorem NM.lookup {W:World} {mb:Nat} {ents:List (Nd × Nat)} (h:NM W mb ents) (k:Nd) :
  (Instr.lookup 73 (.map (some mb)) k.val true).run Tryz.prog W = .ok (.tuple #[.int .i64 ((lookN ents k).getD 0:Nat),.bool (lookN ents k).isSome]) W:=by
 obtain ⟨es,c,hb,he⟩:=h;obtain ⟨r,hr,hv⟩:=findKeyN k es.toList ents he W
 cases hl:lookN ents k with
 | none =>
  rw [hl] at hv
  cases r with
  | none=>simp [Instr.lookup,run_underlying Tryz.underlying73,run_getObj_map _ _ _ _ hb,ck_node,hr]
  | some x=>simp at hv
 | some p =>
  rw [hl] at hv
  cases r with
  | none=>simp at hv
  | some x =>
   obtain ⟨i,v⟩:=x;simp at hv;subst hv;simp [Instr.lookup,run_underlying Tryz.underlying73,run_getObj_map _ _ _ _ hb,ck_node,hr]
theorem NM.store {W:World} {mb:Nat} {ents:List (Nd × Nat)} (h:NM W mb ents) (k:Nd) (p:Nat) (hk:lookN ents k=none) :
  ∃ W',(Instr.mapUpdate 73 (.map (some mb)) k.val (.int .i64 p)).run Tryz.prog W = .ok () W'∧NM W' mb (ents ++ [(k,p)])∧W'.heap.size=W.heap.size∧(∀ b,b≠mb -> W'.heap[b]? = W.heap[b]?)∧W'.os=W.os∧W'.tape=W.tape∧W'.output=W.output:=by
 obtain ⟨es,c,hb,he⟩:=h;obtain ⟨r,hr,hv⟩:=findKeyN k es.toList ents he W;rw [hk] at hv
 cases r with
 | some x=>simp at hv
 | none =>
  refine ⟨{ W with heap:=W.heap.setIfInBounds mb (.map (es.push { key:=k.val,val:=.int .i64 p,born:=c }) (c+1)) },?_,?_,by simp,?_,rfl,rfl,rfl⟩
  ·simp [Instr.mapUpdate,run_underlying Tryz.underlying73,run_getObj_map _ _ _ _ hb,ck_node,hr,MapKept.run_setObj_map _ hb]
  ·have hlt:=(Array.getElem?_eq_some_iff.1 hb).1;refine ⟨es.push { key:=k.val,val:=.int .i64 p,born:=c },c+1,by simp [hlt],?_⟩;rw [Array.toList_push,List.map_append,he,List.map_append];rfl
  ·intro b hbn;show (W.heap.setIfInBounds mb _)[b]? = _;rw [Array.getElem?_setIfInBounds_ne (fun e=>hbn e.symm)]
end flatm

/- Flat's state beside the iterator: what it holds, and that others' turns do not reach it. No conditions but those stated. -/
namespace flatw
open Go.RowKit Go.Shelf
open nodew
open chkw
open flatm
def toA (n:Nat) (tm:Nat -> Nat):Array Value:=((List.range n).map fun i=>Value.int .i64 (tm i:Nat)).toArray
theorem toA_at (n:Nat) (tm:Nat -> Nat) (i:Nat) (h:i<n):(toA n tm)[i]? = some (.int .i64 (tm i:Nat)):=by simp [toA,h]
theorem toA_set (n:Nat) (tm:Nat -> Nat) (i k:Nat) (h:i<n):(toA n tm).setIfInBounds i (.int .i64 k)=toA n (upd tm i k):=by
 have hs:∀ m,(toA n m).size=n:=fun m=>by simp [toA]
 apply Array.ext_getElem?;intro j;rw [Array.getElem?_setIfInBounds]
 by_cases e:i=j
 ·subst e;rw [if_pos rfl,if_pos (by rw [hs]; exact h),toA_at _ _ _ h,upd_same]
 ·rw [if_neg e]
  by_cases hj:j<n
  ·rw [toA_at _ _ _ hj,toA_at _ _ _ hj,upd_ne _ _ _ _ (fun e'=>e e'.symm)]
  ·rw [Array.getElem?_eq_none (by rw [hs]; omega),Array.getElem?_eq_none (by rw [hs]; omega)]
def footF (b1 mb b4 tb b5 bo:Nat) (W:World) (k:Nat):Prop:=footR bo W k∨k=b1∨k=mb∨k=b4∨k=tb∨k=b5
structure FSt (n0 b1 mb b4 tb b5 bo n:Nat) (v:Value) (w:World) (s:FS) (W:World):Prop where
 row:HR n0 bo 34 49 19 s.out.length (ncells s.out) W
 h1:Boxed W b1 34 v
 hm:NM W mb (entsN 0 s.out)
 h4:Boxed W b4 73 (.map (some mb))
 ht:W.heap[tb]? = some (.cells (toA n s.tm) 3 (0,0))
 h5:Boxed W b5 42 (.slice (some ⟨tb,0,none⟩) n n)
 below:Below n0 w W
theorem footFS (n0 b1 mb b4 tb b5 bo n:Nat) (v:Value) (w:World) (l:List Nd) (s0:FS) (hn:n0 <= w.heap.size) (k1:n0 <= b1) (km:n0 <= mb) (k4:n0 <= b4) (kt:n0 <= tb) (k5:n0 <= b5) (ko:n0 <= bo) :
  Foot (footF b1 mb b4 tb b5 bo) n0 (fun pre W=>FSt n0 b1 mb b4 tb b5 bo n v w (pre.foldl (stepF (nth l)) s0) W):=by
 refine ⟨fun pre X k h hk => ?_,fun pre X Y row h hg hr => ?_⟩
 ·rcases hk with hk | rfl | rfl | rfl | rfl | rfl
  ·exact h.row.foot_lt ko hk
  ·exact ⟨k1,h.h1.lt⟩
  ·exact ⟨km,h.hm.lt⟩
  ·exact ⟨k4,h.h4.lt⟩
  ·exact ⟨kt,(Array.getElem?_eq_some_iff.1 h.ht).1⟩
  ·exact ⟨k5,h.h5.lt⟩
 ·have hne:∀ b,footF b1 mb b4 tb b5 bo X b -> some b≠row:=fun b hb e=>(hr b e.symm).2.2 hb;obtain ⟨r1,r2⟩:=h.row.own hg (fun r e hf=>(hr r e).2.2 (.inl hf));have e1:=hne b1 (.inr (.inl rfl));have em:=hne mb (.inr (.inr (.inl rfl)));have e4:=hne b4 (.inr (.inr (.inr (.inl rfl))));have et:=hne tb (.inr (.inr (.inr (.inr (.inl rfl)))));have e5:=hne b5 (.inr (.inr (.inr (.inr (.inr rfl)))));refine ⟨⟨r1,h.h1.kept hg e1,h.hm.keep (hg.block mb h.hm.lt em),h.h4.kept hg e4,(hg.block tb (Array.getElem?_eq_some_iff.1 h.ht).1 et).trans h.ht,h.h5.kept hg e5,h.below.grown hg (Nat.le_trans hn h.below.size) (fun r e=>(hr r e).1)⟩,?_⟩;rintro k (hk | hk)
  ·exact .inl (r2 k hk)
  ·exact .inr hk
theorem rec_ne {W:World} {b k:Nat} {o p:Obj} (hb:W.heap[b]? = some p) (hp:isRec p=false) (hk:W.heap[k]? = some o) (ho:isRec o=true):b≠k:=by
 rintro rfl;rw [hb] at hk;injection hk with hk;subst hk;rw [hp] at ho
 cases ho
theorem FSt.put {n0 b1 mb b4 tb b5 bo n:Nat} {v:Value} {w:World} {s:FS} {W:World} (h:FSt n0 b1 mb b4 tb b5 bo n v w s W) (hn:n0 <= w.heap.size) {k:Nat} {o o':Obj} (hk0:n0 <= k) (hk:W.heap[k]? = some o) (ho:isRec o=true) :
  FSt n0 b1 mb b4 tb b5 bo n v w s (W.putObj k o'):=by
 have hs:∀ b p,W.heap[b]? = some p -> isRec p=false -> (W.putObj k o').heap[b]? = W.heap[b]?:=fun b p hb hp=>World.putObj_heap_other (rec_ne hb hp hk ho);obtain ⟨es,c,hm,_⟩:=h.hm;exact ⟨h.row.put hk ho,(hs _ _ h.h1 rfl).trans h.h1,h.hm.keep (hs _ _ hm rfl),(hs _ _ h.h4 rfl).trans h.h4,(hs _ _ h.ht rfl).trans h.ht,(hs _ _ h.h5 rfl).trans h.h5,
  h.below.grown (grownBy_putObj' W k o') (Nat.le_trans hn h.below.size) (fun r e=>by injection e with e; omega)⟩
theorem footF_put {b1 mb b4 tb b5 bo:Nat} {W:World} {k:Nat} {o o':Obj} (ho:W.heap[k]? = some o) (hr:isRec o=true) (hr':isRec o'=true) (i:Nat) (h:footF b1 mb b4 tb b5 bo (W.putObj k o') i):footF b1 mb b4 tb b5 bo W i:=by
 rcases h with h | h
 ·exact .inl (footR_put ho hr hr' i h)
 ·exact .inr h
theorem fold_len (p:Nat -> Nd) (pre:List Nat):∀ s:FS,(pre.foldl (stepF p) s).out.length <= s.out.length+pre.length:=by
 induction pre with
 | nil=>intro s; simp
 | cons x r ih =>
  intro s;rw [List.foldl_cons];refine Nat.le_trans (ih _) ?_;have:(stepF p s x).out.length <= s.out.length+1:=by
   unfold stepF
   split
   ·exact Nat.le_succ _
   ·simp
  rw [List.length_cons];omega
theorem fold_rt (p:Nat -> Nd) (pre:List Nat):∀ s:FS,(∀ x∈pre,Nd.rt (p x)) -> (∀ m∈s.out,Nd.rt m) -> ∀ m∈(pre.foldl (stepF p) s).out,Nd.rt m:=by
 induction pre with
 | nil=>intro s _ h; exact h
 | cons x r ih =>
  intro s hp h;rw [List.foldl_cons];refine ih _ (fun y hy=>hp y (.tail _ hy)) ?_;unfold stepF
  split
  ·exact h
  ·intro m hm
   rcases List.mem_append.1 hm with hm | hm
   ·exact h m hm
   ·have:m=remap s.tm (p x):=by simpa using hm
    rw [this];exact remap_rt _ (hp x (.head _))
theorem keepF {n0 b1 mb b4 tb b5 bo n:Nat} {v:Value} {w:World} {s:FS} {W W':World} (h:FSt n0 b1 mb b4 tb b5 bo n v w s W) (k1:n0 <= b1) (km:n0 <= mb) (k4:n0 <= b4) (kt:n0 <= tb) (k5:n0 <= b5) (ko:n0 <= bo)
  (hz:W.heap.size <= W'.heap.size) (hb:∀ k,k<W.heap.size -> ¬ footF b1 mb b4 tb b5 bo W k -> W'.heap[k]? = W.heap[k]?) (hf:∀ k,footR bo W' k -> footR bo W k∨W.heap.size <= k) :
  KeepP (footF b1 mb b4 tb b5 bo) n0 none W W'∧KeepsRec W W':=by
 have hlow:∀ k,footF b1 mb b4 tb b5 bo W k -> n0 <= k:=by
  rintro k (hk | rfl | rfl | rfl | rfl | rfl)
  ·exact (h.row.foot_lt ko hk).1
  all_goals assumption
 refine ⟨⟨hz,fun k hk hs=>hb k hs (fun hf=>by have:=hlow k hf; omega),fun k hk=>⟨⟨?_,?_⟩,fun _=>hb k hk.lt hk.2⟩⟩,?_⟩
 ·rw [hb k hk.lt hk.2]; exact hk.1
 ·rintro (hk2 | hk2)
  ·rcases hf k hk2 with h3 | h3
   ·exact hk.2 (.inl h3)
   ·have:=hk.lt; omega
  ·exact hk.2 (.inr hk2)
 ·intro i o hi hro;obtain ⟨es,c,hm,_⟩:=h.hm;have hno:∀ b p,W.heap[b]? = some p -> isRec p=false -> i≠b:=fun b p hb hp e=>rec_ne hb hp hi hro e.symm;rw [hb i (Array.getElem?_eq_some_iff.1 hi).1]
  ·exact hi
  ·rintro ((e | ⟨u,hu,hf⟩) | e | e | e | e | e)
   ·obtain ⟨u,hu,_⟩:=h.row;exact hno _ _ hu rfl e
   ·obtain ⟨u',hu',ho⟩:=h.row;rw [hu'.cell] at hu;obtain rfl:=Option.some.inj hu
    rcases ho.2 with ⟨rfl,_⟩ | ⟨g,cap,cur,rfl,_,hh,_⟩
    ·cases hf
    ·have:g=i:=by simpa [Value.ownBlock] using hf
     exact hno _ _ hh rfl this.symm
   ·exact hno _ _ h.h1 rfl e
   ·exact hno _ _ hm rfl e
   ·exact hno _ _ h.h4 rfl e
   ·exact hno _ _ h.ht rfl e
   ·exact hno _ _ h.h5 rfl e
end flatw

/- Depth: how deep a right program is. No conditions but those stated. -/
namespace flatw
open Go.RowKit Go.Shelf
open nodew
open chkw
open flatm
theorem toA_cell' {W:World} {tb n x:Nat} {tm:Nat -> Nat} (h:W.heap[tb]? = some (.cells (toA n tm) 3 (0,0))) (hx:x<n):W.cell? ⟨tb,x,none⟩=some (.int .i64 (tm x:Nat)):=by rw [cell_of_row _ _ _ _ _ _ h]; exact toA_at _ _ _ hx
theorem toA_frozen' {W:World} {tb n:Nat} {tm:Nat -> Nat} (h:W.heap[tb]? = some (.cells (toA n tm) 3 (0,0))) (x:Nat):W.frozen? ⟨tb,x,none⟩=false:=by simp [World.frozen?,h]
theorem max_le (g:Nat -> Nat) (f:Nat):∀ (L:List Nat) (a:Nat),a <= f -> (∀ c∈L,g c <= f) -> L.foldl (fun m c=>max m (g c)) a <= f
 | [],a,h,_=>h
 | c :: r,a,h,hc=>by
  rw [List.foldl_cons];exact max_le g f r _ (Nat.max_le.2 ⟨h,hc c (.head _)⟩) (fun d hd=>hc d (.tail _ hd))
theorem dep_le (p:Nat -> Nd):∀ (f x:Nat),depF p f x <= f
 | 0,_=>Nat.le_refl _
 | f+1,_=>Nat.succ_le_succ (max_le _ f _ 0 (Nat.zero_le _) (fun c _=>dep_le p f c))
def mx (l:List Nd) (ks:List Nat) (j:Nat):Nat:=(ks.take j).foldl (fun m c=>max m (depP l c)) 0
theorem mx_zero (l:List Nd) (ks:List Nat):mx l ks 0=0:=rfl
theorem mx_succ (l:List Nd) (ks:List Nat) (j c:Nat) (h:ks[j]? = some c):mx l ks (j+1)=max (mx l ks j) (depP l c):=by
 unfold mx;rw [List.take_add_one,h];simp [List.foldl_append]
theorem mx_all (l:List Nd) (ks:List Nat):mx l ks ks.length=ks.foldl (fun m c=>max m (depP l c)) 0:=by
 unfold mx; rw [List.take_length]
def dk (l:List Nd) (k:Nat):Nat -> Nat:=fun i=>if i<k then depP l i else 0
theorem dk_lt (l:List Nd) {k i:Nat} (h:i<k):dk l k i=depP l i:=if_pos h
theorem dk_ge (l:List Nd) {k i:Nat} (h:k <= i):dk l k i=0:=if_neg (by omega)
theorem dk_zero (l:List Nd):dk l 0=fun _=>0:=by funext i; unfold dk; simp
theorem dk_succ {l:List Nd} (hr:rightP l=true) {k:Nat} (hk:k<l.length):upd (upd (dk l k) k (mx l (kids (nth l k)) (kids (nth l k)).length)) k (mx l (kids (nth l k)) (kids (nth l k)).length+1)=dk l (k+1):=by
 funext i
 by_cases e:i=k
 ·subst e;rw [upd_same,dk_lt l (Nat.lt_succ_self _),depP_eq hr i hk,mx_all]
 ·rw [upd_ne _ _ _ _ e,upd_ne _ _ _ _ e];unfold dk
  by_cases h:i<k
  ·rw [if_pos h,if_pos (by omega)]
  ·rw [if_neg h,if_neg (by omega)]
theorem upd_upd (g:Nat -> Nat) (k a b:Nat):upd (upd g k a) k b=upd g k b:=by
 funext i
 by_cases e:i=k
 ·subst e; rw [upd_same,upd_same]
 ·rw [upd_ne _ _ _ _ e,upd_ne _ _ _ _ e,upd_ne _ _ _ _ e]
theorem upd_zero (l:List Nd) (k:Nat):upd (dk l k) k 0=dk l k:=by
 funext i
 by_cases e:i=k
 ·subst e; rw [upd_same,dk_ge l (Nat.le_refl _)]
 ·rw [upd_ne _ _ _ _ e]
def DS (tb n:Nat) (w:World) (tm:Nat -> Nat) (W:World):Prop:=W.heap[tb]? = some (.cells (toA n tm) 3 (0,0))∧Below w.heap.size w W
theorem DS.set {tb n:Nat} {w:World} {l:List Nd} {k m:Nat} {W:World} (h:DS tb n w (upd (dk l k) k m) W) (ht:w.heap.size <= tb) (hk:k<n) (m':Nat):DS tb n w (upd (dk l k) k m') (W.setCell ⟨tb,k,none⟩ (.int .i64 (m':Nat))):=by
 refine ⟨?_,h.2.setCell ht _⟩;rw [heap_set W tb k _ _ _ _ h.1,toA_set _ _ _ _ hk,upd_upd]
def DepPost (w:World) (d e:Int) (x:Ending) (w':World):Prop:=x = .returned (.tuple #[.int .i64 d,.int .i64 e])∧Below w.heap.size w w'
theorem NRead.at' {w:World} {A:Option Addr} {c:Nat} {l:List Nd} (h:NArg w w.heap.size (.slice A l.length c) l) {k:Nat} (hk:k<l.length) :
  ∃ g off,A=some ⟨g,off,none⟩ ∧ ∀ W:World,Below w.heap.size w W -> (Instr.loadAt 49 (.pointer (some ⟨g,off+k*19,none⟩))).run Tryz.prog W = .ok (nth l k).val W:=by
 obtain ⟨A',c',hv,_,_,hx⟩:=h;injection hv with e1 _ _;subst e1;obtain ⟨g,off,hA,hgB,hgl,hcl⟩:=hx (by intro e; rw [e] at hk; simp at hk);refine ⟨g,off,hA,fun W hB => ?_⟩;have:=(NRead.at (B:=w.heap.size) (g:=g) (off:=off) (W:=w) (l:=l) (k:=k) (fun _=>⟨g,off,rfl,hgB,hgl,hcl⟩) hk).2 W (hB.block g hgl);rw [this];unfold nth;simp [hk]
theorem wl_alloc_nd {ops:Array Oper} {rest:List Oper} {o:Oper} {a:Act} {w:World} {Q:Exit -> Act -> World -> Prop} (hgd:o.guard=none) (ho:o.op = .alloc 49)
  (h:wpList Tryz.prog ops Q rest (a.put o.dst (pt w.heap.size 0)) (w.alloc (.cells zcells 49))):wpList Tryz.prog ops Q (o :: rest) a w :=
 wl_val hgd _ (exec_alloc_nd ho a w) h
theorem wl_store_new {ops:Array Oper} {rest:List Oper} {o:Oper} {a:Act} {u:World} {Q:Exit -> Act -> World -> Prop} (hgd:o.guard=none) (x y:Operand) (ho:o.op = .store 49 x y) (nd:Nd) (hx:a.eval x=pt u.heap.size 0) (hy:a.eval y=nd.val)
  (h:wpList Tryz.prog ops Q rest (a.put o.dst undef) (u.alloc (.cells nd.cells.toArray 49))):wpList Tryz.prog ops Q (o :: rest) a (u.alloc (.cells zcells 49)):=by
 have hr:(Instr.storeAt 49 (.pointer (some ⟨u.heap.size,0,none⟩)) (.agg nd.cells.toArray)).run Tryz.prog (u.alloc (.cells zcells 49)) = .ok () (u.alloc (.cells nd.cells.toArray 49)) :=
  run_storeAt_new u 49 zcells nd.cells.toArray (nd_info nd) (by rw [nd_size]; rfl) (nd_one nd)
 have hx':a.eval x = .pointer (some ⟨u.heap.size,0,none⟩):=hx;have hy':a.eval y = .agg nd.cells.toArray:=hy;refine wpList_plain hgd fun K hK => ?_;unfold Oper.wp execOp;simp only [ho,hx',hy',hr,Sem.run_bind,Sem.run_pure,Result.andThen_ok];exact hK _ _ h
theorem depth_no (l:List Nd) (hok:∀ n∈l,n.ok) (hll:l.length <= 1000000000000) (hr:rightP l=false) (v:Value) (w:World) (hn:NArg w w.heap.size v l) :
  Calls Tryz.prog 17 #[v] w (DepPost w 0 190):=by
 have hrt:=right_any w.heap.size v l hok hll w hn.read (Nat.le_refl _);obtain ⟨A,c,rfl⟩:=hn.form;rw [hr] at hrt;have HRT:=Yd hrt;clear hrt hn hok hr;go_enter Tryz.func17,Tryz.ntmps17;go_wp2_with fail;refine HRT.out.mono ?_;rintro e w' ⟨rfl,hB⟩;go_wp2_with fail;go_ret2;exact ⟨rfl,hB⟩
theorem depth_any (l:List Nd) (hok:∀ n∈l,n.ok) (hr:rightP l=true) (v:Value) (w:World) (hn:NArg w w.heap.size v l) :
  Calls Tryz.prog 17 #[v] w (DepPost w (depP l (l.length-1):Nat) 0):=by
 obtain ⟨_,h0,h4⟩:=right_nodes hr;have hrt:=right_any w.heap.size v l hok (by omega) w hn.read (Nat.le_refl _);obtain ⟨A,c,rfl⟩:=hn.form;rw [hr] at hrt;have HRT:=Yd hrt;have HN:=Yd hn;have HR:=Yd hr;clear hrt hn hok hr;go_enter Tryz.func17,Tryz.ntmps17;go_wp2_with fail;refine HRT.out.mono ?_;rintro e W1 ⟨rfl,hB1⟩;obtain ⟨tb,htb⟩:∃ tb,tb=W1.heap.size:=⟨_,rfl⟩;obtain ⟨W2,hW2⟩:∃ W2,W2=W1.alloc (.cells (toA l.length fun _=>0) 3):=⟨_,rfl⟩;have hmk:(Instr.makeSlice 42 (.int .i64 l.length) (.int .i64 l.length)).run Tryz.prog W1 = .ok (.slice (some ⟨tb,0,none⟩) l.length l.length) W2:=by
  rw [htb,hW2]; exact mk_int l.length h4 W1
 have hd2:DS tb l.length w (dk l 0) W2:=by
  rw [dk_zero,hW2,htb];exact ⟨heap_alloc_new W1 _,hB1.alloc hB1.size _⟩
 have htw:w.heap.size <= tb:=by rw [htb]; exact hB1.size
 have HD2:=Yd hd2;clear hW2 htb hd2 hB1;go_wp2_with fail
 go_loopw [17] (fun i wr=>∃ k:Nat,k <= l.length∧i = .int .i64 k∧DS tb l.length w (dk l k) wr) (fun i _=>l.length-(intOf i).toNat)
 case atStart=>exact ⟨0,Nat.zero_le _,rfl,HD2.out⟩
 case round =>
  obtain ⟨k,hk,rfl,hD⟩:=hrel;obtain ⟨wo,hwo⟩:∃ wo,wo=wr:=⟨_,rfl⟩;subst hwo
  by_cases hkl:k<l.length
  ·have hz:=hD.2.size;obtain ⟨g,off,rfl,hld⟩:=NRead.at' HN.out hkl;have hld1:=hld wo hD.2;obtain ⟨nd,hnd⟩:∃ nd,nth l k=nd:=⟨_,rfl⟩;rw [hnd] at hld1;obtain ⟨Wa,hWa⟩:∃ Wa,Wa=wo.alloc (.cells nd.cells.toArray 49):=⟨_,rfl⟩;have hna:NBlk Wa wo.heap.size nd:=by rw [hWa]; exact heap_alloc_new wo _
   have hga:wo.grownBy Wa none:=by rw [hWa]; exact World.grownBy_alloc wo _ none
   have k0:(0:Int) <= (k:Int):=by omega
   have ki:(k:Int)<(l.length:Int):=by omega
   have HLD:=Yd hld1;have HNA:=Yd hna;have HGA:=Yd hga;have HD:=Yd hD;have HND:=Yd hnd;clear hld hld1 hna hga hD hnd;go_wp2_with (first | (rw [<- hWa]) | (refine wl_load_nd rfl (.tmp 20) rfl (.pointer (some ⟨g,off+k*19,none⟩)) rfl nd HLD.out ?_) | (refine wl_alloc_nd rfl rfl ?_) | (refine wl_store_new rfl (.tmp 6) (.tmp 21) rfl nd rfl rfl ?_) | (refine wl_load_nd rfl (.tmp 6) rfl (.pointer (some ⟨wo.heap.size,0,none⟩)) rfl nd HNA.out.loadAt ?_));refine (below_any nd Wa).mono ?_;rintro e Wb ⟨vb,rfl,hIA,hBb,hnew⟩;have hki:=kidsI_right HR.out k hkl;have hac:=right_ac HR.out k hkl;rw [HND.out] at hki hac;rw [hki] at hIA;obtain ⟨ks,hks⟩:∃ ks,kids nd=ks:=⟨_,rfl⟩;rw [hks] at hIA hac;obtain ⟨A2,rfl,hA2⟩:=hIA.uni;rw [List.length_map] at hA2 hnew ⊢;have hk2:ks.length <= 2:=by
    rw [<- hks]; unfold kids
    split
    ·simp
    ·split <;> simp
   have hgb:wo.grownBy Wb none:=grown_trans HGA.out (grown_below hBb none);have hDb:DS tb l.length w (upd (dk l k) k (mx l ks 0)) Wb:=by
    rw [mx_zero,upd_zero];exact ⟨(hgb.block tb (Array.getElem?_eq_some_iff.1 HD.out.1).1 (by simp)).trans HD.out.1,HD.out.2.grown hgb hz (fun r e=>by cases e)⟩
   have hlast:=dk_succ HR.out hkl;rw [HND.out,hks] at hlast;have hnew2:∀ g,A2=some ⟨g,0,none⟩ -> tb<g:=fun g e=>by
    have h1:=hnew g 0 ks.length (by rw [e]);have h2:=HGA.out.size;have h3:=(Array.getElem?_eq_some_iff.1 HD.out.1).1;omega
   have HNW:=Yd hnew2;have HA2:=Yd hA2;have HDB:=Yd hDb;have HAC:=Yd hac;have HLAST:=Yd hlast;have htl:tb<Wb.heap.size:=(Array.getElem?_eq_some_iff.1 hDb.1).1;clear hA2 hnew hnew2 hDb hac hlast hki hIA hgb hBb hks hWa;go_wp2_with fail
   go_loopw [25] (fun i wq=>∃ j:Nat,j <= ks.length∧i = .int .i64 j∧DS tb l.length w (upd (dk l k) k (mx l ks j)) wq ∧ ∀ b,b≠tb -> b<Wb.heap.size -> wq.heap[b]? = Wb.heap[b]?) (fun i _=>ks.length-(intOf i).toNat)
   case atStart=>exact ⟨0,Nat.zero_le _,rfl,HDB.out,fun _ _ _=>rfl⟩
   case round =>
    obtain ⟨j,hj,rfl,hD,hkeep⟩:=hrel
    by_cases hjl:j<ks.length
    ·obtain ⟨gb,rfl,hgb⟩:=HA2.out j hjl;have hgt:gb≠tb:=by
      have:=HNW.out gb rfl;omega
     have cg:wr.cell? ⟨gb,j,none⟩=some (.int .i64 (ks[j]:Nat)):=by
      rw [cell_of_row _ _ _ _ _ _ ((hkeep gb hgt (Array.getElem?_eq_some_iff.1 hgb).1).trans hgb)];simp [hjl]
     obtain ⟨cc,hcc⟩:∃ cc,ks[j]=cc:=⟨_,rfl⟩;rw [hcc] at cg;have hck:cc<k:=HAC.out cc (by rw [<- hcc]; exact List.getElem_mem hjl);have c1:=toA_cell' hD.1 hkl;have c2:=toA_cell' hD.1 (x:=cc) (by omega);rw [upd_same] at c1;rw [upd_ne _ _ _ _ (by omega),dk_lt l hck] at c2;have hmx:=mx_succ l ks j cc (by rw [List.getElem?_eq_getElem hjl,hcc]);obtain ⟨a,ha⟩:∃ a,mx l ks j=a:=⟨_,rfl⟩;obtain ⟨b,hb⟩:∃ b,depP l cc=b:=⟨_,rfl⟩;rw [ha] at c1;rw [hb] at c2;have HD:=Yd hD;have HK:=Yd hkeep;have HMX:=Yd hmx;have HA:=Yd ha;have HB:=Yd hb;clear hD hkeep hgb hcc hmx ha hb;have j0:(0:Int) <= (j:Int):=by omega
     have ji:(j:Int)<(ks.length:Int):=by omega
     have cc0:(0:Int) <= (cc:Int):=by omega
     have cci:(cc:Int)<(l.length:Int):=by omega
     have fx:=toA_frozen' HD.out.1 k;go_wp2_with fail;go_still_tail 12,(by kernel_rfl);change wpList _ _ _ _ _ wr.drew;obtain ⟨X,hX⟩:∃ X,X=wr.drew:=⟨_,rfl⟩;have hDX:DS tb l.length w (upd (dk l k) k (mx l ks j)) X:=by rw [hX]; exact ⟨HD.out.1,HD.out.2.drew⟩
     have hXk:∀ b,b≠tb -> b<Wb.heap.size -> X.heap[b]? = Wb.heap[b]?:=by rw [hX]; exact HK.out
     rw [<- hX];have d1:=toA_cell' hDX.1 hkl;rw [upd_same,HA.out] at d1;have gx:=toA_frozen' hDX.1 k;have HDX:=Yd hDX;have HXK:=Yd hXk;clear hX hDX hXk c1 c2 cg fx;go_wp2_with fail;go_roundw
     case rel =>
      refine ⟨j+1,by omega,by go_num,?_,fun b hb1 hb2 => ?_⟩
      ·rw [HMX.out,HA.out,HB.out];have hmm:(if a<b then Value.int .i64 (b:Int) else .int .i64 (a:Int)) = .int .i64 ((max a b:Nat):Int):=by
        by_cases h:a<b
        ·rw [if_pos h,Nat.max_eq_right (by omega)]
        ·rw [if_neg h,Nat.max_eq_left (by omega)]
       have hmm2:(if a<b then (b:Int) else (a:Int))=((max a b:Nat):Int):=by
        by_cases h:a<b
        ·rw [if_pos h,Nat.max_eq_right (by omega)]
        ·rw [if_neg h,Nat.max_eq_left (by omega)]
       have hmm3:max (a:Int) (b:Int)=((max a b:Nat):Int):=by omega
       first | rw [hmm2] | rw [hmm3]
       exact HDX.out.set htw hkl _
      ·rw [Below.heap_setCell X ⟨tb,k,none⟩ _ b hb1];exact HXK.out b hb1 hb2
     case measure=>simp [intOf]; omega
    ·obtain rfl:j=ks.length:=by omega
     obtain ⟨a,ha⟩:∃ a,mx l ks ks.length=a:=⟨_,rfl⟩;have c1:=toA_cell' hD.1 hkl;rw [upd_same,ha] at c1;have fx:=toA_frozen' hD.1 k;have hDn:=hD.set htw hkl (a+1);have hlast:=HLAST.out;rw [ha,upd_upd] at hlast;rw [hlast] at hDn;have hal:a+1 <= k+1:=by
      have h1:=congrFun hlast k;rw [upd_same,dk_lt l (Nat.lt_succ_self k)] at h1;rw [h1];exact dep_le _ _ _
     have HDN:=Yd hDn;clear hDn hlast hD hkeep ha;go_wp2_with fail;go_roundw
     case rel =>
      refine ⟨k+1,by omega,by go_num,?_⟩;exact HDN.out
     case measure=>simp [intOf]; omega
  ·obtain rfl:k=l.length:=by omega
   have hld:wo.cell? ⟨tb,l.length-1,none⟩=some (.int .i64 (depP l (l.length-1):Nat)):=by
    rw [cell_of_row _ _ _ _ _ _ hD.1,toA_at _ _ _ (by omega),dk_lt l (by omega)]
   have hx1:((l.length-1:Nat):Int)=(l.length:Int)-1:=by omega
   have hx2:((l.length:Int)-1).toNat=l.length-1:=by omega
   have hx3:(0:Int) <= (l.length:Int)-1:=by omega
   have HD:=Yd hD;clear hD;go_wp2_with fail;go_ret2;exact ⟨rfl,HD.out.2⟩
end flatw

/- burnishref20: the walks of Used and Depth. Conditions: the nodes lie in memory. -/
namespace tfw
open Go.RowKit
open Go.BigFrame
open nodew
open chkw
open flatm
open flatw
open rg
theorem rused_any (l:List Nd) (hok:∀ n∈l,n.ok) (hll:l.length <= 1000000000000) (v:Value) (w:World) (hn:NArg w w.heap.size v l) :
  Calls Tryz.prog 23 #[v] w (RowPost w (usedP l)):=by
 have hrt:=refright_any w.heap.size v l hok hll w hn.read (Nat.le_refl _);obtain ⟨A,c,rfl⟩:=hn.form;have HRT:=Yd hrt;have HN:=Yd hn;have HOK:=Yd hok;clear hrt hn hok;unfold usedP
 cases hr:rightP l with
 | false =>
  rw [hr] at HRT;rw [if_neg (by simp)];go_enter Tryz.func23,Tryz.ntmps23;go_wp2_with (go_at_call 39; (with_reducible refine HRT.out.mono ?_); rintro e w' ⟨rfl,hB⟩);go_ret;exact ⟨_,rfl,World.ownsRow_nil _ _ _ _,hB⟩
 | true =>
  rw [hr] at HRT;rw [if_pos rfl];obtain ⟨_,h0,h4⟩:=right_nodes hr;have HR:=Yd hr;clear hr;obtain ⟨m,hm⟩:∃ m,l.length=m+1:=⟨l.length-1,by omega⟩;have hmi:(l.length:Int)-1=(m:Int):=by omega
  have HM:=Yd hm;have HW:=Yd (fun (u:World) (h:Below w.heap.size w u)=>way_any l HOK.out HR.out u.heap.size A c l.length m (by omega) (by omega) [] (.slice none 0 0) u List.nodup_nil (fun y hy=>by cases hy) (World.ownsRow_nil _ _ _ _) ((HN.out.ext h).mono h.size) (Nat.le_refl _));have hord:wayF (nth l) l.length m []=ordP l:=by
   have:=way_ord l (right_ac HR.out) h0;rw [show l.length-1=m by omega] at this;exact this
  rw [hord] at HW;clear hord hm;go_enter Tryz.func23,Tryz.ntmps23;go_wp2_with (first
   | (go_at_call 39; (with_reducible refine HRT.out.mono ?_); rintro e w1 ⟨rfl,hB⟩; have HB:=Yd hB; clear hB)
   | (go_at_call 45; (with_reducible refine (HW.out _ HB.out).mono ?_); rintro e w2 ⟨o,rfl,ho,hb⟩; have HO:=Yd ho; have HB2:=Yd hb; clear ho hb))
  go_ret;exact ⟨_,rfl,HO.out.mono HB.out.size,HB.out.trans (HB2.out.mono HB.out.size)⟩
theorem dk_next (l:List Nd) (k:Nat):upd (dk l k) k (depP l k)=dk l (k+1):=by
 funext i
 by_cases e:i=k
 ·subst e;rw [upd_same,dk_lt l (Nat.lt_succ_self _)]
 ·rw [upd_ne _ _ _ _ e];unfold dk
  by_cases h:i<k
  ·rw [if_pos h,if_pos (by omega)]
  ·rw [if_neg h,if_neg (by omega)]
theorem dep_bd (l:List Nd) (x:Nat):1 <= depP l x∧depP l x <= x+1:=⟨Nat.succ_le_succ (Nat.zero_le _),dep_le _ _ _⟩
theorem ds_drewN {tb n:Nat} {w:World} {tm:Nat -> Nat} {W:World} (h:DS tb n w tm W) (k:Nat):DS tb n w tm (W.drewN k):=⟨h.1,⟨h.2.os,h.2.tape,h.2.output,h.2.size,h.2.block⟩⟩
theorem rdepth_any (l:List Nd) (hok:∀ n∈l,n.ok) (hr:rightP l=true) (v:Value) (w:World) (hn:NArg w w.heap.size v l) :
  Calls Tryz.prog 18 #[v] w (DepPost w (depP l (l.length-1):Nat) 0):=by
 obtain ⟨_,h0,h4⟩:=right_nodes hr;have hrt:=refright_any w.heap.size v l hok (by omega) w hn.read (Nat.le_refl _);obtain ⟨A,c,rfl⟩:=hn.form;rw [hr] at hrt;have HRT:=Yd hrt;have HN:=Yd hn;have HR:=Yd hr;have HOK:=Yd hok;clear hrt hn hok hr;have hNi:(l.length:Int) <= 4096:=by omega
 have hN1:(1:Int) <= (l.length:Int):=by omega
 go_enter Tryz.func18,Tryz.ntmps18;go_upto_region 3 with (go_at_call 39; (with_reducible refine HRT.out.mono ?_); rintro e W1 ⟨rfl,hB1⟩);obtain ⟨tb,htb⟩:∃ tb,tb=W1.heap.size:=⟨_,rfl⟩;obtain ⟨W2,hW2⟩:∃ W2,W2=W1.alloc (.cells (toA l.length fun _=>0) 3):=⟨_,rfl⟩;have hmk:(Instr.makeSlice 42 (.int .i64 l.length) (.int .i64 l.length)).run Tryz.prog W1 = .ok (.slice (some ⟨tb,0,none⟩) l.length l.length) W2:=by
  rw [htb,hW2]; exact mk_int l.length h4 W1
 have hd2:DS tb l.length w (dk l 0) W2:=by
  rw [dk_zero,hW2,htb];exact ⟨heap_alloc_new W1 _,hB1.alloc hB1.size _⟩
 have htw:w.heap.size <= tb:=by rw [htb]; exact hB1.size
 have HD2:=Yd hd2;clear hW2 htb hd2 hB1;go_wp2_with fail
 go_loopw [5] (fun i wr=>∃ k:Nat,k <= l.length∧i = .int .i64 k∧DS tb l.length w (dk l k) wr) (fun i _=>l.length-(intOf i).toNat)
 case atStart=>exact ⟨0,Nat.zero_le _,rfl,HD2.out⟩
 case round =>
  obtain ⟨k,hk,rfl,hD⟩:=hrel;obtain ⟨wo,rfl⟩:∃ wo:World,wo=wr:=⟨_,rfl⟩;have hki:(k:Int) <= (l.length:Int):=by omega
  by_cases hkl:k<l.length
  ·have hkli:(k:Int)<(l.length:Int):=by omega
   have hkL:k<l.length:=hkl;have z0:=toA_cell' hD.1 hkl;have zf:=toA_frozen' hD.1 k;rw [dk_ge l (Nat.le_refl _)] at z0;obtain ⟨W,hW⟩:∃ W,wo.setCell ⟨tb,k,none⟩ (.int .i64 1)=W:=⟨_,rfl⟩;have hDW:DS tb l.length w (upd (dk l k) k 1) W:=by
    rw [<- hW];have h0:DS tb l.length w (upd (dk l k) k 0) wo:=by rw [upd_zero]; exact hD
    exact h0.set htw hkl 1
   have HDW:=Yd hDW;clear hD hDW;go_upto_region 8 with fail
   try rw [hW]
   clear hW z0 zf;obtain ⟨g,off,rfl,hgB,hgl,q0,q17,q18⟩:=nd_at HN.out HOK.out hkL;have p0:=(HDW.out.2.cell (p:=⟨g,off+k*19,none⟩) hgB).trans q0;have p17:=(HDW.out.2.cell (p:=⟨g,off+k*19+17,none⟩) hgB).trans q17;have p18:=(HDW.out.2.cell (p:=⟨g,off+k*19+18,none⟩) hgB).trans q18;have hkI:=kidsI_right HR.out k hkL;have hac:=right_ac HR.out k hkL;have hdep:=depP_eq HR.out k hkL;have hkle:=kind_le HR.out k hkL;obtain ⟨K,hK⟩:∃ K,(nth l k).kind=K:=⟨_,rfl⟩;rw [hK] at p0 hkle;have e1:=toA_cell' HDW.out.1 hkl;rw [upd_same] at e1;have ef:=toA_frozen' HDW.out.1 k;clear q0 q17 q18
   by_cases h5:K=5
   ·obtain ⟨c1,c2,hc1,hc2,hks⟩:∃ c1 c2:Nat,(nth l k).a=(c1:Int)∧(nth l k).b=(c2:Int)∧kids (nth l k)=[c1,c2]:=by
     unfold kidsI kids at hkI;rw [hK,if_pos h5,if_pos h5] at hkI;simp only [List.map_cons,List.map_nil,List.cons.injEq,and_true] at hkI;exact ⟨_,_,hkI.1,hkI.2,by unfold kids; rw [hK,if_pos h5]⟩
    have hl1:=hac c1 (by rw [hks]; simp);have hl2:=hac c2 (by rw [hks]; simp);rw [hks] at hdep;rw [hc1] at p17;rw [hc2] at p18;have hd1:=dep_bd l c1;have hd2:=dep_bd l c2;have e2:=toA_cell' HDW.out.1 (x:=c1) (by omega);rw [upd_ne _ _ _ _ (by omega),dk_lt l hl1] at e2;obtain ⟨a,ha⟩:∃ a,depP l c1=a:=⟨_,rfl⟩;obtain ⟨b,hb⟩:∃ b,depP l c2=b:=⟨_,rfl⟩;rw [ha] at e2 hd1;rw [hb] at hd2;obtain ⟨s,hs⟩:∃ s,a+1=s:=⟨_,rfl⟩;have hsi:(a:Int)+1=(s:Int):=by omega
    have hdk:depP l k=max a b+1:=by
     rw [hdep];show max (max 0 (depP l c1)) (depP l c2)+1=_;rw [ha,hb];omega
    have HDK:=Yd hdk;have HB:=Yd hb;have a1:(5:Int) <= (K:Int):=by omega
    have a2:((K:Int) == 5)=true:=Yt (by omega)
    have a3:(1:Int) <= (a:Int):=by omega
    have a4:(a:Int) <= 4096:=by omega
    have b4:(b:Int) <= 4096:=by omega
    have l1:(c1:Int)<(l.length:Int):=by omega
    have l2:(c2:Int)<(l.length:Int):=by omega
    clear hks hdep hkI hac hd1 hd2 ha hb hdk hc1 hc2 hK h5 hkle;go_quiet (fail);rename_i nq;go_upto_region 10 with fail;obtain ⟨X,hX⟩:∃ X,(W.drewN nq).setCell ⟨tb,k,none⟩ (.int .i64 (s:Int))=X:=⟨_,rfl⟩;have hDX:DS tb l.length w (upd (dk l k) k s) X:=by rw [<- hX]; exact (ds_drewN HDW.out nq).set htw hkl s
    try rw [hX]
    have r0:=(hDX.2.cell (p:=⟨g,off+k*19,none⟩) hgB).trans ((HDW.out.2.cell (p:=⟨g,off+k*19,none⟩) hgB).symm.trans p0);have r18:=(hDX.2.cell (p:=⟨g,off+k*19+18,none⟩) hgB).trans ((HDW.out.2.cell (p:=⟨g,off+k*19+18,none⟩) hgB).symm.trans p18);have f1:=toA_cell' hDX.1 hkl;rw [upd_same] at f1;have f2:=toA_cell' hDX.1 (x:=c2) (by omega);rw [upd_ne _ _ _ _ (by omega),dk_lt l hl2,HB.out] at f2;have ff:=toA_frozen' hDX.1 k;have HDX:=Yd hDX;clear hX hDX e1 e2 ef p0 p17 p18 HDW HB
    by_cases hab:s <= b
    ·have habi:(s:Int) <= (b:Int):=by omega
     obtain ⟨t,ht⟩:∃ t,b+1=t:=⟨_,rfl⟩;have hti:(b:Int)+1=(t:Int):=by omega
     have HFIN:=Yd (show depP l k=t by rw [HDK.out]; omega);clear hab hs ht;go_quiet (fail);go_wp2_with fail;refine ⟨⟨k+1,by omega,by go_num,?_⟩,by simp only [intOf]; omega⟩;rw [<- dk_next,HFIN.out];exact (ds_drewN HDX.out _).set htw hkl t
    ·have habi:¬ (s:Int) <= (b:Int):=by omega
     have hbsi:(b:Int)<(s:Int):=by omega
     have HFIN:=Yd (show depP l k=s by rw [HDK.out]; omega);clear hab hs;go_quiet (fail);go_wp2_with fail;refine ⟨⟨k+1,by omega,by go_num,?_⟩,by simp only [intOf]; omega⟩;rw [<- dk_next,HFIN.out];exact ds_drewN HDX.out _
   have a5:((K:Int) == 5)=false:=Yf (by omega)
   by_cases h6:K=6
   ·obtain ⟨c1,hc1,hks⟩:∃ c1:Nat,(nth l k).a=(c1:Int)∧kids (nth l k)=[c1]:=by
     unfold kidsI kids at hkI;rw [hK,if_neg h5,if_pos h6,if_neg h5,if_pos h6] at hkI;simp only [List.map_cons,List.map_nil,List.cons.injEq,and_true] at hkI;exact ⟨_,hkI,by unfold kids; rw [hK,if_neg h5,if_pos h6]⟩
    have hl1:=hac c1 (by rw [hks]; simp);rw [hks] at hdep;rw [hc1] at p17;have hd1:=dep_bd l c1;have e2:=toA_cell' HDW.out.1 (x:=c1) (by omega);rw [upd_ne _ _ _ _ (by omega),dk_lt l hl1] at e2;obtain ⟨a,ha⟩:∃ a,depP l c1=a:=⟨_,rfl⟩;rw [ha] at e2 hd1;obtain ⟨s,hs⟩:∃ s,a+1=s:=⟨_,rfl⟩;have hsi:(a:Int)+1=(s:Int):=by omega
    have HFIN:=Yd (show depP l k=s by
     rw [hdep];show max 0 (depP l c1)+1=_;rw [ha];omega)
    have a1:(5:Int) <= (K:Int):=by omega
    have a3:(1:Int) <= (a:Int):=by omega
    have a4:(a:Int) <= 4096:=by omega
    have l1:(c1:Int)<(l.length:Int):=by omega
    clear hks hdep hkI hac hd1 ha hc1 hK h5 h6 hkle hs;go_quiet (fail);rename_i nq;go_upto_region 10 with fail;obtain ⟨X,hX⟩:∃ X,(W.drewN nq).setCell ⟨tb,k,none⟩ (.int .i64 (s:Int))=X:=⟨_,rfl⟩;have hDX:DS tb l.length w (upd (dk l k) k s) X:=by rw [<- hX]; exact (ds_drewN HDW.out nq).set htw hkl s
    try rw [hX]
    have r0:=(hDX.2.cell (p:=⟨g,off+k*19,none⟩) hgB).trans ((HDW.out.2.cell (p:=⟨g,off+k*19,none⟩) hgB).symm.trans p0);have HDX:=Yd hDX;clear hX hDX e1 e2 ef p0 p17 p18 HDW;go_quiet (fail);go_wp2_with fail;refine ⟨⟨k+1,by omega,by go_num,?_⟩,by simp only [intOf]; omega⟩;rw [<- dk_next,HFIN.out];exact ds_drewN HDX.out _
   ·have hks:kids (nth l k)=[]:=by unfold kids; rw [hK,if_neg h5,if_neg h6]
    rw [hks] at hdep;have HFIN:=Yd (show depP l k=1 from hdep);have a1:¬ (5:Int) <= (K:Int):=by omega
    have a1':(K:Int)<5:=by omega
    clear hks hdep hkI hac hK h5 h6 hkle;go_quiet (fail);rename_i nq;go_upto_region 10 with fail;obtain ⟨X,hX⟩:∃ X,W.drewN nq=X:=⟨_,rfl⟩;have hDX:DS tb l.length w (upd (dk l k) k 1) X:=by rw [<- hX]; exact ds_drewN HDW.out nq
    try rw [hX]
    have r0:=(hDX.2.cell (p:=⟨g,off+k*19,none⟩) hgB).trans ((HDW.out.2.cell (p:=⟨g,off+k*19,none⟩) hgB).symm.trans p0);have HDX:=Yd hDX;clear hX hDX e1 ef p0 p17 p18 HDW;go_quiet (fail);go_wp2_with fail;refine ⟨⟨k+1,by omega,by go_num,?_⟩,by simp only [intOf]; omega⟩;rw [<- dk_next,HFIN.out];exact ds_drewN HDX.out _
  ·obtain rfl:k=l.length:=by omega
   obtain ⟨m,hm⟩:∃ m,l.length=m+1:=⟨l.length-1,by omega⟩;have c1:=toA_cell' hD.1 (x:=m) (by omega);rw [dk_lt l (by omega)] at c1;have hmi:(l.length:Int)-1=(m:Int):=by omega
   have hmk2:(m:Int)<(l.length:Int):=by omega
   have HM:=Yd (show l.length-1=m by omega);have HD:=Yd hD.2;clear hm hD;go_wp2_with fail;go_ret2;rw [HM.out];exact ⟨rfl,HD.out⟩
end tfw

/- Steps of a body of a range, inside its round: a node is made, stored, read. No conditions but those stated. -/
namespace flatw
open Go.RowKit Go.Shelf
open nodew
open chkw
open flatm
section
variable {F:Fence} {n:Nat} {ops:Array Oper} {rest:List Oper} {o:Oper} {a:Act} {w w':World} {Q:Exit -> Act -> World -> Prop}
theorem wli_load (hgd:o.guard=none) (x:Operand) (ho:o.op = .load 49 x) (ad:Value) (hx:a.eval x=ad) (nd:Nd)
  (hl:(Instr.loadAt 49 ad).run Tryz.prog w = .ok nd.val w) (h:wpListIn F n Tryz.prog ops Q rest (a.put o.dst nd.val) w):wpListIn F n Tryz.prog ops Q (o :: rest) a w:=by
 refine wpListIn_plain hgd fun K hK => ?_;have hr:(execOp a.eval o).run Tryz.prog w = .ok (.value nd.val) w:=by
  unfold execOp;simp only [ho,hx,hl,Sem.run_bind,Sem.run_pure,Result.andThen_ok]
 unfold Oper.wpIn;refine ⟨by simp [Oper.about,ho],?_⟩;rw [Oper.semAt_plain F _ _ (by rw [ho]; intro c hc'; cases hc'),hr];exact hK _ _ h
theorem wli_alloc (hgd:o.guard=none) (ho:o.op = .alloc 49)
  (h:wpListIn F n Tryz.prog ops Q rest (a.put o.dst (pt w.heap.size 0)) (w.alloc (.cells zcells 49))):wpListIn F n Tryz.prog ops Q (o :: rest) a w:=by
 refine wpListIn_plain hgd fun K hK => ?_;unfold Oper.wpIn;refine ⟨by simp [Oper.about,ho],?_⟩;rw [Oper.semAt_plain F _ _ (by rw [ho]; intro c hc'; cases hc'),exec_alloc_nd ho a w];exact hK _ _ h
theorem wli_store_new (hgd:o.guard=none) (x y:Operand) (ho:o.op = .store 49 x y) {u:World} (nd:Nd) (hx:a.eval x=pt u.heap.size 0) (hy:a.eval y=nd.val)
  (h:wpListIn F n Tryz.prog ops Q rest (a.put o.dst undef) (u.alloc (.cells nd.cells.toArray 49))):wpListIn F n Tryz.prog ops Q (o :: rest) a (u.alloc (.cells zcells 49)):=by
 refine wpListIn_plain hgd fun K hK => ?_;have hr:(Instr.storeAt 49 (.pointer (some ⟨u.heap.size,0,none⟩)) (.agg nd.cells.toArray)).run Tryz.prog (u.alloc (.cells zcells 49)) = .ok () (u.alloc (.cells nd.cells.toArray 49)) :=
  run_storeAt_new u 49 zcells nd.cells.toArray (nd_info nd) (by rw [nd_size]; rfl) (nd_one nd)
 have hx':a.eval x = .pointer (some ⟨u.heap.size,0,none⟩):=hx;have hy':a.eval y = .agg nd.cells.toArray:=hy;unfold Oper.wpIn;refine ⟨by simp [Oper.about,ho],?_⟩;rw [Oper.semAt_plain F _ _ (by rw [ho]; intro c hc'; cases hc')];unfold execOp;simp only [ho,hx',hy',hr,Sem.run_bind,Sem.run_pure,Result.andThen_ok];exact hK _ _ h
end
end flatw

/- Flat's state turned: a place is stored, a new node is put down. No conditions but those stated. -/
namespace flatw
open Go.RowKit Go.Shelf
open nodew
open chkw
open flatm
section
variable {F:Fence} {n:Nat} {ops:Array Oper} {rest:List Oper} {o:Oper} {a:Act} {w w':World} {Q:Exit -> Act -> World -> Prop}
theorem wli_lookup (hgd:o.guard=none) (x y:Operand) (ho:o.op = .lookup 73 x y true) (mv kv:Value) (hx:a.eval x=mv) (hy:a.eval y=kv) (v:Value)
  (hl:(Instr.lookup 73 mv kv true).run Tryz.prog w = .ok v w) (h:wpListIn F n Tryz.prog ops Q rest (a.put o.dst v) w):wpListIn F n Tryz.prog ops Q (o :: rest) a w:=by
 refine wpListIn_plain hgd fun K hK => ?_;have hr:(execOp a.eval o).run Tryz.prog w = .ok (.value v) w:=by
  unfold execOp;simp only [ho,hx,hy,hl,Sem.run_bind,Sem.run_pure,Result.andThen_ok]
 unfold Oper.wpIn;refine ⟨by simp [Oper.about,ho],?_⟩;rw [Oper.semAt_plain F _ _ (by rw [ho]; intro c hc'; cases hc'),hr];exact hK _ _ h
theorem wli_update (hgd:o.guard=none) (x y z:Operand) (ho:o.op = .mapUpdate 73 x y z) (mv kv pv:Value) (hx:a.eval x=mv) (hy:a.eval y=kv) (hz:a.eval z=pv)
  (hl:(Instr.mapUpdate 73 mv kv pv).run Tryz.prog w = .ok () w') (h:wpListIn F n Tryz.prog ops Q rest (a.put o.dst undef) w'):wpListIn F n Tryz.prog ops Q (o :: rest) a w:=by
 refine wpListIn_plain hgd fun K hK => ?_;unfold Oper.wpIn;refine ⟨by simp [Oper.about,ho],?_⟩;rw [Oper.semAt_plain F _ _ (by rw [ho]; intro c hc'; cases hc')];unfold execOp;simp only [ho,hx,hy,hz,hl,Sem.run_bind,Sem.run_pure,Result.andThen_ok];exact hK _ _ h
theorem wli_bs (hgd:o.guard=none) (x:Operand) (ho:o.op = .buildSlice 34 1 #[(0,x)]) (nd:Nd) (hx:a.eval x=nd.val)
  (h:wpListIn F n Tryz.prog ops Q rest (a.put o.dst (.slice (some ⟨w.heap.size,0,none⟩) 1 1)) (w.alloc (.cells nd.cells.toArray 49))):wpListIn F n Tryz.prog ops Q (o :: rest) a w:=by
 refine wpListIn_plain hgd fun K hK => ?_;have hr:(execOp a.eval o).run Tryz.prog w = .ok (.value (.slice (some ⟨w.heap.size,0,none⟩) 1 1)) (w.alloc (.cells nd.cells.toArray 49)):=by
  unfold execOp;simp only [ho,Sem.run_bind,List.map_toArray,List.map_cons,List.map_nil,hx,bs_run,Result.andThen_ok,Sem.run_pure]
 unfold Oper.wpIn;refine ⟨by simp [Oper.about,ho],?_⟩;rw [Oper.semAt_plain F _ _ (by rw [ho]; intro c hc'; cases hc'),hr];exact hK _ _ h
end
theorem not_footR {n0 bs t e size k:Nat} {xs:List Value} {W:World} (h:HR n0 bs t e size k xs W) {b:Nat} (hne:b≠bs) {p:Obj} (hb:W.heap[b]? = some p) (hp:∀ cs fr,p ≠ .cells cs e fr):¬ footR bs W b:=by
 rintro (rfl | ⟨u,hu,hf⟩)
 ·exact hne rfl
 ·obtain ⟨v,hv,ho⟩:=h;rw [hv.cell] at hu;obtain rfl:=Option.some.inj hu
  rcases ho.2 with ⟨rfl,_⟩ | ⟨g,cap,cur,rfl,_,hh,_⟩
  ·cases hf
  ·have:g=b:=by simpa [Value.ownBlock] using hf
   subst this;rw [hh] at hb;injection hb with hb;exact hp _ _ hb.symm
theorem HR.grow {n0 bs t e size k k':Nat} {xs xs':List Value} {W w1:World} {v v':Value} {tmp:Obj} (hte:t≠e) (hv:Boxed W bs t v) (ho:W.ownsRow n0 e size v k xs)
  (hg:(W.alloc tmp).grownBy w1 v.ownBlock) (ho':w1.ownsRow n0 e size v' k' xs') (hvb:v'.ownBlock=v.ownBlock∨v'.ownBlock=some (W.alloc tmp).heap.size) :
  HR n0 bs t e size k' xs' (w1.setCell ⟨bs,0,none⟩ v')∧W.heap.size <= (w1.setCell ⟨bs,0,none⟩ v').heap.size∧(∀ i,i<W.heap.size -> ¬ footR bs W i -> (w1.setCell ⟨bs,0,none⟩ v').heap[i]? = W.heap[i]?) ∧
   (∀ i,footR bs (w1.setCell ⟨bs,0,none⟩ v') i -> footR bs W i∨W.heap.size <= i)∧Boxed w1 bs t v:=by
 have hv1:Boxed w1 bs t v:=(hv.alloc tmp).kept hg (hv.not_row hte ho);have hbs:some bs≠v'.ownBlock:=hv1.not_row hte ho';have hz:(w1.setCell ⟨bs,0,none⟩ v').heap.size=w1.heap.size:=by simp
 have hW1:W.heap.size<w1.heap.size:=by have:=hg.size; rw [World.size_alloc] at this; omega
 have hv2:Boxed (w1.setCell ⟨bs,0,none⟩ v') bs t v':=hv1.set v';refine ⟨⟨v',hv2,ho'.kept (grownBy_setCell' w1 bs v') ?_⟩,by omega,fun i hi hf => ?_,fun i hf => ?_,hv1⟩
 ·cases h:v'.ownBlock with
  | none=>exact .inl rfl
  | some g=>exact .inr fun e=>hbs (by rw [h,e])
 ·rw [Below.heap_setCell w1 ⟨bs,0,none⟩ v' i (fun e=>hf (.inl e)),hg.block i (by rw [World.size_alloc]; omega) (fun e=>hf (.inr ⟨v,hv.cell,e.symm⟩)),Below.heap_alloc W tmp i hi]
 ·rcases hf with rfl | ⟨u,hu,hf⟩
  ·exact .inl (.inl rfl)
  ·rw [hv2.cell] at hu;obtain rfl:=Option.some.inj hu
   rcases hvb with h | h
   ·exact .inl (.inr ⟨v,hv.cell,h.symm.trans hf⟩)
   ·rw [hf] at h;have:=Option.some.inj h;rw [World.size_alloc] at this;exact .inr (by omega)
theorem tb_ne {W:World} {b tb:Nat} {p:Obj} {n:Nat} {tm:Nat -> Nat} (hb:W.heap[b]? = some p) (ht:W.heap[tb]? = some (.cells (toA n tm) 3 (0,0))) (hp:∀ cs fr,p ≠ .cells cs 3 fr):b≠tb:=by
 rintro rfl;rw [hb] at ht;injection ht with ht;exact hp _ _ ht
theorem FSt.to {n0 b1 mb b4 tb b5 bo n:Nat} {v:Value} {w:World} {s:FS} {W:World} (h:FSt n0 b1 mb b4 tb b5 bo n v w s W) (h0:n0 <= w.heap.size) (ht:n0 <= tb) {x:Nat} (hx:x<n) (k:Nat) :
  FSt n0 b1 mb b4 tb b5 bo n v w ⟨upd s.tm x k,s.out⟩ (W.setCell ⟨tb,x,none⟩ (.int .i64 (k:Int)))∧(∀ i,footR bo (W.setCell ⟨tb,x,none⟩ (.int .i64 (k:Int))) i -> footR bo W i):=by
 have hg:W.grownBy (W.setCell ⟨tb,x,none⟩ (.int .i64 (k:Int))) (some tb):=⟨rfl,rfl,rfl,by simp,fun i hi hne=>Below.heap_setCell W ⟨tb,x,none⟩ _ i (fun e=>hne (by rw [e]))⟩;obtain ⟨es,c,hm,_⟩:=h.hm;have hto:tb≠bo:=by
  obtain ⟨u,hu,_⟩:=h.row;exact fun e=>tb_ne hu h.ht (by intro cs fr e; injection e with _ e _; exact absurd e (by decide)) e.symm
 obtain ⟨r1,r2⟩:=h.row.own hg (fun r e=>by
  obtain rfl:=Option.some.inj e;exact not_footR h.row hto h.ht (by intro cs fr e; injection e with _ e _; exact absurd e (by decide)))
 have n1:=tb_ne h.h1 h.ht (by intro cs fr e; injection e with _ e _; exact absurd e (by decide));have nm:=tb_ne hm h.ht (by intro cs fr e; cases e);have n4:=tb_ne h.h4 h.ht (by intro cs fr e; injection e with _ e _; exact absurd e (by decide));have n5:=tb_ne h.h5 h.ht (by intro cs fr e; injection e with _ e _; exact absurd e (by decide));refine ⟨⟨r1,h.h1.kept hg (by simpa using n1),h.hm.keep (hg.block mb h.hm.lt (by simpa using nm)),h.h4.kept hg (by simpa using n4),?_,h.h5.kept hg (by simpa using n5),h.below.grown hg (Nat.le_trans h0 h.below.size) (fun r e=>by obtain rfl:=Option.some.inj e; exact ht)⟩,r2⟩;rw [heap_set W tb x _ _ _ _ h.ht,toA_set _ _ _ _ hx]
theorem FSt.add {n0 b1 mb b4 tb b5 bo n:Nat} {v:Value} {w:World} {s:FS} {W:World} (h:FSt n0 b1 mb b4 tb b5 bo n v w s W) (h0:n0 <= w.heap.size) (km:n0 <= mb) (ko:n0 <= bo) (hbo:b1≠bo) {m:Nd} {W1 w1:World} {u u':Value}
  (hm1:NM W1 mb (entsN 0 s.out ++ [(m,s.out.length)])) (hz1:W1.heap.size=W.heap.size) (hk1:∀ b,b≠mb -> W1.heap[b]? = W.heap[b]?) (ho1:W1.os=W.os) (ht1:W1.tape=W.tape) (hp1:W1.output=W.output)
  (hu:Boxed W1 bo 34 u) (ho:W1.ownsRow n0 49 19 u s.out.length (ncells s.out)) (hg:(W1.alloc (.cells m.cells.toArray 49)).grownBy w1 u.ownBlock)
  (ho':w1.ownsRow n0 49 19 u' (s.out.length+1) (ncells s.out ++ m.cells)) (hvb:u'.ownBlock=u.ownBlock∨u'.ownBlock=some (W1.alloc (.cells m.cells.toArray 49)).heap.size) :
  FSt n0 b1 mb b4 tb b5 bo n v w ⟨s.tm,s.out ++ [m]⟩ (w1.setCell ⟨bo,0,none⟩ u')∧W.heap.size <= (w1.setCell ⟨bo,0,none⟩ u').heap.size∧(∀ i,i<W.heap.size -> ¬ footF b1 mb b4 tb b5 bo W i -> (w1.setCell ⟨bo,0,none⟩ u').heap[i]? = W.heap[i]?) ∧
   (∀ i,footR bo (w1.setCell ⟨bo,0,none⟩ u') i -> footR bo W i∨W.heap.size <= i)∧Boxed w1 bo 34 u:=by
 obtain ⟨g1,g2,g3,g4,g5⟩:=HR.grow (by decide) hu ho hg ho' hvb;obtain ⟨es,c,hmw,_⟩:=h.hm;have hmo:mb≠bo:=by
  obtain ⟨u,hu,_⟩:=h.row;rintro rfl;rw [show W.heap[mb]? = _ from hu] at hmw;injection hmw with hmw
  cases hmw
 have hr1:HR n0 bo 34 49 19 s.out.length (ncells s.out) W1:=⟨u,hu,ho⟩;have hf1:∀ i,footR bo W1 i -> footR bo W i:=by
  rintro i (rfl | ⟨v,hv,hi⟩)
  ·exact .inl rfl
  ·refine .inr ⟨v,?_,hi⟩;rw [<- hv];exact (World.cell?_of_block (a:=⟨bo,0,none⟩) (hk1 bo (fun e=>hmo e.symm))).symm
 have hnf:∀ b p,W.heap[b]? = some p -> b≠bo -> b≠mb -> (∀ cs fr,p ≠ .cells cs 49 fr) -> (w1.setCell ⟨bo,0,none⟩ u').heap[b]? = some p:=fun b p hb h1 h2 hp=>by
  have hb1:W1.heap[b]? = some p:=(hk1 b h2).trans hb;rw [g3 b (Array.getElem?_eq_some_iff.1 hb1).1 (not_footR hr1 h1 hb1 hp)];exact hb1
 have hnb:∀ b t v,Boxed W b t v -> b≠mb:=fun b t v hb e=>by
  subst e;rw [show W.heap[b]? = _ from hb] at hmw;injection hmw with hmw
  cases hmw
 have hne:∀ b t v,Boxed W b t v -> t ≠ 34 -> b≠bo:=fun b t v hb ht e=>by
  obtain ⟨u,hu,_⟩:=h.row;subst e;have hu2:W.heap[b]? = _:=hu;rw [show W.heap[b]? = _ from hb] at hu2;injection hu2 with hu2;injection hu2 with _ e _;exact ht e
 have hmb1:¬ footR bo W1 mb:=by
  obtain ⟨es1,c1,hm2,_⟩:=hm1;exact not_footR hr1 hmo hm2 (by intro cs fr e; cases e)
 have hB1:Below n0 w W1:=h.below.grown (row:=some mb) ⟨ho1,ht1,hp1,by omega,fun i hi hne=>hk1 i (fun e=>hne (by rw [e]))⟩ (Nat.le_trans h0 h.below.size) (fun r e=>by obtain rfl:=Option.some.inj e; exact km);have hB2:Below n0 w w1:=Below.grown (hB1.alloc (Nat.le_trans h0 hB1.size) _) hg (by rw [World.size_alloc]; exact Nat.le_succ_of_le (Nat.le_trans h0 hB1.size)) (fun r e=>(ho.lt r e).1);have h5t:tb≠bo:=by
  obtain ⟨u,hu,_⟩:=h.row;exact fun e=>tb_ne hu h.ht (by intro cs fr e; injection e with _ e _; exact absurd e (by decide)) e.symm
 have htm:tb≠mb:=fun e=>tb_ne hmw h.ht (by intro cs fr e; cases e) e.symm;refine ⟨⟨?_,hnf _ _ h.h1 hbo (hnb _ _ _ h.h1) (by intro cs fr e; injection e with _ e _; exact absurd e (by decide)),?_,hnf _ _ h.h4 (hne _ _ _ h.h4 (by decide)) (hnb _ _ _ h.h4) (by intro cs fr e; injection e with _ e _; exact absurd e (by decide)),
  hnf _ _ h.ht h5t htm (by intro cs fr e; injection e with _ e _; exact absurd e (by decide)),hnf _ _ h.h5 (hne _ _ _ h.h5 (by decide)) (hnb _ _ _ h.h5) (by intro cs fr e; injection e with _ e _; exact absurd e (by decide)),hB2.setCell ko _⟩,by omega,fun i hi hf => ?_,fun i hi => ?_,g5⟩
 ·show HR n0 bo _ _ 19 (s.out ++ [m]).length (ncells (s.out ++ [m])) _;rw [ncells_snoc,List.length_append];exact g1
 ·show NM _ mb (entsN 0 (s.out ++ [m]));rw [entsN_app,Nat.zero_add];exact hm1.keep (g3 mb hm1.lt hmb1)
 ·rw [g3 i (by omega) (fun h=>hf (.inl (hf1 i h))),hk1 i (fun e=>hf (.inr (.inr (.inl e))))]
 ·rcases g4 i hi with h | h
  ·exact .inl (hf1 i h)
  ·exact .inr (by omega)
theorem FSt.put_map {n0 b1 mb b4 tb b5 bo n:Nat} {v:Value} {w:World} {s:FS} {W:World} (h:FSt n0 b1 mb b4 tb b5 bo n v w s W) {m:Nd} (hk:lookN (entsN 0 s.out) m=none) :
  ∃ Wm,(Instr.mapUpdate 73 (.map (some mb)) m.val (.int .i64 (s.out.length:Nat))).run Tryz.prog W = .ok () Wm∧NM Wm mb (entsN 0 s.out ++ [(m,s.out.length)])∧Wm.heap.size=W.heap.size∧(∀ b,b≠mb -> Wm.heap[b]? = W.heap[b]?)∧Wm.os=W.os∧Wm.tape=W.tape∧Wm.output=W.output ∧
   (∀ u,Boxed W bo 34 u -> W.ownsRow n0 49 19 u s.out.length (ncells s.out) -> Boxed Wm bo 34 u∧Wm.ownsRow n0 49 19 u s.out.length (ncells s.out)) ∧ ∀ nb nd,NBlk W nb nd -> NBlk Wm nb nd:=by
 obtain ⟨Wm,h1,h2,h3,h4,h5,h6,h7⟩:=h.hm.store m s.out.length hk;obtain ⟨es,c,hmw,_⟩:=h.hm;have hg:W.grownBy Wm (some mb):=⟨h5,h6,h7,by omega,fun i hi hne=>h4 i (fun e=>hne (by rw [e]))⟩;have hnm:∀ b cs t fr,W.heap[b]? = some (.cells cs t fr) -> b≠mb:=fun b cs t fr hb e=>by
  subst e;rw [hb] at hmw;injection hmw with hmw
  cases hmw
 refine ⟨Wm,h1,h2,h3,h4,h5,h6,h7,fun u hu ho=>⟨hu.kept hg (by have:=hnm _ _ _ _ hu; simpa using this),ho.kept hg ?_⟩,fun nb nd hn=>(h4 nb (hnm _ _ _ _ hn)).trans hn⟩
 cases hvo:u.ownBlock with
 | none=>exact .inl rfl
 | some g =>
  refine .inr fun e => ?_;obtain rfl:=Option.some.inj e;refine not_footR h.row (hnm _ _ _ _ hu).symm hmw (by intro cs fr e; cases e) (.inr ⟨u,hu.cell,hvo⟩)
theorem cells_nd (W:World) (m:Nd):∀ j u,m.cells[j]? = some u -> (W.alloc (.cells m.cells.toArray 49)).cell? ((⟨W.heap.size,0,none⟩:Addr).add j)=some u:=by
 intro j u hu;have hadd:(⟨W.heap.size,0,none⟩:Addr).add j=⟨W.heap.size,j,none⟩:=by unfold Addr.add; split <;> simp_all
 rw [hadd,cell_of_row _ _ _ _ _ _ (heap_alloc_new W _)];simpa using hu
def CutR (n0 b1 mb b4 tb b5 bo n:Nat) (v:Value) (w:World) (st:FS) (nd:Nd) (W W':World):Prop :=
 FSt n0 b1 mb b4 tb b5 bo n v w st W'∧NBlk W' W.heap.size (remap st.tm nd)∧W.grownBy W' none ∧ ∀ i,footR bo W' i -> footR bo W i
theorem cut_mk {n0 b1 mb b4 tb b5 bo n:Nat} {v:Value} {w:World} {st:FS} {W Wb Wd:World} (l:List Nd) (nd n0d:Nd) (h:FSt n0 b1 mb b4 tb b5 bo n v w st W) (hn:n0 <= w.heap.size) (k1:n0 <= b1) (km:n0 <= mb) (k4:n0 <= b4) (kt:n0 <= tb) (k5:n0 <= b5) (ko:n0 <= bo)
  (hb:W.grownBy Wb none) (hnb:NBlk Wb W.heap.size n0d) (hd:Wb.grownBy Wd (some W.heap.size)) (hm:NBlk Wd W.heap.size (remap st.tm nd)):CutR n0 b1 mb b4 tb b5 bo n v w st nd W Wd:=by
 have hF:=footFS n0 b1 mb b4 tb b5 bo n v w l st hn k1 km k4 kt k5 ko;obtain ⟨hIb,hfb⟩:=hF.own [] W Wb none h hb (fun r e=>by cases e);have hfr:=(h.row.own hb (fun r e=>by cases e)).2;have hnf:¬ footF b1 mb b4 tb b5 bo Wb W.heap.size:=fun hf=>by
  have:=(hF.size [] W _ h (hfb _ hf)).2;omega
 have hpr:Priv (footF b1 mb b4 tb b5 bo) Wb W.heap.size:=⟨⟨_,_,_,hnb⟩,hnf⟩;obtain ⟨hId,hfd⟩:=hF.own [] Wb Wd (some W.heap.size) hIb hd (fun r e=>by obtain rfl:=Option.some.inj e; exact ⟨Nat.le_trans hn h.below.size,hpr⟩);have hfr2:=(hIb.row.own hd (fun r e=>by obtain rfl:=Option.some.inj e; exact fun hf=>hnf (.inl hf))).2;refine ⟨hId,hm,⟨hd.os.trans hb.os,hd.tape.trans hb.tape,hd.output.trans hb.output,Nat.le_trans hb.size hd.size,fun i hi _ => ?_⟩,fun i hi=>hfr i (hfr2 i hi)⟩;rw [hd.block i (Nat.lt_of_lt_of_le hi hb.size) (fun e=>by have:=Option.some.inj e; omega),hb.block i hi (by simp)]
theorem step_some {p:Nat -> Nd} {s:FS} {x k:Nat} {m:Nd} (hm:remap s.tm (p x)=m) (h:idxN s.out m=some k):stepF p s x=⟨upd s.tm x k,s.out⟩:=by
 subst hm;unfold stepF;rw [h]
theorem step_none {p:Nat -> Nd} {s:FS} {x:Nat} {m:Nd} (hm:remap s.tm (p x)=m) (h:idxN s.out m=none):stepF p s x=⟨upd s.tm x s.out.length,s.out ++ [m]⟩:=by
 subst hm;unfold stepF;rw [h]
theorem toA_cell {W:World} {tb n x:Nat} {tm:Nat -> Nat} (h:W.heap[tb]? = some (.cells (toA n tm) 3 (0,0))) (hx:x<n):W.cell? ⟨tb,x,none⟩=some (.int .i64 (tm x:Nat)):=by rw [cell_of_row _ _ _ _ _ _ h]; exact toA_at _ _ _ hx
theorem toA_frozen {W:World} {tb n:Nat} {tm:Nat -> Nat} (h:W.heap[tb]? = some (.cells (toA n tm) 3 (0,0))) (x:Nat):W.frozen? ⟨tb,x,none⟩=false:=by simp [World.frozen?,h]
theorem nblk_frozen {W:World} {b:Nat} {m:Nd} (h:NBlk W b m) (j:Nat):W.frozen? ⟨b,j,none⟩=false:=by
 have h':W.heap[b]? = some (.cells m.cells.toArray 49 (0,0)):=h;simp [World.frozen?,h']
theorem set_keep (W:World) (b j:Nat) (v:Value) (_hb:b<W.heap.size):W.grownBy (W.setCell ⟨b,j,none⟩ v) (some b):=⟨rfl,rfl,rfl,by simp,fun i _ hne=>Below.heap_setCell W ⟨b,j,none⟩ v i (fun e=>hne (by rw [e]))⟩
end flatw
end Go.Proofs.YtcbgkbidgpemfaaGreatDoor
