/- burnishref17.Parse is parse.Parse. Conditions: as each theorem states. -/
import Derived.Test.YtcbgkbidgpemfaaGreatDoorMf00
import Derived.Test.YtcbgkbidgpemfaaGreatDoorMf32
import Derived.Test.YtcbgkbidgpemfaaGreatDoorMf01
import Derived.Test.YtcbgkbidgpemfaaGreatDoorMf29
import Derived.Test.YtcbgkbidgpemfaaGreatDoorMf27
namespace Go.Proofs.YtcbgkbidgpemfaaGreatDoor
set_option maxRecDepth 100000
set_option maxHeartbeats 4000000
namespace rg
open Go.RowKit
open parw
open lexw
attribute [local go_sem] run_store_float
theorem refL_cons {dec:ByteArray -> Nat × Nat} {en:Int} (f:Nat) (t:PTok) (r:List PTok) (out:List PStmt):refL dec en (f+1) (t :: r) out=if t.kind=4 then refL dec en f r out else match lineL dec en (t :: r) 0 0 0 st0 with
  | .inl (s,rest)=>refL dec en f rest (out ++ [s])
  | .inr (p,e)=>([],p,e):=rfl
theorem refL_nil {dec:ByteArray -> Nat × Nat} {en:Int} (f:Nat) (out:List PStmt):refL dec en f [] out=(out,0,0):=by
 cases f <;> rfl
theorem line_more {dec:ByteArray -> Nat × Nat} {en:Int}:∀ (l:List PTok) (i nb wd:Nat) (s s':PStmt) (rest:List PTok),¬ 3+nb+wd+1 <= i -> lineL dec en l i nb wd s = .inl (s',rest) -> rest.length<l.length
 | [],i,nb,wd,s,s',rest,hi,h=>by rw [line_out _ _ _ _ hi] at h; cases h
 | t :: r,i,nb,wd,s,s',rest,hi,h=>by
  have key:∀ j nb wd s,lineL dec en r j nb wd s = .inl (s',rest) -> rest.length<(t :: r).length:=fun j nb wd s h=>by
   by_cases hj:3+nb+wd+1 <= j
   ·rw [line_done _ _ _ _ _ hj] at h;injection h with h;obtain ⟨-,h2⟩:=Prod.mk.inj h;rw [<- h2];simp
   ·have:=line_more r j nb wd s s' rest hj h;rw [List.length_cons];omega
  rw [line_step _ _ _ _ _ _ hi] at h
  repeat' split at h
  all_goals first | exact key _ _ _ _ h | cases h
theorem prow_below {w W:World} {v:Value} {L:List PTok} (h:PRow w w.heap.size v L) (hb:Below w.heap.size w W):PRow W W.heap.size v L:=by
 obtain ⟨A,c,hv,hlc,hx⟩:=h;refine ⟨A,c,hv,hlc,fun h0 => ?_⟩;obtain ⟨g,off,hA,hg,hc⟩:=hx h0;exact ⟨g,off,hA,by have:=hb.size; omega,fun j u hu=>(hb.cell (p:=⟨g,off+j,none⟩) hg).trans (hc j u hu)⟩
theorem parse17_any (dec:ByteArray -> Nat × Nat) (L:List PTok) (hL:L.length <= 1000000) (hd:DecR dec L) (v:Value) (w:World) (hv:PRow w w.heap.size v L) :
  Calls Tryz.prog 12 #[v] w (ParsePost w (refL dec (endOf L) (L.length+1) L [])):=by
 obtain ⟨i0,hi0,hz0,hz1,hz2⟩:=info_parts Tryz.stmtInfo;obtain ⟨RR,hRR⟩:∃ r,refL dec (endOf L) (L.length+1) L []=r:=⟨_,rfl⟩;rw [hRR];have HR:=Yd hRR;have HLN:=Yd (fun (at_:Nat) (hat:at_ <= L.length) (W:World) (h:Below w.heap.size w W)=>line_any dec L hL hd v at_ hat W (prow_below hv h));clear hRR hd;obtain ⟨A,c,rfl,hlc,hx⟩:=hv;have HX:=Yd hx;obtain ⟨en,hen⟩:∃ en,endOf L=en:=⟨_,rfl⟩;rw [hen] at HR HLN;obtain ⟨N,hN⟩:∃ N,L.length=N:=⟨_,rfl⟩;rw [hN] at hL hlc HR HLN ⊢;have HN:=Yd hN;clear hen hN hx;have hNi:(N:Int) <= 1000000:=by omega
 go_enter Tryz.func12,Tryz.ntmps12;go_wp2_with fail
 go_loopg [5,6] (N+1) (fun gk o s6 wr=>∃ (k:Nat) (out:List PStmt),k <= N∧N-k+1 <= gk∧out.length+gk <= N+1∧s6 = .int .i64 k∧SRow wr w.heap.size o out∧refL dec en gk (L.drop k) out=RR∧Below w.heap.size w wr)
 case atStart=>exact ⟨0,[],Nat.zero_le _,by omega,by simp,rfl,⟨[],rfl,World.ownsRow_nil _ _ _ _,fun i h=>by simp at h⟩,HR.out,Below.refl _ _⟩
 case round =>
  obtain ⟨k,out,hkN,hgk,hol,rfl,hS,hP,hB⟩:=hrel;obtain ⟨wo,rfl⟩:∃ wo:World,wo=wr:=⟨_,rfl⟩;have HS:=Yd hS;have HB:=Yd hB;have HP:=Yd hP;have hki:(k:Int) <= (N:Int):=by omega
  clear hS hB hP HR
  by_cases hke:¬ k<N
  ·have hRR:RR=(out,0,0):=by rw [<- HP.out,List.drop_eq_nil_of_le (by rw [HN.out]; omega),refL_nil]
   subst hRR;have e1:¬ (k:Int)<(N:Int):=by omega
   clear HP hgk hol hke;go_wp2_with fail;go_ret3;exact ⟨_,rfl,HS.out,HB.out⟩
  have hkl:k<N:=Decidable.not_not.1 hke;have hkL:k<L.length:=by rw [HN.out]; exact hkl
  obtain ⟨gj,rfl⟩:∃ gj,gk=gj+1:=⟨gk-1,by omega⟩;obtain ⟨g,off,rfl,hg,hcell⟩:=HX.out (by intro e; rw [e] at hkL; simp at hkL);obtain ⟨t,ht⟩:∃ t,L[k]=t:=⟨_,rfl⟩;have hdrop:L.drop k=t :: L.drop (k+1):=by rw [List.drop_eq_getElem_cons hkL,ht]
  have hq:wo.cell? ⟨g,off+k*3,none⟩=some (.int .u8 t.kind):=(HB.out.cell (p:=⟨g,off+k*3,none⟩) hg).trans (hcell (k*3) _ (by
   have:pcells L=pcells (L.take k) ++ (t.cells ++ pcells (L.drop (k+1))):=by rw [<- pcells_cons,<- hdrop,<- pcells_app,List.take_append_drop]
   have hlen:(pcells (L.take k)).length=k*3:=by rw [pcells_length,List.length_take,Nat.min_eq_left (by omega)]
   rw [this,List.getElem?_append_right (by omega),hlen,Nat.sub_self];rfl))
  have hp:=HP.out;rw [hdrop,refL_cons,<- hdrop] at hp;obtain ⟨tk,htk⟩:∃ tk,t.kind=tk:=⟨_,rfl⟩;rw [htk] at hq hp;have hkli:(k:Int)<(N:Int):=by omega
  have HP2:=Yd hp;have n1:1 <= c:=by omega
  clear hcell hp ht hdrop htk HP hkL hke
  by_cases hk4:tk=4
  ·have e1:((tk:Int) == 4)=true:=Yt (by omega)
   have hp:=HP2.out;rw [if_pos hk4] at hp;have HP3:=Yd hp;clear hp HP2 hk4;go_wp2_with fail
   go_roundg gj
   case measure=>omega
   case rel=>exact ⟨k+1,out,by omega,by omega,by omega,by go_num,HS.out,HP3.out,HB.out⟩
  ·have e1:((tk:Int) == 4)=false:=Yf (by omega)
   have hp:=HP2.out;rw [if_neg hk4] at hp;obtain ⟨Q,hQ⟩:∃ Q,lineL dec en (L.drop k) 0 0 0 st0=Q:=⟨_,rfl⟩;have hCL:=HLN.out k hkN wo HB.out;rw [hQ] at hp hCL;have HCL:=Yd hCL;have HP3:=Yd hp;have HQ:=Yd hQ;clear hp HP2 hk4 hCL hQ
   cases Q with
   | inr r =>
    obtain ⟨p,er⟩:=r;have her:er≠0:=by
     have:=stmt_line (dec:=dec) (en:=en) (L.drop k);rw [HQ.out] at this;exact this.1
    have e2:((er:Int) != 0)=true:=by rw [bne_iff_ne]; omega
    have hRR:RR=([],p,er):=HP3.out.symm;subst hRR;clear her HP3 HQ;go_wp2_with (go_at_call 34; (with_reducible refine HCL.out.mono ?_); rintro e wx ⟨hbx,x,y,z,aa,al,ca,rfl⟩; have HBX:=Yd (HB.out.trans (hbx.mono HB.out.size)); clear hbx);go_ret3;exact ⟨_,rfl,⟨[],rfl,World.ownsRow_nil _ _ _ _,fun i h=>by simp at h⟩,HBX.out.alloc HBX.out.size _⟩
   | inl r =>
    obtain ⟨st,rest⟩:=r;have hlt:=line_more _ _ _ _ _ _ _ (by decide) HQ.out;rw [List.length_drop,HN.out] at hlt;have hol6:out.length <= 1000000:=by omega
    have HLT:=Yd hlt;clear hlt;simp only at HP3;go_upto_region 7 with (go_at_call 34; (with_reducible refine HCL.out.mono ?_); rintro e wx ⟨hbx,va,n,rfl,hown,hrest,hnL⟩; obtain ⟨aa,ca,rfl⟩:=row_form hown; have HBX:=Yd hbx; have HOW:=Yd hown; have HRS:=Yd (And.intro hrest hnL); clear hbx hown hrest hnL);obtain ⟨vs,hvl,ho,hvs⟩:=HS.out.grown (grown_below HBX.out none) (fun r e=>by cases e);obtain ⟨W,hW⟩:∃ W,wx.alloc (.cells #[.string st.name,.int .i64 st.pos,.int .u8 (st.kind:Int),.slice aa st.args.length ca] 62)=W:=⟨_,rfl⟩;obtain ⟨G,hG⟩:∃ G,wx.heap.size=G:=⟨_,rfl⟩;rw [hW,hG];have hbxW:Below wx.heap.size wx W:=by rw [<- hW]; exact (Below.refl _ wx).alloc (Nat.le_refl _) _
    have hkW:W.heap[G]? = some (.cells #[.string st.name,.int .i64 st.pos,.int .u8 (st.kind:Int),.slice aa st.args.length ca] 62 (0,0)):=by rw [<- hW,<- hG]; exact heap_alloc_new wx _
    have k0:=(cell_of_row W G 0 _ _ _ hkW).trans rfl;have k1:=(cell_of_row W G 1 _ _ _ hkW).trans rfl;have k2:=(cell_of_row W G 2 _ _ _ hkW).trans rfl;have k3:=(cell_of_row W G 3 _ _ _ hkW).trans rfl;have hoW:=own_grown ho (grown_below hbxW none) (fun r e=>by cases e);have hBW:=HB.out.trans ((HBX.out.trans (hbxW.mono HBX.out.size)).mono HB.out.size);have hvW:∀ i (h1:i<vs.length) (h2:i<out.length),W.ownsRow w.heap.size 59 3 vs[i] out[i].args.length (acells out[i].args):=fun i h1 h2=>own_grown (hvs i h1 h2) (grown_below hbxW none) (fun r e=>by cases e);have hnW:=own_le (own_grown HOW.out (grown_below hbxW none) (fun r e=>by cases e)) HB.out.size;have HVS:=Yd (And.intro hvl (And.intro hvW hnW));have HBW:=Yd hBW;have hzw:=hBW.size;clear hvs ho hbxW hkW hBW hvW hnW hW hG HS HOW hq;go_wp2_with (at_builtin; refine wpList_append_lies _ rfl (.tmp 35) (.tmp 37) 28 rfl w.heap.size 62 i0 (.agg #[.string ⟨#[]⟩,.int .i64 0,.int .u8 0,.slice none 0 0]) 4 56 Tryz.underlying28 hi0 hz0 hz1 hz2 rfl (by omega) u5 out.length (scells out vs) rfl (hoW.alloc _) ⟨W.heap.size,0,none⟩ 1 1 (stCells st (.slice aa st.args.length ca)) rfl rfl (World.news_of_block (heap_at W (.cells (stCells st (.slice aa st.args.length ca)).toArray 62) _ rfl)) (by simp [stCells,Value.oneCell']) (by omega) (by unfold maxLen; omega) (by omega) (by simp; omega) _ rfl ?_; intro gz capz wz hownz hgz hatz hltz);have gz':W.grownBy wz (Value.ownBlock u5):=grown_trans (World.grownBy_alloc W _ _) hgz;have hall:SRow wz w.heap.size (.slice (some ⟨gz,0,none⟩) (out.length+1) capz) (out ++ [st]):=by
     refine ⟨vs ++ [.slice aa st.args.length ca],by simp [hvl],?_,fun i h1 h2 => ?_⟩
     ·rw [scells_snoc _ _ _ _ hvl,List.length_append]; exact hownz
     ·by_cases hi:i<vs.length
      ·rw [List.getElem_append_left hi,List.getElem_append_left (by omega)];exact ((HVS.out.2.1 i hi (by omega)).alloc _).kept hgz (own_ne (HVS.out.2.1 i hi (by omega)) hoW (by decide))
      ·have hi':i=out.length:=by simp at h1; omega
       subst hi';have e1:(vs ++ [Value.slice aa st.args.length ca])[out.length]'h1 = .slice aa st.args.length ca:=by simp [hvl]
       have e2:(out ++ [st])[out.length]'h2=st:=by simp
       rw [e1,e2];exact (HVS.out.2.2.alloc _).kept hgz (own_ne HVS.out.2.2 hoW (by decide))
    have hBz:=HBW.out.grown gz' hzw (fun r e=>(hoW.lt r e).1);go_wp2_with fail
    go_roundg gj
    case measure=>omega
    case rel =>
     have h1:=HLT.out;obtain ⟨h2,h3⟩:=HRS.out;have h4:rest.length=N-n:=by rw [h2,List.length_drop,HN.out]
     rw [HN.out] at h3;exact ⟨n,out ++ [st],h3,by omega,by rw [List.length_append,List.length_singleton]; omega,rfl,hall,by rw [<- h2]; exact HP3.out,hBz⟩
end rg

/- Whole numbers of any size, as burnishref16 keeps them: digits of 10^9, the least one first. Plain; no condition but those stated. -/
namespace rg
def bv:List Nat -> Nat
 | []=>0
 | d :: l=>d+1000000000*bv l
def BOk (l:List Nat):Prop:=∀ d∈l,d<1000000000
def Trim (l:List Nat):Prop:=l≠[] -> 1000000000 ^ (l.length-1) <= bv l
def dig (n:Nat):List Nat:=if h:n=0 then [] else n % 1000000000 :: dig (n / 1000000000)
termination_by n
decreasing_by omega
def timesL (by_:Nat):List Nat -> Nat -> List Nat
 | [],more=>dig more
 | d :: l,more=>(d*by_+more) % 1000000000 :: timesL by_ l ((d*by_+more) / 1000000000)
theorem dig_zero:dig 0=[]:=by unfold dig; rfl
theorem dig_pos {n:Nat} (h:n≠0):dig n=n % 1000000000 :: dig (n / 1000000000):=by
 conv=>lhs; unfold dig
 rw [dif_neg h]
theorem bv_dig (n:Nat):bv (dig n)=n:=by
 induction n using Nat.strongRecOn with
 | _ n ih =>
  by_cases h:n=0
  ·subst h; rw [dig_zero]; rfl
  ·rw [dig_pos h];show n % 1000000000+1000000000*bv (dig (n / 1000000000))=n;rw [ih _ (by omega)];omega
theorem ok_dig (n:Nat):BOk (dig n):=by
 induction n using Nat.strongRecOn with
 | _ n ih =>
  by_cases h:n=0
  ·subst h; rw [dig_zero]; intro d hd; cases hd
  ·rw [dig_pos h];intro d hd
   rcases List.mem_cons.1 hd with rfl | hd
   ·omega
   ·exact ih _ (by omega) d hd
theorem trim_cons (d:Nat) (l:List Nat) (h:Trim l) (h0:l=[] -> d≠0):Trim (d :: l):=by
 intro _
 by_cases hl:l=[]
 ·subst hl;have:=h0 rfl;show 1000000000 ^ 0 <= d+1000000000*0;omega
 ·have h1:=h hl;obtain ⟨k,hk⟩:∃ k,l.length=k+1:=⟨l.length-1,by have:=List.length_pos_iff.2 hl; omega⟩;rw [hk,Nat.add_sub_cancel] at h1;show 1000000000 ^ ((d :: l).length-1) <= d+1000000000*bv l;rw [List.length_cons,Nat.add_sub_cancel,hk,Nat.pow_succ];omega
theorem trim_tail {d:Nat} {l:List Nat} (hd:d<1000000000) (h:Trim (d :: l)):Trim l:=by
 intro hl;have h1:=h (by simp);obtain ⟨k,hk⟩:∃ k,l.length=k+1:=⟨l.length-1,by have:=List.length_pos_iff.2 hl; omega⟩;rw [List.length_cons,Nat.add_sub_cancel,hk,Nat.pow_succ] at h1;rw [hk,Nat.add_sub_cancel];have h2:bv (d :: l)=d+1000000000*bv l:=rfl;rw [h2] at h1;omega
theorem trim_dig (n:Nat):Trim (dig n):=by
 induction n using Nat.strongRecOn with
 | _ n ih =>
  by_cases h:n=0
  ·subst h; rw [dig_zero]; intro h; exact absurd rfl h
  ·rw [dig_pos h];refine trim_cons _ _ (ih _ (by omega)) fun h0 => ?_;have h1:=bv_dig (n / 1000000000);rw [h0] at h1;have h2:bv []=0:=rfl;omega
theorem bv_times (by_:Nat):∀ (l:List Nat) (more:Nat),bv (timesL by_ l more)=bv l*by_+more
 | [],more=>by
  show bv (dig more)=0*by_+more;rw [bv_dig,Nat.zero_mul,Nat.zero_add]
 | d :: l,more=>by
  show (d*by_+more) % 1000000000+1000000000*bv (timesL by_ l ((d*by_+more) / 1000000000))=(d+1000000000*bv l)*by_+more;rw [bv_times by_ l,Nat.add_mul,Nat.mul_assoc];obtain ⟨x,hx⟩:∃ x,x=d*by_:=⟨_,rfl⟩;obtain ⟨y,hy⟩:∃ y,y=bv l*by_:=⟨_,rfl⟩;rw [<- hx,<- hy];omega
theorem ok_times (by_:Nat):∀ (l:List Nat) (more:Nat),BOk (timesL by_ l more)
 | [],more=>ok_dig more
 | d :: l,more=>fun x hx=>by
  rcases List.mem_cons.1 hx with rfl | hx
  ·exact Nat.mod_lt _ (by decide)
  ·exact ok_times by_ l _ x hx
theorem times_nil {by_:Nat}:∀ {l:List Nat} {more:Nat},timesL by_ l more=[] -> l=[]∧more=0
 | [],more,h=>⟨rfl,by
  by_cases h0:more=0
  ·exact h0
  ·have h':dig more=[]:=h;rw [dig_pos h0] at h'
   cases h'⟩
 | _ :: _,_,h=>by cases h
theorem trim_times (by_:Nat) (hb:0<by_):∀ (l:List Nat) (more:Nat),BOk l -> Trim l -> Trim (timesL by_ l more)
 | [],more,_,_=>trim_dig more
 | d :: l,more,ho,ht=>by
  have hd:=ho d (by simp);refine trim_cons _ _ (trim_times by_ hb l _ (fun x hx=>ho x (by simp [hx])) (trim_tail hd ht)) fun h0 => ?_;obtain ⟨h1,h2⟩:=times_nil h0;subst h1;have h3:=ht (by simp);have h4:bv [d]=d:=by show d+1000000000*0=d; omega
  rw [h4] at h3;have h5:0<d:=h3;have h6:0<d*by_:=Nat.mul_pos h5 hb;omega
theorem dig_len (n:Nat) (h:n<1000000000000000000):(dig n).length <= 2:=by
 by_cases h0:n=0
 ·subst h0; rw [dig_zero]; decide
 ·rw [dig_pos h0]
  by_cases h1:n / 1000000000=0
  ·rw [h1,dig_zero]; simp
  ·rw [dig_pos h1,show n / 1000000000 / 1000000000=0 by omega,dig_zero];simp
theorem times_len (by_:Nat) (hb:by_ <= 10000000000):∀ (l:List Nat) (more:Nat),BOk l -> more<1000000000000000000 -> (l≠[] -> more <= 10000000000) -> (timesL by_ l more).length <= l.length+2
 | [],more,_,hm,_=>by
  have:=dig_len more hm;show (dig more).length <= 0+2;omega
 | d :: l,more,ho,_,hm=>by
  have h1:=hm (by simp);have h2:=ho d (by simp);have h3:d*by_ <= 999999999*10000000000:=Nat.mul_le_mul (by omega) hb;have h4:(d*by_+more) / 1000000000 <= 10000000000:=by omega
  have:=times_len by_ hb l ((d*by_+more) / 1000000000) (fun x hx=>ho x (by simp [hx])) (by omega) (fun _=>h4);show (timesL by_ l _).length+1 <= l.length+1+2;omega
theorem bv_lt:∀ (l:List Nat),BOk l -> bv l<1000000000 ^ l.length
 | [],_=>by show 0<1; omega
 | d :: l,h=>by
  have h1:=bv_lt l fun x hx=>h x (by simp [hx]);have h2:=h d (by simp);show d+1000000000*bv l<1000000000 ^ (l.length+1);rw [Nat.pow_succ];omega
theorem len_lt {a b:List Nat} (ha:BOk a) (hb:Trim b) (h:a.length<b.length):bv a<bv b:=by
 have h1:=bv_lt a ha;have h2:=hb (by intro e; subst e; simp at h);exact Nat.lt_of_lt_of_le h1 (Nat.le_trans (Nat.pow_le_pow_right (by decide) (by omega)) h2)
theorem bv_app:∀ (a b:List Nat),bv (a ++ b)=bv a+1000000000 ^ a.length*bv b
 | [],b=>by show bv b=0+1*bv b; omega
 | d :: a,b=>by
  show d+1000000000*bv (a ++ b)=d+1000000000*bv a+1000000000 ^ (a.length+1)*bv b;rw [bv_app a b,Nat.pow_succ,Nat.mul_add,Nat.mul_comm (1000000000 ^ a.length) 1000000000,Nat.mul_assoc];omega
theorem part_lt (a b:List Nat) (ha:BOk a) (hl:a.length=b.length) (i:Nat) (hi:i<a.length) (hs:a.drop (i+1)=b.drop (i+1)) (h:a[i]<b[i]'(by omega)):bv a<bv b:=by
 have e1:bv a=bv (a.take i)+1000000000 ^ i*bv (a.drop i):=by
  conv=>lhs; rw [<- List.take_append_drop i a]
  rw [bv_app,List.length_take,Nat.min_eq_left (by omega)]
 have e2:bv b=bv (b.take i)+1000000000 ^ i*bv (b.drop i):=by
  conv=>lhs; rw [<- List.take_append_drop i b]
  rw [bv_app,List.length_take,Nat.min_eq_left (by omega)]
 have d1:bv (a.drop i)=a[i]+1000000000*bv (a.drop (i+1)):=by rw [List.drop_eq_getElem_cons hi]; rfl
 have d2:bv (b.drop i)=b[i]+1000000000*bv (b.drop (i+1)):=by rw [List.drop_eq_getElem_cons (by omega)]; rfl
 have l1:=bv_lt (a.take i) fun x hx=>ha x (List.mem_of_mem_take hx);rw [List.length_take,Nat.min_eq_left (by omega)] at l1;rw [e1,e2,d1,d2,hs];have h2:1000000000 ^ i*(a[i]+1000000000*bv (b.drop (i+1)))+1000000000 ^ i <= 1000000000 ^ i*(b[i]+1000000000*bv (b.drop (i+1))):=by
  rw [<- Nat.mul_succ];exact Nat.mul_le_mul_left _ (by omega)
 omega
theorem trim_nil {l:List Nat} (h:Trim l):bv l=0↔l=[]:=by
 refine ⟨fun h0 => ?_,fun e=>by rw [e]; rfl⟩
 by_cases hl:l=[]
 ·exact hl
 ·have h1:=h hl;have h2:0<1000000000 ^ (l.length-1):=Nat.pow_pos (by decide);omega
end rg

/- The nearest number by halving, as burnishref16 looks for it, is the nearest one. Plain; no condition but those stated. -/
namespace rg
open prnw
open fpm
def qv (X:Nat):Nat:=4*ftM X*2 ^ (ftE X-52+1074).toNat
theorem endL_qv (X:Nat):endL X <= qv X∧(0<X -> endL X<qv X):=by
 unfold endL qv;have h1:=loQ_bd (ftM X) (ftE X-52);refine ⟨?_,fun h => ?_⟩
 ·exact Nat.mul_le_mul_right _ (by omega)
 ·have h2:=ftM_pos X h;exact (Nat.mul_lt_mul_right (Nat.two_pow_pos _)).2 (by omega)
theorem qv_endU (X:Nat):qv X<endU X:=by
 unfold endU qv;exact (Nat.mul_lt_mul_right (Nat.two_pow_pos _)).2 (by omega)
theorem qv_zero:qv 0=0:=by decide
theorem near_low {X A B:Nat} (hB:0<B) (h1:qv X*B <= A*2 ^ unB) (h:A*2 ^ unB<endU X*B∨(A*2 ^ unB=endU X*B∧ftM X % 2=0)):nearX A B=X:=by
 refine (near_eq hB ⟨?_,?_,fun ho=>⟨?_,?_⟩⟩).symm
 ·exact Nat.le_trans (Nat.mul_le_mul_right _ (endL_qv X).1) h1
 ·rcases h with h | h
  ·exact Nat.le_of_lt h
  ·exact Nat.le_of_eq h.1
 ·exact Nat.lt_of_lt_of_le ((Nat.mul_lt_mul_right hB).2 ((endL_qv X).2 (by omega))) h1
 ·rcases h with h | h
  ·exact h
  ·have:=ftM_odd X;omega
theorem near_next {X A B:Nat} (hB:0<B) (h1:A*2 ^ unB<qv (X+1)*B) (h:endU X*B<A*2 ^ unB∨(A*2 ^ unB=endU X*B∧ftM X % 2=1)):nearX A B=X+1:=by
 refine (near_eq hB ⟨?_,?_,fun ho=>⟨?_,?_⟩⟩).symm
 ·rw [ends_meet]
  rcases h with h | h
  ·exact Nat.le_of_lt h
  ·exact Nat.le_of_eq h.1.symm
 ·exact Nat.le_of_lt (Nat.lt_trans h1 ((Nat.mul_lt_mul_right hB).2 (qv_endU _)))
 ·rw [ends_meet]
  rcases h with h | h
  ·exact h
  ·have:=ftM_odd X;omega
 ·exact Nat.lt_trans h1 ((Nat.mul_lt_mul_right hB).2 (qv_endU _))
theorem endU_mono (X:Nat):∀ n,endU X <= endU (X+n)
 | 0=>Nat.le_refl _
 | n+1=>by
  have h1:=endU_mono X n;have h2:=ends_lt (X+n+1) (by omega);rw [ends_meet] at h2;rw [<- Nat.add_assoc];omega
theorem near_over {X A B:Nat} (hB:0<B) (h:endU X*B<A*2 ^ unB∨(A*2 ^ unB=endU X*B∧ftM X % 2=1)):X+1 <= nearX A B:=by
 refine Nat.le_of_not_lt fun hl => ?_;obtain ⟨n,hn⟩:∃ n,X=nearX A B+n:=⟨X-nearX A B,by omega⟩;obtain ⟨-,h2,h3⟩:=near_of A B hB;have h4:=endU_mono (nearX A B) n;rw [<- hn] at h4;have h5:endU (nearX A B)*B <= endU X*B:=Nat.mul_le_mul_right _ h4
 rcases h with h | ⟨h,ho⟩
 ·omega
 ·have h6:endU (nearX A B)=endU X:=Nat.le_antisymm h4 (Nat.le_of_mul_le_mul_right (by omega) hB);have h7:n=0:=by
   cases n with
   | zero=>rfl
   | succ n =>
    have e1:=endU_mono (nearX A B) n;have e2:=ends_lt (nearX A B+n+1) (by omega);rw [ends_meet] at e2;rw [hn,<- Nat.add_assoc] at h6;omega
  have h8:nearX A B=X:=by omega
  have:=ftM_odd X;have:=h3 (by omega);rw [h8] at this;omega
theorem against_eq (A B m:Nat) (e:Int) (he : -1076 <= e) :
  (A*2 ^ (-e).toNat<m*B*2 ^ e.toNat↔A*2 ^ unB<m*2 ^ (e+1076).toNat*B)∧(A*2 ^ (-e).toNat=m*B*2 ^ e.toNat↔A*2 ^ unB=m*2 ^ (e+1076).toNat*B):=by
 obtain ⟨k,hk⟩:∃ k,(-e).toNat+k=unB:=⟨unB-(-e).toNat,by rw [unB_eq]; omega⟩;have e1:A*2 ^ unB=A*2 ^ (-e).toNat*2 ^ k:=by rw [<- hk,Nat.pow_add,Nat.mul_assoc]
 have e2:m*2 ^ (e+1076).toNat*B=m*B*2 ^ e.toNat*2 ^ k:=by
  have:(e+1076).toNat=e.toNat+k:=by rw [unB_eq] at hk; omega
  rw [this,Nat.pow_add,Nat.mul_right_comm m,<- Nat.mul_assoc]
 rw [e1,e2];have hp:=Nat.two_pow_pos k;exact ⟨⟨fun h=>(Nat.mul_lt_mul_right hp).2 h,fun h=>(Nat.mul_lt_mul_right hp).1 h⟩,⟨fun h=>by rw [h],fun h=>Nat.mul_right_cancel hp h⟩⟩
theorem at_qv (X B:Nat):ftM X*2 ^ (ftE X-52+1076).toNat*B=qv X*B:=by
 have hE : -1074 <= ftE X-52:=by unfold ftE; split <;> omega
 unfold qv;rw [show (ftE X-52+1076).toNat=(ftE X-52+1074).toNat+2 by omega,Nat.pow_add];generalize 2 ^ (ftE X-52+1074).toNat=t;congr 1;show ftM X*(t*4)=4*ftM X*t;rw [Nat.mul_comm t,<- Nat.mul_assoc,Nat.mul_comm (ftM X)]
theorem at_endU (X B:Nat):(2*ftM X+1)*2 ^ (ftE X-52-1+1076).toNat*B=endU X*B:=by
 have hE : -1074 <= ftE X-52:=by unfold ftE; split <;> omega
 unfold endU;rw [show (ftE X-52-1+1076).toNat=(ftE X-52+1074).toNat+1 by omega,Nat.pow_succ];generalize 2 ^ (ftE X-52+1074).toNat=t;congr 1;rw [Nat.mul_comm t,<- Nat.mul_assoc];congr 1;omega
end rg

/- Floats as burnishref16.pieces takes them: plain facts of their bits. No conditions but those stated. -/
namespace rg
open Go.RowKit
open fpm
open prnw
open flatm
def way_out (m a:Nat):Nat:=m <<< ((-1074:Int)+a).toNat / 2 ^ (-((-1074:Int)+a)).toNat
theorem cut_zero (neg:Bool) (n v:Nat):Ieee.Toward.cut .zero neg n v=n / 2 ^ v:=by
 have e:Ieee.Toward.cut .zero neg n v=n / (1 <<< min v (n.log2+2))+0:=rfl;rw [e,Nat.add_zero,Nat.one_shiftLeft]
 by_cases h:v <= n.log2+2
 ·rw [Nat.min_eq_left h]
 ·rw [Nat.min_eq_right (by omega)];have h1:n<2 ^ (n.log2+2):=by
   by_cases h0:n=0
   ·rw [h0]; exact Nat.two_pow_pos _
   ·exact Nat.lt_of_lt_of_le ((Nat.log2_lt h0).1 (Nat.lt_succ_self _)) (Nat.pow_le_pow_right (by decide) (by omega))
  rw [Nat.div_eq_of_lt h1,Nat.div_eq_of_lt (Nat.lt_of_lt_of_le h1 (Nat.pow_le_pow_right (by decide) (by omega)))]
theorem f2u (Z d:Nat) (hZ:Z<infW) (h:valR Z=d*2 ^ leB) (hd:d<18446744073709551616):floatToIntVal .f64 Z .u64=some (d:Int):=by
 obtain ⟨m,a,h1,h2⟩:=word_read false Z hZ;rw [word_eq,if_neg (by decide)] at h1;rw [h] at h2;have hl:=leB_eq;have hw:way_out m a=d:=by
  unfold way_out
  by_cases hc:leB <= a
  ·obtain ⟨k,rfl⟩:∃ k,a=leB+k:=⟨a-leB,by omega⟩;rw [show ((-1074:Int)+((leB+k:Nat):Int)).toNat=k by rw [hl]; omega,show (-((-1074:Int)+((leB+k:Nat):Int))).toNat=0 by rw [hl]; omega,Nat.shiftLeft_eq,Nat.pow_zero,Nat.div_one];rw [Nat.pow_add,Nat.mul_comm (2 ^ leB),<- Nat.mul_assoc] at h2;exact two_cancel h2
  ·obtain ⟨k,hk⟩:∃ k,leB=a+k:=⟨leB-a,by omega⟩;rw [show ((-1074:Int)+(a:Int)).toNat=0 by omega,show (-((-1074:Int)+(a:Int))).toNat=k by omega,Nat.shiftLeft_eq,Nat.pow_zero,Nat.mul_one];rw [hk,Nat.pow_add,Nat.mul_comm (2 ^ a),<- Nat.mul_assoc] at h2;rw [two_cancel h2,Nat.mul_div_cancel _ (Nat.two_pow_pos k)]
 have hr:FloatKind.f64.decode Z = .number false m ((-1074:Int)+a):=h1;unfold floatToIntVal;rw [hr];have ht:Ieee.Datum.toInt .zero (.number false m ((-1074:Int)+a))=some (d:Int):=by
  have e:Ieee.Datum.toInt .zero (.number false m ((-1074:Int)+a))=some (Ieee.signed false (Ieee.Toward.cut .zero false (m <<< ((-1074:Int)+a).toNat) (-((-1074:Int)+a)).toNat) 0):=rfl;rw [e,cut_zero];have hw':m <<< ((-1074:Int)+a).toNat / 2 ^ (-((-1074:Int)+a)).toNat=d:=hw;rw [hw',signed_nat];simp
 rw [ht];have h0:IntKind.u64.min=0:=rfl;have h9:IntKind.u64.max=18446744073709551615:=rfl;show (if IntKind.u64.min <= (d:Int)∧(d:Int) <= IntKind.u64.max then some (d:Int) else none)=_;rw [h0,h9,if_pos ⟨by omega,by omega⟩]
def upW (X:Nat):Nat:=(X.log2+1)*4503599627370496+(X-2 ^ X.log2)*2 ^ (52-X.log2)
theorem up_parts (X:Nat) (h0:0<X) (h:X<4503599627370496):X.log2 <= 51∧(X-2 ^ X.log2)*2 ^ (52-X.log2)<4503599627370496∧2 ^ X.log2 <= X∧4503599627370496*2 ^ X.log2+(X-2 ^ X.log2)*2 ^ (52-X.log2)*2 ^ X.log2=X*4503599627370496:=by
 have hb:2 ^ X.log2 <= X:=Nat.log2_self_le (by omega);have hb2:X<2 ^ (X.log2+1):=(Nat.log2_lt (by omega)).1 (Nat.lt_succ_self _);obtain ⟨b,hbe⟩:∃ b,X.log2=b:=⟨_,rfl⟩;rw [hbe] at hb hb2 ⊢;have h51:b <= 51:=by
  refine Nat.le_of_not_lt fun hl => ?_;have:2 ^ 52 <= 2 ^ b:=Nat.pow_le_pow_right (by decide) hl;have e:(2:Nat) ^ 52=4503599627370496:=by decide
  omega
 have e:(2:Nat) ^ (52-b)*2 ^ b=4503599627370496:=by
  rw [<- Nat.pow_add,show 52-b+b=52 by omega]
 rw [Nat.pow_succ] at hb2;have hp:=Nat.two_pow_pos (52-b);refine ⟨h51,?_,hb,?_⟩
 ·have h1:(X-2 ^ b)*2 ^ (52-b)<2 ^ b*2 ^ (52-b):=(Nat.mul_lt_mul_right hp).2 (by omega);rw [Nat.mul_comm (2 ^ b),e] at h1;exact h1
 ·rw [Nat.mul_assoc,e,Nat.mul_comm 4503599627370496,<- Nat.add_mul];congr 1;omega
theorem val_norm (t r:Nat) (hr:r<4503599627370496):valR ((t+1)*4503599627370496+r)=(4503599627370496+r)*2 ^ t:=by
 unfold valR;rw [if_neg (by omega),show ((t+1)*4503599627370496+r) % 4503599627370496=r by omega,show ((t+1)*4503599627370496+r) / 4503599627370496=t+1 by omega,Nat.add_sub_cancel]
theorem pow_split (L a b:Nat) (h:L=a+b):2 ^ L=2 ^ a*2 ^ b:=by rw [h,Nat.pow_add]
theorem up_val (X:Nat) (h0:0<X) (h:X<4503599627370496):valR (upW X)=X*4503599627370496∧valR (upW X+1022*4503599627370496)=X*2 ^ leB∧upW X+1022*4503599627370496<infW∧0<upW X∧upW X<53*4503599627370496:=by
 obtain ⟨h1,h2,h3,h4⟩:=up_parts X h0 h;obtain ⟨r,hr⟩:∃ r,(X-2 ^ X.log2)*2 ^ (52-X.log2)=r:=⟨_,rfl⟩;unfold upW;rw [hr] at h2 h4 ⊢;obtain ⟨b,hb⟩:∃ b,X.log2=b:=⟨_,rfl⟩;rw [hb] at h1 h4 ⊢;have hi:=infW_eq;refine ⟨?_,?_,by omega,by omega,by omega⟩
 ·rw [val_norm b r h2,Nat.add_mul];exact h4
 ·obtain ⟨K,hK⟩:∃ K,K=1022:=⟨_,rfl⟩;have hl:leB=52+K:=by rw [hK]; exact leB_eq
  rw [<- hK,show (b+1)*4503599627370496+r+K*4503599627370496=(b+K+1)*4503599627370496+r by omega,val_norm _ r h2,Nat.pow_add,<- Nat.mul_assoc,Nat.add_mul,h4,pow_split leB 52 K hl,<- Nat.mul_assoc]
theorem fr_val (X:Nat) (h:4503599627370496 <= X):valR (X % 4503599627370496+1075*4503599627370496)=ftM X*2 ^ leB∧X % 4503599627370496+1075*4503599627370496<infW:=by
 have hi:=infW_eq;refine ⟨?_,by omega⟩;rw [show X % 4503599627370496+1075*4503599627370496=(1074+1)*4503599627370496+X % 4503599627370496 by omega,val_norm _ _ (Nat.mod_lt _ (by decide))];unfold ftM;rw [if_neg (by omega),Nat.add_comm,leB_eq]
theorem ft_low {X:Nat} (h:X<4503599627370496):ftM X=X∧ftE X-52 = -1074:=by
 unfold ftM ftE;rw [if_pos (by omega),if_pos (by omega)];omega
theorem ft_high {X:Nat} (h:4503599627370496 <= X):ftE X-52=((X / 4503599627370496:Nat):Int)-1075:=by
 unfold ftE;rw [if_neg (by omega)];omega
end rg

/- burnishref16.pieces: the walks of math.Ldexp and math.Frexp where it calls them, and of pieces. Conditions: as each theorem states. -/
namespace rg
open Go.RowKit
open nodew
open flatm
open dcw
open fpm
open rdf
open prnw
attribute [local go_sem] nodew.fo_eq bits_run frombits_run
theorem sv_pos {X:Nat} (h:X<9218868437227405312):sv X=(valR X:Int):=by
 unfold sv;rw [if_neg (by omega),Nat.mod_eq_of_lt (by omega)]
theorem fo_lt_pos {X Y:Nat} (hX:X<9218868437227405312) (hY:Y<9218868437227405312):(fo X Y == some .lt)=decide (X<Y):=by
 rw [fo_sv (by omega) (by omega),sv_pos hX,sv_pos hY,Int.compare_eq_ite_lt]
 by_cases h:X<Y
 ·have:=val_lt h;rw [if_pos (by omega),decide_eq_true h];rfl
 ·have:=val_le (show Y <= X by omega);rw [if_neg (by omega),decide_eq_false h]
  split <;> rfl
theorem fo_eq_pos {X Y:Nat} (hX:X<9218868437227405312) (hY:Y<9218868437227405312):(fo X Y == some .eq)=decide (X=Y):=by
 rw [fo_sv (by omega) (by omega),sv_pos hX,sv_pos hY]
 by_cases h:X=Y
 ·rw [decide_eq_true h,h];simp
 ·have hv:valR X≠valR Y:=fun e=>h (val_inj e);rw [decide_eq_false h,Int.compare_eq_ite_lt]
  split
  ·rfl
  ·rw [if_pos (by omega)]; rfl
theorem abs_pos {x:Nat} (hx:x<9223372036854775808):absF x=x:=by
 unfold absF;have h:bits BinOp.andNot IntKind.u64 (x:Int) 9223372036854775808=IntKind.u64.wrap (((BitVec.ofInt 64 (x:Int) &&& ~~~ (BitVec.ofInt 64 9223372036854775808)).toNat:Nat):Int):=rfl;have h2:(BitVec.ofInt 64 (x:Int)).toNat=x:=by
  rw [BitVec.toNat_ofInt];omega
 have h3:(~~~ (BitVec.ofInt 64 9223372036854775808)).toNat=2 ^ 63-1:=by decide
 rw [h,BitVec.toNat_and,h2,h3,Nat.and_two_pow_sub_one_eq_mod,IntKind.wrap_u64];omega
theorem plain_parts {F:Nat} (h:F<9218868437227405312):nanF F=false∧infF F=false∧negF F=false:=by
 refine ⟨?_,?_,?_⟩
 ·have:=fo_eq_pos h h;rw [decide_eq_true rfl] at this;unfold nanF;simpa using this
 ·unfold infF;rw [abs_pos (by omega),fo_sv (by omega) (by decide),sv_pos h,sv_pos (by decide),Int.compare_eq_ite_lt];have:=val_le (show F <= 9218868437227405311 by omega)
  split
  ·rfl
  ·rw [if_neg (by omega)];rfl
 ·unfold negF;rw [decide_eq_false];unfold wrap64;omega
theorem near_own (X:Nat):nearX (valR X) (2 ^ leB)=X:=by
 have hB:0<2 ^ leB:=Nat.two_pow_pos _
 by_cases h:X<4503599627370496
 ·have hv:=val_low h;have:=near_eq hB (near_mk (valR X) (2 ^ leB) 1 X 0 X hB (by decide) (by rw [hv,Nat.pow_zero]; simp) (by omega) (by omega) (fun _=>by omega) (by omega) (.inl rfl));omega
 ·obtain ⟨t,ht⟩:∃ t,t=X / 4503599627370496-1:=⟨_,rfl⟩;obtain ⟨R,hR⟩:∃ R,R=4503599627370496+X % 4503599627370496:=⟨_,rfl⟩;have hv:valR X=R*2 ^ t:=by unfold valR; rw [if_neg h,<- hR,<- ht]
  have:=near_eq hB (near_mk (valR X) (2 ^ leB) 1 R t R hB (by decide) (by rw [hv,Nat.mul_one]) (by omega) (by omega) (fun _=>by omega) (by omega) (.inr (by omega)));omega
theorem andn_x (a:Nat) (ha:a<9223372036854775808):bits BinOp.andNot IntKind.u64 (a:Int) 9218868437227405312=((a % 4503599627370496:Nat):Int):=by
 have h:bits BinOp.andNot IntKind.u64 (a:Int) 9218868437227405312=IntKind.u64.wrap (((BitVec.ofInt 64 (a:Int) &&& ~~~ (BitVec.ofInt 64 9218868437227405312)).toNat:Nat):Int):=rfl;have h2:(BitVec.ofInt 64 (a:Int)).toNat=a:=by
  rw [BitVec.toNat_ofInt];omega
 have h3:(~~~ (BitVec.ofInt 64 9218868437227405312)).toNat=2 ^ 63 ||| (2 ^ 52-1):=by decide
 have h4:a &&& 2 ^ 63=0:=by
  apply Nat.eq_of_testBit_eq;intro i;rw [Nat.testBit_and,Nat.testBit_two_pow,Nat.zero_testBit]
  by_cases hi:63=i
  ·subst hi;rw [Nat.testBit_lt_two_pow (show a<2 ^ 63 by omega)];rfl
  ·rw [decide_eq_false hi,Bool.and_false]
 rw [h,BitVec.toNat_and,h2,h3,Nat.and_or_distrib_left,h4,Nat.and_two_pow_sub_one_eq_mod,Nat.zero_or,IntKind.wrap_u64];omega
theorem or_x (r b:Nat) (hr:r<4503599627370496) (hb:b<2048):bits BinOp.or IntKind.u64 (r:Int) ((b*4503599627370496:Nat):Int)=((b*4503599627370496+r:Nat):Int):=by
 have h:=or52s false r b hr hb;rw [show sgn false r=r from rfl,show sgn false (b*4503599627370496+r)=b*4503599627370496+r from rfl] at h;exact h
theorem and_x (k:IntKind) (hk:k = .i64∨k = .u64) (a:Nat) (ha:a<2048):bits BinOp.and k (a:Int) 2047=(a:Int):=by
 have:=and_mask k hk a 11 (by omega) (by decide);rw [Nat.mod_eq_of_lt (by omega),show ((2 ^ 11-1:Nat):Int)=2047 from rfl] at this;exact this
theorem mul_k (a b:Nat):a*b*a=b*a*a:=by rw [Nat.mul_comm a b]
theorem mul_k3 (x a b:Nat):x*(a*b)*b=x*a*b*b:=by rw [<- Nat.mul_assoc]
theorem one_times (Y:Nat) (h0:0<Y) (hY:Y<infW) (w:World):(binOp BinOp.mul 46 (.float .f64 4607182418800017408) (.float .f64 Y)).run Tryz.prog w = .ok (.float .f64 Y) w:=by
 have hv:valR 4607182418800017408=2 ^ leB:=by decide +kernel
 have:=mul_run w false 4607182418800017408 Y (valR Y) (2 ^ leB) (by decide) (by decide) h0 hY (Nat.two_pow_pos _) (by rw [hv]; exact mul_k _ _);rw [near_own,Nat.min_eq_left (Nat.le_of_lt hY)] at this;exact this
theorem up_run (X:Nat) (h0:0<X) (hX:X<4503599627370496) (w:World):(binOp BinOp.mul 46 (.float .f64 X) (.float .f64 4841369599423283200)).run Tryz.prog w = .ok (.float .f64 (upW X)) w:=by
 have hv:valR 4841369599423283200=4503599627370496*2 ^ leB:=by decide +kernel
 obtain ⟨u1,-,-,u2,u3⟩:=up_val X h0 hX;have hi:=infW_eq;have:=mul_run w false X 4841369599423283200 (valR (upW X)) (2 ^ leB) h0 (by omega) (by decide) (by decide) (Nat.two_pow_pos _) (by rw [hv,u1,val_low hX]; exact mul_k3 _ _ _);rw [near_own,Nat.min_eq_left (by omega)] at this;exact this
theorem norm_hi (x:Nat) (h:4503599627370496 <= x) (hx:x<9218868437227405312) (w:World):Calls Tryz.prog 237 #[.float .f64 x] w fun e w'=>e = .returned (.tuple #[.float .f64 x,.int .i64 0])∧w'=w:=by
 have h1:(fo (absF x) 4503599627370496 == some .lt)=false:=by
  rw [abs_pos (by omega),fo_lt_pos hx (by decide)];exact decide_eq_false (by omega)
 clear h hx;go_enter Tryz.func237,Tryz.ntmps237;go_wp2_with (go_at_call 81; refine (abs_any _ _).mono ?_; rintro e w' ⟨rfl,rfl⟩);go_ret2;exact ⟨rfl,rfl⟩
theorem norm_lo (x:Nat) (h0:0<x) (h:x<4503599627370496) (w:World):Calls Tryz.prog 237 #[.float .f64 x] w fun e w'=>e = .returned (.tuple #[.float .f64 (upW x),.int .i64 (-52)])∧w'=w:=by
 have h1:(fo (absF x) 4503599627370496 == some .lt)=true:=by
  rw [abs_pos (by omega),fo_lt_pos (by omega) (by decide)];exact decide_eq_true h
 have hr:=up_run x h0 h;clear h h0;go_enter Tryz.func237,Tryz.ntmps237;go_wp2_with (go_at_call 81; refine (abs_any _ _).mono ?_; rintro e w' ⟨rfl,rfl⟩);go_ret2;exact ⟨rfl,rfl⟩
theorem ldexp_n (F c:Nat) (E:Int) (hF0:4503599627370496 <= F) (hF:F<9218868437227405312) (hc:((F / 4503599627370496:Nat):Int)+E=c) (hc1:1 <= c) (hc2:c <= 2046) (w:World) :
  Calls Tryz.prog 205 #[.float .f64 F,.int .i64 E] w fun e w'=>e = .returned (.float .f64 (c*4503599627370496+F % 4503599627370496))∧w'=w:=by
 obtain ⟨q,hq⟩:∃ q,F / 4503599627370496=q:=⟨_,rfl⟩;obtain ⟨r,hr⟩:∃ r,F % 4503599627370496=r:=⟨_,rfl⟩;rw [hq] at hc;rw [hr];have hr9:r<4503599627370496:=by omega
 obtain ⟨n1,n2,n3⟩:=plain_parts hF;have n5:(fo F 0 == some .eq)=false:=by
  rw [fo_eq_pos hF (by decide)];exact decide_eq_false (by omega)
 have HN:=Yd (fun W=>norm_hi F hF0 hF W);have HI:=Yd (fun W=>show Calls Tryz.prog 111 #[.float .f64 F,.int .i64 0] W fun e w'=>e = .returned (.bool false)∧w'=W from by have:=isInf_any F W; rw [n2] at this; exact this);have HA:=Yd (fun W=>show Calls Tryz.prog 110 #[.float .f64 F] W fun e w'=>e = .returned (.bool false)∧w'=W from by have:=isNaN_any F W; rw [n1] at this; exact this);have fq:(F:Int) / 4503599627370496=(q:Int):=by omega
 have b1:bits BinOp.and IntKind.i64 (q:Int) 2047=(q:Int):=and_x .i64 (.inl rfl) _ (by omega);have b2:bits BinOp.andNot IntKind.u64 (F:Int) 9218868437227405312=(r:Int):=by rw [andn_x F (by omega),hr]
 obtain ⟨Z,hZ⟩:∃ Z,c*4503599627370496+r=Z:=⟨_,rfl⟩;rw [hZ];have b3:bits BinOp.or IntKind.u64 (r:Int) ((E+((q:Int)-1023)+1023)*4503599627370496)=(Z:Int):=by
  rw [show (E+((q:Int)-1023)+1023)*4503599627370496=((c*4503599627370496:Nat):Int) by omega,or_x r c hr9 (by omega),hZ]
 have hi:=infW_eq;have hmul:=fun W=>one_times Z (by omega) (by omega) W;have g1:(-1022:Int) <= E+((q:Int)-1023):=by omega
 have g2:E+((q:Int)-1023) <= 1023:=by omega
 have g3:(q:Int) <= 2046:=by omega
 have g4:(0:Int) <= (q:Int):=by omega
 have g5:(-2046:Int) <= E:=by omega
 have g6:E <= 2046:=by omega
 clear n1 n2 n3 hq hr hc hZ hi hF0 hF hc1 hc2;go_enter Tryz.func205,Tryz.ntmps205;go_wp2_with (first
  | (go_at_call 111; (with_reducible refine (HI.out _).mono ?_); rintro e w' ⟨rfl,rfl⟩)
  | (go_at_call 110; (with_reducible refine (HA.out _).mono ?_); rintro e w' ⟨rfl,rfl⟩)
  | (go_at_call 237; (with_reducible refine (HN.out _).mono ?_); rintro e w' ⟨rfl,rfl⟩))
 go_ret;exact ⟨rfl,rfl⟩
theorem ldexp_s (X:Nat) (h0:0<X) (hX:X<4503599627370496) (w:World) :
  Calls Tryz.prog 205 #[.float .f64 X,.int .i64 1074] w fun e w'=>e = .returned (.float .f64 (upW X+1022*4503599627370496))∧w'=w:=by
 obtain ⟨-,-,u0,u1,u2⟩:=up_val X h0 hX;obtain ⟨n1,n2,n3⟩:=plain_parts (show X<9218868437227405312 by omega);have n5:(fo X 0 == some .eq)=false:=by
  rw [fo_eq_pos (by omega) (by decide)];exact decide_eq_false (by omega)
 have HN:=Yd (fun W=>norm_lo X h0 hX W);have HI:=Yd (fun W=>show Calls Tryz.prog 111 #[.float .f64 X,.int .i64 0] W fun e w'=>e = .returned (.bool false)∧w'=W from by have:=isInf_any X W; rw [n2] at this; exact this);have HA:=Yd (fun W=>show Calls Tryz.prog 110 #[.float .f64 X] W fun e w'=>e = .returned (.bool false)∧w'=W from by have:=isNaN_any X W; rw [n1] at this; exact this);obtain ⟨F,hF⟩:∃ F,upW X=F:=⟨_,rfl⟩;rw [hF] at u0 u1 u2 HN ⊢;obtain ⟨q,hq⟩:∃ q,F / 4503599627370496=q:=⟨_,rfl⟩;obtain ⟨r,hr⟩:∃ r,F % 4503599627370496=r:=⟨_,rfl⟩;have hr9:r<4503599627370496:=by omega
 have fq:(F:Int) / 4503599627370496=(q:Int):=by omega
 have b1:bits BinOp.and IntKind.i64 (q:Int) 2047=(q:Int):=and_x .i64 (.inl rfl) _ (by omega);have b2:bits BinOp.andNot IntKind.u64 (F:Int) 9218868437227405312=(r:Int):=by rw [andn_x F (by omega),hr]
 obtain ⟨Z,hZ⟩:∃ Z,F+1022*4503599627370496=Z:=⟨_,rfl⟩;rw [hZ] at u0 ⊢;have b3:bits BinOp.or IntKind.u64 (r:Int) ((1022+((q:Int)-1023)+1023)*4503599627370496)=(Z:Int):=by
  rw [show (1022+((q:Int)-1023)+1023)*4503599627370496=(((q+1022)*4503599627370496:Nat):Int) by omega,or_x r (q+1022) hr9 (by omega),show (q+1022)*4503599627370496+r=Z by omega]
 have hmul:=fun W=>one_times Z (by omega) u0 W;have g3:(q:Int) <= 53:=by omega
 have g4:(0:Int) <= (q:Int):=by omega
 clear n1 n2 n3 hq hr hZ h0 hX hF u0 u1 u2;go_enter Tryz.func205,Tryz.ntmps205;go_wp2_with (first
  | (go_at_call 111; (with_reducible refine (HI.out _).mono ?_); rintro e w' ⟨rfl,rfl⟩)
  | (go_at_call 110; (with_reducible refine (HA.out _).mono ?_); rintro e w' ⟨rfl,rfl⟩)
  | (go_at_call 237; (with_reducible refine (HN.out _).mono ?_); rintro e w' ⟨rfl,rfl⟩))
 go_ret;exact ⟨rfl,rfl⟩
theorem ldexp_0 (w:World):Calls Tryz.prog 205 #[.float .f64 0,.int .i64 1074] w fun e w'=>e = .returned (.float .f64 0)∧w'=w:=by
 have n5:(fo 0 0 == some .eq)=true:=by kernel_rfl
 go_enter Tryz.func205,Tryz.ntmps205;go_wp2_with fail;go_ret;exact ⟨rfl,rfl⟩
theorem Ldexp_of {F Z:Nat} {E:Int} (h:∀ w:World,Calls Tryz.prog 205 #[.float .f64 F,.int .i64 E] w fun e w'=>e = .returned (.float .f64 Z)∧w'=w) (w:World) :
  Calls Tryz.prog 166 #[.float .f64 F,.int .i64 E] w fun e w'=>e = .returned (.float .f64 Z)∧w'=w:=by
 have H:=Yd h;clear h;go_enter Tryz.func166,Tryz.ntmps166;go_wp2_with (go_at_call 205; (with_reducible refine (H.out _).mono ?_); rintro e w' ⟨rfl,rfl⟩);go_ret;exact ⟨rfl,rfl⟩
theorem frexp_n (X:Nat) (h0:4503599627370496 <= X) (hX:X<9218868437227405312) (w:World) :
  Calls Tryz.prog 207 #[.float .f64 X] w fun e w'=>e = .returned (.tuple #[.float .f64 (1022*4503599627370496+X % 4503599627370496),.int .i64 (((X / 4503599627370496:Nat):Int)-1022)])∧w'=w:=by
 obtain ⟨q,hq⟩:∃ q,X / 4503599627370496=q:=⟨_,rfl⟩;obtain ⟨r,hr⟩:∃ r,X % 4503599627370496=r:=⟨_,rfl⟩;rw [hr,hq];have hr9:r<4503599627370496:=by omega
 obtain ⟨n1,n2,n3⟩:=plain_parts hX;have n5:(fo X 0 == some .eq)=false:=by
  rw [fo_eq_pos hX (by decide)];exact decide_eq_false (by omega)
 have HN:=Yd (fun W=>norm_hi X h0 hX W);have HI:=Yd (fun W=>show Calls Tryz.prog 111 #[.float .f64 X,.int .i64 0] W fun e w'=>e = .returned (.bool false)∧w'=W from by have:=isInf_any X W; rw [n2] at this; exact this);have HA:=Yd (fun W=>show Calls Tryz.prog 110 #[.float .f64 X] W fun e w'=>e = .returned (.bool false)∧w'=W from by have:=isNaN_any X W; rw [n1] at this; exact this);have fq:(X:Int) / 4503599627370496=(q:Int):=by omega
 have b1:bits BinOp.and IntKind.u64 (q:Int) 2047=(q:Int):=and_x .u64 (.inr rfl) _ (by omega);have b2:bits BinOp.andNot IntKind.u64 (X:Int) 9218868437227405312=(r:Int):=by rw [andn_x X (by omega),hr]
 obtain ⟨Z,hZ⟩:∃ Z,1022*4503599627370496+r=Z:=⟨_,rfl⟩;rw [hZ];have b3:bits BinOp.or IntKind.u64 (r:Int) 4602678819172646912=(Z:Int):=by
  have:=or_x r 1022 hr9 (by decide);rw [hZ] at this;exact this
 have g3:(q:Int) <= 2046:=by omega
 have g4:(0:Int) <= (q:Int):=by omega
 clear n1 n2 n3 hq hr hZ h0 hX;go_enter Tryz.func207,Tryz.ntmps207;go_wp2_with (first
  | (go_at_call 111; (with_reducible refine (HI.out _).mono ?_); rintro e w' ⟨rfl,rfl⟩)
  | (go_at_call 110; (with_reducible refine (HA.out _).mono ?_); rintro e w' ⟨rfl,rfl⟩)
  | (go_at_call 237; (with_reducible refine (HN.out _).mono ?_); rintro e w' ⟨rfl,rfl⟩))
 go_ret2;refine ⟨?_,rfl⟩;show Ending.returned (.tuple #[.float .f64 Z,.int .i64 ((q:Int)-1023+1)])=_;rw [show (q:Int)-1023+1=(q:Int)-1022 by omega]
theorem Frexp_of {F Z:Nat} {E:Int} (h:∀ w:World,Calls Tryz.prog 207 #[.float .f64 F] w fun e w'=>e = .returned (.tuple #[.float .f64 Z,.int .i64 E])∧w'=w) (w:World) :
  Calls Tryz.prog 167 #[.float .f64 F] w fun e w'=>e = .returned (.tuple #[.float .f64 Z,.int .i64 E])∧w'=w:=by
 have H:=Yd h;clear h;go_enter Tryz.func167,Tryz.ntmps167;go_wp2_with (go_at_call 207; (with_reducible refine (H.out _).mono ?_); rintro e w' ⟨rfl,rfl⟩);go_ret2;exact ⟨rfl,rfl⟩
theorem conv_fu (Z d:Nat) (h:floatToIntVal .f64 Z .u64=some (d:Int)) (w:World):(convert 46 109 (.float .f64 Z)).run Tryz.prog w = .ok (.int .u64 (d:Int)) w :=
 run_convert_float_int (P:=Tryz.prog) w 46 109 .f64 .u64 Z (d:Int) (by rw [Tryz.underlying46]; rfl) Tryz.underlying109 h
theorem pieces_any (X:Nat) (hX:X<9218868437227405312) (w:World) :
  Calls Tryz.prog 130 #[.float .f64 X] w fun e w'=>e = .returned (.tuple #[.int .u64 (ftM X:Nat),.int .i64 (ftE X-52)])∧w'=w:=by
 have H1:=Yd (fun W=>Ldexp_of (fun w=>ldexp_n 4607182418800017408 1 (-1022) (by decide) (by decide) (by decide) (by decide) (by decide) w) W);have hi:=infW_eq
 by_cases hl:X<4503599627370496
 ·obtain ⟨e1,e2⟩:=ft_low hl;rw [e1,e2];have d1:(fo X 4503599627370496 == some .lt)=true:=by rw [fo_lt_pos hX (by decide)]; exact decide_eq_true hl
  by_cases h0:X=0
  ·subst h0;have H2:=Yd (fun W=>Ldexp_of ldexp_0 W);have hcv:=fun W=>conv_fu 0 0 (by kernel_rfl) W;clear hX hl e1 e2 hi;go_enter Tryz.func130,Tryz.ntmps130;go_wp2_with (first
    | (go_at_call 166; (with_reducible refine (H1.out _).mono ?_); rintro e w' ⟨rfl,rfl⟩)
    | (go_at_call 166; (with_reducible refine (H2.out _).mono ?_); rintro e w' ⟨rfl,rfl⟩))
   go_ret2;exact ⟨rfl,rfl⟩
  ·obtain ⟨-,u1,u2,-,-⟩:=up_val X (by omega) hl;have H2:=Yd (fun W=>Ldexp_of (fun w=>ldexp_s X (by omega) hl w) W);have hcv:=fun W=>conv_fu _ X (f2u _ X u2 u1 (by omega)) W;obtain ⟨Z,hZ⟩:∃ Z,upW X+1022*4503599627370496=Z:=⟨_,rfl⟩;rw [hZ] at H2 hcv;clear hX hl e1 e2 hi u1 u2 hZ h0;go_enter Tryz.func130,Tryz.ntmps130;go_wp2_with (first
    | (go_at_call 166; (with_reducible refine (H1.out _).mono ?_); rintro e w' ⟨rfl,rfl⟩)
    | (go_at_call 166; (with_reducible refine (H2.out _).mono ?_); rintro e w' ⟨rfl,rfl⟩))
   go_ret2;exact ⟨rfl,rfl⟩
 ·have e2:=ft_high (show 4503599627370496 <= X by omega);have d1:(fo X 4503599627370496 == some .lt)=false:=by rw [fo_lt_pos hX (by decide)]; exact decide_eq_false hl
  obtain ⟨u1,u2⟩:=fr_val X (by omega);have hm:=(ftM_pos X (by omega)).2;have HF:=Yd (fun W=>Frexp_of (fun w=>frexp_n X (by omega) hX w) W);have H2:=Yd (fun W=>Ldexp_of (fun w=>ldexp_n (1022*4503599627370496+X % 4503599627370496) 1075 53 (by omega) (by omega) (by omega) (by decide) (by decide) w) W);rw [show (1022*4503599627370496+X % 4503599627370496) % 4503599627370496=X % 4503599627370496 by omega] at H2;have hcv:=fun W=>conv_fu _ (ftM X) (f2u _ _ u2 u1 (by omega)) W;rw [Nat.add_comm (X % 4503599627370496)] at hcv;obtain ⟨Z,hZ⟩:∃ Z,1075*4503599627370496+X % 4503599627370496=Z:=⟨_,rfl⟩;obtain ⟨Y,hY⟩:∃ Y,1022*4503599627370496+X % 4503599627370496=Y:=⟨_,rfl⟩;obtain ⟨M,hM⟩:∃ M,ftM X=M:=⟨_,rfl⟩;obtain ⟨q,hq⟩:∃ q,X / 4503599627370496=q:=⟨_,rfl⟩;rw [hZ] at H2 hcv;rw [hY] at H2 HF;rw [hM] at hcv ⊢;rw [hq] at HF e2;rw [e2];have q1:(q:Int) <= 2046:=by omega
  have q0:(0:Int) <= (q:Int):=by omega
  clear hX hl e2 hi u1 u2 hZ hY hm hM hq;go_enter Tryz.func130,Tryz.ntmps130;go_wp2_with (first
   | (go_at_call 166; (with_reducible refine (H1.out _).mono ?_); rintro e w' ⟨rfl,rfl⟩)
   | (go_at_call 167; (with_reducible refine (HF.out _).mono ?_); rintro e w' ⟨rfl,rfl⟩)
   | (go_at_call 166; (with_reducible refine (H2.out _).mono ?_); rintro e w' ⟨rfl,rfl⟩))
  go_ret2;refine ⟨?_,rfl⟩;show Ending.returned (.tuple #[.int .u64 (M:Int),.int .i64 ((q:Int)-1022-53)])=_;rw [show (q:Int)-1022-53=(q:Int)-1075 by omega]
end rg

/- burnishref16: the walks of Times, power and Compare: whole numbers digit by digit. Conditions: as each theorem states. -/
namespace rg
open Go.RowKit
theorem u64Info:(Tryz.prog.info? 109).map (fun i=>(i.zero,i.size,i.bytes))=some (some (.int .u64 0),1,8):=by kernel_rfl
def uV (l:List Nat):List Value:=l.map fun d:Nat=>Value.int .u64 (d:Int)
def BigV (W:World) (v:Value) (l:List Nat):Prop :=
 ∃ A c,v = .slice A l.length c∧(l≠[] -> ∃ g,A=some ⟨g,0,none⟩∧g<W.heap.size ∧ ∀ j (h:j<l.length),W.cell? ⟨g,j,none⟩=some (.int .u64 ((l[j]:Nat):Int)))
theorem BigV.below {W W':World} {v:Value} {l:List Nat} (h:BigV W v l) (hb:Below W.heap.size W W'):BigV W' v l:=by
 obtain ⟨A,c,hv,hx⟩:=h;refine ⟨A,c,hv,fun h0 => ?_⟩;obtain ⟨g,hA,hg,hc⟩:=hx h0;exact ⟨g,hA,by have:=hb.size; omega,fun j hj=>(hb.cell (p:=⟨g,j,none⟩) hg).trans (hc j hj)⟩
theorem BigV.of_own {W:World} {base:Nat} {v:Value} {ds:List Nat} (h:W.ownsRow base 109 1 v ds.length (uV ds)):BigV W v ds:=by
 rcases h.2 with ⟨rfl,hn⟩ | ⟨g,cap,cur,rfl,_,hgg,_⟩
 ·exact ⟨_,_,by rw [hn],fun h0=>absurd (List.eq_nil_of_length_eq_zero hn) h0⟩
 ·refine ⟨_,_,rfl,fun _=>⟨g,rfl,(Array.getElem?_eq_some_iff.1 hgg).1,fun j hj => ?_⟩⟩;have hc:=h.cells (g:=g) rfl j (.int .u64 ((ds[j]:Nat):Int)) (by simp [uV,hj]);have hadd:(⟨g,0,none⟩:Addr).add j=⟨g,j,none⟩:=by unfold Addr.add; split <;> simp_all
  rw [hadd] at hc;exact hc
theorem BigV.nil (W:World) (c:Nat) (A:Option Addr):BigV W (.slice A 0 c) []:=⟨A,c,rfl,fun h=>absurd rfl h⟩
theorem cells_new1 (W:World) (u:Value) (t:TypeId):∀ j v,[u][j]? = some v -> (W.alloc (.cells #[u] t)).cell? ((⟨W.heap.size,0,none⟩:Addr).add j)=some v:=by
 intro j v hv;have hadd:(⟨W.heap.size,0,none⟩:Addr).add j=⟨W.heap.size,j,none⟩:=by unfold Addr.add; split <;> simp_all
 rw [hadd,cell_of_row _ _ j _ _ _ (heap_alloc_new W _)];simpa using hv
theorem dig_len3 (n:Nat) (h:n<18446744073709551616):(dig n).length <= 3:=by
 by_cases h0:n=0
 ·subst h0; rw [dig_zero]; decide
 ·rw [dig_pos h0,List.length_cons];have:=dig_len (n / 1000000000) (by omega);omega
theorem times_any (v:Value) (l:List Nat) (by_ more:Nat) (w:World) (hv:BigV w v l) (ho:BOk l) (hb:by_ <= 10000000000) (hl:l.length <= 100000) (hm:l≠[] -> more <= 10000000000) (hm2:more<18446744073709551616) :
  Calls Tryz.prog 165 #[v,.int .u64 by_,.int .u64 more] w fun e w'=>∃ v',e = .returned v'∧BigV w' v' (timesL by_ l more)∧Below w.heap.size w w':=by
 obtain ⟨A,c,rfl,hx⟩:=hv;obtain ⟨i0,hi,hz0,hz1,hz2⟩:=info_parts u64Info;have HX:=Yd hx;have HO:=Yd ho;have HM:=Yd hm;clear hx ho hm;go_enter Tryz.func165,Tryz.ntmps165;go_wp2_with fail
 go_loopw [2,7,8] (fun sm so si wr=>∃ (i m:Nat) (ds:List Nat),i <= l.length∧ds.length=i∧si = .int .i64 i∧sm = .int .u64 m∧wr.ownsRow w.heap.size 109 1 so ds.length (uV ds)∧Below w.heap.size w wr ∧
  timesL by_ l more=ds ++ timesL by_ (l.drop i) m∧(i<l.length -> m <= 10000000000)∧m<18446744073709551616) (fun _ _ si _=>l.length-(intOf si).toNat)
 case atStart=>exact ⟨0,more,[],Nat.zero_le _,rfl,rfl,rfl,⟨rfl,.inl ⟨rfl,rfl⟩⟩,Below.refl _ _,rfl,fun h=>HM.out (by intro e; subst e; simp at h),hm2⟩
 case round =>
  obtain ⟨i,m,ds,hil,hds,rfl,rfl,hown,hB,heq,hmi,hm64⟩:=hrel;obtain ⟨wo,rfl⟩:∃ wo:World,wo=wr:=⟨_,rfl⟩;have HB:=Yd hB;have HE:=Yd heq;clear hB heq
  by_cases hlt:i<l.length
  ·obtain ⟨g,rfl,hg,hc⟩:=HX.out (by intro e; subst e; simp at hlt);have hcell:=(HB.out.cell (p:=⟨g,i,none⟩) hg).trans (hc i hlt);have hd9:=HO.out l[i] (List.getElem_mem hlt);have hmi':=hmi hlt;have heq2:=HE.out;rw [List.drop_eq_getElem_cons hlt] at heq2;obtain ⟨d,hd⟩:∃ d,l[i]=d:=⟨_,rfl⟩;rw [hd] at hcell hd9 heq2;obtain ⟨P,hP⟩:∃ P,d*by_=P:=⟨_,rfl⟩;have hPb:P <= 9999999990000000000:=by
    rw [<- hP];exact Nat.mul_le_mul (show d <= 999999999 by omega) hb
   have hPi:(d:Int)*(by_:Int)=(P:Int):=by rw [<- hP]; simp
   obtain ⟨X,hX⟩:∃ X,P+m=X:=⟨_,rfl⟩;have hXi:(P:Int)+(m:Int)=(X:Int):=by omega
   have e2:timesL by_ (d :: l.drop (i+1)) m=X % 1000000000 :: timesL by_ (l.drop (i+1)) (X / 1000000000):=by
    show (d*by_+m) % 1000000000 :: timesL by_ (l.drop (i+1)) ((d*by_+m) / 1000000000)=_;rw [hP,hX]
   rw [e2] at heq2;have HQ:=Yd heq2;have hX2:X<18446744073709551616:=by omega
   obtain ⟨R,hR⟩:∃ R,X % 1000000000=R:=⟨_,rfl⟩;obtain ⟨D,hD⟩:∃ D,X / 1000000000=D:=⟨_,rfl⟩;have hXm:(X:Int) % 1000000000=(R:Int):=by omega
   have hXd:(X:Int) / 1000000000=(D:Int):=by omega
   have hXd9:D <= 10000000000:=by omega
   rw [hR,hD] at HQ;have hli:(l.length:Int) <= 100000:=by omega
   have hlt':(i:Int)<(l.length:Int):=by omega
   clear hc hd heq2 e2 hP hX hmi HE hR hD;go_wp2_with (at_builtin; go_loud (refine wpList_append_own _ rfl _ _ 173 rfl w.heap.size 109 i0 _ 1 8 Tryz.underlying173 hi hz0 hz1 hz2 rfl (by decide) _ _ _ rfl (hown.alloc _) ⟨wo.heap.size,0,none⟩ 1 1 [.int .u64 ((R:Nat):Int)] rfl rfl (cells_new1 _ _ _) (by simp [Value.oneCell']) (by unfold maxLen; omega) (by omega) (by have:=HB.out.size; simp; omega) ?_); intro v' w1 hown' hgrow _);have hB':=(HB.out.alloc HB.out.size (.cells #[.int .u64 ((R:Nat):Int)] 109)).grown hgrow (by have:=HB.out.size; simp; omega) (fun j ej=>(hown.lt j ej).1);refine ⟨⟨i+1,D,ds ++ [R],by omega,by simp [hds],by go_num,by first | rfl | rw [hXd],?_,hB',?_,fun _=>hXd9,by omega⟩,by simp only [intOf]; omega⟩
   ·rw [List.length_append];have:uV (ds ++ [R])=uV ds ++ [.int .u64 ((R:Nat):Int)]:=by simp [uV]
    rw [this];exact hown'
   ·rw [HQ.out]; simp
  ·have hie:i=l.length:=by omega
   have heq2:=HE.out;rw [List.drop_eq_nil_of_le (by omega)] at heq2;have HQ:=Yd (show timesL by_ l more=ds ++ dig m from heq2);clear heq2 HE hmi;have hlt':¬ (i:Int)<(l.length:Int):=by omega
   have hdsl:ds.length+3 <= 100003:=by omega
   clear hil hds hlt;go_wp2_with fail;have H3:=Yd (show (dig m).length <= 3 from dig_len3 m hm64);obtain ⟨ml,hml⟩:∃ ml,(dig m).length=ml:=⟨_,rfl⟩
   go_loopw [2,7] (fun sm so wr=>∃ (m:Nat) (ds:List Nat),ds.length+(dig m).length <= 100003∧sm = .int .u64 m∧wr.ownsRow w.heap.size 109 1 so ds.length (uV ds)∧Below w.heap.size w wr ∧
    timesL by_ l more=ds ++ dig m∧m<18446744073709551616) (fun sm _ _=>(intOf sm).toNat)
   case atStart=>exact ⟨m,ds,by have:=H3.out; omega,rfl,hown,HB.out,HQ.out,hm64⟩
   case round =>
    clear hown HB HQ H3 hml hm64 hdsl;obtain ⟨m,ds,hdl,rfl,hown,hB,heq,hm64⟩:=hrel;obtain ⟨wq,rfl⟩:∃ wq:World,wq=wr:=⟨_,rfl⟩;have HB:=Yd hB
    by_cases hm0:m=0
    ·subst hm0;rw [dig_zero,List.append_nil] at heq;have HR:=Yd (BigV.of_own hown);have HQ:=Yd heq;clear hB heq hown hdl;go_wp2_with fail;go_ret;exact ⟨_,rfl,by rw [HQ.out]; exact HR.out,HB.out⟩
    ·rw [dig_pos hm0] at heq hdl;have HQ:=Yd heq;rw [List.length_cons] at hdl;have HD:=Yd hdl;have hd0:ds.length <= 100002:=by omega
     have hmp:(0:Int)<(m:Int):=by omega
     obtain ⟨R,hR⟩:∃ R,m % 1000000000=R:=⟨_,rfl⟩;obtain ⟨D,hD⟩:∃ D,m / 1000000000=D:=⟨_,rfl⟩;have hXm:(m:Int) % 1000000000=(R:Int):=by omega
     have hXd:(m:Int) / 1000000000=(D:Int):=by omega
     have hDm:D<m:=by omega
     rw [hR,hD] at HQ;rw [hD] at HD;clear hB heq hdl hR hD hm0;go_wp2_with (at_builtin; go_loud (refine wpList_append_own _ rfl _ _ 173 rfl w.heap.size 109 i0 _ 1 8 Tryz.underlying173 hi hz0 hz1 hz2 rfl (by decide) _ _ _ rfl (hown.alloc _) ⟨wq.heap.size,0,none⟩ 1 1 [.int .u64 ((R:Nat):Int)] rfl rfl (cells_new1 _ _ _) (by simp [Value.oneCell']) (by unfold maxLen; omega) (by omega) (by have:=HB.out.size; simp; omega) ?_); intro v' w1 hown' hgrow _);have hB':=(HB.out.alloc HB.out.size (.cells #[.int .u64 ((R:Nat):Int)] 109)).grown hgrow (by have:=HB.out.size; simp; omega) (fun j ej=>(hown.lt j ej).1);refine ⟨⟨D,ds ++ [R],by rw [List.length_append]; have:=HD.out; simp only [List.length_singleton]; omega,by first | rfl | rw [hXd],?_,hB',?_,by omega⟩,by simp only [intOf]; omega⟩
     ·rw [List.length_append];have:uV (ds ++ [R])=uV ds ++ [.int .u64 ((R:Nat):Int)]:=by simp [uV]
      rw [this];exact hown'
     ·rw [HQ.out]; simp
end rg

/- What burnishref16.parts takes out of a text is what decimal.Parse takes out of it. Plain; no condition but those stated. -/
namespace rg
open rdf
structure PS where
 ds:List UInt8
 dots:Nat
 pw:Int
def pS:List UInt8 -> PS -> PS × List UInt8
 | [],p=>(p,[])
 | c :: l,p=>if isD c then pS l ⟨p.ds ++ [c],p.dots,p.pw-p.dots⟩ else if c.toNat=46 then pS l ⟨p.ds,p.dots+1,p.pw⟩ else (p,c :: l)
def ps0:PS:=⟨[],0,0⟩
def dv (n:Nat) (l:List UInt8):Nat:=l.foldl (fun n c=>n*10+(c.toNat-48)) n
theorem ps_dgs:∀ (l:List UInt8) (p:PS),pS l p=pS (l.drop (dgs l)) ⟨p.ds ++ l.take (dgs l),p.dots,p.pw-p.dots*(dgs l:Nat)⟩
 | [],p=>by
  show (p,[])=(PS.mk (p.ds ++ []) p.dots (p.pw-p.dots*((0:Nat):Int)),[]);rw [List.append_nil];simp
 | c :: l,p=>by
  by_cases hc:isD c=true
  ·have e:dgs (c :: l)=dgs l+1:=by show (if isD c then dgs l+1 else 0)=_; rw [if_pos hc]
   rw [e,List.drop_succ_cons,List.take_succ_cons];have e2:pS (c :: l) p=pS l ⟨p.ds ++ [c],p.dots,p.pw-p.dots⟩:=by show (if isD c then _ else _)=_; rw [if_pos hc]
   rw [e2,ps_dgs l];congr 1;simp only [List.append_assoc,List.singleton_append,PS.mk.injEq,true_and];rw [Int.natCast_add,Int.mul_add];omega
  ·have e:dgs (c :: l)=0:=by show (if isD c then dgs l+1 else 0)=_; rw [if_neg hc]
   rw [e];simp
theorem ps_stop (l:List UInt8) (p:PS) (h:dgs l=0) (h2:l.head? ≠ some 46):pS l p=(p,l):=by
 cases l with
 | nil=>rfl
 | cons c l =>
  have hc:¬ isD c=true:=fun hc=>by
   have e:dgs (c :: l)=dgs l+1:=by show (if isD c then dgs l+1 else 0)=_; rw [if_pos hc]
   omega
  have h46:¬ c.toNat=46:=fun e=>h2 (by
   have:c=46:=UInt8.toNat_inj.1 e;rw [this]; rfl)
  show (if isD c then _ else if c.toNat=46 then _ else _)=_;rw [if_neg hc,if_neg h46]
theorem ps_dot (l:List UInt8) (p:PS):pS (46 :: l) p=pS l ⟨p.ds,p.dots+1,p.pw⟩:=by
 show (if isD 46 then _ else if (46:UInt8).toNat=46 then _ else _)=_;rw [if_neg (by decide),if_pos (show (46:UInt8).toNat=46 from rfl)]
theorem ps_more:∀ (l:List UInt8) (p:PS),p.dots <= (pS l p).1.dots
 | [],_=>Nat.le_refl _
 | c :: l,p=>by
  show p.dots <= (if isD c then pS l ⟨p.ds ++ [c],p.dots,p.pw-p.dots⟩ else if c.toNat=46 then pS l ⟨p.ds,p.dots+1,p.pw⟩ else (p,c :: l)).1.dots
  split
  ·exact ps_more l ⟨p.ds ++ [c],p.dots,p.pw-p.dots⟩
  ·split
   ·exact Nat.le_trans (Nat.le_succ _) (ps_more l ⟨p.ds,p.dots+1,p.pw⟩)
   ·exact Nat.le_refl _
theorem fold_num:∀ (l:List UInt8) (y:MS),(∀ c∈l,isD c=true) -> (y.nd=0 -> y.N=0) ->
  (foldD l y).N=dv y.N l∧(foldD l y).dp-((foldD l y).nd:Int)=y.dp-(y.nd:Int)-(l.length:Nat)∧(foldD l y).dot=y.dot∧((foldD l y).nd=0 -> (foldD l y).N=0)
 | [],y,_,h=>⟨rfl,by show y.dp-(y.nd:Int)=y.dp-y.nd-((0:Nat):Int); omega,rfl,h⟩
 | c :: l,y,hd,h=>by
  have hs:(dgS c y).N=y.N*10+(c.toNat-48)∧(dgS c y).dp-((dgS c y).nd:Int)=y.dp-(y.nd:Int)-1∧(dgS c y).dot=y.dot∧((dgS c y).nd=0 -> (dgS c y).N=0):=by
   unfold dgS
   split
   ·next h0 =>
    have:=h h0.2;refine ⟨?_,?_,rfl,fun _=>this⟩
    ·show y.N=y.N*10+(c.toNat-48);rw [this,h0.1]
    ·show y.dp-1-(y.nd:Int)=_;omega
   ·split
    ·exact ⟨rfl,by show y.dp-((y.nd+1:Nat):Int)=_; omega,rfl,fun h=>absurd h (Nat.succ_ne_zero _)⟩
    ·exact ⟨rfl,by show y.dp-((y.nd+1:Nat):Int)=_; omega,rfl,fun h=>absurd h (Nat.succ_ne_zero _)⟩
  obtain ⟨h1,h2,h3,h4⟩:=hs;obtain ⟨g1,g2,g3,g4⟩:=fold_num l (dgS c y) (fun x hx=>hd x (by simp [hx])) h4;refine ⟨?_,?_,g3.trans h3,g4⟩
  ·show (foldD l (dgS c y)).N=dv (y.N*10+(c.toNat-48)) l;rw [g1,h1]
  ·show (foldD l (dgS c y)).dp-((foldD l (dgS c y)).nd:Int)=y.dp-(y.nd:Int)-((l.length+1:Nat):Int);rw [g2,h2];omega
theorem dv_app (n:Nat) (a b:List UInt8):dv n (a ++ b)=dv (dv n a) b:=List.foldl_append ..
def partsL (l:List UInt8):Option (List UInt8 × Int) :=
 let p:=pS (unsg l) ps0
 if p.1.ds.length=0∨30<p.1.ds.length∨1<p.1.dots∨40<l.length then none
 else if p.2=[] then some (p.1.ds,p.1.pw)
 else if expB p.2 then some (p.1.ds,p.1.pw+exV (p.2.drop 1)) else none
theorem dots_exp {r:List UInt8} (h:r.head? = some 46):expB r=false:=by
 cases r with
 | nil=>rfl
 | cons c r =>
  have:c=46:=Option.some.inj h;subst this;rfl
theorem parts_cut (l:List UInt8):(1<(pS l ps0).1.dots∧(cutN l).2.head? = some 46) ∨
  ((pS l ps0).1.dots <= 1∧(cutN l)=((pS l ps0).1.ds.length,(pS l ps0).2) ∧ ∃ x,mL l ms0=(x,(pS l ps0).2)∧x.N=dv 0 (pS l ps0).1.ds∧dpX x-(x.nd:Int)=(pS l ps0).1.pw):=by
 obtain ⟨f1,f2,f3,f4⟩:=fold_num (l.take (dgs l)) ms0 (all_take l) (fun _=>rfl)
 by_cases h46:(l.drop (dgs l)).head? = some 46
 ·obtain ⟨t,ht⟩:∃ t,l.drop (dgs l)=46 :: t:=by
   cases hd:l.drop (dgs l) with
   | nil=>rw [hd] at h46; cases h46
   | cons c t =>
    rw [hd] at h46;have:c=46:=Option.some.inj h46;exact ⟨t,by rw [this]⟩
  have e1:pS l ps0=pS (t.drop (dgs t)) ⟨l.take (dgs l) ++ t.take (dgs t),1,0-(dgs t:Nat)⟩:=by
   rw [ps_dgs l,ht,ps_dot,ps_dgs t];congr 1;simp [ps0]
  have ec:cutN l=(dgs l+dgs t,t.drop (dgs t)):=by
   show (if (l.drop (dgs l)).head? = some 46 then _ else _)=_;rw [if_pos h46,ht];rfl
  have em:mL l ms0=mL (t.drop (dgs t)) (foldD (t.take (dgs t)) (dotS (foldD (l.take (dgs l)) ms0))):=by
   rw [ml_dgs l,ht];have:mL (46 :: t) (foldD (l.take (dgs l)) ms0)=mL t (dotS (foldD (l.take (dgs l)) ms0)):=by
    show (if (46:UInt8).toNat=46 then (if (foldD (l.take (dgs l)) ms0).dot then _ else _) else _)=_;rw [if_pos (show (46:UInt8).toNat=46 from rfl),f3];rfl
   rw [this,ml_dgs t]
  by_cases h2:(t.drop (dgs t)).head? = some 46
  ·left;refine ⟨?_,by rw [ec]; exact h2⟩;rw [e1];obtain ⟨u,hu⟩:∃ u,t.drop (dgs t)=46 :: u:=by
    cases hd:t.drop (dgs t) with
    | nil=>rw [hd] at h2; cases h2
    | cons c u =>
     rw [hd] at h2;have:c=46:=Option.some.inj h2;exact ⟨u,by rw [this]⟩
   rw [hu,ps_dot];exact ps_more u ⟨_,2,_⟩
  ·right;rw [e1,ps_stop _ _ (dgs_drop t) h2];obtain ⟨g1,g2,g3,g4⟩:=fold_num (t.take (dgs t)) (dotS (foldD (l.take (dgs l)) ms0)) (all_take t) f4;refine ⟨Nat.le_refl _,?_,foldD (t.take (dgs t)) (dotS (foldD (l.take (dgs l)) ms0)),?_,?_,?_⟩
   ·rw [ec,List.length_append,rdf.take_len,rdf.take_len]
   ·rw [em];exact ml_stop _ _ (dgs_drop t) fun h=>absurd h h2
   ·rw [g1];show dv (foldD (l.take (dgs l)) ms0).N _=_;rw [f1,dv_app];rfl
   ·have hdot:(foldD (t.take (dgs t)) (dotS (foldD (l.take (dgs l)) ms0))).dot=true:=g3;unfold dpX;rw [hdot,if_pos rfl,g2,rdf.take_len];show ((foldD (l.take (dgs l)) ms0).nd:Int)-((foldD (l.take (dgs l)) ms0).nd:Int)-_=0-((dgs t:Nat):Int);omega
 ·right;rw [ps_dgs l,ps_stop _ _ (dgs_drop l) h46];refine ⟨Nat.zero_le _,?_,foldD (l.take (dgs l)) ms0,?_,?_,?_⟩
  ·show (if (l.drop (dgs l)).head? = some 46 then _ else _)=_;rw [if_neg h46];show (dgs l,l.drop (dgs l))=((([]:List UInt8) ++ l.take (dgs l)).length,l.drop (dgs l));rw [List.nil_append,rdf.take_len]
  ·rw [ml_dgs l];exact ml_stop _ _ (dgs_drop l) fun h=>absurd h h46
  ·rw [f1];rfl
  ·unfold dpX;rw [f3];show ((foldD (l.take (dgs l)) ms0).nd:Int)-((foldD (l.take (dgs l)) ms0).nd:Int)=_;simp [ps0]
theorem parts_law (l:List UInt8):(partsL l=none∧rightL l=false) ∨ ∃ D P,partsL l=some (D,P)∧rightL l=true∧1 <= D.length∧D.length <= 30∧(msL l).N=dv 0 D∧dpX (msL l)+exL l-((msL l).nd:Int)=P:=by
 unfold partsL rightL
 by_cases h40:40<l.length
 ·left;rw [if_pos h40,if_pos (.inr (.inr (.inr h40)))];exact ⟨rfl,rfl⟩
 rw [if_neg h40];simp only
 rcases parts_cut (unsg l) with ⟨h1,h2⟩ | ⟨h1,h2,x,h3,h4,h5⟩
 ·left;rw [if_pos (.inr (.inr (.inl h1)))];refine ⟨rfl,?_⟩;have hne:(cutN (unsg l)).2≠[]:=fun e=>by rw [e] at h2; cases h2
  by_cases hq:(cutN (unsg l)).1<1∨30<(cutN (unsg l)).1∨(cutN (unsg l)).2=[]
  ·rw [if_pos hq]
   rcases hq with hq | hq | hq
   ·rw [decide_eq_false (by omega),Bool.false_and]
   ·rw [decide_eq_false (p:=(cutN (unsg l)).1 <= 30) (by omega),Bool.and_false]
   ·exact absurd hq hne
  ·rw [if_neg hq];exact dots_exp h2
 ·rw [h2];simp only;obtain ⟨p,hp⟩:∃ p,pS (unsg l) ps0=p:=⟨_,rfl⟩;rw [hp] at h1 h3 h4 h5 ⊢;have hms:msL l=x:=by unfold msL; rw [h3]
  have hex:exL l=if p.2=[] then 0 else exV (p.2.drop 1):=by unfold exL; rw [h3]
  by_cases hb:p.1.ds.length<1∨30<p.1.ds.length
  ·left;rw [if_pos (by omega),if_pos (by omega)];refine ⟨rfl,?_⟩
   rcases hb with hb | hb
   ·rw [decide_eq_false (by omega),Bool.false_and]
   ·rw [decide_eq_false (p:=p.1.ds.length <= 30) (by omega),Bool.and_false]
  ·rw [if_neg (by omega)]
   by_cases he:p.2=[]
   ·right;rw [if_pos he,if_pos (.inr (.inr he)),decide_eq_true (by omega),decide_eq_true (by omega)];refine ⟨_,_,rfl,rfl,by omega,by omega,by rw [hms]; exact h4,?_⟩;rw [hms,hex,if_pos he,<- h5];omega
   ·rw [if_neg he,if_neg (show ¬(p.1.ds.length<1∨30<p.1.ds.length∨p.2=[]) from fun h=>h.elim (fun h=>hb (.inl h)) fun h=>h.elim (fun h=>hb (.inr h)) he)]
    by_cases hx:expB p.2=true
    ·right;rw [if_pos hx];refine ⟨_,_,rfl,hx,by omega,by omega,by rw [hms]; exact h4,?_⟩;rw [hms,hex,if_neg he,<- h5];omega
    ·left;rw [if_neg hx];exact ⟨rfl,by simpa using hx⟩
end rg

/- What burnishref16.near tells of digits and a power of ten. Plain; no condition but those stated. -/
namespace rg
open rdf
open fpm
open prnw (ftM ftE)
open dmx
theorem dv_lt:∀ (l:List UInt8) (n:Nat),(∀ c∈l,isD c=true) -> dv n l<(n+1)*10 ^ l.length
 | [],n,_=>by show n<(n+1)*1; omega
 | c :: l,n,h=>by
  have h1:=dv_lt l (n*10+(c.toNat-48)) fun x hx=>h x (by simp [hx]);have h2:=(isD_iff c).1 (h c (by simp));have h3:(n*10+(c.toNat-48)+1)*10 ^ l.length <= ((n+1)*10)*10 ^ l.length:=Nat.mul_le_mul_right _ (by omega);show dv (n*10+(c.toNat-48)) l<(n+1)*10 ^ (l.length+1);rw [Nat.pow_succ,Nat.mul_comm (10 ^ l.length) 10,<- Nat.mul_assoc];exact Nat.lt_of_lt_of_le h1 h3
theorem ps_isD:∀ (l:List UInt8) (p:PS),(∀ c∈p.ds,isD c=true) -> ∀ c∈(pS l p).1.ds,isD c=true
 | [],_,h=>h
 | c :: l,p,h=>by
  show ∀ x∈(if isD c then pS l ⟨p.ds ++ [c],p.dots,p.pw-p.dots⟩ else if c.toNat=46 then pS l ⟨p.ds,p.dots+1,p.pw⟩ else (p,c :: l)).1.ds,isD x=true
  split
  ·next hc =>
   exact ps_isD l _ fun x hx=>by
    rcases List.mem_append.1 hx with hx | hx
    ·exact h x hx
    ·rw [List.mem_singleton.1 hx]; exact hc
  ·split
   ·exact ps_isD l _ h
   ·exact h
theorem nx_tiny {N:Nat} (hN:N<10 ^ 30) {P:Int} (hP:P < -800):nx N P=0:=by
 have h1:=nx_mono (Nat.le_of_lt hN) P;have h2:=nx_shift 1 30 P;rw [Nat.one_mul] at h2;have h3:=nx_low (N:=1) (by decide) (P:=P+(30:Nat)) (by omega);rw [h2,h3] at h1;omega
def nearR (N:Nat) (P:Int):Nat × Bool:=if infX <= nx N P then (0,false) else (nx N P,true)
structure NI (A B low high:Nat):Prop where
 lo:qv low*B <= A*2 ^ unB
 le:low <= high
 top:high <= 9218868437227405311
 hi:high=9218868437227405311∨A*2 ^ unB<qv (high+1)*B
theorem NI.start (A B:Nat):NI A B 0 9218868437227405311:=⟨by rw [qv_zero,Nat.zero_mul]; exact Nat.zero_le _,by decide,Nat.le_refl _,.inl rfl⟩
theorem NI.up {A B low high mid:Nat} (h:NI A B low high) (h1:mid <= high) (h2:qv mid*B <= A*2 ^ unB):NI A B mid high:=⟨h2,h1,h.top,h.hi⟩
theorem NI.down {A B low high mid:Nat} (h:NI A B low high) (h0:low<mid) (h1:mid <= high) (h2:A*2 ^ unB<qv mid*B):NI A B low (mid-1) :=
 ⟨h.lo,by omega,by have:=h.top; omega,.inr (by rw [show mid-1+1=mid by omega]; exact h2)⟩
theorem near_end {N:Nat} {P:Int} {X:Nat} (h:NI (N*10 ^ P.toNat) (10 ^ (-P).toNat) X X) :
  nearR N P=if endU X*10 ^ (-P).toNat<N*10 ^ P.toNat*2 ^ unB∨(N*10 ^ P.toNat*2 ^ unB=endU X*10 ^ (-P).toNat∧ftM X % 2=1)
   then (if X=9218868437227405311 then (0,false) else (X+1,true)) else (X,true):=by
 have hB:0<10 ^ (-P).toNat:=Nat.pow_pos (by decide);have hi:infX=9218868437227405312:=rfl;have ht:=h.top;unfold nearR
 by_cases hc:endU X*10 ^ (-P).toNat<N*10 ^ P.toNat*2 ^ unB∨(N*10 ^ P.toNat*2 ^ unB=endU X*10 ^ (-P).toNat∧ftM X % 2=1)
 ·rw [if_pos hc]
  by_cases hX:X=9218868437227405311
  ·have h1:=near_over hB hc;have h2:infX <= nx N P:=by
    show infX <= nearX (N*10 ^ P.toNat) (10 ^ (-P).toNat);omega
   rw [if_pos h2,if_pos hX]
  ·have h1:=near_next hB (h.hi.resolve_left hX) hc;have h2:nx N P=X+1:=h1;rw [h2,if_neg (by omega),if_neg hX]
 ·rw [if_neg hc];have h1:nearX (N*10 ^ P.toNat) (10 ^ (-P).toNat)=X:=by
   refine near_low hB h.lo ?_
   rcases Nat.lt_trichotomy (N*10 ^ P.toNat*2 ^ unB) (endU X*10 ^ (-P).toNat) with hl | hl | hl
   ·exact .inl hl
   ·exact .inr ⟨hl,by
     have:¬ ftM X % 2=1:=fun e=>hc (.inr ⟨hl,e⟩);omega⟩
   ·exact absurd (.inl hl) hc
  have h2:nx N P=X:=h1;rw [h2,if_neg (by omega)]
theorem dec_ref (l:List UInt8):decR l=match partsL l with
  | none=>(0,160)
  | some (D,P)=>if (nearR (dv 0 D) P).2=true then (if sgL l=true∧(nearR (dv 0 D) P).1≠0 then dcw.sgn true (nearR (dv 0 D) P).1 else (nearR (dv 0 D) P).1,0) else (0,10):=by
 unfold decR
 rcases parts_law l with ⟨h1,h2⟩ | ⟨D,P,h1,h2,-,-,h5,h6⟩
 ·rw [h1,h2];rfl
 ·rw [h1,h2,if_pos rfl];have hw:decW l=nx (dv 0 D) P:=by
   unfold decW;rw [h5,h6]
  rw [hw];simp only;unfold nearR
  by_cases hi:infX <= nx (dv 0 D) P
  ·rw [if_pos hi,if_pos hi];rfl
  ·rw [if_neg hi,if_neg hi];simp only [if_true]
   by_cases h0:nx (dv 0 D) P=0
   ·rw [if_pos h0,if_neg (fun h=>h.2 h0),h0]
   ·rw [if_neg h0]
    cases hs:sgL l with
    | true=>rw [if_pos ⟨rfl,h0⟩]
    | false =>
     rw [if_neg (fun h=>by cases h.1)];rfl
theorem near_tiny {D:List UInt8} (hD:∀ c∈D,isD c=true) (hl:D.length <= 30) {P:Int} (h:P < -800∨dv 0 D=0):nearR (dv 0 D) P=(0,true):=by
 have h1:nx (dv 0 D) P=0:=by
  rcases h with h | h
  ·have:=dv_lt D 0 hD;have h2:(10:Nat) ^ D.length <= 10 ^ 30:=Nat.pow_le_pow_right (by decide) hl;exact nx_tiny (by omega) h
  ·rw [h];exact nx_zero P
 unfold nearR;rw [h1];rfl
theorem near_huge {N:Nat} (hN:0<N) {P:Int} (h:400<P):nearR N P=(0,false):=by
 unfold nearR;rw [if_pos (nx_big hN (by omega))]
end rg

/- burnishref16: the walks of power, Compare, whole and against. Conditions: as each theorem states. -/
namespace rg
open Go.RowKit
open rdf
open Go.BigFrame
def Num (W:World) (v:Value) (k N:Nat):Prop:=∃ l,BigV W v l∧BOk l∧Trim l∧bv l=N∧l.length <= k
theorem Num.below {W W':World} {v:Value} {k N:Nat} (h:Num W v k N) (hb:Below W.heap.size W W'):Num W' v k N:=by
 obtain ⟨l,h1,h2⟩:=h;exact ⟨l,h1.below hb,h2⟩
def NumPost (w:World) (k N:Nat) (e:Ending) (w':World):Prop:=∃ v',e = .returned v'∧Num w' v' k N∧Below w.heap.size w w'
theorem times_num (v:Value) (k N by_ more:Nat) (w:World) (hv:Num w v k N) (hb0:0<by_) (hb:by_ <= 10000000000) (hk:k <= 100000) (hm:more <= 10000000000) :
  Calls Tryz.prog 165 #[v,.int .u64 by_,.int .u64 more] w (NumPost w (k+2) (N*by_+more)):=by
 obtain ⟨l,h1,h2,h3,h4,h5⟩:=hv;refine (times_any v l by_ more w h1 h2 hb (by omega) (fun _=>hm) (by omega)).mono ?_;rintro e w' ⟨v',rfl,g1,g2⟩;refine ⟨v',rfl,⟨_,g1,ok_times _ _ _,trim_times _ hb0 _ _ h2 h3,by rw [bv_times,h4],?_⟩,g2⟩;have:=times_len by_ hb l more h2 (by omega) (fun _=>hm);omega
theorem times_0 (v:Value) (k N S:Nat) (w:World) (hv:Num w v k N) (hb0:0<S) (hb:S <= 10000000000) (hk:k <= 100000) :
  Calls Tryz.prog 165 #[v,.int .u64 (S:Int),.int .u64 0] w (NumPost w (k+2) (N*S)):=times_num v k N S 0 w hv hb0 hb hk (by decide)
theorem times_nil_num (v:Value) (more:Nat) (w:World) (hv:BigV w v []) (hm:more<18446744073709551616) :
  Calls Tryz.prog 165 #[v,.int .u64 1,.int .u64 more] w (NumPost w 3 more):=by
 refine (times_any v [] 1 more w hv (fun x hx=>by cases hx) (by decide) (by decide) (fun h=>absurd rfl h) hm).mono ?_;rintro e w' ⟨v',rfl,g1,g2⟩;have e1:timesL 1 [] more=dig more:=rfl;rw [e1] at g1;exact ⟨v',rfl,⟨_,g1,ok_dig _,trim_dig _,bv_dig _,dig_len3 _ hm⟩,g2⟩
theorem power_any (v:Value) (k N by_ n:Nat) (w:World) (hv:Num w v k N) (hb0:2 <= by_) (hb:by_ <= 10) (hn:k+2*n <= 90000) :
  Calls Tryz.prog 168 #[v,.int .u64 by_,.int .i64 n] w (NumPost w (k+2*n) (N*by_ ^ n)):=by
 have HV:=Yd hv;clear hv;have hn9:(n:Int) <= 45000:=by omega
 go_enter Tryz.func168,Tryz.ntmps168;go_wp2_with fail
 go_loopw [0,2] (fun s0 s2 wr=>∃ j r:Nat,n=j+r∧s2 = .int .i64 r∧Num wr s0 (k+2*j) (N*by_ ^ j)∧Below w.heap.size w wr) (fun _ s2 _=>(intOf s2).toNat)
 case atStart=>exact ⟨0,n,by omega,rfl,by simpa using HV.out,Below.refl _ _⟩
 case round =>
  clear HV;obtain ⟨j,r,hj,rfl,hN,hB⟩:=hrel;obtain ⟨wo,rfl⟩:∃ wo:World,wo=wr:=⟨_,rfl⟩;have HB:=Yd hB;have HN:=Yd hN;clear hB hN
  by_cases hr:r=0
  ·subst hr;obtain rfl:n=j:=by omega
   clear hj;go_wp2_with fail;go_ret;exact ⟨_,rfl,HN.out,HB.out⟩
  ·have hr0:(0:Int)<(r:Int):=by omega
   have hr9:(r:Int) <= 45000:=by omega
   have HJ:=Yd hj;clear hj;go_wp2_with fail
   go_loopw [2,7] (fun s2 s7 wr=>∃ p q S:Nat,r=p+q∧s2 = .int .i64 q∧s7 = .int .u64 S∧S=by_ ^ p∧S<10000000000∧wr=wo) (fun s2 _ _=>(intOf s2).toNat)
   case atStart=>exact ⟨0,r,1,by omega,rfl,rfl,rfl,by decide,rfl⟩
   case round =>
    obtain ⟨p,q,S,hpq,rfl,rfl,hS,hS9,hwr⟩:=hrel;obtain rfl:=hwr.symm;have HS:=Yd (And.intro hS hpq);clear hS
    by_cases hq:0<q
    ·have hq0:(0:Int)<(q:Int):=by omega
     have hq9:(q:Int) <= 45000:=by omega
     by_cases hS1:S<1000000000
     ·have hS1i:(S:Int)<1000000000:=by omega
      obtain ⟨S2,hS2⟩:∃ S2,S*by_=S2:=⟨_,rfl⟩;have hS2i:(S:Int)*(by_:Int)=(S2:Int):=by rw [<- hS2]; simp
      have hS29:S2<10000000000:=by
       rw [<- hS2];have:=Nat.mul_le_mul (show S <= 999999999 by omega) hb;omega
      have H2:=Yd hS2;clear hS2 hpq;go_wp2_with fail;refine ⟨⟨p+1,q-1,S2,by have:=HS.out.2; omega,by go_num,rfl,?_,hS29,by first | trivial | rfl⟩,by simp only [intOf]; omega⟩;rw [<- H2.out,HS.out.1,Nat.pow_succ]
     ·have hS1i:¬ (S:Int)<1000000000:=by omega
      have hp:p≠0:=fun h=>by
       have:=HS.out.1;rw [h,Nat.pow_zero] at this;omega
      have CT:=Yd (times_0 · (k+2*j) (N*by_ ^ j) S wo · (by have:=HS.out.1; have:=Nat.pow_pos (n:=p) (show 0<by_ by omega); omega) (by omega) (by have:=HJ.out; omega));clear hpq hS1;go_wp2_with (go_at_call 165; (with_reducible refine (CT.out _ HN.out).mono ?_); rintro e w2 ⟨v2,rfl,h2,b2⟩; have HN2:=Yd h2; have HB2:=Yd b2; clear h2 b2);refine ⟨⟨j+p,q,by have:=HJ.out; have:=HS.out.2; omega,rfl,?_,HB.out.trans (HB2.out.mono HB.out.size)⟩,by have:=HS.out.2; simp only [intOf]; omega⟩;obtain ⟨l,g1,g2,g3,g4,g5⟩:=HN2.out;exact ⟨l,g1,g2,g3,by rw [g4,HS.out.1,Nat.mul_assoc,<- Nat.pow_add],by omega⟩
    ·obtain rfl:q=0:=by omega
     have hp:p≠0:=fun h=>by omega
     have CT:=Yd (times_0 · (k+2*j) (N*by_ ^ j) S wo · (by have:=HS.out.1; have:=Nat.pow_pos (n:=p) (show 0<by_ by omega); omega) (by omega) (by have:=HJ.out; omega));clear hpq hq;go_wp2_with (go_at_call 165; (with_reducible refine (CT.out _ HN.out).mono ?_); rintro e w2 ⟨v2,rfl,h2,b2⟩; have HN2:=Yd h2; have HB2:=Yd b2; clear h2 b2);refine ⟨⟨j+p,0,by have:=HJ.out; have:=HS.out.2; omega,rfl,?_,HB.out.trans (HB2.out.mono HB.out.size)⟩,by have:=HS.out.2; simp only [intOf]; omega⟩;obtain ⟨l,g1,g2,g3,g4,g5⟩:=HN2.out;exact ⟨l,g1,g2,g3,by rw [g4,HS.out.1,Nat.mul_assoc,<- Nat.pow_add],by omega⟩
theorem below_drewN {B:Nat} {a w:World} (h:Below B a w) (n:Nat):Below B a (w.drewN n):=⟨h.os,h.tape,h.output,h.size,h.block⟩
def CmpPost (w:World) (x y:Nat) (e:Ending) (w':World):Prop:=∃ c:Int,e = .returned (.int .i64 c)∧(c<0↔x<y)∧(c=0↔x=y)∧Below w.heap.size w w'
theorem compare_any (a b:Value) (ka kb x y:Nat) (w:World) (ha:Num w a ka x) (hb:Num w b kb y) (hka:ka <= 100000) (hkb:kb <= 100000) :
  Calls Tryz.prog 169 #[a,b] w (CmpPost w x y):=by
 obtain ⟨la,⟨A,ca,rfl,xa⟩,oa,ta,rfl,na⟩:=ha;obtain ⟨lb,⟨B,cb,rfl,xb⟩,ob,tb,rfl,nb⟩:=hb;have n1:(la.length:Int) <= 100000:=by omega
 have n2:(lb.length:Int) <= 100000:=by omega
 have HA:=Yd xa;have HB:=Yd xb;have HO:=Yd (And.intro oa (And.intro ob (And.intro ta tb)));clear xa xb oa ob ta tb na nb hka hkb
 by_cases hl:la.length=lb.length
 ·obtain ⟨n,hna⟩:∃ n,la.length=n:=⟨_,rfl⟩;have hnb:lb.length=n:=by omega
  rw [hna] at n1 ⊢;rw [hnb] at ⊢;have HL:=Yd (And.intro hna hnb);clear hl hna hnb n2;go_enter Tryz.func169,Tryz.ntmps169;go_wp2_with fail
  go_loopw [5] (fun s5 wr=>∃ i:Nat,i <= n∧s5 = .int .i64 ((i:Int)-1)∧la.drop i=lb.drop i∧Below w.heap.size w wr) (fun s5 _=>(intOf s5+1).toNat)
  case atStart=>exact ⟨n,Nat.le_refl _,by go_num,by rw [List.drop_eq_nil_of_le (by rw [HL.out.1]; exact Nat.le_refl _),List.drop_eq_nil_of_le (by rw [HL.out.2]; exact Nat.le_refl _)],Below.refl _ _⟩
  case round =>
   obtain ⟨i,hi,h5,hd,hwr⟩:=hrel;obtain ⟨wo,rfl⟩:∃ wo:World,wo=wr:=⟨_,rfl⟩;have HW:=Yd hwr;clear hwr
   cases i with
   | zero =>
    have h5':u5 = .int .i64 (-1):=h5;subst h5';have he:la=lb:=hd;have HE:=Yd he;clear hd he hi h5;go_wp2_with fail;go_ret;exact ⟨0,rfl,by rw [HE.out]; simp,by rw [HE.out]; simp,HW.out⟩
   | succ m =>
    have h5':u5 = .int .i64 (m:Int):=by rw [h5]; congr 1; omega
    subst h5';have hm1:m<la.length:=by rw [HL.out.1]; exact hi
    have hm2:m<lb.length:=by rw [HL.out.2]; exact hi
    obtain ⟨ga,rfl,lga,cca⟩:=HA.out (by intro e; subst e; simp at hm1);obtain ⟨gb,rfl,lgb,ccb⟩:=HB.out (by intro e; subst e; simp at hm2);have c1:=(HW.out.cell (p:=⟨ga,m,none⟩) lga).trans (cca m hm1);have c2:=(HW.out.cell (p:=⟨gb,m,none⟩) lgb).trans (ccb m hm2);have hxa:=HO.out.1 _ (List.getElem_mem hm1);have hxb:=HO.out.2.1 _ (List.getElem_mem hm2);have hlt:=part_lt la lb HO.out.1 (by rw [HL.out.1,HL.out.2]) m hm1 hd;have hgt:=part_lt lb la HO.out.2.1 (by rw [HL.out.1,HL.out.2]) m hm2 hd.symm;have heq:la[m]=lb[m] -> la.drop m=lb.drop m:=fun h=>by rw [List.drop_eq_getElem_cons hm1,List.drop_eq_getElem_cons hm2,h,hd]
    obtain ⟨x,hx⟩:∃ x,la[m]=x:=⟨_,rfl⟩;obtain ⟨y,hy⟩:∃ y,lb[m]=y:=⟨_,rfl⟩;rw [hx] at c1 hxa;rw [hy] at c2 hxb;rw [hx,hy] at hlt hgt heq;have HF:=Yd (And.intro hlt (And.intro hgt heq));have hmn:(m:Int)<(n:Int):=by omega
    clear cca ccb hx hy hlt hgt heq hd hm1 hm2 h5
    rcases Nat.lt_trichotomy x y with h | h | h
    ·have d1:(x:Int)<(y:Int):=by omega
     go_wp2_with fail;go_quiet (fail);go_wp2_with fail;go_ret;have:=HF.out.1 h;exact ⟨-1,rfl,by simp [this],by omega,below_drewN HW.out _⟩
    ·subst h;go_wp2_with fail;go_quiet (fail);go_wp2_with fail;go_quiet (fail);go_wp2_with fail;exact ⟨⟨m,by omega,by go_num,HF.out.2.2 (by first | rfl | trivial),by first | exact below_drewN HW.out _ | exact below_drewN (below_drewN HW.out _) _⟩,by simp only [intOf]; omega⟩
    ·have d1:(y:Int)<(x:Int):=by omega
     have d2:¬ (x:Int)<(y:Int):=by omega
     go_wp2_with fail;go_quiet (fail);go_wp2_with fail;go_quiet (fail);go_wp2_with fail;go_ret;have:=HF.out.2.1 h;exact ⟨1,rfl,by omega,by omega,below_drewN (below_drewN HW.out _) _⟩
 ·have HL:=Yd hl;obtain ⟨p,hp⟩:∃ p,la.length=p:=⟨_,rfl⟩;obtain ⟨q,hq⟩:∃ q,lb.length=q:=⟨_,rfl⟩;rw [hp] at n1 hl ⊢;rw [hq] at n2 hl ⊢;have HP:=Yd (And.intro hp hq);have hne:((p:Int) == (q:Int))=false:=Yf (by omega)
  have hne2:((p:Int) != (q:Int))=true:=by rw [bne_iff_ne]; omega
  clear hp hq;go_enter Tryz.func169,Tryz.ntmps169;go_wp2_with fail;go_ret;refine ⟨(p:Int)-q,rfl,?_,?_,Below.refl _ _⟩
  ·constructor
   ·intro h;exact len_lt HO.out.1 HO.out.2.2.2 (by rw [HP.out.1,HP.out.2]; omega)
   ·intro h
    by_cases hpq:p<q
    ·omega
    ·have:=len_lt (a:=lb) (b:=la) HO.out.2.1 HO.out.2.2.1 (by rw [HP.out.1,HP.out.2]; omega);omega
  ·constructor
   ·intro h;omega
   ·intro h
    by_cases hpq:p<q
    ·have:=len_lt (a:=la) (b:=lb) HO.out.1 HO.out.2.2.2 (by rw [HP.out.1,HP.out.2]; omega);omega
    ·have:=len_lt (a:=lb) (b:=la) HO.out.2.1 HO.out.2.2.1 (by rw [HP.out.1,HP.out.2]; omega);omega
end rg

/- burnishref16: the walks of whole and against. Conditions: as each theorem states. -/
namespace rg
open Go.RowKit
open rdf
theorem dv_snoc (n:Nat) (l:List UInt8) (c:UInt8):dv n (l ++ [c])=dv n l*10+(c.toNat-48):=by
 unfold dv;rw [List.foldl_append];rfl
theorem whole_any (s:ByteArray) (hs:s.size <= 60) (hd:∀ c∈s.data.toList,isD c=true) (w:World) :
  Calls Tryz.prog 129 #[.string s] w (NumPost w 120 (dv 0 s.data.toList)):=by
 have HD:=Yd hd;clear hd;have hlen:=list_len s;have HL:=Yd hlen;clear hlen;have hsi:(s.size:Int) <= 60:=by omega
 go_enter Tryz.func129,Tryz.ntmps129;go_wp2_with fail
 go_loopw [3,4] (fun s3 s4 wr=>∃ i:Nat,i <= s.size∧s4 = .int .i64 i∧Num wr s3 (2*i) (dv 0 (s.data.toList.take i))∧Below w.heap.size w wr) (fun _ s4 _=>s.size-(intOf s4).toNat)
 case atStart=>exact ⟨0,Nat.zero_le _,rfl,⟨[],BigV.nil _ _ _,(fun x hx=>by cases hx),(fun h=>absurd rfl h),rfl,Nat.le_refl _⟩,Below.refl _ _⟩
 case round =>
  obtain ⟨i,hi,rfl,hN,hB⟩:=hrel;obtain ⟨wo,rfl⟩:∃ wo:World,wo=wr:=⟨_,rfl⟩;have HB:=Yd hB;have HN:=Yd hN;clear hB hN
  by_cases hlt:i<s.size
  ·have hc:=HD.out s[i] (by show s.data[i]∈_; simp);have h5:=(isD_iff _).1 hc;have hlt':(i:Int)<(s.size:Int):=by omega
   have e1:s.data.toList.take (i+1)=s.data.toList.take i ++ [s[i]]:=by
    rw [List.take_succ_eq_append_getElem (by rw [HL.out]; exact hlt)];rfl
   obtain ⟨m,hm⟩:∃ m,s[i].toNat-48=m:=⟨_,rfl⟩;have e2:dv 0 (s.data.toList.take (i+1))=dv 0 (s.data.toList.take i)*10+m:=by rw [e1,dv_snoc,hm]
   have HE:=Yd e2;have hmi:(s[i].toNat:Int)-48=(m:Int):=by omega
   have hm9:(m:Int) <= 9:=by omega
   have CT:=Yd (fun (v:Value) (h:Num wo v (2*i) (dv 0 (s.data.toList.take i)))=>show Calls Tryz.prog 165 #[v,.int .u64 10,.int .u64 (m:Int)] wo (NumPost wo (2*i+2) (dv 0 (s.data.toList.take i)*10+m)) from times_num v _ _ 10 m wo h (by decide) (by decide) (by omega) (by omega));have y5:(48:Int) <= (s[i].toNat:Int):=by omega
   have y6:(s[i].toNat:Int) <= 57:=by omega
   clear e1 e2 hm hc h5;go_wp2_with (go_at_call 165; (with_reducible refine (CT.out _ HN.out).mono ?_); rintro e w2 ⟨v2,rfl,h2,b2⟩; have HN2:=Yd h2; have HB2:=Yd b2; clear h2 b2);refine ⟨⟨i+1,by omega,by go_num,?_,HB.out.trans (HB2.out.mono HB.out.size)⟩,by simp only [intOf]; omega⟩;rw [HE.out];exact HN2.out
  ·obtain rfl:i=s.size:=by omega
   have HR:=Yd (show dv 0 (s.data.toList.take s.size)=dv 0 s.data.toList by rw [List.take_of_length_le (by rw [HL.out]; exact Nat.le_refl _)]);clear hlt hi;go_wp2_with fail;go_ret;refine ⟨_,rfl,?_,HB.out⟩;obtain ⟨l,g1,g2,g3,g4,g5⟩:=HN.out;exact ⟨l,g1,g2,g3,by rw [g4,HR.out],by omega⟩
theorem num_k {W:World} {v:Value} {k k' N:Nat} (h:Num W v k N) (hk:k <= k'):Num W v k' N:=by
 obtain ⟨l,g1,g2,g3,g4,g5⟩:=h;exact ⟨l,g1,g2,g3,g4,by omega⟩
theorem power10 (v:Value) (k N n:Nat) (w:World) (hv:Num w v k N) (hn:k+2*n <= 90000) :
  Calls Tryz.prog 168 #[v,.int .u64 10,.int .i64 (n:Int)] w (NumPost w (k+2*n) (N*10 ^ n)):=power_any v k N 10 n w hv (by decide) (by decide) hn
theorem power2 (v:Value) (k N n:Nat) (w:World) (hv:Num w v k N) (hn:k+2*n <= 90000) :
  Calls Tryz.prog 168 #[v,.int .u64 2,.int .i64 (n:Int)] w (NumPost w (k+2*n) (N*2 ^ n)):=power_any v k N 2 n w hv (by decide) (by decide) hn
theorem against_any (s:ByteArray) (hs:s.size <= 60) (hd:∀ c∈s.data.toList,isD c=true) (P E:Int) (hP : -2000 <= P∧P <= 2000) (hE : -2000 <= E∧E <= 2000) (m:Nat) (hm:m<18446744073709551616) (w:World) :
  Calls Tryz.prog 131 #[.string s,.int .i64 P,.int .u64 m,.int .i64 E] w (CmpPost w (dv 0 s.data.toList*10 ^ P.toNat*2 ^ (-E).toNat) (m*10 ^ (-P).toNat*2 ^ E.toNat)):=by
 obtain ⟨D,hD⟩:∃ D,dv 0 s.data.toList=D:=⟨_,rfl⟩;have HW:=Yd (fun W=>whole_any s hs hd W);rw [hD] at HW ⊢;have HT:=Yd (fun (g:Addr) (W:World)=>times_nil_num (.slice (some g) 0 0) m W (BigV.nil _ _ _) hm);clear hD hs hd;obtain ⟨p,hp⟩:∃ p:Nat,P.natAbs=p:=⟨_,rfl⟩;obtain ⟨q,hq⟩:∃ q:Nat,E.natAbs=q:=⟨_,rfl⟩;have hp9:p <= 2000:=by omega
 have hq9:q <= 2000:=by omega
 have HP:=Yd (fun (v:Value) (N:Nat) (W:World) (h:Num W v 120 N)=>power10 v 120 N p W h (by omega));have HQ:=Yd (fun (v:Value) (N:Nat) (W:World) (h:Num W v 4120 N)=>power2 v 4120 N q W h (by omega));have HC:=Yd (fun (a b:Value) (x y:Nat) (W:World) (h1:Num W a 8120 x) (h2:Num W b 8120 y)=>compare_any a b 8120 8120 x y W h1 h2 (by decide) (by decide))
 by_cases hP0:0<P
 ·obtain rfl:P=(p:Int):=by omega
  have e1:(-(p:Int)).toNat=0:=by omega
  rw [e1,Int.toNat_natCast,Nat.pow_zero,Nat.mul_one]
  by_cases hE0:0<E
  ·obtain rfl:E=(q:Int):=by omega
   have e2:(-(q:Int)).toNat=0:=by omega
   rw [e2,Int.toNat_natCast,Nat.pow_zero,Nat.mul_one];clear e1 e2 hp hq hP hE;go_enter Tryz.func131,Tryz.ntmps131;go_wp2_with (first
    | (go_at_call 129; (with_reducible refine (HW.out _).mono ?_); rintro e w1 ⟨va,rfl,h1,b1⟩; have HA:=Yd h1; have B1:=Yd b1; clear h1 b1)
    | (go_at_call 165; (with_reducible refine (HT.out _ _).mono ?_); rintro e w2 ⟨vb,rfl,h2,b2⟩; have HB:=Yd h2; have b3:=((Below.refl _ w1).alloc (Nat.le_refl _) _).trans (b2.mono (by simp)); have HA2:=Yd (HA.out.below b3); have B2:=Yd (B1.out.trans (b3.mono B1.out.size)); clear b2 b3 h2 HA B1)
    | (go_at_call 168; (with_reducible refine (HP.out _ _ _ HA2.out).mono ?_); rintro e w3 ⟨vc,rfl,h3,b3⟩; have HA3:=Yd h3; have HB3:=Yd (HB.out.below b3); have B3:=Yd (B2.out.trans (b3.mono B2.out.size)); clear b3 h3)
    | (go_at_call 168; (with_reducible refine (HQ.out _ _ _ (num_k HB3.out (by omega))).mono ?_); rintro e w4 ⟨vd,rfl,h4,b4⟩; have HB4:=Yd h4; have HA4:=Yd (HA3.out.below b4); have B4:=Yd (B3.out.trans (b4.mono B3.out.size)); clear b4 h4)
    | (go_at_call 169; (with_reducible refine (HC.out _ _ _ _ _ (num_k HA4.out (by omega)) (num_k HB4.out (by omega))).mono ?_); rintro e w5 ⟨c,rfl,c1,c2,b5⟩; have CC:=Yd (And.intro c1 c2); have B5:=Yd (B4.out.trans (b5.mono B4.out.size)); clear b5 c1 c2))
   go_ret;exact ⟨_,rfl,CC.out.1,CC.out.2,B5.out⟩
  ·obtain rfl:E = -(q:Int):=by omega
   have e2:(-(q:Int)).toNat=0:=by omega
   rw [e2,Int.neg_neg,Int.toNat_natCast,Nat.pow_zero,Nat.mul_one];clear e1 e2 hp hq hP hE;go_enter Tryz.func131,Tryz.ntmps131;go_wp2_with (first
    | (go_at_call 129; (with_reducible refine (HW.out _).mono ?_); rintro e w1 ⟨va,rfl,h1,b1⟩; have HA:=Yd h1; have B1:=Yd b1; clear h1 b1)
    | (go_at_call 165; (with_reducible refine (HT.out _ _).mono ?_); rintro e w2 ⟨vb,rfl,h2,b2⟩; have HB:=Yd h2; have b3:=((Below.refl _ w1).alloc (Nat.le_refl _) _).trans (b2.mono (by simp)); have HA2:=Yd (HA.out.below b3); have B2:=Yd (B1.out.trans (b3.mono B1.out.size)); clear b2 b3 h2 HA B1)
    | (go_at_call 168; (with_reducible refine (HP.out _ _ _ HA2.out).mono ?_); rintro e w3 ⟨vc,rfl,h3,b3⟩; have HA3:=Yd h3; have HB3:=Yd (HB.out.below b3); have B3:=Yd (B2.out.trans (b3.mono B2.out.size)); clear b3 h3)
    | (go_at_call 168; (with_reducible refine (HQ.out _ _ _ (num_k HA3.out (by omega))).mono ?_); rintro e w4 ⟨vd,rfl,h4,b4⟩; have HA4:=Yd h4; have HB4:=Yd (HB3.out.below b4); have B4:=Yd (B3.out.trans (b4.mono B3.out.size)); clear b4 h4)
    | (go_at_call 169; (with_reducible refine (HC.out _ _ _ _ _ (num_k HA4.out (by omega)) (num_k HB4.out (by omega))).mono ?_); rintro e w5 ⟨c,rfl,c1,c2,b5⟩; have CC:=Yd (And.intro c1 c2); have B5:=Yd (B4.out.trans (b5.mono B4.out.size)); clear b5 c1 c2))
   go_ret;exact ⟨_,rfl,CC.out.1,CC.out.2,B5.out⟩
 ·obtain rfl:P = -(p:Int):=by omega
  have e1:(-(p:Int)).toNat=0:=by omega
  rw [e1,Int.neg_neg,Int.toNat_natCast,Nat.pow_zero,Nat.mul_one]
  by_cases hE0:0<E
  ·obtain rfl:E=(q:Int):=by omega
   have e2:(-(q:Int)).toNat=0:=by omega
   rw [e2,Int.toNat_natCast,Nat.pow_zero,Nat.mul_one];clear e1 e2 hp hq hP hE;go_enter Tryz.func131,Tryz.ntmps131;go_wp2_with (first
    | (go_at_call 129; (with_reducible refine (HW.out _).mono ?_); rintro e w1 ⟨va,rfl,h1,b1⟩; have HA:=Yd h1; have B1:=Yd b1; clear h1 b1)
    | (go_at_call 165; (with_reducible refine (HT.out _ _).mono ?_); rintro e w2 ⟨vb,rfl,h2,b2⟩; have HB:=Yd h2; have b3:=((Below.refl _ w1).alloc (Nat.le_refl _) _).trans (b2.mono (by simp)); have HA2:=Yd (HA.out.below b3); have B2:=Yd (B1.out.trans (b3.mono B1.out.size)); clear b2 b3 h2 HA B1)
    | (go_at_call 168; (with_reducible refine (HP.out _ _ _ (num_k HB.out (by omega))).mono ?_); rintro e w3 ⟨vc,rfl,h3,b3⟩; have HB3:=Yd h3; have HA3:=Yd (HA2.out.below b3); have B3:=Yd (B2.out.trans (b3.mono B2.out.size)); clear b3 h3)
    | (go_at_call 168; (with_reducible refine (HQ.out _ _ _ (num_k HB3.out (by omega))).mono ?_); rintro e w4 ⟨vd,rfl,h4,b4⟩; have HB4:=Yd h4; have HA4:=Yd (HA3.out.below b4); have B4:=Yd (B3.out.trans (b4.mono B3.out.size)); clear b4 h4)
    | (go_at_call 169; (with_reducible refine (HC.out _ _ _ _ _ (num_k HA4.out (by omega)) (num_k HB4.out (by omega))).mono ?_); rintro e w5 ⟨c,rfl,c1,c2,b5⟩; have CC:=Yd (And.intro c1 c2); have B5:=Yd (B4.out.trans (b5.mono B4.out.size)); clear b5 c1 c2))
   go_ret;exact ⟨_,rfl,CC.out.1,CC.out.2,B5.out⟩
  ·obtain rfl:E = -(q:Int):=by omega
   have e2:(-(q:Int)).toNat=0:=by omega
   rw [e2,Int.neg_neg,Int.toNat_natCast,Nat.pow_zero,Nat.mul_one];clear e1 e2 hp hq hP hE;go_enter Tryz.func131,Tryz.ntmps131;go_wp2_with (first
    | (go_at_call 129; (with_reducible refine (HW.out _).mono ?_); rintro e w1 ⟨va,rfl,h1,b1⟩; have HA:=Yd h1; have B1:=Yd b1; clear h1 b1)
    | (go_at_call 165; (with_reducible refine (HT.out _ _).mono ?_); rintro e w2 ⟨vb,rfl,h2,b2⟩; have HB:=Yd h2; have b3:=((Below.refl _ w1).alloc (Nat.le_refl _) _).trans (b2.mono (by simp)); have HA2:=Yd (HA.out.below b3); have B2:=Yd (B1.out.trans (b3.mono B1.out.size)); clear b2 b3 h2 HA B1)
    | (go_at_call 168; (with_reducible refine (HP.out _ _ _ (num_k HB.out (by omega))).mono ?_); rintro e w3 ⟨vc,rfl,h3,b3⟩; have HB3:=Yd h3; have HA3:=Yd (HA2.out.below b3); have B3:=Yd (B2.out.trans (b3.mono B2.out.size)); clear b3 h3)
    | (go_at_call 168; (with_reducible refine (HQ.out _ _ _ (num_k HA3.out (by omega))).mono ?_); rintro e w4 ⟨vd,rfl,h4,b4⟩; have HA4:=Yd h4; have HB4:=Yd (HB3.out.below b4); have B4:=Yd (B3.out.trans (b4.mono B3.out.size)); clear b4 h4)
    | (go_at_call 169; (with_reducible refine (HC.out _ _ _ _ _ (num_k HA4.out (by omega)) (num_k HB4.out (by omega))).mono ?_); rintro e w5 ⟨c,rfl,c1,c2,b5⟩; have CC:=Yd (And.intro c1 c2); have B5:=Yd (B4.out.trans (b5.mono B4.out.size)); clear b5 c1 c2))
   go_ret;exact ⟨_,rfl,CC.out.1,CC.out.2,B5.out⟩
end rg

/- burnishref01.Next upward from 0 on, and burnishref16.near. Conditions: as each theorem states. -/
namespace rg
open Go.RowKit
open nodew
open flatm
open dcw
open fpm
open rdf
open prnw
open dmx
attribute [local go_sem] nodew.fo_eq bits_run frombits_run
theorem fo_inf {X:Nat} (h:X<9218868437227405312):fo 9218868437227405312 X=some .gt∧fo X 9218868437227405312=some .lt:=by
 obtain ⟨m,a,e1,_⟩:=read_num X (by omega);have e2:Ieee.Format.read Ieee.double 9218868437227405312 = .infinity false:=by kernel_rfl
 constructor
 ·show Ieee.Datum.order (Ieee.Format.read Ieee.double 9218868437227405312) (Ieee.Format.read Ieee.double X)=_;rw [e1,e2];rfl
 ·show Ieee.Datum.order (Ieee.Format.read Ieee.double X) (Ieee.Format.read Ieee.double 9218868437227405312)=_;rw [e1,e2];rfl
theorem rright_pos (X:Nat) (h:X<9218868437227405312) (w:World):Calls Tryz.prog 123 #[.float .f64 X] w fun e w'=>e = .returned (.bool true)∧w'=w:=by
 obtain ⟨n1,n2,n3⟩:=plain_parts h;have HI:=Yd (fun W=>show Calls Tryz.prog 111 #[.float .f64 X,.int .i64 0] W fun e w'=>e = .returned (.bool false)∧w'=W from by have:=isInf_any X W; rw [n2] at this; exact this);have HA:=Yd (fun W=>show Calls Tryz.prog 110 #[.float .f64 X] W fun e w'=>e = .returned (.bool false)∧w'=W from by have:=isNaN_any X W; rw [n1] at this; exact this);have HS:=Yd (fun W=>show Calls Tryz.prog 112 #[.float .f64 X] W fun e w'=>e = .returned (.bool false)∧w'=W from by have:=signbit_any X W; rw [n3] at this; exact this);clear n1 n2 n3;go_enter Tryz.func123,Tryz.ntmps123;go_wp2_with (first
  | (go_at_call 110; (with_reducible refine (HA.out _).mono ?_); rintro e w' ⟨rfl,rfl⟩)
  | (go_at_call 111; (with_reducible refine (HI.out _).mono ?_); rintro e w' ⟨rfl,rfl⟩)
  | (go_at_call 112; (with_reducible refine (HS.out _).mono ?_); rintro e w' ⟨rfl,rfl⟩))
 all_goals go_ret
 all_goals exact ⟨rfl,rfl⟩
theorem inf_run (w:World):Calls Tryz.prog 171 #[.int .i64 1] w fun e w'=>e = .returned (.float .f64 9218868437227405312)∧w'=w:=by
 go_enter Tryz.func171,Tryz.ntmps171;go_wp2_with fail;go_ret;exact ⟨rfl,rfl⟩
theorem copy_1 (w:World):Calls Tryz.prog 209 #[.float .f64 1,.float .f64 9218868437227405312] w fun e w'=>e = .returned (.float .f64 1)∧w'=w:=by
 have b1:bits BinOp.andNot IntKind.u64 1 9223372036854775808=1:=by decide +kernel
 have b2:bits BinOp.and IntKind.u64 9218868437227405312 9223372036854775808=0:=by decide +kernel
 have b3:bits BinOp.or IntKind.u64 1 0=1:=by decide +kernel
 go_enter Tryz.func209,Tryz.ntmps209;go_wp2_with fail;go_ret;exact ⟨rfl,rfl⟩
theorem after_up (X:Nat) (h:X<9218868437227405312) (w:World):Calls Tryz.prog 170 #[.float .f64 X,.float .f64 9218868437227405312] w fun e w'=>e = .returned (.float .f64 (X+1))∧w'=w:=by
 obtain ⟨n1,-,-⟩:=plain_parts h;have n2:nanF 9218868437227405312=false:=by kernel_rfl
 have HA:=Yd (fun W=>show Calls Tryz.prog 110 #[.float .f64 X] W fun e w'=>e = .returned (.bool false)∧w'=W from by have:=isNaN_any X W; rw [n1] at this; exact this);have HB:=Yd (fun W=>show Calls Tryz.prog 110 #[.float .f64 9218868437227405312] W fun e w'=>e = .returned (.bool false)∧w'=W from by have:=isNaN_any 9218868437227405312 W; rw [n2] at this; exact this);obtain ⟨i1,i2⟩:=fo_inf h
 by_cases h0:X=0
 ·subst h0;have z:fo 0 0=some .eq:=by kernel_rfl
  clear n1 n2 h;go_enter Tryz.func170,Tryz.ntmps170;go_wp2_with (first
   | (go_at_call 110; (with_reducible refine (HA.out _).mono ?_); rintro e w' ⟨rfl,rfl⟩)
   | (go_at_call 110; (with_reducible refine (HB.out _).mono ?_); rintro e w' ⟨rfl,rfl⟩)
   | (go_at_call 209; (with_reducible refine (copy_1 _).mono ?_); rintro e w' ⟨rfl,rfl⟩))
  go_ret;exact ⟨rfl,rfl⟩
 ·have z:fo X 0=some .gt:=by
   rw [fo_sv (by omega) (by decide),sv_pos h,sv_pos (by decide),Int.compare_eq_ite_lt];have:=val_lt (show 0<X by omega);rw [if_neg (by omega),if_pos (by omega)]
  have hx:(X:Int)<9218868437227405312:=by omega
  clear n1 n2 h h0;go_enter Tryz.func170,Tryz.ntmps170;go_wp2_with (first
   | (go_at_call 110; (with_reducible refine (HA.out _).mono ?_); rintro e w' ⟨rfl,rfl⟩)
   | (go_at_call 110; (with_reducible refine (HB.out _).mono ?_); rintro e w' ⟨rfl,rfl⟩))
  go_ret;exact ⟨by congr 2,rfl⟩
theorem next_up (X:Nat) (h:X+1<9218868437227405312) (w:World):Calls Tryz.prog 132 #[.float .f64 X,.bool true] w fun e w'=>e = .returned (.tuple #[.float .f64 (X+1),.int .i64 0])∧w'=w:=by
 obtain ⟨-,n2,-⟩:=plain_parts h;have HI:=Yd (fun W=>show Calls Tryz.prog 111 #[.float .f64 (X+1),.int .i64 0] W fun e w'=>e = .returned (.bool false)∧w'=W from by have:=isInf_any (X+1) W; rw [n2] at this; exact this);have HR:=Yd (fun W=>rright_pos X (by omega) W);have HN:=Yd (fun W=>after_up X (by omega) W);have z:(fo (X+1) 0 == some .eq)=false:=by
  rw [fo_eq_pos h (by decide)];exact decide_eq_false (by omega)
 obtain ⟨Y,hY⟩:∃ Y,X+1=Y:=⟨_,rfl⟩;rw [hY] at HI HN z ⊢;have HP:=Yd (fun W=>show Calls Tryz.prog 172 #[.float .f64 Y] W fun e w'=>e = .returned (.float .f64 Y)∧w'=W from by
  clear HI HN HR hY n2 h w;go_enter Tryz.func172,Tryz.ntmps172;go_wp2_with fail;go_ret;exact ⟨rfl,rfl⟩)
 clear n2 h hY z;go_enter Tryz.func132,Tryz.ntmps132;go_wp2_with (first
  | (go_at_call 123; (with_reducible refine (HR.out _).mono ?_); rintro e w' ⟨rfl,rfl⟩)
  | (go_at_call 171; (with_reducible refine (inf_run _).mono ?_); rintro e w' ⟨rfl,rfl⟩)
  | (go_at_call 170; (with_reducible refine (HN.out _).mono ?_); rintro e w' ⟨rfl,rfl⟩)
  | (go_at_call 111; (with_reducible refine (HI.out _).mono ?_); rintro e w' ⟨rfl,rfl⟩)
  | (go_at_call 172; (with_reducible refine (HP.out _).mono ?_); rintro e w' ⟨rfl,rfl⟩))
 go_ret2;exact ⟨rfl,rfl⟩
end rg

/- burnishref16.near: the nearest number to digits times ten to a power, by halving. Conditions: as each theorem states. -/
namespace rg
open Go.RowKit
open nodew
open flatm
open dcw
open fpm
open rdf
open prnw
open dmx
attribute [local go_sem] nodew.fo_eq bits_run frombits_run
def NearPost (w:World) (r:Nat × Bool) (e:Ending) (w':World):Prop:=e = .returned (.tuple #[.float .f64 r.1,.bool r.2])∧Below w.heap.size w w'
theorem whole_len {W:World} {v:Value} {k N:Nat} (h:Num W v k N):∃ (A:Option Addr) (L c:Nat),v = .slice A L c∧(L=0↔N=0):=by
 obtain ⟨l,⟨A,c,rfl,_⟩,h2,h3,h4,h5⟩:=h;refine ⟨A,l.length,c,rfl,?_⟩;rw [<- h4,trim_nil h3];exact ⟨List.eq_nil_of_length_eq_zero,fun h=>by rw [h]; rfl⟩
theorem near_any (s:ByteArray) (hs:s.size <= 30) (hd:∀ c∈s.data.toList,isD c=true) (P:Int) (hP : -2000 <= P∧P <= 2000) (w:World) :
  Calls Tryz.prog 96 #[.string s,.int .i64 P] w (NearPost w (nearR (dv 0 s.data.toList) P)):=by
 have hlen:=list_len s;have htiny:=near_tiny (D:=s.data.toList) hd (by omega) (P:=P);have HW:=Yd (fun W=>whole_any s (by omega) hd W);have HA:=Yd (fun (m:Nat) (E:Int) (hm:m<18446744073709551616) (hE : -2000 <= E∧E <= 2000) (W:World)=>against_any s (by omega) hd P E hP hE m hm W);obtain ⟨N,hN⟩:∃ N,dv 0 s.data.toList=N:=⟨_,rfl⟩;rw [hN] at HW HA htiny ⊢;clear hN hd hs hlen;obtain ⟨R,hR⟩:∃ R,nearR N P=R:=⟨_,rfl⟩;rw [hR] at htiny ⊢;have HR:=Yd hR;have HT:=Yd htiny;clear hR htiny
 by_cases hp8:P < -800
 ·obtain rfl:=HT.out (.inl hp8);go_enter Tryz.func96,Tryz.ntmps96;go_wp2_with fail;go_ret2;exact ⟨rfl,Below.refl _ _⟩
 by_cases hN0:N=0
 ·obtain rfl:=HT.out (.inr hN0);go_enter Tryz.func96,Tryz.ntmps96;go_wp2_with (go_at_call 129; (with_reducible refine (HW.out _).mono ?_); rintro e w1 ⟨v,rfl,h1,b1⟩; obtain ⟨A,L,c,rfl,hL⟩:=whole_len h1; obtain rfl:=hL.2 hN0; have B1:=Yd b1; clear b1 hL h1);go_ret2;exact ⟨rfl,B1.out⟩
 by_cases hp4:400<P
 ·have hr:=near_huge (N:=N) (by omega) hp4;rw [HR.out] at hr;subst hr;go_enter Tryz.func96,Tryz.ntmps96;go_wp2_with (go_at_call 129; (with_reducible refine (HW.out _).mono ?_); rintro e w1 ⟨v,rfl,h1,b1⟩; obtain ⟨A,L,c,rfl,hL⟩:=whole_len h1; have hL1:((L:Int) == 0)=false:=(Yf (by omega)); have B1:=Yd b1; clear b1 hL h1);go_ret2;exact ⟨rfl,B1.out⟩
 obtain ⟨x,hx⟩:∃ x,N*10 ^ P.toNat=x:=⟨_,rfl⟩;obtain ⟨y,hy⟩:∃ y,10 ^ (-P).toNat=y:=⟨_,rfl⟩;have hy0:0<y:=by rw [<- hy]; exact Nat.pow_pos (by decide)
 have hend:=fun X=>near_end (N:=N) (P:=P) (X:=X);rw [hx,hy,HR.out] at hend;rw [hx,hy] at HA;have HE:=Yd hend;clear hend hx hy;go_enter Tryz.func96,Tryz.ntmps96;go_wp2_with (go_at_call 129; (with_reducible refine (HW.out _).mono ?_); rintro e w1 ⟨v,rfl,h1,b1⟩; obtain ⟨A,L,c,rfl,hL⟩:=whole_len h1; have hL1:((L:Int) == 0)=false:=(Yf (by omega)); have B1:=Yd b1; clear b1 hL h1)
 go_loopw [6,7] (fun s6 s7 wr=>∃ low high:Nat,s6 = .int .u64 low∧s7 = .int .u64 high∧NI x y low high∧Below w.heap.size w wr) (fun s6 s7 _=>(intOf s7-intOf s6).toNat)
 case atStart=>exact ⟨0,9218868437227405311,rfl,rfl,NI.start x y,B1.out⟩
 case round =>
  obtain ⟨low,high,rfl,rfl,hNI,hB⟩:=hrel;obtain ⟨wo,rfl⟩:∃ wo:World,wo=wr:=⟨_,rfl⟩;have HB:=Yd hB;have hle:=hNI.le;have htop:=hNI.top;have HN:=Yd hNI;clear hB hNI B1
  by_cases hlt:low<high
  ·obtain ⟨d,hd⟩:∃ d,high-low=d:=⟨_,rfl⟩;obtain ⟨q,hq⟩:∃ q,d / 2=q:=⟨_,rfl⟩;obtain ⟨mid,hmid⟩:∃ mid,high-q=mid:=⟨_,rfl⟩;have d1:(high:Int)-(low:Int)=(d:Int):=by omega
   have d2:(d:Int) / 2=(q:Int):=by omega
   have d3:(high:Int)-(q:Int)=(mid:Int):=by omega
   have m1:low<mid:=by omega
   have m2:mid <= high:=by omega
   have mX:mid<9218868437227405312:=by omega
   have HPc:=Yd (fun W=>pieces_any mid mX W);have hM:=ftM_pos mid (by omega);have hEb : -1074 <= ftE mid-52∧ftE mid-52 <= 1000:=by unfold ftE; split <;> omega
   have hag:=(against_eq x y (ftM mid) (ftE mid-52) (by omega)).1;rw [at_qv mid y] at hag;have HAc:=Yd (fun W=>HA.out (ftM mid) (ftE mid-52) (by omega) (by omega) W);obtain ⟨M,hMe⟩:∃ M,ftM mid=M:=⟨_,rfl⟩;obtain ⟨E,hEe⟩:∃ E,ftE mid-52=E:=⟨_,rfl⟩;rw [hMe,hEe] at HPc HAc hag;have HG:=Yd hag;have di:(low:Int)<(high:Int):=by omega
   have MM:=Yd (And.intro m1 (And.intro m2 hlt));have hi9:(high:Int) <= 9218868437227405311:=by omega
   clear hag hMe hEe hM hEb hd hq hmid HA HT HR HE;go_wp2_with (first
    | (go_at_call 130; (with_reducible refine (HPc.out _).mono ?_); rintro e w' ⟨rfl,rfl⟩)
    | (go_at_call 131; (with_reducible refine (HAc.out _).mono ?_); rintro e w5 ⟨c,rfl,c1,c2,b5⟩; have CC:=Yd (And.intro c1 c2); have B5:=Yd (HB.out.trans (b5.mono HB.out.size)); clear b5 c1 c2))
   ·refine ⟨⟨mid,high,rfl,rfl,HN.out.up m2 (Nat.le_of_not_lt fun h => ?_),B5.out⟩,?_⟩
    ·have:=CC.out.1.2 (HG.out.2 h);omega
    ·simp only [intOf];omega
   ·refine ⟨⟨low,mid-1,rfl,by congr 1; omega,HN.out.down m1 m2 (HG.out.1 (CC.out.1.1 (by assumption))),B5.out⟩,?_⟩;simp only [intOf];omega
  ·obtain rfl:low=high:=by omega
   have hE:=HE.out low HN.out;have mX:low<9218868437227405312:=by omega
   have HPc:=Yd (fun W=>pieces_any low mX W);have hM:ftM low<9007199254740992:=by
    by_cases h0:low=0
    ·subst h0; decide
    ·exact (ftM_pos low (by omega)).2
   have hEb : -1074 <= ftE low-52∧ftE low-52 <= 1000:=by unfold ftE; split <;> omega
   have hag:=against_eq x y (2*ftM low+1) (ftE low-52-1) (by omega);rw [at_endU low y] at hag;have HAc:=Yd (fun W=>HA.out (2*ftM low+1) (ftE low-52-1) (by omega) (by omega) W);obtain ⟨M,hMe⟩:∃ M,ftM low=M:=⟨_,rfl⟩;obtain ⟨E,hEe⟩:∃ E,ftE low-52=E:=⟨_,rfl⟩;rw [hMe,hEe] at HPc HAc hag;rw [hMe] at hE hM;rw [hEe] at hEb;obtain ⟨K,hK⟩:∃ K,2*M+1=K:=⟨_,rfl⟩;obtain ⟨E1,hE1⟩:∃ E1,E-1=E1:=⟨_,rfl⟩;rw [hK,hE1] at HAc hag;have HG:=Yd hag;have HE2:=Yd hE;have k1:2*(M:Int)+1=(K:Int):=by omega
   have M9:(M:Int)<9007199254740992:=by omega
   have E9 : -1074 <= E∧E <= 1000:=hEb;have NX:=Yd (fun (h:low≠9218868437227405311) W=>next_up low (by omega) W);have HMX:=Yd (show (fo low 9218868437227405311 == some .eq)=decide (low=9218868437227405311) from fo_eq_pos mX (by decide));clear hag hMe hEe hM hEb HA HT HE hE hK hlt HN htop hle;go_upto_region 15 with (first
    | (go_at_call 130; (with_reducible refine (HPc.out _).mono ?_); rintro e w' ⟨rfl,rfl⟩)
    | (go_at_call 131; (with_reducible refine (HAc.out _).mono ?_); rintro e w5 ⟨c,rfl,c1,c2,b5⟩; have CC:=Yd (And.intro c1 c2); have B5:=Yd (HB.out.trans (b5.mono HB.out.size)); clear b5 c1 c2))
   have hc:=CC.out;have hg:=HG.out;have he:=HE2.out;clear HAc HPc
   rcases Nat.lt_trichotomy (x*2 ^ unB) (endU low*y) with h | h | h
   ·have c0:c<0:=hc.1.2 (hg.1.2 h);rw [if_neg (by omega)] at he;subst he;have d2:(c == 0)=false:=Yf (by omega)
    have d3:decide (0<c)=false:=decide_eq_false (by omega);clear hc hg h HG HE2 CC c0;go_wp2_with fail;go_ret2;exact ⟨rfl,B5.out⟩
   ·have c0:c=0:=hc.2.2 (hg.2.2 h);subst c0
    by_cases hp:M % 2=1
    ·rw [if_pos (.inr ⟨h,hp⟩)] at he;have hpi:(M:Int) % 2=1:=by omega
     by_cases hmax:low=9218868437227405311
     ·have hf:=HMX.out;rw [decide_eq_true hmax] at hf;rw [if_pos hmax] at he;subst he;clear hc hg h HG HE2 CC hp hmax;go_wp2_with fail;go_ret2;exact ⟨rfl,B5.out⟩
     ·have hf:=HMX.out;rw [decide_eq_false hmax] at hf;rw [if_neg hmax] at he;subst he;have HN:=Yd (NX.out hmax);clear hc hg h HG HE2 CC hp hmax;go_wp2_with (go_at_call 132; (with_reducible refine (HN.out _).mono ?_); rintro e w' ⟨rfl,rfl⟩);go_ret2;exact ⟨rfl,B5.out⟩
    ·rw [if_neg (by omega)] at he;subst he;have hpi:(M:Int) % 2=0:=by omega
     clear hc hg h HG HE2 CC hp;go_wp2_with fail;go_ret2;exact ⟨rfl,B5.out⟩
   ·have c0:0<c:=by
     have h1:¬ c<0:=fun hh=>by have:=hg.1.1 (hc.1.1 hh); omega
     have h2:¬ c=0:=fun hh=>by have:=hg.2.1 (hc.2.1 hh); omega
     omega
    rw [if_pos (.inl h)] at he
    by_cases hmax:low=9218868437227405311
    ·have hf:=HMX.out;rw [decide_eq_true hmax] at hf;rw [if_pos hmax] at he;subst he;clear hc hg h HG HE2 CC hmax;go_wp2_with fail;go_ret2;exact ⟨rfl,B5.out⟩
    ·have hf:=HMX.out;rw [decide_eq_false hmax] at hf;rw [if_neg hmax] at he;subst he;have HN:=Yd (NX.out hmax);clear hc hg h HG HE2 CC hmax;go_wp2_with (go_at_call 132; (with_reducible refine (HN.out _).mono ?_); rintro e w' ⟨rfl,rfl⟩);go_ret2;exact ⟨rfl,B5.out⟩
end rg
end Go.Proofs.YtcbgkbidgpemfaaGreatDoor
