/- burnishref16.Parse is decimal.Parse. Condition: the text has at most 1000 bytes. -/
import Derived.Test.YtcbgkbidgpemfaaGreatDoorMf00
import Derived.Test.YtcbgkbidgpemfaaGreatDoorMf34
import Derived.Test.YtcbgkbidgpemfaaGreatDoorMf29
import Derived.Test.YtcbgkbidgpemfaaGreatDoorMf10
import Derived.Laws.OwnMore
import Derived.Deep.Slices
import Derived.ChangeSame
import Derived.ChangeArms
import Derived.OpenShut
import Derived.WideShapes
namespace Go.Proofs.YtcbgkbidgpemfaaGreatDoor
set_option maxRecDepth 100000
set_option maxHeartbeats 2000000
namespace rg
open Go.RowKit
open nodew
open flatm
open dcw
open fpm
open rdf
open prnw
open dmx
attribute [local go_sem] nodew.fo_eq un_neg
theorem parts_D {l:List UInt8} {D:List UInt8} {P:Int} (h:partsL l=some (D,P)):(∀ c∈D,isD c=true)∧D.length <= 30:=by
 unfold partsL at h;simp only at h
 split at h
 ·cases h
 ·next hb =>
  have hall:=ps_isD (unsg l) ps0 (fun c hc=>by cases hc);have h30:(pS (unsg l) ps0).1.ds.length <= 30:=by omega
  split at h
  ·have e:=Option.some.inj h;obtain ⟨e1,-⟩:=Prod.mk.inj e;rw [<- e1];exact ⟨hall,h30⟩
  ·split at h
   ·have e:=Option.some.inj h;obtain ⟨e1,-⟩:=Prod.mk.inj e;rw [<- e1];exact ⟨hall,h30⟩
   ·cases h
theorem ps_pw:∀ (l:List UInt8) (p:PS),p.ds.length <= (pS l p).1.ds.length∧(pS l p).1.pw <= p.pw∧p.pw <= (pS l p).1.pw+(pS l p).1.dots*((pS l p).1.ds.length-p.ds.length:Nat)
 | [],p=>by
  show p.ds.length <= p.ds.length∧p.pw <= p.pw∧p.pw <= p.pw+p.dots*((p.ds.length-p.ds.length:Nat):Int);rw [Nat.sub_self];simp
 | c :: l,p=>by
  rw [ps_cons]
  split
  ·have h1:=ps_pw l ⟨p.ds ++ [c],p.dots,p.pw-p.dots⟩;have h2:=ps_more l ⟨p.ds ++ [c],p.dots,p.pw-p.dots⟩;obtain ⟨q,hq⟩:∃ q,(pS l ⟨p.ds ++ [c],p.dots,p.pw-p.dots⟩).1=q:=⟨_,rfl⟩;rw [hq] at h1 h2 ⊢;simp only [List.length_append,List.length_singleton] at h1 h2;obtain ⟨a1,a2,a3⟩:=h1;have h2':p.dots <= q.dots:=h2;obtain ⟨n,hn⟩:∃ n,q.ds.length-(p.ds.length+1)=n:=⟨_,rfl⟩;rw [hn] at a3;rw [show q.ds.length-p.ds.length=n+1 by omega,Int.natCast_add,Int.mul_add];obtain ⟨y,hy⟩:∃ y:Int,(q.dots:Int)*(n:Int)=y:=⟨_,rfl⟩;rw [hy] at a3 ⊢;refine ⟨by omega,by omega,?_⟩;simp only [Int.natCast_one,Int.mul_one] at a3 ⊢;omega
  ·split
   ·exact ps_pw l ⟨p.ds,p.dots+1,p.pw⟩
   ·show p.ds.length <= p.ds.length∧p.pw <= p.pw∧p.pw <= p.pw+p.dots*((p.ds.length-p.ds.length:Nat):Int);rw [Nat.sub_self];simp
theorem ok_eL {r:List UInt8} (h:okE r=true):eL r 0<1000:=by
 have h1:=okE_len h;unfold okE at h;simp only [Bool.and_eq_true,decide_eq_true_eq] at h;have h3:=eL_snoc_bd r 0 (dgs_all r h.2);have h4:(10:Nat) ^ r.length <= 10 ^ 3:=Nat.pow_le_pow_right (by decide) h1.2;omega
theorem ex_bd {c:UInt8} {l:List UInt8} (h:expB (c :: l)=true) : -1000 <= rdf.exV l∧rdf.exV l <= 1000:=by
 rw [exp_cons,Bool.and_eq_true] at h;have h1:=ok_eL (r:=exR l) h.2
 cases l with
 | nil=>decide
 | cons d l =>
  by_cases e1:d.toNat=45
  ·rw [show d=45 from UInt8.toNat_inj.1 e1] at h1 ⊢;rw [(ex_45 l).1] at h1;rw [(ex_45 l).2];omega
  by_cases e2:d.toNat=43
  ·rw [show d=43 from UInt8.toNat_inj.1 e2] at h1 ⊢;rw [(ex_43 l).1] at h1;rw [(ex_43 l).2];omega
  rw [(ex_else l e1 e2).1] at h1;rw [(ex_else l e1 e2).2];omega
theorem parts_P {l:List UInt8}:∀ (D:List UInt8) (P:Int),partsL l=some (D,P) -> -2000 <= P∧P <= 2000:=by
 intro D P h;have hb:=ps_pw (unsg l) ps0;unfold partsL at h;simp only at h
 split at h
 ·cases h
 ·next hc =>
  obtain ⟨q,hq⟩:∃ q,(pS (unsg l) ps0)=q:=⟨_,rfl⟩;rw [hq] at h hb hc;obtain ⟨b1,b2,b3⟩:=hb;have e0:ps0.pw=0:=rfl;have e1:ps0.ds.length=0:=rfl;rw [e0] at b2 b3;rw [e1] at b3;have hbd : -30 <= q.1.pw∧q.1.pw <= 0:=by
   have hm:q.1.dots*(q.1.ds.length-0) <= 1*30:=Nat.mul_le_mul (by omega) (by omega);have hm':((q.1.dots*(q.1.ds.length-0):Nat):Int) <= 30:=by omega
   rw [Int.natCast_mul] at hm';omega
  split at h
  ·have e:=Option.some.inj h;obtain ⟨-,e2⟩:=Prod.mk.inj e;omega
  ·split at h
   ·next hx =>
    have e:=Option.some.inj h;obtain ⟨-,e2⟩:=Prod.mk.inj e
    cases hr:q.2 with
    | nil=>rw [hr] at hx; cases hx
    | cons c r =>
     rw [hr] at hx e2;have:=ex_bd hx;rw [List.drop_succ_cons,List.drop_zero] at e2;omega
   ·cases h
theorem parse16_any (s:ByteArray) (hs:s.size <= 1000) (w:World):Calls Tryz.prog 62 #[.string s] w (rdf.DqPost w (decR s.data.toList)):=by
 have HP:=Yd (fun W=>parts_any s hs W);have hd:=dec_ref s.data.toList;obtain ⟨R,hR⟩:∃ R,partsL s.data.toList=R:=⟨_,rfl⟩;have hpd:=fun D P (h:partsL s.data.toList=some (D,P))=>parts_D h;have hpb:=parts_P (l:=s.data.toList);rw [hR] at HP hd hpd hpb;rw [hd];clear hd hR
 cases R with
 | none =>
  clear hpd hpb;go_enter Tryz.func62,Tryz.ntmps62;go_wp2_with (go_at_call 95; (with_reducible refine (HP.out _).mono ?_); rintro e w1 ⟨rfl,rfl⟩);go_ret2;exact ⟨rfl,Below.refl _ _⟩
 | some p =>
  obtain ⟨D,P⟩:=p;obtain ⟨d1,d2⟩:=hpd D P rfl;have d3:=hpb D P rfl;obtain ⟨b,hb⟩:∃ b,sgL s.data.toList=b:=⟨_,rfl⟩;rw [hb] at HP;simp only [hb];have HN:=Yd (fun (T:ByteArray) (hT:T.data.toList=D) W=>show Calls Tryz.prog 96 #[.string T,.int .i64 P] W (NearPost W (nearR (dv 0 D) P)) from by
   have:=near_any T (by rw [<- list_len,hT]; exact d2) (by rw [hT]; exact d1) P d3 W;rw [hT] at this;exact this)
  have hX:(nearR (dv 0 D) P).1<infW:=by
   unfold nearR
   split
   ·decide
   ·next h=>have:=infW_eq; have e:infX=9218868437227405312:=rfl; show nx _ _<_; omega
  obtain ⟨r,hr⟩:∃ r,nearR (dv 0 D) P=r:=⟨_,rfl⟩;rw [hr] at HN hX ⊢;obtain ⟨X,ok⟩:=r;simp only at hX ⊢;clear hpd hpb d1 d2 hb hr
  cases ok with
  | false =>
   rw [if_neg (by decide)];go_enter Tryz.func62,Tryz.ntmps62;go_wp2_with (first
    | (go_at_call 95; (with_reducible refine (HP.out _).mono ?_); rintro e w1 ⟨rfl,T,hT,rfl⟩; have HT:=Yd hT; clear hT)
    | (go_at_call 96; (with_reducible refine (HN.out _ HT.out _).mono ?_); rintro e w1 ⟨rfl,hb1⟩; have B1:=Yd hb1; clear hb1))
   go_ret2;exact ⟨rfl,B1.out⟩
  | true =>
   rw [if_pos rfl];have f0:=rdf.fo_0 false X hX;rw [show sgn false X=X from rfl] at f0;have hi:=infW_eq;have hng:=rdf.neg_of X (by omega);have hsg:sgn true X=9223372036854775808+X:=rfl;have HF:=Yd f0;have HG:=Yd (And.intro hng hsg);clear f0 hng hsg hi d3 hX
   cases b with
   | false =>
    rw [if_neg (fun h=>by cases h.1)];go_enter Tryz.func62,Tryz.ntmps62;go_wp2_with (first
     | (go_at_call 95; (with_reducible refine (HP.out _).mono ?_); rintro e w1 ⟨rfl,T,hT,rfl⟩; have HT:=Yd hT; clear hT)
     | (go_at_call 96; (with_reducible refine (HN.out _ HT.out _).mono ?_); rintro e w1 ⟨rfl,hb1⟩; have B1:=Yd hb1; clear hb1))
    go_ret2;exact ⟨rfl,B1.out⟩
   | true =>
    by_cases h0:X=0
    ·subst h0;rw [if_neg (fun h=>h.2 rfl)];have f1:(fo 0 0 == some .eq)=true:=HF.out;go_enter Tryz.func62,Tryz.ntmps62;go_wp2_with (first
      | (go_at_call 95; (with_reducible refine (HP.out _).mono ?_); rintro e w1 ⟨rfl,T,hT,rfl⟩; have HT:=Yd hT; clear hT)
      | (go_at_call 96; (with_reducible refine (HN.out _ HT.out _).mono ?_); rintro e w1 ⟨rfl,hb1⟩; have B1:=Yd hb1; clear hb1))
     go_ret2;exact ⟨rfl,B1.out⟩
    ·rw [if_pos ⟨rfl,h0⟩,HG.out.2];have f1:=HF.out;rw [decide_eq_false h0] at f1;have f3:(fo X 0 != some .eq)=true:=by simp [bne,f1]
     have f2:=HG.out.1;obtain ⟨Y,hY⟩:∃ Y,9223372036854775808+X=Y:=⟨_,rfl⟩;rw [hY] at f2 ⊢;clear h0 hY HG HF;go_enter Tryz.func62,Tryz.ntmps62;go_wp2_with (first
      | (go_at_call 95; (with_reducible refine (HP.out _).mono ?_); rintro e w1 ⟨rfl,T,hT,rfl⟩; have HT:=Yd hT; clear hT)
      | (go_at_call 96; (with_reducible refine (HN.out _ HT.out _).mono ?_); rintro e w1 ⟨rfl,hb1⟩; have B1:=Yd hb1; clear hb1))
     go_ret2;exact ⟨rfl,B1.out⟩
end rg

/- Slices of statements that come in; what an append of them does; what the row reads of them. Conditions: as each theorem states. -/
namespace chkw
open Go.RowKit
open lexw
open parw
open nodew
open qt
open Go.ChangeShapes Go.WideShapes Go.Deep
end chkw

/- The walks of burnishref18's find, beyond, three, and of burnishref17's Word and Kind. Conditions: as each theorem states. -/
namespace chkw
open Go.RowKit
open lexw
open parw
open nodew
open qt
open Go.BigFrame
attribute [local go_sem] parw.run_store_float
def nameAt (l:List PStmt) (i:Nat):ByteArray:=(l[i]?.map (·.name)).getD ⟨#[]⟩
def entsOf (l:List PStmt) (k:Nat):List (ByteArray × Nat):=(List.range k).map fun i=>(nameAt l i,i)
theorem nameAt_lt (l:List PStmt) (i:Nat) (h:i<l.length):nameAt l i=l[i].name:=by simp [nameAt,h]
theorem entsOf_succ (l:List PStmt) (k:Nat):entsOf l (k+1)=entsOf l k ++ [(nameAt l k,k)]:=by simp [entsOf,List.range_succ]
theorem lookE_none (ents:List (ByteArray × Nat)) (nm:ByteArray) (h:∀ p∈ents,p.1≠nm):lookE ents nm=none:=by
 unfold lookE;rw [List.find?_eq_none.2]
 ·rfl
 ·intro p hp hb;exact h p hp ((ba_beq' nm p.1).1 hb).symm
where
 ba_beq' (a b:ByteArray):(a == b)=true↔a=b:=by
  obtain ⟨a⟩:=a
  obtain ⟨b⟩:=b
  show (a == b)=true↔_
  rw [beq_iff_eq]
  simp
theorem look_none (l:List PStmt) (k:Nat) (nm:ByteArray) (h:∀ i,i<k -> nameAt l i≠nm):lookE (entsOf l k) nm=none :=
 lookE_none _ _ fun p hp=>by
  unfold entsOf at hp;obtain ⟨i,hi,rfl⟩:=List.mem_map.1 hp;exact h i (List.mem_range.1 hi)
theorem lookE_app (a b:List (ByteArray × Nat)) (nm:ByteArray):lookE (a ++ b) nm=(lookE a nm).or (lookE b nm):=by
 unfold lookE;rw [List.find?_append]
 cases List.find? (fun p=>nm == p.1) a <;> rfl
theorem look_some (l:List PStmt) (nm:ByteArray) (j:Nat) (hj:nameAt l j=nm) (h:∀ i,i<j -> nameAt l i≠nm):∀ k,j<k -> lookE (entsOf l k) nm=some j
 | 0,hk=>by omega
 | k+1,hk=>by
  rw [entsOf_succ,lookE_app]
  by_cases e:j=k
  ·subst e;rw [look_none l j nm h,hj];unfold lookE;rw [List.find?_cons_of_pos (by exact (lookE_none.ba_beq' nm nm).2 rfl)];rfl
  ·rw [look_some l nm j hj h k (by omega)];rfl
def findI (ents:List (ByteArray × Nat)) (nm:ByteArray):Int:=match lookE ents nm with | none => -1 | some p=>(p:Int)
theorem find_ref (B:Nat) (v:Value) (l:List PStmt) (k:Nat) (hk:k <= l.length) (hl:l.length <= 1000000000000) (nm:ByteArray) (w:World) (hr:SR w B v l) :
  Calls Tryz.prog 70 #[v,.int .i64 k,.string nm] w fun e w'=>e = .returned (.int .i64 (findI (entsOf l k) nm))∧w'=w:=by
 obtain ⟨vs,A,c,hvl,rfl,hx,-⟩:=hr;have HX:=Yd hx;have HVL:=Yd hvl;clear hx hvl;go_enter Tryz.func70,Tryz.ntmps70;go_wp2_with fail
 go_loop [7] (fun i=>∃ j:Nat,j <= k∧i = .int .i64 j ∧ ∀ i,i<j -> nameAt l i≠nm) (fun i=>k-(intOf i).toNat)
 case atStart=>exact ⟨0,Nat.zero_le _,rfl,fun i h=>by omega⟩
 case round =>
  obtain ⟨j,hj,rfl,hno⟩:=hrel
  by_cases hjk:j<k
  ·have hjl:j<l.length:=by omega
   obtain ⟨g,off,rfl,-,hcell⟩:=HX.out (by intro e; subst e; simp at hjl);have c0:w.cell? ⟨g,off+j*4,none⟩=some (.string (nameAt l j)):=by
    have:=hcell (j*4+0) _ ((scells_get l vs j 0 (by rw [HVL.out]; exact hjl) hjl (by omega) HVL.out).trans rfl);rw [nameAt_lt l j hjl];rwa [Nat.add_zero] at this
   have hj0:(0:Int) <= (j:Int):=by omega
   have hjk':(j:Int)<(k:Int):=by omega
   have hjl':(j:Int)<(l.length:Int):=by omega
   obtain ⟨nj,hnj⟩:∃ nj,nameAt l j=nj:=⟨_,rfl⟩;rw [hnj] at c0;have HNO:=Yd hno;clear hcell hno
   by_cases he:nj=nm
   ·have hf:findI (entsOf l k) nm=j:=by unfold findI; rw [look_some l nm j (hnj.trans he) HNO.out k hjk]
    have HF:=Yd hf;have hb:=sbeq_self nm;subst he;clear hf hnj;go_wp2_with fail;go_ret;exact ⟨ret_int HF.out.symm,rfl⟩
   ·have hb:=sbeq he;have HNE:=Yd (show nameAt l j≠nm by rw [hnj]; exact he);clear hnj he;go_wp2_with fail
    go_round
    case rel=>exact ⟨j+1,by omega,by go_num,fun i hi=>by
     by_cases e:i=j
     ·rw [e]; exact HNE.out
     ·exact HNO.out i (by omega)⟩
    case measure=>simp [intOf]; omega
  ·obtain rfl:j=k:=by omega
   have hf:findI (entsOf l j) nm = -1:=by unfold findI; rw [look_none l j nm hno]
   have HF:=Yd hf;clear hf hno;go_wp2_with fail;go_ret;exact ⟨ret_int HF.out.symm,rfl⟩
def wordR (k:Nat):ByteArray:=if k=1 then wd1 else if k=2 then wd2 else if k=3 then wd3 else if k=4 then wd4 else if k=5 then wd5 else if k=6 then wd6 else ⟨#[]⟩
theorem word_ref (k:Nat) (hk:1 <= k∧k <= 6) (w:World):Calls Tryz.prog 9 #[.int .u8 k] w fun e w'=>e = .returned (.string (wordR k))∧w'=w:=by
 have:k=1∨k=2∨k=3∨k=4∨k=5∨k=6:=by omega
 rcases this with rfl | rfl | rfl | rfl | rfl | rfl
 all_goals
  go_enter Tryz.func9,Tryz.ntmps9;go_wp2;go_ret;exact ⟨rfl,rfl⟩
theorem kindF_word (s:ByteArray) (k:Nat) (h1:1 <= k) (h6:k <= 6) (hs:wordR k=s) (hn:∀ j,1 <= j -> j<k -> wordR j≠s):kindF s=k:=by
 subst hs;have:k=1∨k=2∨k=3∨k=4∨k=5∨k=6:=by omega
 rcases this with rfl | rfl | rfl | rfl | rfl | rfl <;> decide +kernel
theorem kindF_none (s:ByteArray) (hn:∀ j,1 <= j -> j <= 6 -> wordR j≠s):kindF s=0:=by
 unfold kindF;rw [if_neg (fun e=>hn 1 (by omega) (by omega) e.symm),if_neg (fun e=>hn 2 (by omega) (by omega) e.symm),if_neg (fun e=>hn 3 (by omega) (by omega) e.symm),if_neg (fun e=>hn 4 (by omega) (by omega) e.symm),if_neg (fun e=>hn 5 (by omega) (by omega) e.symm),if_neg (fun e=>hn 6 (by omega) (by omega) e.symm)]
theorem kind_ref (s:ByteArray) (w:World):Calls Tryz.prog 7 #[.string s] w fun e w'=>e = .returned (.int .u8 (kindF s))∧w'=w:=by
 go_enter Tryz.func7,Tryz.ntmps7;go_wp2_with fail
 go_loop [3] (fun i=>∃ k:Nat,1 <= k∧k <= 7∧i = .int .u8 k ∧ ∀ j,1 <= j -> j<k -> wordR j≠s) (fun i=>7-(intOf i).toNat)
 case atStart=>exact ⟨1,by omega,by omega,rfl,fun j h1 h2=>by omega⟩
 case round =>
  obtain ⟨k,hk1,hk7,rfl,hno⟩:=hrel
  by_cases h6:k <= 6
  ·have h6':(k:Int) <= 6:=by omega
   have hw:=word_ref k ⟨hk1,h6⟩;obtain ⟨wk,hwk⟩:∃ wk,wordR k=wk:=⟨_,rfl⟩;rw [hwk] at hw;have HNO:=Yd hno;have HW:=Yd hw;clear hno hw
   by_cases he:wk=s
   ·have hf:=kindF_word s k hk1 h6 (hwk.trans he) HNO.out;have HF:=Yd hf;have hb:=sbeq_self s;subst he;clear hf hwk;go_wp2_with fail;refine (HW.out _).mono ?_;rintro e u ⟨rfl,rfl⟩;go_wp2_with fail;go_ret;exact ⟨ret_int (by rw [HF.out]),rfl⟩
   ·have hb:=sbeq he;have HNE:=Yd (show wordR k≠s by rw [hwk]; exact he);clear he hwk;go_wp2_with fail;refine (HW.out _).mono ?_;rintro e u ⟨rfl,rfl⟩;go_wp2_with fail
    go_round
    case rel=>exact ⟨k+1,by omega,by omega,by go_num,fun j h1 h2=>by
     by_cases e:j=k
     ·rw [e]; exact HNE.out
     ·exact HNO.out j h1 (by omega)⟩
    case measure=>simp [intOf]; omega
  ·have h6':¬ (k:Int) <= 6:=by omega
   have hf:=kindF_none s (fun j j1 j6=>hno j j1 (by omega));have HF:=Yd hf;clear hf hno h6;go_wp2_with fail;go_ret;exact ⟨ret_int (by rw [HF.out]; rfl),rfl⟩
end chkw

/- The walks of burnishref18's three and beyond. Conditions: the statement's arguments lie in memory. -/
namespace chkw
open Go.RowKit
open lexw
open parw
open nodew
open qt
open Go.BigFrame
attribute [local go_sem] parw.run_store_float
def argN (l:List PArg) (i:Nat):Nat:=(l[i]?.map (·.num)).getD 0
theorem argN_lt (l:List PArg) (i:Nat) (h:i<l.length):argN l i=l[i].num:=by simp [argN,h]
theorem ARead.num {W:World} {B:Nat} {l:List PArg} {A:Option Addr} {c:Nat} (h:ARead W B (.slice A l.length c) l) (hl:0<l.length) :
  ∃ g off,A=some ⟨g,off,none⟩∧g<B ∧ ∀ i (hi:i<l.length),W.cell? ⟨g,off+i*3,none⟩=some (.int .i64 l[i].pos)∧W.cell? ⟨g,off+i*3+1,none⟩=some (.float .f64 l[i].num)∧W.cell? ⟨g,off+i*3+2,none⟩=some (.string l[i].name):=by
 obtain ⟨A',c',he,hx⟩:=h;injection he with e1 _ _;subst e1;obtain ⟨g,off,hA,hg,hc⟩:=hx (by intro e; subst e; simp at hl);refine ⟨g,off,hA,hg,fun i hi=>⟨?_,?_,?_⟩⟩
 ·have:=hc (i*3+0) _ ((acells_get l i 0 hi (by omega)).trans rfl);rwa [<- Nat.add_assoc,Nat.add_zero] at this
 ·have:=hc (i*3+1) _ ((acells_get l i 1 hi (by omega)).trans rfl);rwa [<- Nat.add_assoc] at this
 ·have:=hc (i*3+2) _ ((acells_get l i 2 hi (by omega)).trans rfl);rwa [<- Nat.add_assoc] at this
theorem three_ref (B:Nat) (s:PStmt) (A:Option Addr) (c at_:Nat) (h:at_+2<s.args.length) (hl:s.args.length <= 1000) (w:World) (ha:ARead w B (.slice A s.args.length c) s.args) (hB:B <= w.heap.size) :
  Calls Tryz.prog 99 #[.agg #[.string s.name,.int .i64 s.pos,.int .u8 s.kind,.slice A s.args.length c],.int .i64 at_] w fun e w' =>
   e = .returned (.agg #[.float .f64 (argN s.args at_),.float .f64 (argN s.args (at_+1)),.float .f64 (argN s.args (at_+2))])∧Below w.heap.size w w':=by
 obtain ⟨g,off,rfl,hg,hc⟩:=ARead.num ha (by omega);have w1:IntKind.i64.wrap ((at_:Int)+1)=(at_:Int)+1:=IntWalk.i64_in _ (by omega);have w2:IntKind.i64.wrap ((at_:Int)+2)=(at_:Int)+2:=IntWalk.i64_in _ (by omega);have p0:(0:Int) <= (at_:Int):=by omega
 have p1:(0:Int) <= (at_:Int)+1:=by omega
 have p2:(0:Int) <= (at_:Int)+2:=by omega
 have l0:(at_:Int)<(s.args.length:Int):=by omega
 have l1:(at_:Int)+1<(s.args.length:Int):=by omega
 have l2:(at_:Int)+2<(s.args.length:Int):=by omega
 have m0:at_<s.args.length:=by omega
 have m1:at_+1<s.args.length:=by omega
 have m2:at_+2<s.args.length:=by omega
 have t1:((at_:Int)+1).toNat=at_+1:=by omega
 have t2:((at_:Int)+2).toNat=at_+2:=by omega
 have c0:=(hc at_ m0).2.1;have c1:=(hc (at_+1) m1).2.1;have c2:=(hc (at_+2) m2).2.1;rw [<- argN_lt] at c0 c1 c2;obtain ⟨x0,hx0⟩:∃ x,argN s.args at_=x:=⟨_,rfl⟩;obtain ⟨x1,hx1⟩:∃ x,argN s.args (at_+1)=x:=⟨_,rfl⟩;obtain ⟨x2,hx2⟩:∃ x,argN s.args (at_+2)=x:=⟨_,rfl⟩;rw [hx0] at c0;rw [hx1] at c1;rw [hx2] at c2;rw [hx0,hx1,hx2];clear hx0 hx1 hx2 hc ha h hl;go_enter Tryz.func99,Tryz.ntmps99;go_upto_region 1 with (fail);have hb1:=(Below.refl w.heap.size w).alloc (Nat.le_refl _) (.cells #[.string s.name,.int .i64 s.pos,.int .u8 s.kind,.slice (some ⟨g,off,none⟩) s.args.length c] 62);have hb2:=hb1.alloc hb1.size (.cells #[.float .f64 0,.float .f64 0,.float .f64 0] 47);have hs1:=(Below.heap_alloc _ (.cells #[.float .f64 0,.float .f64 0,.float .f64 0] 47) w.heap.size (by simp)).trans (heap_alloc_new w (.cells #[.string s.name,.int .i64 s.pos,.int .u8 s.kind,.slice (some ⟨g,off,none⟩) s.args.length c] 62));have hr1:=heap_alloc_new (w.alloc (.cells #[.string s.name,.int .i64 s.pos,.int .u8 s.kind,.slice (some ⟨g,off,none⟩) s.args.length c] 62)) (.cells #[.float .f64 0,.float .f64 0,.float .f64 0] 47);rw [World.size_alloc] at hr1;obtain ⟨X,hX⟩:∃ X,X=(w.alloc (.cells #[.string s.name,.int .i64 s.pos,.int .u8 s.kind,.slice (some ⟨g,off,none⟩) s.args.length c] 62)).alloc (.cells #[.float .f64 0,.float .f64 0,.float .f64 0] 47):=⟨_,rfl⟩;rw [<- hX] at hb2 hs1 hr1 ⊢;clear hX hb1;obtain ⟨rb,hrb⟩:∃ rb,rb=w.heap.size+1:=⟨_,rfl⟩;rw [<- hrb] at hr1 ⊢;have hrw:w.heap.size <= rb:=by omega
 obtain ⟨sb,hsb⟩:∃ sb,sb=w.heap.size:=⟨_,rfl⟩;rw [<- hsb] at hs1 ⊢;have S3:∀ u:Ext X,u.1.cell? ⟨sb,3,none⟩=some (.slice (some ⟨g,off,none⟩) s.args.length c):=fun u=>ext_cell ((cell_of_row X sb 3 _ _ _ hs1).trans rfl) u;have C0:∀ u:Ext X,u.1.cell? ⟨g,off+at_*3+1,none⟩=some (.float .f64 x0):=fun u=>ext_cell ((hb2.cell (p:=⟨g,off+at_*3+1,none⟩) (by show g<w.heap.size; omega)).trans c0) u;have C1:∀ u:Ext X,u.1.cell? ⟨g,off+(at_+1)*3+1,none⟩=some (.float .f64 x1):=fun u=>ext_cell ((hb2.cell (p:=⟨g,off+(at_+1)*3+1,none⟩) (by show g<w.heap.size; omega)).trans c1) u;have C2:∀ u:Ext X,u.1.cell? ⟨g,off+(at_+2)*3+1,none⟩=some (.float .f64 x2):=fun u=>ext_cell ((hb2.cell (p:=⟨g,off+(at_+2)*3+1,none⟩) (by show g<w.heap.size; omega)).trans c2) u;have HB:=Yd hb2;have HR:=Yd hr1;have HRW:=Yd hrw;clear hb2 hs1 hr1 c0 c1 c2 hrb hrw hsb;refine region_ext_tail 21 (by kernel_rfl) (by kernel_rfl) ?_;simp only [List.take_succ_cons,List.take_zero,List.drop_succ_cons,List.drop_zero]
 repeat go_big_quiet_step (fail)
 refine wpQuiet_nil ?_;intro u;have hu:=u.2;obtain ⟨Z,hZ⟩:∃ Z,Z=u.1:=⟨_,rfl⟩;rw [<- hZ] at hu ⊢;clear hZ S3 C0 C1 C2;have hbz:=HB.out.trans (hu.mono HB.out.size);have hrz:=(hu.block rb (Array.getElem?_eq_some_iff.1 HR.out).1).trans HR.out;have k0:Z.cell? ⟨rb,0,none⟩=some (.float .f64 0):=(cell_of_row Z rb 0 _ _ _ hrz).trans rfl;have k1:Z.cell? ⟨rb,1,none⟩=some (.float .f64 0):=(cell_of_row Z rb 1 _ _ _ hrz).trans rfl;have k2:Z.cell? ⟨rb,2,none⟩=some (.float .f64 0):=(cell_of_row Z rb 2 _ _ _ hrz).trans rfl;have f0:Z.frozen? ⟨rb,0,none⟩=false:=frozen_of_row Z rb 0 _ _ hrz;have f1:Z.frozen? ⟨rb,1,none⟩=false:=frozen_of_row Z rb 1 _ _ hrz;have f2:Z.frozen? ⟨rb,2,none⟩=false:=frozen_of_row Z rb 2 _ _ hrz;have hst:=store3 Z rb _ _ (.float .f64 x0) (.float .f64 x1) (.float .f64 x2) hrz rfl;have hbf:=((hbz.setCell (p:=⟨rb,0,none⟩) HRW.out (.float .f64 x0)).setCell (p:=⟨rb,1,none⟩) HRW.out (.float .f64 x1)).setCell (p:=⟨rb,2,none⟩) HRW.out (.float .f64 x2);have HST:=Yd hst.1;have HBF:=Yd hbf;clear hbz hrz hst hbf hu HB HR;go_wp2_with fail;exact bodyPost_ret (results_cell_row (ty := 47) (p:=4) rfl _ _ rb _ _ _ _ rfl HST.out Tryz.underlying47 rfl (by kernel_rfl)) rfl ⟨rfl,HBF.out⟩
theorem beyond_ref (B:Nat) (s:PStmt) (A:Option Addr) (c i:Nat) (d:Nat × Nat × Nat) (hd:(fieldList s.kind)[i]? = some d) (h:i<s.args.length) (w:World) (ha:ARead w B (.slice A s.args.length c) s.args) (hB:B <= w.heap.size) :
  Calls Tryz.prog 72 #[.agg #[.string s.name,.int .i64 s.pos,.int .u8 s.kind,.slice A s.args.length c],.int .i64 i] w fun e w' =>
   e = .returned (.bool !(withinF d.2.1 d.2.2 (argN s.args i)))∧Below w.heap.size w w':=by
 obtain ⟨g,off,rfl,hg,hc⟩:=ARead.num ha (by omega);have c0:=(hc i h).2.1;rw [<- argN_lt] at c0;obtain ⟨x0,hx0⟩:∃ x,argN s.args i=x:=⟨_,rfl⟩;rw [hx0] at c0 ⊢;obtain ⟨nm,pos,k,args⟩:=s;simp only at hd h c0 ⊢;obtain ⟨ll,hll⟩:∃ ll,args.length=ll:=⟨_,rfl⟩;rw [hll] at h ⊢;obtain ⟨K,hK⟩:∃ K:Int,(k:Int)=K:=⟨_,rfl⟩;rw [hK];have c0:(w.alloc (.cells #[.string nm,.int .i64 pos,.int .u8 K,.slice (some ⟨g,off,none⟩) ll c] 62)).cell? ⟨g,off+i*3+1,none⟩=some (.float .f64 x0):=(World.cell?_of_block (a:=⟨g,off+i*3+1,none⟩) (Below.heap_alloc w _ g (by omega))).trans c0;have hi0:(0:Int) <= (i:Int):=by omega
 have hil:(i:Int)<(ll:Int):=by omega
 obtain ⟨o,lo,up⟩:=d;obtain ⟨q,hq⟩:∃ q,withinF lo up x0=q:=⟨_,rfl⟩;have rq:∀ u:World,Calls Tryz.prog 90 #[.float .f64 x0,.float .f64 lo,.float .f64 up] u fun e w'=>e = .returned (.bool q)∧w'=u:=fun u=>by rw [<- hq]; exact within_ref lo up x0 u
 show Calls _ _ _ _ fun e w'=>e = .returned (.bool !(withinF lo up x0))∧_;rw [hq];have hkk:((k=1∨k=2∨k=5)∧(lo=0∧up=b1f))∨(k=3∧i=0∧lo=bAlpha∧up=b1f)∨(k=3∧i=1∧lo=bIor∧up=bIorM)∨(k=4∧i=0∧lo=bAlpha∧up=b1f)∨(k=4∧i≠0∧lo=bMet∧up=bMetM)∨(k=6∧i=0∧lo=bIor∧up=bIorM)∨(k=6∧i≠0∧lo=0∧up=b1f):=by
  have hk:=kinds_six k (by
   rcases hfl:fieldList k with _ | ⟨a,r⟩
   ·rw [hfl] at hd; simp at hd
   ·simp)
  have hi7:i<7:=by
   have h1:=(List.getElem?_eq_some_iff.1 hd).1;have:(fieldList k).length <= 7:=by
    unfold fieldList; repeat' split
    all_goals simp
   omega
  have hi:i=0∨i=1∨i=2∨i=3∨i=4∨i=5∨i=6:=by omega
  have hk:k=1∨k=2∨k=3∨k=4∨k=5∨k=6:=by simpa using hk
  clear hq rq hK
  rcases hk with rfl | rfl | rfl | rfl | rfl | rfl <;> rcases hi with rfl | rfl | rfl | rfl | rfl | rfl | rfl <;> simp [fieldList] at hd <;> (obtain ⟨-,rfl,rfl⟩:=hd; simp)
 clear hd hq hx0 hll h;have HRQ:=Yd rq;clear rq
 rcases hkk with ⟨hk,rfl,rfl⟩ | ⟨hk,hi,rfl,rfl⟩ | ⟨hk,hi,rfl,rfl⟩ | ⟨hk,hi,rfl,rfl⟩ | ⟨hk,hi,rfl,rfl⟩ | ⟨hk,hi,rfl,rfl⟩ | ⟨hk,hi,rfl,rfl⟩
 all_goals (first | (have e3:(K == 3)=true:=Yt (by omega)) | (have e3:(K == 3)=false:=Yf (by omega)))
 all_goals (first | (have e4:(K == 4)=true:=Yt (by omega)) | (have e4:(K == 4)=false:=Yf (by omega)))
 all_goals (first | (have e6:(K == 6)=true:=Yt (by omega)) | (have e6:(K == 6)=false:=Yf (by omega)))
 all_goals (first | (have e0:((i:Int) == 0)=true:=Yt (by omega)) | (have e0:((i:Int) == 0)=false:=Yf (by omega)) | skip)
 all_goals clear hk hK
 all_goals try clear hi
 all_goals
  go_enter Tryz.func72,Tryz.ntmps72;go_wp2_with fail;refine (HRQ.out _).mono ?_;rintro e u ⟨rfl,rfl⟩;go_wp2_with fail;go_ret;exact ⟨rfl,(Below.refl _ _).alloc (Nat.le_refl _) _⟩
end chkw
end Go.Proofs.YtcbgkbidgpemfaaGreatDoor
