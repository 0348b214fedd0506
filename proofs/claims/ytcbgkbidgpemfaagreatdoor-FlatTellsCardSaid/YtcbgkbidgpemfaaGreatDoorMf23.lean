/- The walk of decimal.right. Conditions: as each theorem states. -/
import Derived.Test.YtcbgkbidgpemfaaGreatDoorMf00
import Derived.Test.YtcbgkbidgpemfaaGreatDoorMf22
import Derived.Test.YtcbgkbidgpemfaaGreatDoorMf15
import Derived.Test.YtcbgkbidgpemfaaGreatDoorMf21
namespace Go.Proofs.YtcbgkbidgpemfaaGreatDoor
set_option maxRecDepth 100000
set_option maxHeartbeats 2000000
namespace rdf
open Go.RowKit
open bsw
open prnw
theorem ext_list (t:ByteArray) (k:Nat):(t.extract k t.size).data.toList=t.data.toList.drop k:=by
 rw [ByteArray.data_extract,Array.toList_extract];rw [List.extract_eq_take_drop,List.take_of_length_le];simp
theorem list_len (t:ByteArray):t.data.toList.length=t.size:=by simp
theorem dgs_at:∀ (l:List UInt8) (n:Nat) (_h:n<dgs l),∃ h2:n<l.length,isD l[n]=true
 | [],n,h=>absurd h (Nat.not_lt_zero _)
 | c :: l,n,h=>by
  unfold dgs at h
  by_cases hc:isD c=true
  ·rw [if_pos hc] at h
   cases n with
   | zero=>exact ⟨Nat.zero_lt_succ _,hc⟩
   | succ n =>
    obtain ⟨h2,h3⟩:=dgs_at l n (by omega);exact ⟨Nat.succ_lt_succ h2,h3⟩
  ·rw [if_neg hc] at h;exact absurd h (Nat.not_lt_zero _)
theorem dgs_end:∀ (l:List UInt8) (h:dgs l<l.length),isD l[dgs l]=false
 | [],h=>absurd h (Nat.lt_irrefl _)
 | c :: l,h=>by
  by_cases hc:isD c=true
  ·have e:dgs (c :: l)=dgs l+1:=by
    conv=>lhs; unfold dgs
    rw [if_pos hc]
   have h2:dgs l<l.length:=by
    rw [e] at h;exact Nat.lt_of_succ_lt_succ h
   have:=dgs_end l h2;simp only [e,List.getElem_cons_succ];exact this
  ·have e:dgs (c :: l)=0:=by
    conv=>lhs; unfold dgs
    rw [if_neg hc]
   simp only [e,List.getElem_cons_zero];exact Bool.eq_false_iff.2 hc
def RB (w:World) (b:Nat) (t:ByteArray) (W:World):Prop:=W.heap[b]? = some (.cells #[.string t] 9 (0,0))∧Below w.heap.size w W∧w.heap.size <= b
theorem RB.at {w W:World} {b:Nat} {t:ByteArray} (h:RB w b t W):W.cell? ⟨b,0,none⟩=some (.string t)∧W.frozen? ⟨b,0,none⟩=false:=⟨(cell_of_row W b 0 _ _ _ h.1).trans rfl,not_frozen h.1 0⟩
theorem RB.set {w W:World} {b:Nat} {t:ByteArray} (h:RB w b t W) (u:ByteArray):RB w b u (W.setCell ⟨b,0,none⟩ (.string u)) :=
 ⟨heap_set W b 0 _ _ _ _ h.1,h.2.1.grown (set_grown W b 0 _) h.2.1.size (fun k e=>by obtain rfl:=Option.some.inj e; exact h.2.2),h.2.2⟩
theorem digits_any (w:World) (b:Nat) (t:ByteArray) (hs:t.size <= 60) (W:World) (h:RB w b t W) :
  Calls Tryz.prog 161 #[.pointer (some ⟨b,0,none⟩)] W fun e W'=>e = .returned (.int .i64 ((dgs t.data.toList:Nat):Int))∧RB w b (t.extract (dgs t.data.toList) t.size) W':=by
 obtain ⟨c0,f0⟩:=h.at
 have hd:=dgs_le t.data.toList;rw [list_len] at hd;have ha:=dgs_at t.data.toList;have he:=dgs_end t.data.toList;obtain ⟨d,hdd⟩:∃ d,dgs t.data.toList=d:=⟨_,rfl⟩;rw [hdd] at hd ⊢;have H:=Yd (And.intro h (And.intro ha he));clear h ha he;have d60:(d:Int) <= 60:=by omega
 go_enter Tryz.func161,Tryz.ntmps161;go_wp2_with fail
 go_loopw [2] (fun s2 wr=>∃ n:Nat,n <= d∧s2 = .int .i64 ((n:Nat):Int)∧wr=W) (fun s2 _=>d-(intOf s2).toNat)
 case atStart=>exact ⟨0,Nat.zero_le _,rfl,rfl⟩
 case round =>
  obtain ⟨n,hn,rfl,hwr⟩:=hrel;obtain rfl:=hwr.symm;have n0:(0:Int) <= (n:Int):=by omega
  have n60:(n:Int) <= 60:=by omega
  by_cases hlt:n<d
  ·obtain ⟨h2,h3⟩:=H.out.2.1 n (by rw [hdd]; exact hlt);rw [list_len] at h2;have h4:isD t[n]=true:=h3;have h5:=(isD_iff _).1 h4;have y1:decide (n<t.size)=true:=decide_eq_true h2;have y2:decide (48 <= t[n].toNat)=true:=decide_eq_true h5.1;have y3:decide (t[n].toNat <= 57)=true:=decide_eq_true h5.2;have y5:(48:Int) <= (t[n].toNat:Int):=by omega
   have y6:(t[n].toNat:Int) <= 57:=by omega
   have HL:=Yd hlt;clear h3 h4 h5 hlt;go_wp2_with fail;exact ⟨⟨n+1,HL.out,by go_num,by first | trivial | rfl⟩,by have:=HL.out; simp only [intOf]; omega⟩
  ·have hnd:n=d:=by omega
   subst hnd;have HS:=Yd (H.out.1.set (t.extract n t.size));have n1:(n:Int) <= (t.size:Int):=by omega
   by_cases hsz:n<t.size
   ·have h6:=H.out.2.2 (by rw [hdd,list_len]; exact hsz);simp only [hdd] at h6;have h7:isD t[n]=false:=h6;have h8:¬ (48 <= t[n].toNat∧t[n].toNat <= 57):=fun h=>by
     rw [(isD_iff _).2 h] at h7
     cases h7
    have y1:decide (n<t.size)=true:=decide_eq_true hsz;have v12:(decide (48 <= t[n].toNat)=false ∧ ¬ (48:Int) <= (t[n].toNat:Int))∨(decide (48 <= t[n].toNat)=true∧(48:Int) <= (t[n].toNat:Int))∧decide (t[n].toNat <= 57)=false ∧ ¬ (t[n].toNat:Int) <= 57:=by
     by_cases hx:48 <= t[n].toNat
     ·exact .inr ⟨⟨decide_eq_true hx,by omega⟩,decide_eq_false (fun h=>h8 ⟨hx,h⟩),by omega⟩
     ·exact .inl ⟨decide_eq_false hx,by omega⟩
    clear h6 h7 h8
    rcases v12 with ⟨v1,v2⟩ | ⟨⟨v1,v2⟩,v3,v4⟩
    all_goals
     go_wp2_with fail;go_ret;exact ⟨rfl,HS.out⟩
   ·have y1:decide (n<t.size)=false:=decide_eq_false hsz;go_wp2_with fail;go_ret;exact ⟨rfl,HS.out⟩
theorem trim_45 (l:List UInt8):Lib.trimPrefix l [45]=unsg l:=by
 unfold unsg
 cases l with
 | nil=>rfl
 | cons c l =>
  by_cases h:c=45
  ·subst h;rfl
  ·rw [if_neg (by simp [h])];have h2:¬ 45=c:=fun e=>h e.symm;simp [Lib.trimPrefix,Lib.hasPrefix,List.isPrefixOf,h2]
theorem has_46 (l:List UInt8):Lib.hasPrefix l [46]=decide (l.head? = some 46):=by
 cases l with
 | nil=>rfl
 | cons c l =>
  by_cases h:c=46
  ·subst h;rfl
  ·have h2:¬ 46=c:=fun e=>h e.symm;simp [Lib.hasPrefix,List.isPrefixOf,h,h2]
theorem trim_46 (l:List UInt8) (h:l.head? = some 46):Lib.trimPrefix l [46]=l.drop 1:=by
 cases l with
 | nil=>cases h
 | cons c l =>
  obtain rfl:c=46:=by simpa using h
  rfl
def exR (l:List UInt8):List UInt8:=if l.head? = some 43∨l.head? = some 45 then l.drop 1 else l
theorem exp_cons (c:UInt8) (l:List UInt8):expB (c :: l)=((c == 101 || c == 69) && (decide (1 <= dgs (exR l)) && decide (dgs (exR l) <= 3) && decide (dgs (exR l)=(exR l).length))):=rfl
def RtPost (w:World) (b:Bool) (e:Ending) (w':World):Prop:=e = .returned (.bool b)∧Below w.heap.size w w'
theorem right_any (s:ByteArray) (w:World):Calls Tryz.prog 127 #[.string s] w (RtPost w (rightL s.data.toList)):=by
 have hlen:=list_len s
 by_cases h40:40<s.size
 ·have hr:rightL s.data.toList=false:=by
   unfold rightL;rw [if_pos (by rw [hlen]; exact h40)]
  rw [hr];have d1:decide ((40:Int)<(s.size:Int))=true:=decide_eq_true (by omega);have d2:decide (40<s.size)=true:=decide_eq_true h40;have d3:(40:Int)<(s.size:Int):=by omega
  clear hr hlen h40;go_enter Tryz.func127,Tryz.ntmps127;go_wp2_with fail;go_ret;exact ⟨rfl,(Below.refl _ w).alloc (Nat.le_refl _) _⟩
 have d2:decide (40<s.size)=false:=decide_eq_false h40;have d3:¬ (40:Int)<(s.size:Int):=by omega
 obtain ⟨q,hq⟩:∃ q,cutN (unsg s.data.toList)=q:=⟨_,rfl⟩;have hr:rightL s.data.toList=if q.1<1∨30<q.1∨q.2=[] then decide (1 <= q.1) && decide (q.1 <= 30) else expB q.2:=by
  unfold rightL;rw [if_neg (by rw [hlen]; exact h40)];simp only [hq]
 obtain ⟨b,hb⟩:∃ b,rightL s.data.toList=b:=⟨_,rfl⟩;rw [hb] at hr ⊢;have HR:=Yd hr;clear hb hr;have CT:=fun W => Tryz.strings_TrimPrefix s ⟨#[45]⟩ W;rw [show Lib.trimPrefix s.data.toList (⟨#[45]⟩:ByteArray).data.toList=unsg s.data.toList from trim_45 _] at CT;obtain ⟨U,hU⟩:∃ U:ByteArray,U=⟨(unsg s.data.toList).toArray⟩:=⟨_,rfl⟩;have hUl:U.data.toList=unsg s.data.toList:=by rw [hU]
 have hUs:U.size <= 40:=by
  rw [<- list_len U,hUl];unfold unsg
  split
  ·rw [List.length_drop,hlen]; omega
  ·rw [hlen]; omega
 rw [<- hU] at CT;rw [<- hUl] at hq;have HC:=Yd CT;have HQ:=Yd hq;clear CT hU hUl hq hlen;obtain ⟨W0,hW0⟩:∃ W0,W0=w.alloc (.cells #[.string s] 9):=⟨_,rfl⟩;have hRB:RB w w.heap.size s W0:=by
  rw [hW0];exact ⟨heap_at w _ _ rfl,(Below.refl _ w).alloc (Nat.le_refl _) _,Nat.le_refl _⟩
 obtain ⟨f0,f1⟩:=hRB.at
 go_enter Tryz.func127,Tryz.ntmps127;go_upto_region 1 with (fail);rw [<- hW0];obtain ⟨B,hB⟩:∃ B,w.heap.size=B:=⟨_,rfl⟩;rw [hB] at hRB f0 f1 ⊢;have HRB:=Yd hRB;clear hW0 hRB;go_upto_region 4 with (fail);have HS1:=Yd (HRB.out.set U);have CD:=fun W h=>digits_any w B U (by omega) W h;obtain ⟨n1,hn1⟩:∃ n1,dgs U.data.toList=n1:=⟨_,rfl⟩;rw [hn1] at CD;have hn1s:n1 <= 40:=by
  have:=dgs_le U.data.toList;rw [list_len] at this;omega
 have HD:=Yd CD;clear CD;obtain ⟨U1,hU1⟩:∃ U1,U.extract n1 U.size=U1:=⟨_,rfl⟩;have hU1l:U1.data.toList=U.data.toList.drop n1:=by rw [<- hU1,ext_list]
 have hU1s:U1.size <= 40:=by
  rw [<- list_len U1,hU1l,List.length_drop,list_len];omega
 have hsz:n1+U1.size <= 40:=by
  rw [<- list_len U1,hU1l,List.length_drop,list_len];have:=dgs_le U.data.toList;rw [hn1,list_len] at this;omega
 rw [hU1] at HD;have CP:=fun W => Tryz.strings_CutPrefix U1 ⟨#[46]⟩ W;rw [show (⟨#[46]⟩:ByteArray).data.toList=[46] from rfl,has_46] at CP;obtain ⟨T2,hT2⟩:∃ T2:ByteArray,T2=⟨(Lib.trimPrefix U1.data.toList [46]).toArray⟩:=⟨_,rfl⟩;rw [<- hT2] at CP;obtain ⟨pd,hpd⟩:∃ pd,decide (U1.data.toList.head? = some 46)=pd:=⟨_,rfl⟩;rw [hpd] at CP;have hT2l:pd=true -> T2.data.toList=U1.data.toList.drop 1:=fun h=>by
  rw [hT2];exact trim_46 _ (of_decide_eq_true (hpd.trans h))
 have HP:=Yd CP;have HT:=Yd (And.intro hpd (And.intro hU1l (And.intro hT2l hn1)));clear CP hT2 hpd hT2l hU1 hU1l hn1;go_upto_region 5 with (go_at_call 162; (with_reducible refine (HC.out _).mono ?_); rintro e w' ⟨rfl,hw'⟩; obtain rfl:=hw'.symm);go_upto_region 6 with (go_at_call 161; (with_reducible refine (HD.out _ HS1.out).mono ?_); rintro e w1 ⟨rfl,hw1⟩; have HS2:=Yd hw1; clear hw1);obtain ⟨g0,g1⟩:=HS2.out.at
 go_upto_region 7 with (go_at_call 163; (with_reducible refine (HP.out _).mono ?_); rintro e w' ⟨rfl,hw'⟩; obtain rfl:=hw'.symm);go_upto_if 21 with (fail)
 go_cut [4,6,16,18,20,21] from 22 to 26 (fun s4 s6 s16 s18 s20 s21 wx=>s4 = .int .i64 ((q.1:Nat):Int)∧q.1 <= 40 ∧ ∃ T:ByteArray,T.data.toList=q.2∧T.size <= 40∧RB w B T wx)
 case first =>
  have hq:=HQ.out;obtain ⟨t1,t2,t3,t4⟩:=HT.out;unfold cutN at hq;simp only [t4] at hq;rw [<- t2] at hq
  cases pd with
  | false =>
   rw [if_neg (of_decide_eq_false t1)] at hq;have hq1:q.1=n1:=by rw [<- hq]
   have hq2:q.2=U1.data.toList:=by rw [<- hq]
   have HQ2:=Yd (And.intro hq1 hq2);clear hq hq1 hq2 t1 t2 t3 t4 HQ HT;go_wp2_with fail;go_meet;exact ⟨by rw [HQ2.out.1],by rw [HQ2.out.1]; exact hn1s,U1,HQ2.out.2.symm,hU1s,HS2.out⟩
  | true =>
   rw [if_pos (of_decide_eq_true t1),<- t3 rfl] at hq;have hT2s:T2.size <= 40:=by
    rw [<- list_len T2,t3 rfl,List.length_drop,list_len];omega
   have hn2:=dgs_le T2.data.toList;rw [list_len] at hn2;have CD2:=fun W h=>digits_any w B T2 (by omega) W h;obtain ⟨n2,hn2d⟩:∃ n2,dgs T2.data.toList=n2:=⟨_,rfl⟩;rw [hn2d] at CD2 hq hn2;have hq1:q.1=n1+n2:=by rw [<- hq]
   have hq2:q.2=(T2.extract n2 T2.size).data.toList:=by rw [<- hq,ext_list]
   have hsum:n1+n2 <= 40:=by
    have e2:T2.size=U1.size-1:=by rw [<- list_len T2,t3 rfl,List.length_drop,list_len]
    omega
   have n10:(0:Int) <= (n1:Int):=by omega
   have n20:(0:Int) <= (n2:Int):=by omega
   have n1b:(n1:Int) <= 40:=by omega
   have n2b:(n2:Int) <= 40:=by omega
   have HQ2:=Yd (And.intro hq1 (And.intro hq2 (And.intro hsum hT2s)));have HS3:=Yd (HS2.out.set T2);have HD2:=Yd CD2;clear hq hq1 hq2 t1 t2 t3 t4 HQ HT hsum hT2s hn2 hn2d CD2;go_upto_region 9 with (fail);go_wp2_with (go_at_call 161; (with_reducible refine (HD2.out _ HS3.out).mono ?_); rintro e w3 ⟨rfl,hw3⟩; have HS4:=Yd hw3; clear hw3);go_meet;refine ⟨?_,by rw [HQ2.out.1]; exact HQ2.out.2.2.1,_,HQ2.out.2.1.symm,?_,HS4.out⟩
   ·rw [HQ2.out.1];exact congrArg (Value.int IntKind.i64) (by omega)
   ·rw [ByteArray.size_extract];have:=HQ2.out.2.2.2;omega
 case rest =>
  obtain ⟨rfl,hq40,T,hTl,hTs,hRT⟩:=hcut;clear HQ HT HP HD HS1 HS2 g0 g1 f0 f1 HC HRB hU1s hn1s;obtain ⟨c0,c1⟩:=hRT.at
  obtain ⟨N,hN⟩:∃ N,q.1=N:=⟨_,rfl⟩;obtain ⟨R,hR⟩:∃ R,q.2=R:=⟨_,rfl⟩;have hbv:=HR.out;rw [hN,hR] at hbv;rw [hR] at hTl;rw [hN] at hq40 ⊢;clear HR hN hR;have n0:(0:Int) <= (N:Int):=by omega
  have n40:(N:Int) <= 40:=by omega
  have HRT:=Yd hRT
  by_cases hA:1 <= N
  ·have a1:decide (N<1)=false:=decide_eq_false (by omega);have a2:decide (1 <= N)=true:=decide_eq_true hA;have a3:¬ (N:Int)<1:=by omega
   have a4:(1:Int) <= (N:Int):=by omega
   by_cases hB30:30<N
   ·have b1:decide (30<N)=true:=decide_eq_true hB30;have b2:(30:Int)<(N:Int):=by omega
    have b3:decide (N <= 30)=false:=decide_eq_false (by omega);have b4:¬ (N:Int) <= 30:=by omega
    rw [if_pos (.inr (.inl hB30)),a2,b3] at hbv;subst hbv;clear hA hB30 hRT;go_wp2_with fail;go_ret;exact ⟨rfl,HRT.out.2.1⟩
   ·have b1:decide (30<N)=false:=decide_eq_false hB30;have b2:¬ (30:Int)<(N:Int):=by omega
    have b3:decide (N <= 30)=true:=decide_eq_true (by omega);have b4:(N:Int) <= 30:=by omega
    by_cases hE:R=[]
    ·rw [if_pos (.inr (.inr hE)),a2,b3] at hbv;have hT0:T=ByteArray.empty:=by
      apply ByteArray.ext;apply Array.ext';rw [hTl,hE];rfl
     subst hbv;subst hT0;clear hA hB30 hRT;go_wp2_with fail;go_ret;exact ⟨rfl,HRT.out.2.1⟩
    ·rw [if_neg (fun h=>h.elim (fun h=>absurd h (by omega)) (fun h=>h.elim (fun h=>absurd h (by omega)) hE))] at hbv
     cases R with
     | nil=>exact absurd rfl hE
     | cons c l =>
      have hT0:0<T.size:=by rw [<- list_len T,hTl]; exact Nat.zero_lt_succ _
      have hem:T.toList.isEmpty=false:=by rw [ByteArray.toList_eq,hTl]; rfl
      have hTc:T[0]=c:=by
       have:T.data.toList[0]'(by rw [list_len]; exact hT0)=c:=by simp only [hTl,List.getElem_cons_zero]
       exact this
      have hle:=low_e T[0];have hce:(c == 101 || c == 69)=(decide (T[0].toNat=69) || decide (T[0].toNat=101)):=by
       rw [hTc,Bool.or_comm];congr 1
       ·by_cases h:c=69
        ·rw [h]; rfl
        ·rw [beq_eq_false_iff_ne.2 h,decide_eq_false (fun h2=>h ((u8_eq c 69 (by decide)).2 h2))]
       ·by_cases h:c=101
        ·rw [h]; rfl
        ·rw [beq_eq_false_iff_ne.2 h,decide_eq_false (fun h2=>h ((u8_eq c 101 (by decide)).2 h2))]
      rw [exp_cons,hce,<- hle] at hbv
      by_cases hee:(bits BinOp.or IntKind.u8 (T[0].toNat:Int) 32 == 101)=true
      ·have z1:(bits BinOp.or IntKind.u8 (T[0].toNat:Int) 32 != 101)=false:=by rw [bne,hee]; rfl
       rw [hee,Bool.true_and] at hbv;obtain ⟨T1,hT1⟩:∃ T1,T.extract 1 T.size=T1:=⟨_,rfl⟩;have hT1l:T1.data.toList=l:=by rw [<- hT1,ext_list,hTl]; rfl
       have hT1s:T1.size <= 39:=by
        have e1:=list_len T;rw [hTl,List.length_cons] at e1;rw [<- list_len T1,hT1l];omega
       have HS1:=Yd (HRT.out.set T1);have HT1:=Yd (And.intro hT1l hT1s);have HB:=Yd hbv;have one1:(1:Int) <= (T.size:Int):=by omega
       clear hTl hTc hle hce hbv hee hRT hT1l hT1s;go_upto_region 15 with (fail);clear one1 hem hT1 z1 c0 c1;obtain ⟨c0,c1⟩:=HS1.out.at
       obtain ⟨sg,hsg⟩:∃ sg,sg=decide (l.head? = some 43∨l.head? = some 45):=⟨_,rfl⟩;have HG:=Yd hsg
       go_cut [60] from 49 to 59 (fun s60 wx=>s60 = .bool sg ∧ ∃ T3:ByteArray,T3.data.toList=l∧T3.size <= 39∧RB w B T3 wx)
       case first =>
        obtain ⟨u1,u2⟩:=HT1.out
        cases l with
        | nil =>
         have he:T1.toList.isEmpty=true:=by rw [ByteArray.toList_eq,u1]; rfl
         have hs0:sg=false:=by rw [hsg]; decide
         subst hs0;clear u1 u2 hsg;go_wp2_with fail;go_meet;exact ⟨rfl,T1,HT1.out.1,HT1.out.2,HS1.out⟩
        | cons c1 l1 =>
         have he:T1.toList.isEmpty=false:=by rw [ByteArray.toList_eq,u1]; rfl
         have h0:0<T1.size:=by rw [<- list_len T1,u1]; exact Nat.zero_lt_succ _
         have hc1:T1[0]=c1:=by
          have:T1.data.toList[0]'(by rw [list_len]; exact h0)=c1:=by simp only [u1,List.getElem_cons_zero]
          exact this
         rw [List.head?_cons] at hsg
         by_cases h43:c1.toNat=43
         ·have y1:((T1[0].toNat:Int) == 43)=true:=by rw [hc1,beq_iff_eq]; omega
          have hs0:sg=true:=by rw [hsg,(u8_eq c1 43 (by decide)).2 h43]; decide
          subst hs0;clear u1 u2 hsg hc1;go_wp2_with fail;go_meet;exact ⟨rfl,T1,HT1.out.1,HT1.out.2,HS1.out⟩
         ·have y1:((T1[0].toNat:Int) == 43)=false:=by rw [hc1,beq_eq_false_iff_ne]; omega
          have n43:¬ some c1=some 43:=fun h=>h43 ((u8_eq c1 43 (by decide)).1 (Option.some.inj h))
          by_cases h45:c1.toNat=45
          ·have y2:((T1[0].toNat:Int) == 45)=true:=by rw [hc1,beq_iff_eq]; omega
           have hs0:sg=true:=by rw [hsg,(u8_eq c1 45 (by decide)).2 h45]; decide
           subst hs0;clear u1 u2 hsg hc1 n43;go_wp2_with fail;go_meet;exact ⟨rfl,T1,HT1.out.1,HT1.out.2,HS1.out⟩
          ·have y2:((T1[0].toNat:Int) == 45)=false:=by rw [hc1,beq_eq_false_iff_ne]; omega
           have n45:¬ some c1=some 45:=fun h=>h45 ((u8_eq c1 45 (by decide)).1 (Option.some.inj h));have hs0:sg=false:=by rw [hsg]; exact decide_eq_false (fun h=>h.elim n43 n45)
           subst hs0;clear u1 u2 hsg hc1 n43 n45;go_wp2_with fail;go_meet;exact ⟨rfl,T1,HT1.out.1,HT1.out.2,HS1.out⟩
       case rest =>
        clear HS1 HT1 c0 c1;obtain ⟨rfl,T3,k1,k2,k3⟩:=hcut;obtain ⟨c0,c1⟩:=k3.at
        go_upto_if 60 with (fail)
        go_cut [60] from 61 to 62 (fun s60 wx=>∃ T4:ByteArray,T4.data.toList=exR l∧T4.size <= 39∧RB w B T4 wx)
        case first =>
         cases sg with
         | false =>
          have hx:exR l=l:=if_neg (of_decide_eq_false hsg.symm);have H4:=Yd (And.intro hx (And.intro k1 (And.intro k2 k3)));clear hx k1 k2 k3 hsg;go_wp2_with fail;go_meet;exact ⟨T3,by rw [H4.out.1]; exact H4.out.2.1,H4.out.2.2.1,H4.out.2.2.2⟩
         | true =>
          have hx:exR l=l.drop 1:=if_pos (of_decide_eq_true hsg.symm);have one1:(1:Int) <= (T3.size:Int):=by
           rw [<- list_len T3,k1];have:=of_decide_eq_true hsg.symm
           cases l with
           | nil=>rcases this with h | h <;> cases h
           | cons c1 l1=>rw [List.length_cons]; omega
          obtain ⟨T4,hT4⟩:∃ T4,T3.extract 1 T3.size=T4:=⟨_,rfl⟩;have hT4l:T4.data.toList=exR l:=by rw [<- hT4,ext_list,k1,hx]
          have hT4s:T4.size <= 39:=by
           rw [<- list_len T4,hT4l,hx,List.length_drop,<- k1,list_len];omega
          have HS4:=Yd (And.intro hT4l (And.intro hT4s (k3.set T4)));clear hx k1 k2 k3 hsg hT4l hT4s;go_wp2_with fail;go_meet;exact ⟨T4,HS4.out.1,HS4.out.2.1,HS4.out.2.2⟩
        case rest =>
         clear k1 k2 k3 c0 c1 hsg;obtain ⟨T4,k1,k2,k3⟩:=hcut;have CD4:=fun W h=>digits_any w B T4 (by omega) W h;have hb4:=HB.out;rw [<- k1] at hb4;have hd4:=dgs_le T4.data.toList;rw [list_len] at hb4 hd4;obtain ⟨n4,hn4⟩:∃ n4,dgs T4.data.toList=n4:=⟨_,rfl⟩;rw [hn4] at CD4 hb4 hd4;have n40:(0:Int) <= (n4:Int):=by omega
         have hem:(T4.extract n4 T4.size).toList.isEmpty=decide (n4=T4.size):=by
          rw [ByteArray.toList_eq,ext_list]
          by_cases h:n4=T4.size
          ·rw [decide_eq_true h,List.drop_eq_nil_of_le (by rw [list_len]; omega)];rfl
          ·rw [decide_eq_false h]
           cases hl:T4.data.toList.drop n4 with
           | nil =>
            have:=congrArg List.length hl;rw [List.length_drop,list_len] at this;simp at this;omega
           | cons _ _=>rfl
         obtain ⟨T5,hT5⟩:∃ T5,T4.extract n4 T4.size=T5:=⟨_,rfl⟩;rw [hT5] at CD4 hem;have HD4:=Yd CD4;have HS4:=Yd k3
         by_cases h1:1 <= n4
         ·have y1:decide (1 <= n4)=true:=decide_eq_true h1;have y1':(1:Int) <= (n4:Int):=by omega
          by_cases h3:n4 <= 3
          ·have y2:decide (n4 <= 3)=true:=decide_eq_true h3;have y2':(n4:Int) <= 3:=by omega
           rw [y1,y2,Bool.true_and,Bool.true_and,<- hem] at hb4;obtain ⟨em,he2⟩:∃ em,T5.toList.isEmpty=em:=⟨_,rfl⟩;rw [he2] at hb4;subst hb4;clear CD4 k1 k2 k3 hd4 hn4 hem hT5 h1 h3 HB HG;go_wp2_with (go_at_call 161; (with_reducible refine (HD4.out _ HS4.out).mono ?_); rintro e w5 ⟨rfl,hw5⟩; have HS5:=Yd hw5; obtain ⟨g0,g1⟩:=hw5.at; clear hw5);go_ret;exact ⟨rfl,HS5.out.2.1⟩
          ·have y2:decide (n4 <= 3)=false:=decide_eq_false h3;have y2':¬ (n4:Int) <= 3:=by omega
           rw [y2,Bool.and_false,Bool.false_and] at hb4;subst hb4;clear CD4 k1 k2 k3 hd4 hn4 hem hT5 h1 h3 HB HG;go_wp2_with (go_at_call 161; (with_reducible refine (HD4.out _ HS4.out).mono ?_); rintro e w5 ⟨rfl,hw5⟩; have HS5:=Yd hw5; obtain ⟨g0,g1⟩:=hw5.at; clear hw5);go_ret;exact ⟨rfl,HS5.out.2.1⟩
         ·have y1:decide (1 <= n4)=false:=decide_eq_false h1;have y1':¬ (1:Int) <= (n4:Int):=by omega
          rw [y1,Bool.false_and,Bool.false_and] at hb4;subst hb4;clear CD4 k1 k2 k3 hd4 hn4 hem hT5 h1 HB HG;go_wp2_with (go_at_call 161; (with_reducible refine (HD4.out _ HS4.out).mono ?_); rintro e w5 ⟨rfl,hw5⟩; have HS5:=Yd hw5; obtain ⟨g0,g1⟩:=hw5.at; clear hw5);go_ret;exact ⟨rfl,HS5.out.2.1⟩
      ·have hee2:=Bool.eq_false_iff.2 hee;have z1:(bits BinOp.or IntKind.u8 (T[0].toNat:Int) 32 != 101)=true:=by rw [bne,hee2]; rfl
       rw [hee2,Bool.false_and] at hbv;subst hbv;clear hTl hTc hle hce hee hee2 hRT;go_wp2_with fail;go_ret;exact ⟨rfl,HRT.out.2.1⟩
  ·have a1:decide (N<1)=true:=decide_eq_true (by omega);have a2:decide (1 <= N)=false:=decide_eq_false hA;have a3:(N:Int)<1:=by omega
   have a4:¬ (1:Int) <= (N:Int):=by omega
   rw [if_pos (.inl (by omega)),a2,Bool.false_and] at hbv;subst hbv;clear hA hRT;go_wp2_with fail;go_ret;exact ⟨rfl,HRT.out.2.1⟩
end rdf

/- strconv's multiprecision decimal in memory; the walk of trim. Conditions: as each theorem states. -/
namespace dcw
open Go.RowKit
open bsw
open prnw
open dmx
def DM (w:World) (a:Nat) (f:Nat -> Nat) (nd dp:Int) (neg:Bool):Prop :=
 ∃ cs:Array Value,w.heap[a]? = some (.cells cs 231 (0,0))∧(∀ j,j<800 -> cs[j]? = some (.int .u8 (f j:Nat)))∧cs[800]? = some (.int .i64 nd)∧cs[801]? = some (.int .i64 dp)∧cs[802]? = some (.bool neg)∧cs[803]? = some (.bool false)
variable {w:World} {a:Nat} {f:Nat -> Nat} {nd dp:Int} {neg:Bool}
theorem DM.dig (h:DM w a f nd dp neg) (j:Nat) (hj:j<800):w.cell? ⟨a,j,none⟩=some (.int .u8 (f j:Nat)):=by
 obtain ⟨cs,h0,h1,_⟩:=h;exact (cell_of_row w a j _ _ _ h0).trans (h1 j hj)
theorem DM.cnd (h:DM w a f nd dp neg):w.cell? ⟨a,800,none⟩=some (.int .i64 nd):=by
 obtain ⟨cs,h0,_,h1,_⟩:=h;exact (cell_of_row w a _ _ _ _ h0).trans h1
theorem DM.cdp (h:DM w a f nd dp neg):w.cell? ⟨a,801,none⟩=some (.int .i64 dp):=by
 obtain ⟨cs,h0,_,_,h1,_⟩:=h;exact (cell_of_row w a _ _ _ _ h0).trans h1
theorem DM.cng (h:DM w a f nd dp neg):w.cell? ⟨a,802,none⟩=some (.bool neg):=by
 obtain ⟨cs,h0,_,_,_,h1,_⟩:=h;exact (cell_of_row w a _ _ _ _ h0).trans h1
theorem DM.ctr (h:DM w a f nd dp neg):w.cell? ⟨a,803,none⟩=some (.bool false):=by
 obtain ⟨cs,h0,_,_,_,_,h1⟩:=h;exact (cell_of_row w a _ _ _ _ h0).trans h1
theorem DM.fr (h:DM w a f nd dp neg) (j:Nat):w.frozen? ⟨a,j,none⟩=false:=by
 obtain ⟨cs,h0,_⟩:=h;exact not_frozen h0 j
theorem DM.lt (h:DM w a f nd dp neg):a<w.heap.size:=by
 obtain ⟨cs,h0,_⟩:=h;exact (Array.getElem?_eq_some_iff.1 h0).1
theorem set_at {cs:Array Value} {j:Nat} {u:Value} (h:cs[j]? = some u) (v:Value) (i:Nat):(cs.setIfInBounds j v)[i]? = if i=j then some v else cs[i]?:=by
 have hl:=(Array.getElem?_eq_some_iff.1 h).1;rw [Array.getElem?_setIfInBounds]
 by_cases e:j=i
 ·rw [if_pos e,if_pos hl,if_pos e.symm]
 ·rw [if_neg e,if_neg (fun x=>e x.symm)]
theorem DM.drewN (h:DM w a f nd dp neg) (q:Nat):DM (w.drewN q) a f nd dp neg:=by
 obtain ⟨cs,h0,h⟩:=h;exact ⟨cs,h0,h⟩
theorem grown_drewN {w wr:World} {a:Nat} (h:w.grownBy wr (some a)) (q:Nat):w.grownBy (wr.drewN q) (some a):=⟨h.os,h.tape,h.output,h.size,h.block⟩
def upd (f:Nat -> Nat) (j d:Nat):Nat -> Nat:=fun i=>if i=j then d else f i
theorem upd_at (f:Nat -> Nat) (j d:Nat):upd f j d j=d:=if_pos rfl
theorem upd_ne (f:Nat -> Nat) (j d i:Nat) (h:i≠j):upd f j d i=f i:=if_neg h
theorem DM.sdig (h:DM w a f nd dp neg) (j d:Nat) (hj:j<800):DM (w.setCell ⟨a,j,none⟩ (.int .u8 (d:Nat))) a (upd f j d) nd dp neg:=by
 obtain ⟨cs,h0,h1,h2,h3,h4,h5⟩:=h;refine ⟨_,heap_set w a j _ _ _ _ h0,fun i hi => ?_,?_,?_,?_,?_⟩
 ·rw [set_at (h1 j hj)];unfold upd
  split
  ·rfl
  ·exact h1 i hi
 ·rw [set_at (h1 j hj),if_neg (by omega)]; exact h2
 ·rw [set_at (h1 j hj),if_neg (by omega)]; exact h3
 ·rw [set_at (h1 j hj),if_neg (by omega)]; exact h4
 ·rw [set_at (h1 j hj),if_neg (by omega)]; exact h5
theorem DM.snd (h:DM w a f nd dp neg) (n:Int):DM (w.setCell ⟨a,800,none⟩ (.int .i64 n)) a f n dp neg:=by
 obtain ⟨cs,h0,h1,h2,h3,h4,h5⟩:=h;refine ⟨_,heap_set w a 800 _ _ _ _ h0,fun i hi => ?_,?_,?_,?_,?_⟩
 ·rw [set_at h2,if_neg (by omega)]; exact h1 i hi
 ·rw [set_at h2,if_pos rfl]
 ·rw [set_at h2,if_neg (by omega)]; exact h3
 ·rw [set_at h2,if_neg (by omega)]; exact h4
 ·rw [set_at h2,if_neg (by omega)]; exact h5
theorem DM.sdp (h:DM w a f nd dp neg) (n:Int):DM (w.setCell ⟨a,801,none⟩ (.int .i64 n)) a f nd n neg:=by
 obtain ⟨cs,h0,h1,h2,h3,h4,h5⟩:=h;refine ⟨_,heap_set w a 801 _ _ _ _ h0,fun i hi => ?_,?_,?_,?_,?_⟩
 ·rw [set_at h3,if_neg (by omega)]; exact h1 i hi
 ·rw [set_at h3,if_neg (by omega)]; exact h2
 ·rw [set_at h3,if_pos rfl]
 ·rw [set_at h3,if_neg (by omega)]; exact h4
 ·rw [set_at h3,if_neg (by omega)]; exact h5
def Dg (f:Nat -> Nat) (N n:Nat):Prop:=∀ j,j<n -> f j=48+N / 10 ^ (n-1-j) % 10
def TrPost (w:World) (a:Nat) (f:Nat -> Nat) (N n:Nat) (dp:Int) (neg:Bool) (e:Ending) (w':World):Prop :=
 e = .returned (.tuple #[])∧DM w' a f ((trN N n).2:Nat) dp neg∧w.grownBy w' (some a)
def TrRel (w:World) (a:Nat) (f:Nat -> Nat) (N n:Nat) (dp:Int) (neg:Bool) (g:Nat) (wr:World):Prop :=
 ∃ M m,m <= n∧m <= g∧0<M∧M<10 ^ m∧trN M m=trN N n∧Dg f M m∧DM wr a f (m:Nat) dp neg∧w.grownBy wr (some a)
theorem dg_tail {f:Nat -> Nat} {M m:Nat} (h:Dg f M (m+1)):Dg f (M / 10) m:=fun j hj=>by
 rw [h j (by omega),Nat.div_div_eq_div_mul];have e:10*10 ^ (m-1-j)=10 ^ (m+1-1-j):=by
  rw [show m+1-1-j=m-1-j+1 by omega,Nat.pow_succ,Nat.mul_comm]
 rw [e]
theorem trim_any (a:Nat) (f:Nat -> Nat) (N n:Nat) (dp:Int) (neg:Bool) (w:World) (hN0:0<N) (hN:N<10 ^ n) (hn:n <= 800) (hd:Dg f N n) (h:DM w a f (n:Nat) dp neg) :
  Calls Tryz.prog 228 #[.pointer (some ⟨a,0,none⟩)] w (TrPost w a f N n dp neg):=by
 have HS:=Yd (show TrRel w a f N n dp neg n w from ⟨N,n,Nat.le_refl _,Nat.le_refl _,hN0,hN,rfl,hd,h,⟨rfl,rfl,rfl,Nat.le_refl _,fun _ _ _=>rfl⟩⟩);clear hN0 hN hd h;go_enter Tryz.func228,Tryz.ntmps228;go_wp2_with fail
 go_loopg [] n (fun gk wr=>TrRel w a f N n dp neg gk wr)
 case atStart=>exact HS.out
 case round =>
  obtain ⟨M,m,hmn,hmg,hM0,hM,ht,hdg,hD,hg⟩:=hrel;have c1:=hD.cnd;have c2:=hD.fr 800
  cases m with
  | zero=>simp at hM; omega
  | succ m =>
   have c3:=hD.dig m (by omega);have hlast:=hdg m (Nat.lt_succ_self m);rw [show m+1-1-m=0 by omega,Nat.pow_zero,Nat.div_one] at hlast;have hset:∀ q,DM ((wr.drewN q).setCell ⟨a,800,none⟩ (.int .i64 (m:Nat))) a f (m:Nat) dp neg∧w.grownBy ((wr.drewN q).setCell ⟨a,800,none⟩ (.int .i64 (m:Nat))) (some a)∧DM (wr.drewN q) a f ((m+1:Nat):Int) dp neg:=fun q =>
    ⟨(hD.drewN q).snd _,grown_trans (grown_drewN hg q) (set_grown _ a 800 _),hD.drewN q⟩
   have ec:((m+1:Nat):Int)=(m:Int)+1:=by omega
   rw [ec] at c1;have et:trN M (m+1)=if M % 10=0 then trN (M / 10) m else (M,m+1):=rfl;obtain ⟨b,hb⟩:∃ b,f m=b:=⟨_,rfl⟩;rw [hb] at c3 hlast;have hm8:m<800:=by omega
   have k1:IntKind.i64.wrap ((m:Int)+1-1)=(m:Int):=by rw [show (m:Int)+1-1=(m:Int) by omega]; exact IntWalk.i64_in _ (by omega)
   have k2:(0:Int) <= (m:Int):=by omega
   have k3:(m:Int)<800:=by omega
   have k4:(0:Int)<(m:Int)+1:=by omega
   by_cases h0:M % 10=0
   ·rw [if_pos h0] at et;have hb48:((b:Int) == 48)=true:=Yt (by omega)
    have HR:=Yd (fun q=>show TrRel w a f N n dp neg m ((wr.drewN q).setCell ⟨a,800,none⟩ (.int .i64 (m:Nat))) from ⟨M / 10,m,by omega,Nat.le_refl _,by omega,by rw [Nat.pow_succ] at hM; omega,by rw [<- et]; exact ht,dg_tail hdg,(hset q).1,(hset q).2.1⟩);have HD:=Yd hD;clear hdg hM hM0 ht hlast hD hg hset ec et hb h0;go_wp2_with fail;go_quiet (fail);have HC:=Yd (And.intro (HD.out.drewN nq).cnd ((HD.out.drewN nq).fr 800));go_wp2_with ((with_reducible refine wl_pre ?_); (refine wl_set_i64 rfl (.tmp 26) (.tmp 24) rfl a 800 _ _ rfl rfl HC.out.1 HC.out.2 ?_); (simp only [Act.put]))
    go_roundg m
    case measure=>omega
    case rel=>exact HR.out nq
   ·rw [if_neg h0] at et;have hb48:((b:Int) == 48)=false:=Yf (by omega)
    have HR:=Yd (fun q=>show TrPost w a f N n dp neg (.returned (.tuple #[])) (wr.drewN q) from ⟨rfl,by rw [<- ht,et]; exact (hset q).2.2,grown_drewN hg q⟩);have k5:((m:Int)+1 == 0)=false:=Yf (by omega)
    clear hdg hM hM0 ht hlast hD hg hset ec et hb h0;go_wp2_with fail;go_quiet (fail);go_wp2_with fail
    go_end0
    exact HR.out nq
end dcw

/- The walk of strconv's prefixIsLessThan. Conditions: as the theorem states. -/
namespace dcw
open Go.RowKit
open bsw
open prnw
open dmx
def Tx (s:ByteArray) (C c:Nat):Prop:=s.size=c ∧ ∀ j (h:j<s.size),s[j].toNat=48+C / 10 ^ (c-1-j) % 10
def LsPost (w:World) (b:Bool) (e:Ending) (w':World):Prop:=e = .returned (.bool b) ∧ ∃ q,w'=w.drewN q
theorem less_any (a:Nat) (f:Nat -> Nat) (N n C c:Nat) (dp:Int) (neg:Bool) (s:ByteArray) (w:World) (hN:N<10 ^ n) (hn:n <= 800) (hd:Dg f N n) (h:DM w a f (n:Nat) dp neg)
  (hC:C<10 ^ c) (_hc:c <= 100) (hm:C % 10≠0) (hs:Tx s C c) :
  Calls Tryz.prog 242 #[.slice (some ⟨a,0,none⟩) n 800,.string s] w (LsPost w (lessB N n C c)):=by
 have HD:=Yd h;have HG:=Yd hd;have HX:=Yd hs;have h00:preN N n 0=preN C c 0:=by rw [pre_zero hN,pre_zero hC]
 have H0:=Yd h00;have HM:=Yd hm;have HZ:=Yd hs.1;clear h hd hs hN hC hm h00;go_enter Tryz.func242,Tryz.ntmps242;go_wp2_with fail
 go_loopw [5] (fun i wr=>∃ k q:Nat,k <= c∧k <= n∧i = .int .i64 k∧preN N n k=preN C c k∧wr=w.drewN q) (fun i _=>c-(intOf i).toNat)
 case atStart=>exact ⟨0,0,Nat.zero_le _,Nat.zero_le _,rfl,H0.out,rfl⟩
 case round =>
  obtain ⟨k,q,hkc,hkn,rfl,hp,rfl⟩:=hrel;have HP:=Yd hp;have hsz:=HZ.out;clear hp
  by_cases h1:k<c
  ·have d1:decide (k<s.size)=true:=by rw [hsz]; exact decide_eq_true h1
   have d1':k<s.size:=by omega
   by_cases h2:k<n
   ·have c3:=HD.out.dig k (by omega);have hx:=HG.out k h2;have hy:=HX.out.2 k d1';rw [<- dg_usual h2] at hx;rw [<- dg_usual h1] at hy;obtain ⟨x,hx2⟩:∃ x,f k=x:=⟨_,rfl⟩;rw [hx2] at c3 hx;have d2':decide (n <= k)=false:=decide_eq_false (by omega);have k1:(k:Int)<800:=by omega
    have k2:k<n:=h2
    rcases Nat.lt_trichotomy x s[k].toNat with hl | he | hg
    ·have hless:lessB N n C c=true:=less_lt HP.out (by omega);have e1:((x:Int) != (s[k].toNat:Int))=true:=by rw [bne_iff_ne]; omega
     have e2:decide (x<s[k].toNat)=true:=decide_eq_true hl;have HL:=Yd hless;clear hx hx2 hy hless hsz hl;go_wp2_with fail;go_quiet (fail);go_wp2_with fail;go_quiet (fail);go_wp2_with fail;go_ret;exact ⟨by rw [HL.out]; rfl,_,by rw [World.drewN_drewN,World.drewN_drewN]⟩
    ·have e1:((x:Int) != (s[k].toNat:Int))=false:=by rw [bne_eq_false_iff_eq]; omega
     have hnext:preN N n (k+1)=preN C c (k+1):=by
      rw [pre_succ,pre_succ,HP.out];omega
     have HE:=Yd hnext;clear hx hx2 hy he hsz hnext;go_wp2_with fail;go_quiet (fail);go_wp2_with fail;exact ⟨⟨k+1,q+nq,h1,h2,by go_num,HE.out,rfl⟩,by simp [intOf]; omega⟩
    ·have hless:lessB N n C c=false:=less_gt HP.out (by omega);have e1:((x:Int) != (s[k].toNat:Int))=true:=by rw [bne_iff_ne]; omega
     have e2:decide (x<s[k].toNat)=false:=decide_eq_false (by omega);have HL:=Yd hless;clear hx hx2 hy hless hsz hg;go_wp2_with fail;go_quiet (fail);go_wp2_with fail;go_quiet (fail);go_wp2_with fail;go_ret;exact ⟨by rw [HL.out]; rfl,_,by rw [World.drewN_drewN,World.drewN_drewN]⟩
   ·have hnk:n=k:=by omega
    have d2':decide (n <= k)=true:=decide_eq_true (by omega);have d3:n <= k:=by omega
    have hless:lessB N n C c=true:=less_out (by rw [hnk]; have:=HP.out; rw [hnk] at this; exact this) (by omega) HM.out;have HL:=Yd hless;clear hless hsz hnk;go_wp2_with fail;go_ret;exact ⟨by rw [HL.out]; rfl,q,rfl⟩
  ·have hkc2:k=c:=by omega
   have d1:decide (k<s.size)=false:=decide_eq_false (by omega);have d1':¬ k<s.size:=by omega
   have hless:lessB N n C c=false:=less_end (by rw [<- hkc2]; rw [hkc2]; have:=HP.out; rw [hkc2] at this; exact this);have HL:=Yd hless;clear hless hsz hkc2 h1;go_wp2_with fail;go_ret;exact ⟨by rw [HL.out]; rfl,q,rfl⟩
end dcw
end Go.Proofs.YtcbgkbidgpemfaaGreatDoor
