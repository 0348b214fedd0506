/- The walk of strconv's readFloat. Conditions: as the theorem states. -/
import Derived.Test.YtcbgkbidgpemfaaGreatDoorMf00
import Derived.Test.YtcbgkbidgpemfaaGreatDoorMf21
import Derived.Test.YtcbgkbidgpemfaaGreatDoorMf15
set_option maxRecDepth 100000
set_option maxHeartbeats 4000000
namespace Go.Proofs.YtcbgkbidgpemfaaGreatDoor.rdf
open Go.RowKit
open bsw
open prnw
def okc (c:UInt8):Bool:=decide (c.toNat=43) || decide (c.toNat=45) || decide (c.toNat=46) || isD c || decide (c.toNat=69) || decide (c.toNat=101)
theorem low_all:∀ n:Fin 256,(okc (UInt8.ofNat n.val)=true -> (bits BinOp.or IntKind.u8 (n.val:Int) 32 == 120)=false)∧(bits BinOp.or IntKind.u8 (n.val:Int) 32 == 101)=(decide (n.val=69) || decide (n.val=101)):=by decide +kernel
theorem low_x (c:UInt8) (h:okc c=true):(bits BinOp.or IntKind.u8 (c.toNat:Int) 32 == 120)=false:=by
 have:=(low_all ⟨c.toNat,c.toNat_lt⟩).1;simp only [UInt8.ofNat_toNat] at this;exact this h
theorem low_e (c:UInt8):(bits BinOp.or IntKind.u8 (c.toNat:Int) 32 == 101)=(decide (c.toNat=69) || decide (c.toNat=101)):=(low_all ⟨c.toNat,c.toNat_lt⟩).2
theorem drop_at (s:ByteArray) (k:Nat) (h:k<s.size):s.data.toList.drop k=s[k] :: s.data.toList.drop (k+1):=by
 rw [List.drop_eq_getElem_cons (by simpa using h)];rfl
theorem dgs_all:∀ l:List UInt8,dgs l=l.length -> ∀ c∈l,isD c=true
 | [],_,c,h=>by cases h
 | a :: l,h,c,hc=>by
  unfold dgs at h;have hle:=dgs_le l
  by_cases ha:isD a=true
  ·rw [if_pos ha] at h
   rcases List.mem_cons.1 hc with e | e
   ·rw [e]; exact ha
   ·exact dgs_all l (by simpa using h) c e
  ·rw [if_neg ha] at h;simp at h
theorem head_drop (s:ByteArray) (k:Nat) (h:k<s.size):(s.data.toList.drop k).head? = some s[k]:=by rw [drop_at s k h]; rfl
structure ExAt (s:ByteArray) (K:Nat) (ex:Int) (J:Nat) (sg:Int):Prop where
 k1:K+1<s.size
 j0:J<s.size
 j3:s.size <= J+3
 dig:∀ j (h:j<s.size),J <= j -> isD s[j]=true
 e:ex=sg*(eL (s.data.toList.drop J) 0:Int)
 sgn:(s[K+1].toNat=43∧J=K+2∧sg=1)∨(s[K+1].toNat=45∧J=K+2∧sg = -1)∨(s[K+1].toNat≠43∧s[K+1].toNat≠45∧J=K+1∧sg=1)
theorem u8_eq (c:UInt8) (n:Nat) (hn:n<256):c=UInt8.ofNat n↔c.toNat=n:=by
 constructor
 ·intro h;rw [h,UInt8.toNat_ofNat'];omega
 ·intro h;apply UInt8.toNat_inj.1;rw [h,UInt8.toNat_ofNat'];omega
theorem ex_at (s:ByteArray) (K:Nat) (ex:Int) (hK:K<s.size) (h:expB (s.data.toList.drop K)=true) (he:ex=exV ((s.data.toList.drop K).drop 1)):∃ J sg,ExAt s K ex J sg:=by
 rw [drop_at s K hK] at h he;unfold expB at h;rw [Bool.and_eq_true] at h;have h2:=h.2;have hlen:s.data.toList.length=s.size:=by simp
 simp only [List.drop_one,List.tail_cons,Bool.and_eq_true,decide_eq_true_eq] at h2 he;obtain ⟨l,hl⟩:∃ l,s.data.toList.drop (K+1)=l:=⟨_,rfl⟩;have hll:l.length=s.size-(K+1):=by rw [<- hl,List.length_drop,hlen]
 rw [hl] at h2 he;have hk1:K+1<s.size:=by
  refine Nat.lt_of_not_le fun hle => ?_;have:l=[]:=by rw [<- hl]; exact List.drop_eq_nil_of_le (by omega)
  rw [this] at h2;exact absurd h2.1.1 (by decide)
 have hh:=head_drop s (K+1) hk1;rw [hl] at hh;have hdg:∀ (J:Nat),dgs (s.data.toList.drop J)=(s.data.toList.drop J).length -> ∀ j (h:j<s.size),J <= j -> isD s[j]=true:=fun J hd j hj hJ=>by
  refine dgs_all _ hd _ ?_;obtain ⟨d,rfl⟩:=Nat.exists_eq_add_of_le hJ;have:(s.data.toList.drop J)[d]? = some s[J+d]:=by
   rw [List.getElem?_drop,List.getElem?_eq_getElem (by omega)];rfl
  exact List.mem_of_getElem? this
 have ht:l.tail=s.data.toList.drop (K+2):=by rw [<- hl,List.tail_drop]
 by_cases hs:l.head? = some 43∨l.head? = some 45
 ·rw [if_pos hs,ht] at h2;have hlen2:(s.data.toList.drop (K+2)).length=s.size-(K+2):=by rw [List.length_drop,hlen]
  have b1:K+2<s.size∧s.size <= K+2+3:=by omega
  rcases hs with h4 | h4
  ·rw [h4] at hh;have hc:s[K+1]=43:=(Option.some.inj hh).symm;refine ⟨K+2,1,hk1,b1.1,b1.2,hdg _ h2.2,?_,.inl ⟨by rw [hc]; rfl,rfl,rfl⟩⟩;rw [he];unfold exV;rw [h4,if_neg (by decide),if_pos rfl,List.drop_one,ht,Int.one_mul]
  ·rw [h4] at hh;have hc:s[K+1]=45:=(Option.some.inj hh).symm;refine ⟨K+2,-1,hk1,b1.1,b1.2,hdg _ h2.2,?_,.inr (.inl ⟨by rw [hc]; rfl,rfl,rfl⟩)⟩;rw [he];unfold exV;rw [h4,if_pos rfl,List.drop_one,ht];omega
 ·rw [if_neg hs] at h2;have n1:¬ l.head? = some 43:=fun h=>hs (.inl h);have n2:¬ l.head? = some 45:=fun h=>hs (.inr h);refine ⟨K+1,1,hk1,hk1,by omega,hdg _ (by rw [hl]; exact h2.2),?_,.inr (.inr ⟨?_,?_,rfl,rfl⟩)⟩
  ·rw [he];unfold exV;rw [if_neg n2,if_neg n1,hl,Int.one_mul]
  ·intro h;apply n1;rw [hh];exact congrArg some ((u8_eq _ 43 (by decide)).2 h)
  ·intro h;apply n2;rw [hh];exact congrArg some ((u8_eq _ 45 (by decide)).2 h)
theorem eL_snoc_bd:∀ (l:List UInt8) (e:Nat),(∀ c∈l,isD c=true) -> eL l e<(e+1)*10 ^ l.length
 | [],e,_=>by simp [eL]
 | c :: l,e,h=>by
  have hc:=(isD_iff c).1 (h c (List.mem_cons_self ..));have:=eL_snoc_bd l (e*10+(c.toNat-48)) (fun d hd=>h d (List.mem_cons_of_mem _ hd));unfold eL;rw [List.length_cons,Nat.pow_succ];refine Nat.lt_of_lt_of_le this ?_;rw [Nat.mul_comm (10 ^ l.length) 10,<- Nat.mul_assoc];exact Nat.mul_le_mul_right _ (by omega)
structure RfOk (s:ByteArray) (neg:Bool) (x:MS) (rest:List UInt8) (ex:Int):Prop where
 sz:s.size <= 60
 pos:1 <= s.size
 ok:∀ k (h:k<s.size),okc s[k]=true
 first:(s[0]).toNat≠43
 ng:neg=decide ((s[0]).toNat=45)
 run:mL (s.data.toList.drop (if neg then 1 else 0)) ms0=(x,rest)
 sd:x.sd=true
 two:neg=true -> 2 <= s.size
 re:(rest=[]∧ex=0)∨(expB rest=true∧ex=exV (rest.drop 1))
def rfE (x:MS) (ex:Int):Int:=if x.m=0 then 0 else (if x.dot then x.dp else (x.nd:Int))+ex-x.nm
def RfPost (w:World) (s:ByteArray) (neg:Bool) (x:MS) (ex:Int) (e:Ending) (w':World):Prop :=
 e = .returned (.tuple #[.int .u64 ((x.m:Nat):Int),.int .i64 (rfE x ex),.bool neg,.bool x.tr,.bool false,.int .i64 ((s.size:Nat):Int),.bool true])∧w'=w
theorem readFloat_any (s:ByteArray) (neg:Bool) (x:MS) (rest:List UInt8) (ex:Int) (h:RfOk s neg x rest ex) (w:World) :
  Calls Tryz.prog 244 #[.string s] w (RfPost w s neg x ex):=by
 obtain ⟨h1,h2,h3,h4,h5,h6,h7,h8,h9⟩:=h;have HL:=fun c (W:World) => Tryz.internal_strconv_lower c W;have t0:0<s.size:=h2;have t0':¬ s=ByteArray.empty:=fun e=>by
  rw [e] at h2;exact absurd h2 (by decide)
 have t1:((s[0].toNat:Int) == 43)=false:=Yf (by omega)
 obtain ⟨i0,hi0⟩:∃ i0,i0=if neg then 1 else 0:=⟨_,rfl⟩;rw [<- hi0] at h6;have hi1:i0<s.size:=by
  rw [hi0]
  cases neg with
  | true=>have:=h8 rfl; simp; omega
  | false=>simp; omega
 have HH:=Yd (And.intro h3 (And.intro h6 (And.intro h7 h9)));have HI:=Yd hi0;have HN:=Yd h5;have HL2:=Yd HL;clear h3 h4 h5 h6 h7 h8 h9 hi0 HL;go_enter Tryz.func244,Tryz.ntmps244;go_wp2_with fail
 go_step3
 go_upto_block 0 with (fail)
 go_cut [4,7] from 28 to 35 (fun s4 s7 wx=>s4 = .bool neg∧s7 = .int .i64 ((i0:Nat):Int)∧wx=w)
 case first =>
  have hn:=HN.out;have hi:=HI.out
  cases neg with
  | true =>
   have t2:((s[0].toNat:Int) == 45)=true:=by
    have:=of_decide_eq_true hn.symm;rw [beq_iff_eq]; omega
   have h1i:i0=1:=hi;subst h1i;clear hn hi;go_wp2_with fail;go_meet;exact ⟨rfl,rfl,rfl⟩
  | false =>
   have t2:((s[0].toNat:Int) == 45)=false:=by
    have:=of_decide_eq_false hn.symm;rw [beq_eq_false_iff_ne]; omega
   have h1i:i0=0:=hi;subst h1i;clear hn hi;go_wp2_with fail;go_meet;exact ⟨rfl,rfl,rfl⟩
 case rest =>
  obtain ⟨rfl,rfl,hwx⟩:=hcut;obtain rfl:=hwx.symm;have s60:(s.size:Int) <= 60:=by omega
  have i01:(i0:Int) <= 1:=by
   have:=HI.out
   cases neg <;> simp at this <;> omega
  have i00:(0:Int) <= (i0:Int):=by omega
  clear t0' t1;go_upto_region 12 with (fail)
  go_cut [54] from 36 to 53 (fun s54 wx=>s54 = .bool false∧wx=w)
  case first =>
   by_cases hA:i0+2<s.size
   ·have a1:decide ((i0:Int)+2<(s.size:Int))=true:=decide_eq_true (by omega);have a1':(i0:Int)+2<(s.size:Int):=by omega
    have hi3:i0+1<s.size:=by omega
    by_cases hB:s[i0].toNat=48
    ·have a2:((s[i0].toNat:Int) == 48)=true:=Yt (by omega)
     have a3:=low_x s[i0+1] (HH.out.1 (i0+1) hi3);go_wp2_with (go_at_call 217; (with_reducible refine (HL2.out _ _).mono ?_); rintro e w' ⟨rfl,hw'⟩; obtain rfl:=hw'.symm);go_meet;exact ⟨rfl,rfl⟩
    ·have a2:((s[i0].toNat:Int) == 48)=false:=Yf (by omega)
     go_wp2_with fail;go_meet;exact ⟨rfl,rfl⟩
   ·have a1:decide ((i0:Int)+2<(s.size:Int))=false:=decide_eq_false (by omega);have a1':¬ (i0:Int)+2<(s.size:Int):=by omega
    go_wp2_with fail;go_meet;exact ⟨rfl,rfl⟩
  case rest =>
   obtain ⟨rfl,hwx⟩:=hcut;obtain rfl:=hwx.symm;go_upto_block 1 with (first | go_step3 | fail)
   go_cut [2,5,7,9,13,14,15,16,17,18] from 57 to 138 (fun s2 s5 s7 s9 s13 s14 s15 s16 s17 s18 wx=>s2 = .int .u64 ((x.m:Nat):Int)∧s5 = .bool x.tr∧s7 = .int .i64 ((s.size-rest.length:Nat):Int)∧s9 = .bool false∧s13 = .bool x.dot∧s14 = .bool x.sd∧s15 = .int .i64 ((x.nd:Nat):Int)∧s16 = .int .i64 ((x.nm:Nat):Int)∧s17 = .int .i64 x.dp∧MOk s.size x∧s.data.toList.drop (s.size-rest.length)=rest∧rest.length <= s.size∧wx=w)
   case first =>
    go_wp2_with fail
    go_loopw [2,5,7,9,13,14,15,16,17] (fun s2 s5 s7 s9 s13 s14 s15 s16 s17 wr=>∃ (k:Nat) (y:MS),k <= s.size∧s2 = .int .u64 ((y.m:Nat):Int)∧s5 = .bool y.tr∧s7 = .int .i64 ((k:Nat):Int)∧s9 = .bool false∧s13 = .bool y.dot∧s14 = .bool y.sd∧s15 = .int .i64 ((y.nd:Nat):Int)∧s16 = .int .i64 ((y.nm:Nat):Int)∧s17 = .int .i64 y.dp∧MOk k y∧mL (s.data.toList.drop k) y=(x,rest)∧wr=w) (fun _ _ s7 _ _ _ _ _ _ _=>s.size-(intOf s7).toNat)
    case atStart=>exact ⟨i0,ms0,Nat.le_of_lt hi1,rfl,rfl,rfl,rfl,rfl,rfl,rfl,rfl,rfl,mok_mono mok0 (Nat.zero_le _),HH.out.2.1,rfl⟩
    case round =>
     obtain ⟨k,y,hk,rfl,rfl,rfl,rfl,rfl,rfl,rfl,rfl,rfl,hok,hrun,hwr⟩:=hrel;obtain rfl:=hwr.symm;have k0:(0:Int) <= (k:Int):=by omega
     have k60:(k:Int) <= 60:=by omega
     have hlen:s.data.toList.length=s.size:=by simp
     by_cases hlt:k<s.size
     ·have d1:decide (k<s.size)=true:=decide_eq_true hlt;rw [drop_at s k hlt] at hrun;have hc:=HH.out.1 k hlt;have u1:((s[k].toNat:Int) == 95)=false:=by
       rw [beq_eq_false_iff_ne];intro h;have h95:s[k].toNat=95:=by omega
       unfold okc isD at hc;rw [h95] at hc;exact absurd hc (by decide)
      unfold mL at hrun
      by_cases h46:s[k].toNat=46
      ·have u2:((s[k].toNat:Int) == 46)=true:=Yt (by omega)
       rw [if_pos h46] at hrun
       cases hdot:y.dot with
       | true =>
        rw [if_pos hdot] at hrun;injection hrun with e1 e2;rw [<- drop_at s k hlt] at e2;have hrl:s.size-rest.length=k∧rest.length <= s.size:=by
         rw [<- e2,List.length_drop,hlen];omega
        have HX:=Yd (And.intro hrl (And.intro (show s.data.toList.drop (s.size-rest.length)=rest by rw [hrl.1]; exact e2) (mok_mono hok hk)));subst e1;clear hrl e2 hc hok h46 hlen;go_wp2_with fail;go_meet;exact ⟨rfl,rfl,by rw [HX.out.1.1],rfl,by rw [hdot],rfl,rfl,rfl,rfl,HX.out.2.2,HX.out.2.1,HX.out.1.2,rfl⟩
       | false =>
        rw [if_neg (by rw [hdot]; decide)] at hrun;have HR:=Yd (And.intro hrun (mok_dot hok));have HK:=Yd hlt;clear hrun h46 hc hok hlen;go_wp2_with fail;exact ⟨⟨k+1,dotS y,HK.out,rfl,rfl,by go_num,rfl,rfl,rfl,rfl,rfl,rfl,HR.out.2,HR.out.1,by first | trivial | rfl⟩,by have:=HK.out; simp only [intOf]; omega⟩
      ·have u2:((s[k].toNat:Int) == 46)=false:=Yf (by omega)
       rw [if_neg h46] at hrun
       cases hdg:isD s[k] with
       | true =>
        rw [if_pos hdg] at hrun;have hd2:=(isD_iff s[k]).1 hdg;have hmk:=mok_dg hok s[k] hdg;have hnm:=hok.nm;have hmm:=hok.m;have hndk:=hok.nd;have hdp0:=hok.d0;have hdp1:=hok.d1;have u3:(48:Int) <= (s[k].toNat:Int):=by omega
        have u4:(s[k].toNat:Int) <= 57:=by omega
        have u5:decide (48 <= s[k].toNat)=true:=decide_eq_true hd2.1;have u6:decide (s[k].toNat <= 57)=true:=decide_eq_true hd2.2;have HK:=Yd hlt;have nd0:(0:Int) <= (y.nd:Int):=by omega
        have nd9:(y.nd:Int) <= 60:=by omega
        have dp0 : -60 <= y.dp:=by omega
        have dp9:y.dp <= 60:=by omega
        have nm0:(0:Int) <= (y.nm:Int):=by omega
        have nm9:(y.nm:Int) <= 19:=by omega
        have HR:=Yd (And.intro hrun hmk)
        by_cases hz:s[k].toNat=48∧y.nd=0
        ·have HE:=Yd (show dgS s[k] y={ y with sd:=true,dp:=y.dp-1 } from if_pos hz);have HZ:=Yd hz.2;obtain ⟨z1,z2⟩:=hz;clear hrun h46 hc hok hlen hd2 hmk hmm hndk hdp0 hdp1 hnm u1 u2 u3 u4 u5 u6;go_wp2_with fail;exact ⟨⟨k+1,dgS s[k] y,HK.out,by rw [HE.out],by rw [HE.out],by go_num,rfl,by rw [HE.out],by rw [HE.out],by rw [HE.out]; first | rfl | (exact congrArg (Value.int IntKind.i64) (show (0:Int)=(y.nd:Int) by have:=HZ.out; omega)),by rw [HE.out],by rw [HE.out],HR.out.2,HR.out.1,by first | trivial | rfl⟩,by have:=HK.out; simp only [intOf]; omega⟩
        ·have v12:(((s[k].toNat:Int) == 48)=false∧((s[k].toNat:Int) != 48)=true∧(y.tr || decide (s[k].toNat≠48))=true)∨((s[k].toNat:Int) == 48)=true∧((y.nd:Int) == 0)=false∧((s[k].toNat:Int) != 48)=false∧(y.tr || decide (s[k].toNat≠48))=y.tr:=by
          by_cases ha:s[k].toNat=48
          ·have e1:decide (s[k].toNat≠48)=false:=decide_eq_false (fun h=>h ha);exact .inr ⟨Yt (by omega),Yf (by omega),by rw [bne_eq_false_iff_eq]; omega,by rw [e1,Bool.or_false]⟩
          ·have e1:decide (s[k].toNat≠48)=true:=decide_eq_true ha;exact .inl ⟨Yf (by omega),by rw [bne_iff_ne]; omega,by rw [e1,Bool.or_true]⟩
         by_cases h19:y.nm<19
         ·have w1:decide (y.nm<19)=true:=decide_eq_true h19;have w1':y.nm<19:=h19;have m64:y.m<1000000000000000000:=Nat.lt_of_lt_of_le hmm (Nat.le_trans (Nat.pow_le_pow_right (by decide) (show y.nm <= 18 by omega)) (by decide));obtain ⟨A,hA⟩:∃ A:Nat,A=y.m*10:=⟨_,rfl⟩;have W1:IntKind.u64.wrap ((y.m:Int)*10)=(A:Int):=by rw [IntKind.wrap_u64]; omega
          have W2:IntKind.u64.wrap ((A:Int)+((s[k].toNat:Int)-48))=((y.m*10+(s[k].toNat-48):Nat):Int):=by rw [IntKind.wrap_u64]; omega
          have W3:IntKind.u64.wrap ((A:Nat):Int)=((y.m*10+(48-48):Nat):Int):=by rw [IntKind.wrap_u64]; omega
          have HM:=Yd (And.intro W2 W3);have Amx:(A:Int)<10000000000000000000:=by omega
          have A0:(0:Int) <= (A:Int):=by omega
          have HE:=Yd (show dgS s[k] y={ y with N:=y.N*10+(s[k].toNat-48),sd:=true,nd:=y.nd+1,m:=y.m*10+(s[k].toNat-48),nm:=y.nm+1 } from (if_neg hz).trans (if_pos h19));clear hrun h46 hc hok hlen hd2 hmk hmm hndk hdp0 hdp1 hz hnm h19 m64 hA W2 W3 Amx A0
          rcases v12 with ⟨v1,-,-⟩ | ⟨v1,v2,-,-⟩
          ·go_wp2_with fail;exact ⟨⟨k+1,dgS s[k] y,HK.out,by rw [HE.out]; exact congrArg (Value.int IntKind.u64) HM.out.1,by rw [HE.out],by go_num,rfl,by rw [HE.out],by rw [HE.out],by rw [HE.out]; go_num,by rw [HE.out]; go_num,by rw [HE.out],HR.out.2,HR.out.1,by first | trivial | rfl⟩,by have:=HK.out; simp only [intOf]; omega⟩
          ·have z1:s[k].toNat=48:=by have:=beq_iff_eq.1 v1; omega
           have H48:=Yd z1;clear v1 u1 u2 u3 u4 u5 u6;go_wp2_with fail;exact ⟨⟨k+1,dgS s[k] y,HK.out,by rw [HE.out]; (try rw [H48.out]); exact congrArg (Value.int IntKind.u64) HM.out.2,by rw [HE.out],by go_num,rfl,by rw [HE.out],by rw [HE.out],by rw [HE.out]; go_num,by rw [HE.out]; go_num,by rw [HE.out],HR.out.2,HR.out.1,by first | trivial | rfl⟩,by have:=HK.out; simp only [intOf]; omega⟩
         ·have w1:decide (y.nm<19)=false:=decide_eq_false h19;have w1':¬ y.nm<19:=h19;have HE:=Yd (show dgS s[k] y={ y with N:=y.N*10+(s[k].toNat-48),sd:=true,nd:=y.nd+1,tr:=y.tr || decide (s[k].toNat≠48) } from (if_neg hz).trans (if_neg h19));clear hrun h46 hc hok hlen hd2 hmk hmm hndk hdp0 hdp1 hz hnm h19
          rcases v12 with ⟨v1,v3,hT⟩ | ⟨v1,v2,v3,hT⟩
          ·have HT:=Yd hT;clear hT;go_wp2_with fail;exact ⟨⟨k+1,dgS s[k] y,HK.out,by rw [HE.out],by rw [HE.out,HT.out],by go_num,rfl,by rw [HE.out],by rw [HE.out],by rw [HE.out]; go_num,by rw [HE.out],by rw [HE.out],HR.out.2,HR.out.1,by first | trivial | rfl⟩,by have:=HK.out; simp only [intOf]; omega⟩
          ·have HT:=Yd hT;clear hT;go_wp2_with fail;exact ⟨⟨k+1,dgS s[k] y,HK.out,by rw [HE.out],by rw [HE.out,HT.out],by go_num,rfl,by rw [HE.out],by rw [HE.out],by rw [HE.out]; go_num,by rw [HE.out],by rw [HE.out],HR.out.2,HR.out.1,by first | trivial | rfl⟩,by have:=HK.out; simp only [intOf]; omega⟩
       | false =>
        rw [if_neg (by rw [hdg]; decide)] at hrun;have hnd:¬ (48 <= s[k].toNat∧s[k].toNat <= 57):=fun h=>by
         rw [(isD_iff s[k]).2 h] at hdg
         cases hdg
        have v12:decide (48 <= s[k].toNat)=false∨decide (48 <= s[k].toNat)=true∧decide (s[k].toNat <= 57)=false:=by
         by_cases ha:48 <= s[k].toNat
         ·exact .inr ⟨decide_eq_true ha,decide_eq_false (fun h=>hnd ⟨ha,h⟩)⟩
         ·exact .inl (decide_eq_false ha)
        rcases v12 with v1 | ⟨v1,v2⟩
        ·have v1':¬ 48 <= s[k].toNat:=of_decide_eq_false v1;injection hrun with e1 e2;rw [<- drop_at s k hlt] at e2;have hrl:s.size-rest.length=k∧rest.length <= s.size:=by
          rw [<- e2,List.length_drop,hlen];omega
         have HX:=Yd (And.intro hrl (And.intro (show s.data.toList.drop (s.size-rest.length)=rest by rw [hrl.1]; exact e2) (mok_mono hok hk)));subst e1;clear hrl e2 hc hok h46 hnd hlen;go_wp2_with fail;go_meet;exact ⟨rfl,rfl,by rw [HX.out.1.1],rfl,rfl,rfl,rfl,rfl,rfl,HX.out.2.2,HX.out.2.1,HX.out.1.2,rfl⟩
        ·have v1':48 <= s[k].toNat:=of_decide_eq_true v1;have v2':¬ s[k].toNat <= 57:=of_decide_eq_false v2;injection hrun with e1 e2;rw [<- drop_at s k hlt] at e2;have hrl:s.size-rest.length=k∧rest.length <= s.size:=by
          rw [<- e2,List.length_drop,hlen];omega
         have HX:=Yd (And.intro hrl (And.intro (show s.data.toList.drop (s.size-rest.length)=rest by rw [hrl.1]; exact e2) (mok_mono hok hk)));subst e1;clear hrl e2 hc hok h46 hnd hlen;go_wp2_with fail;go_meet;exact ⟨rfl,rfl,by rw [HX.out.1.1],rfl,rfl,rfl,rfl,rfl,rfl,HX.out.2.2,HX.out.2.1,HX.out.1.2,rfl⟩
     ·have hke:k=s.size:=by omega
      have d1:decide (k<s.size)=false:=decide_eq_false hlt;rw [List.drop_eq_nil_of_le (by omega)] at hrun;unfold mL at hrun;injection hrun with e1 e2;have HX:=Yd (And.intro hke (And.intro e2.symm (mok_mono hok hk)));subst e1;clear e2 hke hok hlen;go_wp2_with fail;go_meet;have hre:=HX.out.2.1;have hkk:=HX.out.1;exact ⟨rfl,rfl,by rw [hre,hkk]; rfl,rfl,rfl,rfl,rfl,rfl,rfl,HX.out.2.2,by rw [hre]; simp,by rw [hre]; exact Nat.zero_le _,rfl⟩
   case rest =>
    obtain ⟨rfl,rfl,rfl,rfl,rfl,rfl,rfl,rfl,rfl,hok,hdr,hrl,hwx⟩:=hcut;obtain rfl:=hwx.symm;obtain ⟨K,hK⟩:∃ K,s.size-rest.length=K:=⟨_,rfl⟩;rw [hK] at hdr ⊢;have hsd:=HH.out.2.2.1;rw [hsd];have hnd9:=hok.nd;have hnm9:=hok.nm;have hdp0:=hok.d0;have hdp1:=hok.d1;obtain ⟨D,hD⟩:∃ D:Int,D=if x.dot then x.dp else (x.nd:Int):=⟨_,rfl⟩;have D0 : -60 <= D:=by rw [hD]; split <;> omega
    have D9:D <= 60:=by rw [hD]; split <;> omega
    have HD:=Yd hD;have HX:=Yd (And.intro hK (And.intro hdr hrl));have K0:(0:Int) <= (K:Int):=by omega
    have K60:(K:Int) <= 60:=by omega
    have nm0:(0:Int) <= (x.nm:Int):=by omega
    have nm9:(x.nm:Int) <= 19:=by omega
    have HOK:=Yd hok;clear hok hdr hrl hK hsd hnd9 hnm9 hdp0 hdp1 hD i00 i01;go_upto_if 142 with (fail)
    go_cut [13,17] from 141 to 143 (fun s13 s17 wx=>s17 = .int .i64 D∧wx=w)
    case first =>
     have hd:=HD.out
     cases hdot:x.dot with
     | true =>
      rw [hdot,if_pos rfl] at hd;subst hd;go_wp2_with fail;go_meet;exact ⟨rfl,rfl⟩
     | false =>
      rw [hdot,if_neg (by decide)] at hd;have HDD:=Yd hd;clear hd;go_wp2_with fail;go_meet;exact ⟨by rw [HDD.out],rfl⟩
    case rest =>
     obtain ⟨rfl,hwx⟩:=hcut;obtain rfl:=hwx.symm;obtain ⟨bE,hbE⟩:∃ bE,bE = !rest.isEmpty:=⟨_,rfl⟩;have HB:=Yd hbE;have hlen:s.data.toList.length=s.size:=by simp
     go_upto_region 57 with (fail)
     go_cut [161] from 150 to 160 (fun s161 wx=>s161 = .bool bE∧wx=w)
     case first =>
      obtain ⟨hK,hdr,hrl⟩:=HX.out
      rcases HH.out.2.2.2 with ⟨r1,r2⟩ | ⟨r1,r2⟩
      ·have hKs:K=s.size:=by rw [r1] at hK; simpa using hK.symm
       have d1:decide (K<s.size)=false:=decide_eq_false (by omega);have d1':¬ K<s.size:=by omega
       have hb:bE=false:=by rw [HB.out,r1]; rfl
       subst hb;clear hK hdr hrl r1 r2 hKs hlen hbE;go_wp2_with fail;go_meet;exact ⟨rfl,rfl⟩
      ·cases hrr:rest with
       | nil=>rw [hrr] at r1; exact absurd r1 (by decide)
       | cons c r =>
        have hKs:K<s.size:=by
         refine Nat.lt_of_not_le fun hl => ?_;rw [List.drop_eq_nil_of_le (by omega),hrr] at hdr
         cases hdr
        have hc:s[K]=c:=by
         rw [drop_at s K hKs,hrr] at hdr;injection hdr
        have d1:decide (K<s.size)=true:=decide_eq_true hKs;have hce:(bits BinOp.or IntKind.u8 (s[K].toNat:Int) 32 == 101)=true:=by
         rw [low_e,hc];rw [hrr] at r1;unfold expB at r1;rw [Bool.and_eq_true] at r1;have h9:=r1.1;rw [Bool.or_eq_true,beq_iff_eq,beq_iff_eq] at h9
         rcases h9 with h9 | h9
         ·rw [h9]; rfl
         ·rw [h9]; rfl
        have hb:bE=true:=by rw [HB.out,hrr]; rfl
        subst hb;clear hK hdr hrl r1 r2 hc hlen hbE hrr;go_wp2_with (go_at_call 217; (with_reducible refine (HL2.out _ _).mono ?_); rintro e w' ⟨rfl,hw'⟩; obtain rfl:=hw'.symm);go_meet;exact ⟨rfl,rfl⟩
     case rest =>
      obtain ⟨rfl,hwx⟩:=hcut;obtain rfl:=hwx.symm;go_upto_if 161 with (fail)
      go_cut [7,9,17,19,20] from 162 to 239 (fun s7 s9 s17 s19 s20 wx=>s7 = .int .i64 ((s.size:Nat):Int)∧s9 = .bool false∧s17 = .int .i64 (D+ex) ∧ -2000 <= ex∧ex <= 2000∧wx=w)
      case first =>
       cases bE with
       | false =>
        obtain ⟨hK,hdr,hrl⟩:=HX.out;have hre:rest=[]:=by
         have:=HB.out
         cases hr:rest with
         | nil=>rfl
         | cons c r=>rw [hr] at this; cases this
        have hex:ex=0:=by
         rcases HH.out.2.2.2 with ⟨r1,r2⟩ | ⟨r1,r2⟩
         ·exact r2
         ·rw [hre] at r1; exact absurd r1 (by decide)
        have hKs:K=s.size:=by rw [hre] at hK; simpa using hK.symm
        have HW:=Yd (And.intro hKs hex);clear hK hdr hrl hre hex hKs hbE hlen;go_wp2_with fail;go_meet;exact ⟨by rw [HW.out.1],rfl,by rw [HW.out.2,Int.add_zero],by rw [HW.out.2]; decide,by rw [HW.out.2]; decide,rfl⟩
       | true =>
        obtain ⟨hK,hdr,hrl⟩:=HX.out;have hne:rest≠[]:=fun hr=>by
         have:=HB.out;rw [hr] at this
         cases this
        have hKs:K<s.size:=by
         refine Nat.lt_of_not_le fun hl => ?_;rw [List.drop_eq_nil_of_le (by omega)] at hdr;exact hne hdr.symm
        obtain ⟨J,sg,hJ⟩:=ex_at s K ex hKs (by
         rcases HH.out.2.2.2 with ⟨r1,r2⟩ | ⟨r1,r2⟩
         ·exact absurd r1 hne
         ·rw [hdr]; exact r1) (by
         rcases HH.out.2.2.2 with ⟨r1,r2⟩ | ⟨r1,r2⟩
         ·exact absurd r1 hne
         ·rw [hdr]; exact r2)
        have HJ:=Yd hJ;have hk1:=hJ.k1;have hk1':decide (s.size <= K+1)=false:=decide_eq_false (by omega);have hk2:decide ((s.size:Int) <= (K:Int)+1)=false:=decide_eq_false (by omega);have hk3:(K:Int)+1<(s.size:Int):=by omega
        have J60:(J:Int) <= 60:=by have:=hJ.j0; omega
        have J0:(0:Int) <= (J:Int):=by omega
        clear hK hdr hrl hne hbE hlen hJ;go_upto_block 4 with (fail)
        go_cut [7,19] from 171 to 178 (fun s7 s19 wx=>s7 = .int .i64 ((J:Nat):Int)∧s19 = .int .i64 sg∧wx=w)
        case first =>
         rcases HJ.out.sgn with ⟨g1,g2,g3⟩ | ⟨g1,g2,g3⟩ | ⟨g1,g2,g3,g4⟩
         ·have y1:((s[K+1].toNat:Int) == 43)=true:=Yt (by omega)
          subst g2;subst g3;clear g1;go_wp2_with fail;go_meet;exact ⟨by go_num,rfl,rfl⟩
         ·have y1:((s[K+1].toNat:Int) == 43)=false:=Yf (by omega)
          have y2:((s[K+1].toNat:Int) == 45)=true:=Yt (by omega)
          subst g2;subst g3;clear g1;go_wp2_with fail;go_meet;exact ⟨by go_num,rfl,rfl⟩
         ·have y1:((s[K+1].toNat:Int) == 43)=false:=Yf (by omega)
          have y2:((s[K+1].toNat:Int) == 45)=false:=Yf (by omega)
          subst g3;subst g4;clear g1 g2;go_wp2_with fail;go_meet;exact ⟨by go_num,rfl,rfl⟩
        case rest =>
         obtain ⟨rfl,rfl,hwx⟩:=hcut;obtain rfl:=hwx.symm;have hj0:=HJ.out.j0;have hd0:=(isD_iff _).1 (HJ.out.dig J hj0 (Nat.le_refl _));have z1:decide (s.size <= J)=false:=decide_eq_false (by omega);have z1':¬ s.size <= J:=by omega
         have z2:decide (s[J].toNat<48)=false:=decide_eq_false (by omega);have z3:decide (57<s[J].toNat)=false:=decide_eq_false (by omega);have z4:(48:Int) <= (s[J].toNat:Int):=by omega
         have z5:(s[J].toNat:Int) <= 57:=by omega
         clear hd0 hk1' hk2;go_upto_block 5 with (fail);obtain ⟨E,hE⟩:∃ E,eL (s.data.toList.drop J) 0=E:=⟨_,rfl⟩;have HE:=Yd hE;clear hE z1 z1' z2 z3 z4 z5;go_wp2_with fail
         go_loopw [7,9,20] (fun s7 s9 s20 wr=>∃ j ev:Nat,J <= j∧j <= s.size∧s7 = .int .i64 ((j:Nat):Int)∧s9 = .bool false∧s20 = .int .i64 ((ev:Nat):Int)∧eL (s.data.toList.drop j) ev=E∧ev<10 ^ (j-J)∧wr=w) (fun s7 _ _ _=>s.size-(intOf s7).toNat)
         case atStart=>exact ⟨J,0,Nat.le_refl _,Nat.le_of_lt hj0,rfl,rfl,rfl,HE.out,by rw [Nat.sub_self]; decide,rfl⟩
         case round =>
          obtain ⟨j,ev,hJj,hjs,rfl,rfl,rfl,hev,hbd,hwr⟩:=hrel;obtain rfl:=hwr.symm;have q0:(0:Int) <= (j:Int):=by omega
          have q60:(j:Int) <= 60:=by omega
          have hj3:=HJ.out.j3;have hbd3:ev<1000:=Nat.lt_of_lt_of_le hbd (Nat.le_trans (Nat.pow_le_pow_right (by decide) (show j-J <= 3 by omega)) (by decide));have ev0:(0:Int) <= (ev:Int):=by omega
          have ev9:(ev:Int)<1000:=by omega
          by_cases hlt:j<s.size
          ·have hd:=(isD_iff _).1 (HJ.out.dig j hlt hJj);have y1:decide (j<s.size)=true:=decide_eq_true hlt;have y2:decide (48 <= s[j].toNat)=true:=decide_eq_true hd.1;have y3:decide (s[j].toNat <= 57)=true:=decide_eq_true hd.2;have y4:((s[j].toNat:Int) == 95)=false:=Yf (by omega)
           have y5:(48:Int) <= (s[j].toNat:Int):=by omega
           have y6:(s[j].toNat:Int) <= 57:=by omega
           rw [drop_at s j hlt] at hev;unfold eL at hev;have hnb:ev*10+(s[j].toNat-48)<10 ^ (j+1-J):=by
            rw [show j+1-J=j-J+1 by omega,Nat.pow_succ];omega
           have HV:=Yd (And.intro hev (And.intro hnb (show (ev:Int)*10+(s[j].toNat:Int)-48=((ev*10+(s[j].toNat-48):Nat):Int) by omega)));have HQ:=Yd (And.intro hJj hlt);clear hev hnb hd hbd hbd3 hJj hj3;go_wp2_with fail;exact ⟨⟨j+1,ev*10+(s[j].toNat-48),Nat.le_succ_of_le HQ.out.1,HQ.out.2,by go_num,rfl,by exact congrArg (Value.int IntKind.i64) HV.out.2.2,HV.out.1,HV.out.2.1,by first | trivial | rfl⟩,by have:=HQ.out.2; simp only [intOf]; omega⟩
          ·have hje:j=s.size:=by omega
           have y1:decide (j<s.size)=false:=decide_eq_false hlt;have hevE:ev=E:=by
            rw [List.drop_eq_nil_of_le (by simp; omega)] at hev;exact hev
           have HQ:=Yd (And.intro hje (And.intro hevE (show ev <= 1000 by omega)));have hsg:=HJ.out.sgn;have hsg2:sg=1∨sg = -1:=by
            rcases hsg with ⟨_,_,h⟩ | ⟨_,_,h⟩ | ⟨_,_,_,h⟩
            ·exact .inl h
            ·exact .inr h
            ·exact .inl h
           have hee:=HJ.out.e;rw [HE.out] at hee;have HS:=Yd hee;clear hev hbd hbd3 hJj hj3 hje hevE hsg hee
           rcases hsg2 with hs1 | hs1
           ·subst hs1;go_wp2_with fail;go_meet;obtain ⟨b1,b2,b3⟩:=HQ.out;have b4:=HS.out;exact ⟨by rw [b1],rfl,by exact congrArg (Value.int IntKind.i64) (by omega),by omega,by omega,rfl⟩
           ·subst hs1;go_wp2_with fail;go_meet;obtain ⟨b1,b2,b3⟩:=HQ.out;have b4:=HS.out;exact ⟨by rw [b1],rfl,by exact congrArg (Value.int IntKind.i64) (by omega),by omega,by omega,rfl⟩
      case rest =>
       obtain ⟨rfl,rfl,rfl,ex0,ex9,hwx⟩:=hcut;obtain rfl:=hwx.symm;have hfin:rfE x ex=if x.m=0 then 0 else D+ex-x.nm:=by
        unfold rfE;rw [HD.out]
       have HF:=Yd hfin
       by_cases hm0:x.m=0
       ·have g1:((x.m:Int) != 0)=false:=by rw [hm0]; rfl
        have HM0:=Yd hm0;clear hm0 hfin hbE hlen;go_wp2_with fail
        (try rw [Exit.noGoto_ret])
        refine bodyPost_ret (v:=.tuple #[.int .u64 ((x.m:Nat):Int),.int .i64 0,.bool neg,.bool x.tr,.bool false,.int .i64 ((s.size:Nat):Int),.bool true]) ?_ rfl ?_
        ·simp [results,Tryz.results244,go_sem]
        ·exact ⟨by rw [HF.out,if_pos HM0.out],rfl⟩
       ·have g1:((x.m:Int) != 0)=true:=by rw [bne_iff_ne]; omega
        have HM0:=Yd hm0;clear hm0 hfin hbE hlen;go_wp2_with fail
        (try rw [Exit.noGoto_ret])
        refine bodyPost_ret (v:=.tuple #[.int .u64 ((x.m:Nat):Int),.int .i64 (D+ex-x.nm),.bool neg,.bool x.tr,.bool false,.int .i64 ((s.size:Nat):Int),.bool true]) ?_ rfl ?_
        ·simp [results,Tryz.results244,go_sem]
        ·exact ⟨by rw [HF.out,if_neg HM0.out],rfl⟩
end Go.Proofs.YtcbgkbidgpemfaaGreatDoor.rdf
