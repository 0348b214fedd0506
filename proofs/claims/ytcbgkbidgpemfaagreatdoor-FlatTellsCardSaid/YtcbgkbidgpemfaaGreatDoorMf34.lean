/- burnishref16.parts: a decimal's sign, digits and power of ten. Condition: the text has at most 1000 bytes. -/
import Derived.Test.YtcbgkbidgpemfaaGreatDoorMf00
import Derived.Test.YtcbgkbidgpemfaaGreatDoorMf33
import Derived.Test.YtcbgkbidgpemfaaGreatDoorMf23
set_option maxRecDepth 100000
set_option maxHeartbeats 4000000
namespace Go.Proofs.YtcbgkbidgpemfaaGreatDoor.rg
open Go.RowKit
open rdf
theorem results_tmp4 {fn:Func} {t u v x:Tmp} (h:fn.results = #[.tmp t,.tmp u,.tmp v,.tmp x]) (tmps:Array Value) (P:Program) (w:World) :
  (results fn tmps).run P w = .ok (.tuple #[tmps.getD t undef,tmps.getD u undef,tmps.getD v undef,tmps.getD x undef]) w:=by
 simp [results,h]
def PartsPost (w:World) (sg:Bool) (R:Option (List UInt8 × Int)) (e:Ending) (w':World):Prop :=
 w'=w∧match R with
  | none=>e = .returned (.tuple #[.bool false,.string ⟨#[]⟩,.int .i64 0,.bool false])
  | some (D,P)=>∃ T:ByteArray,T.data.toList=D∧e = .returned (.tuple #[.bool sg,.string T,.int .i64 P,.bool true])
theorem parts_eq {l:List UInt8} {p:PS} {r:List UInt8} (h:pS (unsg l) ps0=(p,r)):partsL l=if p.ds.length=0∨30<p.ds.length∨1<p.dots∨40<l.length then none
  else if r=[] then some (p.ds,p.pw) else if expB r then some (p.ds,p.pw+exV (r.drop 1)) else none:=by
 unfold partsL;simp only [h]
theorem ps_cons (c:UInt8) (l:List UInt8) (p:PS):pS (c :: l) p=if isD c then pS l ⟨p.ds ++ [c],p.dots,p.pw-p.dots⟩ else if c.toNat=46 then pS l ⟨p.ds,p.dots+1,p.pw⟩ else (p,c :: l):=rfl
theorem drop_at (s:ByteArray) (k:Nat) (h:k<s.size):s.data.toList.drop k=s[k] :: s.data.toList.drop (k+1):=by
 rw [List.drop_eq_getElem_cons (by rw [list_len]; exact h)];rfl
theorem sb_app (S T:ByteArray):(S ++ T).data.toList=S.data.toList ++ T.data.toList:=by simp
theorem sb_one (s:ByteArray) (k:Nat) (h:k<s.size):(s.extract k (k+1)).data.toList=[s[k]]:=by
 rw [Lib.extract_data,drop_at s k h,show k+1-k=1 by omega];rfl
def okE (l:List UInt8):Bool:=decide (1 <= dgs l) && decide (dgs l <= 3) && decide (dgs l=l.length)
theorem okE_len {l:List UInt8} (h:okE l=true):1 <= l.length∧l.length <= 3:=by
 unfold okE at h;simp only [Bool.and_eq_true,decide_eq_true_eq] at h;omega
theorem exp_e {c:UInt8} {l:List UInt8} (hc:c.toNat=101∨c.toNat=69):expB (c :: l)=okE (exR l):=by
 rw [exp_cons];have:(c == 101 || c == 69)=true:=by
  rcases hc with h | h
  ·rw [show c=101 from UInt8.toNat_inj.1 h]; rfl
  ·rw [show c=69 from UInt8.toNat_inj.1 h]; rfl
 rw [this,Bool.true_and];rfl
theorem exp_no {c:UInt8} {l:List UInt8} (h1:c.toNat≠101) (h2:c.toNat≠69):expB (c :: l)=false:=by
 rw [exp_cons];have:(c == 101 || c == 69)=false:=by
  rw [Bool.or_eq_false_iff];exact ⟨by rw [beq_eq_false_iff_ne]; intro e; exact h1 (by rw [e]; rfl),by rw [beq_eq_false_iff_ne]; intro e; exact h2 (by rw [e]; rfl)⟩
 rw [this,Bool.false_and]
theorem ex_45 (l:List UInt8):exR (45 :: l)=l∧exV (45 :: l) = -(eL l 0:Int):=⟨rfl,rfl⟩
theorem ex_43 (l:List UInt8):exR (43 :: l)=l∧exV (43 :: l)=(eL l 0:Int):=⟨rfl,rfl⟩
theorem ex_else {c:UInt8} (l:List UInt8) (h1:c.toNat≠45) (h2:c.toNat≠43):exR (c :: l)=c :: l∧exV (c :: l)=(eL (c :: l) 0:Int):=by
 have n1:¬ (c :: l).head? = some 45:=fun e=>h1 (by rw [show c=45 from Option.some.inj e]; rfl);have n2:¬ (c :: l).head? = some 43:=fun e=>h2 (by rw [show c=43 from Option.some.inj e]; rfl)
 constructor
 ·unfold exR;rw [if_neg (fun h=>h.elim n2 n1)]
 ·unfold exV;rw [if_neg n1,if_neg n2]
theorem dgs_cons (c:UInt8) (l:List UInt8):dgs (c :: l)=if isD c then dgs l+1 else 0:=rfl
theorem parts_any (s:ByteArray) (hs:s.size <= 1000) (w:World) :
    Calls Tryz.prog 95 #[.string s] w (PartsPost w (sgL s.data.toList) (partsL s.data.toList)):=by
  obtain ⟨R,hR⟩:∃ R,partsL s.data.toList=R:=⟨_,rfl⟩;rw [hR];have HR:=Yd hR;clear hR;have hsi:(s.size:Int) <= 1000:=by omega
  have HL:=Yd (list_len s)
  by_cases hs0:s.size=0
  · have hnil:s.data.toList=[]:=List.eq_nil_of_length_eq_zero (by rw [HL.out,hs0]);have hr:R=none:=by rw [<- HR.out,hnil]; rfl
    subst hr;obtain rfl:s=⟨#[]⟩:=ByteArray.ext (Array.toList_inj.1 hnil);clear hnil hsi HR HL hs0 hs;go_enter Tryz.func95,Tryz.ntmps95;go_wp2_with fail
    go_loopw [7,8,9,10] (fun s7 s8 s9 s10 wr=>s7 = .int .i64 0∧s8 = .string ⟨#[]⟩∧s9 = .int .i64 0∧s10 = .int .i64 0∧wr=w) (fun _ _ _ _ _=>0)
    case atStart=>exact ⟨rfl,rfl,rfl,rfl,rfl⟩
    case round =>
      obtain ⟨rfl,rfl,rfl,rfl,hwr⟩:=hrel;obtain rfl:=hwr.symm;go_wp2_with fail;refine bodyPost_ret (results_tmp4 rfl _ _ _) rfl ?_;exact ⟨rfl,rfl⟩
  obtain ⟨b,hb⟩:∃ b,sgL s.data.toList=b:=⟨_,rfl⟩;obtain ⟨k0,hk0⟩:∃ k0:Nat,(if b then 1 else 0)=k0:=⟨_,rfl⟩;have h0:s.data.toList=s[0] :: s.data.toList.drop 1:=drop_at s 0 (by omega);have hu:unsg s.data.toList=s.data.toList.drop k0:=by
    rw [<- hk0,<- hb];unfold unsg sgL
    by_cases h:s.data.toList.head? = some 45
    · rw [if_pos h,decide_eq_true h,if_pos rfl]
    · rw [if_neg h,decide_eq_false h,if_neg (by decide)];rfl
  have hc0:((s[0].toNat:Int) == 45)=b:=by
    rw [<- hb];unfold sgL;rw [h0];show _=decide (some s[0]=some 45)
    by_cases h:s[0]=45
    · rw [decide_eq_true (by rw [h]; rfl),h];rfl
    · rw [decide_eq_false (fun e=>h (Option.some.inj e)),beq_eq_false_iff_ne];intro e;exact h (UInt8.toNat_inj.1 (by show s[0].toNat=45; omega))
  rw [hb];have HU:=Yd hu;have HK:=Yd hk0;have hk1:k0 <= 1:=by rw [<- hk0]; split <;> omega
  have hs1:(0:Int)<(s.size:Int):=by omega
  clear hu h0 hb hk0;go_enter Tryz.func95,Tryz.ntmps95;go_upto_if 21 with (fail)
  go_cut [7] (fun s7 wx=>s7 = .int .i64 (k0:Int)∧wx=w)
  case first =>
    cases b with
    | true =>
      have e:(1:Nat)=k0:=HK.out;subst e;go_wp2_with fail;go_meet;exact ⟨rfl,rfl⟩
    | false =>
      have e:(0:Nat)=k0:=HK.out;subst e;go_wp2_with fail;go_meet;exact ⟨rfl,rfl⟩
  case rest =>
    obtain ⟨rfl,hwc⟩:=hcut;obtain rfl:=hwc.symm;clear HK hc0;go_upto_block 0 with (fail)
    go_cut [7,8,9,10] from 22 (fun s7 s8 s9 s10 wx=>∃ (k:Nat) (T:ByteArray) (d:Nat) (z:Int),k <= s.size∧s7 = .int .i64 k∧s8 = .string T∧s9 = .int .i64 d∧s10 = .int .i64 z ∧
      pS (unsg s.data.toList) ps0=(⟨T.data.toList,d,z⟩,s.data.toList.drop k)∧T.size <= k∧d <= k ∧ -(1000*(k:Int)) <= z∧z <= 0∧wx=w)
    case first =>
      go_wp2_with fail
      go_loopw [7,8,9,10] (fun s7 s8 s9 s10 wr=>∃ (k:Nat) (T:ByteArray) (d:Nat) (z:Int),k <= s.size∧s7 = .int .i64 k∧s8 = .string T∧s9 = .int .i64 d∧s10 = .int .i64 z ∧
        pS (s.data.toList.drop k) ⟨T.data.toList,d,z⟩=pS (unsg s.data.toList) ps0∧T.size <= k∧d <= k ∧ -(1000*(k:Int)) <= z∧z <= 0∧wr=w) (fun s7 _ _ _ _=>s.size-(intOf s7).toNat)
      case atStart=>exact ⟨k0,⟨#[]⟩,0,0,by omega,rfl,rfl,rfl,rfl,by rw [HU.out]; rfl,Nat.zero_le _,Nat.zero_le _,by omega,Int.le_refl _,rfl⟩
      case round =>
        clear HU hk1;obtain ⟨k,T,d,z,hk,rfl,rfl,rfl,rfl,hp,hT,hd,hz1,hz2,hwr⟩:=hrel;obtain rfl:=hwr.symm;have HLT:=Yd (list_len T);have HPP:=Yd hp;clear hp;have hTi:(T.size:Int) <= 1000:=by omega
        have hdi:(d:Int) <= 1000:=by omega
        have hz3:(-1000000:Int) <= z:=by omega
        have HN:=Yd (And.intro hT (And.intro hd (And.intro hz1 hz2)))
        by_cases hlt:k<s.size
        · have hp:=HPP.out;rw [drop_at s k hlt,ps_cons] at hp;have hki:(k:Int)<(s.size:Int):=by omega
          by_cases hD:isD s[k]=true
          · rw [if_pos hD] at hp;have HQ:=Yd hp;have h5:=(isD_iff _).1 hD;have y5:(48:Int) <= (s[k].toNat:Int):=by omega
            have y6:(s[k].toNat:Int) <= 57:=by omega
            have y7:((s[k].toNat:Int) == 46)=false:=Yf (by omega)
            have hT2:(T ++ s.extract k (k+1)).data.toList=T.data.toList ++ [s[k]]:=by rw [sb_app,sb_one s k hlt]
            have hT3:(T ++ s.extract k (k+1)).size=T.size+1:=by rw [<- list_len,hT2,List.length_append,HLT.out]; rfl
            have HT2:=Yd (And.intro hT2 hT3);clear hp HPP h5 hD hT hd hz1 hT2 hT3;go_wp2_with fail;obtain ⟨n1,n2,n3,n4⟩:=HN.out;refine ⟨⟨k+1,T ++ s.extract k (k+1),d,z-d,by omega,by go_num,rfl,rfl,rfl,?_,by rw [HT2.out.2]; omega,by omega,by omega,by omega,by first | trivial | rfl⟩,by simp only [intOf]; omega⟩;rw [HT2.out.1];exact HQ.out
          · rw [if_neg hD] at hp;have h5:¬ (48 <= s[k].toNat∧s[k].toNat <= 57):=fun h=>hD ((isD_iff _).2 h)
            by_cases h46:s[k].toNat=46
            · rw [if_pos h46] at hp;have HQ:=Yd hp;have y5:(s[k].toNat:Int)<48:=by omega
              have y7:((s[k].toNat:Int) == 46)=true:=Yt (by omega)
              clear hp HPP h5 hD hT hd hz1 h46;go_wp2_with fail;obtain ⟨n1,n2,n3,n4⟩:=HN.out;exact ⟨⟨k+1,T,d+1,z,by omega,by go_num,rfl,by go_num,rfl,HQ.out,by omega,by omega,by omega,by omega,by first | trivial | rfl⟩,by simp only [intOf]; omega⟩
            · rw [if_neg h46,<- drop_at s k hlt] at hp;have HQ:=Yd hp.symm;have y7:((s[k].toNat:Int) == 46)=false:=Yf (by omega)
              have v12:((s[k].toNat:Int)<48)∨((48:Int) <= (s[k].toNat:Int)∧(57:Int)<(s[k].toNat:Int)):=by omega
              clear hp HPP h5 hD hT hd hz1 h46
              rcases v12 with v1 | ⟨v1,v2⟩
              all_goals
                go_wp2_with fail;go_meet;obtain ⟨n1,n2,n3,n4⟩:=HN.out;exact ⟨k,T,d,z,hk,rfl,rfl,rfl,rfl,HQ.out,n1,n2,n3,n4,rfl⟩
        · obtain rfl:k=s.size:=by omega
          have hp:=HPP.out;have hnil:s.data.toList.drop s.size=[]:=List.drop_eq_nil_of_le (by rw [HL.out]; exact Nat.le_refl _);have HQ:=Yd (show pS (unsg s.data.toList) ps0=(⟨T.data.toList,d,z⟩,s.data.toList.drop s.size) by rw [<- hp,hnil]; rfl);clear hp hnil HPP hlt hT hd hz1;go_wp2_with fail;go_meet;obtain ⟨n1,n2,n3,n4⟩:=HN.out;exact ⟨s.size,T,d,z,hk,rfl,rfl,rfl,rfl,HQ.out,n1,n2,n3,n4,rfl⟩
    case rest =>
      clear HU hk1;obtain ⟨k,T,d,z,hk,rfl,rfl,rfl,rfl,hp,hT,hd,hz1,hz2,hwr⟩:=hcut;obtain rfl:=hwr.symm;have HLT:=list_len T;have hE:=parts_eq hp;rw [HR.out] at hE;simp only [HLT,HL.out] at hE;have HE:=Yd hE;have hTi:(T.size:Int) <= 1000:=by omega
      have hz3:(-1000000:Int) <= z:=by omega
      have hki:(k:Int) <= (s.size:Int):=by omega
      clear hp hE HLT
      by_cases bad:T.size=0∨30<T.size∨1<d∨40<s.size
      · have hr:=HE.out;rw [if_pos bad] at hr;subst hr
        by_cases q1:T.size=0
        · have f1:((T.size:Int) == 0)=true:=Yt (by omega)
          clear HE bad q1 hT hd hz1 hz2 hz3;go_wp2_with fail;refine bodyPost_ret (results_tmp4 rfl _ _ _) rfl ?_;exact ⟨rfl,rfl⟩
        have f1:((T.size:Int) == 0)=false:=Yf (by omega)
        by_cases q2:30<T.size
        · have f2:(30:Int)<(T.size:Int):=by omega
          clear HE bad q1 hT hd hz1 hz2 hz3;go_wp2_with fail;refine bodyPost_ret (results_tmp4 rfl _ _ _) rfl ?_;exact ⟨rfl,rfl⟩
        have f2:¬ (30:Int)<(T.size:Int):=by omega
        by_cases q3:1<d
        · have f3:(1:Int)<(d:Int):=by omega
          clear HE bad q1 q2 hT hd hz1 hz2 hz3;go_wp2_with fail;refine bodyPost_ret (results_tmp4 rfl _ _ _) rfl ?_;exact ⟨rfl,rfl⟩
        have f3:¬ (1:Int)<(d:Int):=by omega
        have f4:(40:Int)<(s.size:Int):=by omega
        clear HE bad q1 q2 q3 hT hd hz1 hz2 hz3;go_wp2_with fail;refine bodyPost_ret (results_tmp4 rfl _ _ _) rfl ?_;exact ⟨rfl,rfl⟩
      have hr:=HE.out;rw [if_neg bad] at hr;have f1:((T.size:Int) == 0)=false:=Yf (by omega)
      have f2:¬ (30:Int)<(T.size:Int):=by omega
      have f3:¬ (1:Int)<(d:Int):=by omega
      have f4:¬ (40:Int)<(s.size:Int):=by omega
      clear HE bad hT hd hz1
      by_cases hke:k=s.size
      · subst hke;rw [if_pos (List.drop_eq_nil_of_le (by rw [HL.out]; exact Nat.le_refl _))] at hr;subst hr;go_wp2_with fail;refine bodyPost_ret (results_tmp4 rfl _ _ _) rfl ?_;exact ⟨rfl,T,rfl,rfl⟩
      have hlt:k<s.size:=by omega
      rw [drop_at s k hlt,if_neg (by simp),List.drop_succ_cons,List.drop_zero] at hr;have g1:((k:Int) == (s.size:Int))=false:=Yf (by omega)
      have hlti:(k:Int)<(s.size:Int):=by omega
      by_cases hne:¬ (s[k].toNat=101∨s[k].toNat=69)
      · have he2:=not_or.1 hne;rw [exp_no he2.1 he2.2,if_neg (by decide)] at hr;subst hr;have g2:((s[k].toNat:Int) != 101)=true:=by rw [bne_iff_ne]; omega
        have g3:((s[k].toNat:Int) != 69)=true:=by rw [bne_iff_ne]; omega
        clear hne he2 hke;go_wp2_with fail;refine bodyPost_ret (results_tmp4 rfl _ _ _) rfl ?_;exact ⟨rfl,rfl⟩
      have he:s[k].toNat=101∨s[k].toNat=69:=Decidable.not_not.1 hne;rw [exp_e he] at hr;obtain ⟨j,hj⟩:∃ j,k+1=j:=⟨_,rfl⟩;rw [hj] at hr;have hji:(k:Int)+1=(j:Int):=by omega
      have hjs:j <= s.size:=by omega
      have HRR:=Yd hr;have HJJ:=Yd hj;have v12:(((s[k].toNat:Int) != 101)=false∧((s[k].toNat:Int) == 101)=true)∨(((s[k].toNat:Int) != 101)=true∧((s[k].toNat:Int) == 101)=false∧((s[k].toNat:Int) != 69)=false∧((s[k].toNat:Int) == 69)=true):=by
        rcases he with h | h
        · left;refine ⟨?_,?_⟩
          · rw [bne_eq_false_iff_eq]; omega
          · rw [beq_iff_eq]; omega
        · right;refine ⟨?_,?_,?_,?_⟩
          · rw [bne_iff_ne]; omega
          · rw [beq_eq_false_iff_ne]; omega
          · rw [bne_eq_false_iff_eq]; omega
          · rw [beq_iff_eq]; omega
      clear hne he hke hr hj;have hend:∀ q:List UInt8,exR (s.data.toList.drop j)=q -> okE q=false -> R=none:=fun q h1 h2=>by
        have:=HRR.out;rw [h1,h2,if_neg (by decide)] at this;exact this
      have HEN:=Yd hend;clear hend
      rcases v12 with ⟨x1,x2⟩ | ⟨x1,x2,x3,x4⟩
      all_goals
        go_upto_region 20 with (fail)
        by_cases hjz:j=s.size
        · have hR0:=HEN.out [] (by rw [List.drop_eq_nil_of_le (by rw [HL.out]; omega)]; rfl) rfl;subst hR0;subst hjz;go_wp2_with fail;refine bodyPost_ret (results_tmp4 rfl _ _ _) rfl ?_;exact ⟨rfl,rfl⟩
        have hjl:j<s.size:=by omega
        have hjli:(j:Int)<(s.size:Int):=by omega
        have hdj:=drop_at s j hjl;have v3:∃ (i:Nat) (b2:Bool),i <= s.size∧j <= i∧exR (s.data.toList.drop j)=s.data.toList.drop i∧exV (s.data.toList.drop j)=(if b2 then -(eL (s.data.toList.drop i) 0:Int) else (eL (s.data.toList.drop i) 0:Int)) ∧
            ((i=j+1∧b2=true∧((s[j].toNat:Int) == 45)=true)∨(i=j+1∧b2=false∧((s[j].toNat:Int) == 45)=false∧((s[j].toNat:Int) == 43)=true)∨(i=j∧b2=false∧((s[j].toNat:Int) == 45)=false∧((s[j].toNat:Int) == 43)=false)):=by
          by_cases h1:s[j].toNat=45
          · have e:s[j]=45:=UInt8.toNat_inj.1 h1;rw [hdj,e];exact ⟨j+1,true,by omega,by omega,(ex_45 _).1,(ex_45 _).2,.inl ⟨rfl,rfl,rfl⟩⟩
          by_cases h2:s[j].toNat=43
          · have e:s[j]=43:=UInt8.toNat_inj.1 h2;rw [hdj,e];exact ⟨j+1,false,by omega,by omega,(ex_43 _).1,(ex_43 _).2,.inr (.inl ⟨rfl,rfl,rfl,rfl⟩)⟩
          rw [hdj];refine ⟨j,false,by omega,by omega,by rw [hdj]; exact (ex_else _ h1 h2).1,by rw [hdj]; exact (ex_else _ h1 h2).2,.inr (.inr ⟨rfl,rfl,?_,?_⟩)⟩
          · rw [beq_eq_false_iff_ne]; omega
          · rw [beq_eq_false_iff_ne]; omega
        obtain ⟨i,b2,his,hji2,hxr,hxv,v3⟩:=v3;have HX:=Yd (And.intro hxr hxv);clear hxr hxv hdj hjz;have hfin:R=if okE (s.data.toList.drop i) then some (T.data.toList,z+(if b2 then -(eL (s.data.toList.drop i) 0:Int) else (eL (s.data.toList.drop i) 0:Int))) else none:=by
          have:=HRR.out;rw [HX.out.1,HX.out.2] at this;exact this
        have HF:=Yd hfin;clear hfin HEN HRR HX HJJ;have hii:(i:Int) <= (s.size:Int):=by omega
        obtain ⟨q,hq⟩:∃ q,s.size-i=q:=⟨_,rfl⟩;have hqi:(s.size:Int)-(i:Int)=(q:Int):=by omega
        have hDl:(s.data.toList.drop i).length=q:=by rw [List.length_drop,HL.out,hq]
        have HDL:=Yd hDl;clear hDl
        rcases v3 with ⟨hi,rfl,w1⟩ | ⟨hi,rfl,w1,w2⟩ | ⟨hi,rfl,w1,w2⟩
        all_goals
          first
            | (have hi3:(j:Int)+1=(i:Int):=by omega)
            | (have hij:i=j:=by omega
               subst hij)
          clear hi;go_upto_region 24 with (fail)
          by_cases hbad:q=0∨3<q
          · have hR0:R=none:=by
              rw [HF.out,if_neg (fun h=>by have:=okE_len h; rw [HDL.out] at this; omega)]
            subst hR0;clear HF HDL
            rcases hbad with h0 | h3
            · have e1:((i:Int) == (s.size:Int))=true:=Yt (by omega)
              go_wp2_with fail;refine bodyPost_ret (results_tmp4 rfl _ _ _) rfl ?_;exact ⟨rfl,rfl⟩
            · have e1:((i:Int) == (s.size:Int))=false:=Yf (by omega)
              have e2:(3:Int)<(q:Int):=by omega
              go_wp2_with fail;refine bodyPost_ret (results_tmp4 rfl _ _ _) rfl ?_;exact ⟨rfl,rfl⟩
          have e1:((i:Int) == (s.size:Int))=false:=Yf (by omega)
          have e2:(q:Int) <= 3:=by omega
          have e3:¬ (3:Int)<(q:Int):=by omega
          have q3:q <= 3:=by omega
          have q1:1 <= q:=by omega
          clear hbad;go_wp2_with fail
          go_loopw [7,12] (fun s7 s12 wr=>∃ t n:Nat,i <= t∧t <= s.size∧s7 = .int .i64 t∧s12 = .int .i64 n∧eL (s.data.toList.drop t) n=eL (s.data.toList.drop i) 0∧dgs (s.data.toList.drop i)=(t-i)+dgs (s.data.toList.drop t)∧n<10 ^ (t-i)∧wr=w) (fun s7 _ _=>s.size-(intOf s7).toNat)
          case atStart=>exact ⟨i,0,Nat.le_refl _,his,rfl,rfl,rfl,by omega,by rw [Nat.sub_self]; decide,rfl⟩
          case round =>
            obtain ⟨t,n,hit,hts,rfl,rfl,hv,hdg,hnp,hwr⟩:=hrel;obtain rfl:=hwr.symm;have hp3:(10:Nat) ^ (t-i) <= 10 ^ 3:=Nat.pow_le_pow_right (by decide) (by omega);have hn9:n <= 999:=by omega
            have hn9i:(n:Int) <= 999:=by omega
            have HV:=Yd (And.intro hv (And.intro hdg hnp));clear hv hdg hnp hp3
            by_cases htl:t<s.size
            · have htli:(t:Int)<(s.size:Int):=by omega
              have hdt:=drop_at s t htl
              by_cases hD:isD s[t]=true
              · have h5:=(isD_iff _).1 hD;have y5:(48:Int) <= (s[t].toNat:Int):=by omega
                have y6:(s[t].toNat:Int) <= 57:=by omega
                obtain ⟨m,hm⟩:∃ m,s[t].toNat-48=m:=⟨_,rfl⟩;have hmi:(s[t].toNat:Int)-48=(m:Int):=by omega
                have hm9:(m:Int) <= 9:=by omega
                have hnew:eL (s.data.toList.drop (t+1)) (n*10+m)=eL (s.data.toList.drop i) 0∧dgs (s.data.toList.drop i)=(t+1-i)+dgs (s.data.toList.drop (t+1))∧n*10+m<10 ^ (t+1-i):=by
                  obtain ⟨h1,h2,h3⟩:=HV.out;rw [hdt] at h1 h2;rw [dgs_cons,if_pos hD] at h2;refine ⟨?_,by omega,?_⟩
                  · rw [<- h1,<- hm]; try rfl
                  · rw [show t+1-i=t-i+1 by omega,Nat.pow_succ];omega
                have HNW:=Yd hnew;clear hnew hm h5 hD hdt HV;go_wp2_with fail;exact ⟨⟨t+1,n*10+m,by omega,by omega,by go_num,by go_num,HNW.out.1,HNW.out.2.1,HNW.out.2.2,by first | trivial | rfl⟩,by simp only [intOf]; omega⟩
              · have hR0:R=none:=by
                  rw [HF.out,if_neg (fun h => ?_)];obtain ⟨h1,h2,h3⟩:=HV.out;rw [hdt,dgs_cons,if_neg hD] at h2;unfold okE at h;simp only [Bool.and_eq_true,decide_eq_true_eq,HDL.out] at h;omega
                subst hR0;have h5:¬ (48 <= s[t].toNat∧s[t].toNat <= 57):=fun h=>hD ((isD_iff _).2 h);have u12:((s[t].toNat:Int)<48)∨((48:Int) <= (s[t].toNat:Int)∧(57:Int)<(s[t].toNat:Int)):=by omega
                clear h5 hD hdt HV HF
                rcases u12 with u1 | ⟨u1,u2⟩
                all_goals
                  go_wp2_with fail;refine bodyPost_ret (results_tmp4 rfl _ _ _) rfl ?_;exact ⟨rfl,rfl⟩
            · obtain rfl:t=s.size:=by omega
              have hnil:s.data.toList.drop s.size=[]:=List.drop_eq_nil_of_le (by rw [HL.out]; exact Nat.le_refl _);have hv2:=HV.out;rw [hnil] at hv2;have hok:okE (s.data.toList.drop i)=true:=by
                unfold okE;simp only [Bool.and_eq_true,decide_eq_true_eq,HDL.out];have h2:=hv2.2.1;have h3:dgs []=0:=rfl;omega
              have hvn:eL (s.data.toList.drop i) 0=n:=hv2.1.symm;have hRf:=HF.out;rw [if_pos hok,hvn] at hRf;simp only [reduceIte,Bool.false_eq_true] at hRf;subst hRf;clear hv2 hnil hok hvn HV HF htl;go_wp2_with fail;refine bodyPost_ret (results_tmp4 rfl _ _ _) rfl ?_;exact ⟨rfl,T,rfl,rfl⟩
end Go.Proofs.YtcbgkbidgpemfaaGreatDoor.rg
