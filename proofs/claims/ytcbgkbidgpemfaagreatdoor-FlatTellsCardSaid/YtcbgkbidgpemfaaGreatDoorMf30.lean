/- The walk of the reference's Lex: its answer is lexRes, too. Condition: the text is within the reach. -/
import Derived.Test.YtcbgkbidgpemfaaGreatDoorMf00
import Derived.Test.YtcbgkbidgpemfaaGreatDoorMf29
set_option maxRecDepth 100000
set_option maxHeartbeats 20000000
namespace Go.Proofs.YtcbgkbidgpemfaaGreatDoor.lexw
open Go.RowKit
open lexm
def lastK (ts:List Tok):Nat:=(ts.getLast?.map Tok.kind).getD 4
theorem lastK_snoc (ts:List Tok) (t:Tok):lastK (ts ++ [t])=t.kind:=by simp [lastK]
def RefAt (s:ByteArray) (w:World) (o a:Value) (wr:World) (ts:List Tok) (k kl:Nat):Prop :=
 k <= s.size∧kl <= 4∧a = .int .i64 k∧lexT s.data.toList 0 4=ts.map (fun t=>(t,true)) ++ lexT (s.data.toList.drop k) k kl∧wr.ownsRow w.heap.size 27 3 o ts.length (cellsOf ts)∧lastK ts=kl∧ts.length <= k∧Below w.heap.size w wr
theorem lexRes_bad (l:List UInt8) (h:¬ 1048576<l.length) (ts:List Tok) (t:Tok) (hl:lexT l 0 4=ts.map (fun t=>(t,true)) ++ [(t,false)]):lexRes l=([],t.pos,150):=by
 unfold lexRes;rw [if_neg h,hl,errOf_app];rfl
theorem lexRes_end (l:List UInt8) (h:¬ 1048576<l.length) (ts:List Tok) (i kl:Nat) (hl:lexT l 0 4=ts.map (fun t=>(t,true)) ++ if kl=4 then [] else [(⟨4,i,[]⟩,true)]) :
  lexRes l=if kl=4 then (ts,0,0) else (ts ++ [⟨4,i,[]⟩],0,0):=by
 unfold lexRes;rw [if_neg h,hl,errOf_app,toksOf_app]
 by_cases h4:kl=4
 ·rw [if_pos h4,if_pos h4]; simp [errOf,toksOf]
 ·rw [if_neg h4,if_neg h4]; simp [errOf,toksOf]
theorem last_cell {W:World} {base:Nat} {e:TypeId} {va:Option Addr} {vc:Nat} {ts:List Tok} (h:W.ownsRow base e 3 (.slice va ts.length vc) ts.length (cellsOf ts)) (h0:ts≠[]) :
  ∃ g,va=some ⟨g,0,none⟩∧W.cell? ⟨g,(ts.length-1)*3,none⟩=some (.int .u8 (lastK ts)):=by
 obtain ⟨ts',t,rfl⟩:∃ ts' t,ts=ts' ++ [t]:=⟨ts.dropLast,ts.getLast h0,(List.dropLast_concat_getLast h0).symm⟩
 rcases h.2 with ⟨hv,hn⟩ | ⟨g,cap,cur,hv,_,hgg,_⟩
 ·simp at hn
 ·injection hv with hv;subst hv;refine ⟨g,rfl,?_⟩;have hc:=h.cells (g:=g) rfl ((ts'.length)*3) (.int .u8 t.kind) (by
   rw [cellsOf_snoc,List.getElem?_append_right (by rw [cellsOf_length]; omega),cellsOf_length,Nat.sub_self]; rfl)
  have hadd:(⟨g,0,none⟩:Addr).add (ts'.length*3)=⟨g,ts'.length*3,none⟩:=by unfold Addr.add; split <;> simp_all
  rw [hadd] at hc;rw [lastK_snoc];simpa using hc
theorem ref_tok {s:ByteArray} {w wo w1:World} {o v' a:Value} {tmp:Obj} {ts:List Tok} {k kl kk nn m:Nat} (hm:m=k+nn) (hpre:lexT s.data.toList 0 4=ts.map (fun t=>(t,true)) ++ lexT (s.data.toList.drop k) k kl)
  (hne:s.data.toList.drop k≠[]) (hq:firstL (s.data.toList.drop k)=(kk,nn,true)) (hkk:kk≠0) (hk4:kk <= 4) (hown:wo.ownsRow w.heap.size 27 3 o ts.length (cellsOf ts))
  (hown':w1.ownsRow w.heap.size 27 3 v' (ts.length+1) (cellsOf ts ++ [.int .u8 kk,.int .i64 k,.string (s.extract k m)])) (hgrow:(wo.alloc tmp).grownBy w1 o.ownBlock) (hB:Below w.heap.size w wo)
  (hle:m <= s.size) (hlen:ts.length <= k) (ha:a = .int .i64 m):∃ ts k kl,RefAt s w v' a w1 ts k kl:=by
 subst hm;have hn1:=firstL_pos hne (.inl (by rw [hq]));rw [hq] at hn1;simp only at hn1;refine ⟨ts ++ [⟨kk,k,(s.data.toList.drop k).take nn⟩],k+nn,kk,hle,hk4,ha,?_,?_,lastK_snoc _ _,by simp; omega,?_⟩
 ·rw [hpre,lexT_tok hne hq hkk,List.drop_drop];simp
 ·rw [cellsOf_snoc,List.length_append];rw [tok_text] at hown';exact hown'
 ·refine (hB.alloc hB.size tmp).grown hgrow (by have:=hB.size; simp; omega) (fun j ej=>(hown.lt j ej).1)
theorem reflex_any (s:ByteArray) (hs:s.size <= maxLen) (w:World):Calls Tryz.prog 42 #[.string s] w (LexPost w (lexRes s.data.toList)):=by
 have hsL:=hs;unfold maxLen at hs;have hsz:s.data.toList.length=s.size:=by simp
 by_cases hlong:1048576<s.size
 ·obtain ⟨r,hr⟩:∃ r,lexRes s.data.toList=r:=⟨_,rfl⟩;rw [hr];unfold lexRes at hr;rw [hsz,if_pos hlong] at hr;subst hr;clear hsz;go_enter Tryz.func42,Tryz.ntmps42;go_wp2;go_ret3;exact ⟨_,rfl,⟨by simp [cellsOf],.inl ⟨rfl,rfl⟩⟩,Below.refl _ _⟩
 ·have hl:decide (1048576<(s.size:Int))=false:=by rw [decide_eq_false_iff_not]; omega
  have HZ:=Yd hsz;clear hsz;obtain ⟨i0,hi,hz0,hz1,hz2⟩:=info_parts Tryz.tokInfo;go_enter Tryz.func42,Tryz.ntmps42;go_wp2
  go_loopw [5,6] (fun o a wr=>∃ (ts:List Tok) (k kl:Nat),RefAt s w o a wr ts k kl) (fun _ a _=>s.size-(intOf a).toNat)
  case atStart=>exact ⟨[],0,4,Nat.zero_le _,Nat.le_refl _,rfl,rfl,World.ownsRow_nil _ _ _ _,rfl,Nat.le_refl _,Below.refl _ _⟩
  case round =>
   obtain ⟨ts,k,kl,hk,hkl,rfl,hpre,hown,hlast,hlen,hB⟩:=hrel;obtain ⟨wo,rfl⟩:∃ wo:World,wo=wr:=⟨_,rfl⟩;have HP:=Yd hpre;have HA:=Yd hlast;clear hpre hlast
   by_cases hlt:k<s.size
   ·have h255:=byte_le s k hlt;obtain ⟨q,hq⟩:∃ q,firstL (s.data.toList.drop k)=q:=⟨_,rfl⟩;have hle:=firstL_le (s.data.toList.drop k);have hkd:=firstL_kind (s.data.toList.drop k);have hpo:=firstL_pos (l:=s.data.toList.drop k) (by intro h; have:=congrArg List.length h; simp at this; omega);have hne:s.data.toList.drop k≠[]:=by intro h; have:=congrArg List.length h; simp at this; omega
    rw [hq] at hle hkd hpo;rw [List.length_drop,HZ.out] at hle;have hq2:=hq;rw [drop_cons s k hlt] at hq2;simp only [firstL] at hq2;rw [<- drop_cons s k hlt] at hq2
    by_cases c32:s[k].toNat=32
    ·rw [if_pos c32] at hq2;subst hq2;have HQ:=Yd hq;clear hq hpo;go_wp2;go_roundw
     case rel=>exact ⟨ts,k+1,kl,by omega,hkl,by go_num,by rw [HP.out,lexT_skip hne HQ.out,List.drop_drop],hown,HA.out,by omega,hB⟩
     case measure=>simp [intOf]; omega
    rw [if_neg c32] at hq2
    by_cases c35:s[k].toNat=35
    ·rw [if_pos c35] at hq2;have hr0:=runL_pos (p:=remI) (r:=s.data.toList.drop (k+1)) (show remI s[k].toNat=true by rw [c35]; rfl);rw [<- drop_cons s k hlt] at hr0;subst hq2;have HQ:=Yd hq;have HR:=Yd hr0;clear hq hpo hr0;go_wp2
     as_aux_lemma =>
      go_loop [8] (fun e=>∃ m:Nat,k+1 <= m∧m <= s.size∧e = .int .i64 m∧runL remI (s.data.toList.drop k)+k=runL remI (s.data.toList.drop m)+m) (fun e=>s.size-(intOf e).toNat)
      case atStart=>exact ⟨k+1,by omega,by omega,by go_num,by rw [HR.out]; omega⟩
      case round =>
       obtain ⟨m,hm1,hm2,rfl,hrm⟩:=hrel;have HM:=Yd hrm;clear hrm
       by_cases hmt:m<s.size
       ·by_cases hp:s[m].toNat=10
        ·have h2:=runL_neg (p:=remI) (r:=s.data.toList.drop (m+1)) (show remI s[m].toNat=false by rw [hp]; rfl);rw [<- drop_cons s m hmt] at h2;have H2:=Yd h2;have hpb:((s[m].toNat:Int) != 10)=false:=by rw [bne_eq_false_iff_eq]; omega
         clear h2 hp;go_wp2;go_roundw
         case rel=>exact ⟨ts,m,kl,by omega,hkl,rfl,by rw [HP.out,lexT_skip hne HQ.out,List.drop_drop,show k+runL remI (s.data.toList.drop k)=m from by have:=HM.out; rw [H2.out] at this; omega],hown,HA.out,by omega,hB⟩
         case measure=>simp [intOf]; omega
        ·have h2:=runL_pos (p:=remI) (r:=s.data.toList.drop (m+1)) (show remI s[m].toNat=true by simp [remI]; omega);rw [<- drop_cons s m hmt] at h2;have H2:=Yd h2;have hpb:((s[m].toNat:Int) != 10)=true:=by rw [bne_iff_ne]; omega
         clear h2 hp;go_wp2
         go_round
         case rel=>exact ⟨m+1,by omega,by omega,by go_num,by have:=HM.out; rw [H2.out] at this; omega⟩
         case measure=>simp [intOf]; omega
       ·have h2:=drop_end s m (by omega);have H2:=Yd h2;clear h2;go_wp2;go_roundw
        case rel=>exact ⟨ts,m,kl,by omega,hkl,rfl,by rw [HP.out,lexT_skip hne HQ.out,List.drop_drop,show k+runL remI (s.data.toList.drop k)=m from by have:=HM.out; rw [H2.out,runL] at this; omega],hown,HA.out,by omega,hB⟩
        case measure=>simp [intOf]; omega
    rw [if_neg c35] at hq2
    by_cases c10:s[k].toNat=10
    ·rw [if_pos c10] at hq2;subst hq2;have HQ:=Yd hq;have b32:((s[k].toNat:Int) == 32)=false:=Yf (by omega)
     have b35:((s[k].toNat:Int) == 35)=false:=Yf (by omega)
     have b10:((s[k].toNat:Int) == 10)=true:=Yt (by omega)
     clear hq hpo c10 c32 c35;have hke:k+1 <= s.size:=by omega
     go_wp2_with (at_builtin; go_loud (refine wpList_append_own _ rfl _ _ 22 rfl w.heap.size 27 i0 _ 3 32 Tryz.underlying22 hi hz0 hz1 hz2 rfl (by decide) _ _ _ rfl (hown.alloc _) ⟨wo.heap.size,0,none⟩ 1 1 [.int .u8 4,.int .i64 k,.string (s.extract k (k+1))] rfl rfl (cells_new _ _ _) (by simp [Value.oneCell']) (by unfold maxLen; omega) (by omega) (by have:=hB.size; simp; omega) ?_); intro v' w1 hown' hgrow _);exact ⟨ref_tok rfl HP.out hne HQ.out (by omega) (by omega) hown hown' hgrow hB (by omega) hlen (by go_num),by simp [intOf]; omega⟩
    rw [if_neg c10] at hq2
    by_cases c61:s[k].toNat=61
    ·rw [if_pos c61] at hq2;subst hq2;have HQ:=Yd hq;have b32:((s[k].toNat:Int) == 32)=false:=Yf (by omega)
     have b35:((s[k].toNat:Int) == 35)=false:=Yf (by omega)
     have b10:((s[k].toNat:Int) == 10)=false:=Yf (by omega)
     have b61:((s[k].toNat:Int) == 61)=true:=Yt (by omega)
     clear hq hpo c10 c32 c35 c61;have hke:k+1 <= s.size:=by omega
     go_wp2_with (at_builtin; refine wpList_append_own _ rfl _ _ 22 rfl w.heap.size 27 i0 _ 3 32 Tryz.underlying22 hi hz0 hz1 hz2 rfl (by decide) _ _ _ rfl (hown.alloc _) ⟨wo.heap.size,0,none⟩ 1 1 [.int .u8 3,.int .i64 k,.string (s.extract k (k+1))] rfl rfl (cells_new _ _ _) (by simp [Value.oneCell']) (by unfold maxLen; omega) (by omega) (by have:=hB.size; simp; omega) ?_; intro v' w1 hown' hgrow _);exact ⟨ref_tok rfl HP.out hne HQ.out (by omega) (by omega) hown hown' hgrow hB (by omega) hlen (by go_num),by simp [intOf]; omega⟩
    rw [if_neg c61] at hq2;have b32:((s[k].toNat:Int) == 32)=false:=Yf (by omega)
    have b35:((s[k].toNat:Int) == 35)=false:=Yf (by omega)
    have b10:((s[k].toNat:Int) == 10)=false:=Yf (by omega)
    have b61:((s[k].toNat:Int) == 61)=false:=Yf (by omega)
    clear c32 c35 c10 c61
    by_cases cl:ltrI s[k].toNat=true
    ·rw [if_pos cl] at hq2;have hr0:=runL_pos (p:=namI) (r:=s.data.toList.drop (k+1)) (ltr_nam cl);rw [<- drop_cons s k hlt] at hr0;obtain ⟨R,hR⟩:∃ R,runL namI (s.data.toList.drop k)=R:=⟨_,rfl⟩;rw [hR] at hq2 hr0;subst hq2;have HQ:=Yd hq;have HR:=Yd hr0;have HRR:=Yd hR;have Hl:=Yd cl;simp only at hle;clear hq hpo hr0 hR cl;go_wp2_with (go_at_call 68; refine (rletter_any _ _).mono ?_; rw [Hl.out]; rintro e w' ⟨rfl,rfl⟩)
     as_aux_lemma =>
      go_loop [8] (fun e=>∃ m:Nat,k+1 <= m∧m <= s.size∧e = .int .i64 m∧R+k=runL namI (s.data.toList.drop m)+m) (fun e=>s.size-(intOf e).toNat)
      case atStart=>exact ⟨k+1,by omega,by omega,by go_num,by rw [HR.out]; omega⟩
      case round =>
       obtain ⟨m,hm1,hm2,rfl,hrm⟩:=hrel;have HM:=Yd hrm;clear hrm
       by_cases hmt:m<s.size
       ·cases hml:ltrI s[m].toNat with
        | true =>
         have h2:=runL_pos (p:=namI) (r:=s.data.toList.drop (m+1)) (ltr_nam hml);rw [<- drop_cons s m hmt] at h2;have H2:=Yd h2;have Ml:=Yd hml;clear h2 hml;go_wp2_with (go_at_call 68; refine (rletter_any _ _).mono ?_; rw [Ml.out]; rintro e w' ⟨rfl,rfl⟩)
         go_round
         case rel=>exact ⟨m+1,by omega,by omega,by go_num,by have:=HM.out; rw [H2.out] at this; omega⟩
         case measure=>simp [intOf]; omega
        | false =>
         cases hmd:digI s[m].toNat with
         | true =>
          have h2:=runL_pos (p:=namI) (r:=s.data.toList.drop (m+1)) (show namI s[m].toNat=true by simp [namI,hmd]);rw [<- drop_cons s m hmt] at h2;have H2:=Yd h2;have Ml:=Yd hml;have Md:=Yd hmd;clear h2 hml hmd;go_wp2_with (first | (go_at_call 68; refine (rletter_any _ _).mono ?_; rw [Ml.out]; rintro e w' ⟨rfl,rfl⟩) | (go_at_call 69; refine (rdigit_any _ _).mono ?_; rw [Md.out]; rintro e w' ⟨rfl,rfl⟩))
          go_round
          case rel=>exact ⟨m+1,by omega,by omega,by go_num,by have:=HM.out; rw [H2.out] at this; omega⟩
          case measure=>simp [intOf]; omega
         | false =>
          have h2:=runL_neg (p:=namI) (r:=s.data.toList.drop (m+1)) (show namI s[m].toNat=false by simp [namI,hmd,hml]);rw [<- drop_cons s m hmt] at h2;have H2:=Yd h2;have Ml:=Yd hml;have Md:=Yd hmd;clear h2 hml hmd;have hR0:R=m-k:=by have:=HM.out; rw [H2.out] at this; omega
          have hmk:k+(m-k)=m:=by omega
          subst hR0
          by_cases hb:m-k <= 32
          ·have hb':(m:Int)-k <= 32:=by omega
           have HQ2:Hid (firstL (s.data.toList.drop k)=(1,m-k,true)):=by have:=HQ.out; rw [decide_eq_true hb] at this; exact this
           clear hb;go_wp2_with (first | (go_at_call 68; refine (rletter_any _ _).mono ?_; rw [Ml.out]; rintro e w' ⟨rfl,rfl⟩) | (go_at_call 69; refine (rdigit_any _ _).mono ?_; rw [Md.out]; rintro e w' ⟨rfl,rfl⟩) | (at_builtin; refine wpList_append_own _ rfl _ _ 22 rfl w.heap.size 27 i0 _ 3 32 Tryz.underlying22 hi hz0 hz1 hz2 rfl (by decide) _ _ _ rfl (hown.alloc _) ⟨wo.heap.size,0,none⟩ 1 1 [.int .u8 1,.int .i64 k,.string (s.extract k m)] rfl rfl (cells_new _ _ _) (by simp [Value.oneCell']) (by unfold maxLen; omega) (by omega) (by have:=hB.size; simp; omega) ?_; intro v' w1 hown' hgrow _));exact ⟨ref_tok hmk.symm HP.out hne HQ2.out (by omega) (by omega) hown hown' hgrow hB (by omega) hlen rfl,by simp [intOf]; omega⟩
          ·have hb':32<(m:Int)-k:=by omega
           have HQ2:Hid (firstL (s.data.toList.drop k)=(1,m-k,false)):=by have:=HQ.out; rw [decide_eq_false hb] at this; exact this
           have HF:=Yd (lexRes_bad s.data.toList (by rw [HZ.out]; exact hlong) ts _ (by rw [HP.out,lexT_bad hne HQ2.out]));clear hb;go_wp2_with (first | (go_at_call 68; refine (rletter_any _ _).mono ?_; rw [Ml.out]; rintro e w' ⟨rfl,rfl⟩) | (go_at_call 69; refine (rdigit_any _ _).mono ?_; rw [Md.out]; rintro e w' ⟨rfl,rfl⟩));go_ret3;rw [HF.out];exact ⟨_,rfl,⟨by simp [cellsOf],.inl ⟨rfl,rfl⟩⟩,hB⟩
       ·have h2:=drop_end s m (by omega);have h3:runL namI (s.data.toList.drop m)=0:=by rw [h2]; rfl
        have H2:=Yd h3;clear h2 h3;have hR0:R=m-k:=by have:=HM.out; rw [H2.out] at this; omega
        have hmk:k+(m-k)=m:=by omega
        subst hR0
        by_cases hb:m-k <= 32
        ·have hb':(m:Int)-k <= 32:=by omega
         have HQ2:Hid (firstL (s.data.toList.drop k)=(1,m-k,true)):=by have:=HQ.out; rw [decide_eq_true hb] at this; exact this
         clear hb;go_wp2_with (first | (at_builtin; refine wpList_append_own _ rfl _ _ 22 rfl w.heap.size 27 i0 _ 3 32 Tryz.underlying22 hi hz0 hz1 hz2 rfl (by decide) _ _ _ rfl (hown.alloc _) ⟨wo.heap.size,0,none⟩ 1 1 [.int .u8 1,.int .i64 k,.string (s.extract k m)] rfl rfl (cells_new _ _ _) (by simp [Value.oneCell']) (by unfold maxLen; omega) (by omega) (by have:=hB.size; simp; omega) ?_; intro v' w1 hown' hgrow _));exact ⟨ref_tok hmk.symm HP.out hne HQ2.out (by omega) (by omega) hown hown' hgrow hB (by omega) hlen rfl,by simp [intOf]; omega⟩
        ·have hb':32<(m:Int)-k:=by omega
         have HQ2:Hid (firstL (s.data.toList.drop k)=(1,m-k,false)):=by have:=HQ.out; rw [decide_eq_false hb] at this; exact this
         have HF:=Yd (lexRes_bad s.data.toList (by rw [HZ.out]; exact hlong) ts _ (by rw [HP.out,lexT_bad hne HQ2.out]));clear hb;go_wp2;go_ret3;rw [HF.out];exact ⟨_,rfl,⟨by simp [cellsOf],.inl ⟨rfl,rfl⟩⟩,hB⟩
    rw [if_neg cl] at hq2;rw [Bool.not_eq_true] at cl;have Hl:=Yd cl;clear cl
    by_cases cd:(digI s[k].toNat || (s[k].toNat:Int) == 45 || (s[k].toNat:Int) == 46)=true
    ·rw [if_pos cd] at hq2;have hr0:=runL_pos (p:=numI) (r:=s.data.toList.drop (k+1)) (dig_num cd);rw [<- drop_cons s k hlt] at hr0;obtain ⟨R,hR⟩:∃ R,runL numI (s.data.toList.drop k)=R:=⟨_,rfl⟩;rw [hR] at hq2 hr0;subst hq2;have HQ:=Yd hq;have HR:=Yd hr0;have HRR:=Yd hR;simp only at hle;clear hq hpo hr0 hR
     cases hdk:digI s[k].toNat with
     | true =>
      have Hd:=Yd hdk;clear hdk cd;go_wp2_with (first | (go_at_call 68; refine (rletter_any _ _).mono ?_; rw [Hl.out]; rintro e w' ⟨rfl,rfl⟩) | (go_at_call 69; refine (rdigit_any _ _).mono ?_; rw [Hd.out]; rintro e w' ⟨rfl,rfl⟩))
      as_aux_lemma =>
       go_loop [8] (fun e=>∃ m:Nat,k+1 <= m∧m <= s.size∧e = .int .i64 m∧R+k=runL numI (s.data.toList.drop m)+m) (fun e=>s.size-(intOf e).toNat)
       case atStart=>exact ⟨k+1,by omega,by omega,by go_num,by rw [HR.out]; omega⟩
       case round =>
        obtain ⟨m,hm1,hm2,rfl,hrm⟩:=hrel;have HM:=Yd hrm;clear hrm
        by_cases hmt:m<s.size
        ·cases hml:ltrI s[m].toNat with
         | true =>
          by_cases h95:s[m].toNat=95
          ·have hmd:digI s[m].toNat=false:=by rw [h95]; rfl
           have h2:=runL_neg (p:=numI) (r:=s.data.toList.drop (m+1)) (show numI s[m].toNat=false by rw [h95]; rfl);rw [<- drop_cons s m hmt] at h2;have H2:=Yd h2;clear h2;have n95:((s[m].toNat:Int) != 95)=false:=by rw [bne_eq_false_iff_eq]; omega
           have n45:((s[m].toNat:Int) == 45)=false:=Yf (by omega)
           have n43:((s[m].toNat:Int) == 43)=false:=Yf (by omega)
           have n46:((s[m].toNat:Int) == 46)=false:=Yf (by omega)
           have Ml:=Yd hml;have Md:=Yd hmd;clear hml hmd h95;have hR0:R=m-k:=by have:=HM.out; rw [H2.out] at this; omega
           have hmk:k+(m-k)=m:=by omega
           subst hR0
           by_cases hb:m-k <= 40
           ·have hb':(m:Int)-k <= 40:=by omega
            have HQ2:Hid (firstL (s.data.toList.drop k)=(2,m-k,true)):=by have:=HQ.out; rw [decide_eq_true hb] at this; exact this
            clear hb;go_wp2_with (first | (go_at_call 68; refine (rletter_any _ _).mono ?_; rw [Ml.out]; rintro e w' ⟨rfl,rfl⟩) | (go_at_call 69; refine (rdigit_any _ _).mono ?_; rw [Md.out]; rintro e w' ⟨rfl,rfl⟩) | (at_builtin; refine wpList_append_own _ rfl _ _ 22 rfl w.heap.size 27 i0 _ 3 32 Tryz.underlying22 hi hz0 hz1 hz2 rfl (by decide) _ _ _ rfl (hown.alloc _) ⟨wo.heap.size,0,none⟩ 1 1 [.int .u8 2,.int .i64 k,.string (s.extract k m)] rfl rfl (cells_new _ _ _) (by simp [Value.oneCell']) (by unfold maxLen; omega) (by omega) (by have:=hB.size; simp; omega) ?_; intro v' w1 hown' hgrow _));exact ⟨ref_tok hmk.symm HP.out hne HQ2.out (by omega) (by omega) hown hown' hgrow hB (by omega) hlen rfl,by simp [intOf]; omega⟩
           ·have hb':40<(m:Int)-k:=by omega
            have HQ2:Hid (firstL (s.data.toList.drop k)=(2,m-k,false)):=by have:=HQ.out; rw [decide_eq_false hb] at this; exact this
            have HF:=Yd (lexRes_bad s.data.toList (by rw [HZ.out]; exact hlong) ts _ (by rw [HP.out,lexT_bad hne HQ2.out]));clear hb;go_wp2_with (first | (go_at_call 68; refine (rletter_any _ _).mono ?_; rw [Ml.out]; rintro e w' ⟨rfl,rfl⟩) | (go_at_call 69; refine (rdigit_any _ _).mono ?_; rw [Md.out]; rintro e w' ⟨rfl,rfl⟩));go_ret3;rw [HF.out];exact ⟨_,rfl,⟨by simp [cellsOf],.inl ⟨rfl,rfl⟩⟩,hB⟩
          ·have n95:((s[m].toNat:Int) != 95)=true:=by rw [bne_iff_ne]; omega
           have h2:=runL_pos (p:=numI) (r:=s.data.toList.drop (m+1)) (show numI s[m].toNat=true by simp [numI,namI,hml,show ¬ (s[m].toNat:Int)=95 by omega]);rw [<- drop_cons s m hmt] at h2;have H2:=Yd h2;clear h2;have Ml:=Yd hml;clear hml h95;go_wp2_with (go_at_call 68; refine (rletter_any _ _).mono ?_; rw [Ml.out]; rintro e w' ⟨rfl,rfl⟩)
           go_round
           case rel=>exact ⟨m+1,by omega,by omega,by go_num,by have:=HM.out; rw [H2.out] at this; omega⟩
           case measure=>simp [intOf]; omega
         | false =>
          cases hmd:digI s[m].toNat with
          | true =>
           have h2:=runL_pos (p:=numI) (r:=s.data.toList.drop (m+1)) (show numI s[m].toNat=true by exact dig_num (by rw [hmd]; rfl));rw [<- drop_cons s m hmt] at h2;have H2:=Yd h2;clear h2;have Ml:=Yd hml;have Md:=Yd hmd;clear hml hmd;go_wp2_with (first | (go_at_call 68; refine (rletter_any _ _).mono ?_; rw [Ml.out]; rintro e w' ⟨rfl,rfl⟩) | (go_at_call 69; refine (rdigit_any _ _).mono ?_; rw [Md.out]; rintro e w' ⟨rfl,rfl⟩))
           go_round
           case rel=>exact ⟨m+1,by omega,by omega,by go_num,by have:=HM.out; rw [H2.out] at this; omega⟩
           case measure=>simp [intOf]; omega
          | false =>
           by_cases e45:s[m].toNat=45
           ·have n45:((s[m].toNat:Int) == 45)=true:=Yt (by omega)
            have h2:=runL_pos (p:=numI) (r:=s.data.toList.drop (m+1)) (show numI s[m].toNat=true by simp [numI,e45]);rw [<- drop_cons s m hmt] at h2;have H2:=Yd h2;clear h2;have Ml:=Yd hml;have Md:=Yd hmd;clear hml hmd e45;go_wp2_with (first | (go_at_call 68; refine (rletter_any _ _).mono ?_; rw [Ml.out]; rintro e w' ⟨rfl,rfl⟩) | (go_at_call 69; refine (rdigit_any _ _).mono ?_; rw [Md.out]; rintro e w' ⟨rfl,rfl⟩))
            go_round
            case rel=>exact ⟨m+1,by omega,by omega,by go_num,by have:=HM.out; rw [H2.out] at this; omega⟩
            case measure=>simp [intOf]; omega
           have n45:((s[m].toNat:Int) == 45)=false:=Yf (by omega)
           by_cases e43:s[m].toNat=43
           ·have n43:((s[m].toNat:Int) == 43)=true:=Yt (by omega)
            have h2:=runL_pos (p:=numI) (r:=s.data.toList.drop (m+1)) (show numI s[m].toNat=true by simp [numI,e43]);rw [<- drop_cons s m hmt] at h2;have H2:=Yd h2;clear h2;have Ml:=Yd hml;have Md:=Yd hmd;clear hml hmd e43 e45;go_wp2_with (first | (go_at_call 68; refine (rletter_any _ _).mono ?_; rw [Ml.out]; rintro e w' ⟨rfl,rfl⟩) | (go_at_call 69; refine (rdigit_any _ _).mono ?_; rw [Md.out]; rintro e w' ⟨rfl,rfl⟩))
            go_round
            case rel=>exact ⟨m+1,by omega,by omega,by go_num,by have:=HM.out; rw [H2.out] at this; omega⟩
            case measure=>simp [intOf]; omega
           have n43:((s[m].toNat:Int) == 43)=false:=Yf (by omega)
           by_cases e46:s[m].toNat=46
           ·have n46:((s[m].toNat:Int) == 46)=true:=Yt (by omega)
            have h2:=runL_pos (p:=numI) (r:=s.data.toList.drop (m+1)) (show numI s[m].toNat=true by simp [numI,e46]);rw [<- drop_cons s m hmt] at h2;have H2:=Yd h2;clear h2;have Ml:=Yd hml;have Md:=Yd hmd;clear hml hmd e43 e45 e46;go_wp2_with (first | (go_at_call 68; refine (rletter_any _ _).mono ?_; rw [Ml.out]; rintro e w' ⟨rfl,rfl⟩) | (go_at_call 69; refine (rdigit_any _ _).mono ?_; rw [Md.out]; rintro e w' ⟨rfl,rfl⟩))
            go_round
            case rel=>exact ⟨m+1,by omega,by omega,by go_num,by have:=HM.out; rw [H2.out] at this; omega⟩
            case measure=>simp [intOf]; omega
           have n46:((s[m].toNat:Int) == 46)=false:=Yf (by omega)
           have h2:=runL_neg (p:=numI) (r:=s.data.toList.drop (m+1)) (show numI s[m].toNat=false by simp only [numI,namI,hml,hmd,n45,n43,n46,Bool.or_false,Bool.and_false]);rw [<- drop_cons s m hmt] at h2;have H2:=Yd h2;clear h2;have Ml:=Yd hml;have Md:=Yd hmd;clear hml hmd e43 e45 e46;have hR0:R=m-k:=by have:=HM.out; rw [H2.out] at this; omega
           have hmk:k+(m-k)=m:=by omega
           subst hR0
           by_cases hb:m-k <= 40
           ·have hb':(m:Int)-k <= 40:=by omega
            have HQ2:Hid (firstL (s.data.toList.drop k)=(2,m-k,true)):=by have:=HQ.out; rw [decide_eq_true hb] at this; exact this
            clear hb;go_wp2_with (first | (go_at_call 68; refine (rletter_any _ _).mono ?_; rw [Ml.out]; rintro e w' ⟨rfl,rfl⟩) | (go_at_call 69; refine (rdigit_any _ _).mono ?_; rw [Md.out]; rintro e w' ⟨rfl,rfl⟩) | (at_builtin; refine wpList_append_own _ rfl _ _ 22 rfl w.heap.size 27 i0 _ 3 32 Tryz.underlying22 hi hz0 hz1 hz2 rfl (by decide) _ _ _ rfl (hown.alloc _) ⟨wo.heap.size,0,none⟩ 1 1 [.int .u8 2,.int .i64 k,.string (s.extract k m)] rfl rfl (cells_new _ _ _) (by simp [Value.oneCell']) (by unfold maxLen; omega) (by omega) (by have:=hB.size; simp; omega) ?_; intro v' w1 hown' hgrow _));exact ⟨ref_tok hmk.symm HP.out hne HQ2.out (by omega) (by omega) hown hown' hgrow hB (by omega) hlen rfl,by simp [intOf]; omega⟩
           ·have hb':40<(m:Int)-k:=by omega
            have HQ2:Hid (firstL (s.data.toList.drop k)=(2,m-k,false)):=by have:=HQ.out; rw [decide_eq_false hb] at this; exact this
            have HF:=Yd (lexRes_bad s.data.toList (by rw [HZ.out]; exact hlong) ts _ (by rw [HP.out,lexT_bad hne HQ2.out]));clear hb;go_wp2_with (first | (go_at_call 68; refine (rletter_any _ _).mono ?_; rw [Ml.out]; rintro e w' ⟨rfl,rfl⟩) | (go_at_call 69; refine (rdigit_any _ _).mono ?_; rw [Md.out]; rintro e w' ⟨rfl,rfl⟩));go_ret3;rw [HF.out];exact ⟨_,rfl,⟨by simp [cellsOf],.inl ⟨rfl,rfl⟩⟩,hB⟩
        ·have h2:=drop_end s m (by omega);have h3:runL numI (s.data.toList.drop m)=0:=by rw [h2]; rfl
         have H2:=Yd h3;clear h2 h3;have hR0:R=m-k:=by have:=HM.out; rw [H2.out] at this; omega
         have hmk:k+(m-k)=m:=by omega
         subst hR0
         by_cases hb:m-k <= 40
         ·have hb':(m:Int)-k <= 40:=by omega
          have HQ2:Hid (firstL (s.data.toList.drop k)=(2,m-k,true)):=by have:=HQ.out; rw [decide_eq_true hb] at this; exact this
          clear hb;go_wp2_with (first | (at_builtin; refine wpList_append_own _ rfl _ _ 22 rfl w.heap.size 27 i0 _ 3 32 Tryz.underlying22 hi hz0 hz1 hz2 rfl (by decide) _ _ _ rfl (hown.alloc _) ⟨wo.heap.size,0,none⟩ 1 1 [.int .u8 2,.int .i64 k,.string (s.extract k m)] rfl rfl (cells_new _ _ _) (by simp [Value.oneCell']) (by unfold maxLen; omega) (by omega) (by have:=hB.size; simp; omega) ?_; intro v' w1 hown' hgrow _));exact ⟨ref_tok hmk.symm HP.out hne HQ2.out (by omega) (by omega) hown hown' hgrow hB (by omega) hlen rfl,by simp [intOf]; omega⟩
         ·have hb':40<(m:Int)-k:=by omega
          have HQ2:Hid (firstL (s.data.toList.drop k)=(2,m-k,false)):=by have:=HQ.out; rw [decide_eq_false hb] at this; exact this
          have HF:=Yd (lexRes_bad s.data.toList (by rw [HZ.out]; exact hlong) ts _ (by rw [HP.out,lexT_bad hne HQ2.out]));clear hb;go_wp2;go_ret3;rw [HF.out];exact ⟨_,rfl,⟨by simp [cellsOf],.inl ⟨rfl,rfl⟩⟩,hB⟩
     | false =>
      have Hd:=Yd hdk;rw [hdk] at cd
      by_cases e45:s[k].toNat=45
      ·have n45:((s[k].toNat:Int) == 45)=true:=Yt (by omega)
       clear hdk cd e45;go_wp2_with (first | (go_at_call 68; refine (rletter_any _ _).mono ?_; rw [Hl.out]; rintro e w' ⟨rfl,rfl⟩) | (go_at_call 69; refine (rdigit_any _ _).mono ?_; rw [Hd.out]; rintro e w' ⟨rfl,rfl⟩))
       as_aux_lemma =>
        go_loop [8] (fun e=>∃ m:Nat,k+1 <= m∧m <= s.size∧e = .int .i64 m∧R+k=runL numI (s.data.toList.drop m)+m) (fun e=>s.size-(intOf e).toNat)
        case atStart=>exact ⟨k+1,by omega,by omega,by go_num,by rw [HR.out]; omega⟩
        case round =>
         obtain ⟨m,hm1,hm2,rfl,hrm⟩:=hrel;have HM:=Yd hrm;clear hrm
         by_cases hmt:m<s.size
         ·cases hml:ltrI s[m].toNat with
          | true =>
           by_cases h95:s[m].toNat=95
           ·have hmd:digI s[m].toNat=false:=by rw [h95]; rfl
            have h2:=runL_neg (p:=numI) (r:=s.data.toList.drop (m+1)) (show numI s[m].toNat=false by rw [h95]; rfl);rw [<- drop_cons s m hmt] at h2;have H2:=Yd h2;clear h2;have n95:((s[m].toNat:Int) != 95)=false:=by rw [bne_eq_false_iff_eq]; omega
            have n45:((s[m].toNat:Int) == 45)=false:=Yf (by omega)
            have n43:((s[m].toNat:Int) == 43)=false:=Yf (by omega)
            have n46:((s[m].toNat:Int) == 46)=false:=Yf (by omega)
            have Ml:=Yd hml;have Md:=Yd hmd;clear hml hmd h95;have hR0:R=m-k:=by have:=HM.out; rw [H2.out] at this; omega
            have hmk:k+(m-k)=m:=by omega
            subst hR0
            by_cases hb:m-k <= 40
            ·have hb':(m:Int)-k <= 40:=by omega
             have HQ2:Hid (firstL (s.data.toList.drop k)=(2,m-k,true)):=by have:=HQ.out; rw [decide_eq_true hb] at this; exact this
             clear hb;go_wp2_with (first | (go_at_call 68; refine (rletter_any _ _).mono ?_; rw [Ml.out]; rintro e w' ⟨rfl,rfl⟩) | (go_at_call 69; refine (rdigit_any _ _).mono ?_; rw [Md.out]; rintro e w' ⟨rfl,rfl⟩) | (at_builtin; refine wpList_append_own _ rfl _ _ 22 rfl w.heap.size 27 i0 _ 3 32 Tryz.underlying22 hi hz0 hz1 hz2 rfl (by decide) _ _ _ rfl (hown.alloc _) ⟨wo.heap.size,0,none⟩ 1 1 [.int .u8 2,.int .i64 k,.string (s.extract k m)] rfl rfl (cells_new _ _ _) (by simp [Value.oneCell']) (by unfold maxLen; omega) (by omega) (by have:=hB.size; simp; omega) ?_; intro v' w1 hown' hgrow _));exact ⟨ref_tok hmk.symm HP.out hne HQ2.out (by omega) (by omega) hown hown' hgrow hB (by omega) hlen rfl,by simp [intOf]; omega⟩
            ·have hb':40<(m:Int)-k:=by omega
             have HQ2:Hid (firstL (s.data.toList.drop k)=(2,m-k,false)):=by have:=HQ.out; rw [decide_eq_false hb] at this; exact this
             have HF:=Yd (lexRes_bad s.data.toList (by rw [HZ.out]; exact hlong) ts _ (by rw [HP.out,lexT_bad hne HQ2.out]));clear hb;go_wp2_with (first | (go_at_call 68; refine (rletter_any _ _).mono ?_; rw [Ml.out]; rintro e w' ⟨rfl,rfl⟩) | (go_at_call 69; refine (rdigit_any _ _).mono ?_; rw [Md.out]; rintro e w' ⟨rfl,rfl⟩));go_ret3;rw [HF.out];exact ⟨_,rfl,⟨by simp [cellsOf],.inl ⟨rfl,rfl⟩⟩,hB⟩
           ·have n95:((s[m].toNat:Int) != 95)=true:=by rw [bne_iff_ne]; omega
            have h2:=runL_pos (p:=numI) (r:=s.data.toList.drop (m+1)) (show numI s[m].toNat=true by simp [numI,namI,hml,show ¬ (s[m].toNat:Int)=95 by omega]);rw [<- drop_cons s m hmt] at h2;have H2:=Yd h2;clear h2;have Ml:=Yd hml;clear hml h95;go_wp2_with (go_at_call 68; refine (rletter_any _ _).mono ?_; rw [Ml.out]; rintro e w' ⟨rfl,rfl⟩)
            go_round
            case rel=>exact ⟨m+1,by omega,by omega,by go_num,by have:=HM.out; rw [H2.out] at this; omega⟩
            case measure=>simp [intOf]; omega
          | false =>
           cases hmd:digI s[m].toNat with
           | true =>
            have h2:=runL_pos (p:=numI) (r:=s.data.toList.drop (m+1)) (show numI s[m].toNat=true by exact dig_num (by rw [hmd]; rfl));rw [<- drop_cons s m hmt] at h2;have H2:=Yd h2;clear h2;have Ml:=Yd hml;have Md:=Yd hmd;clear hml hmd;go_wp2_with (first | (go_at_call 68; refine (rletter_any _ _).mono ?_; rw [Ml.out]; rintro e w' ⟨rfl,rfl⟩) | (go_at_call 69; refine (rdigit_any _ _).mono ?_; rw [Md.out]; rintro e w' ⟨rfl,rfl⟩))
            go_round
            case rel=>exact ⟨m+1,by omega,by omega,by go_num,by have:=HM.out; rw [H2.out] at this; omega⟩
            case measure=>simp [intOf]; omega
           | false =>
            by_cases e45:s[m].toNat=45
            ·have n45:((s[m].toNat:Int) == 45)=true:=Yt (by omega)
             have h2:=runL_pos (p:=numI) (r:=s.data.toList.drop (m+1)) (show numI s[m].toNat=true by simp [numI,e45]);rw [<- drop_cons s m hmt] at h2;have H2:=Yd h2;clear h2;have Ml:=Yd hml;have Md:=Yd hmd;clear hml hmd e45;go_wp2_with (first | (go_at_call 68; refine (rletter_any _ _).mono ?_; rw [Ml.out]; rintro e w' ⟨rfl,rfl⟩) | (go_at_call 69; refine (rdigit_any _ _).mono ?_; rw [Md.out]; rintro e w' ⟨rfl,rfl⟩))
             go_round
             case rel=>exact ⟨m+1,by omega,by omega,by go_num,by have:=HM.out; rw [H2.out] at this; omega⟩
             case measure=>simp [intOf]; omega
            have n45:((s[m].toNat:Int) == 45)=false:=Yf (by omega)
            by_cases e43:s[m].toNat=43
            ·have n43:((s[m].toNat:Int) == 43)=true:=Yt (by omega)
             have h2:=runL_pos (p:=numI) (r:=s.data.toList.drop (m+1)) (show numI s[m].toNat=true by simp [numI,e43]);rw [<- drop_cons s m hmt] at h2;have H2:=Yd h2;clear h2;have Ml:=Yd hml;have Md:=Yd hmd;clear hml hmd e43 e45;go_wp2_with (first | (go_at_call 68; refine (rletter_any _ _).mono ?_; rw [Ml.out]; rintro e w' ⟨rfl,rfl⟩) | (go_at_call 69; refine (rdigit_any _ _).mono ?_; rw [Md.out]; rintro e w' ⟨rfl,rfl⟩))
             go_round
             case rel=>exact ⟨m+1,by omega,by omega,by go_num,by have:=HM.out; rw [H2.out] at this; omega⟩
             case measure=>simp [intOf]; omega
            have n43:((s[m].toNat:Int) == 43)=false:=Yf (by omega)
            by_cases e46:s[m].toNat=46
            ·have n46:((s[m].toNat:Int) == 46)=true:=Yt (by omega)
             have h2:=runL_pos (p:=numI) (r:=s.data.toList.drop (m+1)) (show numI s[m].toNat=true by simp [numI,e46]);rw [<- drop_cons s m hmt] at h2;have H2:=Yd h2;clear h2;have Ml:=Yd hml;have Md:=Yd hmd;clear hml hmd e43 e45 e46;go_wp2_with (first | (go_at_call 68; refine (rletter_any _ _).mono ?_; rw [Ml.out]; rintro e w' ⟨rfl,rfl⟩) | (go_at_call 69; refine (rdigit_any _ _).mono ?_; rw [Md.out]; rintro e w' ⟨rfl,rfl⟩))
             go_round
             case rel=>exact ⟨m+1,by omega,by omega,by go_num,by have:=HM.out; rw [H2.out] at this; omega⟩
             case measure=>simp [intOf]; omega
            have n46:((s[m].toNat:Int) == 46)=false:=Yf (by omega)
            have h2:=runL_neg (p:=numI) (r:=s.data.toList.drop (m+1)) (show numI s[m].toNat=false by simp only [numI,namI,hml,hmd,n45,n43,n46,Bool.or_false,Bool.and_false]);rw [<- drop_cons s m hmt] at h2;have H2:=Yd h2;clear h2;have Ml:=Yd hml;have Md:=Yd hmd;clear hml hmd e43 e45 e46;have hR0:R=m-k:=by have:=HM.out; rw [H2.out] at this; omega
            have hmk:k+(m-k)=m:=by omega
            subst hR0
            by_cases hb:m-k <= 40
            ·have hb':(m:Int)-k <= 40:=by omega
             have HQ2:Hid (firstL (s.data.toList.drop k)=(2,m-k,true)):=by have:=HQ.out; rw [decide_eq_true hb] at this; exact this
             clear hb;go_wp2_with (first | (go_at_call 68; refine (rletter_any _ _).mono ?_; rw [Ml.out]; rintro e w' ⟨rfl,rfl⟩) | (go_at_call 69; refine (rdigit_any _ _).mono ?_; rw [Md.out]; rintro e w' ⟨rfl,rfl⟩) | (at_builtin; refine wpList_append_own _ rfl _ _ 22 rfl w.heap.size 27 i0 _ 3 32 Tryz.underlying22 hi hz0 hz1 hz2 rfl (by decide) _ _ _ rfl (hown.alloc _) ⟨wo.heap.size,0,none⟩ 1 1 [.int .u8 2,.int .i64 k,.string (s.extract k m)] rfl rfl (cells_new _ _ _) (by simp [Value.oneCell']) (by unfold maxLen; omega) (by omega) (by have:=hB.size; simp; omega) ?_; intro v' w1 hown' hgrow _));exact ⟨ref_tok hmk.symm HP.out hne HQ2.out (by omega) (by omega) hown hown' hgrow hB (by omega) hlen rfl,by simp [intOf]; omega⟩
            ·have hb':40<(m:Int)-k:=by omega
             have HQ2:Hid (firstL (s.data.toList.drop k)=(2,m-k,false)):=by have:=HQ.out; rw [decide_eq_false hb] at this; exact this
             have HF:=Yd (lexRes_bad s.data.toList (by rw [HZ.out]; exact hlong) ts _ (by rw [HP.out,lexT_bad hne HQ2.out]));clear hb;go_wp2_with (first | (go_at_call 68; refine (rletter_any _ _).mono ?_; rw [Ml.out]; rintro e w' ⟨rfl,rfl⟩) | (go_at_call 69; refine (rdigit_any _ _).mono ?_; rw [Md.out]; rintro e w' ⟨rfl,rfl⟩));go_ret3;rw [HF.out];exact ⟨_,rfl,⟨by simp [cellsOf],.inl ⟨rfl,rfl⟩⟩,hB⟩
         ·have h2:=drop_end s m (by omega);have h3:runL numI (s.data.toList.drop m)=0:=by rw [h2]; rfl
          have H2:=Yd h3;clear h2 h3;have hR0:R=m-k:=by have:=HM.out; rw [H2.out] at this; omega
          have hmk:k+(m-k)=m:=by omega
          subst hR0
          by_cases hb:m-k <= 40
          ·have hb':(m:Int)-k <= 40:=by omega
           have HQ2:Hid (firstL (s.data.toList.drop k)=(2,m-k,true)):=by have:=HQ.out; rw [decide_eq_true hb] at this; exact this
           clear hb;go_wp2_with (first | (at_builtin; refine wpList_append_own _ rfl _ _ 22 rfl w.heap.size 27 i0 _ 3 32 Tryz.underlying22 hi hz0 hz1 hz2 rfl (by decide) _ _ _ rfl (hown.alloc _) ⟨wo.heap.size,0,none⟩ 1 1 [.int .u8 2,.int .i64 k,.string (s.extract k m)] rfl rfl (cells_new _ _ _) (by simp [Value.oneCell']) (by unfold maxLen; omega) (by omega) (by have:=hB.size; simp; omega) ?_; intro v' w1 hown' hgrow _));exact ⟨ref_tok hmk.symm HP.out hne HQ2.out (by omega) (by omega) hown hown' hgrow hB (by omega) hlen rfl,by simp [intOf]; omega⟩
          ·have hb':40<(m:Int)-k:=by omega
           have HQ2:Hid (firstL (s.data.toList.drop k)=(2,m-k,false)):=by have:=HQ.out; rw [decide_eq_false hb] at this; exact this
           have HF:=Yd (lexRes_bad s.data.toList (by rw [HZ.out]; exact hlong) ts _ (by rw [HP.out,lexT_bad hne HQ2.out]));clear hb;go_wp2;go_ret3;rw [HF.out];exact ⟨_,rfl,⟨by simp [cellsOf],.inl ⟨rfl,rfl⟩⟩,hB⟩
      ·have n45:((s[k].toNat:Int) == 45)=false:=Yf (by omega)
       have n46:((s[k].toNat:Int) == 46)=true:=by
        rw [n45] at cd;simpa using cd
       clear hdk cd e45;go_wp2_with (first | (go_at_call 68; refine (rletter_any _ _).mono ?_; rw [Hl.out]; rintro e w' ⟨rfl,rfl⟩) | (go_at_call 69; refine (rdigit_any _ _).mono ?_; rw [Hd.out]; rintro e w' ⟨rfl,rfl⟩))
       as_aux_lemma =>
        go_loop [8] (fun e=>∃ m:Nat,k+1 <= m∧m <= s.size∧e = .int .i64 m∧R+k=runL numI (s.data.toList.drop m)+m) (fun e=>s.size-(intOf e).toNat)
        case atStart=>exact ⟨k+1,by omega,by omega,by go_num,by rw [HR.out]; omega⟩
        case round =>
         obtain ⟨m,hm1,hm2,rfl,hrm⟩:=hrel;have HM:=Yd hrm;clear hrm
         by_cases hmt:m<s.size
         ·cases hml:ltrI s[m].toNat with
          | true =>
           by_cases h95:s[m].toNat=95
           ·have hmd:digI s[m].toNat=false:=by rw [h95]; rfl
            have h2:=runL_neg (p:=numI) (r:=s.data.toList.drop (m+1)) (show numI s[m].toNat=false by rw [h95]; rfl);rw [<- drop_cons s m hmt] at h2;have H2:=Yd h2;clear h2;have n95:((s[m].toNat:Int) != 95)=false:=by rw [bne_eq_false_iff_eq]; omega
            have n45:((s[m].toNat:Int) == 45)=false:=Yf (by omega)
            have n43:((s[m].toNat:Int) == 43)=false:=Yf (by omega)
            have n46:((s[m].toNat:Int) == 46)=false:=Yf (by omega)
            have Ml:=Yd hml;have Md:=Yd hmd;clear hml hmd h95;have hR0:R=m-k:=by have:=HM.out; rw [H2.out] at this; omega
            have hmk:k+(m-k)=m:=by omega
            subst hR0
            by_cases hb:m-k <= 40
            ·have hb':(m:Int)-k <= 40:=by omega
             have HQ2:Hid (firstL (s.data.toList.drop k)=(2,m-k,true)):=by have:=HQ.out; rw [decide_eq_true hb] at this; exact this
             clear hb;go_wp2_with (first | (go_at_call 68; refine (rletter_any _ _).mono ?_; rw [Ml.out]; rintro e w' ⟨rfl,rfl⟩) | (go_at_call 69; refine (rdigit_any _ _).mono ?_; rw [Md.out]; rintro e w' ⟨rfl,rfl⟩) | (at_builtin; refine wpList_append_own _ rfl _ _ 22 rfl w.heap.size 27 i0 _ 3 32 Tryz.underlying22 hi hz0 hz1 hz2 rfl (by decide) _ _ _ rfl (hown.alloc _) ⟨wo.heap.size,0,none⟩ 1 1 [.int .u8 2,.int .i64 k,.string (s.extract k m)] rfl rfl (cells_new _ _ _) (by simp [Value.oneCell']) (by unfold maxLen; omega) (by omega) (by have:=hB.size; simp; omega) ?_; intro v' w1 hown' hgrow _));exact ⟨ref_tok hmk.symm HP.out hne HQ2.out (by omega) (by omega) hown hown' hgrow hB (by omega) hlen rfl,by simp [intOf]; omega⟩
            ·have hb':40<(m:Int)-k:=by omega
             have HQ2:Hid (firstL (s.data.toList.drop k)=(2,m-k,false)):=by have:=HQ.out; rw [decide_eq_false hb] at this; exact this
             have HF:=Yd (lexRes_bad s.data.toList (by rw [HZ.out]; exact hlong) ts _ (by rw [HP.out,lexT_bad hne HQ2.out]));clear hb;go_wp2_with (first | (go_at_call 68; refine (rletter_any _ _).mono ?_; rw [Ml.out]; rintro e w' ⟨rfl,rfl⟩) | (go_at_call 69; refine (rdigit_any _ _).mono ?_; rw [Md.out]; rintro e w' ⟨rfl,rfl⟩));go_ret3;rw [HF.out];exact ⟨_,rfl,⟨by simp [cellsOf],.inl ⟨rfl,rfl⟩⟩,hB⟩
           ·have n95:((s[m].toNat:Int) != 95)=true:=by rw [bne_iff_ne]; omega
            have h2:=runL_pos (p:=numI) (r:=s.data.toList.drop (m+1)) (show numI s[m].toNat=true by simp [numI,namI,hml,show ¬ (s[m].toNat:Int)=95 by omega]);rw [<- drop_cons s m hmt] at h2;have H2:=Yd h2;clear h2;have Ml:=Yd hml;clear hml h95;go_wp2_with (go_at_call 68; refine (rletter_any _ _).mono ?_; rw [Ml.out]; rintro e w' ⟨rfl,rfl⟩)
            go_round
            case rel=>exact ⟨m+1,by omega,by omega,by go_num,by have:=HM.out; rw [H2.out] at this; omega⟩
            case measure=>simp [intOf]; omega
          | false =>
           cases hmd:digI s[m].toNat with
           | true =>
            have h2:=runL_pos (p:=numI) (r:=s.data.toList.drop (m+1)) (show numI s[m].toNat=true by exact dig_num (by rw [hmd]; rfl));rw [<- drop_cons s m hmt] at h2;have H2:=Yd h2;clear h2;have Ml:=Yd hml;have Md:=Yd hmd;clear hml hmd;go_wp2_with (first | (go_at_call 68; refine (rletter_any _ _).mono ?_; rw [Ml.out]; rintro e w' ⟨rfl,rfl⟩) | (go_at_call 69; refine (rdigit_any _ _).mono ?_; rw [Md.out]; rintro e w' ⟨rfl,rfl⟩))
            go_round
            case rel=>exact ⟨m+1,by omega,by omega,by go_num,by have:=HM.out; rw [H2.out] at this; omega⟩
            case measure=>simp [intOf]; omega
           | false =>
            by_cases e45:s[m].toNat=45
            ·have n45:((s[m].toNat:Int) == 45)=true:=Yt (by omega)
             have h2:=runL_pos (p:=numI) (r:=s.data.toList.drop (m+1)) (show numI s[m].toNat=true by simp [numI,e45]);rw [<- drop_cons s m hmt] at h2;have H2:=Yd h2;clear h2;have Ml:=Yd hml;have Md:=Yd hmd;clear hml hmd e45;go_wp2_with (first | (go_at_call 68; refine (rletter_any _ _).mono ?_; rw [Ml.out]; rintro e w' ⟨rfl,rfl⟩) | (go_at_call 69; refine (rdigit_any _ _).mono ?_; rw [Md.out]; rintro e w' ⟨rfl,rfl⟩))
             go_round
             case rel=>exact ⟨m+1,by omega,by omega,by go_num,by have:=HM.out; rw [H2.out] at this; omega⟩
             case measure=>simp [intOf]; omega
            have n45:((s[m].toNat:Int) == 45)=false:=Yf (by omega)
            by_cases e43:s[m].toNat=43
            ·have n43:((s[m].toNat:Int) == 43)=true:=Yt (by omega)
             have h2:=runL_pos (p:=numI) (r:=s.data.toList.drop (m+1)) (show numI s[m].toNat=true by simp [numI,e43]);rw [<- drop_cons s m hmt] at h2;have H2:=Yd h2;clear h2;have Ml:=Yd hml;have Md:=Yd hmd;clear hml hmd e43 e45;go_wp2_with (first | (go_at_call 68; refine (rletter_any _ _).mono ?_; rw [Ml.out]; rintro e w' ⟨rfl,rfl⟩) | (go_at_call 69; refine (rdigit_any _ _).mono ?_; rw [Md.out]; rintro e w' ⟨rfl,rfl⟩))
             go_round
             case rel=>exact ⟨m+1,by omega,by omega,by go_num,by have:=HM.out; rw [H2.out] at this; omega⟩
             case measure=>simp [intOf]; omega
            have n43:((s[m].toNat:Int) == 43)=false:=Yf (by omega)
            by_cases e46:s[m].toNat=46
            ·have n46:((s[m].toNat:Int) == 46)=true:=Yt (by omega)
             have h2:=runL_pos (p:=numI) (r:=s.data.toList.drop (m+1)) (show numI s[m].toNat=true by simp [numI,e46]);rw [<- drop_cons s m hmt] at h2;have H2:=Yd h2;clear h2;have Ml:=Yd hml;have Md:=Yd hmd;clear hml hmd e43 e45 e46;go_wp2_with (first | (go_at_call 68; refine (rletter_any _ _).mono ?_; rw [Ml.out]; rintro e w' ⟨rfl,rfl⟩) | (go_at_call 69; refine (rdigit_any _ _).mono ?_; rw [Md.out]; rintro e w' ⟨rfl,rfl⟩))
             go_round
             case rel=>exact ⟨m+1,by omega,by omega,by go_num,by have:=HM.out; rw [H2.out] at this; omega⟩
             case measure=>simp [intOf]; omega
            have n46:((s[m].toNat:Int) == 46)=false:=Yf (by omega)
            have h2:=runL_neg (p:=numI) (r:=s.data.toList.drop (m+1)) (show numI s[m].toNat=false by simp only [numI,namI,hml,hmd,n45,n43,n46,Bool.or_false,Bool.and_false]);rw [<- drop_cons s m hmt] at h2;have H2:=Yd h2;clear h2;have Ml:=Yd hml;have Md:=Yd hmd;clear hml hmd e43 e45 e46;have hR0:R=m-k:=by have:=HM.out; rw [H2.out] at this; omega
            have hmk:k+(m-k)=m:=by omega
            subst hR0
            by_cases hb:m-k <= 40
            ·have hb':(m:Int)-k <= 40:=by omega
             have HQ2:Hid (firstL (s.data.toList.drop k)=(2,m-k,true)):=by have:=HQ.out; rw [decide_eq_true hb] at this; exact this
             clear hb;go_wp2_with (first | (go_at_call 68; refine (rletter_any _ _).mono ?_; rw [Ml.out]; rintro e w' ⟨rfl,rfl⟩) | (go_at_call 69; refine (rdigit_any _ _).mono ?_; rw [Md.out]; rintro e w' ⟨rfl,rfl⟩) | (at_builtin; refine wpList_append_own _ rfl _ _ 22 rfl w.heap.size 27 i0 _ 3 32 Tryz.underlying22 hi hz0 hz1 hz2 rfl (by decide) _ _ _ rfl (hown.alloc _) ⟨wo.heap.size,0,none⟩ 1 1 [.int .u8 2,.int .i64 k,.string (s.extract k m)] rfl rfl (cells_new _ _ _) (by simp [Value.oneCell']) (by unfold maxLen; omega) (by omega) (by have:=hB.size; simp; omega) ?_; intro v' w1 hown' hgrow _));exact ⟨ref_tok hmk.symm HP.out hne HQ2.out (by omega) (by omega) hown hown' hgrow hB (by omega) hlen rfl,by simp [intOf]; omega⟩
            ·have hb':40<(m:Int)-k:=by omega
             have HQ2:Hid (firstL (s.data.toList.drop k)=(2,m-k,false)):=by have:=HQ.out; rw [decide_eq_false hb] at this; exact this
             have HF:=Yd (lexRes_bad s.data.toList (by rw [HZ.out]; exact hlong) ts _ (by rw [HP.out,lexT_bad hne HQ2.out]));clear hb;go_wp2_with (first | (go_at_call 68; refine (rletter_any _ _).mono ?_; rw [Ml.out]; rintro e w' ⟨rfl,rfl⟩) | (go_at_call 69; refine (rdigit_any _ _).mono ?_; rw [Md.out]; rintro e w' ⟨rfl,rfl⟩));go_ret3;rw [HF.out];exact ⟨_,rfl,⟨by simp [cellsOf],.inl ⟨rfl,rfl⟩⟩,hB⟩
         ·have h2:=drop_end s m (by omega);have h3:runL numI (s.data.toList.drop m)=0:=by rw [h2]; rfl
          have H2:=Yd h3;clear h2 h3;have hR0:R=m-k:=by have:=HM.out; rw [H2.out] at this; omega
          have hmk:k+(m-k)=m:=by omega
          subst hR0
          by_cases hb:m-k <= 40
          ·have hb':(m:Int)-k <= 40:=by omega
           have HQ2:Hid (firstL (s.data.toList.drop k)=(2,m-k,true)):=by have:=HQ.out; rw [decide_eq_true hb] at this; exact this
           clear hb;go_wp2_with (first | (at_builtin; refine wpList_append_own _ rfl _ _ 22 rfl w.heap.size 27 i0 _ 3 32 Tryz.underlying22 hi hz0 hz1 hz2 rfl (by decide) _ _ _ rfl (hown.alloc _) ⟨wo.heap.size,0,none⟩ 1 1 [.int .u8 2,.int .i64 k,.string (s.extract k m)] rfl rfl (cells_new _ _ _) (by simp [Value.oneCell']) (by unfold maxLen; omega) (by omega) (by have:=hB.size; simp; omega) ?_; intro v' w1 hown' hgrow _));exact ⟨ref_tok hmk.symm HP.out hne HQ2.out (by omega) (by omega) hown hown' hgrow hB (by omega) hlen rfl,by simp [intOf]; omega⟩
          ·have hb':40<(m:Int)-k:=by omega
           have HQ2:Hid (firstL (s.data.toList.drop k)=(2,m-k,false)):=by have:=HQ.out; rw [decide_eq_false hb] at this; exact this
           have HF:=Yd (lexRes_bad s.data.toList (by rw [HZ.out]; exact hlong) ts _ (by rw [HP.out,lexT_bad hne HQ2.out]));clear hb;go_wp2;go_ret3;rw [HF.out];exact ⟨_,rfl,⟨by simp [cellsOf],.inl ⟨rfl,rfl⟩⟩,hB⟩
    ·rw [if_neg cd] at hq2;subst hq2;have HQ:=Yd hq;rw [Bool.not_eq_true] at cd;simp only [Bool.or_eq_false_iff] at cd;obtain ⟨⟨hdk,n45⟩,n46⟩:=cd;have Hd:=Yd hdk;have HF:=Yd (lexRes_bad s.data.toList (by rw [HZ.out]; exact hlong) ts _ (by rw [HP.out,lexT_bad hne HQ.out]));clear hq hpo hdk;go_wp2_with (first | (go_at_call 68; refine (rletter_any _ _).mono ?_; rw [Hl.out]; rintro e w' ⟨rfl,rfl⟩) | (go_at_call 69; refine (rdigit_any _ _).mono ?_; rw [Hd.out]; rintro e w' ⟨rfl,rfl⟩));go_ret3;rw [HF.out];exact ⟨_,rfl,⟨by simp [cellsOf],.inl ⟨rfl,rfl⟩⟩,hB⟩
   ·obtain rfl:k=s.size:=by omega
    have hd:=drop_end s s.size (Nat.le_refl _);have hlex:=HP.out;rw [hd,lexT_nil] at hlex;clear hd;have hres:=lexRes_end s.data.toList (by rw [HZ.out]; exact hlong) ts s.size kl hlex;clear hlex;obtain ⟨va,vc,rfl⟩:=row_form hown
    by_cases h4:kl=4
    ·rw [if_pos h4] at hres;have HF:=Yd hres;clear hres
     by_cases h0:ts=[]
     ·subst h0;have hl0:decide ((0:Int)<(([]:List Tok).length:Int))=false:=by decide
      go_wp2;go_ret3;rw [HF.out];exact ⟨_,rfl,hown,hB⟩
     ·obtain ⟨g,rfl,hcell⟩:=last_cell hown h0;have hcell':wo.cell? ⟨g,(ts.length-1)*3,none⟩=some (.int .u8 4):=by rw [hcell,HA.out,h4]; rfl
      have hl0:0<ts.length:=List.length_pos_iff.2 h0;clear hcell h0;go_wp2;go_ret3;rw [HF.out];exact ⟨_,rfl,hown,hB⟩
    ·rw [if_neg h4] at hres;have HF:=Yd hres;have h0:ts≠[]:=by
      intro h0;have:=HA.out;rw [h0] at this;exact h4 this.symm
     obtain ⟨g,rfl,hcell⟩:=last_cell hown h0;have hcell':wo.cell? ⟨g,(ts.length-1)*3,none⟩=some (.int .u8 kl):=by rw [hcell,HA.out]
     have hl0:0<ts.length:=List.length_pos_iff.2 h0;have h4b:((kl:Int) != 4)=true:=by rw [bne_iff_ne]; omega
     clear hcell h0 hres h4;go_wp2_with (at_builtin; refine wpList_append_own _ rfl _ _ 22 rfl w.heap.size 27 i0 _ 3 32 Tryz.underlying22 hi hz0 hz1 hz2 rfl (by decide) _ _ _ rfl (hown.alloc _) ⟨wo.heap.size,0,none⟩ 1 1 [.int .u8 4,.int .i64 s.size,.string ⟨#[]⟩] rfl rfl (cells_new _ _ _) (by simp [Value.oneCell']) (by unfold maxLen; omega) (by omega) (by have:=hB.size; simp; omega) ?_; intro v' w1 hown' hgrow _);go_ret3;rw [HF.out];refine ⟨_,rfl,?_,(hB.alloc hB.size _).grown hgrow (by have:=hB.size; simp; omega) (fun j ej=>(hown.lt j ej).1)⟩;rw [cellsOf_snoc,List.length_append];exact hown'
end Go.Proofs.YtcbgkbidgpemfaaGreatDoor.lexw
