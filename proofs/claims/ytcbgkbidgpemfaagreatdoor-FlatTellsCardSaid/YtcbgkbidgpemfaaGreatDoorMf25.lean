/- The walks of strconv's shouldRoundUp and RoundedInteger. Conditions: as each theorem states. -/
import Derived.Test.YtcbgkbidgpemfaaGreatDoorMf00
import Derived.Test.YtcbgkbidgpemfaaGreatDoorMf24
import Derived.Test.YtcbgkbidgpemfaaGreatDoorMf01
import Derived.ScopeJumps
namespace Go.Proofs.YtcbgkbidgpemfaaGreatDoor
set_option maxRecDepth 100000
set_option maxHeartbeats 2000000
namespace dcw
open Go.RowKit
open bsw
open prnw
open dmx
open fpm
theorem sru_neg (a:Nat) (dp:Int) (hd:dp<0) (w:World) :
  Calls Tryz.prog 231 #[.pointer (some ⟨a,0,none⟩),.int .i64 dp] w (Same w (.bool false)):=by
 have t1:decide (dp<0)=true:=decide_eq_true hd;go_enter Tryz.func231,Tryz.ntmps231;go_wp2_with fail;go_ret;exact ⟨rfl,rfl⟩
theorem sru_big (a n p:Nat) (w:World) (h:w.cell? ⟨a,800,none⟩=some (.int .i64 (n:Nat))) (hp:n <= p) :
  Calls Tryz.prog 231 #[.pointer (some ⟨a,0,none⟩),.int .i64 (p:Nat)] w (Same w (.bool false)):=by
 have t1:decide ((p:Int)<0)=false:=decide_eq_false (by omega);have t2:decide (n <= p)=true:=decide_eq_true hp;go_enter Tryz.func231,Tryz.ntmps231;go_wp2_with fail;go_ret;exact ⟨rfl,rfl⟩
theorem sru_mid (a N n p:Nat) (f:Nat -> Nat) (dp:Int) (neg:Bool) (w:World) (h:DM w a f (n:Nat) dp neg) (hg:Dg f N n) (hp:p<n) (hn:n <= 800) :
  Calls Tryz.prog 231 #[.pointer (some ⟨a,0,none⟩),.int .i64 (p:Nat)] w (Same w (.bool (dmx.upB N n p))):=by
 have c1:=h.cnd;have c2:=h.ctr;have c3:=h.dig p (by omega);have hx:=hg p hp;rw [<- dg_usual hp] at hx;have hx10:=dgN_lt N n p;obtain ⟨b,hb⟩:∃ b,dmx.upB N n p=b:=⟨_,rfl⟩;rw [hb];unfold dmx.upB at hb;obtain ⟨x,hx2⟩:∃ x,dgN N n p=x:=⟨_,rfl⟩;rw [hx2] at hx hx10 hb;rw [hx,show ((48+x:Nat):Int)=(x:Int)+48 by omega] at c3;have t1:decide ((p:Int)<0)=false:=decide_eq_false (by omega);have t2:decide (n <= p)=false:=decide_eq_false (by omega);have p0:(0:Int) <= (p:Int):=by omega
 have p1:(p:Int)<800:=by omega
 have x0:(0:Int) <= (x:Int):=by omega
 have x1:(x:Int) <= 9:=by omega
 by_cases h5:x=5
 ·have t3:((x:Int)+48 == 53)=true:=Yt (by omega)
  by_cases hpn:p+1=n
  ·rw [if_pos ⟨h5,hpn⟩] at hb;have t4:((p:Int)+1 == (n:Int))=true:=Yt (by omega)
   by_cases hp0:0<p
   ·have t5:decide (0<p)=true:=decide_eq_true hp0;rw [t5,Bool.true_and] at hb;have hy:=hg (p-1) (by omega);rw [<- dg_usual (by omega)] at hy;have hy10:=dgN_lt N n (p-1);have c4:=h.dig (p-1) (by omega);obtain ⟨y,hy2⟩:∃ y,dgN N n (p-1)=y:=⟨_,rfl⟩;rw [hy2] at hy hy10 hb;rw [hy,show ((48+y:Nat):Int)=(y:Int)+48 by omega] at c4;obtain ⟨q,hq⟩:∃ q,p-1=q:=⟨_,rfl⟩;rw [hq] at c4;have eq1:(p:Int)-1=(q:Int):=by omega
    have q0:(0:Int) <= (q:Int):=by omega
    have q1:(q:Int)<800:=by omega
    have y0:(0:Int) <= (y:Int):=by omega
    have y1:(y:Int) <= 9:=by omega
    obtain ⟨z,hz⟩:∃ z,y % 2=z:=⟨_,rfl⟩;have eq2:(y:Int) % 2=(z:Int):=by omega
    rw [hz] at hb;have t6:((z:Int) != 0)=b:=by
     rw [<- hb]
     by_cases hz1:z=1
     ·rw [hz1]; rfl
     ·have hz0:z=0:=by omega
      rw [hz0]; rfl
    clear hb hx hx2 hy hy2 hz hq h5 hpn h hg;go_enter Tryz.func231,Tryz.ntmps231;go_wp2_with fail;go_ret;exact ⟨rfl,rfl⟩
   ·have t5:decide (0<p)=false:=decide_eq_false hp0;rw [t5,Bool.false_and] at hb;obtain rfl:=hb.symm;clear hx hx2 h5 hpn h hg;go_enter Tryz.func231,Tryz.ntmps231;go_wp2_with fail;go_ret;exact ⟨rfl,rfl⟩
  ·rw [if_neg (fun h=>hpn h.2)] at hb;have t4:((p:Int)+1 == (n:Int))=false:=Yf (by omega)
   have t6:decide (53 <= (x:Int)+48)=true:=decide_eq_true (by omega);have hb2:b=true:=by rw [<- hb,h5]; rfl
   subst hb2;clear hb hx hx2 h5 hpn h hg;go_enter Tryz.func231,Tryz.ntmps231;go_wp2_with fail;go_ret;exact ⟨rfl,rfl⟩
 ·rw [if_neg (fun h=>h5 h.1)] at hb;have t3:((x:Int)+48 == 53)=false:=Yf (by omega)
  have t6:decide (53 <= (x:Int)+48)=b:=by
   rw [<- hb]
   by_cases h6:5 <= x
   ·rw [decide_eq_true h6,decide_eq_true (by omega)]
   ·rw [decide_eq_false h6,decide_eq_false (by omega)]
  clear hb hx hx2 h5 h hg;go_enter Tryz.func231,Tryz.ntmps231;go_wp2_with fail;go_ret;exact ⟨rfl,rfl⟩
theorem rint_any (a V N n:Nat) (dp:Int) (neg:Bool) (w:World) (h:DV w a V N n dp neg) (hmd:N % 10≠0) (hn:n <= 800) (hd : -3000 <= dp) (hd2:dp <= 20) (hV:V<1152921504606846976*one) :
  Calls Tryz.prog 259 #[.pointer (some ⟨a,0,none⟩)] w (Same w (.int .u64 ((rne V one:Nat):Int))):=by
 obtain ⟨f,hD,hg,g,hnd,hv⟩:=h;have c1:=hD.cnd;have c2:=hD.cdp;have t0:decide (20<dp)=false:=decide_eq_false (by omega)
 by_cases hneg:dp<0
 ·have hr:rne V one=0:=by rw [<- hv]; exact ri_neg g dp hnd hneg
  have HS:=Yd (sru_neg a dp hneg w);have t1:decide (0<dp)=false:=decide_eq_false (by omega);have HR:=Yd hr;clear hr hD hg g hnd hv hneg;go_enter Tryz.func259,Tryz.ntmps259;go_wp2_with fail;refine wp_loop_rounds 1 ?_;rw [rounds_succ];go_wp2_with fail;refine wp_loop_rounds 1 ?_;rw [rounds_succ];go_wp2_with (go_at_call 231; (with_reducible refine HS.out.mono ?_); rintro e w' ⟨rfl,hw'⟩; obtain rfl:=hw'.symm);go_ret;exact ⟨by rw [HR.out]; rfl,rfl⟩
 ·obtain ⟨p,hp⟩:∃ p:Nat,dp=(p:Int):=⟨dp.toNat,by omega⟩;subst hp;obtain ⟨b,hb⟩:∃ b,b=if p<n then dmx.upB N n p else false:=⟨_,rfl⟩;have hS:Calls Tryz.prog 231 #[.pointer (some ⟨a,0,none⟩),.int .i64 (p:Nat)] w (Same w (.bool b)):=by
   rw [hb]
   by_cases hpn:p<n
   ·rw [if_pos hpn];exact sru_mid a N n p f _ neg w hD hg hpn hn
   ·rw [if_neg hpn];exact sru_big a n p w c1 (by omega)
  have hr:rne V one=preN N n p+if b then 1 else 0:=by
   rw [<- hv,hb]
   by_cases hpn:p<n
   ·rw [if_pos hpn];exact ri_mid ⟨g,hmd⟩ hnd hpn
   ·rw [if_neg hpn];exact ri_big (by omega)
  have hpre:preN N n p<1152921504606846976:=by
   refine Nat.lt_of_not_le fun hl => ?_;have h1:preN N n p <= rne V one:=by rw [hr]; exact Nat.le_add_right _ _
   have h2:V / one<1152921504606846976:=Nat.div_lt_of_lt_mul (by rw [Nat.mul_comm]; exact hV);have h3:preN N n p <= V / one:=by
    unfold rne at hr
    by_cases hpn:p<n
    ·rw [Nat.le_div_iff_mul_le one_pos,<- hv];unfold preN val one;have he:=oneE_eq;obtain ⟨e,he2⟩:∃ e,n=p+e:=⟨n-p,by omega⟩;have e1:((p:Int)-(n:Int)+2000).toNat+e=oneE:=by omega
     have h9:=Nat.div_mul_le_self (N*10 ^ p) (10 ^ n);have e2:10 ^ n=10 ^ p*10 ^ e:=by rw [he2,Nat.pow_add]
     have e3:10 ^ oneE=10 ^ ((p:Int)-(n:Int)+2000).toNat*10 ^ e:=by rw [<- Nat.pow_add,e1]
     have hp10:0<10 ^ p:=Nat.pow_pos (by decide);refine Nat.le_of_mul_le_mul_right ?_ hp10;generalize 10 ^ ((p:Int)-(n:Int)+2000).toNat=y at *;generalize 10 ^ oneE=z at *;generalize 10 ^ n=v at *;generalize 10 ^ p=u at *;generalize 10 ^ e=t at *;rw [e3,show N*u / v*(y*t)*u=N*u / v*(u*t)*y by ac_rfl,<- e2,show N*y*u=N*u*y by ac_rfl];exact Nat.mul_le_mul_right _ h9
    ·have h7:rne V one=preN N n p:=by rw [<- hv]; exact ri_big (by omega)
     rw [<- h7];rw [<- hv];have h8:=ri_big (N:=N) (n:=n) (p:=p) (by omega);rw [h8,Nat.le_div_iff_mul_le one_pos];obtain ⟨d,hd9⟩:=Nat.exists_eq_add_of_le (show n <= p by omega);unfold val one;have he:=oneE_eq;rw [hd9,pre_beyond,show (((n+d:Nat):Int)-(n:Int)+2000).toNat=d+oneE by omega,Nat.pow_add,<- Nat.mul_assoc];exact Nat.le_refl _
   omega
  have HS:=Yd hS;have HR:=Yd (And.intro hr hpre);have HD:=Yd (And.intro hD (And.intro hg g));have p0:(0:Int) <= (p:Int):=by omega
  clear hr hpre hS hb hD hg g hnd hv hneg;go_enter Tryz.func259,Tryz.ntmps259;go_wp2_with fail
  go_loopw [3,4] (fun i m wr=>∃ q:Nat,q <= p∧q <= n∧i = .int .i64 (q:Nat)∧m = .int .u64 ((preN N n q:Nat):Int)∧wr=w) (fun i _ _=>p-(intOf i).toNat)
  case atStart=>exact ⟨0,Nat.zero_le _,Nat.zero_le _,rfl,by rw [pre_zero HD.out.2.2.hi]; rfl,rfl⟩
  case round =>
   obtain ⟨q,hqp,hqn,rfl,rfl,hwr⟩:=hrel;obtain rfl:=hwr.symm;obtain ⟨m,hm⟩:∃ m,preN N n q=m:=⟨_,rfl⟩;have hmono:=pre_mono N n q (p-q);rw [show q+(p-q)=p by omega,hm] at hmono;have hm60:=Nat.lt_of_le_of_lt hmono HR.out.2;rw [hm];have m0:(0:Int) <= (m:Int):=by omega
   have m1:(m:Int)<1152921504606846976:=by omega
   have q0:(0:Int) <= (q:Int):=by omega
   have q1:(q:Int) <= 800:=by omega
   by_cases h1:q<p∧q<n
   ·have t1:decide (q<p)=true:=decide_eq_true h1.1;have t2:decide (q<n)=true:=decide_eq_true h1.2;have hx:=HD.out.2.1 q h1.2;rw [<- dg_usual h1.2] at hx;have hx10:=dgN_lt N n q;have c3:=HD.out.1.dig q (by omega);have hs:=pre_succ N n q;rw [hm] at hs;obtain ⟨x,hx2⟩:∃ x,dgN N n q=x:=⟨_,rfl⟩;rw [hx2] at hx hx10 hs;rw [hx,show ((48+x:Nat):Int)=(x:Int)+48 by omega] at c3;have x0:(0:Int) <= (x:Int):=by omega
    have x1:(x:Int) <= 9:=by omega
    have q2:(q:Int)<800:=by omega
    have HN:=Yd (And.intro hs h1);clear hm hmono hx hx2 hs h1;go_wp2_with fail;exact ⟨⟨q+1,HN.out.2.1,HN.out.2.2,by go_num,by rw [HN.out.1]; exact congrArg (Value.int IntKind.u64) (by omega),by first | trivial | rfl⟩,by have:=HN.out.2; simp only [intOf]; omega⟩
   ·have t12:(decide (q<p) && decide (q<n))=false:=by
     by_cases ha:q<p
     ·rw [decide_eq_false (fun h=>h1 ⟨ha,h⟩),Bool.and_false]
     ·rw [decide_eq_false ha,Bool.false_and]
    have HN:=Yd (And.intro hm (And.intro hqp (And.intro hqn h1)));have hfin:∀ (_:q=p∨n <= q),True:=fun _=>trivial;clear hm hmono hfin
    by_cases ha:q<p
    ·have t1:decide (q<p)=true:=decide_eq_true ha;have t2:decide (q<n)=false:=decide_eq_false (fun h=>h1 ⟨ha,h⟩);have t2':¬ q<n:=fun h=>h1 ⟨ha,h⟩;have HF:=Yd (show q=p∨n <= q from .inr (by omega));clear t12 h1;go_wp2_with fail;clear m0 m1 q0 q1 t1 t2 t2'
     go_loopw [3,4] (fun i m wr=>∃ r:Nat,r <= p∧(r=p∨n <= r)∧i = .int .i64 (r:Nat)∧m = .int .u64 ((preN N n r:Nat):Int)∧wr=w) (fun i _ _=>p-(intOf i).toNat)
     case atStart=>exact ⟨q,HN.out.2.1,HF.out,rfl,by rw [HN.out.1],rfl⟩
     case round =>
      obtain ⟨r,hrp,hrn,rfl,rfl,hwr⟩:=hrel;obtain rfl:=hwr.symm;obtain ⟨m3,hm⟩:∃ m3,preN N n r=m3:=⟨_,rfl⟩;have hmono:=pre_mono N n r (p-r);rw [show r+(p-r)=p by omega,hm] at hmono;have hm60:=Nat.lt_of_le_of_lt hmono HR.out.2;rw [hm];have m0:(0:Int) <= (m3:Int):=by omega
      have m1:(m3:Int)<1152921504606846976:=by omega
      have r0:(0:Int) <= (r:Int):=by omega
      have r1:(r:Int) <= 20:=by omega
      by_cases hlt:r<p
      ·have t5:decide (r<p)=true:=decide_eq_true hlt;have hs:=pre_succ N n r;rw [dg_beyond (hrn.resolve_left (by omega)),hm] at hs;have HM:=Yd (And.intro hs (And.intro hlt (show n <= r from hrn.resolve_left (by omega))));clear hm hmono hs hlt hrn;go_wp2_with fail;exact ⟨⟨r+1,HM.out.2.1,.inr (Nat.le_succ_of_le HM.out.2.2),by go_num,by rw [HM.out.1]; go_num,by first | trivial | rfl⟩,by have:=HM.out.2; simp only [intOf]; omega⟩
      ·have hre:r=p:=by omega
       have t5:decide (r<p)=false:=decide_eq_false hlt;have HM:=Yd (And.intro hm hre);clear hm hmono hlt hrn hre
       cases b with
       | true =>
        go_wp2_with (go_at_call 231; (with_reducible refine HS.out.mono ?_); rintro e w' ⟨rfl,hw'⟩; obtain rfl:=hw'.symm);go_ret;exact ⟨by rw [HR.out.1,<- HM.out.2,HM.out.1]; rfl,rfl⟩
       | false =>
        go_wp2_with (go_at_call 231; (with_reducible refine HS.out.mono ?_); rintro e w' ⟨rfl,hw'⟩; obtain rfl:=hw'.symm);go_ret;exact ⟨by rw [HR.out.1,<- HM.out.2,HM.out.1]; rfl,rfl⟩
    ·have t1:decide (q<p)=false:=decide_eq_false ha;have t1':¬ q<p:=ha;have HF:=Yd (show q=p∨n <= q from .inl (by omega));clear t12 h1 ha;go_wp2_with fail;clear m0 m1 q0 q1 t1 t1'
     go_loopw [3,4] (fun i m wr=>∃ r:Nat,r <= p∧(r=p∨n <= r)∧i = .int .i64 (r:Nat)∧m = .int .u64 ((preN N n r:Nat):Int)∧wr=w) (fun i _ _=>p-(intOf i).toNat)
     case atStart=>exact ⟨q,HN.out.2.1,HF.out,rfl,by rw [HN.out.1],rfl⟩
     case round =>
      obtain ⟨r,hrp,hrn,rfl,rfl,hwr⟩:=hrel;obtain rfl:=hwr.symm;obtain ⟨m3,hm⟩:∃ m3,preN N n r=m3:=⟨_,rfl⟩;have hmono:=pre_mono N n r (p-r);rw [show r+(p-r)=p by omega,hm] at hmono;have hm60:=Nat.lt_of_le_of_lt hmono HR.out.2;rw [hm];have m0:(0:Int) <= (m3:Int):=by omega
      have m1:(m3:Int)<1152921504606846976:=by omega
      have r0:(0:Int) <= (r:Int):=by omega
      have r1:(r:Int) <= 20:=by omega
      by_cases hlt:r<p
      ·have t5:decide (r<p)=true:=decide_eq_true hlt;have hs:=pre_succ N n r;rw [dg_beyond (hrn.resolve_left (by omega)),hm] at hs;have HM:=Yd (And.intro hs (And.intro hlt (show n <= r from hrn.resolve_left (by omega))));clear hm hmono hs hlt hrn;go_wp2_with fail;exact ⟨⟨r+1,HM.out.2.1,.inr (Nat.le_succ_of_le HM.out.2.2),by go_num,by rw [HM.out.1]; go_num,by first | trivial | rfl⟩,by have:=HM.out.2; simp only [intOf]; omega⟩
      ·have hre:r=p:=by omega
       have t5:decide (r<p)=false:=decide_eq_false hlt;have HM:=Yd (And.intro hm hre);clear hm hmono hlt hrn hre
       cases b with
       | true =>
        go_wp2_with (go_at_call 231; (with_reducible refine HS.out.mono ?_); rintro e w' ⟨rfl,hw'⟩; obtain rfl:=hw'.symm);go_ret;exact ⟨by rw [HR.out.1,<- HM.out.2,HM.out.1]; rfl,rfl⟩
       | false =>
        go_wp2_with (go_at_call 231; (with_reducible refine HS.out.mono ?_); rintro e w' ⟨rfl,hw'⟩; obtain rfl:=hw'.symm);go_ret;exact ⟨by rw [HR.out.1,<- HM.out.2,HM.out.1]; rfl,rfl⟩
end dcw

/- A decimal scaled to a half and one, and rounded: plain arithmetic. No conditions but those stated. -/
namespace dmx
open fpm
def powT (d:Nat):Nat:=match d with | 0=>1 | 1=>3 | 2=>6 | 3=>9 | 4=>13 | 5=>16 | 6=>19 | 7=>23 | 8=>26 | _=>27
theorem powT_bd (d:Nat):1 <= powT d∧powT d <= 27:=by
 unfold powT
 split <;> decide
theorem powT_up:∀ d,1 <= d -> 2 ^ powT d <= 16*10 ^ (d-1)
 | 0,h=>absurd h (by decide)
 | 1,_=>by decide
 | 2,_=>by decide
 | 3,_=>by decide
 | 4,_=>by decide
 | 5,_=>by decide
 | 6,_=>by decide
 | 7,_=>by decide
 | 8,_=>by decide
 | d+9,_=>by
  have h:(10:Nat) ^ 8 <= 10 ^ (d+9-1):=Nat.pow_le_pow_right (by decide) (by omega);have h2:2 ^ powT (d+9) <= 16*10 ^ 8:=by
   show 2 ^ 27 <= 16*10 ^ 8;decide
  omega
theorem powT_dn:∀ d,1 <= d -> 2 ^ powT d <= 10 ^ d
 | 0,h=>absurd h (by decide)
 | 1,_=>by decide
 | 2,_=>by decide
 | 3,_=>by decide
 | 4,_=>by decide
 | 5,_=>by decide
 | 6,_=>by decide
 | 7,_=>by decide
 | 8,_=>by decide
 | d+9,_=>by
  have h:(10:Nat) ^ 9 <= 10 ^ (d+9):=Nat.pow_le_pow_right (by decide) (by omega);have h2:2 ^ powT (d+9) <= 10 ^ 9:=by
   show 2 ^ 27 <= 10 ^ 9;decide
  omega
def tenA:Nat:=310
theorem tenA_eq:tenA=310:=rfl
def tenB:Nat:=1669
theorem tenB_eq:tenB=1669:=rfl
def tenC:Nat:=331
theorem tenC_eq:tenC=331:=rfl
def twoD:Nat:=1034
theorem twoD_eq:twoD=1034:=rfl
structure L1 (V0 N0 n0 q0 V N n:Nat) (dp:Int) (s:Nat):Prop where
 g:WGood N n
 m:(s=0∧n <= 30)∨N % 10≠0
 nd:(n:Int) <= dp+2000
 hv:val N n dp=V
 e:V*2 ^ s=V0
 c:s=0∨one <= 16*V
 d0 : -330 <= dp
 d1:dp <= 310
 h0:V0=N0*10 ^ q0
 hn:N0<10 ^ n0
 n30:n0 <= 30
 b:V0<10 ^ tenA*one
theorem L1.s_bd {V0 N0 n0 q0 V N n s:Nat} {dp:Int} (h:L1 V0 N0 n0 q0 V N n dp s):s <= 1033:=by
 rcases h.c with h0 | h1
 ·omega
 ·have h2:one*2 ^ s <= 16*V0:=by
   rw [<- h.e,<- Nat.mul_assoc];exact Nat.mul_le_mul_right _ h1
  have h3:one*2 ^ s<one*(16*10 ^ tenA):=by
   have:=h.b;rw [show one*(16*10 ^ tenA)=16*(10 ^ tenA*one) by rw [Nat.mul_comm one,Nat.mul_assoc]];exact Nat.lt_of_le_of_lt h2 (Nat.mul_lt_mul_of_pos_left this (by decide))
  have h4:=Nat.lt_of_mul_lt_mul_left h3;have h5:16*10 ^ tenA <= 2 ^ twoD:=by decide +kernel
  refine Nat.le_of_not_lt fun h6 => ?_;have h7:(2:Nat) ^ twoD <= 2 ^ s:=Nat.pow_le_pow_right (by decide) (by have:=twoD_eq; omega);exact absurd (Nat.le_trans h5 h7) (Nat.not_le_of_lt h4)
theorem L1.n_bd {V0 N0 n0 q0 V N n s:Nat} {dp:Int} (h:L1 V0 N0 n0 q0 V N n dp s):n <= 760:=by
 have hs:=h.s_bd
 rcases h.m with h9 | h9
 ·omega
 have h1:N*10 ^ (dp-(n:Int)+2000).toNat*2 ^ s=N0*10 ^ q0:=by
  rw [<- h.h0,<- h.e,<- h.hv];rfl
 have h2:=right_n ⟨h.g,h9⟩ h.hn h1;have:=h.n30;omega
theorem L1.step {V0 N0 n0 q0 V N n s:Nat} {dp:Int} (h:L1 V0 N0 n0 q0 V N n dp s) (hd:0<dp) {N' n':Nat} {dp':Int} (g':DGood N' n') (nd':(n':Int) <= dp'+2000) (hv':val N' n' dp'=V / 2 ^ powT dp.toNat)
  (hx:V / 2 ^ powT dp.toNat*2 ^ powT dp.toNat=V):L1 V0 N0 n0 q0 (V / 2 ^ powT dp.toNat) N' n' dp' (s+powT dp.toNat):=by
 obtain ⟨p,hp⟩:∃ p:Nat,dp=(p:Int):=⟨dp.toNat,by omega⟩;subst hp;rw [Int.toNat_natCast] at hv' hx ⊢;have hV:=val_ge h.g p (p-1) h.nd (by omega);rw [h.hv] at hV;have ht:=powT_up p (by omega);obtain ⟨V',hV'⟩:∃ V',V / 2 ^ powT p=V':=⟨_,rfl⟩;rw [hV'] at hv' hx ⊢;have hc:one <= 16*V':=by
  have h1:10 ^ (p-1)*one <= V'*(16*10 ^ (p-1)):=by
   rw [<- hx] at hV;exact Nat.le_trans hV (Nat.mul_le_mul_left _ ht)
  rw [Nat.mul_comm,show V'*(16*10 ^ (p-1))=16*V'*10 ^ (p-1) by ac_rfl] at h1;exact Nat.le_of_mul_le_mul_right h1 (Nat.pow_pos (by decide))
 have hle:V' <= V:=by rw [<- hx]; exact Nat.le_mul_of_pos_right _ (two_pos _)
 have hb1:=val_bd g'.toWGood dp' nd';have hb2:=val_bd h.g p h.nd;rw [hv'] at hb1;rw [h.hv] at hb2;refine ⟨g'.toWGood,.inr g'.md,nd',hv',?_,.inr hc,?_,?_,h.h0,h.hn,h.n30,h.b⟩
 ·rw [Nat.pow_add,Nat.mul_comm (2 ^ s),<- Nat.mul_assoc,hx,h.e]
 ·refine Int.not_lt.1 fun hl => ?_;have h3:=val_small g'.toWGood dp' 2 nd' (by omega) (by decide);rw [hv'] at h3;omega
 ·have h4:=pow_lt_inv (Nat.lt_of_le_of_lt (Nat.le_trans hb1.1 hle) hb2.2);have:=h.d1;omega
structure L2 (V0 V N n:Nat) (dp:Int) (s j:Nat):Prop where
 g:WGood N n
 nd:(n:Int) <= dp+2000
 hv:val N n dp=V
 e:V*2 ^ s=V0*2 ^ j
 l:dp <= 0
 d0 : -330 <= dp
 a:(s=0∧(n:Int)-dp <= 361)∨(one*2 ^ j <= 16*V∧(n:Int)-dp <= 762)
 lo:10 ^ tenB <= V0
theorem L1.two {V0 N0 n0 q0 V N n s:Nat} {dp:Int} (h:L1 V0 N0 n0 q0 V N n dp s) (hd:dp <= 0) (hs0:s=0 -> n <= 30) (lo:10 ^ tenB <= V0):L2 V0 V N n dp s 0:=by
 refine ⟨h.g,h.nd,h.hv,by rw [h.e,Nat.pow_zero,Nat.mul_one],hd,h.d0,?_,lo⟩;have hn:=h.n_bd;have:=h.d0
 by_cases h0:s=0
 ·exact .inl ⟨h0,by have:=hs0 h0; omega⟩
 ·have h1:=h.c.resolve_left h0;have h2 : -1 <= dp:=by
   refine Int.not_lt.1 fun hl => ?_;have h3:=val_small h.g dp 2 h.nd (by omega) (by decide);rw [h.hv] at h3;omega
  exact .inr ⟨by rw [Nat.pow_zero,Nat.mul_one]; exact h1,by omega⟩
theorem L2.j_bd {V0 V N n s j:Nat} {dp:Int} (h:L2 V0 V N n dp s j):j <= s+1100:=by
 have hV:=val_lt h.g dp 0 h.nd h.l;rw [h.hv,Nat.pow_zero,Nat.one_mul] at hV;refine Nat.le_of_not_lt fun hl => ?_;obtain ⟨i,hi⟩:∃ i,j=s+1100+i:=⟨j-(s+1100),by omega⟩;have h1:=h.e;rw [hi,Nat.pow_add,Nat.pow_add] at h1;have h2:V=V0*2 ^ 1100*2 ^ i:=by
  refine Nat.eq_of_mul_eq_mul_right (two_pos s) ?_;rw [h1];generalize (2:Nat) ^ 1100=x;generalize (2:Nat) ^ s=y;generalize (2:Nat) ^ i=z
  ac_rfl
 have h3:one <= V0*2 ^ 1100:=by
  have h4:one=10 ^ tenB*10 ^ tenC:=by
   unfold one;have he:=oneE_eq;have hb:=tenB_eq;have hc:=tenC_eq;rw [<- Nat.pow_add];exact congrArg (fun z:Nat=>10 ^ z) (by omega)
  have h5:(10:Nat) ^ tenC <= 2 ^ 1100:=by decide +kernel
  rw [h4];exact Nat.mul_le_mul h.lo h5
 have h6:V0*2 ^ 1100 <= V:=by rw [h2]; exact Nat.le_mul_of_pos_right _ (two_pos i)
 omega
theorem L2.n_bd {V0 V N n s j:Nat} {dp:Int} (h:L2 V0 V N n dp s j):n <= 762:=by
 have:=h.l
 rcases h.a with h1 | h1 <;> omega
theorem L2.far {V0 V N n s j:Nat} {dp:Int} (h:L2 V0 V N n dp s j):(s=0∧(n:Int)-dp <= 361)∨j <= 3:=by
 rcases h.a with h1 | h1
 ·exact .inl h1
 ·refine .inr (Nat.le_of_not_lt fun hl => ?_);have hV:=val_lt h.g dp 0 h.nd h.l;rw [h.hv,Nat.pow_zero,Nat.one_mul] at hV;have h2:(2:Nat) ^ 4 <= 2 ^ j:=Nat.pow_le_pow_right (by decide) hl;have h3:one*2 ^ 4 <= one*2 ^ j:=Nat.mul_le_mul_left _ h2;omega
theorem L2.step {V0 V N n s j k:Nat} {dp:Int} (h:L2 V0 V N n dp s j) (hk:V*2 ^ k<one) {N' n':Nat} {dp':Int} (g':DGood N' n') (nd':(n':Int) <= dp'+2000) (hv':val N' n' dp'=V*2 ^ k) :
  L2 V0 (V*2 ^ k) N' n' dp' s (j+k):=by
 have hb1:=val_bd g'.toWGood dp' nd';have hb2:=val_bd h.g dp h.nd;rw [hv'] at hb1;rw [h.hv] at hb2;have hq:N'*10 ^ (dp'-(n':Int)+2000).toNat=N*10 ^ (dp-(n:Int)+2000).toNat*2 ^ k:=by
  have e1:val N' n' dp'=val N n dp*2 ^ k:=by rw [hv',h.hv]
  exact e1
 have hlq:=left_q g'.md hq;have hnd:=h.nd;have hd1:dp <= dp':=by
  have h1:V <= V*2 ^ k:=Nat.le_mul_of_pos_right _ (two_pos k);have:=pow_lt_inv (Nat.lt_of_le_of_lt (Nat.le_trans hb2.1 h1) hb1.2);have:=h.d0;omega
 have hd2:dp' <= 0:=by
  refine Int.not_lt.1 fun hl => ?_;have h3:=val_ge g'.toWGood dp' 0 nd' (by omega);rw [hv'] at h3;omega
 refine ⟨g'.toWGood,nd',hv',?_,hd2,by have:=h.d0; omega,?_,h.lo⟩
 ·have:=h.e;rw [Nat.pow_add,<- Nat.mul_assoc,<- this];generalize 2 ^ k=y;generalize 2 ^ s=z
  ac_rfl
 ·rcases h.a with ⟨a1,a2⟩ | ⟨a1,a2⟩
  ·exact .inl ⟨a1,by omega⟩
  ·refine .inr ⟨?_,by omega⟩;rw [Nat.pow_add,<- Nat.mul_assoc,<- Nat.mul_assoc];exact Nat.mul_le_mul_right _ a1
theorem L2.small {V0 V N n s j:Nat} {dp:Int} (h:L2 V0 V N n dp s j) (hd:dp<0):V*2 ^ powT (-dp).toNat<one:=by
 obtain ⟨p,hp⟩:∃ p:Nat,-dp=(p:Int):=⟨(-dp).toNat,by omega⟩;rw [hp,Int.toNat_natCast];have h1:=val_small h.g dp p h.nd (by omega) (by have:=h.d0; omega);rw [h.hv] at h1;have h2:=powT_dn p (by omega);exact Nat.lt_of_le_of_lt (Nat.mul_le_mul_left _ h2) h1
theorem half_digit {N n:Nat} (g:WGood N n) (h:n <= 2000):(N / 10 ^ (n-1)<5 -> 2*val N n 0<one)∧(5 <= N / 10 ^ (n-1) -> one <= 2*val N n 0):=by
 have h1:=g.n1;have he:=oneE_eq;obtain ⟨c,hc⟩:∃ c,oneE=n+c:=⟨oneE-n,by omega⟩;have hv:val N n 0=N*10 ^ c:=by
  unfold val;rw [show ((0:Int)-(n:Int)+2000).toNat=c by omega]
 have ho:one=10*10 ^ (n-1)*10 ^ c:=by
  unfold one;rw [hc,Nat.pow_add,show n=n-1+1 by omega,Nat.pow_succ,Nat.mul_comm (10 ^ (n-1)) 10];rfl
 have hp:0<10 ^ (n-1):=Nat.pow_pos (by decide);rw [hv,ho]
 constructor
 ·intro h2;have h3:N<5*10 ^ (n-1):=(Nat.div_lt_iff_lt_mul hp).1 h2;rw [<- Nat.mul_assoc];exact Nat.mul_lt_mul_of_pos_right (by omega) (Nat.pow_pos (by decide))
 ·intro h2;have h3:5*10 ^ (n-1) <= N:=(Nat.le_div_iff_mul_le hp).1 h2;rw [<- Nat.mul_assoc];exact Nat.mul_le_mul_right _ (by omega)
end dmx

/- A scaled decimal, rounded, is the nearest float: plain arithmetic. No conditions but those stated. -/
namespace dmx
open fpm
theorem L2.v_lt {V0 V N n s j:Nat} {dp:Int} (h:L2 V0 V N n dp s j):V<one:=by
 have hV:=val_lt h.g dp 0 h.nd h.l;rw [h.hv,Nat.pow_zero,Nat.one_mul] at hV;exact hV
theorem fb_norm {V0 V N n s j:Nat} {dp:Int} (h:L2 V0 V N n dp s j) (h2:one <= 2*V) (hj:j <= s+1021) :
  nearX V0 one=(s+1021-j)*4503599627370496+rne (V*2 ^ 53) one∧4503599627370496 <= rne (V*2 ^ 53) one∧rne (V*2 ^ 53) one <= 9007199254740992:=by
 have ho:=one_pos;have hV:=h.v_lt;obtain ⟨t,ht⟩:∃ t,t=s+1021-j:=⟨_,rfl⟩;rw [<- ht];have h53:(2:Nat) ^ 53=9007199254740992:=by decide
 obtain ⟨a,b,c⟩:=rne_spec (V*2 ^ 53) one ho;have hle:rne (V*2 ^ 53) one <= 9007199254740992:=rne_le ho (by rw [h53]; omega);have hge:4503599627370496 <= rne (V*2 ^ 53) one:=by
  refine Nat.le_of_not_lt fun hl => ?_;have h1:rne (V*2 ^ 53) one*one <= 4503599627370495*one:=Nat.mul_le_mul_right _ (by omega);rw [h53] at a b c h1 hl;generalize rne (V*9007199254740992) one*one=x at *;generalize one=o at *;omega
 refine ⟨(near_eq ho (near_mk V0 one one (V*2 ^ 53) t _ ho ho ?_ a b c hle (.inr ?_))).symm,hge,hle⟩
 ·have he:=h.e;have hle2:=leB_eq;refine Nat.eq_of_mul_eq_mul_right (two_pos j) ?_;have e1:(2:Nat) ^ 53*2 ^ t*2 ^ j=2 ^ s*2 ^ leB:=by
   rw [<- Nat.pow_add,<- Nat.pow_add,<- Nat.pow_add];exact congrArg (fun z:Nat=>2 ^ z) (by omega)
  generalize (2:Nat) ^ leB=x1 at *;generalize (2:Nat) ^ 53=x2 at *;generalize (2:Nat) ^ t=x3 at *;generalize (2:Nat) ^ j=x4 at *;generalize (2:Nat) ^ s=x5 at *;generalize one=o at *;rw [show V0*x1*o*x4=V0*x4*x1*o by ac_rfl,<- he,show V*x2*x3*o*x4=V*(x2*x3*x4)*o by ac_rfl,e1]
  ac_rfl
 ·rw [h53];generalize one=o at *;omega
theorem fb_den {V0 V N n s j n2:Nat} {dp:Int} (h:L2 V0 V N n dp s j) (hj:j=s+1021+n2) (hx:V / 2 ^ n2*2 ^ n2=V) :
  nearX V0 one=rne (V / 2 ^ n2*2 ^ 53) one∧rne (V / 2 ^ n2*2 ^ 53) one <= 9007199254740992:=by
 have ho:=one_pos;have hV:=h.v_lt;have h53:(2:Nat) ^ 53=9007199254740992:=by decide
 obtain ⟨a,b,c⟩:=rne_spec (V / 2 ^ n2*2 ^ 53) one ho;have hle3:V / 2 ^ n2 <= V:=Nat.div_le_self _ _;have hle:rne (V / 2 ^ n2*2 ^ 53) one <= 9007199254740992:=rne_le ho (by rw [h53]; omega);refine ⟨?_,hle⟩;have hn:=near_mk V0 one one (V / 2 ^ n2*2 ^ 53) 0 _ ho ho ?_ a b c hle (.inl rfl)
 ·rw [Nat.zero_mul,Nat.zero_add] at hn;exact (near_eq ho hn).symm
 ·have he:=h.e;have hle2:=leB_eq;obtain ⟨V',hV'⟩:∃ V',V / 2 ^ n2=V':=⟨_,rfl⟩;rw [hV'] at hx ⊢;refine Nat.eq_of_mul_eq_mul_right (two_pos j) ?_;have e1:(2:Nat) ^ 53*2 ^ j=2 ^ n2*2 ^ s*2 ^ leB:=by
   rw [<- Nat.pow_add,<- Nat.pow_add,<- Nat.pow_add];exact congrArg (fun z:Nat=>2 ^ z) (by omega)
  rw [Nat.pow_zero,Nat.mul_one];rw [<- hx] at he;generalize (2:Nat) ^ leB=x1 at *;generalize (2:Nat) ^ 53=x2 at *;generalize (2:Nat) ^ n2=x3 at *;generalize (2:Nat) ^ j=x4 at *;generalize (2:Nat) ^ s=x5 at *;generalize one=o at *;rw [show V0*x1*o*x4=V0*x4*x1*o by ac_rfl,<- he,show V'*x2*o*x4=V'*(x2*x4)*o by ac_rfl,e1]
  ac_rfl
def twoC:Nat:=1024
theorem twoC_eq:twoC=1024:=rfl
def twoT:Nat:=2046
theorem twoT_eq:twoT=2046:=rfl
def infX:Nat:=9218868437227405312
theorem near_inf:Near infX (2 ^ twoC) 1:=by
 have h:=near_mk (2 ^ twoC) 1 1 4503599627370496 twoT 4503599627370496 (by decide) (by decide) (by
  rw [Nat.mul_one,Nat.mul_one,show (4503599627370496:Nat)=2 ^ 52 from rfl,<- Nat.pow_add,<- Nat.pow_add];have:=leB_eq;have:=twoC_eq;have:=twoT_eq;exact congrArg (fun z:Nat=>2 ^ z) (by omega)) (by omega) (by omega) (fun h=>by omega) (by omega) (.inr (by omega))
 exact h
theorem near_big {A B:Nat} (hB:0<B) (h:2 ^ twoC*B <= A):infX <= nearX A B :=
 near_mono (by decide) hB near_inf (near_of A B hB) (by rw [Nat.mul_one]; exact h)
def lowE:Nat:=1075
theorem near_low {A B:Nat} (hB:0<B) (h:A*2 ^ lowE <= B):nearX A B=0:=by
 have h1:=near_mk A B B (A*2 ^ leB) 0 0 hB hB (by rw [Nat.pow_zero,Nat.mul_one]) (by omega) (by
  rw [Nat.zero_mul,Nat.mul_zero,Nat.zero_add];have e:(2:Nat) ^ lowE=2*2 ^ leB:=by rw [show lowE=leB+1 from rfl,Nat.pow_succ,Nat.mul_comm]
  rw [e] at h;generalize (2:Nat) ^ leB=x at *;rw [Nat.mul_left_comm] at h;exact h) (fun h=>by omega) (by omega) (.inl rfl)
 exact (near_eq hB h1).symm
end dmx

/- A scope with two labels that the run jumps forward to. No conditions but those stated. -/
namespace scp
open Go
def jump2 (l1:Nat) (J1:Act -> World -> Prop) (l2:Nat) (J2:Act -> World -> Prop) (Q:Exit -> Act -> World -> Prop):Exit -> Act -> World -> Prop
 | .goto l',a,w=>(l'=l1∧J1 a w)∨(l'=l2∧J2 a w)
 | e,a,w=>Q e a w
section
variable {Q:Exit -> Act -> World -> Prop} {a:Act} {w:World} {l1 l2:Nat} {J1 J2:Act -> World -> Prop}
end
theorem wp_scope_two {P:Program} {a:Act} {w:World} {Q:Exit -> Act -> World -> Prop} {c r1 r2:Code} (l1 l2:Nat) (hf1:findLabel c l1=some r1) (hf2:findLabel c l2=some r2)
  (first:c.wp P (jump2 l1 (fun a w=>r1.wp P (Exit.noGoto Q) a w) l2 (fun a w=>r2.wp P (Exit.noGoto Q) a w) Q) a w):(Code.scope c).wp P Q a w:=by
 intro b k cs;have hg1:gotoIn l1 (.inScope c :: k)=some (.code r1 :: .inScope c :: k):=by simp [gotoIn,hf1]
 have hg2:gotoIn l2 (.inScope c :: k)=some (.code r2 :: .inScope c :: k):=by simp [gotoIn,hf2]
 have key:∀ (r:Code) (a:Act) (w:World),r.wp P (Exit.noGoto Q) a w -> ∃ e a' w',Q e a' w'∧Arrives P (lone (b.at a (.code r :: .inScope c :: k)) cs w) b k cs e a' w':=by
  intro r a w hr;obtain ⟨e,a₁,w₁,hq,harr⟩:=hr b (.inScope c :: k) cs
  cases e with
  | normal=>exact ⟨.normal,a₁,w₁,hq,Steps.trans harr (.one step_inScope)⟩
  | exit id=>exact ⟨.exit id,a₁,w₁,hq,fun k' hk=>harr k' (by simp [exitTo,hk])⟩
  | goto l'=>exact absurd hq (by simp [Exit.noGoto])
  | ret=>exact ⟨_,a₁,w₁,hq,harr⟩
  | panic ch=>exact ⟨_,a₁,w₁,hq,harr⟩
  | outgrown=>exact ⟨_,a₁,w₁,hq,harr⟩
 obtain ⟨e,a₁,w₁,hq,harr⟩:=first b (.inScope c :: k) cs
 cases e with
 | normal=>exact ⟨.normal,a₁,w₁,hq,.head step_scope (Steps.trans harr (.one step_inScope))⟩
 | exit id=>exact ⟨.exit id,a₁,w₁,hq,fun k' hk => .head step_scope (harr k' (by simp [exitTo,hk]))⟩
 | goto l' =>
  rcases hq with ⟨rfl,hJ⟩ | ⟨rfl,hJ⟩
  ·obtain ⟨e₂,a₂,w₂,hq₂,harr₂⟩:=key _ a₁ w₁ hJ;exact ⟨e₂,a₂,w₂,hq₂,.of_steps (.head step_scope (harr _ hg1)) harr₂⟩
  ·obtain ⟨e₂,a₂,w₂,hq₂,harr₂⟩:=key _ a₁ w₁ hJ;exact ⟨e₂,a₂,w₂,hq₂,.of_steps (.head step_scope (harr _ hg2)) harr₂⟩
 | ret=>exact ⟨_,a₁,w₁,hq,.of_steps (.one step_scope) harr⟩
 | panic ch=>exact ⟨_,a₁,w₁,hq,.of_steps (.one step_scope) harr⟩
 | outgrown=>exact ⟨_,a₁,w₁,hq,.of_steps (.one step_scope) harr⟩
end scp
end Go.Proofs.YtcbgkbidgpemfaaGreatDoor
