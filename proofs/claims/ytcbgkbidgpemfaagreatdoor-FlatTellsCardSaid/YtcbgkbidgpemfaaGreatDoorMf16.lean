/- Unrounded scaling at the table's powers, and rounding of what it answers. Plain. -/
import Derived.Test.YtcbgkbidgpemfaaGreatDoorMf15
import Derived.Test.YtcbgkbidgpemfaaGreatDoorMf07
import Derived.Test.YtcbgkbidgpemfaaGreatDoorMf12
namespace Go.Proofs.YtcbgkbidgpemfaaGreatDoor
namespace fpm
theorem pow_split (D j s k:Nat) (h:k <= s):j*(2*(D*2 ^ (128+s)))=(j*2 ^ (s-k))*(2*(D*2 ^ (128+k))):=by
 have e:(2:Nat) ^ (128+s)=2 ^ (s-k)*2 ^ (128+k):=by rw [<- Nat.pow_add]; congr 1; omega
 rw [e];generalize 2 ^ (s-k)=a;generalize 2 ^ (128+k)=b;rw [Nat.mul_assoc j a,<- Nat.mul_assoc D a,Nat.mul_comm D a,Nat.mul_assoc a D,<- Nat.mul_assoc 2 a,Nat.mul_comm 2 a,Nat.mul_assoc a 2]
theorem us_parse (i s x:Nat) (h1:1 <= i) (h2:i<696) (hs:8 <= s) (hx0:9223372036854775808 <= x) (hx:x<18446744073709551616) :
  usN x (hiT i) (loT i) s=unr (x*nT i) (dT i*2 ^ (128+s)):=by
 obtain ⟨r1,r2,r3,r4,r5⟩:=row_spec i (by omega);refine us_spec _ _ _ _ _ _ hx r3 (dT_pos i) r4 r5 fun j => ?_;obtain ⟨a,c,hc⟩:=quad_at paB certPa 1 (i-1) paAll (by rw [paLen]; omega);rw [show 1+(i-1)=i by omega] at hc;have h:=nm_of_cert hc x (j*2 ^ (s-8)) (by omega) hx hx0;rw [pow_split (dT i) j s 8 hs];exact h
theorem unr_parts (A Q:Nat) (hQ:0<Q):∃ k r,A=4*Q*k+r∧r<4*Q∧unr A Q / 4=k ∧
  (unr A Q % 4=0↔r=0)∧(unr A Q % 4=1↔0<r∧r<2*Q)∧(unr A Q % 4=2↔r=2*Q)∧(unr A Q % 4=3↔2*Q<r):=by
 obtain ⟨F,hF⟩:∃ F,F=A / Q:=⟨_,rfl⟩;obtain ⟨t,ht⟩:∃ t,t=A % Q:=⟨_,rfl⟩;have e:=Nat.div_add_mod A Q;rw [<- hF,<- ht] at e;have bt:t<Q:=by rw [ht]; exact Nat.mod_lt _ hQ
 obtain ⟨k,hk⟩:∃ k,k=F / 4:=⟨_,rfl⟩;obtain ⟨f,hf⟩:∃ f,f=F % 4:=⟨_,rfl⟩;have eF:F=4*k+f:=by omega
 have eQ:Q*F=4*Q*k+Q*f:=by rw [eF,Nat.mul_add,<- Nat.mul_assoc,Nat.mul_comm Q 4]
 have hf4:f=0∨f=1∨f=2∨f=3:=by omega
 have hu:unr A Q=if t=0 then F else F / 2*2+1:=by unfold unr; rw [<- hF,<- ht]
 refine ⟨k,Q*f+t,by omega,?_,?_,?_,?_,?_,?_⟩
 all_goals rcases hf4 with rfl | rfl | rfl | rfl
 all_goals try rw [hu]
 all_goals try split
 all_goals omega
def rnd (u:Nat):Nat:=(u+1+u / 4 % 2) / 4
theorem r_round (A Q:Nat) (hQ:0<Q):2*(rnd (unr A Q)*(4*Q)) <= 2*A+4*Q∧2*A <= 2*(rnd (unr A Q)*(4*Q))+4*Q ∧
  ((2*(rnd (unr A Q)*(4*Q))=2*A+4*Q∨2*A=2*(rnd (unr A Q)*(4*Q))+4*Q) -> rnd (unr A Q) % 2=0):=by
 obtain ⟨k,r,e,hr,h,h0,h1,h2,h3⟩:=unr_parts A Q hQ;obtain ⟨P,hP⟩:∃ P,P=4*Q:=⟨_,rfl⟩;rw [<- hP] at e hr ⊢;have hm:unr A Q % 4=0∨unr A Q % 4=1∨unr A Q % 4=2∨unr A Q % 4=3:=by omega
 have ek:(k+1)*P=k*P+P:=by rw [Nat.add_mul,Nat.one_mul]
 rw [Nat.mul_comm P k] at e;unfold rnd
 rcases hm with m | m | m | m
 ·have hr0:=h0.1 m;have:(unr A Q+1+unr A Q / 4 % 2) / 4=k:=by omega
  rw [this];omega
 ·have hr1:=h1.1 m;have:(unr A Q+1+unr A Q / 4 % 2) / 4=k:=by omega
  rw [this];omega
 ·have hr2:=h2.1 m
  by_cases hk:k % 2=0
  ·have:(unr A Q+1+unr A Q / 4 % 2) / 4=k:=by omega
   rw [this];omega
  ·have:(unr A Q+1+unr A Q / 4 % 2) / 4=k+1:=by omega
   rw [this,ek];omega
 ·have hr3:=h3.1 m;have:(unr A Q+1+unr A Q / 4 % 2) / 4=k+1:=by omega
  rw [this,ek];omega
end fpm

/- Unrounded scaling: the model's words in plain numbers. Plain. -/
namespace fpm
open Go Go.RowKit prnw
theorem or_one (a:Nat) (h:a<18446744073709551616):bits BinOp.or IntKind.u64 (a:Int) 1=((a / 2*2+1:Nat):Int):=by
 have e:bits BinOp.or IntKind.u64 (a:Int) 1=IntKind.u64.wrap (((BitVec.ofInt 64 (a:Int) ||| BitVec.ofInt 64 1).toNat:Nat):Int):=rfl;have h2:(BitVec.ofInt 64 (a:Int)).toNat=a:=by
  rw [BitVec.toNat_ofInt];omega
 have h3:(BitVec.ofInt 64 1).toNat=1:=by decide
 have h4:a ||| 1=a / 2*2+1:=by
  apply Nat.eq_of_testBit_eq;intro i;rw [Nat.testBit_or]
  cases i with
  | zero=>simp [Nat.testBit_zero]
  | succ i =>
   rw [Nat.testBit_succ,Nat.testBit_succ,Nat.testBit_succ];rw [show (a / 2*2+1) / 2=a / 2 by omega];simp
 rw [e,BitVec.toNat_or,h2,h3,h4,IntKind.wrap_u64];omega
theorem or_zero (a:Nat) (h:a<18446744073709551616):bits BinOp.or IntKind.u64 (a:Int) 0=(a:Int):=by
 have e:bits BinOp.or IntKind.u64 (a:Int) 0=IntKind.u64.wrap (((BitVec.ofInt 64 (a:Int) ||| BitVec.ofInt 64 0).toNat:Nat):Int):=rfl;have h2:(BitVec.ofInt 64 (a:Int)).toNat=a:=by
  rw [BitVec.toNat_ofInt];omega
 have h3:(BitVec.ofInt 64 0).toNat=0:=by decide
 rw [e,BitVec.toNat_or,h2,h3,Nat.or_zero,IntKind.wrap_u64];omega
theorem us_eq (x hi lo s:Nat) (hx:x<18446744073709551616) (hh:9223372036854775808 <= hi) (hh2:hi<18446744073709551616) (hl:lo<18446744073709551616) (hs:s<64):usI x hi lo (s:Int)=(usN x hi lo s:Int):=by
 have hk:=toNat_bits63 (s:Int) (by omega) (by omega);unfold usI usN;rw [hk,Int.toNat_natCast];have bH:x*hi / 18446744073709551616<18446744073709551616:=by
  have h1:x*hi<18446744073709551616*18446744073709551616:=Nat.mul_lt_mul_of_lt_of_lt hx hh2;exact Nat.div_lt_of_lt_mul h1
 have bL:x*lo / 18446744073709551616<18446744073709551616:=by
  have h1:x*lo<18446744073709551616*18446744073709551616:=Nat.mul_lt_mul_of_lt_of_lt hx hl;exact Nat.div_lt_of_lt_mul h1
 have bL2:x*lo / 18446744073709551616+2 <= 18446744073709551616:=by
  have h1:x*lo <= 18446744073709551615*18446744073709551615:=Nat.mul_le_mul (by omega) (by omega);omega
 have hHL:x*hi / 18446744073709551616=0 -> ¬ x*hi % 18446744073709551616<x*lo / 18446744073709551616:=by
  intro h0 h1;have h2:x*lo <= x*18446744073709551615:=Nat.mul_le_mul_left x (by omega);have h3:x*9223372036854775808 <= x*hi:=Nat.mul_le_mul_left x hh;omega
 obtain ⟨H,hH⟩:∃ H,H=x*hi / 18446744073709551616:=⟨_,rfl⟩;obtain ⟨M,hM⟩:∃ M,M=x*hi % 18446744073709551616:=⟨_,rfl⟩;obtain ⟨L,hL⟩:∃ L,L=x*lo / 18446744073709551616:=⟨_,rfl⟩;have bM:M<18446744073709551616:=by rw [hM]; exact Nat.mod_lt _ (by decide)
 rw [<- hH] at bH;rw [<- hL] at bL bL2;rw [<- hH,<- hM,<- hL] at hHL ⊢;have e2:((2:Int) ^ s)=((2 ^ s:Nat):Int):=by norm_cast
 obtain ⟨z,hz⟩:∃ z,z=2 ^ s:=⟨_,rfl⟩;have pz:0<z:=by rw [hz]; exact Nat.two_pow_pos s
 rw [e2,<- hz];have d1:((H:Int) / (z:Int))=((H / z:Nat):Int):=by norm_cast
 have d2:(((H / z:Nat):Int)*(z:Int))=((H / z*z:Nat):Int):=by norm_cast
 have dm:=Nat.div_add_mod H z;rw [Nat.mul_comm] at dm;have bz:H / z <= H:=Nat.div_le_self _ _;have hw:IntKind.u64.wrap (((H / z*z:Nat):Int))=((H / z*z:Nat):Int):=by rw [IntKind.wrap_u64]; omega
 rw [d1,d2,hw]
 by_cases c1:H % z=0
 ·rw [if_neg (by rw [bne_iff_ne]; intro h; apply h; omega),if_neg (show ¬ (H % z≠0) from fun h=>h c1)]
  by_cases c2:M<L
  ·have hH0:H≠0:=fun h=>hHL h c2;rw [if_pos c2,if_pos c2];have e3:IntKind.u64.wrap ((H:Int)-1)=((H-1:Nat):Int):=by rw [IntKind.wrap_u64]; omega
   have e4:(((H-1:Nat):Int) / (z:Int))=(((H-1) / z:Nat):Int):=by norm_cast
   have b4:(H-1) / z <= H-1:=Nat.div_le_self _ _;have e5:(1:Int)<IntKind.u64.wrap ((M:Int)-(L:Int)):=by rw [IntKind.wrap_u64]; omega
   rw [e3,e4,if_pos e5,or_one _ (by omega)]
  ·rw [if_neg c2,if_neg c2];have e3:IntKind.u64.wrap ((H:Int)-0)=(H:Int):=by rw [IntKind.wrap_u64]; omega
   have e5:IntKind.u64.wrap ((M:Int)-(L:Int))=(M:Int)-(L:Int):=by rw [IntKind.wrap_u64]; omega
   rw [e3,d1,e5]
   by_cases c3:L+1<M
   ·rw [if_pos (by omega),if_pos c3,or_one _ (by omega)]
   ·rw [if_neg (by omega),if_neg c3,or_zero _ (by omega)]
 ·rw [if_pos (by rw [bne_iff_ne]; intro h; apply c1; omega),if_pos (show H % z≠0 from c1),or_one _ (by omega)]
theorem round_eq (u:Nat) (h:u<9223372036854775808):roundI (u:Int)=(rnd u:Int):=by
 unfold roundI rnd;have e1:IntKind.u64.wrap ((u:Int)+1)=((u+1:Nat):Int):=by rw [IntKind.wrap_u64]; omega
 have e2:bits BinOp.and IntKind.u64 ((u:Int) / 4) 1=((u / 4 % 2:Nat):Int):=by
  have:=and_mask .u64 (.inr rfl) (u / 4) 1 (by omega) (by decide);have e:((u:Int) / 4)=((u / 4:Nat):Int):=by norm_cast
  rw [e];exact this
 rw [e1,e2,IntKind.wrap_u64];omega
theorem nd_id (P:Int) (h0 : -348 <= P) (i:Nat) (hi:i=(P+348).toNat) (lp:Int) (hlp:lp=P*108853 / 32768) :
  nT i*10 ^ (-P).toNat*2 ^ (lp-127).toNat=dT i*10 ^ P.toNat*2 ^ (127-lp).toNat:=by
 have hl:lpT i=lp:=by
  unfold lpT;rw [hlp];congr 2;omega
 unfold nT dT;rw [hl]
 by_cases h:348 <= i
 ·rw [if_pos h,if_pos h,show i-348=P.toNat by omega,show (-P).toNat=0 by omega,Nat.pow_zero,Nat.mul_one]
  ac_rfl
 ·rw [if_neg h,if_neg h,show 348-i=(-P).toNat by omega,show P.toNat=0 by omega,show (lp-127).toNat=0 by omega,Nat.pow_zero,Nat.mul_one]
  ac_rfl
end fpm

/- The printed digits: the model's words in plain numbers. -/
namespace fpm
open Go Go.RowKit prnw
end fpm

/- The digits that are printed lie in the number's interval. Plain. -/
namespace fpm
open Go Go.RowKit prnw
def upB:Nat:=1076
end fpm

/- A positive float's digits lie in its interval. Plain. -/
namespace fpm
open Go Go.RowKit prnw
end fpm

/- The digits of a positive float lie in its interval. Plain. -/
namespace fpm
open Go Go.RowKit prnw
end fpm

/- The set-up of shortFloat: power, shift, ends. Plain. -/
namespace fpm
open Go Go.RowKit prnw
end fpm

/- The digits of a positive float lie in its interval. Plain. -/
namespace fpm
open Go Go.RowKit prnw
end fpm

/- ftoa64 on its shortest road for 'e'. No conditions but those stated. -/
namespace prnw
open Go.RowKit
open Go.Shelf
open Go.Sort
open qt
open Go.BigFrame
open nodew
open chkw
theorem fbits_run (x:Nat) (w:World):(callFunc 182 #[.float .f64 x]).run Tryz.prog w = .ok (.value (.int .u64 x)) w:=by
 rw [@run_callFunc_extern Tryz.prog 182 _ Extern.MathFloatBits.float64bits Tryz.func182 (by kernel_rfl) (by kernel_rfl) (by kernel_rfl) (by kernel_rfl)];rfl
attribute [local go_sem] fbits_run
end prnw

/- FormatFloat for 'e', of a positive float. No conditions but those stated. -/
namespace prnw
open Go.RowKit
open Go.Shelf
open Go.Sort
open nodew
open chkw
end prnw

/- decimal.laid: digits by a place of the point. No conditions but those stated. -/
namespace prnw
open Go.RowKit
open Go.Shelf
open Go.Sort
open nodew
open chkw
theorem str_mk (l:List UInt8):(⟨l.toArray⟩:ByteArray).data.toList=l:=by simp
end prnw

/- Plain laws ahead of decimal.Print: a float's order by its bits, and the pieces of a number's text. No conditions but those stated. -/
namespace prnw
open Go.RowKit
open Go.Shelf
open nodew
open flatm
def isDg (b:UInt8):Prop:=48 <= b.toNat∧b.toNat <= 57
theorem isDg.ne {b:UInt8} (h:isDg b) {c:UInt8} (hc:c.toNat<48∨57<c.toNat):b≠c:=by
 intro e;subst e;unfold isDg at h;omega
theorem dv (n:Nat) (h:n<10):Lib.digitVal (UInt8.ofNat (48+n))=some n:=by
 have h1:(UInt8.ofNat (48+n)).toNat=48+n:=by rw [UInt8.toNat_ofNat']; omega
 unfold Lib.digitVal;rw [h1,if_pos (by omega)];congr 1;omega
end prnw
end Go.Proofs.YtcbgkbidgpemfaaGreatDoor
