/- The walks of strconv's special and commonPrefixLenIgnoreCase at a decimal. Conditions: as each theorem states. -/
import Derived.Test.YtcbgkbidgpemfaaGreatDoorMf00
import Derived.Test.YtcbgkbidgpemfaaGreatDoorMf22
import Derived.Test.YtcbgkbidgpemfaaGreatDoorMf26
import Derived.Test.YtcbgkbidgpemfaaGreatDoorMf24
import Derived.Test.YtcbgkbidgpemfaaGreatDoorMf16
import Derived.Test.YtcbgkbidgpemfaaGreatDoorMf01
namespace Go.Proofs.YtcbgkbidgpemfaaGreatDoor
set_option maxRecDepth 100000
set_option maxHeartbeats 2000000
namespace rdf
open Go.RowKit
open bsw
open prnw
theorem okc_cases {c:UInt8} (h:okc c=true):c.toNat=43∨c.toNat=45∨c.toNat=46∨(48 <= c.toNat∧c.toNat <= 57)∨c.toNat=69∨c.toNat=101:=by
 unfold okc at h;simp only [Bool.or_eq_true,decide_eq_true_eq] at h
 rcases h with ((((h | h) | h) | h) | h) | h
 ·exact .inl h
 ·exact .inr (.inl h)
 ·exact .inr (.inr (.inl h))
 ·exact .inr (.inr (.inr (.inl ((isD_iff c).1 h))))
 ·exact .inr (.inr (.inr (.inr (.inl h))))
 ·exact .inr (.inr (.inr (.inr (.inr h))))
theorem common_no (t:ByteArray) (h:0<t.size) (hc:okc t[0]=true) (w:World) :
  Calls Tryz.prog 255 #[.string t,.string ⟨#[105,110,102,105,110,105,116,121]⟩] w (Same w (.int .i64 0)):=by
 have HC:=Yd (okc_cases hc);obtain ⟨m,hm⟩:∃ m:Int,min (8:Int) (t.size:Int)=m:=⟨_,rfl⟩;have m0:0<m:=by omega
 clear hc;go_enter Tryz.func255,Tryz.ntmps255;go_wp2_with fail;have h0:decide (0<m)=true:=decide_eq_true m0;have b0:((⟨#[105,110,102,105,110,105,116,121]⟩:ByteArray)[0]'(by decide)).toNat=105:=rfl;clear hm;refine wp_loop_rounds 1 ?_;rw [rounds_succ]
 rcases HC.out with z | z | z | ⟨z1,z2⟩ | z | z
 case inr.inr.inr.inl =>
  have u1:decide (65 <= t[0].toNat)=false:=decide_eq_false (by omega);have u2:(t[0].toNat:Int) <= 57:=by omega
  have u3:((t[0].toNat:Int) != 105)=true:=by rw [bne_iff_ne]; omega
  go_wp2_with fail;go_ret;exact ⟨rfl,rfl⟩
 all_goals
  go_wp2_with fail;go_ret;exact ⟨rfl,rfl⟩
theorem drop1 (s:ByteArray) (h:2 <= s.size):(s.extract 1 s.size).size=s.size-1 ∧ ∀ (k:Nat) (hk:k<(s.extract 1 s.size).size) (hk2:k+1<s.size),(s.extract 1 s.size)[k]=s[k+1]:=by
 constructor
 ·rw [ByteArray.size_extract];omega
 ·intro k hk hk2;rw [ByteArray.getElem_extract];congr 1;omega
theorem special_any (s:ByteArray) (neg:Bool) (x:MS) (rest:List UInt8) (ex:Int) (h:RfOk s neg x rest ex) (w:World) :
  Calls Tryz.prog 243 #[.string s] w (Same w (.tuple #[.float .f64 0,.int .i64 0,.bool false])):=by
 have h0:0<s.size:=h.pos;have hc:=okc_cases (h.ok 0 h0);have hsz:((s.size:Int) == 0)=false:=Yf (by omega)
 have hf:=h.first
 by_cases h45:(s[0]).toNat=45
 ·have hng:neg=true:=by rw [h.ng]; exact decide_eq_true h45
  have h2:=h.two hng;obtain ⟨e1,e2⟩:=drop1 s h2;have h3:0<(s.extract 1 s.size).size:=by omega
  have HC:=Yd (common_no (s.extract 1 s.size) h3 (by rw [e2 0 h3 (by omega)]; exact h.ok 1 (by omega)) w);have l1:(1:Int) <= (s.size:Int):=by omega
  have l2:1 <= s.size:=by omega
  clear hc hf h e1 e2 h3 hng;go_enter Tryz.func243,Tryz.ntmps243;go_wp2_with (go_at_call 255; (with_reducible refine HC.out.mono ?_); rintro e w' ⟨rfl,hw'⟩; obtain rfl:=hw'.symm);go_ret3;exact ⟨rfl,rfl⟩
 ·have k1:((s[0].toNat:Int) == 43)=false:=Yf (by omega)
  have k2:((s[0].toNat:Int) == 45)=false:=Yf (by omega)
  have k3:((s[0].toNat:Int) == 105)=false:=Yf (by omega)
  have k4:((s[0].toNat:Int) == 73)=false:=Yf (by omega)
  have k5:((s[0].toNat:Int) == 110)=false:=Yf (by omega)
  have k6:((s[0].toNat:Int) == 78)=false:=Yf (by omega)
  clear hc hf h45;go_enter Tryz.func243,Tryz.ntmps243;go_wp2;go_ret3;exact ⟨rfl,rfl⟩
end rdf

/- The walk of strconv's pack64. Conditions: as each theorem states. -/
namespace rdf
open Go.RowKit
open bsw
open prnw
open dcw
open dmx
theorem ifrombits_run (n:Int) (w:World):(callFunc 252 #[.int .u64 n]).run Tryz.prog w = .ok (.value (.float .f64 n.toNat)) w:=by
 rw [@run_callFunc_extern Tryz.prog 252 _ Extern.MathFloatBits.float64frombits Tryz.func252 (by kernel_rfl) (by kernel_rfl) (by kernel_rfl) (by kernel_rfl)];rfl
attribute [local go_sem] ifrombits_run
theorem bv_cut {n:Nat} (z y:BitVec n) (h:z &&& y=0#n):(z ||| y) &&& ~~~y=z:=by
 apply BitVec.eq_of_getElem_eq;intro i hi;have:=congrArg (fun v:BitVec n=>v[i]) h;simp only [BitVec.getElem_and,BitVec.getElem_zero] at this;simp only [BitVec.getElem_and,BitVec.getElem_or,BitVec.getElem_not]
 cases hz:z[i] <;> cases hy:y[i] <;> simp_all
theorem andn52 (a:Nat) (ha:a<4503599627370496) (neg:Bool):bits BinOp.andNot IntKind.u64 ((sgn neg (4503599627370496+a):Nat):Int) 4503599627370496=((sgn neg a:Nat):Int):=by
 have hs:sgn neg (4503599627370496+a)<18446744073709551616:=by unfold sgn; split <;> omega
 have hs2:sgn neg a<18446744073709551616:=by unfold sgn; split <;> omega
 have h1:9223372036854775808+a=2 ^ 52*2048 ||| a:=(show 9223372036854775808+a=2 ^ 52*2048+a by omega).trans (Nat.two_pow_add_eq_or_of_lt (by simpa using ha) 2048);have h2:9223372036854775808+(4503599627370496+a)=2 ^ 52*2049 ||| a:=(show 9223372036854775808+(4503599627370496+a)=2 ^ 52*2049+a by omega).trans (Nat.two_pow_add_eq_or_of_lt (by simpa using ha) 2049);have h3:4503599627370496+a=2 ^ 52*1 ||| a:=(show 4503599627370496+a=2 ^ 52*1+a by omega).trans (Nat.two_pow_add_eq_or_of_lt (by simpa using ha) 1);have h4:(2:Nat) ^ 52*2049=2 ^ 52*2048 ||| 2 ^ 52*1:=by decide
 have hor:sgn neg (4503599627370496+a)=sgn neg a ||| 4503599627370496:=by
  cases neg with
  | true =>
   show 9223372036854775808+(4503599627370496+a)=(9223372036854775808+a) ||| 4503599627370496;rw [h2,h1,h4,Nat.or_assoc,Nat.or_assoc,Nat.or_comm a]
  | false =>
   show 4503599627370496+a=a ||| 4503599627370496;rw [h3,Nat.or_comm]
 have hand:sgn neg a &&& 4503599627370496=0:=by
  apply Nat.eq_of_testBit_eq;intro i;rw [Nat.testBit_and,show (4503599627370496:Nat)=2 ^ 52 from rfl,Nat.testBit_two_pow,Nat.zero_testBit]
  by_cases hi:52=i
  ·subst hi;rw [Nat.testBit_eq_decide_div_mod_eq,show sgn neg a / 2 ^ 52 % 2=0 by unfold sgn; split <;> omega];rfl
  ·rw [decide_eq_false hi,Bool.and_false]
 have e:bits BinOp.andNot IntKind.u64 ((sgn neg (4503599627370496+a):Nat):Int) 4503599627370496=IntKind.u64.wrap (((BitVec.ofInt 64 ((sgn neg (4503599627370496+a):Nat):Int) &&& ~~~ BitVec.ofInt 64 4503599627370496).toNat:Nat):Int):=rfl;have hb:BitVec.ofInt 64 ((sgn neg (4503599627370496+a):Nat):Int)=BitVec.ofInt 64 ((sgn neg a:Nat):Int) ||| BitVec.ofInt 64 4503599627370496:=by
  apply BitVec.eq_of_toNat_eq;rw [BitVec.toNat_or,bv_nat _ hs,bv_nat _ hs2,hor];rfl
 have hb2:BitVec.ofInt 64 ((sgn neg a:Nat):Int) &&& BitVec.ofInt 64 4503599627370496=0#64:=by
  apply BitVec.eq_of_toNat_eq;rw [BitVec.toNat_and,bv_nat _ hs2];exact hand
 rw [e,hb,bv_cut _ _ hb2,bv_nat _ hs2,IntKind.wrap_u64];omega
def pkV (neg:Bool) (X:Nat):Value:=.tuple #[.float .f64 (sgn neg (min X infX)),if infX <= X then .iface 185 (.int .i64 1) else .nilIface]
theorem or52s (neg:Bool) (r b:Nat) (hr:r<4503599627370496) (hb:b<2048):bits BinOp.or IntKind.u64 ((sgn neg r:Nat):Int) ((b*4503599627370496:Nat):Int)=((sgn neg (b*4503599627370496+r):Nat):Int):=by
 have e:bits BinOp.or IntKind.u64 ((sgn neg r:Nat):Int) ((b*4503599627370496:Nat):Int)=IntKind.u64.wrap (((BitVec.ofInt 64 ((sgn neg r:Nat):Int) ||| BitVec.ofInt 64 ((b*4503599627370496:Nat):Int)).toNat:Nat):Int):=rfl;have hs:sgn neg r<18446744073709551616:=by unfold sgn; split <;> omega
 have p63:(2:Nat) ^ 63=9223372036854775808:=by decide
 have h1:9223372036854775808+r=2 ^ 63*1 ||| r:=(show 9223372036854775808+r=2 ^ 63*1+r by omega).trans (Nat.two_pow_add_eq_or_of_lt (i:=63) (by rw [p63]; omega) 1);have h0:b*4503599627370496+r=b*4503599627370496 ||| r:=by
  rw [Nat.mul_comm b];exact Nat.two_pow_add_eq_or_of_lt (i:=52) (by simpa using hr) b
 have h2:9223372036854775808+(b*4503599627370496+r)=2 ^ 63*1 ||| (b*4503599627370496+r):=(show 9223372036854775808+(b*4503599627370496+r)=2 ^ 63*1+(b*4503599627370496+r) by omega).trans (Nat.two_pow_add_eq_or_of_lt (i:=63) (by rw [p63]; omega) 1);have h4:sgn neg r ||| b*4503599627370496=sgn neg (b*4503599627370496+r):=by
  cases neg with
  | true =>
   show (9223372036854775808+r) ||| b*4503599627370496=9223372036854775808+(b*4503599627370496+r);rw [h2,h1,h0,Nat.or_assoc,Nat.or_comm r]
  | false =>
   show r ||| b*4503599627370496=b*4503599627370496+r;rw [h0,Nat.or_comm]
 have hs3:sgn neg (b*4503599627370496+r)<18446744073709551616:=by unfold sgn; split <;> omega
 rw [e,BitVec.toNat_or,bv_nat _ hs,bv_nat _ (by omega),h4,IntKind.wrap_u64];omega
theorem andS (a:Nat) (h:a<18446744073709551616):bits BinOp.and IntKind.u64 (a:Int) 9223372036854775808=((a / 9223372036854775808 % 2*9223372036854775808:Nat):Int):=by
 have e:bits BinOp.and IntKind.u64 (a:Int) 9223372036854775808=IntKind.u64.wrap (((BitVec.ofInt 64 (a:Int) &&& BitVec.ofInt 64 9223372036854775808).toNat:Nat):Int):=rfl;have h3:(BitVec.ofInt 64 9223372036854775808).toNat=2 ^ 63:=by decide
 have p63:(2:Nat) ^ 63=9223372036854775808:=by decide
 have h4:a &&& 2 ^ 63=a / 9223372036854775808 % 2*9223372036854775808:=by
  apply Nat.eq_of_testBit_eq;intro i;rw [<- p63,Nat.testBit_and,Nat.testBit_two_pow,Nat.testBit_mul_two_pow]
  by_cases hi:63=i
  ·subst hi;rw [Nat.testBit_eq_decide_div_mod_eq,Nat.sub_self,Nat.testBit_eq_decide_div_mod_eq];simp
  ·rw [decide_eq_false hi,Bool.and_false]
   by_cases hl:63 <= i
   ·obtain ⟨j,rfl⟩:∃ j,i=63+(j+1):=⟨i-64,by omega⟩;rw [show 63+(j+1)-63=j+1 by omega,Nat.testBit_succ,show a / 2 ^ 63 % 2 / 2=0 by omega];simp
   ·rw [decide_eq_false hl,Bool.false_and]
 rw [e,BitVec.toNat_and,bv_nat a h,h3,h4,IntKind.wrap_u64];omega
theorem pack_any (neg:Bool) (R t:Nat) (hR:R<9007199254740992) (ht:t=0∨4503599627370496 <= R) (ht2:t <= 2200) (w:World) :
  Calls Tryz.prog 260 #[.int .u64 ((sgn neg R:Nat):Int),.int .i64 ((t:Int)-1074)] w (Same w (pkV neg (t*4503599627370496+R))):=by
 have hs:sgn neg R<18446744073709551616:=by unfold sgn; split <;> omega
 by_cases hlow:R<4503599627370496
 ·have ht0:t=0:=by omega
  subst ht0;have b0:bits BinOp.and IntKind.u64 ((sgn neg R:Nat):Int) 4503599627370496=0:=by
   rw [andb _ hs,show sgn neg R / 4503599627370496 % 2=0 by unfold sgn; split <;> omega];rfl
  have hv:pkV neg (0*4503599627370496+R) = .tuple #[.float .f64 (sgn neg R),.nilIface]:=by
   unfold pkV infX;rw [Nat.zero_mul,Nat.zero_add,Nat.min_eq_left (by omega),if_neg (by omega)]
  rw [hv];obtain ⟨m,hm⟩:∃ m,sgn neg R=m:=⟨_,rfl⟩;rw [hm] at b0 ⊢;clear hm hv hs hlow hR ht ht2;go_enter Tryz.func260,Tryz.ntmps260;go_wp2_with fail;go_ret2;exact ⟨rfl,rfl⟩
 ·obtain ⟨r,hr⟩:∃ r,R=4503599627370496+r:=⟨R-4503599627370496,by omega⟩;subst hr;have b0:bits BinOp.and IntKind.u64 ((sgn neg (4503599627370496+r):Nat):Int) 4503599627370496=4503599627370496:=by
   rw [andb _ hs,show sgn neg (4503599627370496+r) / 4503599627370496 % 2=1 by unfold sgn; split <;> omega];rfl
  have b1:=andn52 r (by omega) neg
  by_cases hbig:2046 <= t
  ·have b2:bits BinOp.and IntKind.u64 ((sgn neg (4503599627370496+r):Nat):Int) 9223372036854775808=((sgn neg 0:Nat):Int):=by
    rw [andS _ hs];refine congrArg (fun z:Nat=>(z:Int)) ?_
    cases neg with
    | true =>
     show (9223372036854775808+(4503599627370496+r)) / 9223372036854775808 % 2*9223372036854775808=9223372036854775808+0;omega
    | false =>
     show (4503599627370496+r) / 9223372036854775808 % 2*9223372036854775808=0;omega
   have b3:bits BinOp.or IntKind.u64 ((sgn neg 0:Nat):Int) 9218868437227405312=((sgn neg 9218868437227405312:Nat):Int):=by
    cases neg <;> decide +kernel
   have hv:pkV neg (t*4503599627370496+(4503599627370496+r)) = .tuple #[.float .f64 (sgn neg 9218868437227405312),.iface 185 (.int .i64 1)]:=by
    unfold pkV infX;rw [Nat.min_eq_right (by omega),if_pos (by omega)]
   rw [hv];have t1:decide (972 <= (t:Int)-1074)=true:=decide_eq_true (by omega);obtain ⟨m,hm⟩:∃ m,sgn neg (4503599627370496+r)=m:=⟨_,rfl⟩;obtain ⟨m0,hm0⟩:∃ m0,sgn neg 0=m0:=⟨_,rfl⟩;obtain ⟨mi,hmi⟩:∃ mi,sgn neg 9218868437227405312=mi:=⟨_,rfl⟩;rw [hm] at b0 b2 ⊢;rw [hm0] at b2 b3;rw [hmi] at b3 ⊢;clear hm hm0 hmi hv hs hlow hR ht hbig b1;go_enter Tryz.func260,Tryz.ntmps260;go_wp2_with fail;go_ret2;exact ⟨rfl,rfl⟩
  ·obtain ⟨T,hT⟩:∃ T,t+1=T:=⟨_,rfl⟩;obtain ⟨Y,hY⟩:∃ Y,T*4503599627370496=Y:=⟨_,rfl⟩;have b5:IntKind.u64.wrap ((T:Int)*4503599627370496)=(Y:Int):=by
    clear b0 b1 hs ht;rw [IntKind.wrap_u64];omega
   have eX:t*4503599627370496+(4503599627370496+r)=Y+r:=by
    rw [<- hY,<- hT,Nat.add_mul,Nat.one_mul,Nat.add_assoc]
   have eI:¬ 9218868437227405312 <= Y+r:=by omega
   have b3:=or52s neg r T (by omega) (by omega);rw [hY] at b3;have hv:pkV neg (t*4503599627370496+(4503599627370496+r)) = .tuple #[.float .f64 (sgn neg (Y+r)),.nilIface]:=by
    unfold pkV infX;rw [eX,Nat.min_eq_left (Nat.le_of_lt (Nat.lt_of_not_le eI)),if_neg eI]
   rw [hv];have t1:decide (972 <= (t:Int)-1074)=false:=decide_eq_false (by omega);have t2:(1075:Int)+((t:Int)-1074)=(T:Int):=by omega
   have T0:(0:Int) <= (T:Int):=by omega
   have T9:(T:Int) <= 2046:=by omega
   have tt0:(0:Int) <= (t:Int):=by omega
   have tt9:(t:Int) <= 2045:=by omega
   obtain ⟨m,hm⟩:∃ m,sgn neg (4503599627370496+r)=m:=⟨_,rfl⟩;obtain ⟨m0,hm0⟩:∃ m0,sgn neg r=m0:=⟨_,rfl⟩;obtain ⟨mi,hmi⟩:∃ mi,sgn neg (Y+r)=mi:=⟨_,rfl⟩;rw [hm] at b0 b1 ⊢;rw [hm0] at b1 b3;rw [hmi] at b3 ⊢;clear hm hm0 hmi hv hs hlow hR ht hbig hT hY eX eI;go_enter Tryz.func260,Tryz.ntmps260;go_wp2_with fail;go_ret2;exact ⟨rfl,rfl⟩
end rdf

/- Unrounded scaling of a decimal's digits, rounded: the nearest float. Plain. -/
namespace fpm
open Go Go.RowKit prnw
def ndB (i:Nat):Bool:=decide (dT i*170141183460469231731687303715884105728 <= nT i) && decide (nT i*4096 <= dT i*1393456292541243007882519017433090825912320)
theorem ndAll:(List.range 656).all (fun j=>ndB (j+3))=true:=by kernel_rfl
theorem nd_at (i:Nat) (h0:3 <= i) (h1:i<659):dT i*170141183460469231731687303715884105728 <= nT i∧nT i*4096 <= dT i*1393456292541243007882519017433090825912320:=by
 have:=List.all_eq_true.1 ndAll (i-3) (List.mem_range.2 (by omega));rw [show i-3+3=i by omega] at this;unfold ndB at this;simpa using this
theorem pq_id (P:Int) (h0 : -348 <= P) (i:Nat) (hi:i=(P+348).toNat) (lp:Int) (hlp:lp=P*108853 / 32768) (d z s t:Nat) (hs:(s:Int)=z+t-1074-lp-3) :
  d*10 ^ P.toNat*2 ^ leB*(4*(dT i*2 ^ (128+s)))=d*2 ^ z*nT i*2 ^ t*10 ^ (-P).toNat:=by
 have hid:=nd_id P h0 i hi lp hlp;obtain ⟨u,hu⟩:∃ u,u=(lp-127).toNat:=⟨_,rfl⟩;obtain ⟨v,hv⟩:∃ v,v=(127-lp).toNat:=⟨_,rfl⟩;rw [<- hu,<- hv] at hid;have e:2 ^ leB*(4*2 ^ (128+s))*2 ^ u=2 ^ z*2 ^ t*2 ^ v:=by
  rw [show (4:Nat)=2 ^ 2 by decide,<- Nat.pow_add,<- Nat.pow_add,<- Nat.pow_add,<- Nat.pow_add,<- Nat.pow_add];have he:=leB_eq;exact congrArg (fun y:Nat=>2 ^ y) (by omega)
 refine Nat.eq_of_mul_eq_mul_right (Nat.two_pow_pos u) ?_;generalize 2 ^ leB=x1 at *;generalize 2 ^ (128+s)=x2 at *;generalize 2 ^ u=x3 at *;generalize 2 ^ z=x4 at *;generalize 2 ^ t=x5 at *;generalize 2 ^ v=x6 at *;generalize 10 ^ P.toNat=T at *;generalize 10 ^ (-P).toNat=T' at *;have e1:d*T*x1*(4*(dT i*x2))*x3=d*T*dT i*(x1*(4*x2)*x3):=by ac_rfl
 have e2:d*x4*nT i*x5*T'*x3=d*x4*x5*(nT i*T'*x3):=by ac_rfl
 rw [e1,e2,e,hid]
 ac_rfl
theorem unr_half (A Q:Nat) (hQ:0<Q):(if unr A Q % 2=1 then unr A Q / 2 / 2*2+1 else unr A Q / 2)=unr A (2*Q):=by
 have h:=Nat.div_add_mod A Q;have hm:=Nat.mod_lt A hQ;obtain ⟨F,hF⟩:∃ F,F=A / Q:=⟨_,rfl⟩;obtain ⟨m,hm2⟩:∃ m,m=A % Q:=⟨_,rfl⟩;rw [<- hF,<- hm2] at h;rw [<- hm2] at hm;have e1:A / (2*Q)=F / 2:=by rw [Nat.mul_comm,<- Nat.div_div_eq_div_mul,<- hF]
 have e2:A % (2*Q)=0↔(m=0∧F % 2=0):=by
  have h2:=Nat.div_add_mod A (2*Q);rw [e1] at h2;have hq:2*Q*(F / 2)=Q*(F / 2*2):=by rw [Nat.mul_comm 2 Q,Nat.mul_assoc,Nat.mul_comm 2]
  rcases Nat.mod_two_eq_zero_or_one F with hf | hf
  ·have hF2:F / 2*2=F:=by omega
   rw [hq,hF2] at h2;omega
  ·have hF2:F=F / 2*2+1:=by omega
   have:Q*F=Q*(F / 2*2)+Q:=by rw [hF2,Nat.mul_add,Nat.mul_one,<- hF2]
   rw [hq] at h2;omega
 unfold unr;rw [<- hF,<- hm2,e1]
 by_cases h0:m=0
 ·rw [if_pos h0]
  rcases Nat.mod_two_eq_zero_or_one F with hf | hf
  ·rw [if_neg (by omega),if_pos (e2.2 ⟨h0,hf⟩)]
  ·rw [if_pos hf,if_neg (fun h=>by have:=(e2.1 h).2; omega)]
 ·rw [if_neg h0,if_pos (by omega),if_neg (fun h=>h0 (e2.1 h).1)];omega
theorem rnd_spec (A Q:Nat) (hQ:0<Q):2*(rnd (unr A Q)*(4*Q)) <= 2*A+4*Q∧2*A <= 2*(rnd (unr A Q)*(4*Q))+4*Q ∧
  (rnd (unr A Q) % 2=1 -> 2*(rnd (unr A Q)*(4*Q))<2*A+4*Q∧2*A<2*(rnd (unr A Q)*(4*Q))+4*Q):=by
 obtain ⟨a,b,c⟩:=r_round A Q hQ;exact ⟨a,b,fun h=>by omega⟩
theorem rnd_big (u:Nat):36028797018963966 <= u↔9007199254740992 <= rnd u:=by
 unfold rnd;omega
theorem pf_core (A B N Q t:Nat) (hB:0<B) (hQ:0<Q) (hq:A*2 ^ leB*(4*Q)=N*2 ^ t*B) (hn:t=0∨4503599627370496*(4*Q) <= N) (hu:N+4*Q<18014398509481984*(4*Q)) :
  (¬ 36028797018963966 <= unr N Q -> Near (t*4503599627370496+rnd (unr N Q)) A B∧rnd (unr N Q)<9007199254740992∧(t=0∨4503599627370496 <= rnd (unr N Q))) ∧
  (36028797018963966 <= unr N Q -> Near ((t+1)*4503599627370496+rnd (unr N (2*Q))) A B∧rnd (unr N (2*Q))<9007199254740992∧4503599627370496 <= rnd (unr N (2*Q))):=by
 obtain ⟨D,hD⟩:∃ D,D=4*Q:=⟨_,rfl⟩;have hD0:0<D:=by omega
 obtain ⟨a,b,c⟩:=rnd_spec N Q hQ;obtain ⟨a',b',c'⟩:=rnd_spec N (2*Q) (by omega);have hD2:4*(2*Q)=2*D:=by omega
 rw [hD2] at a' b' c';rw [<- hD] at a b c hq hn hu;have hbig:=rnd_big (unr N Q);obtain ⟨R,hR⟩:∃ R,R=rnd (unr N Q):=⟨_,rfl⟩;obtain ⟨R',hR'⟩:∃ R',R'=rnd (unr N (2*Q)):=⟨_,rfl⟩;rw [<- hR] at a b c hbig;rw [<- hR'] at a' b' c';rw [<- hR,<- hR'];have le_of:∀ x y:Nat,x*D <= y*D -> x <= y:=fun x y h=>Nat.le_of_mul_le_mul_right h hD0;have e2:R'*(2*D)=2*R'*D:=by ac_rfl
 rw [e2] at a' b' c'
 constructor
 ·intro h;have hlt:R<9007199254740992:=by omega
  refine ⟨near_mk A B D N t R hB hD0 hq a b c (by omega) hn,hlt,hn.imp_right fun h1 => ?_⟩;refine Nat.le_of_not_lt fun hl => ?_;have:R*D <= 4503599627370495*D:=Nat.mul_le_mul_right _ (by omega);omega
 ·intro h;have hge:9007199254740992 <= R:=hbig.1 h;have hRD:9007199254740992*D <= R*D:=Nat.mul_le_mul_right _ hge;have hR'lt:R'<9007199254740992:=by
   refine Nat.lt_of_not_le fun hl => ?_;have h1:2*9007199254740992*D <= 2*R'*D:=Nat.mul_le_mul_right _ (by omega);omega
  have hR'ge:4503599627370496 <= R':=by
   refine Nat.le_of_not_lt fun hl => ?_;have h1:2*R'*D <= 2*4503599627370495*D:=Nat.mul_le_mul_right _ (by omega);omega
  refine ⟨?_,hR'lt,hR'ge⟩
  by_cases hv:N<9007199254740992*D
  ·have hR1:R=9007199254740992:=by
    refine Nat.le_antisymm (Nat.le_of_not_lt fun hl => ?_) hge;have h1:9007199254740993*D <= R*D:=Nat.mul_le_mul_right _ hl;omega
   have hR2:R'=4503599627370496:=by
    refine Nat.le_antisymm (Nat.le_of_not_lt fun hl => ?_) hR'ge;have h1:2*4503599627370497*D <= 2*R'*D:=Nat.mul_le_mul_right _ (by omega);omega
   have hX:(t+1)*4503599627370496+R'=t*4503599627370496+R:=by omega
   rw [hX];exact near_mk A B D N t R hB hD0 hq a b c (by omega) hn
  ·refine near_mk A B (2*D) N (t+1) R' hB (by omega) ?_ (by rw [e2]; exact a') (by rw [e2]; exact b') (fun h=>by rw [e2]; exact c' h) (by omega) (.inr (by omega));rw [Nat.pow_succ];generalize 2 ^ leB=y at *;generalize 2 ^ t=y2 at *;have e3:A*y*(2*D)=A*y*D*2:=by ac_rfl
   rw [e3,hq]
   ac_rfl
theorem pf_zero (P:Int) (h0 : -345 <= P) (h1:P <= 310) (lp:Int) (hlp:lp=P*108853 / 32768) (d z s:Nat) (hx:d*2 ^ z<18446744073709551616) (hs:(s:Int)=z-1074-lp-3) (hs2:64 <= s) :
  Near 0 (d*10 ^ P.toNat) (10 ^ (-P).toNat):=by
 obtain ⟨i,hi⟩:∃ i,i=(P+348).toNat:=⟨_,rfl⟩;obtain ⟨n1,n2⟩:=nd_at i (by omega) (by omega);have hq:=pq_id P (by omega) i hi lp hlp d z s 0 (by omega);have hdT:=dT_pos i;obtain ⟨g,hg⟩:∃ g,s=64+g:=⟨s-64,by omega⟩;have hQ:0<dT i*2 ^ (128+s):=Nat.mul_pos hdT (Nat.two_pow_pos _);have hN:d*2 ^ z*nT i <= dT i*2 ^ (128+s):=by
  have e1:(2:Nat) ^ (128+s)=6277101735386680763835789423207666416102355444464034512896*2 ^ g:=by
   rw [hg,show 128+(64+g)=192+g by omega,Nat.pow_add]
  have k1:d*2 ^ z*nT i <= 18446744073709551616*nT i:=Nat.mul_le_mul_right _ (by omega);have k2:dT i*6277101735386680763835789423207666416102355444464034512896 <= dT i*2 ^ (128+s):=by
   rw [e1];exact Nat.mul_le_mul_left _ (Nat.le_mul_of_pos_right _ (Nat.two_pow_pos g))
  omega
 have:=near_mk (d*10 ^ P.toNat) (10 ^ (-P).toNat) (4*(dT i*2 ^ (128+s))) (d*2 ^ z*nT i) 0 0 (Nat.pow_pos (by decide)) (by omega) (by rw [hq]) (by omega) (by omega) (fun h=>by omega) (by omega) (.inl rfl);exact this
theorem pf_near (P:Int) (h0 : -345 <= P) (h1:P <= 310) (lp:Int) (hlp:lp=P*108853 / 32768) (d z s t:Nat) (hx0:9223372036854775808 <= d*2 ^ z) (hx:d*2 ^ z<18446744073709551616)
  (hs:(s:Int)=z+t-1074-lp-3) (hs8:8 <= s) (ht:t=0∨s=8) (u:Nat) (hu:u=usN (d*2 ^ z) (hiT (P+348).toNat) (loT (P+348).toNat) s) :
  (¬ 36028797018963966 <= u -> Near (t*4503599627370496+rnd u) (d*10 ^ P.toNat) (10 ^ (-P).toNat)∧rnd u<9007199254740992∧(t=0∨4503599627370496 <= rnd u)) ∧
  (36028797018963966 <= u -> Near ((t+1)*4503599627370496+rnd (if u % 2=1 then u / 2 / 2*2+1 else u / 2)) (d*10 ^ P.toNat) (10 ^ (-P).toNat)∧rnd (if u % 2=1 then u / 2 / 2*2+1 else u / 2)<9007199254740992∧4503599627370496 <= rnd (if u % 2=1 then u / 2 / 2*2+1 else u / 2)):=by
 obtain ⟨i,hi⟩:∃ i,i=(P+348).toNat:=⟨_,rfl⟩;rw [<- hi] at hu;obtain ⟨n1,n2⟩:=nd_at i (by omega) (by omega);have hq:=pq_id P (by omega) i hi lp hlp d z s t hs;have hdT:=dT_pos i;rw [us_parse i s (d*2 ^ z) (by omega) (by omega) hs8 hx0 hx] at hu;have hQ:0<dT i*2 ^ (128+s):=Nat.mul_pos hdT (Nat.two_pow_pos _);obtain ⟨g,hg⟩:∃ g,s=8+g:=⟨s-8,by omega⟩;have e1:(2:Nat) ^ (128+s)=87112285931760246646623899502532662132736*2 ^ g:=by
  rw [hg,show 128+(8+g)=136+g by omega,Nat.pow_add]
 have hn:t=0∨4503599627370496*(4*(dT i*2 ^ (128+s))) <= d*2 ^ z*nT i:=by
  refine ht.imp_right fun h => ?_;have hg0:g=0:=by omega
  rw [e1,hg0,Nat.pow_zero,Nat.mul_one];have k1:9223372036854775808*nT i <= d*2 ^ z*nT i:=Nat.mul_le_mul_right _ hx0;omega
 have hb:d*2 ^ z*nT i+4*(dT i*2 ^ (128+s))<18014398509481984*(4*(dT i*2 ^ (128+s))):=by
  have k1:d*2 ^ z*nT i <= 18446744073709551616*nT i:=Nat.mul_le_mul_right _ (by omega);have k2:dT i*87112285931760246646623899502532662132736 <= dT i*2 ^ (128+s):=by
   rw [e1];exact Nat.mul_le_mul_left _ (Nat.le_mul_of_pos_right _ (Nat.two_pow_pos g))
  omega
 rw [hu,unr_half _ _ hQ];exact pf_core _ _ _ _ t (Nat.pow_pos (by decide)) hQ hq hn hb
end fpm

/- The walk of strconv's parseFloat64. Conditions: as the theorem states. -/
namespace rdf
open Go.RowKit
open bsw
open prnw
open dcw
open dmx
open fpm
theorem b2i (b:Bool) (w:World):Calls Tryz.prog 211 #[.bool b] w (Same w (.int .i64 (if b then 1 else 0))):=by
 go_enter Tryz.func211,Tryz.ntmps211
 cases b
 all_goals go_wp2
 all_goals go_ret
 all_goals exact ⟨rfl,rfl⟩
theorem unmin_53 (w:World):Calls Tryz.prog 226 #[.int .u64 9007199254740992] w (Same w (.int .u64 36028797018963966)):=by
 go_enter Tryz.func226,Tryz.ntmps226;go_wp2;go_ret;exact ⟨rfl,rfl⟩
def PfPost (w:World) (v:Value) (e:Ending) (w':World):Prop:=e = .returned v∧Below w.heap.size w w'
theorem pf_parts (d:Nat) (P lp e:Int) (hd0:0<d) (hd:d<18446744073709551616) (hP0 : -345 <= P) (hP1:P <= 310) (hlp:lp=P*108853 / 32768) (he:e=min 1074 (53-(Lib.bitLen d:Int)-lp)) :
  ∃ b z t:Nat,∃ s:Int,Lib.bitLen d=b∧1 <= b∧b <= 64∧z=64-b∧9223372036854775808 <= d*2 ^ z∧d*2 ^ z<18446744073709551616∧e=1074-(t:Int)∧s=(z:Int)+t-1074-lp-3∧s = -(e-(64-(b:Int))+lp+3)∧8 <= s∧(t=0∨s=8)∧t <= 2199 ∧ -1200 <= lp∧lp <= 1100:=by
 obtain ⟨b1,b2,b3,b4⟩:=bl_bd 64 d (by omega) hd0;change 1 <= Lib.bitLen d at b1;change Lib.bitLen d <= 64 at b2;change 2 ^ (Lib.bitLen d-1) <= d at b3;change d<2 ^ Lib.bitLen d at b4;obtain ⟨b,hb⟩:∃ b,Lib.bitLen d=b:=⟨_,rfl⟩;rw [hb] at b1 b2 b3 b4 he;have hl : -1200 <= lp∧lp <= 1100:=by omega
 refine ⟨b,64-b,(1074-e).toNat,((64-b:Nat):Int)+(1074-e).toNat-1074-lp-3,hb,b1,b2,rfl,?_,?_,by omega,rfl,by omega,by omega,by omega,by omega,hl.1,hl.2⟩
 ·have h1:=Nat.mul_le_mul_right (2 ^ (64-b)) b3;rw [<- Nat.pow_add,show b-1+(64-b)=63 by omega] at h1;exact Nat.le_trans (by decide) h1
 ·have h1:=Nat.mul_lt_mul_of_pos_right b4 (Nat.two_pow_pos (64-b));rw [<- Nat.pow_add,show b+(64-b)=64 by omega] at h1;exact Nat.lt_of_lt_of_le h1 (by decide)
theorem orS (neg:Bool) (R:Nat) (hR:R<9007199254740992):bits BinOp.or IntKind.u64 ((sgn neg 0:Nat):Int) (R:Int)=((sgn neg R:Nat):Int):=by
 have e:bits BinOp.or IntKind.u64 ((sgn neg 0:Nat):Int) (R:Int)=IntKind.u64.wrap (((BitVec.ofInt 64 ((sgn neg 0:Nat):Int) ||| BitVec.ofInt 64 (R:Int)).toNat:Nat):Int):=rfl;have hs:sgn neg 0<18446744073709551616:=by unfold sgn; split <;> omega
 have hs2:sgn neg R<18446744073709551616:=by unfold sgn; split <;> omega
 have p63:(2:Nat) ^ 63=9223372036854775808:=by decide
 have h4:sgn neg 0 ||| R=sgn neg R:=by
  cases neg with
  | true =>
   show 9223372036854775808+0 ||| R=9223372036854775808+R;rw [Nat.add_zero,<- p63];have h1:=Nat.two_pow_add_eq_or_of_lt (i:=63) (b:=R) (by rw [p63]; omega) 1;rw [Nat.mul_one] at h1;exact h1.symm
  | false=>exact Nat.zero_or R
 rw [e,BitVec.toNat_or,bv_nat _ hs,bv_nat _ (by omega),h4,IntKind.wrap_u64];omega
theorem and_one (a:Nat) (h:a<18446744073709551616):bits BinOp.and IntKind.u64 (a:Int) 1=((a % 2:Nat):Int):=and_mask64 a 1 h (by decide)
attribute [local go_sem] ifrombits_run
theorem pf64_any (neg:Bool) (d i:Nat) (hd0:0<d) (hd:d<18446744073709551616) (hi0:3 <= i) (hi1:i <= 658) (w:World) (hT:PT hiT loT w) (hB : 8 < w.heap.size) :
  Calls Tryz.prog 254 #[.int .u64 (d:Nat),.int .i64 ((i:Int)-348),.int .u64 ((sgn neg 0:Nat):Int)] w (PfPost w (pkV neg (nearX (d*10 ^ ((i:Int)-348).toNat) (10 ^ (-((i:Int)-348)).toNat)))):=by
 obtain ⟨lp,hlp⟩:∃ lp:Int,lp=((i:Int)-348)*108853 / 32768:=⟨_,rfl⟩;obtain ⟨e,he⟩:∃ e:Int,e=min 1074 (53-(Lib.bitLen d:Int)-lp):=⟨_,rfl⟩;obtain ⟨b,z,t,s,p1,p2,p3,p4,p5,p6,p7,p8,p9,p10,p11,p12,p13,p14⟩:=pf_parts d ((i:Int)-348) lp e hd0 hd (by omega) (by omega) hlp he;have CL:=fun W => Tryz.bits_Len64 (d:Int) W (by omega) (by omega);rw [Int.toNat_natCast,p1] at CL;have C2:=fun W=>l2_any ((i:Int)-348) (by omega) (by omega) W;rw [<- hlp] at C2;have HL:=Yd (And.intro CL C2);rw [p1] at he;have HE:=Yd he;have HP:=Yd (And.intro p4 (And.intro p5 (And.intro p6 (And.intro p7 (And.intro p8 (And.intro p9 (And.intro p10 (And.intro p11 p12))))))));have b0:(1:Int) <= (b:Int):=by omega
 have b9:(b:Int) <= 64:=by omega
 have HT:=Yd (And.intro hT hB);have HLP:=Yd hlp;clear CL C2 he p1 p4 p5 p6 p7 p8 p9 p10 p11 p12 hT hB hlp;go_enter Tryz.func254,Tryz.ntmps254;go_upto_region 3 with (first | (go_at_call 186; (with_reducible refine (HL.out.1 _).mono ?_); rintro e w' ⟨rfl,hw'⟩; obtain rfl:=hw'.symm) | (go_at_call 220; (with_reducible refine (HL.out.2 _).mono ?_); rintro e w' ⟨rfl,hw'⟩; obtain rfl:=hw'.symm));have hmin:min (1074:Int) (53-(b:Int)-lp)=e:=HE.out.symm;go_upto_region 5 with (fail);obtain ⟨W0,hW0⟩:∃ W0,W0=w.alloc (.cells #[.int .u64 0,.int .u64 0,.int .i64 0] 258):=⟨_,rfl⟩;rw [<- hW0];have hbw:Below w.heap.size w W0:=by rw [hW0]; exact (Below.refl _ _).alloc (Nat.le_refl _) _
 have hsc:SC W0 w.heap.size 0 0 0:=by rw [hW0]; exact heap_at w _ _ rfl
 have hpt:PT hiT loT W0:=fun k hk=>by
  obtain ⟨a1,a2,a3,a4⟩:=HT.out.1 k hk;exact ⟨a1,a2,(hbw.cell (p:=⟨8,k*2,none⟩) HT.out.2).trans a3,(hbw.cell (p:=⟨8,k*2+1,none⟩) HT.out.2).trans a4⟩
 have hp:=HP.out;have CP:=prescale_any hiT loT w.heap.size (e-(64-(b:Int))) i lp (by omega) (by omega) (by omega) (by omega) (by omega) 0 0 0 W0 hpt (by have:=HT.out.2; omega) hsc;rw [<- hp.2.2.2.2.2.1] at CP;have HC:=Yd CP;have e0 : -1200 <= e:=by omega
 have e9:e <= 1074:=by omega
 have HBW:=Yd hbw;clear CP hbw hsc hpt hp hW0 hmin;go_upto_region 6 with (go_at_call 219; (with_reducible refine HC.out.mono ?_); rintro e w1 ⟨rfl,hs1,hg1⟩; have HS1:=Yd (And.intro hs1 hg1); clear hs1 hg1);have d2:w1.cell? ⟨w.heap.size,2,none⟩=some (.int .i64 s):=by rw [cell_of_row _ _ _ _ _ _ HS1.out.1]; rfl
 have hbel:Below w.heap.size w w1:=HBW.out.grown HS1.out.2 HBW.out.size (fun k e=>by obtain rfl:=Option.some.inj e; exact Nat.le_refl _);have HBL:=Yd hbel;clear hbel
 by_cases h64:64 <= s
 ·have t1:decide (64 <= s)=true:=decide_eq_true h64;have b1:bits BinOp.or IntKind.u64 ((sgn neg 0:Nat):Int) 0=((sgn neg 0:Nat):Int):=by cases neg <;> decide +kernel
  obtain ⟨q4,q5,q6,q7,q8,q9,q10,q11,q12⟩:=HP.out;have hz:=pf_zero ((i:Int)-348) (by omega) (by omega) lp HLP.out d z s.toNat q6 (by omega) (by omega);have hn:=near_eq (Nat.pow_pos (by decide)) hz;have hv:pkV neg (nearX (d*10 ^ ((i:Int)-348).toNat) (10 ^ (-((i:Int)-348)).toNat)) = .tuple #[.float .f64 (sgn neg 0),.nilIface]:=by
   rw [<- hn];unfold pkV infX;rw [Nat.min_eq_left (by decide),if_neg (by decide)]
  rw [hv];obtain ⟨m,hm⟩:∃ m,sgn neg 0=m:=⟨_,rfl⟩;rw [hm] at b1 hv ⊢;clear hm hn hz q4 q5 q6 q7 q8 q9 q10 q11 q12 h64;go_wp2_with fail;go_ret2;exact ⟨by rw [hv]; rfl,HBL.out⟩
 ·have t1:decide (64 <= s)=false:=decide_eq_false h64;obtain ⟨q4,q5,q6,q7,q8,q9,q10,q11,q12⟩:=HP.out;obtain ⟨S,hS⟩:∃ S:Nat,s=(S:Int):=⟨s.toNat,by omega⟩;subst hS;obtain ⟨r1,r2,r3,r4,r5⟩:=row_spec i (by omega);have hN:=pf_near ((i:Int)-348) (by omega) (by omega) lp HLP.out d z S t q5 q6 (by omega) (by omega) (by omega) _ rfl;rw [show ((i:Int)-348+348).toNat=i by omega] at hN;obtain ⟨x,hx⟩:∃ x,d*2 ^ z=x:=⟨_,rfl⟩;rw [hx] at q5 q6 hN;have CU:=uscale_any x (hiT i) (loT i) S q6 r2 r3 w.heap.size w1 HS1.out.1;rw [us_eq x (hiT i) (loT i) S q6 r1 r2 r3 (by omega)] at CU;obtain ⟨u,hu⟩:∃ u,u=usN x (hiT i) (loT i) S:=⟨_,rfl⟩;rw [<- hu] at CU hN;have HU:=Yd CU;have HN:=Yd hN;have k0:(64:Int)-(b:Int)=(z:Int):=by omega
  have k1:IntKind.u64.wrap ((d:Int)*2 ^ z)=(x:Int):=by
   rw [show (d:Int)*2 ^ z=((d*2 ^ z:Nat):Int) by norm_cast,hx,IntKind.wrap_u64];omega
  have z0:(0:Int) <= (z:Int):=by omega
  have z9:(z:Int) <= 63:=by omega
  clear CU hN hu r1 r2 r3 r4 r5 q4 q5 q6 q7 q8 q9 q10 q11 q12;go_upto_region 9 with (go_at_call 221; (with_reducible refine HU.out.mono ?_); rintro e w2 ⟨rfl,n,hw2⟩; have HW2:=Yd hw2; clear hw2);have hu9:u<9223372036854775808:=by
   by_cases hc:36028797018963966 <= u
   ·have:=(HN.out.2 hc).2.1;unfold rnd at this
    split at this <;> omega
   ·omega
  have u0:(0:Int) <= (u:Int):=by omega
  have u9:(u:Int)<9223372036854775808:=by omega
  have hbelow:Below w.heap.size w w2:=by
   rw [HW2.out];exact ⟨HBL.out.os,HBL.out.tape,HBL.out.output,HBL.out.size,HBL.out.block⟩
  have HBL2:=Yd hbelow;have hA0:=and_one u (by omega);clear hbelow
  by_cases hc:36028797018963966 <= u
  ·have t2:decide ((36028797018963966:Int) <= (u:Int))=true:=decide_eq_true (by omega);obtain ⟨v,hv⟩:∃ v,v=(if u % 2=1 then u / 2 / 2*2+1 else u / 2):=⟨_,rfl⟩;have hn:=HN.out.2 hc;rw [<- hv] at hn;have hv9:v<9223372036854775808:=by rw [hv]; split <;> omega
   have hor:bits BinOp.or IntKind.u64 ((u:Int) / 2) (bits BinOp.and IntKind.u64 (u:Int) 1)=(v:Int):=by
    rw [hA0,show (u:Int) / 2=((u / 2:Nat):Int) by omega,hv]
    by_cases ho:u % 2=1
    ·rw [ho,if_pos rfl];exact or_one _ (by omega)
    ·rw [if_neg ho,show u % 2=0 by omega];exact or_zero _ (by omega)
   have hrd:=fun W=>round_any (v:Int) (by omega) (by omega) W;rw [round_eq v hv9] at hrd;obtain ⟨R,hR⟩:∃ R,rnd v=R:=⟨_,rfl⟩;rw [hR] at hrd hn;have hsg:=orS neg R hn.2.1;have hpk:=fun W=>pack_any neg R (t+1) hn.2.1 (.inr hn.2.2) (by have:=HP.out.2.2.2.2.2.2.2.2; omega) W;have het : -(e-1)=((t+1:Nat):Int)-1074:=by have:=HP.out.2.2.2.1; omega
   rw [<- het,near_eq (Nat.pow_pos (by decide)) hn.1] at hpk;obtain ⟨F,E,hFE⟩:∃ F E,pkV neg (nearX (d*10 ^ ((i:Int)-348).toNat) (10 ^ (-((i:Int)-348)).toNat)) = .tuple #[F,E]:=⟨_,_,rfl⟩;rw [hFE] at hpk ⊢;have HPK:=Yd (And.intro hrd hpk);have HFE:=Yd hFE;clear hrd hpk hFE hn hv hR het hA0;go_upto_region 10 with (first | (go_at_call 226; (with_reducible refine (unmin_53 _).mono ?_); rintro e w' ⟨rfl,hw'⟩; obtain rfl:=hw'.symm) | (go_at_call 211; (with_reducible refine (b2i true _).mono ?_); rintro e w' ⟨rfl,hw'⟩; obtain rfl:=hw'.symm));go_wp2_with (first | (go_at_call 225; (with_reducible refine (HPK.out.1 _).mono ?_); rintro e w' ⟨rfl,hw'⟩; obtain rfl:=hw'.symm) | (go_at_call 260; (with_reducible refine (HPK.out.2 _).mono ?_); rintro e w' ⟨rfl,hw'⟩; obtain rfl:=hw'.symm));go_ret2;exact ⟨by rw [HFE.out]; rfl,HBL2.out⟩
  ·have t2:decide ((36028797018963966:Int) <= (u:Int))=false:=decide_eq_false (by omega);have hn:=HN.out.1 hc;have hor:bits BinOp.or IntKind.u64 (u:Int) (bits BinOp.and IntKind.u64 (u:Int) 1)=(u:Int):=by
    rw [hA0]
    by_cases ho:u % 2=1
    ·rw [ho];refine (or_one _ (by omega)).trans ?_;omega
    ·rw [show u % 2=0 by omega];exact or_zero _ (by omega)
   have hrd:=fun W=>round_any (u:Int) (by omega) (by omega) W;rw [round_eq u hu9] at hrd;obtain ⟨R,hR⟩:∃ R,rnd u=R:=⟨_,rfl⟩;rw [hR] at hrd hn;have hsg:=orS neg R hn.2.1;have hpk:=fun W=>pack_any neg R t hn.2.1 hn.2.2 (Nat.le_succ_of_le HP.out.2.2.2.2.2.2.2.2) W;have het : -e=(t:Int)-1074:=by have:=HP.out.2.2.2.1; omega
   rw [<- het,near_eq (Nat.pow_pos (by decide)) hn.1] at hpk;obtain ⟨F,E,hFE⟩:∃ F E,pkV neg (nearX (d*10 ^ ((i:Int)-348).toNat) (10 ^ (-((i:Int)-348)).toNat)) = .tuple #[F,E]:=⟨_,_,rfl⟩;rw [hFE] at hpk ⊢;have HPK:=Yd (And.intro hrd hpk);have HFE:=Yd hFE;clear hrd hpk hFE hn hR het hA0;go_upto_region 10 with (first | (go_at_call 226; (with_reducible refine (unmin_53 _).mono ?_); rintro e w' ⟨rfl,hw'⟩; obtain rfl:=hw'.symm) | (go_at_call 211; (with_reducible refine (b2i false _).mono ?_); rintro e w' ⟨rfl,hw'⟩; obtain rfl:=hw'.symm));go_wp2_with (first | (go_at_call 225; (with_reducible refine (HPK.out.1 _).mono ?_); rintro e w' ⟨rfl,hw'⟩; obtain rfl:=hw'.symm) | (go_at_call 260; (with_reducible refine (HPK.out.2 _).mono ?_); rintro e w' ⟨rfl,hw'⟩; obtain rfl:=hw'.symm));go_ret2;exact ⟨by rw [HFE.out]; rfl,HBL2.out⟩
end rdf

/- Rounding to a float64, and the product and the quotient of two, are the nearest floats of what is exact. Plain. -/
namespace fpm
open Go Go.RowKit prnw flatm
theorem cut_rne (neg:Bool) (n v:Nat):Ieee.Toward.cut .even neg n v=rne n (2 ^ v):=by
 have e:Ieee.Toward.cut .even neg n v=rne n (2 ^ min v (n.log2+2)):=by
  unfold Ieee.Toward.cut rne;rw [Nat.shiftLeft_eq,Nat.one_mul];generalize 2 ^ min v (n.log2+2)=g;simp only;congr 1
  by_cases h1:g<2*(n % g)
  ·rw [decide_eq_true h1,if_pos (.inl h1)];rfl
  ·rw [decide_eq_false h1,Bool.false_or]
   by_cases h2:2*(n % g)=g∧n / g % 2=1
   ·rw [if_pos (.inr h2)];have a1:(g == 2*(n % g))=true:=beq_iff_eq.2 h2.1.symm;have a2:(n / g % 2 == 1)=true:=beq_iff_eq.2 h2.2;rw [a1,a2];rfl
   ·rw [if_neg (fun h=>h.elim h1 h2)];have a1:((g == 2*(n % g)) && (n / g % 2 == 1))=false:=by
     rw [Bool.and_eq_false_iff]
     by_cases h3:2*(n % g)=g
     ·exact .inr (beq_eq_false_iff_ne.2 fun h=>h2 ⟨h3,h⟩)
     ·exact .inl (beq_eq_false_iff_ne.2 fun h=>h3 h.symm)
    rw [a1];rfl
 rw [e]
 by_cases h:v <= n.log2+2
 ·rw [Nat.min_eq_left h]
 ·rw [Nat.min_eq_right (by omega)];have small:∀ k,n.log2+2 <= k -> rne n (2 ^ k)=0:=fun k hk=>by
   have h1:n<2 ^ (n.log2+1):=Nat.lt_log2_self;have h2:(2:Nat) ^ (n.log2+1)*2 <= 2 ^ k:=by
    rw [<- Nat.pow_succ];exact Nat.pow_le_pow_right (by decide) hk
   generalize 2 ^ k=g at *;generalize 2 ^ (n.log2+1)=l at *;unfold rne;rw [Nat.div_eq_of_lt (by omega),Nat.mod_eq_of_lt (by omega),if_neg (by omega)]
  rw [small _ (Nat.le_refl _),small v (by omega)]
def infW:Nat:=9218868437227405312
theorem infW_eq:infW=9218868437227405312:=rfl
theorem near_core (neg:Bool) (m:Nat) (p:Int) (hm:0<m):∃ t u v:Nat,(t:Int)=p-u+v+1074∧(t=0∨4503599627370496*2 ^ v <= m*2 ^ u)∧m*2 ^ u <= 9007199254740992*2 ^ v∧(54 <= m.log2 -> u=0∧2 <= v) ∧
  Ieee.Format.nearest Ieee.double neg m p=Ieee.double.word neg (min (t*4503599627370496+rne (m*2 ^ u) (2 ^ v)) infW):=by
 have hf:Ieee.double.fractionBits=52:=rfl;have hb:Ieee.double.binade=4503599627370496:=by kernel_rfl
 have hi:Ieee.double.infRung=infW:=by kernel_rfl
 have hl:Ieee.double.leastPlace = -1074:=by kernel_rfl
 obtain ⟨L,hL⟩:∃ L,m.log2=L:=⟨_,rfl⟩;obtain ⟨last,hlast⟩:∃ last:Int,last=max (p+(L:Int)-52) (-1074):=⟨_,rfl⟩;have h1:m<2 ^ (L+1):=by rw [<- hL]; exact Nat.lt_log2_self
 have h2:2 ^ L <= m:=by rw [<- hL]; exact Nat.log2_self_le (by omega)
 refine ⟨(last+1074).toNat,(p-last).toNat,(last-p).toNat,by omega,?_,?_,fun h=>by omega,?_⟩
 ·by_cases h0:last = -1074
  ·left; omega
  ·right;have e:last=p+(L:Int)-52:=by omega
   by_cases h52:L <= 52
   ·have e1:(p-last).toNat=52-L:=by omega
    have e2:(last-p).toNat=0:=by omega
    rw [e1,e2,Nat.pow_zero,Nat.mul_one];have:=Nat.mul_le_mul_right (2 ^ (52-L)) h2;rw [<- Nat.pow_add,show L+(52-L)=52 by omega] at this;exact Nat.le_trans (by decide) this
   ·have e1:(p-last).toNat=0:=by omega
    have e2:(last-p).toNat=L-52:=by omega
    rw [e1,e2,Nat.pow_zero,Nat.mul_one];have:(4503599627370496:Nat)*2 ^ (L-52)=2 ^ L:=by
     rw [show (4503599627370496:Nat)=2 ^ 52 by decide,<- Nat.pow_add,show 52+(L-52)=L by omega]
    omega
 ·have hu:L+1+(p-last).toNat <= 53+(last-p).toNat:=by omega
  have h3:m*2 ^ (p-last).toNat <= 2 ^ (L+1)*2 ^ (p-last).toNat:=Nat.mul_le_mul_right _ (Nat.le_of_lt h1);rw [<- Nat.pow_add] at h3;have h4:(2:Nat) ^ (L+1+(p-last).toNat) <= 2 ^ (53+(last-p).toNat):=Nat.pow_le_pow_right (by decide) hu;rw [Nat.pow_add 2 53] at h4;exact Nat.le_trans h3 (Nat.le_trans h4 (Nat.le_of_eq (by congr 1)))
 ·unfold Ieee.Format.nearest;rw [if_neg (by omega)];simp only [hf,hb,hi,hl];rw [hL,show ((52:Nat):Int)=52 by rfl,<- hlast,cut_rne,Nat.shiftLeft_eq,show last - -1074=last+1074 by omega]
theorem two_cancel {a b k:Nat} (h:a*2 ^ k=b*2 ^ k):a=b:=Nat.eq_of_mul_eq_mul_right (Nat.two_pow_pos k) h
theorem pw3 (m x y z:Nat):m*2 ^ x*2 ^ y*2 ^ z=m*2 ^ (x+y+z):=by rw [Nat.pow_add,Nat.pow_add,<- Nat.mul_assoc,<- Nat.mul_assoc]
theorem nearest_eq (neg:Bool) (m:Nat) (p:Int) (hm:0<m):Ieee.Format.nearest Ieee.double neg m p=Ieee.double.word neg (min (nearX (m*2 ^ p.toNat) (2 ^ (-p).toNat)) infW):=by
 obtain ⟨t,u,v,e1,e2,e3,_,e5⟩:=near_core neg m p hm;obtain ⟨a,b,c⟩:=rne_spec (m*2 ^ u) (2 ^ v) (Nat.two_pow_pos v);rw [e5];refine congrArg (fun x=>Ieee.double.word neg (min x infW)) ?_;refine near_eq (Nat.two_pow_pos _) (near_mk _ _ (2 ^ v) (m*2 ^ u) t _ (Nat.two_pow_pos _) (Nat.two_pow_pos v) ?_ a b c (rne_le (Nat.two_pow_pos v) e3) e2);have hk:p.toNat+leB+v=u+t+(-p).toNat:=by
  have:=leB_eq;omega
 rw [pw3,pw3,hk]
theorem nearest_frac (neg:Bool) (E n:Nat) (p:Int) (hn:0<n) (hq:9007199254740992 <= E / n) (C D:Nat) (hD:0<D) (h:E*2 ^ (p+1).toNat*D=C*n*2 ^ (-(p+1)).toNat) :
  Ieee.Format.nearest Ieee.double neg (2*(E / n)+(E % n != 0).toNat) p=Ieee.double.word neg (min (nearX C D) infW):=by
 obtain ⟨q,hqd⟩:∃ q,E / n=q:=⟨_,rfl⟩;obtain ⟨r,hr⟩:∃ r,E % n=r:=⟨_,rfl⟩;have hEn:E=n*q+r:=by rw [<- hqd,<- hr]; exact (Nat.div_add_mod E n).symm
 have hrn:r<n:=by rw [<- hr]; exact Nat.mod_lt _ hn
 rw [hqd] at hq ⊢;rw [hr];obtain ⟨s,hs⟩:∃ s,(r != 0).toNat=s:=⟨_,rfl⟩;have hs1:(s=0∧r=0)∨(s=1∧0<r):=by
  by_cases h0:r=0
  ·left; rw [<- hs,h0]; exact ⟨rfl,rfl⟩
  ·right;rw [<- hs,show (r != 0)=true from bne_iff_ne.2 h0];exact ⟨rfl,by omega⟩
 rw [hs];obtain ⟨t,u,v,e1,e2,e3,e4,e5⟩:=near_core neg (2*q+s) p (by omega);rw [e5];have hlog:54 <= (2*q+s).log2:=by
  rw [Nat.le_log2 (by omega)];exact Nat.le_trans (show (2:Nat) ^ 54 <= 2*9007199254740992 by decide) (by omega)
 obtain ⟨hu,hv⟩:=e4 hlog;subst hu;rw [Nat.pow_zero,Nat.mul_one] at e2 e3 ⊢;obtain ⟨a,b,c⟩:=rne_spec (2*q+s) (2 ^ v) (Nat.two_pow_pos v);have hR:=rne_le (Nat.two_pow_pos v) e3;refine congrArg (fun x=>Ieee.double.word neg (min x infW)) ?_;obtain ⟨R,hRd⟩:∃ R,rne (2*q+s) (2 ^ v)=R:=⟨_,rfl⟩;rw [hRd] at a b c hR ⊢;refine near_eq hD (near_mk C D (n*2 ^ v) (2*E) t R hD (Nat.mul_pos hn (Nat.two_pow_pos v)) ?_ ?_ ?_ ?_ hR ?_)
 ·have hk2:(p+1).toNat+(leB+v)=1+t+(-(p+1)).toNat:=by
   have:=leB_eq;omega
  have hp2:2 ^ (p+1).toNat*(2 ^ leB*2 ^ v)=2*2 ^ t*2 ^ (-(p+1)).toNat:=by
   rw [<- Nat.pow_add,<- Nat.pow_add,hk2,Nat.pow_add,Nat.pow_add,Nat.pow_one]
  have hK:0<2 ^ (-(p+1)).toNat:=Nat.two_pow_pos _;generalize 2 ^ leB=Z at *;generalize 2 ^ (p+1).toNat=P at *;generalize 2 ^ (-(p+1)).toNat=K at *;generalize 2 ^ t=T at *;generalize 2 ^ v=V at *;clear e1 e2 e3 e5 a b c;refine Nat.eq_of_mul_eq_mul_right hK ?_
  calc C*Z*(n*V)*K=C*n*K*(Z*V):=by ac_rfl
   _=E*D*(P*(Z*V)):=by rw [<- h]; ac_rfl
   _=E*D*(2*T*K):=by rw [hp2]
   _=2*E*T*D*K:=by ac_rfl
 all_goals
  obtain ⟨z,hz⟩:∃ z,2 ^ v=4*z:=⟨2 ^ (v-2),by
   have h4:(2:Nat) ^ v=2 ^ (2+(v-2)):=by congr 1; omega
   rw [h4,Nat.pow_add]⟩
  rw [hz] at a b c e2 ⊢;obtain ⟨Q,hQ⟩:∃ Q,Q=R*z:=⟨_,rfl⟩;obtain ⟨Qn,hQn⟩:∃ Qn,Qn=Q*n:=⟨_,rfl⟩;obtain ⟨zn,hzn⟩:∃ zn,zn=z*n:=⟨_,rfl⟩;obtain ⟨qn,hqn⟩:∃ qn,qn=q*n:=⟨_,rfl⟩;have k1:R*(4*z)=4*Q:=by rw [hQ]; ac_rfl
  have k2:R*(n*(4*z))=4*Qn:=by rw [hQn,hQ]; ac_rfl
  have k3:n*(4*z)=4*zn:=by rw [hzn]; ac_rfl
  have k4:E=qn+r:=by rw [hqn,Nat.mul_comm q n]; exact hEn
  have mul_le:∀ x y:Nat,x <= y -> x*n <= y*n:=fun x y h=>Nat.mul_le_mul_right n h
 ·rw [k1] at a b;rw [k2,k3,k4];have f1:=mul_le (4*Q) (2*q+2*z) (by omega);rw [Nat.add_mul,Nat.mul_assoc,Nat.mul_assoc,Nat.mul_assoc,<- hQn,<- hqn,<- hzn] at f1;omega
 ·rw [k1] at a b;rw [k2,k3,k4]
  rcases hs1 with ⟨s0,r0⟩ | ⟨s1,r1⟩
  ·have f1:=mul_le (2*q) (4*Q+2*z) (by omega);rw [Nat.add_mul,Nat.mul_assoc,Nat.mul_assoc,Nat.mul_assoc,<- hQn,<- hqn,<- hzn] at f1;omega
  ·have f1:=mul_le (2*q+2) (4*Q+2*z) (by omega);rw [Nat.add_mul,Nat.add_mul,Nat.mul_assoc,Nat.mul_assoc,Nat.mul_assoc,<- hQn,<- hqn,<- hzn] at f1;omega
 ·intro ho;have hc:=c ho;rw [k1] at hc;rw [k2,k3,k4]
  rcases hs1 with ⟨s0,r0⟩ | ⟨s1,r1⟩
  ·have f1:=mul_le (4*Q+1) (2*q+2*z) (by omega);have f2:=mul_le (2*q+1) (4*Q+2*z) (by omega);rw [Nat.add_mul,Nat.add_mul,Nat.mul_assoc,Nat.mul_assoc,Nat.mul_assoc,<- hQn,<- hqn,<- hzn] at f1 f2;omega
  ·have f1:=mul_le (4*Q) (2*q+2*z) (by omega);have f2:=mul_le (2*q+2) (4*Q+2*z) (by omega);rw [Nat.add_mul,Nat.mul_assoc,Nat.mul_assoc,Nat.mul_assoc,<- hQn,<- hqn,<- hzn] at f1;rw [Nat.add_mul,Nat.add_mul,Nat.mul_assoc,Nat.mul_assoc,Nat.mul_assoc,<- hQn,<- hqn,<- hzn] at f2;omega
 ·rw [k3,k4];refine e2.imp_right fun h2 => ?_;have f1:=mul_le (4503599627370496*(2*z)) q (by omega);have e:4503599627370496*(2*z)*n=4503599627370496*(2*zn):=by rw [hzn]; ac_rfl
  rw [e,<- hqn] at f1;omega
theorem word_eq (s:Bool) (X:Nat):Ieee.double.word s X=if s then 9223372036854775808+X else X:=by
 have hw:Ieee.double.signWeight=9223372036854775808:=by kernel_rfl
 unfold Ieee.Format.word;rw [hw]
theorem word_read (s:Bool) (X:Nat) (hX:X<infW):∃ m a:Nat,Ieee.Format.read Ieee.double (Ieee.double.word s X) = .number s m ((-1074:Int)+a)∧m*2 ^ a=valR X:=by
 have hi:=infW_eq;have hm:Ieee.double.word s X % 9223372036854775808=X:=by
  rw [word_eq]
  split <;> omega
 obtain ⟨m,a,h1,h2⟩:=read_num (Ieee.double.word s X) (by rw [hm]; omega);rw [hm] at h2;refine ⟨m,a,?_,h2⟩;rw [h1];congr 1;rw [word_eq]
 cases s
 ·rw [if_neg (by decide),beq_eq_false_iff_ne];omega
 ·rw [if_pos rfl,beq_iff_eq];omega
theorem val_pos {X:Nat} (h:0<X):0<valR X:=Nat.pos_of_ne_zero fun e=>by have:=val_zero e; omega
theorem mul_near (s t:Bool) (X Y C D:Nat) (hX0:0<X) (hX:X<infW) (hY0:0<Y) (hY:Y<infW) (hD:0<D) (h:valR X*valR Y*D=C*2 ^ leB*2 ^ leB) :
  Ieee.double.mul (Ieee.double.word s X) (Ieee.double.word t Y)=some (Ieee.double.word (s ^^ t) (min (nearX C D) infW)):=by
 obtain ⟨m,a,e1,v1⟩:=word_read s X hX;obtain ⟨n,b,e2,v2⟩:=word_read t Y hY;have hm:0<m:=Nat.pos_of_ne_zero fun e=>by
  have:=val_pos hX0;rw [<- v1,e,Nat.zero_mul] at this;omega
 have hn:0<n:=Nat.pos_of_ne_zero fun e=>by
  have:=val_pos hY0;rw [<- v2,e,Nat.zero_mul] at this;omega
 unfold Ieee.Format.mul;rw [e1,e2];show some (Ieee.Format.nearest Ieee.double (s ^^ t) (m*n) _)=_;rw [nearest_eq _ _ _ (Nat.mul_pos hm hn)];refine congrArg (fun x=>some (Ieee.double.word (s ^^ t) (min x infW))) ?_;refine near_same (Nat.two_pow_pos _) hD ?_;obtain ⟨p,hp⟩:∃ p:Int,(-1074:Int)+a+(-1074+b)=p:=⟨_,rfl⟩;rw [hp];have hk:p.toNat+(leB+leB)=a+b+(-p).toNat:=by
  have:=leB_eq;omega
 have hp2:2 ^ p.toNat*(2 ^ leB*2 ^ leB)=2 ^ a*2 ^ b*2 ^ (-p).toNat:=by
  rw [<- Nat.pow_add,<- Nat.pow_add,hk,Nat.pow_add,Nat.pow_add]
 rw [<- v1,<- v2] at h;have hZ:0<2 ^ leB:=Nat.two_pow_pos _;generalize 2 ^ leB=Z at *;generalize 2 ^ p.toNat=P at *;generalize 2 ^ (-p).toNat=K at *;generalize 2 ^ a=u at *;generalize 2 ^ b=v at *;refine Nat.eq_of_mul_eq_mul_right (Nat.mul_pos hZ hZ) ?_
 calc m*n*P*D*(Z*Z)=m*n*D*(P*(Z*Z)):=by ac_rfl
  _=m*u*(n*v)*D*K:=by rw [hp2]; ac_rfl
  _=C*K*(Z*Z):=by rw [h]; ac_rfl
theorem div_near (s t:Bool) (X Y C D:Nat) (hX0:0<X) (hX:X<infW) (hY0:0<Y) (hY:Y<infW) (hD:0<D) (h:valR X*D=C*valR Y) :
  Ieee.double.div (Ieee.double.word s X) (Ieee.double.word t Y)=some (Ieee.double.word (s ^^ t) (min (nearX C D) infW)):=by
 obtain ⟨m,a,e1,v1⟩:=word_read s X hX;obtain ⟨n,b,e2,v2⟩:=word_read t Y hY;have hm:0<m:=Nat.pos_of_ne_zero fun e=>by
  have:=val_pos hX0;rw [<- v1,e,Nat.zero_mul] at this;omega
 have hn:0<n:=Nat.pos_of_ne_zero fun e=>by
  have:=val_pos hY0;rw [<- v2,e,Nat.zero_mul] at this;omega
 unfold Ieee.Format.div;rw [e1,e2];unfold Ieee.Datum.quotient;dsimp only;rw [if_neg (by omega)];obtain ⟨k,hk⟩:∃ k,Ieee.double.fractionBits+2+n.log2-m.log2=k:=⟨_,rfl⟩;simp only [hk,Nat.shiftLeft_eq];have hk2:54+n.log2 <= m.log2+k:=by
  have:Ieee.double.fractionBits=52:=rfl;omega
 show some (Ieee.Format.nearest Ieee.double (s ^^ t) _ _)=_;rw [nearest_frac (s ^^ t) (m*2 ^ k) n _ hn ?_ C D hD ?_]
 ·rw [Nat.le_div_iff_mul_le hn];have f1:n<2 ^ (n.log2+1):=Nat.lt_log2_self;have f2:2 ^ m.log2 <= m:=Nat.log2_self_le (by omega);have f3:2 ^ m.log2*2 ^ k <= m*2 ^ k:=Nat.mul_le_mul_right _ f2;rw [<- Nat.pow_add] at f3;have f4:(2:Nat) ^ (54+n.log2) <= 2 ^ (m.log2+k):=Nat.pow_le_pow_right (by decide) hk2;rw [show 54+n.log2=53+(n.log2+1) by omega,Nat.pow_add 2 53] at f4;have f5:9007199254740992*n <= 2 ^ 53*2 ^ (n.log2+1):=Nat.mul_le_mul (by decide) (Nat.le_of_lt f1);omega
 ·rw [<- v1,<- v2] at h;obtain ⟨p,hp⟩:∃ p:Int,(-1074:Int)+a-(-1074+b)-k-1=p:=⟨_,rfl⟩;rw [hp];have hk3:k+(p+1).toNat+b=a+(-(p+1)).toNat:=by omega
  refine two_cancel (k:=b) ?_
  calc m*2 ^ k*2 ^ (p+1).toNat*D*2 ^ b=m*D*2 ^ (k+(p+1).toNat+b):=by rw [Nat.pow_add,Nat.pow_add]; ac_rfl
   _=m*D*2 ^ (a+(-(p+1)).toNat):=by rw [hk3]
   _=m*2 ^ a*D*2 ^ (-(p+1)).toNat:=by rw [Nat.pow_add]; ac_rfl
   _=C*n*2 ^ (-(p+1)).toNat*2 ^ b:=by rw [h]; ac_rfl
theorem ex_int (d:Nat) (h0:0<d) (hd:d <= 9007199254740992):∃ X,0<X∧X<infW∧valR X=d*2 ^ leB∧nearX d 1=X:=by
 by_cases he:d=9007199254740992
 ·refine ⟨4845873199050653696,by decide,by decide,by rw [he]; decide +kernel,by rw [he]; decide +kernel⟩
 obtain ⟨L,hL⟩:∃ L,d.log2=L:=⟨_,rfl⟩;have h1:d<2 ^ (L+1):=by rw [<- hL]; exact Nat.lt_log2_self
 have h2:2 ^ L <= d:=by rw [<- hL]; exact Nat.log2_self_le (by omega)
 have hL52:L <= 52:=by
  have:(2:Nat) ^ L<2 ^ 53:=Nat.lt_of_le_of_lt h2 (Nat.lt_of_lt_of_le (show d<9007199254740992 by omega) (by decide));have:=(Nat.pow_lt_pow_iff_right (show 1<2 by decide)).1 this;omega
 obtain ⟨R,hR⟩:∃ R,R=d*2 ^ (52-L):=⟨_,rfl⟩;obtain ⟨t,ht⟩:∃ t,t=1022+L:=⟨_,rfl⟩;have hR0:4503599627370496 <= R:=by
  have:=Nat.mul_le_mul_right (2 ^ (52-L)) h2;rw [<- Nat.pow_add,show L+(52-L)=52 by omega,<- hR] at this;exact Nat.le_trans (by decide) this
 have hR1:R<9007199254740992:=by
  have:=Nat.mul_lt_mul_of_pos_right h1 (Nat.two_pow_pos (52-L));rw [<- Nat.pow_add,show L+1+(52-L)=53 by omega,<- hR] at this;exact Nat.lt_of_lt_of_le this (by decide)
 have hv:R*2 ^ t=d*2 ^ leB:=by
  rw [hR,Nat.mul_assoc,<- Nat.pow_add];congr 2;have:=leB_eq;omega
 refine ⟨t*4503599627370496+R,by omega,by have:=infW_eq; omega,?_,?_⟩
 ·unfold valR;rw [if_neg (by omega),show (t*4503599627370496+R) / 4503599627370496=t+1 by omega,show 4503599627370496+(t*4503599627370496+R) % 4503599627370496=R by omega,Nat.add_sub_cancel,hv]
 ·refine (near_eq (by decide) (near_mk d 1 1 R t R (by decide) (by decide) (by rw [hv]) (by omega) (by omega) (fun _=>by omega) (by omega) (.inr (by omega)))).symm
theorem near_le {A B C D:Nat} (hB:0<B) (hD:0<D) (h:A*D <= C*B):nearX A B <= nearX C D:=near_mono hB hD (near_of A B hB) (near_of C D hD) h
end fpm

/- The walk of strconv's atof64exact. Conditions: as each theorem states. -/
namespace rdf
open Go.RowKit
open bsw
open prnw
open dcw
open dmx
open fpm
open flatm
open nodew
def p10 (k:Nat):Nat:=([4607182418800017408,4621819117588971520,4636737291354636288,4652007308841189376,4666723172467343360,4681608360884174848,4696837146684686336,4711630319722168320,4726483295884279808,4741671816366391296,4756540486875873280,4771362005757984768,4786511204640096256,4801453603149578240,4816244402031689728,4831355200913801216,4846369599423283200,4861130398305394688,4876203697187506176,4891288408196988160,4906019910204099648,4921056587992461136,4936209963552724370]:List Nat).getD k 0
theorem p10_all:∀ k:Fin 23,0<p10 k.val∧p10 k.val<infW∧valR (p10 k.val)=10 ^ k.val*2 ^ leB:=by decide +kernel
theorem p10_spec (k:Nat) (h:k <= 22):0<p10 k∧p10 k<infW∧valR (p10 k)=10 ^ k*2 ^ leB:=p10_all ⟨k,by omega⟩
def FT (B:Nat) (w:World):Prop :=
 16 < B ∧ ∃ bb bo cap,bb<B∧w.cell? ⟨16,0,none⟩=some (.slice (some ⟨bb,bo,none⟩) 23 cap) ∧ ∀ k,k <= 22 -> w.cell? ⟨bb,bo+k,none⟩=some (.float .f64 (p10 k))
theorem FT.keep {B:Nat} {w w':World} (h:FT B w) (hk:∀ (p:Addr) (v:Value),p.block<B -> w.cell? p=some v -> w'.cell? p=some v):FT B w':=by
 obtain ⟨h1,bb,bo,cap,h2,h3,h4⟩:=h;exact ⟨h1,bb,bo,cap,h2,hk _ _ h1 h3,fun k h=>hk _ _ h2 (h4 k h)⟩
theorem neg_of (x:Nat) (hx:x<9223372036854775808):Op.negFloat .f64 x=9223372036854775808+x:=by
 have e:Op.negFloat .f64 x=x ^^^ 9223372036854775808:=rfl;rw [e];have h2:(9223372036854775808:Nat)=2 ^ 63:=by decide
 have h3:=Nat.xor_mod_two_pow (a:=x) (b:=9223372036854775808) (n:=63);have h4:=Nat.xor_div_two_pow (a:=x) (b:=9223372036854775808) (n:=63);have h5:(9223372036854775808:Nat) % 2 ^ 63=0:=by decide
 have h6:(9223372036854775808:Nat) / 2 ^ 63=1:=by decide
 rw [h5,Nat.xor_zero] at h3;rw [h6] at h4;rw [<- h2] at h3 h4;have h8:x / 9223372036854775808=0:=by omega
 rw [h8] at h4;have:(0 ^^^ 1:Nat)=1:=by decide
 omega
theorem un_neg (k:FloatKind) (b:Nat):Op.unary .neg (.float k b)=pure (.float k (Op.negFloat k b)):=rfl
attribute [local go_sem] un_neg fo_eq
theorem sgn_word (neg:Bool) (X:Nat):sgn neg X=Ieee.double.word neg X:=(word_eq neg X).symm
theorem of_int (d:Nat) (hd:0<d):floatOfInt FloatKind.f64 (d:Int)=min (nearX d 1) infW:=by
 have e:floatOfInt FloatKind.f64 (d:Int)=Ieee.Format.nearest Ieee.double (decide ((d:Int)<0)) (d:Int).natAbs 0:=rfl;rw [e,decide_eq_false (by omega),Int.natAbs_natCast,nearest_eq false d 0 hd,word_eq,if_neg (by decide)];simp
theorem mul_run (w:World) (s:Bool) (X Y C D:Nat) (hX0:0<X) (hX:X<infW) (hY0:0<Y) (hY:Y<infW) (hD:0<D) (h:valR X*valR Y*D=C*2 ^ leB*2 ^ leB) :
  (binOp BinOp.mul 46 (.float .f64 (sgn s X)) (.float .f64 Y)).run Tryz.prog w = .ok (.float .f64 (sgn s (min (nearX C D) infW))) w:=by
 refine run_float_arith w .mul _ .f64 _ _ _ ?_;have:=mul_near s false X Y C D hX0 hX hY0 hY hD h;rw [word_eq false Y,if_neg (by decide),Bool.xor_false,<- sgn_word,<- sgn_word] at this;exact this
theorem quo_run (w:World) (s:Bool) (X Y C D:Nat) (hX0:0<X) (hX:X<infW) (hY0:0<Y) (hY:Y<infW) (hD:0<D) (h:valR X*D=C*valR Y) :
  (binOp BinOp.quo 46 (.float .f64 (sgn s X)) (.float .f64 Y)).run Tryz.prog w = .ok (.float .f64 (sgn s (min (nearX C D) infW))) w:=by
 refine run_float_arith w .quo _ .f64 _ _ _ ?_;have:=div_near s false X Y C D hX0 hX hY0 hY hD h;rw [word_eq false Y,if_neg (by decide),Bool.xor_false,<- sgn_word,<- sgn_word] at this;exact this
theorem cmp_gt (a b:Int):(some (compare a b) == some .gt)=decide (b<a):=by
 rw [Int.compare_eq_ite_lt]
 by_cases h:a<b
 ·rw [if_pos h,decide_eq_false (by omega)]; rfl
 ·rw [if_neg h]
  by_cases h2:b<a
  ·rw [if_pos h2,decide_eq_true h2]; rfl
  ·rw [if_neg h2,decide_eq_false h2]; rfl
theorem cmp_lt (a b:Int):(some (compare a b) == some .lt)=decide (a<b):=by
 rw [Int.compare_eq_ite_lt]
 by_cases h:a<b
 ·rw [if_pos h,decide_eq_true h]; rfl
 ·rw [if_neg h,decide_eq_false h]
  by_cases h2:b<a
  ·rw [if_pos h2]; rfl
  ·rw [if_neg h2]; rfl
theorem sv_sgn (s:Bool) (X:Nat) (hX:X<infW):sv (sgn s X)=if s then -(valR X:Int) else (valR X:Int):=by
 have hi:=infW_eq
 cases s
 ·have e:sgn false X=X:=rfl;unfold sv;rw [e,if_neg (by omega),Nat.mod_eq_of_lt (by omega)];rfl
 ·have e:sgn true X=9223372036854775808+X:=rfl;unfold sv;rw [e,if_pos (by omega),show (9223372036854775808+X) % 9223372036854775808=X by omega];rfl
theorem w15:valR 4831355200913801216=10 ^ 15*2 ^ leB:=by decide +kernel
theorem fo_15 (s:Bool) (X:Nat) (hX:X<infW):(valR X <= 10 ^ 15*2 ^ leB -> (fo (sgn s X) 4831355200913801216 == some .gt)=false∧(fo (sgn s X) 14054727237768577024 == some .lt)=false) ∧
  (10 ^ 15*2 ^ leB<valR X -> (fo (sgn s X) 4831355200913801216 == some .gt) = !s∧(fo (sgn s X) 14054727237768577024 == some .lt)=s):=by
 have hi:=infW_eq;have hm:sgn s X % 9223372036854775808=X:=by
  unfold sgn
  split <;> omega
 have z1:sv 4831355200913801216=(valR 4831355200913801216:Int):=by
  unfold sv;rw [if_neg (by decide)]
 have z2:sv 14054727237768577024 = -(valR 4831355200913801216:Int):=by
  unfold sv;rw [if_pos (by decide)]
 rw [fo_sv (by rw [hm]; omega) (by decide),fo_sv (by rw [hm]; omega) (by decide),z1,z2,sv_sgn s X hX,w15];have h0:0<10 ^ 15*2 ^ leB:=Nat.mul_pos (by decide) (Nat.two_pow_pos _);generalize 10 ^ 15*2 ^ leB=Z at *;generalize valR X=V at *;rw [cmp_gt,cmp_lt]
 cases s
 ·rw [show (if (false:Bool)=true then -(V:Int) else (V:Int))=(V:Int) from rfl];exact ⟨fun h=>⟨decide_eq_false (by omega),decide_eq_false (by omega)⟩,fun h=>⟨decide_eq_true (by omega),decide_eq_false (by omega)⟩⟩
 ·rw [show (if (true:Bool)=true then -(V:Int) else (V:Int)) = -(V:Int) from rfl];exact ⟨fun h=>⟨decide_eq_false (by omega),decide_eq_false (by omega)⟩,fun h=>⟨decide_eq_false (by omega),decide_eq_true (by omega)⟩⟩
theorem past_15 (a:Nat) (h:10 ^ 15<a):10 ^ 15*2 ^ leB<valR (nearX a 1):=by
 obtain ⟨X,_,_,h3,h4⟩:=ex_int (10 ^ 15+1) (by decide) (by decide);have h5:X <= nearX a 1:=by
  rw [<- h4];exact near_le (by decide) (by decide) (by omega)
 refine Nat.lt_of_lt_of_le ?_ (val_le h5);rw [h3];exact Nat.mul_lt_mul_of_pos_right (by omega) (Nat.two_pow_pos _)
theorem near_37:nearX (10 ^ 37) 1<infW:=by decide +kernel
theorem near_small {a b:Nat} (hb:0<b) (h:a <= 10 ^ 37*b):nearX a b<infW:=Nat.lt_of_le_of_lt (near_le hb (by decide) (by rw [Nat.mul_one]; exact h)) near_37
def ExPost (w:World) (X F:Nat) (e:Ending) (w':World):Prop :=
 w'=w∧((∃ G,e = .returned (.tuple #[.float .f64 G,.bool false]))∨(X<infW∧e = .returned (.tuple #[.float .f64 F,.bool true])))
theorem exact_any (B:Nat) (neg:Bool) (d:Nat) (p:Int) (hd0:0<d) (hd:d<18446744073709551616) (hp : -345 <= p) (hp2:p <= 310) (w:World) (hE:EV B w) (hF:FT B w) :
  Calls Tryz.prog 253 #[.int .u64 (d:Nat),.int .i64 p,.bool neg] w (ExPost w (nearX (d*10 ^ p.toNat) (10 ^ (-p).toNat)) (sgn neg (nearX (d*10 ^ p.toNat) (10 ^ (-p).toNat)))):=by
 have i0:=hE.f0
 by_cases hbig:4503599627370496 <= d
 ·have t1:((d:Int) / 4503599627370496 == 0)=false:=Yf (by omega)
  have t2:¬ (d:Int) / 4503599627370496=0:=by omega
  go_enter Tryz.func253,Tryz.ntmps253;go_wp2_with fail;go_ret2;exact ⟨rfl,.inl ⟨_,rfl⟩⟩
 obtain ⟨X0,x1,x2,x3,x4⟩:=ex_int d hd0 (by omega);have t1:((d:Int) / 4503599627370496 == 0)=true:=Yt (by omega)
 have t2:(d:Int) / 4503599627370496=0:=by omega
 have hf:floatOfInt FloatKind.f64 (d:Int)=X0:=by rw [of_int d hd0,x4,Nat.min_eq_left (Nat.le_of_lt x2)]
 have hng:Op.negFloat .f64 X0=sgn true X0:=neg_of X0 (by have:=infW_eq; omega);have hnf:X0=sgn false X0:=rfl;obtain ⟨F,hF0⟩:∃ F,F=sgn neg X0:=⟨_,rfl⟩;have hs:(neg=true∧Op.negFloat .f64 X0=F)∨(neg=false∧X0=F):=by
  cases neg
  ·exact .inr ⟨rfl,hF0.symm⟩
  ·exact .inl ⟨rfl,hng.trans hF0.symm⟩
 clear hng hnf hbig
 by_cases hp0:p=0
 ·subst hp0;have hX:nearX (d*10 ^ (0:Int).toNat) (10 ^ (-0:Int).toNat)=X0:=by
   rw [show (0:Int).toNat=0 from rfl,show (-0:Int).toNat=0 from rfl,Nat.pow_zero,Nat.mul_one,x4]
  have HX:=Yd (And.intro hX (And.intro x2 hF0));rw [hX,<- hF0];clear hX hF0 x1 x2 x3 x4 hE hF;go_enter Tryz.func253,Tryz.ntmps253
  rcases hs with ⟨rfl,hs⟩ | ⟨rfl,hs⟩
  ·go_wp2_with fail;go_ret2;exact ⟨rfl,.inr ⟨HX.out.2.1,rfl⟩⟩
  ·go_wp2_with fail;go_ret2;exact ⟨rfl,.inr ⟨HX.out.2.1,rfl⟩⟩
 obtain ⟨g1,bb,bo,cap,g2,g3,g4⟩:=hF;have q0:(p == 0)=false:=by rw [beq_eq_false_iff_ne]; exact hp0
 by_cases hlo:p<0
 ·have r1:decide (0<p)=false:=decide_eq_false (by omega);have r2:decide (p<0)=true:=decide_eq_true hlo
  by_cases h22 : -22 <= p
  ·obtain ⟨k,hk⟩:∃ k:Nat,-p=(k:Int):=⟨(-p).toNat,by omega⟩;obtain ⟨y1,y2,y3⟩:=p10_spec k (by omega);have c1:=g4 k (by omega);obtain ⟨Y,hY⟩:∃ Y,p10 k=Y:=⟨_,rfl⟩;rw [hY] at y1 y2 y3 c1;have e1:(-p).toNat=k:=by omega
   have hw:IntKind.i64.wrap (-p)=(k:Int):=by rw [hk]; exact IntWalk.i64_in _ (by omega)
   have hX:nearX (d*10 ^ p.toNat) (10 ^ (-p).toNat)=nearX d (10 ^ k):=by rw [e1,show p.toNat=0 by omega,Nat.pow_zero,Nat.mul_one]
   have hsm:nearX d (10 ^ k)<infW:=near_small (Nat.pow_pos (by decide)) (by
    have h1:1 <= 10 ^ k:=Nat.pow_pos (by decide);have h2:d*1 <= 10 ^ 37*10 ^ k:=Nat.mul_le_mul (by omega) h1;omega)
   have hq:=fun W=>quo_run W neg X0 Y d (10 ^ k) x1 x2 y1 y2 (Nat.pow_pos (by decide)) (by rw [x3,y3]; ac_rfl);rw [Nat.min_eq_left (Nat.le_of_lt hsm),<- hF0] at hq;rw [hX];obtain ⟨Z,hZ⟩:∃ Z,sgn neg (nearX d (10 ^ k))=Z:=⟨_,rfl⟩;rw [hZ] at hq ⊢;have HX:=Yd hsm;have r3:decide (-22 <= p)=true:=decide_eq_true h22;have k0:(0:Int) <= (k:Int):=by omega
   have k22:(k:Int) <= 22:=by omega
   have k23:(k:Int)<23:=by omega
   clear hX hsm hF0 x1 x2 x3 x4 hE y1 y2 y3 g4 hY hZ e1;go_enter Tryz.func253,Tryz.ntmps253
   rcases hs with ⟨rfl,hs⟩ | ⟨rfl,hs⟩
   ·go_wp2_with fail;go_ret2;exact ⟨rfl,.inr ⟨HX.out,rfl⟩⟩
   ·go_wp2_with fail;go_ret2;exact ⟨rfl,.inr ⟨HX.out,rfl⟩⟩
  ·have r3:decide (-22 <= p)=false:=decide_eq_false h22;clear hF0 x1 x2 x3 x4 hE g4;go_enter Tryz.func253,Tryz.ntmps253
   rcases hs with ⟨rfl,hs⟩ | ⟨rfl,hs⟩
   ·go_wp2_with fail;go_ret2;exact ⟨rfl,.inl ⟨_,rfl⟩⟩
   ·go_wp2_with fail;go_ret2;exact ⟨rfl,.inl ⟨_,rfl⟩⟩
 have r1:decide (0<p)=true:=decide_eq_true (by omega)
 by_cases h37:37<p
 ·have r2:decide (p <= 37)=false:=decide_eq_false (by omega);have r3:decide (p<0)=false:=decide_eq_false (by omega);clear hF0 x1 x2 x3 x4 hE g4;go_enter Tryz.func253,Tryz.ntmps253
  rcases hs with ⟨rfl,hs⟩ | ⟨rfl,hs⟩
  ·go_wp2_with fail;go_ret2;exact ⟨rfl,.inl ⟨_,rfl⟩⟩
  ·go_wp2_with fail;go_ret2;exact ⟨rfl,.inl ⟨_,rfl⟩⟩
 have r2:decide (p <= 37)=true:=decide_eq_true (by omega);have en:(-p).toNat=0:=by omega
 rw [en,Nat.pow_zero]
 by_cases h22:22<p
 ·obtain ⟨j,hj⟩:∃ j:Nat,p=(j:Int)+22:=⟨(p-22).toNat,by omega⟩;subst hj;obtain ⟨y1,y2,y3⟩:=p10_spec j (by omega);have c1:=g4 j (by omega);obtain ⟨Y,hY⟩:∃ Y,p10 j=Y:=⟨_,rfl⟩;rw [hY] at y1 y2 y3 c1;obtain ⟨u1,u2,u3⟩:=p10_spec 22 (by omega);have c2:=g4 22 (by omega);obtain ⟨U,hU⟩:∃ U,p10 22=U:=⟨_,rfl⟩;rw [hU] at u1 u2 u3 c2;have e15:d*10 ^ j <= 10 ^ 37:=by
   have h1:(10:Nat) ^ j <= 10 ^ 15:=Nat.pow_le_pow_right (by decide) (by omega);have h2:d*10 ^ j <= 4503599627370496*10 ^ 15:=Nat.mul_le_mul (by omega) h1;exact Nat.le_trans h2 (by decide)
  have hsm:nearX (d*10 ^ j) 1<infW:=near_small (by decide) (by rw [Nat.mul_one]; exact e15);have hq:=fun W=>mul_run W neg X0 Y (d*10 ^ j) 1 x1 x2 y1 y2 (by decide) (by rw [x3,y3,Nat.mul_one]; ac_rfl);rw [Nat.min_eq_left (Nat.le_of_lt hsm),<- hF0] at hq;obtain ⟨X1,hX1⟩:∃ X1,nearX (d*10 ^ j) 1=X1:=⟨_,rfl⟩;rw [hX1] at hq hsm;obtain ⟨o1,o2⟩:=fo_15 neg X1 hsm;obtain ⟨G,hG⟩:∃ G,sgn neg X1=G:=⟨_,rfl⟩;rw [hG] at o1 o2 hq;have r4:decide (22<(j:Int)+22)=true:=decide_eq_true (by omega);have hw:IntKind.i64.wrap ((j:Int)+22-22)=(j:Int):=by rw [show (j:Int)+22-22=(j:Int) by omega]; exact IntWalk.i64_in _ (by omega)
  have k0:(0:Int) <= (j:Int):=by omega
  have k22:(j:Int) <= 15:=by omega
  have k23:(j:Int)<23:=by omega
  by_cases hd15:d*10 ^ j <= 10 ^ 15
  ·obtain ⟨X2,z1,z2,z3,z4⟩:=ex_int (d*10 ^ j) (Nat.mul_pos hd0 (Nat.pow_pos (by decide))) (Nat.le_trans hd15 (by decide));obtain rfl:X1=X2:=hX1.symm.trans z4;obtain ⟨b1,b2⟩:=o1 (by rw [z3]; exact Nat.mul_le_mul_right _ hd15);have eP:d*10 ^ ((j:Int)+22).toNat=d*10 ^ j*10 ^ 22:=by rw [show ((j:Int)+22).toNat=j+22 by omega,Nat.pow_add,Nat.mul_assoc]
   have hsm2:nearX (d*10 ^ j*10 ^ 22) 1<infW:=near_small (by decide) (by
    rw [Nat.mul_one];have:=Nat.mul_le_mul_right (10 ^ 22) hd15;exact Nat.le_trans this (by decide))
   have hq2:=fun W=>mul_run W neg X1 U (d*10 ^ j*10 ^ 22) 1 z1 z2 u1 u2 (by decide) (by rw [z3,u3,Nat.mul_one]; ac_rfl);rw [Nat.min_eq_left (Nat.le_of_lt hsm2),hG] at hq2;rw [eP];obtain ⟨Z,hZ⟩:∃ Z,sgn neg (nearX (d*10 ^ j*10 ^ 22) 1)=Z:=⟨_,rfl⟩;rw [hZ] at hq2 ⊢;have HX:=Yd hsm2;clear hsm2 hsm hF0 x1 x2 x3 x4 hE y1 y2 y3 g4 hY hZ eP z1 z2 z3 z4 hd15 o1 o2 hG u1 u2 u3 hU hX1 e15 h22;go_enter Tryz.func253,Tryz.ntmps253
   rcases hs with ⟨rfl,hs⟩ | ⟨rfl,hs⟩
   ·go_wp2_with fail;go_ret2;exact ⟨rfl,.inr ⟨HX.out,rfl⟩⟩
   ·go_wp2_with fail;go_ret2;exact ⟨rfl,.inr ⟨HX.out,rfl⟩⟩
  ·obtain ⟨b1,b2⟩:=o2 (by rw [<- hX1]; exact past_15 _ (by omega));clear hsm hF0 x1 x2 x3 x4 hE y1 y2 y3 g4 hY hd15 o1 o2 hG u1 u2 u3 hU hX1 e15 h22;go_enter Tryz.func253,Tryz.ntmps253
   rcases hs with ⟨rfl,hs⟩ | ⟨rfl,hs⟩
   ·rw [Bool.not_true] at b1;go_wp2_with fail;go_ret2;exact ⟨rfl,.inl ⟨_,rfl⟩⟩
   ·rw [Bool.not_false] at b1;go_wp2_with fail;go_ret2;exact ⟨rfl,.inl ⟨_,rfl⟩⟩
 ·obtain ⟨k,rfl⟩:∃ k:Nat,p=(k:Int):=⟨p.toNat,by omega⟩;obtain ⟨u1,u2,u3⟩:=p10_spec k (by omega);have c2:=g4 k (by omega);obtain ⟨U,hU⟩:∃ U,p10 k=U:=⟨_,rfl⟩;rw [hU] at u1 u2 u3 c2;obtain ⟨o1,o2⟩:=fo_15 neg X0 x2;rw [<- hF0] at o1 o2;have r4:decide (22<(k:Int))=false:=decide_eq_false (by omega);have k0:(0:Int) <= (k:Int):=by omega
  have k22:(k:Int) <= 22:=by omega
  have k23:(k:Int)<23:=by omega
  by_cases hd15:d <= 10 ^ 15
  ·obtain ⟨b1,b2⟩:=o1 (by rw [x3]; exact Nat.mul_le_mul_right _ hd15);have eP:d*10 ^ (k:Int).toNat=d*10 ^ k:=by rw [Int.toNat_natCast]
   have hsm2:nearX (d*10 ^ k) 1<infW:=near_small (by decide) (by
    rw [Nat.mul_one];have h1:(10:Nat) ^ k <= 10 ^ 22:=Nat.pow_le_pow_right (by decide) (by omega);have h2:d*10 ^ k <= 10 ^ 15*10 ^ 22:=Nat.mul_le_mul hd15 h1;exact Nat.le_trans h2 (by decide))
   have hq2:=fun W=>mul_run W neg X0 U (d*10 ^ k) 1 x1 x2 u1 u2 (by decide) (by rw [x3,u3,Nat.mul_one]; ac_rfl);rw [Nat.min_eq_left (Nat.le_of_lt hsm2),<- hF0] at hq2;rw [eP];obtain ⟨Z,hZ⟩:∃ Z,sgn neg (nearX (d*10 ^ k) 1)=Z:=⟨_,rfl⟩;rw [hZ] at hq2 ⊢;have HX:=Yd hsm2;clear hsm2 hF0 x1 x2 x3 x4 hE g4 hZ eP hd15 o1 o2 u1 u2 u3 hU h22 en;go_enter Tryz.func253,Tryz.ntmps253
   rcases hs with ⟨rfl,hs⟩ | ⟨rfl,hs⟩
   ·go_wp2_with fail;go_ret2;exact ⟨rfl,.inr ⟨HX.out,rfl⟩⟩
   ·go_wp2_with fail;go_ret2;exact ⟨rfl,.inr ⟨HX.out,rfl⟩⟩
  ·obtain ⟨b1,b2⟩:=o2 (by rw [<- x4]; exact past_15 _ (by omega));clear hF0 x1 x2 x3 x4 hE g4 hd15 o1 o2 u1 u2 u3 hU h22 en;go_enter Tryz.func253,Tryz.ntmps253
   rcases hs with ⟨rfl,hs⟩ | ⟨rfl,hs⟩
   ·rw [Bool.not_true] at b1;go_wp2_with fail;go_ret2;exact ⟨rfl,.inl ⟨_,rfl⟩⟩
   ·rw [Bool.not_false] at b1;go_wp2_with fail;go_ret2;exact ⟨rfl,.inl ⟨_,rfl⟩⟩
end rdf
end Go.Proofs.YtcbgkbidgpemfaaGreatDoor
