/- The walk of strconv's atof64 at a decimal. Conditions: as each theorem states. -/
import Derived.Test.YtcbgkbidgpemfaaGreatDoorMf00
import Derived.Test.YtcbgkbidgpemfaaGreatDoorMf27
import Derived.Test.YtcbgkbidgpemfaaGreatDoorMf28
import Derived.Test.YtcbgkbidgpemfaaGreatDoorMf23
import Derived.Test.YtcbgkbidgpemfaaGreatDoorMf19
import Derived.Test.YtcbgkbidgpemfaaGreatDoorMf02
import Derived.Test.YtcbgkbidgpemfaaGreatDoorMf21
import Derived.Test.YtcbgkbidgpemfaaGreatDoorMf07
import Derived.Test.YtcbgkbidgpemfaaGreatDoorMf09
import Derived.Test.YtcbgkbidgpemfaaGreatDoorMf10
import Derived.Test.YtcbgkbidgpemfaaGreatDoorMf04
import Derived.Lib.ItoaNum
import Derived.Lib.Repeat
namespace Go.Proofs.YtcbgkbidgpemfaaGreatDoor
set_option maxRecDepth 100000
set_option maxHeartbeats 4000000
namespace rdf
open Go.RowKit
open bsw
open prnw
open dcw
open dmx
open fpm
open flatm
open nodew
attribute [local go_sem] ifrombits_run un_neg fo_eq
theorem fo_eqw (s:Bool) (X Y:Nat) (hX:X <= infW) (hY:Y <= infW):(fo (sgn s X) (sgn s Y) == some .eq)=decide (X=Y):=by
 have hi:=infW_eq;have hmod:∀ Z,Z <= infW -> sgn s Z % 9223372036854775808=Z:=fun Z hZ=>by
  unfold sgn
  split <;> omega
 have hinf:Ieee.Format.read Ieee.double (sgn s infW) = .infinity s:=by cases s <;> kernel_rfl
 by_cases hx:X<infW
 ·by_cases hy:Y<infW
  ·rw [fo_sv (by rw [hmod X hX]; omega) (by rw [hmod Y hY]; omega),sv_sgn s X hx,sv_sgn s Y hy]
   by_cases he:X=Y
   ·rw [decide_eq_true he,he];simp
   ·have hv:valR X≠valR Y:=fun h=>he (val_inj h);rw [decide_eq_false he,Int.compare_eq_ite_lt]
    cases s
    ·rw [show (if (false:Bool)=true then -(valR X:Int) else (valR X:Int))=(valR X:Int) from rfl,show (if (false:Bool)=true then -(valR Y:Int) else (valR Y:Int))=(valR Y:Int) from rfl]
     split
     ·rfl
     ·rw [if_pos (by omega)]; rfl
    ·rw [show (if (true:Bool)=true then -(valR X:Int) else (valR X:Int)) = -(valR X:Int) from rfl,show (if (true:Bool)=true then -(valR Y:Int) else (valR Y:Int)) = -(valR Y:Int) from rfl]
     split
     ·rfl
     ·rw [if_pos (by omega)]; rfl
  ·have e:Y=infW:=by omega
   subst e;obtain ⟨m,a,h1,_⟩:=word_read s X hx;rw [<- sgn_word] at h1;rw [decide_eq_false (by omega)];show (Ieee.Datum.order (Ieee.Format.read Ieee.double (sgn s X)) (Ieee.Format.read Ieee.double (sgn s infW)) == some .eq)=false;rw [h1,hinf]
   cases s <;> rfl
 ·have e:X=infW:=by omega
  subst e
  by_cases hy:Y<infW
  ·obtain ⟨m,a,h1,_⟩:=word_read s Y hy;rw [<- sgn_word] at h1;rw [decide_eq_false (by omega)];show (Ieee.Datum.order (Ieee.Format.read Ieee.double (sgn s infW)) (Ieee.Format.read Ieee.double (sgn s Y)) == some .eq)=false;rw [h1,hinf]
   cases s <;> rfl
  ·have e:Y=infW:=by omega
   subst e;rw [decide_eq_true rfl];show (Ieee.Datum.order (Ieee.Format.read Ieee.double (sgn s infW)) (Ieee.Format.read Ieee.double (sgn s infW)) == some .eq)=true;rw [hinf]
   cases s <;> rfl
def nx (N:Nat) (P:Int):Nat:=nearX (N*10 ^ P.toNat) (10 ^ (-P).toNat)
theorem ten_pos (k:Nat):0<10 ^ k:=Nat.pow_pos (by decide)
theorem nx_mono {M N:Nat} (h:M <= N) (P:Int):nx M P <= nx N P:=near_le (ten_pos _) (ten_pos _) (Nat.mul_le_mul_right _ (Nat.mul_le_mul_right _ h))
theorem nx_shift (N k:Nat) (P:Int):nx (N*10 ^ k) P=nx N (P+k):=by
 refine near_same (ten_pos _) (ten_pos _) ?_;have e:P.toNat+k+(-(P+k)).toNat=(P+k).toNat+(-P).toNat:=by omega
 calc N*10 ^ k*10 ^ P.toNat*10 ^ (-(P+k)).toNat=N*10 ^ (P.toNat+k+(-(P+k)).toNat):=by rw [Nat.pow_add,Nat.pow_add]; ac_rfl
  _=N*10 ^ ((P+k).toNat+(-P).toNat):=by rw [e]
  _=N*10 ^ (P+k).toNat*10 ^ (-P).toNat:=by rw [Nat.pow_add]; ac_rfl
def tenF:Nat:=346
theorem tenF_eq:tenF=346:=rfl
theorem nx_zero (P:Int):nx 0 P=0:=by
 unfold nx;rw [Nat.zero_mul];refine near_low (ten_pos _) ?_;rw [Nat.zero_mul];exact Nat.zero_le _
theorem two_ten:2 ^ twoC <= 10 ^ tenA:=by decide +kernel
theorem nx_big {N:Nat} (h:0<N) {P:Int} (hP:310<P):infX <= nx N P:=by
 unfold nx;rw [show (-P).toNat=0 by omega,Nat.pow_zero];refine near_big (by decide) ?_;rw [Nat.mul_one];refine Nat.le_trans two_ten ?_;have h1:(10:Nat) ^ tenA <= 10 ^ P.toNat:=Nat.pow_le_pow_right (by decide) (by have:=tenA_eq; omega);exact Nat.le_trans h1 (Nat.le_mul_of_pos_left _ h)
theorem low_ten:10 ^ 20*2 ^ lowE <= 10 ^ tenF:=by decide +kernel
theorem nx_low {N:Nat} (h:N <= 10 ^ 20) {P:Int} (hP:P < -345):nx N P=0:=by
 unfold nx;rw [show P.toNat=0 by omega,Nat.pow_zero,Nat.mul_one];refine near_low (ten_pos _) ?_;have h1:(10:Nat) ^ tenF <= 10 ^ (-P).toNat:=Nat.pow_le_pow_right (by decide) (by have:=tenF_eq; omega);exact Nat.le_trans (Nat.le_trans (Nat.mul_le_mul_right _ h) low_ten) h1
theorem nx_val (N n:Nat) (dp:Int) (h:(n:Int) <= dp+2000):nearX (val N n dp) one=nx N (dp-n):=by
 refine near_same one_pos (ten_pos _) ?_;unfold val one;have ho:=oneE_eq;have e:(dp-(n:Int)+2000).toNat+(-(dp-(n:Int))).toNat=(dp-(n:Int)).toNat+oneE:=by omega
 rw [Nat.mul_assoc,<- Nat.pow_add,e,Nat.pow_add,Nat.mul_assoc]
theorem rf_ex {s:ByteArray} {neg:Bool} {x:MS} {rest:List UInt8} {ex:Int} (h:RfOk s neg x rest ex) : -1000 <= ex∧ex <= 1000:=by
 rcases h.re with ⟨_,r⟩ | ⟨r1,r2⟩
 ·rw [r];decide
 ·rw [r2]
  cases rest with
  | nil=>exact absurd r1 (by decide)
  | cons c l =>
   unfold expB at r1;rw [Bool.and_eq_true] at r1;have h2:=r1.2;rw [List.drop_succ_cons,List.drop_zero];simp only [Bool.and_eq_true,decide_eq_true_eq] at h2;have key:∀ r:List UInt8,dgs r <= 3 -> dgs r=r.length -> eL r 0<1000:=fun r a b=>by
    have h3:=eL_snoc_bd r 0 (dgs_all r b);have h4:(10:Nat) ^ r.length <= 10 ^ 3:=Nat.pow_le_pow_right (by decide) (by omega);omega
   unfold exV
   by_cases h45:l.head? = some 45
   ·rw [if_pos (.inr h45)] at h2;have:=key _ h2.1.2 h2.2;rw [if_pos h45];omega
   ·rw [if_neg h45]
    by_cases h43:l.head? = some 43
    ·rw [if_pos (.inl h43)] at h2;have:=key _ h2.1.2 h2.2;rw [if_pos h43];omega
    ·rw [if_neg (fun h=>h.elim h43 h45)] at h2;have:=key _ h2.1.2 h2.2;rw [if_neg h43];omega
def decZ:Array Value:=(List.replicate 800 (Value.int .u8 0) ++ [Value.int .i64 0,Value.int .i64 0,Value.bool false,Value.bool false]).toArray
theorem alloc_dec (w:World):(Instr.alloc 231 true (.tuple #[])).run Tryz.prog w = .ok (.pointer (some ⟨w.heap.size,0,none⟩)) (w.alloc (.cells decZ 231)):=by
 kernel_rfl
theorem dec_at (w:World):SeW (w.alloc (.cells decZ 231)) w.heap.size 0 0 0 false (w.alloc (.cells decZ 231)):=by
 refine ⟨fun _=>0,⟨decZ,heap_at w _ _ rfl,fun j hj => ?_,by kernel_rfl,by kernel_rfl,by kernel_rfl,by kernel_rfl⟩,fun j hj=>absurd hj (Nat.not_lt_zero _),⟨rfl,rfl,rfl,Nat.le_refl _,fun _ _ _=>rfl⟩⟩;unfold decZ;rw [List.getElem?_toArray,List.getElem?_append_left (by rw [List.length_replicate]; exact hj),List.getElem?_replicate,if_pos hj];rfl
structure NE (B:Nat) (w:World):Prop where
 ev:EV B w
 ft:FT B w
 pt:PT hiT loT w
 pb : 8 < B
 ob : 2 < B
 op:w.cell? ⟨2,0,none⟩=some (.bool true)
 lt:B <= w.heap.size
theorem NE.below {B:Nat} {w w':World} (h:NE B w) (hb:Below w.heap.size w w'):NE B w':=by
 have hk:∀ (p:Addr) (v:Value),p.block<B -> w.cell? p=some v -> w'.cell? p=some v:=fun p v hp hv=>(hb.cell (Nat.lt_of_lt_of_le hp h.lt)).trans hv;exact ⟨h.ev.keep hk,h.ft.keep hk,fun i hi=>by
  obtain ⟨a1,a2,a3,a4⟩:=h.pt i hi;exact ⟨a1,a2,hk _ _ h.pb a3,hk _ _ h.pb a4⟩,h.pb,h.ob,hk _ _ h.ob h.op,Nat.le_trans h.lt hb.size⟩
theorem ml_ok:∀ (l:List UInt8) (n:Nat) (y x:MS) (rest:List UInt8),MOk n y -> mL l y=(x,rest) -> MOk (n+l.length) x
 | [],n,y,x,rest,h,hm=>by
  unfold mL at hm;injection hm with e1 e2;rw [<- e1];exact h
 | c :: l,n,y,x,rest,h,hm=>by
  have stop:∀ z:MS × List UInt8,(y,c :: l)=(x,rest) -> MOk (n+(c :: l).length) x:=fun _ e=>by
   injection e with e1 e2;rw [<- e1];exact mok_mono h (Nat.le_add_right _ _)
  have hl:n+(c :: l).length=n+1+l.length:=by rw [List.length_cons]; omega
  unfold mL at hm
  split at hm
  ·split at hm
   ·exact stop (x,rest) hm
   ·rw [hl];exact ml_ok l (n+1) _ x rest (mok_dot h) hm
  ·split at hm
   ·rename_i hd;rw [hl];exact ml_ok l (n+1) _ x rest (mok_dg h c hd) hm
   ·exact stop (x,rest) hm
theorem rf_ok {s:ByteArray} {neg:Bool} {x:MS} {rest:List UInt8} {ex:Int} (h:RfOk s neg x rest ex):MOk 60 x:=by
 refine mok_mono (ml_ok _ 0 ms0 x rest mok0 h.run) ?_;have:=h.sz;rw [List.length_drop];simp;omega
theorem rf_near {x:MS} {n:Nat} (h:MOk n x) (D:Int):(x.m=0 -> x.N=0)∧(∀ p:Int,p=D-x.nm -> nx x.m p <= nx x.N (D-x.nd)∧nx x.N (D-x.nd) <= nx (x.m+1) p∧(x.tr=false -> nx x.N (D-x.nd)=nx x.m p)):=by
 obtain ⟨k,hk⟩:∃ k,x.nd-x.nm=k:=⟨_,rfl⟩;have hq:=h.q;have ht:=h.t;have hmn:=h.mn;rw [hk] at hq ht;have hp:=ten_pos k;refine ⟨fun h0 => ?_,fun p hp2 => ?_⟩
 ·by_cases hk0:k=0
  ·rw [hk0,Nat.pow_zero,Nat.div_one,h0] at hq;exact hq.symm
  ·have h19:¬ x.nm<19:=fun hl=>by have:=h.full hl; omega
   have h4:=h.lo (by omega);have h5:10 ^ k <= 10 ^ (x.nd-1):=Nat.pow_le_pow_right (by decide) (by omega);have h6:1 <= x.N / 10 ^ k:=by
    rw [Nat.le_div_iff_mul_le hp,Nat.one_mul];omega
   omega
 ·have hdm:=Nat.div_add_mod x.N (10 ^ k);have hml:=Nat.mod_lt x.N hp;rw [<- hq,Nat.mul_comm] at hdm;have e:∀ M,nx (M*10 ^ k) (D-x.nd)=nx M p:=fun M=>by
   rw [nx_shift,hp2];congr 1;omega
  rw [<- e x.m,<- e (x.m+1)];refine ⟨nx_mono (by omega) _,nx_mono ?_ _,fun h0 => ?_⟩
  ·rw [Nat.add_mul,Nat.one_mul];omega
  ·rw [h0] at ht;have hz:x.N % 10 ^ k=0:=by
    have:=of_decide_eq_false ht.symm;exact Decidable.not_not.1 this
   rw [hz,Nat.add_zero] at hdm;rw [hdm]
def atV (neg:Bool) (X n:Nat):Value:=.tuple #[.float .f64 (sgn neg (min X infX)),.int .i64 (n:Nat),if infX <= X then .iface 185 (.int .i64 1) else .nilIface]
def AtPost (w:World) (neg:Bool) (X n:Nat) (e:Ending) (w':World):Prop:=e = .returned (atV neg X n)∧Below w.heap.size w w'
theorem exec_alloc_dec {o:Oper} (ho:o.op = .alloc 231) (a:Act) (w:World):(execOp a.eval o).run Tryz.prog w = .ok (.value (.pointer (some ⟨w.heap.size,0,none⟩))) (w.alloc (.cells decZ 231)):=by
 unfold execOp;simp only [ho,Sem.run_bind,alloc_dec,Result.andThen_ok,Sem.run_pure]
theorem pk_parts (neg:Bool) (X n:Nat):∃ F E,pkV neg X = .tuple #[.float .f64 F,E]∧atV neg X n = .tuple #[.float .f64 F,.int .i64 (n:Nat),E]∧F=sgn neg (min X infX):=⟨_,_,rfl,rfl,rfl⟩
theorem at_same (neg:Bool) (X Y n:Nat) (h1:min X infX=min Y infX):atV neg X n=atV neg Y n:=by
 unfold atV;rw [h1]
 by_cases h:infX <= X
 ·rw [if_pos h,if_pos (by omega)]
 ·rw [if_neg h,if_neg (by omega)]
theorem atof_any (B:Nat) (s:ByteArray) (neg:Bool) (x:MS) (rest:List UInt8) (ex:Int) (h:RfOk s neg x rest ex) (hnd:x.nd <= 30) (w:World) (hN:NE B w) :
  Calls Tryz.prog 236 #[.string s] w (AtPost w neg (nx x.N (dpX x+ex-x.nd)) s.size):=by
 have CS:=fun W=>special_any s neg x rest ex h W;obtain ⟨p,hp⟩:∃ p,rfE x ex=p:=⟨_,rfl⟩;have CR:∀ W,Calls Tryz.prog 244 #[.string s] W fun e w'=>e = .returned (.tuple #[.int .u64 ((x.m:Nat):Int),.int .i64 p,.bool neg,.bool x.tr,.bool false,.int .i64 ((s.size:Nat):Int),.bool true])∧w'=W:=fun W=>by
  have:=readFloat_any s neg x rest ex h W;unfold RfPost at this;rw [hp] at this;exact this
 have CB:=fun W=>b2u neg W;have hsh:∀ b:Nat,b=(if neg then 1 else 0) -> IntKind.u64.wrap ((b:Int)*9223372036854775808)=((sgn neg 0:Nat):Int):=fun b hb=>by
  subst hb
  cases neg <;> decide +kernel
 obtain ⟨nb,hnb⟩:∃ nb:Nat,nb=if neg then 1 else 0:=⟨_,rfl⟩;have hsh2:=hsh nb hnb;have CB2:∀ W,Calls Tryz.prog 240 #[.bool neg] W (Same W (.int .u64 ((nb:Nat):Int))):=fun W=>by
  have:=CB W;rw [hnb]
  cases neg <;> exact this
 have nb0:(0:Int) <= (nb:Int):=by omega
 have nb1:(nb:Int) <= 1:=by rw [hnb]; split <;> decide
 have hC:=Yd (And.intro CS (And.intro CR CB2));have hMO:=rf_ok h;have o1:=hN.op;clear CS CR CB CB2 hsh hnb;obtain ⟨X,hX⟩:∃ X,nx x.N (dpX x+ex-x.nd)=X:=⟨_,rfl⟩;rw [hX];go_enter Tryz.func236,Tryz.ntmps236;go_upto_region 12 with (first | (go_at_call 243; (with_reducible refine (hC.out.1 _).mono ?_); rintro e w' ⟨rfl,hw'⟩; obtain rfl:=hw'.symm) | (go_at_call 244; (with_reducible refine (hC.out.2.1 _).mono ?_); rintro e w' ⟨rfl,hw'⟩; obtain rfl:=hw'.symm) | (go_at_call 240; (with_reducible refine (hC.out.2.2 _).mono ?_); rintro e w' ⟨rfl,hw'⟩; obtain rfl:=hw'.symm));obtain ⟨n1,n2⟩:=rf_near hMO (dpX x+ex);rw [hX] at n2;have hpm:x.m≠0 -> p=dpX x+ex-x.nm:=fun h0=>by
  rw [<- hp];unfold rfE;rw [if_neg h0];rfl
 have bS:∀ b:Nat,sgn neg 0=b -> bits BinOp.or IntKind.u64 (b:Int) 0=(b:Int)∧bits BinOp.or IntKind.u64 (b:Int) 9218868437227405312=((sgn neg infX:Nat):Int):=fun b hb=>by
  subst hb
  cases neg <;> decide +kernel
 obtain ⟨S0,hS0⟩:∃ S0,sgn neg 0=S0:=⟨_,rfl⟩;obtain ⟨bs1,bs2⟩:=bS S0 hS0;obtain ⟨SI,hSI⟩:∃ SI,sgn neg infX=SI:=⟨_,rfl⟩;rw [hSI] at bs2;rw [hS0];have HSg:=Yd (And.intro hS0 hSI);clear hC bS hSI
 by_cases hm0:x.m=0
 ·have hX0:X=0:=by rw [<- hX,n1 hm0,nx_zero]
  have hV:atV neg X s.size = .tuple #[.float .f64 S0,.int .i64 (s.size:Nat),.nilIface]:=by
   rw [hX0,<- hS0];unfold atV;rw [Nat.min_eq_left (Nat.zero_le _),if_neg (by decide)]
  have g1:((x.m:Int) == 0)=true:=by rw [hm0]; rfl
  have HV:=Yd hV;clear n1 n2 hpm hX hX0 hV hMO hS0 hN h hp hsh2;go_wp2_with fail;go_ret3;exact ⟨congrArg Ending.returned HV.out.symm,Below.refl _ _⟩
 have g1:((x.m:Int) == 0)=false:=Yf (by omega)
 have hpp:=hpm hm0;obtain ⟨l1,l2,l3⟩:=n2 p hpp;have hm19:x.m<10 ^ 19:=Nat.lt_of_lt_of_le hMO.m (Nat.pow_le_pow_right (by decide) hMO.nm);have h19:(10:Nat) ^ 19=10000000000000000000:=by decide
 rw [h19] at hm19
 by_cases hbig:310<p
 ·have hXb:infX <= X:=Nat.le_trans (nx_big (by omega) hbig) l1;have hV:atV neg X s.size = .tuple #[.float .f64 SI,.int .i64 (s.size:Nat),.iface 185 (.int .i64 1)]:=by
   unfold atV;rw [Nat.min_eq_right hXb,if_pos hXb,HSg.out.2]
  have g2:decide (310<p)=true:=decide_eq_true hbig;have HV:=Yd hV;clear n1 n2 hpm hX hXb hV hMO hS0 hN h hp hsh2 l1 l2 l3 hbig hpp;go_wp2_with fail;go_ret3;exact ⟨congrArg Ending.returned HV.out.symm,Below.refl _ _⟩
 have g2:decide (310<p)=false:=decide_eq_false hbig
 by_cases hlow:p < -345
 ·have hX0:X=0:=by
   have:=nx_low (N:=x.m+1) (P:=p) (by omega) hlow;omega
  have hV:atV neg X s.size = .tuple #[.float .f64 S0,.int .i64 (s.size:Nat),.nilIface]:=by
   rw [hX0,<- hS0];unfold atV;rw [Nat.min_eq_left (Nat.zero_le _),if_neg (by decide)]
  have g3:decide (p < -345)=true:=decide_eq_true hlow;have HV:=Yd hV;clear n1 n2 hpm hX hX0 hV hMO hS0 hN h hp hsh2 l1 l2 l3 hbig hpp hlow;go_wp2_with fail;go_ret3;exact ⟨congrArg Ending.returned HV.out.symm,Below.refl _ _⟩
 have g3:decide (p < -345)=false:=decide_eq_false hlow;go_upto_region 18 with (fail);obtain ⟨i,hi⟩:∃ i:Nat,p=(i:Int)-348:=⟨(p+348).toNat,by omega⟩;have CP:∀ (d:Nat) (W:World),0<d -> d<18446744073709551616 -> NE B W -> Calls Tryz.prog 254 #[.int .u64 (d:Nat),.int .i64 p,.int .u64 ((S0:Nat):Int)] W (PfPost W (pkV neg (nx d p))):=fun d W hd0 hd hNW=>by
  have:=pf64_any neg d i hd0 hd (by omega) (by omega) W hNW.pt (Nat.lt_of_lt_of_le hNW.pb hNW.lt);rw [<- hi,hS0] at this;exact this
 clear hi;have CE:∀ W,NE B W -> Calls Tryz.prog 253 #[.int .u64 ((x.m:Nat):Int),.int .i64 p,.bool neg] W fun e w'=>w'=W ∧ ∃ F b,e = .returned (.tuple #[.float .f64 F,.bool b])∧(b=true -> nx x.m p<infW∧F=sgn neg (nx x.m p)):=fun W hNW=>by
  refine (exact_any B neg x.m p (by omega) (by omega) (by omega) (by omega) W hNW.ev hNW.ft).mono ?_;rintro e w' ⟨h1,⟨G,h2⟩ | ⟨h2,h3⟩⟩
  ·exact ⟨h1,G,false,h2,fun h=>by cases h⟩
  ·exact ⟨h1,_,true,h3,fun _=>⟨h2,rfl⟩⟩
 have hex:s.extract 0 s.size=s:=by
  apply ByteArray.ext;rw [ByteArray.data_extract];simp
 have HN:=Yd hN;have HCP:=Yd (And.intro CP CE);obtain ⟨Y,hY⟩:∃ Y,nx x.m p=Y:=⟨_,rfl⟩;rw [hY] at l1 l3;obtain ⟨F,E,k1,k2,k3⟩:=pk_parts neg Y s.size;have HF1:∀ W,NE B W -> Calls Tryz.prog 254 #[.int .u64 ((x.m:Nat):Int),.int .i64 p,.int .u64 ((S0:Nat):Int)] W fun e w'=>e = .returned (.tuple #[.float .f64 F,E])∧Below W.heap.size W w':=fun W hNW=>by
  have:=CP x.m W (by omega) (by omega) hNW;rw [hY,k1] at this;exact this
 cases htr:x.tr with
 | false =>
  have hXY:=l3 htr;have HCE:=Yd (CE w hN);have HV:=Yd (And.intro (And.intro hXY k2) (And.intro hY k3));have HF:=Yd HF1;clear CP CE HF1 hXY k1 k2 k3 l1 l2 l3 hm19 hMO hS0 hX hY n1 n2 hpm hpp hN h hp HCP bs1 bs2 hex hsh2;go_upto_region 20 with (go_at_call 253; (with_reducible refine HCE.out.mono ?_); rintro e w' ⟨hw',G,b,rfl,hb⟩; obtain rfl:=hw'.symm; have HG:=Yd hb; clear hb)
  cases b with
  | true =>
   go_wp2_with fail;go_ret3;obtain ⟨⟨v1,v2⟩,v3,v4⟩:=HV.out;obtain ⟨b1,b2⟩:nx x.m p<infW∧G=sgn neg (nx x.m p):=by first | exact HG.out rfl | exact HG.out trivial
   refine ⟨congrArg Ending.returned ?_,Below.refl _ _⟩;rw [v1];unfold atV;rw [b2,v3] at *;have hne:¬ infX <= Y:=by
    have:infX=infW:=rfl;omega
   rw [if_neg hne,Nat.min_eq_left (by omega)];rfl
  | false =>
   go_wp2_with (go_at_call 254; (with_reducible refine (HF.out _ HN.out).mono ?_); rintro e w1 ⟨rfl,hw1⟩; have HB1:=Yd hw1; clear hw1);go_ret3;obtain ⟨⟨v1,v2⟩,v3,v4⟩:=HV.out;refine ⟨congrArg Ending.returned ?_,HB1.out⟩;rw [v1,v2];rfl
 | true =>
  obtain ⟨Z,hZ⟩:∃ Z,nx (x.m+1) p=Z:=⟨_,rfl⟩;obtain ⟨F2,E2,j1,j2,j3⟩:=pk_parts neg Z s.size;have HF2:∀ W,NE B W -> Calls Tryz.prog 254 #[.int .u64 ((x.m:Int)+1),.int .i64 p,.int .u64 ((S0:Nat):Int)] W fun e w'=>e = .returned (.tuple #[.float .f64 F2,E2])∧Below W.heap.size W w':=fun W hNW=>by
   have:=CP (x.m+1) W (by omega) (by omega) hNW;rw [hZ,j1] at this;rw [show (x.m:Int)+1=((x.m+1:Nat):Int) by omega];exact this
  have hfo:(fo F F2 == some .eq)=decide (min Y infW=min Z infW):=by
   rw [k3,j3];exact fo_eqw neg _ _ (Nat.min_le_right _ _) (Nat.min_le_right _ _)
  have m0:(0:Int) <= (x.m:Int):=by omega
  have m9:(x.m:Int)+1<18446744073709551616:=by omega
  have HFF:=Yd (And.intro HF1 HF2)
  by_cases hsame:min Y infW=min Z infW
  ·rw [decide_eq_true hsame] at hfo;have hX9:min X infX=min Y infX:=by
    have:infX=infW:=rfl;rw [hZ] at l2;omega
   have hV:=at_same neg X Y s.size hX9;have HV:=Yd (hV.trans k2);clear CP CE HF1 HF2 k1 k2 k3 j1 j2 j3 l1 l2 l3 hm19 hMO hS0 hX hY hZ n1 n2 hpm hpp hN h hp HCP bs1 bs2 hex hsh2 hsame hX9 hV;go_upto_region 23 with (go_at_call 254; (with_reducible refine (HFF.out.1 _ HN.out).mono ?_); rintro e w1 ⟨rfl,hw1⟩; have HB1:=Yd hw1; clear hw1);have HN1:=Yd (HN.out.below HB1.out);go_upto_region 26 with (go_at_call 254; (with_reducible refine (HFF.out.2 _ HN1.out).mono ?_); rintro e w2 ⟨rfl,hw2⟩; have HB2:=Yd hw2; clear hw2);go_wp2_with fail;go_ret3;exact ⟨congrArg Ending.returned HV.out.symm,Below.trans HB1.out (HB2.out.mono HB1.out.size)⟩
  ·rw [decide_eq_false hsame] at hfo;have hnd0:0<x.nd:=Nat.pos_of_ne_zero fun e=>by
    have h1:=hMO.hN;rw [e,Nat.pow_zero] at h1;have h2:=hMO.q;rw [show x.N=0 by omega,Nat.zero_div] at h2;exact hm0 h2
   obtain ⟨ex0,ex9⟩:=rf_ex h;have hdx : -60 <= dpX x∧dpX x <= 60:=by
    have a1:=hMO.d0;have a2:=hMO.d1;have a3:=hMO.nd;unfold dpX
    split <;> omega
   have CS:∀ (a:Nat) (W:World),SeW W a 0 0 0 false W -> Calls Tryz.prog 250 #[.pointer (some ⟨a,0,none⟩),.string s] W (SetPost W a x.N x.nd (dpX x+ex) neg):=fun a W hS=>set_any a s neg x rest ex h W hS;have CF:∀ (a:Nat) (W W':World),B <= a -> EV B W' -> SeW W a x.N x.nd (dpX x+ex) neg W' -> Calls Tryz.prog 251 #[.pointer (some ⟨a,0,none⟩),.pointer (some ⟨11,0,none⟩)] W' fun e w'=>e = .returned (.tuple #[.int .u64 ((sgn neg (min X infX):Nat):Int),.bool (decide (infX <= X))])∧W'.grownBy w' (some a):=fun a W W' hB hEV hS=>by
    obtain ⟨f,s1,s2,s3⟩:=hS;have hb:=fbits_any B a (val x.N x.nd (dpX x+ex)) x.N x.nd (dpX x+ex) neg W' hEV hB hnd (by omega) (by omega) ⟨f,s1,s2,⟨hnd0,hMO.lo hnd0,hMO.hN⟩,by omega,rfl⟩;rw [nx_val x.N x.nd (dpX x+ex) (by omega),hX] at hb;exact hb
   obtain ⟨b,hb⟩:∃ b,decide (infX <= X)=b:=⟨_,rfl⟩;obtain ⟨G,hG⟩:∃ G,sgn neg (min X infX)=G:=⟨_,rfl⟩;have hV:atV neg X s.size = .tuple #[.float .f64 G,.int .i64 (s.size:Nat),if b then .iface 185 (.int .i64 1) else .nilIface]:=by
    unfold atV;rw [hG,<- hb]
    by_cases h:infX <= X
    ·rw [if_pos h,decide_eq_true h,if_pos rfl]
    ·rw [if_neg h,decide_eq_false h,if_neg (by decide)]
   rw [hG,hb] at CF;have HV:=Yd hV;have HC:=Yd (And.intro CS CF);clear CP CE HF1 HF2 k1 k2 k3 j1 j2 j3 l1 l2 l3 hm19 hMO hS0 hX hY hZ n1 n2 hpm hpp hN h hp HCP bs1 bs2 hsh2 hsame hV CS CF hnd0 hdx ex0 ex9 hb hG;go_upto_region 23 with (go_at_call 254; (with_reducible refine (HFF.out.1 _ HN.out).mono ?_); rintro e w1 ⟨rfl,hw1⟩; have HB1:=Yd hw1; clear hw1);have HN1:=Yd (HN.out.below HB1.out);go_upto_region 26 with (go_at_call 254; (with_reducible refine (HFF.out.2 _ HN1.out).mono ?_); rintro e w2 ⟨rfl,hw2⟩; have HB2:=Yd hw2; clear hw2);have HN2:=Yd (HN1.out.below HB2.out);have HB3:=Yd (Below.trans HB1.out (HB2.out.mono HB1.out.size));clear HB1 HB2 HN1;go_upto_region 28 with (fail);refine wp_region_lit ?_;refine wl_val rfl _ (exec_alloc_dec rfl _ _) ?_;obtain ⟨a,ha⟩:∃ a,w2.heap.size=a:=⟨_,rfl⟩;obtain ⟨W3,hW3⟩:∃ W3,w2.alloc (.cells decZ 231)=W3:=⟨_,rfl⟩;have hS3:=dec_at w2;have hB3:Below w2.heap.size w2 W3:=by rw [<- hW3]; exact (Below.refl _ _).alloc (Nat.le_refl _) _
   rw [hW3] at hS3 ⊢;have HN3:=Yd (HN2.out.below hB3);have hBa:=HN2.out.lt;rw [ha] at hS3 hBa hB3 ⊢;have HB4:=Yd (And.intro (Below.trans HB3.out (hB3.mono (by rw [<- ha]; exact HB3.out.size))) (And.intro hBa (show w.heap.size <= a by rw [<- ha]; exact HB3.out.size)));have HS3:=Yd hS3;clear hS3 hB3 hBa HB3 HN2 hW3;simp only [Act.put,List.setIfInBounds_toArray,List.set_cons_succ,List.set_cons_zero];go_upto_region 31 with (go_at_call 250; (with_reducible refine (HC.out.1 _ _ HS3.out).mono ?_); rintro e w4 ⟨rfl,hw4⟩; have HS4:=Yd hw4; clear hw4);obtain ⟨f4,s41,s42,s43⟩:=id HS4.out;have hBa:=HB4.out.2.1;have hE4:EV B w4:=HN3.out.ev.grown s43 (fun r e=>by obtain rfl:=Option.some.inj e; exact hBa);have HE4:=Yd (And.intro hBa (And.intro hE4 s43));clear s41 s42 s43 hBa hE4;go_upto_region 32 with (go_at_call 251; (with_reducible refine (HC.out.2 _ _ _ HE4.out.1 HE4.out.2.1 HS4.out).mono ?_); rintro e w5 ⟨rfl,hw5⟩; have HS5:=Yd hw5; clear hw5);have hfin:Below w.heap.size w w5:=by
    have q1:=HB4.out.1;have q2:=HB4.out.2.2;refine (q1.grown HE4.out.2.2 q1.size ?_).grown HS5.out ?_ ?_
    ·intro r e;obtain rfl:=Option.some.inj e;exact q2
    ·exact Nat.le_trans q1.size HE4.out.2.2.size
    ·intro r e;obtain rfl:=Option.some.inj e;exact q2
   have HFin:=Yd hfin;clear hfin
   cases b with
   | true =>
    go_wp2_with fail;go_ret3;exact ⟨congrArg Ending.returned HV.out.symm,HFin.out⟩
   | false =>
    go_wp2_with fail;go_ret3;exact ⟨congrArg Ending.returned HV.out.symm,HFin.out⟩
end rdf

/- What decimal.right takes is what strconv's reading takes: plain. -/
namespace rdf
open Go.RowKit
open dmx
open fpm
def foldD (l:List UInt8) (y:MS):MS:=l.foldl (fun y c=>dgS c y) y
theorem dgS_keep (c:UInt8) (y:MS):(dgS c y).dot=y.dot∧(dgS c y).sd=true∧(dgS c y).nd <= y.nd+1:=by
 unfold dgS
 split
 ·exact ⟨rfl,rfl,Nat.le_succ _⟩
 ·split <;> exact ⟨rfl,rfl,Nat.le_refl _⟩
theorem fold_keep:∀ (l:List UInt8) (y:MS),(foldD l y).dot=y.dot∧(y.sd=true∨0<l.length -> (foldD l y).sd=true)∧(foldD l y).nd <= y.nd+l.length
 | [],y=>⟨rfl,fun h=>h.elim id (fun h=>absurd h (Nat.lt_irrefl _)),Nat.le_refl _⟩
 | c :: l,y=>by
  obtain ⟨a1,a2,a3⟩:=dgS_keep c y;obtain ⟨b1,b2,b3⟩:=fold_keep l (dgS c y);refine ⟨b1.trans a1,fun _=>b2 (.inl a2),?_⟩;show (foldD l (dgS c y)).nd <= _;rw [List.length_cons];omega
theorem isD_46 {c:UInt8} (h:isD c=true):¬ c.toNat=46:=fun e=>by
 have:=(isD_iff c).1 h;omega
theorem ml_dgs:∀ (l:List UInt8) (y:MS),mL l y=mL (l.drop (dgs l)) (foldD (l.take (dgs l)) y)
 | [],y=>rfl
 | c :: l,y=>by
  by_cases h:isD c=true
  ·have e:dgs (c :: l)=dgs l+1:=by
    conv=>lhs; unfold dgs
    rw [if_pos h]
   rw [e,List.drop_succ_cons,List.take_succ_cons]
   conv=>lhs; unfold mL
   rw [if_neg (isD_46 h),if_pos h];exact ml_dgs l (dgS c y)
  ·have e:dgs (c :: l)=0:=by
    conv=>lhs; unfold dgs
    rw [if_neg h]
   rw [e];rfl
theorem ml_stop (l:List UInt8) (y:MS) (h1:dgs l=0) (h2:l.head? = some 46 -> y.dot=true):mL l y=(y,l):=by
 cases l with
 | nil=>rfl
 | cons c l =>
  have hd:¬ isD c=true:=fun h=>by
   unfold dgs at h1;rw [if_pos h] at h1;omega
  unfold mL
  by_cases h46:c.toNat=46
  ·have hc:c=46:=(u8_eq c 46 (by decide)).2 h46;rw [if_pos h46,if_pos (h2 (by rw [hc]; rfl))]
  ·rw [if_neg h46,if_neg hd]
theorem dgs_drop:∀ l:List UInt8,dgs (l.drop (dgs l))=0
 | []=>rfl
 | c :: l=>by
  by_cases h:isD c=true
  ·have e:dgs (c :: l)=dgs l+1:=by
    conv=>lhs; unfold dgs
    rw [if_pos h]
   rw [e,List.drop_succ_cons];exact dgs_drop l
  ·have e:dgs (c :: l)=0:=by
    conv=>lhs; unfold dgs
    rw [if_neg h]
   rw [e];exact e
theorem take_len (l:List UInt8):(l.take (dgs l)).length=dgs l:=by
 rw [List.length_take];have:=dgs_le l;omega
theorem ml_cut (l:List UInt8) (hq:1 <= (cutN l).1):∃ x,mL l ms0=(x,(cutN l).2)∧x.sd=true∧x.nd <= (cutN l).1:=by
 obtain ⟨a1,a2,a3⟩:=fold_keep (l.take (dgs l)) ms0;rw [take_len] at a2 a3;rw [ml_dgs l ms0];unfold cutN at hq ⊢
 by_cases h46:(l.drop (dgs l)).head? = some 46
 ·simp only [if_pos h46] at hq ⊢;obtain ⟨r,hr⟩:∃ r,l.drop (dgs l)=46 :: r:=by
   cases hl:l.drop (dgs l) with
   | nil=>rw [hl] at h46; cases h46
   | cons c r =>
    rw [hl] at h46;obtain rfl:c=46:=by simpa using h46
    exact ⟨r,rfl⟩
  rw [hr] at hq ⊢;rw [List.drop_succ_cons,List.drop_zero] at hq ⊢;have e:mL (46 :: r) (foldD (l.take (dgs l)) ms0)=mL r (dotS (foldD (l.take (dgs l)) ms0)):=by
   conv=>lhs; unfold mL
   rw [if_pos (by decide),if_neg (by rw [a1]; decide)]
  rw [e,ml_dgs r];obtain ⟨b1,b2,b3⟩:=fold_keep (r.take (dgs r)) (dotS (foldD (l.take (dgs l)) ms0));rw [take_len] at b2 b3;refine ⟨_,ml_stop _ _ (dgs_drop r) (fun _=>b1),?_,?_⟩
  ·by_cases h0:0<dgs l
   ·exact b2 (.inl (a2 (.inr h0)))
   ·exact b2 (.inr (by omega))
  ·have:(dotS (foldD (l.take (dgs l)) ms0)).nd=(foldD (l.take (dgs l)) ms0).nd:=rfl;have h0:ms0.nd=0:=rfl;omega
 ·simp only [if_neg h46] at hq ⊢;refine ⟨_,ml_stop _ _ (dgs_drop l) (fun h=>absurd h h46),a2 (.inr (by omega)),?_⟩;have h0:ms0.nd=0:=rfl;omega
theorem okc_dig {c:UInt8} (h:isD c=true):okc c=true:=by
 unfold okc;rw [h];simp
theorem all_take:∀ (l:List UInt8),∀ c∈l.take (dgs l),isD c=true
 | [],c,h=>by cases h
 | a :: l,c,h=>by
  by_cases ha:isD a=true
  ·have e:dgs (a :: l)=dgs l+1:=by
    conv=>lhs; unfold dgs
    rw [if_pos ha]
   rw [e,List.take_succ_cons] at h
   rcases List.mem_cons.1 h with rfl | h
   ·exact ha
   ·exact all_take l c h
  ·have e:dgs (a :: l)=0:=by
    conv=>lhs; unfold dgs
    rw [if_neg ha]
   rw [e] at h
   cases h
theorem okc_drop (l:List UInt8) (h:∀ c∈l.drop (dgs l),okc c=true):∀ c∈l,okc c=true:=fun c hc=>by
 rw [<- List.take_append_drop (dgs l) l] at hc
 rcases List.mem_append.1 hc with h1 | h1
 ·exact okc_dig (all_take l c h1)
 ·exact h c h1
theorem okc_cons {c:UInt8} {l:List UInt8} (h1:okc c=true) (h:∀ d∈l,okc d=true):∀ d∈c :: l,okc d=true:=fun d hd=>by
 rcases List.mem_cons.1 hd with rfl | hd
 ·exact h1
 ·exact h d hd
theorem okc_cut (l:List UInt8) (h:∀ c∈(cutN l).2,okc c=true):∀ c∈l,okc c=true:=by
 refine okc_drop l ?_;unfold cutN at h
 by_cases h46:(l.drop (dgs l)).head? = some 46
 ·simp only [if_pos h46] at h
  cases hl:l.drop (dgs l) with
  | nil=>intro c hc; cases hc
  | cons c r =>
   rw [hl] at h46 h;obtain rfl:c=46:=by simpa using h46
   rw [List.drop_succ_cons,List.drop_zero] at h;exact okc_cons (by decide) (okc_drop r h)
 ·simp only [if_neg h46] at h;exact h
theorem okc_exp (l:List UInt8) (h:expB l=true):∀ c∈l,okc c=true:=by
 cases l with
 | nil=>intro c hc; cases hc
 | cons c l =>
  rw [exp_cons,Bool.and_eq_true,Bool.or_eq_true,beq_iff_eq,beq_iff_eq] at h;obtain ⟨h1,h2⟩:=h;simp only [Bool.and_eq_true,decide_eq_true_eq] at h2;refine okc_cons (by rcases h1 with rfl | rfl <;> decide) ?_;have hr:∀ d∈exR l,okc d=true:=fun d hd=>okc_dig (dgs_all _ h2.2 d hd);unfold exR at hr
  by_cases hs:l.head? = some 43∨l.head? = some 45
  ·rw [if_pos hs] at hr
   cases l with
   | nil=>intro d hd; cases hd
   | cons a l =>
    refine okc_cons ?_ hr
    rcases hs with hs | hs
    ·obtain rfl:a=43:=by simpa using hs
     decide
    ·obtain rfl:a=45:=by simpa using hs
     decide
  ·rw [if_neg hs] at hr;exact hr
theorem okc_unsg (l:List UInt8) (h:∀ c∈unsg l,okc c=true):∀ c∈l,okc c=true:=by
 unfold unsg at h
 by_cases hs:l.head? = some 45
 ·rw [if_pos hs] at h
  cases l with
  | nil=>intro d hd; cases hd
  | cons a l =>
   obtain rfl:a=45:=by simpa using hs
   exact okc_cons (by decide) h
 ·rw [if_neg hs] at h;exact h
def sgL (l:List UInt8):Bool:=decide (l.head? = some 45)
def msL (l:List UInt8):MS:=(mL (unsg l) ms0).1
def exL (l:List UInt8):Int:=if (mL (unsg l) ms0).2=[] then 0 else exV ((mL (unsg l) ms0).2.drop 1)
theorem right_rf (s:ByteArray) (h:rightL s.data.toList=true):RfOk s (sgL s.data.toList) (msL s.data.toList) (mL (unsg s.data.toList) ms0).2 (exL s.data.toList)∧(msL s.data.toList).nd <= 30:=by
 obtain ⟨l,hl⟩:∃ l,s.data.toList=l:=⟨_,rfl⟩;have hlen:l.length=s.size:=by rw [<- hl,list_len]
 rw [hl] at h ⊢;unfold rightL at h
 by_cases h40:40<l.length
 ·rw [if_pos h40] at h
  cases h
 rw [if_neg h40] at h;obtain ⟨q,hq⟩:∃ q,cutN (unsg l)=q:=⟨_,rfl⟩;simp only [hq] at h;have h1:1 <= q.1∧q.1 <= 30∧(q.2=[]∨expB q.2=true):=by
  by_cases hc:q.1<1∨30<q.1∨q.2=[]
  ·rw [if_pos hc,Bool.and_eq_true,decide_eq_true_eq,decide_eq_true_eq] at h;refine ⟨h.1,h.2,?_⟩
   rcases hc with hc | hc | hc
   ·omega
   ·omega
   ·exact .inl hc
  ·rw [if_neg hc] at h;exact ⟨by omega,by omega,.inr h⟩
 obtain ⟨h1a,h1b,h1c⟩:=h1;obtain ⟨x,m1,m2,m3⟩:=ml_cut (unsg l) (by rw [hq]; exact h1a);rw [hq] at m1 m3;have e1:msL l=x:=by unfold msL; rw [m1]
 have e2:(mL (unsg l) ms0).2=q.2:=by rw [m1]
 have e3:exL l=if q.2=[] then 0 else exV (q.2.drop 1):=by unfold exL; rw [e2]
 have hu:unsg l≠[]:=fun e=>by
  rw [e] at hq;have:q.1=0:=by rw [<- hq]; rfl
  omega
 have hne:l≠[]:=fun e=>hu (by rw [e]; rfl);have hpos:1 <= s.size:=by
  rw [<- hlen];exact List.length_pos_iff.2 hne
 have hok:∀ c∈l,okc c=true:=okc_unsg l (okc_cut _ (by
  rw [hq]
  rcases h1c with e | e
  ·rw [e]; intro c hc; cases hc
  ·exact okc_exp _ e))
 have hat:∀ (k:Nat) (hk:k<s.size),l[k]? = some s[k]:=fun k hk=>by
  rw [<- hl,List.getElem?_eq_getElem (by rw [list_len]; exact hk)];rfl
 have h0:l.head? = some s[0]:=by rw [List.head?_eq_getElem?]; exact hat 0 hpos
 rw [e1,e2,e3];refine ⟨⟨by omega,hpos,fun k hk=>hok _ (List.mem_of_getElem? (hat k hk)),?_,?_,?_,m2,?_,?_⟩,Nat.le_trans m3 h1b⟩
 ·intro h43;have hc:s[0]=43:=(u8_eq _ 43 (by decide)).2 h43;rw [hc] at h0
  cases l with
  | nil=>cases h0
  | cons a l =>
   obtain rfl:a=43:=by simpa using h0
   have:q.1=0:=by rw [<- hq]; rfl
   omega
 ·unfold sgL;rw [h0]
  by_cases h45:(s[0]).toNat=45
  ·rw [decide_eq_true h45,(u8_eq _ 45 (by decide)).2 h45];rfl
  ·have hd:decide (some s[0]=some 45)=false:=decide_eq_false (fun h=>h45 ((u8_eq _ 45 (by decide)).1 (Option.some.inj h)));rw [decide_eq_false h45,hd]
 ·rw [<- m1];congr 1;rw [hl];unfold sgL unsg
  by_cases h45:l.head? = some 45
  ·rw [decide_eq_true h45,if_pos rfl,if_pos h45]
  ·rw [decide_eq_false h45,if_neg (by decide),if_neg h45,List.drop_zero]
 ·intro hn;have h45:=of_decide_eq_true hn;unfold unsg at hu;rw [if_pos h45] at hu;rw [<- hlen];refine Nat.lt_of_not_le fun hle=>hu (List.drop_eq_nil_of_le hle)
 ·by_cases he:q.2=[]
  ·exact .inl ⟨he,if_pos he⟩
  ·rw [if_neg he];exact .inr ⟨h1c.resolve_left he,rfl⟩
def decW (l:List UInt8):Nat:=nx (msL l).N (dpX (msL l)+exL l-(msL l).nd)
def decR (l:List UInt8):Nat × Nat:=if rightL l then (if infX <= decW l then (0,10) else if decW l=0 then (0,0) else (dcw.sgn (sgL l) (decW l),0)) else (0,160)
end rdf

/- What a laid text of digits says when it is read: the digits times ten to a power. Plain. -/
namespace rdf
open Go.RowKit
open dmx
open fpm
end rdf

/- Reading what was printed: it is the number; with its last digit cut it is another one. Plain. -/
namespace rdf
open Go.RowKit
open dmx
open fpm
open prnw
open flatm
open nodew
end rdf

/- The plain mathematics of layer 15, outright: a text without an error is cut into chunks; blanks and remarks change nothing but places. No program in sight. -/
namespace lexm
def numS (a:Int):Bool:=digI a || a == 45 || a == 46
def key (t:Tok):Nat × List UInt8:=(t.kind,if t.kind=4 then [] else t.text)
end lexm

/- What a printed text says when it is lexed: the tokens of its lines. Plain; no condition but those stated. -/
namespace bkm
open Go.RowKit
open lexm (Tok firstL runL runL_neg ltrI digI namI numI remI lexRes)
open nodew
open prnw
open fpm
open flatm
end bkm

/- What rows of tokens say when they are parsed: groups of tokens, one a statement, with ends between. Plain; no condition but those stated. -/
namespace bkp
open Go.RowKit
open parw
variable {dec:ByteArray -> Nat × Nat} {en:Int}
def argsOf (dec:ByteArray -> Nat × Nat):List Bool -> List PTok -> List PArg
 | b :: bs,t :: ts=>(if b then ⟨t.pos,(dec t.text).1,⟨#[]⟩⟩ else ⟨t.pos,0,t.text⟩) :: argsOf dec bs ts
 | _,_=>[]
structure Grp where
 bl:List PTok
 a:PTok
 b:PTok
 c:PTok
 ts:List PTok
 z:PTok
def Grp.st (dec:ByteArray -> Nat × Nat) (g:Grp):PStmt:=⟨g.a.text,g.a.pos,kindF g.c.text,argsOf dec (formL (kindF g.c.text)) g.ts⟩
end bkp

/- The first error of statements in plain words: it stays, whatever stands behind. No conditions but those stated. -/
namespace chkw
open parw
open nodew
end chkw

/- Statements that are a program, in plain words: its nodes are right, a front of the statements gives a front of it, and other names give the same. No conditions but those stated. -/
namespace chkw
open parw
open nodew
theorem ba_beq (a b:ByteArray):(a == b)=true↔a=b:=by
 obtain ⟨a⟩:=a;obtain ⟨b⟩:=b;show (a == b)=true↔_;rw [beq_iff_eq];simp
theorem chkA_eq (ents:List (ByteArray × Nat)) (out:List Nd) (s:PStmt) (r:List PStmt):chkA ents out (s :: r) =
  if 4096 <= out.length then ([],s.pos,181)
  else if (lookE ents s.name).isSome=true∨0<kindF s.name then ([],s.pos,182)
  else if (nodeS (lookE ents) s).2.2=0 then chkA (ents ++ [(s.name,out.length)]) (out ++ [(nodeS (lookE ents) s).1]) r
  else ([],(nodeS (lookE ents) s).2.1,(nodeS (lookE ents) s).2.2):=rfl
theorem chkA_cons (ents:List (ByteArray × Nat)) (out:List Nd) (s:PStmt) (r:List PStmt) (h:(chkA ents out (s :: r)).2.2=0) :
  out.length<4096∧lookE ents s.name=none∧kindF s.name=0∧(nodeS (lookE ents) s).2.2=0∧chkA ents out (s :: r)=chkA (ents ++ [(s.name,out.length)]) (out ++ [(nodeS (lookE ents) s).1]) r:=by
 rw [chkA_eq] at h ⊢
 by_cases h1:4096 <= out.length
 ·rw [if_pos h1] at h; cases h
 ·rw [if_neg h1] at h ⊢
  by_cases h2:(lookE ents s.name).isSome=true∨0<kindF s.name
  ·rw [if_pos h2] at h; cases h
  ·rw [if_neg h2] at h ⊢
   by_cases h3:(nodeS (lookE ents) s).2.2=0
   ·rw [if_pos h3];have h4:¬ (lookE ents s.name).isSome=true:=fun e=>h2 (.inl e);have h5:¬ 0<kindF s.name:=fun e=>h2 (.inr e);exact ⟨by omega,by simpa using h4,by omega,h3,rfl⟩
   ·rw [if_neg h3] at h; exact absurd h h3
theorem chkA_take:∀ (l:List PStmt) (ents:List (ByteArray × Nat)) (out:List Nd),(chkA ents out l).2.2=0 ->
  (chkA ents out l).2.1=0∧(chkA ents out l).1.length=out.length+l.length ∧ ∀ k,k <= l.length -> chkA ents out (l.take k)=((chkA ents out l).1.take (out.length+k),0,0)
 | [],ents,out,h=>by
  refine ⟨rfl,rfl,fun k hk => ?_⟩;obtain rfl:k=0:=by simpa using hk
  show (out,(0:Int),0)=(out.take (out.length+0),0,0);rw [Nat.add_zero,List.take_length]
 | s :: r,ents,out,h=>by
  obtain ⟨h1,h2,h3,h4,h5⟩:=chkA_cons ents out s r h;rw [h5] at h ⊢;obtain ⟨i1,i2,i3⟩:=chkA_take r _ _ h;refine ⟨i1,by rw [i2,List.length_append]; simp; omega,fun k hk => ?_⟩
  cases k with
  | zero =>
   have hz:=i3 0 (Nat.zero_le _);have hpre:((chkA (ents ++ [(s.name,out.length)]) (out ++ [(nodeS (lookE ents) s).1]) r).1.take (out ++ [(nodeS (lookE ents) s).1]).length)=out ++ [(nodeS (lookE ents) s).1]:=by
    have:=congrArg (·.1) hz;simpa [chkA] using this.symm
   have h6:=congrArg (List.take out.length) hpre;rw [List.take_take,List.length_append,Nat.min_eq_left (by omega)] at h6;rw [Nat.add_zero,h6];show (out,(0:Int),0)=_;rw [List.take_left' rfl]
  | succ k =>
   have hk':k <= r.length:=by simpa using hk
   rw [List.take_succ_cons];have h6:=i3 k hk';rw [List.length_append] at h6;rw [show out.length+(k+1)=out.length+[(nodeS (lookE ents) s).1].length+k by simp; omega,<- h6];rw [chkA_eq,if_neg (show ¬ 4096 <= out.length by omega),if_neg (by rw [h2,h3]; simp),if_pos h4]
theorem checkS_front (l:List PStmt) (h:(checkS l).2.2=0):0<l.length∧(checkS l).2.1=0∧(checkS l).1.length=l.length ∧ ∀ k,0<k -> k <= l.length -> checkS (l.take k)=((checkS l).1.take k,0,0):=by
 unfold checkS at h ⊢
 by_cases h0:l.length=0
 ·rw [if_pos h0] at h; cases h
 ·rw [if_neg h0] at h ⊢;obtain ⟨h1,h2,h3⟩:=chkA_take l [] [] h;refine ⟨by omega,h1,by rw [h2]; simp,fun k hk hkl => ?_⟩;rw [if_neg (by rw [List.length_take]; omega),h3 k hkl];simp
theorem chkA_bad:∀ (l:List PStmt) (ents:List (ByteArray × Nat)) (out:List Nd),(chkA ents out l).2.2≠0 -> (chkA ents out l).1=[]
 | [],_,_,h=>absurd rfl h
 | s :: r,ents,out,h=>by
  rw [chkA_eq] at h ⊢
  by_cases h1:4096 <= out.length
  ·rw [if_pos h1]
  ·rw [if_neg h1] at h ⊢
   by_cases h2:(lookE ents s.name).isSome=true∨0<kindF s.name
   ·rw [if_pos h2]
   ·rw [if_neg h2] at h ⊢
    by_cases h3:(nodeS (lookE ents) s).2.2=0
    ·rw [if_pos h3] at h ⊢;exact chkA_bad r _ _ h
    ·rw [if_neg h3]
theorem checkS_bad (l:List PStmt) (h:(checkS l).2.2≠0):(checkS l).1=[]:=by
 unfold checkS at h ⊢
 by_cases h0:l.length=0
 ·rw [if_pos h0]
 ·rw [if_neg h0] at h ⊢;exact chkA_bad l [] [] h
theorem below_two (k:Nat):belowN k <= 2:=by
 unfold belowN
 repeat' split
 all_goals omega
end chkw

/- What the statements of a program's nodes are when they are checked: the nodes. Plain; no condition but those stated. -/
namespace bkk
open Go.RowKit
open nodew
open chkw
open parw (PArg PStmt kindF)
open prnw (nmB bA bA_list)
def ents (k:Nat):List (ByteArray × Nat):=(List.range k).map fun i:Nat=>(nmB i,i)
theorem ents_succ (k:Nat):ents (k+1)=ents k ++ [(nmB k,k)]:=by
 unfold ents;rw [List.range_succ,List.map_append];rfl
theorem nm_inj {a b:Int} (h:nmB a=nmB b):a=b:=fpm.nmB_inj a b (by rw [h])
theorem look_none (k:Nat):∀ m,m <= k -> lookE (ents m) (nmB k)=none:=fun m hm=>by
 unfold lookE;rw [List.find?_eq_none.2]
 ·rfl
 ·intro p hp;unfold ents at hp;obtain ⟨i,hi,rfl⟩:=List.mem_map.1 hp;have hi2:=List.mem_range.1 hi;intro e;have:=nm_inj ((ba_beq _ _).1 e);omega
theorem look_some (a:Nat):∀ k,a<k -> lookE (ents k) (nmB a)=some a
 | 0,h=>absurd h (Nat.not_lt_zero _)
 | k+1,h=>by
  rw [ents_succ];unfold lookE;rw [List.find?_append]
  by_cases hak:a<k
  ·have:=look_some a k hak;unfold lookE at this;rw [Option.map_eq_some_iff] at this;obtain ⟨p,hp,hp2⟩:=this;rw [hp];simp [hp2]
  ·have e:a=k:=by omega
   have:=look_none k k (Nat.le_refl _);unfold lookE at this;rw [Option.map_eq_none_iff] at this;have hb:(nmB (k:Int) == nmB (k:Int))=true:=(ba_beq _ _).2 rfl;rw [e,this,Option.none_or];simp [List.find?,hb]
end bkk

/- The walks of strconv.ParseFloat and of decimal.Parse at any text. Conditions: as each theorem states. -/
namespace rdf
open Go.RowKit
open bsw
open prnw
open dcw
open dmx
open fpm
open flatm
open nodew
attribute [local go_sem] fo_eq
structure DE (B:Nat) (w:World):Prop extends NE B w where
 eb : 4 < B
 er:∃ v,w.cell? ⟨4,0,none⟩=some v∧(v = .nilIface ∨ ∃ te pe,v = .iface te pe)
theorem DE.below {B:Nat} {w w':World} (h:DE B w) (hb:Below w.heap.size w w'):DE B w':=by
 obtain ⟨v,h1,h2⟩:=h.er;exact ⟨h.toNE.below hb,h.eb,v,(hb.cell (Nat.lt_of_lt_of_le h.eb h.lt)).trans h1,h2⟩
theorem fo_0 (s:Bool) (X:Nat) (hX:X<infW):(fo (sgn s X) 0 == some .eq)=decide (X=0):=by
 have hi:=infW_eq;have hm:sgn s X % 9223372036854775808=X:=by
  unfold sgn
  split <;> omega
 rw [fo_sv (by rw [hm]; omega) (by decide),sv_zero,sv_sgn s X hX]
 by_cases h0:X=0
 ·rw [decide_eq_true h0,h0,val_low (by decide)]
  cases s <;> rfl
 ·have:=val_pos (Nat.pos_of_ne_zero h0);rw [decide_eq_false h0,Int.compare_eq_ite_lt]
  cases s
  ·rw [show (if (false:Bool)=true then -(valR X:Int) else (valR X:Int))=(valR X:Int) from rfl,if_neg (by omega),if_pos (by omega)];rfl
  ·rw [show (if (true:Bool)=true then -(valR X:Int) else (valR X:Int)) = -(valR X:Int) from rfl,if_pos (by omega)];rfl
section
variable (B:Nat) (s:ByteArray) (neg:Bool) (x:MS) (rest:List UInt8) (ex:Int) (h:RfOk s neg x rest ex) (hnd:x.nd <= 30) (w:World)
include h hnd
theorem prefix_any (hN:NE B w) :
  Calls Tryz.prog 203 #[.string s,.int .i64 64] w (AtPost w neg (nx x.N (dpX x+ex-x.nd)) s.size):=by
 have hA:=atof_any B s neg x rest ex h hnd w hN;obtain ⟨F,E,k1,k2,k3⟩:=pk_parts neg (nx x.N (dpX x+ex-x.nd)) s.size;have hA2:Calls Tryz.prog 236 #[.string s] w fun e w'=>e = .returned (.tuple #[.float .f64 F,.int .i64 (s.size:Nat),E])∧Below w.heap.size w w':=by
  unfold AtPost at hA;rw [k2] at hA;exact hA
 have HA:=Yd hA2;have HK:=Yd k2;clear hA hA2 k1 k2 k3 hN h hnd;go_enter Tryz.func203,Tryz.ntmps203;go_wp2_with (go_at_call 236; (with_reducible refine HA.out.mono ?_); rintro e w1 ⟨rfl,hw1⟩; have HB1:=Yd hw1; clear hw1);go_ret3;exact ⟨congrArg Ending.returned HK.out.symm,HB1.out⟩
theorem iparse_any (hN:NE B w) :
  Calls Tryz.prog 164 #[.string s,.int .i64 64] w fun e w'=>e = .returned (pkV neg (nx x.N (dpX x+ex-x.nd)))∧Below w.heap.size w w':=by
 have hA:=prefix_any B s neg x rest ex h hnd w hN;obtain ⟨F,E,k1,k2,k3⟩:=pk_parts neg (nx x.N (dpX x+ex-x.nd)) s.size;have hA2:Calls Tryz.prog 203 #[.string s,.int .i64 64] w fun e w'=>e = .returned (.tuple #[.float .f64 F,.int .i64 (s.size:Nat),E])∧Below w.heap.size w w':=by
  unfold AtPost at hA;rw [k2] at hA;exact hA
 have HA:=Yd hA2;have HK:=Yd k1;clear hA hA2 k1 k2 k3 hN h hnd;go_enter Tryz.func164,Tryz.ntmps164;go_wp2_with (go_at_call 203; (with_reducible refine HA.out.mono ?_); rintro e w1 ⟨rfl,hw1⟩; have HB1:=Yd hw1; clear hw1);go_ret2;exact ⟨congrArg Ending.returned HK.out.symm,HB1.out⟩
theorem sparse_any (hN:DE B w) :
  Calls Tryz.prog 128 #[.string s,.int .i64 64] w fun e w'=>(∃ E,e = .returned (.tuple #[.float .f64 (sgn neg (min (nx x.N (dpX x+ex-x.nd)) infX)),E])∧if infX <= nx x.N (dpX x+ex-x.nd) then ∃ t p,E = .iface t p else E = .nilIface)∧Below w.heap.size w w':=by
 have hA:=iparse_any B s neg x rest ex h hnd w hN.toNE;have hsz:=h.sz;obtain ⟨X,hX⟩:∃ X,nx x.N (dpX x+ex-x.nd)=X:=⟨_,rfl⟩;rw [hX] at hA ⊢;obtain ⟨F,hF⟩:∃ F,sgn neg (min X infX)=F:=⟨_,rfl⟩;unfold pkV at hA;rw [hF] at hA ⊢
 by_cases hc:infX <= X
 ·rw [if_pos hc] at hA;have CT:∀ W,DE B W -> Calls Tryz.prog 117 #[.string ⟨#[80,97,114,115,101,70,108,111,97,116]⟩,.string s,.int .i64 0,.int .i64 64,.iface 185 (.int .i64 1)] W fun e w'=>(∃ M:Nat,e = .returned (.iface 188 (.pointer (some ⟨M,0,none⟩))))∧Below W.heap.size W w':=fun W hW=>by
   obtain ⟨v,e1,e2⟩:=hW.er;refine (Tryz.strconv_toError_range ⟨#[80,97,114,115,101,70,108,111,97,116]⟩ s 0 64 v W (by omega) e1 e2).mono ?_;rintro e w' ⟨M,h1,-,-,h2⟩;exact ⟨⟨M,h1⟩,h2⟩
  have HA:=Yd hA;have HN:=Yd hN;have HT:=Yd CT;have HC:=Yd hc;clear hA hN CT hc hX hF h hnd;go_enter Tryz.func128,Tryz.ntmps128;go_upto_region 2 with (go_at_call 164; (with_reducible refine HA.out.mono ?_); rintro e w1 ⟨rfl,hw1⟩; have HB1:=Yd hw1; clear hw1);have HN1:=Yd (HN.out.below HB1.out);go_wp2_with (go_at_call 117; (with_reducible refine (HT.out _ HN1.out).mono ?_); rintro e w2 ⟨⟨M,rfl⟩,hw2⟩; have HB2:=Yd hw2; clear hw2);go_ret2;exact ⟨⟨_,rfl,_,_,rfl⟩,HB1.out.trans (HB2.out.mono HB1.out.size)⟩
 ·rw [if_neg hc] at hA;have HA:=Yd hA;have HC:=Yd hc;clear hA hN hc hX hF h hnd;go_enter Tryz.func128,Tryz.ntmps128;go_wp2_with (go_at_call 164; (with_reducible refine HA.out.mono ?_); rintro e w1 ⟨rfl,hw1⟩; have HB1:=Yd hw1; clear hw1);go_ret2;exact ⟨rfl,HB1.out⟩
end
def DqPost (w:World) (r:Nat × Nat) (e:Ending) (w':World):Prop:=e = .returned (.tuple #[.float .f64 r.1,.int .i64 ((r.2:Nat):Int)])∧Below w.heap.size w w'
theorem dparse_any (B:Nat) (s:ByteArray) (w:World) (hN:DE B w):Calls Tryz.prog 94 #[.string s] w (DqPost w (decR s.data.toList)):=by
 have CR:=right_any s w
 cases hr:rightL s.data.toList with
 | false =>
  have hd:decR s.data.toList=(0,160):=by unfold decR; rw [hr,if_neg (by decide)]
  rw [hd];rw [hr] at CR;have HR:=Yd CR;clear CR hd hr hN;go_enter Tryz.func94,Tryz.ntmps94;go_wp2_with (go_at_call 127; (with_reducible refine HR.out.mono ?_); rintro e w1 ⟨rfl,hw1⟩; have HB1:=Yd hw1; clear hw1);go_ret2;exact ⟨rfl,HB1.out⟩
 | true =>
  obtain ⟨hrf,hnd⟩:=right_rf s hr;have CP:=fun W hW=>sparse_any B s _ _ _ _ hrf hnd W hW;obtain ⟨r,hrr⟩:∃ r,decR s.data.toList=r:=⟨_,rfl⟩;have hd:r=if infX <= decW s.data.toList then (0,10) else if decW s.data.toList=0 then (0,0) else (sgn (sgL s.data.toList) (decW s.data.toList),0):=by
   rw [<- hrr];unfold decR;rw [hr,if_pos rfl]
  rw [hrr];rw [hr] at CR;have e0:nx (msL s.data.toList).N (dpX (msL s.data.toList)+exL s.data.toList-(msL s.data.toList).nd)=decW s.data.toList:=rfl;rw [e0] at CP;obtain ⟨X,hX⟩:∃ X,decW s.data.toList=X:=⟨_,rfl⟩;obtain ⟨neg,hneg⟩:∃ neg,sgL s.data.toList=neg:=⟨_,rfl⟩;rw [hX,hneg] at CP hd;obtain ⟨F,hF⟩:∃ F,sgn neg (min X infX)=F:=⟨_,rfl⟩;rw [hF] at CP;have HR:=Yd CR;have HN:=Yd hN;clear hrf hnd hrr hr CR hN e0 hX hneg
  by_cases hc:infX <= X
  ·rw [if_pos hc] at hd;subst hd;simp only [if_pos hc] at CP;have HP:=Yd CP;clear CP hc hF;go_enter Tryz.func94,Tryz.ntmps94;go_upto_region 3 with (go_at_call 127; (with_reducible refine HR.out.mono ?_); rintro e w1 ⟨rfl,hw1⟩; have HB1:=Yd hw1; clear hw1);have HN1:=Yd (HN.out.below HB1.out);go_wp2_with (go_at_call 128; (with_reducible refine (HP.out _ HN1.out).mono ?_); rintro e w2 ⟨⟨E,rfl,t,p,rfl⟩,hw2⟩; have HB2:=Yd hw2; clear hw2);go_ret2;exact ⟨rfl,HB1.out.trans (HB2.out.mono HB1.out.size)⟩
  ·rw [if_neg hc] at hd;simp only [if_neg hc] at CP;have hXi:X<infW:=by have:infX=infW:=rfl; omega
   rw [Nat.min_eq_left (by omega)] at hF;have hfo:=fo_0 neg X hXi;rw [hF] at hfo;have HP:=Yd CP
   by_cases h0:X=0
   ·rw [if_pos h0] at hd;subst hd;rw [decide_eq_true h0] at hfo;clear CP hc hF h0 hXi;go_enter Tryz.func94,Tryz.ntmps94;go_upto_region 3 with (go_at_call 127; (with_reducible refine HR.out.mono ?_); rintro e w1 ⟨rfl,hw1⟩; have HB1:=Yd hw1; clear hw1);have HN1:=Yd (HN.out.below HB1.out);go_wp2_with (go_at_call 128; (with_reducible refine (HP.out _ HN1.out).mono ?_); rintro e w2 ⟨⟨E,rfl,rfl⟩,hw2⟩; have HB2:=Yd hw2; clear hw2);go_ret2;exact ⟨rfl,HB1.out.trans (HB2.out.mono HB1.out.size)⟩
   ·rw [if_neg h0,hF] at hd;subst hd;rw [decide_eq_false h0] at hfo;clear CP hc hF h0 hXi;go_enter Tryz.func94,Tryz.ntmps94;go_upto_region 3 with (go_at_call 127; (with_reducible refine HR.out.mono ?_); rintro e w1 ⟨rfl,hw1⟩; have HB1:=Yd hw1; clear hw1);have HN1:=Yd (HN.out.below HB1.out);go_wp2_with (go_at_call 128; (with_reducible refine (HP.out _ HN1.out).mono ?_); rintro e w2 ⟨⟨E,rfl,rfl⟩,hw2⟩; have HB2:=Yd hw2; clear hw2);go_ret2;exact ⟨rfl,HB1.out.trans (HB2.out.mono HB1.out.size)⟩
end rdf

/- decimal.Parse at any text, as the other texts ask for it. Condition: seven of the library's variables hold what the program's text lays. -/
namespace flow
open Go.RowKit
open parw
open rdf
def Laid (B:Nat) (w:World):Prop:=DE B w
theorem Laid.stable (B:Nat):Stable (Laid B) B:=by
 intro w w' row h hg hr;have hk:∀ (p:Addr) (v:Value),p.block<B -> w.cell? p=some v -> w'.cell? p=some v:=fun p v hp hv =>
  (World.cell?_of_block (hg.block p.block (World.block_lt_of_cell? w _ hv) (fun e=>by have:=hr _ e.symm; omega))).trans hv
 obtain ⟨v,h1,h2⟩:=h.er;exact ⟨⟨h.ev.keep hk,h.ft.keep hk,fun i hi=>by
  obtain ⟨a1,a2,a3,a4⟩:=h.pt i hi;exact ⟨a1,a2,hk _ _ h.pb a3,hk _ _ h.pb a4⟩,h.pb,h.ob,hk _ _ h.ob h.op,Nat.le_trans h.lt hg.size⟩,h.eb,v,hk _ _ h.eb h1,h2⟩
def decE (s:ByteArray):Nat × Nat:=decR s.data.toList
theorem dparse_e (B:Nat) (s:ByteArray) (w:World) (h:Laid B w):Calls Tryz.prog 94 #[.string s] w (DecPost (decE s) w):=dparse_any B s w h
theorem dec_ok (B:Nat) (ts:List PTok):DecOk decE (Laid B) ts:=fun t _ _ w hw=>dparse_e B t.text w hw
end flow

/- A program's text, read: lexed, parsed and checked, it is the program. What any text that is read says: a program, or an error and its place. Plain; no condition but those stated. -/
namespace bkr
open Go.RowKit
open lexm (Tok lexRes lexT errOf toksOf lexT_len firstL firstL_le firstL_pos lexT_nil lexT_bad lexT_skip lexT_tok)
open parw (PTok PArg PStmt RSt kindF formL parseRes parseL stmtS argsS argS numS wordS nextS)
open nodew
open chkw (checkS checkS_front checkS_bad)
open prnw (nmB bA bA_list)
open bkm
open bkp
open bkk
open flow (decE)
def pt (t:Tok):PTok:=⟨t.kind,(t.pos:Int),⟨t.text.toArray⟩⟩
def key (t:Tok):Nat × List UInt8:=(t.kind,t.text)
def readL (t:List UInt8):List Nd × Int × Nat :=
 if (lexRes t).2.2=0 then
  (if (parseRes decE ((lexRes t).1.map pt)).2.2=0 then checkS (parseRes decE ((lexRes t).1.map pt)).1 else ([],(parseRes decE ((lexRes t).1.map pt)).2.1,(parseRes decE ((lexRes t).1.map pt)).2.2))
 else ([],(lexRes t).2.1,(lexRes t).2.2)
end bkr

/- What any text says that is read: how many tokens, which errors, which places. Plain; no condition but those stated. -/
namespace bkr
open Go.RowKit
open lexm (Tok lexRes lexT errOf toksOf lexT_len firstL firstL_le firstL_pos lexT_nil lexT_bad lexT_skip lexT_tok)
open parw (PTok PArg PStmt RSt kindF kindF_le formL parseRes parseL parseL_end endOf stmtS argsS argS numS wordS nextS nextS_er nextS_nil nextS_yes nextS_no)
open nodew
open chkw (checkS checkS_front checkS_bad chkA chkA_eq nodeS numsS namesS)
open flow (decE)
theorem lexT_bd (n:Nat):∀ (l:List UInt8) (i kl:Nat),l.length <= n -> ∀ x∈lexT l i kl,x.1.pos+x.1.text.length <= i+l.length:=by
 induction n with
 | zero =>
  intro l i kl hn x hx;obtain rfl:l=[]:=List.eq_nil_of_length_eq_zero (by omega);rw [lexT_nil] at hx
  split at hx
  ·cases hx
  ·rw [List.mem_singleton.1 hx];exact Nat.le_refl _
 | succ n ih =>
  intro l i kl hn x hx
  by_cases hl:l=[]
  ·subst hl;rw [lexT_nil] at hx
   split at hx
   ·cases hx
   ·rw [List.mem_singleton.1 hx];exact Nat.le_refl _
  ·obtain ⟨⟨k,m,b⟩,hq⟩:∃ q,firstL l=q:=⟨_,rfl⟩;have hle:=firstL_le l;have hpos:=firstL_pos hl;rw [hq] at hle hpos;simp only at hle hpos;have htl:(l.take m).length <= m:=by rw [List.length_take]; omega
   cases b with
   | false =>
    rw [lexT_bad hl hq] at hx;rw [List.mem_singleton.1 hx];show i+(l.take m).length <= _;omega
   | true =>
    have hm:=hpos (.inl rfl);have hd:(l.drop m).length=l.length-m:=List.length_drop
    by_cases hk:k=0
    ·subst hk;rw [lexT_skip hl hq] at hx;have:=ih (l.drop m) (i+m) kl (by omega) x hx;omega
    ·rw [lexT_tok hl hq hk] at hx
     rcases List.mem_cons.1 hx with rfl | hx
     ·show i+(l.take m).length <= _;omega
     ·have:=ih (l.drop m) (i+m) k (by omega) x hx;omega
theorem mem_toks {t:Tok}:∀ {xs:List (Tok × Bool)},t∈toksOf xs -> (t,true)∈xs
 | [],h=>by cases h
 | (u,true) :: r,h=>by
  rcases List.mem_cons.1 h with rfl | h
  ·simp
  ·simp [mem_toks h]
 | (u,false) :: r,h=>by cases h
theorem mem_err {p:Nat}:∀ {xs:List (Tok × Bool)},errOf xs=some p -> ∃ x∈xs,x.1.pos=p
 | [],h=>by cases h
 | (u,true) :: r,h=>by
  obtain ⟨x,hx,hp⟩:=mem_err (xs:=r) h;exact ⟨x,by simp [hx],hp⟩
 | (u,false) :: r,h=>⟨(u,false),by simp,by injection h⟩
theorem lex_facts (l:List UInt8):(lexRes l).2.1 <= max l.length 1048576∧(l.length <= 1048576 -> (lexRes l).2.1 <= l.length)∧(1048576<l.length -> (lexRes l).2.2≠0)∧(lexRes l).2.2 <= 151∧(lexRes l).1.length <= l.length+1∧(lexRes l).1.length <= 1048577∧((lexRes l).2.2≠0 -> (lexRes l).1=[]) ∧ ∀ t∈(lexRes l).1,t.pos+t.text.length <= l.length:=by
 unfold lexRes
 by_cases h:1048576<l.length
 ·rw [if_pos h];exact ⟨by simp only; omega,fun h'=>absurd h' (by omega),fun _=>by decide,by decide,Nat.zero_le _,Nat.zero_le _,fun _=>rfl,fun t ht=>by cases ht⟩
 ·rw [if_neg h];have hb:=lexT_bd l.length l 0 4 (Nat.le_refl _)
  cases he:errOf (lexT l 0 4) with
  | some p =>
   obtain ⟨x,hx,hp⟩:=mem_err he;have:=hb x hx;exact ⟨by simp only; omega,fun _=>by simp only; omega,fun h'=>absurd h' h,Nat.le_of_ble_eq_true rfl,Nat.zero_le _,Nat.zero_le _,fun _=>rfl,fun t ht=>by cases ht⟩
  | none =>
   have hlen:(toksOf (lexT l 0 4)).length <= l.length+1:=by
    have h1:=lexT_len l 0 4;have h2:∀ xs:List (Tok × Bool),(toksOf xs).length <= xs.length:=by
     intro xs
     induction xs with
     | nil=>exact Nat.le_refl _
     | cons x r ih =>
      obtain ⟨u,b⟩:=x
      cases b with
      | true=>exact Nat.succ_le_succ ih
      | false=>exact Nat.zero_le _
    exact Nat.le_trans (h2 _) h1
   refine ⟨by simp only; omega,fun _=>by simp only; omega,fun h'=>absurd h' h,Nat.le_of_ble_eq_true rfl,hlen,by simp only; omega,fun h'=>absurd rfl h',fun t ht => ?_⟩;have:=hb _ (mem_toks ht);simpa using this
structure Inv (M:Int) (s:RSt):Prop where
 er:s.er <= 171
 pl:0 <= s.pl∧s.pl <= M
 ts:∀ t∈s.ts,0 <= t.pos∧t.pos <= M
structure ArgG (M:Int) (a:PArg):Prop where
 num:a.num<18446744073709551616
 pos:0 <= a.pos∧a.pos <= M
structure StG (M:Int) (s:PStmt):Prop where
 kind:s.kind <= 6
 pos:0 <= s.pos∧s.pos <= M
 args:∀ a∈s.args,ArgG M a
theorem dec_facts (s:ByteArray):(decE s).1<18446744073709551616∧(decE s).2 <= 160:=by
 unfold decE rdf.decR;have hi:dmx.infX=9218868437227405312:=rfl
 split
 ·split
  ·exact ⟨by decide,by decide⟩
  ·split
   ·exact ⟨by decide,by decide⟩
   ·refine ⟨?_,by simp only; omega⟩;unfold dcw.sgn;simp only
    split <;> omega
 ·exact ⟨by decide,by decide⟩
variable {M en:Int}
theorem next_inv {s:RSt} (h:Inv M s) (hen:0 <= en∧en <= M) (k:Nat):Inv M (nextS en s k).2∧0 <= (nextS en s k).1.pos∧(nextS en s k).1.pos <= M:=by
 have hM:0 <= M:=by omega
 by_cases h0:s.er=0
 ·cases hts:s.ts with
  | nil =>
   rw [nextS_nil h0 hts];exact ⟨⟨Nat.le_of_ble_eq_true rfl,hen,h.ts⟩,Int.le_refl _,hM⟩
  | cons t r =>
   have ht:=h.ts t (by rw [hts]; simp)
   by_cases hk:t.kind=k
   ·rw [nextS_yes h0 hts hk];exact ⟨⟨h.er,h.pl,fun u hu=>h.ts u (by rw [hts]; simp [show u∈r from hu])⟩,ht⟩
   ·rw [nextS_no h0 hts hk];exact ⟨⟨Nat.le_of_ble_eq_true rfl,ht,h.ts⟩,Int.le_refl _,hM⟩
 ·rw [nextS_er h0];exact ⟨h,Int.le_refl _,hM⟩
theorem fail_inv {s:RSt} (h:Inv M s) (a:Int) (ha:0 <= a∧a <= M) (e:Nat) (he:e <= 171):Inv M (s.fail a e):=by
 unfold RSt.fail
 split
 ·exact ⟨he,ha,h.ts⟩
 ·exact h
theorem arg_inv {s:RSt} (h:Inv M s) (hen:0 <= en∧en <= M) (b:Bool):Inv M (argS decE en b s).2∧ArgG M (argS decE en b s).1:=by
 have hM:0 <= M:=by omega
 cases b with
 | false =>
  obtain ⟨h1,h2⟩:=next_inv h hen 1;exact ⟨h1,⟨(by decide:(0:Nat)<18446744073709551616),h2⟩⟩
 | true =>
  obtain ⟨h1,h2⟩:=next_inv h hen 2;show Inv M (numS decE en s).2∧ArgG M (numS decE en s).1;unfold numS
  split
  ·obtain ⟨d1,d2⟩:=dec_facts (nextS en s 2).1.text;refine ⟨?_,⟨d1,h2⟩⟩;simp only
   split
   ·exact h1
   ·exact fail_inv h1 _ h2 _ (by omega)
  ·exact ⟨h1,⟨(by decide:(0:Nat)<18446744073709551616),Int.le_refl _,hM⟩⟩
theorem args_inv (hen:0 <= en∧en <= M):∀ (bs:List Bool) {s:RSt},Inv M s -> Inv M (argsS decE en bs s).2 ∧ ∀ a∈(argsS decE en bs s).1,ArgG M a
 | [],s,h=>⟨h,fun a ha=>by cases ha⟩
 | b :: r,s,h=>by
  obtain ⟨h1,h2⟩:=arg_inv h hen b;obtain ⟨h3,h4⟩:=args_inv hen r h1;refine ⟨h3,fun a ha => ?_⟩
  rcases List.mem_cons.1 ha with rfl | ha
  ·exact h2
  ·exact h4 a ha
theorem stmt_inv {s:RSt} (h:Inv M s) (hen:0 <= en∧en <= M):Inv M (stmtS decE en s).2∧StG M (stmtS decE en s).1:=by
 unfold stmtS;simp only;obtain ⟨a1,a2⟩:=next_inv h hen 1;obtain ⟨b1,b2⟩:=next_inv a1 hen 3;obtain ⟨c1,c2⟩:=next_inv b1 hen 1;have d1:Inv M (if kindF (nextS en (nextS en (nextS en s 1).2 3).2 1).1.text=0 then (nextS en (nextS en (nextS en s 1).2 3).2 1).2.fail (nextS en (nextS en (nextS en s 1).2 3).2 1).1.pos 171 else (nextS en (nextS en (nextS en s 1).2 3).2 1).2):=by
  split
  ·exact fail_inv c1 _ c2 _ (by decide)
  ·exact c1
 obtain ⟨e1,e2⟩:=args_inv hen (formL (kindF (nextS en (nextS en (nextS en s 1).2 3).2 1).1.text)) d1;obtain ⟨f1,_⟩:=next_inv e1 hen 4;exact ⟨f1,⟨kindF_le _,a2,e2⟩⟩
theorem parseL_inv (hen:0 <= en∧en <= M):∀ (f:Nat) (s:RSt) (out:List PStmt),Inv M s -> (∀ x∈out,StG M x) -> Inv M (parseL decE en f s out).2 ∧ ∀ x∈(parseL decE en f s out).1,StG M x
 | 0,s,out,h,ho=>⟨h,ho⟩
 | f+1,s,out,h,ho=>by
  unfold parseL
  by_cases h0:s.er=0
  ·rw [if_pos h0]
   cases hts:s.ts with
   | nil=>exact ⟨h,ho⟩
   | cons t r =>
    simp only
    by_cases hk:t.kind=4
    ·rw [if_pos hk];exact parseL_inv hen f _ out ⟨h.er,h.pl,fun u hu=>h.ts u (by rw [hts]; simp [show u∈r from hu])⟩ ho
    ·rw [if_neg hk];obtain ⟨a1,a2⟩:=stmt_inv h hen;refine parseL_inv hen f _ _ a1 fun x hx => ?_
     rcases List.mem_append.1 hx with hx | hx
     ·exact ho x hx
     ·rw [List.mem_singleton.1 hx]; exact a2
  ·rw [if_neg h0];exact ⟨h,ho⟩
theorem parse_facts (M:Int) (hM:0 <= M) (hM2:M <= 4611686018427387904) (ts:List PTok) (h:∀ t∈ts,0 <= t.pos∧t.pos+t.text.size <= M) :
  (parseRes decE ts).2.2 <= 171∧(0 <= (parseRes decE ts).2.1∧(parseRes decE ts).2.1 <= M)∧((parseRes decE ts).2.2≠0 -> (parseRes decE ts).1=[]) ∧ ∀ x∈(parseRes decE ts).1,StG M x:=by
 have hen:0 <= endOf ts∧endOf ts <= M:=by
  unfold endOf
  cases hl:ts.getLast? with
  | none=>exact ⟨Int.le_refl _,hM⟩
  | some t =>
   have:=h t (List.mem_of_getLast? hl);have hw:wrap64 (t.pos+(t.text.size:Int))=t.pos+(t.text.size:Int):=IntWalk.wrap64_in _ (by omega);simp only;rw [hw];omega
 obtain ⟨a1,a2⟩:=parseL_inv hen (ts.length+1) ⟨ts,0,0⟩ [] ⟨Nat.le_of_ble_eq_true rfl,⟨Int.le_refl _,hM⟩,fun t ht=>by have:=h t ht; omega⟩ (fun x hx=>by cases hx);unfold parseRes;simp only
 split
 ·exact ⟨Nat.le_of_ble_eq_true rfl,⟨Int.le_refl _,hM⟩,fun h'=>absurd rfl h',a2⟩
 ·exact ⟨a1.er,a1.pl,fun _=>rfl,fun x hx=>by cases hx⟩
theorem toks_in (l:List UInt8):∀ t∈(lexRes l).1.map pt,0 <= t.pos∧t.pos+t.text.size <= (l.length:Int):=fun t ht=>by
 obtain ⟨u,hu,rfl⟩:=List.mem_map.1 ht;have:=(lex_facts l).2.2.2.2.2.2.2 u hu;have hz:(pt u).text.size=u.text.length:=by
  show u.text.toArray.size=_;simp
 rw [hz];show 0 <= (u.pos:Int)∧(u.pos:Int)+(u.text.length:Int) <= _;omega
end bkr

/- The walk of flat.Read: what they say of any text. Conditions: the library's tables hold what the row lists. -/
namespace bkr
open Go.RowKit
open lexm (Tok lexRes cellsOf)
open lexw (lex_any LexPost)
open parw
open nodew
open chkw
open flow (decE Laid Laid.stable dec_ok)
theorem pcells_pt (ts:List Tok):pcells (ts.map pt)=cellsOf ts:=by
 induction ts with
 | nil=>rfl
 | cons t r ih=>rw [List.map_cons,pcells_cons,ih]; rfl
theorem prow_own {W:World} {base:Nat} {v:Value} {ts:List Tok} (h:W.ownsRow base 27 3 v ts.length (cellsOf ts)):PRow W W.heap.size v (ts.map pt):=by
 rcases h.2 with ⟨rfl,hn⟩ | ⟨g,cap,cur,rfl,_,hgg,hc,_⟩
 ·exact ⟨none,0,by rw [List.length_map,hn],by rw [List.length_map,hn]; exact Nat.le_refl _,fun h0=>absurd (by rw [List.eq_nil_of_length_eq_zero hn]; rfl) h0⟩
 ·refine ⟨_,cap,by rw [List.length_map],by rw [List.length_map]; exact hc,fun _=>⟨g,0,rfl,(Array.getElem?_eq_some_iff.1 hgg).1,fun j u hu => ?_⟩⟩;rw [pcells_pt] at hu;have hc:=h.cells (g:=g) rfl j u hu;have hadd:(⟨g,0,none⟩:Addr).add j=⟨g,j,none⟩:=by unfold Addr.add; split <;> simp_all
  rw [hadd] at hc;rw [Nat.zero_add];exact hc
theorem stable_more {G:World -> Prop} {B B':Nat} (h:Stable G B) (hb:B <= B'):Stable G B':=fun w w' row hG hg hr=>h w w' row hG hg fun r e=>Nat.le_trans hb (hr r e)
theorem laid_below {B:Nat} {w w':World} (h:Laid B w) (hb:Below w.heap.size w w'):Laid B w':=Laid.stable B w w' none h (parw.grown_below hb none) (fun r e=>by cases e)
def rdP (t:List UInt8):List PStmt × Int × Nat:=parseRes decE ((lexRes t).1.map pt)
theorem rdP_facts (t:List UInt8) (ht:t.length <= 4611686018427387904):(rdP t).2.2 <= 171 ∧ ∀ x∈(rdP t).1,StG (t.length:Int) x:=by
 obtain ⟨y1,y2,y3,y4⟩:=parse_facts (t.length:Int) (by omega) (by omega) _ (toks_in t);exact ⟨y1,y4⟩
theorem own_nil {W:World} {base:Nat} {e:TypeId} {k:Nat}:W.ownsRow base e k (.slice none 0 0) 0 []:=⟨by simp,.inl ⟨rfl,rfl⟩⟩
theorem Read_any (B:Nat) (s:ByteArray) (hs0:s.size <= 1000000000000) (w:World) (hw:Laid B w) (hB:B <= w.heap.size):Calls Tryz.prog 19 #[.string s] w (CkPost w (readL s.data.toList)):=by
 have hlen:s.data.toList.length=s.size:=by simp
 have hs:s.size <= maxLen:=by unfold maxLen; omega
 obtain ⟨x1,x2,x3,x4,x5,x6,x7,x8⟩:=lex_facts s.data.toList;obtain ⟨y1,y2⟩:=rdP_facts s.data.toList (by omega);have hkd:∀ x∈(rdP s.data.toList).1,x.kind<256:=fun x hx=>by have:=(y2 x hx).kind; omega
 obtain ⟨R,hR⟩:∃ R,readL s.data.toList=R:=⟨_,rfl⟩;have hRe:readL s.data.toList=if (lexRes s.data.toList).2.2=0 then (if (rdP s.data.toList).2.2=0 then checkS (rdP s.data.toList).1 else ([],(rdP s.data.toList).2.1,(rdP s.data.toList).2.2)) else ([],(lexRes s.data.toList).2.1,(lexRes s.data.toList).2.2):=rfl;rw [hR] at hRe ⊢;have CL:=Yd (lex_any s hs w);obtain ⟨L,hL⟩:∃ L,lexRes s.data.toList=L:=⟨_,rfl⟩;have hPe:rdP s.data.toList=parseRes decE (L.1.map pt):=by rw [<- hL]; rfl
 obtain ⟨P,hP⟩:∃ P,rdP s.data.toList=P:=⟨_,rfl⟩;rw [hL] at x6 hRe CL;rw [hP] at hkd hRe hPe;obtain ⟨Lt,Lp,Le⟩:=L;obtain ⟨Pt,Pp,Pe⟩:=P;simp only at x6 hkd hRe hPe;have HW:=Yd (And.intro hw hB);have HX:=Yd (And.intro x6 (And.intro hkd hPe));have HR:=Yd hRe;clear hw hB x1 x2 x3 x4 x5 x6 x7 x8 y1 y2 hkd hR hL hP hRe hPe hlen hs hs0;go_enter Tryz.func19,Tryz.ntmps19;go_wp2_with fail;refine CL.out.mono ?_;rintro e w1 ⟨v1,rfl,hown1,hB1⟩;simp only at hown1 ⊢;have hp1:=prow_own hown1;have hz1:=hB1.size;have hw1:=laid_below HW.out.1 hB1;have hc1:=parse_any decE (Laid B) (Lt.map pt) (by rw [List.length_map]; have:=HX.out.1; omega) v1 w1 (stable_more (Laid.stable B) (by have:=HW.out.2; omega)) (dec_ok B _) hp1 hw1;rw [<- HX.out.2.2] at hc1;have B1:=Yd (And.intro hB1 hz1);clear hown1 hp1 hw1 hB1 hz1
 by_cases e1:Le=0
 ·have HE1:=Yd e1;have q1:((Le:Int) != 0)=false:=by rw [e1]; rfl
  clear e1;go_wp2_with fail;refine hc1.mono ?_;rintro e w2 ⟨v2,rfl,hrow2,hB2⟩;simp only at hrow2 ⊢;have B2:=Yd hB2;have hc2:=check_any w2.heap.size v2 Pt HX.out.2.1 w2 (SR.of_row hrow2) (Nat.le_refl _);clear hc1 hrow2 hB2
  by_cases e2:Pe=0
  ·have HE2:=Yd e2;have q2:((Pe:Int) != 0)=false:=by rw [e2]; rfl
   clear e2;go_wp2_with fail;refine hc2.mono ?_;rintro e w3 ⟨v3,rfl,hown3,hB3⟩;have B3:=Yd (And.intro hown3 hB3);clear hc2 hown3 hB3;go_wp2_with fail;go_ret3;rw [HR.out,if_pos HE1.out,if_pos HE2.out];obtain ⟨b1,z1⟩:=B1.out;have b2:=B2.out;obtain ⟨o3,b3⟩:=B3.out;exact ⟨v3,rfl,parw.own_le o3 (by have:=b2.size; omega),(b1.trans (b2.mono z1)).trans (b3.mono (by have:=b2.size; omega))⟩
  ·have HE2:=Yd e2;have q2:((Pe:Int) != 0)=true:=by rw [bne_iff_ne]; omega
   clear e2 hc2;go_wp2_with fail;go_ret3;rw [HR.out,if_pos HE1.out,if_neg HE2.out];obtain ⟨b1,z1⟩:=B1.out;have b2:=B2.out;exact ⟨_,rfl,own_nil,b1.trans (b2.mono z1)⟩
 ·have HE1:=Yd e1;have q1:((Le:Int) != 0)=true:=by rw [bne_iff_ne]; omega
  clear e1 hc1;go_wp2_with fail;go_ret3;rw [HR.out,if_neg HE1.out];exact ⟨_,rfl,own_nil,B1.out.1⟩
end bkr

/- The walks of the reference's letter and digit. -/
namespace lexw
open Go.RowKit
open lexm
theorem rletter_any (c:Int) (w:World):Calls Tryz.prog 68 #[.int .u8 c] w fun e w'=>e = .returned (.bool (ltrI c))∧w=w':=by
 by_cases h1:97 <= c
 ·by_cases h2:c <= 122
  ·have hv:ltrI c=true:=by simp [ltrI,h1,h2]
   have HV:=Yd hv;clear hv;go_enter Tryz.func68,Tryz.ntmps68;go_wp2;go_ret;exact ⟨ret_bool HV.out.symm,rfl⟩
  ·have hv:ltrI c=false:=by
    have:¬ c <= 90:=by omega
    have:¬ c=95:=by omega
    simp [ltrI, *]
   have HV:=Yd hv;have h3:65 <= c:=by omega
   have h4:¬ c <= 90:=by omega
   have h5:(c == 95)=false:=Yf (by omega)
   clear hv;go_enter Tryz.func68,Tryz.ntmps68;go_wp2;go_ret;exact ⟨ret_bool HV.out.symm,rfl⟩
 ·by_cases h2:65 <= c
  ·by_cases h3:c <= 90
   ·have hv:ltrI c=true:=by simp [ltrI,h2,h3]
    have HV:=Yd hv;clear hv;go_enter Tryz.func68,Tryz.ntmps68;go_wp2;go_ret;exact ⟨ret_bool HV.out.symm,rfl⟩
   ·have hv:ltrI c=(c == 95):=by simp [ltrI,h1,h3]
    have HV:=Yd hv;clear hv;go_enter Tryz.func68,Tryz.ntmps68;go_wp2;go_ret;exact ⟨ret_bool HV.out.symm,rfl⟩
  ·have hv:ltrI c=(c == 95):=by simp [ltrI,h1,h2]
   have HV:=Yd hv;clear hv;go_enter Tryz.func68,Tryz.ntmps68;go_wp2;go_ret;exact ⟨ret_bool HV.out.symm,rfl⟩
theorem rdigit_any (c:Int) (w:World):Calls Tryz.prog 69 #[.int .u8 c] w fun e w'=>e = .returned (.bool (digI c))∧w=w':=by
 go_enter Tryz.func69,Tryz.ntmps69;go_wp2
 all_goals go_ret
 ·have h:48 <= c:=by assumption
  exact ⟨ret_bool (by simp [digI,h]),rfl⟩
 ·have h:¬ 48 <= c:=by omega
  exact ⟨ret_bool (by simp [digI,h]),rfl⟩
end lexw
end Go.Proofs.YtcbgkbidgpemfaaGreatDoor
