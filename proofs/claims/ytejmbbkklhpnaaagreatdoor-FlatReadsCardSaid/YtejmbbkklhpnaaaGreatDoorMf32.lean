/- The walk of strconv's atof64 at a decimal. Conditions: as each theorem states. -/
import Derived.Test.YtejmbbkklhpnaaaGreatDoorMf30
import Derived.Test.YtejmbbkklhpnaaaGreatDoorMf31
import Derived.Test.YtejmbbkklhpnaaaGreatDoorMf23
import Derived.Test.YtejmbbkklhpnaaaGreatDoorMf18
import Derived.Test.YtejmbbkklhpnaaaGreatDoorMf04
import Derived.Test.YtejmbbkklhpnaaaGreatDoorMf21
import Derived.Test.YtejmbbkklhpnaaaGreatDoorMf09
import Derived.Test.YtejmbbkklhpnaaaGreatDoorMf11
import Derived.Test.YtejmbbkklhpnaaaGreatDoorMf12
import Derived.Lib.ItoaNum
import Derived.Lib.Repeat
namespace Go.Proofs.YtejmbbkklhpnaaaGreatDoor.rdf
open Go.RowKit
open bsw
open prnw
open dcw
open dmx
open fpm
open flatm
open nodew
attribute [local go_sem] ifrombits_run un_neg fo_eq
theorem fo_eqw (s:Bool) (X Y:Nat) (hX:X <= infW) (hY:Y <= infW):(fo (sgn s X) (sgn s Y) == some .eq)=decide (X=Y):=by
 have hi:=infW_eq
 have hmod:∀ Z,Z <= infW -> sgn s Z % 9223372036854775808=Z:=fun Z hZ=>by
  unfold sgn
  split <;> omega
 have hinf:Ieee.Format.read Ieee.double (sgn s infW) = .infinity s:=by cases s <;> kernel_rfl
 by_cases hx:X<infW
 ·by_cases hy:Y<infW
  ·rw [fo_sv (by rw [hmod X hX]; omega) (by rw [hmod Y hY]; omega),sv_sgn s X hx,sv_sgn s Y hy]
   by_cases he:X=Y
   ·rw [decide_eq_true he,he]
    simp
   ·have hv:valR X≠valR Y:=fun h=>he (val_inj h)
    rw [decide_eq_false he,Int.compare_eq_ite_lt]
    cases s
    ·rw [show (if (false:Bool)=true then -(valR X:Int) else (valR X:Int))=(valR X:Int) from rfl,show (if (false:Bool)=true then -(valR Y:Int) else (valR Y:Int))=(valR Y:Int) from rfl]
     split
     ·rfl
     ·rw [if_pos (by omega)]; rfl
    ·rw [show (if (true:Bool)=true then -(valR X:Int) else (valR X:Int)) = -(valR X:Int) from rfl,show (if (true:Bool)=true then -(valR Y:Int) else (valR Y:Int)) = -(valR Y:Int) from rfl]
     split
     ·rfl
     ·rw [if_pos (by omega)]; rfl
  ·have e:Y=infW:=by omega
   subst e
   obtain ⟨m,a,h1,_⟩:=word_read s X hx
   rw [<- sgn_word] at h1
   rw [decide_eq_false (by omega)]
   show (Ieee.Datum.order (Ieee.Format.read Ieee.double (sgn s X)) (Ieee.Format.read Ieee.double (sgn s infW)) == some .eq)=false
   rw [h1,hinf]
   cases s <;> rfl
 ·have e:X=infW:=by omega
  subst e
  by_cases hy:Y<infW
  ·obtain ⟨m,a,h1,_⟩:=word_read s Y hy
   rw [<- sgn_word] at h1
   rw [decide_eq_false (by omega)]
   show (Ieee.Datum.order (Ieee.Format.read Ieee.double (sgn s infW)) (Ieee.Format.read Ieee.double (sgn s Y)) == some .eq)=false
   rw [h1,hinf]
   cases s <;> rfl
  ·have e:Y=infW:=by omega
   subst e
   rw [decide_eq_true rfl]
   show (Ieee.Datum.order (Ieee.Format.read Ieee.double (sgn s infW)) (Ieee.Format.read Ieee.double (sgn s infW)) == some .eq)=true
   rw [hinf]
   cases s <;> rfl
def nx (N:Nat) (P:Int):Nat:=nearX (N*10 ^ P.toNat) (10 ^ (-P).toNat)
theorem ten_pos (k:Nat):0<10 ^ k:=Nat.pow_pos (by decide)
theorem nx_mono {M N:Nat} (h:M <= N) (P:Int):nx M P <= nx N P:=near_le (ten_pos _) (ten_pos _) (Nat.mul_le_mul_right _ (Nat.mul_le_mul_right _ h))
theorem nx_shift (N k:Nat) (P:Int):nx (N*10 ^ k) P=nx N (P+k):=by
 refine near_same (ten_pos _) (ten_pos _) ?_
 have e:P.toNat+k+(-(P+k)).toNat=(P+k).toNat+(-P).toNat:=by omega
 calc N*10 ^ k*10 ^ P.toNat*10 ^ (-(P+k)).toNat=N*10 ^ (P.toNat+k+(-(P+k)).toNat):=by rw [Nat.pow_add,Nat.pow_add]; ac_rfl
  _=N*10 ^ ((P+k).toNat+(-P).toNat):=by rw [e]
  _=N*10 ^ (P+k).toNat*10 ^ (-P).toNat:=by rw [Nat.pow_add]; ac_rfl
def tenF:Nat:=346
theorem tenF_eq:tenF=346:=rfl
theorem nx_zero (P:Int):nx 0 P=0:=by
 unfold nx
 rw [Nat.zero_mul]
 refine near_low (ten_pos _) ?_
 rw [Nat.zero_mul]
 exact Nat.zero_le _
theorem two_ten:2 ^ twoC <= 10 ^ tenA:=by decide +kernel
theorem nx_big {N:Nat} (h:0<N) {P:Int} (hP:310<P):infX <= nx N P:=by
 unfold nx
 rw [show (-P).toNat=0 by omega,Nat.pow_zero]
 refine near_big (by decide) ?_
 rw [Nat.mul_one]
 refine Nat.le_trans two_ten ?_
 have h1:(10:Nat) ^ tenA <= 10 ^ P.toNat:=Nat.pow_le_pow_right (by decide) (by have:=tenA_eq; omega)
 exact Nat.le_trans h1 (Nat.le_mul_of_pos_left _ h)
theorem low_ten:10 ^ 20*2 ^ lowE <= 10 ^ tenF:=by decide +kernel
theorem nx_low {N:Nat} (h:N <= 10 ^ 20) {P:Int} (hP:P < -345):nx N P=0:=by
 unfold nx
 rw [show P.toNat=0 by omega,Nat.pow_zero,Nat.mul_one]
 refine near_low (ten_pos _) ?_
 have h1:(10:Nat) ^ tenF <= 10 ^ (-P).toNat:=Nat.pow_le_pow_right (by decide) (by have:=tenF_eq; omega)
 exact Nat.le_trans (Nat.le_trans (Nat.mul_le_mul_right _ h) low_ten) h1
theorem nx_val (N n:Nat) (dp:Int) (h:(n:Int) <= dp+2000):nearX (val N n dp) one=nx N (dp-n):=by
 refine near_same one_pos (ten_pos _) ?_
 unfold val one
 have ho:=oneE_eq
 have e:(dp-(n:Int)+2000).toNat+(-(dp-(n:Int))).toNat=(dp-(n:Int)).toNat+oneE:=by omega
 rw [Nat.mul_assoc,<- Nat.pow_add,e,Nat.pow_add,Nat.mul_assoc]
theorem rf_ex {s:ByteArray} {neg:Bool} {x:MS} {rest:List UInt8} {ex:Int} (h:RfOk s neg x rest ex) : -1000 <= ex∧ex <= 1000:=by
 rcases h.re with ⟨_,r⟩ | ⟨r1,r2⟩
 ·rw [r]
  decide
 ·rw [r2]
  cases rest with
  | nil=>exact absurd r1 (by decide)
  | cons c l =>
   unfold expB at r1
   rw [Bool.and_eq_true] at r1
   have h2:=r1.2
   rw [List.drop_succ_cons,List.drop_zero]
   simp only [Bool.and_eq_true,decide_eq_true_eq] at h2
   have key:∀ r:List UInt8,dgs r <= 3 -> dgs r=r.length -> eL r 0<1000:=fun r a b=>by
    have h3:=eL_snoc_bd r 0 (dgs_all r b)
    have h4:(10:Nat) ^ r.length <= 10 ^ 3:=Nat.pow_le_pow_right (by decide) (by omega)
    omega
   unfold exV
   by_cases h45:l.head? = some 45
   ·rw [if_pos (.inr h45)] at h2
    have:=key _ h2.1.2 h2.2
    rw [if_pos h45]
    omega
   ·rw [if_neg h45]
    by_cases h43:l.head? = some 43
    ·rw [if_pos (.inl h43)] at h2
     have:=key _ h2.1.2 h2.2
     rw [if_pos h43]
     omega
    ·rw [if_neg (fun h=>h.elim h43 h45)] at h2
     have:=key _ h2.1.2 h2.2
     rw [if_neg h43]
     omega
def decZ:Array Value:=(List.replicate 800 (Value.int .u8 0) ++ [Value.int .i64 0,Value.int .i64 0,Value.bool false,Value.bool false]).toArray
theorem alloc_dec (w:World):(Instr.alloc 194 true (.tuple #[])).run Tryz.prog w = .ok (.pointer (some ⟨w.heap.size,0,none⟩)) (w.alloc (.cells decZ 194)):=by
 kernel_rfl
theorem dec_at (w:World):SeW (w.alloc (.cells decZ 194)) w.heap.size 0 0 0 false (w.alloc (.cells decZ 194)):=by
 refine ⟨fun _=>0,⟨decZ,heap_at w _ _ rfl,fun j hj => ?_,by kernel_rfl,by kernel_rfl,by kernel_rfl,by kernel_rfl⟩,fun j hj=>absurd hj (Nat.not_lt_zero _),⟨rfl,rfl,rfl,Nat.le_refl _,fun _ _ _=>rfl⟩⟩
 unfold decZ
 rw [List.getElem?_toArray,List.getElem?_append_left (by rw [List.length_replicate]; exact hj),List.getElem?_replicate,if_pos hj]
 rfl
structure NE (B:Nat) (w:World):Prop where
 ev:EV B w
 ft:FT B w
 pt:PT hiT loT w
 pb : 8 < B
 ob : 2 < B
 op:w.cell? ⟨2,0,none⟩=some (.bool true)
 lt:B <= w.heap.size
theorem NE.below {B:Nat} {w w':World} (h:NE B w) (hb:Below w.heap.size w w'):NE B w':=by
 have hk:∀ (p:Addr) (v:Value),p.block<B -> w.cell? p=some v -> w'.cell? p=some v:=fun p v hp hv=>(hb.cell (Nat.lt_of_lt_of_le hp h.lt)).trans hv
 exact ⟨h.ev.keep hk,h.ft.keep hk,fun i hi=>by
  obtain ⟨a1,a2,a3,a4⟩:=h.pt i hi
  exact ⟨a1,a2,hk _ _ h.pb a3,hk _ _ h.pb a4⟩,h.pb,h.ob,hk _ _ h.ob h.op,Nat.le_trans h.lt hb.size⟩
theorem ml_ok:∀ (l:List UInt8) (n:Nat) (y x:MS) (rest:List UInt8),MOk n y -> mL l y=(x,rest) -> MOk (n+l.length) x
 | [],n,y,x,rest,h,hm=>by
  unfold mL at hm
  injection hm with e1 e2
  rw [<- e1]
  exact h
 | c :: l,n,y,x,rest,h,hm=>by
  have stop:∀ z:MS × List UInt8,(y,c :: l)=(x,rest) -> MOk (n+(c :: l).length) x:=fun _ e=>by
   injection e with e1 e2
   rw [<- e1]
   exact mok_mono h (Nat.le_add_right _ _)
  have hl:n+(c :: l).length=n+1+l.length:=by rw [List.length_cons]; omega
  unfold mL at hm
  split at hm
  ·split at hm
   ·exact stop (x,rest) hm
   ·rw [hl]
    exact ml_ok l (n+1) _ x rest (mok_dot h) hm
  ·split at hm
   ·rename_i hd
    rw [hl]
    exact ml_ok l (n+1) _ x rest (mok_dg h c hd) hm
   ·exact stop (x,rest) hm
theorem rf_ok {s:ByteArray} {neg:Bool} {x:MS} {rest:List UInt8} {ex:Int} (h:RfOk s neg x rest ex):MOk 60 x:=by
 refine mok_mono (ml_ok _ 0 ms0 x rest mok0 h.run) ?_
 have:=h.sz
 rw [List.length_drop]
 simp
 omega
theorem rf_near {x:MS} {n:Nat} (h:MOk n x) (D:Int):(x.m=0 -> x.N=0)∧(∀ p:Int,p=D-x.nm -> nx x.m p <= nx x.N (D-x.nd)∧nx x.N (D-x.nd) <= nx (x.m+1) p∧(x.tr=false -> nx x.N (D-x.nd)=nx x.m p)):=by
 obtain ⟨k,hk⟩:∃ k,x.nd-x.nm=k:=⟨_,rfl⟩
 have hq:=h.q
 have ht:=h.t
 have hmn:=h.mn
 rw [hk] at hq ht
 have hp:=ten_pos k
 refine ⟨fun h0 => ?_,fun p hp2 => ?_⟩
 ·by_cases hk0:k=0
  ·rw [hk0,Nat.pow_zero,Nat.div_one,h0] at hq
   exact hq.symm
  ·have h19:¬ x.nm<19:=fun hl=>by have:=h.full hl; omega
   have h4:=h.lo (by omega)
   have h5:10 ^ k <= 10 ^ (x.nd-1):=Nat.pow_le_pow_right (by decide) (by omega)
   have h6:1 <= x.N / 10 ^ k:=by
    rw [Nat.le_div_iff_mul_le hp,Nat.one_mul]
    omega
   omega
 ·have hdm:=Nat.div_add_mod x.N (10 ^ k)
  have hml:=Nat.mod_lt x.N hp
  rw [<- hq,Nat.mul_comm] at hdm
  have e:∀ M,nx (M*10 ^ k) (D-x.nd)=nx M p:=fun M=>by
   rw [nx_shift,hp2]
   congr 1
   omega
  rw [<- e x.m,<- e (x.m+1)]
  refine ⟨nx_mono (by omega) _,nx_mono ?_ _,fun h0 => ?_⟩
  ·rw [Nat.add_mul,Nat.one_mul]
   omega
  ·rw [h0] at ht
   have hz:x.N % 10 ^ k=0:=by
    have:=of_decide_eq_false ht.symm
    exact Decidable.not_not.1 this
   rw [hz,Nat.add_zero] at hdm
   rw [hdm]
def atV (neg:Bool) (X n:Nat):Value:=.tuple #[.float .f64 (sgn neg (min X infX)),.int .i64 (n:Nat),if infX <= X then .iface 160 (.int .i64 1) else .nilIface]
def AtPost (w:World) (neg:Bool) (X n:Nat) (e:Ending) (w':World):Prop:=e = .returned (atV neg X n)∧Below w.heap.size w w'
theorem exec_alloc_dec {o:Oper} (ho:o.op = .alloc 194) (a:Act) (w:World):(execOp a.eval o).run Tryz.prog w = .ok (.value (.pointer (some ⟨w.heap.size,0,none⟩))) (w.alloc (.cells decZ 194)):=by
 unfold execOp
 simp only [ho,Sem.run_bind,alloc_dec,Result.andThen_ok,Sem.run_pure]
theorem pk_parts (neg:Bool) (X n:Nat):∃ F E,pkV neg X = .tuple #[.float .f64 F,E]∧atV neg X n = .tuple #[.float .f64 F,.int .i64 (n:Nat),E]∧F=sgn neg (min X infX):=⟨_,_,rfl,rfl,rfl⟩
theorem at_same (neg:Bool) (X Y n:Nat) (h1:min X infX=min Y infX):atV neg X n=atV neg Y n:=by
 unfold atV
 rw [h1]
 by_cases h:infX <= X
 ·rw [if_pos h,if_pos (by omega)]
 ·rw [if_neg h,if_neg (by omega)]
set_option maxRecDepth 100000 in
set_option maxHeartbeats 4000000 in
theorem atof_any (B:Nat) (s:ByteArray) (neg:Bool) (x:MS) (rest:List UInt8) (ex:Int) (h:RfOk s neg x rest ex) (hnd:x.nd <= 30) (w:World) (hN:NE B w) :
  Calls Tryz.prog 189 #[.string s] w (AtPost w neg (nx x.N (dpX x+ex-x.nd)) s.size):=by
 have CS:=fun W=>special_any s neg x rest ex h W
 obtain ⟨p,hp⟩:∃ p,rfE x ex=p:=⟨_,rfl⟩
 have CR:∀ W,Calls Tryz.prog 193 #[.string s] W fun e w'=>e = .returned (.tuple #[.int .u64 ((x.m:Nat):Int),.int .i64 p,.bool neg,.bool x.tr,.bool false,.int .i64 ((s.size:Nat):Int),.bool true])∧w'=W:=fun W=>by
  have:=readFloat_any s neg x rest ex h W
  unfold RfPost at this
  rw [hp] at this
  exact this
 have CB:=fun W=>b2u neg W
 have hsh:∀ b:Nat,b=(if neg then 1 else 0) -> IntKind.u64.wrap ((b:Int)*9223372036854775808)=((sgn neg 0:Nat):Int):=fun b hb=>by
  subst hb
  cases neg <;> decide +kernel
 obtain ⟨nb,hnb⟩:∃ nb:Nat,nb=if neg then 1 else 0:=⟨_,rfl⟩
 have hsh2:=hsh nb hnb
 have CB2:∀ W,Calls Tryz.prog 183 #[.bool neg] W (Same W (.int .u64 ((nb:Nat):Int))):=fun W=>by
  have:=CB W
  rw [hnb]
  cases neg <;> exact this
 have nb0:(0:Int) <= (nb:Int):=by omega
 have nb1:(nb:Int) <= 1:=by rw [hnb]; split <;> decide
 have hC:=Lib.hid (And.intro CS (And.intro CR CB2))
 have hMO:=rf_ok h
 have o1:=hN.op
 clear CS CR CB CB2 hsh hnb
 obtain ⟨X,hX⟩:∃ X,nx x.N (dpX x+ex-x.nd)=X:=⟨_,rfl⟩
 rw [hX]
 go_enter Tryz.func189,Tryz.ntmps189
 go_upto_region 12 with (first | (go_at_call 192; (with_reducible refine (hC.out.1 _).mono ?_); rintro e w' ⟨rfl,hw'⟩; obtain rfl:=hw'.symm) | (go_at_call 193; (with_reducible refine (hC.out.2.1 _).mono ?_); rintro e w' ⟨rfl,hw'⟩; obtain rfl:=hw'.symm) | (go_at_call 183; (with_reducible refine (hC.out.2.2 _).mono ?_); rintro e w' ⟨rfl,hw'⟩; obtain rfl:=hw'.symm))
 obtain ⟨n1,n2⟩:=rf_near hMO (dpX x+ex)
 rw [hX] at n2
 have hpm:x.m≠0 -> p=dpX x+ex-x.nm:=fun h0=>by
  rw [<- hp]
  unfold rfE
  rw [if_neg h0]
  rfl
 have bS:∀ b:Nat,sgn neg 0=b -> bits BinOp.or IntKind.u64 (b:Int) 0=(b:Int)∧bits BinOp.or IntKind.u64 (b:Int) 9218868437227405312=((sgn neg infX:Nat):Int):=fun b hb=>by
  subst hb
  cases neg <;> decide +kernel
 obtain ⟨S0,hS0⟩:∃ S0,sgn neg 0=S0:=⟨_,rfl⟩
 obtain ⟨bs1,bs2⟩:=bS S0 hS0
 obtain ⟨SI,hSI⟩:∃ SI,sgn neg infX=SI:=⟨_,rfl⟩
 rw [hSI] at bs2
 rw [hS0]
 have HSg:=Lib.hid (And.intro hS0 hSI)
 clear hC bS hSI
 by_cases hm0:x.m=0
 ·have hX0:X=0:=by rw [<- hX,n1 hm0,nx_zero]
  have hV:atV neg X s.size = .tuple #[.float .f64 S0,.int .i64 (s.size:Nat),.nilIface]:=by
   rw [hX0,<- hS0]
   unfold atV
   rw [Nat.min_eq_left (Nat.zero_le _),if_neg (by decide)]
  have g1:((x.m:Int) == 0)=true:=by rw [hm0]; rfl
  have HV:=Lib.hid hV
  clear n1 n2 hpm hX hX0 hV hMO hS0 hN h hp hsh2
  go_wp2_with fail
  go_ret3
  exact ⟨congrArg Ending.returned HV.out.symm,Below.refl _ _⟩
 have g1:((x.m:Int) == 0)=false:=by rw [beq_eq_false_iff_ne]; omega
 have hpp:=hpm hm0
 obtain ⟨l1,l2,l3⟩:=n2 p hpp
 have hm19:x.m<10 ^ 19:=Nat.lt_of_lt_of_le hMO.m (Nat.pow_le_pow_right (by decide) hMO.nm)
 have h19:(10:Nat) ^ 19=10000000000000000000:=by decide
 rw [h19] at hm19
 by_cases hbig:310<p
 ·have hXb:infX <= X:=Nat.le_trans (nx_big (by omega) hbig) l1
  have hV:atV neg X s.size = .tuple #[.float .f64 SI,.int .i64 (s.size:Nat),.iface 160 (.int .i64 1)]:=by
   unfold atV
   rw [Nat.min_eq_right hXb,if_pos hXb,HSg.out.2]
  have g2:decide (310<p)=true:=decide_eq_true hbig
  have HV:=Lib.hid hV
  clear n1 n2 hpm hX hXb hV hMO hS0 hN h hp hsh2 l1 l2 l3 hbig hpp
  go_wp2_with fail
  go_ret3
  exact ⟨congrArg Ending.returned HV.out.symm,Below.refl _ _⟩
 have g2:decide (310<p)=false:=decide_eq_false hbig
 by_cases hlow:p < -345
 ·have hX0:X=0:=by
   have:=nx_low (N:=x.m+1) (P:=p) (by omega) hlow
   omega
  have hV:atV neg X s.size = .tuple #[.float .f64 S0,.int .i64 (s.size:Nat),.nilIface]:=by
   rw [hX0,<- hS0]
   unfold atV
   rw [Nat.min_eq_left (Nat.zero_le _),if_neg (by decide)]
  have g3:decide (p < -345)=true:=decide_eq_true hlow
  have HV:=Lib.hid hV
  clear n1 n2 hpm hX hX0 hV hMO hS0 hN h hp hsh2 l1 l2 l3 hbig hpp hlow
  go_wp2_with fail
  go_ret3
  exact ⟨congrArg Ending.returned HV.out.symm,Below.refl _ _⟩
 have g3:decide (p < -345)=false:=decide_eq_false hlow
 go_upto_region 18 with (fail)
 obtain ⟨i,hi⟩:∃ i:Nat,p=(i:Int)-348:=⟨(p+348).toNat,by omega⟩
 have CP:∀ (d:Nat) (W:World),0<d -> d<18446744073709551616 -> NE B W -> Calls Tryz.prog 203 #[.int .u64 (d:Nat),.int .i64 p,.int .u64 ((S0:Nat):Int)] W (PfPost W (pkV neg (nx d p))):=fun d W hd0 hd hNW=>by
  have:=pf64_any neg d i hd0 hd (by omega) (by omega) W hNW.pt (Nat.lt_of_lt_of_le hNW.pb hNW.lt)
  rw [<- hi,hS0] at this
  exact this
 clear hi
 have CE:∀ W,NE B W -> Calls Tryz.prog 202 #[.int .u64 ((x.m:Nat):Int),.int .i64 p,.bool neg] W fun e w'=>w'=W ∧ ∃ F b,e = .returned (.tuple #[.float .f64 F,.bool b])∧(b=true -> nx x.m p<infW∧F=sgn neg (nx x.m p)):=fun W hNW=>by
  refine (exact_any B neg x.m p (by omega) (by omega) (by omega) (by omega) W hNW.ev hNW.ft).mono ?_
  rintro e w' ⟨h1,⟨G,h2⟩ | ⟨h2,h3⟩⟩
  ·exact ⟨h1,G,false,h2,fun h=>by cases h⟩
  ·exact ⟨h1,_,true,h3,fun _=>⟨h2,rfl⟩⟩
 have hex:s.extract 0 s.size=s:=by
  apply ByteArray.ext
  rw [ByteArray.data_extract]
  simp
 have HN:=Lib.hid hN
 have HCP:=Lib.hid (And.intro CP CE)
 obtain ⟨Y,hY⟩:∃ Y,nx x.m p=Y:=⟨_,rfl⟩
 rw [hY] at l1 l3
 obtain ⟨F,E,k1,k2,k3⟩:=pk_parts neg Y s.size
 have HF1:∀ W,NE B W -> Calls Tryz.prog 203 #[.int .u64 ((x.m:Nat):Int),.int .i64 p,.int .u64 ((S0:Nat):Int)] W fun e w'=>e = .returned (.tuple #[.float .f64 F,E])∧Below W.heap.size W w':=fun W hNW=>by
  have:=CP x.m W (by omega) (by omega) hNW
  rw [hY,k1] at this
  exact this
 cases htr:x.tr with
 | false =>
  have hXY:=l3 htr
  have HCE:=Lib.hid (CE w hN)
  have HV:=Lib.hid (And.intro (And.intro hXY k2) (And.intro hY k3))
  have HF:=Lib.hid HF1
  clear CP CE HF1 hXY k1 k2 k3 l1 l2 l3 hm19 hMO hS0 hX hY n1 n2 hpm hpp hN h hp HCP bs1 bs2 hex hsh2
  go_upto_region 20 with (go_at_call 202; (with_reducible refine HCE.out.mono ?_); rintro e w' ⟨hw',G,b,rfl,hb⟩; obtain rfl:=hw'.symm; have HG:=Lib.hid hb; clear hb)
  cases b with
  | true =>
   go_wp2_with fail
   go_ret3
   obtain ⟨⟨v1,v2⟩,v3,v4⟩:=HV.out
   obtain ⟨b1,b2⟩:nx x.m p<infW∧G=sgn neg (nx x.m p):=by first | exact HG.out rfl | exact HG.out trivial
   refine ⟨congrArg Ending.returned ?_,Below.refl _ _⟩
   rw [v1]
   unfold atV
   rw [b2,v3] at *
   have hne:¬ infX <= Y:=by
    have:infX=infW:=rfl
    omega
   rw [if_neg hne,Nat.min_eq_left (by omega)]
   rfl
  | false =>
   go_wp2_with (go_at_call 203; (with_reducible refine (HF.out _ HN.out).mono ?_); rintro e w1 ⟨rfl,hw1⟩; have HB1:=Lib.hid hw1; clear hw1)
   go_ret3
   obtain ⟨⟨v1,v2⟩,v3,v4⟩:=HV.out
   refine ⟨congrArg Ending.returned ?_,HB1.out⟩
   rw [v1,v2]
   rfl
 | true =>
  obtain ⟨Z,hZ⟩:∃ Z,nx (x.m+1) p=Z:=⟨_,rfl⟩
  obtain ⟨F2,E2,j1,j2,j3⟩:=pk_parts neg Z s.size
  have HF2:∀ W,NE B W -> Calls Tryz.prog 203 #[.int .u64 ((x.m:Int)+1),.int .i64 p,.int .u64 ((S0:Nat):Int)] W fun e w'=>e = .returned (.tuple #[.float .f64 F2,E2])∧Below W.heap.size W w':=fun W hNW=>by
   have:=CP (x.m+1) W (by omega) (by omega) hNW
   rw [hZ,j1] at this
   rw [show (x.m:Int)+1=((x.m+1:Nat):Int) by omega]
   exact this
  have hfo:(fo F F2 == some .eq)=decide (min Y infW=min Z infW):=by
   rw [k3,j3]
   exact fo_eqw neg _ _ (Nat.min_le_right _ _) (Nat.min_le_right _ _)
  have m0:(0:Int) <= (x.m:Int):=by omega
  have m9:(x.m:Int)+1<18446744073709551616:=by omega
  have HFF:=Lib.hid (And.intro HF1 HF2)
  by_cases hsame:min Y infW=min Z infW
  ·rw [decide_eq_true hsame] at hfo
   have hX9:min X infX=min Y infX:=by
    have:infX=infW:=rfl
    rw [hZ] at l2
    omega
   have hV:=at_same neg X Y s.size hX9
   have HV:=Lib.hid (hV.trans k2)
   clear CP CE HF1 HF2 k1 k2 k3 j1 j2 j3 l1 l2 l3 hm19 hMO hS0 hX hY hZ n1 n2 hpm hpp hN h hp HCP bs1 bs2 hex hsh2 hsame hX9 hV
   go_upto_region 23 with (go_at_call 203; (with_reducible refine (HFF.out.1 _ HN.out).mono ?_); rintro e w1 ⟨rfl,hw1⟩; have HB1:=Lib.hid hw1; clear hw1)
   have HN1:=Lib.hid (HN.out.below HB1.out)
   go_upto_region 26 with (go_at_call 203; (with_reducible refine (HFF.out.2 _ HN1.out).mono ?_); rintro e w2 ⟨rfl,hw2⟩; have HB2:=Lib.hid hw2; clear hw2)
   go_wp2_with fail
   go_ret3
   exact ⟨congrArg Ending.returned HV.out.symm,Below.trans HB1.out (HB2.out.mono HB1.out.size)⟩
  ·rw [decide_eq_false hsame] at hfo
   have hnd0:0<x.nd:=Nat.pos_of_ne_zero fun e=>by
    have h1:=hMO.hN
    rw [e,Nat.pow_zero] at h1
    have h2:=hMO.q
    rw [show x.N=0 by omega,Nat.zero_div] at h2
    exact hm0 h2
   obtain ⟨ex0,ex9⟩:=rf_ex h
   have hdx : -60 <= dpX x∧dpX x <= 60:=by
    have a1:=hMO.d0
    have a2:=hMO.d1
    have a3:=hMO.nd
    unfold dpX
    split <;> omega
   have CS:∀ (a:Nat) (W:World),SeW W a 0 0 0 false W -> Calls Tryz.prog 199 #[.pointer (some ⟨a,0,none⟩),.string s] W (SetPost W a x.N x.nd (dpX x+ex) neg):=fun a W hS=>set_any a s neg x rest ex h W hS
   have CF:∀ (a:Nat) (W W':World),B <= a -> EV B W' -> SeW W a x.N x.nd (dpX x+ex) neg W' -> Calls Tryz.prog 200 #[.pointer (some ⟨a,0,none⟩),.pointer (some ⟨11,0,none⟩)] W' fun e w'=>e = .returned (.tuple #[.int .u64 ((sgn neg (min X infX):Nat):Int),.bool (decide (infX <= X))])∧W'.grownBy w' (some a):=fun a W W' hB hEV hS=>by
    obtain ⟨f,s1,s2,s3⟩:=hS
    have hb:=fbits_any B a (val x.N x.nd (dpX x+ex)) x.N x.nd (dpX x+ex) neg W' hEV hB hnd (by omega) (by omega) ⟨f,s1,s2,⟨hnd0,hMO.lo hnd0,hMO.hN⟩,by omega,rfl⟩
    rw [nx_val x.N x.nd (dpX x+ex) (by omega),hX] at hb
    exact hb
   obtain ⟨b,hb⟩:∃ b,decide (infX <= X)=b:=⟨_,rfl⟩
   obtain ⟨G,hG⟩:∃ G,sgn neg (min X infX)=G:=⟨_,rfl⟩
   have hV:atV neg X s.size = .tuple #[.float .f64 G,.int .i64 (s.size:Nat),if b then .iface 160 (.int .i64 1) else .nilIface]:=by
    unfold atV
    rw [hG,<- hb]
    by_cases h:infX <= X
    ·rw [if_pos h,decide_eq_true h,if_pos rfl]
    ·rw [if_neg h,decide_eq_false h,if_neg (by decide)]
   rw [hG,hb] at CF
   have HV:=Lib.hid hV
   have HC:=Lib.hid (And.intro CS CF)
   clear CP CE HF1 HF2 k1 k2 k3 j1 j2 j3 l1 l2 l3 hm19 hMO hS0 hX hY hZ n1 n2 hpm hpp hN h hp HCP bs1 bs2 hsh2 hsame hV CS CF hnd0 hdx ex0 ex9 hb hG
   go_upto_region 23 with (go_at_call 203; (with_reducible refine (HFF.out.1 _ HN.out).mono ?_); rintro e w1 ⟨rfl,hw1⟩; have HB1:=Lib.hid hw1; clear hw1)
   have HN1:=Lib.hid (HN.out.below HB1.out)
   go_upto_region 26 with (go_at_call 203; (with_reducible refine (HFF.out.2 _ HN1.out).mono ?_); rintro e w2 ⟨rfl,hw2⟩; have HB2:=Lib.hid hw2; clear hw2)
   have HN2:=Lib.hid (HN1.out.below HB2.out)
   have HB3:=Lib.hid (Below.trans HB1.out (HB2.out.mono HB1.out.size))
   clear HB1 HB2 HN1
   go_upto_region 28 with (fail)
   refine wp_region_lit ?_
   refine wl_val rfl _ (exec_alloc_dec rfl _ _) ?_
   obtain ⟨a,ha⟩:∃ a,w2.heap.size=a:=⟨_,rfl⟩
   obtain ⟨W3,hW3⟩:∃ W3,w2.alloc (.cells decZ 194)=W3:=⟨_,rfl⟩
   have hS3:=dec_at w2
   have hB3:Below w2.heap.size w2 W3:=by rw [<- hW3]; exact (Below.refl _ _).alloc (Nat.le_refl _) _
   rw [hW3] at hS3 ⊢
   have HN3:=Lib.hid (HN2.out.below hB3)
   have hBa:=HN2.out.lt
   rw [ha] at hS3 hBa hB3 ⊢
   have HB4:=Lib.hid (And.intro (Below.trans HB3.out (hB3.mono (by rw [<- ha]; exact HB3.out.size))) (And.intro hBa (show w.heap.size <= a by rw [<- ha]; exact HB3.out.size)))
   have HS3:=Lib.hid hS3
   clear hS3 hB3 hBa HB3 HN2 hW3
   simp only [Act.put,List.setIfInBounds_toArray,List.set_cons_succ,List.set_cons_zero]
   go_upto_region 31 with (go_at_call 199; (with_reducible refine (HC.out.1 _ _ HS3.out).mono ?_); rintro e w4 ⟨rfl,hw4⟩; have HS4:=Lib.hid hw4; clear hw4)
   obtain ⟨f4,s41,s42,s43⟩:=id HS4.out
   have hBa:=HB4.out.2.1
   have hE4:EV B w4:=HN3.out.ev.grown s43 (fun r e=>by obtain rfl:=Option.some.inj e; exact hBa)
   have HE4:=Lib.hid (And.intro hBa (And.intro hE4 s43))
   clear s41 s42 s43 hBa hE4
   go_upto_region 32 with (go_at_call 200; (with_reducible refine (HC.out.2 _ _ _ HE4.out.1 HE4.out.2.1 HS4.out).mono ?_); rintro e w5 ⟨rfl,hw5⟩; have HS5:=Lib.hid hw5; clear hw5)
   have hfin:Below w.heap.size w w5:=by
    have q1:=HB4.out.1
    have q2:=HB4.out.2.2
    refine (q1.grown HE4.out.2.2 q1.size ?_).grown HS5.out ?_ ?_
    ·intro r e
     obtain rfl:=Option.some.inj e
     exact q2
    ·exact Nat.le_trans q1.size HE4.out.2.2.size
    ·intro r e
     obtain rfl:=Option.some.inj e
     exact q2
   have HFin:=Lib.hid hfin
   clear hfin
   cases b with
   | true =>
    go_wp2_with fail
    go_ret3
    exact ⟨congrArg Ending.returned HV.out.symm,HFin.out⟩
   | false =>
    go_wp2_with fail
    go_ret3
    exact ⟨congrArg Ending.returned HV.out.symm,HFin.out⟩
end Go.Proofs.YtejmbbkklhpnaaaGreatDoor.rdf

/- What decimal.right takes is what strconv's reading takes: plain. -/
namespace Go.Proofs.YtejmbbkklhpnaaaGreatDoor.rdf
open Go.RowKit
open dmx
open fpm
def foldD (l:List UInt8) (y:MS):MS:=l.foldl (fun y c=>dgS c y) y
theorem dgS_keep (c:UInt8) (y:MS):(dgS c y).dot=y.dot∧(dgS c y).sd=true∧(dgS c y).nd <= y.nd+1:=by
 unfold dgS
 split
 ·exact ⟨rfl,rfl,Nat.le_succ _⟩
 ·split <;> exact ⟨rfl,rfl,Nat.le_refl _⟩
theorem fold_keep:∀ (l:List UInt8) (y:MS),(foldD l y).dot=y.dot∧(y.sd=true∨0<l.length -> (foldD l y).sd=true)∧(foldD l y).nd <= y.nd+l.length
 | [],y=>⟨rfl,fun h=>h.elim id (fun h=>absurd h (Nat.lt_irrefl _)),Nat.le_refl _⟩
 | c :: l,y=>by
  obtain ⟨a1,a2,a3⟩:=dgS_keep c y
  obtain ⟨b1,b2,b3⟩:=fold_keep l (dgS c y)
  refine ⟨b1.trans a1,fun _=>b2 (.inl a2),?_⟩
  show (foldD l (dgS c y)).nd <= _
  rw [List.length_cons]
  omega
theorem isD_46 {c:UInt8} (h:isD c=true):¬ c.toNat=46:=fun e=>by
 have:=(isD_iff c).1 h
 omega
theorem ml_dgs:∀ (l:List UInt8) (y:MS),mL l y=mL (l.drop (dgs l)) (foldD (l.take (dgs l)) y)
 | [],y=>rfl
 | c :: l,y=>by
  by_cases h:isD c=true
  ·have e:dgs (c :: l)=dgs l+1:=by
    conv=>lhs; unfold dgs
    rw [if_pos h]
   rw [e,List.drop_succ_cons,List.take_succ_cons]
   conv=>lhs; unfold mL
   rw [if_neg (isD_46 h),if_pos h]
   exact ml_dgs l (dgS c y)
  ·have e:dgs (c :: l)=0:=by
    conv=>lhs; unfold dgs
    rw [if_neg h]
   rw [e]
   rfl
theorem ml_stop (l:List UInt8) (y:MS) (h1:dgs l=0) (h2:l.head? = some 46 -> y.dot=true):mL l y=(y,l):=by
 cases l with
 | nil=>rfl
 | cons c l =>
  have hd:¬ isD c=true:=fun h=>by
   unfold dgs at h1
   rw [if_pos h] at h1
   omega
  unfold mL
  by_cases h46:c.toNat=46
  ·have hc:c=46:=(u8_eq c 46 (by decide)).2 h46
   rw [if_pos h46,if_pos (h2 (by rw [hc]; rfl))]
  ·rw [if_neg h46,if_neg hd]
theorem dgs_drop:∀ l:List UInt8,dgs (l.drop (dgs l))=0
 | []=>rfl
 | c :: l=>by
  by_cases h:isD c=true
  ·have e:dgs (c :: l)=dgs l+1:=by
    conv=>lhs; unfold dgs
    rw [if_pos h]
   rw [e,List.drop_succ_cons]
   exact dgs_drop l
  ·have e:dgs (c :: l)=0:=by
    conv=>lhs; unfold dgs
    rw [if_neg h]
   rw [e]
   exact e
theorem take_len (l:List UInt8):(l.take (dgs l)).length=dgs l:=by
 rw [List.length_take]
 have:=dgs_le l
 omega
theorem ml_cut (l:List UInt8) (hq:1 <= (cutN l).1):∃ x,mL l ms0=(x,(cutN l).2)∧x.sd=true∧x.nd <= (cutN l).1:=by
 obtain ⟨a1,a2,a3⟩:=fold_keep (l.take (dgs l)) ms0
 rw [take_len] at a2 a3
 rw [ml_dgs l ms0]
 unfold cutN at hq ⊢
 by_cases h46:(l.drop (dgs l)).head? = some 46
 ·simp only [if_pos h46] at hq ⊢
  obtain ⟨r,hr⟩:∃ r,l.drop (dgs l)=46 :: r:=by
   cases hl:l.drop (dgs l) with
   | nil=>rw [hl] at h46; cases h46
   | cons c r =>
    rw [hl] at h46
    obtain rfl:c=46:=by simpa using h46
    exact ⟨r,rfl⟩
  rw [hr] at hq ⊢
  rw [List.drop_succ_cons,List.drop_zero] at hq ⊢
  have e:mL (46 :: r) (foldD (l.take (dgs l)) ms0)=mL r (dotS (foldD (l.take (dgs l)) ms0)):=by
   conv=>lhs; unfold mL
   rw [if_pos (by decide),if_neg (by rw [a1]; decide)]
  rw [e,ml_dgs r]
  obtain ⟨b1,b2,b3⟩:=fold_keep (r.take (dgs r)) (dotS (foldD (l.take (dgs l)) ms0))
  rw [take_len] at b2 b3
  refine ⟨_,ml_stop _ _ (dgs_drop r) (fun _=>b1),?_,?_⟩
  ·by_cases h0:0<dgs l
   ·exact b2 (.inl (a2 (.inr h0)))
   ·exact b2 (.inr (by omega))
  ·have:(dotS (foldD (l.take (dgs l)) ms0)).nd=(foldD (l.take (dgs l)) ms0).nd:=rfl
   have h0:ms0.nd=0:=rfl
   omega
 ·simp only [if_neg h46] at hq ⊢
  refine ⟨_,ml_stop _ _ (dgs_drop l) (fun h=>absurd h h46),a2 (.inr (by omega)),?_⟩
  have h0:ms0.nd=0:=rfl
  omega
theorem okc_dig {c:UInt8} (h:isD c=true):okc c=true:=by
 unfold okc
 rw [h]
 simp
theorem all_take:∀ (l:List UInt8),∀ c∈l.take (dgs l),isD c=true
 | [],c,h=>by cases h
 | a :: l,c,h=>by
  by_cases ha:isD a=true
  ·have e:dgs (a :: l)=dgs l+1:=by
    conv=>lhs; unfold dgs
    rw [if_pos ha]
   rw [e,List.take_succ_cons] at h
   rcases List.mem_cons.1 h with rfl | h
   ·exact ha
   ·exact all_take l c h
  ·have e:dgs (a :: l)=0:=by
    conv=>lhs; unfold dgs
    rw [if_neg ha]
   rw [e] at h
   cases h
theorem okc_drop (l:List UInt8) (h:∀ c∈l.drop (dgs l),okc c=true):∀ c∈l,okc c=true:=fun c hc=>by
 rw [<- List.take_append_drop (dgs l) l] at hc
 rcases List.mem_append.1 hc with h1 | h1
 ·exact okc_dig (all_take l c h1)
 ·exact h c h1
theorem okc_cons {c:UInt8} {l:List UInt8} (h1:okc c=true) (h:∀ d∈l,okc d=true):∀ d∈c :: l,okc d=true:=fun d hd=>by
 rcases List.mem_cons.1 hd with rfl | hd
 ·exact h1
 ·exact h d hd
theorem okc_cut (l:List UInt8) (h:∀ c∈(cutN l).2,okc c=true):∀ c∈l,okc c=true:=by
 refine okc_drop l ?_
 unfold cutN at h
 by_cases h46:(l.drop (dgs l)).head? = some 46
 ·simp only [if_pos h46] at h
  cases hl:l.drop (dgs l) with
  | nil=>intro c hc; cases hc
  | cons c r =>
   rw [hl] at h46 h
   obtain rfl:c=46:=by simpa using h46
   rw [List.drop_succ_cons,List.drop_zero] at h
   exact okc_cons (by decide) (okc_drop r h)
 ·simp only [if_neg h46] at h
  exact h
theorem okc_exp (l:List UInt8) (h:expB l=true):∀ c∈l,okc c=true:=by
 cases l with
 | nil=>intro c hc; cases hc
 | cons c l =>
  rw [exp_cons,Bool.and_eq_true,Bool.or_eq_true,beq_iff_eq,beq_iff_eq] at h
  obtain ⟨h1,h2⟩:=h
  simp only [Bool.and_eq_true,decide_eq_true_eq] at h2
  refine okc_cons (by rcases h1 with rfl | rfl <;> decide) ?_
  have hr:∀ d∈exR l,okc d=true:=fun d hd=>okc_dig (dgs_all _ h2.2 d hd)
  unfold exR at hr
  by_cases hs:l.head? = some 43∨l.head? = some 45
  ·rw [if_pos hs] at hr
   cases l with
   | nil=>intro d hd; cases hd
   | cons a l =>
    refine okc_cons ?_ hr
    rcases hs with hs | hs
    ·obtain rfl:a=43:=by simpa using hs
     decide
    ·obtain rfl:a=45:=by simpa using hs
     decide
  ·rw [if_neg hs] at hr
   exact hr
theorem okc_unsg (l:List UInt8) (h:∀ c∈unsg l,okc c=true):∀ c∈l,okc c=true:=by
 unfold unsg at h
 by_cases hs:l.head? = some 45
 ·rw [if_pos hs] at h
  cases l with
  | nil=>intro d hd; cases hd
  | cons a l =>
   obtain rfl:a=45:=by simpa using hs
   exact okc_cons (by decide) h
 ·rw [if_neg hs] at h
  exact h
def sgL (l:List UInt8):Bool:=decide (l.head? = some 45)
def msL (l:List UInt8):MS:=(mL (unsg l) ms0).1
def exL (l:List UInt8):Int:=if (mL (unsg l) ms0).2=[] then 0 else exV ((mL (unsg l) ms0).2.drop 1)
theorem right_rf (s:ByteArray) (h:rightL s.data.toList=true):RfOk s (sgL s.data.toList) (msL s.data.toList) (mL (unsg s.data.toList) ms0).2 (exL s.data.toList)∧(msL s.data.toList).nd <= 30:=by
 obtain ⟨l,hl⟩:∃ l,s.data.toList=l:=⟨_,rfl⟩
 have hlen:l.length=s.size:=by rw [<- hl,list_len]
 rw [hl] at h ⊢
 unfold rightL at h
 by_cases h40:40<l.length
 ·rw [if_pos h40] at h
  cases h
 rw [if_neg h40] at h
 obtain ⟨q,hq⟩:∃ q,cutN (unsg l)=q:=⟨_,rfl⟩
 simp only [hq] at h
 have h1:1 <= q.1∧q.1 <= 30∧(q.2=[]∨expB q.2=true):=by
  by_cases hc:q.1<1∨30<q.1∨q.2=[]
  ·rw [if_pos hc,Bool.and_eq_true,decide_eq_true_eq,decide_eq_true_eq] at h
   refine ⟨h.1,h.2,?_⟩
   rcases hc with hc | hc | hc
   ·omega
   ·omega
   ·exact .inl hc
  ·rw [if_neg hc] at h
   exact ⟨by omega,by omega,.inr h⟩
 obtain ⟨h1a,h1b,h1c⟩:=h1
 obtain ⟨x,m1,m2,m3⟩:=ml_cut (unsg l) (by rw [hq]; exact h1a)
 rw [hq] at m1 m3
 have e1:msL l=x:=by unfold msL; rw [m1]
 have e2:(mL (unsg l) ms0).2=q.2:=by rw [m1]
 have e3:exL l=if q.2=[] then 0 else exV (q.2.drop 1):=by unfold exL; rw [e2]
 have hu:unsg l≠[]:=fun e=>by
  rw [e] at hq
  have:q.1=0:=by rw [<- hq]; rfl
  omega
 have hne:l≠[]:=fun e=>hu (by rw [e]; rfl)
 have hpos:1 <= s.size:=by
  rw [<- hlen]
  exact List.length_pos_iff.2 hne
 have hok:∀ c∈l,okc c=true:=okc_unsg l (okc_cut _ (by
  rw [hq]
  rcases h1c with e | e
  ·rw [e]; intro c hc; cases hc
  ·exact okc_exp _ e))
 have hat:∀ (k:Nat) (hk:k<s.size),l[k]? = some s[k]:=fun k hk=>by
  rw [<- hl,List.getElem?_eq_getElem (by rw [list_len]; exact hk)]
  rfl
 have h0:l.head? = some s[0]:=by rw [List.head?_eq_getElem?]; exact hat 0 hpos
 rw [e1,e2,e3]
 refine ⟨⟨by omega,hpos,fun k hk=>hok _ (List.mem_of_getElem? (hat k hk)),?_,?_,?_,m2,?_,?_⟩,Nat.le_trans m3 h1b⟩
 ·intro h43
  have hc:s[0]=43:=(u8_eq _ 43 (by decide)).2 h43
  rw [hc] at h0
  cases l with
  | nil=>cases h0
  | cons a l =>
   obtain rfl:a=43:=by simpa using h0
   have:q.1=0:=by rw [<- hq]; rfl
   omega
 ·unfold sgL
  rw [h0]
  by_cases h45:(s[0]).toNat=45
  ·rw [decide_eq_true h45,(u8_eq _ 45 (by decide)).2 h45]
   rfl
  ·have hd:decide (some s[0]=some 45)=false:=decide_eq_false (fun h=>h45 ((u8_eq _ 45 (by decide)).1 (Option.some.inj h)))
   rw [decide_eq_false h45,hd]
 ·rw [<- m1]
  congr 1
  rw [hl]
  unfold sgL unsg
  by_cases h45:l.head? = some 45
  ·rw [decide_eq_true h45,if_pos rfl,if_pos h45]
  ·rw [decide_eq_false h45,if_neg (by decide),if_neg h45,List.drop_zero]
 ·intro hn
  have h45:=of_decide_eq_true hn
  unfold unsg at hu
  rw [if_pos h45] at hu
  rw [<- hlen]
  refine Nat.lt_of_not_le fun hle=>hu (List.drop_eq_nil_of_le hle)
 ·by_cases he:q.2=[]
  ·exact .inl ⟨he,if_pos he⟩
  ·rw [if_neg he]
   exact .inr ⟨h1c.resolve_left he,rfl⟩
def decW (l:List UInt8):Nat:=nx (msL l).N (dpX (msL l)+exL l-(msL l).nd)
def decR (l:List UInt8):Nat × Nat:=if rightL l then (if infX <= decW l then (0,10) else if decW l=0 then (0,0) else (dcw.sgn (sgL l) (decW l),0)) else (0,160)
end Go.Proofs.YtejmbbkklhpnaaaGreatDoor.rdf

/- What a laid text of digits says when it is read: the digits times ten to a power. Plain. -/
namespace Go.Proofs.YtejmbbkklhpnaaaGreatDoor.rdf
open Go.RowKit
open dmx
open fpm
def dval (l:List UInt8):Nat:=l.foldl (fun N c=>N*10+(c.toNat-48)) 0
theorem foldN:∀ (l:List UInt8) (N:Nat),l.foldl (fun N c=>N*10+(c.toNat-48)) N=N*10 ^ l.length+dval l
 | [],N=>by simp [dval]
 | c :: l,N=>by
  show l.foldl _ (N*10+(c.toNat-48))=_
  rw [foldN l]
  have h:dval (c :: l)=(0*10+(c.toNat-48))*10 ^ l.length+dval l:=foldN l _
  rw [h,List.length_cons,Nat.pow_succ,Nat.add_mul,Nat.zero_mul,Nat.zero_add,Nat.add_assoc,Nat.mul_assoc,Nat.mul_comm 10]
theorem dval_cons (c:UInt8) (l:List UInt8):dval (c :: l)=(0*10+(c.toNat-48))*10 ^ l.length+dval l:=by
 conv=>lhs; unfold dval
 exact foldN l (0*10+(c.toNat-48))
theorem dval_app (a b:List UInt8):dval (a ++ b)=dval a*10 ^ b.length+dval b:=by
 show (a ++ b).foldl _ 0=_
 rw [List.foldl_append,foldN]
 rfl
def DigL (l:List UInt8):Prop:=∀ c∈l,isD c=true
theorem digL_app {a b:List UInt8} (ha:DigL a) (hb:DigL b):DigL (a ++ b):=fun c hc=>(List.mem_append.1 hc).elim (ha c) (hb c)
theorem digL_zero (z:Nat):DigL (List.replicate z 48):=fun c hc=>by
 rw [List.eq_of_mem_replicate hc]
 decide
theorem dval_zero:∀ z,dval (List.replicate z 48)=0
 | 0=>rfl
 | z+1=>by
  rw [List.replicate_succ]
  rw [dval_cons,dval_zero z]
  simp
theorem dgs_app:∀ (a r:List UInt8),DigL a -> dgs (a ++ r)=a.length+dgs r
 | [],r,_=>by simp
 | c :: a,r,h=>by
  have hc:=h c (by simp)
  show dgs (c :: (a ++ r))=_
  conv=>lhs; unfold dgs
  rw [if_pos hc,dgs_app a r (fun d hd=>h d (by simp [hd])),List.length_cons]
  omega
theorem dgs_no {c:UInt8} {l:List UInt8} (h:isD c=false):dgs (c :: l)=0:=by
 unfold dgs
 rw [h]
 rfl
theorem fold_pos:∀ (l:List UInt8) (y:MS),0<y.nd -> (foldD l y).N=y.N*10 ^ l.length+dval l∧(foldD l y).nd=y.nd+l.length∧(foldD l y).dp=y.dp
 | [],y,h=>by simp [foldD,dval]
 | c :: l,y,h=>by
  have hz:¬ (c.toNat=48∧y.nd=0):=fun e=>by omega
  have e:(dgS c y).N=y.N*10+(c.toNat-48)∧(dgS c y).nd=y.nd+1∧(dgS c y).dp=y.dp:=by
   unfold dgS
   rw [if_neg hz]
   split <;> exact ⟨rfl,rfl,rfl⟩
  obtain ⟨a1,a2,a3⟩:=fold_pos l (dgS c y) (by omega)
  have hd:=dval_cons c l
  refine ⟨?_,?_,?_⟩
  ·show (foldD l (dgS c y)).N=_
   rw [a1,e.1,hd,List.length_cons,Nat.pow_succ,Nat.zero_mul,Nat.zero_add,Nat.add_mul,Nat.add_assoc,Nat.mul_assoc,Nat.mul_comm 10]
  ·show (foldD l (dgS c y)).nd=_
   rw [a2,e.2.1,List.length_cons]
   omega
  ·show (foldD l (dgS c y)).dp=_
   rw [a3,e.2.2]
theorem fold_first (c:UInt8) (l:List UInt8) (y:MS) (hc:c.toNat≠48) (hy:y.nd=0) (hN:y.N=0):(foldD (c :: l) y).N=dval (c :: l)∧(foldD (c :: l) y).nd=l.length+1∧(foldD (c :: l) y).dp=y.dp:=by
 have hz:¬ (c.toNat=48∧y.nd=0):=fun e=>hc e.1
 have e:(dgS c y).N=y.N*10+(c.toNat-48)∧(dgS c y).nd=y.nd+1∧(dgS c y).dp=y.dp:=by
  unfold dgS
  rw [if_neg hz]
  split <;> exact ⟨rfl,rfl,rfl⟩
 obtain ⟨a1,a2,a3⟩:=fold_pos l (dgS c y) (by omega)
 have hd:=dval_cons c l
 refine ⟨?_,?_,?_⟩
 ·show (foldD l (dgS c y)).N=_
  rw [a1,e.1,hN,hd]
 ·show (foldD l (dgS c y)).nd=_
  rw [a2,e.2.1]
  omega
 ·show (foldD l (dgS c y)).dp=_
  rw [a3,e.2.2]
theorem fold_zero:∀ (z:Nat) (y:MS),y.nd=0 -> (foldD (List.replicate z 48) y).N=y.N∧(foldD (List.replicate z 48) y).nd=0∧(foldD (List.replicate z 48) y).dp=y.dp-z∧(foldD (List.replicate z 48) y).dot=y.dot
 | 0,y,h=>⟨rfl,h,by show y.dp=y.dp-((0:Nat):Int); omega,rfl⟩
 | z+1,y,h=>by
  have e:dgS 48 y={ y with sd:=true,dp:=y.dp-1 }:=by
   unfold dgS
   rw [if_pos ⟨by decide,h⟩]
  obtain ⟨a1,a2,a3,a4⟩:=fold_zero z { y with sd:=true,dp:=y.dp-1 } h
  rw [List.replicate_succ]
  have e2:foldD (48 :: List.replicate z 48) y=foldD (List.replicate z 48) { y with sd:=true,dp:=y.dp-1 }:=by
   show foldD (List.replicate z 48) (dgS 48 y)=_
   rw [e]
  rw [e2]
  refine ⟨a1,a2,?_,a4⟩
  rw [a3]
  show y.dp-1-(z:Int)=y.dp-((z+1:Nat):Int)
  omega
theorem foldD_app (a b:List UInt8) (y:MS):foldD (a ++ b) y=foldD b (foldD a y):=List.foldl_append
theorem ml_whole (D:List UInt8) (r:List UInt8) (hD:DigL D) (y:MS) (hr:dgs r=0) (h46:r.head? = some 46 -> (foldD D y).dot=true):mL (D ++ r) y=(foldD D y,r):=by
 rw [ml_dgs,dgs_app D r hD,hr,Nat.add_zero,List.drop_left,List.take_left]
 exact ml_stop r _ hr h46
theorem ml_point (D E r:List UInt8) (hD:DigL D) (hE:DigL E) (y:MS) (hy:y.dot=false) (hr:dgs r=0):mL (D ++ 46 :: (E ++ r)) y=(foldD E (dotS (foldD D y)),r):=by
 have h0:dgs (46 :: (E ++ r))=0:=dgs_no (by decide)
 rw [ml_dgs,dgs_app D _ hD,h0,Nat.add_zero,List.drop_left,List.take_left]
 have hdot:(foldD D y).dot=false:=(fold_keep D y).1.trans hy
 have e:mL (46 :: (E ++ r)) (foldD D y)=mL (E ++ r) (dotS (foldD D y)):=by
  conv=>lhs; unfold mL
  rw [if_pos (by decide),if_neg (by rw [hdot]; decide)]
 rw [e]
 exact ml_whole E r hE _ hr (fun _=>(fold_keep E _).1)
def itB (k:Nat):Bool :=
 let l:=Lib.itoa ((k:Int)-400)
 expB (101 :: l) && decide (exV l=(k:Int)-400) && decide (l.length <= 4)
theorem it_all:(List.range 800).all itB=true:=by decide +kernel
theorem it_ok (k:Int) (h0 : -400 <= k) (h1:k<400):expB (101 :: Lib.itoa k)=true∧exV (Lib.itoa k)=k∧(Lib.itoa k).length <= 4:=by
 have:=List.all_eq_true.1 it_all (k+400).toNat (List.mem_range.2 (by omega))
 unfold itB at this
 rw [show (((k+400).toNat:Nat):Int)-400=k by omega] at this
 simp only [Bool.and_eq_true,decide_eq_true_eq] at this
 exact ⟨this.1.1,this.1.2,this.2⟩
def laidQ (D:List UInt8) (k:Int):List UInt8 :=
 if 1 <= k∧k <= 15 then
  if (D.length:Int) <= k then D ++ Lib.repeatL [48] (k-D.length).toNat
  else D.take k.toNat ++ [46] ++ D.drop k.toNat
 else if -4 <= k∧k <= 0 then [48,46] ++ Lib.repeatL [48] (-k).toNat ++ D
 else (if 1<D.length then D.take 1 ++ [46] ++ D.drop 1 else D) ++ [101] ++ Lib.itoa (k-1)
theorem rep_eq:∀ z,Lib.repeatL [48] z=List.replicate z 48
 | 0=>rfl
 | z+1=>by
  rw [List.replicate_succ,<- rep_eq z]
  rfl
structure SaysQ (t:List UInt8) (N:Nat) (P:Int):Prop where
 rt:rightL t=true
 sg:sgL t=false
 w:decW t=nx N P
 hd:t.head? ≠ some 45
 ln:t.length <= 39
theorem says_mk (t:List UInt8) (x:MS) (rest:List UInt8) (q:Nat) (hl:t.length <= 39) (h45:t.head? ≠ some 45) (hcut:cutN t=(q,rest)) (hq1:1 <= q) (hq30:q <= 30) (hr:rest=[]∨expB rest=true) (hm:mL t ms0=(x,rest)) (N:Nat) (P:Int)
  (hv:nx x.N (dpX x+(if rest=[] then 0 else exV (rest.drop 1))-x.nd)=nx N P):SaysQ t N P:=by
 have hu:unsg t=t:=if_neg h45
 refine ⟨?_,decide_eq_false h45,?_,h45,hl⟩
 ·unfold rightL
  rw [if_neg (by omega),hu]
  simp only [hcut]
  by_cases h0:rest=[]
  ·rw [if_pos (.inr (.inr h0)),decide_eq_true hq1,decide_eq_true hq30]
   rfl
  ·rw [if_neg (fun h=>h.elim (fun h=>absurd h (by omega)) (fun h=>h.elim (fun h=>absurd h (by omega)) h0))]
   exact hr.resolve_left h0
 ·unfold decW msL exL
  rw [hu,hm]
  exact hv
theorem head_dig {D r:List UInt8} (hD:DigL D) (h0:0<D.length):(D ++ r).head? ≠ some 45:=by
 cases D with
 | nil=>exact absurd h0 (Nat.lt_irrefl _)
 | cons c D =>
  intro h
  have hc:=hD c (by simp)
  have:c=45:=by simpa using h
  rw [this] at hc
  exact absurd hc (by decide)
theorem cut_whole (D r:List UInt8) (hD:DigL D) (hr:dgs r=0) (h46:r.head? ≠ some 46):cutN (D ++ r)=(D.length,r):=by
 unfold cutN
 rw [dgs_app D r hD,hr,Nat.add_zero,List.drop_left]
 simp only [if_neg h46]
theorem cut_point (D E r:List UInt8) (hD:DigL D) (hE:DigL E) (hr:dgs r=0):cutN (D ++ 46 :: (E ++ r))=(D.length+E.length,r):=by
 have h0:dgs (46 :: (E ++ r))=0:=dgs_no (by decide)
 unfold cutN
 rw [dgs_app D _ hD,h0,Nat.add_zero,List.drop_left]
 simp only [List.head?_cons,if_true,List.drop_succ_cons,List.drop_zero]
 rw [dgs_app E r hE,hr,Nat.add_zero,List.drop_left]
theorem says_laid (D:List UInt8) (k:Int) (hD:DigL D) (c:UInt8) (D':List UInt8) (hc:D=c :: D') (h48:c.toNat≠48) (hn:D.length <= 20) (hk0 : -390 <= k) (hk1:k <= 390):SaysQ (laidQ D k) (dval D) (k-D.length):=by
 have hn1:1 <= D.length:=by rw [hc]; exact Nat.succ_le_succ (Nat.zero_le _)
 have hf:∀ (E:List UInt8) (y:MS),y.nd=0 -> y.N=0 -> (foldD (D ++ E) y).N=dval (D ++ E)∧(foldD (D ++ E) y).nd=(D ++ E).length∧(foldD (D ++ E) y).dp=y.dp:=fun E y h1 h2=>by
  subst hc
  have:=fold_first c (D' ++ E) y h48 h1 h2
  exact this
 unfold laidQ
 by_cases hA:1 <= k∧k <= 15
 ·rw [if_pos hA]
  by_cases hB:(D.length:Int) <= k
  ·rw [if_pos hB,rep_eq]
   obtain ⟨z,hz⟩:∃ z,(k-(D.length:Int)).toNat=z:=⟨_,rfl⟩
   rw [hz]
   obtain ⟨f1,f2,f3⟩:=hf (List.replicate z 48) ms0 rfl rfl
   have hdl:=digL_app hD (digL_zero z)
   have hlen:(D ++ List.replicate z 48).length=D.length+z:=by rw [List.length_append,List.length_replicate]
   have hm:=ml_whole (D ++ List.replicate z 48) [] hdl ms0 rfl (fun h=>by cases h)
   rw [List.append_nil] at hm
   have hcut:=cut_whole (D ++ List.replicate z 48) [] hdl rfl (by simp)
   rw [List.append_nil] at hcut
   refine says_mk _ _ [] _ (by rw [hlen]; omega) (head_dig hD hn1) hcut (by rw [hlen]; omega) (by rw [hlen]; omega) (.inl rfl) hm _ _ ?_
   have hdot:(foldD (D ++ List.replicate z 48) ms0).dot=false:=(fold_keep _ _).1
   have hdpx:dpX (foldD (D ++ List.replicate z 48) ms0)=((D.length+z:Nat):Int):=by
    unfold dpX
    rw [hdot,if_neg (by decide),f2,hlen]
   rw [if_pos rfl,hdpx,f1,f2,hlen,dval_app,dval_zero,List.length_replicate,Nat.add_zero,nx_shift]
   congr 1
   omega
  ·rw [if_neg hB]
   obtain ⟨z,hz⟩:∃ z:Nat,k=z:=⟨k.toNat,by omega⟩
   subst hz
   rw [Int.toNat_natCast]
   have hT:DigL (D.take z):=fun d hd=>hD d (List.mem_of_mem_take hd)
   have hE:DigL (D.drop z):=fun d hd=>hD d (List.mem_of_mem_drop hd)
   have hlt:(D.take z).length=z:=by rw [List.length_take]; omega
   have hld:(D.drop z).length=D.length-z:=List.length_drop
   have hm:=ml_point (D.take z) (D.drop z) [] hT hE ms0 rfl rfl
   have hcut:=cut_point (D.take z) (D.drop z) [] hT hE rfl
   rw [List.append_nil] at hm hcut
   have e:D.take z ++ [46] ++ D.drop z=D.take z ++ 46 :: D.drop z:=by simp
   rw [e]
   refine says_mk _ _ [] _ (by simp only [List.length_append,List.length_cons,hlt,hld]; omega) (head_dig hT (by omega)) hcut (by rw [hlt]; omega) (by rw [hlt,hld]; omega) (.inl rfl) hm _ _ ?_
   obtain ⟨z',rfl⟩:∃ z',z=z'+1:=⟨z-1,by omega⟩
   have et:D.take (z'+1)=c :: D'.take z':=by rw [hc]; rfl
   obtain ⟨a1,a2,a3⟩:=fold_first c (D'.take z') ms0 h48 rfl rfl
   rw [<- et] at a1 a2 a3
   have hl2:(D'.take z').length=z':=by
    have:=hlt
    rw [et,List.length_cons] at this
    omega
   rw [hl2] at a2
   obtain ⟨b1,b2,b3⟩:=fold_pos (D.drop (z'+1)) (dotS (foldD (D.take (z'+1)) ms0)) (by show 0<(foldD (D.take (z'+1)) ms0).nd; omega)
   have hdot:(foldD (D.drop (z'+1)) (dotS (foldD (D.take (z'+1)) ms0))).dot=true:=(fold_keep _ _).1
   have c1:(dotS (foldD (D.take (z'+1)) ms0)).N=dval (D.take (z'+1)):=a1
   have c2:(dotS (foldD (D.take (z'+1)) ms0)).nd=z'+1:=a2
   have c3:(dotS (foldD (D.take (z'+1)) ms0)).dp=((z'+1:Nat):Int):=by
    show (((foldD (D.take (z'+1)) ms0).nd:Nat):Int)=_
    rw [a2]
   have hval:dval D=dval (D.take (z'+1))*10 ^ (D.drop (z'+1)).length+dval (D.drop (z'+1)):=by rw [<- dval_app,List.take_append_drop]
   rw [if_pos rfl]
   unfold dpX
   rw [hdot,if_pos rfl,b1,b2,b3,c1,c2,c3,<- hval,hld]
   congr 1
   omega
 ·rw [if_neg hA]
  by_cases hC : -4 <= k∧k <= 0
  ·rw [if_pos hC,rep_eq]
   obtain ⟨z,hz⟩:∃ z:Nat,-k=z:=⟨(-k).toNat,by omega⟩
   rw [hz,Int.toNat_natCast]
   have hZ:DigL (List.replicate z 48 ++ D):=digL_app (digL_zero z) hD
   have h1:DigL [48]:=fun c hc=>by
    have:c=48:=by simpa using hc
    rw [this]; decide
   have hlen:(List.replicate z 48 ++ D).length=z+D.length:=by rw [List.length_append,List.length_replicate]
   have hm:=ml_point [48] (List.replicate z 48 ++ D) [] h1 hZ ms0 rfl rfl
   have hcut:=cut_point [48] (List.replicate z 48 ++ D) [] h1 hZ rfl
   rw [List.append_nil] at hm hcut
   have e:[48,46] ++ List.replicate z 48 ++ D=[48] ++ 46 :: (List.replicate z 48 ++ D):=by simp
   rw [e]
   refine says_mk _ _ [] _ (by simp only [List.length_append,List.length_cons,List.length_nil,List.length_replicate]; omega) (by simp) hcut (by simp) (by rw [hlen]; simp; omega) (.inl rfl) hm _ _ ?_
   obtain ⟨a1,a2,a3,a4⟩:=fold_zero 1 ms0 rfl
   have r1:List.replicate 1 (48:UInt8)=[48]:=rfl
   rw [r1] at a1 a2 a3 a4
   have d0:(dotS (foldD [48] ms0)).nd=0:=a2
   have d1:(dotS (foldD [48] ms0)).N=0:=a1
   have d2:(dotS (foldD [48] ms0)).dp=0:=by
    show (((foldD [48] ms0).nd:Nat):Int)=0
    rw [a2]
    rfl
   obtain ⟨b1,b2,b3,b4⟩:=fold_zero z (dotS (foldD [48] ms0)) d0
   obtain ⟨c1,c2,c3⟩:=hf [] (foldD (List.replicate z 48) (dotS (foldD [48] ms0))) b2 (by rw [b1]; exact d1)
   rw [List.append_nil] at c1 c2 c3
   have hdot:(foldD (List.replicate z 48 ++ D) (dotS (foldD [48] ms0))).dot=true:=(fold_keep _ _).1
   rw [if_pos rfl]
   unfold dpX
   rw [hdot,if_pos rfl,foldD_app,c1,c2,c3,b3,d2]
   congr 1
   omega
  ·rw [if_neg hC]
   obtain ⟨i1,i2,i3⟩:=it_ok (k-1) (by omega) (by omega)
   have hr:dgs (101 :: Lib.itoa (k-1))=0:=dgs_no (by decide)
   by_cases hone:1<D.length
   ·rw [if_pos hone]
    have hT:DigL (D.take 1):=fun d hd=>hD d (List.mem_of_mem_take hd)
    have hE:DigL (D.drop 1):=fun d hd=>hD d (List.mem_of_mem_drop hd)
    have hlt:(D.take 1).length=1:=by rw [List.length_take]; omega
    have hld:(D.drop 1).length=D.length-1:=List.length_drop
    have hm:=ml_point (D.take 1) (D.drop 1) (101 :: Lib.itoa (k-1)) hT hE ms0 rfl hr
    have hcut:=cut_point (D.take 1) (D.drop 1) (101 :: Lib.itoa (k-1)) hT hE hr
    have e:D.take 1 ++ [46] ++ D.drop 1 ++ [101] ++ Lib.itoa (k-1)=D.take 1 ++ 46 :: (D.drop 1 ++ 101 :: Lib.itoa (k-1)):=by simp
    rw [e]
    refine says_mk _ _ _ _ (by simp only [List.length_append,List.length_cons,hlt,hld]; omega) (head_dig hT (by omega)) hcut (by rw [hlt]; omega) (by rw [hlt,hld]; omega) (.inr i1) hm _ _ ?_
    have et:D.take 1=[c]:=by rw [hc]; rfl
    obtain ⟨a1,a2,a3⟩:=fold_first c [] ms0 h48 rfl rfl
    rw [<- et] at a1 a2 a3
    obtain ⟨b1,b2,b3⟩:=fold_pos (D.drop 1) (dotS (foldD (D.take 1) ms0)) (by show 0<(foldD (D.take 1) ms0).nd; rw [a2]; decide)
    have hdot:(foldD (D.drop 1) (dotS (foldD (D.take 1) ms0))).dot=true:=(fold_keep _ _).1
    have c1:(dotS (foldD (D.take 1) ms0)).N=dval (D.take 1):=a1
    have c2:(dotS (foldD (D.take 1) ms0)).nd=1:=a2
    have c3:(dotS (foldD (D.take 1) ms0)).dp=1:=by
     show (((foldD (D.take 1) ms0).nd:Nat):Int)=_
     rw [a2]
     rfl
    have hval:dval D=dval (D.take 1)*10 ^ (D.drop 1).length+dval (D.drop 1):=by rw [<- dval_app,List.take_append_drop]
    rw [if_neg (by simp),List.drop_succ_cons,List.drop_zero,i2]
    unfold dpX
    rw [hdot,if_pos rfl,b1,b2,b3,c1,c2,c3,<- hval,hld]
    congr 1
    omega
   ·rw [if_neg hone]
    have hm:=ml_whole D (101 :: Lib.itoa (k-1)) hD ms0 hr (fun h=>absurd h (by simp))
    have hcut:=cut_whole D (101 :: Lib.itoa (k-1)) hD hr (by simp)
    have e:D ++ [101] ++ Lib.itoa (k-1)=D ++ 101 :: Lib.itoa (k-1):=by simp
    rw [e]
    refine says_mk _ _ _ _ (by simp only [List.length_append,List.length_cons]; omega) (head_dig hD hn1) hcut hn1 (by omega) (.inr i1) hm _ _ ?_
    obtain ⟨f1,f2,f3⟩:=hf [] ms0 rfl rfl
    rw [List.append_nil] at f1 f2 f3
    have hdot:(foldD D ms0).dot=false:=(fold_keep _ _).1
    rw [if_neg (by simp),List.drop_succ_cons,List.drop_zero,i2]
    unfold dpX
    rw [hdot,if_neg (by decide),f1,f2]
    congr 1
    omega
theorem says_neg {t:List UInt8} {N:Nat} {P:Int} (h:SaysQ t N P):rightL (45 :: t)=true∧sgL (45 :: t)=true∧decW (45 :: t)=nx N P:=by
 have hu:unsg t=t:=if_neg h.hd
 have hu2:unsg (45 :: t)=t:=if_pos (by rfl)
 have hr:=h.rt
 have hl:=h.ln
 refine ⟨?_,decide_eq_true rfl,?_⟩
 ·unfold rightL at hr ⊢
  rw [if_neg (by omega),hu] at hr
  rw [if_neg (by rw [List.length_cons]; omega),hu2]
  exact hr
 ·have hw:=h.w
  unfold decW msL exL at hw ⊢
  rw [hu] at hw
  rw [hu2]
  exact hw
theorem says_r {t:List UInt8} {N X:Nat} {P:Int} (h:SaysQ t N P) (hX:nx N P=X) (h0:0<X) (h1:X<infX):decR t=(X,0)∧decR (45 :: t)=(9223372036854775808+X,0):=by
 obtain ⟨n1,n2,n3⟩:=says_neg h
 unfold decR
 rw [if_pos h.rt,if_pos n1,h.w,n3,hX,if_neg (by omega),if_neg (by omega),if_neg (by omega),if_neg (by omega),h.sg,n2]
 exact ⟨rfl,rfl⟩
end Go.Proofs.YtejmbbkklhpnaaaGreatDoor.rdf

/- Reading what was printed: it is the number; with its last digit cut it is another one. Plain. -/
namespace Go.Proofs.YtejmbbkklhpnaaaGreatDoor.rdf
open Go.RowKit
open dmx
open fpm
open prnw
open flatm
open nodew
theorem decA_fold:∀ (l:List UInt8) (v:Nat),decA v l=l.foldl (fun N c=>N*10+(c.toNat-48)) v
 | [],_=>rfl
 | b :: r,v=>by
  show decA (10*v+(b.toNat-48)) r=r.foldl (fun N c=>N*10+(c.toNat-48)) (v*10+(b.toNat-48))
  rw [decA_fold r,Nat.mul_comm 10]
theorem dec_dval (l:List UInt8):decV l=dval l:=decA_fold l 0
theorem digL_sd (u:Nat):DigL (sdH u :: sdL u):=fun b hb=>(isD_iff b).2 (sd_dg u b hb)
theorem trim_last (u:Nat):∀ n,0<trimTo u n -> Lib.dg u (Lib.nDigits u-trimTo u n)≠48
 | 0,h=>absurd h (Nat.lt_irrefl _)
 | n+1,h=>by
  by_cases hc:Lib.dg u (Lib.nDigits u-1-n)=48
  ·have e:trimTo u (n+1)=trimTo u n:=if_pos hc
   rw [e] at h ⊢
   exact trim_last u n h
  ·have e:trimTo u (n+1)=n+1:=if_neg hc
   rw [e,show Lib.nDigits u-(n+1)=Lib.nDigits u-1-n by omega]
   exact hc
theorem sd_list (u:Nat) (h:1 <= u):sdH u :: sdL u=(List.range (trimTo u (Lib.nDigits u))).map fun t=>Lib.dg u (Lib.nDigits u-1-t):=by
 have hl:=sdL_len u h
 obtain ⟨T,hT⟩:∃ T,trimTo u (Lib.nDigits u)=T+1:=⟨(sdL u).length,hl.symm⟩
 rw [hT,List.range_succ_eq_map,List.map_cons,List.map_map]
 unfold sdH sdL
 rw [hT]
 rfl
theorem sd_last (u:Nat) (h:1 <= u):∃ (D':List UInt8) (z:UInt8),sdH u :: sdL u=D' ++ [z]∧z≠48:=by
 have hl:=sdL_len u h
 obtain ⟨T,hT⟩:∃ T,trimTo u (Lib.nDigits u)=T+1:=⟨(sdL u).length,hl.symm⟩
 refine ⟨(List.range T).map (fun t=>Lib.dg u (Lib.nDigits u-1-t)),Lib.dg u (Lib.nDigits u-1-T),?_,?_⟩
 ·rw [sd_list u h,hT,List.range_succ,List.map_append]
  rfl
 ·have:=trim_last u (Lib.nDigits u) (by omega)
  rw [hT] at this
  rw [show Lib.nDigits u-1-T=Lib.nDigits u-(T+1) by omega]
  exact this
theorem nd_low (u:Nat) (h:1 <= u):10 ^ (Lib.nDigits u-1) <= u:=by
 induction u using Nat.strongRecOn with
 | _ u ih =>
  by_cases h9:u<10
  ·rw [Lib.nDigits_small h9]
   exact h
  ·have:=ih (u / 10) (by omega) (by omega)
   have hp:=Lib.nDigits_pos (u / 10)
   rw [Lib.nDigits_big h9,show Lib.nDigits (u / 10)+1-1=(Lib.nDigits (u / 10)-1)+1 by omega,Nat.pow_succ]
   omega
theorem nd_17 (u:Nat) (h0:1 <= u) (h:u<100000000000000000):Lib.nDigits u <= 17:=by
 apply Nat.le_of_not_lt
 intro hn
 have h1:=nd_low u h0
 have h2:=Nat.pow_le_pow_right (show 0<10 by decide) (show 17 <= Lib.nDigits u-1 by omega)
 have h3:(10:Nat) ^ 17=100000000000000000:=by decide
 omega
theorem sd_first (u:Nat) (h:1 <= u):(sdH u).toNat≠48:=by
 have h1:=dg_val u (Lib.nDigits u-1)
 have h2:=nd_low u h
 have h3:=Lib.lt_pow_nDigits u
 have h4:=Lib.nDigits_pos u
 rw [show Lib.nDigits u=(Lib.nDigits u-1)+1 by omega,Nat.pow_succ] at h3
 have h5:1 <= u / 10 ^ (Lib.nDigits u-1):=(Nat.one_le_div_iff (Nat.pow_pos (by decide))).2 h2
 have h6:u / 10 ^ (Lib.nDigits u-1)<10:=Nat.div_lt_of_lt_mul h3
 rw [Nat.mod_eq_of_lt h6] at h1
 unfold sdH
 omega
theorem ft_says (X:Nat) (hX0:0<X) (hX:X<9218868437227405312):∃ (k:Nat) (P:Int),nx k (-P)=X∧k<100000000000000000 ∧
  (ftR hiP loP X=((k:Int),-P) ∨ ∃ k':Nat,k=k'*10∧ftR hiP loP X=((k':Int),-(P-1))) ∧ ∀ j:Nat,nx (10*j) (-P)=X -> ftR hiP loP X=((j:Int),-(P-1)):=by
 obtain ⟨r1,r2,r3,r4,r5⟩:=ft_range X hX0 hX
 obtain ⟨S,hS⟩:∃ S,S=64-Lib.bitLen (ftM X):=⟨_,rfl⟩
 obtain ⟨k,P,p1,p2,p3,i1,i2,i3,i4,i5⟩:=sf_all (ftM X) S (ftE X-52) r1 r2 r3 r4 r5 hS
 have hR:ftR hiP loP X=sfR hiT loT ((ftM X*2 ^ S:Nat):Int) (ftE X-52-S):=by
  unfold ftR
  rw [<- hS,show ftE X-(S:Int)-52=ftE X-52-S by omega]
  rfl
 rw [<- hR] at p3 i5
 rw [ftM_odd] at i3 i5
 have hx:∀ K,nx K (-P)=nearX (K*10 ^ (-P).toNat) (10 ^ P.toNat):=fun K=>by
  unfold nx
  rw [Int.neg_neg]
 have hu:unB=fpm.upB:=rfl
 have sw:∀ K,K*10 ^ (-P).toNat*2 ^ unB=K*2 ^ fpm.upB*10 ^ (-P).toNat:=fun K=>by
  rw [hu]
  exact Nat.mul_right_comm _ _ _
 have hp10:0<10 ^ P.toNat:=Nat.pow_pos (by decide)
 refine ⟨k,P,?_,i4,p3,fun j hj => ?_⟩
 ·rw [hx]
  refine (near_eq hp10 ⟨?_,?_,fun h => ?_⟩).symm
  ·rw [sw]
   exact i1
  ·rw [sw]
   exact i2
  ·rw [sw]
   exact i3 h
 ·rw [hx] at hj
  have h:=near_of (10*j*10 ^ (-P).toNat) (10 ^ P.toNat) hp10
  rw [hj] at h
  obtain ⟨n1,n2,n3⟩:=h
  rw [sw] at n1 n2 n3
  exact i5 j n1 n2 n3
theorem pos_all (X:Nat) (hX0:0<X) (hX:X<9218868437227405312):(posD hiP loP X).length <= 17∧nx (dval (posD hiP loP X)) (posK hiP loP X-(posD hiP loP X).length)=X ∧
  ∃ (D':List UInt8) (z:UInt8),posD hiP loP X=D' ++ [z]∧z≠48∧nx (dval D') (posK hiP loP X-D'.length)≠X:=by
 obtain ⟨k,P,s1,s2,s3,s4⟩:=ft_says X hX0 hX
 obtain ⟨b1,b2,b3,b4⟩:=ft_bd hiP loP X hX0 hX hh_T
 obtain ⟨u,hu⟩:∃ u,(ftR hiP loP X).1.toNat=u:=⟨_,rfl⟩
 obtain ⟨e,he⟩:∃ e,(ftR hiP loP X).2=e:=⟨_,rfl⟩
 have hD:posD hiP loP X=sdH u :: sdL u:=by unfold posD; rw [hu]
 have hK:posK hiP loP X=(Lib.nDigits u:Nat)+e:=by unfold posK; rw [hu,he]
 rw [hu] at b1
 obtain ⟨d1,d2⟩:=dec_sd u b1
 obtain ⟨D',z,l1,l2⟩:=sd_last u b1
 have hdg:=digL_sd u
 rw [hD,hK]
 obtain ⟨D,hDD⟩:∃ D,sdH u :: sdL u=D:=⟨_,rfl⟩
 rw [hDD] at d1 d2 l1 hdg ⊢
 rw [dec_dval] at d1
 obtain ⟨t,ht⟩:∃ t,t=Lib.nDigits u-D.length:=⟨_,rfl⟩
 rw [<- ht] at d1
 have hue:nx u e=X∧u<100000000000000000:=by
  rcases s3 with h | ⟨k',h1,h2⟩
  ·rw [h] at hu he
   have hu':k=u:=by
    have:((k:Int)).toNat=u:=hu
    omega
   have he' : -P=e:=he
   rw [<- hu',<- he']
   exact ⟨s1,s2⟩
  ·rw [h2] at hu he
   have hu':k'=u:=by
    have:((k':Int)).toNat=u:=hu
    omega
   have he' : -(P-1)=e:=he
   rw [<- hu',<- he']
   refine ⟨?_,by omega⟩
   have:=nx_shift k' 1 (-P)
   rw [Nat.pow_one,<- h1,s1] at this
   rw [this,show -P+((1:Nat):Int) = -(P-1) by omega]
 obtain ⟨hue,hu17⟩:=hue
 have hn17:=nd_17 u b1 hu17
 refine ⟨by omega,?_,D',z,l1,l2,fun hbad => ?_⟩
 ·have:=nx_shift (dval D) t e
  rw [<- d1,hue] at this
  rw [this,show ((Lib.nDigits u:Nat):Int)+e-D.length=e+(t:Int) by omega]
 ·have hlen:D.length=D'.length+1:=by rw [l1,List.length_append]; rfl
  have hz:=hdg z (by rw [l1]; simp)
  have hz2:=(isD_iff z).1 hz
  have hz48:z.toNat≠48:=fun h=>l2 ((u8_eq z 48 (by decide)).2 h)
  have hdv:dval D=dval D'*10+(z.toNat-48):=by
   rw [l1,dval_app,dval_cons]
   show _=_
   simp [dval]
  rw [show ((Lib.nDigits u:Nat):Int)+e-D'.length=e+(t+1:Nat) by omega] at hbad
  rw [<- nx_shift] at hbad
  rcases s3 with h | ⟨k',h1,h2⟩
  ·rw [h] at he
   have he' : -P=e:=he
   rw [<- he',Nat.pow_succ,<- Nat.mul_assoc,Nat.mul_comm _ 10] at hbad
   have:=s4 _ hbad
   rw [h] at this
   have h9:=(Prod.mk.inj this).2
   omega
  ·rw [h2] at he hu
   have he' : -(P-1)=e:=he
   have hu':k'=u:=by
    have:((k':Int)).toNat=u:=hu
    omega
   rw [<- he',show -(P-1) = -P+((1:Nat):Int) by omega,<- nx_shift,Nat.pow_one,Nat.mul_comm _ 10] at hbad
   have:=s4 _ hbad
   rw [h2] at this
   have h9:=(Prod.mk.inj this).1
   have h10:u=dval D'*10 ^ (t+1):=by rw [<- hu']; exact Int.ofNat.inj h9
   rw [h10,Nat.pow_succ,Nat.mul_comm (10 ^ t),<- Nat.mul_assoc] at d1
   have h11:=Nat.eq_of_mul_eq_mul_right (Nat.pow_pos (by decide)) d1
   omega
theorem pos_first (X:Nat) (hX0:0<X) (hX:X<9218868437227405312):DigL (posD hiP loP X)∧(sdH (ftR hiP loP X).1.toNat).toNat≠48 :=
 ⟨digL_sd _,sd_first _ (ft_bd hiP loP X hX0 hX hh_T).1⟩
theorem pos_says (X:Nat) (hX0:0<X) (hX:X<9218868437227405312):SaysQ (posT hiP loP X) (dval (posD hiP loP X)) (posK hiP loP X-(posD hiP loP X).length):=by
 obtain ⟨p1,p2,p3,p4⟩:=pos_bd hiP loP X hX0 hX hh_T
 obtain ⟨f1,f2⟩:=pos_first X hX0 hX
 exact says_laid (posD hiP loP X) (posK hiP loP X) f1 _ _ rfl f2 p2 (by omega) (by omega)
theorem read_pos (X:Nat) (hX0:0<X) (hX:X<9218868437227405312):decR (posT hiP loP X)=(X,0)∧decR (45 :: posT hiP loP X)=(9223372036854775808+X,0) :=
 says_r (pos_says X hX0 hX) (pos_all X hX0 hX).2.1 hX0 hX
theorem read_0:decR [48]=(0,0):=by decide +kernel
theorem read_prT (x:Nat) (hx:x<18446744073709551616) (h:prOk x=true):decR (prT hiP loP x)=(x,0):=by
 have hr:rightF x=true:=by
  unfold prOk at h
  rw [Bool.and_eq_true] at h
  exact h.1
 obtain ⟨f1,f2⟩:=right_word hx hr
 unfold prT
 rw [if_pos h]
 by_cases h0:x=0
 ·rw [if_pos h0,h0]
  exact read_0
 ·rw [if_neg h0]
  by_cases hn:9223372036854775808 <= x
  ·rw [if_pos hn,(read_pos _ (by omega) (by omega)).2,show 9223372036854775808+(x-9223372036854775808)=x by omega]
  ·rw [if_neg hn]
   exact (read_pos _ (by omega) (by omega)).1
end Go.Proofs.YtejmbbkklhpnaaaGreatDoor.rdf

/- The plain mathematics of layer 15, outright: a text without an error is cut into chunks; blanks and remarks change nothing but places. No program in sight. -/
namespace Go.Proofs.YtejmbbkklhpnaaaGreatDoor.lexm
def flat:List (Nat × List UInt8) -> List UInt8
 | []=>[]
 | x :: cs=>x.2 ++ flat cs
def OkC:List (Nat × List UInt8) -> List UInt8 -> Prop
 | [],_=>True
 | x :: cs,R=>x.2≠[]∧firstL (x.2 ++ (flat cs ++ R))=(x.1,x.2.length,true)∧OkC cs R
def toksC:List (Nat × List UInt8) -> Nat -> List Tok
 | [],_=>[]
 | x :: cs,i=>if x.1=0 then toksC cs (i+x.2.length) else ⟨x.1,i,x.2⟩ :: toksC cs (i+x.2.length)
def lastC:List (Nat × List UInt8) -> Nat -> Nat
 | [],kl=>kl
 | x :: cs,kl=>lastC cs (if x.1=0 then kl else x.1)
theorem lexT_chunks (cs:List (Nat × List UInt8)) (R:List UInt8) (i kl:Nat) (h:OkC cs R) :
  lexT (flat cs ++ R) i kl=(toksC cs i).map (fun t=>(t,true)) ++ lexT R (i+(flat cs).length) (lastC cs kl):=by
 induction cs generalizing i kl with
 | nil=>simp [flat,toksC,lastC]
 | cons x cs ih =>
  obtain ⟨k,c⟩:=x
  obtain ⟨h1,h2,h3⟩:=h
  simp only [flat,toksC,lastC] at *
  have hne:c ++ flat cs ++ R≠[]:=by simp [h1]
  rw [<- List.append_assoc] at h2
  have hd:(c ++ flat cs ++ R).drop c.length=flat cs ++ R:=by rw [List.append_assoc,List.drop_left]
  have ht:(c ++ flat cs ++ R).take c.length=c:=by rw [List.append_assoc,List.take_left]
  by_cases hk:k=0
  ·subst hk
   rw [lexT_skip hne h2,hd,if_pos rfl,if_pos rfl,ih _ _ h3,List.length_append,Nat.add_assoc]
  ·rw [lexT_tok hne h2 hk,hd,ht,if_neg hk,if_neg hk,ih _ _ h3,List.length_append,Nat.add_assoc]
   rfl
theorem errOf_chunks (ts:List Tok) (i kl:Nat):errOf (ts.map (fun t=>(t,true)) ++ lexT [] i kl)=none:=by
 rw [errOf_app,lexT_nil]
 split <;> rfl
theorem lexRes_chunks (cs:List (Nat × List UInt8)) (h:OkC cs []) (hl:(flat cs).length <= 1048576) :
  lexRes (flat cs)=(toksC cs 0 ++ (if lastC cs 4=4 then [] else [⟨4,(flat cs).length,[]⟩]),0,0):=by
 have hx:=lexT_chunks cs [] 0 4 h
 rw [List.append_nil,Nat.zero_add] at hx
 unfold lexRes
 rw [if_neg (by omega),hx,errOf_chunks,toksOf_app,lexT_nil]
 by_cases h4:lastC cs 4=4
 ·simp [h4,toksOf]
 ·simp [h4,toksOf]
def numS (a:Int):Bool:=digI a || a == 45 || a == 46
theorem sep_facts {a:Int} (h:a=32∨a=10∨a=61∨a=35):ltrI a=false∧numS a=false∧namI a=false∧numI a=false:=by
 rcases h with rfl | rfl | rfl | rfl <;> decide
theorem flat_app (cs ds:List (Nat × List UInt8)):flat (cs ++ ds)=flat cs ++ flat ds:=by
 induction cs with
 | nil=>rfl
 | cons x cs ih=>simp [flat,ih]
theorem toksC_app (cs ds:List (Nat × List UInt8)) (i:Nat):toksC (cs ++ ds) i=toksC cs i ++ toksC ds (i+(flat cs).length):=by
 induction cs generalizing i with
 | nil=>simp [toksC,flat]
 | cons x cs ih =>
  simp only [List.cons_append,toksC,flat,List.length_append]
  rw [ih,Nat.add_assoc]
  split <;> rfl
theorem lastC_app (cs ds:List (Nat × List UInt8)) (kl:Nat):lastC (cs ++ ds) kl=lastC ds (lastC cs kl):=by
 induction cs generalizing kl with
 | nil=>rfl
 | cons x cs ih=>simp only [List.cons_append,lastC]; exact ih _
theorem OkC_app (cs ds:List (Nat × List UInt8)) (R:List UInt8):OkC (cs ++ ds) R↔OkC cs (flat ds ++ R)∧OkC ds R:=by
 induction cs with
 | nil=>simp [OkC]
 | cons x cs ih =>
  simp only [List.cons_append,OkC,flat_app,List.append_assoc]
  rw [ih,and_assoc,and_assoc]
def key (t:Tok):Nat × List UInt8:=(t.kind,if t.kind=4 then [] else t.text)
theorem runL_all (p:Int -> Bool) (c X:List UInt8) (h:∀ x,x∈c -> p x.toNat=true) (hX:runL p X=0):runL p (c ++ X)=c.length:=by
 induction c with
 | nil=>simpa using hX
 | cons a c ih =>
  rw [List.cons_append,runL_pos (h a (by simp)),ih (fun x hx=>h x (by simp [hx])),List.length_cons]
end Go.Proofs.YtejmbbkklhpnaaaGreatDoor.lexm

/- What a printed text says when it is lexed: the tokens of its lines. Plain; no condition but those stated. -/
namespace Go.Proofs.YtejmbbkklhpnaaaGreatDoor.bkm
open Go.RowKit
open lexm (Tok firstL runL runL_all runL_neg ltrI digI namI numI remI sep_facts OkC toksC lastC OkC_app toksC_app lastC_app lexRes lexRes_chunks flat_app)
open nodew
open prnw
open fpm
open flatm
structure Pc (k:Nat) (t:List UInt8):Prop where
 kd:k≠0∧k≠4
 ne:t≠[]
 len:t.length <= 40
 rd:∀ (b:UInt8) (X:List UInt8),(b=32∨b=10) -> firstL (t ++ b :: X)=(k,t.length,true)
theorem word_first:∀ n:Fin 256,ltrI n.val=true -> n.val≠32∧n.val≠35∧n.val≠10∧n.val≠61:=by decide +kernel
theorem num_first:∀ n:Fin 256,(digI n.val || (n.val:Int) == 45 || (n.val:Int) == 46)=true -> n.val≠32∧n.val≠35∧n.val≠10∧n.val≠61∧ltrI n.val=false:=by decide +kernel
theorem word_f (c:UInt8) (h:ltrI c.toNat=true):c.toNat≠32∧c.toNat≠35∧c.toNat≠10∧c.toNat≠61:=word_first ⟨c.toNat,c.toNat_lt⟩ h
theorem num_f (c:UInt8) (h:(digI c.toNat || (c.toNat:Int) == 45 || (c.toNat:Int) == 46)=true):c.toNat≠32∧c.toNat≠35∧c.toNat≠10∧c.toNat≠61∧ltrI c.toNat=false:=num_first ⟨c.toNat,c.toNat_lt⟩ h
theorem pc_word (c:UInt8) (r:List UInt8) (hc:ltrI c.toNat=true) (hr:∀ x,x∈c :: r -> namI x.toNat=true) (hl:(c :: r).length <= 32):Pc 1 (c :: r):=by
 refine ⟨by decide,by simp,by omega,fun b X hb => ?_⟩
 obtain ⟨n1,n2,n3,n4⟩:=word_f c hc
 have hb':namI b.toNat=false:=by
  rcases hb with rfl | rfl
  ·exact (sep_facts (a:=32) (.inl rfl)).2.2.1
  ·exact (sep_facts (a:=10) (.inr (.inl rfl))).2.2.1
 have hrun:runL namI (c :: (r ++ b :: X))=(c :: r).length:=runL_all namI (c :: r) (b :: X) hr (runL_neg hb')
 show firstL (c :: (r ++ b :: X))=_
 simp only [firstL]
 rw [if_neg n1,if_neg n2,if_neg n3,if_neg n4,if_pos hc,hrun,decide_eq_true hl]
theorem pc_num (c:UInt8) (r:List UInt8) (hc:(digI c.toNat || (c.toNat:Int) == 45 || (c.toNat:Int) == 46)=true) (hr:∀ x,x∈c :: r -> numI x.toNat=true) (hl:(c :: r).length <= 40):Pc 2 (c :: r):=by
 refine ⟨by decide,by simp,hl,fun b X hb => ?_⟩
 obtain ⟨n1,n2,n3,n4,n5⟩:=num_f c hc
 have hb':numI b.toNat=false:=by
  rcases hb with rfl | rfl
  ·exact (sep_facts (a:=32) (.inl rfl)).2.2.2
  ·exact (sep_facts (a:=10) (.inr (.inl rfl))).2.2.2
 have hrun:runL numI (c :: (r ++ b :: X))=(c :: r).length:=runL_all numI (c :: r) (b :: X) hr (runL_neg hb')
 show firstL (c :: (r ++ b :: X))=_
 simp only [firstL]
 rw [if_neg n1,if_neg n2,if_neg n3,if_neg n4,if_neg (show ¬ ltrI c.toNat=true by rw [n5]; decide),if_pos hc,hrun,decide_eq_true hl]
theorem pc_eq:Pc 3 [61]:=⟨by decide,by simp,by decide,fun b X _=>by simp [firstL]⟩
theorem dig_nam:∀ n:Fin 256,48 <= n.val -> n.val <= 57 -> namI n.val=true∧numI n.val=true∧digI n.val=true:=by decide +kernel
theorem dig_f (c:UInt8) (h:48 <= c.toNat) (h2:c.toNat <= 57):namI c.toNat=true∧numI c.toNat=true∧digI c.toNat=true:=dig_nam ⟨c.toNat,c.toNat_lt⟩ h h2
theorem pc_name (k:Int) (h0:0 <= k) (h1:k<4096):Pc 1 (110 :: Lib.itoa k):=by
 unfold Lib.itoa
 rw [if_neg (by omega)]
 refine pc_word 110 _ (by decide) (fun x hx => ?_) ?_
 ·rcases List.mem_cons.1 hx with rfl | hx
  ·decide
  ·rw [Lib.decDigits_eq] at hx
   obtain ⟨t,_,rfl⟩:=List.mem_map.1 hx
   have:=dg_digit k.toNat (Lib.nDigits k.toNat-1-t)
   exact (dig_f _ this.1 this.2).1
 ·rw [List.length_cons,Lib.decDigits_length]
  have h5:Lib.nDigits k.toNat <= 31:=by
   have h3:=Lib.nDigits_le20 k.toNat (by omega)
   omega
  omega
theorem pc_kind:∀ k,1 <= k -> k <= 6 -> Pc 1 (wordF k).data.toList:=by
 intro k h1 h2
 have:k=1∨k=2∨k=3∨k=4∨k=5∨k=6:=by omega
 rcases this with rfl | rfl | rfl | rfl | rfl | rfl <;> exact pc_word _ _ (by decide) (by decide) (by decide)
theorem u8n {c:UInt8} (h:c=46∨c=101∨c=45∨(48 <= c.toNat∧c.toNat <= 57)):numI c.toNat=true:=by
 rcases h with rfl | rfl | rfl | h
 ·decide
 ·decide
 ·decide
 ·exact (dig_f c h.1 h.2).2.1
def NumB (l:List UInt8):Prop:=∀ x,x∈l -> numI x.toNat=true
theorem NumB.app {l r:List UInt8} (h:NumB l) (k:NumB r):NumB (l ++ r):=fun b hb=>(List.mem_append.1 hb).elim (h b) (k b)
theorem NumB.sub {l r:List UInt8} (h:NumB l) (hs:∀ b∈r,b∈l):NumB r:=fun b hb=>h b (hs b hb)
theorem numb_dec (u:Nat):NumB (Lib.decDigits u):=fun b hb=>by
 rw [Lib.decDigits_eq] at hb
 obtain ⟨t,_,rfl⟩:=List.mem_map.1 hb
 exact u8n (.inr (.inr (.inr (dg_digit u _))))
theorem numb_itoa (k:Int):NumB (Lib.itoa k):=by
 unfold Lib.itoa
 split
 ·intro b hb
  rcases List.mem_cons.1 hb with rfl | hb
  ·decide
  ·exact numb_dec _ b hb
 ·exact numb_dec _
theorem numb_rep:∀ n,NumB (Lib.repeatL [48] n)
 | 0=>fun _ h=>by cases h
 | n+1=>NumB.app (l:=[48]) (fun b hb=>by rw [List.mem_singleton.1 hb]; decide) (numb_rep n)
theorem numb_one (c:UInt8) (h:c=46∨c=101):NumB [c]:=fun b hb=>by
 rw [List.mem_singleton.1 hb]
 exact u8n (h.elim .inl fun h => .inr (.inl h))
theorem posT_facts (X:Nat) (hX0:0<X) (hX:X<9218868437227405312):NumB (posT hiP loP X)∧(posT hiP loP X).length <= 30 ∧ ∃ c r,posT hiP loP X=c :: r∧48 <= c.toNat∧c.toNat <= 57:=by
 obtain ⟨p1,p2,p3,p4⟩:=pos_bd hiP loP X hX0 hX hh_T
 have n17:=(rdf.pos_all X hX0 hX).1
 have hDs:∀ b∈posD hiP loP X,48 <= b.toNat∧b.toNat <= 57:=fun b hb=>sd_dg _ b hb
 have hD:NumB (posD hiP loP X):=fun b hb=>u8n (.inr (.inr (.inr (hDs b hb))))
 obtain ⟨c,D1,hcD⟩:∃ c D1,posD hiP loP X=c :: D1:=⟨_,_,rfl⟩
 have hc:=hDs c (by rw [hcD]; simp)
 obtain ⟨k,hk⟩:∃ k,posK hiP loP X=k:=⟨_,rfl⟩
 unfold posT
 rw [hk] at p3 p4 ⊢
 obtain ⟨D,hDD⟩:∃ D,posD hiP loP X=D:=⟨_,rfl⟩
 rw [hDD] at hD hcD n17 p1 ⊢
 unfold laidT
 by_cases c1:1 <= k∧k <= 15
 ·rw [if_pos c1]
  by_cases c2:(D.length:Int) <= k
  ·rw [if_pos c2]
   refine ⟨hD.app (numb_rep _),?_,c,D1 ++ Lib.repeatL [48] (k-D.length).toNat,by rw [hcD]; rfl,hc⟩
   rw [List.length_append,Lib.repeatL_length]
   simp only [List.length_cons,List.length_nil]
   omega
  ·rw [if_neg c2]
   refine ⟨((hD.sub fun b hb=>List.mem_of_mem_take hb).app (numb_one 46 (.inl rfl))).app (hD.sub fun b hb=>List.mem_of_mem_drop hb),?_,?_⟩
   ·simp only [List.length_append,List.length_take,List.length_drop,List.length_cons,List.length_nil]
    omega
   ·obtain ⟨m,hm⟩:∃ m,k.toNat=m+1:=⟨k.toNat-1,by omega⟩
    refine ⟨c,D1.take m ++ [46] ++ D.drop (m+1),?_,hc⟩
    rw [hm]
    conv=>lhs; rw [hcD,List.take_succ_cons]
    rw [hcD]
    rfl
 ·rw [if_neg c1]
  by_cases c2 : -4 <= k∧k <= 0
  ·rw [if_pos c2]
   refine ⟨(NumB.app (fun b hb => ?_) (numb_rep _)).app hD,?_,48,_,rfl,by decide,by decide⟩
   ·rcases List.mem_cons.1 hb with rfl | hb
    ·decide
    ·rw [List.mem_singleton.1 hb]; decide
   ·rw [List.length_append,List.length_append,Lib.repeatL_length]
    simp only [List.length_cons,List.length_nil]
    omega
  ·rw [if_neg c2]
   have hi:=(rdf.it_ok (k-1) (by omega) (by omega)).2.2
   by_cases c3:1<D.length
   ·rw [if_pos c3]
    refine ⟨((((hD.sub fun b hb=>List.mem_of_mem_take hb).app (numb_one 46 (.inl rfl))).app (hD.sub fun b hb=>List.mem_of_mem_drop hb)).app (numb_one 101 (.inr rfl))).app (numb_itoa _),?_,?_⟩
    ·simp only [List.length_append,List.length_take,List.length_drop,List.length_cons,List.length_nil]
     omega
    ·refine ⟨c,[46] ++ D.drop 1 ++ [101] ++ Lib.itoa (k-1),?_,hc⟩
     conv=>lhs; rw [hcD]
     rw [hcD]
     rfl
   ·rw [if_neg c3]
    refine ⟨(hD.app (numb_one 101 (.inr rfl))).app (numb_itoa _),?_,c,D1 ++ [101] ++ Lib.itoa (k-1),by rw [hcD]; rfl,hc⟩
    simp only [List.length_append,List.length_cons,List.length_nil]
    omega
theorem pc_pr (x:Nat) (h:prOk x=true∧x<18446744073709551616):Pc 2 (prT hiP loP x):=by
 have hr:rightF x=true:=by
  have:=h.1
  unfold prOk at this
  rw [Bool.and_eq_true] at this
  exact this.1
 obtain ⟨f1,f2⟩:=right_word h.2 hr
 unfold prT
 rw [if_pos h.1]
 by_cases h0:x=0
 ·rw [if_pos h0]
  exact pc_num 48 [] (by decide) (by decide) (by decide)
 ·rw [if_neg h0]
  by_cases hn:9223372036854775808 <= x
  ·rw [if_pos hn]
   obtain ⟨a1,a2,_⟩:=posT_facts (x-9223372036854775808) (by omega) (by omega)
   refine pc_num 45 _ (by decide) (fun y hy => ?_) (by rw [List.length_cons]; omega)
   rcases List.mem_cons.1 hy with rfl | hy
   ·decide
   ·exact a1 y hy
  ·rw [if_neg hn]
   obtain ⟨a1,a2,c,r,a3,a4,a5⟩:=posT_facts x (by omega) (by omega)
   rw [a3] at a1 a2 ⊢
   refine pc_num c r ?_ a1 (by omega)
   have:=(dig_f c a4 a5).2.2
   rw [this]
   rfl
def spread:List (Nat × List UInt8) -> List (Nat × List UInt8)
 | []=>[(4,[10])]
 | p :: r=>(0,[32]) :: p :: spread r
theorem spread_head:∀ ps,∃ b X,lexm.flat (spread ps)=b :: X∧(b=32∨b=10)
 | []=>⟨10,[],rfl,.inr rfl⟩
 | p :: r=>⟨32,p.2 ++ lexm.flat (spread r),rfl,.inl rfl⟩
theorem spread_ok (R:List UInt8):∀ ps:List (Nat × List UInt8),(∀ p∈ps,Pc p.1 p.2) -> OkC (spread ps) R
 | [],_=>⟨by simp,by simp [firstL,lexm.flat],trivial⟩
 | p :: r,h=>by
  have hp:=h p (by simp)
  obtain ⟨b,X,hb,hbb⟩:=spread_head r
  refine ⟨by simp,by simp [firstL],hp.ne,?_,spread_ok R r (fun q hq=>h q (by simp [hq]))⟩
  rw [hb]
  exact hp.rd b (X ++ R) hbb
theorem line_ok (R:List UInt8) (p:Nat × List UInt8) (ps:List (Nat × List UInt8)) (hp:Pc p.1 p.2) (h:∀ q∈ps,Pc q.1 q.2):OkC (p :: spread ps) R:=by
 obtain ⟨b,X,hb,hbb⟩:=spread_head ps
 refine ⟨hp.ne,?_,spread_ok R ps h⟩
 rw [hb]
 exact hp.rd b (X ++ R) hbb
theorem flat_spread:∀ ps:List (Nat × List UInt8),lexm.flat (spread ps)=Lib.joinTail [32] (ps.map (·.2)) ++ [10]
 | []=>rfl
 | p :: r=>by
  show [32] ++ (p.2 ++ lexm.flat (spread r))=_
  rw [flat_spread r]
  simp [Lib.joinTail]
theorem spread_len:∀ ps:List (Nat × List UInt8),(∀ p∈ps,Pc p.1 p.2) -> (lexm.flat (spread ps)).length <= 41*ps.length+1
 | [],_=>Nat.le_refl _
 | p :: r,h=>by
  have hp:=(h p (by simp)).len
  have hr:=spread_len r (fun q hq=>h q (by simp [hq]))
  show ([32] ++ (p.2 ++ lexm.flat (spread r))).length <= _
  rw [List.length_append,List.length_append,List.length_cons,List.length_cons,List.length_nil]
  omega
theorem last_spread (kl:Nat):∀ ps:List (Nat × List UInt8),(∀ p∈ps,p.1≠0) -> lastC (spread ps) kl=4
 | [],_=>rfl
 | p :: r,h=>by
  have hp:=h p (by simp)
  show lastC (spread r) _=4
  rw [if_neg hp]
  exact last_spread p.1 r (fun q hq=>h q (by simp [hq]))
def piecesL (n:Nd):List (Nat × List UInt8) :=
 (3,[61]) :: (1,(wordF n.kind).data.toList) :: (((numsK n.kind).map fun j=>(2,prT hiP loP (n.f j))) ++ (subsN n).map fun a=>(1,110 :: Lib.itoa a))
def lineC (n:Nd) (k:Int):List (Nat × List UInt8):=(1,110 :: Lib.itoa k) :: spread (piecesL n)
theorem lineC_flat (n:Nd) (k:Int) (h:lineOk n k=true):lexm.flat (lineC n k)=lineT hiP loP n k ++ [10]:=by
 unfold lineT
 rw [if_pos h]
 unfold lineC
 show (110 :: Lib.itoa k) ++ lexm.flat (spread (piecesL n))=_
 rw [flat_spread]
 have e:(lineL hiP loP n k).map (·.data.toList)=(110 :: Lib.itoa k) :: (piecesL n).map (·.2):=by
  unfold lineL piecesL
  simp only [List.map_append,List.map_cons,List.map_map,List.cons_append,List.nil_append]
  refine congr (congrArg _ ?_) (congr (congrArg _ rfl) (congrArg _ (congr (congrArg _ ?_) ?_)))
  ·unfold nmB; rw [bA_list]
  ·refine List.map_congr_left fun j _ => ?_
   show (prnw.prB hiP loP (n.f j)).data.toList=_
   unfold prnw.prB; rw [bA_list]
   rfl
  ·refine List.map_congr_left fun a _ => ?_
   show (nmB a).data.toList=_
   unfold nmB; rw [bA_list]
   rfl
 rw [e,Lib.join_cons,List.append_assoc]
theorem piecesL_ok (n:Nd) (hn:n.ok) (k:Nat) (hk:k<4096) (h:nodeOk n k=true):∀ p∈piecesL n,Pc p.1 p.2:=by
 obtain ⟨hkd,ha,hb⟩:=node_facts h (by omega)
 have hk6:1 <= n.kind∧n.kind <= 6:=by omega
 intro p hp
 unfold piecesL at hp
 rcases List.mem_cons.1 hp with rfl | hp
 ·exact pc_eq
 rcases List.mem_cons.1 hp with rfl | hp
 ·exact pc_kind _ hk6.1 hk6.2
 rcases List.mem_append.1 hp with hp | hp
 ·obtain ⟨j,hj,rfl⟩:=List.mem_map.1 hp
  rw [(fpm.nums_offs n.kind).resolve_right (fun e=>e hk6)] at hj
  have:=fpm.told_pr n hn k h j hj
  exact pc_pr _ ⟨this.1,by omega⟩
 ·obtain ⟨a,haa,rfl⟩:=List.mem_map.1 hp
  have:0 <= a∧a<4096:=by
   unfold subsN at haa
   split at haa
   ·rcases List.mem_cons.1 haa with rfl | haa
    ·exact ha
    ·rw [List.mem_singleton.1 haa]; exact hb
   ·rw [List.mem_singleton.1 haa]; exact ha
   ·cases haa
  exact pc_name a this.1 this.2
theorem lineC_len (n:Nd) (hn:n.ok) (k:Nat) (hk:k<4096) (h:nodeOk n k=true):(lexm.flat (lineC n k)).length <= 500:=by
 have h1:=spread_len (piecesL n) (piecesL_ok n hn k hk h)
 have h2:=(pc_name k (by omega) (by omega)).len
 have h3:(piecesL n).length <= 9:=by
  obtain ⟨hkd,-,-⟩:=node_facts h (by omega)
  unfold piecesL subsN
  simp only [List.length_cons,List.length_append,List.length_map]
  rcases hkd with e | e | e | e | e | e <;> rw [e] <;> exact Nat.le_of_ble_eq_true rfl
 show ((110 :: Lib.itoa k) ++ lexm.flat (spread (piecesL n))).length <= 500
 rw [List.length_append]
 omega
def textC (l:List Nd):Nat -> List (Nat × List UInt8)
 | 0=>[]
 | k+1=>textC l k ++ lineC (atN l k) k
theorem textC_all (l:List Nd) (hok:∀ n∈l,n.ok) (h:rightP l=true):∀ k,k <= l.length -> lexm.flat (textC l k)=textP hiP loP l k∧(∀ R,OkC (textC l k) R)∧lastC (textC l k) 4=4
 | 0,_=>⟨rfl,fun _=>trivial,rfl⟩
 | k+1,hk=>by
  obtain ⟨a1,a2,a3⟩:=textC_all l hok h k (by omega)
  obtain ⟨hl4,hl0,hall⟩:=right_at h
  have hat:atN l k=l[k]'(by omega):=atN_eq l k (by omega)
  have hno:nodeOk (atN l k) k=true:=by rw [hat]; exact hall k (by omega)
  have hnk:(atN l k).ok:=by rw [hat]; exact hok _ (List.getElem_mem _)
  have hlo:lineOk (atN l k) k=true:=by
   unfold lineOk
   rw [hno,decide_eq_true (by omega),decide_eq_true (by omega)]
   rfl
  have hpc:=piecesL_ok _ hnk k (by omega) hno
  have hL:∀ R,OkC (lineC (atN l k) k) R:=fun R=>line_ok R _ _ (pc_name k (by omega) (by omega)) hpc
  refine ⟨?_,fun R => ?_,?_⟩
  ·show lexm.flat (textC l k ++ lineC (atN l k) k)=_
   rw [flat_app,a1,lineC_flat _ _ hlo]
   rfl
  ·exact (OkC_app _ _ _).2 ⟨a2 _,hL R⟩
  ·show lastC (textC l k ++ lineC (atN l k) k) 4=4
   rw [lastC_app]
   exact last_spread _ _ (fun p hp=>(hpc p hp).kd.1)
theorem text_len (l:List Nd) (hok:∀ n∈l,n.ok) (h:rightP l=true):∀ k,k <= l.length -> (textP hiP loP l k).length <= 500*k
 | 0,_=>Nat.zero_le _
 | k+1,hk=>by
  have ih:=text_len l hok h k (by omega)
  obtain ⟨hl4,hl0,hall⟩:=right_at h
  have hat:atN l k=l[k]'(by omega):=atN_eq l k (by omega)
  have hno:nodeOk (atN l k) k=true:=by rw [hat]; exact hall k (by omega)
  have hnk:(atN l k).ok:=by rw [hat]; exact hok _ (List.getElem_mem _)
  have hlo:lineOk (atN l k) k=true:=by
   unfold lineOk
   rw [hno,decide_eq_true (by omega),decide_eq_true (by omega)]
   rfl
  have h2:=lineC_len _ hnk k (by omega) hno
  rw [lineC_flat _ _ hlo] at h2
  show (textP hiP loP l k ++ (lineT hiP loP (atN l k) k ++ [10])).length <= _
  rw [List.length_append]
  omega
theorem lex_text (l:List Nd) (hok:∀ n∈l,n.ok) (h:rightP l=true) (hs:l.length <= 2000):lexRes (textT hiP loP l)=(toksC (textC l l.length) 0,0,0):=by
 obtain ⟨a1,a2,a3⟩:=textC_all l hok h l.length (Nat.le_refl _)
 unfold textT
 rw [if_pos h,<- a1]
 have hle:=text_len l hok h l.length (Nat.le_refl _)
 have:=lexRes_chunks (textC l l.length) (a2 []) (by rw [a1]; omega)
 rw [this,if_pos a3,List.append_nil]
end Go.Proofs.YtejmbbkklhpnaaaGreatDoor.bkm

/- What rows of tokens say when they are parsed: groups of tokens, one a statement, with ends between. Plain; no condition but those stated. -/
namespace Go.Proofs.YtejmbbkklhpnaaaGreatDoor.bkp
open Go.RowKit
open parw
variable {dec:ByteArray -> Nat × Nat} {en:Int}
def fitB (dec:ByteArray -> Nat × Nat):List Bool -> List PTok -> Prop
 | [],[]=>True
 | b :: bs,t :: ts=>t.kind=(if b then 2 else 1)∧(b=true -> (dec t.text).2=0)∧fitB dec bs ts
 | _,_=>False
def argsOf (dec:ByteArray -> Nat × Nat):List Bool -> List PTok -> List PArg
 | b :: bs,t :: ts=>(if b then ⟨t.pos,(dec t.text).1,⟨#[]⟩⟩ else ⟨t.pos,0,t.text⟩) :: argsOf dec bs ts
 | _,_=>[]
theorem args_fit:∀ (bs:List Bool) (ts r:List PTok),fitB dec bs ts -> argsS dec en bs ⟨ts ++ r,0,0⟩=(argsOf dec bs ts,⟨r,0,0⟩)
 | [],[],r,_=>rfl
 | [],_ :: _,_,h=>h.elim
 | _ :: _,[],_,h=>h.elim
 | b :: bs,t :: ts,r,⟨hk,hd,hf⟩=>by
  have hs:argS dec en b ⟨t :: (ts ++ r),0,0⟩=((if b then ⟨t.pos,(dec t.text).1,⟨#[]⟩⟩ else ⟨t.pos,0,t.text⟩),⟨ts ++ r,0,0⟩):=by
   cases b with
   | false =>
    show wordS en _=_
    unfold wordS
    rw [nextS_yes (s:=⟨t :: (ts ++ r),0,0⟩) (k:=1) (t:=t) (r:=ts ++ r) rfl rfl hk]
    rfl
   | true =>
    show numS dec en _=_
    unfold numS
    rw [nextS_yes (s:=⟨t :: (ts ++ r),0,0⟩) (k:=2) (t:=t) (r:=ts ++ r) rfl rfl hk]
    rw [if_pos rfl]
    show (_,if (dec t.text).2=0 then _ else _)=_
    rw [if_pos (hd rfl)]
    rfl
  show ((argS dec en b ⟨t :: (ts ++ r),0,0⟩).1 :: (argsS dec en bs (argS dec en b ⟨t :: (ts ++ r),0,0⟩).2).1,(argsS dec en bs (argS dec en b ⟨t :: (ts ++ r),0,0⟩).2).2)=_
  rw [hs,args_fit bs ts r hf]
  rfl
structure Grp where
 bl:List PTok
 a:PTok
 b:PTok
 c:PTok
 ts:List PTok
 z:PTok
def Grp.toks (g:Grp):List PTok:=g.bl ++ g.a :: g.b :: g.c :: (g.ts ++ [g.z])
structure Grp.Ok (dec:ByteArray -> Nat × Nat) (g:Grp):Prop where
 bl:∀ t∈g.bl,t.kind=4
 a:g.a.kind=1
 b:g.b.kind=3
 c:g.c.kind=1
 k:kindF g.c.text≠0
 f:fitB dec (formL (kindF g.c.text)) g.ts
 z:g.z.kind=4
def Grp.st (dec:ByteArray -> Nat × Nat) (g:Grp):PStmt:=⟨g.a.text,g.a.pos,kindF g.c.text,argsOf dec (formL (kindF g.c.text)) g.ts⟩
theorem stmt_fit (g:Grp) (h:g.Ok dec) (r:List PTok):stmtS dec en ⟨g.a :: g.b :: g.c :: (g.ts ++ g.z :: r),0,0⟩=(g.st dec,⟨r,0,0⟩):=by
 unfold stmtS
 simp only
 rw [nextS_yes (t:=g.a) (r:=g.b :: g.c :: (g.ts ++ g.z :: r)) rfl rfl h.a]
 simp only
 rw [nextS_yes (t:=g.b) (r:=g.c :: (g.ts ++ g.z :: r)) rfl rfl h.b]
 simp only
 rw [nextS_yes (t:=g.c) (r:=g.ts ++ g.z :: r) rfl rfl h.c]
 simp only
 rw [if_neg h.k,args_fit _ _ _ h.f]
 simp only
 rw [nextS_yes (t:=g.z) (r:=r) rfl rfl h.z]
 rfl
theorem parseL_bl:∀ (bl:List PTok) (f:Nat) (R:List PTok) (acc:List PStmt),(∀ t∈bl,t.kind=4) -> bl.length <= f -> parseL dec en f ⟨bl ++ R,0,0⟩ acc=parseL dec en (f-bl.length) ⟨R,0,0⟩ acc
 | [],_,_,_,_,_=>rfl
 | t :: bl,0,_,_,_,h=>absurd h (by simp)
 | t :: bl,f+1,R,acc,hk,h=>by
  have h4:=hk t (by simp)
  rw [List.length_cons] at h
  conv=>lhs; unfold parseL
  rw [if_pos rfl]
  show (if t.kind=4 then _ else _)=_
  rw [if_pos h4]
  have:=parseL_bl bl f R acc (fun u hu=>hk u (by simp [hu])) (by omega)
  rw [List.length_cons,Nat.add_sub_add_right,<- this]
  rfl
theorem parseL_gs:∀ (gs:List Grp) (f:Nat) (acc:List PStmt),(gs.flatMap Grp.toks).length<f -> (∀ g∈gs,g.Ok dec) -> parseL dec en f ⟨gs.flatMap Grp.toks,0,0⟩ acc=(acc ++ gs.map (Grp.st dec),⟨[],0,0⟩)
 | [],f,acc,_,_=>by
  rw [parseL_end (.inr rfl)]
  simp
 | g :: gs,f,acc,hf,h=>by
  have hg:=h g (by simp)
  rw [List.flatMap_cons,List.length_append] at hf
  have hl:g.toks.length=g.bl.length+(g.ts.length+4):=by
   unfold Grp.toks
   simp only [List.length_append,List.length_cons,List.length_nil]
  rw [hl] at hf
  have e:(g :: gs).flatMap Grp.toks=g.bl ++ (g.a :: g.b :: g.c :: (g.ts ++ g.z :: gs.flatMap Grp.toks)):=by
   rw [List.flatMap_cons]
   unfold Grp.toks
   simp
  rw [e,parseL_bl g.bl f _ acc hg.bl (by omega)]
  obtain ⟨f',hf'⟩:∃ f',f-g.bl.length=f'+1:=⟨f-g.bl.length-1,by omega⟩
  rw [hf']
  conv=>lhs; unfold parseL
  rw [if_pos rfl]
  show (if g.a.kind=4 then _ else _)=_
  rw [if_neg (by rw [hg.a]; decide),stmt_fit g hg]
  rw [parseL_gs gs f' _ (by omega) (fun x hx=>h x (by simp [hx])),List.map_cons,List.append_assoc]
  rfl
theorem parse_gs (gs:List Grp) (h:∀ g∈gs,g.Ok dec):parseRes dec (gs.flatMap Grp.toks)=(gs.map (Grp.st dec),0,0):=by
 unfold parseRes
 simp only
 rw [parseL_gs gs _ [] (Nat.lt_succ_self _) h,if_pos rfl,List.nil_append]
end Go.Proofs.YtejmbbkklhpnaaaGreatDoor.bkp

/- Programs of nodes in plain words: a front, a node more, a node that stands first. No conditions but those stated. -/
namespace Go.Proofs.YtejmbbkklhpnaaaGreatDoor.chkw
open nodew
theorem rightP_iff (l:List Nd):rightP l=true↔(∀ k (hk:k<l.length),nodeOk l[k] k=true)∧0<l.length∧l.length <= 4096:=by
 constructor
 ·intro h
  have h1:∀ k (hk:k<l.length),nodeOk l[k] k=true:=fun k hk=>by
   cases hq:nodeOk l[k] k with
   | true=>rfl
   | false=>rw [rightP_bad hk hq] at h; cases h
  refine ⟨h1,?_⟩
  rw [rightP_good h1] at h
  simpa using h
 ·rintro ⟨h1,h2,h3⟩
  rw [rightP_good h1]
  simp [h2,h3]
end Go.Proofs.YtejmbbkklhpnaaaGreatDoor.chkw

/- A right node in which one number is another: is it right? In plain words. Conditions: as each theorem states. -/
namespace Go.Proofs.YtejmbbkklhpnaaaGreatDoor.chkw
open nodew
theorem f_put (n:Nd) (hl:n.x.length=16) (o x j:Nat) (h1:1 <= o) (h2:o <= 16) (j1:1 <= j):(Nd.put n o x).f j=if j=o then x else n.f j:=by
 unfold Nd.put Nd.f
 simp only [List.getD_eq_getElem?_getD]
 by_cases h:j=o
 ·subst h
  rw [List.getElem?_set_self (by omega),if_pos rfl]
  rfl
 ·rw [List.getElem?_set_ne (by omega),if_neg h]
theorem f_zero (n:Nd) (hl:n.x.length=16) (o j:Nat) (h1:1 <= o) (h2:o <= 16) (j1:1 <= j):(n.zero o).f j=if j=o then 0 else n.f j:=f_put n hl o 0 j h1 h2 j1
theorem f_zeros:∀ (l:List Nat) (n:Nd),n.x.length=16 -> (∀ o∈l,1 <= o∧o <= 16) -> ∀ j,1 <= j -> (n.zeros l).f j=if j∈l then 0 else n.f j
 | [],n,_,_,j,_=>by simp [Nd.zeros]
 | o :: r,n,hl,ho,j,hj=>by
  show ((n.zero o).zeros r).f j=_
  rw [f_zeros r (n.zero o) ((n.zero_len o).trans hl) (fun p hp=>ho p (by simp [hp])) j hj,f_zero n hl o j (ho o (by simp)).1 (ho o (by simp)).2 hj]
  by_cases h:j=o
  ·subst h
   by_cases hr:j∈r <;> simp [hr]
  ·by_cases hr:j∈r <;> simp [h,hr]
theorem offs_range (k:Nat):∀ o∈offs k,1 <= o∧o <= 16:=fun o ho=>by
 unfold offs at ho
 obtain ⟨d,hd,rfl⟩:=List.mem_map.1 ho
 exact fieldList_range k d hd
theorem nodeOk_iff (n:Nd) (hl:n.x.length=16) (at_:Int):nodeOk n at_=true↔(∀ d∈fieldList n.kind,withinF d.2.1 d.2.2 (n.f d.1)=true)∧placeOk (decide (0<belowN n.kind)) n.a at_=true∧placeOk (decide (1<belowN n.kind)) n.b at_=true∧0<(fieldList n.kind).length ∧ ∀ j,1 <= j -> j <= 16 -> j ∉ offs n.kind -> n.f j=0:=by
 unfold nodeOk ndOk bare
 simp only [Bool.and_eq_true,List.all_eq_true,decide_eq_true_eq,beq_iff_eq,List.mem_range]
 have hz:=f_zeros (offs n.kind) n hl (offs_range n.kind)
 constructor
 ·rintro ⟨⟨⟨⟨h1,h2⟩,h3⟩,h4⟩,h5⟩
  refine ⟨h1,h2,h3,h4,fun j j1 j2 hj => ?_⟩
  have:=h5 (j-1) (by omega)
  rw [show j-1+1=j by omega,hz j j1,if_neg hj] at this
  exact this
 ·rintro ⟨h1,h2,h3,h4,h5⟩
  refine ⟨⟨⟨⟨h1,h2⟩,h3⟩,h4⟩,fun j hj => ?_⟩
  rw [hz (j+1) (by omega)]
  by_cases h:j+1∈offs n.kind
  ·rw [if_pos h]
  ·rw [if_neg h]; exact h5 (j+1) (by omega) (by omega) h
end Go.Proofs.YtejmbbkklhpnaaaGreatDoor.chkw

/- The first error of statements in plain words: it stays, whatever stands behind. No conditions but those stated. -/
namespace Go.Proofs.YtejmbbkklhpnaaaGreatDoor.chkw
open parw
open nodew
end Go.Proofs.YtejmbbkklhpnaaaGreatDoor.chkw
