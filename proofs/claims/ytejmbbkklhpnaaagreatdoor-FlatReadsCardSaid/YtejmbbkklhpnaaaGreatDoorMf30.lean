/- The walk of strconv's atof64exact. Conditions: as each theorem states. -/
import Derived.Test.YtejmbbkklhpnaaaGreatDoorMf29
namespace Go.Proofs.YtejmbbkklhpnaaaGreatDoor.rdf
open Go.RowKit
open bsw
open prnw
open dcw
open dmx
open fpm
open flatm
open nodew
def p10 (k:Nat):Nat:=([4607182418800017408,4621819117588971520,4636737291354636288,4652007308841189376,4666723172467343360,4681608360884174848,4696837146684686336,4711630319722168320,4726483295884279808,4741671816366391296,4756540486875873280,4771362005757984768,4786511204640096256,4801453603149578240,4816244402031689728,4831355200913801216,4846369599423283200,4861130398305394688,4876203697187506176,4891288408196988160,4906019910204099648,4921056587992461136,4936209963552724370]:List Nat).getD k 0
theorem p10_all:∀ k:Fin 23,0<p10 k.val∧p10 k.val<infW∧valR (p10 k.val)=10 ^ k.val*2 ^ leB:=by decide +kernel
theorem p10_spec (k:Nat) (h:k <= 22):0<p10 k∧p10 k<infW∧valR (p10 k)=10 ^ k*2 ^ leB:=p10_all ⟨k,by omega⟩
def FT (B:Nat) (w:World):Prop :=
 16 < B ∧ ∃ bb bo cap,bb<B∧w.cell? ⟨16,0,none⟩=some (.slice (some ⟨bb,bo,none⟩) 23 cap) ∧ ∀ k,k <= 22 -> w.cell? ⟨bb,bo+k,none⟩=some (.float .f64 (p10 k))
theorem FT.keep {B:Nat} {w w':World} (h:FT B w) (hk:∀ (p:Addr) (v:Value),p.block<B -> w.cell? p=some v -> w'.cell? p=some v):FT B w':=by
 obtain ⟨h1,bb,bo,cap,h2,h3,h4⟩:=h
 exact ⟨h1,bb,bo,cap,h2,hk _ _ h1 h3,fun k h=>hk _ _ h2 (h4 k h)⟩
theorem neg_of (x:Nat) (hx:x<9223372036854775808):Op.negFloat .f64 x=9223372036854775808+x:=by
 have e:Op.negFloat .f64 x=x ^^^ 9223372036854775808:=rfl
 rw [e]
 have h2:(9223372036854775808:Nat)=2 ^ 63:=by decide
 have h3:=Nat.xor_mod_two_pow (a:=x) (b:=9223372036854775808) (n:=63)
 have h4:=Nat.xor_div_two_pow (a:=x) (b:=9223372036854775808) (n:=63)
 have h5:(9223372036854775808:Nat) % 2 ^ 63=0:=by decide
 have h6:(9223372036854775808:Nat) / 2 ^ 63=1:=by decide
 rw [h5,Nat.xor_zero] at h3
 rw [h6] at h4
 rw [<- h2] at h3 h4
 have h8:x / 9223372036854775808=0:=by omega
 rw [h8] at h4
 have:(0 ^^^ 1:Nat)=1:=by decide
 omega
theorem un_neg (k:FloatKind) (b:Nat):Op.unary .neg (.float k b)=pure (.float k (Op.negFloat k b)):=rfl
attribute [local go_sem] un_neg fo_eq
theorem sgn_word (neg:Bool) (X:Nat):sgn neg X=Ieee.double.word neg X:=(word_eq neg X).symm
theorem of_int (d:Nat) (hd:0<d):floatOfInt FloatKind.f64 (d:Int)=min (nearX d 1) infW:=by
 have e:floatOfInt FloatKind.f64 (d:Int)=Ieee.Format.nearest Ieee.double (decide ((d:Int)<0)) (d:Int).natAbs 0:=rfl
 rw [e,decide_eq_false (by omega),Int.natAbs_natCast,nearest_eq false d 0 hd,word_eq,if_neg (by decide)]
 simp
theorem mul_run (w:World) (s:Bool) (X Y C D:Nat) (hX0:0<X) (hX:X<infW) (hY0:0<Y) (hY:Y<infW) (hD:0<D) (h:valR X*valR Y*D=C*2 ^ leB*2 ^ leB) :
  (binOp BinOp.mul 38 (.float .f64 (sgn s X)) (.float .f64 Y)).run Tryz.prog w = .ok (.float .f64 (sgn s (min (nearX C D) infW))) w:=by
 refine run_float_arith w .mul _ .f64 _ _ _ ?_
 have:=mul_near s false X Y C D hX0 hX hY0 hY hD h
 rw [word_eq false Y,if_neg (by decide),Bool.xor_false,<- sgn_word,<- sgn_word] at this
 exact this
theorem quo_run (w:World) (s:Bool) (X Y C D:Nat) (hX0:0<X) (hX:X<infW) (hY0:0<Y) (hY:Y<infW) (hD:0<D) (h:valR X*D=C*valR Y) :
  (binOp BinOp.quo 38 (.float .f64 (sgn s X)) (.float .f64 Y)).run Tryz.prog w = .ok (.float .f64 (sgn s (min (nearX C D) infW))) w:=by
 refine run_float_arith w .quo _ .f64 _ _ _ ?_
 have:=div_near s false X Y C D hX0 hX hY0 hY hD h
 rw [word_eq false Y,if_neg (by decide),Bool.xor_false,<- sgn_word,<- sgn_word] at this
 exact this
theorem cmp_gt (a b:Int):(some (compare a b) == some .gt)=decide (b<a):=by
 rw [Int.compare_eq_ite_lt]
 by_cases h:a<b
 ·rw [if_pos h,decide_eq_false (by omega)]; rfl
 ·rw [if_neg h]
  by_cases h2:b<a
  ·rw [if_pos h2,decide_eq_true h2]; rfl
  ·rw [if_neg h2,decide_eq_false h2]; rfl
theorem cmp_lt (a b:Int):(some (compare a b) == some .lt)=decide (a<b):=by
 rw [Int.compare_eq_ite_lt]
 by_cases h:a<b
 ·rw [if_pos h,decide_eq_true h]; rfl
 ·rw [if_neg h,decide_eq_false h]
  by_cases h2:b<a
  ·rw [if_pos h2]; rfl
  ·rw [if_neg h2]; rfl
theorem sv_sgn (s:Bool) (X:Nat) (hX:X<infW):sv (sgn s X)=if s then -(valR X:Int) else (valR X:Int):=by
 have hi:=infW_eq
 cases s
 ·have e:sgn false X=X:=rfl
  unfold sv
  rw [e,if_neg (by omega),Nat.mod_eq_of_lt (by omega)]
  rfl
 ·have e:sgn true X=9223372036854775808+X:=rfl
  unfold sv
  rw [e,if_pos (by omega),show (9223372036854775808+X) % 9223372036854775808=X by omega]
  rfl
theorem w15:valR 4831355200913801216=10 ^ 15*2 ^ leB:=by decide +kernel
theorem fo_15 (s:Bool) (X:Nat) (hX:X<infW):(valR X <= 10 ^ 15*2 ^ leB -> (fo (sgn s X) 4831355200913801216 == some .gt)=false∧(fo (sgn s X) 14054727237768577024 == some .lt)=false) ∧
  (10 ^ 15*2 ^ leB<valR X -> (fo (sgn s X) 4831355200913801216 == some .gt) = !s∧(fo (sgn s X) 14054727237768577024 == some .lt)=s):=by
 have hi:=infW_eq
 have hm:sgn s X % 9223372036854775808=X:=by
  unfold sgn
  split <;> omega
 have z1:sv 4831355200913801216=(valR 4831355200913801216:Int):=by
  unfold sv
  rw [if_neg (by decide)]
 have z2:sv 14054727237768577024 = -(valR 4831355200913801216:Int):=by
  unfold sv
  rw [if_pos (by decide)]
 rw [fo_sv (by rw [hm]; omega) (by decide),fo_sv (by rw [hm]; omega) (by decide),z1,z2,sv_sgn s X hX,w15]
 have h0:0<10 ^ 15*2 ^ leB:=Nat.mul_pos (by decide) (Nat.two_pow_pos _)
 generalize 10 ^ 15*2 ^ leB=Z at *
 generalize valR X=V at *
 rw [cmp_gt,cmp_lt]
 cases s
 ·rw [show (if (false:Bool)=true then -(V:Int) else (V:Int))=(V:Int) from rfl]
  exact ⟨fun h=>⟨decide_eq_false (by omega),decide_eq_false (by omega)⟩,fun h=>⟨decide_eq_true (by omega),decide_eq_false (by omega)⟩⟩
 ·rw [show (if (true:Bool)=true then -(V:Int) else (V:Int)) = -(V:Int) from rfl]
  exact ⟨fun h=>⟨decide_eq_false (by omega),decide_eq_false (by omega)⟩,fun h=>⟨decide_eq_false (by omega),decide_eq_true (by omega)⟩⟩
theorem past_15 (a:Nat) (h:10 ^ 15<a):10 ^ 15*2 ^ leB<valR (nearX a 1):=by
 obtain ⟨X,_,_,h3,h4⟩:=ex_int (10 ^ 15+1) (by decide) (by decide)
 have h5:X <= nearX a 1:=by
  rw [<- h4]
  exact near_le (by decide) (by decide) (by omega)
 refine Nat.lt_of_lt_of_le ?_ (val_le h5)
 rw [h3]
 exact Nat.mul_lt_mul_of_pos_right (by omega) (Nat.two_pow_pos _)
theorem near_37:nearX (10 ^ 37) 1<infW:=by decide +kernel
theorem near_small {a b:Nat} (hb:0<b) (h:a <= 10 ^ 37*b):nearX a b<infW:=Nat.lt_of_le_of_lt (near_le hb (by decide) (by rw [Nat.mul_one]; exact h)) near_37
def ExPost (w:World) (X F:Nat) (e:Ending) (w':World):Prop :=
 w'=w∧((∃ G,e = .returned (.tuple #[.float .f64 G,.bool false]))∨(X<infW∧e = .returned (.tuple #[.float .f64 F,.bool true])))
set_option maxRecDepth 100000 in
set_option maxHeartbeats 2000000 in
theorem exact_any (B:Nat) (neg:Bool) (d:Nat) (p:Int) (hd0:0<d) (hd:d<18446744073709551616) (hp : -345 <= p) (hp2:p <= 310) (w:World) (hE:EV B w) (hF:FT B w) :
  Calls Tryz.prog 202 #[.int .u64 (d:Nat),.int .i64 p,.bool neg] w (ExPost w (nearX (d*10 ^ p.toNat) (10 ^ (-p).toNat)) (sgn neg (nearX (d*10 ^ p.toNat) (10 ^ (-p).toNat)))):=by
 have i0:=hE.f0
 by_cases hbig:4503599627370496 <= d
 ·have t1:((d:Int) / 4503599627370496 == 0)=false:=by rw [beq_eq_false_iff_ne]; omega
  have t2:¬ (d:Int) / 4503599627370496=0:=by omega
  go_enter Tryz.func202,Tryz.ntmps202
  go_wp2_with fail
  go_ret2
  exact ⟨rfl,.inl ⟨_,rfl⟩⟩
 obtain ⟨X0,x1,x2,x3,x4⟩:=ex_int d hd0 (by omega)
 have t1:((d:Int) / 4503599627370496 == 0)=true:=by rw [beq_iff_eq]; omega
 have t2:(d:Int) / 4503599627370496=0:=by omega
 have hf:floatOfInt FloatKind.f64 (d:Int)=X0:=by rw [of_int d hd0,x4,Nat.min_eq_left (Nat.le_of_lt x2)]
 have hng:Op.negFloat .f64 X0=sgn true X0:=neg_of X0 (by have:=infW_eq; omega)
 have hnf:X0=sgn false X0:=rfl
 obtain ⟨F,hF0⟩:∃ F,F=sgn neg X0:=⟨_,rfl⟩
 have hs:(neg=true∧Op.negFloat .f64 X0=F)∨(neg=false∧X0=F):=by
  cases neg
  ·exact .inr ⟨rfl,hF0.symm⟩
  ·exact .inl ⟨rfl,hng.trans hF0.symm⟩
 clear hng hnf hbig
 by_cases hp0:p=0
 ·subst hp0
  have hX:nearX (d*10 ^ (0:Int).toNat) (10 ^ (-0:Int).toNat)=X0:=by
   rw [show (0:Int).toNat=0 from rfl,show (-0:Int).toNat=0 from rfl,Nat.pow_zero,Nat.mul_one,x4]
  have HX:=Lib.hid (And.intro hX (And.intro x2 hF0))
  rw [hX,<- hF0]
  clear hX hF0 x1 x2 x3 x4 hE hF
  go_enter Tryz.func202,Tryz.ntmps202
  rcases hs with ⟨rfl,hs⟩ | ⟨rfl,hs⟩
  ·go_wp2_with fail
   go_ret2
   exact ⟨rfl,.inr ⟨HX.out.2.1,rfl⟩⟩
  ·go_wp2_with fail
   go_ret2
   exact ⟨rfl,.inr ⟨HX.out.2.1,rfl⟩⟩
 obtain ⟨g1,bb,bo,cap,g2,g3,g4⟩:=hF
 have q0:(p == 0)=false:=by rw [beq_eq_false_iff_ne]; exact hp0
 by_cases hlo:p<0
 ·have r1:decide (0<p)=false:=decide_eq_false (by omega)
  have r2:decide (p<0)=true:=decide_eq_true hlo
  by_cases h22 : -22 <= p
  ·obtain ⟨k,hk⟩:∃ k:Nat,-p=(k:Int):=⟨(-p).toNat,by omega⟩
   obtain ⟨y1,y2,y3⟩:=p10_spec k (by omega)
   have c1:=g4 k (by omega)
   obtain ⟨Y,hY⟩:∃ Y,p10 k=Y:=⟨_,rfl⟩
   rw [hY] at y1 y2 y3 c1
   have e1:(-p).toNat=k:=by omega
   have hw:IntKind.i64.wrap (-p)=(k:Int):=by rw [hk]; exact IntWalk.i64_in _ (by omega)
   have hX:nearX (d*10 ^ p.toNat) (10 ^ (-p).toNat)=nearX d (10 ^ k):=by rw [e1,show p.toNat=0 by omega,Nat.pow_zero,Nat.mul_one]
   have hsm:nearX d (10 ^ k)<infW:=near_small (Nat.pow_pos (by decide)) (by
    have h1:1 <= 10 ^ k:=Nat.pow_pos (by decide)
    have h2:d*1 <= 10 ^ 37*10 ^ k:=Nat.mul_le_mul (by omega) h1
    omega)
   have hq:=fun W=>quo_run W neg X0 Y d (10 ^ k) x1 x2 y1 y2 (Nat.pow_pos (by decide)) (by rw [x3,y3]; ac_rfl)
   rw [Nat.min_eq_left (Nat.le_of_lt hsm),<- hF0] at hq
   rw [hX]
   obtain ⟨Z,hZ⟩:∃ Z,sgn neg (nearX d (10 ^ k))=Z:=⟨_,rfl⟩
   rw [hZ] at hq ⊢
   have HX:=Lib.hid hsm
   have r3:decide (-22 <= p)=true:=decide_eq_true h22
   have k0:(0:Int) <= (k:Int):=by omega
   have k22:(k:Int) <= 22:=by omega
   have k23:(k:Int)<23:=by omega
   clear hX hsm hF0 x1 x2 x3 x4 hE y1 y2 y3 g4 hY hZ e1
   go_enter Tryz.func202,Tryz.ntmps202
   rcases hs with ⟨rfl,hs⟩ | ⟨rfl,hs⟩
   ·go_wp2_with fail
    go_ret2
    exact ⟨rfl,.inr ⟨HX.out,rfl⟩⟩
   ·go_wp2_with fail
    go_ret2
    exact ⟨rfl,.inr ⟨HX.out,rfl⟩⟩
  ·have r3:decide (-22 <= p)=false:=decide_eq_false h22
   clear hF0 x1 x2 x3 x4 hE g4
   go_enter Tryz.func202,Tryz.ntmps202
   rcases hs with ⟨rfl,hs⟩ | ⟨rfl,hs⟩
   ·go_wp2_with fail
    go_ret2
    exact ⟨rfl,.inl ⟨_,rfl⟩⟩
   ·go_wp2_with fail
    go_ret2
    exact ⟨rfl,.inl ⟨_,rfl⟩⟩
 have r1:decide (0<p)=true:=decide_eq_true (by omega)
 by_cases h37:37<p
 ·have r2:decide (p <= 37)=false:=decide_eq_false (by omega)
  have r3:decide (p<0)=false:=decide_eq_false (by omega)
  clear hF0 x1 x2 x3 x4 hE g4
  go_enter Tryz.func202,Tryz.ntmps202
  rcases hs with ⟨rfl,hs⟩ | ⟨rfl,hs⟩
  ·go_wp2_with fail
   go_ret2
   exact ⟨rfl,.inl ⟨_,rfl⟩⟩
  ·go_wp2_with fail
   go_ret2
   exact ⟨rfl,.inl ⟨_,rfl⟩⟩
 have r2:decide (p <= 37)=true:=decide_eq_true (by omega)
 have en:(-p).toNat=0:=by omega
 rw [en,Nat.pow_zero]
 by_cases h22:22<p
 ·obtain ⟨j,hj⟩:∃ j:Nat,p=(j:Int)+22:=⟨(p-22).toNat,by omega⟩
  subst hj
  obtain ⟨y1,y2,y3⟩:=p10_spec j (by omega)
  have c1:=g4 j (by omega)
  obtain ⟨Y,hY⟩:∃ Y,p10 j=Y:=⟨_,rfl⟩
  rw [hY] at y1 y2 y3 c1
  obtain ⟨u1,u2,u3⟩:=p10_spec 22 (by omega)
  have c2:=g4 22 (by omega)
  obtain ⟨U,hU⟩:∃ U,p10 22=U:=⟨_,rfl⟩
  rw [hU] at u1 u2 u3 c2
  have e15:d*10 ^ j <= 10 ^ 37:=by
   have h1:(10:Nat) ^ j <= 10 ^ 15:=Nat.pow_le_pow_right (by decide) (by omega)
   have h2:d*10 ^ j <= 4503599627370496*10 ^ 15:=Nat.mul_le_mul (by omega) h1
   exact Nat.le_trans h2 (by decide)
  have hsm:nearX (d*10 ^ j) 1<infW:=near_small (by decide) (by rw [Nat.mul_one]; exact e15)
  have hq:=fun W=>mul_run W neg X0 Y (d*10 ^ j) 1 x1 x2 y1 y2 (by decide) (by rw [x3,y3,Nat.mul_one]; ac_rfl)
  rw [Nat.min_eq_left (Nat.le_of_lt hsm),<- hF0] at hq
  obtain ⟨X1,hX1⟩:∃ X1,nearX (d*10 ^ j) 1=X1:=⟨_,rfl⟩
  rw [hX1] at hq hsm
  obtain ⟨o1,o2⟩:=fo_15 neg X1 hsm
  obtain ⟨G,hG⟩:∃ G,sgn neg X1=G:=⟨_,rfl⟩
  rw [hG] at o1 o2 hq
  have r4:decide (22<(j:Int)+22)=true:=decide_eq_true (by omega)
  have hw:IntKind.i64.wrap ((j:Int)+22-22)=(j:Int):=by rw [show (j:Int)+22-22=(j:Int) by omega]; exact IntWalk.i64_in _ (by omega)
  have k0:(0:Int) <= (j:Int):=by omega
  have k22:(j:Int) <= 15:=by omega
  have k23:(j:Int)<23:=by omega
  by_cases hd15:d*10 ^ j <= 10 ^ 15
  ·obtain ⟨X2,z1,z2,z3,z4⟩:=ex_int (d*10 ^ j) (Nat.mul_pos hd0 (Nat.pow_pos (by decide))) (Nat.le_trans hd15 (by decide))
   obtain rfl:X1=X2:=hX1.symm.trans z4
   obtain ⟨b1,b2⟩:=o1 (by rw [z3]; exact Nat.mul_le_mul_right _ hd15)
   have eP:d*10 ^ ((j:Int)+22).toNat=d*10 ^ j*10 ^ 22:=by rw [show ((j:Int)+22).toNat=j+22 by omega,Nat.pow_add,Nat.mul_assoc]
   have hsm2:nearX (d*10 ^ j*10 ^ 22) 1<infW:=near_small (by decide) (by
    rw [Nat.mul_one]
    have:=Nat.mul_le_mul_right (10 ^ 22) hd15
    exact Nat.le_trans this (by decide))
   have hq2:=fun W=>mul_run W neg X1 U (d*10 ^ j*10 ^ 22) 1 z1 z2 u1 u2 (by decide) (by rw [z3,u3,Nat.mul_one]; ac_rfl)
   rw [Nat.min_eq_left (Nat.le_of_lt hsm2),hG] at hq2
   rw [eP]
   obtain ⟨Z,hZ⟩:∃ Z,sgn neg (nearX (d*10 ^ j*10 ^ 22) 1)=Z:=⟨_,rfl⟩
   rw [hZ] at hq2 ⊢
   have HX:=Lib.hid hsm2
   clear hsm2 hsm hF0 x1 x2 x3 x4 hE y1 y2 y3 g4 hY hZ eP z1 z2 z3 z4 hd15 o1 o2 hG u1 u2 u3 hU hX1 e15 h22
   go_enter Tryz.func202,Tryz.ntmps202
   rcases hs with ⟨rfl,hs⟩ | ⟨rfl,hs⟩
   ·go_wp2_with fail
    go_ret2
    exact ⟨rfl,.inr ⟨HX.out,rfl⟩⟩
   ·go_wp2_with fail
    go_ret2
    exact ⟨rfl,.inr ⟨HX.out,rfl⟩⟩
  ·obtain ⟨b1,b2⟩:=o2 (by rw [<- hX1]; exact past_15 _ (by omega))
   clear hsm hF0 x1 x2 x3 x4 hE y1 y2 y3 g4 hY hd15 o1 o2 hG u1 u2 u3 hU hX1 e15 h22
   go_enter Tryz.func202,Tryz.ntmps202
   rcases hs with ⟨rfl,hs⟩ | ⟨rfl,hs⟩
   ·rw [Bool.not_true] at b1
    go_wp2_with fail
    go_ret2
    exact ⟨rfl,.inl ⟨_,rfl⟩⟩
   ·rw [Bool.not_false] at b1
    go_wp2_with fail
    go_ret2
    exact ⟨rfl,.inl ⟨_,rfl⟩⟩
 ·obtain ⟨k,rfl⟩:∃ k:Nat,p=(k:Int):=⟨p.toNat,by omega⟩
  obtain ⟨u1,u2,u3⟩:=p10_spec k (by omega)
  have c2:=g4 k (by omega)
  obtain ⟨U,hU⟩:∃ U,p10 k=U:=⟨_,rfl⟩
  rw [hU] at u1 u2 u3 c2
  obtain ⟨o1,o2⟩:=fo_15 neg X0 x2
  rw [<- hF0] at o1 o2
  have r4:decide (22<(k:Int))=false:=decide_eq_false (by omega)
  have k0:(0:Int) <= (k:Int):=by omega
  have k22:(k:Int) <= 22:=by omega
  have k23:(k:Int)<23:=by omega
  by_cases hd15:d <= 10 ^ 15
  ·obtain ⟨b1,b2⟩:=o1 (by rw [x3]; exact Nat.mul_le_mul_right _ hd15)
   have eP:d*10 ^ (k:Int).toNat=d*10 ^ k:=by rw [Int.toNat_natCast]
   have hsm2:nearX (d*10 ^ k) 1<infW:=near_small (by decide) (by
    rw [Nat.mul_one]
    have h1:(10:Nat) ^ k <= 10 ^ 22:=Nat.pow_le_pow_right (by decide) (by omega)
    have h2:d*10 ^ k <= 10 ^ 15*10 ^ 22:=Nat.mul_le_mul hd15 h1
    exact Nat.le_trans h2 (by decide))
   have hq2:=fun W=>mul_run W neg X0 U (d*10 ^ k) 1 x1 x2 u1 u2 (by decide) (by rw [x3,u3,Nat.mul_one]; ac_rfl)
   rw [Nat.min_eq_left (Nat.le_of_lt hsm2),<- hF0] at hq2
   rw [eP]
   obtain ⟨Z,hZ⟩:∃ Z,sgn neg (nearX (d*10 ^ k) 1)=Z:=⟨_,rfl⟩
   rw [hZ] at hq2 ⊢
   have HX:=Lib.hid hsm2
   clear hsm2 hF0 x1 x2 x3 x4 hE g4 hZ eP hd15 o1 o2 u1 u2 u3 hU h22 en
   go_enter Tryz.func202,Tryz.ntmps202
   rcases hs with ⟨rfl,hs⟩ | ⟨rfl,hs⟩
   ·go_wp2_with fail
    go_ret2
    exact ⟨rfl,.inr ⟨HX.out,rfl⟩⟩
   ·go_wp2_with fail
    go_ret2
    exact ⟨rfl,.inr ⟨HX.out,rfl⟩⟩
  ·obtain ⟨b1,b2⟩:=o2 (by rw [<- x4]; exact past_15 _ (by omega))
   clear hF0 x1 x2 x3 x4 hE g4 hd15 o1 o2 u1 u2 u3 hU h22 en
   go_enter Tryz.func202,Tryz.ntmps202
   rcases hs with ⟨rfl,hs⟩ | ⟨rfl,hs⟩
   ·rw [Bool.not_true] at b1
    go_wp2_with fail
    go_ret2
    exact ⟨rfl,.inl ⟨_,rfl⟩⟩
   ·rw [Bool.not_false] at b1
    go_wp2_with fail
    go_ret2
    exact ⟨rfl,.inl ⟨_,rfl⟩⟩
end Go.Proofs.YtejmbbkklhpnaaaGreatDoor.rdf
