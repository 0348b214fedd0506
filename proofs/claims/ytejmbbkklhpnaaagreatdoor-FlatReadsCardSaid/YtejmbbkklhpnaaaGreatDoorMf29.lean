/- The walk of strconv's parseFloat64. Conditions: as the theorem states. -/
import Derived.Test.YtejmbbkklhpnaaaGreatDoorMf28
import Derived.Test.YtejmbbkklhpnaaaGreatDoorMf14
import Derived.Test.YtejmbbkklhpnaaaGreatDoorMf25
import Derived.Test.YtejmbbkklhpnaaaGreatDoorMf01
namespace Go.Proofs.YtejmbbkklhpnaaaGreatDoor.rdf
open Go.RowKit
open bsw
open prnw
open dcw
open dmx
open fpm
theorem b2i (b:Bool) (w:World):Calls Tryz.prog 168 #[.bool b] w (Same w (.int .i64 (if b then 1 else 0))):=by
 go_enter Tryz.func168,Tryz.ntmps168
 cases b
 all_goals go_wp2
 all_goals go_ret
 all_goals exact ⟨rfl,rfl⟩
theorem unmin_53 (w:World):Calls Tryz.prog 169 #[.int .u64 9007199254740992] w (Same w (.int .u64 36028797018963966)):=by
 go_enter Tryz.func169,Tryz.ntmps169
 go_wp2
 go_ret
 exact ⟨rfl,rfl⟩
def PfPost (w:World) (v:Value) (e:Ending) (w':World):Prop:=e = .returned v∧Below w.heap.size w w'
theorem pf_parts (d:Nat) (P lp e:Int) (hd0:0<d) (hd:d<18446744073709551616) (hP0 : -345 <= P) (hP1:P <= 310) (hlp:lp=P*108853 / 32768) (he:e=min 1074 (53-(Lib.bitLen d:Int)-lp)) :
  ∃ b z t:Nat,∃ s:Int,Lib.bitLen d=b∧1 <= b∧b <= 64∧z=64-b∧9223372036854775808 <= d*2 ^ z∧d*2 ^ z<18446744073709551616∧e=1074-(t:Int)∧s=(z:Int)+t-1074-lp-3∧s = -(e-(64-(b:Int))+lp+3)∧8 <= s∧(t=0∨s=8)∧t <= 2199 ∧ -1200 <= lp∧lp <= 1100:=by
 obtain ⟨b1,b2,b3,b4⟩:=bl_bd 64 d (by omega) hd0
 change 1 <= Lib.bitLen d at b1
 change Lib.bitLen d <= 64 at b2
 change 2 ^ (Lib.bitLen d-1) <= d at b3
 change d<2 ^ Lib.bitLen d at b4
 obtain ⟨b,hb⟩:∃ b,Lib.bitLen d=b:=⟨_,rfl⟩
 rw [hb] at b1 b2 b3 b4 he
 have hl : -1200 <= lp∧lp <= 1100:=by omega
 refine ⟨b,64-b,(1074-e).toNat,((64-b:Nat):Int)+(1074-e).toNat-1074-lp-3,hb,b1,b2,rfl,?_,?_,by omega,rfl,by omega,by omega,by omega,by omega,hl.1,hl.2⟩
 ·have h1:=Nat.mul_le_mul_right (2 ^ (64-b)) b3
  rw [<- Nat.pow_add,show b-1+(64-b)=63 by omega] at h1
  exact Nat.le_trans (by decide) h1
 ·have h1:=Nat.mul_lt_mul_of_pos_right b4 (Nat.two_pow_pos (64-b))
  rw [<- Nat.pow_add,show b+(64-b)=64 by omega] at h1
  exact Nat.lt_of_lt_of_le h1 (by decide)
theorem orS (neg:Bool) (R:Nat) (hR:R<9007199254740992):bits BinOp.or IntKind.u64 ((sgn neg 0:Nat):Int) (R:Int)=((sgn neg R:Nat):Int):=by
 have e:bits BinOp.or IntKind.u64 ((sgn neg 0:Nat):Int) (R:Int)=IntKind.u64.wrap (((BitVec.ofInt 64 ((sgn neg 0:Nat):Int) ||| BitVec.ofInt 64 (R:Int)).toNat:Nat):Int):=rfl
 have hs:sgn neg 0<18446744073709551616:=by unfold sgn; split <;> omega
 have hs2:sgn neg R<18446744073709551616:=by unfold sgn; split <;> omega
 have p63:(2:Nat) ^ 63=9223372036854775808:=by decide
 have h4:sgn neg 0 ||| R=sgn neg R:=by
  cases neg with
  | true =>
   show 9223372036854775808+0 ||| R=9223372036854775808+R
   rw [Nat.add_zero,<- p63]
   have h1:=Nat.two_pow_add_eq_or_of_lt (i:=63) (b:=R) (by rw [p63]; omega) 1
   rw [Nat.mul_one] at h1
   exact h1.symm
  | false=>exact Nat.zero_or R
 rw [e,BitVec.toNat_or,bv_nat _ hs,bv_nat _ (by omega),h4,IntKind.wrap_u64]
 omega
theorem and_one (a:Nat) (h:a<18446744073709551616):bits BinOp.and IntKind.u64 (a:Int) 1=((a % 2:Nat):Int):=and_mask64 a 1 h (by decide)
attribute [local go_sem] ifrombits_run
set_option maxRecDepth 100000 in
set_option maxHeartbeats 2000000 in
theorem pf64_any (neg:Bool) (d i:Nat) (hd0:0<d) (hd:d<18446744073709551616) (hi0:3 <= i) (hi1:i <= 658) (w:World) (hT:PT hiT loT w) (hB : 8 < w.heap.size) :
  Calls Tryz.prog 203 #[.int .u64 (d:Nat),.int .i64 ((i:Int)-348),.int .u64 ((sgn neg 0:Nat):Int)] w (PfPost w (pkV neg (nearX (d*10 ^ ((i:Int)-348).toNat) (10 ^ (-((i:Int)-348)).toNat)))):=by
 obtain ⟨lp,hlp⟩:∃ lp:Int,lp=((i:Int)-348)*108853 / 32768:=⟨_,rfl⟩
 obtain ⟨e,he⟩:∃ e:Int,e=min 1074 (53-(Lib.bitLen d:Int)-lp):=⟨_,rfl⟩
 obtain ⟨b,z,t,s,p1,p2,p3,p4,p5,p6,p7,p8,p9,p10,p11,p12,p13,p14⟩:=pf_parts d ((i:Int)-348) lp e hd0 hd (by omega) (by omega) hlp he
 have CL:=fun W => Tryz.bits_Len64 (d:Int) W (by omega) (by omega)
 rw [Int.toNat_natCast,p1] at CL
 have C2:=fun W=>l2_any ((i:Int)-348) (by omega) (by omega) W
 rw [<- hlp] at C2
 have HL:=Lib.hid (And.intro CL C2)
 rw [p1] at he
 have HE:=Lib.hid he
 have HP:=Lib.hid (And.intro p4 (And.intro p5 (And.intro p6 (And.intro p7 (And.intro p8 (And.intro p9 (And.intro p10 (And.intro p11 p12))))))))
 have b0:(1:Int) <= (b:Int):=by omega
 have b9:(b:Int) <= 64:=by omega
 have HT:=Lib.hid (And.intro hT hB)
 have HLP:=Lib.hid hlp
 clear CL C2 he p1 p4 p5 p6 p7 p8 p9 p10 p11 p12 hT hB hlp
 go_enter Tryz.func203,Tryz.ntmps203
 go_upto_region 3 with (first | (go_at_call 132; (with_reducible refine (HL.out.1 _).mono ?_); rintro e w' ⟨rfl,hw'⟩; obtain rfl:=hw'.symm) | (go_at_call 161; (with_reducible refine (HL.out.2 _).mono ?_); rintro e w' ⟨rfl,hw'⟩; obtain rfl:=hw'.symm))
 have hmin:min (1074:Int) (53-(b:Int)-lp)=e:=HE.out.symm
 go_upto_region 5 with (fail)
 obtain ⟨W0,hW0⟩:∃ W0,W0=w.alloc (.cells #[.int .u64 0,.int .u64 0,.int .i64 0] 220):=⟨_,rfl⟩
 rw [<- hW0]
 have hbw:Below w.heap.size w W0:=by rw [hW0]; exact (Below.refl _ _).alloc (Nat.le_refl _) _
 have hsc:SC W0 w.heap.size 0 0 0:=by rw [hW0]; exact heap_at w _ _ rfl
 have hpt:PT hiT loT W0:=fun k hk=>by
  obtain ⟨a1,a2,a3,a4⟩:=HT.out.1 k hk
  exact ⟨a1,a2,(hbw.cell (p:=⟨8,k*2,none⟩) HT.out.2).trans a3,(hbw.cell (p:=⟨8,k*2+1,none⟩) HT.out.2).trans a4⟩
 have hp:=HP.out
 have CP:=prescale_any hiT loT w.heap.size (e-(64-(b:Int))) i lp (by omega) (by omega) (by omega) (by omega) (by omega) 0 0 0 W0 hpt (by have:=HT.out.2; omega) hsc
 rw [<- hp.2.2.2.2.2.1] at CP
 have HC:=Lib.hid CP
 have e0 : -1200 <= e:=by omega
 have e9:e <= 1074:=by omega
 have HBW:=Lib.hid hbw
 clear CP hbw hsc hpt hp hW0 hmin
 go_upto_region 6 with (go_at_call 160; (with_reducible refine HC.out.mono ?_); rintro e w1 ⟨rfl,hs1,hg1⟩; have HS1:=Lib.hid (And.intro hs1 hg1); clear hs1 hg1)
 have d2:w1.cell? ⟨w.heap.size,2,none⟩=some (.int .i64 s):=by rw [cell_of_row _ _ _ _ _ _ HS1.out.1]; rfl
 have hbel:Below w.heap.size w w1:=HBW.out.grown HS1.out.2 HBW.out.size (fun k e=>by obtain rfl:=Option.some.inj e; exact Nat.le_refl _)
 have HBL:=Lib.hid hbel
 clear hbel
 by_cases h64:64 <= s
 ·have t1:decide (64 <= s)=true:=decide_eq_true h64
  have b1:bits BinOp.or IntKind.u64 ((sgn neg 0:Nat):Int) 0=((sgn neg 0:Nat):Int):=by cases neg <;> decide +kernel
  obtain ⟨q4,q5,q6,q7,q8,q9,q10,q11,q12⟩:=HP.out
  have hz:=pf_zero ((i:Int)-348) (by omega) (by omega) lp HLP.out d z s.toNat q6 (by omega) (by omega)
  have hn:=near_eq (Nat.pow_pos (by decide)) hz
  have hv:pkV neg (nearX (d*10 ^ ((i:Int)-348).toNat) (10 ^ (-((i:Int)-348)).toNat)) = .tuple #[.float .f64 (sgn neg 0),.nilIface]:=by
   rw [<- hn]
   unfold pkV infX
   rw [Nat.min_eq_left (by decide),if_neg (by decide)]
  rw [hv]
  obtain ⟨m,hm⟩:∃ m,sgn neg 0=m:=⟨_,rfl⟩
  rw [hm] at b1 hv ⊢
  clear hm hn hz q4 q5 q6 q7 q8 q9 q10 q11 q12 h64
  go_wp2_with fail
  go_ret2
  exact ⟨by rw [hv]; rfl,HBL.out⟩
 ·have t1:decide (64 <= s)=false:=decide_eq_false h64
  obtain ⟨q4,q5,q6,q7,q8,q9,q10,q11,q12⟩:=HP.out
  obtain ⟨S,hS⟩:∃ S:Nat,s=(S:Int):=⟨s.toNat,by omega⟩
  subst hS
  obtain ⟨r1,r2,r3,r4,r5⟩:=row_spec i (by omega)
  have hN:=pf_near ((i:Int)-348) (by omega) (by omega) lp HLP.out d z S t q5 q6 (by omega) (by omega) (by omega) _ rfl
  rw [show ((i:Int)-348+348).toNat=i by omega] at hN
  obtain ⟨x,hx⟩:∃ x,d*2 ^ z=x:=⟨_,rfl⟩
  rw [hx] at q5 q6 hN
  have CU:=uscale_any x (hiT i) (loT i) S q6 r2 r3 w.heap.size w1 HS1.out.1
  rw [us_eq x (hiT i) (loT i) S q6 r1 r2 r3 (by omega)] at CU
  obtain ⟨u,hu⟩:∃ u,u=usN x (hiT i) (loT i) S:=⟨_,rfl⟩
  rw [<- hu] at CU hN
  have HU:=Lib.hid CU
  have HN:=Lib.hid hN
  have k0:(64:Int)-(b:Int)=(z:Int):=by omega
  have k1:IntKind.u64.wrap ((d:Int)*2 ^ z)=(x:Int):=by
   rw [show (d:Int)*2 ^ z=((d*2 ^ z:Nat):Int) by norm_cast,hx,IntKind.wrap_u64]
   omega
  have z0:(0:Int) <= (z:Int):=by omega
  have z9:(z:Int) <= 63:=by omega
  clear CU hN hu r1 r2 r3 r4 r5 q4 q5 q6 q7 q8 q9 q10 q11 q12
  go_upto_region 9 with (go_at_call 162; (with_reducible refine HU.out.mono ?_); rintro e w2 ⟨rfl,n,hw2⟩; have HW2:=Lib.hid hw2; clear hw2)
  have hu9:u<9223372036854775808:=by
   by_cases hc:36028797018963966 <= u
   ·have:=(HN.out.2 hc).2.1
    unfold rnd at this
    split at this <;> omega
   ·omega
  have u0:(0:Int) <= (u:Int):=by omega
  have u9:(u:Int)<9223372036854775808:=by omega
  have hbelow:Below w.heap.size w w2:=by
   rw [HW2.out]
   exact ⟨HBL.out.os,HBL.out.tape,HBL.out.output,HBL.out.size,HBL.out.block⟩
  have HBL2:=Lib.hid hbelow
  have hA0:=and_one u (by omega)
  clear hbelow
  by_cases hc:36028797018963966 <= u
  ·have t2:decide ((36028797018963966:Int) <= (u:Int))=true:=decide_eq_true (by omega)
   obtain ⟨v,hv⟩:∃ v,v=(if u % 2=1 then u / 2 / 2*2+1 else u / 2):=⟨_,rfl⟩
   have hn:=HN.out.2 hc
   rw [<- hv] at hn
   have hv9:v<9223372036854775808:=by rw [hv]; split <;> omega
   have hor:bits BinOp.or IntKind.u64 ((u:Int) / 2) (bits BinOp.and IntKind.u64 (u:Int) 1)=(v:Int):=by
    rw [hA0,show (u:Int) / 2=((u / 2:Nat):Int) by omega,hv]
    by_cases ho:u % 2=1
    ·rw [ho,if_pos rfl]
     exact or_one _ (by omega)
    ·rw [if_neg ho,show u % 2=0 by omega]
     exact or_zero _ (by omega)
   have hrd:=fun W=>round_any (v:Int) (by omega) (by omega) W
   rw [round_eq v hv9] at hrd
   obtain ⟨R,hR⟩:∃ R,rnd v=R:=⟨_,rfl⟩
   rw [hR] at hrd hn
   have hsg:=orS neg R hn.2.1
   have hpk:=fun W=>pack_any neg R (t+1) hn.2.1 (.inr hn.2.2) (by have:=HP.out.2.2.2.2.2.2.2.2; omega) W
   have het : -(e-1)=((t+1:Nat):Int)-1074:=by have:=HP.out.2.2.2.1; omega
   rw [<- het,near_eq (Nat.pow_pos (by decide)) hn.1] at hpk
   obtain ⟨F,E,hFE⟩:∃ F E,pkV neg (nearX (d*10 ^ ((i:Int)-348).toNat) (10 ^ (-((i:Int)-348)).toNat)) = .tuple #[F,E]:=⟨_,_,rfl⟩
   rw [hFE] at hpk ⊢
   have HPK:=Lib.hid (And.intro hrd hpk)
   have HFE:=Lib.hid hFE
   clear hrd hpk hFE hn hv hR het hA0
   go_upto_region 10 with (first | (go_at_call 169; (with_reducible refine (unmin_53 _).mono ?_); rintro e w' ⟨rfl,hw'⟩; obtain rfl:=hw'.symm) | (go_at_call 168; (with_reducible refine (b2i true _).mono ?_); rintro e w' ⟨rfl,hw'⟩; obtain rfl:=hw'.symm))
   go_wp2_with (first | (go_at_call 166; (with_reducible refine (HPK.out.1 _).mono ?_); rintro e w' ⟨rfl,hw'⟩; obtain rfl:=hw'.symm) | (go_at_call 209; (with_reducible refine (HPK.out.2 _).mono ?_); rintro e w' ⟨rfl,hw'⟩; obtain rfl:=hw'.symm))
   go_ret2
   exact ⟨by rw [HFE.out]; rfl,HBL2.out⟩
  ·have t2:decide ((36028797018963966:Int) <= (u:Int))=false:=decide_eq_false (by omega)
   have hn:=HN.out.1 hc
   have hor:bits BinOp.or IntKind.u64 (u:Int) (bits BinOp.and IntKind.u64 (u:Int) 1)=(u:Int):=by
    rw [hA0]
    by_cases ho:u % 2=1
    ·rw [ho]
     refine (or_one _ (by omega)).trans ?_
     omega
    ·rw [show u % 2=0 by omega]
     exact or_zero _ (by omega)
   have hrd:=fun W=>round_any (u:Int) (by omega) (by omega) W
   rw [round_eq u hu9] at hrd
   obtain ⟨R,hR⟩:∃ R,rnd u=R:=⟨_,rfl⟩
   rw [hR] at hrd hn
   have hsg:=orS neg R hn.2.1
   have hpk:=fun W=>pack_any neg R t hn.2.1 hn.2.2 (Nat.le_succ_of_le HP.out.2.2.2.2.2.2.2.2) W
   have het : -e=(t:Int)-1074:=by have:=HP.out.2.2.2.1; omega
   rw [<- het,near_eq (Nat.pow_pos (by decide)) hn.1] at hpk
   obtain ⟨F,E,hFE⟩:∃ F E,pkV neg (nearX (d*10 ^ ((i:Int)-348).toNat) (10 ^ (-((i:Int)-348)).toNat)) = .tuple #[F,E]:=⟨_,_,rfl⟩
   rw [hFE] at hpk ⊢
   have HPK:=Lib.hid (And.intro hrd hpk)
   have HFE:=Lib.hid hFE
   clear hrd hpk hFE hn hR het hA0
   go_upto_region 10 with (first | (go_at_call 169; (with_reducible refine (unmin_53 _).mono ?_); rintro e w' ⟨rfl,hw'⟩; obtain rfl:=hw'.symm) | (go_at_call 168; (with_reducible refine (b2i false _).mono ?_); rintro e w' ⟨rfl,hw'⟩; obtain rfl:=hw'.symm))
   go_wp2_with (first | (go_at_call 166; (with_reducible refine (HPK.out.1 _).mono ?_); rintro e w' ⟨rfl,hw'⟩; obtain rfl:=hw'.symm) | (go_at_call 209; (with_reducible refine (HPK.out.2 _).mono ?_); rintro e w' ⟨rfl,hw'⟩; obtain rfl:=hw'.symm))
   go_ret2
   exact ⟨by rw [HFE.out]; rfl,HBL2.out⟩
end Go.Proofs.YtejmbbkklhpnaaaGreatDoor.rdf

/- Rounding to a float64, and the product and the quotient of two, are the nearest floats of what is exact. Plain. -/
namespace Go.Proofs.YtejmbbkklhpnaaaGreatDoor.fpm
open Go Go.RowKit prnw flatm
theorem cut_rne (neg:Bool) (n v:Nat):Ieee.Toward.cut .even neg n v=rne n (2 ^ v):=by
 have e:Ieee.Toward.cut .even neg n v=rne n (2 ^ min v (n.log2+2)):=by
  unfold Ieee.Toward.cut rne
  rw [Nat.shiftLeft_eq,Nat.one_mul]
  generalize 2 ^ min v (n.log2+2)=g
  simp only
  congr 1
  by_cases h1:g<2*(n % g)
  ·rw [decide_eq_true h1,if_pos (.inl h1)]
   rfl
  ·rw [decide_eq_false h1,Bool.false_or]
   by_cases h2:2*(n % g)=g∧n / g % 2=1
   ·rw [if_pos (.inr h2)]
    have a1:(g == 2*(n % g))=true:=beq_iff_eq.2 h2.1.symm
    have a2:(n / g % 2 == 1)=true:=beq_iff_eq.2 h2.2
    rw [a1,a2]
    rfl
   ·rw [if_neg (fun h=>h.elim h1 h2)]
    have a1:((g == 2*(n % g)) && (n / g % 2 == 1))=false:=by
     rw [Bool.and_eq_false_iff]
     by_cases h3:2*(n % g)=g
     ·exact .inr (beq_eq_false_iff_ne.2 fun h=>h2 ⟨h3,h⟩)
     ·exact .inl (beq_eq_false_iff_ne.2 fun h=>h3 h.symm)
    rw [a1]
    rfl
 rw [e]
 by_cases h:v <= n.log2+2
 ·rw [Nat.min_eq_left h]
 ·rw [Nat.min_eq_right (by omega)]
  have small:∀ k,n.log2+2 <= k -> rne n (2 ^ k)=0:=fun k hk=>by
   have h1:n<2 ^ (n.log2+1):=Nat.lt_log2_self
   have h2:(2:Nat) ^ (n.log2+1)*2 <= 2 ^ k:=by
    rw [<- Nat.pow_succ]
    exact Nat.pow_le_pow_right (by decide) hk
   generalize 2 ^ k=g at *
   generalize 2 ^ (n.log2+1)=l at *
   unfold rne
   rw [Nat.div_eq_of_lt (by omega),Nat.mod_eq_of_lt (by omega),if_neg (by omega)]
  rw [small _ (Nat.le_refl _),small v (by omega)]
def infW:Nat:=9218868437227405312
theorem infW_eq:infW=9218868437227405312:=rfl
theorem near_core (neg:Bool) (m:Nat) (p:Int) (hm:0<m):∃ t u v:Nat,(t:Int)=p-u+v+1074∧(t=0∨4503599627370496*2 ^ v <= m*2 ^ u)∧m*2 ^ u <= 9007199254740992*2 ^ v∧(54 <= m.log2 -> u=0∧2 <= v) ∧
  Ieee.Format.nearest Ieee.double neg m p=Ieee.double.word neg (min (t*4503599627370496+rne (m*2 ^ u) (2 ^ v)) infW):=by
 have hf:Ieee.double.fractionBits=52:=rfl
 have hb:Ieee.double.binade=4503599627370496:=by kernel_rfl
 have hi:Ieee.double.infRung=infW:=by kernel_rfl
 have hl:Ieee.double.leastPlace = -1074:=by kernel_rfl
 obtain ⟨L,hL⟩:∃ L,m.log2=L:=⟨_,rfl⟩
 obtain ⟨last,hlast⟩:∃ last:Int,last=max (p+(L:Int)-52) (-1074):=⟨_,rfl⟩
 have h1:m<2 ^ (L+1):=by rw [<- hL]; exact Nat.lt_log2_self
 have h2:2 ^ L <= m:=by rw [<- hL]; exact Nat.log2_self_le (by omega)
 refine ⟨(last+1074).toNat,(p-last).toNat,(last-p).toNat,by omega,?_,?_,fun h=>by omega,?_⟩
 ·by_cases h0:last = -1074
  ·left; omega
  ·right
   have e:last=p+(L:Int)-52:=by omega
   by_cases h52:L <= 52
   ·have e1:(p-last).toNat=52-L:=by omega
    have e2:(last-p).toNat=0:=by omega
    rw [e1,e2,Nat.pow_zero,Nat.mul_one]
    have:=Nat.mul_le_mul_right (2 ^ (52-L)) h2
    rw [<- Nat.pow_add,show L+(52-L)=52 by omega] at this
    exact Nat.le_trans (by decide) this
   ·have e1:(p-last).toNat=0:=by omega
    have e2:(last-p).toNat=L-52:=by omega
    rw [e1,e2,Nat.pow_zero,Nat.mul_one]
    have:(4503599627370496:Nat)*2 ^ (L-52)=2 ^ L:=by
     rw [show (4503599627370496:Nat)=2 ^ 52 by decide,<- Nat.pow_add,show 52+(L-52)=L by omega]
    omega
 ·have hu:L+1+(p-last).toNat <= 53+(last-p).toNat:=by omega
  have h3:m*2 ^ (p-last).toNat <= 2 ^ (L+1)*2 ^ (p-last).toNat:=Nat.mul_le_mul_right _ (Nat.le_of_lt h1)
  rw [<- Nat.pow_add] at h3
  have h4:(2:Nat) ^ (L+1+(p-last).toNat) <= 2 ^ (53+(last-p).toNat):=Nat.pow_le_pow_right (by decide) hu
  rw [Nat.pow_add 2 53] at h4
  exact Nat.le_trans h3 (Nat.le_trans h4 (Nat.le_of_eq (by congr 1)))
 ·unfold Ieee.Format.nearest
  rw [if_neg (by omega)]
  simp only [hf,hb,hi,hl]
  rw [hL,show ((52:Nat):Int)=52 by rfl,<- hlast,cut_rne,Nat.shiftLeft_eq,show last - -1074=last+1074 by omega]
theorem two_cancel {a b k:Nat} (h:a*2 ^ k=b*2 ^ k):a=b:=Nat.eq_of_mul_eq_mul_right (Nat.two_pow_pos k) h
theorem pw3 (m x y z:Nat):m*2 ^ x*2 ^ y*2 ^ z=m*2 ^ (x+y+z):=by rw [Nat.pow_add,Nat.pow_add,<- Nat.mul_assoc,<- Nat.mul_assoc]
theorem nearest_eq (neg:Bool) (m:Nat) (p:Int) (hm:0<m):Ieee.Format.nearest Ieee.double neg m p=Ieee.double.word neg (min (nearX (m*2 ^ p.toNat) (2 ^ (-p).toNat)) infW):=by
 obtain ⟨t,u,v,e1,e2,e3,_,e5⟩:=near_core neg m p hm
 obtain ⟨a,b,c⟩:=rne_spec (m*2 ^ u) (2 ^ v) (Nat.two_pow_pos v)
 rw [e5]
 refine congrArg (fun x=>Ieee.double.word neg (min x infW)) ?_
 refine near_eq (Nat.two_pow_pos _) (near_mk _ _ (2 ^ v) (m*2 ^ u) t _ (Nat.two_pow_pos _) (Nat.two_pow_pos v) ?_ a b c (rne_le (Nat.two_pow_pos v) e3) e2)
 have hk:p.toNat+leB+v=u+t+(-p).toNat:=by
  have:=leB_eq
  omega
 rw [pw3,pw3,hk]
theorem nearest_frac (neg:Bool) (E n:Nat) (p:Int) (hn:0<n) (hq:9007199254740992 <= E / n) (C D:Nat) (hD:0<D) (h:E*2 ^ (p+1).toNat*D=C*n*2 ^ (-(p+1)).toNat) :
  Ieee.Format.nearest Ieee.double neg (2*(E / n)+(E % n != 0).toNat) p=Ieee.double.word neg (min (nearX C D) infW):=by
 obtain ⟨q,hqd⟩:∃ q,E / n=q:=⟨_,rfl⟩
 obtain ⟨r,hr⟩:∃ r,E % n=r:=⟨_,rfl⟩
 have hEn:E=n*q+r:=by rw [<- hqd,<- hr]; exact (Nat.div_add_mod E n).symm
 have hrn:r<n:=by rw [<- hr]; exact Nat.mod_lt _ hn
 rw [hqd] at hq ⊢
 rw [hr]
 obtain ⟨s,hs⟩:∃ s,(r != 0).toNat=s:=⟨_,rfl⟩
 have hs1:(s=0∧r=0)∨(s=1∧0<r):=by
  by_cases h0:r=0
  ·left; rw [<- hs,h0]; exact ⟨rfl,rfl⟩
  ·right
   rw [<- hs,show (r != 0)=true from bne_iff_ne.2 h0]
   exact ⟨rfl,by omega⟩
 rw [hs]
 obtain ⟨t,u,v,e1,e2,e3,e4,e5⟩:=near_core neg (2*q+s) p (by omega)
 rw [e5]
 have hlog:54 <= (2*q+s).log2:=by
  rw [Nat.le_log2 (by omega)]
  exact Nat.le_trans (show (2:Nat) ^ 54 <= 2*9007199254740992 by decide) (by omega)
 obtain ⟨hu,hv⟩:=e4 hlog
 subst hu
 rw [Nat.pow_zero,Nat.mul_one] at e2 e3 ⊢
 obtain ⟨a,b,c⟩:=rne_spec (2*q+s) (2 ^ v) (Nat.two_pow_pos v)
 have hR:=rne_le (Nat.two_pow_pos v) e3
 refine congrArg (fun x=>Ieee.double.word neg (min x infW)) ?_
 obtain ⟨R,hRd⟩:∃ R,rne (2*q+s) (2 ^ v)=R:=⟨_,rfl⟩
 rw [hRd] at a b c hR ⊢
 refine near_eq hD (near_mk C D (n*2 ^ v) (2*E) t R hD (Nat.mul_pos hn (Nat.two_pow_pos v)) ?_ ?_ ?_ ?_ hR ?_)
 ·have hk2:(p+1).toNat+(leB+v)=1+t+(-(p+1)).toNat:=by
   have:=leB_eq
   omega
  have hp2:2 ^ (p+1).toNat*(2 ^ leB*2 ^ v)=2*2 ^ t*2 ^ (-(p+1)).toNat:=by
   rw [<- Nat.pow_add,<- Nat.pow_add,hk2,Nat.pow_add,Nat.pow_add,Nat.pow_one]
  have hK:0<2 ^ (-(p+1)).toNat:=Nat.two_pow_pos _
  generalize 2 ^ leB=Z at *
  generalize 2 ^ (p+1).toNat=P at *
  generalize 2 ^ (-(p+1)).toNat=K at *
  generalize 2 ^ t=T at *
  generalize 2 ^ v=V at *
  clear e1 e2 e3 e5 a b c
  refine Nat.eq_of_mul_eq_mul_right hK ?_
  calc C*Z*(n*V)*K=C*n*K*(Z*V):=by ac_rfl
   _=E*D*(P*(Z*V)):=by rw [<- h]; ac_rfl
   _=E*D*(2*T*K):=by rw [hp2]
   _=2*E*T*D*K:=by ac_rfl
 all_goals
  obtain ⟨z,hz⟩:∃ z,2 ^ v=4*z:=⟨2 ^ (v-2),by
   have h4:(2:Nat) ^ v=2 ^ (2+(v-2)):=by congr 1; omega
   rw [h4,Nat.pow_add]⟩
  rw [hz] at a b c e2 ⊢
  obtain ⟨Q,hQ⟩:∃ Q,Q=R*z:=⟨_,rfl⟩
  obtain ⟨Qn,hQn⟩:∃ Qn,Qn=Q*n:=⟨_,rfl⟩
  obtain ⟨zn,hzn⟩:∃ zn,zn=z*n:=⟨_,rfl⟩
  obtain ⟨qn,hqn⟩:∃ qn,qn=q*n:=⟨_,rfl⟩
  have k1:R*(4*z)=4*Q:=by rw [hQ]; ac_rfl
  have k2:R*(n*(4*z))=4*Qn:=by rw [hQn,hQ]; ac_rfl
  have k3:n*(4*z)=4*zn:=by rw [hzn]; ac_rfl
  have k4:E=qn+r:=by rw [hqn,Nat.mul_comm q n]; exact hEn
  have mul_le:∀ x y:Nat,x <= y -> x*n <= y*n:=fun x y h=>Nat.mul_le_mul_right n h
 ·rw [k1] at a b
  rw [k2,k3,k4]
  have f1:=mul_le (4*Q) (2*q+2*z) (by omega)
  rw [Nat.add_mul,Nat.mul_assoc,Nat.mul_assoc,Nat.mul_assoc,<- hQn,<- hqn,<- hzn] at f1
  omega
 ·rw [k1] at a b
  rw [k2,k3,k4]
  rcases hs1 with ⟨s0,r0⟩ | ⟨s1,r1⟩
  ·have f1:=mul_le (2*q) (4*Q+2*z) (by omega)
   rw [Nat.add_mul,Nat.mul_assoc,Nat.mul_assoc,Nat.mul_assoc,<- hQn,<- hqn,<- hzn] at f1
   omega
  ·have f1:=mul_le (2*q+2) (4*Q+2*z) (by omega)
   rw [Nat.add_mul,Nat.add_mul,Nat.mul_assoc,Nat.mul_assoc,Nat.mul_assoc,<- hQn,<- hqn,<- hzn] at f1
   omega
 ·intro ho
  have hc:=c ho
  rw [k1] at hc
  rw [k2,k3,k4]
  rcases hs1 with ⟨s0,r0⟩ | ⟨s1,r1⟩
  ·have f1:=mul_le (4*Q+1) (2*q+2*z) (by omega)
   have f2:=mul_le (2*q+1) (4*Q+2*z) (by omega)
   rw [Nat.add_mul,Nat.add_mul,Nat.mul_assoc,Nat.mul_assoc,Nat.mul_assoc,<- hQn,<- hqn,<- hzn] at f1 f2
   omega
  ·have f1:=mul_le (4*Q) (2*q+2*z) (by omega)
   have f2:=mul_le (2*q+2) (4*Q+2*z) (by omega)
   rw [Nat.add_mul,Nat.mul_assoc,Nat.mul_assoc,Nat.mul_assoc,<- hQn,<- hqn,<- hzn] at f1
   rw [Nat.add_mul,Nat.add_mul,Nat.mul_assoc,Nat.mul_assoc,Nat.mul_assoc,<- hQn,<- hqn,<- hzn] at f2
   omega
 ·rw [k3,k4]
  refine e2.imp_right fun h2 => ?_
  have f1:=mul_le (4503599627370496*(2*z)) q (by omega)
  have e:4503599627370496*(2*z)*n=4503599627370496*(2*zn):=by rw [hzn]; ac_rfl
  rw [e,<- hqn] at f1
  omega
theorem word_eq (s:Bool) (X:Nat):Ieee.double.word s X=if s then 9223372036854775808+X else X:=by
 have hw:Ieee.double.signWeight=9223372036854775808:=by kernel_rfl
 unfold Ieee.Format.word
 rw [hw]
theorem word_read (s:Bool) (X:Nat) (hX:X<infW):∃ m a:Nat,Ieee.Format.read Ieee.double (Ieee.double.word s X) = .number s m ((-1074:Int)+a)∧m*2 ^ a=valR X:=by
 have hi:=infW_eq
 have hm:Ieee.double.word s X % 9223372036854775808=X:=by
  rw [word_eq]
  split <;> omega
 obtain ⟨m,a,h1,h2⟩:=read_num (Ieee.double.word s X) (by rw [hm]; omega)
 rw [hm] at h2
 refine ⟨m,a,?_,h2⟩
 rw [h1]
 congr 1
 rw [word_eq]
 cases s
 ·rw [if_neg (by decide),beq_eq_false_iff_ne]
  omega
 ·rw [if_pos rfl,beq_iff_eq]
  omega
theorem val_pos {X:Nat} (h:0<X):0<valR X:=Nat.pos_of_ne_zero fun e=>by have:=val_zero e; omega
theorem mul_near (s t:Bool) (X Y C D:Nat) (hX0:0<X) (hX:X<infW) (hY0:0<Y) (hY:Y<infW) (hD:0<D) (h:valR X*valR Y*D=C*2 ^ leB*2 ^ leB) :
  Ieee.double.mul (Ieee.double.word s X) (Ieee.double.word t Y)=some (Ieee.double.word (s ^^ t) (min (nearX C D) infW)):=by
 obtain ⟨m,a,e1,v1⟩:=word_read s X hX
 obtain ⟨n,b,e2,v2⟩:=word_read t Y hY
 have hm:0<m:=Nat.pos_of_ne_zero fun e=>by
  have:=val_pos hX0
  rw [<- v1,e,Nat.zero_mul] at this
  omega
 have hn:0<n:=Nat.pos_of_ne_zero fun e=>by
  have:=val_pos hY0
  rw [<- v2,e,Nat.zero_mul] at this
  omega
 unfold Ieee.Format.mul
 rw [e1,e2]
 show some (Ieee.Format.nearest Ieee.double (s ^^ t) (m*n) _)=_
 rw [nearest_eq _ _ _ (Nat.mul_pos hm hn)]
 refine congrArg (fun x=>some (Ieee.double.word (s ^^ t) (min x infW))) ?_
 refine near_same (Nat.two_pow_pos _) hD ?_
 obtain ⟨p,hp⟩:∃ p:Int,(-1074:Int)+a+(-1074+b)=p:=⟨_,rfl⟩
 rw [hp]
 have hk:p.toNat+(leB+leB)=a+b+(-p).toNat:=by
  have:=leB_eq
  omega
 have hp2:2 ^ p.toNat*(2 ^ leB*2 ^ leB)=2 ^ a*2 ^ b*2 ^ (-p).toNat:=by
  rw [<- Nat.pow_add,<- Nat.pow_add,hk,Nat.pow_add,Nat.pow_add]
 rw [<- v1,<- v2] at h
 have hZ:0<2 ^ leB:=Nat.two_pow_pos _
 generalize 2 ^ leB=Z at *
 generalize 2 ^ p.toNat=P at *
 generalize 2 ^ (-p).toNat=K at *
 generalize 2 ^ a=u at *
 generalize 2 ^ b=v at *
 refine Nat.eq_of_mul_eq_mul_right (Nat.mul_pos hZ hZ) ?_
 calc m*n*P*D*(Z*Z)=m*n*D*(P*(Z*Z)):=by ac_rfl
  _=m*u*(n*v)*D*K:=by rw [hp2]; ac_rfl
  _=C*K*(Z*Z):=by rw [h]; ac_rfl
theorem div_near (s t:Bool) (X Y C D:Nat) (hX0:0<X) (hX:X<infW) (hY0:0<Y) (hY:Y<infW) (hD:0<D) (h:valR X*D=C*valR Y) :
  Ieee.double.div (Ieee.double.word s X) (Ieee.double.word t Y)=some (Ieee.double.word (s ^^ t) (min (nearX C D) infW)):=by
 obtain ⟨m,a,e1,v1⟩:=word_read s X hX
 obtain ⟨n,b,e2,v2⟩:=word_read t Y hY
 have hm:0<m:=Nat.pos_of_ne_zero fun e=>by
  have:=val_pos hX0
  rw [<- v1,e,Nat.zero_mul] at this
  omega
 have hn:0<n:=Nat.pos_of_ne_zero fun e=>by
  have:=val_pos hY0
  rw [<- v2,e,Nat.zero_mul] at this
  omega
 unfold Ieee.Format.div
 rw [e1,e2]
 unfold Ieee.Datum.quotient
 dsimp only
 rw [if_neg (by omega)]
 obtain ⟨k,hk⟩:∃ k,Ieee.double.fractionBits+2+n.log2-m.log2=k:=⟨_,rfl⟩
 simp only [hk,Nat.shiftLeft_eq]
 have hk2:54+n.log2 <= m.log2+k:=by
  have:Ieee.double.fractionBits=52:=rfl
  omega
 show some (Ieee.Format.nearest Ieee.double (s ^^ t) _ _)=_
 rw [nearest_frac (s ^^ t) (m*2 ^ k) n _ hn ?_ C D hD ?_]
 ·rw [Nat.le_div_iff_mul_le hn]
  have f1:n<2 ^ (n.log2+1):=Nat.lt_log2_self
  have f2:2 ^ m.log2 <= m:=Nat.log2_self_le (by omega)
  have f3:2 ^ m.log2*2 ^ k <= m*2 ^ k:=Nat.mul_le_mul_right _ f2
  rw [<- Nat.pow_add] at f3
  have f4:(2:Nat) ^ (54+n.log2) <= 2 ^ (m.log2+k):=Nat.pow_le_pow_right (by decide) hk2
  rw [show 54+n.log2=53+(n.log2+1) by omega,Nat.pow_add 2 53] at f4
  have f5:9007199254740992*n <= 2 ^ 53*2 ^ (n.log2+1):=Nat.mul_le_mul (by decide) (Nat.le_of_lt f1)
  omega
 ·rw [<- v1,<- v2] at h
  obtain ⟨p,hp⟩:∃ p:Int,(-1074:Int)+a-(-1074+b)-k-1=p:=⟨_,rfl⟩
  rw [hp]
  have hk3:k+(p+1).toNat+b=a+(-(p+1)).toNat:=by omega
  refine two_cancel (k:=b) ?_
  calc m*2 ^ k*2 ^ (p+1).toNat*D*2 ^ b=m*D*2 ^ (k+(p+1).toNat+b):=by rw [Nat.pow_add,Nat.pow_add]; ac_rfl
   _=m*D*2 ^ (a+(-(p+1)).toNat):=by rw [hk3]
   _=m*2 ^ a*D*2 ^ (-(p+1)).toNat:=by rw [Nat.pow_add]; ac_rfl
   _=C*n*2 ^ (-(p+1)).toNat*2 ^ b:=by rw [h]; ac_rfl
theorem ex_int (d:Nat) (h0:0<d) (hd:d <= 9007199254740992):∃ X,0<X∧X<infW∧valR X=d*2 ^ leB∧nearX d 1=X:=by
 by_cases he:d=9007199254740992
 ·refine ⟨4845873199050653696,by decide,by decide,by rw [he]; decide +kernel,by rw [he]; decide +kernel⟩
 obtain ⟨L,hL⟩:∃ L,d.log2=L:=⟨_,rfl⟩
 have h1:d<2 ^ (L+1):=by rw [<- hL]; exact Nat.lt_log2_self
 have h2:2 ^ L <= d:=by rw [<- hL]; exact Nat.log2_self_le (by omega)
 have hL52:L <= 52:=by
  have:(2:Nat) ^ L<2 ^ 53:=Nat.lt_of_le_of_lt h2 (Nat.lt_of_lt_of_le (show d<9007199254740992 by omega) (by decide))
  have:=(Nat.pow_lt_pow_iff_right (show 1<2 by decide)).1 this
  omega
 obtain ⟨R,hR⟩:∃ R,R=d*2 ^ (52-L):=⟨_,rfl⟩
 obtain ⟨t,ht⟩:∃ t,t=1022+L:=⟨_,rfl⟩
 have hR0:4503599627370496 <= R:=by
  have:=Nat.mul_le_mul_right (2 ^ (52-L)) h2
  rw [<- Nat.pow_add,show L+(52-L)=52 by omega,<- hR] at this
  exact Nat.le_trans (by decide) this
 have hR1:R<9007199254740992:=by
  have:=Nat.mul_lt_mul_of_pos_right h1 (Nat.two_pow_pos (52-L))
  rw [<- Nat.pow_add,show L+1+(52-L)=53 by omega,<- hR] at this
  exact Nat.lt_of_lt_of_le this (by decide)
 have hv:R*2 ^ t=d*2 ^ leB:=by
  rw [hR,Nat.mul_assoc,<- Nat.pow_add]
  congr 2
  have:=leB_eq
  omega
 refine ⟨t*4503599627370496+R,by omega,by have:=infW_eq; omega,?_,?_⟩
 ·unfold valR
  rw [if_neg (by omega),show (t*4503599627370496+R) / 4503599627370496=t+1 by omega,show 4503599627370496+(t*4503599627370496+R) % 4503599627370496=R by omega,Nat.add_sub_cancel,hv]
 ·refine (near_eq (by decide) (near_mk d 1 1 R t R (by decide) (by decide) (by rw [hv]) (by omega) (by omega) (fun _=>by omega) (by omega) (.inr (by omega)))).symm
theorem near_le {A B C D:Nat} (hB:0<B) (hD:0<D) (h:A*D <= C*B):nearX A B <= nearX C D:=near_mono hB hD (near_of A B hB) (near_of C D hD) h
end Go.Proofs.YtejmbbkklhpnaaaGreatDoor.fpm
