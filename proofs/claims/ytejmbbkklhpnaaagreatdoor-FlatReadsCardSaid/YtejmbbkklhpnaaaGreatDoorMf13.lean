/- Shortest digits: bounds of what unrounded scaling answers (plain), and the number itself. No conditions but those stated. -/
import Derived.Test.YtejmbbkklhpnaaaGreatDoorMf12
import Derived.Lib.ItoaLen
import Derived.Deep.AppendLies
namespace Go.Proofs.YtejmbbkklhpnaaaGreatDoor.prnw
open Go.RowKit
open nodew
open chkw
theorem or_ge (a b:Int) (ha:0 <= a) (ha2:a<9223372036854775808) (hb:0 <= b) (hb2:b<9223372036854775808):a <= bits BinOp.or IntKind.u64 a b∧bits BinOp.or IntKind.u64 a b<9223372036854775808:=by
 have h:bits BinOp.or IntKind.u64 a b=IntKind.u64.wrap (((BitVec.ofInt 64 a ||| BitVec.ofInt 64 b).toNat:Nat):Int):=rfl
 have h1:(BitVec.ofInt 64 a).toNat=a.toNat:=by
  rw [BitVec.toNat_ofInt]
  congr 1
  omega
 have h2:(BitVec.ofInt 64 b).toNat=b.toNat:=by
  rw [BitVec.toNat_ofInt]
  congr 1
  omega
 rw [h,IntKind.wrap_u64,BitVec.toNat_or,h1,h2]
 have h3:a.toNat ||| b.toNat<2 ^ 63:=Nat.or_lt_two_pow (by omega) (by omega)
 have h4:a.toNat <= a.toNat ||| b.toNat:=Nat.left_le_or
 omega
theorem us_lo (x hi lo:Nat) (s:Int) (hx:4611686018427387904 <= x) (hx2:x<18446744073709551616) (hh:9223372036854775808 <= hi) (hh2:hi<18446744073709551616) (s0:1 <= s) (s1:s <= 58):7 <= usI x hi lo s∧usI x hi lo s<9223372036854775808:=by
 have hk:=toNat_bits63 s (by omega) (by omega)
 unfold usI
 rw [hk]
 have hH:2305843009213693952 <= x*hi / 18446744073709551616:=by
  have:4611686018427387904*9223372036854775808 <= x*hi:=Nat.mul_le_mul hx hh
  omega
 have hH2:x*hi / 18446744073709551616<18446744073709551616:=by
  have h1:x*hi<18446744073709551616*18446744073709551616:=Nat.mul_lt_mul_of_lt_of_lt hx2 hh2
  exact Nat.div_lt_of_lt_mul h1
 obtain ⟨H,hHe⟩:∃ H,x*hi / 18446744073709551616=H:=⟨_,rfl⟩
 rw [hHe] at hH hH2 ⊢
 obtain ⟨k,rfl⟩:=Int.eq_ofNat_of_zero_le (show 0 <= s by omega)
 rw [Int.toNat_natCast]
 have e2:((2:Int) ^ k)=((2 ^ k:Nat):Int):=by norm_cast
 have p1:2 <= 2 ^ k:=by
  have:=Nat.pow_le_pow_right (show 0<2 by decide) (show 1 <= k by omega)
  simpa using this
 have p2:2 ^ k <= 288230376151711744:=by
  have:=Nat.pow_le_pow_right (show 0<2 by decide) (show k <= 58 by omega)
  simpa using this
 have q:∀ c:Nat,2305843009213693951 <= c -> c<18446744073709551616 -> (7:Int) <= (c:Int) / 2 ^ k∧(c:Int) / 2 ^ k<9223372036854775808:=fun c h1 h2=>by
  have a1:7 <= c / 2 ^ k:=(Nat.le_div_iff_mul_le (by omega)).2 (by omega)
  have a2:c / 2 ^ k<9223372036854775808:=Nat.div_lt_of_lt_mul (by
   have:2*9223372036854775808 <= 2 ^ k*9223372036854775808:=Nat.mul_le_mul_right _ p1
   omega)
  rw [e2]
  have e3:((c:Int) / ((2 ^ k:Nat):Int))=((c / 2 ^ k:Nat):Int):=by norm_cast
  rw [e3]
  omega
 split
 ·obtain ⟨a,b⟩:=q H (by omega) hH2
  have:=or_ge _ 1 (by omega) b (by decide) (by decide)
  omega
 ·have hw:∃ c:Nat,IntKind.u64.wrap ((H:Int)-(if x*hi % 18446744073709551616<x*lo / 18446744073709551616 then 1 else 0))=(c:Int)∧2305843009213693951 <= c∧c<18446744073709551616:=by
   split
   ·exact ⟨H-1,by rw [IntKind.wrap_u64]; omega,by omega,by omega⟩
   ·exact ⟨H,by rw [IntKind.wrap_u64]; omega,by omega,by omega⟩
  obtain ⟨c,hc,c1,c2⟩:=hw
  rw [hc]
  obtain ⟨a,b⟩:=q c c1 c2
  have:=or_ge ((c:Int) / 2 ^ k) (if 1<IntKind.u64.wrap (((x*hi % 18446744073709551616:Nat):Int)-((x*lo / 18446744073709551616:Nat):Int)) then 1 else 0) (by omega) b (by split <;> decide) (by split <;> decide)
  omega
end Go.Proofs.YtejmbbkklhpnaaaGreatDoor.prnw

/- The shortest digits of a number. No conditions but those stated. -/
namespace Go.Proofs.YtejmbbkklhpnaaaGreatDoor.prnw
open Go.RowKit
open nodew
open chkw
def sfB (m e:Int):Bool:=m == 9223372036854775808 && decide (-1085<e)
def sfZ (e:Int):Int:=if -1085 <= e then 11 else 11+(-1085-e)
def sfP (m e:Int):Int:=if sfB m e then -(((e+11)*631305-261663) / 2097152) else -((e+sfZ e)*78913 / 262144)
def sfMn (m e:Int):Int:=if sfB m e then IntKind.u64.wrap (m-512) else if -1085 <= e then IntKind.u64.wrap (m-1024) else IntKind.u64.wrap (m-IntKind.u64.wrap (2 ^ ((sfZ e).toNat-1)))
def sfMx (m e:Int):Int:=if -1085 <= e then IntKind.u64.wrap (m+1024) else IntKind.u64.wrap (m+IntKind.u64.wrap (2 ^ ((sfZ e).toNat-1)))
def sfO (m e:Int):Int:=bits BinOp.and IntKind.i64 (wrap64 (m / 2 ^ (sfZ e).toNat)) 1
theorem and1 (s:Int):0 <= bits BinOp.and IntKind.i64 s 1∧bits BinOp.and IntKind.i64 s 1 <= 1:=by
 have h:bits BinOp.and IntKind.i64 s 1=IntKind.i64.wrap (((BitVec.ofInt 64 s &&& BitVec.ofInt 64 1).toNat:Nat):Int):=rfl
 have h2:(BitVec.ofInt 64 s &&& BitVec.ofInt 64 1).toNat <= 1:=by
  rw [BitVec.toNat_and]
  exact Nat.le_trans Nat.and_le_right (by decide)
 rw [h,IntKind.wrap_i64]
 omega
def sfI (m e:Int):Nat:=(sfP m e+348).toNat
def sfS (m e:Int):Int:=-(e+sfP m e*108853 / 32768+3)
def sfU (hi lo:Nat -> Nat) (m e x:Int):Int:=usI x.toNat (hi (sfI m e)) (lo (sfI m e)) (sfS m e)
def sfDn (hi lo:Nat -> Nat) (m e:Int):Int:=ceilI (nudgeI (sfU hi lo m e (sfMn m e)) (sfO m e))
def sfDx (hi lo:Nat -> Nat) (m e:Int):Int:=nudgeI (sfU hi lo m e (sfMx m e)) (-(sfO m e)) / 4
def sfR (hi lo:Nat -> Nat) (m e:Int):Int × Int :=
 if sfDn hi lo m e <= sfDx hi lo m e / 10*10 then (sfDx hi lo m e / 10,-(sfP m e-1))
 else if sfDn hi lo m e<sfDx hi lo m e then (roundI (sfU hi lo m e m),-(sfP m e))
 else (sfDn hi lo m e,-(sfP m e))
theorem sf_p (m e:Int) (e0 : -1137 <= e) (e1:e <= 960) : -347 <= sfP m e∧sfP m e <= 347∧1 <= sfS m e∧sfS m e <= 58:=by
 unfold sfS
 by_cases hb:sfB m e=true
 ·have he : -1085<e:=by
   unfold sfB at hb
   simp only [Bool.and_eq_true,decide_eq_true_eq] at hb
   exact hb.2
  have r1:sfP m e = -(((e+11)*631305-261663) / 2097152):=if_pos hb
  rw [r1]
  omega
 ·by_cases he : -1085 <= e
  ·have r1:sfP m e = -((e+11)*78913 / 262144):=by unfold sfP sfZ; rw [if_neg hb,if_pos he]
   rw [r1]
   omega
  ·have rz:sfZ e=11+(-1085-e):=if_neg he
   have r1:sfP m e = -((e+(11+(-1085-e)))*78913 / 262144):=by unfold sfP; rw [if_neg hb,rz]
   have r2:e+(11+(-1085-e)) = -1074:=by omega
   rw [r1,r2]
   omega
theorem sf_mn (m e:Int) (hm0:9223372036854775808 <= m) (hm:m<18446744073709551616) (e0 : -1137 <= e) (e1:e <= 960):4611686018427387904 <= sfMn m e∧sfMn m e<18446744073709551616:=by
 unfold sfMn
 split
 ·rw [IntKind.wrap_u64]; omega
 ·split
  ·rw [IntKind.wrap_u64]; omega
  ·rename_i he
   have rz:sfZ e=11+(-1085-e):=if_neg he
   rw [rz]
   obtain ⟨k,hk⟩:∃ k,k=(11+(-1085-e)).toNat-1:=⟨_,rfl⟩
   rw [<- hk]
   have hk2:k <= 62:=by omega
   have e2:((2:Int) ^ k)=((2 ^ k:Nat):Int):=by norm_cast
   have p2:2 ^ k <= 4611686018427387904:=by
    have:=Nat.pow_le_pow_right (show 0<2 by decide) hk2
    simpa using this
   obtain ⟨q,hq⟩:∃ q,q=2 ^ k:=⟨_,rfl⟩
   rw [e2,<- hq,IntKind.wrap_u64,IntKind.wrap_u64]
   rw [<- hq] at p2
   clear hq e2
   omega
theorem sf_mx (m e:Int):0 <= sfMx m e∧sfMx m e<18446744073709551616:=by
 unfold sfMx
 split
 ·exact w64 _
 ·exact w64 _
theorem sf_d (hi lo:Nat -> Nat) (m e:Int) (hm0:9223372036854775808 <= m) (hm:m<18446744073709551616) (e0 : -1137 <= e) (e1:e <= 960) (hh:∀ i,i<696 -> 9223372036854775808 <= hi i∧hi i<18446744073709551616) :
  1 <= (sfR hi lo m e).1∧(sfR hi lo m e).1<18446744073709551616 ∧ -348 <= (sfR hi lo m e).2∧(sfR hi lo m e).2 <= 348:=by
 obtain ⟨p0,p1,s0,s1⟩:=sf_p m e e0 e1
 obtain ⟨n0,n1⟩:=sf_mn m e hm0 hm e0 e1
 obtain ⟨o0,o1⟩:=and1 (wrap64 (m / 2 ^ (sfZ e).toNat))
 have hi0:sfI m e<696:=by unfold sfI; omega
 obtain ⟨t0,t1⟩:=hh _ hi0
 obtain ⟨u0,u1⟩:=us_lo (sfMn m e).toNat (hi (sfI m e)) (lo (sfI m e)) (sfS m e) (by omega) (by omega) t0 t1 s0 s1
 obtain ⟨v0,v1⟩:=us_lo m.toNat (hi (sfI m e)) (lo (sfI m e)) (sfS m e) (by omega) (by omega) t0 t1 s0 s1
 have hn1:1 <= sfDn hi lo m e∧sfDn hi lo m e<18446744073709551616:=by
  unfold sfDn ceilI nudgeI sfU sfO
  rw [IntKind.wrap_u64,IntKind.wrap_u64,IntKind.wrap_u64]
  omega
 have hx:=nudge_bd (sfU hi lo m e (sfMx m e)) (-(sfO m e))
 have hx2:0 <= sfDx hi lo m e∧sfDx hi lo m e<18446744073709551616:=by unfold sfDx; omega
 have hr:1 <= roundI (sfU hi lo m e m)∧roundI (sfU hi lo m e m)<18446744073709551616:=by
  refine ⟨?_,(round_bd _).2⟩
  unfold roundI sfU
  obtain ⟨c,hc⟩:∃ c,bits BinOp.and IntKind.u64 (usI m.toNat (hi (sfI m e)) (lo (sfI m e)) (sfS m e) / 4) 1=c:=⟨_,rfl⟩
  have hc2:0 <= c∧c <= 1:=by
   rw [<- hc]
   have h:∀ a:Int,bits BinOp.and IntKind.u64 a 1=IntKind.u64.wrap (((BitVec.ofInt 64 a &&& BitVec.ofInt 64 1).toNat:Nat):Int):=fun _=>rfl
   have h2:∀ a:Int,(BitVec.ofInt 64 a &&& BitVec.ofInt 64 1).toNat <= 1:=fun a=>by
    rw [BitVec.toNat_and]
    exact Nat.le_trans Nat.and_le_right (by decide)
   rw [h,IntKind.wrap_u64]
   have:=h2 (usI m.toNat (hi (sfI m e)) (lo (sfI m e)) (sfS m e) / 4)
   omega
  rw [hc,IntKind.wrap_u64,IntKind.wrap_u64]
  omega
 unfold sfR
 split
 ·refine ⟨?_,?_,?_,?_⟩ <;> dsimp only <;> omega
 ·split
  ·refine ⟨?_,?_,?_,?_⟩ <;> dsimp only <;> omega
  ·refine ⟨?_,?_,?_,?_⟩ <;> dsimp only <;> omega
def SfPost (w:World) (r:Int × Int) (x:Ending) (w':World):Prop:=x = .returned (.tuple #[.int .u64 r.1,.int .i64 r.2])∧Below w.heap.size w w'
set_option maxRecDepth 100000 in
set_option maxHeartbeats 1000000 in
theorem short_any (hi lo:Nat -> Nat) (m:Nat) (e:Int) (hm0:9223372036854775808 <= m) (hm:m<18446744073709551616) (e0 : -1137 <= e) (e1:e <= 960) (w:World) (hT:PT hi lo w) (hTn : 8 < w.heap.size) :
  Calls Tryz.prog 141 #[.int .u64 m,.int .i64 e] w (SfPost w (sfR hi lo m e)):=by
 have HM:=Lib.hid (And.intro hm0 hm)
 have HT:=Lib.hid (And.intro hT hTn)
 obtain ⟨mi,hmi⟩:∃ mi:Int,mi=(m:Int):=⟨_,rfl⟩
 have pb:=sf_p mi e e0 e1
 have nb:=sf_mn mi e (by omega) (by omega) e0 e1
 have xb:=sf_mx mi e
 rw [<- hmi]
 obtain ⟨R,hR⟩:∃ R,R=sfR hi lo mi e:=⟨_,rfl⟩
 rw [<- hR]
 unfold sfR at hR
 have HR0:=Lib.hid hR
 have HB:=Lib.hid (And.intro pb (And.intro nb xb))
 have HMi:=Lib.hid hmi
 clear hm0 hm hT hmi pb nb xb hR hTn
 go_enter Tryz.func141,Tryz.ntmps141
 go_upto_region 12 with (fail)
 go_cut [28] from 22 to 28 (fun s28 wx=>s28 = .bool (sfB mi e)∧wx=w)
 case first =>
  cases hb:(mi == 9223372036854775808) with
  | true =>
   go_wp2_with fail
   all_goals go_meet
   all_goals refine ⟨?_,rfl⟩
   all_goals unfold sfB
   all_goals rw [hb]
   all_goals rfl
  | false =>
   go_wp2_with fail
   all_goals go_meet
   all_goals refine ⟨?_,rfl⟩
   all_goals unfold sfB
   all_goals rw [hb]
   all_goals rfl
 case rest =>
  obtain ⟨rfl,rfl⟩:=hcut
  go_upto_if 28 with (fail)
  go_cut [5,8,9,10] from 5 to 96 (fun s5 s8 s9 s10 wx=>s5 = .int .i64 (sfP mi e)∧s8 = .int .u64 (sfMn mi e)∧s9 = .int .u64 (sfMx mi e)∧s10 = .int .i64 (sfO mi e)∧wx=wc)
  case first =>
   cases hb:sfB mi e with
   | true =>
    have he : -1085<e:=by
     unfold sfB at hb
     simp only [Bool.and_eq_true,decide_eq_true_eq] at hb
     exact hb.2
    have r1:sfP mi e = -(((e+11)*631305-261663) / 2097152):=if_pos hb
    have r2:sfMn mi e=IntKind.u64.wrap (mi-512):=if_pos hb
    have r3:sfMx mi e=IntKind.u64.wrap (mi+1024):=if_pos (by omega)
    have rz:sfZ e=11:=if_pos (by omega)
    have r4:sfO mi e=bits BinOp.and IntKind.i64 (wrap64 (mi / 2048)) 1:=by unfold sfO; rw [rz]; rfl
    have HR:=Lib.hid (And.intro r1 (And.intro r2 (And.intro r3 r4)))
    clear r1 r2 r3 r4 rz
    go_wp2_with (first | (go_at_call 159; (with_reducible refine (skew_any _ (by omega) (by omega) _).mono ?_); rintro e w' ⟨rfl,hw'⟩; obtain rfl:=hw'.symm))
    go_meet
    exact ⟨by rw [HR.out.1],by rw [HR.out.2.1],by rw [HR.out.2.2.1],by rw [HR.out.2.2.2],rfl⟩
   | false =>
    by_cases he : -1085 <= e
    ·have r1:sfP mi e = -((e+11)*78913 / 262144):=by unfold sfP sfZ; rw [if_neg (by rw [hb]; decide),if_pos he]
     have r2:sfMn mi e=IntKind.u64.wrap (mi-1024):=by unfold sfMn; rw [if_neg (by rw [hb]; decide),if_pos he]
     have r3:sfMx mi e=IntKind.u64.wrap (mi+1024):=if_pos (by omega)
     have rz:sfZ e=11:=if_pos (by omega)
     have r4:sfO mi e=bits BinOp.and IntKind.i64 (wrap64 (mi / 2048)) 1:=by unfold sfO; rw [rz]; rfl
     have HR:=Lib.hid (And.intro r1 (And.intro r2 (And.intro r3 r4)))
     clear r1 r2 r3 r4 rz
     go_wp2_with (first | (go_at_call 136; (with_reducible refine (l10_any _ (by omega) (by omega) _).mono ?_); rintro e w' ⟨rfl,hw'⟩; obtain rfl:=hw'.symm))
     go_meet
     exact ⟨by rw [HR.out.1],by rw [HR.out.2.1],by rw [HR.out.2.2.1],by rw [HR.out.2.2.2],rfl⟩
    ·have rz:sfZ e=11+(-1085-e):=if_neg he
     have r1:sfP mi e = -((e+(11+(-1085-e)))*78913 / 262144):=by unfold sfP; rw [if_neg (by rw [hb]; decide),rz]
     have r2:sfMn mi e=IntKind.u64.wrap (mi-IntKind.u64.wrap (2 ^ ((11+(-1085-e)).toNat-1))):=by unfold sfMn; rw [if_neg (by rw [hb]; decide),if_neg he,rz]
     have r3:sfMx mi e=IntKind.u64.wrap (mi+IntKind.u64.wrap (2 ^ ((11+(-1085-e)).toNat-1))):=by unfold sfMx; rw [if_neg he,rz]
     have r4:sfO mi e=bits BinOp.and IntKind.i64 (wrap64 (mi / 2 ^ (11+(-1085-e)).toNat)) 1:=by unfold sfO; rw [rz]
     have HR:=Lib.hid (And.intro r1 (And.intro r2 (And.intro r3 r4)))
     have he2:e < -1085:=by omega
     clear r1 r2 r3 r4 rz he
     go_wp2_with (first | (go_at_call 136; (with_reducible refine (l10_any _ (by omega) (by omega) _).mono ?_); rintro e w' ⟨rfl,hw'⟩; obtain rfl:=hw'.symm))
     go_meet
     exact ⟨by rw [HR.out.1],by rw [HR.out.2.1],by rw [HR.out.2.2.1],by rw [HR.out.2.2.2],rfl⟩
  case rest =>
   obtain ⟨rfl,rfl,rfl,rfl,hwc⟩:=hcut
   obtain rfl:=hwc.symm
   obtain ⟨⟨p0,p1,s0,s1⟩,⟨n0,n1⟩,⟨x0,x1⟩⟩:=HB.out
   obtain ⟨hT,hTn⟩:=HT.out
   obtain ⟨hm0,hm⟩:=HM.out
   have hmi:=HMi.out
   have hI:sfP mi e=(sfI mi e:Int)-348:=by unfold sfI; omega
   have hi0:sfI mi e<696:=by omega
   obtain ⟨t0,t1,_,_⟩:=hT _ hi0
   obtain ⟨w1,hw1⟩:∃ w1,w1=wc.alloc (.cells #[.int .u64 0,.int .u64 0,.int .i64 0] 220):=⟨_,rfl⟩
   have hb1:Below wc.heap.size wc w1:=by rw [hw1]; exact (Below.refl _ _).alloc (Nat.le_refl _) _
   have hsc:SC w1 wc.heap.size 0 0 0:=by rw [hw1]; exact heap_alloc_new wc _
   have hT1:PT hi lo w1:=fun i hi6=>by
    obtain ⟨a,b,c,d⟩:=hT i hi6
    exact ⟨a,b,(hb1.cell hTn).trans c,(hb1.cell hTn).trans d⟩
   have CP:=prescale_any hi lo wc.heap.size e (sfI mi e) (sfP mi e*108853 / 32768) hi0 (by omega) (by omega) (by omega) (by omega) 0 0 0 w1 hT1 (by omega) hsc
   rw [<- hI] at CP
   have CL:=fun W=>l2_any (sfP mi e) (by omega) (by omega) W
   have CU:∀ (W:World) (x:Int),SC W wc.heap.size (hi (sfI mi e)) (lo (sfI mi e)) (sfS mi e) -> 0 <= x -> x<18446744073709551616 -> Calls Tryz.prog 162 #[.int .u64 x,.pointer (some ⟨wc.heap.size,0,none⟩)] W (UsPost W (sfU hi lo mi e x)):=fun W x hs h0 h1=>by
    have:=uscale_any x.toNat _ _ _ (by omega) t0 t1 _ W hs
    rw [show ((x.toNat:Nat):Int)=x by omega] at this
    exact this
   have ob:=and1 (wrap64 (mi / 2 ^ (sfZ e).toNat))
   have CN1:=fun W=>nudge_any (sfU hi lo mi e (sfMn mi e)) (sfO mi e) (us_bd _ _ _ _).1 (us_bd _ _ _ _).2 (by unfold sfO; omega) (by unfold sfO; omega) W
   have CN2:=fun W=>nudge_any (sfU hi lo mi e (sfMx mi e)) (-(sfO mi e)) (us_bd _ _ _ _).1 (us_bd _ _ _ _).2 (by unfold sfO; omega) (by unfold sfO; omega) W
   have CC:∀ W,Calls _ _ _ W (Same W (.int .u64 (sfDn hi lo mi e))):=fun W=>ceil_any (nudgeI (sfU hi lo mi e (sfMn mi e)) (sfO mi e)) (nudge_bd _ _).1 (nudge_bd _ _).2 W
   have CF:∀ W,Calls _ _ _ W (Same W (.int .u64 (sfDx hi lo mi e))):=fun W=>floor_any (nudgeI (sfU hi lo mi e (sfMx mi e)) (-(sfO mi e))) (nudge_bd _ _).1 (nudge_bd _ _).2 W
   have CR:=fun W=>round_any (sfU hi lo mi e mi) (us_bd _ _ _ _).1 (us_bd _ _ _ _).2 W
   have dnb:0 <= sfDn hi lo mi e∧sfDn hi lo mi e<18446744073709551616:=ceil_bd _
   have dxb:0 <= sfDx hi lo mi e∧sfDx hi lo mi e<18446744073709551616:=by
    have:=nudge_bd (sfU hi lo mi e (sfMx mi e)) (-(sfO mi e))
    unfold sfDx
    omega
   have hR:=HR0.out
   have cu1:=fun W h=>CU W (sfMn mi e) h (by omega) n1
   have cu2:=fun W h=>CU W (sfMx mi e) h x0 x1
   have cu3:=fun W h=>CU W mi h (by omega) (by omega)
   have o0:0 <= sfO mi e:=ob.1
   have o1:sfO mi e <= 1:=ob.2
   have ub1:=us_bd (sfMn mi e).toNat (hi (sfI mi e)) (lo (sfI mi e)) (sfS mi e)
   have u1b:0 <= sfU hi lo mi e (sfMn mi e)∧sfU hi lo mi e (sfMn mi e)<18446744073709551616:=us_bd _ _ _ _
   have u2b:0 <= sfU hi lo mi e (sfMx mi e)∧sfU hi lo mi e (sfMx mi e)<18446744073709551616:=us_bd _ _ _ _
   have rb:=round_bd (sfU hi lo mi e mi)
   change Calls _ _ _ _ (fun x w'=>x = .returned (.tuple #[])∧SC w' wc.heap.size (hi (sfI mi e)) (lo (sfI mi e)) (sfS mi e)∧w1.grownBy w' (some wc.heap.size)) at CP
   clear ub1 CU ob hI hi0 hT hT1 hsc s0 s1 t0 t1 hm0 hm hmi hTn
   obtain ⟨P,hP⟩:∃ P,sfP mi e=P:=⟨_,rfl⟩
   obtain ⟨S,hS⟩:∃ S:World -> Prop,S=fun W=>SC W wc.heap.size (hi (sfI mi e)) (lo (sfI mi e)) (sfS mi e):=⟨_,rfl⟩
   have hSd:∀ W n,S W -> S (W.drewN n):=fun W n h=>by rw [hS] at h ⊢; exact h
   have cu1':∀ W,S W -> Calls Tryz.prog 162 #[.int .u64 (sfMn mi e),.pointer (some ⟨wc.heap.size,0,none⟩)] W (UsPost W (sfU hi lo mi e (sfMn mi e))):=fun W h=>cu1 W (by rw [hS] at h; exact h)
   have cu2':∀ W,S W -> Calls Tryz.prog 162 #[.int .u64 (sfMx mi e),.pointer (some ⟨wc.heap.size,0,none⟩)] W (UsPost W (sfU hi lo mi e (sfMx mi e))):=fun W h=>cu2 W (by rw [hS] at h; exact h)
   have cu3':∀ W,S W -> Calls Tryz.prog 162 #[.int .u64 mi,.pointer (some ⟨wc.heap.size,0,none⟩)] W (UsPost W (sfU hi lo mi e mi)):=fun W h=>cu3 W (by rw [hS] at h; exact h)
   have CP':Calls Tryz.prog 160 #[.pointer (some ⟨wc.heap.size,0,none⟩),.int .i64 e,.int .i64 (sfP mi e),.int .i64 (sfP mi e*108853 / 32768)] w1 fun x w'=>x = .returned (.tuple #[])∧S w'∧w1.grownBy w' (some wc.heap.size):=CP.mono fun x w' h=>⟨h.1,by rw [hS]; exact h.2.1,h.2.2⟩
   clear CP cu1 cu2 cu3 hS
   rw [hP] at CP' CL hR p0 p1 ⊢
   obtain ⟨O,hO⟩:∃ O,sfO mi e=O:=⟨_,rfl⟩
   rw [hO] at CN1 CN2 CC CF o0 o1 ⊢
   obtain ⟨U1,hU1⟩:∃ U1,sfU hi lo mi e (sfMn mi e)=U1:=⟨_,rfl⟩
   rw [hU1] at CN1 CC cu1' u1b
   obtain ⟨U2,hU2⟩:∃ U2,sfU hi lo mi e (sfMx mi e)=U2:=⟨_,rfl⟩
   rw [hU2] at CN2 CF cu2' u2b
   obtain ⟨U3,hU3⟩:∃ U3,sfU hi lo mi e mi=U3:=⟨_,rfl⟩
   rw [hU3] at CR cu3' hR rb
   obtain ⟨MN,hMN⟩:∃ MN,sfMn mi e=MN:=⟨_,rfl⟩
   rw [hMN] at cu1' n0 n1 ⊢
   obtain ⟨MX,hMX⟩:∃ MX,sfMx mi e=MX:=⟨_,rfl⟩
   rw [hMX] at cu2' x0 x1 ⊢
   obtain ⟨dn,hdn⟩:∃ dn,sfDn hi lo mi e=dn:=⟨_,rfl⟩
   rw [hdn] at CC hR dnb
   obtain ⟨dx,hdx⟩:∃ dx,sfDx hi lo mi e=dx:=⟨_,rfl⟩
   rw [hdx] at CF hR dxb
   obtain ⟨V1,hV1⟩:∃ V1,nudgeI U1 O=V1:=⟨_,rfl⟩
   rw [hV1] at CN1 CC
   obtain ⟨V2,hV2⟩:∃ V2,nudgeI U2 (-O)=V2:=⟨_,rfl⟩
   rw [hV2] at CN2 CF
   have K1:=Lib.hid CP'
   have K2:=Lib.hid CL
   have K3:=Lib.hid cu1'
   have K4:=Lib.hid cu2'
   have K5:=Lib.hid cu3'
   have K6:=Lib.hid CN1
   have K7:=Lib.hid CN2
   have K8:=Lib.hid CC
   have K9:=Lib.hid CF
   have K10:=Lib.hid CR
   have K11:=Lib.hid hR
   have K12:=Lib.hid hSd
   have K13:=Lib.hid hb1
   have Y1:=Lib.hid hw1
   obtain ⟨dn0,dn1⟩:=dnb
   obtain ⟨dx0,dx1⟩:=dxb
   clear CP' CL cu1' cu2' cu3' CN1 CN2 CC CF CR hR hSd hb1 hw1 hP hO hU1 hU2 hU3 hMN hMX hdn hdx hV1 hV2 u1b u2b rb n0 n1 x0 x1
   go_upto_region 28 with (first | (rw [<- Y1.out]))
   go_upto_region 29 with (first | (go_at_call 161; (with_reducible refine (K2.out _).mono ?_); rintro e w' ⟨rfl,hw'⟩; obtain rfl:=hw'.symm) | (go_at_call 160; (with_reducible refine K1.out.mono ?_); rintro e w2 ⟨rfl,hS2,hG2⟩))
   have hB2:Below wc.heap.size wc w2:=K13.out.grown hG2 K13.out.size (fun k e=>by obtain rfl:=Option.some.inj e; exact Nat.le_refl _)
   have HS2:=Lib.hid hS2
   have HB2:=Lib.hid hB2
   have HP:=Lib.hid (And.intro p0 p1)
   clear hS2 hB2 hG2 hw'
   go_wp2_with (first
    | (go_at_call 162; (first | (with_reducible refine (K3.out _ (by (repeat (first | exact HS2.out | refine K12.out _ _ ?_)))).mono ?_) | (with_reducible refine (K4.out _ (by (repeat (first | exact HS2.out | refine K12.out _ _ ?_)))).mono ?_) | (with_reducible refine (K5.out _ (by (repeat (first | exact HS2.out | refine K12.out _ _ ?_)))).mono ?_)); rintro e w' ⟨rfl,nd,hw'⟩; obtain rfl:=hw'.symm; clear hw')
    | (go_at_call 163; (first | (with_reducible refine (K6.out _).mono ?_) | (with_reducible refine (K7.out _).mono ?_)); rintro e w' ⟨rfl,hw'⟩; obtain rfl:=hw'.symm; clear hw')
    | (go_at_call 164; (with_reducible refine (K8.out _).mono ?_); rintro e w' ⟨rfl,hw'⟩; obtain rfl:=hw'.symm; clear hw')
    | (go_at_call 165; (with_reducible refine (K9.out _).mono ?_); rintro e w' ⟨rfl,hw'⟩; obtain rfl:=hw'.symm; clear hw')
    | (go_at_call 166; (with_reducible refine (K10.out _).mono ?_); rintro e w' ⟨rfl,hw'⟩; obtain rfl:=hw'.symm; clear hw'))
   all_goals go_ret2
   all_goals refine ⟨?_,below_drewN' HB2.out _⟩
   ·rw [K11.out,if_pos (by assumption)]; rfl
   ·rw [K11.out,if_neg (by omega),if_pos (by assumption)]; rfl
   ·rw [K11.out,if_neg (by omega),if_neg (by omega)]; rfl
end Go.Proofs.YtejmbbkklhpnaaaGreatDoor.prnw

/- setDigits. No conditions but those stated. -/
namespace Go.Proofs.YtejmbbkklhpnaaaGreatDoor.prnw
open Go.RowKit
open Go.Shelf
open Go.Sort
open nodew
open chkw
def bV (b:UInt8):Value:=Value.int .u8 (b.toNat:Int)
def trimTo (u:Nat):Nat -> Nat
 | 0=>0
 | n+1=>if Lib.dg u (Lib.nDigits u-1-n)=48 then trimTo u n else n+1
theorem trim_le (u:Nat):∀ n,trimTo u n <= n
 | 0=>Nat.le_refl _
 | n+1=>by
  unfold trimTo
  split
  ·exact Nat.le_succ_of_le (trim_le u n)
  ·exact Nat.le_refl _
def SdPost (w:World) (bb u:Nat) (p:Int) (x:Ending) (w':World):Prop :=
 x = .returned (.tuple #[.int .i64 ((Lib.nDigits u:Nat)+p),.int .i64 (trimTo u (Lib.nDigits u):Nat)]) ∧
  (∀ t,t<Lib.nDigits u -> w'.cell? ⟨bb,t,none⟩=some (bV (Lib.dg u (Lib.nDigits u-1-t))))∧w.grownBy w' (some bb)
set_option maxRecDepth 100000 in
set_option maxHeartbeats 1000000 in
theorem setd_any (bb u:Nat) (p:Int) (_hu:1 <= u) (hu2:u<18446744073709551616) (p0 : -400 <= p) (p1:p <= 400) (w:World) (hb:Holds bV w bb 0 (Array.replicate 32 0)) :
  Calls Tryz.prog 134 #[.slice (some ⟨bb,0,none⟩) 32 32,.int .u64 u,.int .i64 p,.int .i64 (Lib.nDigits u:Nat)] w (SdPost w bb u p):=by
 have hn:=Lib.nDigits_le20 u hu2
 have hn1:=Lib.nDigits_pos u
 have hlt:=Lib.lt_pow_nDigits u
 obtain ⟨N,hN⟩:∃ N,Lib.nDigits u=N:=⟨_,rfl⟩
 have hH:Holds bV w bb 0 (Array.replicate N 0):=fun j hj=>by
  have h1:j<N:=by simpa using hj
  have:=hb j (by simp; omega)
  rw [getElem!_pos _ j (by simp; omega),Array.getElem_replicate] at this
  rw [getElem!_pos _ j hj,Array.getElem_replicate]
  exact this
 have C:=Tryz.internal_strconv_formatBase10 bb 0 32 u (Array.replicate N 0) w hH (by rw [Array.size_replicate,<- hN]; exact hlt) hu2 (by rw [Array.size_replicate]; omega)
 rw [Array.size_replicate] at C
 have C2:Calls Tryz.prog 167 #[.slice (some ⟨bb,0,none⟩) N 32,.int .u64 u] w fun e w'=>e = .returned (.tuple #[])∧(∀ t,t<N -> w'.cell? ⟨bb,t,none⟩=some (bV (Lib.dg u (N-1-t))))∧w.grownBy w' (some bb):=C.mono fun e w' h=>by
  obtain ⟨he,n,v,dk,hw,hf⟩:=h
  have hds:dk.size=(Array.replicate N (0:UInt8)).size:=by rw [hf.size,Array.size_replicate]
  refine ⟨he,fun t ht => ?_,?_⟩
  ·rw [hw]
   have h1:=cell?_putRow bV w bb 0 (Array.replicate N 0) dk hH hds t (by rw [hf.size]; exact ht)
   have h2:=hf.done t (Nat.zero_le _) ht
   rw [Nat.zero_add,h2] at h1
   exact h1
  ·rw [hw]
   refine ⟨rfl,rfl,rfl,by simp [World.drewN],fun i hi hne => ?_⟩
   show (w.heap.modify bb _)[i]? = _
   rw [Array.getElem?_modify,if_neg (fun e=>hne (by rw [e]))]
 have hfz:∀ (w':World) (t:Nat),w.grownBy w' (some bb) -> True:=fun _ _ _=>trivial
 unfold SdPost
 rw [hN]
 have C3:=Lib.hid C2
 have hN20:N <= 20:=by omega
 have hN1:1 <= N:=by omega
 have HN:=Lib.hid hN
 have hNi:(N:Int) <= 32:=by omega
 have hN0:(0:Int) <= (N:Int):=by omega
 have hNN:N <= 32:=by omega
 clear hn hn1 hlt hN hH C C2 hfz hb _hu hu2
 go_enter Tryz.func134,Tryz.ntmps134
 go_wp2_with (go_at_call 167; (with_reducible refine C3.out.mono ?_); rintro e w' ⟨rfl,hc,hg⟩)
 obtain ⟨W,hW⟩:∃ W,W=w':=⟨_,rfl⟩
 rw [<- hW] at hc hg ⊢
 have hcn:∀ n:Nat,n<N -> W.cell? ⟨bb,n,none⟩=some (.int .u8 ((Lib.dg u (N-1-n)).toNat:Int)):=hc
 have HC:=Lib.hid hc
 have HG:=Lib.hid hg
 have HCN:=Lib.hid hcn
 clear hW hc hg hcn
 go_loopw [3] (fun i wr=>∃ n:Nat,n <= N∧i = .int .i64 n∧trimTo u n=trimTo u N∧wr=W) (fun i _=>(intOf i).toNat)
 case atStart=>exact ⟨N,Nat.le_refl _,rfl,rfl,rfl⟩
 case round =>
  obtain ⟨n,hnN,rfl,hq,rfl⟩:=hrel
  obtain ⟨wx,hwx⟩:∃ wx,wx=wr:=⟨_,rfl⟩
  cases n with
  | zero =>
   have hq1:trimTo u N=0:=by rw [<- hq]; rfl
   have HQ:=Lib.hid hq1
   clear hq hq1 hwx
   go_wp2_with fail
   go_ret2
   exact ⟨by rw [HQ.out]; rfl,HC.out,HG.out⟩
  | succ n =>
   have c1:=HCN.out n (by omega)
   have hn0:(0:Int) <= (n:Int):=by omega
   have hn1:(n:Int)+1 <= 32:=by omega
   have hn2:(n:Int)<32:=by omega
   have ec:((n+1:Nat):Int)=(n:Int)+1:=by omega
   have et:trimTo u (n+1)=if Lib.dg u (Lib.nDigits u-1-n)=48 then trimTo u n else n+1:=rfl
   rw [HN.out] at et
   rw [ec]
   obtain ⟨b,hb⟩:∃ b,Lib.dg u (N-1-n)=b:=⟨_,rfl⟩
   rw [hb] at c1 et
   have hb0:(0:Int) <= (b.toNat:Int):=by omega
   by_cases h48:b=48
   ·rw [if_pos h48] at et
    have hq2:trimTo u n=trimTo u N:=by rw [<- et]; exact hq
    have e48:((b.toNat:Int) == 48)=true:=by rw [h48]; rfl
    have HQ:=Lib.hid hq2
    clear hq hq2 et hb ec h48 hwx
    go_wp2_with fail
    exact ⟨⟨n,by omega,rfl,HQ.out,trivial⟩,by show ((n:Int)).toNat<((n:Int)+1).toNat; omega⟩
   ·rw [if_neg h48] at et
    have hq2:trimTo u N=n+1:=by rw [<- hq]; exact et
    have e48:((b.toNat:Int) == 48)=false:=by
     rw [beq_eq_false_iff_ne]
     intro h
     exact h48 (UInt8.toNat_inj.1 (by have:(48:UInt8).toNat=48:=rfl; omega))
    have HQ:=Lib.hid hq2
    clear hq hq2 et hb ec h48 hwx
    go_wp2_with fail
    go_ret2
    exact ⟨by rw [HQ.out]; rfl,HC.out,HG.out⟩
end Go.Proofs.YtejmbbkklhpnaaaGreatDoor.prnw

/- A row of bytes that grows: what an append leaves. No conditions but those stated. -/
namespace Go.Proofs.YtejmbbkklhpnaaaGreatDoor.prnw
open Go.RowKit
open Go.Shelf
open Go.Sort
open nodew
open chkw
theorem u8Info:(Tryz.prog.info? 5).map (fun i=>(i.zero,i.size,i.bytes))=some (some (.int .u8 0),1,1):=by kernel_rfl
def Buf (w:World) (base g cap:Nat) (l:List UInt8):Prop:=w.ownsRow base 5 1 (.slice (some ⟨g,0,none⟩) l.length cap) l.length (l.map bV)
theorem bV_one (l:List UInt8):∀ u∈l.map bV,u.oneCell'=true:=by
 intro u hu
 obtain ⟨b,_,rfl⟩:=List.mem_map.1 hu
 rfl
theorem Buf.lt {w:World} {base g cap:Nat} {l:List UInt8} (h:Buf w base g cap l):base <= g∧g<w.heap.size:=World.ownsRow.lt h g rfl
theorem wl_app8 {ops:Array Oper} {rest:List Oper} {o:Oper} {a:Act} {w:World} {Q:Exit -> Act -> World -> Prop} (hgd:o.guard=none) (s x:Operand)
  (ho:o.op = .call { callee:=.builtin .append,args:=#[s,x],argTypes:=#[23,23] }) (base g cap:Nat) (l:List UInt8) (hs:a.eval s = .slice (some ⟨g,0,none⟩) l.length cap) (hown:Buf w base g cap l)
  (ad:Addr) (m c:Nat) (news:List UInt8) (hx:a.eval x = .slice (some ad) m c) (hm:news.length=m) (hm0:0<m) (hnews:∀ j b,news[j]? = some b -> w.cell? (ad.add j)=some (bV b)) (hlen:l.length+m <= 1000) (hbase:base <= w.heap.size)
  (h:∀ g' cap' w',Buf w' base g' cap' (l ++ news) -> w.grownBy w' (some g) -> (g'=g∨g'=w.heap.size) -> wpList Tryz.prog ops Q rest (a.put o.dst (.slice (some ⟨g',0,none⟩) (l ++ news).length cap')) w') :
  wpList Tryz.prog ops Q (o :: rest) a w:=by
 obtain ⟨i0,hi,hz1,hz2,hz3⟩:=info_parts u8Info
 refine wpList_append_lies w hgd s x 23 ho base 5 i0 _ 1 1 Tryz.underlying23 hi hz1 hz2 hz3 rfl (by decide) _ _ _ hs hown ad m c (news.map bV) hx (by rw [List.length_map,hm]; omega) (fun j u hu => ?_) (bV_one _) hm0 (by unfold maxLen; omega) (by omega) hbase _ rfl ?_
 ·rw [List.getElem?_map,Option.map_eq_some_iff] at hu
  obtain ⟨b,hb,rfl⟩:=hu
  exact hnews j b hb
 ·intro g' cap' w' how hg hgg _
  have e:l.length+m=(l ++ news).length:=by rw [List.length_append,hm]
  rw [e,<- List.map_append] at how
  rw [e]
  refine h g' cap' w' how hg ?_
  rcases hgg with h1 | h1
  ·exact .inl (Option.some.inj h1).symm
  ·exact .inr h1
structure St (w0:World) (base bb:Nat) (w:World) (g cap:Nat) (l:List UInt8):Prop where
 buf:Buf w base g cap l
 ne:g≠bb
 blk:w.heap[bb]? = w0.heap[bb]?
 below:Below base w0 w
 le:base <= w0.heap.size
 lt:bb<w0.heap.size
theorem cells_new8 (W:World) (news:List UInt8) (t:TypeId):∀ j b,news[j]? = some b -> (W.alloc (.cells (news.map bV).toArray t)).cell? ((⟨W.heap.size,0,none⟩:Addr).add j)=some (bV b):=by
 intro j b hb
 have hadd:(⟨W.heap.size,0,none⟩:Addr).add j=⟨W.heap.size,j,none⟩:=by unfold Addr.add; split <;> simp_all
 rw [hadd,cell_of_row _ _ j _ _ _ (heap_alloc_new W _)]
 simp [hb]
theorem wl_put8 {ops:Array Oper} {rest:List Oper} {o:Oper} {a:Act} {W:World} {Q:Exit -> Act -> World -> Prop} {w0:World} {base bb g cap:Nat} {l:List UInt8} (hS:St w0 base bb W g cap l) (hgd:o.guard=none) (s x:Operand)
  (ho:o.op = .call { callee:=.builtin .append,args:=#[s,x],argTypes:=#[23,23] }) (news:List UInt8) (m:Nat) (vals:Array Value) (hv:vals=(news.map bV).toArray) (hm:news.length=m) (hm0:0<m) (L:Nat) (hL:l.length=L) (hlen:L+m <= 1000)
  (hs:a.eval s = .slice (some ⟨g,0,none⟩) L cap) (hx:a.eval x = .slice (some ⟨W.heap.size,0,none⟩) m m)
  (h:∀ g' cap' w',St w0 base bb w' g' cap' (l ++ news) -> wpList Tryz.prog ops Q rest (a.put o.dst (.slice (some ⟨g',0,none⟩) (L+m) cap')) w') :
  wpList Tryz.prog ops Q (o :: rest) a (W.alloc (.cells vals 5)):=by
 subst hv
 subst hL
 have hsz:=hS.below.size
 have hle:=hS.le
 have hlt:=hS.lt
 have hg:=hS.buf.lt
 refine wl_app8 hgd s x ho base g cap l hs (World.ownsRow.alloc hS.buf _) ⟨W.heap.size,0,none⟩ m m news hx hm hm0 (cells_new8 W news _) hlen (by simp; omega) fun g' cap' w' hb hgr hgg => ?_
 have hne:=hS.ne
 rw [List.length_append,hm]
 refine h g' cap' w' ⟨hb,?_,?_,?_,hS.le,hS.lt⟩
 ·rcases hgg with rfl | rfl
  ·exact hne
  ·simp; omega
 ·rw [hgr.block bb (by simp; omega) (fun e=>hS.ne (Option.some.inj e).symm),Below.heap_alloc _ _ _ (by omega)]
  exact hS.blk
 ·exact (hS.below.alloc (by omega) _).grown hgr (by simp; omega) (fun k e=>by obtain rfl:=Option.some.inj e; exact hg.1)
theorem wl_digs8 {ops:Array Oper} {rest:List Oper} {o:Oper} {a:Act} {W:World} {Q:Exit -> Act -> World -> Prop} {w0:World} {base bb g cap:Nat} {l:List UInt8} (hS:St w0 base bb W g cap l) (hgd:o.guard=none) (s x:Operand)
  (ho:o.op = .call { callee:=.builtin .append,args:=#[s,x],argTypes:=#[23,23] }) (news:List UInt8) (off m c:Nat) (hm:news.length=m) (hm0:0<m) (L:Nat) (hL:l.length=L) (hlen:L+m <= 1000) (hd:∀ j b,news[j]? = some b -> w0.cell? ⟨bb,off+j,none⟩=some (bV b))
  (hs:a.eval s = .slice (some ⟨g,0,none⟩) L cap) (hx:a.eval x = .slice (some ⟨bb,off,none⟩) m c)
  (h:∀ g' cap' w',St w0 base bb w' g' cap' (l ++ news) -> wpList Tryz.prog ops Q rest (a.put o.dst (.slice (some ⟨g',0,none⟩) (L+m) cap')) w') :
  wpList Tryz.prog ops Q (o :: rest) a W:=by
 subst hL
 have hsz:=hS.below.size
 have hle:=hS.le
 have hlt:=hS.lt
 have hg:=hS.buf.lt
 refine wl_app8 hgd s x ho base g cap l hs hS.buf ⟨bb,off,none⟩ m c news hx hm hm0 (fun j b hb => ?_) hlen (by omega) fun g' cap' w' hb hgr hgg => ?_
 ·have hadd:(⟨bb,off,none⟩:Addr).add j=⟨bb,off+j,none⟩:=by unfold Addr.add; split <;> simp_all
  rw [hadd,World.cell?_of_block (w:=w0) (a:=⟨bb,off+j,none⟩) hS.blk]
  exact hd j b hb
 ·have hne:=hS.ne
  rw [List.length_append,hm]
  refine h g' cap' w' ⟨hb,?_,?_,?_,hS.le,hS.lt⟩
  ·rcases hgg with rfl | rfl
   ·exact hne
   ·omega
  ·rw [hgr.block bb (by omega) (fun e=>hS.ne (Option.some.inj e).symm)]
   exact hS.blk
  ·exact hS.below.grown hgr (by omega) (fun k e=>by obtain rfl:=Option.some.inj e; exact hg.1)
end Go.Proofs.YtejmbbkklhpnaaaGreatDoor.prnw

/- fmtEFG on its road for 'e', shortest. No conditions but those stated. -/
namespace Go.Proofs.YtejmbbkklhpnaaaGreatDoor.prnw
open Go.RowKit
open Go.Shelf
open Go.Sort
open nodew
open chkw
def expD (x:Nat):List UInt8 :=
 if x<10 then [48,UInt8.ofNat (48+x)] else if x<100 then [UInt8.ofNat (48+x / 10),UInt8.ofNat (48+x % 10)]
 else [UInt8.ofNat (48+x / 100),UInt8.ofNat (48+x / 10 % 10),UInt8.ofNat (48+x % 10)]
theorem u8n (n:Nat) (h:n<256):(((UInt8.ofNat n).toNat:Nat):Int)=(n:Int):=by
 rw [UInt8.toNat_ofNat']
 omega
theorem exp_v1 (x:Nat) (h:x<10):(#[.int .u8 48,.int .u8 ((x:Int)+48)]:Array Value)=([48,UInt8.ofNat (48+x)].map bV).toArray:=by
 have e1:=u8n (48+x) (by omega)
 change _=(#[.int .u8 48,.int .u8 ((UInt8.ofNat (48+x)).toNat:Int)]:Array Value)
 rw [e1,show ((48+x:Nat):Int)=(x:Int)+48 by omega]
theorem exp_v2 (x:Nat) (h:x<100):(#[.int .u8 ((x:Int) / 10+48),.int .u8 ((x:Int) % 10+48)]:Array Value)=([UInt8.ofNat (48+x / 10),UInt8.ofNat (48+x % 10)].map bV).toArray:=by
 have e1:=u8n (48+x / 10) (by omega)
 have e2:=u8n (48+x % 10) (by omega)
 change _=(#[.int .u8 ((UInt8.ofNat (48+x / 10)).toNat:Int),.int .u8 ((UInt8.ofNat (48+x % 10)).toNat:Int)]:Array Value)
 rw [e1,e2,show ((48+x / 10:Nat):Int)=(x:Int) / 10+48 by omega,show ((48+x % 10:Nat):Int)=(x:Int) % 10+48 by omega]
theorem exp_v3 (x:Nat) (h:x<1000):(#[.int .u8 ((x:Int) / 100+48),.int .u8 ((x:Int) / 10 % 10+48),.int .u8 ((x:Int) % 10+48)]:Array Value)=([UInt8.ofNat (48+x / 100),UInt8.ofNat (48+x / 10 % 10),UInt8.ofNat (48+x % 10)].map bV).toArray:=by
 have e0:=u8n (48+x / 100) (by omega)
 have e1:=u8n (48+x / 10 % 10) (by omega)
 have e2:=u8n (48+x % 10) (by omega)
 change _=(#[.int .u8 ((UInt8.ofNat (48+x / 100)).toNat:Int),.int .u8 ((UInt8.ofNat (48+x / 10 % 10)).toNat:Int),.int .u8 ((UInt8.ofNat (48+x % 10)).toNat:Int)]:Array Value)
 rw [e0,e1,e2,show ((48+x / 100:Nat):Int)=(x:Int) / 100+48 by omega,show ((48+x / 10 % 10:Nat):Int)=(x:Int) / 10 % 10+48 by omega,show ((48+x % 10:Nat):Int)=(x:Int) % 10+48 by omega]
def efgT (d0:UInt8) (ds:List UInt8) (dp:Int):List UInt8 :=
 [d0] ++ (if ds=[] then [] else 46 :: ds) ++ [101] ++ [if dp-1<0 then 45 else 43] ++ expD (dp-1).natAbs
def EfPost (w:World) (base bb:Nat) (t:List UInt8) (x:Ending) (w':World):Prop :=
 ∃ g cap,x = .returned (.slice (some ⟨g,0,none⟩) t.length cap)∧St w base bb w' g cap t
set_option maxRecDepth 100000 in
set_option maxHeartbeats 1000000 in
theorem efg_any (base bb g cap:Nat) (d0:UInt8) (ds:List UInt8) (dp:Int) (p0 : -400 <= dp) (p1:dp <= 400) (hlen:ds.length <= 20) (w:World) (hS:St w base bb w g cap [])
  (hd:∀ j b,(d0 :: ds)[j]? = some b -> w.cell? ⟨bb,j,none⟩=some (bV b)) :
  Calls Tryz.prog 131 #[.slice (some ⟨g,0,none⟩) 0 cap,.bool false,.slice (some ⟨bb,0,none⟩) 32 32,.int .i64 dp,.int .i64 ((ds.length:Nat)+1),.int .i64 (ds.length:Nat),.int .u8 101,.bool true] w (EfPost w base bb (efgT d0 ds dp)):=by
 have c0:w.cell? ⟨bb,0,none⟩=some (.int .u8 (d0.toNat:Int)):=hd 0 d0 rfl
 have HS:=Lib.hid hS
 have HD:=Lib.hid hd
 obtain ⟨q,hq⟩:∃ q,q=ds.length:=⟨_,rfl⟩
 rw [<- hq] at hlen ⊢
 have HQ:=Lib.hid hq
 have q0:(0:Int) <= (q:Int):=by omega
 have q1:(q:Int) <= 20:=by omega
 have q2:((q:Int)+1 == 0)=false:=by rw [beq_eq_false_iff_ne]; omega
 clear hS hd hq hlen
 go_enter Tryz.func131,Tryz.ntmps131
 go_upto_region 25 with (fail)
 clear c0
 go_upto_region 26 with (at_builtin; refine wl_put8 HS.out rfl (.tmp 87) (.tmp 89) rfl [d0] 1 _ rfl rfl (by decide) 0 rfl (by decide) rfl rfl ?_; intro g1 c1 w1 hS1)
 obtain ⟨l,hl⟩:∃ l,l=[d0] ++ (if ds=[] then [] else 46 :: ds):=⟨_,rfl⟩
 have HL:=Lib.hid hl
 have HS1:=Lib.hid hS1
 clear hl hS1
 go_upto_if 92 with (fail)
 go_cut [0] from 20 to 119 (fun s0 wx=>∃ g' c',s0 = .slice (some ⟨g',0,none⟩) l.length c'∧St w base bb wx g' c' l)
 case first =>
  by_cases h0:q=0
  ·have hds:ds=[]:=List.length_eq_zero_iff.1 (by rw [<- HQ.out]; exact h0)
   have hl1:l=[d0]:=by rw [HL.out,if_pos hds]; rfl
   have HL1:=Lib.hid hl1
   have hq0:decide (0<q)=false:=decide_eq_false (by omega)
   have hq1:¬ 0<q:=by omega
   clear hds hl1 h0
   go_wp2_with fail
   go_meet
   exact ⟨g1,c1,by rw [HL1.out]; rfl,by rw [HL1.out]; exact HS1.out⟩
  ·have hds:¬ ds=[]:=fun e=>h0 (by rw [HQ.out,e]; rfl)
   have hl1:l=[d0] ++ [46] ++ ds:=by rw [HL.out,if_neg hds]; simp
   have HL1:=Lib.hid hl1
   have hq0:0<q:=by omega
   have hq1:decide (0<q)=true:=decide_eq_true hq0
   clear hds hl1
   go_upto_region 28 with (at_builtin; refine wl_put8 HS1.out rfl (.tmp 93) (.tmp 94) rfl [46] 1 _ rfl rfl (by decide) 1 rfl (by decide) rfl rfl ?_; intro g2 c2 w2 hS2)
   have HS2:=Lib.hid hS2
   have q3:(1:Int)<(q:Int)+1:=by omega
   clear hS2
   go_upto_region 31 with (fail)
   have s1:((q:Int)+1).toNat=q+1:=by omega
   have s2:q+1-1=q:=by omega
   have s3:(q:Int)+1 <= 32:=by omega
   have s4:q+1 <= 32:=by omega
   go_upto_region 32 with (at_builtin; refine wl_digs8 HS2.out rfl (.tmp 103) (.tmp 107) rfl ds 1 q 31 HQ.out.symm hq0 2 rfl (by omega) (fun j b hb=>by have:=HD.out (1+j) b (by rw [Nat.add_comm,List.getElem?_cons_succ]; exact hb); exact this) rfl rfl ?_; intro g3 c3 w3 hS3)
   clear s1 s2 s3 s4
   have HS3:=Lib.hid hS3
   have hq5:(q:Int)+1-((q:Int)+1)=0:=by omega
   clear hS3
   go_wp2_with fail
   go_loopw [0,114] (fun s0 i wr=>s0 = .slice (some ⟨g3,0,none⟩) (2+q) c3∧i = .int .i64 0∧wr=w3) (fun _ _ _=>0)
   case atStart=>exact ⟨rfl,rfl,rfl⟩
   case round =>
    obtain ⟨rfl,rfl,rfl⟩:=hrel
    go_wp2_with fail
    go_meet
    exact ⟨g3,c3,by rw [HL1.out,HQ.out]; simp only [List.length_append,List.length_cons,List.length_nil],by rw [HL1.out]; exact HS3.out⟩
 case rest =>
  obtain ⟨g4,c4,rfl,hS4⟩:=hcut
  have hLb:l.length <= 22:=by
   rw [HL.out]
   have:=HQ.out
   split <;> simp <;> omega
  have HS4:=Lib.hid hS4
  obtain ⟨L,hL⟩:∃ L,l.length=L:=⟨_,rfl⟩
  rw [hL] at hLb ⊢
  have HL2:=Lib.hid hL
  obtain ⟨c,hc⟩:∃ c:UInt8,c=if dp-1<0 then 45 else 43:=⟨_,rfl⟩
  obtain ⟨x,hx⟩:∃ x,x=(dp-1).natAbs:=⟨_,rfl⟩
  have hx4:x <= 401:=by omega
  have HC:=Lib.hid hc
  have HX:=Lib.hid hx
  clear hS4 hc hx hL
  go_upto_region 38 with (at_builtin; refine wl_put8 HS4.out rfl (.tmp 120) (.tmp 122) rfl [101] 1 _ rfl rfl (by decide) L HL2.out (by omega) rfl rfl ?_; intro g5 c5 w5 hS5)
  have HS5:=Lib.hid hS5
  clear hS5
  go_upto_if 129 with (fail)
  go_cut [19,22] from 129 to 131 (fun s19 s22 wx=>s19 = .int .u8 (c.toNat:Int)∧s22 = .int .i64 (x:Int)∧wx=w5)
  case first =>
   by_cases hneg:dp-1<0
   ·have hc1:((c.toNat:Nat):Int)=45:=by rw [HC.out,if_pos hneg]; rfl
    have hx1:(x:Int) = -(dp-1):=by have:=HX.out; omega
    have HC1:=Lib.hid hc1
    have HX1:=Lib.hid hx1
    have hd1:decide (dp-1<0)=true:=decide_eq_true hneg
    clear hc1 hx1
    go_wp2_with fail
    go_meet
    exact ⟨by rw [HC1.out],by rw [HX1.out],rfl⟩
   ·have hc1:((c.toNat:Nat):Int)=43:=by rw [HC.out,if_neg hneg]; rfl
    have hx1:(x:Int)=dp-1:=by have:=HX.out; omega
    have HC1:=Lib.hid hc1
    have HX1:=Lib.hid hx1
    have hd1:decide (dp-1<0)=false:=decide_eq_false hneg
    clear hc1 hx1
    go_wp2_with fail
    go_meet
    exact ⟨by rw [HC1.out],by rw [HX1.out],rfl⟩
  case rest =>
   obtain ⟨rfl,rfl,rfl⟩:=hcut
   have hxi:(x:Int) <= 401:=by omega
   have hx0:(0:Int) <= (x:Int):=by omega
   go_upto_region 47 with (at_builtin; refine wl_put8 HS5.out rfl (.tmp 132) (.tmp 134) rfl [c] 1 _ rfl rfl (by decide) (L+1) (by rw [List.length_append,HL2.out]; rfl) (by omega) rfl rfl ?_; intro g6 c6 w6 hS6)
   have HS6:=Lib.hid hS6
   clear hS6
   by_cases h10:x<10
   ·have ht:efgT d0 ds dp=l ++ [101] ++ [c] ++ [48,UInt8.ofNat (48+x)]:=by
     unfold efgT expD
     rw [<- HX.out,if_pos h10,<- HC.out,HL.out]
    have HTT:=Lib.hid ht
    have e1:decide (x<10)=true:=decide_eq_true h10
    clear ht
    go_wp2_with (at_builtin; refine wl_put8 HS6.out rfl (.tmp 155) (.tmp 159) rfl [48,UInt8.ofNat (48+x)] 2 _ (exp_v1 x h10) rfl (by decide) (L+1+1) (by rw [List.length_append,List.length_append,HL2.out]; rfl) (by omega) rfl rfl ?_; intro g7 c7 w7 hS7; have HS7:=Lib.hid hS7; clear hS7)
    go_ret
    exact ⟨g7,c7,by rw [HTT.out,List.length_append,List.length_append,List.length_append,HL2.out]; rfl,by rw [HTT.out]; exact HS7.out⟩
   ·have e1:decide (x<10)=false:=decide_eq_false h10
    by_cases h100:x<100
    ·have ht:efgT d0 ds dp=l ++ [101] ++ [c] ++ [UInt8.ofNat (48+x / 10),UInt8.ofNat (48+x % 10)]:=by
      unfold efgT expD
      rw [<- HX.out,if_neg h10,if_pos h100,<- HC.out,HL.out]
     have HTT:=Lib.hid ht
     have e2:decide (x<100)=true:=decide_eq_true h100
     clear ht
     go_wp2_with (at_builtin; refine wl_put8 HS6.out rfl (.tmp 164) (.tmp 173) rfl [UInt8.ofNat (48+x / 10),UInt8.ofNat (48+x % 10)] 2 _ (exp_v2 x h100) rfl (by decide) (L+1+1) (by rw [List.length_append,List.length_append,HL2.out]; rfl) (by omega) rfl rfl ?_; intro g7 c7 w7 hS7; have HS7:=Lib.hid hS7; clear hS7)
     go_ret
     exact ⟨g7,c7,by rw [HTT.out,List.length_append,List.length_append,List.length_append,HL2.out]; rfl,by rw [HTT.out]; exact HS7.out⟩
    ·have ht:efgT d0 ds dp=l ++ [101] ++ [c] ++ [UInt8.ofNat (48+x / 100),UInt8.ofNat (48+x / 10 % 10),UInt8.ofNat (48+x % 10)]:=by
      unfold efgT expD
      rw [<- HX.out,if_neg h10,if_neg h100,<- HC.out,HL.out]
     have HTT:=Lib.hid ht
     have e2:decide (x<100)=false:=decide_eq_false h100
     clear ht
     go_wp2_with (at_builtin; refine wl_put8 HS6.out rfl (.tmp 136) (.tmp 150) rfl [UInt8.ofNat (48+x / 100),UInt8.ofNat (48+x / 10 % 10),UInt8.ofNat (48+x % 10)] 3 _ (exp_v3 x (by omega)) rfl (by decide) (L+1+1) (by rw [List.length_append,List.length_append,HL2.out]; rfl) (by omega) rfl rfl ?_; intro g7 c7 w7 hS7; have HS7:=Lib.hid hS7; clear hS7)
     go_ret
     exact ⟨g7,c7,by rw [HTT.out,List.length_append,List.length_append,List.length_append,HL2.out]; rfl,by rw [HTT.out]; exact HS7.out⟩
end Go.Proofs.YtejmbbkklhpnaaaGreatDoor.prnw
