/- The walk of strconv's floatBits. Conditions: as the theorem states. -/
import Derived.Test.YtcbgkbidgpemfaaGreatDoorMf00
import Derived.Test.YtcbgkbidgpemfaaGreatDoorMf25
set_option maxRecDepth 100000
set_option maxHeartbeats 4000000
namespace Go.Proofs.YtcbgkbidgpemfaaGreatDoor.dcw
open Go.RowKit
open bsw
open prnw
open dmx
open fpm
open scp
structure EV (B:Nat) (w:World):Prop where
 lc:LC B w
 fi : 11 < B
 f0:w.cell? ⟨11,0,none⟩=some (.int .u64 52)
 f1:w.cell? ⟨11,1,none⟩=some (.int .u64 11)
 f2:w.cell? ⟨11,2,none⟩=some (.int .i64 (-1023))
 pi : 15 < B
 pt:∃ bb bo cap,bb<B∧w.cell? ⟨15,0,none⟩=some (.slice (some ⟨bb,bo,none⟩) 9 cap) ∧ ∀ d,d <= 8 -> w.cell? ⟨bb,bo+d,none⟩=some (.int .i64 (powT d:Nat))
theorem EV.keep {B:Nat} {w w':World} (h:EV B w) (hk:∀ (p:Addr) (v:Value),p.block<B -> w.cell? p=some v -> w'.cell? p=some v):EV B w':=by
 obtain ⟨⟨l1,bb,bo,cap,l2,l3,l4⟩,fi,f0,f1,f2,pi,b2,o2,c2,p2,p3,p4⟩:=h;refine ⟨⟨l1,bb,bo,cap,l2,hk _ _ l1 l3,fun k h1 h2 => ?_⟩,fi,hk _ _ fi f0,hk _ _ fi f1,hk _ _ fi f2,pi,b2,o2,c2,p2,hk _ _ pi p3,fun d hd=>hk _ _ p2 (p4 d hd)⟩;obtain ⟨c,s,a1,a2,a3⟩:=l4 k h1 h2;exact ⟨c,s,hk _ _ l2 a1,hk _ _ l2 a2,a3⟩
theorem EV.grown {B:Nat} {w w':World} {row:Option Nat} (h:EV B w) (hg:w.grownBy w' row) (hr:∀ r,row=some r -> B <= r):EV B w' :=
 h.keep fun p v hp hv=>(World.cell?_of_block (hg.block p.block (World.block_lt_of_cell? w _ hv) (fun e=>by have:=hr _ e.symm; omega))).trans hv
theorem DV.drewN {w:World} {a V N n:Nat} {dp:Int} {neg:Bool} (h:DV w a V N n dp neg) (q:Nat):DV (w.drewN q) a V N n dp neg:=by
 obtain ⟨f,h1,h2⟩:=h;exact ⟨f,h1.drewN q,h2⟩
theorem EV.drewN {B:Nat} {w:World} (h:EV B w) (q:Nat):EV B (w.drewN q):=h.keep fun _ _ _ hv=>hv
def sgn (neg:Bool) (X:Nat):Nat:=if neg then 9223372036854775808+X else X
def FbPost (w:World) (a:Nat) (X:Nat) (neg:Bool) (e:Ending) (w':World):Prop :=
 e = .returned (.tuple #[.int .u64 ((sgn neg (min X infX):Nat):Int),.bool (decide (infX <= X))])∧w.grownBy w' (some a)
theorem bv_nat (a:Nat) (h:a<18446744073709551616):(BitVec.ofInt 64 (a:Int)).toNat=a:=by
 rw [BitVec.toNat_ofInt];omega
theorem and52 (a:Nat) (h:a<9223372036854775808):bits BinOp.and IntKind.u64 (a:Int) 4503599627370495=((a % 4503599627370496:Nat):Int):=and_mask .u64 (.inr rfl) a 52 h (by decide)
theorem and11 (a:Nat) (h:a<2048):bits BinOp.and IntKind.i64 (a:Int) 2047=(a:Int):=by
 have:=and_mask .i64 (.inl rfl) a 11 (by omega) (by decide);rw [show a % 2 ^ 11=a from Nat.mod_eq_of_lt h] at this;exact this
theorem andb (a:Nat) (h:a<18446744073709551616):bits BinOp.and IntKind.u64 (a:Int) 4503599627370496=((a / 4503599627370496 % 2*4503599627370496:Nat):Int):=by
 have e:bits BinOp.and IntKind.u64 (a:Int) 4503599627370496=IntKind.u64.wrap (((BitVec.ofInt 64 (a:Int) &&& BitVec.ofInt 64 4503599627370496).toNat:Nat):Int):=rfl;have h3:(BitVec.ofInt 64 4503599627370496).toNat=2 ^ 52:=by decide
 have h4:a &&& 2 ^ 52=a / 4503599627370496 % 2*4503599627370496:=by
  have h52:(2:Nat) ^ 52=4503599627370496:=by decide
  apply Nat.eq_of_testBit_eq;intro i;rw [<- h52,Nat.testBit_and,Nat.testBit_two_pow,Nat.testBit_mul_two_pow]
  by_cases hi:52=i
  ·subst hi;rw [Nat.testBit_eq_decide_div_mod_eq,Nat.sub_self,Nat.testBit_eq_decide_div_mod_eq];simp
  ·rw [decide_eq_false hi,Bool.and_false]
   by_cases hl:52 <= i
   ·obtain ⟨j,rfl⟩:∃ j,i=52+(j+1):=⟨i-53,by omega⟩;rw [show 52+(j+1)-52=j+1 by omega,Nat.testBit_succ,show a / 2 ^ 52 % 2 / 2=0 by omega];simp
   ·rw [decide_eq_false hl,Bool.false_and]
 rw [e,BitVec.toNat_and,bv_nat a h,h3,h4,IntKind.wrap_u64];omega
theorem or52 (a b:Nat) (ha:a<4503599627370496) (hb:b<4096):bits BinOp.or IntKind.u64 (a:Int) ((b*4503599627370496:Nat):Int)=((b*4503599627370496+a:Nat):Int):=by
 have e:bits BinOp.or IntKind.u64 (a:Int) ((b*4503599627370496:Nat):Int)=IntKind.u64.wrap (((BitVec.ofInt 64 (a:Int) ||| BitVec.ofInt 64 ((b*4503599627370496:Nat):Int)).toNat:Nat):Int):=rfl;have h4:a ||| b*4503599627370496=b*4503599627370496+a:=by
  rw [Nat.or_comm,Nat.mul_comm];exact (Nat.two_pow_add_eq_or_of_lt (i:=52) (by simpa using ha) b).symm
 rw [e,BitVec.toNat_or,bv_nat a (by omega),bv_nat _ (by omega),h4,IntKind.wrap_u64];omega
theorem orS (a:Nat) (ha:a<9223372036854775808):bits BinOp.or IntKind.u64 (a:Int) 9223372036854775808=((9223372036854775808+a:Nat):Int):=by
 have e:bits BinOp.or IntKind.u64 (a:Int) 9223372036854775808=IntKind.u64.wrap (((BitVec.ofInt 64 (a:Int) ||| BitVec.ofInt 64 9223372036854775808).toNat:Nat):Int):=rfl;have h3:(BitVec.ofInt 64 9223372036854775808).toNat=2 ^ 63*1:=by decide
 have h4:a ||| 2 ^ 63*1=2 ^ 63*1+a:=by
  rw [Nat.or_comm];exact (Nat.two_pow_add_eq_or_of_lt (i:=63) (by simpa using ha) 1).symm
 rw [e,BitVec.toNat_or,bv_nat a (by omega),h3,h4,IntKind.wrap_u64];omega
theorem fbits_any (B a V N n:Nat) (dp:Int) (neg:Bool) (w:World) (hE:EV B w) (hB:B <= a) (hn:n <= 30) (hd : -1200 <= dp) (hd2:dp <= 1200) (h:DV w a V N n dp neg) :
  Calls Tryz.prog 251 #[.pointer (some ⟨a,0,none⟩),.pointer (some ⟨11,0,none⟩)] w (FbPost w a (nearX V one) neg):=by
 obtain ⟨f,hD,hdg,g,hnd,hv⟩:=id h;have c1:=hD.cnd;have c2:=hD.cdp;have c4:=hD.cng;have i0:=hE.f0;have i1:=hE.f1;have i2:=hE.f2;have g1:=g.n1;have t1:((n:Int) == 0)=false:=Yf (by omega)
 by_cases hbig:310<dp
 ·have hX:infX <= nearX V one:=by
   refine near_big one_pos ?_;have h1:=val_ge g dp tenA hnd (by have:=tenA_eq; omega);rw [hv] at h1;have h2:(2:Nat) ^ twoC <= 10 ^ tenA:=by decide +kernel
   exact Nat.le_trans (Nat.mul_le_mul_right _ h2) h1
  have t2:decide (310<dp)=true:=decide_eq_true hbig;have HX:=Yd hX;clear hD hdg g hnd hv hX hbig h g1;go_enter Tryz.func251,Tryz.ntmps251;go_wp2_with fail;refine wp_scope_two 1 0 rfl rfl ?_;go_wp2_with fail
  go_step3
  refine Or.inl ⟨rfl,?_⟩;go_wp2_with fail;go_quiet (fail);go_wp2_with fail;have b1:bits BinOp.and IntKind.u64 0 4503599627370495=0:=by decide +kernel
  have b2:bits BinOp.and IntKind.i64 2047 2047=2047:=by decide +kernel
  have b3:bits BinOp.or IntKind.u64 0 9218868437227405312=9218868437227405312:=by decide +kernel
  have b4:bits BinOp.or IntKind.u64 9218868437227405312 9223372036854775808=18442240474082181120:=by decide +kernel
  have hm:min (nearX V one) infX=infX:=Nat.min_eq_right HX.out;have HM:=Yd hm;clear hm
  go_step3
  go_wp2_with fail;go_quiet (fail)
  cases neg with
  | true =>
   go_wp2_with fail;go_quiet (fail);go_wp2_with fail;go_ret2;exact ⟨by rw [HM.out,decide_eq_true HX.out]; rfl,⟨rfl,rfl,rfl,Nat.le_refl _,fun _ _ _=>rfl⟩⟩
  | false =>
   go_wp2_with fail;go_ret2;exact ⟨by rw [HM.out,decide_eq_true HX.out]; rfl,⟨rfl,rfl,rfl,Nat.le_refl _,fun _ _ _=>rfl⟩⟩
 ·have t2:decide (310<dp)=false:=decide_eq_false hbig
  by_cases hlow:dp < -330
  ·have hX:nearX V one=0:=by
    refine near_low one_pos ?_;have h1:=val_small g dp tenC hnd (by have:=tenC_eq; omega) (by decide);rw [hv] at h1;have h2:(2:Nat) ^ lowE <= 10 ^ tenC:=by decide +kernel
    exact Nat.le_trans (Nat.mul_le_mul_left _ h2) (Nat.le_of_lt h1)
   have t3:decide (dp < -330)=true:=decide_eq_true hlow;have HX:=Yd hX;have b1:bits BinOp.and IntKind.u64 0 4503599627370495=0:=by decide +kernel
   have b2:bits BinOp.and IntKind.i64 0 2047=0:=by decide +kernel
   have b3:bits BinOp.or IntKind.u64 0 0=0:=by decide +kernel
   have b4:bits BinOp.or IntKind.u64 0 9223372036854775808=9223372036854775808:=by decide +kernel
   clear hD hdg g hnd hv hX hbig h g1 hlow;go_enter Tryz.func251,Tryz.ntmps251;go_wp2_with fail;refine wp_scope_two 1 0 rfl rfl ?_;go_wp2_with fail
   go_step3
   refine Or.inr ⟨rfl,?_⟩;go_wp2_with fail;go_quiet (fail)
   cases neg with
   | true =>
    go_wp2_with fail;go_quiet (fail);go_wp2_with fail;go_ret2;exact ⟨by rw [HX.out]; rfl,⟨rfl,rfl,rfl,Nat.le_refl _,fun _ _ _=>rfl⟩⟩
   | false =>
    go_wp2_with fail;go_ret2;exact ⟨by rw [HX.out]; rfl,⟨rfl,rfl,rfl,Nat.le_refl _,fun _ _ _=>rfl⟩⟩
  ·have t3:decide (dp < -330)=false:=decide_eq_false hlow;have hL1:L1 V N n (dp-(n:Int)+2000).toNat V N n dp 0:=by
    refine ⟨g,.inl ⟨rfl,hn⟩,hnd,hv,by rw [Nat.pow_zero,Nat.mul_one],.inl rfl,by omega,by omega,?_,g.hi,hn,?_⟩
    ·rw [<- hv]; rfl
    ·rw [<- hv]; exact val_lt g dp tenA hnd (by have:=tenA_eq; omega)
   have hlo:10 ^ tenB <= V:=by
    rw [<- hv];exact Nat.le_trans (Nat.pow_le_pow_right (by decide) (by have:=tenB_eq; omega)) (val_bd g dp hnd).1
   have H1:=Yd (And.intro hL1 hlo);have HDV:=Yd (And.intro h hE);clear hD hdg g hnd hv hbig h g1 hlow hL1 hlo hE c4 i0 i1 i2;go_enter Tryz.func251,Tryz.ntmps251;go_wp2_with fail;refine wp_scope_two 1 0 rfl rfl ?_;go_wp2_with fail;clear c1 c2
   go_loopg [6] 1034 (fun gk x wr=>∃ V1 N1 n1 dp1 s,x = .int .i64 ((s:Nat):Int)∧gk+s=1034∧(s=0 -> n1 <= 30)∧L1 V N n (dp-(n:Int)+2000).toNat V1 N1 n1 dp1 s∧DV wr a V1 N1 n1 dp1 neg∧EV B wr∧w.grownBy wr (some a))
   case atStart=>exact ⟨V,N,n,dp,0,rfl,rfl,fun _=>hn,H1.out.1,HDV.out.1,HDV.out.2,⟨rfl,rfl,rfl,Nat.le_refl _,fun _ _ _=>rfl⟩⟩
   case round =>
    obtain ⟨V1,N1,n1,dp1,s,rfl,hgs,hs0,hL,hDV,hEV,hgr⟩:=hrel;have hsb:=hL.s_bd;have hnb:=hL.n_bd;have hdp1:=hL.d1;have hdp0:=hL.d0;have c2:=hDV.choose_spec.1.cdp
    by_cases hpos:0<dp1
    ·have t4:decide (0<dp1)=true:=decide_eq_true hpos;obtain ⟨p,hp⟩:∃ p:Nat,dp1=(p:Int):=⟨dp1.toNat,by omega⟩;subst hp;obtain ⟨k,hk⟩:∃ k,powT p=k:=⟨_,rfl⟩;have hkb:=powT_bd p;rw [hk] at hkb;obtain ⟨K,hK⟩:∃ K:Int,-(k:Int)=K:=⟨_,rfl⟩;have hC:∀ q,Calls Tryz.prog 192 #[.pointer (some ⟨a,0,none⟩),.int .i64 K] (wr.drewN q) (SrPost (wr.drewN q) a V1 k (n1+k) p neg):=fun q=>hK ▸
      shift_r1 a N1 n1 k V1 p neg _ hkb.1 (by omega) (by omega) (by omega) (by omega) (by omega) (hDV.drewN q)
     have hNX:∀ q e w',SrPost (wr.drewN q) a V1 k (n1+k) p neg e w' -> e = .returned (.tuple #[]) ∧ ∃ V2 N2 n2 dp2,L1 V N n (dp-(n:Int)+2000).toNat V2 N2 n2 dp2 (s+k)∧DV w' a V2 N2 n2 dp2 neg∧EV B w'∧w.grownBy w' (some a):=fun q e w' hh=>by
      obtain ⟨h1,⟨N2,n2,dp2,h2,hm2,_⟩,h6,h7⟩:=hh;obtain ⟨f2,j1,j2,j3,j4,j5⟩:=id h2;have hst:=hL.step hpos ⟨j3,hm2⟩ j4 (by rw [Int.toNat_natCast,hk]; exact j5) (by rw [Int.toNat_natCast,hk]; exact h6);rw [Int.toNat_natCast,hk] at hst;exact ⟨h1,_,_,_,_,hst,h2,(hEV.drewN q).grown h7 (fun r hr=>by rw [<- Option.some.inj hr]; exact hB),grown_trans (grown_drewN hgr q) h7⟩
     obtain ⟨bb,bo,cap,p2,p3,p4⟩:=hEV.pt;have HC:=Yd (And.intro hC hNX);have k0:(1:Int) <= (k:Int):=by omega
     have k1:(k:Int) <= 27:=by omega
     have s0:(0:Int) <= (s:Int):=by omega
     have s1:(s:Int) <= 1033:=by omega
     have hpp:(p:Int) <= 310:=by omega
     have hp0:(0:Int) <= (p:Int):=by omega
     have HG:=Yd (And.intro hgs (And.intro hkb.1 (show s+k≠0 by omega)));have p1n:0<p:=by omega
     by_cases h9:9 <= p
     ·have hk27:k=27:=by
       obtain ⟨r,rfl⟩:∃ r,p=r+9:=⟨p-9,by omega⟩;rw [<- hk]; rfl
      have t5:decide (9 <= (p:Int))=true:=decide_eq_true (by omega);have t6:(9:Int) <= (p:Int):=by omega
      have hK27:K = -27:=by omega
      subst hK27;have H27:=Yd hk27;clear hC hNX hk hkb hL hDV hEV hgr hgs hs0 hsb hnb hdp1 hdp0 p4 p2 hpos k0 k1 hK hk27;go_wp2_with fail;go_quiet (fail);go_wp2_with (go_at_call 192; (with_reducible refine (HC.out.1 _).mono ?_); intro e w' hh; obtain ⟨rfl,hz⟩:=HC.out.2 _ _ _ hh; have HZ:=Yd hz; clear hz hh);obtain ⟨V2,N2,n2,dp2,z1,z2,z3,z4⟩:=HZ.out
      go_roundg (gk-k)
      case measure=>have:=HG.out; have:=z1.s_bd; omega
      case rel=>exact ⟨V2,N2,n2,dp2,s+k,by have:=H27.out; exact congrArg (Value.int IntKind.i64) (by omega),by have:=HG.out; have:=z1.s_bd; omega,fun h=>absurd h HG.out.2.2,z1,z2,z3,z4⟩
     ·have hk8:=p4 p (by omega);rw [hk] at hk8;have t5:decide (9 <= (p:Int))=false:=decide_eq_false (by omega);have t6:(p:Int)<9:=by omega
      have hKK : -(k:Int)=K:=hK;clear hC hNX hk hkb hL hDV hEV hgr hgs hs0 hsb hnb hdp1 hdp0 p4 p2 hpos hK;go_wp2_with fail;go_quiet (fail);go_wp2_with fail;go_quiet (fail);go_wp2_with (go_at_call 192; (with_reducible refine (HC.out.1 _).mono ?_); intro e w' hh; obtain ⟨rfl,hz⟩:=HC.out.2 _ _ _ hh; have HZ:=Yd hz; clear hz hh);obtain ⟨V2,N2,n2,dp2,z1,z2,z3,z4⟩:=HZ.out
      go_roundg (gk-k)
      case measure=>have:=HG.out; have:=z1.s_bd; omega
      case rel=>exact ⟨V2,N2,n2,dp2,s+k,by exact congrArg (Value.int IntKind.i64) (by omega),by have:=HG.out; have:=z1.s_bd; omega,fun h=>absurd h HG.out.2.2,z1,z2,z3,z4⟩
    ·have t4:decide (0<dp1)=false:=decide_eq_false hpos;have hL2:=hL.two (by omega) hs0 H1.out.2;have HS:=Yd (And.intro hL2 (And.intro hDV (And.intro hEV hgr)));have s0:(0:Int) <= (s:Int):=by omega
     have s1:(s:Int) <= 1033:=by omega
     clear hL hDV hEV hgr hs0 hgs hsb hnb hdp1 hdp0 hpos hL2;go_wp2_with fail;obtain ⟨wa,hwa⟩:∃ wa,wa=wr:=⟨_,rfl⟩;rw [<- hwa] at HS ⊢;clear hwa c2 t4
     go_loopg [6] (s+1101) (fun gk x wr=>∃ V1 N1 n1 dp1 j,x = .int .i64 ((s:Int)-((j:Nat):Int))∧gk+j=s+1101∧L2 V V1 N1 n1 dp1 s j∧DV wr a V1 N1 n1 dp1 neg∧EV B wr∧w.grownBy wr (some a))
     case atStart=>exact ⟨V1,N1,n1,dp1,0,by exact congrArg (Value.int IntKind.i64) (by omega),rfl,HS.out.1,HS.out.2.1,HS.out.2.2.1,HS.out.2.2.2⟩
     case round =>
      clear HS;obtain ⟨V2,N2,n2,dp2,j,rfl,hgj,hL,hDV,hEV,hgr⟩:=hrel;have hjb:=hL.j_bd;have hnb:=hL.n_bd;have hdl:=hL.l;have hd0:=hL.d0;have g:=hL.g;have g1:=g.n1;obtain ⟨f2,hD2,hdg2,_,_,hv2⟩:=id hDV;have c2:=hD2.cdp;obtain ⟨p,hp⟩:∃ p:Nat,dp2 = -(p:Int):=⟨(-dp2).toNat,by omega⟩;subst hp;have hx0:=hdg2 0 (by omega);have hfirst:N2 / 10 ^ (n2-1-0) % 10=N2 / 10 ^ (n2-1):=by
       rw [Nat.sub_zero];refine Nat.mod_eq_of_lt ?_;rw [Nat.div_lt_iff_lt_mul (Nat.pow_pos (by decide)),Nat.mul_comm,<- Nat.pow_succ,show (n2-1).succ=n2 by omega];exact g.hi
      rw [hfirst] at hx0;have c3:=hD2.dig 0 (by omega);obtain ⟨x,hx⟩:∃ x,N2 / 10 ^ (n2-1)=x:=⟨_,rfl⟩;rw [hx] at hx0;rw [hx0,show ((48+x:Nat):Int)=(x:Int)+48 by omega] at c3;have j0:(0:Int) <= (s:Int)-(j:Int)+1100:=by omega
      have j1:(s:Int)-(j:Int) <= 1033:=by omega
      by_cases hcont:0<p∨x<5
      ·obtain ⟨k,hk⟩:∃ k,powT p=k:=⟨_,rfl⟩;have hkb:=powT_bd p;rw [hk] at hkb;have hsm:V2*2 ^ k<one:=by
        by_cases hp0:0<p
        ·have:=hL.small (by omega);rw [Int.neg_neg,Int.toNat_natCast,hk] at this;exact this
        ·have hp1:p=0:=by omega
         have hk1:k=1:=by rw [<- hk,hp1]; rfl
         have:=(half_digit g (by omega)).1 (by rw [hx]; omega);rw [hp1] at hv2;have hv3:val N2 n2 0=V2:=hv2;rw [hv3] at this;rw [hk1,Nat.pow_one,Nat.mul_comm];exact this
       obtain ⟨K,hK⟩:∃ K:Int,(k:Int)=K:=⟨_,rfl⟩;have hC:∀ q,Calls Tryz.prog 192 #[.pointer (some ⟨a,0,none⟩),.int .i64 K] (wr.drewN q) (ShPost (wr.drewN q) a (V2*2 ^ k) (n2+19) (-(p:Int)) neg):=fun q=>hK ▸
        shift_l B a N2 n2 k V2 _ neg _ (hEV.drewN q).lc hB hkb.1 (by omega) (by omega) (by omega) (by omega) (hDV.drewN q)
       have hNX:∀ q e w',ShPost (wr.drewN q) a (V2*2 ^ k) (n2+19) (-(p:Int)) neg e w' -> e = .returned (.tuple #[]) ∧ ∃ V3 N3 n3 dp3,L2 V V3 N3 n3 dp3 s (j+k)∧DV w' a V3 N3 n3 dp3 neg∧EV B w'∧w.grownBy w' (some a):=fun q e w' hh=>by
        obtain ⟨h1,⟨N3,n3,dp3,h2,hm3,_⟩,h7⟩:=hh;obtain ⟨f3,i1,i2,i3,i4,i5⟩:=id h2;exact ⟨h1,_,_,_,_,hL.step hsm ⟨i3,hm3⟩ i4 i5,h2,(hEV.drewN q).grown h7 (fun r hr=>by rw [<- Option.some.inj hr]; exact hB),grown_trans (grown_drewN hgr q) h7⟩
       obtain ⟨bb,bo,cap,p2,p3,p4⟩:=hEV.pt;have HC:=Yd (And.intro hC hNX);have k0:(1:Int) <= (k:Int):=by omega
       have k1:(k:Int) <= 27:=by omega
       have HG:=Yd (And.intro hgj hkb);have HX:=Yd hcont;have hpp:(p:Int) <= 330:=by omega
       by_cases hp0:0<p
       ·have t5:decide (-(p:Int)<0)=true:=decide_eq_true (by omega);have t5':(0:Int)<(p:Int):=by omega
        by_cases h9:9 <= p
        ·have hk27:k=27:=by
          obtain ⟨r,rfl⟩:∃ r,p=r+9:=⟨p-9,by omega⟩;rw [<- hk]; rfl
         have t7:decide (9 <= (p:Int))=true:=decide_eq_true (by omega);have t6:(9:Int) <= (p:Int):=by omega
         have hK27:K=27:=by omega
         subst hK27;have H27:=Yd hk27;clear hC hNX hk hkb hL hDV hEV hgr hgj hjb hnb hdl hd0 g g1 hD2 hdg2 hv2 hx0 hfirst hx hcont hsm p4 p2 hK hk27 k0 k1;go_wp2_with fail;go_quiet (fail);go_wp2_with (go_at_call 192; (with_reducible refine (HC.out.1 _).mono ?_); intro e w' hh; obtain ⟨rfl,hz⟩:=HC.out.2 _ _ _ hh; have HZ:=Yd hz; clear hz hh);obtain ⟨V3,N3,n3,dp3,z1,z2,z3,z4⟩:=HZ.out
         go_roundg (gk-k)
         case measure=>have:=HG.out; have:=z1.j_bd; omega
         case rel=>exact ⟨V3,N3,n3,dp3,j+k,by have:=H27.out; exact congrArg (Value.int IntKind.i64) (by omega),by have:=HG.out; have:=z1.j_bd; omega,z1,z2,z3,z4⟩
        ·have hk8:=p4 p (by omega);rw [hk] at hk8;have t7:decide (9 <= (p:Int))=false:=decide_eq_false (by omega);have t6:(p:Int)<9:=by omega
         have hKK:(k:Int)=K:=hK;clear hC hNX hk hkb hL hDV hEV hgr hgj hjb hnb hdl hd0 g g1 hD2 hdg2 hv2 hx0 hfirst hx hcont hsm p4 p2 hK;go_wp2_with fail;go_quiet (fail);go_wp2_with fail;go_quiet (fail);go_wp2_with (go_at_call 192; (with_reducible refine (HC.out.1 _).mono ?_); intro e w' hh; obtain ⟨rfl,hz⟩:=HC.out.2 _ _ _ hh; have HZ:=Yd hz; clear hz hh);obtain ⟨V3,N3,n3,dp3,z1,z2,z3,z4⟩:=HZ.out
         go_roundg (gk-k)
         case measure=>have:=HG.out; have:=z1.j_bd; omega
         case rel=>exact ⟨V3,N3,n3,dp3,j+k,by exact congrArg (Value.int IntKind.i64) (by omega),by have:=HG.out; have:=z1.j_bd; omega,z1,z2,z3,z4⟩
       ·have hp1:p=0:=by omega
        subst hp1;have hk1:k=1:=by rw [<- hk]; rfl
        have hk8:=p4 0 (by omega);rw [hk,hk1,Nat.add_zero] at hk8;have c2':wr.cell? ⟨a,801,none⟩=some (.int .i64 0):=c2;have t8:decide ((x:Int)+48<53)=true:=decide_eq_true (by omega);have hK1:K=1:=by omega
        subst hK1;have H27:=Yd hk1;clear hC hNX hk hkb hL hDV hEV hgr hgj hjb hnb hdl hd0 g g1 hD2 hdg2 hv2 hx0 hfirst hx hcont hsm p4 p2 hK c2 hp0 hk1 k0 k1 hpp;go_wp2_with fail;go_quiet (fail);go_wp2_with fail;go_quiet (fail);go_wp2_with (go_at_call 192; (with_reducible refine (HC.out.1 _).mono ?_); intro e w' hh; obtain ⟨rfl,hz⟩:=HC.out.2 _ _ _ hh; have HZ:=Yd hz; clear hz hh);obtain ⟨V3,N3,n3,dp3,z1,z2,z3,z4⟩:=HZ.out
        go_roundg (gk-k)
        case measure=>have:=HG.out; have:=z1.j_bd; omega
        case rel=>exact ⟨V3,N3,n3,dp3,j+k,by have:=H27.out; exact congrArg (Value.int IntKind.i64) (by omega),by have:=HG.out; have:=z1.j_bd; omega,z1,z2,z3,z4⟩
      ·have hp0:p=0:=by omega
       subst hp0;have c2':wr.cell? ⟨a,801,none⟩=some (.int .i64 0):=c2;have hhalf:one <= 2*V2:=by
        have:=(half_digit g (by omega)).2 (by rw [hx]; omega);have hv3:val N2 n2 0=V2:=hv2;rw [hv3] at this;exact this
       have t8:decide ((x:Int)+48<53)=false:=decide_eq_false (by omega);obtain ⟨E,hE⟩:∃ E:Int,(s:Int)-(j:Int)=E+1:=⟨(s:Int)-(j:Int)-1,by omega⟩;rw [hE] at j0 j1 ⊢;have E0 : -1101 <= E:=by omega
       have E9:E <= 1032:=by omega
       have HE:=Yd hE;have HF:=Yd (And.intro hL (And.intro hhalf (And.intro hDV (And.intro hEV hgr))));have i0:=hEV.f0;have i1:=hEV.f1;have i2:=hEV.f2;clear hL hDV hEV hgr hgj hnb hdl hd0 g g1 hD2 hdg2 hv2 hx0 hfirst hx hcont c2 hhalf hE;go_upto_if 111 with (fail);have HJ:=Yd hjb
       go_cut [6,10] from 111 to 125 (fun x6 x10 wx=>∃ V3 N3 n3 dp3 t,x6 = .int .i64 ((t:Nat)-1022:Int)∧t <= 2054∧nearX V one=t*4503599627370496+rne (V3*2 ^ 53) one∧rne (V3*2 ^ 53) one <= 9007199254740992∧(t=0∨4503599627370496 <= rne (V3*2 ^ 53) one) ∧
        V3<one∧n3 <= 770 ∧ -1000 <= dp3∧dp3 <= 1000∧DV wx a V3 N3 n3 dp3 neg∧EV B wx∧w.grownBy wx (some a))
       case first =>
        obtain ⟨hL,hhalf,hDV,hEV,hgr⟩:=HF.out;have hV:=hL.v_lt;have hn7:=hL.n_bd
        by_cases hnorm:j <= s+1021
        ·obtain ⟨t,ht⟩:∃ t,t=s+1021-j:=⟨_,rfl⟩;have hfb:=fb_norm hL hhalf hnorm;rw [<- ht] at hfb;have hE:=HE.out;have et:E=(t:Int)-1022:=by omega
         have t9:decide (E < -1022)=false:=decide_eq_false (by omega);have t9' : -1022 <= E:=by omega
         rw [t9];have HW:=Yd (And.intro et (And.intro hfb (And.intro (show t <= 2054 by omega) (And.intro hV hn7))));clear hL hhalf hDV hEV hgr hV hn7 hnorm ht hfb et hjb hE;go_wp2_with fail;go_meet;obtain ⟨hL,hhalf,hDV,hEV,hgr⟩:=HF.out;obtain ⟨h1,⟨h2,h3,h4⟩,h5,h6,h7⟩:=HW.out;exact ⟨V2,N2,n2,_,t,by rw [h1],h5,h2,h4,.inr h3,h6,by omega,by decide,by decide,hDV,hEV,hgr⟩
        ·obtain ⟨m,hm⟩:∃ m,j=s+1021+m:=⟨j-(s+1021),by omega⟩;have hm1:1 <= m:=by omega
         have hm79:m <= 79:=by omega
         have hE:=HE.out;have t9:decide (E < -1022)=true:=decide_eq_true (by omega);rw [t9];have e1 : -1022-E=(m:Int):=by omega
         have hfar:=hL.far;have hn361:n2 <= 361:=by omega
         have hC:Calls Tryz.prog 192 #[.pointer (some ⟨a,0,none⟩),.int .i64 (-(-1022-E))] wr (Sr2Post wr a V2 m (n2+m) 0 neg):=by
          rw [e1];exact shift_r a N2 n2 m V2 0 neg wr hm1 (by omega) (by omega) (by omega) (by omega) (by omega) hDV
         have HC:=Yd hC;have HE2:=Yd (show E+(-1022-E)=((0:Nat):Int)-1022 by omega);have HW:=Yd (And.intro hm (And.intro hm1 hm79));have m0:(1:Int) <= (m:Int):=by omega
         have m9:(m:Int) <= 79:=by omega
         clear hL hhalf hDV hEV hgr hV hn7 hnorm hm hjb hfar hm1 hm79 hC e1 hE;go_wp2_with (go_at_call 192; (with_reducible refine HC.out.mono ?_); rintro e w' ⟨rfl,hz⟩; have HZ:=Yd hz; clear hz);go_meet;obtain ⟨hL,hhalf,hDV,hEV,hgr⟩:=HF.out;obtain ⟨⟨N3,n3,dp3,z1,_,z2,z3,z4⟩,z5,z6⟩:=HZ.out;have hfb:=fb_den hL HW.out.1 z5;exact ⟨_,N3,n3,dp3,0,by first | rfl | exact congrArg (Value.int IntKind.i64) HE2.out | exact congrArg (Value.int IntKind.i64) (by omega),by omega,by rw [Nat.zero_mul,Nat.zero_add]; exact hfb.1,hfb.2,.inl rfl,Nat.lt_of_le_of_lt (Nat.div_le_self _ _) hL.v_lt,by have:=HW.out.2; omega,by omega,by omega,z1,hEV.grown z6 (fun r hr=>by rw [<- Option.some.inj hr]; exact hB),grown_trans hgr z6⟩
       case rest =>
        obtain ⟨V3,N3,n3,dp3,t,rfl,ht,hnear,hle,hor,hV3,hn3,hd3,hd4,hDV,hEV,hgr⟩:=hcut;have i0':=hEV.f0;have i1':=hEV.f1;have i2':=hEV.f2;have c4':=hDV.choose_spec.1.cng;clear i0 i1 i2 c3 t8 c2' j0 j1 HF hjb HJ HE E0 E9;obtain ⟨R,hR⟩:∃ R,rne (V3*2 ^ 53) one=R:=⟨_,rfl⟩;rw [hR] at hnear hle hor;have tt0:(0:Int) <= (t:Int):=by omega
        have tt9:(t:Int) <= 2054:=by omega
        have HO:=Yd (And.intro hnear (And.intro hle (And.intro hor hgr)))
        by_cases hbig2:2046 <= t
        ·have hX:infX <= nearX V one:=by
          rw [hnear];unfold infX;omega
         have u1:decide (2047 <= (t:Int)-1022+1023)=true:=decide_eq_true (by omega);have HX:=Yd hX;clear hnear hle hor hR hV3 hn3 hd3 hd4 hDV hEV hgr hX ht;go_wp2_with fail;go_quiet (fail);go_wp2_with fail
         go_step3
         refine Or.inl ⟨rfl,?_⟩;go_wp2_with fail;go_quiet (fail);go_wp2_with fail;have b1:bits BinOp.and IntKind.u64 0 4503599627370495=0:=by decide +kernel
         have b2:bits BinOp.and IntKind.i64 2047 2047=2047:=by decide +kernel
         have b3:bits BinOp.or IntKind.u64 0 9218868437227405312=9218868437227405312:=by decide +kernel
         have b4:bits BinOp.or IntKind.u64 9218868437227405312 9223372036854775808=18442240474082181120:=by decide +kernel
         have hm:min (nearX V one) infX=infX:=Nat.min_eq_right HX.out;have HM:=Yd hm;clear hm
         go_step3
         go_wp2_with fail;go_quiet (fail)
         cases neg with
         | true =>
          go_wp2_with fail;go_quiet (fail);go_wp2_with fail;go_ret2;exact ⟨by rw [HM.out,decide_eq_true HX.out]; rfl,by first | exact grown_drewN HO.out.2.2.2 _ | exact grown_drewN (grown_drewN HO.out.2.2.2 _) _ | exact grown_drewN (grown_drewN (grown_drewN HO.out.2.2.2 _) _) _ | exact grown_drewN (grown_drewN (grown_drewN (grown_drewN HO.out.2.2.2 _) _) _) _⟩
         | false =>
          go_wp2_with fail;go_ret2;exact ⟨by rw [HM.out,decide_eq_true HX.out]; rfl,by first | exact grown_drewN HO.out.2.2.2 _ | exact grown_drewN (grown_drewN HO.out.2.2.2 _) _ | exact grown_drewN (grown_drewN (grown_drewN HO.out.2.2.2 _) _) _ | exact grown_drewN (grown_drewN (grown_drewN (grown_drewN HO.out.2.2.2 _) _) _) _⟩
        ·have u1:decide (2047 <= (t:Int)-1022+1023)=false:=decide_eq_false (by omega);have hn3':n3+20 <= 800:=by omega
         have hC:∀ q,Calls Tryz.prog 192 #[.pointer (some ⟨a,0,none⟩),.int .i64 53] (wc.drewN q) (ShPost (wc.drewN q) a (V3*2 ^ 53) (n3+19) dp3 neg):=fun q =>
          shift_l B a N3 n3 53 V3 dp3 neg _ (hEV.drewN q).lc hB (by decide) (by decide) hn3' (by omega) (by omega) (hDV.drewN q)
         have hR2:∀ q e w',ShPost (wc.drewN q) a (V3*2 ^ 53) (n3+19) dp3 neg e w' -> e = .returned (.tuple #[])∧Calls Tryz.prog 259 #[.pointer (some ⟨a,0,none⟩)] w' (Same w' (.int .u64 ((R:Nat):Int)))∧EV B w'∧w'.cell? ⟨a,802,none⟩=some (.bool neg)∧w.grownBy w' (some a):=fun q e w' hh=>by
          obtain ⟨h1,⟨N4,n4,dp4,h2,hm4,h3,h4,h5⟩,h7⟩:=hh;obtain ⟨f4,k1,k2,k3,k4,k5⟩:=id h2;have hlt:V3*2 ^ 53<1152921504606846976*one:=by
           have e1:(2:Nat) ^ 53=9007199254740992:=by decide
           rw [e1];generalize one=o at *;omega
          have hd20:dp4 <= 20:=by
           refine Int.not_lt.1 fun hl => ?_;have h9:=val_ge k3 dp4 20 k4 (by omega);rw [k5] at h9;have e2:(10:Nat) ^ 20=100000000000000000000:=by decide
           rw [e2] at h9;generalize one=o at *;omega
          have:=rint_any a (V3*2 ^ 53) N4 n4 dp4 neg w' h2 hm4 (by omega) (by omega) hd20 hlt;rw [hR] at this;exact ⟨h1,this,(hEV.drewN q).grown h7 (fun r hr=>by rw [<- Option.some.inj hr]; exact hB),k1.cng,grown_trans (grown_drewN hgr q) h7⟩
         have HC:=Yd (And.intro hC hR2);have R0:(0:Int) <= (R:Int):=by omega
         have R9:(R:Int) <= 9007199254740992:=by omega
         have HT:=Yd (And.intro ht hbig2);clear hnear hle hor hR hV3 hn3 hn3' hd3 hd4 hDV hEV hgr hC hR2 ht c4';go_upto_region 32 with (first | (go_quiet (fail)) | (go_at_call 192; (with_reducible refine (HC.out.1 _).mono ?_); intro e w' hh; obtain ⟨rfl,hq,hev,hc4,hz⟩:=HC.out.2 _ _ _ hh; have HQ:=Yd hq; have HV:=Yd hev; have HZ:=Yd hz; clear hz hh hq hev));have i0'':=HV.out.f0;have i1'':=HV.out.f1;have i2'':=HV.out.f2
         by_cases hR53:R=9007199254740992
         ·subst hR53;go_upto_region 33 with (go_at_call 259; (with_reducible refine HQ.out.mono ?_); rintro e w' ⟨rfl,hw'⟩; obtain rfl:=hw'.symm)
          by_cases h45:2045 <= t
          ·have u2:decide (2047 <= (t:Int)-1022+1+1023)=true:=decide_eq_true (by omega);have HX:=Yd (show infX <= nearX V one by have:=HO.out.1; unfold infX; omega);go_wp2_with fail;go_quiet (fail);go_wp2_with fail
           go_step3
           refine Or.inl ⟨rfl,?_⟩;go_wp2_with fail;go_quiet (fail);go_wp2_with fail;have b1:bits BinOp.and IntKind.u64 0 4503599627370495=0:=by decide +kernel
           have b2:bits BinOp.and IntKind.i64 2047 2047=2047:=by decide +kernel
           have b3:bits BinOp.or IntKind.u64 0 9218868437227405312=9218868437227405312:=by decide +kernel
           have b4:bits BinOp.or IntKind.u64 9218868437227405312 9223372036854775808=18442240474082181120:=by decide +kernel
           have hm:min (nearX V one) infX=infX:=Nat.min_eq_right HX.out;have HM:=Yd hm;clear hm
           go_step3
           go_wp2_with fail;go_quiet (fail)
           cases neg with
           | true =>
            go_wp2_with fail;go_quiet (fail);go_wp2_with fail;go_ret2;exact ⟨by rw [HM.out,decide_eq_true HX.out]; rfl,by first | exact HZ.out | exact grown_drewN HZ.out _ | exact grown_drewN (grown_drewN HZ.out _) _ | exact grown_drewN (grown_drewN (grown_drewN HZ.out _) _) _ | exact grown_drewN (grown_drewN (grown_drewN (grown_drewN HZ.out _) _) _) _⟩
           | false =>
            go_wp2_with fail;go_ret2;exact ⟨by rw [HM.out,decide_eq_true HX.out]; rfl,by first | exact HZ.out | exact grown_drewN HZ.out _ | exact grown_drewN (grown_drewN HZ.out _) _ | exact grown_drewN (grown_drewN (grown_drewN HZ.out _) _) _ | exact grown_drewN (grown_drewN (grown_drewN (grown_drewN HZ.out _) _) _) _⟩
          ·have u2:decide (2047 <= (t:Int)-1022+1+1023)=false:=decide_eq_false (by omega);obtain ⟨T2,hT2⟩:∃ T2,t+2=T2:=⟨_,rfl⟩;obtain ⟨Y,hY⟩:∃ Y,T2*4503599627370496=Y:=⟨_,rfl⟩;have b0:bits BinOp.and IntKind.u64 4503599627370496 4503599627370496=4503599627370496:=by decide +kernel
           have b1:bits BinOp.and IntKind.u64 4503599627370496 4503599627370495=0:=by decide +kernel
           have b2:bits BinOp.and IntKind.i64 ((t:Int)-1022+1+1023) 2047=(T2:Int):=by
            rw [show (t:Int)-1022+1+1023=(T2:Int) by omega];exact and11 T2 (by omega)
           have b5:IntKind.u64.wrap ((T2:Int)*4503599627370496)=(Y:Int):=by rw [IntKind.wrap_u64]; omega
           have b3:bits BinOp.or IntKind.u64 0 (Y:Int)=(Y:Int):=by
            have:=or52 0 T2 (by decide) (by omega);rw [hY] at this;exact this
           have b4:=orS Y (by omega);have HM:=Yd (show sgn true (min (nearX V one) infX)=9223372036854775808+Y∧sgn false (min (nearX V one) infX)=Y∧decide (infX <= nearX V one)=false from by
            have hX:nearX V one=Y:=by have:=HO.out.1; omega
            have hlt:Y<infX:=by have:=HT.out; unfold infX; omega
            rw [hX,Nat.min_eq_left (Nat.le_of_lt hlt)];exact ⟨rfl,rfl,decide_eq_false (by omega)⟩)
           have T20:(0:Int) <= (T2:Int):=by omega
           have T29:(T2:Int) <= 2046:=by omega
           clear hT2 hY;go_wp2_with fail;go_quiet (fail);go_wp2_with fail
           go_step3
           refine Or.inr ⟨rfl,?_⟩;go_wp2_with fail;go_quiet (fail)
           cases neg with
           | true =>
            go_wp2_with fail;go_quiet (fail);go_wp2_with fail;go_ret2;exact ⟨by rw [HM.out.1,HM.out.2.2]; rfl,by first | exact HZ.out | exact grown_drewN HZ.out _ | exact grown_drewN (grown_drewN HZ.out _) _ | exact grown_drewN (grown_drewN (grown_drewN HZ.out _) _) _ | exact grown_drewN (grown_drewN (grown_drewN (grown_drewN HZ.out _) _) _) _⟩
           | false =>
            go_wp2_with fail;go_ret2;exact ⟨by rw [HM.out.2.1,HM.out.2.2]; rfl,by first | exact HZ.out | exact grown_drewN HZ.out _ | exact grown_drewN (grown_drewN HZ.out _) _ | exact grown_drewN (grown_drewN (grown_drewN HZ.out _) _) _ | exact grown_drewN (grown_drewN (grown_drewN (grown_drewN HZ.out _) _) _) _⟩
         ·have t10:((R:Int) == 9007199254740992)=false:=Yf (by omega)
          go_upto_region 33 with (go_at_call 259; (with_reducible refine HQ.out.mono ?_); rintro e w' ⟨rfl,hw'⟩; obtain rfl:=hw'.symm)
          by_cases hden:R<4503599627370496
          ·have b0:bits BinOp.and IntKind.u64 (R:Int) 4503599627370496=0:=by
            rw [andb R (by omega),Nat.div_eq_of_lt hden];rfl
           have b1:bits BinOp.and IntKind.u64 (R:Int) 4503599627370495=(R:Int):=by rw [and52 R (by omega),Nat.mod_eq_of_lt hden]
           have b2:bits BinOp.and IntKind.i64 0 2047=0:=by decide +kernel
           have b3:bits BinOp.or IntKind.u64 (R:Int) 0=(R:Int):=by
            have:=or52 R 0 hden (by decide);rw [Nat.zero_mul,Nat.zero_add] at this;exact this
           have b4:=orS R (by omega);have ht0:t=0:=by have:=HO.out.2.2.1; omega
           have HM:=Yd (show sgn true (min (nearX V one) infX)=9223372036854775808+R∧sgn false (min (nearX V one) infX)=R∧decide (infX <= nearX V one)=false from by
            have hX:nearX V one=R:=by have:=HO.out.1; omega
            have hlt:R<infX:=by have:=HT.out; unfold infX; omega
            rw [hX,Nat.min_eq_left (Nat.le_of_lt hlt)];exact ⟨rfl,rfl,decide_eq_false (by omega)⟩)
           clear ht0 hden hR53;go_wp2_with fail
           go_step3
           refine Or.inr ⟨rfl,?_⟩;go_wp2_with fail;go_quiet (fail)
           cases neg with
           | true =>
            go_wp2_with fail;go_quiet (fail);go_wp2_with fail;go_ret2;exact ⟨by rw [HM.out.1,HM.out.2.2]; rfl,by first | exact HZ.out | exact grown_drewN HZ.out _ | exact grown_drewN (grown_drewN HZ.out _) _ | exact grown_drewN (grown_drewN (grown_drewN HZ.out _) _) _ | exact grown_drewN (grown_drewN (grown_drewN (grown_drewN HZ.out _) _) _) _⟩
           | false =>
            go_wp2_with fail;go_ret2;exact ⟨by rw [HM.out.2.1,HM.out.2.2]; rfl,by first | exact HZ.out | exact grown_drewN HZ.out _ | exact grown_drewN (grown_drewN HZ.out _) _ | exact grown_drewN (grown_drewN (grown_drewN HZ.out _) _) _ | exact grown_drewN (grown_drewN (grown_drewN (grown_drewN HZ.out _) _) _) _⟩
          ·obtain ⟨T1,hT1⟩:∃ T1,t+1=T1:=⟨_,rfl⟩;obtain ⟨Y,hY⟩:∃ Y,T1*4503599627370496=Y:=⟨_,rfl⟩;obtain ⟨r,hr⟩:∃ r,R=4503599627370496+r:=⟨R-4503599627370496,by omega⟩;have b0:bits BinOp.and IntKind.u64 (R:Int) 4503599627370496=4503599627370496:=by
            rw [andb R (by omega),show R / 4503599627370496 % 2=1 by omega];rfl
           have b1:bits BinOp.and IntKind.u64 (R:Int) 4503599627370495=(r:Int):=by rw [and52 R (by omega),show R % 4503599627370496=r by omega]
           have b2:bits BinOp.and IntKind.i64 ((t:Int)-1022+1023) 2047=(T1:Int):=by
            rw [show (t:Int)-1022+1023=(T1:Int) by omega];exact and11 T1 (by omega)
           have b5:IntKind.u64.wrap ((T1:Int)*4503599627370496)=(Y:Int):=by rw [IntKind.wrap_u64]; omega
           obtain ⟨X,hX⟩:∃ X,Y+r=X:=⟨_,rfl⟩;have b3:bits BinOp.or IntKind.u64 (r:Int) (Y:Int)=(X:Int):=by
            have:=or52 r T1 (by omega) (by omega);rw [hY,hX] at this;exact this
           have b4:=orS X (by omega);have HM:=Yd (show sgn true (min (nearX V one) infX)=9223372036854775808+X∧sgn false (min (nearX V one) infX)=X∧decide (infX <= nearX V one)=false from by
            have hXX:nearX V one=X:=by have:=HO.out.1; omega
            have hlt:X<infX:=by have:=HT.out; unfold infX; omega
            rw [hXX,Nat.min_eq_left (Nat.le_of_lt hlt)];exact ⟨rfl,rfl,decide_eq_false (by omega)⟩)
           have T20:(0:Int) <= (T1:Int):=by omega
           have T29:(T1:Int) <= 2046:=by omega
           clear hT1 hY hr hX hden hR53;go_wp2_with fail
           go_step3
           refine Or.inr ⟨rfl,?_⟩;go_wp2_with fail;go_quiet (fail)
           cases neg with
           | true =>
            go_wp2_with fail;go_quiet (fail);go_wp2_with fail;go_ret2;exact ⟨by rw [HM.out.1,HM.out.2.2]; rfl,by first | exact HZ.out | exact grown_drewN HZ.out _ | exact grown_drewN (grown_drewN HZ.out _) _ | exact grown_drewN (grown_drewN (grown_drewN HZ.out _) _) _ | exact grown_drewN (grown_drewN (grown_drewN (grown_drewN HZ.out _) _) _) _⟩
           | false =>
            go_wp2_with fail;go_ret2;exact ⟨by rw [HM.out.2.1,HM.out.2.2]; rfl,by first | exact HZ.out | exact grown_drewN HZ.out _ | exact grown_drewN (grown_drewN HZ.out _) _ | exact grown_drewN (grown_drewN (grown_drewN HZ.out _) _) _ | exact grown_drewN (grown_drewN (grown_drewN (grown_drewN HZ.out _) _) _) _⟩
end Go.Proofs.YtcbgkbidgpemfaaGreatDoor.dcw
