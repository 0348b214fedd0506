/- The walk of strconv's (*decimal).set at a decimal. Conditions: as the theorem states. -/
import Derived.Test.YtcbgkbidgpemfaaGreatDoorMf00
import Derived.Test.YtcbgkbidgpemfaaGreatDoorMf27
import Derived.Test.YtcbgkbidgpemfaaGreatDoorMf26
import Derived.StillTail
import Derived.StillTailTactics
set_option maxRecDepth 100000
set_option maxHeartbeats 4000000
namespace Go.Proofs.YtcbgkbidgpemfaaGreatDoor.rdf
open Go.RowKit
open bsw
open prnw
open dcw
open dmx
theorem wl_set_bool {ops:Array Oper} {rest:List Oper} {o:Oper} {a:Act} {w:World} {Q:Exit -> Act -> World -> Prop} (hgd:o.guard=none) (x y:Operand) (ho:o.op = .store 4 x y) (b j:Nat) (v:Bool) (old:Value) (hx:a.eval x = .pointer (some ⟨b,j,none⟩)) (hy:a.eval y = .bool v)
  (hc:w.cell? ⟨b,j,none⟩=some old) (hf:w.frozen? ⟨b,j,none⟩=false)
  (h:wpList Tryz.prog ops Q rest (a.put o.dst undef) (w.setCell ⟨b,j,none⟩ (.bool v))):wpList Tryz.prog ops Q (o :: rest) a w:=by
 have hr:(Instr.storeAt 4 (.pointer (some ⟨b,j,none⟩)) (.bool v)).run Tryz.prog w = .ok () (w.setCell ⟨b,j,none⟩ (.bool v)):=by
  simp [Instr.storeAt,Instr.sureAddr,storeVar,run_store_bool,stored,hc,hf,go_sem]
 refine wpList_plain hgd fun K hK => ?_;unfold Oper.wp execOp;simp only [ho,hx,hy,hr,Sem.run_bind,Sem.run_pure,Result.andThen_ok];exact hK _ _ h
theorem dm_neg {w:World} {a:Nat} {f:Nat -> Nat} {nd dp:Int} {neg:Bool} (h:DM w a f nd dp neg) (b:Bool):DM (w.setCell ⟨a,802,none⟩ (.bool b)) a f nd dp b:=by
 obtain ⟨cs,h0,h1,h2,h3,h4,h5⟩:=h;refine ⟨_,heap_set w a 802 _ _ _ _ h0,fun i hi => ?_,?_,?_,?_,?_⟩
 ·rw [set_at h4,if_neg (by omega)]; exact h1 i hi
 ·rw [set_at h4,if_neg (by omega)]; exact h2
 ·rw [set_at h4,if_neg (by omega)]; exact h3
 ·rw [set_at h4,if_pos rfl]
 ·rw [set_at h4,if_neg (by omega)]; exact h5
theorem dm_tr {w:World} {a:Nat} {f:Nat -> Nat} {nd dp:Int} {neg:Bool} (h:DM w a f nd dp neg):DM (w.setCell ⟨a,803,none⟩ (.bool false)) a f nd dp neg:=by
 obtain ⟨cs,h0,h1,h2,h3,h4,h5⟩:=h;refine ⟨_,heap_set w a 803 _ _ _ _ h0,fun i hi => ?_,?_,?_,?_,?_⟩
 ·rw [set_at h5,if_neg (by omega)]; exact h1 i hi
 ·rw [set_at h5,if_neg (by omega)]; exact h2
 ·rw [set_at h5,if_neg (by omega)]; exact h3
 ·rw [set_at h5,if_neg (by omega)]; exact h4
 ·rw [set_at h5,if_pos rfl]
def SeW (w:World) (a N n:Nat) (dp:Int) (neg:Bool) (wx:World):Prop:=∃ f,DM wx a f (n:Nat) dp neg∧Dg f N n∧w.grownBy wx (some a)
theorem SeW.drew {w wx:World} {a N n:Nat} {dp:Int} {neg:Bool} (h:SeW w a N n dp neg wx):SeW w a N n dp neg wx.drew:=by
 obtain ⟨f,⟨cs,h0,h1⟩,h2,h3⟩:=h;exact ⟨f,⟨cs,h0,h1⟩,h2,h3.os,h3.tape,h3.output,h3.size,h3.block⟩
theorem SeW.dp {w wx:World} {a N n:Nat} {dp:Int} {neg:Bool} (h:SeW w a N n dp neg wx) (d:Int):SeW w a N n d neg (wx.setCell ⟨a,801,none⟩ (.int .i64 d)):=by
 obtain ⟨f,h1,h2,h3⟩:=h;exact ⟨f,h1.sdp d,h2,grown_trans h3 (set_grown _ _ _ _)⟩
theorem SeW.ng {w wx:World} {a N n:Nat} {dp:Int} {neg:Bool} (h:SeW w a N n dp neg wx) (b:Bool):SeW w a N n dp b (wx.setCell ⟨a,802,none⟩ (.bool b)):=by
 obtain ⟨f,h1,h2,h3⟩:=h;exact ⟨f,dm_neg h1 b,h2,grown_trans h3 (set_grown _ _ _ _)⟩
theorem SeW.tr {w wx:World} {a N n:Nat} {dp:Int} {neg:Bool} (h:SeW w a N n dp neg wx):SeW w a N n dp neg (wx.setCell ⟨a,803,none⟩ (.bool false)):=by
 obtain ⟨f,h1,h2,h3⟩:=h;exact ⟨f,dm_tr h1,h2,grown_trans h3 (set_grown _ _ _ _)⟩
theorem SeW.at {w wx:World} {a N n:Nat} {dp:Int} {neg:Bool} (h:SeW w a N n dp neg wx):wx.cell? ⟨a,800,none⟩=some (.int .i64 (n:Nat))∧wx.cell? ⟨a,801,none⟩=some (.int .i64 dp)∧wx.cell? ⟨a,802,none⟩=some (.bool neg)∧wx.cell? ⟨a,803,none⟩=some (.bool false)∧(∀ j,wx.frozen? ⟨a,j,none⟩=false) ∧ ∀ j,j<800 -> ∃ v,wx.cell? ⟨a,j,none⟩=some v:=by
 obtain ⟨f,h1,_,_⟩:=h;exact ⟨h1.cnd,h1.cdp,h1.cng,h1.ctr,h1.fr,fun j hj=>⟨_,h1.dig j hj⟩⟩
theorem SeW.put {w wx:World} {a N n:Nat} {dp:Int} {neg:Bool} (h:SeW w a N n dp neg wx) (c y:Nat) (hc:c=48+y) (hy:y<10) (hn:n<800) :
  wx.frozen? ⟨a,n,none⟩=false∧(wx.setCell ⟨a,n,none⟩ (.int .u8 (c:Nat))).cell? ⟨a,800,none⟩=some (.int .i64 (n:Nat))∧(wx.setCell ⟨a,n,none⟩ (.int .u8 (c:Nat))).frozen? ⟨a,800,none⟩=false ∧
  SeW w a (N*10+y) (n+1) dp neg ((wx.setCell ⟨a,n,none⟩ (.int .u8 (c:Nat))).setCell ⟨a,800,none⟩ (.int .i64 ((n:Int)+1))):=by
 obtain ⟨f,h1,h2,h3⟩:=h;have h4:=h1.sdig n c hn;refine ⟨h1.fr n,h4.cnd,h4.fr 800,_,h4.snd _,fun j hj => ?_,grown_trans (grown_trans h3 (set_grown _ _ _ _)) (set_grown _ _ _ _)⟩
 by_cases hjn:j=n
 ·subst hjn;rw [upd_at,hc,show j+1-1-j=0 by omega,Nat.pow_zero,Nat.div_one];omega
 ·rw [upd_ne _ _ _ _ hjn,h2 j (by omega),show n+1-1-j=n-1-j+1 by omega,Nat.pow_succ,Nat.mul_comm (10 ^ (n-1-j)) 10,<- Nat.div_div_eq_div_mul,show (N*10+y) / 10=N by omega]
def SetPost (w:World) (a N n:Nat) (dp:Int) (neg:Bool) (e:Ending) (w':World):Prop:=e = .returned (.bool true)∧SeW w a N n dp neg w'
theorem dg_parts (c:UInt8) (y:MS) (hz:¬ (c.toNat=48∧y.nd=0)):(dgS c y).N=y.N*10+(c.toNat-48)∧(dgS c y).nd=y.nd+1∧(dgS c y).dp=y.dp∧(dgS c y).sd=true∧(dgS c y).dot=y.dot:=by
 unfold dgS;rw [if_neg hz]
 split <;> exact ⟨rfl,rfl,rfl,rfl,rfl⟩
def dpX (x:MS):Int:=if x.dot then x.dp else (x.nd:Int)
theorem set_any (a:Nat) (s:ByteArray) (neg:Bool) (x:MS) (rest:List UInt8) (ex:Int) (h:RfOk s neg x rest ex) (w:World) (hS0:SeW w a 0 0 0 false w) :
  Calls Tryz.prog 250 #[.pointer (some ⟨a,0,none⟩),.string s] w (SetPost w a x.N x.nd (dpX x+ex) neg):=by
 obtain ⟨h1,h2,h3,h4,h5,h6,h7,h8,h9⟩:=h;have HL:=fun c (W:World) => Tryz.internal_strconv_lower c W;have t0:0<s.size:=h2;have t0':¬ s=ByteArray.empty:=fun e=>by
  rw [e] at h2;exact absurd h2 (by decide)
 have t1:((s[0].toNat:Int) == 43)=false:=Yf (by omega)
 obtain ⟨i0,hi0⟩:∃ i0,i0=if neg then 1 else 0:=⟨_,rfl⟩;rw [<- hi0] at h6;have hi1:i0<s.size:=by
  rw [hi0]
  cases neg with
  | true=>have:=h8 rfl; simp; omega
  | false=>simp; omega
 have HH:=Yd (And.intro h3 (And.intro h6 (And.intro h7 h9)));obtain ⟨D,hD⟩:∃ D:Int,D=dpX x:=⟨_,rfl⟩;have HD:=Yd hD;rw [<- hD];clear hD;have HI:=Yd hi0;have HN:=Yd h5;have HL2:=Yd HL;have hS1:=hS0.ng false;have hS2:=hS1.tr;obtain ⟨c1,c2,c3,c4,c5,c6⟩:=hS0.at
 obtain ⟨d1,d2,d3,d4,d5,d6⟩:=hS1.at
 have C1:=Yd (And.intro c3 (c5 802));have C2:=Yd (And.intro d4 (d5 803));have HS2:=Yd hS2;clear h3 h4 h5 h6 h7 h8 h9 hi0 HL hS0 hS1 hS2 c1 c2 c3 c4 c5 c6 d1 d2 d3 d4 d5 d6;go_enter Tryz.func250,Tryz.ntmps250;go_upto_region 4 with ((with_reducible refine wl_pre ?_); (first | (refine wl_set_bool rfl (.tmp 12) (.const (.bool false)) rfl a 802 false _ rfl rfl C1.out.1 C1.out.2 ?_) | (refine wl_set_bool rfl (.tmp 15) (.const (.bool false)) rfl a 803 false _ rfl rfl C2.out.1 C2.out.2 ?_)); (simp only [Act.put]));obtain ⟨W,hW⟩:∃ W,(w.setCell ⟨a,802,none⟩ (.bool false)).setCell ⟨a,803,none⟩ (.bool false)=W:=⟨_,rfl⟩;rw [hW] at HS2 ⊢;clear hW C1 C2;go_upto_block 0 with (fail)
 go_cut [5] from 23 to 33 (fun s5 wx=>s5 = .int .i64 ((i0:Nat):Int)∧SeW w a 0 0 0 neg wx)
 case first =>
  have hn:=HN.out;have hi:=HI.out
  cases neg with
  | true =>
   have t2:((s[0].toNat:Int) == 45)=true:=by
    have:=of_decide_eq_true hn.symm;rw [beq_iff_eq]; omega
   have h1i:i0=1:=hi;subst h1i;obtain ⟨e1,e2,e3,e4,e5,e6⟩:=HS2.out.at
   have C1:=Yd (And.intro e3 (e5 802));clear hn hi e1 e2 e3 e4 e5 e6;go_wp2_with ((with_reducible refine wl_pre ?_); (refine wl_set_bool rfl (.tmp 33) (.const (.bool true)) rfl a 802 true _ rfl rfl C1.out.1 C1.out.2 ?_); (simp only [Act.put]));go_meet;exact ⟨rfl,HS2.out.ng true⟩
  | false =>
   have t2:((s[0].toNat:Int) == 45)=false:=by
    have:=of_decide_eq_false hn.symm;rw [beq_eq_false_iff_ne]; omega
   have h1i:i0=0:=hi;subst h1i;clear hn hi;go_wp2_with fail;go_meet;exact ⟨rfl,HS2.out⟩
 case rest =>
  clear HS2;obtain ⟨rfl,hSx⟩:=hcut;have HSx:=Yd hSx;clear hSx t0' t1;have s60:(s.size:Int) <= 60:=by omega
  have i01:(i0:Int) <= 1:=by
   have:=HI.out
   cases neg <;> simp at this <;> omega
  have i00:(0:Int) <= (i0:Int):=by omega
  go_upto_block 1 with (first | go_step3 | fail)
  go_cut [5,6,7] from 34 to 116 (fun s5 s6 s7 wy=>s5 = .int .i64 ((s.size-rest.length:Nat):Int)∧s6 = .bool x.dot∧s7 = .bool x.sd∧MOk s.size x∧s.data.toList.drop (s.size-rest.length)=rest∧rest.length <= s.size∧SeW w a x.N x.nd x.dp neg wy)
  case first =>
   go_wp2_with fail
   go_loopw [5,6,7] (fun s5 s6 s7 wr=>∃ (k:Nat) (y:MS),k <= s.size∧s5 = .int .i64 ((k:Nat):Int)∧s6 = .bool y.dot∧s7 = .bool y.sd∧MOk k y∧mL (s.data.toList.drop k) y=(x,rest)∧SeW w a y.N y.nd y.dp neg wr) (fun s5 _ _ _=>s.size-(intOf s5).toNat)
   case atStart=>exact ⟨i0,ms0,Nat.le_of_lt hi1,rfl,rfl,rfl,mok_mono mok0 (Nat.zero_le _),HH.out.2.1,HSx.out⟩
   case round =>
    obtain ⟨k,y,hk,rfl,rfl,rfl,hok,hrun,hSy⟩:=hrel;have k0:(0:Int) <= (k:Int):=by omega
    have k60:(k:Int) <= 60:=by omega
    have hlen:s.data.toList.length=s.size:=by simp
    by_cases hlt:k<s.size
    ·have d1:decide (k<s.size)=true:=decide_eq_true hlt;rw [drop_at s k hlt] at hrun;have hc:=HH.out.1 k hlt;have u1:((s[k].toNat:Int) == 95)=false:=by
      rw [beq_eq_false_iff_ne];intro h;have h95:s[k].toNat=95:=by omega
      unfold okc isD at hc;rw [h95] at hc;exact absurd hc (by decide)
     unfold mL at hrun
     by_cases h46:s[k].toNat=46
     ·have u2:((s[k].toNat:Int) == 46)=true:=Yt (by omega)
      rw [if_pos h46] at hrun
      cases hdot:y.dot with
      | true =>
       rw [if_pos hdot] at hrun;injection hrun with e1 e2;exfalso
       rcases HH.out.2.2.2 with ⟨r1,_⟩ | ⟨r1,_⟩
       ·rw [<- e2] at r1
        cases r1
       ·rw [<- e2] at r1;unfold expB at r1;rw [Bool.and_eq_true,Bool.or_eq_true,beq_iff_eq,beq_iff_eq] at r1
        rcases r1.1 with h | h <;> rw [h] at h46 <;> exact absurd h46 (by decide)
      | false =>
       rw [if_neg (by rw [hdot]; decide)] at hrun;obtain ⟨e1,e2,e3,e4,e5,e6⟩:=hSy.at
       have C1:=Yd (And.intro e2 (e5 801));have HR:=Yd (And.intro hrun (And.intro (mok_dot hok) (hSy.dp (y.nd:Nat))));have HK:=Yd hlt;clear hrun h46 hc hok hlen e2 e3 e4 e5 e6 hSy;go_wp2_with ((with_reducible refine wl_pre ?_); (refine wl_set_i64 rfl (.tmp 57) (.tmp 55) rfl a 801 _ _ rfl rfl C1.out.1 C1.out.2 ?_); (simp only [Act.put]));exact ⟨⟨k+1,dotS y,HK.out,by go_num,rfl,rfl,HR.out.2.1,HR.out.1,HR.out.2.2⟩,by have:=HK.out; simp only [intOf]; omega⟩
     ·have u2:((s[k].toNat:Int) == 46)=false:=Yf (by omega)
      rw [if_neg h46] at hrun
      cases hdg:isD s[k] with
      | true =>
       rw [if_pos hdg] at hrun;have hd2:=(isD_iff s[k]).1 hdg;have hmk:=mok_dg hok s[k] hdg;have hndk:=hok.nd;have hdp0:=hok.d0;have hdp1:=hok.d1;have u3:(48:Int) <= (s[k].toNat:Int):=by omega
       have u4:(s[k].toNat:Int) <= 57:=by omega
       have u5:decide (48 <= s[k].toNat)=true:=decide_eq_true hd2.1;have u6:decide (s[k].toNat <= 57)=true:=decide_eq_true hd2.2;have HK:=Yd hlt;have nd0:(0:Int) <= (y.nd:Int):=by omega
       have nd9:(y.nd:Int) <= 60:=by omega
       have dp0 : -60 <= y.dp:=by omega
       have dp9:y.dp <= 60:=by omega
       have HR:=Yd (And.intro hrun hmk)
       by_cases hz:s[k].toNat=48∧y.nd=0
       ·have HE:=Yd (show dgS s[k] y={ y with sd:=true,dp:=y.dp-1 } from if_pos hz);obtain ⟨z1,z2⟩:=hz;obtain ⟨e1,e2,e3,e4,e5,e6⟩:=hSy.at
        have C1:=Yd (And.intro e2 (e5 801));have HS:=Yd (hSy.dp (y.dp-1));clear hrun h46 hc hok hlen hd2 hmk hndk hdp0 hdp1 u1 u2 u3 u4 u5 u6 e3 e4 e5 e6 hSy;go_wp2_with ((with_reducible refine wl_pre ?_); (refine wl_set_i64 rfl (.tmp 86) (.tmp 84) rfl a 801 _ _ rfl rfl C1.out.1 C1.out.2 ?_); (simp only [Act.put]));exact ⟨⟨k+1,dgS s[k] y,HK.out,by go_num,by rw [HE.out],by rw [HE.out],HR.out.2,HR.out.1,by rw [HE.out]; exact HS.out⟩,by have:=HK.out; simp only [intOf]; omega⟩
       ·have HE:=Yd (dg_parts s[k] y hz);have v12:(((s[k].toNat:Int) == 48)=false)∨((s[k].toNat:Int) == 48)=true∧((y.nd:Int) == 0)=false:=by
         by_cases ha:s[k].toNat=48
         ·exact .inr ⟨Yt (by omega),Yf (by omega)⟩
         ·exact .inl (Yf (by omega))
        have w8:decide (y.nd<800)=true:=decide_eq_true (by omega);have w8':(y.nd:Int)<800:=by omega
        have hn8:y.nd<800:=by omega
        have HA:=Yd hSy.drew.at
        rcases v12 with v1 | ⟨v1,v2⟩
        ·have HP:=Yd (hSy.drew.put s[k].toNat (s[k].toNat-48) (by omega) (by omega) hn8);obtain ⟨e1,e2,e3,e4,e5,e6⟩:=hSy.at
         clear hrun h46 hc hok hlen hd2 hmk hndk hdp0 hdp1 hz e2 e3 e4 e5 e6 hSy;go_upto_region 25 with (fail);go_still_tail 10,(by kernel_rfl);change wpList _ _ _ _ _ wr.drew;obtain ⟨ov,hov⟩:=HA.out.2.2.2.2.2 y.nd hn8;obtain ⟨f1,f2,f3,f4⟩:=HP.out;have C1:=Yd (And.intro hov f1);have C2:=Yd (And.intro f2 f3);have HS:=Yd f4;have f2':=f2;clear hov f1 f2 f3 f4;go_wp2_with ((with_reducible refine wl_pre ?_); (first | (refine wl_set_u8 rfl (.tmp 102) (.tmp 99) rfl a y.nd _ _ rfl rfl C1.out.1 C1.out.2 ?_) | (refine wl_set_i64 rfl (.tmp 109) (.tmp 107) rfl a 800 _ _ rfl rfl C2.out.1 C2.out.2 ?_)); (simp only [Act.put]));exact ⟨⟨k+1,dgS s[k] y,HK.out,by go_num,by rw [HE.out.2.2.2.2],by rw [HE.out.2.2.2.1],HR.out.2,HR.out.1,by rw [HE.out.1,HE.out.2.1,HE.out.2.2.1]; exact HS.out⟩,by have:=HK.out; simp only [intOf]; omega⟩
        ·have z1:s[k].toNat=48:=by have:=beq_iff_eq.1 v1; omega
         have HP:=Yd (hSy.drew.put 48 0 (by omega) (by omega) hn8);have H48:=Yd z1;obtain ⟨e1,e2,e3,e4,e5,e6⟩:=hSy.at
         clear hrun h46 hc hok hlen hd2 hmk hndk hdp0 hdp1 hz e2 e3 e4 e5 e6 hSy;clear u1 u2 u3 u4 u5 u6 v1;go_upto_region 25 with (fail);go_still_tail 10,(by kernel_rfl);change wpList _ _ _ _ _ wr.drew;obtain ⟨ov,hov⟩:=HA.out.2.2.2.2.2 y.nd hn8;obtain ⟨f1,f2,f3,f4⟩:=HP.out;have C1:=Yd (And.intro hov f1);have C2:=Yd (And.intro f2 f3);have HS:=Yd f4;have f2':=f2;clear hov f1 f2 f3 f4;go_wp2_with ((with_reducible refine wl_pre ?_); (first | (refine wl_set_u8 rfl (.tmp 102) (.tmp 99) rfl a y.nd _ _ rfl rfl C1.out.1 C1.out.2 ?_) | (refine wl_set_i64 rfl (.tmp 109) (.tmp 107) rfl a 800 _ _ rfl rfl C2.out.1 C2.out.2 ?_)); (simp only [Act.put]));exact ⟨⟨k+1,dgS s[k] y,HK.out,by go_num,by rw [HE.out.2.2.2.2],by rw [HE.out.2.2.2.1],HR.out.2,HR.out.1,by rw [HE.out.1,HE.out.2.1,HE.out.2.2.1]; rw [H48.out]; exact HS.out⟩,by have:=HK.out; simp only [intOf]; omega⟩
      | false =>
       rw [if_neg (by rw [hdg]; decide)] at hrun;have hnd:¬ (48 <= s[k].toNat∧s[k].toNat <= 57):=fun h=>by
        rw [(isD_iff s[k]).2 h] at hdg
        cases hdg
       have v12:decide (48 <= s[k].toNat)=false∨decide (48 <= s[k].toNat)=true∧decide (s[k].toNat <= 57)=false:=by
        by_cases ha:48 <= s[k].toNat
        ·exact .inr ⟨decide_eq_true ha,decide_eq_false (fun h=>hnd ⟨ha,h⟩)⟩
        ·exact .inl (decide_eq_false ha)
       injection hrun with e1 e2;rw [<- drop_at s k hlt] at e2;have hrl:s.size-rest.length=k∧rest.length <= s.size:=by
        rw [<- e2,List.length_drop,hlen];omega
       subst e1;have HX:=Yd (And.intro hrl (And.intro (show s.data.toList.drop (s.size-rest.length)=rest by rw [hrl.1]; exact e2) (And.intro (mok_mono hok hk) hSy)));clear hrl e2 hc hok h46 hnd hlen hSy
       rcases v12 with v1 | ⟨v1,v2⟩
       ·have v1':¬ 48 <= s[k].toNat:=of_decide_eq_false v1;go_wp2_with fail;go_meet;exact ⟨by rw [HX.out.1.1],rfl,rfl,HX.out.2.2.1,HX.out.2.1,HX.out.1.2,HX.out.2.2.2⟩
       ·have v1':48 <= s[k].toNat:=of_decide_eq_true v1;have v2':¬ s[k].toNat <= 57:=of_decide_eq_false v2;go_wp2_with fail;go_meet;exact ⟨by rw [HX.out.1.1],rfl,rfl,HX.out.2.2.1,HX.out.2.1,HX.out.1.2,HX.out.2.2.2⟩
    ·have hke:k=s.size:=by omega
     have d1:decide (k<s.size)=false:=decide_eq_false hlt;rw [List.drop_eq_nil_of_le (by omega)] at hrun;unfold mL at hrun;injection hrun with e1 e2;subst e1;have HX:=Yd (And.intro hke (And.intro e2.symm (And.intro (mok_mono hok hk) hSy)));clear e2 hke hok hlen hSy;go_wp2_with fail;go_meet;have hre:=HX.out.2.1;have hkk:=HX.out.1;exact ⟨by rw [hre,hkk]; rfl,rfl,rfl,HX.out.2.2.1,by rw [hre]; simp,by rw [hre]; exact Nat.zero_le _,HX.out.2.2.2⟩
  case rest =>
   obtain ⟨rfl,rfl,rfl,hok,hdr,hrl,hSy⟩:=hcut;obtain ⟨K,hK⟩:∃ K,s.size-rest.length=K:=⟨_,rfl⟩;rw [hK] at hdr ⊢;have hsd:=HH.out.2.2.1;rw [hsd];have hnd9:=hok.nd;have hdp0:=hok.d0;have hdp1:=hok.d1;have hD:=HD.out;have D0 : -60 <= D:=by rw [hD]; unfold dpX; split <;> omega
   have D9:D <= 60:=by rw [hD]; unfold dpX; split <;> omega
   have HX:=Yd (And.intro hK (And.intro hdr hrl));have K0:(0:Int) <= (K:Int):=by omega
   have K60:(K:Int) <= 60:=by omega
   obtain ⟨e1,e2,e3,e4,e5,e6⟩:=hSy.at
   have C1:=Yd (And.intro e2 (e5 801));have HSy:=Yd hSy;clear HSx hok hdr hrl hK hsd hnd9 hdp0 hdp1 hD i00 i01 e3 e4 e5 e6 hSy;go_upto_if 120 with (fail)
   go_cut [6] from 119 to 127 (fun s6 wz=>s6 = .bool x.dot∧SeW w a x.N x.nd D neg wz)
   case first =>
    have hd:=HD.out;unfold dpX at hd
    cases hdot:x.dot with
    | true =>
     rw [hdot,if_pos rfl] at hd;have HDD:=Yd hd;clear hd;go_wp2_with fail;go_meet;refine ⟨by rw [hdot],?_⟩;rw [HDD.out];exact HSy.out
    | false =>
     rw [hdot,if_neg (by decide)] at hd;have HDD:=Yd hd;clear hd;go_wp2_with ((with_reducible refine wl_pre ?_); (refine wl_set_i64 rfl (.tmp 127) (.tmp 125) rfl a 801 _ _ rfl rfl C1.out.1 C1.out.2 ?_); (simp only [Act.put]));go_meet;refine ⟨by rw [hdot],?_⟩;rw [HDD.out];exact HSy.out.dp _
   case rest =>
    clear HSy e1 e2 C1;obtain ⟨rfl,hSz⟩:=hcut;have HSz:=Yd hSz;clear hSz;obtain ⟨bE,hbE⟩:∃ bE,bE = !rest.isEmpty:=⟨_,rfl⟩;have HB:=Yd hbE;have hlen:s.data.toList.length=s.size:=by simp
    go_upto_region 32 with (fail)
    go_cut [138] from 128 to 137 (fun s138 wz=>s138 = .bool bE∧SeW w a x.N x.nd D neg wz)
    case first =>
     obtain ⟨hK,hdr,hrl⟩:=HX.out
     rcases HH.out.2.2.2 with ⟨r1,r2⟩ | ⟨r1,r2⟩
     ·have hKs:K=s.size:=by rw [r1] at hK; simpa using hK.symm
      have d1:decide (K<s.size)=false:=decide_eq_false (by omega);have d1':¬ K<s.size:=by omega
      have hb:bE=false:=by rw [HB.out,r1]; rfl
      subst hb;clear hK hdr hrl r1 r2 hKs hlen hbE;go_wp2_with fail;go_meet;exact ⟨rfl,HSz.out⟩
     ·cases hrr:rest with
      | nil=>rw [hrr] at r1; exact absurd r1 (by decide)
      | cons c r =>
       have hKs:K<s.size:=by
        refine Nat.lt_of_not_le fun hl => ?_;rw [List.drop_eq_nil_of_le (by omega),hrr] at hdr
        cases hdr
       have hc:s[K]=c:=by
        rw [drop_at s K hKs,hrr] at hdr;injection hdr
       have d1:decide (K<s.size)=true:=decide_eq_true hKs;have hce:(bits BinOp.or IntKind.u8 (s[K].toNat:Int) 32 == 101)=true:=by
        rw [low_e,hc];rw [hrr] at r1;unfold expB at r1;rw [Bool.and_eq_true] at r1;have h9:=r1.1;rw [Bool.or_eq_true,beq_iff_eq,beq_iff_eq] at h9
        rcases h9 with h9 | h9
        ·rw [h9]; rfl
        ·rw [h9]; rfl
       have hb:bE=true:=by rw [HB.out,hrr]; rfl
       subst hb;clear hK hdr hrl r1 r2 hc hlen hbE hrr;go_wp2_with (go_at_call 217; (with_reducible refine (HL2.out _ _).mono ?_); rintro e w' ⟨rfl,hw'⟩; obtain rfl:=hw'.symm);go_meet;exact ⟨rfl,HSz.out⟩
    case rest =>
     clear HSz;obtain ⟨rfl,hSz⟩:=hcut;have HSz:=Yd hSz;clear hSz;go_upto_if 138 with (fail)
     go_cut [5,8,9] from 139 to 219 (fun s5 s8 s9 wz=>s5 = .int .i64 ((s.size:Nat):Int)∧SeW w a x.N x.nd (D+ex) neg wz)
     case first =>
      cases bE with
      | false =>
       obtain ⟨hK,hdr,hrl⟩:=HX.out;have hre:rest=[]:=by
        have:=HB.out
        cases hr:rest with
        | nil=>rfl
        | cons c r=>rw [hr] at this; cases this
       have hex:ex=0:=by
        rcases HH.out.2.2.2 with ⟨r1,r2⟩ | ⟨r1,r2⟩
        ·exact r2
        ·rw [hre] at r1; exact absurd r1 (by decide)
       have hKs:K=s.size:=by rw [hre] at hK; simpa using hK.symm
       have HW:=Yd (And.intro hKs hex);clear hK hdr hrl hre hex hKs hbE hlen;go_wp2_with fail;go_meet;exact ⟨by rw [HW.out.1],by rw [HW.out.2,Int.add_zero]; exact HSz.out⟩
      | true =>
       obtain ⟨hK,hdr,hrl⟩:=HX.out;have hne:rest≠[]:=fun hr=>by
        have:=HB.out;rw [hr] at this
        cases this
       have hKs:K<s.size:=by
        refine Nat.lt_of_not_le fun hl => ?_;rw [List.drop_eq_nil_of_le (by omega)] at hdr;exact hne hdr.symm
       obtain ⟨J,sg,hJ⟩:=ex_at s K ex hKs (by
        rcases HH.out.2.2.2 with ⟨r1,r2⟩ | ⟨r1,r2⟩
        ·exact absurd r1 hne
        ·rw [hdr]; exact r1) (by
        rcases HH.out.2.2.2 with ⟨r1,r2⟩ | ⟨r1,r2⟩
        ·exact absurd r1 hne
        ·rw [hdr]; exact r2)
       have HJ:=Yd hJ;have hk1:=hJ.k1;have hk1':decide (s.size <= K+1)=false:=decide_eq_false (by omega);have hk2:decide ((s.size:Int) <= (K:Int)+1)=false:=decide_eq_false (by omega);have hk3:(K:Int)+1<(s.size:Int):=by omega
       have J60:(J:Int) <= 60:=by have:=hJ.j0; omega
       have J0:(0:Int) <= (J:Int):=by omega
       clear hK hdr hrl hne hbE hlen hJ;go_upto_block 4 with (fail)
       go_cut [5,8] from 148 to 155 (fun s5 s8 wz=>s5 = .int .i64 ((J:Nat):Int)∧s8 = .int .i64 sg∧SeW w a x.N x.nd D neg wz)
       case first =>
        rcases HJ.out.sgn with ⟨g1,g2,g3⟩ | ⟨g1,g2,g3⟩ | ⟨g1,g2,g3,g4⟩
        ·have y1:((s[K+1].toNat:Int) == 43)=true:=Yt (by omega)
         subst g2;subst g3;clear g1;go_wp2_with fail;go_meet;exact ⟨by go_num,rfl,HSz.out⟩
        ·have y1:((s[K+1].toNat:Int) == 43)=false:=Yf (by omega)
         have y2:((s[K+1].toNat:Int) == 45)=true:=Yt (by omega)
         subst g2;subst g3;clear g1;go_wp2_with fail;go_meet;exact ⟨by go_num,rfl,HSz.out⟩
        ·have y1:((s[K+1].toNat:Int) == 43)=false:=Yf (by omega)
         have y2:((s[K+1].toNat:Int) == 45)=false:=Yf (by omega)
         subst g3;subst g4;clear g1 g2;go_wp2_with fail;go_meet;exact ⟨by go_num,rfl,HSz.out⟩
       case rest =>
        clear HSz;obtain ⟨rfl,rfl,hSz⟩:=hcut;have HSz:=Yd hSz;clear hSz;have hj0:=HJ.out.j0;have hd0:=(isD_iff _).1 (HJ.out.dig J hj0 (Nat.le_refl _));have z1:decide (s.size <= J)=false:=decide_eq_false (by omega);have z1':¬ s.size <= J:=by omega
        have z2:decide (s[J].toNat<48)=false:=decide_eq_false (by omega);have z3:decide (57<s[J].toNat)=false:=decide_eq_false (by omega);have z4:(48:Int) <= (s[J].toNat:Int):=by omega
        have z5:(s[J].toNat:Int) <= 57:=by omega
        clear hd0 hk1' hk2;go_upto_block 5 with (fail);obtain ⟨E,hE⟩:∃ E,eL (s.data.toList.drop J) 0=E:=⟨_,rfl⟩;have HE:=Yd hE;clear hE z1 z1' z2 z3 z4 z5;go_wp2_with fail
        go_loopw [5,9] (fun s5 s9 wr=>∃ j ev:Nat,J <= j∧j <= s.size∧s5 = .int .i64 ((j:Nat):Int)∧s9 = .int .i64 ((ev:Nat):Int)∧eL (s.data.toList.drop j) ev=E∧ev<10 ^ (j-J)∧SeW w a x.N x.nd D neg wr) (fun s5 _ _=>s.size-(intOf s5).toNat)
        case atStart=>exact ⟨J,0,Nat.le_refl _,Nat.le_of_lt hj0,rfl,rfl,HE.out,by rw [Nat.sub_self]; decide,HSz.out⟩
        case round =>
         obtain ⟨j,ev,hJj,hjs,rfl,rfl,hev,hbd,hSw⟩:=hrel;have q0:(0:Int) <= (j:Int):=by omega
         have q60:(j:Int) <= 60:=by omega
         have hj3:=HJ.out.j3;have hbd3:ev<1000:=Nat.lt_of_lt_of_le hbd (Nat.le_trans (Nat.pow_le_pow_right (by decide) (show j-J <= 3 by omega)) (by decide));have ev0:(0:Int) <= (ev:Int):=by omega
         have ev9:(ev:Int)<1000:=by omega
         by_cases hlt:j<s.size
         ·have hd:=(isD_iff _).1 (HJ.out.dig j hlt hJj);have y1:decide (j<s.size)=true:=decide_eq_true hlt;have y2:decide (48 <= s[j].toNat)=true:=decide_eq_true hd.1;have y3:decide (s[j].toNat <= 57)=true:=decide_eq_true hd.2;have y4:((s[j].toNat:Int) == 95)=false:=Yf (by omega)
          have y5:(48:Int) <= (s[j].toNat:Int):=by omega
          have y6:(s[j].toNat:Int) <= 57:=by omega
          rw [drop_at s j hlt] at hev;unfold eL at hev;have hnb:ev*10+(s[j].toNat-48)<10 ^ (j+1-J):=by
           rw [show j+1-J=j-J+1 by omega,Nat.pow_succ];omega
          have HV:=Yd (And.intro hev (And.intro hnb (show (ev:Int)*10+(s[j].toNat:Int)-48=((ev*10+(s[j].toNat-48):Nat):Int) by omega)));have HQ:=Yd (And.intro hJj hlt);have HSw:=Yd hSw;clear hev hnb hd hbd hbd3 hJj hj3 hSw;go_wp2_with fail;exact ⟨⟨j+1,ev*10+(s[j].toNat-48),Nat.le_succ_of_le HQ.out.1,HQ.out.2,by go_num,by exact congrArg (Value.int IntKind.i64) HV.out.2.2,HV.out.1,HV.out.2.1,HSw.out⟩,by have:=HQ.out.2; simp only [intOf]; omega⟩
         ·have hje:j=s.size:=by omega
          have y1:decide (j<s.size)=false:=decide_eq_false hlt;have hevE:ev=E:=by
           rw [List.drop_eq_nil_of_le (by simp; omega)] at hev;exact hev
          have HQ:=Yd (And.intro hje (And.intro hevE (show ev <= 1000 by omega)));have hsg:=HJ.out.sgn;have hsg2:sg=1∨sg = -1:=by
           rcases hsg with ⟨_,_,h⟩ | ⟨_,_,h⟩ | ⟨_,_,_,h⟩
           ·exact .inl h
           ·exact .inr h
           ·exact .inl h
          have hee:=HJ.out.e;rw [HE.out] at hee;have HS:=Yd hee;obtain ⟨e1,e2,e3,e4,e5,e6⟩:=hSw.at
          have C1:=Yd (And.intro e2 (e5 801));have HSw:=Yd hSw;clear hev hbd hbd3 hJj hj3 hje hevE hsg hee hSw e1 e3 e4 e5 e6
          rcases hsg2 with hs1 | hs1
          all_goals
           subst hs1;go_wp2_with ((with_reducible refine wl_pre ?_); (refine wl_set_i64 rfl (.tmp 219) (.tmp 217) rfl a 801 _ _ rfl rfl C1.out.1 C1.out.2 ?_); (simp only [Act.put]));go_meet;obtain ⟨b1,b2,b3⟩:=HQ.out;have b4:=HS.out;refine ⟨by rw [b1],?_⟩;have b5:=HSw.out.dp (D+ex);rw [b4,<- b2] at b5 ⊢
           first | exact b5 | (simp only [Int.one_mul,Int.neg_mul] at b5 ⊢; exact b5)
     case rest =>
      clear HSz;obtain ⟨rfl,hSz⟩:=hcut;have HSz:=Yd hSz;clear hSz;go_wp2_with fail;go_ret;exact ⟨rfl,HSz.out⟩
end Go.Proofs.YtcbgkbidgpemfaaGreatDoor.rdf
