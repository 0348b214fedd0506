/- The walk of strconv's leftShift. Conditions: as the theorem states. -/
import Derived.Test.YtcbgkbidgpemfaaGreatDoorMf00
import Derived.Test.YtcbgkbidgpemfaaGreatDoorMf23
import Derived.Test.YtcbgkbidgpemfaaGreatDoorMf21
import Derived.Test.YtcbgkbidgpemfaaGreatDoorMf14
namespace Go.Proofs.YtcbgkbidgpemfaaGreatDoor
set_option maxRecDepth 100000
set_option maxHeartbeats 2000000
namespace dcw
open Go.RowKit
open bsw
open prnw
open dmx
def LC (B:Nat) (w:World):Prop :=
 9 < B ∧ ∃ bb bo cap,bb<B∧w.cell? ⟨9,0,none⟩=some (.slice (some ⟨bb,bo,none⟩) 61 cap) ∧
  ∀ k,1 <= k -> k <= 60 -> ∃ c s,w.cell? ⟨bb,bo+k*2,none⟩=some (.int .i64 (((k+1-c:Nat):Int)))∧w.cell? ⟨bb,bo+k*2+1,none⟩=some (.string s)∧Tx s (5 ^ k) c∧10 ^ c <= 10*5 ^ k∧5 ^ k<10 ^ c∧c <= k
theorem five_odd (k:Nat):5 ^ k % 10≠0:=by
 have h:∀ k,5 ^ k % 2=1:=fun k=>by
  induction k with
  | zero=>rfl
  | succ k ih=>rw [Nat.pow_succ]; omega
 have:=h k;omega
def DV (w:World) (a V N n:Nat) (dp:Int) (neg:Bool):Prop :=
 ∃ f,DM w a f (n:Nat) dp neg∧Dg f N n∧WGood N n∧(n:Int) <= dp+2000∧val N n dp=V
def ShPost (w:World) (a V:Nat) (B D:Int) (neg:Bool) (e:Ending) (w':World):Prop :=
 e = .returned (.tuple #[])∧(∃ N n dp,DV w' a V N n dp neg∧N % 10≠0∧(n:Int) <= B∧D-20 <= dp∧dp <= D+20)∧w.grownBy w' (some a)
def ShRel (w:World) (a:Nat) (f:Nat -> Nat) (N n k d:Nat) (dp:Int) (neg:Bool) (e:Nat) (wr:World):Prop :=
 ∃ f',DM wr a f' (n:Nat) dp neg∧(∀ j,j+e<n -> f' j=f j)∧(∀ j,n+d <= j+e -> j<n+d -> f' j=48+N*2 ^ k / 10 ^ (n+d-1-j) % 10)∧w.grownBy wr (some a)
theorem ShRel.drewN {w wr:World} {a N n k d e:Nat} {f:Nat -> Nat} {dp:Int} {neg:Bool} (h:ShRel w a f N n k d dp neg e wr) (q:Nat):ShRel w a f N n k d dp neg e (wr.drewN q):=by
 obtain ⟨f',h1,h2,h3,h4⟩:=h;exact ⟨f',h1.drewN q,h2,h3,grown_drewN h4 q⟩
theorem ShRel.put {w wr:World} {a N n k d e b:Nat} {f:Nat -> Nat} {dp:Int} {neg:Bool} (h:ShRel w a f N n k d dp neg e wr) (he:e<n+d) (hn:n+d <= 800) (hb:b=N*2 ^ k / 10 ^ e % 10) :
  ShRel w a f N n k d dp neg (e+1) (wr.setCell ⟨a,n+d-1-e,none⟩ (.int .u8 ((48+b:Nat):Int))):=by
 obtain ⟨f',h1,h2,h3,h4⟩:=h;refine ⟨_,h1.sdig (n+d-1-e) (48+b) (by omega),fun j hj => ?_,fun j hj hj2 => ?_,grown_trans h4 (set_grown _ _ _ _)⟩
 ·rw [upd_ne _ _ _ _ (by omega)];exact h2 j (by omega)
 ·by_cases hje:j=n+d-1-e
  ·rw [hje,upd_at,hb,show n+d-1-(n+d-1-e)=e by omega]
  ·rw [upd_ne _ _ _ _ hje];exact h3 j (by omega) hj2
theorem wl_set_u8 {ops:Array Oper} {rest:List Oper} {o:Oper} {a:Act} {w:World} {Q:Exit -> Act -> World -> Prop} (hgd:o.guard=none) (x y:Operand) (ho:o.op = .store 5 x y) (b j:Nat) (v:Int) (old:Value) (hx:a.eval x = .pointer (some ⟨b,j,none⟩)) (hy:a.eval y = .int .u8 v)
  (hc:w.cell? ⟨b,j,none⟩=some old) (hf:w.frozen? ⟨b,j,none⟩=false)
  (h:wpList Tryz.prog ops Q rest (a.put o.dst undef) (w.setCell ⟨b,j,none⟩ (.int .u8 v))):wpList Tryz.prog ops Q (o :: rest) a w:=by
 have hr:(Instr.storeAt 5 (.pointer (some ⟨b,j,none⟩)) (.int .u8 v)).run Tryz.prog w = .ok () (w.setCell ⟨b,j,none⟩ (.int .u8 v)):=by
  simp [Instr.storeAt,Instr.sureAddr,storeVar,run_store_int,stored,hc,hf,go_sem]
 refine wpList_plain hgd fun K hK => ?_;unfold Oper.wp execOp;simp only [ho,hx,hy,hr,Sem.run_bind,Sem.run_pure,Result.andThen_ok];exact hK _ _ h
theorem dsl_run (b n:Nat) (hn:n <= 800) (w:World):(Instr.sliceAt 229 (.pointer (some ⟨b,0,none⟩)) (some (.int .i64 0)) (some (.int .i64 (n:Nat))) none).run Tryz.prog w = .ok (.slice (some ⟨b,0,none⟩) n 800) w:=by
 have h0:(0:Int) <= (n:Int):=by omega
 have h1:(n:Int) <= 800:=by omega
 simp [Instr.sliceAt,go_sem,h0,h1]
theorem shl_any (B a:Nat) (N n k:Nat) (V:Nat) (dp:Int) (neg:Bool) (w:World) (hL:LC B w) (_hB:B <= a) (hk1:1 <= k) (hk:k <= 60) (hn:n+20 <= 800) (hdp : -3000 <= dp) (hdp2:dp <= 3000) (h:DV w a V N n dp neg) :
  Calls Tryz.prog 229 #[.pointer (some ⟨a,0,none⟩),.int .u64 (k:Nat)] w (ShPost w a (V*2 ^ k) (n+19) dp neg):=by
 obtain ⟨f,hD,hdg,g,hnd,hv⟩:=h;obtain ⟨l1,bb,bo,cap,l2,l3,l4⟩:=hL;obtain ⟨c,s,m1,m2,m3,m4,m5,m6⟩:=l4 k hk1 hk;have c1:=hD.cnd;have c2:=hD.cdp;obtain ⟨b,hb⟩:∃ b,lessB N n (5 ^ k) c=b:=⟨_,rfl⟩;obtain ⟨D0,hD0⟩:∃ D0,k+1-c=D0:=⟨_,rfl⟩;rw [hD0] at m1;obtain ⟨d,hd⟩:∃ d,d=if b then D0-1 else D0:=⟨_,rfl⟩;have hD1:1 <= D0:=by omega
 have hdb:d <= 19∧10 ^ (n+d-1) <= N*2 ^ k∧N*2 ^ k<10 ^ (n+d):=by
  have hp:0<10 ^ c:=Nat.pow_pos (by decide);have key:10 ^ (n+d-1) <= N*2 ^ k∧N*2 ^ k<10 ^ (n+d):=by
   cases b with
   | true =>
    have hdd:d=k-c:=by rw [hd,if_pos rfl]; omega
    have h10:10 ^ n <= 10*N:=by
     have h1:=g.lo;have h2:10 ^ n=10*10 ^ (n-1):=by
      rw [show n=n-1+1 by have:=g.n1; omega,Nat.pow_succ,Nat.mul_comm];rfl
     omega
    obtain ⟨e1,e2⟩:=delta_yes (k:=k) h10 m5 hb;rw [show n+k=n+d+c by omega,Nat.pow_add 10 (n+d) c] at e1 e2;have e3:=Nat.le_of_mul_le_mul_right e2 hp;refine ⟨?_,Nat.lt_of_mul_lt_mul_right e1⟩;have h2:10 ^ (n+d)=10*10 ^ (n+d-1):=by
     rw [show n+d=n+d-1+1 by have:=g.n1; omega,Nat.pow_succ,Nat.mul_comm];rfl
    omega
   | false =>
    have hdd:d=k+1-c:=by rw [hd,if_neg (by decide)]; exact hD0.symm
    obtain ⟨e1,e2⟩:=delta_no g.hi m4 (by omega) hb;rw [<- hdd] at e2;rw [show n+k=n+d-1+c by have:=g.n1; omega,Nat.pow_add 10 (n+d-1) c] at e1;exact ⟨Nat.le_of_mul_le_mul_right e1 hp,e2⟩
  refine ⟨?_,key⟩;have h1:N*2 ^ k<10 ^ (n+19):=by
   rw [Nat.pow_add 10 n 19];have h2:(2:Nat) ^ k <= 2 ^ 60:=Nat.pow_le_pow_right (by decide) hk;have h3:N*2 ^ k<10 ^ n*2 ^ k:=Nat.mul_lt_mul_of_pos_right g.hi (two_pos k);have h4:10 ^ n*2 ^ k <= 10 ^ n*10 ^ 19:=Nat.mul_le_mul_left _ (Nat.le_trans h2 (by decide));omega
  have h5:=pow_lt_inv (Nat.lt_of_le_of_lt key.1 h1);omega
 have hless:=fun q=>less_any a f N n (5 ^ k) c dp neg s (w.drewN q) g.hi (by omega) hdg (hD.drewN q) m5 (by omega) (five_odd k) m3;rw [hb] at hless;have HL:=Yd (show ∀ q,Calls Tryz.prog 242 #[.slice (some ⟨a,0,none⟩) n 800,.string s] (w.drewN q) fun e w'=>e = .returned (.bool b) ∧ ∃ m,w'=(w.drewN q).drewN m from hless);have HS:=Yd (show ShRel w a f N n k d dp neg 0 w from ⟨f,hD,fun _ _=>rfl,fun j h1 h2=>by omega,⟨rfl,rfl,rfl,Nat.le_refl _,fun _ _ _=>rfl⟩⟩);have HD:=Yd hd;have HG:=Yd (And.intro g (And.intro hdg (And.intro hnd (And.intro hv hdb))));have k60:(k:Int) <= 60:=by omega
 have k0:(0:Int) <= (k:Int):=by omega
 have n0:(0:Int) <= (n:Int):=by omega
 have n1:(n:Int) <= 780:=by omega
 have k61:k<61:=by omega
 have nn:n <= 800:=by omega
 have hd19:d <= 19:=hdb.1;have hD20:D0 <= 20:=by rw [hd] at hd19; split at hd19 <;> omega
 clear hD hdg g hnd hv l1 l2 l4 m3 m4 m5 m6 hb hd hdb hless _hB hD0;go_enter Tryz.func229,Tryz.ntmps229;go_wp2_with fail;have hsl:=fun W=>dsl_run a n nn W;go_quiet (with_reducible exact Calls.quiet_of (HL.out _));clear hsl m1 m2;go_upto_if 30 with (fail)
 go_cut [4] from 31 to 32 (fun s4 wx=>s4 = .int .i64 (d:Nat) ∧ ∃ q,wx=w.drewN q)
 case first =>
  have q1:(1:Int) <= (D0:Int):=by omega
  have q2:(D0:Int) <= 20:=by omega
  cases b with
  | true =>
   have hdd:(D0:Int)-1=(d:Int):=by have:=HD.out; simp at this; omega
   have HDD:=Yd hdd;clear hdd;go_wp2_with fail;go_meet;exact ⟨by rw [HDD.out],_,rfl⟩
  | false =>
   have hdd:D0=d:=by have:=HD.out; simp at this; omega
   have HDD:=Yd hdd;clear hdd;go_wp2_with fail;go_meet;exact ⟨by rw [HDD.out],_,rfl⟩
 case rest =>
  obtain ⟨rfl,q0,rfl⟩:=hcut;have d0:(0:Int) <= (d:Int):=by omega
  have d19:(d:Int) <= 19:=by omega
  go_wp2_with fail
  go_loopw [5,6,7] (fun r wi m wr=>∃ e i:Nat,i+e=n∧r = .int .i64 ((i:Int)-1)∧wi = .int .i64 ((i+d:Nat):Int)∧m = .int .u64 ((caL N k e:Nat):Int)∧ShRel w a f N n k d dp neg e wr) (fun r _ _ _=>(intOf r+1).toNat)
  case atStart=>exact ⟨0,n,rfl,rfl,by go_num,by rw [ca_zero]; rfl,HS.out.drewN q0⟩
  case round =>
   obtain ⟨e,i,hie,rfl,rfl,rfl,hS⟩:=hrel
   cases i with
   | zero =>
    have hen:e=n:=by omega
    rw [hen] at hS ⊢;have e0:((0:Nat):Int)-1 = -1:=rfl;rw [e0,Nat.zero_add];have HS1:=Yd hS;obtain ⟨m,hm⟩:∃ m,caL N k n=m:=⟨_,rfl⟩;rw [hm];have HM:=Yd hm;clear hen hS e0 hie hm;go_wp2_with fail;obtain ⟨wa,hwa⟩:∃ wa,wa=wr:=⟨_,rfl⟩;rw [<- hwa] at HS1 ⊢;clear hwa
    go_loopw [6,7] (fun wi m wr=>∃ e j:Nat,j+e=n+d∧n <= e∧wi = .int .i64 ((j:Nat):Int)∧m = .int .u64 ((caL N k e:Nat):Int)∧ShRel w a f N n k d dp neg e wr) (fun wi _ _=>(intOf wi).toNat)
    case atStart=>exact ⟨n,d,by omega,Nat.le_refl _,rfl,by rw [HM.out],HS1.out⟩
    case round =>
     obtain ⟨e,j,hje,hne,rfl,rfl,hS⟩:=hrel;have hca:=ca_all HG.out.1.hi k e hne;have hca2:=ca_all HG.out.1.hi k (e+1) (by omega);obtain ⟨m2,hm2⟩:∃ m2,caL N k e=m2:=⟨_,rfl⟩;rw [hm2] at hca ⊢;have hdb:=HG.out.2.2.2.2;obtain ⟨M,hM⟩:∃ M,N*2 ^ k=M:=⟨_,rfl⟩;rw [hM] at hdb hca hca2;have hM64:m2<18446744073709551616:=by
      have h1:=ca_bd N k e;rw [hm2] at h1;have h2:(2:Nat) ^ k <= 2 ^ 60:=Nat.pow_le_pow_right (by decide) hk;exact Nat.lt_of_lt_of_le h1 (Nat.le_trans h2 (by decide))
     have mm0:(0:Int) <= (m2:Int):=by omega
     have mm1:(m2:Int)<18446744073709551616:=by omega
     cases j with
     | zero =>
      have hz:m2=0:=by
       rw [hca];refine Nat.div_eq_of_lt ?_;rw [show e=n+d by omega];exact hdb.2.2
      have ez:decide (0<m2)=false:=decide_eq_false (by omega);have ez2:¬ 0<m2:=by omega
      have hen:e=n+d:=by omega
      obtain ⟨f',hDM,_,hhigh,hgr⟩:=id hS;have hdg2:Dg f' (N*2 ^ k) (n+d):=fun j hj=>hhigh j (by omega) hj;obtain ⟨n2,hn2⟩:∃ n2,n+d=n2:=⟨_,rfl⟩;have g9:=HG.out;have hn2l:n2 <= 800:=by omega
      have hMM:10 ^ (n2-1) <= N*2 ^ k∧N*2 ^ k<10 ^ n2:=by rw [<- hn2]; exact g9.2.2.2.2.2
      rw [hn2] at hdg2;have gd:=tr_lo n2 (N*2 ^ k) (by have:=g9.1.n1; omega) hMM.1 hMM.2;have eN:(n:Int)+(d:Int)=((n2:Nat):Int):=by omega
      have hd0:=hDM.snd ((n:Int)+d);have hd1:=hd0.sdp (dp+d);have hd1':DM ((wr.setCell ⟨a,800,none⟩ (.int .i64 ((n:Int)+d))).setCell ⟨a,801,none⟩ (.int .i64 (dp+d))) a f' ((n2:Nat):Int) (dp+d) neg:=by rw [<- eN]; exact hd1
      have hg1:=grown_trans (grown_trans hgr (set_grown wr a 800 (.int .i64 ((n:Int)+d)))) (set_grown _ a 801 (.int .i64 (dp+d)));have CT:=trim_any a f' (N*2 ^ k) n2 (dp+d) neg _ (Nat.lt_of_lt_of_le (Nat.pow_pos (by decide)) hMM.1) hMM.2 hn2l hdg2 hd1';have CT2:=CT.mono (R':=ShPost w a (V*2 ^ k) (n+19) dp neg) fun e w' h=>by
       obtain ⟨t1,t2,t3⟩:=h;refine ⟨t1,⟨_,_,_,⟨f',t2,fun j hj => ?_,gd.toWGood,?_,?_⟩,gd.md,?_⟩,grown_trans hg1 t3⟩
       ·have:=tr_le n2 (N*2 ^ k);rw [hdg2 j (by omega),tr_dig n2 _ j hj]
       ·have:=tr_le n2 (N*2 ^ k);have:=g9.2.2.1;omega
       ·rw [val_tr _ _ _ (by have:=g9.2.2.1; omega),<- g9.2.2.2.1];unfold val;rw [show (dp+(d:Int)-(n2:Int)+2000).toNat=(dp-(n:Int)+2000).toNat by omega];generalize 10 ^ (dp-(n:Int)+2000).toNat=y;generalize 2 ^ k=y2
        ac_rfl
       ·have:=tr_le n2 (N*2 ^ k);exact ⟨by omega,by omega,by omega⟩
      have HC1:=Yd (And.intro hDM.cnd (hDM.fr 800));have HC2:=Yd (And.intro hd0.cdp (hd0.fr 801));have a1:=hDM.cnd;have a2:=hd0.cnd;have a3:=hd0.cdp;have n20:(n:Int)+(d:Int) <= 799:=by omega
      have n21:(0:Int) <= (n:Int)+(d:Int):=by omega
      have n22:decide (800 <= (n:Int)+(d:Int))=false:=decide_eq_false (by omega);have HCT:=Yd CT2;clear hz hca hca2 hm2 hM hdb hS hje hen hDM hhigh hgr hdg2 hn2 g9 hn2l hMM gd hd1 hd1' hd0 eN hg1 CT CT2;go_upto_region 28 with ((with_reducible refine wl_pre ?_); (refine wl_set_i64 rfl (.tmp 118) (.tmp 116) rfl a 800 ((n:Int)+d) _ rfl rfl HC1.out.1 HC1.out.2 ?_); (simp only [Act.put]));go_upto_region 31 with ((with_reducible refine wl_pre ?_); (refine wl_set_i64 rfl (.tmp 134) (.tmp 132) rfl a 801 (dp+d) _ rfl rfl HC2.out.1 HC2.out.2 ?_); (simp only [Act.put]));go_wp2_with (go_at_call 228; (with_reducible refine HCT.out.mono ?_); rintro e w' ⟨rfl,hz2⟩; have HZ2:=Yd hz2; clear hz2)
      go_end0
      exact ⟨rfl,HZ2.out⟩
     | succ j =>
      have hpos:0<m2:=by
       rw [hca];refine Nat.div_pos ?_ (Nat.pow_pos (by decide));exact Nat.le_trans (Nat.pow_le_pow_right (by decide) (by omega)) hdb.2.1
      have ez:decide (0<m2)=true:=decide_eq_true hpos;obtain ⟨q,hq⟩:∃ q,m2 / 10=q:=⟨_,rfl⟩;obtain ⟨r,hr⟩:∃ r,m2 % 10=r:=⟨_,rfl⟩;have F3:(m2:Int) / 10=(q:Int):=by omega
      have F4:(m2:Int)-10*(q:Int)=(r:Int):=by omega
      have qq0:(0:Int) <= (q:Int):=by omega
      have qq1:(q:Int) <= 1844674407370955161:=by omega
      have r0:(0:Int) <= (r:Int):=by omega
      have r1:(r:Int) <= 9:=by omega
      have HNX:=Yd (hS.put (b:=r) (by omega) (by omega) (by rw [hM,<- hca,hr]));have hqn:caL N k (e+1)=q:=by
       rw [hca2,Nat.pow_succ,<- Nat.div_div_eq_div_mul,<- hca,hq]
      rw [show n+d-1-e=j by omega] at HNX;obtain ⟨f',hDM,hlow,hhigh,hgr⟩:=id hS;have HC:=Yd (And.intro (hDM.dig j (by omega)) (hDM.fr j));have j0:(0:Int) <= (j:Int):=by omega
      have j1:(j:Int)<800:=by omega
      have ej:((j+1:Nat):Int)-1=(j:Int):=by omega
      have HQ:=Yd (And.intro hqn (And.intro hje hne));obtain ⟨W,hW⟩:∃ W,j+1=W:=⟨_,rfl⟩;rw [hW] at ej ⊢;have w1:(1:Int) <= (W:Int):=by omega
      have w2:(W:Int) <= 800:=by omega
      have HWW:=Yd hW;clear hca hca2 hm2 hM hdb hS hje hne hq hr hqn hDM hlow hhigh hgr hW;go_upto_region 23 with (fail);go_wp2_with ((with_reducible refine wl_pre ?_); (refine wl_set_u8 rfl (.tmp 104) (.tmp 101) rfl a j ((r:Int)+48) _ rfl rfl HC.out.1 HC.out.2 ?_); (simp only [Act.put]));exact ⟨⟨e+1,j,by have:=HQ.out.2; omega,by have:=HQ.out.2; omega,rfl,by rw [HQ.out.1],by rw [show ((r:Int)+48)=((48+r:Nat):Int) by omega]; exact HNX.out⟩,by have:=HWW.out; simp only [intOf]; omega⟩
   | succ i =>
    obtain ⟨x,hx⟩:∃ x,N / 10 ^ e % 10=x:=⟨_,rfl⟩;have hx10:x<10:=by rw [<- hx]; exact Nat.mod_lt _ (by decide)
    obtain ⟨s1,s2⟩:=step_L N k e;rw [hx] at s1 s2;obtain ⟨m,hm⟩:∃ m,caL N k e=m:=⟨_,rfl⟩;have hm2:=ca_bd N k e;rw [hm] at s1 s2 hm2 ⊢;obtain ⟨P,hP⟩:∃ P:Nat,P=2 ^ k:=⟨_,rfl⟩;have hP60:P <= 1152921504606846976:=by
     rw [hP];exact Nat.le_trans (Nat.pow_le_pow_right (by decide) hk) (by decide)
    rw [<- hP] at s1 s2 hm2;obtain ⟨D,hDD⟩:∃ D,x*P=D:=⟨_,rfl⟩;have hD10:D <= 9*P:=by rw [<- hDD]; exact Nat.mul_le_mul_right _ (by omega)
    rw [hDD] at s1 s2;obtain ⟨q,hq⟩:∃ q,(m+D) / 10=q:=⟨_,rfl⟩;obtain ⟨r,hr⟩:∃ r,(m+D) % 10=r:=⟨_,rfl⟩;rw [hq] at s2;rw [hr] at s1;obtain ⟨f',hDM,hlow,hhigh,hgr⟩:=id hS;have c3:=hDM.dig i (by omega);have hfi:f' i=48+x:=by
     rw [hlow i (by omega),HG.out.2.1 i (by omega),show n-1-i=e by omega,hx]
    rw [hfi] at c3;have HNX:=Yd (hS.put (b:=r) (by omega) (by omega) (by rw [s1,hP]));have F1:IntKind.u64.wrap ((x:Int)*2 ^ k)=(D:Int):=by
     have e2:((2:Int) ^ k)=((P:Nat):Int):=by rw [hP]; norm_cast
     rw [e2,show (x:Int)*(P:Int)=(D:Int) by rw [<- hDD]; norm_cast,IntKind.wrap_u64];omega
    obtain ⟨t,ht⟩:∃ t,m+D=t:=⟨_,rfl⟩;have F2:(m:Int)+(D:Int)=(t:Int):=by omega
    rw [ht] at hq hr;have F3:(t:Int) / 10=(q:Int):=by omega
    have F4:(t:Int)-10*(q:Int)=(r:Int):=by omega
    have x0:(0:Int) <= (x:Int):=by omega
    have x1:(x:Int) <= 9:=by omega
    have t0:(0:Int) <= (t:Int):=by omega
    have t1:(t:Int)<18446744073709551616:=by omega
    have qq0:(0:Int) <= (q:Int):=by omega
    have qq1:(q:Int) <= 1844674407370955161:=by omega
    have r0:(0:Int) <= (r:Int):=by omega
    have r1:(r:Int) <= 9:=by omega
    have i0:(0:Int) <= (i:Int):=by omega
    have i1:(i:Int)<800:=by omega
    have c3':wr.cell? ⟨a,i,none⟩=some (.int .u8 ((x:Int)+48)):=by rw [c3,show ((48+x:Nat):Int)=(x:Int)+48 by omega]
    have ec:((i+1:Nat):Int)-1=(i:Int):=by omega
    have ew:((i+1+d:Nat):Int)-1=((i+d:Nat):Int):=by omega
    have ei:n+d-1-e=i+d:=by omega
    rw [ei] at HNX;have HC:=Yd (And.intro (hDM.dig (i+d) (by omega)) (hDM.fr (i+d)));rw [ec];obtain ⟨W,hW⟩:∃ W,i+1+d=W:=⟨_,rfl⟩;obtain ⟨W',hW'⟩:∃ W',i+d=W':=⟨_,rfl⟩;rw [hW,hW'] at ew;rw [hW];rw [hW'] at HNX HC;have w1:(1:Int) <= (W:Int):=by omega
    have w2:(W:Int) <= 800:=by omega
    have w3:(W':Int)<800:=by omega
    have w4:(0:Int) <= (W':Int):=by omega
    have HQ:=Yd (And.intro s2 hie);have HWW:=Yd (And.intro hW hW');clear hx hx10 s1 s2 hm hm2 hP hP60 hDD hD10 hq hr hDM hlow hhigh hgr c3 hfi ht ec ei hW hW' hS hie;go_upto_region 14 with (fail);go_wp2_with ((with_reducible refine wl_pre ?_); (refine wl_set_u8 rfl (.tmp 78) (.tmp 75) rfl a W' ((r:Int)+48) _ rfl rfl HC.out.1 HC.out.2 ?_); (simp only [Act.put]));exact ⟨⟨e+1,i,by have:=HQ.out.2; omega,rfl,by rw [HWW.out.2],by rw [HQ.out.1],by rw [show ((r:Int)+48)=((48+r:Nat):Int) by omega]; exact HNX.out⟩,by simp only [intOf]; omega⟩
end dcw

/- Multiprecision decimals: what the shift to the right writes, whole: plain arithmetic. No conditions but those stated. -/
namespace dmx
theorem qu_pow (N n k r:Nat):∀ d,quR N n k (r+d) / 10 ^ d=quR N n k r
 | 0=>by simp
 | d+1=>by
  rw [Nat.pow_succ,Nat.mul_comm,<- Nat.div_div_eq_div_mul,<- Nat.add_assoc,qu_div];exact qu_pow N n k r d
theorem pre_10 {N n k r:Nat} (h0:1 <= r) (h2:preN N n (r-1)<2 ^ k):preN N n r<10*2 ^ k:=by
 obtain ⟨q,rfl⟩:∃ q,r=q+1:=⟨r-1,by omega⟩;have h1:=pre_succ N n q;have hd:=dgN_lt N n q;rw [Nat.add_sub_cancel] at h2;omega
theorem re_first {N n k r:Nat} (h:preN N n r<10*2 ^ k):reR N n k r=preN N n r∧quR N n k r=0:=⟨Nat.mod_eq_of_lt h,Nat.div_eq_of_lt h⟩
theorem sr_fin {N n k r1 T:Nat} (h0:1 <= r1) (h1:2 ^ k <= preN N n r1) (h2:preN N n (r1-1)<2 ^ k) (hT:reR N n k T=0) (hr:r1 <= T) :
  r1<T∧10 ^ (T-r1-1) <= quR N n k T∧quR N n k T<10 ^ (T-r1):=by
 have h3:=pre_10 h0 h2;obtain ⟨e1,e2⟩:=re_first h3;have hp:=two_pos k;have hlt:r1<T:=by
  refine Nat.lt_of_le_of_ne hr fun e => ?_;rw [<- e,e1] at hT;omega
 obtain ⟨d,rfl⟩:∃ d,T=r1+1+d:=⟨T-(r1+1),by omega⟩;have q1:=qu_pow N n k (r1+1) d;obtain ⟨s1,s2⟩:=step_R N n k r1;have s3:=qu_div N n k r1;rw [e2] at s3;rw [e1] at s1;have hq:1 <= preN N n r1 / 2 ^ k:=Nat.div_pos h1 hp;have hq1:1 <= quR N n k (r1+1)∧quR N n k (r1+1)<10:=by omega
 refine ⟨hlt,?_,?_⟩
 ·rw [show r1+1+d-r1-1=d by omega];refine Nat.le_of_not_lt fun h => ?_;rw [Nat.div_eq_of_lt h] at q1;omega
 ·rw [show r1+1+d-r1=d+1 by omega,Nat.pow_succ,Nat.mul_comm];refine Nat.lt_of_not_le fun h => ?_;have h5:10 <= quR N n k (r1+1+d) / 10 ^ d:=(Nat.le_div_iff_mul_le (Nat.pow_pos (by decide))).2 h;omega
theorem sr_dig {N n k r1 T j:Nat} (h:r1+j<T):quR N n k (r1+j+1) % 10=quR N n k T / 10 ^ (T-r1-1-j) % 10:=by
 obtain ⟨d,rfl⟩:∃ d,T=r1+j+1+d:=⟨T-(r1+j+1),by omega⟩;rw [show r1+j+1+d-r1-1-j=d by omega,qu_pow]
theorem pre_lo {N n:Nat} (h:10 ^ (n-1) <= N) (hn:1 <= n) (r:Nat):10 ^ r <= preN N n (r+1):=by
 unfold preN;rw [Nat.le_div_iff_mul_le (Nat.pow_pos (by decide)),<- Nat.pow_add,show r+n=n-1+(r+1) by omega,Nat.pow_add];exact Nat.mul_le_mul_right _ h
theorem pre_fewk {N n k q:Nat} (h:10 ^ (n-1) <= N) (hn:1 <= n) (hq:preN N n q<2 ^ k):q <= k+1:=by
 refine Nat.le_of_not_lt fun hl => ?_;obtain ⟨r,rfl⟩:∃ r,q=r+1:=⟨q-1,by omega⟩;have h1:=pre_lo h hn r;have h2:(10:Nat) ^ k <= 10 ^ r:=Nat.pow_le_pow_right (by decide) (by omega);have h3:(2:Nat) ^ k <= 10 ^ k:=Nat.pow_le_pow_left (by decide) k;omega
theorem pre_few {N n k q:Nat} (h:10 ^ (n-1) <= N) (hn:1 <= n) (hk:k <= 60) (hq:preN N n q<2 ^ k):q <= 19:=by
 refine Nat.le_of_not_lt fun hl => ?_;obtain ⟨r,rfl⟩:∃ r,q=r+1:=⟨q-1,by omega⟩;have h1:=pre_lo h hn r;have h2:(10:Nat) ^ 19 <= 10 ^ r:=Nat.pow_le_pow_right (by decide) (by omega);have h3:(2:Nat) ^ k <= 2 ^ 60:=Nat.pow_le_pow_right (by decide) hk;have h4:(2:Nat) ^ 60<10 ^ 19:=by decide
 omega
end dmx

/- The walk of strconv's rightShift. Conditions: as the theorem states. -/
namespace dcw
open Go.RowKit
open bsw
open prnw
open dmx
def SrPost (w:World) (a V k:Nat) (B D:Int) (neg:Bool) (e:Ending) (w':World):Prop :=
 e = .returned (.tuple #[])∧(∃ N n dp,DV w' a (V / 2 ^ k) N n dp neg∧N % 10≠0∧(n:Int) <= B∧D-20 <= dp∧dp <= D+20)∧V / 2 ^ k*2 ^ k=V∧w.grownBy w' (some a)
def SrRel (w:World) (a:Nat) (f:Nat -> Nat) (N n k r1:Nat) (dp:Int) (neg:Bool) (r:Nat) (wr:World):Prop :=
 ∃ f',DM wr a f' (n:Nat) dp neg∧(∀ j,r <= j -> j<n -> f' j=f j)∧(∀ j,r1+j<r -> f' j=48+quR N n k (r1+j+1) % 10)∧w.grownBy wr (some a)
theorem SrRel.put {w wr:World} {a N n k r1 r b:Nat} {f:Nat -> Nat} {dp:Int} {neg:Bool} (h:SrRel w a f N n k r1 dp neg r wr) (hr:r1 <= r) (h1:1 <= r1) (hn:r-r1<800) (hb:b=quR N n k (r+1) % 10) :
  SrRel w a f N n k r1 dp neg (r+1) (wr.setCell ⟨a,r-r1,none⟩ (.int .u8 ((48+b:Nat):Int))):=by
 obtain ⟨f',h1',h2,h3,h4⟩:=h;refine ⟨_,h1'.sdig (r-r1) (48+b) hn,fun j hj hj2 => ?_,fun j hj => ?_,grown_trans h4 (set_grown _ _ _ _)⟩
 ·rw [upd_ne _ _ _ _ (by omega)];exact h2 j (by omega) hj2
 ·by_cases hje:j=r-r1
  ·rw [hje,upd_at,hb,show r1+(r-r1)+1=r+1 by omega]
  ·rw [upd_ne _ _ _ _ hje];exact h3 j (by omega)
theorem and_mask64 (a n:Nat) (ha:a<18446744073709551616) (hn:n <= 62):bits BinOp.and IntKind.u64 (a:Int) ((2 ^ n:Nat)-1:Int)=((a % 2 ^ n:Nat):Int):=by
 have hp:2 ^ n <= 4611686018427387904:=by
  have:=Nat.pow_le_pow_right (show 0<2 by decide) hn;simpa using this
 have hp0:0<2 ^ n:=Nat.pow_pos (by decide);obtain ⟨q,hq⟩:∃ q,q=2 ^ n:=⟨_,rfl⟩;have hc:((2 ^ n:Nat)-1:Int)=((2 ^ n-1:Nat):Int):=by
  rw [<- hq] at hp0 ⊢;omega
 have h2:(BitVec.ofInt 64 (a:Int)).toNat=a:=by
  rw [BitVec.toNat_ofInt];omega
 have h3:(BitVec.ofInt 64 ((2 ^ n-1:Nat):Int)).toNat=2 ^ n-1:=by
  rw [BitVec.toNat_ofInt,<- hq];rw [<- hq] at hp hp0;omega
 have hm:a % 2 ^ n<2 ^ n:=Nat.mod_lt _ hp0;rw [hc];have h:bits BinOp.and IntKind.u64 (a:Int) ((2 ^ n-1:Nat):Int)=IntKind.u64.wrap (((BitVec.ofInt 64 (a:Int) &&& BitVec.ofInt 64 ((2 ^ n-1:Nat):Int)).toNat:Nat):Int):=rfl;rw [h,BitVec.toNat_and,h2,h3,Nat.and_two_pow_sub_one_eq_mod,IntKind.wrap_u64];obtain ⟨r,hr⟩:∃ r,r=a % 2 ^ n:=⟨_,rfl⟩;rw [<- hr] at hm ⊢;rw [<- hq] at hp hm;omega
theorem shr_any (a:Nat) (N n k:Nat) (V:Nat) (dp:Int) (neg:Bool) (w:World) (hk1:1 <= k) (hk:k <= 60) (hn:n+k <= 799) (hnd:(n:Int)+k+1 <= dp+2000) (hdp : -3000 <= dp) (hdp2:dp <= 3000) (h:DV w a V N n dp neg) :
  Calls Tryz.prog 230 #[.pointer (some ⟨a,0,none⟩),.int .u64 (k:Nat)] w (SrPost w a V k (n+k) dp neg):=by
 obtain ⟨f,hD,hdg,g,hnd0,hv⟩:=h;obtain ⟨P,hP⟩:∃ P:Nat,P=2 ^ k:=⟨_,rfl⟩;have hP60:P <= 1152921504606846976:=by
  rw [hP];exact Nat.le_trans (Nat.pow_le_pow_right (by decide) hk) (by decide)
 have hP2:2 <= P:=by
  rw [hP];exact Nat.le_trans (by decide:2 <= 2 ^ 1) (Nat.pow_le_pow_right (by decide) hk1)
 have c1:=hD.cnd;have HDD:=Yd hD;have HG:=Yd (And.intro g (And.intro hdg (And.intro hnd (And.intro hv hP))));have n0:(0:Int) <= (n:Int):=by omega
 have n1:(n:Int) <= 799:=by omega
 have P1:(P:Int) <= 1152921504606846976:=by omega
 have P0:(2:Int) <= (P:Int):=by omega
 have F0:((2:Int) ^ k)=(P:Int):=by rw [hP]; norm_cast
 have HF0:=Yd F0;clear hD hdg g hnd hv hnd0 hP F0;go_enter Tryz.func230,Tryz.ntmps230;go_upto_block 0 with (fail)
 go_cut [4,6] from 12 to 48 (fun r m wx=>∃ r1,1 <= r1∧2 ^ k <= preN N n r1∧preN N n (r1-1)<2 ^ k∧r = .int .i64 (r1:Nat)∧m = .int .u64 ((preN N n r1:Nat):Int)∧wx=w)
 case first =>
  go_wp2_with fail
  go_loopw [4,6] (fun r m wr=>∃ q:Nat,(q=0∨preN N n (q-1)<2 ^ k)∧q <= n∧r = .int .i64 (q:Nat)∧m = .int .u64 ((preN N n q:Nat):Int)∧wr=w) (fun r _ _=>20-(intOf r).toNat)
  case atStart=>exact ⟨0,.inl rfl,Nat.zero_le _,rfl,by rw [pre_zero HG.out.1.hi]; rfl,rfl⟩
  case round =>
   obtain ⟨q,hq0,hqn,rfl,rfl,hwr⟩:=hrel;obtain rfl:=hwr.symm;have g:=HG.out;have hPP:=g.2.2.2.2;obtain ⟨m,hm⟩:∃ m,preN N n q=m:=⟨_,rfl⟩;rw [hm]
   by_cases hlt:m<P
   ·have hq19:q <= 19:=pre_few g.1.lo g.1.n1 hk (by rw [hm,<- hPP]; exact hlt);have t1:((m:Int) / 2 ^ k == 0)=true:=by
     rw [HF0.out,beq_iff_eq];exact Int.ediv_eq_zero_of_lt (by omega) (by omega)
    have q0:(0:Int) <= (q:Int):=by omega
    have q1:(q:Int) <= 19:=by omega
    have m0:(0:Int) <= (m:Int):=by omega
    have m1:(m:Int)<1152921504606846976:=by omega
    by_cases hqq:q<n
    ·have hd:=g.2.1 q hqq;rw [<- dg_usual hqq] at hd;have hd10:=dgN_lt N n q;have hs:=pre_succ N n q;rw [hm] at hs;obtain ⟨x,hx⟩:∃ x,dgN N n q=x:=⟨_,rfl⟩;rw [hx] at hd hd10 hs;have c3:=HDD.out.dig q (by omega);rw [hd,show ((48+x:Nat):Int)=(x:Int)+48 by omega] at c3;have t2:decide (n <= q)=false:=decide_eq_false (by omega);have x0:(0:Int) <= (x:Int):=by omega
     have x1:(x:Int) <= 9:=by omega
     have q2:(q:Int)<800:=by omega
     have HNX:=Yd (And.intro hs (And.intro hqq (show preN N n (q+1-1)<2 ^ k by rw [Nat.add_sub_cancel,hm,<- hPP]; exact hlt)));clear g hPP hm hd hd10 hs hx hq0 hlt;go_wp2_with fail;exact ⟨⟨q+1,.inr HNX.out.2.2,HNX.out.2.1,by go_num,by rw [HNX.out.1]; go_num,by first | trivial | rfl⟩,by simp only [intOf]; omega⟩
    ·have hqn2:q=n:=by omega
     have hmN:m=N:=by rw [<- hm,hqn2,pre_all]
     have t2:decide (n <= q)=true:=decide_eq_true (by omega);have t2':n <= q:=by omega
     have hN0:0<m:=by rw [hmN]; exact Nat.lt_of_lt_of_le (Nat.pow_pos (by decide)) g.1.lo
     have t3:((m:Int) == 0)=false:=Yf (by omega)
     have HST:=Yd (And.intro hm hq0);clear g hPP hm hq0 hlt hqn2 hmN hqq hN0 hqn;go_wp2_with fail
     go_loopw [4,6] (fun r m wr=>∃ q:Nat,(q=0∨preN N n (q-1)<2 ^ k)∧n <= q∧r = .int .i64 (q:Nat)∧m = .int .u64 ((preN N n q:Nat):Int)∧wr=w) (fun r _ _=>20-(intOf r).toNat)
     case atStart=>exact ⟨q,HST.out.2,t2',rfl,by rw [HST.out.1],rfl⟩
     case round =>
      obtain ⟨p,hp0,hpn,rfl,rfl,hwr⟩:=hrel;obtain rfl:=hwr.symm;have g:=HG.out;have hPP:=g.2.2.2.2;clear m0 m1 q0 q1 t1 t2 t2' t3 hq19 HST;obtain ⟨m3,hm3⟩:∃ m3,preN N n p=m3:=⟨_,rfl⟩;rw [hm3]
      by_cases hlt:m3<P
      ·have hq19:p <= 19:=pre_few g.1.lo g.1.n1 hk (by rw [hm3,<- hPP]; exact hlt);have t1:((m3:Int) / 2 ^ k == 0)=true:=by
        rw [HF0.out,beq_iff_eq];exact Int.ediv_eq_zero_of_lt (by omega) (by omega)
       have q0:(0:Int) <= (p:Int):=by omega
       have q1:(p:Int) <= 19:=by omega
       have m0:(0:Int) <= (m3:Int):=by omega
       have m1:(m3:Int)<1152921504606846976:=by omega
       have hs:=pre_succ N n p;rw [dg_beyond hpn,hm3] at hs;have HNX:=Yd (And.intro hs (And.intro hpn (show preN N n (p+1-1)<2 ^ k by rw [Nat.add_sub_cancel,hm3,<- hPP]; exact hlt)));clear g hPP hm3 hp0 hlt hs hpn;go_wp2_with fail;exact ⟨⟨p+1,.inr HNX.out.2.2,by have:=HNX.out.2.1; omega,by go_num,by rw [HNX.out.1]; go_num,by first | trivial | rfl⟩,by simp only [intOf]; omega⟩
      ·have t1:((m3:Int) / 2 ^ k == 0)=false:=by
        rw [HF0.out,beq_eq_false_iff_ne];intro h;have:=Int.lt_ediv_add_one_mul_self (m3:Int) (show (0:Int)<(P:Int) by omega);rw [h] at this;omega
       have hp1:1 <= p:=by have:=g.1.n1; omega
       have HNX:=Yd (And.intro hm3 (And.intro hp1 (And.intro (show 2 ^ k <= preN N n p by rw [hm3,<- hPP]; omega) (show preN N n (p-1)<2 ^ k from hp0.resolve_left (by omega)))));clear g hPP hm3 hp0 hlt hpn hp1;go_wp2_with fail;go_meet;exact ⟨p,HNX.out.2.1,HNX.out.2.2.1,HNX.out.2.2.2,rfl,by rw [HNX.out.1],rfl⟩
   ·have t1:((m:Int) / 2 ^ k == 0)=false:=by
     rw [HF0.out,beq_eq_false_iff_ne];intro h;have:=Int.lt_ediv_add_one_mul_self (m:Int) (show (0:Int)<(P:Int) by omega);rw [h] at this;omega
    have hp1:1 <= q:=by
     refine Nat.pos_of_ne_zero fun e => ?_;rw [e,pre_zero g.1.hi] at hm;omega
    have HNX:=Yd (And.intro hm (And.intro hp1 (And.intro (show 2 ^ k <= preN N n q by rw [hm,<- hPP]; omega) (show preN N n (q-1)<2 ^ k from hq0.resolve_left (by omega)))));clear g hPP hm hq0 hlt hqn hp1;go_wp2_with fail;go_meet;exact ⟨q,HNX.out.2.1,HNX.out.2.2.1,HNX.out.2.2.2,rfl,by rw [HNX.out.1],rfl⟩
 case rest =>
  obtain ⟨r1,h1,h2,h3,rfl,rfl,hwx⟩:=hcut;obtain rfl:=hwx.symm;have g:=HG.out;have hPP:=g.2.2.2.2;have hr20:=pre_few g.1.lo g.1.n1 hk h3;have hrk:r1 <= k+2:=by have:=pre_fewk g.1.lo g.1.n1 h3; omega
  obtain ⟨e1,e2⟩:=re_first (pre_10 h1 h3);rw [<- e1];obtain ⟨dp2,hdp3⟩:∃ dp2:Int,dp-((r1:Int)-1)=dp2:=⟨_,rfl⟩;have hD2:=HDD.out.sdp dp2;have HS:=Yd (show SrRel w a f N n k r1 dp2 neg r1 (w.setCell ⟨a,801,none⟩ (.int .i64 dp2)) from ⟨f,hD2,fun _ _ _=>rfl,fun j hj=>by omega,set_grown _ _ _ _⟩);have HC1:=Yd (And.intro HDD.out.cdp (HDD.out.fr 801));have c2:=HDD.out.cdp;have c2':=hD2.cnd;have r0:(1:Int) <= (r1:Int):=by omega
  have r9:(r1:Int) <= 20:=by omega
  have HR:=Yd (And.intro h1 (And.intro h2 h3));have HDP:=Yd hdp3;have Fm:IntKind.u64.wrap (2 ^ k)=(P:Int):=by rw [HF0.out,IntKind.wrap_u64]; omega
  have HE:=Yd (And.intro e1 e2);clear g hPP h1 h2 h3 e1 e2 hD2 hr20;go_upto_region 14 with ((with_reducible refine wl_pre ?_); (refine wl_set_i64 rfl (.tmp 57) (.tmp 55) rfl a 801 dp2 _ rfl rfl HC1.out.1 HC1.out.2 ?_); (simp only [Act.put]));clear c2 hdp3;obtain ⟨W0,hW0⟩:∃ W0,W0=w.setCell ⟨a,801,none⟩ (.int .i64 dp2):=⟨_,rfl⟩;rw [<- hW0] at HS c2' ⊢;have HW0:=Yd hW0;clear hW0;go_wp2_with fail
  go_loopw [4,5,6] (fun r wi m wr=>∃ q:Nat,r1 <= q∧(q <= n∨q=r1)∧r = .int .i64 (q:Nat)∧wi = .int .i64 ((q-r1:Nat):Int)∧m = .int .u64 ((reR N n k q:Nat):Int)∧SrRel w a f N n k r1 dp2 neg q wr) (fun r _ _ _=>n-(intOf r).toNat)
  case atStart=>exact ⟨r1,Nat.le_refl _,.inr rfl,rfl,by rw [Nat.sub_self]; rfl,rfl,HS.out⟩
  case round =>
   obtain ⟨q,hrq,hqn,rfl,rfl,rfl,hS⟩:=hrel;have g:=HG.out;have hPP:=g.2.2.2.2;have hre:=re_lt N n k q;rw [<- hPP] at hre;obtain ⟨m,hm⟩:∃ m,reR N n k q=m:=⟨_,rfl⟩;rw [hm] at hre ⊢;obtain ⟨f',hDM,hlow,hhigh,hgr⟩:=id hS;have c4:=hDM.cnd;have q0:(0:Int) <= (q:Int):=by omega
   have q9:(q:Int) <= 820:=by omega
   have m0:(0:Int) <= (m:Int):=by omega
   have m1:(m:Int)<18446744073709551616:=by omega
   have mlt:m<18446744073709551616:=by omega
   obtain ⟨W,hW⟩:∃ W,q-r1=W:=⟨_,rfl⟩;rw [hW];have W0':(0:Int) <= (W:Int):=by omega
   by_cases hlt:q<n
   ·have t1:decide (q<n)=true:=decide_eq_true hlt;obtain ⟨s1,s2⟩:=step_R N n k q;rw [hm,<- hPP] at s1 s2;have hd:=g.2.1 q hlt;rw [<- dg_usual hlt,<- hlow q (Nat.le_refl _) hlt] at hd;have hd10:=dgN_lt N n q;obtain ⟨x,hx⟩:∃ x,dgN N n q=x:=⟨_,rfl⟩;rw [hx] at hd hd10 s2;have c3:=hDM.dig q (by omega);rw [hd,show ((48+x:Nat):Int)=(x:Int)+48 by omega] at c3;obtain ⟨z,hz⟩:∃ z,m % P=z:=⟨_,rfl⟩;obtain ⟨y,hy⟩:∃ y,m / P=y:=⟨_,rfl⟩;have hz2:z<P:=by rw [<- hz]; exact Nat.mod_lt _ (by omega)
    have hy2:y<10:=by rw [<- hy]; exact Nat.div_lt_of_lt_mul (by rw [Nat.mul_comm]; exact hre)
    have Fa:bits BinOp.and IntKind.u64 (m:Int) ((P:Int)-1)=(z:Int):=by
     rw [<- hz,hPP];exact and_mask64 m k mlt (Nat.le_trans hk (by decide))
    have Fg:(m:Int) / 2 ^ k=(y:Int):=by rw [HF0.out,<- hy]; rfl
    rw [hz] at s2;rw [hy] at s1;have HNX:=Yd (hS.put (b:=y) hrq HR.out.1 (by omega) s1.symm);rw [hW] at HNX;have HC:=Yd (And.intro (hDM.dig W (by omega)) (hDM.fr W));have x0:(0:Int) <= (x:Int):=by omega
    have x1:(x:Int) <= 9:=by omega
    have y0:(0:Int) <= (y:Int):=by omega
    have y1:(y:Int) <= 9:=by omega
    have z0:(0:Int) <= (z:Int):=by omega
    have z1:(z:Int)<1152921504606846976:=by omega
    have q8:(q:Int)<800:=by omega
    have W9:(W:Int)<800:=by omega
    have HQ:=Yd (And.intro s2 (And.intro hrq (And.intro hW hlt)));clear g hPP hre hm hDM hlow hhigh hgr hW hlt s1 s2 hd hd10 hx hz hy hz2 hy2 hrq hqn hS;go_upto_region 20 with (fail);go_wp2_with ((with_reducible refine wl_pre ?_); (refine wl_set_u8 rfl (.tmp 89) (.tmp 86) rfl a W ((y:Int)+48) _ rfl rfl HC.out.1 HC.out.2 ?_); (simp only [Act.put]));exact ⟨⟨q+1,Nat.le_succ_of_le HQ.out.2.1,.inl HQ.out.2.2.2,by go_num,by rw [show q+1-r1=W+1 by have:=HQ.out.2; omega]; go_num,by rw [HQ.out.1]; exact congrArg (Value.int IntKind.u64) (by omega),by rw [show ((y:Int)+48)=((48+y:Nat):Int) by omega]; exact HNX.out⟩,by have:=HQ.out.2.2.2; simp only [intOf]; omega⟩
   ·have t1:decide (q<n)=false:=decide_eq_false hlt;have t1':¬ q<n:=hlt;have HS2:=Yd hS;have hn1:=g.1.n1;have HQ:=Yd (And.intro hm (And.intro hrq (And.intro hW (show q <= n+k+1 by omega))));clear g hPP hre hm hDM hlow hhigh hgr hW hlt hrq hqn hS mlt hn1;go_wp2_with fail;obtain ⟨wa,hwa⟩:∃ wa,wa=wr:=⟨_,rfl⟩;rw [<- hwa] at HS2 ⊢;clear hwa c4
    go_loopw [5,6] (fun wi m wr=>∃ q:Nat,r1 <= q∧n <= q∧q <= n+k+1∧wi = .int .i64 ((q-r1:Nat):Int)∧m = .int .u64 ((reR N n k q:Nat):Int)∧SrRel w a f N n k r1 dp2 neg q wr) (fun wi _ _=>n+k+2-(intOf wi).toNat)
    case atStart=>exact ⟨q,HQ.out.2.1,Nat.le_of_not_lt t1',HQ.out.2.2.2,by rw [HQ.out.2.2.1],by rw [HQ.out.1],HS2.out⟩
    case round =>
     obtain ⟨q,hrq,hnq,hqk,rfl,rfl,hS⟩:=hrel;have g:=HG.out;have hPP:=g.2.2.2.2;have hre:=re_lt N n k q;rw [<- hPP] at hre;clear HQ HS2 m0 m1 q0 q9 W0' t1 t1';obtain ⟨m,hm⟩:∃ m,reR N n k q=m:=⟨_,rfl⟩;rw [hm] at hre ⊢;obtain ⟨f',hDM,hlow,hhigh,hgr⟩:=id hS;have m0:(0:Int) <= (m:Int):=by omega
     have m1:(m:Int)<18446744073709551616:=by omega
     have mlt:m<18446744073709551616:=by omega
     obtain ⟨W,hW⟩:∃ W,q-r1=W:=⟨_,rfl⟩;rw [hW];have W0':(0:Int) <= (W:Int):=by omega
     by_cases hpos:0<m
     ·have t1:decide (0<m)=true:=decide_eq_true hpos;have hqk2:q <= n+k:=by
       refine Nat.le_of_not_lt fun h => ?_;have h5:=re_end (N:=N) (n:=n) (k:=k) (d:=q-n) (by omega);rw [show n+(q-n)=q by omega,hm] at h5;omega
      obtain ⟨s1,s2⟩:=step_R N n k q;rw [hm,<- hPP] at s1 s2;rw [dg_beyond hnq] at s2;obtain ⟨z,hz⟩:∃ z,m % P=z:=⟨_,rfl⟩;obtain ⟨y,hy⟩:∃ y,m / P=y:=⟨_,rfl⟩;have hz2:z<P:=by rw [<- hz]; exact Nat.mod_lt _ (by omega)
      have hy2:y<10:=by rw [<- hy]; exact Nat.div_lt_of_lt_mul (by rw [Nat.mul_comm]; exact hre)
      have Fa:bits BinOp.and IntKind.u64 (m:Int) ((P:Int)-1)=(z:Int):=by
       rw [<- hz,hPP];exact and_mask64 m k mlt (Nat.le_trans hk (by decide))
      have Fg:(m:Int) / 2 ^ k=(y:Int):=by rw [HF0.out,<- hy]; rfl
      rw [hz] at s2;rw [hy] at s1;have h10:=HR.out.1;have hW8:W<800:=by omega
      have HNX:=Yd (hS.put (b:=y) hrq HR.out.1 (by rw [hW]; exact hW8) s1.symm);rw [hW] at HNX;have HC:=Yd (And.intro (hDM.dig W hW8) (hDM.fr W));have y0:(0:Int) <= (y:Int):=by omega
      have y1:(y:Int) <= 9:=by omega
      have z0:(0:Int) <= (z:Int):=by omega
      have z1:(z:Int)<1152921504606846976:=by omega
      have W9:(W:Int)<800:=by omega
      have HQ:=Yd (And.intro s2 (And.intro hrq (And.intro hW (And.intro hnq hqk2))));clear g hPP hre hm hDM hlow hhigh hgr hW s1 s2 hz hy hz2 hy2 hrq hnq hqk hqk2 hS h10 hW8 mlt;go_upto_region 27 with (fail);go_wp2_with ((with_reducible refine wl_pre ?_); (refine wl_set_u8 rfl (.tmp 114) (.tmp 111) rfl a W ((y:Int)+48) _ rfl rfl HC.out.1 HC.out.2 ?_); (simp only [Act.put]));exact ⟨⟨q+1,Nat.le_succ_of_le HQ.out.2.1,Nat.le_succ_of_le HQ.out.2.2.2.1,Nat.succ_le_succ HQ.out.2.2.2.2,by rw [show q+1-r1=W+1 by have:=HQ.out.2; omega]; go_num,by rw [HQ.out.1]; exact congrArg (Value.int IntKind.u64) (by omega),by rw [show ((y:Int)+48)=((48+y:Nat):Int) by omega]; exact HNX.out⟩,by have:=HQ.out.2; simp only [intOf]; omega⟩
     ·have hz:m=0:=by omega
      rw [hz] at hm;have h9:=HR.out;obtain ⟨l1,l2,l3⟩:=sr_fin h9.1 h9.2.1 h9.2.2 hm hrq;rw [hW] at l2 l3;have hdg2:Dg f' (quR N n k q) W:=fun j hj=>by
       rw [hhigh j (by omega),sr_dig (N:=N) (n:=n) (k:=k) (r1:=r1) (T:=q) (j:=j) (by omega),hW]
      have hW1:1 <= W:=by omega
      have hW8:W <= 800:=by omega
      have gd:=tr_lo W (quR N n k q) hW1 l2 l3;have hd1:=hDM.snd ((W:Nat):Int);have hg1:=grown_trans hgr (set_grown wr a 800 (.int .i64 (W:Nat)));have hvR:=val_R N n k r1 q dp hm hnq hrq (by have:=g.2.2.1; omega) (by have:=g.2.2.1; omega);rw [hW,g.2.2.2.1] at hvR;have hdp9:=HDP.out;have CT:=trim_any a f' (quR N n k q) W dp2 neg _ (Nat.lt_of_lt_of_le (Nat.pow_pos (by decide)) l2) l3 hW8 hdg2 hd1;have CT2:=CT.mono (R':=SrPost w a V k (n+k) dp neg) fun e w' h=>by
       obtain ⟨t1,t2,t3⟩:=h;have htl:=tr_le W (quR N n k q);have hvv:val (quR N n k q) W dp2=V / 2 ^ k:=by
        rw [<- hvR,Nat.mul_div_cancel _ (two_pos k),show dp-(r1:Int)+1=dp2 by omega]
       refine ⟨t1,⟨_,_,_,⟨f',t2,fun j hj => ?_,gd.toWGood,?_,?_⟩,gd.md,?_⟩,?_,grown_trans hg1 t3⟩
       ·rw [hdg2 j (by omega),tr_dig W _ j hj]
       ·have:=g.2.2.1;omega
       ·rw [val_tr _ _ _ (by have:=g.2.2.1; omega),hvv]
       ·exact ⟨by omega,by omega,by omega⟩
       ·rw [<- hvR,Nat.mul_div_cancel _ (two_pos k)]
      have HC2:=Yd (And.intro hDM.cnd (hDM.fr 800));have HCT:=Yd CT2;have t1:decide (0<m)=false:=decide_eq_false hpos;clear g hPP hre hm hDM hlow hhigh hgr hW hrq hnq hqk hS mlt hz h9 l1 l2 l3 hdg2 hW1 hW8 gd hd1 hg1 hvR hdp9 CT CT2;go_upto_region 33 with ((with_reducible refine wl_pre ?_); (refine wl_set_i64 rfl (.tmp 127) (.tmp 125) rfl a 800 (W:Nat) _ rfl rfl HC2.out.1 HC2.out.2 ?_); (simp only [Act.put]));go_wp2_with (go_at_call 228; (with_reducible refine HCT.out.mono ?_); rintro e w' ⟨rfl,hz2⟩; have HZ2:=Yd hz2; clear hz2)
      go_end0
      exact ⟨rfl,HZ2.out⟩
end dcw

/- The walks of strconv's Shift. Conditions: as each theorem states. -/
namespace dcw
open Go.RowKit
open bsw
open prnw
open dmx
theorem shift_l (B a:Nat) (N n k:Nat) (V:Nat) (dp:Int) (neg:Bool) (w:World) (hL:LC B w) (hB:B <= a) (hk1:1 <= k) (hk:k <= 60) (hn:n+20 <= 800) (hdp : -3000 <= dp) (hdp2:dp <= 3000) (h:DV w a V N n dp neg) :
  Calls Tryz.prog 192 #[.pointer (some ⟨a,0,none⟩),.int .i64 (k:Nat)] w (ShPost w a (V*2 ^ k) (n+19) dp neg):=by
 have HC:=Yd (shl_any B a N n k V dp neg w hL hB hk1 hk hn hdp hdp2 h);have c1:=h.choose_spec.1.cnd;have g:=h.choose_spec.2.2.1;have g1:=g.n1;have t1:((n:Int) == 0)=false:=Yf (by omega)
 have k1:(0:Int)<(k:Int):=by omega
 have k2:(k:Int) <= 60:=by omega
 clear hL h g g1;go_enter Tryz.func192,Tryz.ntmps192;go_wp2_with fail;refine wp_loop_rounds 1 ?_;rw [rounds_succ];go_wp2_with (go_at_call 229; (with_reducible refine HC.out.mono ?_); rintro e w' ⟨rfl,hz2⟩; have HZ2:=Yd hz2; clear hz2)
 go_end0
 exact ⟨rfl,HZ2.out⟩
theorem shift_r1 (a:Nat) (N n k:Nat) (V:Nat) (dp:Int) (neg:Bool) (w:World) (hk1:1 <= k) (hk:k <= 60) (hn:n+k <= 799) (hnd:(n:Int)+k+1 <= dp+2000) (hdp : -3000 <= dp) (hdp2:dp <= 3000) (h:DV w a V N n dp neg) :
  Calls Tryz.prog 192 #[.pointer (some ⟨a,0,none⟩),.int .i64 (-(k:Int))] w (SrPost w a V k (n+k) dp neg):=by
 have HC:=Yd (shr_any a N n k V dp neg w hk1 hk hn hnd hdp hdp2 h);have c1:=h.choose_spec.1.cnd;have g:=h.choose_spec.2.2.1;have g1:=g.n1;have t1:((n:Int) == 0)=false:=Yf (by omega)
 have k1:(0:Int)<(k:Int):=by omega
 have k2:(k:Int) <= 60:=by omega
 have k3:decide (0 < -(k:Int))=false:=decide_eq_false (by omega);have k4:decide (-(k:Int)<0)=true:=decide_eq_true (by omega);have k5:decide (-(k:Int) < -60)=false:=decide_eq_false (by omega);clear h g g1;go_enter Tryz.func192,Tryz.ntmps192;go_wp2_with fail;refine wp_loop_rounds 1 ?_;rw [rounds_succ];go_wp2_with (go_at_call 230; (with_reducible refine HC.out.mono ?_); rintro e w' ⟨rfl,hz2⟩; have HZ2:=Yd hz2; clear hz2)
 go_end0
 exact ⟨rfl,HZ2.out⟩
def Sr2Post (w:World) (a V k:Nat) (B D:Int) (neg:Bool) (e:Ending) (w':World):Prop :=
 e = .returned (.tuple #[])∧(∃ N n dp,DV w' a (V / 2 ^ k) N n dp neg∧N % 10≠0∧(n:Int) <= B∧D-40 <= dp∧dp <= D+40)∧V / 2 ^ k*2 ^ k=V∧w.grownBy w' (some a)
theorem shift_r (a:Nat) (N n k:Nat) (V:Nat) (dp:Int) (neg:Bool) (w:World) (hk1:1 <= k) (hk:k <= 120) (hn:n+k <= 799) (hnd:(n:Int)+k+100 <= dp+2000) (hdp : -2900 <= dp) (hdp2:dp <= 2900) (h:DV w a V N n dp neg) :
  Calls Tryz.prog 192 #[.pointer (some ⟨a,0,none⟩),.int .i64 (-(k:Int))] w (Sr2Post w a V k (n+k) dp neg):=by
 by_cases hk6:k <= 60
 ·refine (shift_r1 a N n k V dp neg w hk1 hk6 hn (by omega) (by omega) (by omega) h).mono fun e w' hh => ?_;obtain ⟨h1,⟨N',n',dp',h2,hm,h3,h4,h5⟩,h6,h7⟩:=hh;exact ⟨h1,⟨N',n',dp',h2,hm,h3,by omega,by omega⟩,h6,h7⟩
 ·have HC0:Calls Tryz.prog 230 #[.pointer (some ⟨a,0,none⟩),.int .u64 60] w (SrPost w a V 60 (n+60) dp neg):=shr_any a N n 60 V dp neg w (by decide) (by decide) (by omega) (by omega) (by omega) (by omega) h;have HC:=Yd HC0;have c1:=h.choose_spec.1.cnd;have g:=h.choose_spec.2.2.1;have g1:=g.n1;obtain ⟨j,hj⟩:∃ j,k=60+j:=⟨k-60,by omega⟩;have HJ:=Yd hj;have t1:((n:Int) == 0)=false:=Yf (by omega)
  have k1:(0:Int)<(k:Int):=by omega
  have k2:(k:Int) <= 120:=by omega
  have k3:decide (0 < -(k:Int))=false:=decide_eq_false (by omega);have k4:decide (-(k:Int)<0)=true:=decide_eq_true (by omega);have k5:decide (-(k:Int) < -60)=true:=decide_eq_true (by omega);have k6 : -(k:Int)+60 = -(j:Int):=by omega
  have j0:(0:Int)<(j:Int):=by omega
  have j1:(j:Int) <= 60:=by omega
  have k7:decide (-(j:Int) < -60)=false:=decide_eq_false (by omega);clear h g g1 hj HC0;go_enter Tryz.func192,Tryz.ntmps192;go_wp2_with fail;refine wp_loop_rounds 2 ?_;rw [rounds_succ];go_wp2_with fail
  (with_reducible refine HC.out.mono ?_)
  rintro e w1 ⟨rfl,⟨N1,n1,dp1,h2,_,h3,h4,h5⟩,h6,h7⟩;have HC2:=Yd (shr_any a N1 n1 j (V / 2 ^ 60) dp1 neg w1 (by omega) (by omega) (by omega) (by omega) (by omega) (by omega) h2);have HZ:=Yd (And.intro h3 (And.intro h4 (And.intro h5 (And.intro h6 h7))));clear h2 h3 h4 h5 h6 h7;go_wp2_with fail;rw [rounds_succ];go_wp2_with (go_at_call 230; (with_reducible refine HC2.out.mono ?_); rintro e w' ⟨rfl,hz2⟩; have HZ2:=Yd hz2; clear hz2)
  go_end0
  obtain ⟨⟨N',n',dp',a2,am,a3,a4,a5⟩,a6,a7⟩:=HZ2.out;obtain ⟨b3,b4,b5,b6,b7⟩:=HZ.out;have hkj:=HJ.out;have e1:V / 2 ^ 60 / 2 ^ j=V / 2 ^ k:=by rw [Nat.div_div_eq_div_mul,<- Nat.pow_add,hkj]
  refine ⟨rfl,⟨N',n',dp',by rw [<- e1]; exact a2,am,by omega,by omega,by omega⟩,?_,grown_trans b7 a7⟩;rw [<- e1,hkj,Nat.pow_add,Nat.mul_comm (2 ^ 60),<- Nat.mul_assoc,a6,b6]
end dcw

/- The nearest float of a quotient: what it is, that it is one, and how it is found. Plain. -/
namespace fpm
open Go Go.RowKit prnw
def unB:Nat:=1076
theorem unB_eq:unB=1076:=rfl
def leB:Nat:=1074
theorem leB_eq:leB=1074:=rfl
theorem unB_le:(2:Nat) ^ unB=4*2 ^ leB:=by rw [show unB=leB+2 from rfl,Nat.pow_add,Nat.mul_comm]
def Near (X A B:Nat):Prop:=endL X*B <= A*2 ^ unB∧A*2 ^ unB <= endU X*B∧(X % 2=1 -> endL X*B<A*2 ^ unB∧A*2 ^ unB<endU X*B)
theorem ends_far (X n:Nat):endU X <= endL (X+(n+1))∧(0<n -> endU X<endL (X+(n+1))):=by
 have hm:=ends_mono (X+1) (by omega) n;rw [Nat.add_assoc X 1 n,Nat.add_comm 1 n,ends_meet X] at hm;exact ⟨by omega,fun h=>by omega⟩
theorem near_mono {X Y A B C D:Nat} (hB:0<B) (hD:0<D) (h1:Near X A B) (h2:Near Y C D) (h:A*D <= C*B):X <= Y:=by
 refine Nat.le_of_not_lt fun hl => ?_;obtain ⟨n,rfl⟩:∃ n,X=Y+(n+1):=⟨X-Y-1,by omega⟩;obtain ⟨e1,e2⟩:=ends_far Y n;obtain ⟨a1,a2,a3⟩:=h1;obtain ⟨b1,b2,b3⟩:=h2;generalize endU Y=u at *;generalize endL (Y+(n+1))=l at *;generalize 2 ^ unB=z at *;have k1:l*B*D <= A*z*D:=Nat.mul_le_mul_right _ a1;have k2:A*z*D <= C*z*B:=by
  have:=Nat.mul_le_mul_right z h;rw [show A*z*D=A*D*z by ac_rfl,show C*z*B=C*B*z by ac_rfl];exact this
 have k3:C*z*B <= u*D*B:=Nat.mul_le_mul_right _ b2;have k4:l*B*D=l*D*B:=by ac_rfl
 have k5:l*D*B <= u*D*B:=by omega
 have k6:l <= u:=Nat.le_of_mul_le_mul_right (Nat.le_of_mul_le_mul_right k5 hB) hD;have hn:n=0:=Nat.eq_zero_of_not_pos fun hp=>by have:=e2 hp; omega
 have hlu:l=u:=by omega
 subst hn
 by_cases ho:(Y+(0+1)) % 2=1
 ·obtain ⟨c1,_⟩:=a3 ho;have:=Nat.mul_lt_mul_of_pos_right c1 hD;rw [hlu] at this k4;omega
 ·obtain ⟨_,c2⟩:=b3 (by omega);have:=Nat.mul_lt_mul_of_pos_right c2 hB;rw [hlu] at k4 k1;omega
theorem near_inj {X Y A B C D:Nat} (hB:0<B) (hD:0<D) (h1:Near X A B) (h2:Near Y C D) (h:A*D=C*B):X=Y :=
 Nat.le_antisymm (near_mono hB hD h1 h2 (Nat.le_of_eq h)) (near_mono hD hB h2 h1 (Nat.le_of_eq h.symm))
theorem fl_parts (t R:Nat) (hR:R<9007199254740992) (hn:t=0∨4503599627370496 <= R) :
  ftM (t*4503599627370496+R)=R∧ftE (t*4503599627370496+R)-52=(t:Int)-1074:=by
 unfold ftM ftE
 by_cases h:t*4503599627370496+R<4503599627370496
 ·rw [if_pos (by omega),if_pos (by omega)];omega
 ·rw [if_neg (by omega),if_neg (by omega)];omega
theorem fl_top (t:Nat):ftM ((t+1)*4503599627370496+4503599627370496)=4503599627370496∧ftE ((t+1)*4503599627370496+4503599627370496)-52=((t+1:Nat):Int)-1074:=by
 unfold ftM ftE;rw [if_neg (by omega),if_neg (by omega)];omega
theorem fl_two (t:Nat):t*4503599627370496+9007199254740992=(t+1)*4503599627370496+4503599627370496:=by omega
theorem near_mk (A B D N t R:Nat) (hB:0<B) (hD:0<D) (hq:A*2 ^ leB*D=N*2 ^ t*B) (h1:2*(R*D) <= 2*N+D) (h2:2*N <= 2*(R*D)+D)
  (h3:R % 2=1 -> 2*(R*D)<2*N+D∧2*N<2*(R*D)+D) (hR:R <= 9007199254740992) (hn:t=0∨4503599627370496*D <= N):Near (t*4503599627370496+R) A B:=by
 have hz:(2:Nat) ^ unB=4*2 ^ leB:=unB_le;obtain ⟨X,hX⟩:∃ X,X=t*4503599627370496+R:=⟨_,rfl⟩;have ho:X % 2=R % 2:=by omega
 obtain ⟨T,hT⟩:∃ T:Nat,T=2 ^ t:=⟨_,rfl⟩;have hT0:0<T:=by rw [hT]; exact Nat.two_pow_pos t
 have key:∀ c,(c*D <= 4*N -> c*T*B <= A*2 ^ unB)∧(4*N <= c*D -> A*2 ^ unB <= c*T*B)∧(c*D<4*N -> c*T*B<A*2 ^ unB)∧(4*N<c*D -> A*2 ^ unB<c*T*B):=by
  intro c;rw [hz];rw [<- hT] at hq;generalize 2 ^ leB=z at *;have hTB:0<T*B:=Nat.mul_pos hT0 hB;have e1:A*(4*z)*D=4*N*(T*B):=by
   rw [show A*(4*z)*D=4*(A*z*D) by ac_rfl,hq]
   ac_rfl
  have e2:c*T*B*D=c*D*(T*B):=by ac_rfl
  refine ⟨fun h => ?_,fun h => ?_,fun h => ?_,fun h => ?_⟩
  ·exact Nat.le_of_mul_le_mul_right (by rw [e1,e2]; exact Nat.mul_le_mul_right _ h) hD
  ·exact Nat.le_of_mul_le_mul_right (by rw [e1,e2]; exact Nat.mul_le_mul_right _ h) hD
  ·exact Nat.lt_of_mul_lt_mul_right (a:=D) (by rw [e1,e2]; exact Nat.mul_lt_mul_of_pos_right h hTB)
  ·exact Nat.lt_of_mul_lt_mul_right (a:=D) (by rw [e1,e2]; exact Nat.mul_lt_mul_of_pos_right h hTB)
 clear hz hq;rw [<- hX];obtain ⟨P,hP⟩:∃ P,P=R*D:=⟨_,rfl⟩;rw [<- hP] at h1 h2 h3
 by_cases hlt:R<9007199254740992∧(t=0∨4503599627370496 <= R)
 ·obtain ⟨f1,f2⟩:=fl_parts t R hlt.1 hlt.2;rw [<- hX] at f1 f2;have eL:endL X=loQ R ((t:Int)-1074)*T:=by unfold endL; rw [f1,f2,hT,show ((t:Int)-1074+1074).toNat=t by omega]
  have eU:endU X=(4*R+2)*T:=by unfold endU; rw [f1,f2,hT,show ((t:Int)-1074+1074).toNat=t by omega]
  unfold Near;rw [eL,eU,ho];have cU:(4*R+2)*D=4*P+2*D:=by rw [Nat.add_mul,Nat.mul_assoc,<- hP]
  have cL:(4*R-2)*D=4*P-2*D:=by rw [Nat.sub_mul,Nat.mul_assoc,<- hP]
  have b1:loQ R ((t:Int)-1074)*D <= 4*N:=by
   unfold loQ
   by_cases hb:R=4503599627370496 ∧ -1074<(t:Int)-1074
   ·rw [if_pos hb];have:=hb.1;have:=hb.2
    rcases hn with h | h
    ·omega
    ·have:(4*R-1)*D <= 4*R*D:=Nat.mul_le_mul_right _ (by omega);rw [Nat.mul_assoc,<- hP] at this;have e:P=4503599627370496*D:=by rw [hP,hb.1]
     omega
   ·rw [if_neg hb,cL];omega
  refine ⟨(key _).1 b1,(key _).2.1 (by rw [cU]; omega),fun h => ?_⟩;have h4:=h3 h;refine ⟨(key _).2.2.1 ?_,(key _).2.2.2 (by rw [cU]; omega)⟩;unfold loQ;rw [if_neg (by omega),cL];have:D <= P:=by
   rw [hP];exact Nat.le_mul_of_pos_left D (by omega)
  omega
 ·by_cases hR2:R=9007199254740992
  ·have e0:X=(t+1)*4503599627370496+4503599627370496:=by
    rw [hX,hR2];exact fl_two t
   obtain ⟨f1,f2⟩:=fl_top t;rw [<- e0] at f1 f2;have eL:endL X=(4*R-2)*T:=by
    unfold endL;rw [f1,f2,show (((t+1:Nat):Int)-1074+1074).toNat=t+1 by omega,Nat.pow_succ,<- hT];unfold loQ;rw [if_pos ⟨rfl,by omega⟩,hR2];omega
   have eU:endU X=(4*R+4)*T:=by
    unfold endU;rw [f1,f2,show (((t+1:Nat):Int)-1074+1074).toNat=t+1 by omega,Nat.pow_succ,<- hT,hR2];omega
   unfold Near;rw [eL,eU,ho];have cU:(4*R+4)*D=4*P+4*D:=by rw [Nat.add_mul,Nat.mul_assoc,<- hP]
   have cL:(4*R-2)*D=4*P-2*D:=by rw [Nat.sub_mul,Nat.mul_assoc,<- hP]
   exact ⟨(key _).1 (by rw [cL]; omega),(key _).2.1 (by rw [cU]; omega),fun h=>by omega⟩
  ·exfalso;have ht:¬ t=0:=fun e=>hlt ⟨by omega,.inl e⟩;have hr:R<4503599627370496:=by
    refine Nat.lt_of_not_le fun h=>hlt ⟨by omega,.inr h⟩
   rcases hn with h | h
   ·exact ht h
   ·have:R*D <= 4503599627370495*D:=Nat.mul_le_mul_right _ (by omega);rw [<- hP] at this;have e:4503599627370496*D=4503599627370495*D+D:=by omega
    omega
end fpm

/- The nearest float of a quotient, worked out. Plain. -/
namespace fpm
open Go Go.RowKit prnw
def rne (N D:Nat):Nat:=N / D+if D<2*(N % D)∨(2*(N % D)=D∧N / D % 2=1) then 1 else 0
theorem rne_spec (N D:Nat) (hD:0<D):2*(rne N D*D) <= 2*N+D∧2*N <= 2*(rne N D*D)+D∧(rne N D % 2=1 -> 2*(rne N D*D)<2*N+D∧2*N<2*(rne N D*D)+D):=by
 have h:=Nat.div_add_mod N D;have hm:=Nat.mod_lt N hD;unfold rne;generalize N % D=m at *;generalize N / D=q at *;rw [Nat.mul_comm] at h
 split
 ·rw [Nat.add_mul,Nat.one_mul];generalize q*D=p at *;omega
 ·rw [Nat.add_zero];generalize q*D=p at *;omega
theorem rne_le {N D K:Nat} (hD:0<D) (h:N <= K*D):rne N D <= K:=by
 have h1:N / D <= K:=Nat.div_le_of_le_mul (by rw [Nat.mul_comm]; exact h);have hm:=Nat.div_add_mod N D;unfold rne
 split
 ·rename_i hc
  by_cases he:N / D=K
  ·rw [he,Nat.mul_comm] at hm;have:N % D=0:=by omega
   rw [this] at hc;omega
  ·omega
 ·omega
def nearX (A B:Nat):Nat :=
 ((A*2 ^ leB / B).log2-52)*4503599627370496+rne (A*2 ^ leB) (B*2 ^ ((A*2 ^ leB / B).log2-52))
theorem near_of (A B:Nat) (hB:0<B):Near (nearX A B) A B:=by
 unfold nearX;obtain ⟨N,hN⟩:∃ N,N=A*2 ^ leB:=⟨_,rfl⟩;rw [<- hN];obtain ⟨F,hF⟩:∃ F,F=N / B:=⟨_,rfl⟩;rw [<- hF];obtain ⟨t,ht⟩:∃ t,t=F.log2-52:=⟨_,rfl⟩;rw [<- ht];obtain ⟨T,hT⟩:∃ T:Nat,T=2 ^ t:=⟨_,rfl⟩;have hT0:0<T:=by rw [hT]; exact Nat.two_pow_pos t
 have hD:0<B*T:=Nat.mul_pos hB hT0;have f1:=Nat.div_add_mod N B;have f2:=Nat.mod_lt N hB;rw [<- hF] at f1;have hup:F+1 <= 9007199254740992*T:=by
  have h1:F<2 ^ (F.log2+1):=Nat.lt_log2_self;have h2:(2:Nat) ^ (F.log2+1) <= 2 ^ (53+t):=Nat.pow_le_pow_right (by decide) (by omega);rw [Nat.pow_add 2 53 t,<- hT] at h2;have:(2:Nat) ^ 53=9007199254740992:=by decide
  rw [this] at h2;omega
 have hlow:t=0∨4503599627370496*T <= F:=by
  by_cases h0:t=0
  ·exact .inl h0
  ·have hF0:F≠0:=by
    intro e;rw [e] at ht;have:Nat.log2 0=0:=by decide
    omega
   have h1:2 ^ F.log2 <= F:=Nat.log2_self_le hF0;have h2:(2:Nat) ^ (52+t) <= 2 ^ F.log2:=Nat.pow_le_pow_right (by decide) (by omega);rw [Nat.pow_add 2 52 t,<- hT] at h2;have:(2:Nat) ^ 52=4503599627370496:=by decide
   rw [this] at h2;exact .inr (Nat.le_trans h2 h1)
 rw [<- hT];obtain ⟨a,b,c⟩:=rne_spec N (B*T) hD;refine near_mk A B (B*T) N t _ hB hD ?_ a b c (rne_le hD ?_) ?_
 ·rw [<- hN,<- hT]
  ac_rfl
 ·have h3:B*(F+1) <= B*(9007199254740992*T):=Nat.mul_le_mul_left _ hup;rw [Nat.mul_add,Nat.mul_one] at h3;have h4:B*(9007199254740992*T)=9007199254740992*(B*T):=by ac_rfl
  rw [h4] at h3;omega
 ·refine hlow.imp_right fun h => ?_;have h3:B*(4503599627370496*T) <= B*F:=Nat.mul_le_mul_left _ h;have h4:B*(4503599627370496*T)=4503599627370496*(B*T):=by ac_rfl
  rw [h4] at h3;omega
theorem near_eq {X A B:Nat} (hB:0<B) (h:Near X A B):X=nearX A B:=near_inj hB hB h (near_of A B hB) rfl
theorem near_same {A B C D:Nat} (hB:0<B) (hD:0<D) (h:A*D=C*B):nearX A B=nearX C D:=near_inj hB hD (near_of A B hB) (near_of C D hD) h
end fpm

/- Multiprecision decimals: rounding to a whole number: plain arithmetic. No conditions but those stated. -/
namespace dmx
open fpm
def upB (N n p:Nat):Bool:=if dgN N n p=5∧p+1=n then decide (0<p) && decide (dgN N n (p-1) % 2=1) else decide (5 <= dgN N n p)
theorem rne_exact (Q D:Nat) (hD:0<D):rne (Q*D) D=Q:=by
 unfold rne;rw [Nat.mul_div_cancel _ hD,Nat.mul_mod_left,if_neg (by omega)];rfl
theorem rne_small (V D:Nat) (h:2*V<D):rne V D=0:=by
 unfold rne;rw [Nat.div_eq_of_lt (by omega),Nat.mod_eq_of_lt (by omega),if_neg (by omega)]
theorem rne_scale (Q r e g:Nat) (hr:r<10 ^ e):rne ((Q*10 ^ e+r)*10 ^ g) (10 ^ e*10 ^ g)=Q+if 10 ^ e<2*r∨(2*r=10 ^ e∧Q % 2=1) then 1 else 0:=by
 have hp:0<10 ^ e:=Nat.pow_pos (by decide);have hg:0<10 ^ g:=Nat.pow_pos (by decide);unfold rne;rw [Nat.mul_div_mul_right _ _ hg,Nat.mul_mod_mul_right];have e1:(Q*10 ^ e+r) / 10 ^ e=Q:=by
  rw [Nat.mul_comm,Nat.mul_add_div hp,Nat.div_eq_of_lt hr,Nat.add_zero]
 have e2:(Q*10 ^ e+r) % 10 ^ e=r:=by
  rw [Nat.mul_comm,Nat.mul_add_mod,Nat.mod_eq_of_lt hr]
 rw [e1,e2,<- Nat.mul_assoc];have k1:(10 ^ e*10 ^ g<2*r*10 ^ g)↔10 ^ e<2*r:=Nat.mul_lt_mul_right hg;have k2:(2*r*10 ^ g=10 ^ e*10 ^ g)↔2*r=10 ^ e:=⟨fun h=>Nat.eq_of_mul_eq_mul_right hg h,fun h=>by rw [h]⟩;simp only [k1,k2]
theorem ri_neg {N n:Nat} (g:WGood N n) (dp:Int) (h:(n:Int) <= dp+2000) (hd:dp<0):rne (val N n dp) one=0:=by
 have h1:=val_small g dp 1 h (by omega) (by decide);exact rne_small _ _ (by omega)
theorem ri_big {N n p:Nat} (hp:n <= p):rne (val N n p) one=preN N n p:=by
 obtain ⟨d,rfl⟩:=Nat.exists_eq_add_of_le hp;rw [pre_beyond];unfold val one;have he:=oneE_eq;rw [show (((n+d:Nat):Int)-(n:Int)+2000).toNat=d+oneE by omega,Nat.pow_add,<- Nat.mul_assoc];exact rne_exact _ _ (Nat.pow_pos (by decide))
theorem ri_mid {N n p:Nat} (g:DGood N n) (h:(n:Int) <= (p:Int)+2000) (hp:p<n):rne (val N n p) one=preN N n p+if upB N n p then 1 else 0:=by
 obtain ⟨e,he⟩:∃ e,n=p+(e+1):=⟨n-p-1,by omega⟩;have ho:=oneE_eq;obtain ⟨c,hc⟩:∃ c,oneE=e+1+c:=⟨oneE-(e+1),by omega⟩;have hpre:preN N n p=N / 10 ^ (e+1):=by
  unfold preN;rw [he,Nat.pow_add 10 p (e+1),Nat.mul_comm N,Nat.mul_div_mul_left _ _ (Nat.pow_pos (by decide))]
 have hdg:dgN N n p=N / 10 ^ e % 10:=by
  rw [dg_usual hp,show n-1-p=e by omega]
 have hdm:=Nat.div_add_mod N (10 ^ (e+1));have hr:=Nat.mod_lt N (Nat.pow_pos (n:=e+1) (show 0<10 by decide));have hrs:N % 10 ^ (e+1)=N / 10 ^ e % 10*10 ^ e+N % 10 ^ e:=mod_step N e;have hv:val N n p=(N / 10 ^ (e+1)*10 ^ (e+1)+N % 10 ^ (e+1))*10 ^ c:=by
  unfold val;rw [show ((p:Int)-(n:Int)+2000).toNat=c by omega,Nat.mul_comm (N / 10 ^ (e+1)),hdm]
 have h1:one=10 ^ (e+1)*10 ^ c:=by unfold one; rw [hc,Nat.pow_add]
 rw [hv,h1,rne_scale _ _ _ _ hr,<- hpre];refine congrArg (fun z:Nat=>preN N n p+z) ?_;clear hv h1 hc ho h;have hm:=g.md;have hlow:N % 10 ^ e<10 ^ e:=Nat.mod_lt _ (Nat.pow_pos (by decide));have h10:(10:Nat) ^ (e+1)=10*10 ^ e:=by rw [Nat.pow_succ,Nat.mul_comm]
 unfold upB;rw [hdg];have hx10:N / 10 ^ e % 10<10:=Nat.mod_lt _ (by decide);have hpar:0<p -> dgN N n (p-1) % 2=preN N n p % 2:=fun h0=>by
  have:=pre_succ N n (p-1);rw [show p-1+1=p by omega] at this;omega
 have hz:p=0 -> preN N n p=0:=fun h0=>by rw [h0]; exact pre_zero g.hi
 have hend:e≠0 -> N % 10 ^ e≠0:=fun h0 h5=>by
  apply hm;obtain ⟨j,rfl⟩:∃ j,e=j+1:=⟨e-1,by omega⟩;have:=Nat.div_add_mod N (10 ^ (j+1));rw [h5,Nat.add_zero,Nat.pow_succ,Nat.mul_comm (10 ^ j),Nat.mul_assoc] at this;omega
 rw [hrs,h10];generalize hT:(10:Nat) ^ e=T at *;have hT0:0<T:=by rw [<- hT]; exact Nat.pow_pos (by decide)
 generalize hX:N / T % 10=x at *;generalize hR:N % T=r at *
 by_cases hx5:x=5∧p+1=n
 ·rw [if_pos hx5];have he0:e=0:=by omega
  have hT1:T=1:=by rw [<- hT,he0]
  have hr0:r=0:=by omega
  rw [hx5.1,hr0,hT1]
  by_cases hp0:0<p
  ·have:=hpar hp0
   by_cases hq:preN N n p % 2=1
   ·rw [if_pos (.inr ⟨by omega,hq⟩),decide_eq_true hp0,decide_eq_true (by omega)];rfl
   ·rw [if_neg (by omega),decide_eq_true hp0,decide_eq_false (by omega)];rfl
  ·have:=hz (by omega);rw [if_neg (by omega),decide_eq_false hp0];rfl
 ·rw [if_neg hx5]
  by_cases h6:6 <= x
  ·have:6*T <= x*T:=Nat.mul_le_mul_right _ h6;rw [if_pos (.inl (by omega)),decide_eq_true (by omega)];rfl
  ·by_cases h5:x=5
   ·have he0:e≠0:=fun h=>hx5 ⟨h5,by omega⟩;have:=hend he0;rw [h5,if_pos (.inl (by omega))];rfl
   ·have:x*T <= 4*T:=Nat.mul_le_mul_right _ (by omega);rw [if_neg (by omega),decide_eq_false (by omega)];rfl
end dmx
end Go.Proofs.YtcbgkbidgpemfaaGreatDoor
