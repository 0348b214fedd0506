/- The digits of a positive float lie in its interval. Plain. -/
import Derived.Test.YtejmbbkklhpnaaaGreatDoorMf14
import Derived.Test.YtejmbbkklhpnaaaGreatDoorMf10
namespace Go.Proofs.YtejmbbkklhpnaaaGreatDoor.fpm
open Go Go.RowKit prnw
theorem ba_u {M S m p2:Nat} {E e:Int} {bd:Bool} (b:Base M S m p2 E e bd) (hM1:1 <= M) (i s W:Nat) (h1:56 <= i) (h2:i<673) (hs:5 <= s) (hs2:s<59) (hW:4*M-2 <= W) (hW2:W <= 4*M+2) :
  ∃ u:Nat,usI (W*p2) (hiT i) (loT i) (s:Int)=(u:Int)∧u=unr (W*p2*nT i) (dT i*2 ^ (128+s))∧7 <= u∧u<9223372036854775808:=by
 obtain ⟨r,h4,h5⟩:=b.p512
 have a1:(4*M-2)*p2 <= W*p2:=Nat.mul_le_mul_right _ hW
 have a2:W*p2 <= (4*M+2)*p2:=Nat.mul_le_mul_right _ hW2
 have a3:(4*M-2)*p2+2*p2=m:=by rw [b.hm4,<- Nat.add_mul]; congr 1; omega
 have a4:(4*M+2)*p2=m+2*p2:=by rw [b.hm4,<- Nat.add_mul]
 have a5:4*p2 <= m:=by rw [b.hm4]; exact Nat.mul_le_mul_right _ (by omega)
 have a6:=b.hi
 have a7:=b.lo
 refine us_at i s (W*p2) h1 h2 hs hs2 (by omega) (by omega) ?_
 rw [h4,Nat.mul_left_comm]
 exact Nat.mul_mod_right _ _
theorem ba_wd {M S m p2:Nat} {E e:Int} {bd:Bool} (b:Base M S m p2 E e bd) (hM1:1 <= M) (P:Int) (hPv:P=if bd then -((E*631305-261663) / 2097152) else -(E*78913 / 262144)) :
  ∃ c,c+loQ M E=4*M+2∧(c=3∨c=4)∧1*2 ^ upB*10 ^ (-P).toNat <= c*2 ^ (E+1074).toNat*10 ^ P.toNat ∧
   (M % 2=1 -> c=4∧(1*2 ^ upB*10 ^ (-P).toNat<4*2 ^ (E+1074).toNat*10 ^ P.toNat∨E=0∧P=0)):=by
 have hW:=ba_W b
 obtain ⟨hB,hC⟩:=pow_at E b.hE.1 b.hE.2
 have hS:=powS_at E b.hE.1 b.hE.2
 cases hb:bd
 ·rw [hb] at hW hPv
  simp only [Bool.false_eq_true,if_false] at hW hPv
  have e1 : -P=E*78913 / 262144:=by omega
  unfold powB at hB
  rw [decide_eq_true_eq,<- e1,show -(-P)=P by omega] at hB
  refine ⟨4,by omega,Or.inr rfl,width P E 4 4 b.hE.1 (Nat.mul_le_mul_left 4 hB) rfl,fun _=>⟨rfl,?_⟩⟩
  unfold powS at hS
  rw [Bool.or_eq_true,decide_eq_true_eq,decide_eq_true_eq,<- e1,show -(-P)=P by omega] at hS
  rcases hS with h | h
  ·right
   clear hB hC
   rw [h] at e1
   exact ⟨h,by omega⟩
  ·left
   exact width_lt P E b.hE.1 h
 ·rw [hb] at hW hPv
  simp only [if_true] at hW hPv
  have e1 : -P=(E*631305-261663) / 2097152:=by omega
  unfold powC at hC
  rw [decide_eq_true_eq,<- e1,show -(-P)=P by omega] at hC
  refine ⟨3,by omega,Or.inl rfl,width P E 3 4 b.hE.1 hC rfl,fun ho => ?_⟩
  have hbd:=b.hbd
  rw [hb] at hbd
  have hb2:=hbd.symm
  rw [Bool.and_eq_true,decide_eq_true_eq,decide_eq_true_eq] at hb2
  rw [hb2.1] at ho
  exact absurd ho (by decide)
def powW (E:Int):Bool:=decide (10 ^ (-(E*78913 / 262144)).toNat*2 ^ E.toNat<10*(10 ^ (E*78913 / 262144).toNat*2 ^ (-E).toNat)) && decide (3*(10 ^ (-((E*631305-261663) / 2097152)).toNat*2 ^ E.toNat)<40*(10 ^ ((E*631305-261663) / 2097152).toNat*2 ^ (-E).toNat))
theorem powWAll:(List.range 2046).all (fun j=>powW ((j:Int)-1074))=true:=by kernel_rfl
theorem powW_at (E:Int) (h0 : -1074 <= E) (h1:E <= 971):powW E=true:=by
 have:=List.all_eq_true.1 powWAll (E+1074).toNat (List.mem_range.2 (by omega))
 rw [show (((E+1074).toNat:Nat):Int)-1074=E by omega] at this
 exact this
theorem width_up (P E:Int) (W:Nat) (hE : -1074 <= E) (h:W*(10 ^ P.toNat*2 ^ E.toNat)<40*(10 ^ (-P).toNat*2 ^ (-E).toNat)):W*2 ^ (E+1074).toNat*10 ^ P.toNat<10*2 ^ upB*10 ^ (-P).toNat:=by
 have hB:=upB_eq
 obtain ⟨t,ht⟩:∃ t,t=1074-(-E).toNat:=⟨_,rfl⟩
 have e1:2 ^ upB=4*(2 ^ (-E).toNat*2 ^ t):=by
  rw [show (4:Nat)=2 ^ 2 by decide,<- Nat.pow_add,<- Nat.pow_add]
  exact congrArg (fun z:Nat=>2 ^ z) (by omega)
 have e2:2 ^ (E+1074).toNat=2 ^ E.toNat*2 ^ t:=by
  rw [<- Nat.pow_add]
  exact congrArg (fun z:Nat=>2 ^ z) (by omega)
 have h5:0<2 ^ t:=Nat.two_pow_pos t
 rw [e1,e2]
 generalize 10 ^ (-P).toNat=x1 at *
 generalize 10 ^ P.toNat=x2 at *
 generalize 2 ^ (-E).toNat=x3 at *
 generalize 2 ^ E.toNat=x4 at *
 generalize 2 ^ t=x5 at *
 have:=(Nat.mul_lt_mul_right h5).2 h
 have a1:10*(4*(x3*x5))*x1=40*(x1*x3)*x5:=by rw [<- Nat.mul_assoc 10 4]; ac_rfl
 have a2:W*(x4*x5)*x2=W*(x2*x4)*x5:=by ac_rfl
 rw [a1,a2]
 exact this
theorem ba_up {M S m p2:Nat} {E e:Int} {bd:Bool} (b:Base M S m p2 E e bd) (P:Int) (hPv:P=if bd then -((E*631305-261663) / 2097152) else -(E*78913 / 262144)) (c:Nat) (hc:c+loQ M E=4*M+2) (hM1:1 <= M) :
  c*2 ^ (E+1074).toNat*10 ^ P.toNat<10*2 ^ upB*10 ^ (-P).toNat∧(c=3 -> M=4503599627370496):=by
 have hW:=ba_W b
 have hS:=powW_at E b.hE.1 b.hE.2
 unfold powW at hS
 rw [Bool.and_eq_true,decide_eq_true_eq,decide_eq_true_eq] at hS
 obtain ⟨hS1,hS2⟩:=hS
 cases hb:bd
 ·rw [hb] at hW hPv
  simp only [Bool.false_eq_true,if_false] at hW hPv
  have e1 : -P=E*78913 / 262144:=by omega
  rw [<- e1,show -(-P)=P by omega] at hS1
  have h4:c=4:=by clear hS1 hS2; omega
  subst h4
  refine ⟨width_up P E 4 b.hE.1 ?_,fun h=>by cases h⟩
  generalize 10 ^ P.toNat*2 ^ E.toNat=q1 at *
  generalize 10 ^ (-P).toNat*2 ^ (-E).toNat=q2 at *
  clear hS2
  omega
 ·rw [hb] at hW hPv
  simp only [if_true] at hW hPv
  have e1 : -P=(E*631305-261663) / 2097152:=by omega
  rw [<- e1,show -(-P)=P by omega] at hS2
  have h3:c=3:=by clear hS1 hS2; omega
  subst h3
  refine ⟨width_up P E 3 b.hE.1 hS2,fun _ => ?_⟩
  have hbd:=b.hbd
  rw [hb] at hbd
  have hb2:=hbd.symm
  rw [Bool.and_eq_true,decide_eq_true_eq,decide_eq_true_eq] at hb2
  exact hb2.1
theorem pick_one {Am:Nat} (Q Amin Amax o k j:Nat) (hQ:0<Q) (ho:o <= 1) (hA:0<Amax) (hw:Amax<Amin+10*(4*Q))
  (hk:k=if (unr Amin Q+o+3) / 4 <= (unr Amax Q-o) / 4 / 10*10 then (unr Amax Q-o) / 4 / 10*10 else if (unr Amin Q+o+3) / 4<(unr Amax Q-o) / 4 then rnd (unr Am Q) else (unr Amin Q+o+3) / 4)
  (hk2:k*(4*Q) <= Amax)
  (h1:Amin <= 10*j*(4*Q)) (h2:10*j*(4*Q) <= Amax) (h3:o=1 -> Amin<10*j*(4*Q)∧10*j*(4*Q)<Amax) :
  (unr Amin Q+o+3) / 4 <= (unr Amax Q-o) / 4 / 10*10∧k=10*j:=by
 have ho2:o=0∨o=1:=by omega
 have a1:(unr Amin Q+o+3) / 4 <= 10*j:=by
  rcases ho2 with rfl | rfl
  ·exact (r_ceil Amin Q hQ (10*j)).2 h1
  ·exact (r_above Amin Q hQ (10*j)).2 (h3 rfl).1
 have a2:10*j <= (unr Amax Q-o) / 4:=by
  rcases ho2 with rfl | rfl
  ·exact (r_under Amax Q hQ (10*j)).2 h2
  ·exact (r_below Amax Q hQ hA (10*j)).2 (h3 rfl).2
 have c1:(unr Amin Q+o+3) / 4 <= (unr Amax Q-o) / 4 / 10*10:=by omega
 refine ⟨c1,?_⟩
 rw [if_pos c1] at hk
 have h4:k*(4*Q)<(10*j+10)*(4*Q):=by
  rw [Nat.add_mul]
  omega
 have h5:=Nat.lt_of_mul_lt_mul_right h4
 omega
theorem sf_all (M S:Nat) (E:Int) (hM1:1 <= M) (hM2:M<9007199254740992) (hE0 : -1074 <= E) (hE1:E <= 971) (hsub:M<4503599627370496 -> E = -1074) (hS:S=64-Lib.bitLen M) :
    ∃ (k:Nat) (P:Int),-348 <= P∧P <= 348∧(sfR hiT loT ((M*2 ^ S:Nat):Int) (E-S)=((k:Int),-P) ∨ ∃ k':Nat,k=k'*10∧sfR hiT loT ((M*2 ^ S:Nat):Int) (E-S)=((k':Int),-(P-1))) ∧
      loQ M E*2 ^ (E+1074).toNat*10 ^ P.toNat <= k*2 ^ upB*10 ^ (-P).toNat∧k*2 ^ upB*10 ^ (-P).toNat <= (4*M+2)*2 ^ (E+1074).toNat*10 ^ P.toNat ∧
      (M % 2=1 -> loQ M E*2 ^ (E+1074).toNat*10 ^ P.toNat<k*2 ^ upB*10 ^ (-P).toNat∧k*2 ^ upB*10 ^ (-P).toNat<(4*M+2)*2 ^ (E+1074).toNat*10 ^ P.toNat)∧k<100000000000000000 ∧
      (∀ j:Nat,loQ M E*2 ^ (E+1074).toNat*10 ^ P.toNat <= 10*j*2 ^ upB*10 ^ (-P).toNat -> 10*j*2 ^ upB*10 ^ (-P).toNat <= (4*M+2)*2 ^ (E+1074).toNat*10 ^ P.toNat ->
        (M % 2=1 -> loQ M E*2 ^ (E+1074).toNat*10 ^ P.toNat<10*j*2 ^ upB*10 ^ (-P).toNat∧10*j*2 ^ upB*10 ^ (-P).toNat<(4*M+2)*2 ^ (E+1074).toNat*10 ^ P.toNat) ->
        sfR hiT loT ((M*2 ^ S:Nat):Int) (E-S)=((j:Int),-(P-1))):=by
  obtain ⟨o,ho⟩:∃ o,o=M % 2:=⟨_,rfl⟩
  have ho1:o <= 1:=by omega
  obtain ⟨m,p2,e,bd,b⟩:=sf_base M S E hM1 hM2 hE0 hE1 hsub hS
  rw [<- b.hm,<- b.he]
  obtain ⟨P,hP⟩:∃ P,P=sfP (m:Int) e:=⟨_,rfl⟩
  have hPv:=ba_P b
  rw [<- hP] at hPv
  obtain ⟨hP1,hP2,hs5⟩:=ba_rng E P S bd hE0 hE1 b.s11.1 hPv
  have hSd:=ba_S b P hP
  obtain ⟨lp,hlp⟩:∃ lp,lp=P*108853 / 32768:=⟨_,rfl⟩
  obtain ⟨s,hs⟩:∃ s:Nat,(s:Int)=S-3-E-lp:=⟨(S-3-E-lp:Int).toNat,by omega⟩
  have hs58:=(sf_p (m:Int) e (by have:=b.he; have:=b.s11; omega) (by have:=b.he; have:=b.s11; omega)).2.2.2
  rw [<- hlp,<- hs] at hSd hs5
  rw [hSd] at hs58
  obtain ⟨i,hi⟩:∃ i,i=(P+348).toNat:=⟨_,rfl⟩
  have hI:sfI (m:Int) e=i:=by unfold sfI; rw [<- hP,hi]
  obtain ⟨W,hW⟩:∃ W,W=loQ M E:=⟨_,rfl⟩
  have hWv:=ba_W b
  obtain ⟨w1,w2,w3⟩:=loQ_bd M E
  rw [<- hW] at hWv w1 w2 w3 ⊢
  have hi1:56 <= i∧i<673:=by omega
  have hs6:5 <= s∧s<59:=by omega
  obtain ⟨u1,ue1,uv1,ua1,ub1⟩:=ba_u b hM1 i s W hi1.1 hi1.2 hs6.1 hs6.2 w1 (by omega)
  obtain ⟨u2,ue2,uv2,ua2,ub2⟩:=ba_u b hM1 i s (4*M) hi1.1 hi1.2 hs6.1 hs6.2 (by omega) (by omega)
  obtain ⟨u3,ue3,uv3,ua3,ub3⟩:=ba_u b hM1 i s (4*M+2) hi1.1 hi1.2 hs6.1 hs6.2 (by omega) (by omega)
  have hP0 : -348 <= P:=Int.le_trans (by decide) hP1
  have hS2:2 <= S:=Nat.le_trans (by decide) b.s11.1
  have hMn:=ba_Mn b
  have hMx:=ba_Mx b
  have hO:=ba_O b hM2
  have x1:(if bd then m-p2 else m-2*p2)=W*p2:=by
    rw [hWv,b.hm4]
    cases bd
    · simp only [Bool.false_eq_true,if_false]; rw [Nat.sub_mul]
    · simp only [if_true]; rw [Nat.sub_mul,Nat.one_mul]
  have x3:m+2*p2=(4*M+2)*p2:=by rw [b.hm4,Nat.add_mul]
  rw [x1] at hMn
  rw [x3] at hMx
  rw [<- ho] at hO
  have hDn:sfDn hiT loT (m:Int) e=(((u1+o+3) / 4:Nat):Int):=by
    unfold sfDn sfU
    rw [hMn,hO,hI,hSd,Int.toNat_natCast,ue1]
    exact ceil_n u1 o ub1 ho1
  have hDx:sfDx hiT loT (m:Int) e=(((u3-o) / 4:Nat):Int):=by
    unfold sfDx sfU
    rw [hMx,hO,hI,hSd,Int.toNat_natCast,ue3]
    exact floor_n u3 o ub3 ua3 ho1
  have hDm:roundI (sfU hiT loT (m:Int) e (m:Int))=(rnd u2:Int):=by
    unfold sfU
    rw [hI,hSd,Int.toNat_natCast]
    have:usI m (hiT i) (loT i) (s:Int)=(u2:Int):=by rw [b.hm4]; exact ue2
    rw [this]
    exact round_eq u2 ub2
  obtain ⟨Q,hQ⟩:∃ Q,Q=dT i*2 ^ (128+s):=⟨_,rfl⟩
  rw [<- hQ] at uv1 uv2 uv3
  have hQ0:0<Q:=by rw [hQ]; exact Nat.mul_pos (dT_pos i) (Nat.two_pow_pos _)
  have hn0:0<nT i:=by
    unfold nT
    split
    · exact Nat.mul_pos (Nat.pow_pos (by decide)) (Nat.two_pow_pos _)
    · exact Nat.two_pow_pos _
  have hp0:0<p2:=by rw [b.hp2]; exact Nat.two_pow_pos _
  have hpn:0<p2*nT i:=Nat.mul_pos hp0 hn0
  have sc:=fun k W'=>scale_id P E hP0 i hi lp hlp hE0 S s hS2 hs k W'
  rw [<- hQ,<- b.hp2] at sc
  obtain ⟨c,hc,hc34,hcw,hco⟩:=ba_wd b hM1 P hPv
  obtain ⟨hup,hc3⟩:=ba_up b P hPv c hc hM1
  rw [<- hW] at hc
  have hEz:E=0 -> 2 ^ upB=4*2 ^ (E+1074).toNat:=fun h=>by
    rw [show upB=(E+1074).toNat+2 by rw [h]; rfl,Nat.pow_add,Nat.mul_comm]
  clear ue1 ue2 ue3 ua1 ua2 ua3 ub1 ub2 ub3 hSd hI hMn hMx hO x1 x3 hs58 hs6 hs5 hPv hWv
  obtain ⟨v,hv⟩:∃ v,v=p2*nT i:=⟨_,rfl⟩
  have hA:∀ V,V*p2*nT i=V*v:=fun V=>by rw [hv]; exact Nat.mul_assoc _ _ _
  have hv0:0<v:=by rw [hv]; exact hpn
  simp only [hA] at uv1 uv2 uv3 sc
  obtain ⟨T1,hT1⟩:∃ T,T=2 ^ (E+1074).toNat:=⟨_,rfl⟩
  obtain ⟨T2,hT2⟩:∃ T,T=10 ^ P.toNat:=⟨_,rfl⟩
  obtain ⟨T3,hT3⟩:∃ T,T=10 ^ (-P).toNat:=⟨_,rfl⟩
  obtain ⟨T4,hT4⟩:∃ T,T=2 ^ upB:=⟨_,rfl⟩
  rw [<- hT1,<- hT2,<- hT3,<- hT4] at sc
  rw [<- hT1,<- hT2,<- hT3,<- hT4] at hcw hco hup
  rw [<- hT1,<- hT4] at hEz
  have hP348:P <= 348:=Int.le_trans hP2 (by decide)
  obtain ⟨dn,hdn⟩:∃ d,d=(u1+o+3) / 4:=⟨_,rfl⟩
  obtain ⟨dx,hdx⟩:∃ d,d=(u3-o) / 4:=⟨_,rfl⟩
  rw [<- hdn] at hDn
  rw [<- hdx] at hDx
  obtain ⟨k,hk⟩:∃ k,k=if dn <= dx / 10*10 then dx / 10*10 else if dn<dx then rnd u2 else dn:=⟨_,rfl⟩
  refine ⟨k,P,hP0,hP348,?_⟩
  rw [<- hT1,<- hT2,<- hT3,<- hT4]
  have hT00:P=0 -> T2=1∧T3=1:=fun h=>by rw [hT2,hT3,h]; exact ⟨rfl,rfl⟩
  clear hT1 hT2 hT3 hT4 hv hpn hp0 hn0 hQ hP1 hP2 hi1 hs hlp hi
  have hMv:4*M*v=4*(M*v):=Nat.mul_assoc _ _ _
  have hMv2:(4*M+2)*v=4*(M*v)+2*v:=by rw [Nat.add_mul,hMv]
  have hcv:c*v+W*v=4*(M*v)+2*v:=by rw [<- Nat.add_mul,hc,hMv2]
  have hcv34:c*v=3*v∨c*v=4*v:=by rcases hc34 with rfl | rfl <;> simp
  have hWpos:0<W*v:=Nat.mul_pos (by omega) hv0
  have hq4:4*Q <= c*v:=by
    obtain ⟨α,β,a0,b0,q1,q2⟩:=sc 1 c
    rw [Nat.one_mul (4*Q)] at q1
    exact (le_scaled a0 b0 q1 q2).2 hcw
  have hq40:c*v<10*(4*Q):=by
    obtain ⟨α,β,a0,b0,q1,q2⟩:=sc 10 c
    exact (lt_scaled a0 b0 q2 q1).2 hup
  have hR1:dn <= dx / 10*10 -> sfR hiT loT (m:Int) e=(((dx / 10:Nat):Int),-(P-1)):=fun c1=>by
    unfold sfR
    rw [hDn,hDx,hDm,<- hP,if_pos (by omega),Int.natCast_ediv]
    rfl
  have hpick:=pick Q (W*v) (4*M*v) ((4*M+2)*v) o hQ0 ho1 hWpos (by omega) (by omega) (by omega) (by omega) (fun h=>by
    obtain ⟨hc4,hor⟩:=hco (by omega)
    rcases hor with h1 | ⟨h1,h2⟩
    · left
      obtain ⟨α,β,a0,b0,q1,q2⟩:=sc 1 4
      rw [Nat.one_mul (4*Q)] at q1
      have:=(lt_scaled a0 b0 q1 q2).2 h1
      rw [hc4] at hcv
      omega
    · right
      refine ⟨M,?_⟩
      obtain ⟨α,β,a0,b0,q1,q2⟩:=sc M (4*M)
      obtain ⟨t2,t3⟩:=hT00 h2
      have he:M*T4*T3=4*M*T1*T2:=by
        rw [hEz h1,t2,t3,Nat.mul_one,Nat.mul_one,<- Nat.mul_assoc,Nat.mul_comm M 4]
      have l1:=(le_scaled a0 b0 q1 q2).2 (Nat.le_of_eq he)
      have l2:=(le_scaled a0 b0 q2 q1).2 (Nat.le_of_eq he.symm)
      omega) k (by rw [hk,hdn,hdx,uv1,uv2,uv3])
  obtain ⟨⟨k1,k2⟩,k3⟩:=hpick
  have t1:W*T1*T2 <= k*T4*T3:=by
    obtain ⟨α,β,a0,b0,q1,q2⟩:=sc k W
    exact (le_scaled a0 b0 q2 q1).1 k1
  have t2:k*T4*T3 <= (4*M+2)*T1*T2:=by
    obtain ⟨α,β,a0,b0,q1,q2⟩:=sc k (4*M+2)
    exact (le_scaled a0 b0 q1 q2).1 k2
  refine ⟨?_,t1,t2,fun h => ?_,?_,fun j j1 j2 j3 => ?_⟩
  · unfold sfR
    rw [hDn,hDx,hDm,<- hP,hk]
    by_cases c1:dn <= dx / 10*10
    · right
      rw [if_pos c1,if_pos (by omega)]
      exact ⟨dx / 10,rfl,by rw [Int.natCast_ediv]; rfl⟩
    · left
      rw [if_neg c1,if_neg (by omega)]
      by_cases c2:dn<dx
      · rw [if_pos c2,if_pos (by omega)]
      · rw [if_neg c2,if_neg (by omega)]
  · obtain ⟨k4,k5⟩:=k3 (by omega)
    refine ⟨?_,?_⟩
    · obtain ⟨α,β,a0,b0,q1,q2⟩:=sc k W
      exact (lt_scaled a0 b0 q2 q1).1 k4
    · obtain ⟨α,β,a0,b0,q1,q2⟩:=sc k (4*M+2)
      exact (lt_scaled a0 b0 q1 q2).1 k5
  · apply Nat.lt_of_mul_lt_mul_right (a:=4*Q)
    rcases hc34 with rfl | rfl
    · have hM:=hc3 rfl
      rw [hM] at hMv2 k2
      omega
    · have h9:M*v <= 9007199254740991*v:=Nat.mul_le_mul_right _ (by omega)
      omega
  · obtain ⟨α,β,a0,b0,q1,q2⟩:=sc (10*j) W
    obtain ⟨α',β',a0',b0',q1',q2'⟩:=sc (10*j) (4*M+2)
    obtain ⟨o1,o2⟩:=pick_one (Am:=4*M*v) Q (W*v) ((4*M+2)*v) o k j hQ0 ho1 (by omega) (by omega) (by rw [hk,hdn,hdx,uv1,uv2,uv3]) k2
      ((le_scaled a0 b0 q2 q1).2 j1) ((le_scaled a0' b0' q1' q2').2 j2) (fun h=>by
        obtain ⟨l1,l2⟩:=j3 (by omega)
        exact ⟨(lt_scaled a0 b0 q2 q1).2 l1,(lt_scaled a0' b0' q1' q2').2 l2⟩)
    rw [<- uv1,<- uv3,<- hdn,<- hdx] at o1
    rw [hR1 o1]
    rw [if_pos o1] at hk
    rw [show dx / 10=j by omega]
end Go.Proofs.YtejmbbkklhpnaaaGreatDoor.fpm

/- ftoa64 on its shortest road for 'e'. No conditions but those stated. -/
namespace Go.Proofs.YtejmbbkklhpnaaaGreatDoor.prnw
open Go.RowKit
open Go.Shelf
open Go.Sort
open qt
open Go.BigFrame
open nodew
open chkw
theorem fbits_run (x:Nat) (w:World):(callFunc 128 #[.float .f64 x]).run Tryz.prog w = .ok (.value (.int .u64 x)) w:=by
 rw [@run_callFunc_extern Tryz.prog 128 _ Extern.MathFloatBits.float64bits Tryz.func128 (by kernel_rfl) (by kernel_rfl) (by kernel_rfl) (by kernel_rfl)]
 rfl
attribute [local go_sem] fbits_run
def ftR (hi lo:Nat -> Nat) (X:Nat):Int × Int:=sfR hi lo ((ftM X*2 ^ (64-Lib.bitLen (ftM X)):Nat):Int) (ftE X-((64-Lib.bitLen (ftM X):Nat):Int)-52)
def ftT (hi lo:Nat -> Nat) (X:Nat):List UInt8:=efgT (sdH (ftR hi lo X).1.toNat) (sdL (ftR hi lo X).1.toNat) ((Lib.nDigits (ftR hi lo X).1.toNat:Nat)+(ftR hi lo X).2)
def FtPost (w:World) (base:Nat) (t:List UInt8) (x:Ending) (w':World):Prop :=
 ∃ g cap,x = .returned (.slice (some ⟨g,0,none⟩) t.length cap)∧Buf w' base g cap t∧Below base w w'
def Tabs (hi lo:Nat -> Nat) (w:World):Prop:=PT hi lo w∧(∀ i,i<696 -> 9223372036854775808 <= hi i∧hi i<18446744073709551616)∧Lib.TabIs Tryz.prog w "internal/strconv.uint64pow10" .u64 Lib.pow10Tab
theorem tab_below {w w':World} {B:Nat} (h:Lib.TabIs Tryz.prog w "internal/strconv.uint64pow10" .u64 Lib.pow10Tab) (hg:Below B w w') (hB : 7 < B):Lib.TabIs Tryz.prog w' "internal/strconv.uint64pow10" .u64 Lib.pow10Tab:=by
 have hgn : Tryz.prog.globalNamed "internal/strconv.uint64pow10" = some 7 := by kernel_rfl
 unfold Lib.TabIs World.var? at h ⊢
 rw [hgn] at h ⊢
 simp only [Option.bind_some] at h ⊢
 rw [hg.block 7 hB]
 exact h
theorem sl_run (b:Nat) (w:World):(Instr.sliceAt 183 (.pointer (some ⟨b,0,none⟩)) none none none).run Tryz.prog w = .ok (.slice (some ⟨b,0,none⟩) 32 32) w:=by
 simp [Instr.sliceAt,go_sem]
theorem exec_sl {o:Oper} (x:Operand) (ho:o.op = .slice 183 x none none none) (a:Act) (b:Nat) (hx:a.eval x = .pointer (some ⟨b,0,none⟩)) (w:World):(execOp a.eval o).run Tryz.prog w = .ok (.value (.slice (some ⟨b,0,none⟩) 32 32)) w:=by
 unfold execOp
 simp only [ho,hx,Sem.run_bind,Option.map_none,sl_run,Result.andThen_ok,Sem.run_pure]
theorem callFunc_enter {f:FuncId} {fn:Func} {c:Code} (hf : Tryz.prog.funcs[f]? = some fn) (hname:(fn.name == "runtime.NumGoroutine")=false) (hb:fn.body=some c) (args:Array Value) (w:World) :
  (callFunc f args).run Tryz.prog w = .ok (.enter f args) w:=by
 have h1:fn.name ≠ "runtime.NumGoroutine" := by simpa using hname
 simp [callFunc,hf,h1,hb]
theorem exec_call {o:Oper} (f:FuncId) (xs:Array Operand) (ats:Array TypeId) (ho:o.op = .call { callee:=.value (.func f),args:=xs,argTypes:=ats }) (a:Act) (args:Array Value) (ha : #[] ++ xs.map a.eval ++ #[]=args) (w:World)
  (hr:(callFunc f args).run Tryz.prog w = .ok (.enter f args) w):(execOp a.eval o).run Tryz.prog w = .ok (.enter f args) w:=by
 obtain ⟨dst,op,ty,pos,after,guard⟩:=o
 simp only at ho
 subst ho
 rw [execOp_call_go,ha]
 exact hr
theorem nd_enter (args:Array Value) (w:World):(callFunc 135 args).run Tryz.prog w = .ok (.enter 135 args) w:=callFunc_enter Tryz.func135 (by kernel_rfl) rfl args w
theorem sd_enter (args:Array Value) (w:World):(callFunc 134 args).run Tryz.prog w = .ok (.enter 134 args) w:=callFunc_enter Tryz.func134 (by kernel_rfl) rfl args w
theorem exec_nd {o:Oper} (x:Operand) (ats:Array TypeId) (ho:o.op = .call { callee:=.value (.func 135),args:=#[x],argTypes:=ats }) (a:Act) (vx:Value) (hx:a.eval x=vx) (w:World):(execOp a.eval o).run Tryz.prog w = .ok (.enter 135 #[vx]) w :=
 exec_call _ #[x] ats ho a #[vx] (by simp [hx]) w (nd_enter _ w)
theorem exec_sd {o:Oper} (x1 x2 x3 x4:Operand) (ats:Array TypeId) (ho:o.op = .call { callee:=.value (.func 134),args:=#[x1,x2,x3,x4],argTypes:=ats }) (a:Act) (v1 v2 v3 v4:Value) (h1:a.eval x1=v1) (h2:a.eval x2=v2) (h3:a.eval x3=v3) (h4:a.eval x4=v4) (w:World):(execOp a.eval o).run Tryz.prog w = .ok (.enter 134 #[v1,v2,v3,v4]) w :=
 exec_call _ #[x1,x2,x3,x4] ats ho a #[v1,v2,v3,v4] (by simp [h1,h2,h3,h4]) w (sd_enter _ w)
theorem goUpon_call {P:Program} {C:World -> Prop} {o:Oper} {a:Act} {K:Act -> World -> Prop} {r:Result Next} (f:FuncId) (args:Array Value) (w':World) (hr:r = .ok (.enter f args) w') (h:Calls P f args w' fun e w''=>∃ v,e = .returned v∧C w''∧K (a.put o.dst v) w''):goUpon P C o a K r:=by
 rw [hr]; exact h
structure Tb where
 val:World
 tab:Lib.TabIs Tryz.prog val "internal/strconv.uint64pow10" .u64 Lib.pow10Tab
set_option maxRecDepth 100000 in
set_option maxHeartbeats 1000000 in
theorem ftoa_any (hi lo:Nat -> Nat) (X:Nat) (hX0:0<X) (hX:X<9218868437227405312) (base g cap:Nat) (w:World) (hT:Tabs hi lo w) (hTn : 8 < base) (hB:Buf w base g cap []) (hbs:base <= w.heap.size) :
  Calls Tryz.prog 99 #[.slice (some ⟨g,0,none⟩) 0 cap,.float .f64 X,.int .u8 101,.int .i64 (-1)] w (FtPost w base (ftT hi lo X)):=by
 have HT:=Lib.hid (And.intro hT (And.intro hTn (And.intro hB hbs)))
 have HX:=Lib.hid (And.intro hX0 hX)
 have a1:=and_mask .i64 (.inl rfl) (X / 4503599627370496) 11 (by omega) (by decide)
 have a2:=and_mask .u64 (.inr rfl) X 52 (by omega) (by decide)
 have a3:=or_top (X % 4503599627370496) (by omega)
 have x63:(X:Int) / 9223372036854775808=0:=by omega
 obtain ⟨Eb,hEb⟩:∃ Eb,X / 4503599627370496=Eb:=⟨_,rfl⟩
 obtain ⟨Mb,hMb⟩:∃ Mb,X % 4503599627370496=Mb:=⟨_,rfl⟩
 have e1:(X:Int) / 4503599627370496=(Eb:Int):=by omega
 have e2:Eb <= 2046:=by omega
 have e3:((Eb:Int) == 2047)=false:=by rw [beq_eq_false_iff_ne]; omega
 have e4:(0:Int) <= (Eb:Int):=by omega
 have e5:(Eb:Int) <= 2046:=by omega
 rw [hEb,show Eb % 2 ^ 11=Eb from Nat.mod_eq_of_lt (by omega)] at a1
 rw [show X % 2 ^ 52=Mb from hMb] at a2
 rw [hMb] at a3
 have a1':bits BinOp.and IntKind.i64 (Eb:Int) 2047=(Eb:Int):=a1
 have a2':bits BinOp.and IntKind.u64 (X:Int) 4503599627370495=(Mb:Int):=a2
 have hm:Mb<4503599627370496:=by omega
 have HE:=Lib.hid (And.intro hEb hMb)
 have HA3:=Lib.hid a3
 have HM:=Lib.hid hm
 clear hT hTn hB hbs a1 a2 a3 hX0 hX hEb hMb hm
 go_enter Tryz.func99,Tryz.ntmps99
 go_wp2_with fail
 go_quiet (fail)
 clear a1'
 go_upto_if 78 with (fail)
 obtain ⟨M,hM⟩:∃ M,M=ftM X:=⟨_,rfl⟩
 obtain ⟨E1,hE1⟩:∃ E1,E1=ftE X+1023:=⟨_,rfl⟩
 have HM1:=Lib.hid hM
 have HE1:=Lib.hid hE1
 clear hM hE1 a2' x63
 go_cut [14,15] from 78 to 84 (fun s14 s15 wx=>s14 = .int .i64 E1∧s15 = .int .u64 (M:Int)∧wx=w.drewN nq)
 case first =>
  have h1:=HM1.out
  have h2:=HE1.out
  unfold ftM at h1
  unfold ftE at h2
  rw [HE.out.1,HE.out.2] at h1
  rw [HE.out.1] at h2
  by_cases h0:Eb=0
  ·rw [if_pos h0] at h1 h2
   have d1:((Eb:Int) == 0)=true:=by rw [beq_iff_eq]; omega
   have K1:=Lib.hid h1
   have K2:=Lib.hid (show E1=(Eb:Int)+1 by omega)
   clear h1 h2 h0
   go_wp2_with fail
   go_meet
   exact ⟨by rw [K2.out],by rw [K1.out],rfl⟩
  ·rw [if_neg h0] at h1 h2
   have d1:((Eb:Int) == 0)=false:=by rw [beq_eq_false_iff_ne]; omega
   have K1:=Lib.hid h1
   have K2:=Lib.hid (show E1=(Eb:Int) by omega)
   clear h1 h2 h0
   go_wp2_with fail
   go_meet
   exact ⟨by rw [K2.out],by rw [K1.out,<- HA3.out],rfl⟩
 case rest =>
  obtain ⟨rfl,rfl,rfl⟩:=hcut
  have mb:=ftM_pos X HX.out.1
  rw [<- HM1.out] at mb
  obtain ⟨sl0,sl1,sl2,sl3⟩:=shl_bd M mb.1 mb.2
  have hEr : -1022 <= ftE X∧ftE X <= 1023:=by
   unfold ftE
   rw [HE.out.1]
   split <;> omega
  have hE0:=HE1.out
  obtain ⟨S,hS⟩:∃ S:Nat,S=64-Lib.bitLen M:=⟨_,rfl⟩
  obtain ⟨m,hm⟩:∃ m:Nat,m=M*2 ^ S:=⟨_,rfl⟩
  obtain ⟨BL,hBL⟩:∃ BL,Lib.bitLen M=BL:=⟨_,rfl⟩
  have CL:=fun W => Tryz.bits_Len64 (M:Int) W (by omega) (by omega)
  rw [Int.toNat_natCast,hBL] at CL
  rw [hBL] at hS sl0 sl1 sl2 sl3
  rw [<- hS,<- hm] at sl2 sl3
  have s1:(64:Int)-(BL:Int)=(S:Int):=by omega
  have s2:(S:Int) <= 63:=by omega
  have s3:(0:Int) <= (S:Int):=by omega
  have b0:(0:Int) <= (BL:Int):=by omega
  have b1:(BL:Int) <= 53:=by omega
  have hmw:IntKind.u64.wrap ((M:Int)*2 ^ S)=(m:Int):=by
   have e2:((2:Int) ^ S)=((2 ^ S:Nat):Int):=by norm_cast
   have e3:(M:Int)*((2 ^ S:Nat):Int)=(m:Int):=by rw [hm]; norm_cast
   rw [e2,e3,IntKind.wrap_u64]
   omega
  have E0:1 <= E1:=by omega
  have E9:E1 <= 2046:=by omega
  have mB:((M:Int) == 0)=false:=by rw [beq_eq_false_iff_ne]; omega
  have CL2:=Lib.hid CL
  have HSL:=Lib.hid (And.intro sl2 sl3)
  have HSS:=Lib.hid (And.intro hS (And.intro hm hBL))
  have HER:=Lib.hid hEr
  have HE0:=Lib.hid hE0
  obtain ⟨W0,hW0⟩:∃ W0,W0=w.drewN nq:=⟨_,rfl⟩
  have HW0:=Lib.hid hW0
  rw [<- hW0]
  clear CL sl0 sl1 sl2 sl3 hS hm hBL hEr hE0 mb hW0
  obtain ⟨W1,hW1⟩:∃ W1,W1=W0.alloc (.cells (List.replicate 32 (bV 0)).toArray 183):=⟨_,rfl⟩
  have hW1s:W1.heap.size=W0.heap.size+1:=by rw [hW1]; simp
  have hW1b:Below W0.heap.size W0 W1:=by rw [hW1]; exact (Below.refl _ _).alloc (Nat.le_refl _) _
  have hW1n:W1.heap[W0.heap.size]? = some (.cells (List.replicate 32 (bV 0)).toArray 183 (0,0)):=by rw [hW1]; exact heap_alloc_new W0 _
  have HW1:=Lib.hid hW1
  have HWP:=Lib.hid (And.intro hW1s (And.intro hW1b hW1n))
  clear hW1 hW1s hW1b hW1n
  go_upto_region 37 with (first | (go_at_call 132; (with_reducible refine (CL2.out _).mono ?_); rintro e w' ⟨rfl,hw'⟩; obtain rfl:=hw'.symm) | (rw [show W0.alloc (.cells #[.int .u8 0,.int .u8 0,.int .u8 0,.int .u8 0,.int .u8 0,.int .u8 0,.int .u8 0,.int .u8 0,.int .u8 0,.int .u8 0,.int .u8 0,.int .u8 0,.int .u8 0,.int .u8 0,.int .u8 0,.int .u8 0,.int .u8 0,.int .u8 0,.int .u8 0,.int .u8 0,.int .u8 0,.int .u8 0,.int .u8 0,.int .u8 0,.int .u8 0,.int .u8 0,.int .u8 0,.int .u8 0,.int .u8 0,.int .u8 0,.int .u8 0,.int .u8 0] 183)=W1 from HW1.out.symm]))
  have hsl:=HSL.out
  have hss:=HSS.out
  have he0:=HE0.out
  have her:=HER.out
  have CS:∀ W:World,PT hi lo W -> 8 < W.heap.size -> Calls Tryz.prog 141 #[.int .u64 (m:Int),.int .i64 (E1 + -1023-(S:Int)-52)] W (SfPost W (ftR hi lo X)):=fun W hp hn=>by
   have:=short_any hi lo m (E1 + -1023-(S:Int)-52) hsl.1 hsl.2 (by omega) (by omega) W hp hn
   unfold ftR
   rw [<- HM1.out,hss.2.2,<- hss.1,<- hss.2.1,show ftE X-(S:Int)-52=E1 + -1023-(S:Int)-52 by omega]
   exact this
  obtain ⟨hT,hTn,hB,hbs⟩:=HT.out
  have hwp:=HWP.out
  have hbw:Below w.heap.size w W0:=by rw [HW0.out]; exact below_drewN' (Below.refl _ _) _
  have hPT1:PT hi lo W1:=fun i hi6=>by
   obtain ⟨a,b,c,d⟩:=hT.1 i hi6
   have hlt : 8 < w.heap.size:=by omega
   exact ⟨a,b,(hwp.2.1.cell (p:=⟨8,i*2,none⟩) (Nat.lt_of_lt_of_le hlt hbw.size)).trans ((hbw.cell hlt).trans c),(hwp.2.1.cell (p:=⟨8,i*2+1,none⟩) (Nat.lt_of_lt_of_le hlt hbw.size)).trans ((hbw.cell hlt).trans d)⟩
  have hsz:=hbw.size
  have cs:=CS W1 hPT1 (by omega)
  have sd:=sf_d hi lo (m:Int) (E1 + -1023-(S:Int)-52) (by omega) (by omega) (by omega) (by omega) hT.2.1
  have hft:ftR hi lo X=sfR hi lo (m:Int) (E1 + -1023-(S:Int)-52):=by
   unfold ftR
   rw [<- HM1.out,hss.2.2,<- hss.1,<- hss.2.1,show ftE X-(S:Int)-52=E1 + -1023-(S:Int)-52 by omega]
  rw [<- hft] at sd
  obtain ⟨U,hU⟩:∃ U:Nat,U=(ftR hi lo X).1.toNat:=⟨_,rfl⟩
  obtain ⟨P,hP⟩:∃ P,P=(ftR hi lo X).2:=⟨_,rfl⟩
  have hU1:(ftR hi lo X).1=(U:Int):=by omega
  unfold SfPost at cs
  rw [hU1,<- hP] at cs
  rw [hU1,<- hP] at sd
  have CSH:=Lib.hid cs
  have SD:=Lib.hid sd
  have HUP:=Lib.hid (And.intro hU hP)
  clear CS cs sd hft hU1 hU hP hPT1 hsl hss he0 her hT hTn hB hbs hwp hbw hsz
  go_upto_region 38 with (go_at_call 141; (with_reducible refine CSH.out.mono ?_); rintro e w2 ⟨rfl,hb2⟩)
  obtain ⟨hT,hTn,hB,hbs⟩:=HT.out
  obtain ⟨hw1,hw2,hw3⟩:=HWP.out
  have hbw:Below w.heap.size w W0:=by rw [HW0.out]; exact below_drewN' (Below.refl _ _) _
  have hz1:=hbw.size
  have hz2:=hb2.size
  have hb12:Below w.heap.size w w2:=(hbw.trans (hw2.mono hz1)).trans (hb2.mono (by omega))
  have htab:Lib.TabIs Tryz.prog w2 "internal/strconv.uint64pow10" .u64 Lib.pow10Tab:=tab_below hT.2.2 hb12 (by omega)
  have hw9 : 7 < w2.heap.size:=by omega
  have sd:=SD.out
  have CND:=fun (u:Tb) => Tryz.internal_strconv_numDigits U (by omega) (by omega) u.1 u.2
  obtain ⟨N,hN⟩:∃ N,Lib.nDigits U=N:=⟨_,rfl⟩
  rw [hN] at CND
  have CN:=Lib.hid CND
  have HN:=Lib.hid hN
  have HBB:=Lib.hid (And.intro hb12 hb2)
  have HTA:=Lib.hid htab
  have NZ:=Lib.hid (And.intro hz1 hz2)
  clear hT hTn hB hbs hw1 hw2 hw3 hbw hz1 hz2 hb12 htab hw9 sd CND hN hb2
  haveI:Nonempty Tb:=⟨⟨w2,HTA.out⟩⟩
  have CN2:∀ u:Tb,Calls Tryz.prog 135 #[.int .u64 (U:Int)] u.1 fun e w''=>e = .returned (.int .i64 (N:Int)) ∧ ∃ u':Tb,w''=u'.1:=fun u=>(CN.out u).mono fun e w'' h=>⟨h.1,u,h.2⟩
  have CN3:=Lib.hid CN2
  clear CN2
  refine region_reads (C:=fun w'=>∃ u:Tb,w'=u.1) [1,2,3] 8 (by kernel_rfl) (by kernel_rfl) ⟨⟨w2.drew,HTA.out⟩,rfl⟩ ?_
  simp only [List.filterMap_cons,List.filterMap_nil,List.getElem?_cons_zero,List.getElem?_cons_succ]
  change wpQuiet _ _ _ _ (_ :: _ :: _ :: []) _
  go_big_quiet_step (fail)
  go_big_quiet_step (fail)
  go_big_quiet_step (fail)
  refine wpQuiet_nil ?_
  obtain ⟨q,hq⟩:∃ q,(sdL U).length=q:=⟨_,rfl⟩
  obtain ⟨Dp,hDp⟩:∃ Dp,(Lib.nDigits U:Nat)+P=Dp:=⟨_,rfl⟩
  have hq20:q <= 19:=by
   have h1:=sdL_len U (by have:=SD.out.1; omega)
   have h2:=trim_le U (Lib.nDigits U)
   have h3:=Lib.nDigits_le20 U (by have:=SD.out.2.1; omega)
   omega
  have HD9:Calls Tryz.prog 134 #[.slice (some ⟨W0.heap.size,0,none⟩) 32 32,.int .u64 (U:Int),.int .i64 P,.int .i64 (N:Int)] w2.drew fun x w'=>x = .returned (.tuple #[.int .i64 Dp,.int .i64 ((q:Int)+1)]) ∧
    (∀ t,t<Lib.nDigits U -> w'.cell? ⟨W0.heap.size,t,none⟩=some (bV (Lib.dg U (Lib.nDigits U-1-t))))∧w2.drew.grownBy w' (some W0.heap.size):=by
   rw [<- HN.out]
   obtain ⟨sd1,sd2,sd3,sd4⟩:=SD.out
   obtain ⟨hw1,hw2,hw3⟩:=HWP.out
   have hbl:w2.drew.heap[W0.heap.size]? = some (.cells (List.replicate 32 (bV 0)).toArray 183 (0,0)):=((HBB.out.2.block _ (by omega)).trans hw3)
   have:=setd_any W0.heap.size U P (by omega) (by omega) (by omega) (by omega) w2.drew fun j hj=>by
    have hj':j<32:=by simpa using hj
    have hbl2:w2.heap[W0.heap.size]? = some (.cells (List.replicate 32 (bV 0)).toArray 183 (0,0)):=hbl
    refine ⟨?_,?_⟩
    ·rw [Nat.zero_add,cell_of_row _ _ j _ _ _ hbl,getElem!_pos _ j hj,Array.getElem_replicate,List.getElem?_toArray,List.getElem?_replicate,if_pos hj']
    ·rw [Nat.zero_add]
     simp only [World.frozen?,World.drew,hbl2]
     show (decide (0 <= j) && decide (j<0))=false
     simp
   refine this.mono fun e w' h => ?_
   obtain ⟨h1,h2,h3⟩:=h
   refine ⟨?_,h2,h3⟩
   have hl:=sdL_len U (by omega)
   rw [h1,hDp,<- hl,hq]
   rfl
  have HD:=Lib.hid HD9
  have htd:Lib.TabIs Tryz.prog w2.drew "internal/strconv.uint64pow10" .u64 Lib.pow10Tab:=HTA.out
  have HTD:=Lib.hid htd
  have HQ:=Lib.hid hq
  have HDP:=Lib.hid hDp
  clear HD9 htd hq hDp
  refine anyG_two 0 4 _ _ (by kernel_rfl) rfl rfl rfl rfl ?o1 ?o2
  case' o1 =>
   refine goUpon_val _ _ (exec_sl (.tmp 16) rfl _ _ rfl _) ⟨⟨w2.drew,HTA.out⟩,rfl⟩ ?_
   change anyG _ _ _ _ _ _ _ (Act.put _ (some 140) _) _
   simp only [Act.put,List.setIfInBounds_toArray,List.set_cons_succ,List.set_cons_zero]
   refine anyG_one 4 _ (by kernel_rfl) rfl rfl ?_
   refine goUpon_call _ _ _ (exec_nd (.tmp 143) _ rfl _ (.int .u64 (U:Int)) rfl _) ?_
   (with_reducible refine (CN.out ⟨w2.drew,HTD.out⟩).mono ?_)
   rintro e w' ⟨rfl,hw'⟩
   obtain rfl:=hw'.symm
   refine ⟨_,rfl,⟨⟨w2.drew,HTA.out⟩,rfl⟩,?_⟩
   change anyG _ _ _ _ _ _ _ (Act.put _ (some 144) _) _
   simp only [Act.put,List.setIfInBounds_toArray,List.set_cons_succ,List.set_cons_zero]
  case' o2 =>
   refine goUpon_call _ _ _ (exec_nd (.tmp 143) _ rfl _ (.int .u64 (U:Int)) rfl _) ?_
   (with_reducible refine (CN.out ⟨w2.drew,HTD.out⟩).mono ?_)
   rintro e w' ⟨rfl,hw'⟩
   obtain rfl:=hw'.symm
   refine ⟨_,rfl,⟨⟨w2.drew,HTA.out⟩,rfl⟩,?_⟩
   change anyG _ _ _ _ _ _ _ (Act.put _ (some 144) _) _
   simp only [Act.put,List.setIfInBounds_toArray,List.set_cons_succ,List.set_cons_zero]
   refine anyG_one 0 _ (by kernel_rfl) rfl rfl ?_
   refine goUpon_val _ _ (exec_sl (.tmp 16) rfl _ _ rfl _) ⟨⟨w2.drew,HTA.out⟩,rfl⟩ ?_
   change anyG _ _ _ _ _ _ _ (Act.put _ (some 140) _) _
   simp only [Act.put,List.setIfInBounds_toArray,List.set_cons_succ,List.set_cons_zero]
  all_goals
   refine anyG_one 5 _ (by kernel_rfl) rfl rfl ?_
   refine goUpon_call _ _ _ (exec_sd (.tmp 140) (.tmp 141) (.tmp 142) (.tmp 144) _ rfl _ (.slice (some ⟨W0.heap.size,0,none⟩) 32 32) (.int .u64 (U:Int)) (.int .i64 P) (.int .i64 (N:Int)) rfl rfl rfl rfl _) ?_
   (with_reducible refine HD.out.mono ?_)
   rintro e w3 ⟨rfl,hc3,hg3⟩
   have ht3:Lib.TabIs Tryz.prog w3 "internal/strconv.uint64pow10" .u64 Lib.pow10Tab:=by
    have hz:=HWP.out.1
    have hz2:=NZ.out
    obtain ⟨hT,hTn,hB,hbs⟩:=HT.out
    exact tab_below HTD.out ((Below.refl W0.heap.size w2.drew).grown hg3 (by simp; omega) (fun k e=>by obtain rfl:=Option.some.inj e; exact Nat.le_refl _)) (by omega)
   have HC3:=Lib.hid hc3
   have HG3:=Lib.hid hg3
   have HT3:=Lib.hid ht3
   clear hc3 hg3 ht3
   refine ⟨_,rfl,⟨⟨w3,HT3.out⟩,rfl⟩,?_⟩
   change anyG _ _ _ _ _ _ _ (Act.put _ (some 145) _) _
   simp only [Act.put,List.setIfInBounds_toArray,List.set_cons_succ,List.set_cons_zero]
   refine anyG_reads (f:=0) (by kernel_rfl) ⟨⟨w3,HT3.out⟩,rfl⟩ [6,7,8,9,10] _ _ (by kernel_rfl) ?_
   simp only [List.filterMap_cons,List.filterMap_nil,List.getElem?_toArray,List.getElem?_cons_zero,List.getElem?_cons_succ]
   change wpQuiet _ _ _ _ (_ :: _ :: _ :: _ :: _ :: []) _
   go_big_quiet_step (fail)
   go_big_quiet_step (fail)
   go_big_quiet_step (fail)
   go_big_quiet_step (fail)
   go_big_quiet_step (fail)
   refine wpQuiet_nil ?_
   refine anyG_end (by kernel_rfl) ?_
   simp only [Exit.then]
   have q0:(0:Int) <= (q:Int):=by omega
   have q1:(q:Int) <= 19:=by omega
   have CE:Calls Tryz.prog 131 #[.slice (some ⟨g,0,none⟩) 0 cap,.bool false,.slice (some ⟨W0.heap.size,0,none⟩) 32 32,.int .i64 Dp,.int .i64 ((q:Int)+1),.int .i64 (q:Int),.int .u8 101,.bool true] w3 (EfPost w3 base W0.heap.size (ftT hi lo X)):=by
    obtain ⟨hT,hTn,hB,hbs⟩:=HT.out
    obtain ⟨hw1,hw2,hw3⟩:=HWP.out
    obtain ⟨hz1,hz2⟩:=NZ.out
    obtain ⟨sd1,sd2,sd3,sd4⟩:=SD.out
    have hg9:=hB.lt
    have hgz:=HG3.out.size
    have hws:w2.drew.heap.size=w2.heap.size:=rfl
    have hbw:w.heap.size <= W0.heap.size:=by rw [HW0.out]; simp
    have hd2:Below w.heap.size w w2.drew:=HBB.out.1.drew
    have hB2:Buf w2.drew base g cap []:=World.ownsRow.kept (row:=none) hB ⟨hd2.os,hd2.tape,hd2.output,hd2.size,fun i hi _=>hd2.block i hi⟩ (.inr (fun e=>by cases e))
    have hB3:Buf w3 base g cap []:=World.ownsRow.kept hB2 HG3.out (.inr (fun e=>by have h7:g=W0.heap.size:=Option.some.inj e; omega))
    have hN:=Lib.nDigits_le20 U (by omega)
    have hdp:=HDP.out
    have:=efg_any base W0.heap.size g cap (sdH U) (sdL U) Dp (by omega) (by omega) (by rw [HQ.out]; omega) w3 ⟨hB3,by omega,rfl,Below.refl _ _,by omega,by omega⟩ (fun j b h=>by
     obtain ⟨h1,h2⟩:=sd_at U j b h (by omega)
     rw [HC3.out j h1,h2])
    rw [HQ.out] at this
    have e:ftT hi lo X=efgT (sdH U) (sdL U) Dp:=by
     unfold ftT
     rw [<- HUP.out.1,<- HUP.out.2,hdp]
    rw [e]
    exact this
   have HCE:=Lib.hid CE
   clear CE
   go_wp2_with (go_at_call 131; (with_reducible refine HCE.out.mono ?_); rintro e w4 ⟨g4,c4,rfl,hS4⟩)
   go_ret
   obtain ⟨hT,hTn,hB,hbs⟩:=HT.out
   obtain ⟨hw1,hw2,hw3⟩:=HWP.out
   obtain ⟨hz1,hz2⟩:=NZ.out
   have hbw:w.heap.size <= W0.heap.size:=by rw [HW0.out]; simp
   have hd2:Below base w w2.drew:=HBB.out.1.drew.mono hbs
   exact ⟨g4,c4,rfl,hS4.buf,(hd2.grown HG3.out (by simp; omega) (fun k e=>by obtain rfl:=Option.some.inj e; omega)).trans hS4.below⟩
end Go.Proofs.YtejmbbkklhpnaaaGreatDoor.prnw

/- FormatFloat for 'e', of a positive float. No conditions but those stated. -/
namespace Go.Proofs.YtejmbbkklhpnaaaGreatDoor.prnw
open Go.RowKit
open Go.Shelf
open Go.Sort
open nodew
open chkw
def strV (l:List UInt8):Value:=.string ⟨l.toArray⟩
theorem buf_string {w:World} {base g cap:Nat} {l:List UInt8} (h:Buf w base g cap l):(convert 23 9 (.slice (some ⟨g,0,none⟩) l.length cap)).run Tryz.prog w = .ok (.string ⟨l.toArray⟩) w:=by
 refine run_convert_bytes_back w 23 9 5 ⟨g,0,none⟩ cap l (by kernel_rfl) (by kernel_rfl) (by kernel_rfl) fun j hj => ?_
 refine World.ownsRow.cells h rfl j _ ?_
 rw [List.getElem?_map,List.getElem?_eq_getElem hj]
 rfl
theorem mk_u8 (w:World):(Instr.makeSlice 23 (.int .i64 0) (.int .i64 24)).run Tryz.prog w = .ok (.slice (some ⟨w.heap.size,0,none⟩) 0 24) (w.alloc (.cells (List.replicate 24 (bV 0)).toArray 5)):=by
 obtain ⟨i,hi,hz,h1,h2⟩:=info_parts u8Info
 have:=run_makeSlice (P:=Tryz.prog) w 23 5 i _ Tryz.underlying23 hi hz .i64 .i64 0 24 (by omega) (by omega) (by rw [h1]; omega) (by rw [h2]; omega) (by omega)
 rw [this,h1]
 have e:madeCells (Value.int IntKind.u8 0).cells (Int.toNat 24*1)=(List.replicate 24 (bV 0)).toArray:=by kernel_rfl
 rw [e]
 rfl
def TxPost (w:World) (t:List UInt8) (x:Ending) (w':World):Prop:=x = .returned (strV t)∧Below w.heap.size w w'
set_option maxRecDepth 100000 in
set_option maxHeartbeats 1000000 in
theorem ifmt_any (hi lo:Nat -> Nat) (X:Nat) (hX0:0<X) (hX:X<9218868437227405312) (w:World) (hT:Tabs hi lo w) (hTn : 8 < w.heap.size) :
  Calls Tryz.prog 71 #[.float .f64 X,.int .u8 101,.int .i64 (-1),.int .i64 64] w (TxPost w (ftT hi lo X)):=by
 obtain ⟨W1,hW1⟩:∃ W1,W1=w.alloc (.cells (List.replicate 24 (bV 0)).toArray 5):=⟨_,rfl⟩
 have hmk:=mk_u8 w
 rw [<- hW1] at hmk
 have hb:Buf W1 w.heap.size w.heap.size 24 []:=by rw [hW1]; exact World.ownsRow_made w _ 24 (Nat.le_refl _) (by unfold maxLen; omega) (by simp)
 have hB1:Below w.heap.size w W1:=by rw [hW1]; exact (Below.refl _ _).alloc (Nat.le_refl _) _
 have hT1:Tabs hi lo W1:=by
  refine ⟨fun i h6 => ?_,hT.2.1,tab_below hT.2.2 hB1 (by omega)⟩
  obtain ⟨a,b,c,d⟩:=hT.1 i h6
  exact ⟨a,b,(hB1.cell hTn).trans c,(hB1.cell hTn).trans d⟩
 have C:=Lib.hid (ftoa_any hi lo X hX0 hX w.heap.size w.heap.size 24 W1 hT1 hTn hb hB1.size)
 have HM:=Lib.hid hmk
 have HB:=Lib.hid hB1
 clear hW1 hmk hb hB1 hT1 hT hTn hX0 hX
 go_enter Tryz.func71,Tryz.ntmps71
 have hmk:(Instr.makeSlice 23 (.int .i64 0) (.int .i64 (max 3 24))).run Tryz.prog w = .ok (.slice (some ⟨w.heap.size,0,none⟩) 0 24) W1:=HM.out
 go_wp2_with (go_at_call 99; (with_reducible refine C.out.mono ?_); rintro e w2 ⟨g,c,rfl,hb2,hbl⟩; have hcv:=buf_string hb2)
 go_ret
 exact ⟨rfl,HB.out.trans hbl⟩
theorem fmt_any (hi lo:Nat -> Nat) (X:Nat) (hX0:0<X) (hX:X<9218868437227405312) (w:World) (hT:Tabs hi lo w) (hTn : 8 < w.heap.size) :
  Calls Tryz.prog 39 #[.float .f64 X,.int .u8 101,.int .i64 (-1),.int .i64 64] w (TxPost w (ftT hi lo X)):=by
 have C:=Lib.hid (ifmt_any hi lo X hX0 hX w hT hTn)
 clear hT hTn hX0 hX
 go_enter Tryz.func39,Tryz.ntmps39
 go_wp2_with (go_at_call 71; (with_reducible refine C.out.mono ?_); rintro e w2 ⟨rfl,hb2⟩)
 go_ret
 exact ⟨rfl,hb2⟩
end Go.Proofs.YtejmbbkklhpnaaaGreatDoor.prnw

/- decimal.laid: digits by a place of the point. No conditions but those stated. -/
namespace Go.Proofs.YtejmbbkklhpnaaaGreatDoor.prnw
open Go.RowKit
open Go.Shelf
open Go.Sort
open nodew
open chkw
theorem str_ext {S T:ByteArray} (h:S.data.toList=T.data.toList):S=T:=ByteArray.ext (Array.toList_inj.1 h)
theorem str_app (S T:ByteArray):(S ++ T).data.toList=S.data.toList ++ T.data.toList:=by simp
theorem str_mk (l:List UInt8):(⟨l.toArray⟩:ByteArray).data.toList=l:=by simp
theorem str_head (S:ByteArray) (c:Nat):(S.extract 0 c).data.toList=S.data.toList.take c:=by rw [Lib.extract_data]; simp
theorem str_tail (S:ByteArray) (c:Nat):(S.extract c S.size).data.toList=S.data.toList.drop c:=by
 rw [Lib.extract_data]
 exact List.take_of_length_le (by rw [List.length_drop]; simp)
theorem ret_str {S:ByteArray} {l:List UInt8} (h:S.data.toList=l):Ending.returned (.string S) = .returned (strV l):=by
 rw [<- h]
 rfl
def laidT (D:List UInt8) (k:Int):List UInt8 :=
 if 1 <= k∧k <= 15 then
  if (D.length:Int) <= k then D ++ Lib.repeatL [48] (k-D.length).toNat
  else D.take k.toNat ++ [46] ++ D.drop k.toNat
 else if -4 <= k∧k <= 0 then [48,46] ++ Lib.repeatL [48] (-k).toNat ++ D
 else (if 1<D.length then D.take 1 ++ [46] ++ D.drop 1 else D) ++ [101] ++ Lib.itoa (k-1)
theorem below_grow (w:World) (k:Nat) (os:Array Obj):Below w.heap.size w (grow (w.drewN k) os) :=
 ⟨rfl,rfl,rfl,by simp [grow],fun i hi=>by
  show (w.heap ++ os)[i]? = w.heap[i]?
  exact Array.getElem?_append_left hi⟩
theorem rep_c (c:Nat) (hc:c <= 400) (W:World):Calls Tryz.prog 74 #[.string ⟨#[48]⟩,.int .i64 c] W fun e w'=>(∃ R:ByteArray,R.size <= 400∧R.data.toList=Lib.repeatL [48] c∧e = .returned (.string R))∧Below W.heap.size W w':=by
 refine (Tryz.strings_Repeat ⟨#[48]⟩ c W (by omega) (by show 1*c <= _; omega)).mono fun e w' h => ?_
 refine ⟨⟨⟨(Lib.repeatL [48] c).toArray⟩,?_,str_mk _,h.1⟩,h.2⟩
 show (Lib.repeatL [48] c).toArray.size <= 400
 rw [List.size_toArray,Lib.repeatL_length]
 simpa using hc
theorem itoa_c (k:Int) (k0 : -4000 <= k) (k1:k <= 4999) (W:World) (htab:Lib.TabIs Tryz.prog W "internal/strconv.uint64pow10" .u64 Lib.pow10Tab):Calls Tryz.prog 75 #[.int .i64 k] W fun e w'=>(∃ R:ByteArray,R.size <= 400∧R.data.toList=Lib.itoa k∧e = .returned (.string R))∧Below W.heap.size W w':=by
 refine (Tryz.strconv_Itoa k (by omega) (by omega) W htab).mono fun e w' h => ?_
 obtain ⟨he,n,os,hw⟩:=h
 refine ⟨⟨⟨(Lib.itoa k).toArray⟩,?_,str_mk _,he⟩,by rw [hw]; exact below_grow W n os⟩
 show (Lib.itoa k).toArray.size <= 400
 rw [List.size_toArray]
 exact Nat.le_trans (Lib.itoa_length_le k (by omega) (by omega)) (by decide)
set_option maxRecDepth 100000 in
set_option maxHeartbeats 1000000 in
theorem laid_any (S:ByteArray) (k:Int) (hn1:1 <= S.size) (hn:S.size <= 24) (k0 : -400 <= k) (k1:k <= 400) (w:World) (htab:Lib.TabIs Tryz.prog w "internal/strconv.uint64pow10" .u64 Lib.pow10Tab) :
  Calls Tryz.prog 41 #[.string S,.int .i64 k] w (TxPost w (laidT S.data.toList k)):=by
 have hsz:S.data.toList.length=S.size:=by simp
 obtain ⟨T,hT⟩:∃ T,T=laidT S.data.toList k:=⟨_,rfl⟩
 rw [<- hT]
 unfold laidT at hT
 rw [hsz] at hT
 by_cases h1:1 <= k∧k <= 15
 ·rw [if_pos h1] at hT
  obtain ⟨h1,h2⟩:=h1
  by_cases h3:(S.size:Int) <= k
  ·rw [if_pos h3] at hT
   obtain ⟨c,hc⟩:∃ c:Nat,c=(k-S.size).toNat:=⟨_,rfl⟩
   have hci:k-(S.size:Int)=(c:Int):=by omega
   rw [<- hc] at hT
   have HT:=Lib.hid hT
   have HC:=Lib.hid (rep_c c (by omega))
   have hS0:(0:Int) <= (S.size:Int):=by omega
   have hS9:(S.size:Int) <= 24:=by omega
   clear hT hsz hc htab
   go_enter Tryz.func41,Tryz.ntmps41
   go_wp2_with (go_at_call 74; (with_reducible refine (HC.out _).mono ?_); rintro e w2 ⟨⟨R,hR0,hR,rfl⟩,hb2⟩; have HR:=Lib.hid hR; clear hR)
   go_ret
   exact ⟨ret_str (by rw [str_app,HR.out,HT.out]),hb2⟩
  ·rw [if_neg h3] at hT
   obtain ⟨c,rfl⟩:=Int.eq_ofNat_of_zero_le (show 0 <= k by omega)
   rw [Int.toNat_natCast] at hT
   have HT:=Lib.hid hT
   clear hT hsz htab
   have h3':decide (S.size <= c)=false:=decide_eq_false (by omega)
   have h4:c <= S.size:=by omega
   have h5:(c:Int) <= (S.size:Int):=by omega
   go_enter Tryz.func41,Tryz.ntmps41
   go_wp2_with fail
   go_quiet (fail)
   go_wp2_with fail
   go_ret
   exact ⟨ret_str (by rw [str_app,str_app,str_head,str_tail,HT.out]),below_drewN' (Below.refl _ _) _⟩
 ·rw [if_neg h1] at hT
  by_cases h3 : -4 <= k∧k <= 0
  ·rw [if_pos h3] at hT
   obtain ⟨c,hc⟩:∃ c:Nat,c=(-k).toNat:=⟨_,rfl⟩
   have hci:k = -(c:Int):=by omega
   rw [<- hc] at hT
   have HT:=Lib.hid hT
   have HC:=Lib.hid (rep_c c (by omega))
   have hc4:c <= 4:=by omega
   have hc0:(0:Int) <= (c:Int):=by omega
   have hc9:(c:Int) <= 4:=by omega
   clear hT hsz hc htab h1 h3 k0 k1
   subst hci
   go_enter Tryz.func41,Tryz.ntmps41
   go_wp2_with (go_at_call 74; (with_reducible refine (HC.out _).mono ?_); rintro e w2 ⟨⟨R,hR0,hR,rfl⟩,hb2⟩; have HR:=Lib.hid hR; clear hR)
   go_ret
   exact ⟨ret_str (by rw [str_app,str_app,HR.out,HT.out]),hb2⟩
  ·rw [if_neg h3] at hT
   have HI:=Lib.hid (fun n=>itoa_c (k-1) (by omega) (by omega) (w.drewN n) htab)
   have HJ:=Lib.hid (itoa_c (k-1) (by omega) (by omega) w htab)
   have hk1:¬ (1 <= k∧k <= 15):=h1
   have hS0:(0:Int) <= (S.size:Int):=by omega
   have hS9:(S.size:Int) <= 24:=by omega
   by_cases hS1:1<S.size
   ·rw [if_pos hS1] at hT
    have HT:=Lib.hid hT
    have s1:1 <= S.size:=by omega
    have s2:(1:Int) <= (S.size:Int):=by omega
    have s3:(1:Int)<(S.size:Int):=by omega
    have s4:decide (1<S.size)=true:=decide_eq_true hS1
    clear hT hsz htab h1
    rcases Int.lt_or_le k 1 with hlt | hge
    ·have k4:k < -4:=by omega
     clear hk1 h3
     go_enter Tryz.func41,Tryz.ntmps41
     go_wp2_with fail
     go_quiet (fail)
     go_wp2_with (go_at_call 75; (with_reducible refine (HI.out _).mono ?_); rintro e w2 ⟨⟨R,hR0,hR,rfl⟩,hb2⟩; have HR:=Lib.hid hR; clear hR)
     go_ret
     exact ⟨ret_str (by rw [str_app,str_app,str_app,str_app,str_head,str_tail,HR.out,HT.out]),(below_drewN' (Below.refl _ _) _).trans hb2⟩
    ·have k4:15<k:=by omega
     clear hk1 h3
     go_enter Tryz.func41,Tryz.ntmps41
     go_wp2_with fail
     go_quiet (fail)
     go_wp2_with (go_at_call 75; (with_reducible refine (HI.out _).mono ?_); rintro e w2 ⟨⟨R,hR0,hR,rfl⟩,hb2⟩; have HR:=Lib.hid hR; clear hR)
     go_ret
     exact ⟨ret_str (by rw [str_app,str_app,str_app,str_app,str_head,str_tail,HR.out,HT.out]),(below_drewN' (Below.refl _ _) _).trans hb2⟩
   ·rw [if_neg hS1] at hT
    have HT:=Lib.hid hT
    have s3:S.size=1:=by omega
    have s4:decide (1<S.size)=false:=decide_eq_false hS1
    have s5:(S.size:Int)=1:=by omega
    clear hT hsz htab h1
    rcases Int.lt_or_le k 1 with hlt | hge
    ·have k4:k < -4:=by omega
     clear hk1 h3
     go_enter Tryz.func41,Tryz.ntmps41
     go_wp2_with (go_at_call 75; (with_reducible refine HJ.out.mono ?_); rintro e w2 ⟨⟨R,hR0,hR,rfl⟩,hb2⟩; have HR:=Lib.hid hR; clear hR)
     go_ret
     exact ⟨ret_str (by rw [str_app,str_app,HR.out,HT.out]),hb2⟩
    ·have k4:15<k:=by omega
     clear hk1 h3
     go_enter Tryz.func41,Tryz.ntmps41
     go_wp2_with (go_at_call 75; (with_reducible refine HJ.out.mono ?_); rintro e w2 ⟨⟨R,hR0,hR,rfl⟩,hb2⟩; have HR:=Lib.hid hR; clear hR)
     go_ret
     exact ⟨ret_str (by rw [str_app,str_app,HR.out,HT.out]),hb2⟩
end Go.Proofs.YtejmbbkklhpnaaaGreatDoor.prnw
