/- Statements that are a program, in plain words: its nodes are right, a front of the statements gives a front of it, and other names give the same. No conditions but those stated. -/
import Derived.Test.YtejmbbkklhpnaaaGreatDoorMf32
import Derived.Test.YtejmbbkklhpnaaaGreatDoorMf21
import Derived.Test.YtejmbbkklhpnaaaGreatDoorMf09
import Derived.Test.YtejmbbkklhpnaaaGreatDoorMf06
import Derived.Test.YtejmbbkklhpnaaaGreatDoorMf12
import Derived.Test.YtejmbbkklhpnaaaGreatDoorMf18
namespace Go.Proofs.YtejmbbkklhpnaaaGreatDoor.chkw
open parw
open nodew
theorem ba_beq (a b:ByteArray):(a == b)=true↔a=b:=by
 obtain ⟨a⟩:=a
 obtain ⟨b⟩:=b
 show (a == b)=true↔_
 rw [beq_iff_eq]
 simp
theorem chkA_eq (ents:List (ByteArray × Nat)) (out:List Nd) (s:PStmt) (r:List PStmt):chkA ents out (s :: r) =
  if 4096 <= out.length then ([],s.pos,181)
  else if (lookE ents s.name).isSome=true∨0<kindF s.name then ([],s.pos,182)
  else if (nodeS (lookE ents) s).2.2=0 then chkA (ents ++ [(s.name,out.length)]) (out ++ [(nodeS (lookE ents) s).1]) r
  else ([],(nodeS (lookE ents) s).2.1,(nodeS (lookE ents) s).2.2):=rfl
theorem chkA_cons (ents:List (ByteArray × Nat)) (out:List Nd) (s:PStmt) (r:List PStmt) (h:(chkA ents out (s :: r)).2.2=0) :
  out.length<4096∧lookE ents s.name=none∧kindF s.name=0∧(nodeS (lookE ents) s).2.2=0∧chkA ents out (s :: r)=chkA (ents ++ [(s.name,out.length)]) (out ++ [(nodeS (lookE ents) s).1]) r:=by
 rw [chkA_eq] at h ⊢
 by_cases h1:4096 <= out.length
 ·rw [if_pos h1] at h; cases h
 ·rw [if_neg h1] at h ⊢
  by_cases h2:(lookE ents s.name).isSome=true∨0<kindF s.name
  ·rw [if_pos h2] at h; cases h
  ·rw [if_neg h2] at h ⊢
   by_cases h3:(nodeS (lookE ents) s).2.2=0
   ·rw [if_pos h3]
    have h4:¬ (lookE ents s.name).isSome=true:=fun e=>h2 (.inl e)
    have h5:¬ 0<kindF s.name:=fun e=>h2 (.inr e)
    exact ⟨by omega,by simpa using h4,by omega,h3,rfl⟩
   ·rw [if_neg h3] at h; exact absurd h h3
theorem chkA_take:∀ (l:List PStmt) (ents:List (ByteArray × Nat)) (out:List Nd),(chkA ents out l).2.2=0 ->
  (chkA ents out l).2.1=0∧(chkA ents out l).1.length=out.length+l.length ∧ ∀ k,k <= l.length -> chkA ents out (l.take k)=((chkA ents out l).1.take (out.length+k),0,0)
 | [],ents,out,h=>by
  refine ⟨rfl,rfl,fun k hk => ?_⟩
  obtain rfl:k=0:=by simpa using hk
  show (out,(0:Int),0)=(out.take (out.length+0),0,0)
  rw [Nat.add_zero,List.take_length]
 | s :: r,ents,out,h=>by
  obtain ⟨h1,h2,h3,h4,h5⟩:=chkA_cons ents out s r h
  rw [h5] at h ⊢
  obtain ⟨i1,i2,i3⟩:=chkA_take r _ _ h
  refine ⟨i1,by rw [i2,List.length_append]; simp; omega,fun k hk => ?_⟩
  cases k with
  | zero =>
   have hz:=i3 0 (Nat.zero_le _)
   have hpre:((chkA (ents ++ [(s.name,out.length)]) (out ++ [(nodeS (lookE ents) s).1]) r).1.take (out ++ [(nodeS (lookE ents) s).1]).length)=out ++ [(nodeS (lookE ents) s).1]:=by
    have:=congrArg (·.1) hz
    simpa [chkA] using this.symm
   have h6:=congrArg (List.take out.length) hpre
   rw [List.take_take,List.length_append,Nat.min_eq_left (by omega)] at h6
   rw [Nat.add_zero,h6]
   show (out,(0:Int),0)=_
   rw [List.take_left' rfl]
  | succ k =>
   have hk':k <= r.length:=by simpa using hk
   rw [List.take_succ_cons]
   have h6:=i3 k hk'
   rw [List.length_append] at h6
   rw [show out.length+(k+1)=out.length+[(nodeS (lookE ents) s).1].length+k by simp; omega,<- h6]
   rw [chkA_eq,if_neg (show ¬ 4096 <= out.length by omega),if_neg (by rw [h2,h3]; simp),if_pos h4]
theorem checkS_front (l:List PStmt) (h:(checkS l).2.2=0):0<l.length∧(checkS l).2.1=0∧(checkS l).1.length=l.length ∧ ∀ k,0<k -> k <= l.length -> checkS (l.take k)=((checkS l).1.take k,0,0):=by
 unfold checkS at h ⊢
 by_cases h0:l.length=0
 ·rw [if_pos h0] at h; cases h
 ·rw [if_neg h0] at h ⊢
  obtain ⟨h1,h2,h3⟩:=chkA_take l [] [] h
  refine ⟨by omega,h1,by rw [h2]; simp,fun k hk hkl => ?_⟩
  rw [if_neg (by rw [List.length_take]; omega),h3 k hkl]
  simp
theorem chkA_bad:∀ (l:List PStmt) (ents:List (ByteArray × Nat)) (out:List Nd),(chkA ents out l).2.2≠0 -> (chkA ents out l).1=[]
 | [],_,_,h=>absurd rfl h
 | s :: r,ents,out,h=>by
  rw [chkA_eq] at h ⊢
  by_cases h1:4096 <= out.length
  ·rw [if_pos h1]
  ·rw [if_neg h1] at h ⊢
   by_cases h2:(lookE ents s.name).isSome=true∨0<kindF s.name
   ·rw [if_pos h2]
   ·rw [if_neg h2] at h ⊢
    by_cases h3:(nodeS (lookE ents) s).2.2=0
    ·rw [if_pos h3] at h ⊢
     exact chkA_bad r _ _ h
    ·rw [if_neg h3]
theorem checkS_bad (l:List PStmt) (h:(checkS l).2.2≠0):(checkS l).1=[]:=by
 unfold checkS at h ⊢
 by_cases h0:l.length=0
 ·rw [if_pos h0]
 ·rw [if_neg h0] at h ⊢
  exact chkA_bad l [] [] h
theorem numsS_ok:∀ (fl:List (Nat × Nat × Nat)) (l:List PArg) (n:Nd),n.x.length=16 -> (∀ v∈n.x,v<18446744073709551616) -> (∀ a∈l,a.num<18446744073709551616) -> (∀ d∈fl,1 <= d.1∧d.1 <= 16) -> (fl.map (·.1)).Nodup -> fl.length <= l.length -> (numsS fl l n).2.2=0 ->
  ((numsS fl l n).1.kind=n.kind∧(numsS fl l n).1.a=n.a∧(numsS fl l n).1.b=n.b)∧(numsS fl l n).1.ok∧(∀ d∈fl,withinF d.2.1 d.2.2 ((numsS fl l n).1.f d.1)=true) ∧ ∀ j,1 <= j -> j ∉ fl.map (·.1) -> (numsS fl l n).1.f j=n.f j
 | [],l,n,hl,hv,ha,ho,hn,hx,h=>by
  have e:numsS [] l n=(n,0,0):=by cases l <;> rfl
  rw [e]
  exact ⟨⟨rfl,rfl,rfl⟩,⟨hl,hv⟩,(fun d hd=>by cases hd),fun j _ _=>rfl⟩
 | d :: r,[],n,hl,hv,ha,ho,hn,hx,h=>by simp at hx
 | d :: r,a :: q,n,hl,hv,ha,ho,hn,hx,h=>by
  have ee:numsS (d :: r) (a :: q) n=if withinF d.2.1 d.2.2 a.num then numsS r q (Nd.put n d.1 a.num) else (Nd.put n d.1 a.num,a.pos,184):=rfl
  rw [ee] at h ⊢
  by_cases hw:withinF d.2.1 d.2.2 a.num=true
  ·rw [if_pos hw] at h ⊢
   have hd:=ho d (.head _)
   rw [List.map_cons,List.nodup_cons] at hn
   have hok:=put_ok' n hl hv d.1 a.num (ha a (.head _))
   obtain ⟨i1,i2,i3,i4⟩:=numsS_ok r q (Nd.put n d.1 a.num) hok.1 hok.2 (fun b hb=>ha b (.tail _ hb)) (fun e he=>ho e (.tail _ he)) hn.2 (by simpa using hx) h
   have hf:=fun j j1=>f_put n hl d.1 a.num j hd.1 hd.2 j1
   refine ⟨i1,i2,fun e he => ?_,fun j j1 hj => ?_⟩
   ·rcases List.mem_cons.1 he with he | he
    ·rw [he,i4 d.1 hd.1 hn.1,hf d.1 hd.1,if_pos rfl]; exact hw
    ·exact i3 e he
   ·rw [List.map_cons,List.mem_cons,not_or] at hj
    rw [i4 j j1 hj.2,hf j j1,if_neg hj.1]
  ·rw [if_neg hw] at h; cases h
where
 put_ok' (n:Nd) (hl:n.x.length=16) (hv:∀ v∈n.x,v<18446744073709551616) (o x:Nat) (hx:x<18446744073709551616):(Nd.put n o x).ok :=
  ⟨(Nd.put_len n o x).trans hl,fun v hv'=>by
   rcases List.mem_or_eq_of_mem_set hv' with h | h
   ·exact hv v h
   ·rw [h]; exact hx⟩
theorem offs_nodup (k:Nat):((fieldList k).map (·.1)).Nodup:=by
 unfold fieldList
 repeat' split
 all_goals decide
theorem below_two (k:Nat):belowN k <= 2:=by
 unfold belowN
 repeat' split
 all_goals omega
theorem nodeS_ok (look:ByteArray -> Option Nat) (at_:Nat) (hlk:∀ k p,look k=some p -> p<at_) (s:PStmt) (hnum:∀ a∈s.args,a.num<18446744073709551616) (h:(nodeS look s).2.2=0) :
  (nodeS look s).1.ok∧nodeOk (nodeS look s).1 at_=true∧s.args.length <= 9:=by
 unfold nodeS at h ⊢
 by_cases h1:(fieldList s.kind).length=0∨s.args.length≠(fieldList s.kind).length+belowN s.kind
 ·rw [if_pos h1] at h; cases h
 ·rw [if_neg h1] at h ⊢
  rw [not_or,Decidable.not_not] at h1
  obtain ⟨hf0,hal⟩:=h1
  have hb2:=below_two s.kind
  have h9:s.args.length <= 9:=by
   have:(fieldList s.kind).length <= 7:=by
    unfold fieldList; repeat' split
    all_goals simp
   omega
  by_cases h2:(numsS (fieldList s.kind) s.args (nodeZ s.kind)).2.2=0
  ·rw [if_pos h2] at h ⊢
   have hz:∀ j,(nodeZ s.kind).f j=0:=fun j=>by
    unfold nodeZ Nd.f
    simp only [List.getD_eq_getElem?_getD,List.getElem?_replicate]
    split <;> rfl
   obtain ⟨⟨i1,i2,i3⟩,i4,i5,i6⟩:=numsS_ok (fieldList s.kind) s.args (nodeZ s.kind) (by simp [nodeZ]) (fun v hv=>by have:=List.eq_of_mem_replicate hv; omega) hnum (fieldList_range s.kind) (offs_nodup _) (by omega) h2
   obtain ⟨m,hm⟩:∃ m,(numsS (fieldList s.kind) s.args (nodeZ s.kind)).1=m:=⟨_,rfl⟩
   rw [hm] at h i1 i2 i3 i4 i5 i6 ⊢
   have key:∀ a b:Int,placeOk (decide (0<belowN s.kind)) a at_=true -> placeOk (decide (1<belowN s.kind)) b at_=true -> nodeOk { m with a:=a,b:=b } at_=true:=fun a b ha hb=>by
    have hk:({ m with a:=a,b:=b }:Nd).kind=s.kind:=i1
    rw [nodeOk_iff _ (by exact i4.1),hk]
    refine ⟨fun d hd=>i5 d hd,ha,hb,by omega,fun j j1 j2 hj => ?_⟩
    have:=i6 j j1 (by unfold offs at hj; exact hj)
    rw [hz] at this
    exact this
   have hok:∀ a b:Int,({ m with a:=a,b:=b }:Nd).ok:=fun a b=>i4
   have hpl:∀ p:Nat,p<at_ -> placeOk true (p:Int) at_=true:=fun p hp=>by unfold placeOk; simp; omega
   obtain ⟨bs,hbs⟩:∃ bs,s.args.drop (fieldList s.kind).length=bs:=⟨_,rfl⟩
   have hbl:bs.length=belowN s.kind:=by rw [<- hbs,List.length_drop]; omega
   rw [hbs] at h ⊢
   have em:({ m with a:=0,b:=0 }:Nd)=m:=by
    obtain ⟨mk,mx,ma,mb⟩:=m
    have i2:ma=0:=i2
    have i3:mb=0:=i3
    subst i2 i3
    rfl
   match bs,hbl with
   | [],hbl =>
    have e0:belowN s.kind=0:=hbl.symm
    have k0:=key 0 0 (by rw [e0]; rfl) (by rw [e0]; rfl)
    rw [em] at k0
    exact ⟨i4,k0,h9⟩
   | [x],hbl =>
    have e1:belowN s.kind=1:=hbl.symm
    unfold namesS at h ⊢
    cases hx:look x.name with
    | none=>rw [hx] at h; cases h
    | some p =>
     have k1:=key p 0 (by rw [e1]; exact hpl p (hlk _ _ hx)) (by rw [e1]; rfl)
     have em':({ m with a:=(p:Int),b:=0 }:Nd)={ m with a:=(p:Int) }:=by
      obtain ⟨mk,mx,ma,mb⟩:=m
      have i3:mb=0:=i3
      subst i3
      rfl
     rw [em'] at k1
     exact ⟨hok _ _,k1,h9⟩
   | [x,y],hbl =>
    have e2:belowN s.kind=2:=hbl.symm
    unfold namesS at h ⊢
    cases hx:look x.name with
    | none=>rw [hx] at h; cases h
    | some p =>
     rw [hx] at h
     simp only [if_true] at h ⊢
     unfold namesS at h ⊢
     cases hy:look y.name with
     | none=>rw [hy] at h; cases h
     | some q =>
      have k2:=key p q (by rw [e2]; exact hpl p (hlk _ _ hx)) (by rw [e2]; exact hpl q (hlk _ _ hy))
      exact ⟨hok _ _,k2,h9⟩
   | x :: y :: z :: r,hbl=>simp at hbl; omega
  ·rw [if_neg h2] at h; exact absurd h h2
theorem lookE_lt (ents:List (ByteArray × Nat)) (m:Nat) (h:∀ p∈ents,p.2<m) (k:ByteArray) (p:Nat) (hp:lookE ents k=some p):p<m:=by
 unfold lookE at hp
 rw [Option.map_eq_some_iff] at hp
 obtain ⟨q,hq,rfl⟩:=hp
 exact h q (List.mem_of_find?_eq_some hq)
theorem chkA_ok:∀ (l:List PStmt) (ents:List (ByteArray × Nat)) (out:List Nd),(∀ s∈l,∀ a∈s.args,a.num<18446744073709551616) -> (∀ p∈ents,p.2<out.length) -> out.length <= 4096 -> (∀ x∈out,x.ok) -> (∀ k (hk:k<out.length),nodeOk out[k] k=true) -> (chkA ents out l).2.2=0 ->
  (∀ x∈(chkA ents out l).1,x.ok)∧(∀ k (hk:k<(chkA ents out l).1.length),nodeOk (chkA ents out l).1[k] k=true)∧(chkA ents out l).1.length <= 4096 ∧ ∀ s∈l,s.args.length <= 9
 | [],ents,out,_,_,h96,hx,hk,_=>⟨hx,hk,h96,fun s hs=>by cases hs⟩
 | s :: r,ents,out,ha,hp,h96,hx,hk,h=>by
  obtain ⟨h1,h2,h3,h4,h5⟩:=chkA_cons ents out s r h
  rw [h5] at h ⊢
  obtain ⟨j1,j2,j3⟩:=nodeS_ok (lookE ents) out.length (lookE_lt ents out.length hp) s (ha s (.head _)) h4
  obtain ⟨i1,i2,i3,i4⟩:=chkA_ok r (ents ++ [(s.name,out.length)]) (out ++ [(nodeS (lookE ents) s).1]) (fun t ht=>ha t (.tail _ ht)) (fun p hq=>by
   rw [List.length_append]
   rcases List.mem_append.1 hq with hq | hq
   ·have:=hp p hq; simp; omega
   ·have:p=(s.name,out.length):=by simpa using hq
    rw [this]; simp) (by rw [List.length_append]; simp; omega) (fun x hq=>by
   rcases List.mem_append.1 hq with hq | hq
   ·exact hx x hq
   ·have:x=(nodeS (lookE ents) s).1:=by simpa using hq
    rw [this]; exact j1) (fun k hk'=>by
   rw [List.length_append] at hk'
   by_cases hkl:k<out.length
   ·rw [List.getElem_append_left hkl]; exact hk k hkl
   ·obtain rfl:k=out.length:=by simp at hk'; omega
    simpa using j2) h
  exact ⟨i1,i2,i3,fun t ht=>by
   rcases List.mem_cons.1 ht with rfl | ht
   ·exact j3
   ·exact i4 t ht⟩
theorem checkS_right (l:List PStmt) (ha:∀ s∈l,∀ a∈s.args,a.num<18446744073709551616) (h:(checkS l).2.2=0) :
  (∀ x∈(checkS l).1,x.ok)∧rightP (checkS l).1=true ∧ ∀ s∈l,s.args.length <= 9:=by
 obtain ⟨h0,_,hl,_⟩:=checkS_front l h
 have e:checkS l=chkA [] [] l:=by unfold checkS; rw [if_neg (by omega)]
 rw [e] at h hl ⊢
 obtain ⟨i1,i2,i3,i4⟩:=chkA_ok l [] [] ha (fun p hp=>by cases hp) (by simp) (fun x hx=>by cases hx) (fun k hk=>by simp at hk) h
 exact ⟨i1,(rightP_iff _).2 ⟨i2,by omega,i3⟩,i4⟩
end Go.Proofs.YtejmbbkklhpnaaaGreatDoor.chkw

/- What the statements of a program's nodes are when they are checked: the nodes. Plain; no condition but those stated. -/
namespace Go.Proofs.YtejmbbkklhpnaaaGreatDoor.bkk
open Go.RowKit
open nodew
open chkw
open parw (PArg PStmt kindF)
open prnw (nmB bA bA_list numsK subsN right_at node_facts)
structure St (n:Nd) (k:Nat) (s:PStmt):Prop where
 name:s.name=nmB k
 kind:s.kind=n.kind
 args:∃ us ws,s.args=us ++ ws∧us.map (·.num)=(numsK n.kind).map n.f∧ws.map (·.name)=(subsN n).map nmB
def putAll:List (Nat × Nat × Nat) -> List PArg -> Nd -> Nd
 | d :: r,a :: q,m=>putAll r q (Nd.put m d.1 a.num)
 | _,_,m=>m
theorem numsS_all (n:Nd):∀ (fl:List (Nat × Nat × Nat)) (us ws:List PArg) (m:Nd),us.map (·.num)=fl.map (fun d=>n.f d.1) -> ndOk n fl=true -> numsS fl (us ++ ws) m=(putAll fl us m,0,0)
 | [],us,ws,m,h,_=>by
  have:us=[]:=by simpa using h
  rw [this]
  cases ws <;> rfl
 | d :: r,[],ws,m,h,_=>by simp at h
 | d :: r,a :: q,ws,m,h,hw=>by
  simp only [List.map_cons,List.cons.injEq] at h
  have hw2:withinF d.2.1 d.2.2 (n.f d.1)=true∧ndOk n r=true:=by
   unfold ndOk at hw
   rw [List.all_cons,Bool.and_eq_true] at hw
   exact hw
  show (if withinF d.2.1 d.2.2 a.num then numsS r (q ++ ws) (Nd.put m d.1 a.num) else _)=_
  rw [h.1,if_pos hw2.1,numsS_all n r q ws _ h.2 hw2.2]
  show _=(putAll r q (Nd.put m d.1 a.num),0,0)
  rw [h.1]
theorem put_f (m:Nd) (hl:m.x.length=16) (i v j:Nat) (hi:1 <= i∧i <= 16) (hj:1 <= j∧j <= 16):(Nd.put m i v).f j=if j=i then v else m.f j:=by
 unfold Nd.put Nd.f
 simp only
 by_cases h:j=i
 ·subst h
  rw [if_pos rfl,List.getD_eq_getElem?_getD,List.getElem?_set_self (by omega)]
  rfl
 ·rw [if_neg h,List.getD_eq_getElem?_getD,List.getD_eq_getElem?_getD,List.getElem?_set_ne (by omega)]
theorem putAll_f (n:Nd):∀ (fl:List (Nat × Nat × Nat)) (us:List PArg) (m:Nd),us.map (·.num)=fl.map (fun d=>n.f d.1) -> (∀ d∈fl,1 <= d.1∧d.1 <= 16) -> m.x.length=16 ->
  (putAll fl us m).x.length=16∧(putAll fl us m).kind=m.kind∧(putAll fl us m).a=m.a∧(putAll fl us m).b=m.b ∧ ∀ j,1 <= j -> j <= 16 -> (putAll fl us m).f j=if j∈fl.map (·.1) then n.f j else m.f j
 | [],us,m,h,_,hl=>by
  have:us=[]:=by simpa using h
  rw [this]
  exact ⟨hl,rfl,rfl,rfl,fun j _ _=>by simp [putAll]⟩
 | d :: r,[],m,h,_,_=>by simp at h
 | d :: r,a :: q,m,h,hd,hl=>by
  simp only [List.map_cons,List.cons.injEq] at h
  obtain ⟨a1,a2,a3,a4,a5⟩:=putAll_f n r q (Nd.put m d.1 a.num) h.2 (fun e he=>hd e (by simp [he])) (by rw [Nd.put_len]; exact hl)
  refine ⟨a1,a2,a3,a4,fun j j1 j2 => ?_⟩
  show (putAll r q (Nd.put m d.1 a.num)).f j=_
  rw [a5 j j1 j2,List.map_cons,put_f m hl d.1 _ j (hd d (by simp)) ⟨j1,j2⟩,h.1]
  by_cases hj:j∈r.map (·.1)
  ·rw [if_pos hj,if_pos (by simp [hj])]
  ·rw [if_neg hj]
   by_cases hjd:j=d.1
   ·rw [if_pos hjd,if_pos (by simp [hjd]),hjd]
   ·rw [if_neg hjd,if_neg (by rw [List.mem_cons]; exact fun e=>e.elim hjd hj)]
theorem nd_ext (n m:Nd) (hn:n.x.length=16) (hm:m.x.length=16) (hk:n.kind=m.kind) (ha:n.a=m.a) (hb:n.b=m.b) (h:∀ j,1 <= j -> j <= 16 -> n.f j=m.f j):n=m:=by
 have hx:n.x=m.x:=by
  refine List.ext_getElem (hn.trans hm.symm) fun i h1 h2 => ?_
  have:=h (i+1) (by omega) (by omega)
  unfold Nd.f at this
  rw [Nat.add_sub_cancel,List.getD_eq_getElem?_getD,List.getD_eq_getElem?_getD,List.getElem?_eq_getElem h1,List.getElem?_eq_getElem h2] at this
  exact this
 cases n
 cases m
 simp only at hk ha hb hx
 rw [hk,ha,hb,hx]
theorem nodeZ_f (k j:Nat):(nodeZ k).f j=0:=by
 unfold nodeZ Nd.f
 simp only
 rw [List.getD_eq_getElem?_getD,List.getElem?_replicate]
 split <;> rfl
theorem namesS_hit (look:ByteArray -> Option Nat) (a:PArg) (q:List PArg) (i:Nat) (m:Nd) (p:Nat) (h:look a.name=some p):namesS look (a :: q) i m=namesS look q (i+1) (Nd.setP m i p):=by
 conv=>lhs; unfold namesS
 rw [h]
 rfl
theorem one_of {A B:Type} (f:A -> B) (l:List A) (x:B) (h:l.map f=[x]):∃ a,l=[a]∧f a=x:=by
 cases l with
 | nil=>simp at h
 | cons a l =>
  cases l with
  | nil=>exact ⟨a,rfl,by simpa using h⟩
  | cons b l=>simp at h
theorem two_of {A B:Type} (f:A -> B) (l:List A) (x y:B) (h:l.map f=[x,y]):∃ a b,l=[a,b]∧f a=x∧f b=y:=by
 cases l with
 | nil=>simp at h
 | cons a l =>
  rw [List.map_cons,List.cons.injEq] at h
  obtain ⟨b,hb,hy⟩:=one_of f l y h.2
  exact ⟨a,b,by rw [hb],h.1,hy⟩
theorem node_st (look:ByteArray -> Option Nat) (n:Nd) (hn:n.ok) (k:Nat) (hk:k<4096) (h:nodeOk n k=true) (s:PStmt) (hs:St n k s) (hl:∀ a:Int,0 <= a -> a<k -> look (nmB a)=some a.toNat):nodeS look s=(n,0,0):=by
 obtain ⟨hkd,-,-⟩:=node_facts h (by omega)
 have hk6:1 <= n.kind∧n.kind <= 6:=by omega
 obtain ⟨us,ws,hargs,h1,h2⟩:=hs.args
 have hoff:=(fpm.nums_offs n.kind).resolve_right (fun e=>e hk6)
 have h1':us.map (·.num)=(fieldList n.kind).map (fun d=>n.f d.1):=by
  rw [h1,hoff]
  unfold offs
  rw [List.map_map]
  rfl
 have hno:=h
 unfold nodeOk at hno
 simp only [Bool.and_eq_true] at hno
 obtain ⟨⟨⟨⟨hnd,hpa⟩,hpb⟩,hfl⟩,-⟩:=hno
 have hla:us.length=(fieldList n.kind).length:=by have:=congrArg List.length h1'; simpa using this
 have hlb:ws.length=(subsN n).length:=by have:=congrArg List.length h2; simpa using this
 have hsub:(subsN n).length=belowN n.kind:=by
  unfold subsN belowN
  rcases hkd with e | e | e | e | e | e <;> rw [e] <;> rfl
 obtain ⟨f1,f2,f3,f4,f5⟩:=putAll_f n (fieldList n.kind) us (nodeZ n.kind) h1' (fun d hd=>fieldList_range n.kind d hd) (by simp [nodeZ])
 have hns:=numsS_all n (fieldList n.kind) us ws (nodeZ n.kind) h1' hnd
 have hx:∀ j,1 <= j -> j <= 16 -> (putAll (fieldList n.kind) us (nodeZ n.kind)).f j=n.f j:=fun j j1 j2=>by
  rw [f5 j j1 j2]
  by_cases hj:j∈(fieldList n.kind).map (·.1)
  ·rw [if_pos hj]
  ·rw [if_neg hj,nodeZ_f]
   exact (fpm.rest_zero n k h j j1 j2 fun i hi=>⟨by
    obtain ⟨d,hd,rfl⟩:=List.mem_map.1 hi
    exact (fieldList_range n.kind d hd).1,fun e=>hj (e ▸ hi)⟩).symm
 obtain ⟨M,hM⟩:∃ M,putAll (fieldList n.kind) us (nodeZ n.kind)=M:=⟨_,rfl⟩
 rw [hM] at f1 f2 f3 f4 hx hns
 unfold nodeS
 have hfl2:0<(fieldList n.kind).length:=of_decide_eq_true hfl
 rw [hs.kind,if_neg (by rw [hargs,List.length_append]; omega),hargs,hns]
 rw [if_pos rfl,<- hla,List.drop_left]
 have fin:∀ m:Nd,m.x=M.x -> m.kind=M.kind -> m.a=n.a -> m.b=n.b -> m=n:=fun m m1 m2 m3 m4 =>
  nd_ext m n (by rw [m1]; exact f1) hn.1 (by rw [m2,f2]; rfl) m3 m4 (fun j j1 j2=>by
   rw [<- hx j j1 j2]
   unfold Nd.f
   rw [m1])
 have pl:∀ v:Int,placeOk false v k=true -> v=0:=fun v hv=>by
  unfold placeOk at hv
  simpa using hv
 have pt:∀ v:Int,placeOk true v k=true -> 0 <= v∧v<k:=fun v hv=>by
  unfold placeOk at hv
  simpa using hv
 have z0:(nodeZ n.kind).a=0∧(nodeZ n.kind).b=0:=⟨rfl,rfl⟩
 by_cases h5:n.kind=5
 ·have hs5:subsN n=[n.a,n.b]:=by
   unfold subsN
   rw [h5]
   rfl
  rw [hs5] at h2
  rw [h5] at hpa hpb
  have pa:=pt _ hpa
  have pb:=pt _ hpb
  obtain ⟨b1,b2,rfl,e1,e2⟩:=two_of _ _ _ _ h2
  rw [namesS_hit look b1 _ _ _ n.a.toNat (by rw [e1]; exact hl _ pa.1 pa.2),namesS_hit look b2 _ _ _ n.b.toNat (by rw [e2]; exact hl _ pb.1 pb.2)]
  have e:=fin (Nd.setP (Nd.setP M 0 n.a.toNat) 1 n.b.toNat) rfl rfl (by show ((n.a.toNat:Nat):Int)=n.a; omega) (by show ((n.b.toNat:Nat):Int)=n.b; omega)
  show (Nd.setP (Nd.setP M 0 n.a.toNat) 1 n.b.toNat,(0:Int),0)=_
  rw [e]
 ·by_cases h6:n.kind=6
  ·have hs6:subsN n=[n.a]:=by
    unfold subsN
    rw [h6]
    rfl
   rw [hs6] at h2
   rw [h6] at hpa hpb
   have pa:=pt _ hpa
   have pb:=pl _ hpb
   obtain ⟨b1,rfl,e1⟩:=one_of _ _ _ h2
   rw [namesS_hit look b1 _ _ _ n.a.toNat (by rw [e1]; exact hl _ pa.1 pa.2)]
   have e:=fin (Nd.setP M 0 n.a.toNat) rfl rfl (by show ((n.a.toNat:Nat):Int)=n.a; omega) (by show M.b=n.b; rw [f4,pb]; rfl)
   show (Nd.setP M 0 n.a.toNat,(0:Int),0)=_
   rw [e]
  ·have hb0:belowN n.kind=0:=by unfold belowN; rw [if_neg h5,if_neg h6]
   rw [hb0] at hpa hpb hsub
   have pa:=pl _ hpa
   have pb:=pl _ hpb
   have hws:ws=[]:=List.eq_nil_of_length_eq_zero (by omega)
   rw [hws]
   show (M,(0:Int),0)=_
   rw [fin M rfl rfl (by rw [f3,pa]; rfl) (by rw [f4,pb]; rfl)]
def ents (k:Nat):List (ByteArray × Nat):=(List.range k).map fun i:Nat=>(nmB i,i)
theorem ents_succ (k:Nat):ents (k+1)=ents k ++ [(nmB k,k)]:=by
 unfold ents
 rw [List.range_succ,List.map_append]
 rfl
theorem nm_inj {a b:Int} (h:nmB a=nmB b):a=b:=fpm.nmB_inj a b (by rw [h])
theorem look_none (k:Nat):∀ m,m <= k -> lookE (ents m) (nmB k)=none:=fun m hm=>by
 unfold lookE
 rw [List.find?_eq_none.2]
 ·rfl
 ·intro p hp
  unfold ents at hp
  obtain ⟨i,hi,rfl⟩:=List.mem_map.1 hp
  have hi2:=List.mem_range.1 hi
  intro e
  have:=nm_inj ((ba_beq _ _).1 e)
  omega
theorem look_some (a:Nat):∀ k,a<k -> lookE (ents k) (nmB a)=some a
 | 0,h=>absurd h (Nat.not_lt_zero _)
 | k+1,h=>by
  rw [ents_succ]
  unfold lookE
  rw [List.find?_append]
  by_cases hak:a<k
  ·have:=look_some a k hak
   unfold lookE at this
   rw [Option.map_eq_some_iff] at this
   obtain ⟨p,hp,hp2⟩:=this
   rw [hp]
   simp [hp2]
  ·have e:a=k:=by omega
   have:=look_none k k (Nat.le_refl _)
   unfold lookE at this
   rw [Option.map_eq_none_iff] at this
   have hb:(nmB (k:Int) == nmB (k:Int))=true:=(ba_beq _ _).2 rfl
   rw [e,this,Option.none_or]
   simp [List.find?,hb]
theorem kind_nm (k:Int):kindF (nmB k)=0:=by
 have key:∀ w:ByteArray,w.data.toList.head? ≠ some 110 -> nmB k≠w:=fun w hw e=>hw (by
  rw [<- e]
  unfold nmB
  rw [bA_list]
  rfl)
 unfold kindF
 rw [if_neg (key _ (by decide)),if_neg (key _ (by decide)),if_neg (key _ (by decide)),if_neg (key _ (by decide)),if_neg (key _ (by decide)),if_neg (key _ (by decide))]
theorem chk_from (l:List Nd) (hok:∀ n∈l,n.ok) (h:rightP l=true) (ss:List PStmt) (hlen:ss.length=l.length) (hs:∀ k (h1:k<l.length) (h2:k<ss.length),St l[k] k ss[k]) :
  ∀ m k,k+m=l.length -> chkA (ents k) (l.take k) (ss.drop k)=(l,0,0)
 | 0,k,hk=>by
  have hk':k=l.length:=by omega
  rw [hk',List.take_length,<- hlen,List.drop_length]
  rfl
 | m+1,k,hk=>by
  obtain ⟨hl4,hl0,hall⟩:=right_at h
  have h1:k<l.length:=by omega
  have h2:k<ss.length:=by omega
  have hst:=hs k h1 h2
  have htl:(l.take k).length=k:=by rw [List.length_take]; omega
  have hns:=node_st (lookE (ents k)) l[k] (hok _ (List.getElem_mem h1)) k (by omega) (hall k h1) ss[k] hst (fun a a0 a1=>by
   have:=look_some a.toNat k (by omega)
   rw [show ((a.toNat:Nat):Int)=a by omega] at this
   exact this)
  rw [List.drop_eq_getElem_cons h2,chkA_eq,if_neg (by omega),if_neg,hns]
  ·rw [if_pos rfl,htl,hst.name,<- ents_succ]
   have:=chk_from l hok h ss hlen hs m (k+1) (by omega)
   rw [List.take_add_one,List.getElem?_eq_getElem h1] at this
   exact this
  ·rw [hst.name,look_none k k (Nat.le_refl _),kind_nm]
   simp
theorem chk_all (l:List Nd) (hok:∀ n∈l,n.ok) (h:rightP l=true) (ss:List PStmt) (hlen:ss.length=l.length) (hs:∀ k (h1:k<l.length) (h2:k<ss.length),St l[k] k ss[k]):checkS ss=(l,0,0):=by
 obtain ⟨_,hl0,_⟩:=right_at h
 unfold checkS
 rw [if_neg (by omega)]
 have:=chk_from l hok h ss hlen hs l.length 0 (by omega)
 rw [List.take_zero,List.drop_zero] at this
 exact this
end Go.Proofs.YtejmbbkklhpnaaaGreatDoor.bkk

/- The walks of strconv.ParseFloat and of decimal.Parse at any text. Conditions: as each theorem states. -/
namespace Go.Proofs.YtejmbbkklhpnaaaGreatDoor.rdf
open Go.RowKit
open bsw
open prnw
open dcw
open dmx
open fpm
open flatm
open nodew
attribute [local go_sem] fo_eq
structure DE (B:Nat) (w:World):Prop extends NE B w where
 eb : 4 < B
 er:∃ v,w.cell? ⟨4,0,none⟩=some v∧(v = .nilIface ∨ ∃ te pe,v = .iface te pe)
theorem DE.below {B:Nat} {w w':World} (h:DE B w) (hb:Below w.heap.size w w'):DE B w':=by
 obtain ⟨v,h1,h2⟩:=h.er
 exact ⟨h.toNE.below hb,h.eb,v,(hb.cell (Nat.lt_of_lt_of_le h.eb h.lt)).trans h1,h2⟩
theorem fo_0 (s:Bool) (X:Nat) (hX:X<infW):(fo (sgn s X) 0 == some .eq)=decide (X=0):=by
 have hi:=infW_eq
 have hm:sgn s X % 9223372036854775808=X:=by
  unfold sgn
  split <;> omega
 rw [fo_sv (by rw [hm]; omega) (by decide),sv_zero,sv_sgn s X hX]
 by_cases h0:X=0
 ·rw [decide_eq_true h0,h0,val_low (by decide)]
  cases s <;> rfl
 ·have:=val_pos (Nat.pos_of_ne_zero h0)
  rw [decide_eq_false h0,Int.compare_eq_ite_lt]
  cases s
  ·rw [show (if (false:Bool)=true then -(valR X:Int) else (valR X:Int))=(valR X:Int) from rfl,if_neg (by omega),if_pos (by omega)]
   rfl
  ·rw [show (if (true:Bool)=true then -(valR X:Int) else (valR X:Int)) = -(valR X:Int) from rfl,if_pos (by omega)]
   rfl
section
variable (B:Nat) (s:ByteArray) (neg:Bool) (x:MS) (rest:List UInt8) (ex:Int) (h:RfOk s neg x rest ex) (hnd:x.nd <= 30) (w:World)
include h hnd
theorem prefix_any (hN:NE B w) :
  Calls Tryz.prog 182 #[.string s,.int .i64 64] w (AtPost w neg (nx x.N (dpX x+ex-x.nd)) s.size):=by
 have hA:=atof_any B s neg x rest ex h hnd w hN
 obtain ⟨F,E,k1,k2,k3⟩:=pk_parts neg (nx x.N (dpX x+ex-x.nd)) s.size
 have hA2:Calls Tryz.prog 189 #[.string s] w fun e w'=>e = .returned (.tuple #[.float .f64 F,.int .i64 (s.size:Nat),E])∧Below w.heap.size w w':=by
  unfold AtPost at hA
  rw [k2] at hA
  exact hA
 have HA:=Lib.hid hA2
 have HK:=Lib.hid k2
 clear hA hA2 k1 k2 k3 hN h hnd
 go_enter Tryz.func182,Tryz.ntmps182
 go_wp2_with (go_at_call 189; (with_reducible refine HA.out.mono ?_); rintro e w1 ⟨rfl,hw1⟩; have HB1:=Lib.hid hw1; clear hw1)
 go_ret3
 exact ⟨congrArg Ending.returned HK.out.symm,HB1.out⟩
theorem iparse_any (hN:NE B w) :
  Calls Tryz.prog 153 #[.string s,.int .i64 64] w fun e w'=>e = .returned (pkV neg (nx x.N (dpX x+ex-x.nd)))∧Below w.heap.size w w':=by
 have hA:=prefix_any B s neg x rest ex h hnd w hN
 obtain ⟨F,E,k1,k2,k3⟩:=pk_parts neg (nx x.N (dpX x+ex-x.nd)) s.size
 have hA2:Calls Tryz.prog 182 #[.string s,.int .i64 64] w fun e w'=>e = .returned (.tuple #[.float .f64 F,.int .i64 (s.size:Nat),E])∧Below w.heap.size w w':=by
  unfold AtPost at hA
  rw [k2] at hA
  exact hA
 have HA:=Lib.hid hA2
 have HK:=Lib.hid k1
 clear hA hA2 k1 k2 k3 hN h hnd
 go_enter Tryz.func153,Tryz.ntmps153
 go_wp2_with (go_at_call 182; (with_reducible refine HA.out.mono ?_); rintro e w1 ⟨rfl,hw1⟩; have HB1:=Lib.hid hw1; clear hw1)
 go_ret2
 exact ⟨congrArg Ending.returned HK.out.symm,HB1.out⟩
theorem sparse_any (hN:DE B w) :
  Calls Tryz.prog 114 #[.string s,.int .i64 64] w fun e w'=>(∃ E,e = .returned (.tuple #[.float .f64 (sgn neg (min (nx x.N (dpX x+ex-x.nd)) infX)),E])∧if infX <= nx x.N (dpX x+ex-x.nd) then ∃ t p,E = .iface t p else E = .nilIface)∧Below w.heap.size w w':=by
 have hA:=iparse_any B s neg x rest ex h hnd w hN.toNE
 have hsz:=h.sz
 obtain ⟨X,hX⟩:∃ X,nx x.N (dpX x+ex-x.nd)=X:=⟨_,rfl⟩
 rw [hX] at hA ⊢
 obtain ⟨F,hF⟩:∃ F,sgn neg (min X infX)=F:=⟨_,rfl⟩
 unfold pkV at hA
 rw [hF] at hA ⊢
 by_cases hc:infX <= X
 ·rw [if_pos hc] at hA
  have CT:∀ W,DE B W -> Calls Tryz.prog 73 #[.string ⟨#[80,97,114,115,101,70,108,111,97,116]⟩,.string s,.int .i64 0,.int .i64 64,.iface 160 (.int .i64 1)] W fun e w'=>(∃ M:Nat,e = .returned (.iface 163 (.pointer (some ⟨M,0,none⟩))))∧Below W.heap.size W w':=fun W hW=>by
   obtain ⟨v,e1,e2⟩:=hW.er
   refine (Tryz.strconv_toError_range ⟨#[80,97,114,115,101,70,108,111,97,116]⟩ s 0 64 v W (by omega) e1 e2).mono ?_
   rintro e w' ⟨M,h1,-,-,h2⟩
   exact ⟨⟨M,h1⟩,h2⟩
  have HA:=Lib.hid hA
  have HN:=Lib.hid hN
  have HT:=Lib.hid CT
  have HC:=Lib.hid hc
  clear hA hN CT hc hX hF h hnd
  go_enter Tryz.func114,Tryz.ntmps114
  go_upto_region 2 with (go_at_call 153; (with_reducible refine HA.out.mono ?_); rintro e w1 ⟨rfl,hw1⟩; have HB1:=Lib.hid hw1; clear hw1)
  have HN1:=Lib.hid (HN.out.below HB1.out)
  go_wp2_with (go_at_call 73; (with_reducible refine (HT.out _ HN1.out).mono ?_); rintro e w2 ⟨⟨M,rfl⟩,hw2⟩; have HB2:=Lib.hid hw2; clear hw2)
  go_ret2
  exact ⟨⟨_,rfl,_,_,rfl⟩,HB1.out.trans (HB2.out.mono HB1.out.size)⟩
 ·rw [if_neg hc] at hA
  have HA:=Lib.hid hA
  have HC:=Lib.hid hc
  clear hA hN hc hX hF h hnd
  go_enter Tryz.func114,Tryz.ntmps114
  go_wp2_with (go_at_call 153; (with_reducible refine HA.out.mono ?_); rintro e w1 ⟨rfl,hw1⟩; have HB1:=Lib.hid hw1; clear hw1)
  go_ret2
  exact ⟨rfl,HB1.out⟩
end
def DqPost (w:World) (r:Nat × Nat) (e:Ending) (w':World):Prop:=e = .returned (.tuple #[.float .f64 r.1,.int .i64 ((r.2:Nat):Int)])∧Below w.heap.size w w'
theorem dparse_any (B:Nat) (s:ByteArray) (w:World) (hN:DE B w):Calls Tryz.prog 81 #[.string s] w (DqPost w (decR s.data.toList)):=by
 have CR:=right_any s w
 cases hr:rightL s.data.toList with
 | false =>
  have hd:decR s.data.toList=(0,160):=by unfold decR; rw [hr,if_neg (by decide)]
  rw [hd]
  rw [hr] at CR
  have HR:=Lib.hid CR
  clear CR hd hr hN
  go_enter Tryz.func81,Tryz.ntmps81
  go_wp2_with (go_at_call 113; (with_reducible refine HR.out.mono ?_); rintro e w1 ⟨rfl,hw1⟩; have HB1:=Lib.hid hw1; clear hw1)
  go_ret2
  exact ⟨rfl,HB1.out⟩
 | true =>
  obtain ⟨hrf,hnd⟩:=right_rf s hr
  have CP:=fun W hW=>sparse_any B s _ _ _ _ hrf hnd W hW
  obtain ⟨r,hrr⟩:∃ r,decR s.data.toList=r:=⟨_,rfl⟩
  have hd:r=if infX <= decW s.data.toList then (0,10) else if decW s.data.toList=0 then (0,0) else (sgn (sgL s.data.toList) (decW s.data.toList),0):=by
   rw [<- hrr]
   unfold decR
   rw [hr,if_pos rfl]
  rw [hrr]
  rw [hr] at CR
  have e0:nx (msL s.data.toList).N (dpX (msL s.data.toList)+exL s.data.toList-(msL s.data.toList).nd)=decW s.data.toList:=rfl
  rw [e0] at CP
  obtain ⟨X,hX⟩:∃ X,decW s.data.toList=X:=⟨_,rfl⟩
  obtain ⟨neg,hneg⟩:∃ neg,sgL s.data.toList=neg:=⟨_,rfl⟩
  rw [hX,hneg] at CP hd
  obtain ⟨F,hF⟩:∃ F,sgn neg (min X infX)=F:=⟨_,rfl⟩
  rw [hF] at CP
  have HR:=Lib.hid CR
  have HN:=Lib.hid hN
  clear hrf hnd hrr hr CR hN e0 hX hneg
  by_cases hc:infX <= X
  ·rw [if_pos hc] at hd
   subst hd
   simp only [if_pos hc] at CP
   have HP:=Lib.hid CP
   clear CP hc hF
   go_enter Tryz.func81,Tryz.ntmps81
   go_upto_region 3 with (go_at_call 113; (with_reducible refine HR.out.mono ?_); rintro e w1 ⟨rfl,hw1⟩; have HB1:=Lib.hid hw1; clear hw1)
   have HN1:=Lib.hid (HN.out.below HB1.out)
   go_wp2_with (go_at_call 114; (with_reducible refine (HP.out _ HN1.out).mono ?_); rintro e w2 ⟨⟨E,rfl,t,p,rfl⟩,hw2⟩; have HB2:=Lib.hid hw2; clear hw2)
   go_ret2
   exact ⟨rfl,HB1.out.trans (HB2.out.mono HB1.out.size)⟩
  ·rw [if_neg hc] at hd
   simp only [if_neg hc] at CP
   have hXi:X<infW:=by have:infX=infW:=rfl; omega
   rw [Nat.min_eq_left (by omega)] at hF
   have hfo:=fo_0 neg X hXi
   rw [hF] at hfo
   have HP:=Lib.hid CP
   by_cases h0:X=0
   ·rw [if_pos h0] at hd
    subst hd
    rw [decide_eq_true h0] at hfo
    clear CP hc hF h0 hXi
    go_enter Tryz.func81,Tryz.ntmps81
    go_upto_region 3 with (go_at_call 113; (with_reducible refine HR.out.mono ?_); rintro e w1 ⟨rfl,hw1⟩; have HB1:=Lib.hid hw1; clear hw1)
    have HN1:=Lib.hid (HN.out.below HB1.out)
    go_wp2_with (go_at_call 114; (with_reducible refine (HP.out _ HN1.out).mono ?_); rintro e w2 ⟨⟨E,rfl,rfl⟩,hw2⟩; have HB2:=Lib.hid hw2; clear hw2)
    go_ret2
    exact ⟨rfl,HB1.out.trans (HB2.out.mono HB1.out.size)⟩
   ·rw [if_neg h0,hF] at hd
    subst hd
    rw [decide_eq_false h0] at hfo
    clear CP hc hF h0 hXi
    go_enter Tryz.func81,Tryz.ntmps81
    go_upto_region 3 with (go_at_call 113; (with_reducible refine HR.out.mono ?_); rintro e w1 ⟨rfl,hw1⟩; have HB1:=Lib.hid hw1; clear hw1)
    have HN1:=Lib.hid (HN.out.below HB1.out)
    go_wp2_with (go_at_call 114; (with_reducible refine (HP.out _ HN1.out).mono ?_); rintro e w2 ⟨⟨E,rfl,rfl⟩,hw2⟩; have HB2:=Lib.hid hw2; clear hw2)
    go_ret2
    exact ⟨rfl,HB1.out.trans (HB2.out.mono HB1.out.size)⟩
end Go.Proofs.YtejmbbkklhpnaaaGreatDoor.rdf

/- decimal.Parse at any text, as the other texts ask for it. Condition: seven of the library's variables hold what the program's text lays. -/
namespace Go.Proofs.YtejmbbkklhpnaaaGreatDoor.flow
open Go.RowKit
open parw
open rdf
def Laid (B:Nat) (w:World):Prop:=DE B w
theorem Laid.stable (B:Nat):Stable (Laid B) B:=by
 intro w w' row h hg hr
 have hk:∀ (p:Addr) (v:Value),p.block<B -> w.cell? p=some v -> w'.cell? p=some v:=fun p v hp hv =>
  (World.cell?_of_block (hg.block p.block (World.block_lt_of_cell? w _ hv) (fun e=>by have:=hr _ e.symm; omega))).trans hv
 obtain ⟨v,h1,h2⟩:=h.er
 exact ⟨⟨h.ev.keep hk,h.ft.keep hk,fun i hi=>by
  obtain ⟨a1,a2,a3,a4⟩:=h.pt i hi
  exact ⟨a1,a2,hk _ _ h.pb a3,hk _ _ h.pb a4⟩,h.pb,h.ob,hk _ _ h.ob h.op,Nat.le_trans h.lt hg.size⟩,h.eb,v,hk _ _ h.eb h1,h2⟩
def decE (s:ByteArray):Nat × Nat:=decR s.data.toList
theorem dparse_e (B:Nat) (s:ByteArray) (w:World) (h:Laid B w):Calls Tryz.prog 81 #[.string s] w (DecPost (decE s) w):=dparse_any B s w h
theorem dec_ok (B:Nat) (ts:List PTok):DecOk decE (Laid B) ts:=fun t _ _ w hw=>dparse_e B t.text w hw
end Go.Proofs.YtejmbbkklhpnaaaGreatDoor.flow

/- A program's text, read: lexed, parsed and checked, it is the program. What any text that is read says: a program, or an error and its place. Plain; no condition but those stated. -/
namespace Go.Proofs.YtejmbbkklhpnaaaGreatDoor.bkr
open Go.RowKit
open lexm (Tok toksC lexRes lexT errOf toksOf lexT_len toksC_app flat_app firstL firstL_le firstL_pos lexT_nil lexT_bad lexT_skip lexT_tok)
open parw (PTok PArg PStmt RSt kindF formL parseRes parseL stmtS argsS argS numS wordS nextS)
open nodew
open chkw (checkS checkS_front checkS_bad checkS_right)
open prnw (hiP loP prT prOk nmB bA bA_list numsK subsN textT textP right_at node_facts atN atN_eq)
open bkm
open bkp
open bkk
open flow (decE)
def pt (t:Tok):PTok:=⟨t.kind,(t.pos:Int),⟨t.text.toArray⟩⟩
def key (t:Tok):Nat × List UInt8:=(t.kind,t.text)
theorem toks_spread:∀ (ps:List (Nat × List UInt8)) (i:Nat),(∀ p∈ps,p.1≠0) -> ∃ (qs:List Tok) (j:Nat),toksC (spread ps) i=qs ++ [⟨4,j,[10]⟩]∧qs.map key=ps
 | [],i,_=>⟨[],i,rfl,rfl⟩
 | p :: r,i,h=>by
  obtain ⟨qs,j,h1,h2⟩:=toks_spread r (i+1+p.2.length) (fun q hq=>h q (by simp [hq]))
  refine ⟨⟨p.1,i+1,p.2⟩ :: qs,j,?_,by rw [List.map_cons,h2]; rfl⟩
  show (if p.1=0 then _ else _)=_
  rw [if_neg (h p (by simp)),List.cons_append,<- h1]
  rfl
theorem kind_word:∀ k,1 <= k -> k <= 6 -> kindF (prnw.wordF k)=k:=by
 intro k h1 h2
 have:k=1∨k=2∨k=3∨k=4∨k=5∨k=6:=by omega
 rcases this with rfl | rfl | rfl | rfl | rfl | rfl <;> decide +kernel
theorem form_kind (n:Nd) (h:1 <= n.kind∧n.kind <= 6):formL n.kind=(numsK n.kind).map (fun _=>true) ++ (subsN n).map (fun _=>false):=by
 have:n.kind=1∨n.kind=2∨n.kind=3∨n.kind=4∨n.kind=5∨n.kind=6:=by omega
 unfold subsN
 rcases this with e | e | e | e | e | e <;> rw [e] <;> rfl
theorem dec_pt (t:Tok):decE (pt t).text=rdf.decR t.text:=by
 unfold decE pt
 simp only
theorem fit_names:∀ (us:List Int) (ts:List Tok),ts.map key=us.map (fun a=>(1,110 :: Lib.itoa a)) -> fitB decE (us.map fun _=>false) (ts.map pt)∧(argsOf decE (us.map fun _=>false) (ts.map pt)).map (·.name)=us.map nmB
 | [],[],_=>⟨trivial,rfl⟩
 | [],_ :: _,h=>by simp at h
 | _ :: _,[],h=>by simp at h
 | a :: us,t :: ts,h=>by
  simp only [List.map_cons,List.cons.injEq] at h
  obtain ⟨h1,h2⟩:=fit_names us ts h.2
  have hk:=congrArg Prod.fst h.1
  have ht:=congrArg Prod.snd h.1
  refine ⟨⟨hk,(fun e=>by cases e),h1⟩,?_⟩
  show (⟨t.text.toArray⟩:ByteArray) :: _=_
  rw [h2,show t.text=110 :: Lib.itoa a from ht]
  rfl
theorem fit_rest:∀ (xs:List Nat) (us:List Int) (ts:List Tok),ts.map key=xs.map (fun x=>(2,prT hiP loP x)) ++ us.map (fun a=>(1,110 :: Lib.itoa a)) -> (∀ x∈xs,prOk x=true∧x<18446744073709551616) ->
  fitB decE (xs.map (fun _=>true) ++ us.map fun _=>false) (ts.map pt) ∧ ∃ bs ws,argsOf decE (xs.map (fun _=>true) ++ us.map fun _=>false) (ts.map pt)=bs ++ ws∧bs.map (·.num)=xs∧ws.map (·.name)=us.map nmB
 | [],us,ts,h,_=>by
  obtain ⟨h1,h2⟩:=fit_names us ts h
  exact ⟨h1,[],_,rfl,rfl,h2⟩
 | x :: xs,us,[],h,_=>by simp at h
 | x :: xs,us,t :: ts,h,ho=>by
  simp only [List.map_cons,List.cons_append,List.cons.injEq] at h
  obtain ⟨h1,bs,ws,h2,h3,h4⟩:=fit_rest xs us ts h.2 (fun y hy=>ho y (by simp [hy]))
  have hk:=congrArg Prod.fst h.1
  have ht:=congrArg Prod.snd h.1
  have hx:=ho x (by simp)
  have hd:decE (pt t).text=(x,0):=by
   rw [dec_pt,show t.text=prT hiP loP x from ht]
   exact rdf.read_prT x hx.2 hx.1
  refine ⟨⟨hk,fun _=>by rw [hd],h1⟩,⟨(pt t).pos,x,⟨#[]⟩⟩ :: bs,ws,?_,by rw [List.map_cons,h3],h4⟩
  show (⟨(pt t).pos,(decE (pt t).text).1,⟨#[]⟩⟩:PArg) :: _=_
  rw [hd,List.cons_append,<- h2]
  rfl
theorem line_grp (n:Nd) (hn:n.ok) (k:Nat) (hk:k<4096) (h:nodeOk n k=true) (i:Nat):∃ g:Grp,(toksC (lineC n k) i).map pt=g.toks∧g.Ok decE∧St n k (g.st decE):=by
 obtain ⟨hkd,-,-⟩:=node_facts h (by omega)
 have hk6:1 <= n.kind∧n.kind <= 6:=by omega
 have hpc:=piecesL_ok n hn k hk h
 obtain ⟨qs,j,h1,h2⟩:=toks_spread (piecesL n) (i+(110 :: Lib.itoa (k:Int)).length) (fun p hp=>(hpc p hp).kd.1)
 have e0:toksC (lineC n k) i=⟨1,i,110 :: Lib.itoa (k:Int)⟩ :: (qs ++ [⟨4,j,[10]⟩]):=by
  rw [<- h1]
  rfl
 unfold piecesL at h2
 match qs,h2 with
 | b :: c :: ts,h2 =>
  simp only [List.map_cons,List.cons.injEq] at h2
  obtain ⟨hb,hc,hts⟩:=h2
  have hts':ts.map key=((numsK n.kind).map n.f).map (fun x=>(2,prT hiP loP x)) ++ (subsN n).map (fun a=>(1,110 :: Lib.itoa a)):=by
   rw [hts,List.map_map]
   rfl
  obtain ⟨f1,bs,ws,f2,f3,f4⟩:=fit_rest ((numsK n.kind).map n.f) (subsN n) ts hts' (fun x hx=>by
   obtain ⟨q,hq,rfl⟩:=List.mem_map.1 hx
   rw [(fpm.nums_offs n.kind).resolve_right (fun e=>e hk6)] at hq
   have:=fpm.told_pr n hn k h q hq
   exact ⟨this.1,by omega⟩)
  have hcw:(pt c).text=prnw.wordF n.kind:=by
   show (⟨c.text.toArray⟩:ByteArray)=_
   rw [show c.text=(prnw.wordF n.kind).data.toList from congrArg Prod.snd hc]
  have hkc:kindF (pt c).text=n.kind:=by rw [hcw]; exact kind_word _ hk6.1 hk6.2
  have hfm:formL n.kind=((numsK n.kind).map n.f).map (fun _=>true) ++ (subsN n).map (fun _=>false):=by
   rw [form_kind n hk6,List.map_map]
   rfl
  refine ⟨⟨[],pt ⟨1,i,110 :: Lib.itoa (k:Int)⟩,pt b,pt c,ts.map pt,pt ⟨4,j,[10]⟩⟩,?_,⟨(fun t ht=>by cases ht),rfl,congrArg Prod.fst hb,congrArg Prod.fst hc,by rw [hkc]; omega,by rw [hkc,hfm]; exact f1,rfl⟩,⟨rfl,hkc,?_⟩⟩
  ·rw [e0]
   simp [Grp.toks]
  ·refine ⟨bs,ws,?_,f3,f4⟩
   show argsOf decE (formL (kindF (pt c).text)) (ts.map pt)=_
   rw [hkc,hfm]
   exact f2
theorem text_grps (l:List Nd) (hok:∀ n∈l,n.ok) (h:rightP l=true):∀ k,k <= l.length -> ∃ gs:List Grp,gs.length=k∧(toksC (textC l k) 0).map pt=gs.flatMap Grp.toks∧(∀ g∈gs,g.Ok decE) ∧ ∀ i (h1:i<gs.length),St (atN l i) i (gs[i].st decE)
 | 0,_=>⟨[],rfl,rfl,(fun g hg=>by cases hg),(fun i h1=>by simp at h1)⟩
 | k+1,hk=>by
  obtain ⟨gs,a1,a2,a3,a4⟩:=text_grps l hok h k (by omega)
  obtain ⟨hl4,hl0,hall⟩:=right_at h
  have hat:atN l k=l[k]'(by omega):=atN_eq l k (by omega)
  have hno:nodeOk (atN l k) k=true:=by rw [hat]; exact hall k (by omega)
  have hnk:(atN l k).ok:=by rw [hat]; exact hok _ (List.getElem_mem _)
  obtain ⟨g,b1,b2,b3⟩:=line_grp (atN l k) hnk k (by omega) hno (0+(lexm.flat (textC l k)).length)
  refine ⟨gs ++ [g],by rw [List.length_append,a1]; rfl,?_,fun x hx => ?_,fun i h1 => ?_⟩
  ·show (toksC (textC l k ++ lineC (atN l k) k) 0).map pt=_
   rw [toksC_app,List.map_append,a2,b1,List.flatMap_append]
   simp
  ·rcases List.mem_append.1 hx with hx | hx
   ·exact a3 x hx
   ·rw [List.mem_singleton.1 hx]; exact b2
  ·rw [List.length_append,List.length_singleton] at h1
   by_cases hi:i<gs.length
   ·rw [List.getElem_append_left hi]
    exact a4 i hi
   ·obtain rfl:i=k:=by omega
    rw [List.getElem_append_right (by omega)]
    simpa [a1] using b3
def readL (t:List UInt8):List Nd × Int × Nat :=
 if (lexRes t).2.2=0 then
  (if (parseRes decE ((lexRes t).1.map pt)).2.2=0 then checkS (parseRes decE ((lexRes t).1.map pt)).1 else ([],(parseRes decE ((lexRes t).1.map pt)).2.1,(parseRes decE ((lexRes t).1.map pt)).2.2))
 else ([],(lexRes t).2.1,(lexRes t).2.2)
theorem read_text (l:List Nd) (hok:∀ n∈l,n.ok) (h:rightP l=true) (hs:l.length <= 2000) :
  ∃ T ss,lexRes (textT hiP loP l)=(T,0,0)∧parseRes decE (T.map pt)=(ss,0,0)∧checkS ss=(l,0,0):=by
 obtain ⟨gs,a1,a2,a3,a4⟩:=text_grps l hok h l.length (Nat.le_refl _)
 refine ⟨_,_,lex_text l hok h hs,by rw [a2]; exact parse_gs gs a3,?_⟩
 refine chk_all l hok h _ (by rw [List.length_map,a1]) fun k h1 h2 => ?_
 rw [List.getElem_map]
 have:=a4 k (by omega)
 rw [atN_eq l k h1] at this
 exact this
theorem readL_text (l:List Nd) (hok:∀ n∈l,n.ok) (h:rightP l=true) (hs:l.length <= 2000):readL (textT hiP loP l)=(l,0,0):=by
 obtain ⟨T,ss,h1,h2,h3⟩:=read_text l hok h hs
 unfold readL
 rw [h1,if_pos rfl,h2,if_pos rfl,h3]
end Go.Proofs.YtejmbbkklhpnaaaGreatDoor.bkr

/- What any text says that is read: how many tokens, which errors, which places. Plain; no condition but those stated. -/
namespace Go.Proofs.YtejmbbkklhpnaaaGreatDoor.bkr
open Go.RowKit
open lexm (Tok toksC lexRes lexT errOf toksOf lexT_len firstL firstL_le firstL_pos lexT_nil lexT_bad lexT_skip lexT_tok)
open parw (PTok PArg PStmt RSt kindF kindF_le formL parseRes parseL parseL_end endOf stmtS argsS argS numS wordS nextS nextS_er nextS_nil nextS_yes nextS_no)
open nodew
open chkw (checkS checkS_front checkS_bad checkS_right chkA chkA_eq nodeS numsS namesS)
open flow (decE)
theorem lexT_bd (n:Nat):∀ (l:List UInt8) (i kl:Nat),l.length <= n -> ∀ x∈lexT l i kl,x.1.pos+x.1.text.length <= i+l.length:=by
 induction n with
 | zero =>
  intro l i kl hn x hx
  obtain rfl:l=[]:=List.eq_nil_of_length_eq_zero (by omega)
  rw [lexT_nil] at hx
  split at hx
  ·cases hx
  ·rw [List.mem_singleton.1 hx]
   exact Nat.le_refl _
 | succ n ih =>
  intro l i kl hn x hx
  by_cases hl:l=[]
  ·subst hl
   rw [lexT_nil] at hx
   split at hx
   ·cases hx
   ·rw [List.mem_singleton.1 hx]
    exact Nat.le_refl _
  ·obtain ⟨⟨k,m,b⟩,hq⟩:∃ q,firstL l=q:=⟨_,rfl⟩
   have hle:=firstL_le l
   have hpos:=firstL_pos hl
   rw [hq] at hle hpos
   simp only at hle hpos
   have htl:(l.take m).length <= m:=by rw [List.length_take]; omega
   cases b with
   | false =>
    rw [lexT_bad hl hq] at hx
    rw [List.mem_singleton.1 hx]
    show i+(l.take m).length <= _
    omega
   | true =>
    have hm:=hpos (.inl rfl)
    have hd:(l.drop m).length=l.length-m:=List.length_drop
    by_cases hk:k=0
    ·subst hk
     rw [lexT_skip hl hq] at hx
     have:=ih (l.drop m) (i+m) kl (by omega) x hx
     omega
    ·rw [lexT_tok hl hq hk] at hx
     rcases List.mem_cons.1 hx with rfl | hx
     ·show i+(l.take m).length <= _
      omega
     ·have:=ih (l.drop m) (i+m) k (by omega) x hx
      omega
theorem mem_toks {t:Tok}:∀ {xs:List (Tok × Bool)},t∈toksOf xs -> (t,true)∈xs
 | [],h=>by cases h
 | (u,true) :: r,h=>by
  rcases List.mem_cons.1 h with rfl | h
  ·simp
  ·simp [mem_toks h]
 | (u,false) :: r,h=>by cases h
theorem mem_err {p:Nat}:∀ {xs:List (Tok × Bool)},errOf xs=some p -> ∃ x∈xs,x.1.pos=p
 | [],h=>by cases h
 | (u,true) :: r,h=>by
  obtain ⟨x,hx,hp⟩:=mem_err (xs:=r) h
  exact ⟨x,by simp [hx],hp⟩
 | (u,false) :: r,h=>⟨(u,false),by simp,by injection h⟩
theorem lex_facts (l:List UInt8):(lexRes l).2.1 <= max l.length 1048576∧(l.length <= 1048576 -> (lexRes l).2.1 <= l.length)∧(1048576<l.length -> (lexRes l).2.2≠0)∧(lexRes l).2.2 <= 151∧(lexRes l).1.length <= l.length+1∧(lexRes l).1.length <= 1048577∧((lexRes l).2.2≠0 -> (lexRes l).1=[]) ∧ ∀ t∈(lexRes l).1,t.pos+t.text.length <= l.length:=by
 unfold lexRes
 by_cases h:1048576<l.length
 ·rw [if_pos h]
  exact ⟨by simp only; omega,fun h'=>absurd h' (by omega),fun _=>by decide,by decide,Nat.zero_le _,Nat.zero_le _,fun _=>rfl,fun t ht=>by cases ht⟩
 ·rw [if_neg h]
  have hb:=lexT_bd l.length l 0 4 (Nat.le_refl _)
  cases he:errOf (lexT l 0 4) with
  | some p =>
   obtain ⟨x,hx,hp⟩:=mem_err he
   have:=hb x hx
   exact ⟨by simp only; omega,fun _=>by simp only; omega,fun h'=>absurd h' h,Nat.le_of_ble_eq_true rfl,Nat.zero_le _,Nat.zero_le _,fun _=>rfl,fun t ht=>by cases ht⟩
  | none =>
   have hlen:(toksOf (lexT l 0 4)).length <= l.length+1:=by
    have h1:=lexT_len l 0 4
    have h2:∀ xs:List (Tok × Bool),(toksOf xs).length <= xs.length:=by
     intro xs
     induction xs with
     | nil=>exact Nat.le_refl _
     | cons x r ih =>
      obtain ⟨u,b⟩:=x
      cases b with
      | true=>exact Nat.succ_le_succ ih
      | false=>exact Nat.zero_le _
    exact Nat.le_trans (h2 _) h1
   refine ⟨by simp only; omega,fun _=>by simp only; omega,fun h'=>absurd h' h,Nat.le_of_ble_eq_true rfl,hlen,by simp only; omega,fun h'=>absurd rfl h',fun t ht => ?_⟩
   have:=hb _ (mem_toks ht)
   simpa using this
structure Inv (M:Int) (s:RSt):Prop where
 er:s.er <= 171
 pl:0 <= s.pl∧s.pl <= M
 ts:∀ t∈s.ts,0 <= t.pos∧t.pos <= M
structure ArgG (M:Int) (a:PArg):Prop where
 num:a.num<18446744073709551616
 pos:0 <= a.pos∧a.pos <= M
structure StG (M:Int) (s:PStmt):Prop where
 kind:s.kind <= 6
 pos:0 <= s.pos∧s.pos <= M
 args:∀ a∈s.args,ArgG M a
theorem dec_facts (s:ByteArray):(decE s).1<18446744073709551616∧(decE s).2 <= 160:=by
 unfold decE rdf.decR
 have hi:dmx.infX=9218868437227405312:=rfl
 split
 ·split
  ·exact ⟨by decide,by decide⟩
  ·split
   ·exact ⟨by decide,by decide⟩
   ·refine ⟨?_,by simp only; omega⟩
    unfold dcw.sgn
    simp only
    split <;> omega
 ·exact ⟨by decide,by decide⟩
variable {M en:Int}
theorem next_inv {s:RSt} (h:Inv M s) (hen:0 <= en∧en <= M) (k:Nat):Inv M (nextS en s k).2∧0 <= (nextS en s k).1.pos∧(nextS en s k).1.pos <= M:=by
 have hM:0 <= M:=by omega
 by_cases h0:s.er=0
 ·cases hts:s.ts with
  | nil =>
   rw [nextS_nil h0 hts]
   exact ⟨⟨Nat.le_of_ble_eq_true rfl,hen,h.ts⟩,Int.le_refl _,hM⟩
  | cons t r =>
   have ht:=h.ts t (by rw [hts]; simp)
   by_cases hk:t.kind=k
   ·rw [nextS_yes h0 hts hk]
    exact ⟨⟨h.er,h.pl,fun u hu=>h.ts u (by rw [hts]; simp [show u∈r from hu])⟩,ht⟩
   ·rw [nextS_no h0 hts hk]
    exact ⟨⟨Nat.le_of_ble_eq_true rfl,ht,h.ts⟩,Int.le_refl _,hM⟩
 ·rw [nextS_er h0]
  exact ⟨h,Int.le_refl _,hM⟩
theorem fail_inv {s:RSt} (h:Inv M s) (a:Int) (ha:0 <= a∧a <= M) (e:Nat) (he:e <= 171):Inv M (s.fail a e):=by
 unfold RSt.fail
 split
 ·exact ⟨he,ha,h.ts⟩
 ·exact h
theorem arg_inv {s:RSt} (h:Inv M s) (hen:0 <= en∧en <= M) (b:Bool):Inv M (argS decE en b s).2∧ArgG M (argS decE en b s).1:=by
 have hM:0 <= M:=by omega
 cases b with
 | false =>
  obtain ⟨h1,h2⟩:=next_inv h hen 1
  exact ⟨h1,⟨(by decide:(0:Nat)<18446744073709551616),h2⟩⟩
 | true =>
  obtain ⟨h1,h2⟩:=next_inv h hen 2
  show Inv M (numS decE en s).2∧ArgG M (numS decE en s).1
  unfold numS
  split
  ·obtain ⟨d1,d2⟩:=dec_facts (nextS en s 2).1.text
   refine ⟨?_,⟨d1,h2⟩⟩
   simp only
   split
   ·exact h1
   ·exact fail_inv h1 _ h2 _ (by omega)
  ·exact ⟨h1,⟨(by decide:(0:Nat)<18446744073709551616),Int.le_refl _,hM⟩⟩
theorem args_inv (hen:0 <= en∧en <= M):∀ (bs:List Bool) {s:RSt},Inv M s -> Inv M (argsS decE en bs s).2 ∧ ∀ a∈(argsS decE en bs s).1,ArgG M a
 | [],s,h=>⟨h,fun a ha=>by cases ha⟩
 | b :: r,s,h=>by
  obtain ⟨h1,h2⟩:=arg_inv h hen b
  obtain ⟨h3,h4⟩:=args_inv hen r h1
  refine ⟨h3,fun a ha => ?_⟩
  rcases List.mem_cons.1 ha with rfl | ha
  ·exact h2
  ·exact h4 a ha
theorem stmt_inv {s:RSt} (h:Inv M s) (hen:0 <= en∧en <= M):Inv M (stmtS decE en s).2∧StG M (stmtS decE en s).1:=by
 unfold stmtS
 simp only
 obtain ⟨a1,a2⟩:=next_inv h hen 1
 obtain ⟨b1,b2⟩:=next_inv a1 hen 3
 obtain ⟨c1,c2⟩:=next_inv b1 hen 1
 have d1:Inv M (if kindF (nextS en (nextS en (nextS en s 1).2 3).2 1).1.text=0 then (nextS en (nextS en (nextS en s 1).2 3).2 1).2.fail (nextS en (nextS en (nextS en s 1).2 3).2 1).1.pos 171 else (nextS en (nextS en (nextS en s 1).2 3).2 1).2):=by
  split
  ·exact fail_inv c1 _ c2 _ (by decide)
  ·exact c1
 obtain ⟨e1,e2⟩:=args_inv hen (formL (kindF (nextS en (nextS en (nextS en s 1).2 3).2 1).1.text)) d1
 obtain ⟨f1,_⟩:=next_inv e1 hen 4
 exact ⟨f1,⟨kindF_le _,a2,e2⟩⟩
theorem parseL_inv (hen:0 <= en∧en <= M):∀ (f:Nat) (s:RSt) (out:List PStmt),Inv M s -> (∀ x∈out,StG M x) -> Inv M (parseL decE en f s out).2 ∧ ∀ x∈(parseL decE en f s out).1,StG M x
 | 0,s,out,h,ho=>⟨h,ho⟩
 | f+1,s,out,h,ho=>by
  unfold parseL
  by_cases h0:s.er=0
  ·rw [if_pos h0]
   cases hts:s.ts with
   | nil=>exact ⟨h,ho⟩
   | cons t r =>
    simp only
    by_cases hk:t.kind=4
    ·rw [if_pos hk]
     exact parseL_inv hen f _ out ⟨h.er,h.pl,fun u hu=>h.ts u (by rw [hts]; simp [show u∈r from hu])⟩ ho
    ·rw [if_neg hk]
     obtain ⟨a1,a2⟩:=stmt_inv h hen
     refine parseL_inv hen f _ _ a1 fun x hx => ?_
     rcases List.mem_append.1 hx with hx | hx
     ·exact ho x hx
     ·rw [List.mem_singleton.1 hx]; exact a2
  ·rw [if_neg h0]
   exact ⟨h,ho⟩
theorem parse_facts (M:Int) (hM:0 <= M) (hM2:M <= 4611686018427387904) (ts:List PTok) (h:∀ t∈ts,0 <= t.pos∧t.pos+t.text.size <= M) :
  (parseRes decE ts).2.2 <= 171∧(0 <= (parseRes decE ts).2.1∧(parseRes decE ts).2.1 <= M)∧((parseRes decE ts).2.2≠0 -> (parseRes decE ts).1=[]) ∧ ∀ x∈(parseRes decE ts).1,StG M x:=by
 have hen:0 <= endOf ts∧endOf ts <= M:=by
  unfold endOf
  cases hl:ts.getLast? with
  | none=>exact ⟨Int.le_refl _,hM⟩
  | some t =>
   have:=h t (List.mem_of_getLast? hl)
   have hw:wrap64 (t.pos+(t.text.size:Int))=t.pos+(t.text.size:Int):=IntWalk.wrap64_in _ (by omega)
   simp only
   rw [hw]
   omega
 obtain ⟨a1,a2⟩:=parseL_inv hen (ts.length+1) ⟨ts,0,0⟩ [] ⟨Nat.le_of_ble_eq_true rfl,⟨Int.le_refl _,hM⟩,fun t ht=>by have:=h t ht; omega⟩ (fun x hx=>by cases hx)
 unfold parseRes
 simp only
 split
 ·exact ⟨Nat.le_of_ble_eq_true rfl,⟨Int.le_refl _,hM⟩,fun h'=>absurd rfl h',a2⟩
 ·exact ⟨a1.er,a1.pl,fun _=>rfl,fun x hx=>by cases hx⟩
theorem nums_pl:∀ (fl:List (Nat × Nat × Nat)) (l:List PArg) (n:Nd),(∀ a∈l,ArgG M a) -> 0 <= M -> (0 <= (numsS fl l n).2.1∧(numsS fl l n).2.1 <= M)∧(numsS fl l n).2.2 <= 184
 | [],l,n,_,hM=>by
  have:numsS [] l n=(n,0,0):=by cases l <;> rfl
  rw [this]
  exact ⟨⟨Int.le_refl _,hM⟩,Nat.le_of_ble_eq_true rfl⟩
 | d :: r,[],n,_,hM=>⟨⟨Int.le_refl _,hM⟩,by show (0:Nat) <= 184; decide⟩
 | d :: r,a :: q,n,h,hM=>by
  show (0 <= (if withinF d.2.1 d.2.2 a.num then numsS r q (chkw.Nd.put n d.1 a.num) else (chkw.Nd.put n d.1 a.num,a.pos,184)).2.1∧_)∧_
  have e:numsS (d :: r) (a :: q) n=if withinF d.2.1 d.2.2 a.num then numsS r q (chkw.Nd.put n d.1 a.num) else (chkw.Nd.put n d.1 a.num,a.pos,184):=rfl
  rw [e]
  split
  ·exact nums_pl r q _ (fun b hb=>h b (by simp [hb])) hM
  ·exact ⟨(h a (by simp)).pos,by show (184:Nat) <= 184; decide⟩
theorem names_pl (look:ByteArray -> Option Nat):∀ (l:List PArg) (i:Nat) (n:Nd),(∀ a∈l,ArgG M a) -> 0 <= M -> (0 <= (namesS look l i n).2.1∧(namesS look l i n).2.1 <= M)∧(namesS look l i n).2.2 <= 184
 | [],i,n,_,hM=>⟨⟨Int.le_refl _,hM⟩,by show (0:Nat) <= 184; decide⟩
 | a :: q,i,n,h,hM=>by
  unfold namesS
  split
  ·exact ⟨(h a (by simp)).pos,by show (183:Nat) <= 184; decide⟩
  ·exact names_pl look q _ _ (fun b hb=>h b (by simp [hb])) hM
theorem node_pl (look:ByteArray -> Option Nat) (s:PStmt) (h:StG M s) (hM:0 <= M):(0 <= (nodeS look s).2.1∧(nodeS look s).2.1 <= M)∧(nodeS look s).2.2 <= 184:=by
 unfold nodeS
 split
 ·exact ⟨h.pos,by show (170:Nat) <= 184; decide⟩
 ·split
  ·exact names_pl look _ _ _ (fun a ha=>h.args a (List.mem_of_mem_drop ha)) hM
  ·exact nums_pl _ _ _ h.args hM
theorem chkA_pl (hM:0 <= M):∀ (l:List PStmt) (ents:List (ByteArray × Nat)) (out:List Nd),(∀ s∈l,StG M s) -> (0 <= (chkA ents out l).2.1∧(chkA ents out l).2.1 <= M)∧(chkA ents out l).2.2 <= 184
 | [],_,_,_=>⟨⟨Int.le_refl _,hM⟩,by show (0:Nat) <= 184; decide⟩
 | s :: r,ents,out,h=>by
  have hs:=h s (by simp)
  rw [chkA_eq]
  split
  ·exact ⟨hs.pos,by show (181:Nat) <= 184; decide⟩
  ·split
   ·exact ⟨hs.pos,by show (182:Nat) <= 184; decide⟩
   ·split
    ·exact chkA_pl hM r _ _ (fun x hx=>h x (by simp [hx]))
    ·exact node_pl _ s hs hM
theorem check_facts (hM:0 <= M) (l:List PStmt) (h:∀ s∈l,StG M s):(0 <= (checkS l).2.1∧(checkS l).2.1 <= M)∧(checkS l).2.2 <= 184:=by
 unfold checkS
 split
 ·exact ⟨⟨Int.le_refl _,hM⟩,by show (180:Nat) <= 184; decide⟩
 ·exact chkA_pl hM l [] [] h
theorem toks_in (l:List UInt8):∀ t∈(lexRes l).1.map pt,0 <= t.pos∧t.pos+t.text.size <= (l.length:Int):=fun t ht=>by
 obtain ⟨u,hu,rfl⟩:=List.mem_map.1 ht
 have:=(lex_facts l).2.2.2.2.2.2.2 u hu
 have hz:(pt u).text.size=u.text.length:=by
  show u.text.toArray.size=_
  simp
 rw [hz]
 show 0 <= (u.pos:Int)∧(u.pos:Int)+(u.text.length:Int) <= _
 omega
theorem readL_facts (l:List UInt8) (hl:l.length <= 1048576):(0 <= (readL l).2.1∧(readL l).2.1 <= (l.length:Int))∧((readL l).2.2≠0 -> (readL l).1=[]) ∧
  ((readL l).2.2=0 -> (readL l).2.1=0∧rightP (readL l).1=true ∧ ∀ n∈(readL l).1,n.ok):=by
 have hM:(0:Int) <= (l.length:Int):=by omega
 obtain ⟨x1,x2,x3,x4,x5,x6,x7,x8⟩:=lex_facts l
 obtain ⟨y1,y2,y3,y4⟩:=parse_facts (l.length:Int) hM (by omega) _ (toks_in l)
 unfold readL
 split
 ·split
  ·obtain ⟨z1,z2⟩:=check_facts hM _ y4
   refine ⟨z1,fun h=>checkS_bad _ h,fun h => ?_⟩
   obtain ⟨r1,r2,r3⟩:=checkS_right _ (fun s hs a ha=>((y4 s hs).args a ha).num) h
   exact ⟨(checkS_front _ h).2.1,r2,r1⟩
  ·rename_i hne
   exact ⟨y2,fun _=>rfl,fun h=>absurd h hne⟩
 ·rename_i hne
  exact ⟨by have:=x2 hl; simp only; omega,fun _=>rfl,fun h=>absurd h hne⟩
end Go.Proofs.YtejmbbkklhpnaaaGreatDoor.bkr

/- The walks of burnishlaw19.read and flat.Read: what they say of any text. Conditions: the library's tables hold what the row lists. -/
namespace Go.Proofs.YtejmbbkklhpnaaaGreatDoor.bkr
open Go.RowKit
open lexm (Tok toksC lexRes cellsOf)
open lexw (lex_any LexPost)
open parw
open nodew
open chkw
open flow (decE Laid Laid.stable dec_ok)
theorem pcells_pt (ts:List Tok):pcells (ts.map pt)=cellsOf ts:=by
 induction ts with
 | nil=>rfl
 | cons t r ih=>rw [List.map_cons,pcells_cons,ih]; rfl
theorem prow_own {W:World} {base:Nat} {v:Value} {ts:List Tok} (h:W.ownsRow base 31 3 v ts.length (cellsOf ts)):PRow W W.heap.size v (ts.map pt):=by
 rcases h.2 with ⟨rfl,hn⟩ | ⟨g,cap,cur,rfl,_,hgg,hc,_⟩
 ·exact ⟨none,0,by rw [List.length_map,hn],by rw [List.length_map,hn]; exact Nat.le_refl _,fun h0=>absurd (by rw [List.eq_nil_of_length_eq_zero hn]; rfl) h0⟩
 ·refine ⟨_,cap,by rw [List.length_map],by rw [List.length_map]; exact hc,fun _=>⟨g,0,rfl,(Array.getElem?_eq_some_iff.1 hgg).1,fun j u hu => ?_⟩⟩
  rw [pcells_pt] at hu
  have hc:=h.cells (g:=g) rfl j u hu
  have hadd:(⟨g,0,none⟩:Addr).add j=⟨g,j,none⟩:=by unfold Addr.add; split <;> simp_all
  rw [hadd] at hc
  rw [Nat.zero_add]
  exact hc
theorem stable_more {G:World -> Prop} {B B':Nat} (h:Stable G B) (hb:B <= B'):Stable G B':=fun w w' row hG hg hr=>h w w' row hG hg fun r e=>Nat.le_trans hb (hr r e)
theorem laid_below {B:Nat} {w w':World} (h:Laid B w) (hb:Below w.heap.size w w'):Laid B w':=Laid.stable B w w' none h (parw.grown_below hb none) (fun r e=>by cases e)
def rdP (t:List UInt8):List PStmt × Int × Nat:=parseRes decE ((lexRes t).1.map pt)
def rdL (t:List UInt8):List Nd × Bool:=((checkS (rdP t).1).1,decide ((((lexRes t).2.2:Nat):Int)+(((rdP t).2.2:Nat):Int)+(((checkS (rdP t).1).2.2:Nat):Int)=0))
theorem rdP_facts (t:List UInt8) (ht:t.length <= 4611686018427387904):(rdP t).2.2 <= 171 ∧ ∀ x∈(rdP t).1,StG (t.length:Int) x:=by
 obtain ⟨y1,y2,y3,y4⟩:=parse_facts (t.length:Int) (by omega) (by omega) _ (toks_in t)
 exact ⟨y1,y4⟩
theorem readL_rdL (t:List UInt8) (l:List Nd) (h:readL t=(l,0,0)):rdL t=(l,true):=by
 unfold readL at h
 have a1:(lexRes t).2.2=0:=by
  apply Decidable.byContradiction
  intro hn
  rw [if_neg hn] at h
  exact hn (congrArg (fun x=>x.2.2) h)
 rw [if_pos a1] at h
 have a2:(parseRes decE ((lexRes t).1.map pt)).2.2=0:=by
  apply Decidable.byContradiction
  intro hn
  rw [if_neg hn] at h
  exact hn (congrArg (fun x=>x.2.2) h)
 rw [if_pos a2] at h
 unfold rdL
 have e:checkS (rdP t).1=(l,0,0):=h
 have a2':(rdP t).2.2=0:=a2
 rw [e,a1,a2']
 rfl
theorem own_nil {W:World} {base:Nat} {e:TypeId} {k:Nat}:W.ownsRow base e k (.slice none 0 0) 0 []:=⟨by simp,.inl ⟨rfl,rfl⟩⟩
set_option maxHeartbeats 1000000 in
theorem Read_any (B:Nat) (s:ByteArray) (hs0:s.size <= 1000000000000) (w:World) (hw:Laid B w) (hB:B <= w.heap.size):Calls Tryz.prog 18 #[.string s] w (CkPost w (readL s.data.toList)):=by
 have hlen:s.data.toList.length=s.size:=by simp
 have hs:s.size <= maxLen:=by unfold maxLen; omega
 obtain ⟨x1,x2,x3,x4,x5,x6,x7,x8⟩:=lex_facts s.data.toList
 obtain ⟨y1,y2⟩:=rdP_facts s.data.toList (by omega)
 have hkd:∀ x∈(rdP s.data.toList).1,x.kind<256:=fun x hx=>by have:=(y2 x hx).kind; omega
 obtain ⟨R,hR⟩:∃ R,readL s.data.toList=R:=⟨_,rfl⟩
 have hRe:readL s.data.toList=if (lexRes s.data.toList).2.2=0 then (if (rdP s.data.toList).2.2=0 then checkS (rdP s.data.toList).1 else ([],(rdP s.data.toList).2.1,(rdP s.data.toList).2.2)) else ([],(lexRes s.data.toList).2.1,(lexRes s.data.toList).2.2):=rfl
 rw [hR] at hRe ⊢
 have CL:=Lib.hid (lex_any s hs w)
 obtain ⟨L,hL⟩:∃ L,lexRes s.data.toList=L:=⟨_,rfl⟩
 have hPe:rdP s.data.toList=parseRes decE (L.1.map pt):=by rw [<- hL]; rfl
 obtain ⟨P,hP⟩:∃ P,rdP s.data.toList=P:=⟨_,rfl⟩
 rw [hL] at x6 hRe CL
 rw [hP] at hkd hRe hPe
 obtain ⟨Lt,Lp,Le⟩:=L
 obtain ⟨Pt,Pp,Pe⟩:=P
 simp only at x6 hkd hRe hPe
 have HW:=Lib.hid (And.intro hw hB)
 have HX:=Lib.hid (And.intro x6 (And.intro hkd hPe))
 have HR:=Lib.hid hRe
 clear hw hB x1 x2 x3 x4 x5 x6 x7 x8 y1 y2 hkd hR hL hP hRe hPe hlen hs hs0
 go_enter Tryz.func18,Tryz.ntmps18
 go_wp2_with fail
 refine CL.out.mono ?_
 rintro e w1 ⟨v1,rfl,hown1,hB1⟩
 simp only at hown1 ⊢
 have hp1:=prow_own hown1
 have hz1:=hB1.size
 have hw1:=laid_below HW.out.1 hB1
 have hc1:=parse_any decE (Laid B) (Lt.map pt) (by rw [List.length_map]; have:=HX.out.1; omega) v1 w1 (stable_more (Laid.stable B) (by have:=HW.out.2; omega)) (dec_ok B _) hp1 hw1
 rw [<- HX.out.2.2] at hc1
 have B1:=Lib.hid (And.intro hB1 hz1)
 clear hown1 hp1 hw1 hB1 hz1
 by_cases e1:Le=0
 ·have HE1:=Lib.hid e1
  have q1:((Le:Int) != 0)=false:=by rw [e1]; rfl
  clear e1
  go_wp2_with fail
  refine hc1.mono ?_
  rintro e w2 ⟨v2,rfl,hrow2,hB2⟩
  simp only at hrow2 ⊢
  have B2:=Lib.hid hB2
  have hc2:=check_any w2.heap.size v2 Pt HX.out.2.1 w2 (SR.of_row hrow2) (Nat.le_refl _)
  clear hc1 hrow2 hB2
  by_cases e2:Pe=0
  ·have HE2:=Lib.hid e2
   have q2:((Pe:Int) != 0)=false:=by rw [e2]; rfl
   clear e2
   go_wp2_with fail
   refine hc2.mono ?_
   rintro e w3 ⟨v3,rfl,hown3,hB3⟩
   have B3:=Lib.hid (And.intro hown3 hB3)
   clear hc2 hown3 hB3
   go_wp2_with fail
   go_ret3
   rw [HR.out,if_pos HE1.out,if_pos HE2.out]
   obtain ⟨b1,z1⟩:=B1.out
   have b2:=B2.out
   obtain ⟨o3,b3⟩:=B3.out
   exact ⟨v3,rfl,parw.own_le o3 (by have:=b2.size; omega),(b1.trans (b2.mono z1)).trans (b3.mono (by have:=b2.size; omega))⟩
  ·have HE2:=Lib.hid e2
   have q2:((Pe:Int) != 0)=true:=by rw [bne_iff_ne]; omega
   clear e2 hc2
   go_wp2_with fail
   go_ret3
   rw [HR.out,if_pos HE1.out,if_neg HE2.out]
   obtain ⟨b1,z1⟩:=B1.out
   have b2:=B2.out
   exact ⟨_,rfl,own_nil,b1.trans (b2.mono z1)⟩
 ·have HE1:=Lib.hid e1
  have q1:((Le:Int) != 0)=true:=by rw [bne_iff_ne]; omega
  clear e1 hc1
  go_wp2_with fail
  go_ret3
  rw [HR.out,if_neg HE1.out]
  exact ⟨_,rfl,own_nil,B1.out.1⟩
end Go.Proofs.YtejmbbkklhpnaaaGreatDoor.bkr

/- burnishlaw19.awake: the chapter's examples. Condition: the library's tables hold what the row lists. -/
namespace Go.Proofs.YtejmbbkklhpnaaaGreatDoor.prnw
open Go.RowKit
open Go.Shelf
open Go.Sort
open nodew
open chkw
open flatm
def exL:Nd:=⟨1,[4602678819172646912,4607182418800017408,0,0,0,0,0,0,0,0,0,0,0,0,0,0],0,0⟩
end Go.Proofs.YtejmbbkklhpnaaaGreatDoor.prnw
