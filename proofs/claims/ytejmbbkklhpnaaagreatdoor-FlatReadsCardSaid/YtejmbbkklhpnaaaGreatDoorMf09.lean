/- The walk of parse.Parse. Conditions: as the theorem states. -/
import Derived.Test.YtejmbbkklhpnaaaGreatDoorMf08
import Derived.Deep.LoopGhost
namespace Go.Proofs.YtejmbbkklhpnaaaGreatDoor.parw
open Go.RowKit
open lexw
attribute [local go_sem] run_store_float
def stCells (s:PStmt) (v:Value):List Value:=[.string s.name,.int .i64 s.pos,.int .u8 s.kind,v]
def scells:List PStmt -> List Value -> List Value
 | s :: r,v :: q=>stCells s v ++ scells r q
 | _,_=>[]
theorem scells_snoc:∀ (l:List PStmt) (vs:List Value) (s:PStmt) (v:Value),vs.length=l.length -> scells (l ++ [s]) (vs ++ [v])=scells l vs ++ stCells s v
 | [],[],s,v,_=>by simp [scells]
 | a :: l,b :: vs,s,v,h=>by
  have:=scells_snoc l vs s v (by simpa using h)
  simp [scells,this]
 | [],b :: vs,s,v,h=>by simp at h
 | a :: l,[],s,v,h=>by simp at h
def SRow (W:World) (base:Nat) (o:Value) (l:List PStmt):Prop :=
 ∃ vs:List Value,vs.length=l.length∧W.ownsRow base 28 4 o l.length (scells l vs) ∧
  ∀ i (h1:i<vs.length) (h2:i<l.length),W.ownsRow base 40 3 vs[i] l[i].args.length (acells l[i].args)
theorem own_ne {W:World} {b1 b2 e1 e2 s1 s2 n1 n2:Nat} {v1 v2:Value} {x1 x2:List Value} (h1:W.ownsRow b1 e1 s1 v1 n1 x1) (h2:W.ownsRow b2 e2 s2 v2 n2 x2) (he:e1≠e2):v1.ownBlock=none∨v1.ownBlock≠v2.ownBlock:=by
 rcases h1.2 with ⟨rfl,_⟩ | ⟨g,cap,cur,rfl,hb,hh,_⟩
 ·exact .inl rfl
 ·refine .inr fun e => ?_
  rcases h2.2 with ⟨rfl,_⟩ | ⟨g',cap',cur',rfl,hb',hh',_⟩
  ·cases e
  ·have:g=g':=by simpa [Value.ownBlock] using e
   subst this
   rw [hh] at hh'
   injection hh' with hh'
   injection hh' with _ h _
   exact he h
theorem SRow.grown {W W':World} {base:Nat} {o:Value} {l:List PStmt} {row:Option Nat} (h:SRow W base o l) (hg:W.grownBy W' row) (hr:∀ r,row=some r -> r<base):SRow W' base o l:=by
 obtain ⟨vs,hl,ho,hv⟩:=h
 exact ⟨vs,hl,own_grown ho hg hr,fun i h1 h2=>own_grown (hv i h1 h2) hg hr⟩
theorem SRow.le {W:World} {base base':Nat} {o:Value} {l:List PStmt} (h:SRow W base o l) (hb:base' <= base):SRow W base' o l:=by
 obtain ⟨vs,hl,ho,hv⟩:=h
 exact ⟨vs,hl,own_le ho hb,fun i h1 h2=>own_le (hv i h1 h2) hb⟩
theorem below_of_grown {w w':World} (h:w.grownBy w' none):Below w.heap.size w w':=⟨h.os,h.tape,h.output,h.size,fun k hk=>h.block k hk (by simp)⟩
def parseL (dec:ByteArray -> Nat × Nat) (en:Int):Nat -> RSt -> List PStmt -> List PStmt × RSt
 | 0,s,out=>(out,s)
 | f+1,s,out =>
  if s.er=0 then
   match s.ts with
   | []=>(out,s)
   | t :: r=>if t.kind=4 then parseL dec en f { s with ts:=r } out else parseL dec en f (stmtS dec en s).2 (out ++ [(stmtS dec en s).1])
  else (out,s)
def endOf (ts:List PTok):Int:=match ts.getLast? with | some t=>wrap64 (t.pos+t.text.size) | none=>0
def parseRes (dec:ByteArray -> Nat × Nat) (ts:List PTok):List PStmt × Int × Nat :=
 let q:=parseL dec (endOf ts) (ts.length+1) ⟨ts,0,0⟩ []
 if q.2.er=0 then (q.1,0,0) else ([],q.2.pl,q.2.er)
theorem parseL_end {dec:ByteArray -> Nat × Nat} {en:Int} {f:Nat} {s:RSt} {out:List PStmt} (h:s.er≠0∨s.ts=[]):parseL dec en f s out=(out,s):=by
 cases f with
 | zero=>rfl
 | succ f =>
  unfold parseL
  rcases h with h | h
  ·rw [if_neg h]
  ·rw [h]; simp
def left (s:RSt):Nat:=s.ts.length+if s.er=0 then 1 else 0
theorem nextS_left (en:Int) (s:RSt) (k:Nat):left (nextS en s k).2 <= left s∧((nextS en s k).2.er=0 -> s.er=0)∧(s.er=0 -> left (nextS en s k).2<left s):=by
 unfold nextS left
 by_cases h0:s.er=0
 ·rcases hts:s.ts with _ | ⟨t,r⟩
  ·simp [h0]
  ·by_cases hk:t.kind=k
   ·simp [h0,hk]
   ·simp [h0,hk]
 ·simp [h0]
theorem fail_left (s:RSt) (a:Int) (e:Nat):left (s.fail a e) <= left s∧((s.fail a e).er=0 -> s.er=0∧e=0):=by
 unfold RSt.fail left
 by_cases h0:s.er=0
 ·by_cases he:e=0
  ·simp [h0,he]
  ·simp [h0,he]
 ·simp [h0]
theorem argS_left (dec:ByteArray -> Nat × Nat) (en:Int) (b:Bool) (s:RSt):left (argS dec en b s).2 <= left s:=by
 cases b
 ·exact (nextS_left en s 1).1
 ·show left (numS dec en s).2 <= _
  have hn:=(nextS_left en s 2).1
  unfold numS
  split
  ·simp only
   split
   ·exact hn
   ·exact Nat.le_trans (fail_left _ _ _).1 hn
  ·exact hn
theorem argsS_left (dec:ByteArray -> Nat × Nat) (en:Int):∀ (l:List Bool) (s:RSt),left (argsS dec en l s).2 <= left s
 | [],_=>Nat.le_refl _
 | b :: r,s=>Nat.le_trans (argsS_left dec en r _) (argS_left dec en b s)
theorem stmtS_left (dec:ByteArray -> Nat × Nat) (en:Int) (s:RSt) (h:s.er=0):left (stmtS dec en s).2<left s:=by
 unfold stmtS
 simp only
 refine Nat.lt_of_le_of_lt (nextS_left en _ 4).1 (Nat.lt_of_le_of_lt (argsS_left dec en _ _) ?_)
 have h1:=(nextS_left en s 1).2.2 h
 have h2:=(nextS_left en (nextS en s 1).2 3).1
 have h3:=(nextS_left en (nextS en (nextS en s 1).2 3).2 1).1
 split
 ·have:=(fail_left (nextS en (nextS en (nextS en s 1).2 3).2 1).2 (nextS en (nextS en (nextS en s 1).2 3).2 1).1.pos 171).1
  omega
 ·omega
theorem argsS_sub (dec:ByteArray -> Nat × Nat) (en:Int):∀ (l:List Bool) (s:RSt),∀ t∈(argsS dec en l s).2.ts,t∈s.ts
 | [],_=>fun _ h=>h
 | b :: r,s=>fun t h=>argS_sub dec en b s t (argsS_sub dec en r _ t h)
theorem stmtS_sub (dec:ByteArray -> Nat × Nat) (en:Int) (s:RSt):∀ t∈(stmtS dec en s).2.ts,t∈s.ts:=by
 intro t h
 unfold stmtS at h
 simp only at h
 have h1:=argsS_sub _ _ _ _ _ (nextS_sub _ _ _ t h)
 refine nextS_sub en s 1 _ (nextS_sub en (nextS en s 1).2 3 _ (nextS_sub en (nextS en (nextS en s 1).2 3).2 1 t ?_))
 split at h1
 ·rw [fail_ts] at h1; exact h1
 ·exact h1
theorem Tryz.stmtInfo:(Tryz.prog.info? 28).map (fun i=>(i.zero,i.size,i.bytes))=some (some (.agg #[.string ⟨#[]⟩,.int .i64 0,.int .u8 0,.slice none 0 0]),4,56):=by kernel_rfl
def ParsePost (w:World) (r:List PStmt × Int × Nat) (e:Ending) (w':World):Prop :=
 ∃ o,e = .returned (.tuple #[o,.int .i64 r.2.1,.int .i64 r.2.2])∧SRow w' w.heap.size o r.1∧Below w.heap.size w w'
theorem RdAt.start {w:World} {v:Value} {ts:List PTok} (h:PRow w w.heap.size v ts) (en:Int):RdAt (w.alloc (.cells #[v,.int .i64 en,.int .i64 0,.int .i64 0] 63)) w.heap.size w.heap.size en ⟨ts,0,0⟩ :=
 ⟨Nat.le_refl _,v,h.keep fun _ _ hl=>World.heap_alloc_lt' _ _ _ hl,heap_alloc_new w _⟩
theorem RdAt.set0 {w:World} {rb B:Nat} {en:Int} {s:RSt} {v':Value} {r:List PTok} (h:RdAt w rb B en s) (hp:PRow w B v' r):RdAt (w.setCell ⟨rb,0,none⟩ v') rb B en { s with ts:=r }:=by
 obtain ⟨hB,v,_,hb⟩:=h
 exact ⟨hB,v',hp.keep fun g hg _=>by rw [Below.heap_setCell _ _ _ _ (by simp; omega)],heap_set w rb 0 _ _ _ _ hb⟩
theorem pcells_app (l r:List PTok):pcells (l ++ r)=pcells l ++ pcells r:=by simp [pcells]
theorem pcells_length (l:List PTok):(pcells l).length=l.length*3:=by
 induction l with
 | nil=>rfl
 | cons a r ih=>rw [pcells_cons,List.length_append,ih]; simp [PTok.cells]; omega
set_option maxRecDepth 100000 in
set_option maxHeartbeats 4000000 in
theorem parse_any (dec:ByteArray -> Nat × Nat) (G:World -> Prop) (ts:List PTok) (hts:ts.length <= 1000000000000) (v:Value) (w:World) (hG:Stable G w.heap.size) (hd:DecOk dec G ts) (hv:PRow w w.heap.size v ts) (hw:G w) :
  Calls Tryz.prog 10 #[v] w (ParsePost w (parseRes dec ts)):=by
 obtain ⟨i0,hi0,hz0,hz1,hz2⟩:=info_parts Tryz.stmtInfo
 obtain ⟨RR,hRR⟩:∃ r,parseRes dec ts=r:=⟨_,rfl⟩
 rw [hRR]
 have HR:=Lib.hid hRR
 clear hRR
 have HD:=Lib.hid hd
 clear hd
 have h0:=RdAt.start hv 0
 have hv0:=hv
 obtain ⟨A,c,rfl,hlc,hx⟩:=hv
 obtain ⟨N,hN⟩:∃ N,ts.length=N:=⟨_,rfl⟩
 rw [hN] at hlc hts h0 hv0 ⊢
 have HN:=Lib.hid hN
 go_enter Tryz.func10,Tryz.ntmps10
 go_upto_if 14 with (fail)
 go_cut [] from 13 to 31 (fun wx=>RdAt wx w.heap.size w.heap.size (endOf ts) ⟨ts,0,0⟩∧w.grownBy wx none)
 case first =>
  by_cases hM:N=0
  ·have hts0:ts=[]:=List.eq_nil_of_length_eq_zero (by omega)
   have he:endOf ts=0:=by rw [hts0]; rfl
   subst hM
   clear HN
   go_wp2_with fail
   go_meet
   exact ⟨by rw [he]; exact h0,World.grownBy_alloc w _ _⟩
  ·obtain ⟨M,rfl⟩:∃ M,N=M+1:=⟨N-1,by omega⟩
   obtain ⟨init,t,rfl⟩:∃ init t,ts=init ++ [t]:=⟨ts.dropLast,ts.getLast (by intro e; rw [e] at hN; cases hN),(List.dropLast_concat_getLast _).symm⟩
   have hil:init.length=M:=by simpa using hN
   obtain ⟨g,off,rfl,hg,hcell⟩:=hx (by simp)
   have he:endOf (init ++ [t])=wrap64 (t.pos+t.text.size):=by simp [endOf]
   have hq:∀ j u,t.cells[j]? = some u -> w.cell? ⟨g,off+(M*3+j),none⟩=some u:=fun j u hu=>hcell (M*3+j) u (by
    rw [pcells_app,List.getElem?_append_right (by rw [pcells_length,hil]; omega),pcells_length,hil,Nat.add_sub_cancel_left]
    simpa [pcells] using hu)
   have q1:=hq 1 _ rfl
   have q2:=hq 2 _ rfl
   rw [<- Nat.add_assoc] at q1 q2
   have HE:=Lib.hid he
   have hR1:=RdAt.start hv0 (wrap64 (t.pos+t.text.size))
   clear hx hcell hq he hN hv0 HN
   go_wp2_with fail
   go_region
   all_goals go_wp2_with fail
   all_goals go_meet
   all_goals exact ⟨by rw [HE.out]; exact hR1,grown_drew (World.grownBy_alloc w _ _)⟩
 case rest =>
  obtain ⟨h1,g1⟩:=hcut
  clear h0 hx hv0
  go_wp2_with fail
  go_loopg [7] (N+1) (fun gk o wr=>∃ (s:RSt) (out:List PStmt),left s <= gk∧out.length+gk <= N+1∧RdAt wr w.heap.size w.heap.size (endOf ts) s∧SRow wr (w.heap.size+1) o out ∧
   parseL dec (endOf ts) (N+1) ⟨ts,0,0⟩ []=parseL dec (endOf ts) gk s out∧(∀ t∈s.ts,t∈ts)∧w.grownBy wr none∧G wr)
  case atStart =>
   refine ⟨⟨ts,0,0⟩,[],by simp [left,hN],by simp,h1,⟨[],rfl,World.ownsRow_nil _ _ _ _,fun i h=>by simp at h⟩,rfl,fun _ h=>h,g1,hG w wc none hw g1 (fun r e=>by cases e)⟩
  case round =>
   obtain ⟨s,out,hl,hol,hR,hS,hP,hsub,hB,hGr⟩:=hrel
   obtain ⟨_,v',⟨A',c',rfl,hlc',hx'⟩,hb⟩:=id hR
   have c0:=(cell_of_row wr w.heap.size 0 _ _ _ hb).trans rfl
   have c2:=(cell_of_row wr w.heap.size 2 _ _ _ hb).trans rfl
   have c3:=(cell_of_row wr w.heap.size 3 _ _ _ hb).trans rfl
   have hlt:=hR.lt
   by_cases h0:s.er=0
   ·have e0:((s.er:Int) == 0)=true:=by rw [h0]; rfl
    have e0':((s.er:Int) != 0)=false:=by rw [h0]; rfl
    rcases hts:s.ts with _ | ⟨t,r⟩
    ·have hq:parseL dec (endOf ts) gk s out=(out,s):=parseL_end (.inr hts)
     have hRR:RR=(out,0,0):=by
      rw [<- HR.out]; unfold parseRes; rw [HN.out,hP,hq]; simp [h0]
     subst hRR
     have hl0:s.ts.length=0:=by rw [hts]; rfl
     rw [hl0] at c0
     clear hP hq HR hx' hl hb hol
     go_wp2_with fail
     go_ret3
     exact ⟨_,rfl,hS.le (by omega),below_of_grown hB⟩
    ·have hg1:1 <= gk:=by simp [left,hts,h0] at hl; omega
     obtain ⟨gj,rfl⟩:∃ gj,gk=gj+1:=⟨gk-1,by omega⟩
     have hl0:s.ts.length=r.length+1:=by rw [hts]; rfl
     obtain ⟨g,off,rfl,hg,hcell⟩:=hx' (by rw [hts]; simp)
     rw [hts,pcells_cons] at hcell
     have q0:=hcell 0 _ rfl
     rw [Nat.add_zero] at q0
     have HC:=Lib.hid hcell
     have n1:0<s.ts.length:=by omega
     have hc1:1 <= c':=by omega
     have f0:=not_frozen hb 0
     by_cases hk4:t.kind=4
     ·have hP':parseL dec (endOf ts) (gj+1) s out=parseL dec (endOf ts) gj { s with ts:=r } out:=by
       conv=>{ lhs; unfold parseL }
       rw [if_pos h0,hts]; simp [hk4]
      rw [hP'] at hP
      have HP:=Lib.hid hP
      have ek:((t.kind:Int) == 4)=true:=by rw [hk4]; rfl
      have hsr:∀ x∈r,x∈ts:=fun x hx=>hsub x (by rw [hts]; exact List.mem_cons_of_mem _ hx)
      have hlr:left { s with ts:=r } <= gj:=by simp [left,hts,h0] at hl ⊢; omega
      have hnew:∀ v',PRow wr w.heap.size v' r -> _:=fun v' hp=>And.intro (hR.set0 hp) (grown_setCell wr ⟨w.heap.size,0,none⟩ v')
      have HNW:=Lib.hid hnew
      have HS:=Lib.hid hS
      clear hP hP' hx' hcell hb c2 hsub hR hl HR hnew hS
      go_wp2_with fail
      ·obtain ⟨q1,q2⟩:=HNW.out (.slice (some ⟨g,off,none⟩) r.length 0) ⟨_,_,rfl,by omega,fun hr=>absurd (List.eq_nil_of_length_eq_zero (by omega)) hr⟩
       go_roundg gj
       case measure=>omega
       case rel=>exact ⟨{ s with ts:=r },out,hlr,by omega,q1,HS.out.grown q2 (by intro r e; simp at e; omega),HP.out,hsr,grown_new hB q2 (by intro r e; simp at e; omega),hG wr _ _ hGr q2 (by intro r e; simp at e; omega)⟩
      ·obtain ⟨q1,q2⟩:=HNW.out (.slice (some ⟨g,off+3,none⟩) r.length (c'-1)) ⟨_,_,rfl,by omega,fun hr=>⟨g,off+3,rfl,hg,fun j u hu=>by
        rw [Nat.add_assoc]
        exact HC.out (3+j) u (by rw [List.getElem?_append_right (by simp [PTok.cells])]; simpa [PTok.cells] using hu)⟩⟩
       go_roundg gj
       case measure=>omega
       case rel=>exact ⟨{ s with ts:=r },out,hlr,by omega,q1,HS.out.grown q2 (by intro r e; simp at e; omega),HP.out,hsr,grown_new hB q2 (by intro r e; simp at e; omega),hG wr _ _ hGr q2 (by intro r e; simp at e; omega)⟩
     ·obtain ⟨⟨st,s'⟩,hss⟩:∃ r,stmtS dec (endOf ts) s=r:=⟨_,rfl⟩
      have hP':parseL dec (endOf ts) (gj+1) s out=parseL dec (endOf ts) gj s' (out ++ [st]):=by
       conv=>{ lhs; unfold parseL }
       rw [if_pos h0,hts]; simp [hk4,hss]
      rw [hP'] at hP
      have hst:=stmt_any dec G w.heap.size w.heap.size hG (endOf ts) s (HD.out.sub hsub) wr hR hGr
      have hlr:=stmtS_left dec (endOf ts) s h0
      have hsr:=stmtS_sub dec (endOf ts) s
      rw [hss] at hst hlr hsr
      simp only at hlr hsr
      have hlr':left s' <= gj:=by omega
      have hsr':∀ x∈s'.ts,x∈ts:=fun x hx=>hsub x (hsr x hx)
      have HP:=Lib.hid hP
      have HSR:=Lib.hid hsr'
      have ek:((t.kind:Int) == 4)=false:=by rw [beq_eq_false_iff_ne]; omega
      clear hP hP' hx' hcell hb c2 hsub hR hl HR hss hsr hsr' hlr
      go_wp2_with fail
      refine hst.mono ?_
      rintro e wx ⟨va,rfl,hva,hx,gx⟩
      have hsx:=gx.size
      obtain ⟨vs,hvl,ho,hvs⟩:=hS.grown gx (by intro r e; simp at e; omega)
      obtain ⟨aa,ca,rfl⟩:=row_form hva
      have hva':=own_le hva (show w.heap.size+1 <= wr.heap.size by omega)
      have HVS:=Lib.hid hvs
      clear hS hva hst hvs c0 c3 q0 f0
      go_wp2_with (at_builtin; refine wpList_append_lies _ rfl (.tmp 61) (.tmp 64) 22 rfl (w.heap.size+1) 28 i0 (.agg #[.string ⟨#[]⟩,.int .i64 0,.int .u8 0,.slice none 0 0]) 4 56 Tryz.underlying22 hi0 hz0 hz1 hz2 rfl (by omega) u7 out.length (scells out vs) rfl (ho.alloc _) ⟨wx.heap.size,0,none⟩ 1 1 (stCells st (.slice aa st.args.length ca)) rfl rfl (World.news_of_block (heap_at wx (.cells (stCells st (.slice aa st.args.length ca)).toArray 28) _ rfl)) (by simp [stCells,Value.oneCell']) (by omega) (by unfold maxLen; omega) (by omega) (by simp; omega) _ rfl ?_; intro gz capz wz hownz hgz hatz hltz)
      have hall:SRow wz (w.heap.size+1) (.slice (some ⟨gz,0,none⟩) (out.length+1) capz) (out ++ [st]):=by
       refine ⟨vs ++ [.slice aa st.args.length ca],by simp [hvl],?_,fun i h1 h2 => ?_⟩
       ·rw [scells_snoc _ _ _ _ hvl,List.length_append]; exact hownz
       ·by_cases hi:i<vs.length
        ·rw [List.getElem_append_left hi,List.getElem_append_left (by omega)]
         exact ((HVS.out i hi (by omega)).alloc _).kept hgz (own_ne (HVS.out i hi (by omega)) ho (by decide))
        ·have hi':i=out.length:=by simp at h1; omega
         subst hi'
         have e1:(vs ++ [Value.slice aa st.args.length ca])[out.length]'h1 = .slice aa st.args.length ca:=by simp [hvl]
         have e2:(out ++ [st])[out.length]'h2=st:=by simp
         rw [e1,e2]
         exact (hva'.alloc _).kept hgz (own_ne hva' ho (by decide))
      have gz':wx.grownBy wz (Value.ownBlock u7):=grown_trans (World.grownBy_alloc wx _ _) hgz
      have hro:∀ r,Value.ownBlock u7=some r -> w.heap.size+1 <= r:=fun r e=>(ho.lt r e).1
      have hRz:=hx.kept gz' (fun r e=>by have:=hro r e; omega)
      have hBz:w.grownBy wz none:=grown_new (grown_new hB gx (by intro r e; simp at e; omega)) gz' (fun r e=>by have:=hro r e; omega)
      have hGz:G wz:=hG w wz none hw hBz (fun r e=>by cases e)
      go_wp2_with fail
      go_roundg gj
      case measure=>omega
      case rel=>exact ⟨s',out ++ [st],hlr',by simp; omega,hRz,hall,HP.out,HSR.out,hBz,hGz⟩
   ·have e0:((s.er:Int) == 0)=false:=by rw [beq_eq_false_iff_ne]; omega
    have e0':((s.er:Int) != 0)=true:=by simp; omega
    have hq:parseL dec (endOf ts) gk s out=(out,s):=parseL_end (.inl h0)
    have hRR:RR=([],s.pl,s.er):=by
     rw [<- HR.out]; unfold parseRes; rw [HN.out,hP,hq]; simp [h0]
    subst hRR
    have HS:SRow wr w.heap.size (.slice none 0 0) []:=⟨[],rfl,World.ownsRow_nil _ _ _ _,fun i h=>by simp at h⟩
    clear hP hq HR hx' hl hb hol hS
    rcases hts:s.ts with _ | ⟨t,r⟩
    ·have hl0:s.ts.length=0:=by rw [hts]; rfl
     rw [hl0] at c0
     go_wp2_with fail
     go_region
     all_goals go_wp2_with fail
     all_goals go_ret3
     all_goals exact ⟨_,rfl,HS,below_of_grown (grown_drew hB)⟩
    ·have n1:0<s.ts.length:=by rw [hts]; simp
     go_wp2_with fail
     go_region
     all_goals go_wp2_with fail
     all_goals go_ret3
     all_goals exact ⟨_,rfl,HS,below_of_grown (grown_drew hB)⟩
end Go.Proofs.YtejmbbkklhpnaaaGreatDoor.parw
