/- The walk of parse.Parse. Conditions: as the theorem states. -/
import Derived.Test.YtcbgkbidgpemfaaGreatDoorMf00
import Derived.Test.YtcbgkbidgpemfaaGreatDoorMf06
import Derived.Deep.LoopGhost
import Derived.Laws.FloatBits
import Derived.Laws.FloatArith
import Derived.Laws.Externs
import Derived.StillTail
import Derived.Deep.QuietTactic
import Derived.BigQuiet
import Derived.WalkKit
import Derived.Below
namespace Go.Proofs.YtcbgkbidgpemfaaGreatDoor
set_option maxRecDepth 100000
set_option maxHeartbeats 4000000
namespace parw
open Go.RowKit
open lexw
attribute [local go_sem] run_store_float
def stCells (s:PStmt) (v:Value):List Value:=[.string s.name,.int .i64 s.pos,.int .u8 s.kind,v]
def scells:List PStmt -> List Value -> List Value
 | s :: r,v :: q=>stCells s v ++ scells r q
 | _,_=>[]
theorem scells_snoc:∀ (l:List PStmt) (vs:List Value) (s:PStmt) (v:Value),vs.length=l.length -> scells (l ++ [s]) (vs ++ [v])=scells l vs ++ stCells s v
 | [],[],s,v,_=>by simp [scells]
 | a :: l,b :: vs,s,v,h=>by
  have:=scells_snoc l vs s v (by simpa using h);simp [scells,this]
 | [],b :: vs,s,v,h=>by simp at h
 | a :: l,[],s,v,h=>by simp at h
def SRow (W:World) (base:Nat) (o:Value) (l:List PStmt):Prop :=
 ∃ vs:List Value,vs.length=l.length∧W.ownsRow base 62 4 o l.length (scells l vs) ∧
  ∀ i (h1:i<vs.length) (h2:i<l.length),W.ownsRow base 59 3 vs[i] l[i].args.length (acells l[i].args)
theorem own_ne {W:World} {b1 b2 e1 e2 s1 s2 n1 n2:Nat} {v1 v2:Value} {x1 x2:List Value} (h1:W.ownsRow b1 e1 s1 v1 n1 x1) (h2:W.ownsRow b2 e2 s2 v2 n2 x2) (he:e1≠e2):v1.ownBlock=none∨v1.ownBlock≠v2.ownBlock:=by
 rcases h1.2 with ⟨rfl,_⟩ | ⟨g,cap,cur,rfl,hb,hh,_⟩
 ·exact .inl rfl
 ·refine .inr fun e => ?_
  rcases h2.2 with ⟨rfl,_⟩ | ⟨g',cap',cur',rfl,hb',hh',_⟩
  ·cases e
  ·have:g=g':=by simpa [Value.ownBlock] using e
   subst this;rw [hh] at hh';injection hh' with hh';injection hh' with _ h _;exact he h
theorem SRow.grown {W W':World} {base:Nat} {o:Value} {l:List PStmt} {row:Option Nat} (h:SRow W base o l) (hg:W.grownBy W' row) (hr:∀ r,row=some r -> r<base):SRow W' base o l:=by
 obtain ⟨vs,hl,ho,hv⟩:=h;exact ⟨vs,hl,own_grown ho hg hr,fun i h1 h2=>own_grown (hv i h1 h2) hg hr⟩
theorem SRow.le {W:World} {base base':Nat} {o:Value} {l:List PStmt} (h:SRow W base o l) (hb:base' <= base):SRow W base' o l:=by
 obtain ⟨vs,hl,ho,hv⟩:=h;exact ⟨vs,hl,own_le ho hb,fun i h1 h2=>own_le (hv i h1 h2) hb⟩
theorem below_of_grown {w w':World} (h:w.grownBy w' none):Below w.heap.size w w':=⟨h.os,h.tape,h.output,h.size,fun k hk=>h.block k hk (by simp)⟩
def parseL (dec:ByteArray -> Nat × Nat) (en:Int):Nat -> RSt -> List PStmt -> List PStmt × RSt
 | 0,s,out=>(out,s)
 | f+1,s,out =>
  if s.er=0 then
   match s.ts with
   | []=>(out,s)
   | t :: r=>if t.kind=4 then parseL dec en f { s with ts:=r } out else parseL dec en f (stmtS dec en s).2 (out ++ [(stmtS dec en s).1])
  else (out,s)
def endOf (ts:List PTok):Int:=match ts.getLast? with | some t=>wrap64 (t.pos+t.text.size) | none=>0
def parseRes (dec:ByteArray -> Nat × Nat) (ts:List PTok):List PStmt × Int × Nat :=
 let q:=parseL dec (endOf ts) (ts.length+1) ⟨ts,0,0⟩ []
 if q.2.er=0 then (q.1,0,0) else ([],q.2.pl,q.2.er)
theorem parseL_end {dec:ByteArray -> Nat × Nat} {en:Int} {f:Nat} {s:RSt} {out:List PStmt} (h:s.er≠0∨s.ts=[]):parseL dec en f s out=(out,s):=by
 cases f with
 | zero=>rfl
 | succ f =>
  unfold parseL
  rcases h with h | h
  ·rw [if_neg h]
  ·rw [h]; simp
def left (s:RSt):Nat:=s.ts.length+if s.er=0 then 1 else 0
theorem nextS_left (en:Int) (s:RSt) (k:Nat):left (nextS en s k).2 <= left s∧((nextS en s k).2.er=0 -> s.er=0)∧(s.er=0 -> left (nextS en s k).2<left s):=by
 unfold nextS left
 by_cases h0:s.er=0
 ·rcases hts:s.ts with _ | ⟨t,r⟩
  ·simp [h0]
  ·by_cases hk:t.kind=k
   ·simp [h0,hk]
   ·simp [h0,hk]
 ·simp [h0]
theorem fail_left (s:RSt) (a:Int) (e:Nat):left (s.fail a e) <= left s∧((s.fail a e).er=0 -> s.er=0∧e=0):=by
 unfold RSt.fail left
 by_cases h0:s.er=0
 ·by_cases he:e=0
  ·simp [h0,he]
  ·simp [h0,he]
 ·simp [h0]
theorem argS_left (dec:ByteArray -> Nat × Nat) (en:Int) (b:Bool) (s:RSt):left (argS dec en b s).2 <= left s:=by
 cases b
 ·exact (nextS_left en s 1).1
 ·show left (numS dec en s).2 <= _;have hn:=(nextS_left en s 2).1;unfold numS
  split
  ·simp only
   split
   ·exact hn
   ·exact Nat.le_trans (fail_left _ _ _).1 hn
  ·exact hn
theorem argsS_left (dec:ByteArray -> Nat × Nat) (en:Int):∀ (l:List Bool) (s:RSt),left (argsS dec en l s).2 <= left s
 | [],_=>Nat.le_refl _
 | b :: r,s=>Nat.le_trans (argsS_left dec en r _) (argS_left dec en b s)
theorem stmtS_left (dec:ByteArray -> Nat × Nat) (en:Int) (s:RSt) (h:s.er=0):left (stmtS dec en s).2<left s:=by
 unfold stmtS;simp only;refine Nat.lt_of_le_of_lt (nextS_left en _ 4).1 (Nat.lt_of_le_of_lt (argsS_left dec en _ _) ?_);have h1:=(nextS_left en s 1).2.2 h;have h2:=(nextS_left en (nextS en s 1).2 3).1;have h3:=(nextS_left en (nextS en (nextS en s 1).2 3).2 1).1
 split
 ·have:=(fail_left (nextS en (nextS en (nextS en s 1).2 3).2 1).2 (nextS en (nextS en (nextS en s 1).2 3).2 1).1.pos 171).1;omega
 ·omega
theorem argsS_sub (dec:ByteArray -> Nat × Nat) (en:Int):∀ (l:List Bool) (s:RSt),∀ t∈(argsS dec en l s).2.ts,t∈s.ts
 | [],_=>fun _ h=>h
 | b :: r,s=>fun t h=>argS_sub dec en b s t (argsS_sub dec en r _ t h)
theorem stmtS_sub (dec:ByteArray -> Nat × Nat) (en:Int) (s:RSt):∀ t∈(stmtS dec en s).2.ts,t∈s.ts:=by
 intro t h;unfold stmtS at h;simp only at h;have h1:=argsS_sub _ _ _ _ _ (nextS_sub _ _ _ t h);refine nextS_sub en s 1 _ (nextS_sub en (nextS en s 1).2 3 _ (nextS_sub en (nextS en (nextS en s 1).2 3).2 1 t ?_))
 split at h1
 ·rw [fail_ts] at h1; exact h1
 ·exact h1
theorem Tryz.stmtInfo:(Tryz.prog.info? 62).map (fun i=>(i.zero,i.size,i.bytes))=some (some (.agg #[.string ⟨#[]⟩,.int .i64 0,.int .u8 0,.slice none 0 0]),4,56):=by kernel_rfl
def ParsePost (w:World) (r:List PStmt × Int × Nat) (e:Ending) (w':World):Prop :=
 ∃ o,e = .returned (.tuple #[o,.int .i64 r.2.1,.int .i64 r.2.2])∧SRow w' w.heap.size o r.1∧Below w.heap.size w w'
theorem RdAt.start {w:World} {v:Value} {ts:List PTok} (h:PRow w w.heap.size v ts) (en:Int):RdAt (w.alloc (.cells #[v,.int .i64 en,.int .i64 0,.int .i64 0] 67)) w.heap.size w.heap.size en ⟨ts,0,0⟩ :=
 ⟨Nat.le_refl _,v,h.keep fun _ _ hl=>World.heap_alloc_lt' _ _ _ hl,heap_alloc_new w _⟩
theorem RdAt.set0 {w:World} {rb B:Nat} {en:Int} {s:RSt} {v':Value} {r:List PTok} (h:RdAt w rb B en s) (hp:PRow w B v' r):RdAt (w.setCell ⟨rb,0,none⟩ v') rb B en { s with ts:=r }:=by
 obtain ⟨hB,v,_,hb⟩:=h;exact ⟨hB,v',hp.keep fun g hg _=>by rw [Below.heap_setCell _ _ _ _ (by simp; omega)],heap_set w rb 0 _ _ _ _ hb⟩
theorem pcells_app (l r:List PTok):pcells (l ++ r)=pcells l ++ pcells r:=by simp [pcells]
theorem pcells_length (l:List PTok):(pcells l).length=l.length*3:=by
 induction l with
 | nil=>rfl
 | cons a r ih=>rw [pcells_cons,List.length_append,ih]; simp [PTok.cells]; omega
theorem parse_any (dec:ByteArray -> Nat × Nat) (G:World -> Prop) (ts:List PTok) (hts:ts.length <= 1000000000000) (v:Value) (w:World) (hG:Stable G w.heap.size) (hd:DecOk dec G ts) (hv:PRow w w.heap.size v ts) (hw:G w) :
  Calls Tryz.prog 11 #[v] w (ParsePost w (parseRes dec ts)):=by
 obtain ⟨i0,hi0,hz0,hz1,hz2⟩:=info_parts Tryz.stmtInfo;obtain ⟨RR,hRR⟩:∃ r,parseRes dec ts=r:=⟨_,rfl⟩;rw [hRR];have HR:=Yd hRR;clear hRR;have HD:=Yd hd;clear hd;have h0:=RdAt.start hv 0;have hv0:=hv;obtain ⟨A,c,rfl,hlc,hx⟩:=hv;obtain ⟨N,hN⟩:∃ N,ts.length=N:=⟨_,rfl⟩;rw [hN] at hlc hts h0 hv0 ⊢;have HN:=Yd hN;go_enter Tryz.func11,Tryz.ntmps11;go_upto_if 14 with (fail)
 go_cut [] from 13 to 31 (fun wx=>RdAt wx w.heap.size w.heap.size (endOf ts) ⟨ts,0,0⟩∧w.grownBy wx none)
 case first =>
  by_cases hM:N=0
  ·have hts0:ts=[]:=List.eq_nil_of_length_eq_zero (by omega);have he:endOf ts=0:=by rw [hts0]; rfl
   subst hM;clear HN;go_wp2_with fail;go_meet;exact ⟨by rw [he]; exact h0,World.grownBy_alloc w _ _⟩
  ·obtain ⟨M,rfl⟩:∃ M,N=M+1:=⟨N-1,by omega⟩;obtain ⟨init,t,rfl⟩:∃ init t,ts=init ++ [t]:=⟨ts.dropLast,ts.getLast (by intro e; rw [e] at hN; cases hN),(List.dropLast_concat_getLast _).symm⟩;have hil:init.length=M:=by simpa using hN
   obtain ⟨g,off,rfl,hg,hcell⟩:=hx (by simp);have he:endOf (init ++ [t])=wrap64 (t.pos+t.text.size):=by simp [endOf]
   have hq:∀ j u,t.cells[j]? = some u -> w.cell? ⟨g,off+(M*3+j),none⟩=some u:=fun j u hu=>hcell (M*3+j) u (by
    rw [pcells_app,List.getElem?_append_right (by rw [pcells_length,hil]; omega),pcells_length,hil,Nat.add_sub_cancel_left];simpa [pcells] using hu)
   have q1:=hq 1 _ rfl;have q2:=hq 2 _ rfl;rw [<- Nat.add_assoc] at q1 q2;have HE:=Yd he;have hR1:=RdAt.start hv0 (wrap64 (t.pos+t.text.size));clear hx hcell hq he hN hv0 HN;go_wp2_with fail
   go_region
   all_goals go_wp2_with fail
   all_goals go_meet
   all_goals exact ⟨by rw [HE.out]; exact hR1,grown_drew (World.grownBy_alloc w _ _)⟩
 case rest =>
  obtain ⟨h1,g1⟩:=hcut;clear h0 hx hv0;go_wp2_with fail
  go_loopg [7] (N+1) (fun gk o wr=>∃ (s:RSt) (out:List PStmt),left s <= gk∧out.length+gk <= N+1∧RdAt wr w.heap.size w.heap.size (endOf ts) s∧SRow wr (w.heap.size+1) o out ∧
   parseL dec (endOf ts) (N+1) ⟨ts,0,0⟩ []=parseL dec (endOf ts) gk s out∧(∀ t∈s.ts,t∈ts)∧w.grownBy wr none∧G wr)
  case atStart =>
   refine ⟨⟨ts,0,0⟩,[],by simp [left,hN],by simp,h1,⟨[],rfl,World.ownsRow_nil _ _ _ _,fun i h=>by simp at h⟩,rfl,fun _ h=>h,g1,hG w wc none hw g1 (fun r e=>by cases e)⟩
  case round =>
   obtain ⟨s,out,hl,hol,hR,hS,hP,hsub,hB,hGr⟩:=hrel;obtain ⟨_,v',⟨A',c',rfl,hlc',hx'⟩,hb⟩:=id hR;have c0:=(cell_of_row wr w.heap.size 0 _ _ _ hb).trans rfl;have c2:=(cell_of_row wr w.heap.size 2 _ _ _ hb).trans rfl;have c3:=(cell_of_row wr w.heap.size 3 _ _ _ hb).trans rfl;have hlt:=hR.lt
   by_cases h0:s.er=0
   ·have e0:((s.er:Int) == 0)=true:=by rw [h0]; rfl
    have e0':((s.er:Int) != 0)=false:=by rw [h0]; rfl
    rcases hts:s.ts with _ | ⟨t,r⟩
    ·have hq:parseL dec (endOf ts) gk s out=(out,s):=parseL_end (.inr hts);have hRR:RR=(out,0,0):=by
      rw [<- HR.out]; unfold parseRes; rw [HN.out,hP,hq]; simp [h0]
     subst hRR;have hl0:s.ts.length=0:=by rw [hts]; rfl
     rw [hl0] at c0;clear hP hq HR hx' hl hb hol;go_wp2_with fail;go_ret3;exact ⟨_,rfl,hS.le (by omega),below_of_grown hB⟩
    ·have hg1:1 <= gk:=by simp [left,hts,h0] at hl; omega
     obtain ⟨gj,rfl⟩:∃ gj,gk=gj+1:=⟨gk-1,by omega⟩;have hl0:s.ts.length=r.length+1:=by rw [hts]; rfl
     obtain ⟨g,off,rfl,hg,hcell⟩:=hx' (by rw [hts]; simp);rw [hts,pcells_cons] at hcell;have q0:=hcell 0 _ rfl;rw [Nat.add_zero] at q0;have HC:=Yd hcell;have n1:0<s.ts.length:=by omega
     have hc1:1 <= c':=by omega
     have f0:=not_frozen hb 0
     by_cases hk4:t.kind=4
     ·have hP':parseL dec (endOf ts) (gj+1) s out=parseL dec (endOf ts) gj { s with ts:=r } out:=by
       conv=>{ lhs; unfold parseL }
       rw [if_pos h0,hts]; simp [hk4]
      rw [hP'] at hP;have HP:=Yd hP;have ek:((t.kind:Int) == 4)=true:=by rw [hk4]; rfl
      have hsr:∀ x∈r,x∈ts:=fun x hx=>hsub x (by rw [hts]; exact List.mem_cons_of_mem _ hx);have hlr:left { s with ts:=r } <= gj:=by simp [left,hts,h0] at hl ⊢; omega
      have hnew:∀ v',PRow wr w.heap.size v' r -> _:=fun v' hp=>And.intro (hR.set0 hp) (grown_setCell wr ⟨w.heap.size,0,none⟩ v');have HNW:=Yd hnew;have HS:=Yd hS;clear hP hP' hx' hcell hb c2 hsub hR hl HR hnew hS;go_wp2_with fail
      ·obtain ⟨q1,q2⟩:=HNW.out (.slice (some ⟨g,off,none⟩) r.length 0) ⟨_,_,rfl,by omega,fun hr=>absurd (List.eq_nil_of_length_eq_zero (by omega)) hr⟩
       go_roundg gj
       case measure=>omega
       case rel=>exact ⟨{ s with ts:=r },out,hlr,by omega,q1,HS.out.grown q2 (by intro r e; simp at e; omega),HP.out,hsr,grown_new hB q2 (by intro r e; simp at e; omega),hG wr _ _ hGr q2 (by intro r e; simp at e; omega)⟩
      ·obtain ⟨q1,q2⟩:=HNW.out (.slice (some ⟨g,off+3,none⟩) r.length (c'-1)) ⟨_,_,rfl,by omega,fun hr=>⟨g,off+3,rfl,hg,fun j u hu=>by
        rw [Nat.add_assoc];exact HC.out (3+j) u (by rw [List.getElem?_append_right (by simp [PTok.cells])]; simpa [PTok.cells] using hu)⟩⟩
       go_roundg gj
       case measure=>omega
       case rel=>exact ⟨{ s with ts:=r },out,hlr,by omega,q1,HS.out.grown q2 (by intro r e; simp at e; omega),HP.out,hsr,grown_new hB q2 (by intro r e; simp at e; omega),hG wr _ _ hGr q2 (by intro r e; simp at e; omega)⟩
     ·obtain ⟨⟨st,s'⟩,hss⟩:∃ r,stmtS dec (endOf ts) s=r:=⟨_,rfl⟩;have hP':parseL dec (endOf ts) (gj+1) s out=parseL dec (endOf ts) gj s' (out ++ [st]):=by
       conv=>{ lhs; unfold parseL }
       rw [if_pos h0,hts]; simp [hk4,hss]
      rw [hP'] at hP;have hst:=stmt_any dec G w.heap.size w.heap.size hG (endOf ts) s (HD.out.sub hsub) wr hR hGr;have hlr:=stmtS_left dec (endOf ts) s h0;have hsr:=stmtS_sub dec (endOf ts) s;rw [hss] at hst hlr hsr;simp only at hlr hsr;have hlr':left s' <= gj:=by omega
      have hsr':∀ x∈s'.ts,x∈ts:=fun x hx=>hsub x (hsr x hx);have HP:=Yd hP;have HSR:=Yd hsr';have ek:((t.kind:Int) == 4)=false:=Yf (by omega)
      clear hP hP' hx' hcell hb c2 hsub hR hl HR hss hsr hsr' hlr;go_wp2_with fail;refine hst.mono ?_;rintro e wx ⟨va,rfl,hva,hx,gx⟩;have hsx:=gx.size;obtain ⟨vs,hvl,ho,hvs⟩:=hS.grown gx (by intro r e; simp at e; omega);obtain ⟨aa,ca,rfl⟩:=row_form hva;have hva':=own_le hva (show w.heap.size+1 <= wr.heap.size by omega);have HVS:=Yd hvs;clear hS hva hst hvs c0 c3 q0 f0;go_wp2_with (at_builtin; refine wpList_append_lies _ rfl (.tmp 61) (.tmp 64) 28 rfl (w.heap.size+1) 62 i0 (.agg #[.string ⟨#[]⟩,.int .i64 0,.int .u8 0,.slice none 0 0]) 4 56 Tryz.underlying28 hi0 hz0 hz1 hz2 rfl (by omega) u7 out.length (scells out vs) rfl (ho.alloc _) ⟨wx.heap.size,0,none⟩ 1 1 (stCells st (.slice aa st.args.length ca)) rfl rfl (World.news_of_block (heap_at wx (.cells (stCells st (.slice aa st.args.length ca)).toArray 62) _ rfl)) (by simp [stCells,Value.oneCell']) (by omega) (by unfold maxLen; omega) (by omega) (by simp; omega) _ rfl ?_; intro gz capz wz hownz hgz hatz hltz);have hall:SRow wz (w.heap.size+1) (.slice (some ⟨gz,0,none⟩) (out.length+1) capz) (out ++ [st]):=by
       refine ⟨vs ++ [.slice aa st.args.length ca],by simp [hvl],?_,fun i h1 h2 => ?_⟩
       ·rw [scells_snoc _ _ _ _ hvl,List.length_append]; exact hownz
       ·by_cases hi:i<vs.length
        ·rw [List.getElem_append_left hi,List.getElem_append_left (by omega)];exact ((HVS.out i hi (by omega)).alloc _).kept hgz (own_ne (HVS.out i hi (by omega)) ho (by decide))
        ·have hi':i=out.length:=by simp at h1; omega
         subst hi';have e1:(vs ++ [Value.slice aa st.args.length ca])[out.length]'h1 = .slice aa st.args.length ca:=by simp [hvl]
         have e2:(out ++ [st])[out.length]'h2=st:=by simp
         rw [e1,e2];exact (hva'.alloc _).kept hgz (own_ne hva' ho (by decide))
      have gz':wx.grownBy wz (Value.ownBlock u7):=grown_trans (World.grownBy_alloc wx _ _) hgz;have hro:∀ r,Value.ownBlock u7=some r -> w.heap.size+1 <= r:=fun r e=>(ho.lt r e).1;have hRz:=hx.kept gz' (fun r e=>by have:=hro r e; omega);have hBz:w.grownBy wz none:=grown_new (grown_new hB gx (by intro r e; simp at e; omega)) gz' (fun r e=>by have:=hro r e; omega);have hGz:G wz:=hG w wz none hw hBz (fun r e=>by cases e);go_wp2_with fail
      go_roundg gj
      case measure=>omega
      case rel=>exact ⟨s',out ++ [st],hlr',by simp; omega,hRz,hall,HP.out,HSR.out,hBz,hGz⟩
   ·have e0:((s.er:Int) == 0)=false:=Yf (by omega)
    have e0':((s.er:Int) != 0)=true:=by simp; omega
    have hq:parseL dec (endOf ts) gk s out=(out,s):=parseL_end (.inl h0);have hRR:RR=([],s.pl,s.er):=by
     rw [<- HR.out]; unfold parseRes; rw [HN.out,hP,hq]; simp [h0]
    subst hRR;have HS:SRow wr w.heap.size (.slice none 0 0) []:=⟨[],rfl,World.ownsRow_nil _ _ _ _,fun i h=>by simp at h⟩;clear hP hq HR hx' hl hb hol hS
    rcases hts:s.ts with _ | ⟨t,r⟩
    ·have hl0:s.ts.length=0:=by rw [hts]; rfl
     rw [hl0] at c0;go_wp2_with fail
     go_region
     all_goals go_wp2_with fail
     all_goals go_ret3
     all_goals exact ⟨_,rfl,HS,below_of_grown (grown_drew hB)⟩
    ·have n1:0<s.ts.length:=by rw [hts]; simp
     go_wp2_with fail
     go_region
     all_goals go_wp2_with fail
     all_goals go_ret3
     all_goals exact ⟨_,rfl,HS,below_of_grown (grown_drew hB)⟩
end parw

/- Rows of statements that lie in memory; burnishlaw01.Same at one number twice. Conditions: as each theorem states. -/
namespace parw
open Go.RowKit
open lexw
attribute [local go_sem] run_store_float
theorem fbits_run (x:Nat) (w:World):(callFunc 63 #[.float .f64 x]).run Tryz.prog w = .ok (.value (.int .u64 x)) w:=by
 rw [@run_callFunc_extern Tryz.prog 63 _ Extern.MathFloatBits.float64bits Tryz.func63 (by kernel_rfl) (by kernel_rfl) (by kernel_rfl) (by kernel_rfl)];rfl
attribute [local go_sem] fbits_run
def ARead (W:World) (B:Nat) (v:Value) (l:List PArg):Prop :=
 ∃ A c,v = .slice A l.length c∧(l≠[] -> ∃ g off,A=some ⟨g,off,none⟩∧g<B ∧ ∀ j u,(acells l)[j]? = some u -> W.cell? ⟨g,off+j,none⟩=some u)
def SRead (W:World) (B:Nat) (v:Value) (l:List PStmt):Prop :=
 ∃ (vs:List Value) (A:Option Addr) (c:Nat),vs.length=l.length∧v = .slice A l.length c ∧
  (l≠[] -> ∃ g off,A=some ⟨g,off,none⟩∧g<B ∧ ∀ j u,(scells l vs)[j]? = some u -> W.cell? ⟨g,off+j,none⟩=some u) ∧
  ∀ i (h1:i<vs.length) (h2:i<l.length),ARead W B vs[i] l[i].args
theorem ARead.keep {W W':World} {B:Nat} {v:Value} {l:List PArg} (h:ARead W B v l) (hg:∀ g,g<B -> g<W.heap.size -> W'.heap[g]? = W.heap[g]?):ARead W' B v l:=by
 obtain ⟨A,c,hv,hx⟩:=h;refine ⟨A,c,hv,fun h0 => ?_⟩;obtain ⟨g,off,hA,hB,hcell⟩:=hx h0;exact ⟨g,off,hA,hB,fun j u hu=>(World.cell?_of_block (a:=⟨g,off+j,none⟩) (hg g hB (World.block_lt_of_cell? W _ (hcell j u hu)))).trans (hcell j u hu)⟩
theorem SRead.keep {W W':World} {B:Nat} {v:Value} {l:List PStmt} (h:SRead W B v l) (hg:∀ g,g<B -> g<W.heap.size -> W'.heap[g]? = W.heap[g]?):SRead W' B v l:=by
 obtain ⟨vs,A,c,hl,hv,hx,ha⟩:=h;refine ⟨vs,A,c,hl,hv,fun h0 => ?_,fun i h1 h2=>(ha i h1 h2).keep hg⟩;obtain ⟨g,off,hA,hB,hcell⟩:=hx h0;exact ⟨g,off,hA,hB,fun j u hu=>(World.cell?_of_block (a:=⟨g,off+j,none⟩) (hg g hB (World.block_lt_of_cell? W _ (hcell j u hu)))).trans (hcell j u hu)⟩
theorem ARead.of_own {W:World} {base:Nat} {v:Value} {l:List PArg} (h:W.ownsRow base 59 3 v l.length (acells l)):ARead W W.heap.size v l:=by
 rcases h.2 with ⟨rfl,hn⟩ | ⟨g,cap,cur,rfl,_,hgg,_⟩
 ·exact ⟨_,_,by rw [hn],fun h0=>absurd (List.eq_nil_of_length_eq_zero hn) h0⟩
 ·refine ⟨_,_,rfl,fun _=>⟨g,0,rfl,(Array.getElem?_eq_some_iff.1 hgg).1,fun j u hu => ?_⟩⟩;have hc:=h.cells (g:=g) rfl j u hu;have hadd:(⟨g,0,none⟩:Addr).add j=⟨g,j,none⟩:=by unfold Addr.add; split <;> simp_all
  rw [hadd] at hc;rw [Nat.zero_add];exact hc
theorem scells_get:∀ (l:List PStmt) (vs:List Value) (i j:Nat) (h1:i<vs.length) (h2:i<l.length),j<4 -> vs.length=l.length -> (scells l vs)[i*4+j]? = (stCells l[i] vs[i])[j]?
 | s :: r,v :: q,0,j,_,_,hj,_=>by
  simp only [scells,Nat.zero_mul,Nat.zero_add,List.getElem_cons_zero];rw [List.getElem?_append_left (by simpa [stCells] using hj)]
 | s :: r,v :: q,i+1,j,h1,h2,hj,hl=>by
  simp only [scells,List.getElem_cons_succ];rw [List.getElem?_append_right (by simp [stCells]; omega)];have:=scells_get r q i j (by simpa using h1) (by simpa using h2) hj (by simpa using hl);rw [<- this];congr 1;simp [stCells]; omega
 | [],_,i,j,_,h2,_,_=>by simp at h2
 | _ :: _,[],i,j,h1,_,_,_=>by simp at h1
theorem acells_get:∀ (l:List PArg) (i j:Nat) (h:i<l.length),j<3 -> (acells l)[i*3+j]? = (l[i].cells)[j]?
 | a :: r,0,j,_,hj=>by
  show (a.cells ++ acells r)[0*3+j]? = _;rw [Nat.zero_mul,Nat.zero_add,List.getElem?_append_left (by simpa [PArg.cells] using hj)]; rfl
 | a :: r,i+1,j,h,hj=>by
  show (a.cells ++ acells r)[(i+1)*3+j]? = _;rw [List.getElem?_append_right (by simp [PArg.cells]; omega)];have:=acells_get r i j (by simpa using h) hj;rw [List.getElem_cons_succ,<- this];congr 1;simp [PArg.cells]; omega
 | [],i,j,h,_=>by simp at h
end parw

/- A drawn region whose first n operations are quiet in a class of worlds, and whose others stand in one forced order: one walk in the order of the text. The proof goes along Derived/StillTail and Derived/Deep/Quiet of the kit (the two ideas put together). No conditions. -/
namespace qt
open Go.RowKit
section
variable {P:Program} {ops:Array Oper} {md:Region.Mode} {C:World -> Prop}
def headQ (P:Program) (md:Region.Mode) (ops:Array Oper) (C:World -> Prop) (n:Nat) (L:Array Bool -> Act -> Prop):Nat -> Array Bool -> Act -> Prop
 | 0,listed,a=>L listed a
 | f+1,listed,a=>Region.ready md ops listed≠[] ∧ ∀ i∈Region.ready md ops listed,i<n∧qOp P ops C i (headQ P md ops C n L f (listed.setIfInBounds i true)) a
theorem any_of_headQ {n g:Nat} {L:Array Bool -> Act -> Prop} {Q:Exit -> Act -> World -> Prop} (hL:∀ listed a w,C w -> L listed a -> wpAny P md ops Q g listed a w) :
  ∀ (f:Nat) (listed:Array Bool) (a:Act) (w:World),C w -> headQ P md ops C n L f listed a -> wpAny P md ops Q (f+g) listed a w
 | 0,listed,a,w,hw,h=>by rw [Nat.zero_add]; exact hL _ _ _ hw h
 | f+1,listed,a,w,hw,h=>by
  rw [show f+1+g=(f+g)+1 by omega];exact ⟨fun h0=>absurd h0 h.1,fun i hi=>wpOp_of_qOp hw (fun a' w' hw' h'=>any_of_headQ hL f _ a' w' hw' h') (h.2 i hi).2⟩
theorem headQ_first {n i:Nat} {oi:Oper} {v:Value} {L:Array Bool -> Act -> Prop} (hi:ops[i]? = some oi) (hsel:∀ (j:Nat) (o:Oper) cs b,ops[j]? = some o -> o.op ≠ .select cs b)
  (hs:Region.sinkB md ops n=true) (hc:Region.chainB md ops n=true) (hn:n<ops.size) (hin:i<n) (hdone:∀ listed a,L listed a -> ∀ j∈Region.ready md ops listed,n <= j) :
  ∀ (f:Nat) (listed:Array Bool) (a:Act),HeadInv md ops n listed ->
   (∀ j oj,ops[j]? = some oj -> j≠i -> listed.getD j true=false -> (∀ e∈oj.after,Region.binds md e=true -> e.on≠i) -> oi.apart ops oj=true) ->
   i∈Region.ready md ops listed -> YieldsIn P ops C oi v a ->
   headQ P md ops C n L f (listed.setIfInBounds i true) (a.put oi.dst v) -> headQ P md ops C n L (f+1) listed a:=by
 intro f
 induction f with
 | zero =>
  intro listed a inv _ hr hy H;have hun:=(mem_ready.1 hr).1;refine ⟨fun h=>(by rw [h] at hr; cases hr),fun j hj => ?_⟩;have hjn:j<n:=Nat.lt_of_not_le fun h=>tail_waits hs hc hn inv _ i rfl hin hun j h hj;refine ⟨hjn,?_⟩
  by_cases hji:j=i
  ·subst hji; exact hy.qOp hi H
  ·exact absurd (hdone _ _ H j (ready_mono hj hji)) (by omega)
 | succ f ih =>
  intro listed a inv hfree hr hy H;have hun:=(mem_ready.1 hr).1;refine ⟨fun h=>(by rw [h] at hr; cases hr),fun j hj => ?_⟩;have hjn:j<n:=Nat.lt_of_not_le fun h=>tail_waits hs hc hn inv _ i rfl hin hun j h hj;refine ⟨hjn,?_⟩
  by_cases hji:j=i
  ·subst hji; exact hy.qOp hi H
  ·obtain ⟨hjun,oj,hoj,hall⟩:=mem_ready.1 hj;have hnot:∀ e∈oj.after,Region.binds md e=true -> e.on≠i:=fun e he hb heq=>by
    have h1:=hall e he hb;rw [heq,getD_both hun] at h1
    cases h1
   have h2:=qOp_put hoj (hfree j oj hoj hji hjun hnot) (fun cs b=>hsel i oi cs b hi) (fun cs b=>hsel j oj cs b hoj) hy (H.2 j (ready_mono hj hji)).2;have hfree':∀ k ok,ops[k]? = some ok -> k≠i -> (listed.setIfInBounds j true).getD k true=false -> (∀ e∈ok.after,Region.binds md e=true -> e.on≠i) -> oi.apart ops ok=true:=fun k ok hk hki hun' hno=>by
    refine hfree k ok hk hki ?_ hno
    by_cases hjk:j=k
    ·subst hjk; exact hjun
    ·rw [getD_set_ne true hjk] at hun'; exact hun'
   refine qOp_mono (fun a' h3=>ih (listed.setIfInBounds j true) a' (inv.set hj hjn) hfree' (ready_mono hr (Ne.symm hji)) h3.1 ?_) h2;rw [Array.setIfInBounds_comm _ _ hji];exact h3.2
theorem headQ_lex {n g:Nat} {Lq:Act -> Prop} (hsel:Region.noSelect ops=true) (hs:Region.sinkB md ops n=true) (hc:Region.chainB md ops n=true) (hn:n<ops.size) :
  ∀ (l:List Oper) (k:Nat) (listed:Array Bool) (a:Act),(∀ j,j<l.length -> l[j]? = ops[k+j]?) -> k+l.length=n -> HeadInv md ops n listed ->
  Region.lexHead md ops g l.length k listed=true -> wpQuiet P ops C Lq l a ->
  headQ P md ops C n (fun listed' a'=>Region.seqB md ops g n listed'=true∧Lq a') l.length listed a
 | [],k,listed,a,_,hk,_,hB,h=>by
  obtain rfl:k=n:=by simpa using hk
  exact ⟨by simpa [Region.lexHead] using hB,h⟩
 | o :: l,k,listed,a,hl,hk,inv,hB,h=>by
  have h0:ops[k]? = some o:=by simpa using (hl 0 (by simp)).symm
  simp only [List.length_cons,Region.lexHead,Bool.and_eq_true] at hB;obtain ⟨⟨hr,hf⟩,hB'⟩:=hB;have hkn:k<n:=by simp only [List.length_cons] at hk; omega
  have hr':k∈Region.ready md ops listed:=by simpa using hr
  have hst:qOp P ops C k (wpQuiet P ops C Lq l) a:=by unfold qOp; simp only [h0]; exact h
  obtain ⟨v,hy,hK⟩:=yieldsIn_of_qOp h0 hst;exact headQ_first h0 (Region.noSelect_spec hsel) hs hc hn hkn (fun listed' a' hL=>seqB_ready hL.1) l.length listed a inv (Region.free_spec h0 hf) hr' hy
   (headQ_lex hsel hs hc hn l (k+1) _ _ (fun j hj=>by have:=hl (j+1) (by simp; omega); simpa [Nat.add_assoc,Nat.add_comm 1 j] using this) (by simp only [List.length_cons] at hk; omega) (inv.set hr' hkn) hB' hK)
theorem region_tail {id:Nat} {Q:Exit -> Act -> World -> Prop} {a:Act} {w:World} {l:List Oper} (n:Nat) (hm:P.follows .mixedOrders=true) (hB:Region.lexTailB .any l.toArray n=true) (hC:C w.drew)
  (h:wpQuiet P l.toArray C (fun a'=>∀ w',C w' -> wpList P l.toArray Q (l.drop n) a' w') (l.take n) a):(Code.region id l.toArray true).wp P Q a w:=by
 simp only [Region.lexTailB,Bool.and_eq_true,decide_eq_true_eq] at hB;obtain ⟨⟨⟨⟨hsel,hn⟩,hs⟩,hc⟩,hlex⟩:=hB;have hn':n<l.length:=by simpa using hn
 have htl:(l.take n).length=n:=by simp; omega
 have hdl:(l.drop n).length=l.toArray.size-n:=by simp
 have inv0:HeadInv .any l.toArray n (Array.replicate l.toArray.size false) :=
  ⟨by simp,fun j oj _ hl=>(by rw [getD_replicate_false] at hl; cases hl),fun t _ ht=>getD_in (by simpa using ht) (getD_replicate_false _ _)⟩
 have H:=headQ_lex (md:=.any) (g:=l.toArray.size-n) hsel hs hc hn (l.take n) 0 _ a (fun j hj=>by
  have hj':j<n:=by rw [htl] at hj; exact hj
  simp [hj']) (by simpa using htl) inv0 (by rw [htl]; exact hlex) h
 refine wp_region_any hm ?_;have:=any_of_headQ (Q:=Q) (g:=l.toArray.size-n) (fun listed a' w' hw' hL=>by
  have:=wpAny_of_seq (md:=.any) (Q':=Q) (l.drop n) n listed a' w' (fun j=>by simp [List.getElem?_drop]) (by rw [hdl]; exact hL.1) (hL.2 w' hw');rwa [hdl] at this) _ _ _ _ hC H
 rw [htl,show n+(l.toArray.size-n)=l.toArray.size by omega] at this;exact this
end
abbrev Ext (w:World):=(u:World) ×' Below w.heap.size w u
instance (w:World):Nonempty (Ext w):=⟨⟨w,Below.refl _ _⟩⟩
theorem ext_self (w:World):∃ u:Ext w,w.drew=u.1:=⟨⟨w.drew,(Below.refl _ _).drew⟩,rfl⟩
theorem region_ext_tail {P:Program} {id:Nat} {Q:Exit -> Act -> World -> Prop} {a:Act} {w:World} {l:List Oper} (n:Nat) (hm:P.follows .mixedOrders=true) (hB:Region.lexTailB .any l.toArray n=true)
  (h:wpQuiet P l.toArray (fun w'=>∃ u:Ext w,w'=u.1) (fun a'=>∀ u:Ext w,wpList P l.toArray Q (l.drop n) a' u.1) (l.take n) a):(Code.region id l.toArray true).wp P Q a w:=by
 refine region_tail (C:=fun w'=>∃ u:Ext w,w'=u.1) n hm hB (ext_self w) ?_;have e:(fun a'=>∀ w',(∃ u:Ext w,w'=u.1) -> wpList P l.toArray Q (l.drop n) a' w')=(fun a'=>∀ u:Ext w,wpList P l.toArray Q (l.drop n) a' u.1):=by
  funext a';exact propext ⟨fun h u=>h _ ⟨u,rfl⟩,fun h w' ⟨u,hu⟩=>hu ▸ h u⟩
 rw [e];exact h
theorem region_ext {P:Program} {id:Nat} {Q:Exit -> Act -> World -> Prop} {a:Act} {w:World} {l:List Oper} (hm:P.follows .mixedOrders=true) (hB:Region.lexB .any l.toArray=true)
  (h:wpQuiet P l.toArray (fun w'=>∃ u:Ext w,w'=u.1) (fun a'=>∀ u:Ext w,Q .normal a' u.1) l a):(Code.region id l.toArray true).wp P Q a w:=by
 refine wp_region_quiet (C:=fun w'=>∃ u:Ext w,w'=u.1) hm hB (ext_self w) ?_;have e:(fun a'=>∀ w',(∃ u:Ext w,w'=u.1) -> Q .normal a' w')=(fun a'=>∀ u:Ext w,Q .normal a' u.1):=by
  funext a';exact propext ⟨fun h u=>h _ ⟨u,rfl⟩,fun h w' ⟨u,hu⟩=>hu ▸ h u⟩
 rw [e];exact h
theorem ext_call {P:Program} {f:FuncId} {args:Array Value} {w:World} {v:Value} (u:Ext w) (h:Calls P f args u.1 fun e w'=>e = .returned v∧Below u.1.heap.size u.1 w') :
  Calls P f args u.1 fun e w''=>e = .returned v ∧ ∃ u':Ext w,w''=u'.1 :=
 h.mono fun _ w'' ⟨he,hb⟩=>⟨he,⟨w'',u.2.trans (hb.mono u.2.size)⟩,rfl⟩
theorem ext_call_drew {P:Program} {f:FuncId} {args:Array Value} {w:World} {v:Value} (u:Ext w) (h:Calls P f args u.1 fun e w'=>e = .returned v ∧ ∃ m,w'=u.1.drewN m) :
  Calls P f args u.1 fun e w''=>e = .returned v ∧ ∃ u':Ext w,w''=u'.1 :=
 h.mono fun _ _ ⟨he,m,hb⟩=>⟨he,⟨u.1.drewN m,⟨u.2.os,u.2.tape,u.2.output,u.2.size,u.2.block⟩⟩,hb⟩
theorem ext_cell {w:World} {p:Addr} {v:Value} (h:w.cell? p=some v) (u:Ext w):u.1.cell? p=some v :=
 (u.2.cell (World.block_lt_of_cell? w p h)).trans h
section
variable {P:Program} {ops:Array Oper} {md:Region.Mode} {C:World -> Prop}
def pureOp:Op -> Bool
 | .load .. | .fieldAddr .. | .move _ | .assign _ | .indexAddr .. | .build .. | .binOp .. | .extract .. => true
 | _=>false
theorem run_value {α:Type} {s:Sem α} {g:α -> Value} {w w':World} {f:FuncId} {args:Array Value} (h:(s >>= fun x=>pure (Next.value (g x))).run P w = .ok (.enter f args) w'):False:=by
 rw [Sem.run_bind] at h
 cases hs:s.run P w with
 | ok x w1 =>
  rw [hs] at h;have h2:Result.ok (Next.value (g x)) w1 = .ok (.enter f args) w':=h
  cases h2
 | halt x w1=>rw [hs] at h; cases h
theorem pure_enter {o:Oper} (hp:pureOp o.op=true) {ρ:Operand -> Value} {w w':World} {f:FuncId} {args:Array Value} (h:(execOp ρ o).run P w = .ok (.enter f args) w'):False:=by
 unfold execOp at h
 cases ho:o.op <;> rw [ho] at hp h <;> try (exact Bool.noConfusion hp)
 case move x=>cases (show Result.ok (Next.value (ρ x)) w = .ok (.enter f args) w' from h)
 case assign x=>cases (show Result.ok (Next.value (ρ x)) w = .ok (.enter f args) w' from h)
 case load t x=>exact run_value (s:=Instr.loadAt t (ρ x)) (g:=id) h
 case fieldAddr t x k=>exact run_value (s:=Instr.fieldAt t (ρ x) k) (g:=id) h
 case indexAddr t x k=>exact run_value (s:=Instr.indexAt t (ρ x) (ρ k)) (g:=id) h
 case build t ps=>exact run_value (s:=Instr.build t (ps.map fun (i,x)=>(i,ρ x))) (g:=id) h
 case binOp op t x y u=>exact run_value (s:=(do eqGuard op t x y (ρ x) (ρ y); Go.binOp op t (ρ x) (ρ y))) (g:=id) h
 case extract x k=>exact run_value (s:=Instr.extract (ρ x) k) (g:=id) h
def ReadsR (P:Program) (ops:Array Oper) (C:World -> Prop) (o:Oper) (v:Value) (a:Act):Prop :=
 (Region.wanted o (yielded ops a.tmps)=true ∧ ∀ w,C w -> (execOp a.eval o).run P w = .ok (.value v) w∨((execOp a.eval o).run P w = .ok .skip w∧v=undef) ∨ ∃ f args,(execOp a.eval o).run P w = .ok (.enter f args) w∧Calls P f args w fun e w''=>e = .returned v∧w''=w)∨(Region.wanted o (yielded ops a.tmps)=false∧v=undef)
theorem readsR_of {o:Oper} {v:Value} {a:Act} (hp:pureOp o.op=true) (h:YieldsIn P ops C o v a):ReadsR P ops C o v a:=by
 rcases h with ⟨h1,h2⟩ | h
 ·refine .inl ⟨h1,fun w hw => ?_⟩;have h3:=h2 w hw;unfold Oper.quietAt at h3;generalize hr:(execOp a.eval o).run P w=r at h3
  cases r with
  | ok n w' =>
   cases n <;> simp only [Oper.quietUpon] at h3
   case value u=>obtain ⟨rfl,rfl⟩:=h3; exact .inl rfl
   case skip=>obtain ⟨rfl,rfl⟩:=h3; exact .inr (.inl ⟨rfl,rfl⟩)
   case enter f args=>exact (pure_enter hp hr).elim
  | halt x w'=>simp only [Oper.quietUpon] at h3
 ·exact .inr h
def goUpon (P:Program) (C:World -> Prop) (o:Oper) (a:Act) (K:Act -> World -> Prop):Result Next -> Prop
 | .ok (.value v) w'=>C w'∧K (a.put o.dst v) w'
 | .ok .skip w'=>C w'∧K (a.put o.dst undef) w'
 | .ok (.enter f args) w'=>Calls P f args w' fun e w''=>∃ v,e = .returned v∧C w''∧K (a.put o.dst v) w''
 | _=>False
def gOp (P:Program) (ops:Array Oper) (C:World -> Prop) (i:Nat) (K:Act -> World -> Prop) (a:Act) (w:World):Prop :=
 match ops[i]? with
 | none=>K a w
 | some o=>if Region.wanted o (yielded ops a.tmps) then goUpon P C o a K ((execOp a.eval o).run P w) else K (a.put o.dst undef) w
theorem goUpon_mono {o:Oper} {a:Act} {K K':Act -> World -> Prop} {r:Result Next} (h:∀ a w,C w -> K a w -> K' a w) (hh:goUpon P C o a K r):goUpon P C o a K' r:=by
 cases r with
 | ok n w' =>
  cases n <;> simp only [goUpon] at hh ⊢
  case enter f args=>exact hh.mono fun e w'' ⟨v,he,hc,hk⟩=>⟨v,he,hc,h _ _ hc hk⟩
  all_goals exact ⟨hh.1,h _ _ hh.1 hh.2⟩
 | halt x w'=>simp only [goUpon] at hh
theorem gOp_mono {i:Nat} {a:Act} {w:World} {K K':Act -> World -> Prop} (hw:C w) (h:∀ a w,C w -> K a w -> K' a w) (hh:gOp P ops C i K a w):gOp P ops C i K' a w:=by
 unfold gOp at *
 split
 ·exact h _ _ hw (by simpa [*] using hh)
 ·rename_i o ho;simp only [ho] at hh
  split
  ·rename_i hq; simp only [hq,if_true] at hh; exact goUpon_mono h hh
  ·rename_i hq; simp only [hq] at hh; exact h _ _ hw hh
theorem wpOp_of_gOp {i:Nat} {a:Act} {w:World} {K K':Act -> World -> Prop} {Q:Exit -> Act -> World -> Prop} (hw:C w) (h:∀ a w,C w -> K a w -> K' a w) (hh:gOp P ops C i K a w):wpOp P ops Q i K' a w:=by
 have hh:=gOp_mono hw h hh;unfold gOp at hh;unfold wpOp
 split
 ·rename_i ho; simpa [ho] using hh
 ·rename_i o ho;simp only [ho] at hh
  split
  ·rename_i hq;simp only [hq,if_true] at hh;refine .inl ?_;unfold Oper.wp;generalize (execOp a.eval o).run P w=r at *
   cases r with
   | ok n w' =>
    cases n <;> simp only [goUpon] at hh
    case enter f args=>exact hh.mono fun e w'' ⟨v,he,_,hk⟩=>by subst he; exact hk
    all_goals exact hh.2
   | halt x w'=>simp only [goUpon] at hh
  ·rename_i hq; simpa [hq] using hh
theorem ReadsR.gOp {i:Nat} {o:Oper} {v:Value} {a:Act} {w:World} (hi:ops[i]? = some o) (hw:C w) (hy:ReadsR P ops C o v a) {K:Act -> World -> Prop} (h:K (a.put o.dst v) w):gOp P ops C i K a w:=by
 unfold qt.gOp;simp only [hi]
 rcases hy with ⟨hq,hv⟩ | ⟨hq,rfl⟩
 ·simp only [hq,if_true]
  rcases hv w hw with hx | ⟨hx,rfl⟩ | ⟨f,args,hx,hcl⟩
  ·rw [hx]; exact ⟨hw,h⟩
  ·rw [hx]; exact ⟨hw,h⟩
  ·rw [hx];exact hcl.mono fun e w'' ⟨he,hw''⟩=>⟨v,he,by rw [hw'']; exact hw,by rw [hw'']; exact h⟩
 ·simp only [hq,Bool.false_eq_true,if_false]; exact h
theorem ReadsR.put {oi oj:Oper} {v:Value} {a:Act} (hap:oi.apart ops oj=true) (hsi:∀ cs b,oi.op ≠ .select cs b) (hy:ReadsR P ops C oi v a) (u:Value):ReadsR P ops C oi v (a.put oj.dst u):=by
 obtain ⟨_,_,h3⟩:=Oper.apart_spec hap;unfold ReadsR at *;rw [execOp_put oi hsi a oj.dst u h3,wanted_put oi a oj.dst u h3];exact hy
theorem gOp_put {j:Nat} {oi oj:Oper} {v:Value} (hj:ops[j]? = some oj) (hap:oi.apart ops oj=true) (hsj:∀ cs b,oj.op ≠ .select cs b) {K:Act -> World -> Prop} {a:Act} {w:World}
  (h:gOp P ops C j K (a.put oi.dst v) w):gOp P ops C j (fun a' w'=>(∃ u,a'=a.put oj.dst u)∧K (a'.put oi.dst v) w') a w:=by
 obtain ⟨h1,h2,_⟩:=Oper.apart_spec hap;unfold gOp at *;simp only [hj] at *;rw [wanted_put oj a oi.dst v h1] at h
 split
 ·rename_i hq;simp only [hq,if_true] at h;rw [execOp_put oj hsj a oi.dst v h1] at h;generalize (execOp a.eval oj).run P w=r at *
  cases r with
  | ok n w' =>
   cases n <;> simp only [goUpon] at h ⊢
   case value u=>exact ⟨h.1,⟨_,rfl⟩,by rw [<- Act.put_comm a v u h2]; exact h.2⟩
   case skip=>exact ⟨h.1,⟨_,rfl⟩,by rw [<- Act.put_comm a v undef h2]; exact h.2⟩
   case enter f args=>exact h.mono fun e w'' ⟨u,he,hc,hk⟩=>⟨u,he,hc,⟨_,rfl⟩,by rw [<- Act.put_comm a v u h2]; exact hk⟩
  | halt x w'=>simp only [goUpon] at h
 ·rename_i hq;simp only [hq] at h;exact ⟨⟨_,rfl⟩,by rw [<- Act.put_comm a v undef h2]; exact h⟩
def headG (P:Program) (md:Region.Mode) (ops:Array Oper) (C:World -> Prop) (n:Nat) (L:Array Bool -> Act -> World -> Prop):Nat -> Array Bool -> Act -> World -> Prop
 | 0,listed,a,w=>L listed a w
 | f+1,listed,a,w=>Region.ready md ops listed≠[] ∧ ∀ i∈Region.ready md ops listed,i<n∧gOp P ops C i (headG P md ops C n L f (listed.setIfInBounds i true)) a w
theorem any_of_headG {n g:Nat} {L:Array Bool -> Act -> World -> Prop} {Q:Exit -> Act -> World -> Prop} (hL:∀ listed a w,L listed a w -> wpAny P md ops Q g listed a w) :
  ∀ (f:Nat) (listed:Array Bool) (a:Act) (w:World),C w -> headG P md ops C n L f listed a w -> wpAny P md ops Q (f+g) listed a w
 | 0,listed,a,w,_,h=>by rw [Nat.zero_add]; exact hL _ _ _ h
 | f+1,listed,a,w,hw,h=>by
  rw [show f+1+g=(f+g)+1 by omega];exact ⟨fun h0=>absurd h0 h.1,fun i hi=>wpOp_of_gOp hw (fun a' w' hw' h'=>any_of_headG hL f _ a' w' hw' h') (h.2 i hi).2⟩
theorem headG_first {n i:Nat} {oi:Oper} {v:Value} {L:Array Bool -> Act -> World -> Prop} (hi:ops[i]? = some oi) (hsel:∀ (j:Nat) (o:Oper) cs b,ops[j]? = some o -> o.op ≠ .select cs b)
  (hs:Region.sinkB md ops n=true) (hc:Region.chainB md ops n=true) (hn:n<ops.size) (hin:i<n) (hdone:∀ listed a w,L listed a w -> ∀ j∈Region.ready md ops listed,n <= j) :
  ∀ (f:Nat) (listed:Array Bool) (a:Act) (w:World),C w -> HeadInv md ops n listed ->
   (∀ j oj,ops[j]? = some oj -> j≠i -> listed.getD j true=false -> (∀ e∈oj.after,Region.binds md e=true -> e.on≠i) -> oi.apart ops oj=true) ->
   i∈Region.ready md ops listed -> ReadsR P ops C oi v a ->
   headG P md ops C n L f (listed.setIfInBounds i true) (a.put oi.dst v) w -> headG P md ops C n L (f+1) listed a w:=by
 intro f
 induction f with
 | zero =>
  intro listed a w hw inv _ hr hy H;have hun:=(mem_ready.1 hr).1;refine ⟨fun h=>(by rw [h] at hr; cases hr),fun j hj => ?_⟩;have hjn:j<n:=Nat.lt_of_not_le fun h=>tail_waits hs hc hn inv _ i rfl hin hun j h hj;refine ⟨hjn,?_⟩
  by_cases hji:j=i
  ·subst hji; exact hy.gOp hi hw H
  ·exact absurd (hdone _ _ _ H j (ready_mono hj hji)) (by omega)
 | succ f ih =>
  intro listed a w hw inv hfree hr hy H;have hun:=(mem_ready.1 hr).1;refine ⟨fun h=>(by rw [h] at hr; cases hr),fun j hj => ?_⟩;have hjn:j<n:=Nat.lt_of_not_le fun h=>tail_waits hs hc hn inv _ i rfl hin hun j h hj;refine ⟨hjn,?_⟩
  by_cases hji:j=i
  ·subst hji; exact hy.gOp hi hw H
  ·obtain ⟨hjun,oj,hoj,hall⟩:=mem_ready.1 hj;have hnot:∀ e∈oj.after,Region.binds md e=true -> e.on≠i:=fun e he hb heq=>by
    have h1:=hall e he hb;rw [heq,getD_both hun] at h1
    cases h1
   have hap:=hfree j oj hoj hji hjun hnot;have h2:=gOp_put hoj hap (fun cs b=>hsel j oj cs b hoj) (H.2 j (ready_mono hj hji)).2;have hfree':∀ k ok,ops[k]? = some ok -> k≠i -> (listed.setIfInBounds j true).getD k true=false -> (∀ e∈ok.after,Region.binds md e=true -> e.on≠i) -> oi.apart ops ok=true:=fun k ok hk hki hun' hno=>by
    refine hfree k ok hk hki ?_ hno
    by_cases hjk:j=k
    ·subst hjk; exact hjun
    ·rw [getD_set_ne true hjk] at hun'; exact hun'
   refine gOp_mono hw (fun a' w' hw' h3 => ?_) h2;obtain ⟨⟨u,rfl⟩,h3⟩:=h3;refine ih (listed.setIfInBounds j true) _ w' hw' (inv.set hj hjn) hfree' (ready_mono hr (Ne.symm hji)) (hy.put hap (fun cs b=>hsel i oi cs b hi) u) ?_;rw [Array.setIfInBounds_comm _ _ hji];exact h3
def writes (P:Program) (ops:Array Oper) (C:World -> Prop) (w:World) (K:Act -> World -> Prop) (l:List Oper) (a:Act):Prop :=
 match l with
 | [o]=>Region.wanted o (yielded ops a.tmps)=true∧goUpon P C o a K ((execOp a.eval o).run P w)
 | _=>False
theorem headG_lex {n g:Nat} {w:World} (hw:C w) {Lq:Act -> World -> Prop} (hsel:Region.noSelect ops=true) (hs:Region.sinkB md ops n=true) (hc:Region.chainB md ops n=true) (hn:n<ops.size) (ow:Oper) (how:ops[n-1]? = some ow) (hn0:0<n) :
  ∀ (l:List Oper) (k:Nat) (listed:Array Bool) (a:Act),(∀ j,j<l.length -> l[j]? = ops[k+j]?) -> k+l.length+1=n -> HeadInv md ops n listed -> l.all (fun o=>pureOp o.op)=true ->
  Region.lexHead md ops g (l.length+1) k listed=true -> wpQuiet P ops C (fun a'=>writes P ops C w Lq [ow] a') l a ->
  headG P md ops C n (fun listed' a' w'=>Region.seqB md ops g n listed'=true∧Lq a' w') (l.length+1) listed a w
 | [],k,listed,a,_,hk,inv,_,hB,h=>by
  obtain rfl:k=n-1:=by simp only [List.length_nil] at hk; omega
  simp only [List.length_nil,Region.lexHead,Bool.and_eq_true] at hB;obtain ⟨⟨hr,hf⟩,hB'⟩:=hB;rw [Nat.sub_add_cancel hn0] at hB';have hr':n-1∈Region.ready md ops listed:=by simpa using hr
  have hun:=(mem_ready.1 hr').1;refine ⟨fun h=>(by rw [h] at hr'; cases hr'),fun j hj => ?_⟩;have hjn:j<n:=Nat.lt_of_not_le fun h'=>tail_waits hs hc hn inv _ (n-1) rfl (by omega) hun j h' hj;refine ⟨hjn,?_⟩
  by_cases hjk:j=n-1
  ·subst hjk;unfold gOp;simp only [how];obtain ⟨h1,h2⟩:=h;simp only [h1,if_true];exact goUpon_mono (fun a' w' _ h'=>⟨hB',h'⟩) h2
  ·have:=seqB_ready hB' j (ready_mono hj hjk);omega
 | o :: l,k,listed,a,hl,hk,inv,hp,hB,h=>by
  have h0:ops[k]? = some o:=by simpa using (hl 0 (by simp)).symm
  simp only [List.length_cons] at hk;rw [List.length_cons,Region.lexHead] at hB;simp only [Bool.and_eq_true] at hB;obtain ⟨⟨hr,hf⟩,hB'⟩:=hB;simp only [List.all_cons,Bool.and_eq_true] at hp;have hkn:k<n:=by omega
  have hr':k∈Region.ready md ops listed:=by simpa using hr
  have hst:qOp P ops C k (wpQuiet P ops C (fun a'=>writes P ops C w Lq [ow] a') l) a:=by unfold qOp; simp only [h0]; exact h
  obtain ⟨v,hy,hK⟩:=yieldsIn_of_qOp h0 hst;exact headG_first h0 (Region.noSelect_spec hsel) hs hc hn hkn (fun listed' a' w' hL=>seqB_ready hL.1) (l.length+1) listed a w hw inv (Region.free_spec h0 hf) hr' (readsR_of hp.1 hy)
   (headG_lex hw hsel hs hc hn ow how hn0 l (k+1) _ _ (fun j hj=>by have:=hl (j+1) (by simp; omega); simpa [Nat.add_assoc,Nat.add_comm 1 j] using this) (by omega) (inv.set hr' hkn) hp.2 hB' hK)
theorem region_late {id:Nat} {Q:Exit -> Act -> World -> Prop} {a:Act} {w:World} {l:List Oper} (n:Nat) (hm:P.follows .mixedOrders=true) (hB:Region.lexTailB .any l.toArray (n+1)=true) (hp:(l.take n).all (fun o=>pureOp o.op)=true) (hC:C w.drew)
  (h:wpQuiet P l.toArray C (fun a'=>writes P l.toArray C w.drew (wpList P l.toArray Q (l.drop (n+1))) ((l.drop n).take 1) a') (l.take n) a):(Code.region id l.toArray true).wp P Q a w:=by
 simp only [Region.lexTailB,Bool.and_eq_true,decide_eq_true_eq] at hB;obtain ⟨⟨⟨⟨hsel,hn⟩,hs⟩,hc⟩,hlex⟩:=hB;have hn':n+1<l.length:=by simpa using hn
 have htl:(l.take n).length=n:=by simp; omega
 have hdl:(l.drop (n+1)).length=l.toArray.size-(n+1):=by simp
 have inv0:HeadInv .any l.toArray (n+1) (Array.replicate l.toArray.size false) :=
  ⟨by simp,fun j oj _ hl=>(by rw [getD_replicate_false] at hl; cases hl),fun t _ ht=>getD_in (by simpa using ht) (getD_replicate_false _ _)⟩
 have h1:(l.drop n).take 1=[l[n]]:=by
  rw [List.take_one,List.head?_drop,List.getElem?_eq_getElem (by omega)]; first | done | rfl
 rw [h1] at h;have H:=headG_lex (md:=.any) (n:=n+1) (g:=l.toArray.size-(n+1)) hC hsel hs hc hn l[n] (by simp) (by omega) (l.take n) 0 _ a (fun j hj=>by
  have hj':j<n:=by rw [htl] at hj; exact hj
  simp [hj']) (by rw [htl]; omega) inv0 hp (by rw [htl]; exact hlex) h
 refine wp_region_any hm ?_;have:=any_of_headG (Q:=Q) (g:=l.toArray.size-(n+1)) (fun listed a' w' hL=>by
  have:=wpAny_of_seq (md:=.any) (Q':=Q) (l.drop (n+1)) (n+1) listed a' w' (fun j=>by simp [List.getElem?_drop]) (by rw [hdl]; exact hL.1) hL.2;rwa [hdl] at this) _ _ _ _ hC H
 rw [htl,show n+1+(l.toArray.size-(n+1))=l.toArray.size by omega] at this;exact this
end
abbrev ExtBut (w:World) (g:Nat):=(u:World) ×' (∀ b,b<w.heap.size -> b≠g -> u.heap[b]? = w.heap[b]?)
instance (w:World) (g:Nat):Nonempty (ExtBut w g):=⟨⟨w,fun _ _ _=>rfl⟩⟩
theorem but_cell {w:World} {g:Nat} {p:Addr} {v:Value} (h:w.cell? p=some v) (hg:p.block≠g) (u:ExtBut w g):u.1.cell? p=some v :=
 (World.cell?_of_block (u.2 p.block (World.block_lt_of_cell? w p h) hg)).trans h
section
variable {P:Program} {ops:Array Oper} {md:Region.Mode} {C:World -> Prop} {Q:Exit -> Act -> World -> Prop}
def anyG (P:Program) (md:Region.Mode) (ops:Array Oper) (C:World -> Prop) (Q:Exit -> Act -> World -> Prop):Nat -> Array Bool -> Act -> World -> Prop
 | 0,listed,a,w=>Region.ready md ops listed=[]∧Q .normal a w
 | f+1,listed,a,w=>Region.ready md ops listed≠[] ∧ ∀ i∈Region.ready md ops listed,gOp P ops C i (anyG P md ops C Q f (listed.setIfInBounds i true)) a w
theorem any_of_anyG:∀ (f:Nat) (listed:Array Bool) (a:Act) (w:World),C w -> anyG P md ops C Q f listed a w -> wpAny P md ops Q f listed a w
 | 0,_,_,_,_,h=>h
 | f+1,_,_,_,hw,h=>⟨fun h0=>absurd h0 h.1,fun i hi=>wpOp_of_gOp hw (fun a' w' hw' h'=>any_of_anyG f _ a' w' hw' h') (h.2 i hi)⟩
theorem anyG_first {i:Nat} {oi:Oper} {v:Value} (hi:ops[i]? = some oi) (hsel:∀ (j:Nat) (o:Oper) cs b,ops[j]? = some o -> o.op ≠ .select cs b) :
  ∀ (f:Nat) (listed:Array Bool) (a:Act) (w:World),C w ->
   (∀ j oj,ops[j]? = some oj -> j≠i -> listed.getD j true=false -> (∀ e∈oj.after,Region.binds md e=true -> e.on≠i) -> oi.apart ops oj=true) ->
   i∈Region.ready md ops listed -> ReadsR P ops C oi v a ->
   anyG P md ops C Q f (listed.setIfInBounds i true) (a.put oi.dst v) w -> anyG P md ops C Q (f+1) listed a w:=by
 intro f
 induction f with
 | zero =>
  intro listed a w hw _ hr hy H;refine ⟨fun h=>(by rw [h] at hr; cases hr),fun j hj => ?_⟩
  by_cases hji:j=i
  ·subst hji; exact hy.gOp hi hw H
  ·have:=ready_mono hj hji;rw [H.1] at this
   cases this
 | succ f ih =>
  intro listed a w hw hfree hr hy H;have hun:=(mem_ready.1 hr).1;refine ⟨fun h=>(by rw [h] at hr; cases hr),fun j hj => ?_⟩
  by_cases hji:j=i
  ·subst hji; exact hy.gOp hi hw H
  ·obtain ⟨hjun,oj,hoj,hall⟩:=mem_ready.1 hj;have hnot:∀ e∈oj.after,Region.binds md e=true -> e.on≠i:=fun e he hb heq=>by
    have h1:=hall e he hb;rw [heq,getD_both hun] at h1
    cases h1
   have hap:=hfree j oj hoj hji hjun hnot;have h2:=gOp_put hoj hap (fun cs b=>hsel j oj cs b hoj) (H.2 j (ready_mono hj hji));have hfree':∀ k ok,ops[k]? = some ok -> k≠i -> (listed.setIfInBounds j true).getD k true=false -> (∀ e∈ok.after,Region.binds md e=true -> e.on≠i) -> oi.apart ops ok=true:=fun k ok hk hki hun' hno=>by
    refine hfree k ok hk hki ?_ hno
    by_cases hjk:j=k
    ·subst hjk; exact hjun
    ·rw [getD_set_ne true hjk] at hun'; exact hun'
   refine gOp_mono hw (fun a' w' hw' h3 => ?_) h2;obtain ⟨⟨u,rfl⟩,h3⟩:=h3;refine ih (listed.setIfInBounds j true) _ w' hw' hfree' (ready_mono hr (Ne.symm hji)) (hy.put hap (fun cs b=>hsel i oi cs b hi) u) ?_;rw [Array.setIfInBounds_comm _ _ hji];exact h3
def readsB (md:Region.Mode) (ops:Array Oper):List Nat -> Array Bool -> Bool
 | [],_=>true
 | i :: is,listed=>(Region.ready md ops listed).contains i && Region.free md ops listed i && ((ops[i]?).map fun o=>pureOp o.op).getD false && readsB md ops is (listed.setIfInBounds i true)
def listAll:List Nat -> Array Bool -> Array Bool
 | [],listed=>listed
 | i :: is,listed=>listAll is (listed.setIfInBounds i true)
theorem anyG_reads (hsel:Region.noSelect ops=true) {f:Nat} {w:World} (hw:C w):∀ (is:List Nat) (listed:Array Bool) (a:Act),readsB md ops is listed=true ->
  wpQuiet P ops C (fun a'=>anyG P md ops C Q f (listAll is listed) a' w) (is.filterMap fun i=>ops[i]?) a -> anyG P md ops C Q (is.length+f) listed a w
 | [],listed,a,_,h=>by rw [List.length_nil,Nat.zero_add]; exact h
 | i :: is,listed,a,hB,h=>by
  simp only [readsB,Bool.and_eq_true] at hB;obtain ⟨⟨⟨hr,hf⟩,hp⟩,hB'⟩:=hB
  cases hi:ops[i]? with
  | none=>rw [hi] at hp; cases hp
  | some o =>
   rw [hi] at hp;have hr':i∈Region.ready md ops listed:=by simpa using hr
   rw [List.filterMap_cons,hi] at h;have hst:qOp P ops C i (wpQuiet P ops C (fun a'=>anyG P md ops C Q f (listAll is (listed.setIfInBounds i true)) a' w) (is.filterMap fun i=>ops[i]?)) a:=by unfold qOp; simp only [hi]; exact h
   obtain ⟨v,hy,hK⟩:=yieldsIn_of_qOp hi hst;rw [List.length_cons,show is.length+1+f=(is.length+f)+1 by omega];exact anyG_first hi (Region.noSelect_spec hsel) _ listed a w hw (Region.free_spec hi hf) hr' (readsR_of hp hy) (anyG_reads hsel hw is _ _ hB' hK)
theorem region_reads {id:Nat} {a:Act} {w:World} {l:List Oper} (is:List Nat) (f:Nat) (hm:P.follows .mixedOrders=true) (hB:(Region.noSelect l.toArray && readsB .any l.toArray is (Array.replicate l.toArray.size false) && decide (is.length+f=l.toArray.size))=true) (hC:C w.drew)
  (h:wpQuiet P l.toArray C (fun a'=>anyG P .any l.toArray C Q f (listAll is (Array.replicate l.toArray.size false)) a' w.drew) (is.filterMap fun i=>l[i]?) a):(Code.region id l.toArray true).wp P Q a w:=by
 simp only [Bool.and_eq_true,decide_eq_true_eq] at hB;obtain ⟨⟨hs,hr⟩,hf⟩:=hB;refine wp_region_any hm ?_;have e:(fun i=>l.toArray[i]?)=fun i=>l[i]?:=funext fun i=>List.getElem?_toArray;have hx:=anyG_reads (Q:=Q) (f:=f) hs hC is _ a hr (by rw [e]; exact h);rw [hf] at hx;exact any_of_anyG _ _ _ _ hC hx
theorem anyG_end {listed:Array Bool} {a:Act} {w:World} (hr:Region.ready md ops listed=[]) (h:Q .normal a w):anyG P md ops C Q 0 listed a w:=⟨hr,h⟩
theorem anyG_one {f:Nat} {listed:Array Bool} {a:Act} {w:World} (i:Nat) (o:Oper) (hr:Region.ready md ops listed=[i]) (ho:ops[i]? = some o) (hg:o.guard=none)
  (h:goUpon P C o a (anyG P md ops C Q f (listed.setIfInBounds i true)) ((execOp a.eval o).run P w)):anyG P md ops C Q (f+1) listed a w:=by
 refine ⟨by rw [hr]; simp,fun j hj => ?_⟩;rw [hr] at hj;have hj:j=i:=by simpa using hj
 subst hj;unfold gOp;simp only [ho,Region.wanted,hg,if_true];exact h
theorem anyG_two {f:Nat} {listed:Array Bool} {a:Act} {w:World} (i k:Nat) (o p:Oper) (hr:Region.ready md ops listed=[i,k]) (ho:ops[i]? = some o) (hp:ops[k]? = some p) (hg:o.guard=none) (hg':p.guard=none)
  (h:goUpon P C o a (anyG P md ops C Q f (listed.setIfInBounds i true)) ((execOp a.eval o).run P w))
  (h':goUpon P C p a (anyG P md ops C Q f (listed.setIfInBounds k true)) ((execOp a.eval p).run P w)):anyG P md ops C Q (f+1) listed a w:=by
 refine ⟨by rw [hr]; simp,fun j hj => ?_⟩;rw [hr] at hj;have hj:j=i∨j=k:=by simpa using hj
 rcases hj with rfl | rfl
 ·unfold gOp;simp only [ho,Region.wanted,hg,if_true];exact h
 ·unfold gOp;simp only [hp,Region.wanted,hg',if_true];exact h'
theorem goUpon_val {o:Oper} {a:Act} {K:Act -> World -> Prop} {r:Result Next} (v:Value) (w':World) (hr:r = .ok (.value v) w') (hC:C w') (h:K (a.put o.dst v) w'):goUpon P C o a K r:=by
 rw [hr]; exact ⟨hC,h⟩
theorem goUpon_skip {o:Oper} {a:Act} {K:Act -> World -> Prop} {r:Result Next} (w':World) (hr:r = .ok .skip w') (hC:C w') (h:K (a.put o.dst undef) w'):goUpon P C o a K r:=by
 rw [hr]; exact ⟨hC,h⟩
end
end qt
end Go.Proofs.YtcbgkbidgpemfaaGreatDoor
