/- The walk of the reader's stmt. Conditions: as each theorem states. -/
import Derived.Test.YtcbgkbidgpemfaaGreatDoorMf00
import Derived.Test.YtcbgkbidgpemfaaGreatDoorMf05
import Derived.Test.YtcbgkbidgpemfaaGreatDoorMf01
import Derived.Deep.RegionHeld3
import Derived.Deep.AppendLies
import Derived.Laws.Pointers
import Derived.Lib.OthersKept
import Derived.StillTactics
import Derived.Deep.Cut
import Derived.Deep.CutRange
import Derived.Deep.RegionWith
import Derived.Deep.RegionLaw
set_option maxRecDepth 100000
set_option maxHeartbeats 4000000
namespace Go.Proofs.YtcbgkbidgpemfaaGreatDoor.parw
open Go.RowKit
open lexw
attribute [local go_sem] run_store_float
structure PStmt where
 name:ByteArray
 pos:Int
 kind:Nat
 args:List PArg
def acells (l:List PArg):List Value:=l.flatMap PArg.cells
theorem acells_app (l r:List PArg):acells (l ++ r)=acells l ++ acells r:=by simp [acells]
def formB (k:Nat):ByteArray:=⟨([[],[110,110,110],[110,110,110,110],[110,110],[110,110,110,110,110,110,110],[110,119,119],[110,110,110,110,119]].getD k []).toArray⟩
def formL (k:Nat):List Bool:=([[],[true,true,true],[true,true,true,true],[true,true],[true,true,true,true,true,true,true],[true,false,false],[true,true,true,true,false]].getD k [])
def argS (dec:ByteArray -> Nat × Nat) (en:Int) (b:Bool) (s:RSt):PArg × RSt:=if b then numS dec en s else wordS en s
def argsS (dec:ByteArray -> Nat × Nat) (en:Int):List Bool -> RSt -> List PArg × RSt
 | [],s=>([],s)
 | b :: r,s=>((argS dec en b s).1 :: (argsS dec en r (argS dec en b s).2).1,(argsS dec en r (argS dec en b s).2).2)
def stmtS (dec:ByteArray -> Nat × Nat) (en:Int) (s:RSt):PStmt × RSt :=
 let n:=nextS en s 1
 let t:=nextS en (nextS en n.2 3).2 1
 let k:=kindF t.1.text
 let a:=argsS dec en (formL k) (if k=0 then t.2.fail t.1.pos 171 else t.2)
 (⟨n.1.text,n.1.pos,k,a.1⟩,(nextS en a.2 4).2)
theorem nextS_mem {en:Int} {s:RSt} {k:Nat} (h:(nextS en s k).2.er=0):(nextS en s k).1∈s.ts∧(nextS en s k).1.kind=k:=by
 unfold nextS at h ⊢
 by_cases h0:s.er=0
 ·rw [if_pos h0] at h ⊢
  rcases hts:s.ts with _ | ⟨t,r⟩
  ·rw [hts] at h; simp at h
  ·rw [hts] at h;simp only at h ⊢
   by_cases hk:t.kind=k
   ·rw [if_pos hk]; exact ⟨List.mem_cons_self,hk⟩
   ·rw [if_neg hk] at h; simp at h
 ·rw [if_neg h0] at h; exact absurd h h0
theorem nextS_sub (en:Int) (s:RSt) (k:Nat):∀ t∈(nextS en s k).2.ts,t∈s.ts:=by
 intro t ht;unfold nextS at ht
 by_cases h0:s.er=0
 ·rw [if_pos h0] at ht
  rcases hts:s.ts with _ | ⟨t',r⟩
  ·rw [hts] at ht; simp at ht
  ·rw [hts] at ht;simp only at ht
   by_cases hk:t'.kind=k
   ·rw [if_pos hk] at ht; exact List.mem_cons_of_mem _ ht
   ·rw [if_neg hk] at ht; simpa [hts] using ht
 ·rw [if_neg h0] at ht; exact ht
theorem fail_ts (s:RSt) (a:Int) (e:Nat):(s.fail a e).ts=s.ts:=by unfold RSt.fail; split <;> rfl
theorem numS_sub (dec:ByteArray -> Nat × Nat) (en:Int) (s:RSt):∀ t∈(numS dec en s).2.ts,t∈s.ts:=by
 intro t ht;unfold numS at ht
 split at ht
 ·simp only at ht
  split at ht
  ·exact nextS_sub en s 2 t ht
  ·rw [fail_ts] at ht; exact nextS_sub en s 2 t ht
 ·exact nextS_sub en s 2 t ht
theorem argS_sub (dec:ByteArray -> Nat × Nat) (en:Int) (b:Bool) (s:RSt):∀ t∈(argS dec en b s).2.ts,t∈s.ts:=by
 cases b
 ·exact nextS_sub en s 1
 ·exact numS_sub dec en s
theorem idx_forms (k:Nat) (hk:k <= 6) (w:World):(Instr.index 102 formsV (.int .u8 k)).run Tryz.prog w = .ok (.string (formB k)) w:=by
 have:k=0∨k=1∨k=2∨k=3∨k=4∨k=5∨k=6:=by omega
 rcases this with rfl | rfl | rfl | rfl | rfl | rfl | rfl <;> simp [formsV,formB,Instr.index,asIntOf,run_underlying Tryz.underlying102,go_sem,part,Tryz.sizeOf9,Tryz.isAgg9]
def DecOk (dec:ByteArray -> Nat × Nat) (G:World -> Prop) (ts:List PTok):Prop :=
 ∀ t∈ts,t.kind=2 -> ∀ w,G w -> Calls Tryz.prog 94 #[.string t.text] w (DecPost (dec t.text) w)
theorem DecOk.sub {dec:ByteArray -> Nat × Nat} {G:World -> Prop} {ts us:List PTok} (h:DecOk dec G ts) (hs:∀ t∈us,t∈ts):DecOk dec G us:=fun t ht=>h t (hs t ht)
def StmtPost (rb B:Nat) (en:Int) (r:PStmt × RSt) (w:World) (e:Ending) (w':World):Prop :=
 ∃ v,e = .returned (.agg #[.string r.1.name,.int .i64 r.1.pos,.int .u8 r.1.kind,v])∧w'.ownsRow w.heap.size 59 3 v r.1.args.length (acells r.1.args)∧RdAt w' rb B en r.2∧w.grownBy w' (some rb)
theorem own_grown {w w':World} {base size n:Nat} {e:TypeId} {v:Value} {xs:List Value} {row:Option Nat} (h:w.ownsRow base e size v n xs) (hg:w.grownBy w' row) (hr:∀ r,row=some r -> r<base):w'.ownsRow base e size v n xs:=by
 refine ⟨h.1,?_⟩
 rcases h.2 with h0 | ⟨g,cap,cur,hv,hb,hh,r⟩
 ·exact .inl h0
 ·exact .inr ⟨g,cap,cur,hv,hb,(hg.block g (Array.getElem?_eq_some_iff.1 hh).1 (fun e=>by have:=hr g e.symm; omega)).trans hh,r⟩
theorem grown_drew {a b:World} {row:Option Nat} (h:a.grownBy b row):a.grownBy b.drew row:=⟨h.os,h.tape,h.output,h.size,h.block⟩
theorem iter_cell (w:World) (s:ByteArray) (pos:Nat) (a:Addr) (h:a.block<w.heap.size):(w.iter s pos).cell? a=w.cell? a:=World.cell?_alloc_lt w _ a h
theorem Below.un_drew {a w:World} (h:Below a.drew.heap.size a.drew w):Below a.heap.size a w:=⟨h.os,h.tape,h.output,h.size,h.block⟩
theorem form_len:∀ k,k <= 6 -> (formB k).size=(formL k).length∧(formL k).length <= 7:=by
 intro k hk;have:k=0∨k=1∨k=2∨k=3∨k=4∨k=5∨k=6:=by omega
 rcases this with rfl | rfl | rfl | rfl | rfl | rfl | rfl <;> decide
theorem form_byte (k:Nat) (hk:k <= 6) (j:Nat) (hj:j<(formL k).length):∃ h:j<(formB k).size,((formB k)[j]'h).toNat=if (formL k)[j] then 110 else 119:=by
 have hl:=form_len k hk;have h1:k=0∨k=1∨k=2∨k=3∨k=4∨k=5∨k=6:=by omega
 have h2:j=0∨j=1∨j=2∨j=3∨j=4∨j=5∨j=6:=by omega
 refine ⟨by omega,?_⟩
 rcases h1 with rfl | rfl | rfl | rfl | rfl | rfl | rfl <;> rcases h2 with rfl | rfl | rfl | rfl | rfl | rfl | rfl <;> first | rfl | (exfalso; revert hj; decide)
theorem Tryz.argInfo:(Tryz.prog.info? 59).map (fun i=>(i.zero,i.size,i.bytes))=some (some (.agg #[.int .i64 0,.float .f64 0,.string ⟨#[]⟩]),3,32):=by kernel_rfl
theorem grown_new {a b c:World} {row row':Option Nat} (h:a.grownBy b row) (k:b.grownBy c row') (hr:∀ r,row'=some r -> a.heap.size <= r):a.grownBy c row :=
 ⟨k.os.trans h.os,k.tape.trans h.tape,k.output.trans h.output,Nat.le_trans h.size k.size,fun i hi hne=>(k.block i (Nat.lt_of_lt_of_le hi h.size) (fun e=>by have:=hr i e.symm; omega)).trans (h.block i hi hne)⟩
theorem round_end {w W wx wz:World} {rb B ib b5 sz n:Nat} {en:Int} {s':RSt} {o it ob:Obj} {v v':Value} {cs:Array Value} {T e:TypeId} {xs:List Value}
  (h1:rb<w.heap.size) (h2:w.heap.size<b5) (h3:b5<ib) (h4:ib<W.heap.size) (hB:B <= rb)
  (hgW:w.grownBy W (some rb)) (hit:W.heap[ib]? = some it) (hcW:W.heap[b5]? = some (.cells cs T (0,0))) (hbW:W.heap[w.heap.size]? = some ob)
  (gx:W.grownBy wx (some rb)) (hx:RdAt wx rb B en s') (hg:(wx.alloc o).grownBy wz v.ownBlock) (hv:∀ r,v.ownBlock=some r -> ib+1 <= r) (hown:wz.ownsRow (ib+1) e sz v' n xs) :
  (wz.setCell ⟨b5,3,none⟩ v').heap[ib]? = some it∧RdAt (wz.setCell ⟨b5,3,none⟩ v') rb B en s'∧(wz.setCell ⟨b5,3,none⟩ v').heap[b5]? = some (.cells (cs.setIfInBounds 3 v') T (0,0)) ∧
  (wz.setCell ⟨b5,3,none⟩ v').ownsRow (ib+1) e sz v' n xs∧w.grownBy (wz.setCell ⟨b5,3,none⟩ v') (some rb)∧(wz.setCell ⟨b5,3,none⟩ v').heap[w.heap.size]? = some ob:=by
 have z1:=gx.size;have gz:wx.grownBy wz v.ownBlock:=grown_trans (World.grownBy_alloc wx o _) hg;have kb:∀ b,b<W.heap.size -> b <= ib -> b≠rb -> wz.heap[b]? = W.heap[b]?:=fun b hb hi hr =>
  (gz.block b (by omega) (fun e=>by have:=hv b e.symm; omega)).trans (gx.block b hb (by simp; omega))
 have ks:∀ b,b≠b5 -> (wz.setCell ⟨b5,3,none⟩ v').heap[b]? = wz.heap[b]?:=fun b hb=>Below.heap_setCell _ _ _ _ hb;have gs:=grown_setCell wz ⟨b5,3,none⟩ v';refine ⟨(ks ib (by omega)).trans ((kb ib h4 (Nat.le_refl _) (by omega)).trans hit),?_,heap_set wz b5 3 _ _ _ v' ((kb b5 (by omega) (by omega) (by omega)).trans hcW),own_grown hown gs (by intro r e; simp at e; omega),?_,(ks _ (by omega)).trans ((kb _ (by omega) (by omega) (by omega)).trans hbW)⟩
 ·exact (hx.kept gz (fun r e=>by have:=hv r e; omega)).kept gs (by intro r e; simp at e; omega)
 ·exact grown_new (grown_new (grown_trans hgW gx) gz (fun r e=>by have:=hv r e; omega)) gs (by intro r e; simp at e; omega)
theorem cell_grown {w w2:World} {row:Option Nat} {b j:Nat} {v:Value} (g:w.grownBy w2 row) (h:b<w.heap.size) (hr:some b≠row) (h1:w.cell? ⟨b,j,none⟩=some v) (h2:w.frozen? ⟨b,j,none⟩=false) :
  w2.cell? ⟨b,j,none⟩=some v∧w2.frozen? ⟨b,j,none⟩=false :=
 ⟨(g.cell_far ⟨b,j,none⟩ h hr).trans h1,(g.frozen_far ⟨b,j,none⟩ h hr).trans h2⟩
theorem frozen_alloc (w:World) (o:Obj) (a:Addr) (h:a.block<w.heap.size):(w.alloc o).frozen? a=w.frozen? a:=World.frozen?_of_block (World.heap_alloc_lt' w o _ h)
theorem grown_iter (w:World) (k:Nat) (s:ByteArray) (pos:Nat):w.grownBy (w.iterAt k s pos) (some k) :=
 ⟨rfl,rfl,rfl,by rw [Lib.iterAt_size]; exact Nat.le_refl _,fun i _ hi=>Lib.iterAt_other w k i s pos (fun e=>hi (by rw [e]))⟩
theorem own_base {W:World} {base:Nat} {e:TypeId} {size:Nat} {v:Value} {k:Nat} {xs:List Value} (h:W.ownsRow base e size v k xs) {r:Nat} (hr:v.ownBlock=some r):base <= r:=(h.lt r hr).1
theorem own_le {w:World} {base base' size n:Nat} {e:TypeId} {v:Value} {xs:List Value} (h:w.ownsRow base e size v n xs) (hb:base' <= base):w.ownsRow base' e size v n xs:=by
 refine ⟨h.1,?_⟩
 rcases h.2 with h0 | ⟨g,cap,cur,hv,hg,r⟩
 ·exact .inl h0
 ·exact .inr ⟨g,cap,cur,hv,Nat.le_trans hb hg,r⟩
theorem store4 (W:World) (g:Nat) (cs:Array Value) (t:TypeId) (x y z u:Value) (hk:W.heap[g]? = some (.cells cs t (0,0))) (hcs:cs.size=4) :
  ((((W.setCell ⟨g,0,none⟩ x).setCell ⟨g,1,none⟩ y).setCell ⟨g,2,none⟩ z).setCell ⟨g,3,none⟩ u).heap[g]? = some (.cells #[x,y,z,u] t (0,0)) ∧
  W.grownBy ((((W.setCell ⟨g,0,none⟩ x).setCell ⟨g,1,none⟩ y).setCell ⟨g,2,none⟩ z).setCell ⟨g,3,none⟩ u) (some g):=by
 have k0:=heap_set W g 0 _ _ _ x hk;have k1:=heap_set _ g 1 _ _ _ y k0;have k2:=heap_set _ g 2 _ _ _ z k1;have k3:=heap_set _ g 3 _ _ _ u k2;refine ⟨k3.trans ?_,grown_trans (grown_trans (grown_trans (grown_setCell W ⟨g,0,none⟩ x) (grown_setCell _ ⟨g,1,none⟩ y)) (grown_setCell _ ⟨g,2,none⟩ z)) (grown_setCell _ ⟨g,3,none⟩ u)⟩;obtain ⟨cs⟩:=cs
 match cs,hcs with
 | [_,_,_,_],_=>rfl
theorem heap_at (w:World) (o:Obj) (k:Nat) (h:w.heap.size=k):(w.alloc o).heap[k]? = some o:=by subst h; exact heap_alloc_new w o
theorem World.grownBy.row_any {w w':World} {row:Option Nat} (h:w.grownBy w' none):w.grownBy w' row:=⟨h.os,h.tape,h.output,h.size,fun k hk _=>h.block k hk (by simp)⟩
theorem stmt_any (dec:ByteArray -> Nat × Nat) (G:World -> Prop) (rb B:Nat) (hG:Stable G B) (en:Int) (s:RSt) (hd:DecOk dec G s.ts) (w:World) (h:RdAt w rb B en s) (hw:G w) :
    Calls Tryz.prog 33 #[.pointer (some ⟨rb,0,none⟩)] w (StmtPost rb B en (stmtS dec en s) w):=by
  have hlt:=h.lt;have hB:=h.1;obtain ⟨R,hst⟩:∃ R,R=stmtS dec en s:=⟨_,rfl⟩;rw [<- hst];unfold stmtS at hst;simp only at hst;obtain ⟨⟨n,s1⟩,hn⟩:∃ r,nextS en s 1=r:=⟨_,rfl⟩;obtain ⟨⟨q,s2⟩,hq⟩:∃ r,nextS en s1 3=r:=⟨_,rfl⟩;obtain ⟨⟨t,s3⟩,ht⟩:∃ r,nextS en s2 1=r:=⟨_,rfl⟩;rw [hn] at hst;simp only at hst;rw [hq] at hst;simp only at hst;rw [ht] at hst;simp only at hst;have d1:=hd.sub (nextS_sub en s 1);rw [hn] at d1;have d2:=DecOk.sub d1 (nextS_sub en s1 3);rw [hq] at d2;have d3:=DecOk.sub d2 (nextS_sub en s2 1);rw [ht] at d3;simp only at d3;clear d1 d2 hd;have c1:=fun W h=>next_any rb B en s 1 W h;have c2:=fun W h=>next_any rb B en s1 3 W h;have c3:=fun W h=>next_any rb B en s2 1 W h;rw [hn] at c1;rw [hq] at c2;rw [ht] at c3;have HS:=Yd hst;have D3:=Yd d3;clear hst hn hq ht d3;have r0:=h.alloc (.cells #[.string ⟨#[]⟩,.int .i64 0,.int .u8 0,.slice none 0 0] 62);go_enter Tryz.func33,Tryz.ntmps33;go_wp2_with fail;refine (c1 _ r0).mono ?_;rintro e w1 ⟨rfl,h1,g1⟩;have hb0:w1.heap[w.heap.size]? = _:=(g1.block w.heap.size (by simp) (by simp; omega)).trans (heap_alloc_new w _);have z1:w.heap.size+1 <= w1.heap.size:=by have:=g1.size; simpa using this
  unfold PTok.val;simp only at h1 ⊢;clear c1 r0;go_wp2_with fail;refine (c2 _ (h1.alloc _)).mono ?_;rintro e w2 ⟨rfl,h2,g2⟩;have z2:w1.heap.size+1 <= w2.heap.size:=by have:=g2.size; simpa using this
  have hb3:w2.heap[w1.heap.size]? = _:=(g2.block w1.heap.size (by simp) (by simp; omega)).trans (heap_alloc_new w1 _);have hb0:w2.heap[w.heap.size]? = _:=(g2.block w.heap.size (by simp; omega) (by simp; omega)).trans ((World.heap_alloc_lt' _ _ _ (by omega)).trans hb0);unfold PTok.val;simp only at h2 ⊢;clear c2;go_wp2_with fail;refine (c3 _ h2).mono ?_;rintro e w3 ⟨rfl,h3,g3⟩;have z3:w2.heap.size <= w3.heap.size:=g3.size;have hb3:w3.heap[w1.heap.size]? = _:=(g3.block w1.heap.size (by omega) (by simp; omega)).trans hb3;have hb0:w3.heap[w.heap.size]? = _:=(g3.block w.heap.size (by omega) (by simp; omega)).trans hb0;have g03:w.grownBy w3 (some rb):=grown_trans (World.grownBy_alloc w _ _) (grown_trans g1 (grown_trans (World.grownBy_alloc w1 _ _) (grown_trans g2 g3)));unfold PTok.val;simp only at h3 ⊢;clear c3 g1 g2 g3 h1 h2;go_upto_region 4 with (fail);obtain ⟨k,hk⟩:∃ k,kindF t.text=k:=⟨_,rfl⟩;have hk6:k <= 6:=by rw [<- hk]; exact kindF_le _
  have hb4:=heap_alloc_new w3 (.cells #[.int .u8 t.kind,.int .i64 t.pos,.string t.text] 27);have h4:=h3.alloc (.cells #[.int .u8 t.kind,.int .i64 t.pos,.string t.text] 27);have g04:=grown_trans g03 (World.grownBy_alloc w3 (.cells #[.int .u8 t.kind,.int .i64 t.pos,.string t.text] 27) (some rb));have hb3:=(World.heap_alloc_lt' w3 (.cells #[.int .u8 t.kind,.int .i64 t.pos,.string t.text] 27) w1.heap.size (by omega)).trans hb3;have hb0:=(World.heap_alloc_lt' w3 (.cells #[.int .u8 t.kind,.int .i64 t.pos,.string t.text] 27) w.heap.size (by omega)).trans hb0;have hz4:(w3.alloc (.cells #[.int .u8 t.kind,.int .i64 t.pos,.string t.text] 27)).heap.size=w3.heap.size+1:=by simp
  generalize w3.alloc (.cells #[.int .u8 t.kind,.int .i64 t.pos,.string t.text] 27)=W4 at *;clear g03 h3;have T1:=(cell_of_row W4 w1.heap.size 1 _ _ _ hb3).trans rfl;have T2:=(cell_of_row W4 w1.heap.size 2 _ _ _ hb3).trans rfl;have U1:=(cell_of_row W4 w3.heap.size 1 _ _ _ hb4).trans rfl;have U2:=(cell_of_row W4 w3.heap.size 2 _ _ _ hb4).trans rfl;rw [hk] at HS;have hkc:=fun W=>kind_any t.text W;rw [hk] at hkc;have hkk:=Yd hk;clear hk
  go_cut [5] from 15 to 22 (fun s wx=>∃ b5,s = .pointer (some ⟨b5,0,none⟩)∧W4.heap.size <= b5∧wx.heap[b5]? = some (.cells #[.string n.text,.int .i64 n.pos,.int .u8 k,.slice none 0 0] 62 (0,0))∧W4.grownBy wx none)
  case first =>
    go_region_held3 (fun w'=>w'.cell? ⟨w1.heap.size,1,none⟩=some (.int .i64 n.pos)∧w'.cell? ⟨w1.heap.size,2,none⟩=some (.string n.text)∧w'.cell? ⟨w3.heap.size,2,none⟩=some (.string t.text))
      (first
        | go_keep)
      (first
        | (go_at_call 6; refine (hkc _).mono ?_; rintro e wk ⟨rfl,rfl⟩))
    · go_wp2_with fail;go_meet;exact ⟨w3.heap.size+1+1,rfl,by omega,heap_at _ _ _ (by simp; omega),grown_drew (grown_trans (World.grownBy_alloc W4 _ _) (World.grownBy_alloc _ _ _))⟩
    · go_wp2_with fail;go_meet;exact ⟨w3.heap.size+1,rfl,by omega,(World.heap_alloc_lt' _ _ _ (by simp; omega)).trans (heap_at _ _ _ hz4),grown_drew (grown_trans (World.grownBy_alloc W4 _ _) (World.grownBy_alloc _ _ _))⟩
  case rest =>
    obtain ⟨b5,rfl,hb5,hc5,g5⟩:=hcut;have h5:=h4.kept g5 (by intro r e; cases e);have hb4:=(g5.block w3.heap.size (by omega) (by simp)).trans hb4;have hb0:=(g5.block w.heap.size (by omega) (by simp)).trans hb0;have g05:=grown_trans g04 (World.grownBy.row_any (row:=some rb) g5);have z5:=g5.size;clear h4 hb3 g04 g5 T1 T2 U1 U2 hkc h;generalize w3.heap.size=b4 at *;have hlt5:=h5.lt;have U1:=(cell_of_row wc b4 1 _ _ _ hb4).trans rfl;have V2:=(cell_of_row wc b5 2 _ _ _ hc5).trans rfl;have V3:=(cell_of_row wc b5 3 _ _ _ hc5).trans rfl;have hb5l:b5<wc.heap.size:=(Array.getElem?_eq_some_iff.1 hc5).1;obtain ⟨s4,hs4⟩:∃ s4,s4=(if k=0 then s3.fail t.pos 171 else s3):=⟨_,rfl⟩;rw [<- hs4] at HS;have HS4:=Yd hs4;clear hs4;obtain ⟨w5,hw5⟩:∃ w5,w5=wc:=⟨_,rfl⟩;subst hw5;go_upto_if 25 with (fail)
    go_cut [] from 23 to 29 (fun wx=>RdAt wx rb B en s4∧w5.grownBy wx (some rb))
    case first =>
      by_cases h0:k=0
      · have e0:((k:Int) == 0)=true:=by rw [h0]; rfl
        have hs4:s4=s3.fail t.pos 171:=by rw [HS4.out,if_pos h0]
        subst hs4;go_wp2_with fail;refine (fails_any rb B en s3 _ _ _ h5).mono ?_;rintro e wx ⟨rfl,hx,gx⟩;go_wp2_with fail;go_meet;exact ⟨hx,gx⟩
      · have e0:((k:Int) == 0)=false:=Yf (by omega)
        have hs4:s4=s3:=by rw [HS4.out,if_neg h0]
        subst hs4;go_wp2_with fail;go_meet;exact ⟨h5,World.grownBy.refl _ _⟩
    case rest =>
      obtain ⟨h6,g6⟩:=hcut;have hb4:=(g6.block b4 (by omega) (by simp; omega)).trans hb4;have hc6:=(g6.block b5 hb5l (by simp; omega)).trans hc5;have hb0:=(g6.block w.heap.size (by omega) (by simp; omega)).trans hb0;have g06:=grown_trans g05 g6;have z6:=g6.size;clear h5 hc5 g05 g6 U1 V2 V3 hb4;have V2:=(cell_of_row wc b5 2 _ _ _ hc6).trans rfl;obtain ⟨w6,hw6⟩:∃ w6,w6=wc:=⟨_,rfl⟩;subst hw6;have hfi:=idx_forms k hk6;go_upto_region 7 with (fail)
      go_cut [34] from 30 to 34 (fun s wx=>∃ ib,s = .pointer (some ⟨ib,0,none⟩)∧w6.heap.size <= ib∧wx.heap[ib]? = some (.stringIter (formB k) 0)∧w6.grownBy wx none)
      case first =>
        go_region_held3 (fun w'=>w'.cell? ⟨b5,2,none⟩=some (.int .u8 k))
          (first
            | go_keep
            | (rw [hBf.cell (by simp; try omega)]; assumption)
            | (rw [iter_cell _ _ _ _ (by simp; try omega)]; assumption))
          (first
            | (go_at_call 58; refine (forms_any _).mono ?_; rintro e wf ⟨rfl,hBf⟩; have hsf:=hBf.size; simp only [World.size_drew] at hsf))
        go_wp2_with fail;go_meet;exact ⟨wf.heap.size,rfl,hsf,heap_at wf _ _ rfl,grown_trans (grown_below (Below.un_drew hBf) none) (World.grownBy_alloc wf _ _)⟩
      case rest =>
        obtain ⟨ib,rfl,hib,hit,g7⟩:=hcut;have h7:=h6.kept g7 (by intro r e; cases e);have hb5w:b5<w6.heap.size:=by omega
        have hc7:=(g7.block b5 hb5w (by simp)).trans hc6;have hb0:=(g7.block w.heap.size (by omega) (by simp)).trans hb0;have g07:=grown_trans g06 (World.grownBy.row_any (row:=some rb) g7);have hibl:ib<wc.heap.size:=(Array.getElem?_eq_some_iff.1 hit).1;have hfl:=form_len k hk6;have hinfo:=Tryz.argInfo;obtain ⟨i0,hi0,hz0,hz1,hz2⟩:=info_parts hinfo;have hib5:b5<ib:=by omega
        have hibw:w.heap.size<ib:=by omega
        have hrb:rb<ib:=by omega
        have HD4:DecOk dec G s4.ts:=by
          rw [HS4.out]
          split
          · rw [fail_ts]; exact D3.out
          · exact D3.out
        clear h6 hc6 g06 g7 V2 z6 hinfo;have hb5':w.heap.size<b5:=by omega
        generalize hw7:wc=w7 at *;go_wp2_with fail
        go_loopw [] (fun wr=>∃ (j:Nat) (args:List PArg) (sj:RSt) (v:Value),j <= (formL k).length∧args.length=j∧wr.heap[ib]? = some (.stringIter (formB k) j)∧RdAt wr rb B en sj ∧
            wr.heap[b5]? = some (.cells #[.string n.text,.int .i64 n.pos,.int .u8 k,v] 62 (0,0))∧wr.ownsRow (ib+1) 59 3 v args.length (acells args) ∧
            argsS dec en (formL k) s4=(args ++ (argsS dec en ((formL k).drop j) sj).1,(argsS dec en ((formL k).drop j) sj).2)∧DecOk dec G sj.ts∧w.grownBy wr (some rb) ∧
            wr.heap[w.heap.size]? = some (.cells #[.string ⟨#[]⟩,.int .i64 0,.int .u8 0,.slice none 0 0] 62 (0,0)))
          (fun wr=>(formB k).size-wr.iterPos ib)
        case atStart =>
          exact ⟨0,[],s4,.slice none 0 0,Nat.zero_le _,rfl,hit,h7,hc7,World.ownsRow_nil _ _ _ _,by simp,HD4,g07,hb0⟩
        case round =>
          obtain ⟨j,args,sj,v,hj,haj,hitr,hRr,hcr,hown,hargs,hdr,hgr,hbr⟩:=hrel
          by_cases hjl:j<(formL k).length
          · obtain ⟨hjs,hbyte⟩:=form_byte k hk6 j hjl;have hibr:ib<wr.heap.size:=(Array.getElem?_eq_some_iff.1 hitr).1;have gI:=grown_iter wr ib (formB k) (j+1);have hitW:=Lib.iterAt_heap wr ib (formB k) j (j+1) hitr;have hRW:=hRr.kept gI (by intro r e; injection e with e; omega);have hcW:=(gI.block b5 (by omega) (by simp; omega)).trans hcr;have hoW:=own_grown hown gI (by intro r e; injection e with e; omega);have hgW:=grown_new hgr gI (by intro r e; injection e with e; omega);have hbW:=(gI.block w.heap.size (by omega) (by simp; omega)).trans hbr;have hsW:(wr.iterAt ib (formB k) (j+1)).heap.size=wr.heap.size:=Lib.iterAt_size _ _ _ _;have hnx:∀ ty,(Instr.next (.pointer (some ⟨ib,0,none⟩)) true ty).run Tryz.prog wr = .ok (.tuple #[.bool true,.int .i64 j,.int .i32 (if (formL k)[j] then 110 else 119:Nat)]) (wr.iterAt ib (formB k) (j+1)):=fun ty=>by
              rw [Lib.run_next_ascii_at wr ib (formB k) j ty hitr hjs (by rw [hbyte]; split <;> omega),hbyte]
            generalize wr.iterAt ib (formB k) (j+1)=W at *;have hGW:G W:=hG w W (some rb) hw hgW (by intro r e; injection e with e; omega);have hGD:G W.drew:=hG W W.drew none hGW (grown_drew (World.grownBy.refl _ _)) (fun r e=>by cases e);obtain ⟨a0,c0,rfl⟩:=row_form hown;have V3:W.cell? ⟨b5,3,none⟩=some (.slice a0 args.length c0):=(cell_of_row W b5 3 _ _ _ hcW).trans (by rfl);have hoD:W.drew.ownsRow (ib+1) 59 3 (.slice a0 args.length c0) args.length (acells args):=hoW;have hal:args.length <= 7:=by omega
            have HAJ:=Yd haj;clear haj;have FV3:=not_frozen hcW 3;have hrow5:some b5≠(Value.slice a0 args.length c0).ownBlock:=fun e=>by have:=own_base hown e.symm; omega
            have hb5W:b5<W.heap.size:=by omega
            have hb5r:some b5≠some rb:=by simp; omega
            have HARGS:=Yd hargs;have HITR:=Yd hitr;clear hargs;clear gI hitr hRr hcr hown hgr hbr hbyte
            cases hfb:(formL k)[j] with
            | true =>
              rw [hfb] at hnx;simp only [if_true,Int.cast_ofNat_Int] at hnx;obtain ⟨⟨a,s'⟩,hA⟩:∃ r,numS dec en sj=r:=⟨_,rfl⟩;have hcall:=fun Y h h2=>number_any dec G rb B hG en sj (fun h0=>hdr _ (nextS_mem h0).1 (nextS_mem h0).2) Y h h2;rw [hA] at hcall;have hstep:argsS dec en ((formL k).drop j) sj=(a :: (argsS dec en ((formL k).drop (j+1)) s').1,(argsS dec en ((formL k).drop (j+1)) s').2):=by
                rw [List.drop_eq_getElem_cons hjl,hfb];show ((argS dec en true sj).1 :: _,_)=_;have:argS dec en true sj=(a,s'):=hA;rw [this]
              have hsub:DecOk dec G s'.ts:=by
                have:=hdr.sub (argS_sub dec en true sj);have hA':argS dec en true sj=(a,s'):=hA;rw [hA'] at this;exact this
              have HST:=Yd hstep;have HSB:=Yd hsub;clear hstep hsub hA hdr;go_upto_region 13 with (fail)
              go_region_law (first
                  | (go_simp; go_at_call 59; refine (hcall _ (by exact hRW) (by exact hG W _ none hGW ⟨rfl,rfl,rfl,Nat.le_refl _,fun _ _ _=>rfl⟩ (fun r e=>by cases e))).mono ?_; rintro e wx ⟨rfl,hx,gx'⟩; have gx:W.grownBy wx (some rb):=⟨gx'.os,gx'.tape,gx'.output,gx'.size,gx'.block⟩; clear gx'; have hsx:W.heap.size <= wx.heap.size:=gx.size; have hb5x:b5<wx.heap.size:=(by omega); obtain ⟨V3x,F3x⟩:=cell_grown gx hb5W hb5r V3 FV3; unfold PArg.val)
                  | (guard_hyp hsx; refine step_append_lies _ (by rfl) _ _ _ (by rfl) (ib+1) 59 i0 (.agg #[.int .i64 0,.float .f64 0,.string ⟨#[]⟩]) 3 32 Tryz.underlying60 hi0 hz0 hz1 hz2 rfl (by omega) (.slice a0 args.length c0) args.length (acells args) (by rfl)
                      ((own_grown hoW gx (by intro r e; injection e with e; omega)).alloc _) ⟨wx.heap.size,0,none⟩ 1 1 a.cells (by rfl) rfl (World.news_of_block (heap_at wx (.cells a.cells.toArray 59) _ rfl)) (by simp [PArg.cells,Value.oneCell']) (by omega) (by unfold maxLen; omega) (by omega) (by simp; omega) (wx.heap.size+1) (by simp) ?_; intro gz capz wz hownz hgrowz hatz hltz; obtain ⟨V3z,F3z⟩:=cell_grown hgrowz (by rw [World.size_alloc]; omega) hrow5 ((World.cell?_alloc_lt _ _ ⟨b5,3,none⟩ hb5x).trans V3x) ((frozen_alloc _ _ ⟨b5,3,none⟩ hb5x).trans F3x)))
              all_goals
                go_wp2_with fail;obtain ⟨q1,q2,q3,q4,q5,q6⟩:=round_end hlt hb5' hib5 (by omega) hB hgW hitW hcW hbW gx hx hgrowz (fun r e=>own_base hoW e) hownz;go_roundw
                case rel =>
                  refine ⟨j+1,args ++ [a],s',_,hjl,by rw [List.length_append,HAJ.out]; rfl,q1,q2,q3,?_,?_,HSB.out,q5,q6⟩
                  · rw [List.length_append,acells_app];exact q4
                  · rw [HARGS.out,HST.out,List.append_assoc];rfl
                case measure =>
                  simp only [World.iterPos,q1,HITR.out];omega
            | false =>
              rw [hfb] at hnx;simp only [Bool.false_eq_true,if_false,Int.cast_ofNat_Int] at hnx;obtain ⟨⟨a,s'⟩,hA⟩:∃ r,wordS en sj=r:=⟨_,rfl⟩;have hcall:=fun Y h (_:G Y)=>rword_any rb B en sj Y h;rw [hA] at hcall;have hstep:argsS dec en ((formL k).drop j) sj=(a :: (argsS dec en ((formL k).drop (j+1)) s').1,(argsS dec en ((formL k).drop (j+1)) s').2):=by
                rw [List.drop_eq_getElem_cons hjl,hfb];show ((argS dec en false sj).1 :: _,_)=_;have:argS dec en false sj=(a,s'):=hA;rw [this]
              have hsub:DecOk dec G s'.ts:=by
                have:=hdr.sub (argS_sub dec en false sj);have hA':argS dec en false sj=(a,s'):=hA;rw [hA'] at this;exact this
              have HST:=Yd hstep;have HSB:=Yd hsub;clear hstep hsub hA hdr;go_upto_region 13 with (fail)
              go_region_law (first
                  | (go_simp; go_at_call 60; refine (hcall _ (by exact hRW) (by exact hG W _ none hGW ⟨rfl,rfl,rfl,Nat.le_refl _,fun _ _ _=>rfl⟩ (fun r e=>by cases e))).mono ?_; rintro e wx ⟨rfl,hx,gx'⟩; have gx:W.grownBy wx (some rb):=⟨gx'.os,gx'.tape,gx'.output,gx'.size,gx'.block⟩; clear gx'; have hsx:W.heap.size <= wx.heap.size:=gx.size; have hb5x:b5<wx.heap.size:=(by omega); obtain ⟨V3x,F3x⟩:=cell_grown gx hb5W hb5r V3 FV3; unfold PArg.val)
                  | (guard_hyp hsx; refine step_append_lies _ (by rfl) _ _ _ (by rfl) (ib+1) 59 i0 (.agg #[.int .i64 0,.float .f64 0,.string ⟨#[]⟩]) 3 32 Tryz.underlying60 hi0 hz0 hz1 hz2 rfl (by omega) (.slice a0 args.length c0) args.length (acells args) (by rfl)
                      ((own_grown hoW gx (by intro r e; injection e with e; omega)).alloc _) ⟨wx.heap.size,0,none⟩ 1 1 a.cells (by rfl) rfl (World.news_of_block (heap_at wx (.cells a.cells.toArray 59) _ rfl)) (by simp [PArg.cells,Value.oneCell']) (by omega) (by unfold maxLen; omega) (by omega) (by simp; omega) (wx.heap.size+1) (by simp) ?_; intro gz capz wz hownz hgrowz hatz hltz; obtain ⟨V3z,F3z⟩:=cell_grown hgrowz (by rw [World.size_alloc]; omega) hrow5 ((World.cell?_alloc_lt _ _ ⟨b5,3,none⟩ hb5x).trans V3x) ((frozen_alloc _ _ ⟨b5,3,none⟩ hb5x).trans F3x)))
              all_goals
                go_wp2_with fail;obtain ⟨q1,q2,q3,q4,q5,q6⟩:=round_end hlt hb5' hib5 (by omega) hB hgW hitW hcW hbW gx hx hgrowz (fun r e=>own_base hoW e) hownz;go_roundw
                case rel =>
                  refine ⟨j+1,args ++ [a],s',_,hjl,by rw [List.length_append,HAJ.out]; rfl,q1,q2,q3,?_,?_,HSB.out,q5,q6⟩
                  · rw [List.length_append,acells_app];exact q4
                  · rw [HARGS.out,HST.out,List.append_assoc];rfl
                case measure =>
                  simp only [World.iterPos,q1,HITR.out];omega
          · obtain rfl:j=(formL k).length:=by omega
            have hnx:∀ ty,(Instr.next (.pointer (some ⟨ib,0,none⟩)) true ty).run Tryz.prog wr = .ok (.tuple #[.bool false]) wr:=fun ty=>Lib.run_next_end_at wr ib (formB k) _ ty hitr (by omega);have hRS:R=(⟨n.text,n.pos,k,args⟩,(nextS en sj 4).2):=by rw [HS.out,hargs,List.drop_length]; simp [argsS]
            obtain ⟨⟨z,sz⟩,hz⟩:∃ r,nextS en sj 4=r:=⟨_,rfl⟩;have hc:=next_any rb B en sj 4 wr hRr;rw [hz] at hc hRS;simp only at hRS;subst hRS;obtain ⟨a0,c0,rfl⟩:=row_form hown;have hibr:ib<wr.heap.size:=(Array.getElem?_eq_some_iff.1 hitr).1;have HAJ:=Yd haj;clear hz hargs hdr hitr haj HS hRr;go_wp2_with fail;refine hc.mono ?_;rintro e wy ⟨rfl,hy,gy⟩;have hcy:=(gy.block b5 (by omega) (by simp; omega)).trans hcr;have hby:=(gy.block w.heap.size (by omega) (by simp; omega)).trans hbr;have hoy:=own_grown hown gy (by intro r e; simp at e; omega);have hgy:=grown_trans hgr gy;have V0:=(cell_of_row wy b5 0 _ _ _ hcy).trans rfl;have V1:=(cell_of_row wy b5 1 _ _ _ hcy).trans rfl;have V2:=(cell_of_row wy b5 2 _ _ _ hcy).trans rfl;have V3:=(cell_of_row wy b5 3 _ _ _ hcy).trans rfl;have F0:=not_frozen hby 0;have F1:=not_frozen hby 1;have F2:=not_frozen hby 2;have F3:=not_frozen hby 3;have C0:=(cell_of_row wy w.heap.size 0 _ _ _ hby).trans rfl;have C1:=(cell_of_row wy w.heap.size 1 _ _ _ hby).trans rfl;have C2:=(cell_of_row wy w.heap.size 2 _ _ _ hby).trans rfl;have C3:=(cell_of_row wy w.heap.size 3 _ _ _ hby).trans rfl;simp only at hy;unfold PTok.val;clear hcr hbr hown hgr gy hc;go_wp2;obtain ⟨k4,gq⟩:=store4 wy w.heap.size _ _ (.string n.text) (.int .i64 n.pos) (.int .u8 k) (.slice a0 args.length c0) hby rfl;refine bodyPost_ret (results_cell_row (ty := 62) (p:=2) rfl _ _ w.heap.size _ _ _ _ rfl k4 Tryz.underlying62 rfl (by kernel_rfl)) rfl ?_;exact ⟨_,rfl,own_le (own_grown hoy gq (by intro r e; simp at e; omega)) (by omega),hy.kept gq (by intro r e; simp at e; omega),grown_into hgy gq⟩
end Go.Proofs.YtcbgkbidgpemfaaGreatDoor.parw
