/- burnishref17.line: a statement from a token on. Conditions: as each theorem states. -/
import Derived.Test.YtcbgkbidgpemfaaGreatDoorMf00
import Derived.Test.YtcbgkbidgpemfaaGreatDoorMf31
set_option maxRecDepth 100000
set_option maxHeartbeats 8000000
namespace Go.Proofs.YtcbgkbidgpemfaaGreatDoor.rg
open Go.RowKit
open parw
open lexw
attribute [local go_sem] run_store_float
def DecR (dec:ByteArray -> Nat × Nat) (ts:List PTok):Prop :=
 ∀ t∈ts,∀ w,Calls Tryz.prog 62 #[.string t.text] w fun e w'=>e = .returned (.tuple #[.float .f64 (dec t.text).1,.int .i64 (((dec t.text).2:Nat):Int)])∧Below w.heap.size w w'
structure SA (w0 w:World) (g base:Nat) (st:PStmt):Prop where
 blk:∃ v,w.heap[g]? = some (.cells #[.string st.name,.int .i64 st.pos,.int .u8 st.kind,v] 62 (0,0))∧w.ownsRow base 59 3 v st.args.length (acells st.args)
 lt:g<base
 low:w0.heap.size <= g
 size:base <= w.heap.size
 below:Below w0.heap.size w0 w
theorem SA.keep {w0 w w':World} {g base:Nat} {st:PStmt} (h:SA w0 w g base st) (hb:Below w.heap.size w w'):SA w0 w' g base st:=by
 obtain ⟨⟨v,h1,h2⟩,h3,h4,h5,h6⟩:=h;refine ⟨⟨v,(hb.block g (Array.getElem?_eq_some_iff.1 h1).1).trans h1,?_⟩,h3,h4,Nat.le_trans h5 hb.size,h6.trans (hb.mono h6.size)⟩;exact own_grown h2 (grown_below hb none) (fun r e=>by cases e)
theorem SA.set0 {w0 w:World} {g base:Nat} {st:PStmt} (h:SA w0 w g base st) (n:ByteArray):SA w0 (w.setCell ⟨g,0,none⟩ (.string n)) g base { st with name:=n }:=by
 obtain ⟨⟨v,h1,h2⟩,h3,h4,h5,h6⟩:=h;exact ⟨⟨v,heap_set w g 0 _ _ _ _ h1,own_grown h2 (grown_setCell w ⟨g,0,none⟩ _) (by intro r e; obtain rfl:=Option.some.inj e; exact h3)⟩,h3,h4,by simpa using h5,h6.setCell (p:=⟨g,0,none⟩) h4 _⟩
theorem SA.set1 {w0 w:World} {g base:Nat} {st:PStmt} (h:SA w0 w g base st) (n:Int):SA w0 (w.setCell ⟨g,1,none⟩ (.int .i64 n)) g base { st with pos:=n }:=by
 obtain ⟨⟨v,h1,h2⟩,h3,h4,h5,h6⟩:=h;exact ⟨⟨v,heap_set w g 1 _ _ _ _ h1,own_grown h2 (grown_setCell w ⟨g,1,none⟩ _) (by intro r e; obtain rfl:=Option.some.inj e; exact h3)⟩,h3,h4,by simpa using h5,h6.setCell (p:=⟨g,1,none⟩) h4 _⟩
theorem SA.set2 {w0 w:World} {g base:Nat} {st:PStmt} (h:SA w0 w g base st) (n:Nat):SA w0 (w.setCell ⟨g,2,none⟩ (.int .u8 (n:Int))) g base { st with kind:=n }:=by
 obtain ⟨⟨v,h1,h2⟩,h3,h4,h5,h6⟩:=h;exact ⟨⟨v,heap_set w g 2 _ _ _ _ h1,own_grown h2 (grown_setCell w ⟨g,2,none⟩ _) (by intro r e; obtain rfl:=Option.some.inj e; exact h3)⟩,h3,h4,by simpa using h5,h6.setCell (p:=⟨g,2,none⟩) h4 _⟩
def LinePost (w:World) (L:List PTok) (r:(PStmt × List PTok) ⊕ (Int × Nat)) (e:Ending) (w':World):Prop :=
 Below w.heap.size w w'∧match r with
 | .inl (s,rest)=>∃ (v:Value) (n:Nat),e = .returned (.tuple #[.agg #[.string s.name,.int .i64 s.pos,.int .u8 s.kind,v],.int .i64 n,.int .i64 0,.int .i64 0])∧w'.ownsRow w.heap.size 59 3 v s.args.length (acells s.args)∧rest=L.drop n∧n <= L.length
 | .inr (p,er)=>∃ (x:ByteArray) (y z:Int) (aa:Option Addr) (al ca:Nat),e = .returned (.tuple #[.agg #[.string x,.int .i64 y,.int .u8 z,.slice aa al ca],.int .i64 0,.int .i64 p,.int .i64 er])
theorem line_step {dec:ByteArray -> Nat × Nat} {en:Int} (t:PTok) (r:List PTok) (i nb wd:Nat) (s:PStmt) (h:¬ 3+nb+wd+1 <= i):lineL dec en (t :: r) i nb wd s =
  if t.kind≠wantF i nb wd then .inr (t.pos,170)
  else if i=0 then lineL dec en r 1 nb wd { s with name:=t.text,pos:=t.pos }
  else if i=2 then (if kindF t.text=0 then .inr (t.pos,171) else lineL dec en r 3 (behF (kindF t.text)).1 (behF (kindF t.text)).2 { s with kind:=kindF t.text })
  else if wantF i nb wd=2 then (if (dec t.text).2=0 then lineL dec en r (i+1) nb wd { s with args:=s.args ++ [⟨t.pos,(dec t.text).1,⟨#[]⟩⟩] } else .inr (t.pos,(dec t.text).2))
  else if wantF i nb wd=1 then lineL dec en r (i+1) nb wd { s with args:=s.args ++ [⟨t.pos,0,t.text⟩] }
  else lineL dec en r (i+1) nb wd s:=by
 show (if 3+nb+wd+1 <= i then _ else _)=_;rw [if_neg h]
theorem line_done {dec:ByteArray -> Nat × Nat} {en:Int} (l:List PTok) (i nb wd:Nat) (s:PStmt) (h:3+nb+wd+1 <= i):lineL dec en l i nb wd s = .inl (s,l):=by
 cases l with
 | nil=>show (if 3+nb+wd+1 <= i then _ else _)=_; rw [if_pos h]
 | cons t r=>show (if 3+nb+wd+1 <= i then _ else _)=_; rw [if_pos h]
theorem line_out {dec:ByteArray -> Nat × Nat} {en:Int} (i nb wd:Nat) (s:PStmt) (h:¬ 3+nb+wd+1 <= i):lineL dec en [] i nb wd s = .inr (en,170):=by
 show (if 3+nb+wd+1 <= i then _ else _)=_;rw [if_neg h]
theorem beh_le (k:Nat):(behF k).1+(behF k).2 <= 7:=by
 unfold behF
 repeat' split
 all_goals decide
theorem results_row3 {P:Program} {fn:Func} {p u x y:Tmp} {ty:TypeId} (h:fn.results = #[.cell p ty,.tmp u,.tmp x,.tmp y]) (tmps:Array Value) (w:World) (g:Nat) (t:TypeId) (cs:Array Value) (fr:Nat × Nat) (d:TypeDesc)
  (hp:tmps.getD p undef = .pointer (some ⟨g,0,none⟩)) (hg:w.heap[g]? = some (.cells cs t fr))
  (hu:P.underlying ty=some d) (hd:(match d with | .struct _ | .array _ _=>true | _=>false)=true) (hi:(P.info? ty).map (·.size)=some cs.size) :
  (results fn tmps).run P w = .ok (.tuple #[.agg cs,tmps.getD u undef,tmps.getD x undef,tmps.getD y undef]) w:=by
 have hp':tmps[p]?.getD undef = .pointer (some ⟨g,0,none⟩):=by simpa using hp
 simp [results,h,hp',asAddr,run_loadVar_row w g t ty cs fr d hg hu hd hi]
theorem SA.app {w0 W wz:World} {g base al:Nat} {st:PStmt} {o:Obj} {v v':Value} {a:PArg} (h:SA w0 W g base st) (hal:st.args.length=al) (hv:W.heap[g]? = some (.cells #[.string st.name,.int .i64 st.pos,.int .u8 st.kind,v] 62 (0,0))) (hown:W.ownsRow base 59 3 v al (acells st.args))
  (hgr:(W.alloc o).grownBy wz v.ownBlock) (hown':wz.ownsRow base 59 3 v' (al+1) (acells st.args ++ a.cells)):SA w0 (wz.setCell ⟨g,3,none⟩ v') g base { st with args:=st.args ++ [a] }:=by
 subst hal;have gz:W.grownBy wz v.ownBlock:=grown_trans (World.grownBy_alloc W o _) hgr;have hgl:=(Array.getElem?_eq_some_iff.1 hv).1;have hlt:=h.lt;have h1:wz.heap[g]? = _:=(gz.block g hgl (fun e=>by have:=(hown.lt g e.symm).1; omega)).trans hv;refine ⟨⟨v',heap_set wz g 3 _ _ _ _ h1,?_⟩,hlt,h.low,?_,?_⟩
 ·have:=own_grown hown' (grown_setCell wz ⟨g,3,none⟩ v') (by intro r e; obtain rfl:=Option.some.inj e; exact hlt);rw [acells_app,List.length_append];simpa [acells] using this
 ·have:=gz.size;have:=h.size;simp;omega
 ·refine (h.below.grown gz h.below.size (fun k e => ?_)).setCell (p:=⟨g,3,none⟩) h.low _;have:=(hown.lt k e).1;have:=h.low;omega
theorem zero_alloc {W:World} {b:Nat} {x:Obj} (h:W.heap[b]? = some x) (o:Obj):(W.alloc o).heap[b]? = some x:=(Below.heap_alloc W o b (Array.getElem?_eq_some_iff.1 h).1).trans h
theorem zero_set {W:World} {b:Nat} {x:Obj} (h:W.heap[b]? = some x) (g j:Nat) (hg:b≠g) (v:Value):(W.setCell ⟨g,j,none⟩ v).heap[b]? = some x:=(Below.heap_setCell W ⟨g,j,none⟩ v b hg).trans h
theorem line_err {w0 W:World} {B:Nat} {L:List PTok} (hb:Below B w0 W) (h4:W.heap[B]? = some (.cells #[.string ⟨#[]⟩,.int .i64 0,.int .u8 0,.slice none 0 0] 62 (0,0))) (hB:w0.heap.size=B) (x:ByteArray) (y z:Int) (aa:Option Addr) (al ca:Nat) (p:Int) (er:Nat) :
  LinePost w0 L (.inr (p,er)) (.returned (.tuple #[.agg #[.string x,.int .i64 y,.int .u8 z,.slice aa al ca],.int .i64 0,.int .i64 p,.int .i64 er])) ((((W.setCell ⟨B,0,none⟩ (.string x)).setCell ⟨B,1,none⟩ (.int .i64 y)).setCell ⟨B,2,none⟩ (.int .u8 z)).setCell ⟨B,3,none⟩ (.slice aa al ca)):=by
 subst hB;obtain ⟨-,h2⟩:=store4 W w0.heap.size _ _ (.string x) (.int .i64 y) (.int .u8 z) (.slice aa al ca) h4 rfl;exact ⟨hb.grown h2 hb.size (fun k e=>by obtain rfl:=Option.some.inj e; exact Nat.le_refl _),x,y,z,aa,al,ca,rfl⟩
theorem line_post {w0 W' W'':World} {L:List PTok} {r:Int × Nat} {e:Ending} (h:LinePost w0 L (.inr r) e W') (h2:Below w0.heap.size w0 W' -> Below w0.heap.size w0 W''):LinePost w0 L (.inr r) e W'':=⟨h2 h.1,h.2⟩
theorem line_any (dec:ByteArray -> Nat × Nat) (L:List PTok) (hL:L.length <= 1000000) (hd:DecR dec L) (v:Value) (at_:Nat) (hat:at_ <= L.length) (w:World) (hv:PRow w w.heap.size v L) :
  Calls Tryz.prog 34 #[v,.int .i64 at_] w (LinePost w L (lineL dec (endOf L) (L.drop at_) 0 0 0 st0)):=by
 obtain ⟨i0,hi0,hz0,hz1,hz2⟩:=info_parts Tryz.argInfo;obtain ⟨RR,hRR⟩:∃ r,lineL dec (endOf L) (L.drop at_) 0 0 0 st0=r:=⟨_,rfl⟩;rw [hRR];have HR:=Yd hRR;have HD:=Yd hd;clear hRR hd;obtain ⟨A,c,rfl,hlc,hx⟩:=hv;have HX:=Yd hx;obtain ⟨en,hen⟩:∃ en,endOf L=en:=⟨_,rfl⟩;have HE:=Yd hen;rw [hen] at HR;obtain ⟨N,hN⟩:∃ N,L.length=N:=⟨_,rfl⟩;rw [hN] at hL hat hlc ⊢;have HN:=Yd hN;clear hen hN hx;have hNi:(N:Int) <= 1000000:=by omega
 have hai:(at_:Int) <= (N:Int):=by omega
 obtain ⟨W2,hW2⟩:∃ W2,(w.alloc (.cells #[.string ⟨#[]⟩,.int .i64 0,.int .u8 0,.slice none 0 0] 62)).alloc (.cells #[.string ⟨#[]⟩,.int .i64 0,.int .u8 0,.slice none 0 0] 62)=W2:=⟨_,rfl⟩;have b0:Below w.heap.size w W2:=by
  rw [<- hW2];exact ((Below.refl _ w).alloc (Nat.le_refl _) _).alloc (by simp) _
 have sz2:W2.heap.size=w.heap.size+2:=by rw [<- hW2]; simp
 have z4:W2.heap[w.heap.size]? = some (.cells #[.string ⟨#[]⟩,.int .i64 0,.int .u8 0,.slice none 0 0] 62 (0,0)):=by
  rw [<- hW2];exact zero_alloc (heap_alloc_new w _) _
 have z8:SA w W2 (w.heap.size+1) (w.heap.size+2) st0:=by
  refine ⟨⟨.slice none 0 0,?_,World.ownsRow_nil _ _ _ _⟩,by omega,by omega,by omega,b0⟩;rw [<- hW2];exact heap_at _ _ _ (by simp)
 have HS0:=Yd z8;have HZ0:=Yd z4;have HB0:=Yd b0;clear z8 z4 b0;go_enter Tryz.func34,Tryz.ntmps34;go_upto_region 2 with (fail)
 try rw [hW2]
 obtain ⟨B,hBw⟩:∃ B,w.heap.size=B:=⟨_,rfl⟩;obtain ⟨B1,hB1⟩:∃ B1,B+1=B1:=⟨_,rfl⟩;rw [hBw] at sz2 HS0 HZ0 HB0 ⊢;rw [hB1] at HS0 ⊢;clear hW2;go_upto_if 19 with (fail)
 go_cut [9] from 20 (fun s9 wx=>s9 = .int .i64 en∧Below W2.heap.size W2 wx)
 case first =>
  by_cases hM:N=0
  ·have hL0:L=[]:=List.eq_nil_of_length_eq_zero (by rw [HN.out]; exact hM);have he:en=0:=by rw [<- HE.out,hL0]; rfl
   subst hM;have HEN:=Yd he;clear he hL0 HR HD HX HE HN;go_wp2_with fail;go_meet;exact ⟨by rw [HEN.out],Below.refl _ _⟩
  ·obtain ⟨M,rfl⟩:∃ M,N=M+1:=⟨N-1,by omega⟩;have hml:M<L.length:=by rw [HN.out]; omega
   obtain ⟨g,off,rfl,hg,hcell⟩:=HX.out (by intro e; rw [e] at hml; simp at hml);obtain ⟨init,t,hLe⟩:∃ init t,L=init ++ [t]:=⟨L.dropLast,L.getLast (by intro e; rw [e] at hml; simp at hml),(List.dropLast_concat_getLast _).symm⟩;have hil:init.length=M:=by have:=HN.out; rw [hLe] at this; simpa using this
   have he:en=wrap64 (t.pos+t.text.size):=by rw [<- HE.out,hLe]; simp [endOf]
   have hq:∀ j u,t.cells[j]? = some u -> W2.cell? ⟨g,off+(M*3+j),none⟩=some u:=fun j u hu=>(HB0.out.cell (p:=⟨g,off+(M*3+j),none⟩) (by rw [<- hBw]; exact hg)).trans (hcell (M*3+j) u (by
    rw [hLe,pcells_app,List.getElem?_append_right (by rw [pcells_length,hil]; omega),pcells_length,hil,Nat.add_sub_cancel_left];simpa [pcells] using hu))
   have q1:=hq 1 _ rfl;have q2:=hq 2 _ rfl;rw [<- Nat.add_assoc] at q1 q2;have HEN:=Yd he;have hM6:M <= 1000000:=by omega
   clear hcell hq he hLe hil hml HX HE HN HR HD hNi hai hat hL hlc hM;go_wp2_with fail
   go_region
   all_goals go_wp2_with fail
   all_goals go_meet
   all_goals exact ⟨by rw [HEN.out],by first | exact Below.refl _ _ | exact (Below.refl _ _).drew | exact (Below.refl _ _).drew.drew⟩
 case rest =>
  obtain ⟨rfl,hbc⟩:=hcut;have HSC:=Yd (HS0.out.keep hbc);have HZC:=Yd ((hbc.block B (by omega)).trans HZ0.out);have HWC:=Yd (HB0.out.trans (hbc.mono (by omega)));clear hbc HE HS0 HZ0 HB0 sz2;go_wp2_with fail
  go_loopw [10,11,12] (fun s10 s11 s12 wr=>∃ (i nb wd:Nat) (st:PStmt),s10 = .int .i64 nb∧s11 = .int .i64 wd∧s12 = .int .i64 i∧nb+wd <= 7∧i <= 3+nb+wd+1∧at_+i <= N∧lineL dec en (L.drop (at_+i)) i nb wd st=RR∧st.args.length <= i∧st.kind<256 ∧
   SA w wr B1 (B+2) st∧wr.heap[B]? = some (.cells #[.string ⟨#[]⟩,.int .i64 0,.int .u8 0,.slice none 0 0] 62 (0,0))) (fun _ _ s12 _=>20-(intOf s12).toNat)
  case atStart=>exact ⟨0,0,0,st0,rfl,rfl,rfl,by decide,by decide,by omega,HR.out,Nat.le_refl _,by decide,HSC.out,HZC.out⟩
  case round =>
   obtain ⟨i,nb,wd,st,rfl,rfl,rfl,hnw,him,hat2,hline,hargs,hk256,hSA,hz4⟩:=hrel;obtain ⟨wo,rfl⟩:∃ wo:World,wo=wr:=⟨_,rfl⟩;have HS:=Yd hSA;have HZ:=Yd hz4;have HLI:=Yd hline;clear HSC HZC HWC HR;obtain ⟨pp,hpp⟩:∃ pp,3+nb=pp:=⟨_,rfl⟩;obtain ⟨m,hm⟩:∃ m,pp+wd=m:=⟨_,rfl⟩;obtain ⟨k,hk⟩:∃ k,at_+i=k:=⟨_,rfl⟩;have hppi:(3:Int)+(nb:Int)=(pp:Int):=by omega
   have hmi:(pp:Int)+(wd:Int)=(m:Int):=by omega
   have hki:(at_:Int)+(i:Int)=(k:Int):=by omega
   have hmb:(m:Int) <= 10:=by omega
   have hpb:(pp:Int) <= 10:=by omega
   have hib:(i:Int) <= 11:=by omega
   have hkb:(k:Int) <= (N:Int):=by omega
   obtain ⟨va,hblk,hown⟩:=hSA.blk;obtain ⟨aa,ca,hva⟩:=row_form hown;obtain ⟨al,hal⟩:∃ al,st.args.length=al:=⟨_,rfl⟩;rw [hal] at hva;subst hva;have HAL:=Yd hal;clear hal;have c0:=(cell_of_row wo B1 0 _ _ _ hblk).trans rfl;have c1:=(cell_of_row wo B1 1 _ _ _ hblk).trans rfl;have c2:=(cell_of_row wo B1 2 _ _ _ hblk).trans rfl;have c3:=(cell_of_row wo B1 3 _ _ _ hblk).trans rfl;have d40:=(cell_of_row wo B 0 _ _ _ hz4).trans rfl;have d41:=(cell_of_row wo B 1 _ _ _ hz4).trans rfl;have d42:=(cell_of_row wo B 2 _ _ _ hz4).trans rfl;have d43:=(cell_of_row wo B 3 _ _ _ hz4).trans rfl;have f40:=not_frozen hz4 0;have f41:=not_frozen hz4 1;have f42:=not_frozen hz4 2;have f43:=not_frozen hz4 3;have HOW:=Yd (And.intro hblk hown);clear hSA hz4 hline hblk hown
   by_cases hend:3+nb+wd+1 <= i
   ·-- the whole statement
    have hRR:RR = .inl (st,L.drop k):=by rw [<- HLI.out,line_done _ _ _ _ _ hend,hk]
    subst hRR;have hnext:(at_:Int)+3+(nb:Int)+(wd:Int)+1=(k:Int):=by omega
    have e1:¬ (i:Int)<(m:Int)+1:=by omega
    have e2:(m:Int)+1 <= (i:Int):=by omega
    have hkN:k <= N:=by omega
    have hnb:(nb:Int) <= 7:=by omega
    have hwd:(wd:Int) <= 7:=by omega
    clear hend HLI hki hmb him hnw hpp hm hk;go_wp2_with fail
    (try simp only [Exit.inBlock,Exit.then]); refine bodyPost_ret (results_row3 (ty := 62) (p:=4) rfl _ _ B _ _ _ _ rfl (store4 wo B _ _ _ _ _ _ HZ.out rfl).1 Tryz.underlying62 rfl (by kernel_rfl)) rfl ?_
    obtain ⟨-,g2⟩:=store4 wo B _ _ (.string st.name) (.int .i64 st.pos) (.int .u8 st.kind) (.slice aa al ca) HZ.out rfl;refine ⟨HS.out.below.grown g2 HS.out.below.size (fun k e=>by obtain rfl:=Option.some.inj e; omega),.slice aa al ca,k,?_,?_,rfl,by rw [HN.out]; exact hkN⟩
    ·rfl
    ·exact own_le (own_grown HOW.out.2 g2 (by intro r e; obtain rfl:=Option.some.inj e; omega)) (by omega)
   have e1:(i:Int)<(m:Int)+1:=by omega
   by_cases hkN:¬ k<N
   ·-- no token is left
    have hRR:RR = .inr (en,170):=by
     rw [<- HLI.out,hk,List.drop_eq_nil_of_le (by rw [HN.out]; omega),line_out _ _ _ _ hend]
    subst hRR;have e2:(N:Int) <= (k:Int):=by omega
    clear hend HLI him hnw hpp hm hk hkN;go_wp2_with fail
    (try simp only [Exit.inBlock,Exit.then]); refine bodyPost_ret (results_row3 (ty := 62) (p:=4) rfl _ _ B _ _ _ _ rfl (store4 wo B _ _ _ _ _ _ HZ.out rfl).1 Tryz.underlying62 rfl (by kernel_rfl)) rfl ?_
    exact line_err (by rw [<- hBw]; exact HS.out.below) HZ.out hBw _ _ _ _ _ _ _ 170
   have hkl:k<N:=Decidable.not_not.1 hkN;have hkL:k<L.length:=by rw [HN.out]; exact hkl
   obtain ⟨g,off,hA,hg,hcell⟩:=HX.out (by intro e; rw [e] at hkL; simp at hkL);obtain ⟨t,ht⟩:∃ t,L[k]=t:=⟨_,rfl⟩;have hdrop:L.drop k=t :: L.drop (k+1):=by rw [List.drop_eq_getElem_cons hkL,ht]
   have htm:t∈L:=by rw [<- ht]; exact List.getElem_mem hkL
   have hdt:=HD.out t htm;have hst:=line_step (dec:=dec) (en:=en) t (L.drop (k+1)) i nb wd st hend;rw [<- hdrop,<- hk,HLI.out] at hst;rw [hk] at hst;have hq:∀ j u,t.cells[j]? = some u -> wo.cell? ⟨g,off+(k*3+j),none⟩=some u:=fun j u hu=>(HS.out.below.cell (p:=⟨g,off+(k*3+j),none⟩) hg).trans (hcell (k*3+j) u (by
    have:pcells L=pcells (L.take k) ++ (t.cells ++ pcells (L.drop (k+1))):=by rw [<- pcells_cons,<- hdrop,<- pcells_app,List.take_append_drop]
    have hlen:(pcells (L.take k)).length=k*3:=by rw [pcells_length,List.length_take,Nat.min_eq_left (by omega)]
    rw [this,List.getElem?_append_right (by omega),hlen,Nat.add_sub_cancel_left,List.getElem?_append_left (by
     have:=(List.getElem?_eq_some_iff.1 hu).1;exact this)]
    exact hu))
   have q0:=hq 0 _ rfl;have q1:=hq 1 _ rfl;have q2:=hq 2 _ rfl;rw [<- Nat.add_assoc] at q0 q1 q2;rw [Nat.add_zero] at q0;obtain ⟨tk,htk'⟩:∃ tk,t.kind=tk:=⟨_,rfl⟩;obtain ⟨tp,htp'⟩:∃ tp,t.pos=tp:=⟨_,rfl⟩;obtain ⟨tx,htx'⟩:∃ tx,t.text=tx:=⟨_,rfl⟩;rw [htk'] at q0 hst;rw [htp'] at q1 hst;rw [htx'] at q2 hdt hst;have hkNi:(k:Int)<(N:Int):=by omega
   have HST:=Yd hst;have HDT:=Yd hdt;have HKK:=Yd (And.intro hk (And.intro him (And.intro hnw (And.intro hpp (And.intro hm (And.intro hat2 (And.intro hargs (And.intro hk256 hend))))))));subst hA;have hlq:1 <= c:=by omega
   clear hst hdt hq hcell ht hdrop htm htk' htp' htx' hkN hend HLI;go_upto_region 12 with (fail);obtain ⟨G,hG⟩:∃ G,wo.heap.size=G:=⟨_,rfl⟩;obtain ⟨W,hW⟩:∃ W,wo.alloc (.cells #[.int .u8 (tk:Int),.int .i64 tp,.string tx] 27)=W:=⟨_,rfl⟩;rw [hW,hG];have hWB:Below wo.heap.size wo W:=by rw [<- hW]; exact (Below.refl _ wo).alloc (Nat.le_refl _) _
   have hbW:W.heap[B1]? = _:=(hWB.block B1 (Array.getElem?_eq_some_iff.1 HOW.out.1).1).trans HOW.out.1;have hzW:W.heap[B]? = _:=(hWB.block B (Array.getElem?_eq_some_iff.1 HZ.out).1).trans HZ.out;have hoW:W.ownsRow (B+2) 59 3 (.slice aa al ca) al (acells st.args):=by
    have:=own_grown HOW.out.2 (grown_below hWB none) (fun r e=>by cases e);rw [HAL.out] at this;exact this
   have hkW:W.heap[G]? = some (.cells #[.int .u8 (tk:Int),.int .i64 tp,.string tx] 27 (0,0)):=by rw [<- hW,<- hG]; exact heap_alloc_new wo _
   have hGB:B+2 <= G:=by rw [<- hG]; exact HS.out.size
   have HSW:=Yd (HS.out.keep hWB);have hGs:G<W.heap.size:=(Array.getElem?_eq_some_iff.1 hkW).1;clear c0 c1 c2 c3 d40 d41 d42 d43 f40 f41 f42 f43 q0 q1 q2 HOW HZ;have c0:=(cell_of_row W B1 0 _ _ _ hbW).trans rfl;have c1:=(cell_of_row W B1 1 _ _ _ hbW).trans rfl;have c2:=(cell_of_row W B1 2 _ _ _ hbW).trans rfl;have c3:=(cell_of_row W B1 3 _ _ _ hbW).trans rfl;have d40:=(cell_of_row W B 0 _ _ _ hzW).trans rfl;have d41:=(cell_of_row W B 1 _ _ _ hzW).trans rfl;have d42:=(cell_of_row W B 2 _ _ _ hzW).trans rfl;have d43:=(cell_of_row W B 3 _ _ _ hzW).trans rfl;have f40:=not_frozen hzW 0;have f41:=not_frozen hzW 1;have f42:=not_frozen hzW 2;have f43:=not_frozen hzW 3;have f80:=not_frozen hbW 0;have f81:=not_frozen hbW 1;have f82:=not_frozen hbW 2;have f83:=not_frozen hbW 3;have k0:=(cell_of_row W G 0 _ _ _ hkW).trans rfl;have k1:=(cell_of_row W G 1 _ _ _ hkW).trans rfl;have k2:=(cell_of_row W G 2 _ _ _ hkW).trans rfl;have HZW:=Yd hzW;have HBW:=Yd (And.intro hbW hoW);have HGW:=Yd (And.intro hkW (And.intro hGB hGs));have n1:¬ B=G:=by omega
   have n2:¬ G=B:=by omega
   have n3:¬ B=B1:=by omega
   have n4:¬ B1=B:=by omega
   have n5:¬ G=B1:=by omega
   have n6:¬ B1=G:=by omega
   clear hW hWB hzW hbW hoW hkW hGB hG hGs;have hcls:i=0∨i=1∨i=2∨(3 <= i∧i<pp)∨(3 <= i∧pp <= i∧i<m)∨(3 <= i∧i=m):=by
    obtain ⟨-,h1,h2,h3,h4,-⟩:=HKK.out;omega
   rcases hcls with h | h | h | ⟨h,h2⟩ | ⟨h,h2,h3⟩ | ⟨h,h2⟩
   ·-- i0
    have hwant:wantF i nb wd=1:=by
     obtain ⟨-,h1,h2,h3,h4,-⟩:=HKK.out;unfold wantF;rw [if_neg (by omega),if_neg (by omega),if_neg (by omega)]
    have hm3:3 <= pp∧pp <= m:=by
     obtain ⟨-,h1,h2,h3,h4,-⟩:=HKK.out;omega
    have a0:((i:Int) == 0)=true:=Yt (by omega)
    have a1:((i:Int) == 1)=false:=Yf (by omega)
    have a2:((i:Int) == 2)=false:=Yf (by omega)
    have a3:((i:Int) == (m:Int))=false:=Yf (by omega)
    have a4:(i:Int)<3:=by omega
    have hst:=HST.out;rw [hwant] at hst;clear hm3 HST;go_upto_region 19 with (fail)
    by_cases hw:tk≠1
    ·rw [if_pos hw] at hst;subst hst;have a6:((tk:Int) != 1)=true:=by rw [bne_iff_ne]; omega
     clear hw hwant HDT;go_wp2_with fail
     go_region
     all_goals go_wp2_with fail
     all_goals first
      | ((try simp only [Exit.inBlock,Exit.then]); refine bodyPost_ret (results_row3 (ty := 62) (p:=4) rfl _ _ B _ _ _ _ rfl (store4 _ B _ _ _ _ _ _ HZW.out rfl).1 Tryz.underlying62 rfl (by kernel_rfl)) rfl ?_)
     all_goals refine line_post (W':=(((W.setCell ⟨B,0,none⟩ _).setCell ⟨B,1,none⟩ _).setCell ⟨B,2,none⟩ _).setCell ⟨B,3,none⟩ _) (line_err (by rw [<- hBw]; exact (HSW.out.below:Below w.heap.size w W)) HZW.out hBw _ _ _ _ _ _ _ 170) (fun h=>⟨h.os,h.tape,h.output,h.size,h.block⟩)
    rw [if_neg hw] at hst;have a6:((tk:Int) != 1)=false:=by rw [bne_eq_false_iff_eq]; omega
    clear hw;rw [if_pos h] at hst;have HS2:=Yd hst;clear hst HDT;go_wp2_with fail;obtain ⟨hk,him,hnw,hpp,hm,hat2,hargs,hk256,hend⟩:=HKK.out;refine ⟨⟨i+1,nb,wd,{ st with name:=tx,pos:=tp },rfl,rfl,by go_num,hnw,by omega,by omega,?_,by first | omega | (show st.args.length <= i+1; omega),by first | exact hk256 | (show K<256; omega),(HSW.out.set0 tx).set1 tp,zero_set (zero_set HZW.out B1 0 n3 _) B1 1 n3 _⟩,by simp only [intOf]; omega⟩;rw [show at_+(i+1)=k+1 by omega];rw [HS2.out,h]
   ·-- i1
    have hwant:wantF i nb wd=3:=by
     obtain ⟨-,h1,h2,h3,h4,-⟩:=HKK.out;unfold wantF;rw [if_pos h]
    have hm3:3 <= pp∧pp <= m:=by
     obtain ⟨-,h1,h2,h3,h4,-⟩:=HKK.out;omega
    have a0:((i:Int) == 0)=false:=Yf (by omega)
    have a1:((i:Int) == 1)=true:=Yt (by omega)
    have a2:((i:Int) == 2)=false:=Yf (by omega)
    have a3:((i:Int) == (m:Int))=false:=Yf (by omega)
    have a4:(i:Int)<3:=by omega
    have hst:=HST.out;rw [hwant] at hst;clear hm3 HST;go_upto_region 19 with (fail)
    by_cases hw:tk≠3
    ·rw [if_pos hw] at hst;subst hst;have a6:((tk:Int) != 3)=true:=by rw [bne_iff_ne]; omega
     clear hw hwant HDT;go_wp2_with fail
     go_region
     all_goals go_wp2_with fail
     all_goals first
      | ((try simp only [Exit.inBlock,Exit.then]); refine bodyPost_ret (results_row3 (ty := 62) (p:=4) rfl _ _ B _ _ _ _ rfl (store4 _ B _ _ _ _ _ _ HZW.out rfl).1 Tryz.underlying62 rfl (by kernel_rfl)) rfl ?_)
     all_goals refine line_post (W':=(((W.setCell ⟨B,0,none⟩ _).setCell ⟨B,1,none⟩ _).setCell ⟨B,2,none⟩ _).setCell ⟨B,3,none⟩ _) (line_err (by rw [<- hBw]; exact (HSW.out.below:Below w.heap.size w W)) HZW.out hBw _ _ _ _ _ _ _ 170) (fun h=>⟨h.os,h.tape,h.output,h.size,h.block⟩)
    rw [if_neg hw] at hst;have a6:((tk:Int) != 3)=false:=by rw [bne_eq_false_iff_eq]; omega
    clear hw;rw [if_neg (by omega),if_neg (by omega),if_neg (by decide),if_neg (by decide)] at hst;have HS2:=Yd hst;clear hst HDT;go_wp2_with fail;obtain ⟨hk,him,hnw,hpp,hm,hat2,hargs,hk256,hend⟩:=HKK.out;refine ⟨⟨i+1,nb,wd,st,rfl,rfl,by go_num,hnw,by omega,by omega,?_,by first | omega | (show st.args.length <= i+1; omega),by first | exact hk256 | (show K<256; omega),HSW.out,HZW.out⟩,by simp only [intOf]; omega⟩;rw [show at_+(i+1)=k+1 by omega];rw [HS2.out]
   ·-- i2
    have hwant:wantF i nb wd=1:=by
     obtain ⟨-,h1,h2,h3,h4,-⟩:=HKK.out;unfold wantF;rw [if_neg (by omega),if_neg (by omega),if_neg (by omega)]
    have hm3:3 <= pp∧pp <= m:=by
     obtain ⟨-,h1,h2,h3,h4,-⟩:=HKK.out;omega
    have a0:((i:Int) == 0)=false:=Yf (by omega)
    have a1:((i:Int) == 1)=false:=Yf (by omega)
    have a2:((i:Int) == 2)=true:=Yt (by omega)
    have a3:((i:Int) == (m:Int))=false:=Yf (by omega)
    have a4:(i:Int)<3:=by omega
    have hst:=HST.out;rw [hwant] at hst;clear hm3 HST;go_upto_region 19 with (fail)
    by_cases hw:tk≠1
    ·rw [if_pos hw] at hst;subst hst;have a6:((tk:Int) != 1)=true:=by rw [bne_iff_ne]; omega
     clear hw hwant HDT;go_wp2_with fail
     go_region
     all_goals go_wp2_with fail
     all_goals first
      | ((try simp only [Exit.inBlock,Exit.then]); refine bodyPost_ret (results_row3 (ty := 62) (p:=4) rfl _ _ B _ _ _ _ rfl (store4 _ B _ _ _ _ _ _ HZW.out rfl).1 Tryz.underlying62 rfl (by kernel_rfl)) rfl ?_)
     all_goals refine line_post (W':=(((W.setCell ⟨B,0,none⟩ _).setCell ⟨B,1,none⟩ _).setCell ⟨B,2,none⟩ _).setCell ⟨B,3,none⟩ _) (line_err (by rw [<- hBw]; exact (HSW.out.below:Below w.heap.size w W)) HZW.out hBw _ _ _ _ _ _ _ 170) (fun h=>⟨h.os,h.tape,h.output,h.size,h.block⟩)
    rw [if_neg hw] at hst;have a6:((tk:Int) != 1)=false:=by rw [bne_eq_false_iff_eq]; omega
    clear hw;rw [if_neg (by omega),if_pos h] at hst;have HKD:=Yd (fun V=>rkind_any tx V);obtain ⟨K,hKe⟩:∃ K,kindF tx=K:=⟨_,rfl⟩;have hK6:K <= 6:=by rw [<- hKe]; exact kindF_le tx
    rw [hKe] at HKD hst;have HS2:=Yd hst;clear hst HDT hKe;go_upto_region 26 with (go_at_call 7; (with_reducible refine (HKD.out _).mono ?_); rintro e w' ⟨rfl,rfl⟩);obtain ⟨V,hV⟩:∃ V,w'.setCell ⟨B1,2,none⟩ (.int .u8 (K:Int))=V:=⟨_,rfl⟩
    try rw [hV]
    have hbV:V.heap[B1]? = some (.cells #[.string st.name,.int .i64 st.pos,.int .u8 (K:Int),.slice aa al ca] 62 (0,0)):=by rw [<- hV]; exact (heap_set _ B1 2 _ _ _ _ HBW.out.1).trans rfl
    have hzV:V.heap[B]? = some (.cells #[.string ⟨#[]⟩,.int .i64 0,.int .u8 0,.slice none 0 0] 62 (0,0)):=by rw [<- hV]; exact zero_set HZW.out B1 2 n3 _
    have hgV:V.heap[G]? = some (.cells #[.int .u8 (tk:Int),.int .i64 tp,.string tx] 27 (0,0)):=by rw [<- hV]; exact zero_set HGW.out.1 B1 2 n5 _
    have HSV:=Yd (show SA w V B1 (B+2) { st with kind:=K } by rw [<- hV]; exact HSW.out.set2 K);have HZV:=Yd hzV;clear hV;clear c0 c1 c2 c3 d40 d41 d42 d43 f40 f41 f42 f43 f80 f81 f82 f83 k0 k1 k2;have c0:=(cell_of_row V B1 0 _ _ _ hbV).trans rfl;have c1:=(cell_of_row V B1 1 _ _ _ hbV).trans rfl;have c2:=(cell_of_row V B1 2 _ _ _ hbV).trans rfl;have c3:=(cell_of_row V B1 3 _ _ _ hbV).trans rfl;have d40:=(cell_of_row V B 0 _ _ _ hzV).trans rfl;have d41:=(cell_of_row V B 1 _ _ _ hzV).trans rfl;have d42:=(cell_of_row V B 2 _ _ _ hzV).trans rfl;have d43:=(cell_of_row V B 3 _ _ _ hzV).trans rfl;have f40:=not_frozen hzV 0;have f41:=not_frozen hzV 1;have f42:=not_frozen hzV 2;have f43:=not_frozen hzV 3;have f80:=not_frozen hbV 0;have f81:=not_frozen hbV 1;have f82:=not_frozen hbV 2;have f83:=not_frozen hbV 3;have k0:=(cell_of_row V G 0 _ _ _ hgV).trans rfl;have k1:=(cell_of_row V G 1 _ _ _ hgV).trans rfl;have k2:=(cell_of_row V G 2 _ _ _ hgV).trans rfl;clear hbV hzV hgV
    by_cases hK0:K=0
    ·have hst:=HS2.out;rw [if_pos hK0] at hst;subst hst;have a7:((K:Int) == 0)=true:=Yt (by omega)
     clear HS2 hK0;go_wp2_with fail
     go_region
     all_goals go_wp2_with fail
     all_goals first
      | ((try simp only [Exit.inBlock,Exit.then]); refine bodyPost_ret (results_row3 (ty := 62) (p:=4) rfl _ _ B _ _ _ _ rfl (store4 _ B _ _ _ _ _ _ HZV.out rfl).1 Tryz.underlying62 rfl (by kernel_rfl)) rfl ?_)
     all_goals refine line_post (W':=(((V.setCell ⟨B,0,none⟩ _).setCell ⟨B,1,none⟩ _).setCell ⟨B,2,none⟩ _).setCell ⟨B,3,none⟩ _) (line_err (by rw [<- hBw]; exact (HSV.out.below:Below w.heap.size w V)) HZV.out hBw _ _ _ _ _ _ _ 171) (fun h=>⟨h.os,h.tape,h.output,h.size,h.block⟩)
    have hst:=HS2.out;rw [if_neg hK0] at hst;have HS3:=Yd hst;have a7:((K:Int) == 0)=false:=Yf (by omega)
    have HBH:=Yd (fun V=>behind_any K V);have hb7:=beh_le K;obtain ⟨p1,hp1⟩:∃ p1,(behF K).1=p1:=⟨_,rfl⟩;obtain ⟨p2,hp2⟩:∃ p2,(behF K).2=p2:=⟨_,rfl⟩;rw [hp1,hp2] at HBH HS3 hb7;clear hst HS2 hK0 hp1 hp2;go_wp2_with (go_at_call 61; (with_reducible refine (HBH.out _).mono ?_); rintro e w' ⟨rfl,rfl⟩);obtain ⟨hk,him,hnw,hpp,hm,hat2,hargs,hk256,hend⟩:=HKK.out;refine ⟨⟨i+1,p1,p2,{ st with kind:=K },rfl,rfl,by go_num,hb7,by omega,by omega,?_,by first | omega | (show st.args.length <= i+1; omega),by first | exact hk256 | (show K<256; omega),HSV.out,HZV.out⟩,by simp only [intOf]; omega⟩;rw [show at_+(i+1)=k+1 by omega];rw [HS3.out,h]
   ·-- num
    have hwant:wantF i nb wd=2:=by
     obtain ⟨-,h1,h2,h3,h4,-⟩:=HKK.out;unfold wantF;rw [if_neg (by omega),if_neg (by omega),if_pos (by omega)]
    have hm3:3 <= pp∧pp <= m:=by
     obtain ⟨-,h1,h2,h3,h4,-⟩:=HKK.out;omega
    have a0:((i:Int) == 0)=false:=Yf (by omega)
    have a1:((i:Int) == 1)=false:=Yf (by omega)
    have a2:((i:Int) == 2)=false:=Yf (by omega)
    have a3:((i:Int) == (m:Int))=false:=Yf (by omega)
    have a4:(3:Int) <= (i:Int):=by omega
    have a5:(i:Int)<(pp:Int):=by omega
    have hst:=HST.out;rw [hwant] at hst;clear hm3 HST;go_upto_region 19 with (fail)
    by_cases hw:tk≠2
    ·rw [if_pos hw] at hst;subst hst;have a6:((tk:Int) != 2)=true:=by rw [bne_iff_ne]; omega
     clear hw hwant HDT;go_wp2_with fail
     go_region
     all_goals go_wp2_with fail
     all_goals first
      | ((try simp only [Exit.inBlock,Exit.then]); refine bodyPost_ret (results_row3 (ty := 62) (p:=4) rfl _ _ B _ _ _ _ rfl (store4 _ B _ _ _ _ _ _ HZW.out rfl).1 Tryz.underlying62 rfl (by kernel_rfl)) rfl ?_)
     all_goals refine line_post (W':=(((W.setCell ⟨B,0,none⟩ _).setCell ⟨B,1,none⟩ _).setCell ⟨B,2,none⟩ _).setCell ⟨B,3,none⟩ _) (line_err (by rw [<- hBw]; exact (HSW.out.below:Below w.heap.size w W)) HZW.out hBw _ _ _ _ _ _ _ 170) (fun h=>⟨h.os,h.tape,h.output,h.size,h.block⟩)
    rw [if_neg hw] at hst;have a6:((tk:Int) != 2)=false:=by rw [bne_eq_false_iff_eq]; omega
    clear hw;rw [if_neg (by omega),if_neg (by omega),if_pos rfl] at hst;obtain ⟨X,hX⟩:∃ X,(dec tx).1=X:=⟨_,rfl⟩;obtain ⟨E,hE⟩:∃ E,(dec tx).2=E:=⟨_,rfl⟩;rw [hX,hE] at hst HDT;have HS2:=Yd hst;clear hst hX hE;go_upto_region 31 with (go_at_call 62; (with_reducible refine (HDT.out _).mono ?_); rintro e V ⟨rfl,hbel⟩);have HSV:=Yd (HSW.out.keep hbel);have hbV:V.heap[B1]? = _:=(hbel.block B1 (Array.getElem?_eq_some_iff.1 HBW.out.1).1).trans HBW.out.1;have hzV:V.heap[B]? = _:=(hbel.block B (Array.getElem?_eq_some_iff.1 HZW.out).1).trans HZW.out;have hgV:V.heap[G]? = _:=(hbel.block G HGW.out.2.2).trans HGW.out.1;have hoV:=own_grown HBW.out.2 (grown_below hbel none) (fun r e=>by cases e);clear c0 c1 c2 c3 d40 d41 d42 d43 f40 f41 f42 f43 f80 f81 f82 f83 k0 k1 k2;have c0:=(cell_of_row V B1 0 _ _ _ hbV).trans rfl;have c1:=(cell_of_row V B1 1 _ _ _ hbV).trans rfl;have c2:=(cell_of_row V B1 2 _ _ _ hbV).trans rfl;have c3:=(cell_of_row V B1 3 _ _ _ hbV).trans rfl;have d40:=(cell_of_row V B 0 _ _ _ hzV).trans rfl;have d41:=(cell_of_row V B 1 _ _ _ hzV).trans rfl;have d42:=(cell_of_row V B 2 _ _ _ hzV).trans rfl;have d43:=(cell_of_row V B 3 _ _ _ hzV).trans rfl;have f40:=not_frozen hzV 0;have f41:=not_frozen hzV 1;have f42:=not_frozen hzV 2;have f43:=not_frozen hzV 3;have f80:=not_frozen hbV 0;have f81:=not_frozen hbV 1;have f82:=not_frozen hbV 2;have f83:=not_frozen hbV 3;have k0:=(cell_of_row V G 0 _ _ _ hgV).trans rfl;have k1:=(cell_of_row V G 1 _ _ _ hgV).trans rfl;have k2:=(cell_of_row V G 2 _ _ _ hgV).trans rfl;have HZV:=Yd hzV;have HBV:=Yd (And.intro hbV hoV);clear hbel hbV hzV hgV hoV
    by_cases hE0:¬ E=0
    ·have hst:=HS2.out;rw [if_neg hE0] at hst;subst hst;have a7:((E:Int) != 0)=true:=by rw [bne_iff_ne]; omega
     clear HS2 hE0;go_wp2_with fail
     go_region
     all_goals go_wp2_with fail
     all_goals first
      | ((try simp only [Exit.inBlock,Exit.then]); refine bodyPost_ret (results_row3 (ty := 62) (p:=4) rfl _ _ B _ _ _ _ rfl (store4 _ B _ _ _ _ _ _ HZV.out rfl).1 Tryz.underlying62 rfl (by kernel_rfl)) rfl ?_)
     all_goals refine line_post (W':=(((V.setCell ⟨B,0,none⟩ _).setCell ⟨B,1,none⟩ _).setCell ⟨B,2,none⟩ _).setCell ⟨B,3,none⟩ _) (line_err (by rw [<- hBw]; exact (HSV.out.below:Below w.heap.size w V)) HZV.out hBw _ _ _ _ _ _ _ E) (fun h=>⟨h.os,h.tape,h.output,h.size,h.block⟩)
    have hE1:E=0:=Decidable.not_not.1 hE0;have hst:=HS2.out;rw [if_pos hE1] at hst;have HS3:=Yd hst;have a7:((E:Int) != 0)=false:=by rw [bne_eq_false_iff_eq]; omega
    have hlV:=HSV.out.size;have hal6:al <= 11:=by have:=HKK.out.2.2.2.2.2.2.1; have:=HAL.out; omega
    clear hst HS2 hE0 hE1;go_wp2_with (at_builtin; refine wpList_append_lies _ rfl (.tmp 129) (.tmp 134) 60 rfl (B+2) 59 i0 (.agg #[.int .i64 0,.float .f64 0,.string ⟨#[]⟩]) 3 32 Tryz.underlying60 hi0 hz0 hz1 hz2 rfl (by omega) (.slice aa al ca) al (acells st.args) rfl (HBV.out.2.alloc _) ⟨V.heap.size,0,none⟩ 1 1 [.int .i64 tp,.float .f64 X,.string ⟨#[]⟩] rfl rfl (World.news_of_block (heap_at V (.cells #[.int .i64 tp,.float .f64 X,.string ⟨#[]⟩] 59) _ rfl)) (by simp [Value.oneCell']) (by omega) (by unfold maxLen; omega) (by omega) (by simp; omega) _ rfl ?_; intro gz capz wz hownz hgz hatz hltz; have HZ3:=Yd (And.intro hownz hgz); have gzz:=grown_trans (World.grownBy_alloc V _ _) hgz; have hob:∀ r,Value.ownBlock (.slice aa al ca)=some r -> B+2 <= r:=(fun r e=>(HBV.out.2.lt r e).1); have hbz:=(gzz.block B1 (Array.getElem?_eq_some_iff.1 HBV.out.1).1 (fun e=>by have:=hob B1 e.symm; omega)).trans HBV.out.1; have hzz:=(gzz.block B (by omega) (fun e=>by have:=hob B e.symm; omega)); have HBZ:=Yd hzz; have cz3:=(cell_of_row wz B1 3 _ _ _ hbz).trans rfl; have fz3:=not_frozen hbz 3; clear hownz hgz gzz hob hbz hzz hatz hltz);obtain ⟨hk,him,hnw,hpp,hm,hat2,hargs,hk256,hend⟩:=HKK.out;refine ⟨⟨i+1,nb,wd,{ st with args:=st.args ++ [⟨tp,X,⟨#[]⟩⟩] },rfl,rfl,by go_num,hnw,by omega,by omega,?_,by simp only [List.length_append,List.length_singleton]; omega,by first | exact hk256 | (show K<256; omega),HSV.out.app HAL.out HBV.out.1 HBV.out.2 HZ3.out.2 HZ3.out.1,zero_set (HBZ.out.trans HZV.out) B1 3 n3 _⟩,by simp only [intOf]; omega⟩;rw [show at_+(i+1)=k+1 by omega];rw [HS3.out]
   ·-- word
    have hwant:wantF i nb wd=1:=by
     obtain ⟨-,h1,h2,h3,h4,-⟩:=HKK.out;unfold wantF;rw [if_neg (by omega),if_neg (by omega),if_neg (by omega)]
    have hm3:3 <= pp∧pp <= m:=by
     obtain ⟨-,h1,h2,h3,h4,-⟩:=HKK.out;omega
    have a0:((i:Int) == 0)=false:=Yf (by omega)
    have a1:((i:Int) == 1)=false:=Yf (by omega)
    have a2:((i:Int) == 2)=false:=Yf (by omega)
    have a3:((i:Int) == (m:Int))=false:=Yf (by omega)
    have a4:(3:Int) <= (i:Int):=by omega
    have a5:(pp:Int) <= (i:Int):=by omega
    have hst:=HST.out;rw [hwant] at hst;clear hm3 HST;go_upto_region 19 with (fail)
    by_cases hw:tk≠1
    ·rw [if_pos hw] at hst;subst hst;have a6:((tk:Int) != 1)=true:=by rw [bne_iff_ne]; omega
     clear hw hwant HDT;go_wp2_with fail
     go_region
     all_goals go_wp2_with fail
     all_goals first
      | ((try simp only [Exit.inBlock,Exit.then]); refine bodyPost_ret (results_row3 (ty := 62) (p:=4) rfl _ _ B _ _ _ _ rfl (store4 _ B _ _ _ _ _ _ HZW.out rfl).1 Tryz.underlying62 rfl (by kernel_rfl)) rfl ?_)
     all_goals refine line_post (W':=(((W.setCell ⟨B,0,none⟩ _).setCell ⟨B,1,none⟩ _).setCell ⟨B,2,none⟩ _).setCell ⟨B,3,none⟩ _) (line_err (by rw [<- hBw]; exact (HSW.out.below:Below w.heap.size w W)) HZW.out hBw _ _ _ _ _ _ _ 170) (fun h=>⟨h.os,h.tape,h.output,h.size,h.block⟩)
    rw [if_neg hw] at hst;have a6:((tk:Int) != 1)=false:=by rw [bne_eq_false_iff_eq]; omega
    clear hw;rw [if_neg (by omega),if_neg (by omega),if_neg (by decide),if_pos rfl] at hst;have HS3:=Yd hst;clear hst HDT;have hlV:=HSW.out.size;have hal6:al <= 11:=by have:=HKK.out.2.2.2.2.2.2.1; have:=HAL.out; omega
    go_wp2_with (at_builtin; refine wpList_append_lies _ rfl (.tmp 141) (.tmp 147) 60 rfl (B+2) 59 i0 (.agg #[.int .i64 0,.float .f64 0,.string ⟨#[]⟩]) 3 32 Tryz.underlying60 hi0 hz0 hz1 hz2 rfl (by omega) (.slice aa al ca) al (acells st.args) rfl (HBW.out.2.alloc _) ⟨W.heap.size,0,none⟩ 1 1 [.int .i64 tp,.float .f64 0,.string tx] rfl rfl (World.news_of_block (heap_at W (.cells #[.int .i64 tp,.float .f64 0,.string tx] 59) _ rfl)) (by simp [Value.oneCell']) (by omega) (by unfold maxLen; omega) (by omega) (by simp; omega) _ rfl ?_; intro gz capz wz hownz hgz hatz hltz; have HZ3:=Yd (And.intro hownz hgz); have gzz:=grown_trans (World.grownBy_alloc W _ _) hgz; have hob:∀ r,Value.ownBlock (.slice aa al ca)=some r -> B+2 <= r:=(fun r e=>(HBW.out.2.lt r e).1); have hbz:=(gzz.block B1 (Array.getElem?_eq_some_iff.1 HBW.out.1).1 (fun e=>by have:=hob B1 e.symm; omega)).trans HBW.out.1; have hzz:=(gzz.block B (by omega) (fun e=>by have:=hob B e.symm; omega)); have HBZ:=Yd hzz; have cz3:=(cell_of_row wz B1 3 _ _ _ hbz).trans rfl; have fz3:=not_frozen hbz 3; clear hownz hgz gzz hob hbz hzz hatz hltz);obtain ⟨hk,him,hnw,hpp,hm,hat2,hargs,hk256,hend⟩:=HKK.out;refine ⟨⟨i+1,nb,wd,{ st with args:=st.args ++ [⟨tp,0,tx⟩] },rfl,rfl,by go_num,hnw,by omega,by omega,?_,by simp only [List.length_append,List.length_singleton]; omega,by first | exact hk256 | (show K<256; omega),HSW.out.app HAL.out HBW.out.1 HBW.out.2 HZ3.out.2 HZ3.out.1,zero_set (HBZ.out.trans HZW.out) B1 3 n3 _⟩,by simp only [intOf]; omega⟩;rw [show at_+(i+1)=k+1 by omega];rw [HS3.out]
   ·-- end
    have hwant:wantF i nb wd=4:=by
     obtain ⟨-,h1,h2,h3,h4,-⟩:=HKK.out;unfold wantF;rw [if_neg (by omega),if_pos (by omega)]
    have hm3:3 <= pp∧pp <= m:=by
     obtain ⟨-,h1,h2,h3,h4,-⟩:=HKK.out;omega
    have a0:((i:Int) == 0)=false:=Yf (by omega)
    have a1:((i:Int) == 1)=false:=Yf (by omega)
    have a2:((i:Int) == 2)=false:=Yf (by omega)
    have a3:((i:Int) == (m:Int))=true:=Yt (by omega)
    have a4:(3:Int) <= (i:Int):=by omega
    have hst:=HST.out;rw [hwant] at hst;clear hm3 HST;go_upto_region 19 with (fail)
    by_cases hw:tk≠4
    ·rw [if_pos hw] at hst;subst hst;have a6:((tk:Int) != 4)=true:=by rw [bne_iff_ne]; omega
     clear hw hwant HDT;go_wp2_with fail
     go_region
     all_goals go_wp2_with fail
     all_goals first
      | ((try simp only [Exit.inBlock,Exit.then]); refine bodyPost_ret (results_row3 (ty := 62) (p:=4) rfl _ _ B _ _ _ _ rfl (store4 _ B _ _ _ _ _ _ HZW.out rfl).1 Tryz.underlying62 rfl (by kernel_rfl)) rfl ?_)
     all_goals refine line_post (W':=(((W.setCell ⟨B,0,none⟩ _).setCell ⟨B,1,none⟩ _).setCell ⟨B,2,none⟩ _).setCell ⟨B,3,none⟩ _) (line_err (by rw [<- hBw]; exact (HSW.out.below:Below w.heap.size w W)) HZW.out hBw _ _ _ _ _ _ _ 170) (fun h=>⟨h.os,h.tape,h.output,h.size,h.block⟩)
    rw [if_neg hw] at hst;have a6:((tk:Int) != 4)=false:=by rw [bne_eq_false_iff_eq]; omega
    clear hw;rw [if_neg (by omega),if_neg (by omega),if_neg (by decide),if_neg (by decide)] at hst;have HS2:=Yd hst;clear hst HDT;go_wp2_with fail;obtain ⟨hk,him,hnw,hpp,hm,hat2,hargs,hk256,hend⟩:=HKK.out;refine ⟨⟨i+1,nb,wd,st,rfl,rfl,by go_num,hnw,by omega,by omega,?_,by first | omega | (show st.args.length <= i+1; omega),by first | exact hk256 | (show K<256; omega),HSW.out,HZW.out⟩,by simp only [intOf]; omega⟩;rw [show at_+(i+1)=k+1 by omega];rw [HS2.out]
end Go.Proofs.YtcbgkbidgpemfaaGreatDoor.rg
