/- A map[string]int that the call makes: what a look-up and a store do; a slice of one node. No conditions but those stated. -/
import Derived.Test.YtcbgkbidgpemfaaGreatDoorMf00
import Derived.Test.YtcbgkbidgpemfaaGreatDoorMf08
import Derived.Test.YtcbgkbidgpemfaaGreatDoorMf02
import Derived.Test.YtcbgkbidgpemfaaGreatDoorMf07
import Derived.MapKept
import Derived.Carry
import Derived.Deep.AppendLies
import Derived.Outline
import Derived.Deep.LoopGhost
import Derived.Laws.OwnMore
import Derived.Lib.Hide
import Derived.WalkKit
import Derived.BigQuiet
import Derived.RangeFuncBound
import Derived.RangeFuncCalls
import Derived.RangeFuncLeaves
import Derived.Shelf.Abstract
import Derived.Shelf.RegionOpen
import Derived.OwnWalkIn
import Derived.TacticsInMore
import Derived.LoopNIn
import Derived.LoopIn
import Derived.Laws.FloatBits
import Derived.Laws.FloatArith
import Derived.Laws.Externs
import Derived.Deep.DeepCutAuto
namespace Go.Proofs.YtcbgkbidgpemfaaGreatDoor
set_option maxRecDepth 100000
set_option maxHeartbeats 4000000
namespace chkw
open Go.RowKit
open lexw
open parw
open nodew
open qt
def kv (p:ByteArray × Nat):Value × Value:=(.string p.1,.int .i64 p.2)
def MB (W:World) (mb:Nat) (ents:List (ByteArray × Nat)):Prop :=
 ∃ (es:Array MapEntry) (clock:Nat),W.heap[mb]? = some (.map es clock)∧es.toList.map (fun e=>(e.key,e.val))=ents.map kv
def lookE (ents:List (ByteArray × Nat)) (k:ByteArray):Option Nat:=(ents.find? fun p=>k == p.1).map (·.2)
theorem ck_run' (em:Bool) (m:Nat) (k:ByteArray) (w:World):(Instr.checkKey em (m+1) 9 (.string k)).run Tryz.prog w = .ok () w:=by
 simp [Instr.checkKey,run_underlying Tryz.underlying9]
theorem ck_run (em:Bool) (k:ByteArray) (w:World):(Instr.checkKey em 10000 9 (.string k)).run Tryz.prog w = .ok () w:=by
 exact ck_run' em 9999 k w
theorem find_run (k:ByteArray):∀ (es:List MapEntry) (ents:List (ByteArray × Nat)) (i:Nat),es.map (fun e=>(e.key,e.val))=ents.map kv ->
  ∃ r,Instr.findNow .string (.string k) es i=some r∧r.map (·.2)=(lookE ents k).map (fun p=>Value.int .i64 p)
 | [],[],i,_=>⟨none,rfl,rfl⟩
 | [],a :: r,i,h=>by simp at h
 | e :: es,[],i,h=>by simp at h
 | e :: es,a :: r,i,h=>by
  simp only [List.map_cons,List.cons.injEq,kv,Prod.mk.injEq] at h;obtain ⟨⟨h1,h2⟩,h3⟩:=h;unfold Instr.findNow;rw [h1];show ∃ r',(match some (k == a.1) with | some true=>some (some (i,e.val)) | some false=>Instr.findNow .string (.string k) es (i+1) | none=>none)=some r'∧_
  cases hq:k == a.1 with
  | true =>
   refine ⟨_,rfl,?_⟩;unfold lookE;rw [List.find?_cons_of_pos (by simpa using hq)];simp [h2]
  | false =>
   obtain ⟨r',hr,hv⟩:=find_run k es r (i+1) h3;refine ⟨r',hr,?_⟩;unfold lookE at hv ⊢;rw [List.find?_cons_of_neg (by simpa using hq)];exact hv
theorem findKey_run (k:ByteArray) (es:List MapEntry) (ents:List (ByteArray × Nat)) (h:es.map (fun e=>(e.key,e.val))=ents.map kv) (w:World) :
  ∃ r,(Instr.findKey 9 (.string k) es).run Tryz.prog w = .ok r w∧r.map (·.2)=(lookE ents k).map (fun p=>Value.int .i64 p):=by
 obtain ⟨r,hr,hv⟩:=find_run k es ents 0 h;refine ⟨r,?_,hv⟩;simp [Instr.findKey,run_underlying Tryz.underlying9,hr]
theorem MB.lookup {W:World} {mb:Nat} {ents:List (ByteArray × Nat)} (h:MB W mb ents) (k:ByteArray) :
  (Instr.lookup 116 (.map (some mb)) (.string k) true).run Tryz.prog W = .ok (.tuple #[.int .i64 ((lookE ents k).getD 0:Nat),.bool (lookE ents k).isSome]) W:=by
 obtain ⟨es,c,hb,he⟩:=h;obtain ⟨r,hr,hv⟩:=findKey_run k es.toList ents he W
 cases hl:lookE ents k with
 | none =>
  rw [hl] at hv
  cases r with
  | none=>simp [Instr.lookup,run_underlying Tryz.underlying116,run_getObj_map _ _ _ _ hb,ck_run,hr]
  | some x=>simp at hv
 | some p =>
  rw [hl] at hv
  cases r with
  | none=>simp at hv
  | some x =>
   obtain ⟨i,v⟩:=x;simp at hv;subst hv;simp [Instr.lookup,run_underlying Tryz.underlying116,run_getObj_map _ _ _ _ hb,ck_run,hr]
theorem MB.at {W:World} {mb:Nat} {ents:List (ByteArray × Nat)} (h:MB W mb ents):MapAt W mb (lookE ents):=by
 obtain ⟨es,c,hb,he⟩:=h;exact ⟨(Array.getElem?_eq_some_iff.1 hb).1,fun W' hW k=>MB.lookup ⟨es,c,hW.trans hb,he⟩ k⟩
theorem MB.keep {W W':World} {mb:Nat} {ents:List (ByteArray × Nat)} (h:MB W mb ents) (hk:W'.heap[mb]? = W.heap[mb]?):MB W' mb ents:=by
 obtain ⟨es,c,hb,he⟩:=h;exact ⟨es,c,hk.trans hb,he⟩
theorem MB.store {W:World} {mb:Nat} {ents:List (ByteArray × Nat)} (h:MB W mb ents) (k:ByteArray) (p:Nat) (hk:lookE ents k=none) :
  ∃ W',(Instr.mapUpdate 116 (.map (some mb)) (.string k) (.int .i64 p)).run Tryz.prog W = .ok () W'∧MB W' mb (ents ++ [(k,p)])∧W'.heap.size=W.heap.size∧(∀ b,b≠mb -> W'.heap[b]? = W.heap[b]?)∧W'.os=W.os∧W'.tape=W.tape∧W'.output=W.output:=by
 obtain ⟨es,c,hb,he⟩:=h;obtain ⟨r,hr,hv⟩:=findKey_run k es.toList ents he W;rw [hk] at hv
 cases r with
 | some x=>simp at hv
 | none =>
  refine ⟨{ W with heap:=W.heap.setIfInBounds mb (.map (es.push { key:=.string k,val:=.int .i64 p,born:=c }) (c+1)) },?_,?_,by simp,?_,rfl,rfl,rfl⟩
  ·simp [Instr.mapUpdate,run_underlying Tryz.underlying116,run_getObj_map _ _ _ _ hb,ck_run,hr,MapKept.run_setObj_map _ hb]
  ·have hlt:=(Array.getElem?_eq_some_iff.1 hb).1;refine ⟨es.push { key:=.string k,val:=.int .i64 p,born:=c },c+1,by simp [hlt],?_⟩;rw [Array.toList_push,List.map_append,he,List.map_append];rfl
  ·intro b hbn;show (W.heap.setIfInBounds mb _)[b]? = _;rw [Array.getElem?_setIfInBounds_ne (fun e=>hbn e.symm)]
theorem bs_run (n:Nd) (w:World):(Instr.buildSlice 34 1 #[(0,n.val)]).run Tryz.prog w = .ok (.slice (some ⟨w.heap.size,0,none⟩) 1 1) (w.alloc (.cells n.cells.toArray 49)):=by
 unfold Nd.val Nd.cells;kernel_rfl
end chkw

/- The walk of check.Check. Conditions: the statements lie in memory; their lengths are within the reach. -/
namespace chkw
open Go.RowKit
open lexw
open parw
open nodew
open qt
open Go.BigFrame
attribute [local go_sem] parw.run_store_float
def SR (W:World) (B:Nat) (v:Value) (l:List PStmt):Prop :=
 ∃ (vs:List Value) (A:Option Addr) (c:Nat),vs.length=l.length∧v = .slice A l.length c ∧
  (l≠[] -> ∃ g off,A=some ⟨g,off,none⟩∧g<B ∧ ∀ j u,(scells l vs)[j]? = some u -> W.cell? ⟨g,off+j,none⟩=some u) ∧
  ∀ i (h1:i<vs.length) (h2:i<l.length),ARead W B vs[i] l[i].args∧CapOk vs[i]
theorem SR.keep {W W':World} {B:Nat} {v:Value} {l:List PStmt} (h:SR W B v l) (hg:∀ g,g<B -> g<W.heap.size -> W'.heap[g]? = W.heap[g]?):SR W' B v l:=by
 obtain ⟨vs,A,c,hl,hv,hx,ha⟩:=h;refine ⟨vs,A,c,hl,hv,fun h0 => ?_,fun i h1 h2=>⟨(ha i h1 h2).1.keep hg,(ha i h1 h2).2⟩⟩;obtain ⟨g,off,hA,hB,hcell⟩:=hx h0;exact ⟨g,off,hA,hB,fun j u hu=>(World.cell?_of_block (a:=⟨g,off+j,none⟩) (hg g hB (World.block_lt_of_cell? W _ (hcell j u hu)))).trans (hcell j u hu)⟩
theorem cap_own {W:World} {base e k n:Nat} {v:Value} {xs:List Value} (h:W.ownsRow base e k v n xs):CapOk v:=by
 rcases h.2 with ⟨rfl,_⟩ | ⟨g,cap,cur,rfl,_,_,hc,_⟩
 ·exact Nat.le_refl _
 ·exact hc
theorem SR.of_row {W:World} {base:Nat} {v:Value} {l:List PStmt} (h:SRow W base v l):SR W W.heap.size v l:=by
 obtain ⟨vs,hl,ho,ha⟩:=h
 rcases ho.2 with ⟨rfl,hn⟩ | ⟨g,cap,cur,rfl,_,hgg,_⟩
 ·exact ⟨vs,_,_,hl,by rw [hn],fun h0=>absurd (List.eq_nil_of_length_eq_zero hn) h0,fun i h1 h2=>⟨.of_own (ha i h1 h2),cap_own (ha i h1 h2)⟩⟩
 ·refine ⟨vs,_,_,hl,rfl,fun _=>⟨g,0,rfl,(Array.getElem?_eq_some_iff.1 hgg).1,fun j u hu => ?_⟩,fun i h1 h2=>⟨.of_own (ha i h1 h2),cap_own (ha i h1 h2)⟩⟩;have hc:=ho.cells (g:=g) rfl j u hu;have hadd:(⟨g,0,none⟩:Addr).add j=⟨g,j,none⟩:=by unfold Addr.add; split <;> simp_all
  rw [hadd] at hc;rw [Nat.zero_add];exact hc
def chkA (ents:List (ByteArray × Nat)) (out:List Nd):List PStmt -> List Nd × Int × Nat
 | []=>(out,0,0)
 | s :: r =>
  if 4096 <= out.length then ([],s.pos,181)
  else if (lookE ents s.name).isSome=true∨0<kindF s.name then ([],s.pos,182)
  else if (nodeS (lookE ents) s).2.2=0 then chkA (ents ++ [(s.name,out.length)]) (out ++ [(nodeS (lookE ents) s).1]) r
  else ([],(nodeS (lookE ents) s).2.1,(nodeS (lookE ents) s).2.2)
def checkS (l:List PStmt):List Nd × Int × Nat:=if l.length=0 then ([],0,180) else chkA [] [] l
def CkPost (w:World) (r:List Nd × Int × Nat) (e:Ending) (w':World):Prop :=
 ∃ o,e = .returned (.tuple #[o,.int .i64 r.2.1,.int .i64 r.2.2])∧w'.ownsRow w.heap.size 49 19 o r.1.length (ncells r.1)∧Below w.heap.size w w'
structure CI (w:World) (ents:List (ByteArray × Nat)) (o:Value) (out:List Nd) (X:World):Prop where
 mp:MB X w.heap.size ents
 own:X.ownsRow (w.heap.size+1) 49 19 o out.length (ncells out)
 low:Below w.heap.size w X
theorem MB.lt {W:World} {mb:Nat} {ents:List (ByteArray × Nat)} (h:MB W mb ents):mb<W.heap.size:=by
 obtain ⟨es,c,hb,_⟩:=h;exact (Array.getElem?_eq_some_iff.1 hb).1
theorem CI.ext {w:World} {ents:List (ByteArray × Nat)} {o:Value} {out:List Nd} {X Y:World} (h:CI w ents o out X) (hb:Below X.heap.size X Y):CI w ents o out Y :=
 ⟨h.mp.keep (hb.block _ h.mp.lt),own_below h.own hb,h.low.trans (hb.mono h.low.size)⟩
theorem ncells_snoc (l:List Nd) (n:Nd):ncells (l ++ [n])=ncells l ++ n.cells:=by simp [ncells]
theorem nodeInfo:(Tryz.prog.info? 49).map (fun i=>(i.zero,i.size,i.bytes))=some (some (.agg #[.int .u8 0,.float .f64 0,.float .f64 0,.float .f64 0,.float .f64 0,.float .f64 0,.float .f64 0,.float .f64 0,.float .f64 0,.float .f64 0,.float .f64 0,.float .f64 0,.float .f64 0,.float .f64 0,.float .f64 0,.float .f64 0,.float .f64 0,.int .i64 0,.int .i64 0]),19,152):=by kernel_rfl
theorem nd_one' (n:Nd):∀ u∈n.cells,u.oneCell'=true:=by
 intro u hu;have:=Array.all_eq_true_iff_forall_mem.1 (nd_one n) u (by simpa using hu);exact this
theorem kind_below (s:ByteArray) (w:World):Calls Tryz.prog 6 #[.string s] w fun e w'=>e = .returned (.int .u8 (kindF s))∧Below w.heap.size w w' :=
 (kind_any s w).mono fun _ _ ⟨he,hw⟩=>⟨he,hw ▸ (Below.refl _ w).alloc (Nat.le_refl _) _⟩
theorem own_of {W W':World} {base e k n:Nat} {v:Value} {xs:List Value} (h:W.ownsRow base e k v n xs) (hk:∀ b,base <= b -> W'.heap[b]? = W.heap[b]?):W'.ownsRow base e k v n xs:=by
 refine ⟨h.1,?_⟩
 rcases h.2 with h0 | ⟨g,cap,cur,hv,hg,hh,r⟩
 ·exact .inl h0
 ·exact .inr ⟨g,cap,cur,hv,hg,(hk g hg).trans hh,r⟩
theorem own_lt {W:World} {base e k n:Nat} {v:Value} {xs:List Value} (h:W.ownsRow base e k v n xs) {r:Nat} (hr:v.ownBlock=some r):r<W.heap.size:=by
 rcases h.2 with ⟨rfl,_⟩ | ⟨g,cap,cur,rfl,_,hh,_⟩
 ·cases hr
 ·cases hr; exact (Array.getElem?_eq_some_iff.1 hh).1
theorem wl_val {P:Program} {ops:Array Oper} {rest:List Oper} {o:Oper} {a:Act} {w w':World} {Q:Exit -> Act -> World -> Prop} (hgd:o.guard=none) (v:Value) (hr:(execOp a.eval o).run P w = .ok (.value v) w')
  (h:wpList P ops Q rest (a.put o.dst v) w'):wpList P ops Q (o :: rest) a w :=
 wpList_plain hgd fun K hK=>by
  unfold Oper.wp;rw [hr];exact hK _ _ h
theorem wl_bs {ops:Array Oper} {rest:List Oper} {o:Oper} {a:Act} {w:World} {Q:Exit -> Act -> World -> Prop} (hgd:o.guard=none) (x:Operand) (ho:o.op = .buildSlice 34 1 #[(0,x)]) (n:Nd) (hx:a.eval x = .agg n.cells.toArray)
  (h:wpList Tryz.prog ops Q rest (a.put o.dst (.slice (some ⟨w.heap.size,0,none⟩) 1 1)) (w.alloc (.cells n.cells.toArray 49))):wpList Tryz.prog ops Q (o :: rest) a w:=by
 refine wl_val hgd _ ?_ h;have hb:(Instr.buildSlice 34 1 #[(0,.agg n.cells.toArray)]).run Tryz.prog w = .ok (.slice (some ⟨w.heap.size,0,none⟩) 1 1) (w.alloc (.cells n.cells.toArray 49)):=bs_run n w;unfold execOp;simp only [ho,Sem.run_bind,List.map_toArray,List.map_cons,List.map_nil,hx,hb,Result.andThen_ok,Sem.run_pure]
theorem ci_step {w X wz:World} {ents:List (ByteArray × Nat)} {o:Value} {out:List Nd} {n:Nd} (h:CI w ents o out X) (hg:(X.alloc (.cells n.cells.toArray 49)).grownBy wz o.ownBlock) (g cap:Nat)
  (ho:wz.ownsRow (w.heap.size+1) 49 19 (.slice (some ⟨g,0,none⟩) (out.length+1) cap) (out.length+1) (ncells out ++ n.cells)) (name:ByteArray) (hn:lookE ents name=none) :
  (∀ b,b<X.heap.size -> o.ownBlock≠some b -> wz.heap[b]? = X.heap[b]?) ∧
  ∃ W',(Instr.mapUpdate 116 (.map (some w.heap.size)) (.string name) (.int .i64 out.length)).run Tryz.prog wz = .ok () W'∧CI w (ents ++ [(name,out.length)]) (.slice (some ⟨g,0,none⟩) (out.length+1) cap) (out ++ [n]) W':=by
 have hz:=h.low.size;have hm:=h.mp.lt;have hne:∀ r,o.ownBlock=some r -> w.heap.size+1 <= r:=fun r e=>nodew.own_base h.own e;have hmz:MB wz w.heap.size ents:=h.mp.keep ((hg.block _ (by simp; omega) (fun e=>by have:=hne _ e.symm; omega)).trans (Below.heap_alloc _ _ _ hm));obtain ⟨W',hu,hmb,hsz,hblk,h1,h2,h3⟩:=hmz.store name out.length hn;have hlow:Below w.heap.size w wz:=(h.low.alloc hz _).grown hg (by simp; omega) (fun r e=>by have:=hne r e; omega);refine ⟨fun b hb hr=>(hg.block b (by simp; omega) (fun e=>hr e.symm)).trans (Below.heap_alloc _ _ _ hb),W',hu,⟨hmb,?_,?_⟩⟩
 ·rw [ncells_snoc,List.length_append];exact own_of ho fun b hb=>hblk b (by omega)
 ·exact hlow.trans ⟨h1,h2,h3,by rw [hsz]; exact Nat.le_refl _,fun b hb=>hblk b (by omega)⟩
theorem check_any (B:Nat) (v:Value) (l:List PStmt) (hkd:∀ s∈l,s.kind<256) (w:World) (hr:SR w B v l) (hB:B <= w.heap.size) :
  Calls Tryz.prog 41 #[v] w (CkPost w (checkS l)):=by
 obtain ⟨R,hR⟩:∃ R,R=checkS l:=⟨_,rfl⟩;rw [<- hR];have HR:=Yd hR;clear hR;obtain ⟨vs,A,c,hvl,rfl,hx,ha⟩:=hr;have HX:=Yd hx;have HA:=Yd ha;have HVL:=Yd hvl;have HKD:=Yd hkd;clear hx ha hvl hkd;have hmm:=@run_makeMap Tryz.prog;go_enter Tryz.func41,Tryz.ntmps41
 by_cases h0:l.length=0
 ·have hR:R=([],0,180):=by rw [HR.out]; unfold checkS; rw [if_pos h0]
  subst hR;have e0:((l.length:Int) == 0)=true:=Yt (by omega)
  clear h0;go_wp2_with fail;go_ret3;exact ⟨_,rfl,World.ownsRow_nil _ _ _ _,Below.refl _ _⟩
 ·have e0:((l.length:Int) == 0)=false:=Yf (by omega)
  have hR:R=chkA [] [] l:=by rw [HR.out]; unfold checkS; rw [if_neg h0]
  have HR:=Yd hR;clear hR;go_wp2_with fail;obtain ⟨i0,hi0,hz0,hz1,hz2⟩:=info_parts nodeInfo;have hRC:=HR
  go_loopw [20,6] (fun i o wr=>∃ (k:Nat) (ents:List (ByteArray × Nat)) (out:List Nd),k <= l.length∧i = .int .i64 k∧out.length=k∧CI w ents o out wr∧chkA ents out (l.drop k)=chkA [] [] l)
   (fun i _ _=>l.length-(intOf i).toNat)
  case atStart=>exact ⟨0,[],[],Nat.zero_le _,rfl,rfl,⟨⟨#[],0,heap_alloc_new w _,rfl⟩,World.ownsRow_nil _ _ _ _,(Below.refl _ w).alloc (Nat.le_refl _) _⟩,rfl⟩
  case round =>
   obtain ⟨k,ents,out,hk,rfl,hok,hci,hch⟩:=hrel;have HOK:=Yd hok;have HCH:=Yd hch;clear hok hch;have hz:=hci.low.size;have hmz:=hci.mp.lt
   by_cases hkl:k<l.length
   ·as_aux_lemma =>
    obtain ⟨g,off,rfl,hgB,hcell⟩:=HX.out (by intro e; rw [e] at hkl; simp at hkl);have hkv:k<vs.length:=by rw [HVL.out]; exact hkl
    obtain ⟨st,hst⟩:∃ st,st=l[k]:=⟨_,rfl⟩;obtain ⟨av,hav⟩:∃ av,av=vs[k]:=⟨_,rfl⟩;obtain ⟨har,hac⟩:=HA.out k hkv hkl;have hsk:st.kind<256:=HKD.out st (by rw [hst]; exact List.getElem_mem hkl);have hcw:∀ j u,(stCells st av)[j]? = some u -> j<4 -> wr.cell? ⟨g,off+k*4+j,none⟩=some u:=fun j u hu hj=>by
     have:=hcell (k*4+j) u ((scells_get l vs k j hkv hkl hj HVL.out).trans (by rw [<- hst,<- hav]; exact hu));rw [<- Nat.add_assoc] at this;exact (hci.low.cell (p:=⟨g,off+k*4+j,none⟩) (by show g<w.heap.size; omega)).trans this
    have r0:wr.cell? ⟨g,off+k*4,none⟩=some (.string st.name):=hcw 0 _ rfl (by omega);have r1:wr.cell? ⟨g,off+k*4+1,none⟩=some (.int .i64 st.pos):=hcw 1 _ rfl (by omega);have r2:wr.cell? ⟨g,off+k*4+2,none⟩=some (.int .u8 st.kind):=hcw 2 _ rfl (by omega);have r3:wr.cell? ⟨g,off+k*4+3,none⟩=some av:=hcw 3 _ rfl (by omega);rw [<- hst,<- hav] at har;rw [<- hav] at hac;have hch:chkA [] [] l=if 4096 <= out.length then ([],st.pos,181) else if (lookE ents st.name).isSome=true∨0<kindF st.name then ([],st.pos,182) else if (nodeS (lookE ents) st).2.2=0 then chkA (ents ++ [(st.name,out.length)]) (out ++ [(nodeS (lookE ents) st).1]) (l.drop (k+1)) else ([],(nodeS (lookE ents) st).2.1,(nodeS (lookE ents) st).2.2):=by
     rw [<- HCH.out,List.drop_eq_getElem_cons hkl,<- hst]; rfl
    have HC2:=Yd hch;have HAR:=Yd har;have HAC:=Yd hac;clear hcw hcell hch hst hav har hac hkv HCH HX HA HVL HKD;have hk0:(0:Int) <= (k:Int):=by omega
    obtain ⟨Ac,ac,hav,-⟩:=HAR.out;subst hav;have hcx:=hci.ext ((Below.refl _ wr).alloc (Nat.le_refl _) (.cells #[.string st.name,.int .i64 st.pos,.int .u8 st.kind,.slice Ac st.args.length ac] 62));have hbx:=heap_alloc_new wr (.cells #[.string st.name,.int .i64 st.pos,.int .u8 st.kind,.slice Ac st.args.length ac] 62);have hlk:=hcx.mp.lookup st.name;have HOWN:=Yd hci.own;have HCX:=Yd hcx;have HBX:=Yd hbx;clear hcx hbx hci
    by_cases h1:4096 <= k
    ·have hR:R=([],st.pos,181):=by rw [HR.out,HC2.out,if_pos (by rw [HOK.out]; exact h1)]
     subst hR;clear HR HC2 hlk;have h1':(4096:Int) <= (k:Int):=by omega
     go_wp2_with fail;go_quiet (fail);go_wp2_with fail;go_ret3;exact ⟨_,rfl,World.ownsRow_nil _ _ _ _,nodew.below_drewN' HCX.out.low _⟩
    ·have h1':¬ (4096:Int) <= (k:Int):=by omega
     obtain ⟨lk,hlk0⟩:∃ lk,lookE ents st.name=lk:=⟨_,rfl⟩;rw [hlk0] at hlk;have HLK:=Yd hlk0;clear hlk0
     cases lk with
     | some p =>
      simp only [Option.isSome,Option.getD] at hlk;have hR:R=([],st.pos,182):=by rw [HR.out,HC2.out,if_neg (by rw [HOK.out]; exact h1),if_pos (.inl (by rw [HLK.out]; rfl))]
      subst hR;clear HR HC2;go_wp2_with fail;go_quiet (fail);go_wp2_with fail;go_ret3;exact ⟨_,rfl,World.ownsRow_nil _ _ _ _,nodew.below_drewN' HCX.out.low _⟩
     | none =>
      simp only [Option.isSome,Option.getD] at hlk;go_wp2_with fail;refine (kind_below st.name _).mono ?_;rintro e X2 ⟨rfl,hb2⟩;have hci2:=HCX.out.ext hb2;have hbx2:=(hb2.block wr.heap.size (by simp)).trans HBX.out;obtain ⟨sb,hsb⟩:∃ sb,sb=wr.heap.size:=⟨_,rfl⟩;have hsz2:sb<X2.heap.size:=by have:=hb2.size; simp at this; omega
      have hnr:u6.ownBlock≠some sb:=by
       intro e;have:=own_lt HOWN.out e;omega
      rw [<- hsb] at hbx2 ⊢;clear hlk hb2 HBX HCX hsb r0 r1 r2 r3 hz hmz;have s0:X2.cell? ⟨sb,0,none⟩=some (.string st.name):=(cell_of_row X2 sb 0 _ _ _ hbx2).trans rfl;have s1:X2.cell? ⟨sb,1,none⟩=some (.int .i64 st.pos):=(cell_of_row X2 sb 1 _ _ _ hbx2).trans rfl;have s2:X2.cell? ⟨sb,2,none⟩=some (.int .u8 st.kind):=(cell_of_row X2 sb 2 _ _ _ hbx2).trans rfl;have s3:X2.cell? ⟨sb,3,none⟩=some (.slice Ac st.args.length ac):=(cell_of_row X2 sb 3 _ _ _ hbx2).trans rfl;have HCI:=Yd hci2;have HBX:=Yd hbx2;clear hci2 hbx2
      by_cases h2:0<kindF st.name
      ·have hR:R=([],st.pos,182):=by rw [HR.out,HC2.out,if_neg (by rw [HOK.out]; exact h1),if_pos (.inr h2)]
       subst hR;clear HR HC2;have h2':(0:Int)<(kindF st.name:Int):=by omega
       go_wp2_with fail;go_quiet (fail);go_wp2_with fail;go_ret3;exact ⟨_,rfl,World.ownsRow_nil _ _ _ _,nodew.below_drewN' HCI.out.low _⟩
      ·have h2':¬ (0:Int)<(kindF st.name:Int):=by omega
       have hr1:R=if (nodeS (lookE ents) st).2.2=0 then chkA (ents ++ [(st.name,out.length)]) (out ++ [(nodeS (lookE ents) st).1]) (l.drop (k+1)) else ([],(nodeS (lookE ents) st).2.1,(nodeS (lookE ents) st).2.2):=by
        rw [HR.out,HC2.out,if_neg (by rw [HOK.out]; exact h1),if_neg (by rw [HLK.out]; simp; omega)]
       have hnode:=node_s (lookE ents) st hsk B (.slice Ac st.args.length ac) w.heap.size X2 (HAR.out.keep fun g h1 h2=>HCI.out.low.block g (by omega)) HAC.out (by have:=HCI.out.low.size; omega) HCI.out.mp.at
       obtain ⟨x,hx⟩:∃ x,nodeS (lookE ents) st=x:=⟨_,rfl⟩;rw [hx] at hr1 hnode;obtain ⟨n,np,ne⟩:=x;have HR1:=Yd hr1;clear HR HC2 hx hr1 h2 HAR HAC;go_wp2_with fail;refine hnode.mono ?_;rintro e X3 ⟨rfl,hb3⟩;have hci3:=HCI.out.ext hb3;have hbx3:=(hb3.block sb hsz2).trans HBX.out;have hz3:=hb3.size;have HCI3:=Yd hci3;have HBX3:=Yd hbx3;clear HCI HBX s0 s1 s2 s3 hnode hb3 hci3 hbx3
       by_cases h3:ne=0
       ·have h3':((ne:Int) != 0)=false:=by rw [bne_eq_false_iff_eq]; omega
        have hR:R=chkA (ents ++ [(st.name,out.length)]) (out ++ [n]) (l.drop (k+1)):=by rw [HR1.out,if_pos h3]
        have HR:=Yd hR;clear HR1 h3 hR;go_upto_region 14 with (refine wpList_store_row rfl 49 (.tmp 11) (.tmp 49) rfl X3.heap.size n.cells.toArray rfl rfl _ _ (heap_alloc_new X3 _) (nd_info _) (by rw [nd_size]; rfl) (nd_one _) ?_);have hci4:=HCI3.out.ext (below_setRow ((Below.refl _ X3).alloc (Nat.le_refl _) (.cells #[.int .u8 0,.float .f64 0,.float .f64 0,.float .f64 0,.float .f64 0,.float .f64 0,.float .f64 0,.float .f64 0,.float .f64 0,.float .f64 0,.float .f64 0,.float .f64 0,.float .f64 0,.float .f64 0,.float .f64 0,.float .f64 0,.float .f64 0,.int .i64 0,.int .i64 0] 49)) (Nat.le_refl _) n.cells.toArray);have hn4:NBlk ((X3.alloc (.cells #[.int .u8 0,.float .f64 0,.float .f64 0,.float .f64 0,.float .f64 0,.float .f64 0,.float .f64 0,.float .f64 0,.float .f64 0,.float .f64 0,.float .f64 0,.float .f64 0,.float .f64 0,.float .f64 0,.float .f64 0,.float .f64 0,.float .f64 0,.int .i64 0,.int .i64 0] 49)).setRow X3.heap.size n.cells.toArray) X3.heap.size n:=setRow_heap _ _ _ _ _ _ (heap_alloc_new X3 _);have hb4:((X3.alloc (.cells #[.int .u8 0,.float .f64 0,.float .f64 0,.float .f64 0,.float .f64 0,.float .f64 0,.float .f64 0,.float .f64 0,.float .f64 0,.float .f64 0,.float .f64 0,.float .f64 0,.float .f64 0,.float .f64 0,.float .f64 0,.float .f64 0,.float .f64 0,.int .i64 0,.int .i64 0] 49)).setRow X3.heap.size n.cells.toArray).heap[sb]? = _:=(setRow_other _ _ _ _ (by omega)).trans ((Below.heap_alloc X3 _ sb (by omega)).trans HBX3.out);obtain ⟨X4,hX4⟩:∃ X4,X4=(X3.alloc (.cells #[.int .u8 0,.float .f64 0,.float .f64 0,.float .f64 0,.float .f64 0,.float .f64 0,.float .f64 0,.float .f64 0,.float .f64 0,.float .f64 0,.float .f64 0,.float .f64 0,.float .f64 0,.float .f64 0,.float .f64 0,.float .f64 0,.float .f64 0,.int .i64 0,.int .i64 0] 49)).setRow X3.heap.size n.cells.toArray:=⟨_,rfl⟩;have hz4:X3.heap.size<X4.heap.size:=by rw [hX4]; simp
        rw [<- hX4] at hci4 hn4 hb4 ⊢;clear hX4;obtain ⟨nb,hnb⟩:∃ nb,nb=X3.heap.size:=⟨_,rfl⟩;rw [<- hnb] at hn4 ⊢;have hsb4:sb<X4.heap.size:=by omega
        clear hnb HCI3 HBX3 hz3 hz4 hsz2;have hz4:=hci4.low.size;have hok:out.length=k:=HOK.out;have hk96:k<4096:=by omega
        have HCI4:=Yd hci4;have HB4:=Yd hb4;have HN4:Hid (X4.heap[nb]? = some (.cells n.cells.toArray 49 (0,0))):=Yd hn4;clear hci4 hb4 hn4;go_upto_region 16 with (fail);refine wp_region_lit ?_;refine wl_val rfl u6 rfl ?_;refine wpList_load_row rfl 49 (.tmp 11) rfl nb rfl _ n.cells.toArray _ _ HN4.out Tryz.underlying49 rfl (by kernel_rfl) ?_;refine wl_bs rfl (.tmp 57) rfl n rfl ?_;refine wpList_append_lies _ rfl (.tmp 56) (.tmp 58) 34 rfl (w.heap.size+1) 49 i0 _ 19 152 Tryz.underlying34 hi0 hz0 hz1 hz2 rfl (by omega) u6 out.length (ncells out) rfl (HCI4.out.own.alloc _) ⟨X4.heap.size,0,none⟩ 1 1 n.cells rfl rfl (World.news_of_block (heap_at X4 (.cells n.cells.toArray 49) _ rfl)) (nd_one' n) (by omega) (by unfold maxLen; omega) (by omega) (by simp; omega) _ rfl ?_;intro gz capz wz hownz hgz hatz hltz;obtain ⟨hkeep,W7,hup,hci7⟩:=ci_step HCI4.out hgz gz capz hownz st.name HLK.out;have hb7:=(hkeep sb hsb4 hnr).trans HB4.out;have s0:wz.cell? ⟨sb,0,none⟩=some (.string st.name):=(cell_of_row wz sb 0 _ _ _ hb7).trans rfl;rw [hok] at hup;have HCI7:=Yd hci7;clear hkeep hci7 hb7 hownz hgz hatz hltz HCI4 HB4 HN4 hok;go_wp2_with fail;go_roundw
        case rel=>exact ⟨k+1,ents ++ [(st.name,out.length)],out ++ [n],by omega,by go_num,by rw [List.length_append,HOK.out]; rfl,HCI7.out,by rw [<- HR.out]; exact hRC.out⟩
        case measure=>simp [intOf]; omega
       ·have h3':((ne:Int) != 0)=true:=by rw [bne_iff_ne]; omega
        have hR:R=([],np,ne):=by rw [HR1.out,if_neg h3]
        subst hR;clear HR1 h3;go_wp2_with (first | (refine wpList_store_row rfl 49 (.tmp 11) (.tmp 49) rfl X3.heap.size n.cells.toArray rfl rfl _ _ (heap_alloc_new X3 _) (nd_info _) (by rw [nd_size]; rfl) (nd_one _) ?_));go_ret3;exact ⟨_,rfl,World.ownsRow_nil _ _ _ _,below_setRow (HCI3.out.low.alloc HCI3.out.low.size _) HCI3.out.low.size _⟩
   ·obtain rfl:k=l.length:=by omega
    have hR:R=(out,0,0):=by
     rw [HR.out,<- HCH.out,List.drop_length]; rfl
    subst hR;clear HR HCH HX HA HVL HKD;go_wp2_with fail;go_ret3;exact ⟨_,rfl,nodew.own_le hci.own (by omega),hci.low⟩
end chkw

/- Nodes in memory, as the walks of chapter 20 want them. Conditions: as each theorem states. -/
namespace chkw
open Go.RowKit
open nodew
open words
open qt
open Go.BigFrame
attribute [local go_sem] nodew.run_store_float
theorem ret_int {k:IntKind} {a b:Int} (h:a=b):Ending.returned (.int k a) = .returned (.int k b):=by rw [h]
theorem row_form {W:World} {base:Nat} {e:TypeId} {size:Nat} {v:Value} {k:Nat} {xs:List Value} (h:W.ownsRow base e size v k xs):∃ a c,v = .slice a k c:=by
 rcases h.2 with ⟨rfl,h0⟩ | ⟨g,cap,_,rfl,_⟩
 ·subst h0; exact ⟨_,_,rfl⟩
 ·exact ⟨_,_,rfl⟩
theorem grown_below {w w':World} (h:Below w.heap.size w w') (row:Option Nat):w.grownBy w' row:=⟨h.os,h.tape,h.output,h.size,fun k hk _=>h.block k hk⟩
theorem grown_trans {a b c:World} {row:Option Nat} (h:a.grownBy b row) (k:b.grownBy c row):a.grownBy c row :=
 ⟨k.os.trans h.os,k.tape.trans h.tape,k.output.trans h.output,Nat.le_trans h.size k.size,fun i hi hr=>(k.block i (Nat.lt_of_lt_of_le hi h.size) hr).trans (h.block i hi hr)⟩
theorem heap_set (w:World) (g j:Nat) (cs:Array Value) (t:TypeId) (fr:Nat × Nat) (v:Value) (h:w.heap[g]? = some (.cells cs t fr)) :
  (w.setCell ⟨g,j,none⟩ v).heap[g]? = some (.cells (cs.setIfInBounds j v) t fr):=by
 obtain ⟨hlt,hk⟩:=Array.getElem?_eq_some_iff.1 h;show (w.heap.modify g _)[g]? = _;rw [Array.getElem?_eq_getElem (by rw [Array.size_modify]; exact hlt),Array.getElem_modify_self,hk];simp
theorem heap_at (w:World) (o:Obj) (k:Nat) (h:w.heap.size=k):(w.alloc o).heap[k]? = some o:=by subst h; exact heap_alloc_new w o
def NArg (W:World) (B:Nat) (v:Value) (l:List Nd):Prop :=
 ∃ A c,v = .slice A l.length c∧l.length <= c∧(A=none -> c=0)∧(l≠[] -> ∃ g off,A=some ⟨g,off,none⟩∧g<B∧g<W.heap.size ∧ ∀ j u,(ncells l)[j]? = some u -> W.cell? ⟨g,off+j,none⟩=some u)
theorem NArg.keep {W W':World} {B:Nat} {v:Value} {l:List Nd} (h:NArg W B v l) (hz:W.heap.size <= W'.heap.size) (hg:∀ g,g<B -> g<W.heap.size -> W'.heap[g]? = W.heap[g]?):NArg W' B v l:=by
 obtain ⟨A,c,hv,hc,hn,hx⟩:=h;refine ⟨A,c,hv,hc,hn,fun h0 => ?_⟩;obtain ⟨g,off,hA,hB,hl,hx⟩:=hx h0;exact ⟨g,off,hA,hB,by omega,fun j u hu=>(World.cell?_of_block (a:=⟨g,off+j,none⟩) (hg g hB hl)).trans (hx j u hu)⟩
theorem NArg.ext {W u:World} {B:Nat} {v:Value} {l:List Nd} (h:NArg W B v l) (hb:Below W.heap.size W u):NArg u B v l:=h.keep hb.size fun g _ hg=>hb.block g hg
theorem NArg.mono {W:World} {B B':Nat} {v:Value} {l:List Nd} (h:NArg W B v l) (hb:B <= B'):NArg W B' v l:=by
 obtain ⟨A,c,hv,hc,hn,hx⟩:=h;refine ⟨A,c,hv,hc,hn,fun h0 => ?_⟩;obtain ⟨g,off,hA,hB,r⟩:=hx h0;exact ⟨g,off,hA,by omega,r⟩
theorem NArg.read {W:World} {B:Nat} {v:Value} {l:List Nd} (h:NArg W B v l):NRead W B v l:=by
 obtain ⟨A,c,hv,hc,hn,hx⟩:=h;exact ⟨A,c,hv,hx⟩
theorem NArg.of_own {W:World} {base:Nat} {v:Value} {l:List Nd} (h:W.ownsRow base 49 19 v l.length (ncells l)):NArg W W.heap.size v l:=by
 rcases h.2 with ⟨rfl,hn⟩ | ⟨g,cap,cur,rfl,_,hgg,hc,_⟩
 ·exact ⟨none,0,by rw [hn],by omega,fun _=>rfl,fun h0=>absurd (List.eq_nil_of_length_eq_zero hn) h0⟩
 ·refine ⟨_,cap,rfl,hc,fun h=>by simp at h,fun _=>⟨g,0,rfl,(Array.getElem?_eq_some_iff.1 hgg).1,(Array.getElem?_eq_some_iff.1 hgg).1,fun j u hu => ?_⟩⟩;have hc:=h.cells (g:=g) rfl j u hu;have hadd:(⟨g,0,none⟩:Addr).add j=⟨g,j,none⟩:=by unfold Addr.add; split <;> simp_all
  rw [hadd] at hc;rw [Nat.zero_add];exact hc
theorem NArg.one (w:World) (n:Nd) (u:World) (hu:u.heap[w.heap.size]? = some (.cells n.cells.toArray 49 (0,0))):NArg u u.heap.size (.slice (some ⟨w.heap.size,0,none⟩) 1 1) [n]:=by
 have hl:=(Array.getElem?_eq_some_iff.1 hu).1;refine ⟨_,1,rfl,Nat.le_refl _,fun h=>by simp at h,fun _=>⟨w.heap.size,0,rfl,hl,hl,fun j v hv => ?_⟩⟩;rw [cell_of_row u w.heap.size _ _ _ _ hu,Nat.zero_add];simpa [ncells] using hv
theorem ncells_len (l:List Nd):(ncells l).length=l.length*19:=by
 induction l with
 | nil=>rfl
 | cons a r ih=>show (a.cells ++ ncells r).length=_; rw [List.length_append,ih,nd_cells_len,List.length_cons]; omega
theorem ncells_app (l m:List Nd):ncells (l ++ m)=ncells l ++ ncells m:=by simp [ncells]
theorem box_run (n:Nd) (w:World):(Instr.box 49 n.val).run Tryz.prog w = .ok (pt w.heap.size 0) (w.alloc (.cells n.cells.toArray 49)):=by
 kernel_rfl
theorem exec_box {o:Oper} (x:Operand) (ho:o.op = .box 49 x) (a:Act) (w:World) (n:Nd) (hx:a.eval x=n.val):(execOp a.eval o).run Tryz.prog w = .ok (.value (pt w.heap.size 0)) (w.alloc (.cells n.cells.toArray 49)):=by
 unfold execOp;simp only [ho,Sem.run_bind,hx,box_run,Result.andThen_ok,Sem.run_pure]
theorem NArg.form {W:World} {B:Nat} {v:Value} {l:List Nd} (h:NArg W B v l):∃ A c,v = .slice A l.length c:=by
 obtain ⟨A,c,hv,_⟩:=h;exact ⟨A,c,hv⟩
theorem wl_val_g {P:Program} {ops:Array Oper} {rest:List Oper} {o:Oper} {a:Act} {w w':World} {Q:Exit -> Act -> World -> Prop} (hgd:Region.wanted o (yielded ops a.tmps)=true) (v:Value) (hr:(execOp a.eval o).run P w = .ok (.value v) w')
  (h:wpList P ops Q rest (a.put o.dst v) w'):wpList P ops Q (o :: rest) a w :=
 wpList_wanted w hgd fun K hK=>by
  unfold Oper.wp;rw [hr];exact hK _ _ h
theorem wl_load_nd {ops:Array Oper} {rest:List Oper} {o:Oper} {a:Act} {w:World} {Q:Exit -> Act -> World -> Prop} (hgd:o.guard=none) (x:Operand) (ho:o.op = .load 49 x) (ad:Value) (hx:a.eval x=ad) (n:Nd)
  (hl:(Instr.loadAt 49 ad).run Tryz.prog w = .ok n.val w) (h:wpList Tryz.prog ops Q rest (a.put o.dst n.val) w):wpList Tryz.prog ops Q (o :: rest) a w:=by
 refine wl_val hgd _ ?_ h;unfold execOp;simp only [ho,hx,hl,Sem.run_bind,Sem.run_pure,Result.andThen_ok]
theorem NRead.of_own {W:World} {base:Nat} {v:Value} {l:List Nd} (h:W.ownsRow base 49 19 v l.length (ncells l)):NRead W W.heap.size v l:=by
 rcases h.2 with ⟨rfl,hn⟩ | ⟨g,cap,cur,rfl,_,hgg,_⟩
 ·exact ⟨_,_,by rw [hn],fun h0=>absurd (List.eq_nil_of_length_eq_zero hn) h0⟩
 ·refine ⟨_,_,rfl,fun _=>⟨g,0,rfl,(Array.getElem?_eq_some_iff.1 hgg).1,(Array.getElem?_eq_some_iff.1 hgg).1,fun j u hu => ?_⟩⟩;have hc:=h.cells (g:=g) rfl j u hu;have hadd:(⟨g,0,none⟩:Addr).add j=⟨g,j,none⟩:=by unfold Addr.add; split <;> simp_all
  rw [hadd] at hc;rw [Nat.zero_add];exact hc
end chkw

/- What lies below a node, and the maker of the iterator. No conditions but those stated. -/
namespace flatw
open Go.RowKit Go.Shelf
open nodew
open chkw
open flatm
attribute [local go_sem] Oper.semAt_some
def IArg (W:World) (v:Value) (ks:List Int):Prop :=
 (ks=[]∧v = .slice none 0 0)∨(∃ g,v = .slice (some ⟨g,0,none⟩) ks.length ks.length∧ks≠[]∧W.heap[g]? = some (.cells (ks.map (Value.int .i64)).toArray 3 (0,0)))
def kidsI (n:Nd):List Int:=if n.kind=5 then [n.a,n.b] else if n.kind=6 then [n.a] else []
def BelowPost (w:World) (n:Nd) (e:Ending) (w':World):Prop :=
 ∃ v,e = .returned v∧IArg w' v (kidsI n)∧Below w.heap.size w w'∧(∀ g o c,v = .slice (some ⟨g,o,none⟩) c c -> w.heap.size <= g)
theorem bi1_run (x:Int) (w:World):(Instr.buildSlice 42 1 #[(0,.int .i64 x)]).run Tryz.prog w = .ok (.slice (some ⟨w.heap.size,0,none⟩) 1 1) (w.alloc (.cells #[.int .i64 x] 3)):=by
 kernel_rfl
theorem bi2_run (x y:Int) (w:World):(Instr.buildSlice 42 2 #[(0,.int .i64 x),(1,.int .i64 y)]).run Tryz.prog w = .ok (.slice (some ⟨w.heap.size,0,none⟩) 2 2) (w.alloc (.cells #[.int .i64 x,.int .i64 y] 3)):=by
 kernel_rfl
attribute [local go_sem] bi1_run bi2_run
theorem below_any (nd:Nd) (w:World):Calls Tryz.prog 38 #[nd.val] w (BelowPost w nd):=by
 obtain ⟨nb,hnbe⟩:∃ nb,nb=w.heap.size:=⟨_,rfl⟩;obtain ⟨W,hW⟩:∃ W,W=w.alloc (.cells nd.cells.toArray 49):=⟨_,rfl⟩;have hbx:Below nb w W:=by rw [hW,hnbe]; exact (Below.refl w.heap.size w).alloc (Nat.le_refl _) _
 have hnb:NBlk W nb nd:=by rw [hW,hnbe]; exact heap_alloc_new w _
 have hWz:W.heap.size=nb+1:=by rw [hW,hnbe]; simp
 have c0:W.cell? ⟨nb,0,none⟩=some (.int .u8 nd.kind):=(hnb.cell 0).trans rfl;have c17:W.cell? ⟨nb,17,none⟩=some (.int .i64 nd.a):=(hnb.cell 17).trans rfl;have c18:W.cell? ⟨nb,18,none⟩=some (.int .i64 nd.b):=(hnb.cell 18).trans rfl;unfold BelowPost;rw [<- hnbe];go_enter Tryz.func38,Tryz.ntmps38;go_upto_region 0 with (fail);refine wp_region_lit ?_;refine wl_val rfl _ (exec_box (.tmp 0) rfl _ _ nd rfl) ?_;rw [<- hW,<- hnbe]
 by_cases h5:nd.kind=5
 ·have hk:kidsI nd=[nd.a,nd.b]:=by unfold kidsI; rw [if_pos h5]
  have e5:((nd.kind:Int) == 5)=true:=Yt (by omega)
  have HK:=Yd hk;clear hW hnbe h5 hnb hk;go_wp2;go_ret;rw [HK.out];refine ⟨_,rfl,.inr ⟨nb+1,rfl,by simp,heap_at W _ _ hWz⟩,hbx.alloc (by omega) _,?_⟩;rintro g o c h;injection h with h1 _ _;injection h1 with h1;injection h1 with h1;omega
 ·have e5:((nd.kind:Int) == 5)=false:=Yf (by omega)
  by_cases h6:nd.kind=6
  ·have hk:kidsI nd=[nd.a]:=by unfold kidsI; rw [if_neg h5,if_pos h6]
   have e6:((nd.kind:Int) == 6)=true:=Yt (by omega)
   have HK:=Yd hk;clear hW hnbe h5 h6 hnb hk;go_wp2;go_ret;rw [HK.out];refine ⟨_,rfl,.inr ⟨nb+1,rfl,by simp,heap_at W _ _ hWz⟩,hbx.alloc (by omega) _,?_⟩;rintro g o c h;injection h with h1 _ _;injection h1 with h1;injection h1 with h1;omega
  ·have hk:kidsI nd=[]:=by unfold kidsI; rw [if_neg h5,if_neg h6]
   have e6:((nd.kind:Int) == 6)=false:=Yf (by omega)
   have HK:=Yd hk;clear hW hnbe h5 h6 hnb hk;go_wp2;go_ret;rw [HK.out];refine ⟨_,rfl,.inl ⟨rfl,rfl⟩,hbx,?_⟩;rintro g o c h;injection h with h1 _ _
   cases h1
theorem needed_in (n:Nat) (sa:Option Addr) (sl sc:Nat) (w:World) :
  CallsIn Fence.wide n Tryz.prog 37 #[.slice sa sl sc] w fun e w'=>e = .returned (.func (.func 64) #[] #[.pointer (some ⟨w.heap.size,0,none⟩)])∧w'=w.alloc (.cells #[.slice sa sl sc] 34):=by
 refine callsIn_of_wp Tryz.func37 rfl trivial ?_ rfl;simp only [Tryz.ntmps37,List.size_toArray,List.length_cons,List.length_nil,Nat.reduceAdd,Nat.reduceSub,Array.replicate_succ,Array.replicate_zero,List.push_toArray,List.append_toArray,List.nil_append,List.cons_append]
 gi_wp2
 go_ret;exact ⟨rfl,rfl⟩
end flatw

/- The walk of burnishlaw18.Same at one row of nodes twice. Conditions: the nodes lie in memory, within the reach. -/
namespace chkw
open Go.RowKit
open nodew
open qt
open Go.BigFrame
attribute [local go_sem] nodew.run_store_float
theorem fbits_run (x:Nat) (w:World):(callFunc 63 #[.float .f64 x]).run Tryz.prog w = .ok (.value (.int .u64 x)) w:=nodew.bits_run x w
attribute [local go_sem] fbits_run
theorem same01_self (x:Nat) (w:World):Calls Tryz.prog 35 #[.float .f64 x,.float .f64 x] w fun e w'=>e = .returned (.bool true)∧w'=w:=by
 go_enter Tryz.func35,Tryz.ntmps35;go_wp2;go_ret;exact ⟨by simp,rfl⟩
def zcells:Array Value:=#[.int .u8 0,.float .f64 0,.float .f64 0,.float .f64 0,.float .f64 0,.float .f64 0,.float .f64 0,.float .f64 0,.float .f64 0,.float .f64 0,.float .f64 0,.float .f64 0,.float .f64 0,.float .f64 0,.float .f64 0,.float .f64 0,.float .f64 0,.int .i64 0,.int .i64 0]
theorem alloc_nd (w:World):(Instr.alloc 49 true (.tuple #[])).run Tryz.prog w = .ok (pt w.heap.size 0) (w.alloc (.cells zcells 49)):=by
 kernel_rfl
theorem exec_alloc_nd {o:Oper} (ho:o.op = .alloc 49) (a:Act) (w:World):(execOp a.eval o).run Tryz.prog w = .ok (.value (pt w.heap.size 0)) (w.alloc (.cells zcells 49)):=by
 unfold execOp;simp only [ho,Sem.run_bind,alloc_nd,Result.andThen_ok,Sem.run_pure]
theorem exec_store_nd {o:Oper} (x y:Operand) (ho:o.op = .store 49 x y) {a:Act} {w:World} (g:Nat) (n:Nd) (hx:a.eval x=pt g 0) (hy:a.eval y=n.val) (old:Array Value) (hg:w.heap[g]? = some (.cells old 49 (0,0))) (hold:old.size=19) :
  (execOp a.eval o).run Tryz.prog w = .ok .skip (w.setRow g n.cells.toArray):=by
 have hr:=run_storeVar_row w g 49 49 old n.cells.toArray hg (nd_info n) (by rw [nd_size]; exact hold) (nd_one n);have hy':a.eval y = .agg n.cells.toArray:=hy;have hx':a.eval x = .pointer (some ⟨g,0,none⟩):=hx;unfold execOp;simp only [ho,hx',hy',Instr.storeAt,Instr.sureAddr,Sem.run_bind,Sem.run_pure,Result.andThen_ok,hr]
theorem quiet_load_at {C:World -> Prop} {ops:Array Oper} {o:Oper} {rest:List Oper} {a:Act} {Q:Act -> Prop} (hgd:o.guard=none) (x:Operand) (ho:o.op = .load 49 x) (ad:Value) (hx:a.eval x=ad) (n:Nd)
  (hg:∀ w,C w -> (Instr.loadAt 49 ad).run Tryz.prog w = .ok n.val w) (h:wpQuiet Tryz.prog ops C Q rest (a.put o.dst n.val)):wpQuiet Tryz.prog ops C Q (o :: rest) a:=by
 refine wpQuiet_want (by simp [Region.wanted,hgd]) fun K hK=>⟨n.val,?_,hK _ h⟩;intro w' hw';unfold Oper.quietAt execOp;simp only [ho,hx,hg w' hw',Sem.run_bind,Sem.run_pure,Result.andThen_ok,Oper.quietUpon];exact ⟨trivial,trivial⟩
theorem NRead.at {W:World} {B:Nat} {l:List Nd} {g off k:Nat} (h:l≠[] -> ∃ g' off',some (⟨g,off,none⟩:Addr)=some ⟨g',off',none⟩∧g'<B∧g'<W.heap.size ∧ ∀ j u,(ncells l)[j]? = some u -> W.cell? ⟨g',off'+j,none⟩=some u) (hk:k<l.length) :
  g<W.heap.size ∧ ∀ u:World,u.heap[g]? = W.heap[g]? -> (Instr.loadAt 49 (.pointer (some ⟨g,off+k*19,none⟩))).run Tryz.prog u = .ok (l[k]).val u:=by
 obtain ⟨g',off',e,_,hgl,hc⟩:=h (by intro e; subst e; simp at hk);injection e with e;injection e with e1 e2;subst e1 e2;refine ⟨hgl,fun u hu=>(l[k]).load_at u g (off+k*19) fun j v hj => ?_⟩;have hj':j<19:=by have:=(List.getElem?_eq_some_iff.1 hj).1; rwa [nd_cells_len] at this
 rw [Nat.add_assoc];exact (World.cell?_of_block (a:=⟨g,off+(k*19+j),none⟩) hu).trans (hc (k*19+j) v (by rw [ncells_get l k j hk hj']; exact hj))
theorem same18_eq (B:Nat) (v1 v2:Value) (l:List Nd) (hl:l.length <= 1000000000000) (w:World) (h1:NRead w B v1 l) (h2:NRead w B v2 l) (_hB:B <= w.heap.size) :
  Calls Tryz.prog 24 #[v1,v2] w fun e w'=>e = .returned (.bool true)∧Below w.heap.size w w':=by
 obtain ⟨A1,c1,rfl,hx1⟩:=h1;obtain ⟨A2,c2,rfl,hx2⟩:=h2;have HX1:=Yd hx1;have HX2:=Yd hx2;clear hx1 hx2;go_enter Tryz.func24,Tryz.ntmps24;go_wp2_with fail
 go_loopg [16] l.length (fun gk i wr=>∃ k:Nat,k+gk=l.length∧i = .int .i64 k∧Below w.heap.size w wr)
 case atStart=>exact ⟨0,Nat.zero_add _,rfl,Below.refl _ _⟩
 case round =>
  obtain ⟨k,hkg,rfl,hBr⟩:=hrel;have HKG:=Yd hkg;have hk:k <= l.length:=by omega
  clear hkg;have hz:=hBr.size
  by_cases hkl:k<l.length
  ·have hne:l≠[]:=by intro e; subst e; simp at hkl
   obtain ⟨g1,o1,rfl,-⟩:=HX1.out hne;obtain ⟨g2,o2,rfl,-⟩:=HX2.out hne;obtain ⟨hg1,hld1⟩:=NRead.at HX1.out hkl;obtain ⟨hg2,hld2⟩:=NRead.at HX2.out hkl;obtain ⟨n,hn⟩:∃ n,l[k]=n:=⟨_,rfl⟩;rw [hn] at hld1 hld2;have HL1:=Yd hld1;have HL2:=Yd hld2;have hk0:(0:Int) <= (k:Int):=by omega
   have hkl':(k:Int)<(l.length:Int):=by omega
   clear hld1 hld2 hn hne;go_upto_region 6 with (fail)
   go_cut [6,7] from 19 to 26 (fun s6 s7 wx=>∃ b6 b7,s6 = .pointer (some ⟨b6,0,none⟩)∧s7 = .pointer (some ⟨b7,0,none⟩)∧NBlk wx b6 n∧NBlk wx b7 n∧Below w.heap.size w wx)
   case first =>
    refine region_reads (C:=fun w'=>∃ u:Ext wr,w'=u.1) [0,1,2,3,4,5,6,7] 4 (by kernel_rfl) (by kernel_rfl) (ext_self wr) ?_;simp only [List.filterMap_cons,List.filterMap_nil,List.getElem?_cons_zero,List.getElem?_cons_succ];change wpQuiet _ _ _ _ (_ :: _ :: _ :: _ :: _ :: _ :: _ :: _ :: []) _
    go_big_quiet_step (fail)
    go_big_quiet_step (fail)
    go_big_quiet_step (fail)
    refine quiet_load_at rfl (.tmp 21) rfl (.pointer (some ⟨g1,o1+k*19,none⟩)) rfl n (by rintro _ ⟨u,rfl⟩; exact HL1.out u.1 ((u.2.block g1 (by omega)).trans (hBr.block g1 hg1))) ?_;simp only [Act.put,List.setIfInBounds_toArray,List.set_cons_succ,List.set_cons_zero]
    go_big_quiet_step (fail)
    go_big_quiet_step (fail)
    go_big_quiet_step (fail)
    refine quiet_load_at rfl (.tmp 25) rfl (.pointer (some ⟨g2,o2+k*19,none⟩)) rfl n (by rintro _ ⟨u,rfl⟩; exact HL2.out u.1 ((u.2.block g2 (by omega)).trans (hBr.block g2 hg2))) ?_;simp only [Act.put,List.setIfInBounds_toArray,List.set_cons_succ,List.set_cons_zero];refine wpQuiet_nil ?_;obtain ⟨X,hX⟩:∃ X,X=wr.drew:=⟨_,rfl⟩;have hbx:Below wr.heap.size wr X:=by rw [hX]; exact (Below.refl _ _).drew
    rw [<- hX];clear hX;have hzx:=hbx.size;have a1:=hbx.alloc hzx (.cells zcells 49);have a2:=a1.alloc a1.size (.cells zcells 49);have n1:((X.alloc (.cells zcells 49)).alloc (.cells zcells 49)).heap[X.heap.size]? = some (.cells zcells 49 (0,0)):=(Below.heap_alloc _ _ _ (by simp)).trans (heap_alloc_new _ _);have n2:((X.alloc (.cells zcells 49)).alloc (.cells zcells 49)).heap[X.heap.size+1]? = some (.cells zcells 49 (0,0)):=heap_alloc2_new _ _ _;have b1:=below_setRow a2 hzx n.cells.toArray;have b2:=below_setRow a2 (show wr.heap.size <= X.heap.size+1 by omega) n.cells.toArray;have c1':=below_setRow b1 (show wr.heap.size <= X.heap.size+1 by omega) n.cells.toArray;have c2':=below_setRow b2 hzx n.cells.toArray;have m1:=setRow_heap _ X.heap.size zcells n.cells.toArray _ _ n1;have m2:=setRow_heap _ (X.heap.size+1) zcells n.cells.toArray _ _ n2;have p2:(((X.alloc (.cells zcells 49)).alloc (.cells zcells 49)).setRow X.heap.size n.cells.toArray).heap[X.heap.size+1]? = some (.cells zcells 49 (0,0)):=(setRow_other _ _ _ _ (by omega)).trans n2;have p1:(((X.alloc (.cells zcells 49)).alloc (.cells zcells 49)).setRow (X.heap.size+1) n.cells.toArray).heap[X.heap.size]? = some (.cells zcells 49 (0,0)):=(setRow_other _ _ _ _ (by omega)).trans n1;have hsz:(X.alloc (.cells zcells 49)).heap.size=X.heap.size+1:=by simp
    have q1:=setRow_heap _ (X.heap.size+1) zcells n.cells.toArray _ _ p2;have q2:=setRow_heap _ X.heap.size zcells n.cells.toArray _ _ p1;have r1:=(setRow_other _ (X.heap.size+1) X.heap.size n.cells.toArray (by omega)).trans m1;have r2:=(setRow_other _ X.heap.size (X.heap.size+1) n.cells.toArray (by omega)).trans m2;refine anyG_two 8 9 _ _ (by kernel_rfl) rfl rfl rfl rfl ?_ ?_
    ·refine goUpon_val _ _ (exec_alloc_nd rfl _ _) ⟨⟨_,a1⟩,rfl⟩ ?_;change anyG _ _ _ _ _ _ _ (Act.put _ (some 6) _) _;simp only [Act.put,List.setIfInBounds_toArray,List.set_cons_succ,List.set_cons_zero];refine anyG_one 9 _ (by kernel_rfl) rfl rfl ?_;refine goUpon_val _ _ (exec_alloc_nd rfl _ _) ⟨⟨_,a2⟩,rfl⟩ ?_;rw [hsz];change anyG _ _ _ _ _ _ _ (Act.put _ (some 7) _) _;simp only [Act.put,List.setIfInBounds_toArray,List.set_cons_succ,List.set_cons_zero];refine anyG_one 10 _ (by kernel_rfl) rfl rfl ?_;refine goUpon_skip _ (exec_store_nd (.tmp 6) (.tmp 22) rfl X.heap.size n rfl rfl zcells n1 rfl) ⟨⟨_,b1⟩,rfl⟩ ?_;change anyG _ _ _ _ _ _ _ (Act.put _ none _) _;simp only [Act.put];refine anyG_one 11 _ (by kernel_rfl) rfl rfl ?_;refine goUpon_skip _ (exec_store_nd (.tmp 7) (.tmp 26) rfl (X.heap.size+1) n rfl rfl zcells p2 rfl) ⟨⟨_,c1'⟩,rfl⟩ ?_;change anyG _ _ _ _ _ _ _ (Act.put _ none _) _;simp only [Act.put];refine anyG_end (by kernel_rfl) ?_;simp only [Exit.then];go_wp2_with fail;go_meet;exact ⟨X.heap.size,X.heap.size+1,rfl,rfl,r1,q1,hBr.trans (c1'.mono hz)⟩
    ·refine goUpon_val _ _ (exec_alloc_nd rfl _ _) ⟨⟨_,a1⟩,rfl⟩ ?_;change anyG _ _ _ _ _ _ _ (Act.put _ (some 7) _) _;simp only [Act.put,List.setIfInBounds_toArray,List.set_cons_succ,List.set_cons_zero];refine anyG_one 8 _ (by kernel_rfl) rfl rfl ?_;refine goUpon_val _ _ (exec_alloc_nd rfl _ _) ⟨⟨_,a2⟩,rfl⟩ ?_;rw [hsz];change anyG _ _ _ _ _ _ _ (Act.put _ (some 6) _) _;simp only [Act.put,List.setIfInBounds_toArray,List.set_cons_succ,List.set_cons_zero];refine anyG_one 10 _ (by kernel_rfl) rfl rfl ?_;refine goUpon_skip _ (exec_store_nd (.tmp 6) (.tmp 22) rfl (X.heap.size+1) n rfl rfl zcells n2 rfl) ⟨⟨_,b2⟩,rfl⟩ ?_;change anyG _ _ _ _ _ _ _ (Act.put _ none _) _;simp only [Act.put];refine anyG_one 11 _ (by kernel_rfl) rfl rfl ?_;refine goUpon_skip _ (exec_store_nd (.tmp 7) (.tmp 26) rfl X.heap.size n rfl rfl zcells p1 rfl) ⟨⟨_,c2'⟩,rfl⟩ ?_;change anyG _ _ _ _ _ _ _ (Act.put _ none _) _;simp only [Act.put];refine anyG_end (by kernel_rfl) ?_;simp only [Exit.then];go_wp2_with fail;go_meet;exact ⟨X.heap.size+1,X.heap.size,rfl,rfl,r2,q2,hBr.trans (c2'.mono hz)⟩
   case rest =>
    obtain ⟨b6,b7,rfl,rfl,h6,h7,hBc⟩:=hcut;clear HX1 HX2 HL1 HL2 hBr hz;have H67:=Yd (And.intro h6 (And.intro h7 hBc));clear h6 h7 hBc;go_wp2_with fail
    go_loopw [27] (fun i wr=>∃ j:Nat,j <= 3∧i = .int .i64 j∧NBlk wr b6 n∧NBlk wr b7 n∧Below w.heap.size w wr) (fun i _=>3-(intOf i).toNat)
    case atStart=>exact ⟨0,by omega,rfl,H67.out.1,H67.out.2.1,H67.out.2.2⟩
    case round =>
     obtain ⟨j,hj,rfl,h6,h7,hBc⟩:=hrel;have hc6:∀ j u,n.cells[j]? = some u -> wr.cell? ⟨b6,j,none⟩=some u:=fun j u hu=>(h6.cell j).trans hu;have hc7:∀ j u,n.cells[j]? = some u -> wr.cell? ⟨b7,j,none⟩=some u:=fun j u hu=>(h7.cell j).trans hu;have HC6:=Yd hc6;have HC7:=Yd hc7;have HN:=Yd (And.intro h6 (And.intro h7 hBc));clear hc6 hc7 h6 h7 hBc H67
     by_cases hj3:j<3
     ·have hj0:(0:Int) <= (j:Int):=by omega
      have hj3':(j:Int)<3:=by omega
      have x1:=HC6.out (1+j) _ (n.cell_f (1+j) (by omega) (by omega));have x2:=HC6.out (4+j) _ (n.cell_f (4+j) (by omega) (by omega));have x3:=HC6.out (7+j) _ (n.cell_f (7+j) (by omega) (by omega));have x4:=HC6.out (10+j) _ (n.cell_f (10+j) (by omega) (by omega));have y1:=HC7.out (1+j) _ (n.cell_f (1+j) (by omega) (by omega));have y2:=HC7.out (4+j) _ (n.cell_f (4+j) (by omega) (by omega));have y3:=HC7.out (7+j) _ (n.cell_f (7+j) (by omega) (by omega));have y4:=HC7.out (10+j) _ (n.cell_f (10+j) (by omega) (by omega));go_wp2_with fail;go_quiet (exact Calls.quiet_of_same (same01_self _ _));go_wp2_with fail;go_roundw
      case rel=>exact ⟨j+1,by omega,by go_num,HN.out.1.drewN nq,HN.out.2.1.drewN nq,nodew.below_drewN' HN.out.2.2 nq⟩
      case measure=>simp [intOf]; omega
     ·obtain rfl:j=3:=by omega
      have x0:=HC6.out 0 _ rfl;have x5:=HC6.out 13 _ rfl;have x6:=HC6.out 14 _ rfl;have x7:=HC6.out 15 _ rfl;have x8:=HC6.out 16 _ rfl;have x9:=HC6.out 17 _ rfl;have xa:=HC6.out 18 _ rfl;have y0:=HC7.out 0 _ rfl;have y5:=HC7.out 13 _ rfl;have y6:=HC7.out 14 _ rfl;have y7:=HC7.out 15 _ rfl;have y8:=HC7.out 16 _ rfl;have y9:=HC7.out 17 _ rfl;have ya:=HC7.out 18 _ rfl;go_wp2_with (first | (go_at_call 35; refine (same01_self _ _).mono ?_; rintro e wy ⟨rfl,rfl⟩));have hkg:=HKG.out
      go_roundg (gk-1)
      case measure=>omega
      case rel=>exact ⟨k+1,by omega,by go_num,HN.out.2.2⟩
  ·obtain rfl:k=l.length:=by omega
   go_wp2_with fail;go_ret;exact ⟨rfl,hBr⟩
end chkw

/- What an iterator keeps private from the one who takes its numbers, and the walk through what a root needs. No conditions but those stated. -/
namespace flatw
open Go.RowKit Go.Shelf
open nodew
open chkw
open flatm
attribute [local go_sem] Oper.semAt_some
def Priv (foot:World -> Nat -> Prop) (W:World) (k:Nat):Prop:=(∃ cs t fr,W.heap[k]? = some (.cells cs t fr)) ∧ ¬ foot W k
theorem Priv.lt {foot:World -> Nat -> Prop} {W:World} {k:Nat} (h:Priv foot W k):k<W.heap.size:=by
 obtain ⟨⟨cs,t,fr,h⟩,_⟩:=h;exact (Array.getElem?_eq_some_iff.1 h).1
def KeepP (foot:World -> Nat -> Prop) (B:Nat) (x:Option Nat) (W W':World):Prop :=
 W.heap.size <= W'.heap.size∧(∀ k,k<B -> k<W.heap.size -> W'.heap[k]? = W.heap[k]?) ∧ ∀ k,Priv foot W k -> Priv foot W' k∧(some k≠x -> W'.heap[k]? = W.heap[k]?)
theorem KeepP.refl (foot:World -> Nat -> Prop) (B:Nat) (x:Option Nat) (W:World):KeepP foot B x W W:=⟨Nat.le_refl _,fun _ _ _=>rfl,fun _ h=>⟨h,fun _=>rfl⟩⟩
theorem KeepP.trans {foot:World -> Nat -> Prop} {B:Nat} {x:Option Nat} {A C D:World} (h:KeepP foot B x A C) (k:KeepP foot B x C D):KeepP foot B x A D :=
 ⟨Nat.le_trans h.1 k.1,fun i hi hs=>(k.2.1 i hi (Nat.lt_of_lt_of_le hs h.1)).trans (h.2.1 i hi hs),fun i hi =>
  ⟨(k.2.2 i (h.2.2 i hi).1).1,fun hne=>((k.2.2 i (h.2.2 i hi).1).2 hne).trans ((h.2.2 i hi).2 hne)⟩⟩
theorem KeepP.weak {foot:World -> Nat -> Prop} {B:Nat} {x:Option Nat} {A C:World} (h:KeepP foot B none A C):KeepP foot B x A C :=
 ⟨h.1,h.2.1,fun i hi=>⟨(h.2.2 i hi).1,fun _=>(h.2.2 i hi).2 (by simp)⟩⟩
structure Foot (foot:World -> Nat -> Prop) (B:Nat) (J:List Nat -> World -> Prop):Prop where
 size:∀ pre X k,J pre X -> foot X k -> B <= k∧k<X.heap.size
 own:∀ pre X Y row,J pre X -> X.grownBy Y row -> (∀ r,row=some r -> B <= r∧Priv foot X r) -> J pre Y ∧ ∀ k,foot Y k -> foot X k
theorem Foot.alloc {foot:World -> Nat -> Prop} {B:Nat} {J:List Nat -> World -> Prop} (hF:Foot foot B J) {pre:List Nat} {X Y:World} {row:Option Nat} (hJ:J pre X) (hg:X.grownBy Y row) (hr:∀ r,row=some r -> B <= r∧Priv foot X r ∧ ∃ cs t fr,Y.heap[r]? = some (.cells cs t fr)) :
  J pre Y∧KeepP foot B row X Y ∧ ∀ k cs t fr,X.heap.size <= k -> Y.heap[k]? = some (.cells cs t fr) -> Priv foot Y k:=by
 obtain ⟨hJY,hf⟩:=hF.own pre X Y row hJ hg (fun r e=>⟨(hr r e).1,(hr r e).2.1⟩);refine ⟨hJY,⟨hg.size,fun k hk hs=>hg.block k hs (fun e => ?_),fun k hp=>⟨⟨?_,fun h=>hp.2 (hf k h)⟩,fun hne=>hg.block k hp.lt hne⟩⟩,fun k cs t fr hk hc=>⟨⟨cs,t,fr,hc⟩,fun h => ?_⟩⟩
 ·have:=(hr k e.symm).1; omega
 ·by_cases e:some k=row
  ·exact (hr k e.symm).2.2
  ·rw [hg.block k hp.lt e]; exact hp.1
 ·have:=(hF.size pre X k hJ (hf k h)).2; omega
def metA (n:Nat) (m:Nat -> Bool):Array Value:=((List.range n).map fun i=>Value.bool (m i)).toArray
theorem metA_size (n:Nat) (m:Nat -> Bool):(metA n m).size=n:=by simp [metA]
theorem metA_at (n:Nat) (m:Nat -> Bool) (i:Nat) (h:i<n):(metA n m)[i]? = some (.bool (m i)):=by simp [metA,h]
theorem metA_set (n:Nat) (m:Nat -> Bool) (i:Nat) (h:i<n):(metA n m).setIfInBounds i (.bool true)=metA n (upd m i true):=by
 apply Array.ext_getElem?;intro j;rw [Array.getElem?_setIfInBounds]
 by_cases e:i=j
 ·subst e;rw [if_pos rfl,if_pos (by rw [metA_size]; exact h),metA_at _ _ _ h,upd_same]
 ·rw [if_neg e]
  by_cases hj:j<n
  ·rw [metA_at _ _ _ hj,metA_at _ _ _ hj,upd_ne _ _ _ _ (fun e'=>e e'.symm)]
  ·rw [Array.getElem?_eq_none (by rw [metA_size]; omega),Array.getElem?_eq_none (by rw [metA_size]; omega)]
structure TS (foot:World -> Nat -> Prop) (B pb mb b1 b3 b4 lp:Nat) (v:Value) (l:List Nd) (m:Nat -> Bool) (W:World):Prop where
 h1:Boxed W b1 112 (.slice (some ⟨mb,0,none⟩) l.length l.length)
 hp:Boxed W pb 34 v
 h3:Boxed W b3 111 (.func (.func 65) #[] #[.pointer (some ⟨b1,0,none⟩),.pointer (some ⟨pb,0,none⟩),.pointer (some ⟨b3,0,none⟩),.pointer (some ⟨b4,0,none⟩)])
 h4:Boxed W b4 111 (.func (.yield lp) #[] #[])
 hm:W.heap[mb]? = some (.cells (metA l.length m) 4 (0,0))
 hn:NArg W B v l
 p1:¬ foot W b1
 pp:¬ foot W pb
 p3:¬ foot W b3
 p4:¬ foot W b4
 pm:¬ foot W mb
 bm:B <= mb
theorem boxed_priv {foot:World -> Nat -> Prop} {W:World} {b:Nat} {t:TypeId} {v:Value} (h:Boxed W b t v) (p:¬ foot W b):Priv foot W b:=⟨⟨_,_,_,h⟩,p⟩
theorem boxed_ne {W:World} {b mb:Nat} {t t':TypeId} {v:Value} {cs:Array Value} (h:Boxed W b t v) (hm:W.heap[mb]? = some (.cells cs t' (0,0))) (hne:t≠t'):b≠mb:=by
 rintro rfl;rw [show W.heap[b]? = _ from h] at hm;injection hm with hm;injection hm with _ e _;exact hne e
theorem TS.step {foot:World -> Nat -> Prop} {B pb mb b1 b3 b4 lp:Nat} {v:Value} {l:List Nd} {m m':Nat -> Bool} {W W':World} (h:TS foot B pb mb b1 b3 b4 lp v l m W) (hk:KeepP foot B (some mb) W W')
  (hm:W'.heap[mb]? = some (.cells (metA l.length m') 4 (0,0))):TS foot B pb mb b1 b3 b4 lp v l m' W':=by
 have n1:=boxed_ne h.h1 h.hm (by decide);have np:=boxed_ne h.hp h.hm (by decide);have n3:=boxed_ne h.h3 h.hm (by decide);have n4:=boxed_ne h.h4 h.hm (by decide);have k1:=hk.2.2 b1 (boxed_priv h.h1 h.p1);have kp:=hk.2.2 pb (boxed_priv h.hp h.pp);have k3:=hk.2.2 b3 (boxed_priv h.h3 h.p3);have k4:=hk.2.2 b4 (boxed_priv h.h4 h.p4);have km:=hk.2.2 mb ⟨⟨_,_,_,h.hm⟩,h.pm⟩;exact ⟨(k1.2 (by simpa using n1)).trans h.h1,(kp.2 (by simpa using np)).trans h.hp,(k3.2 (by simpa using n3)).trans h.h3,(k4.2 (by simpa using n4)).trans h.h4,hm,
  h.hn.keep hk.1 (fun g hg hs=>hk.2.1 g hg hs),k1.1.2,kp.1.2,k3.1.2,k4.1.2,km.1.2,h.bm⟩
theorem TS.keep {foot:World -> Nat -> Prop} {B pb mb b1 b3 b4 lp:Nat} {v:Value} {l:List Nd} {m:Nat -> Bool} {W W':World} (h:TS foot B pb mb b1 b3 b4 lp v l m W) (hk:KeepP foot B none W W'):TS foot B pb mb b1 b3 b4 lp v l m W' :=
 h.step hk.weak (((hk.2.2 mb ⟨⟨_,_,_,h.hm⟩,h.pm⟩).2 (by simp)).trans h.hm)
end flatw
end Go.Proofs.YtcbgkbidgpemfaaGreatDoor
