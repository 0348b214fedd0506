/- A map[string]int that the call makes: what a look-up and a store do; a slice of one node. No conditions but those stated. -/
import Derived.Test.YtejmbbkklhpnaaaGreatDoorMf11
import Derived.Test.YtejmbbkklhpnaaaGreatDoorMf04
import Derived.Test.YtejmbbkklhpnaaaGreatDoorMf10
import Derived.Test.YtejmbbkklhpnaaaGreatDoorMf01
import Derived.MapKept
import Derived.Carry
import Derived.Deep.AppendLies
import Derived.Outline
import Derived.Deep.LoopGhost
import Derived.Laws.OwnMore
import Derived.Lib.Hide
import Derived.WalkKit
import Derived.BigQuiet
import Derived.WalkLawsBesides
import Derived.IntWalk
namespace Go.Proofs.YtejmbbkklhpnaaaGreatDoor.chkw
open Go.RowKit
open lexw
open parw
open nodew
open qt
def kv (p:ByteArray × Nat):Value × Value:=(.string p.1,.int .i64 p.2)
def MB (W:World) (mb:Nat) (ents:List (ByteArray × Nat)):Prop :=
 ∃ (es:Array MapEntry) (clock:Nat),W.heap[mb]? = some (.map es clock)∧es.toList.map (fun e=>(e.key,e.val))=ents.map kv
def lookE (ents:List (ByteArray × Nat)) (k:ByteArray):Option Nat:=(ents.find? fun p=>k == p.1).map (·.2)
theorem ck_run' (em:Bool) (m:Nat) (k:ByteArray) (w:World):(Instr.checkKey em (m+1) 9 (.string k)).run Tryz.prog w = .ok () w:=by
 simp [Instr.checkKey,run_underlying Tryz.underlying9]
theorem ck_run (em:Bool) (k:ByteArray) (w:World):(Instr.checkKey em 10000 9 (.string k)).run Tryz.prog w = .ok () w:=by
 exact ck_run' em 9999 k w
theorem find_run (k:ByteArray):∀ (es:List MapEntry) (ents:List (ByteArray × Nat)) (i:Nat),es.map (fun e=>(e.key,e.val))=ents.map kv ->
  ∃ r,Instr.findNow .string (.string k) es i=some r∧r.map (·.2)=(lookE ents k).map (fun p=>Value.int .i64 p)
 | [],[],i,_=>⟨none,rfl,rfl⟩
 | [],a :: r,i,h=>by simp at h
 | e :: es,[],i,h=>by simp at h
 | e :: es,a :: r,i,h=>by
  simp only [List.map_cons,List.cons.injEq,kv,Prod.mk.injEq] at h
  obtain ⟨⟨h1,h2⟩,h3⟩:=h
  unfold Instr.findNow
  rw [h1]
  show ∃ r',(match some (k == a.1) with | some true=>some (some (i,e.val)) | some false=>Instr.findNow .string (.string k) es (i+1) | none=>none)=some r'∧_
  cases hq:k == a.1 with
  | true =>
   refine ⟨_,rfl,?_⟩
   unfold lookE
   rw [List.find?_cons_of_pos (by simpa using hq)]
   simp [h2]
  | false =>
   obtain ⟨r',hr,hv⟩:=find_run k es r (i+1) h3
   refine ⟨r',hr,?_⟩
   unfold lookE at hv ⊢
   rw [List.find?_cons_of_neg (by simpa using hq)]
   exact hv
theorem findKey_run (k:ByteArray) (es:List MapEntry) (ents:List (ByteArray × Nat)) (h:es.map (fun e=>(e.key,e.val))=ents.map kv) (w:World) :
  ∃ r,(Instr.findKey 9 (.string k) es).run Tryz.prog w = .ok r w∧r.map (·.2)=(lookE ents k).map (fun p=>Value.int .i64 p):=by
 obtain ⟨r,hr,hv⟩:=find_run k es ents 0 h
 refine ⟨r,?_,hv⟩
 simp [Instr.findKey,run_underlying Tryz.underlying9,hr]
theorem MB.lookup {W:World} {mb:Nat} {ents:List (ByteArray × Nat)} (h:MB W mb ents) (k:ByteArray) :
  (Instr.lookup 123 (.map (some mb)) (.string k) true).run Tryz.prog W = .ok (.tuple #[.int .i64 ((lookE ents k).getD 0:Nat),.bool (lookE ents k).isSome]) W:=by
 obtain ⟨es,c,hb,he⟩:=h
 obtain ⟨r,hr,hv⟩:=findKey_run k es.toList ents he W
 cases hl:lookE ents k with
 | none =>
  rw [hl] at hv
  cases r with
  | none=>simp [Instr.lookup,run_underlying Tryz.underlying123,run_getObj_map _ _ _ _ hb,ck_run,hr]
  | some x=>simp at hv
 | some p =>
  rw [hl] at hv
  cases r with
  | none=>simp at hv
  | some x =>
   obtain ⟨i,v⟩:=x
   simp at hv
   subst hv
   simp [Instr.lookup,run_underlying Tryz.underlying123,run_getObj_map _ _ _ _ hb,ck_run,hr]
theorem MB.at {W:World} {mb:Nat} {ents:List (ByteArray × Nat)} (h:MB W mb ents):MapAt W mb (lookE ents):=by
 obtain ⟨es,c,hb,he⟩:=h
 exact ⟨(Array.getElem?_eq_some_iff.1 hb).1,fun W' hW k=>MB.lookup ⟨es,c,hW.trans hb,he⟩ k⟩
theorem MB.keep {W W':World} {mb:Nat} {ents:List (ByteArray × Nat)} (h:MB W mb ents) (hk:W'.heap[mb]? = W.heap[mb]?):MB W' mb ents:=by
 obtain ⟨es,c,hb,he⟩:=h
 exact ⟨es,c,hk.trans hb,he⟩
theorem MB.store {W:World} {mb:Nat} {ents:List (ByteArray × Nat)} (h:MB W mb ents) (k:ByteArray) (p:Nat) (hk:lookE ents k=none) :
  ∃ W',(Instr.mapUpdate 123 (.map (some mb)) (.string k) (.int .i64 p)).run Tryz.prog W = .ok () W'∧MB W' mb (ents ++ [(k,p)])∧W'.heap.size=W.heap.size∧(∀ b,b≠mb -> W'.heap[b]? = W.heap[b]?)∧W'.os=W.os∧W'.tape=W.tape∧W'.output=W.output:=by
 obtain ⟨es,c,hb,he⟩:=h
 obtain ⟨r,hr,hv⟩:=findKey_run k es.toList ents he W
 rw [hk] at hv
 cases r with
 | some x=>simp at hv
 | none =>
  refine ⟨{ W with heap:=W.heap.setIfInBounds mb (.map (es.push { key:=.string k,val:=.int .i64 p,born:=c }) (c+1)) },?_,?_,by simp,?_,rfl,rfl,rfl⟩
  ·simp [Instr.mapUpdate,run_underlying Tryz.underlying123,run_getObj_map _ _ _ _ hb,ck_run,hr,MapKept.run_setObj_map _ hb]
  ·have hlt:=(Array.getElem?_eq_some_iff.1 hb).1
   refine ⟨es.push { key:=.string k,val:=.int .i64 p,born:=c },c+1,by simp [hlt],?_⟩
   rw [Array.toList_push,List.map_append,he,List.map_append]
   rfl
  ·intro b hbn
   show (W.heap.setIfInBounds mb _)[b]? = _
   rw [Array.getElem?_setIfInBounds_ne (fun e=>hbn e.symm)]
theorem bs_run (n:Nd) (w:World):(Instr.buildSlice 43 1 #[(0,n.val)]).run Tryz.prog w = .ok (.slice (some ⟨w.heap.size,0,none⟩) 1 1) (w.alloc (.cells n.cells.toArray 67)):=by
 unfold Nd.val Nd.cells
 kernel_rfl
end Go.Proofs.YtejmbbkklhpnaaaGreatDoor.chkw

/- The walk of check.Check. Conditions: the statements lie in memory; their lengths are within the reach. -/
namespace Go.Proofs.YtejmbbkklhpnaaaGreatDoor.chkw
open Go.RowKit
open lexw
open parw
open nodew
open qt
open Go.BigFrame
attribute [local go_sem] parw.run_store_float
def SR (W:World) (B:Nat) (v:Value) (l:List PStmt):Prop :=
 ∃ (vs:List Value) (A:Option Addr) (c:Nat),vs.length=l.length∧v = .slice A l.length c ∧
  (l≠[] -> ∃ g off,A=some ⟨g,off,none⟩∧g<B ∧ ∀ j u,(scells l vs)[j]? = some u -> W.cell? ⟨g,off+j,none⟩=some u) ∧
  ∀ i (h1:i<vs.length) (h2:i<l.length),ARead W B vs[i] l[i].args∧CapOk vs[i]
theorem SR.keep {W W':World} {B:Nat} {v:Value} {l:List PStmt} (h:SR W B v l) (hg:∀ g,g<B -> g<W.heap.size -> W'.heap[g]? = W.heap[g]?):SR W' B v l:=by
 obtain ⟨vs,A,c,hl,hv,hx,ha⟩:=h
 refine ⟨vs,A,c,hl,hv,fun h0 => ?_,fun i h1 h2=>⟨(ha i h1 h2).1.keep hg,(ha i h1 h2).2⟩⟩
 obtain ⟨g,off,hA,hB,hcell⟩:=hx h0
 exact ⟨g,off,hA,hB,fun j u hu=>(World.cell?_of_block (a:=⟨g,off+j,none⟩) (hg g hB (World.block_lt_of_cell? W _ (hcell j u hu)))).trans (hcell j u hu)⟩
theorem cap_own {W:World} {base e k n:Nat} {v:Value} {xs:List Value} (h:W.ownsRow base e k v n xs):CapOk v:=by
 rcases h.2 with ⟨rfl,_⟩ | ⟨g,cap,cur,rfl,_,_,hc,_⟩
 ·exact Nat.le_refl _
 ·exact hc
theorem SR.of_row {W:World} {base:Nat} {v:Value} {l:List PStmt} (h:SRow W base v l):SR W W.heap.size v l:=by
 obtain ⟨vs,hl,ho,ha⟩:=h
 rcases ho.2 with ⟨rfl,hn⟩ | ⟨g,cap,cur,rfl,_,hgg,_⟩
 ·exact ⟨vs,_,_,hl,by rw [hn],fun h0=>absurd (List.eq_nil_of_length_eq_zero hn) h0,fun i h1 h2=>⟨.of_own (ha i h1 h2),cap_own (ha i h1 h2)⟩⟩
 ·refine ⟨vs,_,_,hl,rfl,fun _=>⟨g,0,rfl,(Array.getElem?_eq_some_iff.1 hgg).1,fun j u hu => ?_⟩,fun i h1 h2=>⟨.of_own (ha i h1 h2),cap_own (ha i h1 h2)⟩⟩
  have hc:=ho.cells (g:=g) rfl j u hu
  have hadd:(⟨g,0,none⟩:Addr).add j=⟨g,j,none⟩:=by unfold Addr.add; split <;> simp_all
  rw [hadd] at hc
  rw [Nat.zero_add]
  exact hc
def chkA (ents:List (ByteArray × Nat)) (out:List Nd):List PStmt -> List Nd × Int × Nat
 | []=>(out,0,0)
 | s :: r =>
  if 4096 <= out.length then ([],s.pos,181)
  else if (lookE ents s.name).isSome=true∨0<kindF s.name then ([],s.pos,182)
  else if (nodeS (lookE ents) s).2.2=0 then chkA (ents ++ [(s.name,out.length)]) (out ++ [(nodeS (lookE ents) s).1]) r
  else ([],(nodeS (lookE ents) s).2.1,(nodeS (lookE ents) s).2.2)
def checkS (l:List PStmt):List Nd × Int × Nat:=if l.length=0 then ([],0,180) else chkA [] [] l
def CkPost (w:World) (r:List Nd × Int × Nat) (e:Ending) (w':World):Prop :=
 ∃ o,e = .returned (.tuple #[o,.int .i64 r.2.1,.int .i64 r.2.2])∧w'.ownsRow w.heap.size 67 19 o r.1.length (ncells r.1)∧Below w.heap.size w w'
structure CI (w:World) (ents:List (ByteArray × Nat)) (o:Value) (out:List Nd) (X:World):Prop where
 mp:MB X w.heap.size ents
 own:X.ownsRow (w.heap.size+1) 67 19 o out.length (ncells out)
 low:Below w.heap.size w X
theorem MB.lt {W:World} {mb:Nat} {ents:List (ByteArray × Nat)} (h:MB W mb ents):mb<W.heap.size:=by
 obtain ⟨es,c,hb,_⟩:=h
 exact (Array.getElem?_eq_some_iff.1 hb).1
theorem CI.ext {w:World} {ents:List (ByteArray × Nat)} {o:Value} {out:List Nd} {X Y:World} (h:CI w ents o out X) (hb:Below X.heap.size X Y):CI w ents o out Y :=
 ⟨h.mp.keep (hb.block _ h.mp.lt),own_below h.own hb,h.low.trans (hb.mono h.low.size)⟩
theorem ncells_snoc (l:List Nd) (n:Nd):ncells (l ++ [n])=ncells l ++ n.cells:=by simp [ncells]
theorem nodeInfo:(Tryz.prog.info? 67).map (fun i=>(i.zero,i.size,i.bytes))=some (some (.agg #[.int .u8 0,.float .f64 0,.float .f64 0,.float .f64 0,.float .f64 0,.float .f64 0,.float .f64 0,.float .f64 0,.float .f64 0,.float .f64 0,.float .f64 0,.float .f64 0,.float .f64 0,.float .f64 0,.float .f64 0,.float .f64 0,.float .f64 0,.int .i64 0,.int .i64 0]),19,152):=by kernel_rfl
theorem nd_one' (n:Nd):∀ u∈n.cells,u.oneCell'=true:=by
 intro u hu
 have:=Array.all_eq_true_iff_forall_mem.1 (nd_one n) u (by simpa using hu)
 exact this
theorem kind_below (s:ByteArray) (w:World):Calls Tryz.prog 46 #[.string s] w fun e w'=>e = .returned (.int .u8 (kindF s))∧Below w.heap.size w w' :=
 (kind_any s w).mono fun _ _ ⟨he,hw⟩=>⟨he,hw ▸ (Below.refl _ w).alloc (Nat.le_refl _) _⟩
theorem own_of {W W':World} {base e k n:Nat} {v:Value} {xs:List Value} (h:W.ownsRow base e k v n xs) (hk:∀ b,base <= b -> W'.heap[b]? = W.heap[b]?):W'.ownsRow base e k v n xs:=by
 refine ⟨h.1,?_⟩
 rcases h.2 with h0 | ⟨g,cap,cur,hv,hg,hh,r⟩
 ·exact .inl h0
 ·exact .inr ⟨g,cap,cur,hv,hg,(hk g hg).trans hh,r⟩
theorem own_lt {W:World} {base e k n:Nat} {v:Value} {xs:List Value} (h:W.ownsRow base e k v n xs) {r:Nat} (hr:v.ownBlock=some r):r<W.heap.size:=by
 rcases h.2 with ⟨rfl,_⟩ | ⟨g,cap,cur,rfl,_,hh,_⟩
 ·cases hr
 ·cases hr; exact (Array.getElem?_eq_some_iff.1 hh).1
theorem wl_val {P:Program} {ops:Array Oper} {rest:List Oper} {o:Oper} {a:Act} {w w':World} {Q:Exit -> Act -> World -> Prop} (hgd:o.guard=none) (v:Value) (hr:(execOp a.eval o).run P w = .ok (.value v) w')
  (h:wpList P ops Q rest (a.put o.dst v) w'):wpList P ops Q (o :: rest) a w :=
 wpList_plain hgd fun K hK=>by
  unfold Oper.wp
  rw [hr]
  exact hK _ _ h
theorem wl_bs {ops:Array Oper} {rest:List Oper} {o:Oper} {a:Act} {w:World} {Q:Exit -> Act -> World -> Prop} (hgd:o.guard=none) (x:Operand) (ho:o.op = .buildSlice 43 1 #[(0,x)]) (n:Nd) (hx:a.eval x = .agg n.cells.toArray)
  (h:wpList Tryz.prog ops Q rest (a.put o.dst (.slice (some ⟨w.heap.size,0,none⟩) 1 1)) (w.alloc (.cells n.cells.toArray 67))):wpList Tryz.prog ops Q (o :: rest) a w:=by
 refine wl_val hgd _ ?_ h
 have hb:(Instr.buildSlice 43 1 #[(0,.agg n.cells.toArray)]).run Tryz.prog w = .ok (.slice (some ⟨w.heap.size,0,none⟩) 1 1) (w.alloc (.cells n.cells.toArray 67)):=bs_run n w
 unfold execOp
 simp only [ho,Sem.run_bind,List.map_toArray,List.map_cons,List.map_nil,hx,hb,Result.andThen_ok,Sem.run_pure]
theorem ci_step {w X wz:World} {ents:List (ByteArray × Nat)} {o:Value} {out:List Nd} {n:Nd} (h:CI w ents o out X) (hg:(X.alloc (.cells n.cells.toArray 67)).grownBy wz o.ownBlock) (g cap:Nat)
  (ho:wz.ownsRow (w.heap.size+1) 67 19 (.slice (some ⟨g,0,none⟩) (out.length+1) cap) (out.length+1) (ncells out ++ n.cells)) (name:ByteArray) (hn:lookE ents name=none) :
  (∀ b,b<X.heap.size -> o.ownBlock≠some b -> wz.heap[b]? = X.heap[b]?) ∧
  ∃ W',(Instr.mapUpdate 123 (.map (some w.heap.size)) (.string name) (.int .i64 out.length)).run Tryz.prog wz = .ok () W'∧CI w (ents ++ [(name,out.length)]) (.slice (some ⟨g,0,none⟩) (out.length+1) cap) (out ++ [n]) W':=by
 have hz:=h.low.size
 have hm:=h.mp.lt
 have hne:∀ r,o.ownBlock=some r -> w.heap.size+1 <= r:=fun r e=>nodew.own_base h.own e
 have hmz:MB wz w.heap.size ents:=h.mp.keep ((hg.block _ (by simp; omega) (fun e=>by have:=hne _ e.symm; omega)).trans (Below.heap_alloc _ _ _ hm))
 obtain ⟨W',hu,hmb,hsz,hblk,h1,h2,h3⟩:=hmz.store name out.length hn
 have hlow:Below w.heap.size w wz:=(h.low.alloc hz _).grown hg (by simp; omega) (fun r e=>by have:=hne r e; omega)
 refine ⟨fun b hb hr=>(hg.block b (by simp; omega) (fun e=>hr e.symm)).trans (Below.heap_alloc _ _ _ hb),W',hu,⟨hmb,?_,?_⟩⟩
 ·rw [ncells_snoc,List.length_append]
  exact own_of ho fun b hb=>hblk b (by omega)
 ·exact hlow.trans ⟨h1,h2,h3,by rw [hsz]; exact Nat.le_refl _,fun b hb=>hblk b (by omega)⟩
set_option maxRecDepth 100000 in
set_option maxHeartbeats 3000000 in
theorem check_any (B:Nat) (v:Value) (l:List PStmt) (hkd:∀ s∈l,s.kind<256) (w:World) (hr:SR w B v l) (hB:B <= w.heap.size) :
  Calls Tryz.prog 30 #[v] w (CkPost w (checkS l)):=by
 obtain ⟨R,hR⟩:∃ R,R=checkS l:=⟨_,rfl⟩
 rw [<- hR]
 have HR:=Lib.hid hR
 clear hR
 obtain ⟨vs,A,c,hvl,rfl,hx,ha⟩:=hr
 have HX:=Lib.hid hx
 have HA:=Lib.hid ha
 have HVL:=Lib.hid hvl
 have HKD:=Lib.hid hkd
 clear hx ha hvl hkd
 have hmm:=@run_makeMap Tryz.prog
 go_enter Tryz.func30,Tryz.ntmps30
 by_cases h0:l.length=0
 ·have hR:R=([],0,180):=by rw [HR.out]; unfold checkS; rw [if_pos h0]
  subst hR
  have e0:((l.length:Int) == 0)=true:=by rw [beq_iff_eq]; omega
  clear h0
  go_wp2_with fail
  go_ret3
  exact ⟨_,rfl,World.ownsRow_nil _ _ _ _,Below.refl _ _⟩
 ·have e0:((l.length:Int) == 0)=false:=by rw [beq_eq_false_iff_ne]; omega
  have hR:R=chkA [] [] l:=by rw [HR.out]; unfold checkS; rw [if_neg h0]
  have HR:=Lib.hid hR
  clear hR
  go_wp2_with fail
  obtain ⟨i0,hi0,hz0,hz1,hz2⟩:=info_parts nodeInfo
  have hRC:=HR
  go_loopw [20,6] (fun i o wr=>∃ (k:Nat) (ents:List (ByteArray × Nat)) (out:List Nd),k <= l.length∧i = .int .i64 k∧out.length=k∧CI w ents o out wr∧chkA ents out (l.drop k)=chkA [] [] l)
   (fun i _ _=>l.length-(intOf i).toNat)
  case atStart=>exact ⟨0,[],[],Nat.zero_le _,rfl,rfl,⟨⟨#[],0,heap_alloc_new w _,rfl⟩,World.ownsRow_nil _ _ _ _,(Below.refl _ w).alloc (Nat.le_refl _) _⟩,rfl⟩
  case round =>
   obtain ⟨k,ents,out,hk,rfl,hok,hci,hch⟩:=hrel
   have HOK:=Lib.hid hok
   have HCH:=Lib.hid hch
   clear hok hch
   have hz:=hci.low.size
   have hmz:=hci.mp.lt
   by_cases hkl:k<l.length
   ·as_aux_lemma =>
    obtain ⟨g,off,rfl,hgB,hcell⟩:=HX.out (by intro e; rw [e] at hkl; simp at hkl)
    have hkv:k<vs.length:=by rw [HVL.out]; exact hkl
    obtain ⟨st,hst⟩:∃ st,st=l[k]:=⟨_,rfl⟩
    obtain ⟨av,hav⟩:∃ av,av=vs[k]:=⟨_,rfl⟩
    obtain ⟨har,hac⟩:=HA.out k hkv hkl
    have hsk:st.kind<256:=HKD.out st (by rw [hst]; exact List.getElem_mem hkl)
    have hcw:∀ j u,(stCells st av)[j]? = some u -> j<4 -> wr.cell? ⟨g,off+k*4+j,none⟩=some u:=fun j u hu hj=>by
     have:=hcell (k*4+j) u ((scells_get l vs k j hkv hkl hj HVL.out).trans (by rw [<- hst,<- hav]; exact hu))
     rw [<- Nat.add_assoc] at this
     exact (hci.low.cell (p:=⟨g,off+k*4+j,none⟩) (by show g<w.heap.size; omega)).trans this
    have r0:wr.cell? ⟨g,off+k*4,none⟩=some (.string st.name):=hcw 0 _ rfl (by omega)
    have r1:wr.cell? ⟨g,off+k*4+1,none⟩=some (.int .i64 st.pos):=hcw 1 _ rfl (by omega)
    have r2:wr.cell? ⟨g,off+k*4+2,none⟩=some (.int .u8 st.kind):=hcw 2 _ rfl (by omega)
    have r3:wr.cell? ⟨g,off+k*4+3,none⟩=some av:=hcw 3 _ rfl (by omega)
    rw [<- hst,<- hav] at har
    rw [<- hav] at hac
    have hch:chkA [] [] l=if 4096 <= out.length then ([],st.pos,181) else if (lookE ents st.name).isSome=true∨0<kindF st.name then ([],st.pos,182) else if (nodeS (lookE ents) st).2.2=0 then chkA (ents ++ [(st.name,out.length)]) (out ++ [(nodeS (lookE ents) st).1]) (l.drop (k+1)) else ([],(nodeS (lookE ents) st).2.1,(nodeS (lookE ents) st).2.2):=by
     rw [<- HCH.out,List.drop_eq_getElem_cons hkl,<- hst]; rfl
    have HC2:=Lib.hid hch
    have HAR:=Lib.hid har
    have HAC:=Lib.hid hac
    clear hcw hcell hch hst hav har hac hkv HCH HX HA HVL HKD
    have hk0:(0:Int) <= (k:Int):=by omega
    obtain ⟨Ac,ac,hav,-⟩:=HAR.out
    subst hav
    have hcx:=hci.ext ((Below.refl _ wr).alloc (Nat.le_refl _) (.cells #[.string st.name,.int .i64 st.pos,.int .u8 st.kind,.slice Ac st.args.length ac] 28))
    have hbx:=heap_alloc_new wr (.cells #[.string st.name,.int .i64 st.pos,.int .u8 st.kind,.slice Ac st.args.length ac] 28)
    have hlk:=hcx.mp.lookup st.name
    have HOWN:=Lib.hid hci.own
    have HCX:=Lib.hid hcx
    have HBX:=Lib.hid hbx
    clear hcx hbx hci
    by_cases h1:4096 <= k
    ·have hR:R=([],st.pos,181):=by rw [HR.out,HC2.out,if_pos (by rw [HOK.out]; exact h1)]
     subst hR
     clear HR HC2 hlk
     have h1':(4096:Int) <= (k:Int):=by omega
     go_wp2_with fail
     go_quiet (fail)
     go_wp2_with fail
     go_ret3
     exact ⟨_,rfl,World.ownsRow_nil _ _ _ _,nodew.below_drewN' HCX.out.low _⟩
    ·have h1':¬ (4096:Int) <= (k:Int):=by omega
     obtain ⟨lk,hlk0⟩:∃ lk,lookE ents st.name=lk:=⟨_,rfl⟩
     rw [hlk0] at hlk
     have HLK:=Lib.hid hlk0
     clear hlk0
     cases lk with
     | some p =>
      simp only [Option.isSome,Option.getD] at hlk
      have hR:R=([],st.pos,182):=by rw [HR.out,HC2.out,if_neg (by rw [HOK.out]; exact h1),if_pos (.inl (by rw [HLK.out]; rfl))]
      subst hR
      clear HR HC2
      go_wp2_with fail
      go_quiet (fail)
      go_wp2_with fail
      go_ret3
      exact ⟨_,rfl,World.ownsRow_nil _ _ _ _,nodew.below_drewN' HCX.out.low _⟩
     | none =>
      simp only [Option.isSome,Option.getD] at hlk
      go_wp2_with fail
      refine (kind_below st.name _).mono ?_
      rintro e X2 ⟨rfl,hb2⟩
      have hci2:=HCX.out.ext hb2
      have hbx2:=(hb2.block wr.heap.size (by simp)).trans HBX.out
      obtain ⟨sb,hsb⟩:∃ sb,sb=wr.heap.size:=⟨_,rfl⟩
      have hsz2:sb<X2.heap.size:=by have:=hb2.size; simp at this; omega
      have hnr:u6.ownBlock≠some sb:=by
       intro e
       have:=own_lt HOWN.out e
       omega
      rw [<- hsb] at hbx2 ⊢
      clear hlk hb2 HBX HCX hsb r0 r1 r2 r3 hz hmz
      have s0:X2.cell? ⟨sb,0,none⟩=some (.string st.name):=(cell_of_row X2 sb 0 _ _ _ hbx2).trans rfl
      have s1:X2.cell? ⟨sb,1,none⟩=some (.int .i64 st.pos):=(cell_of_row X2 sb 1 _ _ _ hbx2).trans rfl
      have s2:X2.cell? ⟨sb,2,none⟩=some (.int .u8 st.kind):=(cell_of_row X2 sb 2 _ _ _ hbx2).trans rfl
      have s3:X2.cell? ⟨sb,3,none⟩=some (.slice Ac st.args.length ac):=(cell_of_row X2 sb 3 _ _ _ hbx2).trans rfl
      have HCI:=Lib.hid hci2
      have HBX:=Lib.hid hbx2
      clear hci2 hbx2
      by_cases h2:0<kindF st.name
      ·have hR:R=([],st.pos,182):=by rw [HR.out,HC2.out,if_neg (by rw [HOK.out]; exact h1),if_pos (.inr h2)]
       subst hR
       clear HR HC2
       have h2':(0:Int)<(kindF st.name:Int):=by omega
       go_wp2_with fail
       go_quiet (fail)
       go_wp2_with fail
       go_ret3
       exact ⟨_,rfl,World.ownsRow_nil _ _ _ _,nodew.below_drewN' HCI.out.low _⟩
      ·have h2':¬ (0:Int)<(kindF st.name:Int):=by omega
       have hr1:R=if (nodeS (lookE ents) st).2.2=0 then chkA (ents ++ [(st.name,out.length)]) (out ++ [(nodeS (lookE ents) st).1]) (l.drop (k+1)) else ([],(nodeS (lookE ents) st).2.1,(nodeS (lookE ents) st).2.2):=by
        rw [HR.out,HC2.out,if_neg (by rw [HOK.out]; exact h1),if_neg (by rw [HLK.out]; simp; omega)]
       have hnode:=node_s (lookE ents) st hsk B (.slice Ac st.args.length ac) w.heap.size X2 (HAR.out.keep fun g h1 h2=>HCI.out.low.block g (by omega)) HAC.out (by have:=HCI.out.low.size; omega) HCI.out.mp.at
       obtain ⟨x,hx⟩:∃ x,nodeS (lookE ents) st=x:=⟨_,rfl⟩
       rw [hx] at hr1 hnode
       obtain ⟨n,np,ne⟩:=x
       have HR1:=Lib.hid hr1
       clear HR HC2 hx hr1 h2 HAR HAC
       go_wp2_with fail
       refine hnode.mono ?_
       rintro e X3 ⟨rfl,hb3⟩
       have hci3:=HCI.out.ext hb3
       have hbx3:=(hb3.block sb hsz2).trans HBX.out
       have hz3:=hb3.size
       have HCI3:=Lib.hid hci3
       have HBX3:=Lib.hid hbx3
       clear HCI HBX s0 s1 s2 s3 hnode hb3 hci3 hbx3
       by_cases h3:ne=0
       ·have h3':((ne:Int) != 0)=false:=by rw [bne_eq_false_iff_eq]; omega
        have hR:R=chkA (ents ++ [(st.name,out.length)]) (out ++ [n]) (l.drop (k+1)):=by rw [HR1.out,if_pos h3]
        have HR:=Lib.hid hR
        clear HR1 h3 hR
        go_upto_region 14 with (refine wpList_store_row rfl 67 (.tmp 11) (.tmp 49) rfl X3.heap.size n.cells.toArray rfl rfl _ _ (heap_alloc_new X3 _) (nd_info _) (by rw [nd_size]; rfl) (nd_one _) ?_)
        have hci4:=HCI3.out.ext (below_setRow ((Below.refl _ X3).alloc (Nat.le_refl _) (.cells #[.int .u8 0,.float .f64 0,.float .f64 0,.float .f64 0,.float .f64 0,.float .f64 0,.float .f64 0,.float .f64 0,.float .f64 0,.float .f64 0,.float .f64 0,.float .f64 0,.float .f64 0,.float .f64 0,.float .f64 0,.float .f64 0,.float .f64 0,.int .i64 0,.int .i64 0] 67)) (Nat.le_refl _) n.cells.toArray)
        have hn4:NBlk ((X3.alloc (.cells #[.int .u8 0,.float .f64 0,.float .f64 0,.float .f64 0,.float .f64 0,.float .f64 0,.float .f64 0,.float .f64 0,.float .f64 0,.float .f64 0,.float .f64 0,.float .f64 0,.float .f64 0,.float .f64 0,.float .f64 0,.float .f64 0,.float .f64 0,.int .i64 0,.int .i64 0] 67)).setRow X3.heap.size n.cells.toArray) X3.heap.size n:=setRow_heap _ _ _ _ _ _ (heap_alloc_new X3 _)
        have hb4:((X3.alloc (.cells #[.int .u8 0,.float .f64 0,.float .f64 0,.float .f64 0,.float .f64 0,.float .f64 0,.float .f64 0,.float .f64 0,.float .f64 0,.float .f64 0,.float .f64 0,.float .f64 0,.float .f64 0,.float .f64 0,.float .f64 0,.float .f64 0,.float .f64 0,.int .i64 0,.int .i64 0] 67)).setRow X3.heap.size n.cells.toArray).heap[sb]? = _:=(setRow_other _ _ _ _ (by omega)).trans ((Below.heap_alloc X3 _ sb (by omega)).trans HBX3.out)
        obtain ⟨X4,hX4⟩:∃ X4,X4=(X3.alloc (.cells #[.int .u8 0,.float .f64 0,.float .f64 0,.float .f64 0,.float .f64 0,.float .f64 0,.float .f64 0,.float .f64 0,.float .f64 0,.float .f64 0,.float .f64 0,.float .f64 0,.float .f64 0,.float .f64 0,.float .f64 0,.float .f64 0,.float .f64 0,.int .i64 0,.int .i64 0] 67)).setRow X3.heap.size n.cells.toArray:=⟨_,rfl⟩
        have hz4:X3.heap.size<X4.heap.size:=by rw [hX4]; simp
        rw [<- hX4] at hci4 hn4 hb4 ⊢
        clear hX4
        obtain ⟨nb,hnb⟩:∃ nb,nb=X3.heap.size:=⟨_,rfl⟩
        rw [<- hnb] at hn4 ⊢
        have hsb4:sb<X4.heap.size:=by omega
        clear hnb HCI3 HBX3 hz3 hz4 hsz2
        have hz4:=hci4.low.size
        have hok:out.length=k:=HOK.out
        have hk96:k<4096:=by omega
        have HCI4:=Lib.hid hci4
        have HB4:=Lib.hid hb4
        have HN4:Hid (X4.heap[nb]? = some (.cells n.cells.toArray 67 (0,0))):=Lib.hid hn4
        clear hci4 hb4 hn4
        go_upto_region 16 with (fail)
        refine wp_region_lit ?_
        refine wl_val rfl u6 rfl ?_
        refine wpList_load_row rfl 67 (.tmp 11) rfl nb rfl _ n.cells.toArray _ _ HN4.out Tryz.underlying67 rfl (by kernel_rfl) ?_
        refine wl_bs rfl (.tmp 57) rfl n rfl ?_
        refine wpList_append_lies _ rfl (.tmp 56) (.tmp 58) 43 rfl (w.heap.size+1) 67 i0 _ 19 152 Tryz.underlying43 hi0 hz0 hz1 hz2 rfl (by omega) u6 out.length (ncells out) rfl (HCI4.out.own.alloc _) ⟨X4.heap.size,0,none⟩ 1 1 n.cells rfl rfl (World.news_of_block (heap_at X4 (.cells n.cells.toArray 67) _ rfl)) (nd_one' n) (by omega) (by unfold maxLen; omega) (by omega) (by simp; omega) _ rfl ?_
        intro gz capz wz hownz hgz hatz hltz
        obtain ⟨hkeep,W7,hup,hci7⟩:=ci_step HCI4.out hgz gz capz hownz st.name HLK.out
        have hb7:=(hkeep sb hsb4 hnr).trans HB4.out
        have s0:wz.cell? ⟨sb,0,none⟩=some (.string st.name):=(cell_of_row wz sb 0 _ _ _ hb7).trans rfl
        rw [hok] at hup
        have HCI7:=Lib.hid hci7
        clear hkeep hci7 hb7 hownz hgz hatz hltz HCI4 HB4 HN4 hok
        go_wp2_with fail
        go_roundw
        case rel=>exact ⟨k+1,ents ++ [(st.name,out.length)],out ++ [n],by omega,by go_num,by rw [List.length_append,HOK.out]; rfl,HCI7.out,by rw [<- HR.out]; exact hRC.out⟩
        case measure=>simp [intOf]; omega
       ·have h3':((ne:Int) != 0)=true:=by rw [bne_iff_ne]; omega
        have hR:R=([],np,ne):=by rw [HR1.out,if_neg h3]
        subst hR
        clear HR1 h3
        go_wp2_with (first | (refine wpList_store_row rfl 67 (.tmp 11) (.tmp 49) rfl X3.heap.size n.cells.toArray rfl rfl _ _ (heap_alloc_new X3 _) (nd_info _) (by rw [nd_size]; rfl) (nd_one _) ?_))
        go_ret3
        exact ⟨_,rfl,World.ownsRow_nil _ _ _ _,below_setRow (HCI3.out.low.alloc HCI3.out.low.size _) HCI3.out.low.size _⟩
   ·obtain rfl:k=l.length:=by omega
    have hR:R=(out,0,0):=by
     rw [HR.out,<- HCH.out,List.drop_length]; rfl
    subst hR
    clear HR HCH HX HA HVL HKD
    go_wp2_with fail
    go_ret3
    exact ⟨_,rfl,nodew.own_le hci.own (by omega),hci.low⟩
end Go.Proofs.YtejmbbkklhpnaaaGreatDoor.chkw

/- Nodes in memory, as the walks of chapter 20 want them. Conditions: as each theorem states. -/
namespace Go.Proofs.YtejmbbkklhpnaaaGreatDoor.chkw
open Go.RowKit
open nodew
open words
open qt
open Go.BigFrame
attribute [local go_sem] nodew.run_store_float
theorem row_form {W:World} {base:Nat} {e:TypeId} {size:Nat} {v:Value} {k:Nat} {xs:List Value} (h:W.ownsRow base e size v k xs):∃ a c,v = .slice a k c:=by
 rcases h.2 with ⟨rfl,h0⟩ | ⟨g,cap,_,rfl,_⟩
 ·subst h0; exact ⟨_,_,rfl⟩
 ·exact ⟨_,_,rfl⟩
theorem grown_below {w w':World} (h:Below w.heap.size w w') (row:Option Nat):w.grownBy w' row:=⟨h.os,h.tape,h.output,h.size,fun k hk _=>h.block k hk⟩
theorem grown_trans {a b c:World} {row:Option Nat} (h:a.grownBy b row) (k:b.grownBy c row):a.grownBy c row :=
 ⟨k.os.trans h.os,k.tape.trans h.tape,k.output.trans h.output,Nat.le_trans h.size k.size,fun i hi hr=>(k.block i (Nat.lt_of_lt_of_le hi h.size) hr).trans (h.block i hi hr)⟩
theorem heap_set (w:World) (g j:Nat) (cs:Array Value) (t:TypeId) (fr:Nat × Nat) (v:Value) (h:w.heap[g]? = some (.cells cs t fr)) :
  (w.setCell ⟨g,j,none⟩ v).heap[g]? = some (.cells (cs.setIfInBounds j v) t fr):=by
 obtain ⟨hlt,hk⟩:=Array.getElem?_eq_some_iff.1 h
 show (w.heap.modify g _)[g]? = _
 rw [Array.getElem?_eq_getElem (by rw [Array.size_modify]; exact hlt),Array.getElem_modify_self,hk]
 simp
theorem heap_at (w:World) (o:Obj) (k:Nat) (h:w.heap.size=k):(w.alloc o).heap[k]? = some o:=by subst h; exact heap_alloc_new w o
def NArg (W:World) (B:Nat) (v:Value) (l:List Nd):Prop :=
 ∃ A c,v = .slice A l.length c∧l.length <= c∧(A=none -> c=0)∧(l≠[] -> ∃ g off,A=some ⟨g,off,none⟩∧g<B∧g<W.heap.size ∧ ∀ j u,(ncells l)[j]? = some u -> W.cell? ⟨g,off+j,none⟩=some u)
theorem NArg.keep {W W':World} {B:Nat} {v:Value} {l:List Nd} (h:NArg W B v l) (hz:W.heap.size <= W'.heap.size) (hg:∀ g,g<B -> g<W.heap.size -> W'.heap[g]? = W.heap[g]?):NArg W' B v l:=by
 obtain ⟨A,c,hv,hc,hn,hx⟩:=h
 refine ⟨A,c,hv,hc,hn,fun h0 => ?_⟩
 obtain ⟨g,off,hA,hB,hl,hx⟩:=hx h0
 exact ⟨g,off,hA,hB,by omega,fun j u hu=>(World.cell?_of_block (a:=⟨g,off+j,none⟩) (hg g hB hl)).trans (hx j u hu)⟩
theorem NArg.ext {W u:World} {B:Nat} {v:Value} {l:List Nd} (h:NArg W B v l) (hb:Below W.heap.size W u):NArg u B v l:=h.keep hb.size fun g _ hg=>hb.block g hg
theorem NArg.mono {W:World} {B B':Nat} {v:Value} {l:List Nd} (h:NArg W B v l) (hb:B <= B'):NArg W B' v l:=by
 obtain ⟨A,c,hv,hc,hn,hx⟩:=h
 refine ⟨A,c,hv,hc,hn,fun h0 => ?_⟩
 obtain ⟨g,off,hA,hB,r⟩:=hx h0
 exact ⟨g,off,hA,by omega,r⟩
theorem NArg.read {W:World} {B:Nat} {v:Value} {l:List Nd} (h:NArg W B v l):NRead W B v l:=by
 obtain ⟨A,c,hv,hc,hn,hx⟩:=h
 exact ⟨A,c,hv,hx⟩
theorem NArg.of_own {W:World} {base:Nat} {v:Value} {l:List Nd} (h:W.ownsRow base 67 19 v l.length (ncells l)):NArg W W.heap.size v l:=by
 rcases h.2 with ⟨rfl,hn⟩ | ⟨g,cap,cur,rfl,_,hgg,hc,_⟩
 ·exact ⟨none,0,by rw [hn],by omega,fun _=>rfl,fun h0=>absurd (List.eq_nil_of_length_eq_zero hn) h0⟩
 ·refine ⟨_,cap,rfl,hc,fun h=>by simp at h,fun _=>⟨g,0,rfl,(Array.getElem?_eq_some_iff.1 hgg).1,(Array.getElem?_eq_some_iff.1 hgg).1,fun j u hu => ?_⟩⟩
  have hc:=h.cells (g:=g) rfl j u hu
  have hadd:(⟨g,0,none⟩:Addr).add j=⟨g,j,none⟩:=by unfold Addr.add; split <;> simp_all
  rw [hadd] at hc
  rw [Nat.zero_add]
  exact hc
theorem NArg.one (w:World) (n:Nd) (u:World) (hu:u.heap[w.heap.size]? = some (.cells n.cells.toArray 67 (0,0))):NArg u u.heap.size (.slice (some ⟨w.heap.size,0,none⟩) 1 1) [n]:=by
 have hl:=(Array.getElem?_eq_some_iff.1 hu).1
 refine ⟨_,1,rfl,Nat.le_refl _,fun h=>by simp at h,fun _=>⟨w.heap.size,0,rfl,hl,hl,fun j v hv => ?_⟩⟩
 rw [cell_of_row u w.heap.size _ _ _ _ hu,Nat.zero_add]
 simpa [ncells] using hv
theorem ncells_len (l:List Nd):(ncells l).length=l.length*19:=by
 induction l with
 | nil=>rfl
 | cons a r ih=>show (a.cells ++ ncells r).length=_; rw [List.length_append,ih,nd_cells_len,List.length_cons]; omega
theorem box_run (n:Nd) (w:World):(Instr.box 67 n.val).run Tryz.prog w = .ok (pt w.heap.size 0) (w.alloc (.cells n.cells.toArray 67)):=by
 kernel_rfl
theorem exec_box {o:Oper} (x:Operand) (ho:o.op = .box 67 x) (a:Act) (w:World) (n:Nd) (hx:a.eval x=n.val):(execOp a.eval o).run Tryz.prog w = .ok (.value (pt w.heap.size 0)) (w.alloc (.cells n.cells.toArray 67)):=by
 unfold execOp
 simp only [ho,Sem.run_bind,hx,box_run,Result.andThen_ok,Sem.run_pure]
theorem NArg.form {W:World} {B:Nat} {v:Value} {l:List Nd} (h:NArg W B v l):∃ A c,v = .slice A l.length c:=by
 obtain ⟨A,c,hv,_⟩:=h
 exact ⟨A,c,hv⟩
theorem wl_val_g {P:Program} {ops:Array Oper} {rest:List Oper} {o:Oper} {a:Act} {w w':World} {Q:Exit -> Act -> World -> Prop} (hgd:Region.wanted o (yielded ops a.tmps)=true) (v:Value) (hr:(execOp a.eval o).run P w = .ok (.value v) w')
  (h:wpList P ops Q rest (a.put o.dst v) w'):wpList P ops Q (o :: rest) a w :=
 wpList_wanted w hgd fun K hK=>by
  unfold Oper.wp
  rw [hr]
  exact hK _ _ h
theorem wl_load_nd {ops:Array Oper} {rest:List Oper} {o:Oper} {a:Act} {w:World} {Q:Exit -> Act -> World -> Prop} (hgd:o.guard=none) (x:Operand) (ho:o.op = .load 67 x) (ad:Value) (hx:a.eval x=ad) (n:Nd)
  (hl:(Instr.loadAt 67 ad).run Tryz.prog w = .ok n.val w) (h:wpList Tryz.prog ops Q rest (a.put o.dst n.val) w):wpList Tryz.prog ops Q (o :: rest) a w:=by
 refine wl_val hgd _ ?_ h
 unfold execOp
 simp only [ho,hx,hl,Sem.run_bind,Sem.run_pure,Result.andThen_ok]
theorem NRead.of_own {W:World} {base:Nat} {v:Value} {l:List Nd} (h:W.ownsRow base 67 19 v l.length (ncells l)):NRead W W.heap.size v l:=by
 rcases h.2 with ⟨rfl,hn⟩ | ⟨g,cap,cur,rfl,_,hgg,_⟩
 ·exact ⟨_,_,by rw [hn],fun h0=>absurd (List.eq_nil_of_length_eq_zero hn) h0⟩
 ·refine ⟨_,_,rfl,fun _=>⟨g,0,rfl,(Array.getElem?_eq_some_iff.1 hgg).1,(Array.getElem?_eq_some_iff.1 hgg).1,fun j u hu => ?_⟩⟩
  have hc:=h.cells (g:=g) rfl j u hu
  have hadd:(⟨g,0,none⟩:Addr).add j=⟨g,j,none⟩:=by unfold Addr.add; split <;> simp_all
  rw [hadd] at hc
  rw [Nat.zero_add]
  exact hc
end Go.Proofs.YtejmbbkklhpnaaaGreatDoor.chkw

/- The small functions of unrounded scaling: what each answers. No conditions but those stated. -/
namespace Go.Proofs.YtejmbbkklhpnaaaGreatDoor.prnw
open Go.RowKit
open nodew
open chkw
theorem skew_any (e:Int) (h0 : -3000 <= e) (h1:e <= 3000) (w:World):Calls Tryz.prog 159 #[.int .i64 e] w (Same w (.int .i64 ((e*631305-261663) / 2097152))):=by
 go_enter Tryz.func159,Tryz.ntmps159
 go_wp2
 go_ret
 exact ⟨rfl,rfl⟩
theorem l10_any (e:Int) (h0 : -3000 <= e) (h1:e <= 3000) (w:World):Calls Tryz.prog 136 #[.int .i64 e] w (Same w (.int .i64 (e*78913 / 262144))):=by
 go_enter Tryz.func136,Tryz.ntmps136
 go_wp2
 go_ret
 exact ⟨rfl,rfl⟩
theorem floor_any (u:Int) (h0:0 <= u) (h1:u<18446744073709551616) (w:World):Calls Tryz.prog 165 #[.int .u64 u] w (Same w (.int .u64 (u / 4))):=by
 go_enter Tryz.func165,Tryz.ntmps165
 go_wp2
 go_ret
 exact ⟨rfl,rfl⟩
theorem ceil_any (u:Int) (_h0:0 <= u) (_h1:u<18446744073709551616) (w:World):Calls Tryz.prog 164 #[.int .u64 u] w (Same w (.int .u64 (ceilI u))):=by
 go_enter Tryz.func164,Tryz.ntmps164
 go_wp2
 go_ret
 exact ⟨rfl,rfl⟩
theorem nudge_any (u d:Int) (_h0:0 <= u) (_h1:u<18446744073709551616) (_d0 : -1 <= d) (_d1:d <= 1) (w:World):Calls Tryz.prog 163 #[.int .u64 u,.int .i64 d] w (Same w (.int .u64 (nudgeI u d))):=by
 go_enter Tryz.func163,Tryz.ntmps163
 go_wp2
 go_ret
 exact ⟨rfl,rfl⟩
end Go.Proofs.YtejmbbkklhpnaaaGreatDoor.prnw

/- Unrounded scaling. No conditions but those stated. -/
namespace Go.Proofs.YtejmbbkklhpnaaaGreatDoor.prnw
open Go.RowKit
theorem and63 (s:Int):0 <= bits BinOp.and IntKind.i64 s 63∧bits BinOp.and IntKind.i64 s 63 <= 63:=by
 have h:bits BinOp.and IntKind.i64 s 63=IntKind.i64.wrap (((BitVec.ofInt 64 s &&& BitVec.ofInt 64 63).toNat:Nat):Int):=rfl
 have h2:(BitVec.ofInt 64 s &&& BitVec.ofInt 64 63).toNat <= 63:=by
  rw [BitVec.toNat_and]
  exact Nat.le_trans Nat.and_le_right (by decide)
 rw [h,IntKind.wrap_i64]
 omega
theorem or_bd (a b:Int):0 <= bits BinOp.or IntKind.u64 a b∧bits BinOp.or IntKind.u64 a b<18446744073709551616:=w64 _
def usI (x hi lo:Nat) (s:Int):Int :=
 if (IntKind.u64.wrap (((x*hi / 18446744073709551616:Nat):Int) / 2 ^ (bits BinOp.and IntKind.i64 s 63).toNat*2 ^ (bits BinOp.and IntKind.i64 s 63).toNat) != ((x*hi / 18446744073709551616:Nat):Int))=true then bits BinOp.or IntKind.u64 (((x*hi / 18446744073709551616:Nat):Int) / 2 ^ (bits BinOp.and IntKind.i64 s 63).toNat) 1
 else bits BinOp.or IntKind.u64 (IntKind.u64.wrap (((x*hi / 18446744073709551616:Nat):Int)-(if x*hi % 18446744073709551616<x*lo / 18446744073709551616 then 1 else 0)) / 2 ^ (bits BinOp.and IntKind.i64 s 63).toNat)
  (if 1<IntKind.u64.wrap (((x*hi % 18446744073709551616:Nat):Int)-((x*lo / 18446744073709551616:Nat):Int)) then 1 else 0)
theorem us_bd (x hi lo:Nat) (s:Int):0 <= usI x hi lo s∧usI x hi lo s<18446744073709551616:=by
 unfold usI
 split
 ·exact or_bd _ _
 ·exact or_bd _ _
def UsPost (w:World) (r:Int) (e:Ending) (w':World):Prop:=e = .returned (.int .u64 r) ∧ ∃ n,w'=w.drewN n
set_option maxRecDepth 100000 in
set_option maxHeartbeats 1000000 in
theorem uscale_any (x hi lo:Nat) (s:Int) (hx:x<18446744073709551616) (hh:hi<18446744073709551616) (hlo:lo<18446744073709551616) (pb:Nat) (w:World) (hb:SC w pb hi lo s) :
  Calls Tryz.prog 162 #[.int .u64 x,.pointer (some ⟨pb,0,none⟩)] w (UsPost w (usI x hi lo s)):=by
 have d0:w.cell? ⟨pb,0,none⟩=some (.int .u64 (hi:Nat)):=by rw [cell_of_row _ _ _ _ _ _ hb]; rfl
 have d1:w.cell? ⟨pb,1,none⟩=some (.int .u64 (lo:Nat)):=by rw [cell_of_row _ _ _ _ _ _ hb]; rfl
 have d2:w.cell? ⟨pb,2,none⟩=some (.int .i64 s):=by rw [cell_of_row _ _ _ _ _ _ hb]; rfl
 have m1:=Tryz.bits_Mul64 x hi hx hh w
 have m2:=Tryz.bits_Mul64 x lo hx hlo w
 obtain ⟨R,hR⟩:∃ R,usI x hi lo s=R:=⟨_,rfl⟩
 rw [hR]
 unfold usI at hR
 obtain ⟨k,hk⟩:∃ k:Int,bits BinOp.and IntKind.i64 s 63=k:=⟨_,rfl⟩
 have k0:0 <= k:=by rw [<- hk]; exact (and63 s).1
 have k1:k <= 63:=by rw [<- hk]; exact (and63 s).2
 rw [hk] at hR
 have H1:((x*hi / 18446744073709551616:Nat):Int)<18446744073709551616:=by
  have h1:x*hi<18446744073709551616*18446744073709551616:=Nat.mul_lt_mul_of_lt_of_lt hx hh
  have:=Nat.div_lt_of_lt_mul h1
  omega
 obtain ⟨H,hH⟩:∃ H,x*hi / 18446744073709551616=H:=⟨_,rfl⟩
 obtain ⟨M,hM⟩:∃ M,x*hi % 18446744073709551616=M:=⟨_,rfl⟩
 obtain ⟨L,hL⟩:∃ L,x*lo / 18446744073709551616=L:=⟨_,rfl⟩
 rw [hH] at H1
 rw [hH,hM] at m1
 rw [hL] at m2
 rw [hH,hM,hL] at hR
 have N1:=Lib.hid m1
 have N2:=Lib.hid m2
 have H0:(0:Int) <= (H:Int):=by omega
 have HR:=Lib.hid hR
 clear hH hM hL m1 m2 hb hR
 go_enter Tryz.func162,Tryz.ntmps162
 go_wp2_with fail
 (with_reducible refine N1.out.mono ?_)
 rintro e w' ⟨rfl,hw'⟩
 obtain rfl:=hw'.symm
 go_upto_region 3 with (fail)
 clear hk
 go_upto_if 30 with (fail)
 cases hb1:(IntKind.u64.wrap ((H:Int) / 2 ^ k.toNat*2 ^ k.toNat) != (H:Int)) with
 | true =>
  have hR2:=HR.out
  rw [if_pos hb1] at hR2
  have HR2:=Lib.hid hR2
  clear hb1 hR2
  go_wp2_with fail
  go_ret
  exact ⟨by rw [HR2.out]; rfl,0,rfl⟩
 | false =>
  have hR2:=HR.out
  rw [if_neg (by rw [hb1]; decide)] at hR2
  have HR2:=Lib.hid hR2
  clear hb1 hR2
  go_wp2_with fail
  (with_reducible refine N2.out.mono ?_)
  rintro e w' ⟨rfl,hw'⟩
  obtain rfl:=hw'.symm
  go_wp2_with fail
  (with_reducible refine (b2u _ _).mono ?_)
  rintro e w' ⟨rfl,hw'⟩
  obtain rfl:=hw'.symm
  go_upto_region 7 with (fail)
  clear H1
  go_quiet (exact Calls.quiet_of_same (b2u _ _))
  all_goals go_wp2_with fail
  all_goals go_ret
  all_goals refine ⟨?_,nq,rfl⟩
  all_goals rw [<- HR2.out]
  all_goals (repeat (first | rw [if_pos (by assumption)] | rw [if_neg (by assumption)] | rw [if_neg (by omega)] | rw [if_pos (by omega)]))
  all_goals rfl
end Go.Proofs.YtejmbbkklhpnaaaGreatDoor.prnw

/- Unrounded scaling, and the small functions about it. No conditions but those stated. -/

