/- The walk of check.node. Conditions: as each theorem states. -/
import Derived.Test.YtcbgkbidgpemfaaGreatDoorMf00
import Derived.Test.YtcbgkbidgpemfaaGreatDoorMf02
import Derived.Test.YtcbgkbidgpemfaaGreatDoorMf07
import Derived.Outline
import Derived.Deep.LoopGhost
set_option maxRecDepth 100000
set_option maxHeartbeats 1500000
namespace Go.Proofs.YtcbgkbidgpemfaaGreatDoor.chkw
open Go.RowKit
open lexw
open parw
open nodew
open qt
open Go.BigFrame
attribute [local go_sem] parw.run_store_float
def Nd.put (n:Nd) (j v:Nat):Nd:={ n with x:=n.x.set (j-1) v }
def numsS:List (Nat × Nat × Nat) -> List PArg -> Nd -> Nd × Int × Nat
 | d :: r,a :: q,n=>if withinF d.2.1 d.2.2 a.num then numsS r q (Nd.put n d.1 a.num) else (Nd.put n d.1 a.num,a.pos,184)
 | _,_,n=>(n,0,0)
def namesS (look:ByteArray -> Option Nat):List PArg -> Nat -> Nd -> Nd × Int × Nat
 | [],_,n=>(n,0,0)
 | a :: q,i,n=>match look a.name with
  | none=>(n,a.pos,183)
  | some p=>namesS look q (i+1) (if i=0 then { n with a:=p } else { n with b:=p })
def nodeZ (k:Nat):Nd:=⟨k,List.replicate 16 0,0,0⟩
def nodeS (look:ByteArray -> Option Nat) (s:PStmt):Nd × Int × Nat :=
 if (fieldList s.kind).length=0∨s.args.length≠(fieldList s.kind).length+belowN s.kind then (nodeZ s.kind,s.pos,170)
 else if (numsS (fieldList s.kind) s.args (nodeZ s.kind)).2.2=0 then namesS look (s.args.drop (fieldList s.kind).length) 0 (numsS (fieldList s.kind) s.args (nodeZ s.kind)).1
 else numsS (fieldList s.kind) s.args (nodeZ s.kind)
theorem nd_put_cells (n:Nd) (hl:n.x.length=16) (j v:Nat) (h1:1 <= j) (h2:j <= 16):(Nd.put n j v).cells=n.cells.set j (.float .f64 v):=by
 obtain ⟨k,x,a,b⟩:=n;simp only at hl
 match x,hl with
 | [x1,x2,x3,x4,x5,x6,x7,x8,x9,x10,x11,x12,x13,x14,x15,x16],_ =>
  have:j=1∨j=2∨j=3∨j=4∨j=5∨j=6∨j=7∨j=8∨j=9∨j=10∨j=11∨j=12∨j=13∨j=14∨j=15∨j=16:=by omega
  rcases this with rfl | rfl | rfl | rfl | rfl | rfl | rfl | rfl | rfl | rfl | rfl | rfl | rfl | rfl | rfl | rfl <;> rfl
theorem nblk_store {w:World} {nb:Nat} {n n':Nd} (h:NBlk w nb n) (j:Nat) (v:Value) (hc:n'.cells=n.cells.set j v):NBlk (w.setCell ⟨nb,j,none⟩ v) nb n':=by
 obtain ⟨hlt,hk⟩:=Array.getElem?_eq_some_iff.1 h;show (w.heap.modify nb _)[nb]? = _;rw [Array.getElem?_eq_getElem (by rw [Array.size_modify]; exact hlt),Array.getElem_modify_self,hk,hc];simp
def MapAt (W:World) (mb:Nat) (look:ByteArray -> Option Nat):Prop :=
 mb<W.heap.size ∧ ∀ W':World,W'.heap[mb]? = W.heap[mb]? -> ∀ k,(Instr.lookup 116 (.map (some mb)) (.string k) true).run Tryz.prog W' = .ok (.tuple #[.int .i64 ((look k).getD 0:Nat),.bool (look k).isSome]) W'
theorem numsS_step (fl:List (Nat × Nat × Nat)) (args:List PArg) (k:Nat) (n:Nd) (hk:k<fl.length) (ha:k<args.length) :
  numsS (fl.drop k) (args.drop k) n=if withinF fl[k].2.1 fl[k].2.2 args[k].num then numsS (fl.drop (k+1)) (args.drop (k+1)) (Nd.put n fl[k].1 args[k].num) else (Nd.put n fl[k].1 args[k].num,args[k].pos,184):=by
 rw [List.drop_eq_getElem_cons hk,List.drop_eq_getElem_cons ha];rfl
def CapOk:Value -> Prop
 | .slice _ n c=>n <= c
 | _=>False
theorem idx_ptr (nb j:Nat) (hj:j<2) (w:World):(Instr.index 154 (.agg #[pt nb 17,pt nb 18]) (.int .i64 (j:Int))).run Tryz.prog w = .ok (pt nb (17+j)) w:=by
 have:j=0∨j=1:=by omega
 rcases this with rfl | rfl
 ·simp [Instr.index,asIntOf,run_underlying Tryz.underlying154,go_sem,part,Tryz.sizeOf153,Tryz.isAgg153]
 ·simp [Instr.index,asIntOf,run_underlying Tryz.underlying154,go_sem,part,Tryz.sizeOf153,Tryz.isAgg153]
theorem slice_from (A:Option Addr) (len cap k:Nat) (h:k <= len) (wx:World) :
  (Instr.slice 60 (.slice A len cap) (some (.int .i64 (k:Int))) none none).run Tryz.prog wx = .ok (.slice (if cap=k then A else A.map (·.add (k*3))) (len-k) (cap-k)) wx:=by
 have h0:(0:Int) <= (k:Int):=by omega
 have h1:(k:Int) <= (len:Int):=by omega
 simp [Instr.slice,run_underlying Tryz.underlying60,Instr.sliceBounds,run_sliceBound,h,Tryz.sizeOf59]
theorem slice_from_at (ga offa len cap k bl:Nat) (hcap:len <= cap) (hl:len=k+bl) :
  ∃ Y c,(∀ wx:World,(Instr.slice 60 (.slice (some ⟨ga,offa,none⟩) len cap) (some (.int .i64 (k:Int))) none none).run Tryz.prog wx = .ok (.slice Y bl c) wx)∧(0<bl -> Y=some ⟨ga,offa+k*3,none⟩):=by
 refine ⟨if cap=k then some ⟨ga,offa,none⟩ else (some (⟨ga,offa,none⟩:Addr)).map (·.add (k*3)),cap-k,fun wx=>(slice_from (some ⟨ga,offa,none⟩) len cap k (by omega) wx).trans ?_,?_⟩
 ·rw [show len-k=bl by omega]
 ·intro h;rw [if_neg (by omega)];simp [Addr.add]
def Nd.setP (n:Nd) (i p:Nat):Nd:=if i=0 then { n with a:=p } else { n with b:=p }
theorem setP_cells (n:Nd) (j p:Nat) (hj:j<2):(Nd.setP n j p).cells=n.cells.set (17+j) (.int .i64 p):=by
 have:j=0∨j=1:=by omega
 rcases this with rfl | rfl <;> rfl
theorem cell_ab (n:Nd) (j:Nat) (hj:j<2):∃ v,n.cells[17+j]? = some (.int .i64 v):=by
 have:j=0∨j=1:=by omega
 rcases this with rfl | rfl
 ·exact ⟨_,rfl⟩
 ·exact ⟨_,rfl⟩
theorem namesS_step (look:ByteArray -> Option Nat) (args:List PArg) (m i:Nat) (n:Nd) (h:m<args.length) :
  namesS look (args.drop m) i n=match look args[m].name with | none=>(n,args[m].pos,183) | some p=>namesS look (args.drop (m+1)) (i+1) (Nd.setP n i p):=by
 rw [List.drop_eq_getElem_cons h];rfl
theorem Nd.put_len (n:Nd) (j v:Nat):(Nd.put n j v).x.length=n.x.length:=by simp [Nd.put]
structure Kp (B:Nat) (w W:World) (nb:Nat) (u:World):Prop where
 low:Below B w u
 size:W.heap.size <= u.heap.size
 blk:∀ b,b<W.heap.size -> b≠nb -> u.heap[b]? = W.heap[b]?
theorem Kp.ext {B:Nat} {w W:World} {nb:Nat} {u v:World} (h:Kp B w W nb u) (hB:B <= W.heap.size) (hb:Below u.heap.size u v):Kp B w W nb v :=
 ⟨h.low.trans (hb.mono (by have:=h.size; omega)),Nat.le_trans h.size hb.size,fun b h1 h2=>(hb.block b (Nat.lt_of_lt_of_le h1 h.size)).trans (h.blk b h1 h2)⟩
theorem Kp.set {B:Nat} {w W:World} {nb:Nat} {u:World} (h:Kp B w W nb u) (hB:B <= nb) (j:Nat) (v:Value):Kp B w W nb (u.setCell ⟨nb,j,none⟩ v) :=
 ⟨h.low.setCell hB v,by show _ <= (Array.modify _ _ _).size; rw [Array.size_modify]; exact h.size,fun b h1 h2=>(Below.heap_setCell _ _ _ _ h2).trans (h.blk b h1 h2)⟩
theorem Kp.cell {B:Nat} {w W:World} {nb:Nat} {u:World} (h:Kp B w W nb u) {p:Addr} {v:Value} (hc:W.cell? p=some v) (hn:p.block≠nb):u.cell? p=some v :=
 (World.cell?_of_block (h.blk p.block (World.block_lt_of_cell? W p hc) hn)).trans hc
def NodePost (w:World) (r:Nd × Int × Nat) (e:Ending) (w':World):Prop :=
 e = .returned (.tuple #[r.1.val,.int .i64 r.2.1,.int .i64 r.2.2])∧Below w.heap.size w w'
theorem quiet_load_nd {C:World -> Prop} {ops:Array Oper} {o:Oper} {rest:List Oper} {a:Act} {Q:Act -> Prop} (hgd:o.guard=none) (x:Operand) (ho:o.op = .load 49 x) (g:Nat) (hx:a.eval x = .pointer (some ⟨g,0,none⟩)) (n:Nd) (hg:∀ w,C w -> NBlk w g n)
  (h:wpQuiet Tryz.prog ops C Q rest (a.put o.dst n.val)):wpQuiet Tryz.prog ops C Q (o :: rest) a:=by
 refine wpQuiet_want (by simp [Region.wanted,hgd]) fun K hK=>⟨n.val,?_,hK _ h⟩;intro w' hw';unfold Oper.quietAt execOp;simp only [ho,hx,(hg w' hw').loadAt,Sem.run_bind,Sem.run_pure,Result.andThen_ok,Oper.quietUpon];exact ⟨trivial,trivial⟩
theorem writes_nd {C:World -> Prop} {w:World} {ops:Array Oper} {o:Oper} {a:Act} {K:Act -> World -> Prop} (hgd:o.guard=none) (x y:Operand) (ho:o.op = .store 49 x y) (g:Nat) (n:Nd) (hx:a.eval x = .pointer (some ⟨g,0,none⟩)) (hy:a.eval y=n.val)
  (old:Array Value) (hg:w.heap[g]? = some (.cells old 49 (0,0))) (hold:old.size=19) (hC:C (w.setRow g n.cells.toArray)) (h:K (a.put o.dst undef) (w.setRow g n.cells.toArray)):writes Tryz.prog ops C w K [o] a:=by
 refine ⟨by simp [Region.wanted,hgd],?_⟩;have hr:=run_storeVar_row w g 49 49 old n.cells.toArray hg (nd_info n) (by rw [nd_size]; exact hold) (nd_one n);have hy':a.eval y = .agg n.cells.toArray:=hy;unfold execOp;simp only [ho,hx,hy',Instr.storeAt,Instr.sureAddr,Sem.run_bind,Sem.run_pure,Result.andThen_ok,hr,goUpon];exact ⟨hC,h⟩
theorem results_node (w:World) (tmps:Array Value) (g:Nat) (n:Nd) (p q:Int) (h4:tmps.getD 4 undef = .pointer (some ⟨g,0,none⟩)) (h5:tmps.getD 5 undef = .int .i64 p) (h6:tmps.getD 6 undef = .int .i64 q) (hg:NBlk w g n) :
  (results Tryz.f67 tmps).run Tryz.prog w = .ok (.tuple #[n.val,.int .i64 p,.int .i64 q]) w:=by
 have h4':tmps[4]?.getD undef = .pointer (some ⟨g,0,none⟩):=by simpa using h4
 have h5':tmps[5]?.getD undef = .int .i64 p:=by simpa using h5
 have h6':tmps[6]?.getD undef = .int .i64 q:=by simpa using h6
 simp [results,Tryz.results67,h4',h5',h6',asAddr,hg.load,Result.andThen]
theorem node_s (look : ByteArray → Option Nat) (s : PStmt) (_hk6 : s.kind < 256) (B : Nat) (av : Value) (mb : Nat) (w : World) (ha : ARead w B av s.args) (hcap : CapOk av) (hB : B ≤ w.heap.size) (hm : MapAt w mb look) :
    Calls Tryz.prog 67 #[.agg #[.string s.name, .int .i64 s.pos, .int .u8 s.kind, av], .map (some mb)] w (NodePost w (nodeS look s)) := by
  obtain ⟨R, hR⟩ : ∃ R, R = nodeS look s := ⟨_, rfl⟩;rw [← hR];have HR := Yd hR;clear hR;obtain ⟨A, ac, rfl, hax⟩ := ha;have hcap : s.args.length ≤ ac := hcap;go_enter Tryz.func67, Tryz.ntmps67;go_wp2_with fail;refine (fields_any s.kind _).mono ?_;rintro e w1 ⟨v, l, rfl, hown, hF, htri, hB1⟩;have hz1 : w.heap.size + 2 ≤ w1.heap.size := by have := hB1.size; simpa using this
  have hl7 : l.length ≤ 7 := by
    rw [tri_len htri]; unfold fieldList; repeat' split
    all_goals simp
  have hlen : (fieldList s.kind).length = l.length := by rw [← htri, List.length_map]
  have hb2 : belowN s.kind ≤ 2 := by unfold belowN; repeat' split
                                     all_goals omega
  have hsb : w1.heap[w.heap.size]? = some (.cells #[.string s.name, .int .i64 s.pos, .int .u8 s.kind, .slice A s.args.length ac] 62 (0, 0)) :=
    (hB1.block w.heap.size (by simp; try omega)).trans ((World.heap_alloc_lt' _ _ _ (by simp)).trans (heap_alloc_new w _))
  have hrb : ∃ cz : Array Value, cz.size = 19 ∧ w1.heap[w.heap.size + 1]? = some (.cells cz 49 (0, 0)) :=
    ⟨_, by rfl, (hB1.block (w.heap.size + 1) (by simp; try omega)).trans (heap_at _ _ _ (by simp))⟩
  have hBw1 : Below w.heap.size w w1 := (((Below.refl _ w).alloc (Nat.le_refl _) _).alloc (by simp) _).trans (hB1.mono (by simp; try omega));have hFr := FRow.of_own hown;simp only [World.size_alloc] at hFr hF;obtain ⟨fa, fc, rfl, hfcell⟩ := hFr;clear hown hB1;obtain ⟨ll, hll⟩ : ∃ ll, l.length = ll := ⟨_, rfl⟩;rw [hll];have HLL := Yd hll;rw [hll] at hl7 hlen;clear hll;have S2 : w1.cell? ⟨w.heap.size, 2, none⟩ = some (.int .u8 s.kind) := (cell_of_row w1 w.heap.size 2 _ _ _ hsb).trans (by rfl);go_wp2_with (first | (refine wpList_store_row rfl 49 (.tmp 8) (.tmp 20) rfl w1.heap.size (nodeZ s.kind).cells.toArray rfl rfl _ _ (heap_alloc_new w1 _) (nd_info _) (by rw [nd_size]; rfl) (nd_one _) ?_));obtain ⟨W, hW⟩ : ∃ W, W = (w1.alloc (.cells #[.int .u8 0, .float .f64 0, .float .f64 0, .float .f64 0, .float .f64 0, .float .f64 0, .float .f64 0, .float .f64 0, .float .f64 0, .float .f64 0, .float .f64 0, .float .f64 0, .float .f64 0, .float .f64 0, .float .f64 0, .float .f64 0, .float .f64 0, .int .i64 0, .int .i64 0] 49)).setRow w1.heap.size (nodeZ s.kind).cells.toArray := ⟨_, rfl⟩;have hBW : Below w1.heap.size w1 W := by rw [hW]; exact below_setRow ((Below.refl _ w1).alloc (Nat.le_refl _) _) (Nat.le_refl _) _
  have hnb : NBlk W w1.heap.size (nodeZ s.kind) := by rw [hW]; exact setRow_heap _ _ _ _ _ _ (heap_alloc_new w1 _)
  have hzW : w1.heap.size < W.heap.size := by rw [hW]; simp
  rw [← hW];clear hW;have hsb := (hBW.block w.heap.size (by omega)).trans hsb;obtain ⟨cz, hcz, hrb⟩ := hrb;have hrb := (hBW.block (w.heap.size + 1) (by omega)).trans hrb;have hBW' := hBw1.trans (hBW.mono (by omega));have hF := hF.below hBW (Nat.le_refl _);have S1 : W.cell? ⟨w.heap.size, 1, none⟩ = some (.int .i64 s.pos) := (cell_of_row W w.heap.size 1 _ _ _ hsb).trans (by rfl);have S2 : W.cell? ⟨w.heap.size, 2, none⟩ = some (.int .u8 s.kind) := (cell_of_row W w.heap.size 2 _ _ _ hsb).trans (by rfl);have S3 : W.cell? ⟨w.heap.size, 3, none⟩ = some (.slice A s.args.length ac) := (cell_of_row W w.heap.size 3 _ _ _ hsb).trans (by rfl);generalize w1.heap.size = nb at *;have HM := Yd hm;have HAX := Yd hax;have HFC := Yd hfcell;have HFF := Yd hF;have HTRI := Yd (And.intro htri hlen);have HNB := Yd hnb;have HSB := Yd hsb;have HRB := Yd hrb;have HBW := Yd hBW';have HBQ := Yd hBW;clear hm hax hfcell hF htri hnb hsb hrb hBW' hBW hBw1
  by_cases hbad : ll = 0 ∨ s.args.length ≠ ll + belowN s.kind
  · have hR : R = (nodeZ s.kind, s.pos, 170) := by rw [HR.out]; unfold nodeS; rw [if_pos (by rw [hlen]; exact hbad)]
    subst hR;clear HTRI
    by_cases h0 : ll = 0
    case' pos =>
      have e0 : ((ll : Int) == 0) = true := Yt (by omega)
      clear hlen hl7 h0 hbad;go_upto_region 3 with (fail);simp only [Act.put];go_quiet (fail);go_upto_region 4 with (fail)
    case' neg =>
      have e0 : ((ll : Int) == 0) = false := Yf (by omega)
      have e1 : IntKind.i64.wrap ((ll : Int) + (belowN s.kind : Int)) = (ll : Int) + (belowN s.kind : Int) := IntWalk.i64_in _ (by omega);have e2 : ((s.args.length : Int) != (ll : Int) + (belowN s.kind : Int)) = true := by rw [bne_iff_ne]; omega
      clear hlen hl7 h0 hbad;go_upto_region 3 with (fail);simp only [Act.put];go_quiet ((go_at_call 77; exact Calls.quiet_of_same (cbelow_any _ _)));clear e1 e2;go_upto_region 4 with (fail)
    all_goals
      obtain ⟨nz, hnz⟩ : ∃ nz, nodeZ s.kind = nz := ⟨_, rfl⟩;have HNZ := Yd hnz;rw [hnz] at HNB;clear hnz;have hcell : ∀ u : ExtBut (W.drewN nq) (w.heap.size + 1), u.1.cell? ⟨w.heap.size, 1, none⟩ = some (.int .i64 s.pos) := fun u => but_cell (w := W.drewN nq) S1 (by show w.heap.size ≠ w.heap.size + 1; omega) u;refine region_late (C := fun w' => ∃ u : ExtBut (W.drewN nq) (w.heap.size + 1), w' = u.1) 3 (by kernel_rfl) (by kernel_rfl) (by kernel_rfl) ⟨⟨(W.drewN nq).drew, fun _ _ _ => rfl⟩, rfl⟩ ?_;simp only [List.take_succ_cons, List.take_zero, List.drop_succ_cons, List.drop_zero];refine quiet_load_nd rfl (.tmp 8) rfl nb rfl nz (by rintro _ ⟨u, rfl⟩; exact (u.2 nb hzW (by omega)).trans HNB.out) ?_;simp only [Act.put, List.setIfInBounds_toArray, List.set_cons_succ, List.set_cons_zero]
      repeat go_big_quiet_step (fail)
      refine wpQuiet_nil ?_;refine writes_nd rfl (.tmp 4) (.tmp 36) rfl (w.heap.size + 1) nz rfl rfl cz HRB.out hcz ⟨⟨(W.drewN nq).drew.setRow (w.heap.size + 1) nz.cells.toArray, fun b _ hb => setRow_other _ _ _ _ hb⟩, rfl⟩ ?_;have hB := below_setRow (nodew.below_drewN' HBW.out nq).drew (show w.heap.size ≤ w.heap.size + 1 by omega) nz.cells.toArray;have hr := setRow_heap (W.drewN nq).drew (w.heap.size + 1) cz nz.cells.toArray _ _ HRB.out;obtain ⟨W4, hW4⟩ : ∃ W4, W4 = (W.drewN nq).drew.setRow (w.heap.size + 1) nz.cells.toArray := ⟨_, rfl⟩;rw [← hW4] at hB hr ⊢;clear hW4 hcell HR;have Hr := Yd hr;clear hr;go_wp2_with fail;exact bodyPost_ret (v := .tuple #[nz.val, .int .i64 s.pos, .int .i64 170]) (results_node _ _ (w.heap.size + 1) nz _ _ rfl rfl rfl Hr.out) rfl ⟨by rw [← HNZ.out]; rfl, hB⟩
  · have h0 : ¬ ll = 0 := fun h => hbad (.inl h);have hargs : s.args.length = ll + belowN s.kind := Decidable.byContradiction fun h => hbad (.inr h);have e0 : ((ll : Int) == 0) = false := Yf (by omega)
    have e1 : IntKind.i64.wrap ((ll : Int) + (belowN s.kind : Int)) = (ll : Int) + (belowN s.kind : Int) := IntWalk.i64_in _ (by omega);have e2 : ((s.args.length : Int) != (ll : Int) + (belowN s.kind : Int)) = false := by rw [bne_eq_false_iff_eq]; omega
    have HARGS := Yd hargs;have HLEN := Yd hlen;have hR : R = if (numsS (fieldList s.kind) s.args (nodeZ s.kind)).2.2 = 0 then namesS look (s.args.drop ll) 0 (numsS (fieldList s.kind) s.args (nodeZ s.kind)).1 else numsS (fieldList s.kind) s.args (nodeZ s.kind) := by
      rw [HR.out]; unfold nodeS; rw [if_neg (by rw [hlen]; exact hbad), hlen]
    have HR := Yd hR;clear hlen hbad hargs hR;go_upto_region 3 with (fail);simp only [Act.put];go_quiet ((go_at_call 77; exact Calls.quiet_of_same (cbelow_any _ _)));clear e1 e2 e0;go_wp2_with fail;obtain ⟨nz, hnz⟩ : ∃ nz, nodeZ s.kind = nz := ⟨_, rfl⟩;have hx0 : nz.x.length = 16 := by rw [← hnz]; rfl
    rw [hnz] at HNB HR;clear hnz;have hRB0 : Kp w.heap.size w W nb (W.drewN nq) := ⟨nodew.below_drewN' HBW.out nq, Nat.le_refl _, fun _ _ _ => rfl⟩;have hpos : 0 < s.args.length := by have := HARGS.out; omega
    obtain ⟨ga, offa, rfl, hga, hac⟩ := HAX.out (by intro e; rw [e] at hpos; simp at hpos);clear HAX;have hoff : ∀ d ∈ l, 1 ≤ d.off ∧ d.off ≤ 16 := fun d hd =>
      fieldList_range s.kind (d.off, d.lo, d.hi) (by rw [← HTRI.out.1]; exact List.mem_map_of_mem (f := Fd.tri) hd)
    have HOFF := Yd hoff;have HAC := Yd hac;clear hoff hac
    go_loopw [41] (fun i wr => ∃ (k : Nat) (n : Nd), k ≤ ll ∧ i = .int .i64 k ∧ Kp w.heap.size w W nb wr ∧ NBlk wr nb n ∧ n.x.length = 16 ∧ numsS ((fieldList s.kind).drop k) (s.args.drop k) n = numsS (fieldList s.kind) s.args nz)
      (fun i _ => ll - (intOf i).toNat)
    case atStart => exact ⟨0, nz, Nat.zero_le _, rfl, hRB0, HNB.out.drewN nq, hx0, rfl⟩
    case round =>
      obtain ⟨k, n, hk, rfl, hKp, hn, hnx, hnums⟩ := hrel;have HNUMS := Yd hnums;clear hnums;have hz := hKp.size
      by_cases hkl : k < ll
      · as_aux_lemma =>
        have hkL : k < l.length := by rw [HLL.out]; exact hkl
        have hkA : k < s.args.length := by have := HARGS.out; omega
        obtain ⟨g, rfl, hg, hgl, c0, c1, c2⟩ := HFC.out k hkL;obtain ⟨d, hd⟩ : ∃ d, d = l[k] := ⟨_, rfl⟩;obtain ⟨ag, hag⟩ : ∃ ag, ag = s.args[k] := ⟨_, rfl⟩;have hdl : d ∈ l := by rw [hd]; exact List.getElem_mem hkL
        have hnnb : ∀ b t v, Boxed W b t v → b ≠ nb := fun b t v hb e => by
          subst e;have h1 := hb.symm.trans HNB.out;simp at h1;have h2 := congrArg List.length h1.1;rw [nd_cells_len] at h2;simp at h2
        have hFd : FieldFn wr (w.heap.size + 1 + 1) d.F d.off := (HFF.out d hdl).kept fun b t v _ hx _ => (hKp.blk b hx.lt (hnnb b t v hx)).trans hx;clear hnnb;have ho := HOFF.out d hdl;obtain ⟨f, caps, hFf, hE, hC⟩ := hFd.calls;have hE' : ∀ (args : Array Value) (w : World), (callFunc f args).run Tryz.prog w = .ok (.enter f args) w := hE;have hgn : ∀ j v, w1.cell? ⟨g, j, none⟩ = some v → wr.cell? ⟨g, j, none⟩ = some v := fun j v h => hKp.cell ((HBQ.out.cell (p := ⟨g, j, none⟩) hgl).trans h) (by show g ≠ nb; omega);rw [← hd] at c0 c1 c2;have r0 := hgn _ _ c0;have r1 := hgn _ _ c1;have r2 := hgn _ _ c2;clear c0 c1 c2 hgn;have har : ∀ j v, (ag.cells)[j]? = some v → j < 3 → w.cell? ⟨ga, offa + k * 3 + j, none⟩ = some v := fun j v h hj => by
          have := HAC.out (k * 3 + j) v ((acells_get s.args k j hkA hj).trans (by rw [← hag]; exact h));rwa [← Nat.add_assoc] at this
        have a0 : w.cell? ⟨ga, offa + k * 3, none⟩ = some (.int .i64 ag.pos) := har 0 _ rfl (by omega);have a1 : w.cell? ⟨ga, offa + k * 3 + 1, none⟩ = some (.float .f64 ag.num) := har 1 _ rfl (by omega);have A0 := Yd a0;have A1 := Yd a1;have H3 := Yd S3;clear har a0 a1;have hns : numsS (fieldList s.kind) s.args nz = if withinF d.lo d.hi ag.num then numsS ((fieldList s.kind).drop (k + 1)) (s.args.drop (k + 1)) (Nd.put n d.off ag.num) else (Nd.put n d.off ag.num, ag.pos, 184) := by
          have hkf : k < (fieldList s.kind).length := by rw [HLEN.out]; exact hkl
          have ht : (fieldList s.kind)[k] = d.tri := by
            have : (l.map Fd.tri)[k]? = (fieldList s.kind)[k]? := by rw [HTRI.out.1]
            rw [List.getElem?_map, List.getElem?_eq_getElem hkL, List.getElem?_eq_getElem hkf, ← hd] at this;simpa using this.symm
          rw [← HNUMS.out, numsS_step _ _ k n hkf hkA, ht, ← hag]; rfl
        have HNS := Yd hns;clear hns hd hag hkL HNUMS;obtain ⟨F, off, lo, hi⟩ := d;simp only at hFf hFd ho hC r0 r1 r2 HNS;subst hFf;have hki : (0 : Int) ≤ (k : Int) := by omega
        have hkA' : (k : Int) < (s.args.length : Int) := by omega
        go_wp2_with fail;have hb0 := heap_alloc_new wr (.cells #[.func (.func f) #[] caps, .float .f64 lo, .float .f64 hi] 129);have hFa := hFd.alloc (.cells #[.func (.func f) #[] caps, .float .f64 lo, .float .f64 hi] 129);have hna := hn.alloc (.cells #[.func (.func f) #[] caps, .float .f64 lo, .float .f64 hi] 129);have hKa := hKp.ext (by omega) ((Below.refl _ wr).alloc (Nat.le_refl _) (.cells #[.func (.func f) #[] caps, .float .f64 lo, .float .f64 hi] 129));obtain ⟨W8, hW8⟩ : ∃ W8, W8 = wr.alloc (.cells #[.func (.func f) #[] caps, .float .f64 lo, .float .f64 hi] 129) := ⟨_, rfl⟩;have hz8 : W8.heap.size = wr.heap.size + 1 := by rw [hW8]; simp
        rw [← hW8] at hb0 hFa hna hKa ⊢;obtain ⟨fb, hfb⟩ : ∃ fb, fb = wr.heap.size := ⟨_, rfl⟩;rw [← hfb] at hb0 ⊢;have hfz : fb < W8.heap.size := by omega
        have hfn : nb < fb := by omega
        clear hW8 hFd hn r0 r1 r2 hfb hz8;have x0 : ∀ u : Ext W8, u.1.cell? ⟨fb, 0, none⟩ = some (.func (.func f) #[] caps) := fun u => ext_cell ((cell_of_row W8 fb 0 _ _ _ hb0).trans rfl) u;have x3 : ∀ u : Ext W8, u.1.cell? ⟨w.heap.size, 3, none⟩ = some (.slice (some ⟨ga, offa, none⟩) s.args.length ac) := fun u => ext_cell (hKa.cell H3.out (by show w.heap.size ≠ nb; omega)) u;have x4 : ∀ u : Ext W8, u.1.cell? ⟨ga, offa + k * 3 + 1, none⟩ = some (.float .f64 ag.num) := fun u => ext_cell ((hKa.low.cell (p := ⟨ga, offa + k * 3 + 1, none⟩) (by show ga < w.heap.size; omega)).trans A1.out) u;have hCu : ∀ u : Ext W8, Calls Tryz.prog f (#[pt nb 0] ++ caps) u.1 fun e w'' => e = .returned (pt nb off) ∧ ∃ m, w'' = u.1.drewN m := fun u => hC u.1 nb (hFa.kept fun b t v _ hx _ => (u.2.block b hx.lt).trans hx);clear hC hFa;have HNA := Yd hna;have HKA := Yd hKa;have HB0 := Yd hb0;clear hna hKa hb0 hKp;refine region_ext_tail 10 (by kernel_rfl) (by kernel_rfl) ?_;simp only [List.take_succ_cons, List.take_zero, List.drop_succ_cons, List.drop_zero]
        repeat go_big_quiet_step (exact ext_call_drew _ (hCu _))
        refine wpQuiet_nil ?_;intro u;have hK9 := HKA.out.ext (by omega) u.2;have hn9 : NBlk u.1 nb n := (u.2.block nb (by omega)).trans HNA.out;have hb9 := (u.2.block fb hfz).trans HB0.out;have hz9 := u.2.size;obtain ⟨W9, hW9⟩ : ∃ W9, W9 = u.1 := ⟨_, rfl⟩;rw [← hW9] at hK9 hn9 hb9 hz9 ⊢;clear hW9 x0 x3 x4 hCu HNA HKA HB0;have cx := (hn9.cell off).trans (n.cell_f off ho.1 ho.2);have fx := hn9.frozen off;obtain ⟨q, hq⟩ : ∃ q, withinF lo hi ag.num = q := ⟨_, rfl⟩;have hn10 := nblk_store hn9 off (.float .f64 ag.num) (nd_put_cells n hnx off ag.num ho.1 ho.2);have hK10 := hK9.set (by omega) off (.float .f64 ag.num);have hb10 : (W9.setCell ⟨nb, off, none⟩ (.float .f64 ag.num)).heap[fb]? = _ := (Below.heap_setCell W9 ⟨nb, off, none⟩ (.float .f64 ag.num) fb (by show fb ≠ nb; omega)).trans hb9;have hz10 : W8.heap.size ≤ (W9.setCell ⟨nb, off, none⟩ (.float .f64 ag.num)).heap.size := by show _ ≤ (Array.modify _ _ _).size; rw [Array.size_modify]; exact hz9
        have HN10 := Yd hn10;have HK10 := Yd hK10;have HB10 := Yd hb10;have HZ10 := Yd hz10;have HQ := Yd hq;clear hn10 hK10 hb10 hz10 hK9 hn9 hb9 hz9 hq;go_wp2_with fail;obtain ⟨X, hX⟩ : ∃ X, X = W9.setCell ⟨nb, off, none⟩ (.float .f64 ag.num) := ⟨_, rfl⟩;have hn10 := HN10.out;have hK10 := HK10.out;have hb10 := HB10.out;have hz10 := HZ10.out;rw [← hX] at hn10 hK10 hb10 hz10 ⊢;clear hX cx fx HN10 HK10 HB10 HZ10;have x0 : ∀ u : Ext X, u.1.cell? ⟨fb, 0, none⟩ = some (.func (.func f) #[] caps) := fun u => ext_cell ((cell_of_row X fb 0 _ _ _ hb10).trans rfl) u;have x1 : ∀ u : Ext X, u.1.cell? ⟨fb, 1, none⟩ = some (.float .f64 lo) := fun u => ext_cell ((cell_of_row X fb 1 _ _ _ hb10).trans rfl) u;have x2 : ∀ u : Ext X, u.1.cell? ⟨fb, 2, none⟩ = some (.float .f64 hi) := fun u => ext_cell ((cell_of_row X fb 2 _ _ _ hb10).trans rfl) u;have x3 : ∀ u : Ext X, u.1.cell? ⟨w.heap.size, 3, none⟩ = some (.slice (some ⟨ga, offa, none⟩) s.args.length ac) := fun u => ext_cell (hK10.cell H3.out (by show w.heap.size ≠ nb; omega)) u;have x4 : ∀ u : Ext X, u.1.cell? ⟨ga, offa + k * 3 + 1, none⟩ = some (.float .f64 ag.num) := fun u => ext_cell ((hK10.low.cell (p := ⟨ga, offa + k * 3 + 1, none⟩) (by show ga < w.heap.size; omega)).trans A1.out) u;have hwi : ∀ u : Ext X, Calls Tryz.prog 76 #[.agg #[.func (.func f) #[] caps, .float .f64 lo, .float .f64 hi], .float .f64 ag.num] u.1 fun e w' => e = .returned (.bool q) ∧ Below u.1.heap.size u.1 w' := fun u => by
          rw [← HQ.out]; exact within_any _ _ _ _ _
        have HN10 := Yd hn10;have HK10 := Yd hK10;clear hn10 hK10 hb10;refine region_ext (by kernel_rfl) (by kernel_rfl) ?_
        repeat go_big_quiet_step (exact ext_call _ (hwi _))
        refine wpQuiet_nil ?_;intro u;have hK11 := HK10.out.ext (by omega) u.2;have hn11 : NBlk u.1 nb (Nd.put n off ag.num) := (u.2.block nb (by omega)).trans HN10.out;obtain ⟨Y, hY⟩ : ∃ Y, Y = u.1 := ⟨_, rfl⟩;rw [← hY] at hK11 hn11 ⊢;clear hY x0 x1 x2 x3 x4 hwi HN10 HK10;have HQ' := HQ.out;rw [HQ'] at HNS;have hnx' : (Nd.put n off ag.num).x.length = 16 := (Nd.put_len n off ag.num).trans hnx;obtain ⟨n', hn'⟩ : ∃ n', Nd.put n off ag.num = n' := ⟨_, rfl⟩;rw [hn'] at hn11 hnx' HNS;clear hn' HQ HQ'
        cases q with
        | true =>
          have HK := Yd hK11;have HN := Yd hn11;clear hK11 hn11;go_wp2_with fail;go_roundw
          case rel => exact ⟨k + 1, n', by omega, by go_num, HK.out, HN.out, hnx', by rw [HNS.out]; rfl⟩
          case measure => simp [intOf]; omega
        | false =>
          have HK := Yd hK11;have HN := Yd hn11;have HA0 := Yd ((hK11.low.cell (p := ⟨ga, offa + k * 3, none⟩) (by show ga < w.heap.size; omega)).trans A0.out);have HY3 := Yd (hK11.cell H3.out (by show w.heap.size ≠ nb; omega));have hrY := Yd ((hK11.blk (w.heap.size + 1) (by omega) (by omega)).trans HRB.out);clear hK11 hn11;go_wp2_with fail;have hR : R = (n', ag.pos, 184) := by
            rw [HR.out, HNS.out]; rfl
          subst hR;clear HR HNS;have hcell : ∀ u : ExtBut Y (w.heap.size + 1), u.1.cell? ⟨ga, offa + k * 3, none⟩ = some (.int .i64 ag.pos) := fun u => but_cell (w := Y) HA0.out (by show ga ≠ w.heap.size + 1; omega) u;have hsl : ∀ u : ExtBut Y (w.heap.size + 1), u.1.cell? ⟨w.heap.size, 3, none⟩ = some (.slice (some ⟨ga, offa, none⟩) s.args.length ac) := fun u => but_cell (w := Y) HY3.out (by show w.heap.size ≠ w.heap.size + 1; omega) u;have hnY : nb < Y.heap.size := by have := HK.out.size; omega
          refine region_late (C := fun w' => ∃ u : ExtBut Y (w.heap.size + 1), w' = u.1) 7 (by kernel_rfl) (by kernel_rfl) (by kernel_rfl) ⟨⟨Y.drew, fun _ _ _ => rfl⟩, rfl⟩ ?_;simp only [List.take_succ_cons, List.take_zero, List.drop_succ_cons, List.drop_zero];refine quiet_load_nd rfl (.tmp 8) rfl nb rfl n' (by rintro _ ⟨u, rfl⟩; exact (u.2 nb hnY (by omega)).trans HN.out) ?_;simp only [Act.put, List.setIfInBounds_toArray, List.set_cons_succ, List.set_cons_zero]
          repeat go_big_quiet_step (fail)
          refine wpQuiet_nil ?_;refine writes_nd rfl (.tmp 4) (.tmp 65) rfl (w.heap.size + 1) n' rfl rfl cz hrY.out hcz ⟨⟨Y.drew.setRow (w.heap.size + 1) n'.cells.toArray, fun b _ hb => setRow_other _ _ _ _ hb⟩, rfl⟩ ?_;have hB := below_setRow HK.out.low.drew (show w.heap.size ≤ w.heap.size + 1 by omega) n'.cells.toArray;have hr := setRow_heap Y.drew (w.heap.size + 1) cz n'.cells.toArray _ _ hrY.out;obtain ⟨W4, hW4⟩ : ∃ W4, W4 = Y.drew.setRow (w.heap.size + 1) n'.cells.toArray := ⟨_, rfl⟩;rw [← hW4] at hB hr ⊢;clear hW4 hcell hsl;have Hr := Yd hr;clear hr;go_wp2_with fail;exact bodyPost_ret (v := .tuple #[n'.val, .int .i64 ag.pos, .int .i64 184]) (results_node _ _ (w.heap.size + 1) n' _ _ rfl rfl rfl Hr.out) rfl ⟨rfl, hB⟩
      · obtain rfl : k = ll := by omega
        have hns : numsS (fieldList s.kind) s.args nz = (n, 0, 0) := by
          rw [← HNUMS.out, List.drop_of_length_le (by rw [HLEN.out]; exact Nat.le_refl _)]
          cases s.args.drop k <;> rfl
        have hR : R = namesS look (s.args.drop k) 0 n := by rw [HR.out, hns]; rfl
        have HR2 := Yd hR;clear HR hns hR HNUMS HFC HFF HTRI HLEN HOFF HLL hkl hk;obtain ⟨bl, hbl⟩ : ∃ bl, belowN s.kind = bl := ⟨_, rfl⟩;have hlenk : s.args.length = k + bl := by rw [← hbl]; exact HARGS.out
        rw [hbl] at hb2;rw [hbl];clear hbl HARGS;have e3 : s.args.length - k = bl := by omega
        have hk0 : (0 : Int) ≤ (k : Int) := by omega
        have hkl : k ≤ s.args.length := by omega
        have hkl' : (k : Int) ≤ (s.args.length : Int) := by omega
        have hs3 := hKp.cell S3 (by show w.heap.size ≠ nb; omega);have HK := Yd hKp;have HN := Yd hn;have HLK := Yd hlenk;have H3 := Yd S3;clear hKp hn S3 hlenk;obtain ⟨Y, yc, hY1, hY2⟩ := slice_from_at ga offa s.args.length ac k bl hcap HLK.out;have HY2 := Yd hY2;clear hY2 e3;obtain ⟨wl, hwl⟩ : ∃ wl, wl = wr := ⟨_, rfl⟩;subst hwl;go_wp2_with fail;clear hY1
        go_loopw [79] (fun i wt => ∃ (j : Nat) (m : Nd), j ≤ bl ∧ i = .int .i64 j ∧ Kp w.heap.size w W nb wt ∧ NBlk wt nb m ∧ namesS look (s.args.drop (k + j)) j m = namesS look (s.args.drop k) 0 n)
          (fun i _ => bl - (intOf i).toNat)
        case atStart => exact ⟨0, n, Nat.zero_le _, rfl, HK.out, HN.out, rfl⟩
        case round =>
          obtain ⟨j, m, hj, rfl, hKt, hmt, hnm⟩ := hrel;have HNM := Yd hnm;clear hnm;have hzt := hKt.size
          by_cases hjb : j < bl
          · as_aux_lemma =>
            obtain rfl := HY2.out (by omega);have hkA : k + j < s.args.length := by have := HLK.out; omega
            obtain ⟨ag, hag⟩ : ∃ ag, ag = s.args[k + j] := ⟨_, rfl⟩;have har : ∀ i v, (ag.cells)[i]? = some v → i < 3 → w.cell? ⟨ga, offa + k * 3 + j * 3 + i, none⟩ = some v := fun i v h hi => by
              have := HAC.out ((k + j) * 3 + i) v ((acells_get s.args (k + j) i hkA hi).trans (by rw [← hag]; exact h));rwa [show offa + ((k + j) * 3 + i) = offa + k * 3 + j * 3 + i by omega] at this
            have hat : ∀ i v, (ag.cells)[i]? = some v → i < 3 → wr.cell? ⟨ga, offa + k * 3 + j * 3 + i, none⟩ = some v := fun i v h hi =>
              (hKt.low.cell (p := ⟨ga, offa + k * 3 + j * 3 + i, none⟩) (by show ga < w.heap.size; omega)).trans (har i v h hi)
            have a0 : wr.cell? ⟨ga, offa + k * 3 + j * 3, none⟩ = some (.int .i64 ag.pos) := hat 0 _ rfl (by omega);have a1 : wr.cell? ⟨ga, offa + k * 3 + j * 3 + 1, none⟩ = some (.float .f64 ag.num) := hat 1 _ rfl (by omega);have a2 : wr.cell? ⟨ga, offa + k * 3 + j * 3 + 2, none⟩ = some (.string ag.name) := hat 2 _ rfl (by omega);clear har hat;have hns : namesS look (s.args.drop k) 0 n = match look ag.name with | none => (m, ag.pos, 183) | some p => namesS look (s.args.drop (k + j + 1)) (j + 1) (Nd.setP m j p) := by
              rw [← HNM.out, namesS_step look s.args (k + j) j m hkA, ← hag]
            have HNS := Yd hns;have hj2 : j < 2 := by omega
            have hji : (j : Int) < (bl : Int) := by omega
            have hj0 : (0 : Int) ≤ (j : Int) := by omega
            obtain ⟨ov, hov⟩ := cell_ab m j hj2;have hma := hmt.alloc (.cells #[.int .i64 ag.pos, .float .f64 ag.num, .string ag.name] 59);have hKa := hKt.ext (by omega) ((Below.refl _ wr).alloc (Nat.le_refl _) (.cells #[.int .i64 ag.pos, .float .f64 ag.num, .string ag.name] 59));have hba := heap_alloc_new wr (.cells #[.int .i64 ag.pos, .float .f64 ag.num, .string ag.name] 59);have hlk := HM.out.2 (wr.alloc (.cells #[.int .i64 ag.pos, .float .f64 ag.num, .string ag.name] 59)) (hKa.low.block mb HM.out.1) ag.name;have cx := (hma.cell (17 + j)).trans hov;have fx := hma.frozen (17 + j);have hix := idx_ptr nb j hj2;have HMA := Yd hma;have HKA := Yd hKa;have HBA := Yd hba;have HSET := Yd (setP_cells m j);clear hns hag HNM hma hKa hba hKt hmt hov;obtain ⟨lk, hlk0⟩ : ∃ lk, look ag.name = lk := ⟨_, rfl⟩;rw [hlk0] at hlk HNS;clear hlk0
            cases lk with
            | none =>
              simp only [Option.isSome, Option.getD] at hlk;have hR : R = (m, ag.pos, 183) := by rw [HR2.out, HNS.out]
              have HRR := Yd hR;clear hR HR2 HNS;go_wp2_with fail;have hR := HRR.out;subst hR;clear HRR;obtain ⟨Z, hZ⟩ : ∃ Z, Z = wr.alloc (.cells #[.int .i64 ag.pos, .float .f64 ag.num, .string ag.name] 59) := ⟨_, rfl⟩;have hKa := HKA.out;have hma := HMA.out;have hba := HBA.out;rw [← hZ] at hKa hma hba ⊢;obtain ⟨zb, hzb⟩ : ∃ zb, zb = wr.heap.size := ⟨_, rfl⟩;have hzg : w.heap.size + 1 ≠ zb := by omega
              rw [← hzb] at hba ⊢;clear hZ HKA HMA HBA hlk cx fx hix a0 a1 a2 hzb;have hcell : ∀ u : ExtBut Z (w.heap.size + 1), u.1.cell? ⟨zb, 0, none⟩ = some (.int .i64 ag.pos) := fun u => but_cell (w := Z) ((cell_of_row Z zb 0 _ _ _ hba).trans rfl) (fun e => hzg e.symm) u;have hrY := Yd ((hKa.blk (w.heap.size + 1) (by omega) (by omega)).trans HRB.out);have hnY : nb < Z.heap.size := by have := hKa.size; omega
              have HK := Yd hKa;have HN := Yd hma;clear hKa hma hba;refine region_late (C := fun w' => ∃ u : ExtBut Z (w.heap.size + 1), w' = u.1) 3 (by kernel_rfl) (by kernel_rfl) (by kernel_rfl) ⟨⟨Z.drew, fun _ _ _ => rfl⟩, rfl⟩ ?_;simp only [List.take_succ_cons, List.take_zero, List.drop_succ_cons, List.drop_zero];refine quiet_load_nd rfl (.tmp 8) rfl nb rfl m (by rintro _ ⟨u, rfl⟩; exact (u.2 nb hnY (by omega)).trans HN.out) ?_;simp only [Act.put, List.setIfInBounds_toArray, List.set_cons_succ, List.set_cons_zero]
              repeat go_big_quiet_step (fail)
              refine wpQuiet_nil ?_;refine writes_nd rfl (.tmp 4) (.tmp 93) rfl (w.heap.size + 1) m rfl rfl cz hrY.out hcz ⟨⟨Z.drew.setRow (w.heap.size + 1) m.cells.toArray, fun b _ hb => setRow_other _ _ _ _ hb⟩, rfl⟩ ?_;have hB := below_setRow HK.out.low.drew (show w.heap.size ≤ w.heap.size + 1 by omega) m.cells.toArray;have hr := setRow_heap Z.drew (w.heap.size + 1) cz m.cells.toArray _ _ hrY.out;obtain ⟨W4, hW4⟩ : ∃ W4, W4 = Z.drew.setRow (w.heap.size + 1) m.cells.toArray := ⟨_, rfl⟩;rw [← hW4] at hB hr ⊢;clear hW4 hcell;have Hr := Yd hr;clear hr;go_wp2_with fail;exact bodyPost_ret (v := .tuple #[m.val, .int .i64 ag.pos, .int .i64 183]) (results_node _ _ (w.heap.size + 1) m _ _ rfl rfl rfl Hr.out) rfl ⟨rfl, hB⟩
            | some p =>
              simp only [Option.isSome, Option.getD] at hlk;have hn2 := Yd (nblk_store HMA.out (17 + j) (.int .i64 p) (HSET.out p hj2));have hK2 := Yd (HKA.out.set (show w.heap.size ≤ nb by omega) (17 + j) (.int .i64 p));clear HMA HKA HBA HSET;go_wp2_with fail;go_roundw
              case rel => exact ⟨j + 1, Nd.setP m j p, by omega, by go_num, hK2.out, hn2.out, by rw [HNS.out, ← Nat.add_assoc]⟩
              case measure => simp [intOf]; omega
          · obtain rfl : j = bl := by omega
            have hR : R = (m, 0, 0) := by
              rw [HR2.out, ← HNM.out, List.drop_of_length_le (by rw [HLK.out]; exact Nat.le_refl _)]; rfl
            subst hR;clear HR2 HNM HLK HY2;have hrY := Yd ((hKt.blk (w.heap.size + 1) (by omega) (by omega)).trans HRB.out);have hB := below_setRow hKt.low (show w.heap.size ≤ w.heap.size + 1 by omega) m.cells.toArray;have hr := Yd (setRow_heap wr (w.heap.size + 1) cz m.cells.toArray _ _ hrY.out);go_wp2_with (first | (refine wpList_load_nd_g _ ?_ (.tmp 8) rfl nb rfl m hmt ?_; rotate_right) | (refine wpList_store_row rfl 49 (.tmp 4) (.tmp 104) rfl (w.heap.size + 1) m.cells.toArray rfl rfl _ _ hrY.out (nd_info _) (by rw [nd_size]; exact hcz) (nd_one _) ?_));exact bodyPost_ret (v := .tuple #[m.val, .int .i64 0, .int .i64 0]) (results_node _ _ (w.heap.size + 1) m _ _ rfl rfl rfl hr.out) rfl ⟨rfl, hB⟩
end Go.Proofs.YtcbgkbidgpemfaaGreatDoor.chkw
