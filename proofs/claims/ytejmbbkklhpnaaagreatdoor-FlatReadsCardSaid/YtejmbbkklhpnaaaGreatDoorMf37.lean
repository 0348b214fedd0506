/- Flat's state turned: a place is stored, a new node is put down. No conditions but those stated. -/
import Derived.Test.YtejmbbkklhpnaaaGreatDoorMf36
import Derived.Sort.CutIn
namespace Go.Proofs.YtejmbbkklhpnaaaGreatDoor.flatw
open Go.RowKit Go.Shelf
open nodew
open chkw
open flatm
section
variable {F:Fence} {n:Nat} {ops:Array Oper} {rest:List Oper} {o:Oper} {a:Act} {w w':World} {Q:Exit -> Act -> World -> Prop}
theorem wli_lookup (hgd:o.guard=none) (x y:Operand) (ho:o.op = .lookup 127 x y true) (mv kv:Value) (hx:a.eval x=mv) (hy:a.eval y=kv) (v:Value)
  (hl:(Instr.lookup 127 mv kv true).run Tryz.prog w = .ok v w) (h:wpListIn F n Tryz.prog ops Q rest (a.put o.dst v) w):wpListIn F n Tryz.prog ops Q (o :: rest) a w:=by
 refine wpListIn_plain hgd fun K hK => ?_
 have hr:(execOp a.eval o).run Tryz.prog w = .ok (.value v) w:=by
  unfold execOp
  simp only [ho,hx,hy,hl,Sem.run_bind,Sem.run_pure,Result.andThen_ok]
 unfold Oper.wpIn
 refine ⟨by simp [Oper.about,ho],?_⟩
 rw [Oper.semAt_plain F _ _ (by rw [ho]; intro c hc'; cases hc'),hr]
 exact hK _ _ h
theorem wli_update (hgd:o.guard=none) (x y z:Operand) (ho:o.op = .mapUpdate 127 x y z) (mv kv pv:Value) (hx:a.eval x=mv) (hy:a.eval y=kv) (hz:a.eval z=pv)
  (hl:(Instr.mapUpdate 127 mv kv pv).run Tryz.prog w = .ok () w') (h:wpListIn F n Tryz.prog ops Q rest (a.put o.dst undef) w'):wpListIn F n Tryz.prog ops Q (o :: rest) a w:=by
 refine wpListIn_plain hgd fun K hK => ?_
 unfold Oper.wpIn
 refine ⟨by simp [Oper.about,ho],?_⟩
 rw [Oper.semAt_plain F _ _ (by rw [ho]; intro c hc'; cases hc')]
 unfold execOp
 simp only [ho,hx,hy,hz,hl,Sem.run_bind,Sem.run_pure,Result.andThen_ok]
 exact hK _ _ h
theorem wli_bs (hgd:o.guard=none) (x:Operand) (ho:o.op = .buildSlice 43 1 #[(0,x)]) (nd:Nd) (hx:a.eval x=nd.val)
  (h:wpListIn F n Tryz.prog ops Q rest (a.put o.dst (.slice (some ⟨w.heap.size,0,none⟩) 1 1)) (w.alloc (.cells nd.cells.toArray 67))):wpListIn F n Tryz.prog ops Q (o :: rest) a w:=by
 refine wpListIn_plain hgd fun K hK => ?_
 have hr:(execOp a.eval o).run Tryz.prog w = .ok (.value (.slice (some ⟨w.heap.size,0,none⟩) 1 1)) (w.alloc (.cells nd.cells.toArray 67)):=by
  unfold execOp
  simp only [ho,Sem.run_bind,List.map_toArray,List.map_cons,List.map_nil,hx,bs_run,Result.andThen_ok,Sem.run_pure]
 unfold Oper.wpIn
 refine ⟨by simp [Oper.about,ho],?_⟩
 rw [Oper.semAt_plain F _ _ (by rw [ho]; intro c hc'; cases hc'),hr]
 exact hK _ _ h
end
theorem not_footR {n0 bs t e size k:Nat} {xs:List Value} {W:World} (h:HR n0 bs t e size k xs W) {b:Nat} (hne:b≠bs) {p:Obj} (hb:W.heap[b]? = some p) (hp:∀ cs fr,p ≠ .cells cs e fr):¬ footR bs W b:=by
 rintro (rfl | ⟨u,hu,hf⟩)
 ·exact hne rfl
 ·obtain ⟨v,hv,ho⟩:=h
  rw [hv.cell] at hu
  obtain rfl:=Option.some.inj hu
  rcases ho.2 with ⟨rfl,_⟩ | ⟨g,cap,cur,rfl,_,hh,_⟩
  ·cases hf
  ·have:g=b:=by simpa [Value.ownBlock] using hf
   subst this
   rw [hh] at hb
   injection hb with hb
   exact hp _ _ hb.symm
theorem HR.grow {n0 bs t e size k k':Nat} {xs xs':List Value} {W w1:World} {v v':Value} {tmp:Obj} (hte:t≠e) (hv:Boxed W bs t v) (ho:W.ownsRow n0 e size v k xs)
  (hg:(W.alloc tmp).grownBy w1 v.ownBlock) (ho':w1.ownsRow n0 e size v' k' xs') (hvb:v'.ownBlock=v.ownBlock∨v'.ownBlock=some (W.alloc tmp).heap.size) :
  HR n0 bs t e size k' xs' (w1.setCell ⟨bs,0,none⟩ v')∧W.heap.size <= (w1.setCell ⟨bs,0,none⟩ v').heap.size∧(∀ i,i<W.heap.size -> ¬ footR bs W i -> (w1.setCell ⟨bs,0,none⟩ v').heap[i]? = W.heap[i]?) ∧
   (∀ i,footR bs (w1.setCell ⟨bs,0,none⟩ v') i -> footR bs W i∨W.heap.size <= i)∧Boxed w1 bs t v:=by
 have hv1:Boxed w1 bs t v:=(hv.alloc tmp).kept hg (hv.not_row hte ho)
 have hbs:some bs≠v'.ownBlock:=hv1.not_row hte ho'
 have hz:(w1.setCell ⟨bs,0,none⟩ v').heap.size=w1.heap.size:=by simp
 have hW1:W.heap.size<w1.heap.size:=by have:=hg.size; rw [World.size_alloc] at this; omega
 have hv2:Boxed (w1.setCell ⟨bs,0,none⟩ v') bs t v':=hv1.set v'
 refine ⟨⟨v',hv2,ho'.kept (grownBy_setCell' w1 bs v') ?_⟩,by omega,fun i hi hf => ?_,fun i hf => ?_,hv1⟩
 ·cases h:v'.ownBlock with
  | none=>exact .inl rfl
  | some g=>exact .inr fun e=>hbs (by rw [h,e])
 ·rw [Below.heap_setCell w1 ⟨bs,0,none⟩ v' i (fun e=>hf (.inl e)),hg.block i (by rw [World.size_alloc]; omega) (fun e=>hf (.inr ⟨v,hv.cell,e.symm⟩)),Below.heap_alloc W tmp i hi]
 ·rcases hf with rfl | ⟨u,hu,hf⟩
  ·exact .inl (.inl rfl)
  ·rw [hv2.cell] at hu
   obtain rfl:=Option.some.inj hu
   rcases hvb with h | h
   ·exact .inl (.inr ⟨v,hv.cell,h.symm.trans hf⟩)
   ·rw [hf] at h
    have:=Option.some.inj h
    rw [World.size_alloc] at this
    exact .inr (by omega)
theorem tb_ne {W:World} {b tb:Nat} {p:Obj} {n:Nat} {tm:Nat -> Nat} (hb:W.heap[b]? = some p) (ht:W.heap[tb]? = some (.cells (toA n tm) 3 (0,0))) (hp:∀ cs fr,p ≠ .cells cs 3 fr):b≠tb:=by
 rintro rfl
 rw [hb] at ht
 injection ht with ht
 exact hp _ _ ht
theorem FSt.to {n0 b1 mb b4 tb b5 bo n:Nat} {v:Value} {w:World} {s:FS} {W:World} (h:FSt n0 b1 mb b4 tb b5 bo n v w s W) (h0:n0 <= w.heap.size) (ht:n0 <= tb) {x:Nat} (hx:x<n) (k:Nat) :
  FSt n0 b1 mb b4 tb b5 bo n v w ⟨upd s.tm x k,s.out⟩ (W.setCell ⟨tb,x,none⟩ (.int .i64 (k:Int)))∧(∀ i,footR bo (W.setCell ⟨tb,x,none⟩ (.int .i64 (k:Int))) i -> footR bo W i):=by
 have hg:W.grownBy (W.setCell ⟨tb,x,none⟩ (.int .i64 (k:Int))) (some tb):=⟨rfl,rfl,rfl,by simp,fun i hi hne=>Below.heap_setCell W ⟨tb,x,none⟩ _ i (fun e=>hne (by rw [e]))⟩
 obtain ⟨es,c,hm,_⟩:=h.hm
 have hto:tb≠bo:=by
  obtain ⟨u,hu,_⟩:=h.row
  exact fun e=>tb_ne hu h.ht (by intro cs fr e; injection e with _ e _; exact absurd e (by decide)) e.symm
 obtain ⟨r1,r2⟩:=h.row.own hg (fun r e=>by
  obtain rfl:=Option.some.inj e
  exact not_footR h.row hto h.ht (by intro cs fr e; injection e with _ e _; exact absurd e (by decide)))
 have n1:=tb_ne h.h1 h.ht (by intro cs fr e; injection e with _ e _; exact absurd e (by decide))
 have nm:=tb_ne hm h.ht (by intro cs fr e; cases e)
 have n4:=tb_ne h.h4 h.ht (by intro cs fr e; injection e with _ e _; exact absurd e (by decide))
 have n5:=tb_ne h.h5 h.ht (by intro cs fr e; injection e with _ e _; exact absurd e (by decide))
 refine ⟨⟨r1,h.h1.kept hg (by simpa using n1),h.hm.keep (hg.block mb h.hm.lt (by simpa using nm)),h.h4.kept hg (by simpa using n4),?_,h.h5.kept hg (by simpa using n5),h.below.grown hg (Nat.le_trans h0 h.below.size) (fun r e=>by obtain rfl:=Option.some.inj e; exact ht)⟩,r2⟩
 rw [heap_set W tb x _ _ _ _ h.ht,toA_set _ _ _ _ hx]
theorem FSt.add {n0 b1 mb b4 tb b5 bo n:Nat} {v:Value} {w:World} {s:FS} {W:World} (h:FSt n0 b1 mb b4 tb b5 bo n v w s W) (h0:n0 <= w.heap.size) (km:n0 <= mb) (ko:n0 <= bo) (hbo:b1≠bo) {m:Nd} {W1 w1:World} {u u':Value}
  (hm1:NM W1 mb (entsN 0 s.out ++ [(m,s.out.length)])) (hz1:W1.heap.size=W.heap.size) (hk1:∀ b,b≠mb -> W1.heap[b]? = W.heap[b]?) (ho1:W1.os=W.os) (ht1:W1.tape=W.tape) (hp1:W1.output=W.output)
  (hu:Boxed W1 bo 43 u) (ho:W1.ownsRow n0 67 19 u s.out.length (ncells s.out)) (hg:(W1.alloc (.cells m.cells.toArray 67)).grownBy w1 u.ownBlock)
  (ho':w1.ownsRow n0 67 19 u' (s.out.length+1) (ncells s.out ++ m.cells)) (hvb:u'.ownBlock=u.ownBlock∨u'.ownBlock=some (W1.alloc (.cells m.cells.toArray 67)).heap.size) :
  FSt n0 b1 mb b4 tb b5 bo n v w ⟨s.tm,s.out ++ [m]⟩ (w1.setCell ⟨bo,0,none⟩ u')∧W.heap.size <= (w1.setCell ⟨bo,0,none⟩ u').heap.size∧(∀ i,i<W.heap.size -> ¬ footF b1 mb b4 tb b5 bo W i -> (w1.setCell ⟨bo,0,none⟩ u').heap[i]? = W.heap[i]?) ∧
   (∀ i,footR bo (w1.setCell ⟨bo,0,none⟩ u') i -> footR bo W i∨W.heap.size <= i)∧Boxed w1 bo 43 u:=by
 obtain ⟨g1,g2,g3,g4,g5⟩:=HR.grow (by decide) hu ho hg ho' hvb
 obtain ⟨es,c,hmw,_⟩:=h.hm
 have hmo:mb≠bo:=by
  obtain ⟨u,hu,_⟩:=h.row
  rintro rfl
  rw [show W.heap[mb]? = _ from hu] at hmw
  injection hmw with hmw
  cases hmw
 have hr1:HR n0 bo 43 67 19 s.out.length (ncells s.out) W1:=⟨u,hu,ho⟩
 have hf1:∀ i,footR bo W1 i -> footR bo W i:=by
  rintro i (rfl | ⟨v,hv,hi⟩)
  ·exact .inl rfl
  ·refine .inr ⟨v,?_,hi⟩
   rw [<- hv]
   exact (World.cell?_of_block (a:=⟨bo,0,none⟩) (hk1 bo (fun e=>hmo e.symm))).symm
 have hnf:∀ b p,W.heap[b]? = some p -> b≠bo -> b≠mb -> (∀ cs fr,p ≠ .cells cs 67 fr) -> (w1.setCell ⟨bo,0,none⟩ u').heap[b]? = some p:=fun b p hb h1 h2 hp=>by
  have hb1:W1.heap[b]? = some p:=(hk1 b h2).trans hb
  rw [g3 b (Array.getElem?_eq_some_iff.1 hb1).1 (not_footR hr1 h1 hb1 hp)]
  exact hb1
 have hnb:∀ b t v,Boxed W b t v -> b≠mb:=fun b t v hb e=>by
  subst e
  rw [show W.heap[b]? = _ from hb] at hmw
  injection hmw with hmw
  cases hmw
 have hne:∀ b t v,Boxed W b t v -> t ≠ 43 -> b≠bo:=fun b t v hb ht e=>by
  obtain ⟨u,hu,_⟩:=h.row
  subst e
  have hu2:W.heap[b]? = _:=hu
  rw [show W.heap[b]? = _ from hb] at hu2
  injection hu2 with hu2
  injection hu2 with _ e _
  exact ht e
 have hmb1:¬ footR bo W1 mb:=by
  obtain ⟨es1,c1,hm2,_⟩:=hm1
  exact not_footR hr1 hmo hm2 (by intro cs fr e; cases e)
 have hB1:Below n0 w W1:=h.below.grown (row:=some mb) ⟨ho1,ht1,hp1,by omega,fun i hi hne=>hk1 i (fun e=>hne (by rw [e]))⟩ (Nat.le_trans h0 h.below.size) (fun r e=>by obtain rfl:=Option.some.inj e; exact km)
 have hB2:Below n0 w w1:=Below.grown (hB1.alloc (Nat.le_trans h0 hB1.size) _) hg (by rw [World.size_alloc]; exact Nat.le_succ_of_le (Nat.le_trans h0 hB1.size)) (fun r e=>(ho.lt r e).1)
 have h5t:tb≠bo:=by
  obtain ⟨u,hu,_⟩:=h.row
  exact fun e=>tb_ne hu h.ht (by intro cs fr e; injection e with _ e _; exact absurd e (by decide)) e.symm
 have htm:tb≠mb:=fun e=>tb_ne hmw h.ht (by intro cs fr e; cases e) e.symm
 refine ⟨⟨?_,hnf _ _ h.h1 hbo (hnb _ _ _ h.h1) (by intro cs fr e; injection e with _ e _; exact absurd e (by decide)),?_,hnf _ _ h.h4 (hne _ _ _ h.h4 (by decide)) (hnb _ _ _ h.h4) (by intro cs fr e; injection e with _ e _; exact absurd e (by decide)),
  hnf _ _ h.ht h5t htm (by intro cs fr e; injection e with _ e _; exact absurd e (by decide)),hnf _ _ h.h5 (hne _ _ _ h.h5 (by decide)) (hnb _ _ _ h.h5) (by intro cs fr e; injection e with _ e _; exact absurd e (by decide)),hB2.setCell ko _⟩,by omega,fun i hi hf => ?_,fun i hi => ?_,g5⟩
 ·show HR n0 bo _ _ 19 (s.out ++ [m]).length (ncells (s.out ++ [m])) _
  rw [ncells_snoc,List.length_append]
  exact g1
 ·show NM _ mb (entsN 0 (s.out ++ [m]))
  rw [entsN_app,Nat.zero_add]
  exact hm1.keep (g3 mb hm1.lt hmb1)
 ·rw [g3 i (by omega) (fun h=>hf (.inl (hf1 i h))),hk1 i (fun e=>hf (.inr (.inr (.inl e))))]
 ·rcases g4 i hi with h | h
  ·exact .inl (hf1 i h)
  ·exact .inr (by omega)
theorem FSt.put_map {n0 b1 mb b4 tb b5 bo n:Nat} {v:Value} {w:World} {s:FS} {W:World} (h:FSt n0 b1 mb b4 tb b5 bo n v w s W) {m:Nd} (hk:lookN (entsN 0 s.out) m=none) :
  ∃ Wm,(Instr.mapUpdate 127 (.map (some mb)) m.val (.int .i64 (s.out.length:Nat))).run Tryz.prog W = .ok () Wm∧NM Wm mb (entsN 0 s.out ++ [(m,s.out.length)])∧Wm.heap.size=W.heap.size∧(∀ b,b≠mb -> Wm.heap[b]? = W.heap[b]?)∧Wm.os=W.os∧Wm.tape=W.tape∧Wm.output=W.output ∧
   (∀ u,Boxed W bo 43 u -> W.ownsRow n0 67 19 u s.out.length (ncells s.out) -> Boxed Wm bo 43 u∧Wm.ownsRow n0 67 19 u s.out.length (ncells s.out)) ∧ ∀ nb nd,NBlk W nb nd -> NBlk Wm nb nd:=by
 obtain ⟨Wm,h1,h2,h3,h4,h5,h6,h7⟩:=h.hm.store m s.out.length hk
 obtain ⟨es,c,hmw,_⟩:=h.hm
 have hg:W.grownBy Wm (some mb):=⟨h5,h6,h7,by omega,fun i hi hne=>h4 i (fun e=>hne (by rw [e]))⟩
 have hnm:∀ b cs t fr,W.heap[b]? = some (.cells cs t fr) -> b≠mb:=fun b cs t fr hb e=>by
  subst e
  rw [hb] at hmw
  injection hmw with hmw
  cases hmw
 refine ⟨Wm,h1,h2,h3,h4,h5,h6,h7,fun u hu ho=>⟨hu.kept hg (by have:=hnm _ _ _ _ hu; simpa using this),ho.kept hg ?_⟩,fun nb nd hn=>(h4 nb (hnm _ _ _ _ hn)).trans hn⟩
 cases hvo:u.ownBlock with
 | none=>exact .inl rfl
 | some g =>
  refine .inr fun e => ?_
  obtain rfl:=Option.some.inj e
  refine not_footR h.row (hnm _ _ _ _ hu).symm hmw (by intro cs fr e; cases e) (.inr ⟨u,hu.cell,hvo⟩)
theorem cells_nd (W:World) (m:Nd):∀ j u,m.cells[j]? = some u -> (W.alloc (.cells m.cells.toArray 67)).cell? ((⟨W.heap.size,0,none⟩:Addr).add j)=some u:=by
 intro j u hu
 have hadd:(⟨W.heap.size,0,none⟩:Addr).add j=⟨W.heap.size,j,none⟩:=by unfold Addr.add; split <;> simp_all
 rw [hadd,cell_of_row _ _ _ _ _ _ (heap_alloc_new W _)]
 simpa using hu
def CutR (n0 b1 mb b4 tb b5 bo n:Nat) (v:Value) (w:World) (st:FS) (nd:Nd) (W W':World):Prop :=
 FSt n0 b1 mb b4 tb b5 bo n v w st W'∧NBlk W' W.heap.size (remap st.tm nd)∧W.grownBy W' none ∧ ∀ i,footR bo W' i -> footR bo W i
theorem cut_mk {n0 b1 mb b4 tb b5 bo n:Nat} {v:Value} {w:World} {st:FS} {W Wb Wd:World} (l:List Nd) (nd n0d:Nd) (h:FSt n0 b1 mb b4 tb b5 bo n v w st W) (hn:n0 <= w.heap.size) (k1:n0 <= b1) (km:n0 <= mb) (k4:n0 <= b4) (kt:n0 <= tb) (k5:n0 <= b5) (ko:n0 <= bo)
  (hb:W.grownBy Wb none) (hnb:NBlk Wb W.heap.size n0d) (hd:Wb.grownBy Wd (some W.heap.size)) (hm:NBlk Wd W.heap.size (remap st.tm nd)):CutR n0 b1 mb b4 tb b5 bo n v w st nd W Wd:=by
 have hF:=footFS n0 b1 mb b4 tb b5 bo n v w l st hn k1 km k4 kt k5 ko
 obtain ⟨hIb,hfb⟩:=hF.own [] W Wb none h hb (fun r e=>by cases e)
 have hfr:=(h.row.own hb (fun r e=>by cases e)).2
 have hnf:¬ footF b1 mb b4 tb b5 bo Wb W.heap.size:=fun hf=>by
  have:=(hF.size [] W _ h (hfb _ hf)).2
  omega
 have hpr:Priv (footF b1 mb b4 tb b5 bo) Wb W.heap.size:=⟨⟨_,_,_,hnb⟩,hnf⟩
 obtain ⟨hId,hfd⟩:=hF.own [] Wb Wd (some W.heap.size) hIb hd (fun r e=>by obtain rfl:=Option.some.inj e; exact ⟨Nat.le_trans hn h.below.size,hpr⟩)
 have hfr2:=(hIb.row.own hd (fun r e=>by obtain rfl:=Option.some.inj e; exact fun hf=>hnf (.inl hf))).2
 refine ⟨hId,hm,⟨hd.os.trans hb.os,hd.tape.trans hb.tape,hd.output.trans hb.output,Nat.le_trans hb.size hd.size,fun i hi _ => ?_⟩,fun i hi=>hfr i (hfr2 i hi)⟩
 rw [hd.block i (Nat.lt_of_lt_of_le hi hb.size) (fun e=>by have:=Option.some.inj e; omega),hb.block i hi (by simp)]
theorem step_some {p:Nat -> Nd} {s:FS} {x k:Nat} {m:Nd} (hm:remap s.tm (p x)=m) (h:idxN s.out m=some k):stepF p s x=⟨upd s.tm x k,s.out⟩:=by
 subst hm
 unfold stepF
 rw [h]
theorem step_none {p:Nat -> Nd} {s:FS} {x:Nat} {m:Nd} (hm:remap s.tm (p x)=m) (h:idxN s.out m=none):stepF p s x=⟨upd s.tm x s.out.length,s.out ++ [m]⟩:=by
 subst hm
 unfold stepF
 rw [h]
theorem toA_cell {W:World} {tb n x:Nat} {tm:Nat -> Nat} (h:W.heap[tb]? = some (.cells (toA n tm) 3 (0,0))) (hx:x<n):W.cell? ⟨tb,x,none⟩=some (.int .i64 (tm x:Nat)):=by rw [cell_of_row _ _ _ _ _ _ h]; exact toA_at _ _ _ hx
theorem toA_frozen {W:World} {tb n:Nat} {tm:Nat -> Nat} (h:W.heap[tb]? = some (.cells (toA n tm) 3 (0,0))) (x:Nat):W.frozen? ⟨tb,x,none⟩=false:=by simp [World.frozen?,h]
theorem nblk_frozen {W:World} {b:Nat} {m:Nd} (h:NBlk W b m) (j:Nat):W.frozen? ⟨b,j,none⟩=false:=by
 have h':W.heap[b]? = some (.cells m.cells.toArray 67 (0,0)):=h
 simp [World.frozen?,h']
theorem set_keep (W:World) (b j:Nat) (v:Value) (_hb:b<W.heap.size):W.grownBy (W.setCell ⟨b,j,none⟩ v) (some b):=⟨rfl,rfl,rfl,by simp,fun i _ hne=>Below.heap_setCell W ⟨b,j,none⟩ v i (fun e=>hne (by rw [e]))⟩
end Go.Proofs.YtejmbbkklhpnaaaGreatDoor.flatw

/- Flat: its answer is flatP. UNDER WAY. -/
namespace Go.Proofs.YtejmbbkklhpnaaaGreatDoor.flatw
open Go.RowKit Go.Shelf
open nodew
open chkw
open flatm
attribute [local go_sem] Oper.semAt_some
theorem mk_map (w:World):(Instr.makeMap 127 none).run Tryz.prog w = .ok (.map (some w.heap.size)) (w.alloc (.map #[] 0)):=by
 simp [Instr.makeMap,go_sem]
set_option maxRecDepth 100000 in
set_option maxHeartbeats 4000000 in
theorem flat_any (l:List Nd) (hok:∀ n∈l,n.ok) (hr:rightP l=true) (v:Value) (w:World) (hn:NArg w w.heap.size v l) :
  Calls Tryz.prog 31 #[v] w fun e w'=>∃ v',e = .returned (.tuple #[v',.int .i64 0])∧w'.ownsRow w.heap.size 67 19 v' (flatP l).length (ncells (flatP l))∧Below w.heap.size w w':=by
 obtain ⟨_,h0,h4⟩:=right_nodes hr
 rw [<- callsIn_wide (n:=3)]
 obtain ⟨A,c,rfl⟩:=hn.form
 have HN:=Lib.hid hn
 have HOK:=Lib.hid hok
 have HR:=Lib.hid hr
 clear hn hok hr
 obtain ⟨W1,hW1⟩:∃ W1,W1=w.alloc (.cells #[.slice A l.length c] 43):=⟨_,rfl⟩
 have hb1:Boxed W1 w.heap.size 43 (.slice A l.length c):=by rw [hW1]; exact Boxed.new w _ _
 have hB1:Below w.heap.size w W1:=by rw [hW1]; exact (Below.refl _ w).alloc (Nat.le_refl _) _
 have hrt:=right_any w.heap.size _ l HOK.out (by omega) W1 ((HN.out.ext hB1).read) hB1.size
 rw [HR.out] at hrt
 have HRT:=Lib.hid hrt
 have cp1:=hb1.cell
 have cp1r:=cp1
 rw [hW1] at cp1r
 clear hrt
 refine callsIn_of_wp_marks Tryz.func31 rfl trivial ?_ rfl
 simp only [Tryz.ntmps31,List.size_toArray,List.length_cons,List.length_nil,Nat.reduceAdd,Nat.reduceSub,Array.replicate_succ,Array.replicate_zero,List.push_toArray,List.append_toArray,List.nil_append,List.cons_append]
 gi_wp2_with (rw [<- hW1])
 refine ⟨trivial,(callsIn_wide.2 HRT.out).mono ?_⟩
 rintro e W2 ⟨rfl,hBr⟩
 have hB2:Below w.heap.size w W2:=hB1.trans (hBr.mono hB1.size)
 have hb2:Boxed W2 w.heap.size 43 (.slice A l.length c):=(hBr.block _ hb1.lt).trans hb1
 obtain ⟨s,hs⟩:∃ s,s=W2.heap.size:=⟨_,rfl⟩
 have hsz:w.heap.size<s:=by rw [hs]; exact hb2.lt
 obtain ⟨W3,hW3⟩:∃ W3,W3=(W2.alloc (.map #[] 0)).alloc (.cells #[.map (some s)] 127):=⟨_,rfl⟩
 have z3:W3.heap.size=s+1+1:=by rw [hW3,hs]; simp
 have hb3:Boxed W3 w.heap.size 43 (.slice A l.length c):=by rw [hW3]; exact (hb2.alloc _).alloc _
 have hmm:(Instr.makeMap 127 none).run Tryz.prog W2 = .ok (.map (some s)) (W2.alloc (.map #[] 0)):=by rw [hs]; exact mk_map W2
 have hmk:(Instr.makeSlice 86 (.int .i64 l.length) (.int .i64 l.length)).run Tryz.prog W3 = .ok (.slice (some ⟨s+1+1,0,none⟩) l.length l.length) (W3.alloc (.cells (toA l.length fun _=>0) 3)):=by
  rw [<- z3]; exact mk_int l.length h4 W3
 have cp2:=hb2.cell
 have cp3:=hb3.cell
 have cp3r:=cp3
 rw [hW3] at cp3r
 have cp3s:=cp3r
 rw [hs] at cp3s
 have hmkr:=hmk
 rw [hW3] at hmkr
 have hmks:=hmkr
 rw [hs] at hmks
 obtain ⟨W4,hW4⟩:∃ W4,W4=((W3.alloc (.cells (toA l.length fun _=>0) 3)).alloc (.cells #[.slice (some ⟨s+1+1,0,none⟩) l.length l.length] 86)).alloc (.cells #[.slice none 0 0] 43):=⟨_,rfl⟩
 have z4:W4.heap.size=s+1+1+1+1+1:=by rw [hW4]; simp; omega
 have hb4:Boxed W4 w.heap.size 43 (.slice A l.length c):=by rw [hW4]; exact ((hb3.alloc _).alloc _).alloc _
 have cp4:=hb4.cell
 have cp4r:=cp4
 rw [hW4] at cp4r
 have cp4s:=cp4r
 rw [hW3] at cp4s
 have cp4t:=cp4s
 rw [hs] at cp4t
 clear hBr hB1 hb1 cp1 cp1r hW1 HRT
 gi_wp2_with (first | (rw [<- hs]) | (rw [<- hW4]) | (rw [<- hW3]))
 refine ⟨trivial,(needed_in _ A l.length c W4).mono ?_⟩
 rintro e W5 ⟨rfl,hW5⟩
 rw [z4]
 have m3:W3.heap[s]? = some (.map #[] 0):=by rw [hW3,Below.heap_alloc _ _ _ (by simp; omega)]; exact heap_at _ _ _ hs.symm
 have m4:Boxed W3 (s+1) 127 (.map (some s)):=by unfold Boxed; rw [hW3]; exact heap_at _ _ _ (by simp; omega)
 have t4:W4.heap[s+1+1]? = some (.cells (toA l.length fun _=>0) 3 (0,0)):=by
  rw [hW4,Below.heap_alloc _ _ _ (by simp; omega),Below.heap_alloc _ _ _ (by simp; omega)]
  exact heap_at _ _ _ z3
 have q4:Boxed W4 (s+1+1+1) 86 (.slice (some ⟨s+1+1,0,none⟩) l.length l.length):=by
  unfold Boxed
  rw [hW4,Below.heap_alloc _ _ _ (by simp; omega)]
  exact heap_at _ _ _ (by simp; omega)
 have o4:Boxed W4 (s+1+1+1+1) 43 (.slice none 0 0):=by unfold Boxed; rw [hW4]; exact heap_at _ _ _ (by simp; omega)
 have g34:W3.grownBy W4 none:=by rw [hW4]; exact grown_trans (grown_trans (World.grownBy_alloc _ _ none) (World.grownBy_alloc _ _ none)) (World.grownBy_alloc _ _ none)
 have g45:W4.grownBy W5 none:=by rw [hW5]; exact World.grownBy_alloc _ _ none
 have g35:=grown_trans g34 g45
 have hB3:Below w.heap.size w W3:=by rw [hW3]; exact (hB2.alloc hB2.size _).alloc (by simp; have:=hB2.size; omega) _
 have hB5:Below w.heap.size w W5:=hB3.grown g35 (by omega) (fun r e=>by cases e)
 have p5:Boxed W5 (s+1+1+1+1+1) 43 (.slice A l.length c):=by unfold Boxed; rw [hW5]; exact heap_at _ _ _ z4
 have z5:W5.heap.size=s+1+1+1+1+1+1:=by rw [hW5,World.size_alloc,z4]
 have hF5:FSt w.heap.size w.heap.size s (s+1) (s+1+1) (s+1+1+1) (s+1+1+1+1) l.length (.slice A l.length c) w ⟨fun _=>0,[]⟩ W5 :=
  ⟨⟨_,o4.kept g45 (by simp),World.ownsRow_nil _ _ _ _⟩,hb3.kept g35 (by simp),⟨#[],0,(g35.block s (by omega) (by simp)).trans m3,rfl⟩,m4.kept g35 (by simp),(g45.block _ (by omega) (by simp)).trans t4,q4.kept g45 (by simp),hB5⟩
 have HF5:=Lib.hid hF5
 have HB5:=Lib.hid hB5
 have HP5:=Lib.hid p5
 have HS:=Lib.hid hs
 have HO5:=Lib.hid (o4.kept g45 (by simp))
 have Z5:=Lib.hid z5
 clear hF5 hB5 p5 g35 g45 g34 o4 q4 t4 m4 m3 hW5 cp4 cp4r cp4s cp4t hmks hmkr cp3 cp3r cp3s cp2 hmk hmm hW4 hW3 hb4 hb3 hb2 hB2 hB3 z3 z4 z5 hs
 gi_wp2_with fail
 have hpl:(s+1+1+1+1+1)<W5.heap.size:=HP5.out.lt
 refine range_seq (by omega) (footFS w.heap.size w.heap.size s (s+1) (s+1+1) (s+1+1+1) (s+1+1+1+1) l.length (.slice A l.length c) w l ⟨fun _=>0,[]⟩ (Nat.le_refl _) (Nat.le_refl _) (by omega) (by omega) (by omega) (by omega) (by omega))
  (fun pre W k o o' h hk ho hr hr'=>h.put (Nat.le_refl _) (Nat.le_trans HB5.out.size hk) ho hr) (fun W k o o' ho hr hr' i hi=>footF_put ho hr hr' i hi) l h0 h4 (right_ac HR.out) (kidsI_right HR.out) (s+1+1+1+1+1) (.slice A l.length c) HB5.out.size HP5.out ?_ (HN.out.ext HB5.out) HF5.out rfl
  (fun x:Nat=>{ tmps:=#[.slice A l.length c,.pointer (some ⟨w.heap.size,0,none⟩),.slice none 0 0,.int .i64 0,.pointer (some ⟨s+1,0,none⟩),.pointer (some ⟨s+1+1+1,0,none⟩),.pointer (some ⟨s+1+1+1+1,0,none⟩),.int .i64 x,undef,undef,undef,undef,.slice A l.length c,.bool true,.bool false,.map (some s),.slice A l.length c,.int .i64 l.length,.slice (some ⟨s+1+1,0,none⟩) l.length l.length,.slice A l.length c,.func (.func 94) #[] #[.pointer (some ⟨s+1+1+1+1+1,0,none⟩)],.int .i64 x,undef,undef,undef,undef,undef,undef,undef,undef,undef,undef,undef,undef,undef,undef,undef,undef,undef,undef,undef,undef,undef,undef,undef,undef,undef,undef,undef,undef,undef,undef,undef,undef,undef,undef,undef,undef,undef,undef,undef,undef,undef,undef,undef,undef,undef,undef],defers:=[] }) ?_ ?_ ?_
 ·obtain ⟨u,hu,ho⟩:=HF5.out.row
  have hnil:W5.cell? ⟨s+1+1+1+1,0,none⟩=some (.slice none 0 0):=HO5.out.cell
  rintro ((e | ⟨u,hu,hf⟩) | e | e | e | e | e)
  ·omega
  ·rw [hnil] at hu
   obtain rfl:=Option.some.inj hu
   cases hf
  all_goals omega
 ·intro lb m x W K hK
  gi_wp2
  exact hK
 ·intro lb m pre x W hI hx hpre
  obtain ⟨st,hst⟩:∃ st,pre.foldl (stepF (nth l)) ⟨fun _=>0,[]⟩=st:=⟨_,rfl⟩
  have hst2:(pre ++ [x]).foldl (stepF (nth l)) ⟨fun _=>0,[]⟩=stepF (nth l) st x:=by rw [List.foldl_append,hst]; rfl
  have hplen:pre.length<4096:=by
   have h1:=hpre.length_le
   have h2:=(ord_len HR.out).2.1
   simp at h1
   omega
  have hol:st.out.length <= pre.length:=by rw [<- hst]; have:=fold_len (nth l) pre ⟨fun _=>0,[]⟩; simpa using this
  have hpx:∀ y∈pre,y<l.length:=fun y hy=>(ord_len HR.out).2.2 y (hpre.subset (List.mem_append.2 (.inl hy)))
  have hrt:∀ q∈st.out,Nd.rt q:=by rw [<- hst]; exact fold_rt (nth l) pre _ (fun y hy=>nth_rt HR.out HOK.out (hpx y hy)) (fun q hq=>by cases hq)
  rw [hst] at hI
  have hB:=hI.below
  obtain ⟨g,off,hA,hgB,hgl,hcl⟩:∃ g off,A=some ⟨g,off,none⟩∧g<w.heap.size∧g<W.heap.size ∧ ∀ j u,(ncells l)[j]? = some u -> W.cell? ⟨g,off+j,none⟩=some u:=by
   obtain ⟨A',c',hv,_,_,hc⟩:=HN.out.ext hB
   injection hv with e1 _ _
   subst e1
   exact hc (by intro e; rw [e] at hx; simp at hx)
  subst hA
  have hld:=(NRead.at (B:=w.heap.size) (g:=g) (off:=off) (W:=W) (l:=l) (k:=x) (fun _=>⟨g,off,rfl,hgB,hgl,hcl⟩) hx).2 W rfl
  have hnx:l[x]=nth l x:=by unfold nth; simp [hx]
  rw [hnx] at hld
  obtain ⟨nd,hnd⟩:∃ nd,nth l x=nd:=⟨_,rfl⟩
  rw [hnd] at hld
  have hki:=kidsI_right HR.out x hx
  have hkl:=right_ac HR.out x hx
  have hndrt:=nth_rt HR.out HOK.out hx
  rw [hnd] at hki hkl hndrt
  have c1:=hI.h1.cell
  have x0:(0:Int) <= (x:Int):=by omega
  have xi:(x:Int)<(l.length:Int):=by omega
  obtain ⟨Wa,hWa⟩:∃ Wa,Wa=W.alloc (.cells nd.cells.toArray 67):=⟨_,rfl⟩
  have hna:NBlk Wa W.heap.size nd:=by rw [hWa]; exact heap_alloc_new W _
  have hga:W.grownBy Wa none:=by rw [hWa]; exact World.grownBy_alloc W _ none
  have hza:Wa.heap.size=W.heap.size+1:=by rw [hWa]; simp
  have hbl:=below_any nd Wa
  have HLD:=Lib.hid hld
  have HNA:=Lib.hid hna
  have HGA:=Lib.hid hga
  have HBL:=Lib.hid hbl
  have HI:=Lib.hid hI
  have HKI:=Lib.hid hki
  have HKL:=Lib.hid hkl
  have HRT:=Lib.hid hrt
  have HNR:=Lib.hid hndrt
  have HST:=Lib.hid hst2
  have HZA:=Lib.hid hza
  clear hst hst2 hpx hrt hB hgB hgl hcl hld hnx hki hkl hna hga hbl hI hndrt hpre hza
  gi_wp2_with (first | (rw [<- hWa]) | (refine wli_load rfl (.tmp 24) rfl (.pointer (some ⟨g,off+x*19,none⟩)) rfl nd HLD.out ?_) | (refine wli_alloc rfl rfl ?_) | (refine wli_store_new rfl (.tmp 8) (.tmp 25) rfl nd rfl rfl ?_) | (refine wli_load rfl (.tmp 8) rfl (.pointer (some ⟨W.heap.size,0,none⟩)) rfl nd HNA.out.loadAt ?_))
  have hbc:CallsIn (Fence.wide.inRound lb) (m-1) Tryz.prog 62 #[nd.val] Wa (BelowPost Wa nd):=(callsIn_wide (n:=m-1)).2 HBL.out
  refine ⟨trivial,fun h=>(by cases h),hbc.mono ?_⟩
  rintro e Wb ⟨vb,rfl,hIA,hBb,_⟩
  obtain ⟨A2,rfl,_⟩:=hIA.uni
  have hgb:W.grownBy Wb none:=grown_trans HGA.out (grown_below hBb none)
  have hnb:NBlk Wb W.heap.size nd:=(hBb.block _ (by have:=HZA.out; omega)).trans HNA.out
  have HGB:=Lib.hid hgb
  have HNB:=Lib.hid hnb
  have hIb:=((footFS w.heap.size w.heap.size s (s+1) (s+1+1) (s+1+1+1) (s+1+1+1+1) l.length (.slice (some ⟨g,off,none⟩) l.length c) w l st (Nat.le_refl _) (Nat.le_refl _) (by omega) (by omega) (by omega) (by omega) (by omega)).own [] W Wb none HI.out hgb (fun r e=>by cases e)).1
  have hIb:FSt w.heap.size w.heap.size s (s+1) (s+1+1) (s+1+1+1) (s+1+1+1+1) l.length (.slice (some ⟨g,off,none⟩) l.length c) w st Wb:=hIb
  have c5:=hIb.h5.cell
  have ct:∀ i,i<l.length -> Wb.cell? ⟨s+1+1,i,none⟩=some (.int .i64 (st.tm i:Nat)):=fun i hi=>by rw [cell_of_row _ _ _ _ _ _ hIb.ht]; exact toA_at _ _ _ hi
  have HIB:=Lib.hid hIb
  have HCT:=Lib.hid ct
  have hsl:s+1+1+1+1<W.heap.size:=by obtain ⟨u,hu,_⟩:=HI.out.row; exact hu.lt
  clear hIA hBb hgb hnb hIb ct
  obtain ⟨q,hq⟩:∃ q,(kidsI nd).length=q:=⟨_,rfl⟩
  rw [hq]
  have HQ:=Lib.hid hq
  clear hq
  gi_upto_if 30 with (fail)
  gi_cut [9] from 26 (fun _ wr=>CutR w.heap.size w.heap.size s (s+1) (s+1+1) (s+1+1+1) (s+1+1+1+1) l.length (.slice (some ⟨g,off,none⟩) l.length c) w st nd W wr)
  case first =>
   have hcm:=fun (Wd:World) (hd:Wb.grownBy Wd (some W.heap.size)) (hm:NBlk Wd W.heap.size (remap st.tm nd))=>cut_mk l nd nd HI.out (Nat.le_refl _) (Nat.le_refl _) (by omega) (by omega) (by omega) (by omega) (by omega) HGB.out HNB.out hd hm
   have HCM:=Lib.hid hcm
   clear hcm
   by_cases h5:nd.kind=5
   ·have hkx:kidsI nd=[nd.a,nd.b]:=by unfold kidsI; rw [if_pos h5]
    have hk2:kids nd=[nd.a.toNat,nd.b.toNat]:=by unfold kids; rw [if_pos h5]
    obtain ⟨a0,b0⟩:0 <= nd.a∧0 <= nd.b:=by
     have h:=HKI.out
     rw [hkx,hk2] at h
     simp at h
     omega
    have al:nd.a.toNat<x:=HKL.out _ (by rw [hk2]; simp)
    have bl:nd.b.toNat<x:=HKL.out _ (by rw [hk2]; simp)
    have an:nd.a<(l.length:Int):=by omega
    have bn:nd.b<(l.length:Int):=by omega
    have ca:=HCT.out nd.a.toNat (by omega)
    have cb:=HCT.out nd.b.toNat (by omega)
    have c17:Wb.cell? ⟨W.heap.size,17,none⟩=some (.int .i64 nd.a):=(HNB.out.cell 17).trans rfl
    have f17:=nblk_frozen HNB.out 17
    obtain ⟨Wc,hWc⟩:∃ Wc,Wc=Wb.setCell ⟨W.heap.size,17,none⟩ (.int .i64 (st.tm nd.a.toNat:Nat)):=⟨_,rfl⟩
    have hnc:NBlk Wc W.heap.size { nd with a:=(st.tm nd.a.toNat:Nat) }:=by rw [hWc]; exact nblk_store HNB.out 17 _ rfl
    have hgc:Wb.grownBy Wc (some W.heap.size):=by rw [hWc]; exact set_keep _ _ _ _ (by have:=HGB.out.size; have:=HZA.out; exact (Array.getElem?_eq_some_iff.1 HNB.out).1)
    have d5:Wc.cell? ⟨s+1+1+1,0,none⟩=some (.slice (some ⟨s+1+1,0,none⟩) l.length l.length):=(HIB.out.h5.kept hgc (by simp; omega)).cell
    have db:Wc.cell? ⟨s+1+1,nd.b.toNat,none⟩=some (.int .i64 (st.tm nd.b.toNat:Nat)):=by
     rw [World.cell?_of_block (a:=⟨s+1+1,nd.b.toNat,none⟩) (hgc.block (s+1+1) (Nat.lt_of_lt_of_le (by omega) HGB.out.size) (by intro e; injection e with e; omega))]
     exact cb
    have d18:Wc.cell? ⟨W.heap.size,18,none⟩=some (.int .i64 nd.b):=(hnc.cell 18).trans rfl
    have g18:=nblk_frozen hnc 18
    obtain ⟨Wd,hWd⟩:∃ Wd,Wd=Wc.setCell ⟨W.heap.size,18,none⟩ (.int .i64 (st.tm nd.b.toNat:Nat)):=⟨_,rfl⟩
    have hnd':NBlk Wd W.heap.size (remap st.tm nd):=by
     rw [hWd]
     refine nblk_store hnc 18 _ ?_
     unfold remap
     rw [if_pos h5]
     rfl
    have hgd:Wb.grownBy Wd (some W.heap.size):=grown_trans hgc (by rw [hWd]; exact set_keep _ _ _ _ (Array.getElem?_eq_some_iff.1 hnc).1)
    have HREL:=Lib.hid (HCM.out Wd hgd hnd')
    have hq2:q=2:=by rw [<- HQ.out,hkx]; rfl
    have q0:0<q:=by omega
    have q1:1<q:=by omega
    have q0b:decide (0<q)=true:=by rw [decide_eq_true_iff]; omega
    have q1b:decide (1<q)=true:=by rw [decide_eq_true_iff]; omega
    have d5r:=d5
    have dbr:=db
    have d18r:=d18
    have g18r:=g18
    rw [hWc] at d5r dbr d18r g18r
    clear hk2 hkx hnc hgc hnd' hgd hq2
    gi_wp2_with (first | (rw [<- hWc]) | (rw [<- hWd]))
    gi_meet
    case rel=>exact HREL.out
   ·by_cases h6:nd.kind=6
    ·have hkx:kidsI nd=[nd.a]:=by unfold kidsI; rw [if_neg h5,if_pos h6]
     have hk2:kids nd=[nd.a.toNat]:=by unfold kids; rw [if_neg h5,if_pos h6]
     have a0:0 <= nd.a:=by
      have h:=HKI.out
      rw [hkx,hk2] at h
      simp at h
      omega
     have al:nd.a.toNat<x:=HKL.out _ (by rw [hk2]; simp)
     have an:nd.a<(l.length:Int):=by omega
     have ca:=HCT.out nd.a.toNat (by omega)
     have c17:Wb.cell? ⟨W.heap.size,17,none⟩=some (.int .i64 nd.a):=(HNB.out.cell 17).trans rfl
     have f17:=nblk_frozen HNB.out 17
     obtain ⟨Wc,hWc⟩:∃ Wc,Wc=Wb.setCell ⟨W.heap.size,17,none⟩ (.int .i64 (st.tm nd.a.toNat:Nat)):=⟨_,rfl⟩
     have hnc:NBlk Wc W.heap.size (remap st.tm nd):=by
      rw [hWc]
      refine nblk_store HNB.out 17 _ ?_
      unfold remap
      rw [if_neg h5,if_pos h6]
      rfl
     have hgc:Wb.grownBy Wc (some W.heap.size):=by rw [hWc]; exact set_keep _ _ _ _ (Array.getElem?_eq_some_iff.1 HNB.out).1
     have HREL:=Lib.hid (HCM.out Wc hgc hnc)
     have hq2:q=1:=by rw [<- HQ.out,hkx]; rfl
     have q0:0<q:=by omega
     have q1:¬ 1<q:=by omega
     have q1i:¬ (1:Int)<(q:Int):=by omega
     have q0b:decide (0<q)=true:=by rw [decide_eq_true_iff]; omega
     have q1b:decide ((1:Int)<(q:Int))=false:=by rw [decide_eq_false_iff_not]; omega
     clear hk2 hkx hnc hgc hq2
     gi_wp2_with (rw [<- hWc])
     gi_meet
     case rel=>exact HREL.out
    ·have hkx:kidsI nd=[]:=by unfold kidsI; rw [if_neg h5,if_neg h6]
     have hq2:q=0:=by rw [<- HQ.out,hkx]; rfl
     have q0:¬ 0<q:=by omega
     have q0b:decide (0<q)=false:=by rw [decide_eq_false_iff_not]; omega
     have hnc:NBlk Wb W.heap.size (remap st.tm nd):=by
      unfold remap
      rw [if_neg h5,if_neg h6]
      exact HNB.out
     have HREL:=Lib.hid (HCM.out Wb (World.grownBy.refl _ _) hnc)
     clear hkx hq2 hnc
     gi_wp2_with fail
     gi_meet
     case rel=>exact HREL.out
  case rest =>
   obtain ⟨hIc,hnc,hgc,hfc⟩:=hcut
   obtain ⟨m,hm⟩:∃ m,remap st.tm nd=m:=⟨_,rfl⟩
   have hmx:remap st.tm (nth l x)=m:=by rw [hnd]; exact hm
   have hmr:Nd.rt m:=by rw [<- hm]; exact remap_rt _ HNR.out
   rw [hm] at hnc
   have look:=hIc.hm.lookup m
   rw [look_idx m hmr st.out HRT.out] at look
   have c4:=hIc.h4.cell
   have c5c:=hIc.h5.cell
   have cx:wc.cell? ⟨s+1+1,x,none⟩=some (.int .i64 (st.tm x:Nat)):=by rw [cell_of_row _ _ _ _ _ _ hIc.ht]; exact toA_at _ _ _ hx
   have fx:wc.frozen? ⟨s+1+1,x,none⟩=false:=by simp [World.frozen?,hIc.ht]
   have HIC:=Lib.hid hIc
   have HNC:=Lib.hid hnc
   have HGC:=Lib.hid hgc
   have HFC:=Lib.hid hfc
   have HMX:=Lib.hid hmx
   have HMR:=Lib.hid hmr
   clear hIc hnc hgc hfc hmx hm hmr c5 c1 hWa hnd
   cases hq:idxN st.out m with
   | some k =>
    have look2:(Instr.lookup 127 (.map (some s)) m.val true).run Tryz.prog wc = .ok (.tuple #[.int .i64 (k:Int),.bool true]) wc:=by rw [hq] at look; exact look
    have HL:=Lib.hid look2
    have hkl:k<st.out.length:=(List.getElem?_eq_some_iff.1 (idx_some hq)).1
    obtain ⟨W9,hW9⟩:∃ W9,W9=wc.setCell ⟨s+1+1,x,none⟩ (.int .i64 (k:Nat)):=⟨_,rfl⟩
    clear look look2
    gi_wp2_with (first | (rw [<- hW9]) | (refine wli_load rfl (.tmp 8) rfl (.pointer (some ⟨W.heap.size,0,none⟩)) rfl m HNC.out.loadAt ?_) | (refine wli_lookup rfl (.tmp 47) (.tmp 48) rfl (.map (some s)) m.val rfl rfl _ HL.out ?_))
    obtain ⟨t1,t2⟩:=HIC.out.to (Nat.le_refl _) (by omega) hx k
    rw [<- hW9] at t1 t2
    have hz9:W9.heap.size=wc.heap.size:=by rw [hW9]; simp
    refine ⟨?_,keepF HI.out (Nat.le_refl _) (by omega) (by omega) (by omega) (by omega) (by omega) (by rw [hz9]; exact HGC.out.size) (fun i hi hf => ?_) (fun i hi => .inl (HFC.out i (t2 i hi)))⟩
    ·dsimp only
     rw [HST.out,step_some HMX.out hq]
     exact t1
    ·rw [hW9,Below.heap_setCell wc ⟨s+1+1,x,none⟩ _ i (fun e=>hf (.inr (.inr (.inr (.inr (.inl e)))))),HGC.out.block i hi (by simp)]
   | none =>
    have look2:(Instr.lookup 127 (.map (some s)) m.val true).run Tryz.prog wc = .ok (.tuple #[.int .i64 0,.bool false]) wc:=by rw [hq] at look; exact look
    have HL:=Lib.hid look2
    obtain ⟨Wm,hup,hnm,hzm,hkm,hom,htm,hpm,hrow,hnbm⟩:=HIC.out.put_map (m:=m) (by rw [look_idx m HMR.out st.out HRT.out]; exact hq)
    obtain ⟨u,hu,ho⟩:=HIC.out.row
    obtain ⟨hu1,ho1⟩:=hrow u hu ho
    obtain ⟨ua,uc,rfl⟩:=row_form ho
    have hcu:=hu.cell
    have hcu1:=hu1.cell
    have HUP:=Lib.hid hup
    have HNM:=Lib.hid hnm
    have HKM:=Lib.hid hkm
    have HZM:=Lib.hid hzm
    have HOM:=Lib.hid (And.intro hom (And.intro htm hpm))
    have HU1:=Lib.hid hu1
    have HO1:=Lib.hid ho1
    have HN1:=Lib.hid (hnbm _ _ HNC.out)
    obtain ⟨i0,hi0,hz0,hz1,hz2⟩:=info_parts nodeInfo
    have hsm:s+1+1+1+1<Wm.heap.size:=hu1.lt
    have hn0:w.heap.size <= Wm.heap.size:=by omega
    clear look look2 hup hnm hkm hzm hom htm hpm hrow hnbm hu ho hu1 ho1
    gi_wp2_with (first | (refine wli_load rfl (.tmp 8) rfl (.pointer (some ⟨W.heap.size,0,none⟩)) rfl m HNC.out.loadAt ?_) | (refine wli_load rfl (.tmp 8) rfl (.pointer (some ⟨W.heap.size,0,none⟩)) rfl m HN1.out.loadAt ?_) | (refine wli_lookup rfl (.tmp 47) (.tmp 48) rfl (.map (some s)) m.val rfl rfl _ HL.out ?_) | (refine wli_update rfl (.tmp 56) (.tmp 57) (.tmp 58) rfl (.map (some s)) m.val (.int .i64 (st.out.length:Nat)) rfl rfl rfl HUP.out ?_) | (refine wli_bs rfl (.tmp 60) rfl m rfl ?_) | (gi_at_builtin; go_loud (refine wpListIn_append_own_at _ rfl _ _ 43 rfl w.heap.size 67 i0 _ 19 152 Tryz.underlying43 hi0 hz0 hz1 hz2 rfl (by decide) _ _ _ rfl (HO1.out.alloc _) ⟨Wm.heap.size,0,none⟩ 1 1 m.cells rfl (nd_cells_len m) (cells_nd _ m) (nd_one' m) (by unfold maxLen; omega) (by omega) (by simp; omega) ?_; intro v' w1 hown' hgrow _ hvb; obtain ⟨g',cap',rfl⟩:=ownsRow_succ hown'; obtain ⟨t1,t2,t3,t4,t5⟩:=HIC.out.add (Nat.le_refl _) (by omega) (by omega) (by omega) HNM.out HZM.out HKM.out HOM.out.1 HOM.out.2.1 HOM.out.2.2 HU1.out HO1.out hgrow hown' hvb; have hc1:=t5.cell; have hf1:=t5.frozen; have hc5:=t1.h5.cell; have hx5:=toA_cell t1.ht hx; have hx6:=toA_frozen t1.ht x; have HT1:=Lib.hid t1; have HT2:=Lib.hid t2; have HT3:=Lib.hid t3; have HT4:=Lib.hid t4; clear t1 t2 t3 t4 t5)))
    obtain ⟨t1,t2⟩:=HT1.out.to (Nat.le_refl _) (by omega) hx st.out.length
    obtain ⟨W3,hW3⟩:∃ W3,W3=w1.setCell ⟨s+1+1+1+1,0,none⟩ (.slice (some ⟨g',0,none⟩) (st.out.length+1) cap'):=⟨_,rfl⟩
    have u2:=HT2.out
    have u3:=HT3.out
    have u4:=HT4.out
    rw [<- hW3] at t1 t2 u2 u3 u4 ⊢
    obtain ⟨W9,hW9⟩:∃ W9,W9=W3.setCell ⟨s+1+1,x,none⟩ (.int .i64 (st.out.length:Nat)):=⟨_,rfl⟩
    rw [<- hW9] at t1 t2 ⊢
    have hz9:W9.heap.size=W3.heap.size:=by rw [hW9]; simp
    have hfc:∀ i,footF w.heap.size s (s+1) (s+1+1) (s+1+1+1) (s+1+1+1+1) wc i -> footF w.heap.size s (s+1) (s+1+1) (s+1+1+1) (s+1+1+1+1) W i:=fun i h=>h.elim (fun h => .inl (HFC.out i h)) .inr
    refine ⟨?_,keepF HI.out (Nat.le_refl _) (by omega) (by omega) (by omega) (by omega) (by omega) (by rw [hz9]; exact Nat.le_trans HGC.out.size u2) (fun i hi hf => ?_) (fun i hi => ?_)⟩
    ·dsimp only
     rw [HST.out,step_none HMX.out hq]
     exact t1
    ·rw [hW9,Below.heap_setCell W3 ⟨s+1+1,x,none⟩ _ i (fun e=>hf (.inr (.inr (.inr (.inr (.inl e)))))),u3 i (Nat.lt_of_lt_of_le hi HGC.out.size) (fun h=>hf (hfc i h)),HGC.out.block i hi (by simp)]
    ·rcases u4 i (t2 i hi) with h | h
     ·exact .inl (HFC.out i h)
     ·exact .inr (Nat.le_trans HGC.out.size h)
 ·intro W hI hd
  have hfl:flatP l=((ordP l).foldl (stepF (nth l)) ⟨fun _=>0,[]⟩).out:=by unfold flatP endP; rw [ordP_eq HR.out]
  obtain ⟨u,hu,ho⟩:=hI.row
  have hB:=hI.below
  rw [<- hfl] at ho
  have hcu:=hu.cell
  have HO:=Lib.hid ho
  have HBW:=Lib.hid hB
  obtain ⟨ua,uc,rfl⟩:=row_form ho
  clear ho hu hI hB hfl
  gi_wp2
  refine ⟨by simp,.inl ⟨_,_,rfl,run_takeDeferred hd,?_⟩⟩
  have hg:=grownBy_putObj' W W5.heap.size (.deferred none)
  have frow:=ownsRow_putObj HO.out (.deferred none) hd rfl
  refine ⟨.tuple #[.slice ua (flatP l).length uc,.int .i64 0],by simp [results,Tryz.results31,go_sem],?_⟩
  exact ⟨_,rfl,frow,HBW.out.grown hg HBW.out.size (fun r e=>by injection e with e; have:=HB5.out.size; omega)⟩
end Go.Proofs.YtejmbbkklhpnaaaGreatDoor.flatw
