/- Flat's state turned: a place is stored, a new node is put down. No conditions but those stated. -/
import Derived.Test.YtlhdabpoljoobaaFlaL
namespace Go.Proofs.Ytlhdabpoljoobaa.flatw
open Go.RowKit Go.Shelf
open Go.Proofs.Ytlhdabpoljoobaa.nodew
open Go.Proofs.Ytlhdabpoljoobaa.chkw
open Go.Proofs.Ytlhdabpoljoobaa.flatm

section
variable {F : Fence} {n : Nat} {ops : Array Oper} {rest : List Oper} {o : Oper} {a : Act} {w w' : World} {Q : Exit → Act → World → Prop}
theorem wli_lookup (hgd : o.guard = none) (x y : Operand) (ho : o.op = .lookup 43 x y true) (mv kv : Value) (hx : a.eval x = mv) (hy : a.eval y = kv) (v : Value)
    (hl : (Instr.lookup 43 mv kv true).run Try.prog w = .ok v w) (h : wpListIn F n Try.prog ops Q rest (a.put o.dst v) w) : wpListIn F n Try.prog ops Q (o :: rest) a w := by
  refine wpListIn_plain hgd fun K hK => ?_
  have hr : (execOp a.eval o).run Try.prog w = .ok (.value v) w := by
    unfold execOp
    simp only [ho, hx, hy, hl, Sem.run_bind, Sem.run_pure, Result.andThen_ok]
  unfold Oper.wpIn
  refine ⟨by simp [Oper.about, ho], ?_⟩
  rw [Oper.semAt_plain F _ _ (by rw [ho]; intro c hc'; cases hc'), hr]
  exact hK _ _ h
theorem wli_update (hgd : o.guard = none) (x y z : Operand) (ho : o.op = .mapUpdate 43 x y z) (mv kv pv : Value) (hx : a.eval x = mv) (hy : a.eval y = kv) (hz : a.eval z = pv)
    (hl : (Instr.mapUpdate 43 mv kv pv).run Try.prog w = .ok () w') (h : wpListIn F n Try.prog ops Q rest (a.put o.dst undef) w') : wpListIn F n Try.prog ops Q (o :: rest) a w := by
  refine wpListIn_plain hgd fun K hK => ?_
  unfold Oper.wpIn
  refine ⟨by simp [Oper.about, ho], ?_⟩
  rw [Oper.semAt_plain F _ _ (by rw [ho]; intro c hc'; cases hc')]
  unfold execOp
  simp only [ho, hx, hy, hz, hl, Sem.run_bind, Sem.run_pure, Result.andThen_ok]
  exact hK _ _ h
theorem wli_bs (hgd : o.guard = none) (x : Operand) (ho : o.op = .buildSlice 22 1 #[(0, x)]) (nd : Nd) (hx : a.eval x = nd.val)
    (h : wpListIn F n Try.prog ops Q rest (a.put o.dst (.slice (some ⟨w.heap.size, 0, none⟩) 1 1)) (w.alloc (.cells nd.cells.toArray 37))) : wpListIn F n Try.prog ops Q (o :: rest) a w := by
  refine wpListIn_plain hgd fun K hK => ?_
  have hr : (execOp a.eval o).run Try.prog w = .ok (.value (.slice (some ⟨w.heap.size, 0, none⟩) 1 1)) (w.alloc (.cells nd.cells.toArray 37)) := by
    unfold execOp
    simp only [ho, Sem.run_bind, List.map_toArray, List.map_cons, List.map_nil, hx, bs_run, Result.andThen_ok, Sem.run_pure]
  unfold Oper.wpIn
  refine ⟨by simp [Oper.about, ho], ?_⟩
  rw [Oper.semAt_plain F _ _ (by rw [ho]; intro c hc'; cases hc'), hr]
  exact hK _ _ h
end

/-- a block that is no row's of the box -/
theorem not_footR {n0 bs t e size k : Nat} {xs : List Value} {W : World} (h : HR n0 bs t e size k xs W) {b : Nat} (hne : b ≠ bs) {p : Obj} (hb : W.heap[b]? = some p) (hp : ∀ cs fr, p ≠ .cells cs e fr) : ¬ footR bs W b := by
  rintro (rfl | ⟨u, hu, hf⟩)
  · exact hne rfl
  · obtain ⟨v, hv, ho⟩ := h
    rw [hv.cell] at hu
    obtain rfl := Option.some.inj hu
    rcases ho.2 with ⟨rfl, _⟩ | ⟨g, cap, cur, rfl, _, hh, _⟩
    · cases hf
    · have : g = b := by simpa [Value.ownBlock] using hf
      subst this
      rw [hh] at hb
      injection hb with hb
      exact hp _ _ hb.symm
/-- the row grows: all that is kept -/
theorem HR.grow {n0 bs t e size k k' : Nat} {xs xs' : List Value} {W w1 : World} {v v' : Value} {tmp : Obj} (hte : t ≠ e) (hv : Boxed W bs t v) (ho : W.ownsRow n0 e size v k xs)
    (hg : (W.alloc tmp).grownBy w1 v.ownBlock) (ho' : w1.ownsRow n0 e size v' k' xs') (hvb : v'.ownBlock = v.ownBlock ∨ v'.ownBlock = some (W.alloc tmp).heap.size) :
    HR n0 bs t e size k' xs' (w1.setCell ⟨bs, 0, none⟩ v') ∧ W.heap.size ≤ (w1.setCell ⟨bs, 0, none⟩ v').heap.size ∧ (∀ i, i < W.heap.size → ¬ footR bs W i → (w1.setCell ⟨bs, 0, none⟩ v').heap[i]? = W.heap[i]?) ∧
      (∀ i, footR bs (w1.setCell ⟨bs, 0, none⟩ v') i → footR bs W i ∨ W.heap.size ≤ i) ∧ Boxed w1 bs t v := by
  have hv1 : Boxed w1 bs t v := (hv.alloc tmp).kept hg (hv.not_row hte ho)
  have hbs : some bs ≠ v'.ownBlock := hv1.not_row hte ho'
  have hz : (w1.setCell ⟨bs, 0, none⟩ v').heap.size = w1.heap.size := by simp
  have hW1 : W.heap.size < w1.heap.size := by have := hg.size; rw [World.size_alloc] at this; omega
  have hv2 : Boxed (w1.setCell ⟨bs, 0, none⟩ v') bs t v' := hv1.set v'
  refine ⟨⟨v', hv2, ho'.kept (grownBy_setCell' w1 bs v') ?_⟩, by omega, fun i hi hf => ?_, fun i hf => ?_, hv1⟩
  · cases h : v'.ownBlock with
    | none => exact .inl rfl
    | some g => exact .inr fun e => hbs (by rw [h, e])
  · rw [Below.heap_setCell w1 ⟨bs, 0, none⟩ v' i (fun e => hf (.inl e)), hg.block i (by rw [World.size_alloc]; omega) (fun e => hf (.inr ⟨v, hv.cell, e.symm⟩)), Below.heap_alloc W tmp i hi]
  · rcases hf with rfl | ⟨u, hu, hf⟩
    · exact .inl (.inl rfl)
    · rw [hv2.cell] at hu
      obtain rfl := Option.some.inj hu
      rcases hvb with h | h
      · exact .inl (.inr ⟨v, hv.cell, h.symm.trans hf⟩)
      · rw [hf] at h
        have := Option.some.inj h
        rw [World.size_alloc] at this
        exact .inr (by omega)

theorem tb_ne {W : World} {b tb : Nat} {p : Obj} {n : Nat} {tm : Nat → Nat} (hb : W.heap[b]? = some p) (ht : W.heap[tb]? = some (.cells (toA n tm) 3 (0, 0))) (hp : ∀ cs fr, p ≠ .cells cs 3 fr) : b ≠ tb := by
  rintro rfl
  rw [hb] at ht
  injection ht with ht
  exact hp _ _ ht
/-- a node's place is stored -/
theorem FSt.to {n0 b1 mb b4 tb b5 bo n : Nat} {v : Value} {w : World} {s : FS} {W : World} (h : FSt n0 b1 mb b4 tb b5 bo n v w s W) (h0 : n0 ≤ w.heap.size) (ht : n0 ≤ tb) {x : Nat} (hx : x < n) (k : Nat) :
    FSt n0 b1 mb b4 tb b5 bo n v w ⟨upd s.tm x k, s.out⟩ (W.setCell ⟨tb, x, none⟩ (.int .i64 (k : Int))) ∧ (∀ i, footR bo (W.setCell ⟨tb, x, none⟩ (.int .i64 (k : Int))) i → footR bo W i) := by
  have hg : W.grownBy (W.setCell ⟨tb, x, none⟩ (.int .i64 (k : Int))) (some tb) := ⟨rfl, rfl, rfl, by simp, fun i hi hne => Below.heap_setCell W ⟨tb, x, none⟩ _ i (fun e => hne (by rw [e]))⟩
  obtain ⟨es, c, hm, _⟩ := h.hm
  have hto : tb ≠ bo := by
    obtain ⟨u, hu, _⟩ := h.row
    exact fun e => tb_ne hu h.ht (by intro cs fr e; injection e with _ e _; exact absurd e (by decide)) e.symm
  obtain ⟨r1, r2⟩ := h.row.own hg (fun r e => by
    obtain rfl := Option.some.inj e
    exact not_footR h.row hto h.ht (by intro cs fr e; injection e with _ e _; exact absurd e (by decide)))
  have n1 := tb_ne h.h1 h.ht (by intro cs fr e; injection e with _ e _; exact absurd e (by decide))
  have nm := tb_ne hm h.ht (by intro cs fr e; cases e)
  have n4 := tb_ne h.h4 h.ht (by intro cs fr e; injection e with _ e _; exact absurd e (by decide))
  have n5 := tb_ne h.h5 h.ht (by intro cs fr e; injection e with _ e _; exact absurd e (by decide))
  refine ⟨⟨r1, h.h1.kept hg (by simpa using n1), h.hm.keep (hg.block mb h.hm.lt (by simpa using nm)), h.h4.kept hg (by simpa using n4), ?_, h.h5.kept hg (by simpa using n5), h.below.grown hg (Nat.le_trans h0 h.below.size) (fun r e => by obtain rfl := Option.some.inj e; exact ht)⟩, r2⟩
  rw [heap_set W tb x _ _ _ _ h.ht, toA_set _ _ _ _ hx]
/-- a new node is put down: into the map, and behind the row -/
theorem FSt.add {n0 b1 mb b4 tb b5 bo n : Nat} {v : Value} {w : World} {s : FS} {W : World} (h : FSt n0 b1 mb b4 tb b5 bo n v w s W) (h0 : n0 ≤ w.heap.size) (km : n0 ≤ mb) (ko : n0 ≤ bo) (hbo : b1 ≠ bo) {m : Nd} {W1 w1 : World} {u u' : Value}
    (hm1 : NM W1 mb (entsN 0 s.out ++ [(m, s.out.length)])) (hz1 : W1.heap.size = W.heap.size) (hk1 : ∀ b, b ≠ mb → W1.heap[b]? = W.heap[b]?) (ho1 : W1.os = W.os) (ht1 : W1.tape = W.tape) (hp1 : W1.output = W.output)
    (hu : Boxed W1 bo 22 u) (ho : W1.ownsRow n0 37 19 u s.out.length (ncells s.out)) (hg : (W1.alloc (.cells m.cells.toArray 37)).grownBy w1 u.ownBlock)
    (ho' : w1.ownsRow n0 37 19 u' (s.out.length + 1) (ncells s.out ++ m.cells)) (hvb : u'.ownBlock = u.ownBlock ∨ u'.ownBlock = some (W1.alloc (.cells m.cells.toArray 37)).heap.size) :
    FSt n0 b1 mb b4 tb b5 bo n v w ⟨s.tm, s.out ++ [m]⟩ (w1.setCell ⟨bo, 0, none⟩ u') ∧ W.heap.size ≤ (w1.setCell ⟨bo, 0, none⟩ u').heap.size ∧ (∀ i, i < W.heap.size → ¬ footF b1 mb b4 tb b5 bo W i → (w1.setCell ⟨bo, 0, none⟩ u').heap[i]? = W.heap[i]?) ∧
      (∀ i, footR bo (w1.setCell ⟨bo, 0, none⟩ u') i → footR bo W i ∨ W.heap.size ≤ i) ∧ Boxed w1 bo 22 u := by
  obtain ⟨g1, g2, g3, g4, g5⟩ := HR.grow (by decide) hu ho hg ho' hvb
  obtain ⟨es, c, hmw, _⟩ := h.hm
  have hmo : mb ≠ bo := by
    obtain ⟨u, hu, _⟩ := h.row
    rintro rfl
    rw [show W.heap[mb]? = _ from hu] at hmw
    injection hmw with hmw
    cases hmw
  have hr1 : HR n0 bo 22 37 19 s.out.length (ncells s.out) W1 := ⟨u, hu, ho⟩
  have hf1 : ∀ i, footR bo W1 i → footR bo W i := by
    rintro i (rfl | ⟨v, hv, hi⟩)
    · exact .inl rfl
    · refine .inr ⟨v, ?_, hi⟩
      rw [← hv]
      exact (World.cell?_of_block (a := ⟨bo, 0, none⟩) (hk1 bo (fun e => hmo e.symm))).symm
  have hnf : ∀ b p, W.heap[b]? = some p → b ≠ bo → b ≠ mb → (∀ cs fr, p ≠ .cells cs 37 fr) → (w1.setCell ⟨bo, 0, none⟩ u').heap[b]? = some p := fun b p hb h1 h2 hp => by
    have hb1 : W1.heap[b]? = some p := (hk1 b h2).trans hb
    rw [g3 b (Array.getElem?_eq_some_iff.1 hb1).1 (not_footR hr1 h1 hb1 hp)]
    exact hb1
  have hnb : ∀ b t v, Boxed W b t v → b ≠ mb := fun b t v hb e => by
    subst e
    rw [show W.heap[b]? = _ from hb] at hmw
    injection hmw with hmw
    cases hmw
  have hne : ∀ b t v, Boxed W b t v → t ≠ 22 → b ≠ bo := fun b t v hb ht e => by
    obtain ⟨u, hu, _⟩ := h.row
    subst e
    have hu2 : W.heap[b]? = _ := hu
    rw [show W.heap[b]? = _ from hb] at hu2
    injection hu2 with hu2
    injection hu2 with _ e _
    exact ht e
  have hmb1 : ¬ footR bo W1 mb := by
    obtain ⟨es1, c1, hm2, _⟩ := hm1
    exact not_footR hr1 hmo hm2 (by intro cs fr e; cases e)
  have hB1 : Below n0 w W1 := h.below.grown (row := some mb) ⟨ho1, ht1, hp1, by omega, fun i hi hne => hk1 i (fun e => hne (by rw [e]))⟩ (Nat.le_trans h0 h.below.size) (fun r e => by obtain rfl := Option.some.inj e; exact km)
  have hB2 : Below n0 w w1 := Below.grown (hB1.alloc (Nat.le_trans h0 hB1.size) _) hg (by rw [World.size_alloc]; exact Nat.le_succ_of_le (Nat.le_trans h0 hB1.size)) (fun r e => (ho.lt r e).1)
  have h5t : tb ≠ bo := by
    obtain ⟨u, hu, _⟩ := h.row
    exact fun e => tb_ne hu h.ht (by intro cs fr e; injection e with _ e _; exact absurd e (by decide)) e.symm
  have htm : tb ≠ mb := fun e => tb_ne hmw h.ht (by intro cs fr e; cases e) e.symm
  refine ⟨⟨?_, hnf _ _ h.h1 hbo (hnb _ _ _ h.h1) (by intro cs fr e; injection e with _ e _; exact absurd e (by decide)), ?_, hnf _ _ h.h4 (hne _ _ _ h.h4 (by decide)) (hnb _ _ _ h.h4) (by intro cs fr e; injection e with _ e _; exact absurd e (by decide)),
    hnf _ _ h.ht h5t htm (by intro cs fr e; injection e with _ e _; exact absurd e (by decide)), hnf _ _ h.h5 (hne _ _ _ h.h5 (by decide)) (hnb _ _ _ h.h5) (by intro cs fr e; injection e with _ e _; exact absurd e (by decide)), hB2.setCell ko _⟩, by omega, fun i hi hf => ?_, fun i hi => ?_, g5⟩
  · show HR n0 bo _ _ 19 (s.out ++ [m]).length (ncells (s.out ++ [m])) _
    rw [ncells_snoc, List.length_append]
    exact g1
  · show NM _ mb (entsN 0 (s.out ++ [m]))
    rw [entsN_app, Nat.zero_add]
    exact hm1.keep (g3 mb hm1.lt hmb1)
  · rw [g3 i (by omega) (fun h => hf (.inl (hf1 i h))), hk1 i (fun e => hf (.inr (.inr (.inl e))))]
  · rcases g4 i hi with h | h
    · exact .inl (hf1 i h)
    · exact .inr (by omega)
/-- the map takes a new node -/
theorem FSt.put_map {n0 b1 mb b4 tb b5 bo n : Nat} {v : Value} {w : World} {s : FS} {W : World} (h : FSt n0 b1 mb b4 tb b5 bo n v w s W) {m : Nd} (hk : lookN (entsN 0 s.out) m = none) :
    ∃ Wm, (Instr.mapUpdate 43 (.map (some mb)) m.val (.int .i64 (s.out.length : Nat))).run Try.prog W = .ok () Wm ∧ NM Wm mb (entsN 0 s.out ++ [(m, s.out.length)]) ∧ Wm.heap.size = W.heap.size ∧ (∀ b, b ≠ mb → Wm.heap[b]? = W.heap[b]?) ∧ Wm.os = W.os ∧ Wm.tape = W.tape ∧ Wm.output = W.output ∧
      (∀ u, Boxed W bo 22 u → W.ownsRow n0 37 19 u s.out.length (ncells s.out) → Boxed Wm bo 22 u ∧ Wm.ownsRow n0 37 19 u s.out.length (ncells s.out)) ∧ ∀ nb nd, NBlk W nb nd → NBlk Wm nb nd := by
  obtain ⟨Wm, h1, h2, h3, h4, h5, h6, h7⟩ := h.hm.store m s.out.length hk
  obtain ⟨es, c, hmw, _⟩ := h.hm
  have hg : W.grownBy Wm (some mb) := ⟨h5, h6, h7, by omega, fun i hi hne => h4 i (fun e => hne (by rw [e]))⟩
  have hnm : ∀ b cs t fr, W.heap[b]? = some (.cells cs t fr) → b ≠ mb := fun b cs t fr hb e => by
    subst e
    rw [hb] at hmw
    injection hmw with hmw
    cases hmw
  refine ⟨Wm, h1, h2, h3, h4, h5, h6, h7, fun u hu ho => ⟨hu.kept hg (by have := hnm _ _ _ _ hu; simpa using this), ho.kept hg ?_⟩, fun nb nd hn => (h4 nb (hnm _ _ _ _ hn)).trans hn⟩
  cases hvo : u.ownBlock with
  | none => exact .inl rfl
  | some g =>
    refine .inr fun e => ?_
    obtain rfl := Option.some.inj e
    refine not_footR h.row (hnm _ _ _ _ hu).symm hmw (by intro cs fr e; cases e) (.inr ⟨u, hu.cell, hvo⟩)
theorem cells_nd (W : World) (m : Nd) : ∀ j u, m.cells[j]? = some u → (W.alloc (.cells m.cells.toArray 37)).cell? ((⟨W.heap.size, 0, none⟩ : Addr).add j) = some u := by
  intro j u hu
  have hadd : (⟨W.heap.size, 0, none⟩ : Addr).add j = ⟨W.heap.size, j, none⟩ := by unfold Addr.add; split <;> simp_all
  rw [hadd, cell_of_row _ _ _ _ _ _ (heap_alloc_new W _)]
  simpa using hu
/-- where the two ways of a round meet: the node's places are new ones -/
def CutR (n0 b1 mb b4 tb b5 bo n : Nat) (v : Value) (w : World) (st : FS) (nd : Nd) (W W' : World) : Prop :=
  FSt n0 b1 mb b4 tb b5 bo n v w st W' ∧ NBlk W' W.heap.size (remap st.tm nd) ∧ W.grownBy W' none ∧ ∀ i, footR bo W' i → footR bo W i
theorem cut_mk {n0 b1 mb b4 tb b5 bo n : Nat} {v : Value} {w : World} {st : FS} {W Wb Wd : World} (l : List Nd) (nd n0d : Nd) (h : FSt n0 b1 mb b4 tb b5 bo n v w st W) (hn : n0 ≤ w.heap.size) (k1 : n0 ≤ b1) (km : n0 ≤ mb) (k4 : n0 ≤ b4) (kt : n0 ≤ tb) (k5 : n0 ≤ b5) (ko : n0 ≤ bo)
    (hb : W.grownBy Wb none) (hnb : NBlk Wb W.heap.size n0d) (hd : Wb.grownBy Wd (some W.heap.size)) (hm : NBlk Wd W.heap.size (remap st.tm nd)) : CutR n0 b1 mb b4 tb b5 bo n v w st nd W Wd := by
  have hF := footFS n0 b1 mb b4 tb b5 bo n v w l st hn k1 km k4 kt k5 ko
  obtain ⟨hIb, hfb⟩ := hF.own [] W Wb none h hb (fun r e => by cases e)
  have hfr := (h.row.own hb (fun r e => by cases e)).2
  have hnf : ¬ footF b1 mb b4 tb b5 bo Wb W.heap.size := fun hf => by
    have := (hF.size [] W _ h (hfb _ hf)).2
    omega
  have hpr : Priv (footF b1 mb b4 tb b5 bo) Wb W.heap.size := ⟨⟨_, _, _, hnb⟩, hnf⟩
  obtain ⟨hId, hfd⟩ := hF.own [] Wb Wd (some W.heap.size) hIb hd (fun r e => by obtain rfl := Option.some.inj e; exact ⟨Nat.le_trans hn h.below.size, hpr⟩)
  have hfr2 := (hIb.row.own hd (fun r e => by obtain rfl := Option.some.inj e; exact fun hf => hnf (.inl hf))).2
  refine ⟨hId, hm, ⟨hd.os.trans hb.os, hd.tape.trans hb.tape, hd.output.trans hb.output, Nat.le_trans hb.size hd.size, fun i hi _ => ?_⟩, fun i hi => hfr i (hfr2 i hi)⟩
  rw [hd.block i (Nat.lt_of_lt_of_le hi hb.size) (fun e => by have := Option.some.inj e; omega), hb.block i hi (by simp)]
theorem step_some {p : Nat → Nd} {s : FS} {x k : Nat} {m : Nd} (hm : remap s.tm (p x) = m) (h : idxN s.out m = some k) : stepF p s x = ⟨upd s.tm x k, s.out⟩ := by
  subst hm
  unfold stepF
  rw [h]
theorem step_none {p : Nat → Nd} {s : FS} {x : Nat} {m : Nd} (hm : remap s.tm (p x) = m) (h : idxN s.out m = none) : stepF p s x = ⟨upd s.tm x s.out.length, s.out ++ [m]⟩ := by
  subst hm
  unfold stepF
  rw [h]
theorem toA_cell {W : World} {tb n x : Nat} {tm : Nat → Nat} (h : W.heap[tb]? = some (.cells (toA n tm) 3 (0, 0))) (hx : x < n) : W.cell? ⟨tb, x, none⟩ = some (.int .i64 (tm x : Nat)) := by rw [cell_of_row _ _ _ _ _ _ h]; exact toA_at _ _ _ hx
theorem toA_frozen {W : World} {tb n : Nat} {tm : Nat → Nat} (h : W.heap[tb]? = some (.cells (toA n tm) 3 (0, 0))) (x : Nat) : W.frozen? ⟨tb, x, none⟩ = false := by simp [World.frozen?, h]
theorem nblk_frozen {W : World} {b : Nat} {m : Nd} (h : NBlk W b m) (j : Nat) : W.frozen? ⟨b, j, none⟩ = false := by
  have h' : W.heap[b]? = some (.cells m.cells.toArray 37 (0, 0)) := h
  simp [World.frozen?, h']
theorem set_keep (W : World) (b j : Nat) (v : Value) (hb : b < W.heap.size) : W.grownBy (W.setCell ⟨b, j, none⟩ v) (some b) := ⟨rfl, rfl, rfl, by simp, fun i _ hne => Below.heap_setCell W ⟨b, j, none⟩ v i (fun e => hne (by rw [e]))⟩
end Go.Proofs.Ytlhdabpoljoobaa.flatw
