/- The row of what a root needs: slices.AppendSeq, slices.Collect, Used. No conditions but those stated. -/
import Derived.Test.YtlhdabpoljoobaaFlaG
namespace Go.Proofs.Ytlhdabpoljoobaa.flatw
open Go.RowKit Go.Shelf
open Go.Proofs.Ytlhdabpoljoobaa.nodew
open Go.Proofs.Ytlhdabpoljoobaa.chkw
open Go.Proofs.Ytlhdabpoljoobaa.flatm
attribute [local go_sem] Oper.semAt_some

/-- numbers as cells -/
def intsV (l : List Nat) : List Value := l.map fun x : Nat => Value.int .i64 (x : Int)
def IU (n0 : Nat) (w : World) (pre : List Nat) (W : World) : Prop := HR n0 n0 30 3 1 pre.length (intsV pre) W ∧ Below n0 w W
theorem footIU (n0 : Nat) (w : World) (hn : n0 ≤ w.heap.size) : Foot (footR n0) n0 (IU n0 w) := by
  refine ⟨fun pre X k h hk => h.1.foot_lt (Nat.le_refl _) hk, fun pre X Y row h hg hr => ?_⟩
  obtain ⟨h1, h2⟩ := h.1.own hg (fun r e => (hr r e).2.2)
  exact ⟨⟨h1, h.2.grown hg (Nat.le_trans hn h.2.size) (fun r e => (hr r e).1)⟩, h2⟩
theorem intsV_snoc (l : List Nat) (x : Nat) : intsV (l ++ [x]) = intsV l ++ [.int .i64 (x : Int)] := by simp [intsV]
theorem cells_one (W : World) (v : Value) (t : TypeId) : ∀ j u, [v][j]? = some u → (W.alloc (.cells #[v] t)).cell? ((⟨W.heap.size, 0, none⟩ : Addr).add j) = some u := by
  intro j u hu
  have hadd : (⟨W.heap.size, 0, none⟩ : Addr).add j = ⟨W.heap.size, j, none⟩ := by unfold Addr.add; split <;> simp_all
  rw [hadd, cell_of_row _ _ _ _ _ _ (heap_alloc_new W _)]
  simpa using hu

set_option maxRecDepth 100000 in
set_option maxHeartbeats 4000000 in
theorem appendSeq_any (l : List Nd) (h0 : 0 < l.length) (hl : l.length ≤ 4096) (hac : ∀ x, x < l.length → ∀ c ∈ kids (nth l x), c < x) (hki : ∀ x, x < l.length → kidsI (nth l x) = (kids (nth l x)).map (fun c : Nat => (c : Int))) (hol : (ordP l).length ≤ 4096)
    (pb : Nat) (v : Value) (w : World) (hp : Boxed w pb 22 v) (hn : NArg w w.heap.size v l) :
    Calls Try.prog 26 #[.slice none 0 0, .func (.func 20) #[] #[.pointer (some ⟨pb, 0, none⟩)]] w fun e w' => ∃ v', e = .returned v' ∧ w'.ownsRow w.heap.size 3 1 v' (ordP l).length (intsV (ordP l)) ∧ Below w.heap.size w w' := by
  rw [← callsIn_wide (n := 3)]
  have HAC := Lib.hid hac
  have HKI := Lib.hid hki
  clear hac hki
  refine callsIn_of_wp_marks Try.func26 rfl trivial ?_ rfl
  simp only [Try.ntmps26, List.size_toArray, List.length_cons, List.length_nil, Nat.reduceAdd, Nat.reduceSub, Array.replicate_succ, Array.replicate_zero, List.push_toArray, List.append_toArray, List.nil_append, List.cons_append]
  gi_wp2_with fail
  obtain ⟨W0, hW0⟩ : ∃ W0, W0 = w.alloc (.cells #[.slice none 0 0] 30) := ⟨_, rfl⟩
  have hz0 : W0.heap.size = w.heap.size + 1 := by rw [hW0]; simp
  have b0 : Boxed W0 w.heap.size 30 (.slice none 0 0) := by rw [hW0]; exact Boxed.new w _ _
  have hB0 : Below w.heap.size w W0 := by rw [hW0]; exact (Below.refl _ w).alloc (Nat.le_refl _) _
  rw [← hW0]
  have hpl := hp.lt
  obtain ⟨i0, hi, hz1, hz2, hz3⟩ := info_parts intInfo
  refine range_seq (by omega) (footIU w.heap.size w (Nat.le_refl _)) (fun pre W k o o' h hk ho hr hr' => ⟨h.1.put ho hr, h.2.grown (row := some k) ⟨rfl, rfl, rfl, by simp [World.putObj], fun i hi hne => World.putObj_heap_other (fun e => hne (by rw [e]))⟩ h.2.size (fun r e => by injection e with e; omega)⟩)
    (fun W k o o' ho hr hr' i hi => footR_put ho hr hr' i hi) l h0 hl HAC.out HKI.out pb v (by omega) (hp.kept (grown_below hB0 none) (by simp)) ?_ (hn.ext hB0) ⟨⟨_, b0, World.ownsRow_nil _ _ _ _⟩, hB0⟩ rfl
    (fun x : Nat => { tmps := #[.slice none 0 0, .func (.func 20) #[] #[.pointer (some ⟨pb, 0, none⟩)], .pointer (some ⟨w.heap.size, 0, none⟩), undef, .slice none 0 0, .int .i64 x, .func (.func 20) #[] #[.pointer (some ⟨pb, 0, none⟩)], .int .i64 x, undef, undef, undef, undef, undef], defers := [] }) ?_ ?_ ?_
  · rintro (e | ⟨u, hu, hf⟩)
    · omega
    · rw [b0.cell] at hu
      obtain rfl := Option.some.inj hu
      cases hf
  · intro lb m x W K hK
    gi_wp2
    exact hK
  · intro lb m pre x W hI hx hpre
    obtain ⟨⟨u, hu, ho⟩, hB1⟩ := hI
    have hlen : pre.length < 4096 := by
      have := hpre.length_le
      simp at this
      omega
    have hcu := hu.cell
    have HO := Lib.hid ho
    have HU := Lib.hid hu
    have HB1 := Lib.hid hB1
    clear hpre
    obtain ⟨ua, uc, rfl⟩ := row_form ho
    clear ho hu
    gi_wp2_with (gi_at_builtin; go_loud (refine wpListIn_append_own_at _ rfl _ _ 30 rfl w.heap.size 3 i0 _ 1 8 Try.underlying30 hi hz1 hz2 hz3 rfl (by decide) _ _ _ rfl (HO.out.alloc _) ⟨W.heap.size, 0, none⟩ 1 1 [.int .i64 x] rfl rfl (cells_one _ _ _) (by simp [Value.oneCell']) (by unfold maxLen; omega) (by omega) (by have := HB1.out.size; simp; omega) ?_; intro v' w1 hown' hgrow _ hvb; obtain ⟨g', cap', rfl⟩ := ownsRow_succ hown'; obtain ⟨s1, s2, s3, hv1⟩ := HR.step (t := 30) (e := 3) (Nat.le_refl w.heap.size) (show (30 : Nat) ≠ 3 by decide) HU.out HO.out hgrow hown' hvb; have hB2 : Below w.heap.size w w1 := Below.grown (HB1.out.alloc HB1.out.size _) hgrow (by rw [World.size_alloc]; exact Nat.le_succ_of_le HB1.out.size) (fun r e => (HO.out.lt r e).1); have hc1 := hv1.cell; have hf1 := hv1.frozen))
    refine ⟨⟨?_, hB2.setCell (Nat.le_refl _) _⟩, s2, s3⟩
    rw [intsV_snoc, List.length_append]
    exact s1
  · intro W hI hd
    obtain ⟨⟨u, hu, ho⟩, hB1⟩ := hI
    have hcu := hu.cell
    have HO := Lib.hid ho
    obtain ⟨ua, uc, rfl⟩ := row_form ho
    clear ho hu
    gi_wp2
    refine ⟨by simp, .inl ⟨_, _, rfl, run_takeDeferred hd, ?_⟩⟩
    have hg := grownBy_putObj' W W0.heap.size (.deferred none)
    have frow := ownsRow_putObj HO.out (.deferred none) hd rfl
    refine ⟨.slice ua (ordP l).length uc, by simp [results, Try.results26, go_sem], ?_⟩
    exact ⟨_, rfl, frow, hB1.grown hg hB1.size (fun r e => by injection e with e; omega)⟩
def RowPost (w : World) (l : List Nat) (e : Ending) (w' : World) : Prop := ∃ v', e = .returned v' ∧ w'.ownsRow w.heap.size 3 1 v' l.length (intsV l) ∧ Below w.heap.size w w'
set_option maxHeartbeats 1000000 in
theorem collect_any (l : List Nd) (h0 : 0 < l.length) (hl : l.length ≤ 4096) (hac : ∀ x, x < l.length → ∀ c ∈ kids (nth l x), c < x) (hki : ∀ x, x < l.length → kidsI (nth l x) = (kids (nth l x)).map (fun c : Nat => (c : Int))) (hol : (ordP l).length ≤ 4096)
    (pb : Nat) (v : Value) (w : World) (hp : Boxed w pb 22 v) (hn : NArg w w.heap.size v l) :
    Calls Try.prog 17 #[.func (.func 20) #[] #[.pointer (some ⟨pb, 0, none⟩)]] w (RowPost w (ordP l)) := by
  have h := appendSeq_any l h0 hl hac hki hol pb v w hp hn
  have H := Lib.hid h
  clear h hac hki hp hn
  go_enter Try.func17, Try.ntmps17
  go_wp2_with fail
  refine H.out.mono ?_
  rintro e w' ⟨v', rfl, ho, hB⟩
  go_wp2_with fail
  go_ret
  exact ⟨v', rfl, ho, hB⟩
end Go.Proofs.Ytlhdabpoljoobaa.flatw
