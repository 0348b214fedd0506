/- The iterator of what a root needs: its contract. No conditions but those stated. -/
import Derived.Test.YtlhdabpoljoobaaFlaV
import Derived.Laws.MakeOwn
namespace Go.Proofs.Ytlhdabpoljoobaa.flatw
open Go.RowKit Go.Shelf
open Go.Proofs.Ytlhdabpoljoobaa.nodew
open Go.Proofs.Ytlhdabpoljoobaa.chkw
open Go.Proofs.Ytlhdabpoljoobaa.flatm
attribute [local go_sem] Oper.semAt_some

theorem boolInfo : (Try.prog.info? 4).map (fun i => (i.zero, i.size, i.bytes)) = some (some (.bool false), 1, 1) := by kernel_rfl
theorem intInfo : (Try.prog.info? 3).map (fun i => (i.zero, i.size, i.bytes)) = some (some (.int .i64 0), 1, 8) := by kernel_rfl
theorem made_one (v : Value) (n : Nat) : madeCells #[v] n = ((List.range n).map fun _ => v).toArray := by
  unfold madeCells
  apply Array.ext_getElem?
  intro j
  by_cases hj : j < n
  · simp [hj, Nat.mod_one]
  · simp [hj]
theorem mk_bool (n : Nat) (hn : n ≤ 4096) (w : World) : (Instr.makeSlice 55 (.int .i64 n) (.int .i64 n)).run Try.prog w = .ok (.slice (some ⟨w.heap.size, 0, none⟩) n n) (w.alloc (.cells (metA n none_) 4)) := by
  obtain ⟨i, hi, hz, h1, h2⟩ := info_parts boolInfo
  have := run_makeSlice (P := Try.prog) w 55 4 i _ Try.underlying55 hi hz .i64 .i64 n n (by omega) (Int.le_refl _) (by rw [h1]; omega) (by rw [h2]; omega) (by omega)
  rw [this, h1]
  simp only [Int.toNat_natCast, Nat.mul_one]
  rw [show (Value.bool false).cells = #[Value.bool false] from rfl, made_one]
  rfl
theorem mk_int (n : Nat) (hn : n ≤ 4096) (w : World) : (Instr.makeSlice 30 (.int .i64 n) (.int .i64 n)).run Try.prog w = .ok (.slice (some ⟨w.heap.size, 0, none⟩) n n) (w.alloc (.cells ((List.range n).map fun _ => Value.int .i64 0).toArray 3)) := by
  obtain ⟨i, hi, hz, h1, h2⟩ := info_parts intInfo
  have := run_makeSlice (P := Try.prog) w 30 3 i _ Try.underlying30 hi hz .i64 .i64 n n (by omega) (Int.le_refl _) (by rw [h1]; omega) (by rw [h2]; omega) (by omega)
  rw [this, h1]
  simp only [Int.toNat_natCast, Nat.mul_one]
  rw [show (Value.int .i64 0).cells = #[Value.int .i64 0] from rfl, made_one]

set_option maxRecDepth 100000 in
set_option maxHeartbeats 4000000 in
theorem seq_any {foot : World → Nat → Prop} {B : Nat} {J : List Nat → World → Prop} (hF : Foot foot B J) (l : List Nd) (h0 : 0 < l.length) (hl : l.length ≤ 4096) (hac : ∀ x, x < l.length → ∀ c ∈ kids (nth l x), c < x) (hki : ∀ x, x < l.length → kidsI (nth l x) = (kids (nth l x)).map (fun c : Nat => (c : Int)))
    (pb lp : Nat) (v : Value)
    (hY : ∀ (m : Nat) (pre : List Nat) (x : Nat) (W1 : World), J pre W1 → x < l.length → pre ++ [x] <+: ordP l → YieldAt Fence.wide m Try.prog lp #[.int .i64 x] W1 fun e W' => e = .returned (.bool true) ∧ J (pre ++ [x]) W' ∧ KeepP foot B none W1 W')
    (n : Nat) (W : World) (hB : B ≤ W.heap.size) (hp : Boxed W pb 22 v) (hpp : ¬ foot W pb) (hn : NArg W B v l) (hJ : J [] W) :
    CallsIn Fence.wide n Try.prog 20 #[.func (.yield lp) #[] #[], .pointer (some ⟨pb, 0, none⟩)] W fun e W' => (∃ v, e = .returned v) ∧ J (ordP l) W' := by
  have HF := Lib.hid hF
  have HY := Lib.hid hY
  have HAC := Lib.hid hac
  have HKI := Lib.hid hki
  have HN := Lib.hid hn
  have HJ := Lib.hid hJ
  clear hF hY hac hki hJ
  obtain ⟨A, c, rfl⟩ := hn.form
  clear hn
  have hpl := hp.lt
  have hpA := fun (X : World) (h : Boxed X pb 22 (.slice A l.length c)) (o : Obj) => h.alloc o
  obtain ⟨W1, hW1⟩ : ∃ W1, W1 = W.alloc (.cells #[.func (.yield lp) #[] #[]] 54) := ⟨_, rfl⟩
  have e1 : W1.heap.size = W.heap.size + 1 := by rw [hW1]; simp
  have p1 : Boxed W1 pb 22 (.slice A l.length c) := by rw [hW1]; exact hp.alloc _
  have y1 : Boxed W1 W.heap.size 54 (.func (.yield lp) #[] #[]) := by rw [hW1]; exact Boxed.new W _ _
  have g1 : W.grownBy W1 none := by rw [hW1]; exact World.grownBy_alloc W _ none
  have cp1 := p1.cell
  have cp1r := cp1
  rw [hW1] at cp1r
  obtain ⟨W2, hW2⟩ : ∃ W2, W2 = W1.alloc (.cells (metA l.length none_) 4) := ⟨_, rfl⟩
  have hmk : (Instr.makeSlice 55 (.int .i64 l.length) (.int .i64 l.length)).run Try.prog W1 = .ok (.slice (some ⟨W1.heap.size, 0, none⟩) l.length l.length) W2 := by rw [hW2]; exact mk_bool l.length hl W1
  obtain ⟨W5, hW5⟩ : ∃ W5, W5 = ((W1.alloc (.cells (metA l.length none_) 4)).alloc (.cells #[.slice (some ⟨W.heap.size + 1, 0, none⟩) l.length l.length] 55)).alloc (.cells #[.func (.func 21) #[] #[.pointer (some ⟨W.heap.size + 1 + 1, 0, none⟩), .pointer (some ⟨pb, 0, none⟩), .pointer (some ⟨W.heap.size + 1 + 1 + 1, 0, none⟩), .pointer (some ⟨W.heap.size, 0, none⟩)]] 54) := ⟨_, rfl⟩
  have p5 : Boxed W5 pb 22 (.slice A l.length c) := by rw [hW5]; exact ((p1.alloc _).alloc _).alloc _
  have y5 : Boxed W5 W.heap.size 54 (.func (.yield lp) #[] #[]) := by rw [hW5]; exact ((y1.alloc _).alloc _).alloc _
  have m5 : W5.heap[W.heap.size + 1]? = some (.cells (metA l.length none_) 4 (0, 0)) := by
    rw [hW5, Below.heap_alloc _ _ _ (by simp; omega), Below.heap_alloc _ _ _ (by simp; omega)]
    exact heap_at W1 _ _ e1
  have b5 : Boxed W5 (W.heap.size + 1 + 1) 55 (.slice (some ⟨W.heap.size + 1, 0, none⟩) l.length l.length) := by
    unfold Boxed
    rw [hW5, Below.heap_alloc _ _ _ (by simp; omega)]
    exact heap_at _ _ _ (by simp; omega)
  have t5 : Boxed W5 (W.heap.size + 1 + 1 + 1) 54 (.func (.func 21) #[] #[.pointer (some ⟨W.heap.size + 1 + 1, 0, none⟩), .pointer (some ⟨pb, 0, none⟩), .pointer (some ⟨W.heap.size + 1 + 1 + 1, 0, none⟩), .pointer (some ⟨W.heap.size, 0, none⟩)]) := by
    unfold Boxed
    rw [hW5]
    exact heap_at _ _ _ (by simp; omega)
  have g5 : W.grownBy W5 none := by
    rw [hW5]
    exact grown_trans (grown_trans (grown_trans g1 (World.grownBy_alloc _ _ none)) (World.grownBy_alloc _ _ none)) (World.grownBy_alloc _ _ none)
  obtain ⟨hJ5, hK5, hP5⟩ := HF.out.alloc HJ.out g5 (fun r e => by cases e)
  have hT5 : TS foot B pb (W.heap.size + 1) (W.heap.size + 1 + 1) (W.heap.size + 1 + 1 + 1) W.heap.size lp (.slice A l.length c) l none_ W5 :=
    ⟨b5, p5, t5, y5, m5, HN.out.keep hK5.1 (fun g hg hs => hK5.2.1 g hg hs), (hP5 _ _ _ _ (by omega) b5).2, (hK5.2.2 pb (boxed_priv hp hpp)).1.2, (hP5 _ _ _ _ (by omega) t5).2, (hP5 _ _ _ _ (by omega) y5).2, (hP5 _ _ _ _ (by omega) m5).2, by omega⟩
  have hthr := thr_any HF.out l hl HAC.out HKI.out (ordP l) pb (W.heap.size + 1) (W.heap.size + 1 + 1) (W.heap.size + 1 + 1 + 1) W.heap.size lp (.slice A l.length c) HY.out l.length (l.length - 1) (by omega) (by omega) none_ [] W5 hT5 hJ5 (by rw [List.nil_append]; exact List.prefix_refl _)
  have HTHR := Lib.hid hthr
  have cp5 := p5.cell
  rw [hW5] at cp5
  have cp5r := cp5
  rw [hW1] at cp5r
  have hx1 : ((l.length - 1 : Nat) : Int) = (l.length : Int) - 1 := by omega
  have hmkr := hmk
  rw [hW1] at hmkr
  have HX1 := Lib.hid hx1
  clear hthr hT5 hP5 hK5 hJ5 g5 t5 b5 m5 y5 p5 hx1 p1 y1 g1 e1 hp
  refine callsIn_of_wp Try.func20 rfl trivial ?_ rfl
  simp only [Try.ntmps20, List.size_toArray, List.length_cons, List.length_nil, Nat.reduceAdd, Nat.reduceSub, Array.replicate_succ, Array.replicate_zero, List.push_toArray, List.append_toArray, List.nil_append, List.cons_append]
  gi_wp2_with (rw [← hW1])
  rw [← HX1.out, ← hW5]
  refine ⟨trivial, fun h => (by cases h), (callsIn_wide.2 HTHR.out).mono ?_⟩
  rintro e W6 ⟨rfl, hT6, hJ6, hK6⟩
  gi_wp2
  go_end0
  refine ⟨⟨_, rfl⟩, ?_⟩
  rw [List.nil_append] at hJ6
  exact hJ6
end Go.Proofs.Ytlhdabpoljoobaa.flatw
