/- The contract of lex.Lex: its answer is lexRes of the text's bytes. Condition: the text is within the reach. -/
import Derived.Test.YtekhdocejahboaaDoorLexIter
import Derived.Maps.AppendAt
namespace Go.Proofs.YtekhdocejahboaaDoor.lexw
open Go.RowKit Go.Shelf
open Go.Proofs.YtekhdocejahboaaDoor.lexm
attribute [local go_sem] Oper.semAt_some

set_option maxHeartbeats 1000000 in
theorem tokens_in (n : Nat) (s : ByteArray) (w : World) :
    CallsIn Fence.wide n Tryd.prog 10 #[.string s] w fun e w' => e = .returned (.func (.func 20) #[] #[.pointer (some ⟨w.heap.size, 0, none⟩)]) ∧ w' = w.alloc (.cells #[.string s] 9) := by
  refine callsIn_of_wp Tryd.func10 rfl trivial ?_ rfl
  simp only [Tryd.ntmps10, List.size_toArray, List.length_cons, List.length_nil, Nat.reduceAdd, Nat.reduceSub, Array.replicate_succ, Array.replicate_zero, List.push_toArray, List.append_toArray, List.nil_append, List.cons_append]
  gi_wp2
  go_ret
  exact ⟨rfl, rfl⟩

theorem tokens_stops (n : Nat) (hn : 1 ≤ n) (b : Nat) (s : ByteArray) (hs : s.size ≤ maxLen) (w : World) (hb : Boxed w b 9 (.string s)) :
    SeqStopsK Fence.wide n Tryd.prog 20 #[.pointer (some ⟨b, 0, none⟩)] encT (KeepsBox b 9 (.string s)) (fun ys => ys = lexT s.data.toList 0 4) (fun pre => pre <+: lexT s.data.toList 0 4) (lexT s.data.toList 0 4).length w := fun l J Jx W hW hJ _ hY h0 =>
  toks_in n hn l b s hs J Jx W hJ hY ((hW.block b hb.lt).trans hb) h0

/-- a block that is known whole -/
def Blk (w : World) (g : Nat) (t : TypeId) (cs : Array Value) : Prop := w.heap[g]? = some (.cells cs t (0, 0))
theorem Blk.lt {w : World} {g : Nat} {t : TypeId} {cs : Array Value} (h : Blk w g t cs) : g < w.heap.size := (Array.getElem?_eq_some_iff.1 h).1
theorem Blk.cell {w : World} {g : Nat} {t : TypeId} {cs : Array Value} (h : Blk w g t cs) (i : Nat) : w.cell? ⟨g, i, none⟩ = cs[i]? := cell_of_row w g i cs t (0, 0) h
theorem Blk.kept {W W' : World} {row : Option Nat} {B : Nat} {t : TypeId} {v : Array Value} (h : Blk W B t v) (hg : W.grownBy W' row) (hne : some B ≠ row) : Blk W' B t v := (hg.block B h.lt hne).trans h
theorem Blk.alloc {W : World} {B : Nat} {t : TypeId} {v : Array Value} (h : Blk W B t v) (o : Obj) : Blk (W.alloc o) B t v := h.kept (World.grownBy_alloc W o none) (by simp)
theorem Blk.new (w : World) (t : TypeId) (cs : Array Value) : Blk (w.alloc (.cells cs t)) w.heap.size t cs := heap_alloc_new w _
theorem blk_own {β : Type} (B : Nat) (t : TypeId) (v : β → Array Value) : Own (fun s W => Blk W B t (v s)) := by
  rintro s X Y row h hg hrow
  refine h.kept hg (fun e' => ?_)
  obtain ⟨o, ho, hc⟩ := hrow B e'.symm
  rw [show X.heap[B]? = _ from h] at ho; cases ho; cases hc
theorem cells_new (W : World) (news : List Value) (t : TypeId) : ∀ j u, news[j]? = some u → (W.alloc (.cells news.toArray t)).cell? ((⟨W.heap.size, 0, none⟩ : Addr).add j) = some u := by
  intro j u hu
  have hadd : (⟨W.heap.size, 0, none⟩ : Addr).add j = ⟨W.heap.size, j, none⟩ := by unfold Addr.add; split <;> simp_all
  rw [hadd, (Blk.new W t news.toArray).cell j]
  simpa using hu

theorem toksOf_snoc (pre : List (Tok × Bool)) (h : errOf pre = none) (t : Tok) : toksOf (pre ++ [(t, true)]) = toksOf pre ++ [t] ∧ errOf (pre ++ [(t, true)]) = none := by
  induction pre with
  | nil => exact ⟨rfl, rfl⟩
  | cons x r ih =>
    obtain ⟨y, b⟩ := x
    cases b with
    | true =>
      have := ih h
      exact ⟨by simpa [toksOf] using this.1, by simpa [errOf] using this.2⟩
    | false => cases h
theorem toksOf_le (pre : List (Tok × Bool)) : (toksOf pre).length ≤ pre.length := by
  induction pre with
  | nil => simp [toksOf]
  | cons x r ih =>
    obtain ⟨y, b⟩ := x
    cases b <;> simp [toksOf] <;> omega
theorem errOf_bad (pre : List (Tok × Bool)) (h : errOf pre = none) (t : Tok) (r : List (Tok × Bool)) : errOf (pre ++ (t, false) :: r) = some t.pos := by
  induction pre with
  | nil => rfl
  | cons x q ih =>
    obtain ⟨y, b⟩ := x
    cases b with
    | true => exact ih h
    | false => cases h

theorem row_form {W : World} {base : Nat} {e : TypeId} {size : Nat} {v : Value} {k : Nat} {xs : List Value} (h : W.ownsRow base e size v k xs) : ∃ a c, v = .slice a k c := by
  rcases h.2 with ⟨rfl, h0⟩ | ⟨g, cap, _, rfl, _⟩
  · subst h0; exact ⟨_, _, rfl⟩
  · exact ⟨_, _, rfl⟩
theorem Tryd.tokInfo : (Tryd.prog.info? 28).map (fun i => (i.zero, i.size, i.bytes)) = some (some (.agg #[.int .u8 0, .int .i64 0, .string ⟨#[]⟩]), 3, 32) := by kernel_rfl

/-- what Lex hands back -/
def LexPost (w : World) (r : List Tok × Nat × Nat) (e : Ending) (w' : World) : Prop :=
  ∃ v, e = .returned (.tuple #[v, .int .i64 r.2.1, .int .i64 r.2.2]) ∧ w'.ownsRow w.heap.size 28 3 v r.1.length (cellsOf r.1) ∧ Below w.heap.size w w'

set_option maxRecDepth 100000 in
set_option maxHeartbeats 4000000 in
theorem lex_in (n : Nat) (hn : 3 ≤ n) (s : ByteArray) (hs : s.size ≤ maxLen) (w : World) :
    CallsIn Fence.wide n Tryd.prog 5 #[.string s] w (LexPost w (lexRes s.data.toList)) := by
  have hsL := hs
  unfold maxLen at hs
  have hsz : s.data.toList.length = s.size := by simp
  obtain ⟨r, hr⟩ : ∃ r, lexRes s.data.toList = r := ⟨_, rfl⟩
  rw [hr]
  unfold lexRes at hr
  rw [hsz] at hr
  clear hsz
  by_cases hlong : 1048576 < s.size
  · rw [if_pos hlong] at hr
    subst hr
    refine callsIn_of_wp Tryd.func5 rfl trivial ?_ rfl
    simp only [Tryd.ntmps5, List.size_toArray, List.length_cons, List.length_nil, Nat.reduceAdd, Nat.reduceSub, Array.replicate_succ, Array.replicate_zero, List.push_toArray, List.append_toArray, List.nil_append, List.cons_append]
    gi_wp2
    refine bodyPost_ret (v := .tuple #[.slice none 0 0, .int .i64 1048576, .int .i64 151]) (by simp [results, Tryd.results5, go_sem]) rfl ?_
    refine ⟨_, rfl, ⟨by simp [cellsOf], .inl ⟨rfl, rfl⟩⟩, ?_⟩
    repeat (first | exact Below.refl _ _ | refine Below.alloc ?_ (by simp; try omega) _ | refine Below.setCell ?_ (by simp) _ | refine Below.drew ?_)
  · rw [if_neg hlong] at hr
    obtain ⟨i0, hi, hz0, hz1, hz2⟩ := info_parts Tryd.tokInfo
    refine callsIn_of_wp_marks Tryd.func5 rfl trivial ?_ rfl
    simp only [Tryd.ntmps5, List.size_toArray, List.length_cons, List.length_nil, Nat.reduceAdd, Nat.reduceSub, Array.replicate_succ, Array.replicate_zero, List.push_toArray, List.append_toArray, List.nil_append, List.cons_append]
    have HR := Lib.hid hr
    clear hr
    have h1 : 1 ≤ n := by omega
    have hl : decide (1048576 < (s.size : Int)) = false := by rw [decide_eq_false_iff_not]; omega
    gi_wp2_with (refine ⟨trivial, ?_⟩; gi_at_call 10; refine (tokens_in (n - 1) s _).mono ?_; rintro e w' ⟨rfl, rfl⟩)
    obtain ⟨W0, hW0⟩ : ∃ W0, ((((w.alloc (.cells #[.slice none 0 0] 23)).alloc (.cells #[.int .i64 0] 3)).alloc (.cells #[.int .i64 0] 24)).alloc (.cells #[.slice none 0 0] 23)).alloc (.cells #[.string s] 9) = W0 := ⟨_, rfl⟩
    have hB0 : Below w.heap.size w W0 := by
      rw [← hW0]
      exact (((((Below.refl _ w).alloc (Nat.le_refl _) _).alloc (by simp) _).alloc (by simp; omega) _).alloc (by simp; omega) _).alloc (by simp; omega) _
    have hsz : W0.heap.size = w.heap.size + 5 := by rw [← hW0]; simp
    have b0 : Boxed W0 w.heap.size 23 (.slice none 0 0) := by
      rw [← hW0]; exact (((Boxed.new w _ _).alloc _).alloc _).alloc _ |>.alloc _
    have b1 : Boxed W0 (w.heap.size + 1) 3 (.int .i64 0) := by
      have h := ((Boxed.new (w.alloc (.cells #[.slice none 0 0] 23)) 3 (.int .i64 0)).alloc (.cells #[.int .i64 0] 24)).alloc (.cells #[.slice none 0 0] 23) |>.alloc (.cells #[.string s] 9)
      simp only [World.size_alloc] at h
      rw [← hW0]; exact h
    have b2 : Boxed W0 (w.heap.size + 1 + 1) 24 (.int .i64 0) := by
      have h := (Boxed.new ((w.alloc (.cells #[.slice none 0 0] 23)).alloc (.cells #[.int .i64 0] 3)) 24 (.int .i64 0)).alloc (.cells #[.slice none 0 0] 23) |>.alloc (.cells #[.string s] 9)
      simp only [World.size_alloc] at h
      rw [← hW0]; exact h
    have b3 : Boxed W0 (w.heap.size + 1 + 1 + 1) 23 (.slice none 0 0) := by
      have h := (Boxed.new (((w.alloc (.cells #[.slice none 0 0] 23)).alloc (.cells #[.int .i64 0] 3)).alloc (.cells #[.int .i64 0] 24)) 23 (.slice none 0 0)).alloc (.cells #[.string s] 9)
      simp only [World.size_alloc] at h
      rw [← hW0]; exact h
    have b4 : Boxed W0 (w.heap.size + 1 + 1 + 1 + 1) 9 (.string s) := by
      have h := Boxed.new ((((w.alloc (.cells #[.slice none 0 0] 23)).alloc (.cells #[.int .i64 0] 3)).alloc (.cells #[.int .i64 0] 24)).alloc (.cells #[.slice none 0 0] 23)) 9 (.string s)
      simp only [World.size_alloc] at h
      rw [← hW0]; exact h
    rw [hW0]
    clear hW0
    refine wpIn_rangeFunc_ownH rfl h1 (gf := 20) (lb := #[.pointer (some ⟨w.heap.size + 1 + 1 + 1 + 1, 0, none⟩)]) rfl trivial (enters_of Tryd.func20 (by kernel_rfl) rfl)
      (tokens_stops (n - 1) (by omega) (w.heap.size + 1 + 1 + 1 + 1) s hsL W0 b4) (fun h k e => k (h e)) (fun W l o o' hl hlo hno hnw e => e.kept (grownBy_putObj' W l o') (fun e' => by injection e'; omega)) (Below.refl _ _) (fun _ => rfl)
      (fun pre W => ((((((∃ v, Boxed W (w.heap.size + 1 + 1 + 1) 23 v ∧ W.ownsRow w.heap.size 28 3 v (toksOf pre).length (cellsOf (toksOf pre)) ∧ True) ∧ Boxed W w.heap.size 23 (.slice none 0 0)) ∧ Boxed W (w.heap.size + 1) 3 (.int .i64 0)) ∧ Boxed W (w.heap.size + 1 + 1) 24 (.int .i64 0)) ∧ Boxed W (w.heap.size + 1 + 1 + 1 + 1) 9 (.string s)) ∧ errOf pre = none) ∧ Below w.heap.size w W)
      (fun c pre W => (c = .ret ∧ ∃ ts t, pre = ts ++ [(t, false)] ∧ errOf ts = none ∧ Boxed W w.heap.size 23 (.slice none 0 0) ∧ Boxed W (w.heap.size + 1) 3 (.int .i64 t.pos) ∧ Boxed W (w.heap.size + 1 + 1) 24 (.int .i64 150)) ∧ Below w.heap.size w W)
      (OwnFrom.and (OwnFrom.and (OwnFrom.and (OwnFrom.and (OwnFrom.and (OwnFrom.and (Own.from (holdsRow_own w.heap.size (w.heap.size + 1 + 1 + 1) 23 28 3 (fun pre => (toksOf pre).length) (fun pre => cellsOf (toksOf pre)) (fun _ _ => True)) _) (Own.from (boxed_own _ _ _) _)) (Own.from (boxed_own _ _ _) _)) (Own.from (boxed_own _ _ _) _)) (Own.from (boxed_own _ _ _) _)) (ownFrom_pure _ _)) (ownFrom_below (Nat.le_refl _) (by omega)))
      (fun c => OwnFrom.and (fun pre X Y row hs hg hr => by
        obtain ⟨hc, ts, t, hp, he, h0, h1, h2⟩ := hs
        have hr' : ∀ r, row = some r → ∃ o : Obj, X.heap[r]? = some o ∧ o.isCells = false := fun r e => (hr r e).2
        exact ⟨hc, ts, t, hp, he, boxed_own _ _ (fun (_ : Unit) => Value.slice none 0 0) () X Y row h0 hg hr', boxed_own _ _ (fun (_ : Unit) => Value.int .i64 t.pos) () X Y row h1 hg hr', boxed_own _ _ (fun (_ : Unit) => Value.int .i64 150) () X Y row h2 hg hr'⟩) (ownFrom_below (Nat.le_refl _) (by omega)))
      ⟨⟨⟨⟨⟨⟨⟨_, b3, World.ownsRow_nil _ _ _ _, trivial⟩, b0⟩, b1⟩, b2⟩, b4⟩, rfl⟩, hB0⟩
      (fun x a' W => ∃ Bx, w.heap.size + 1 + 1 + 1 + 1 < Bx ∧ Blk W Bx 28 x.1.cells.toArray ∧ a' = { tmps := #[.string s, undef, .pointer (some ⟨w.heap.size, 0, none⟩), .pointer (some ⟨w.heap.size + 1, 0, none⟩), .pointer (some ⟨w.heap.size + 1 + 1, 0, none⟩), .pointer (some ⟨w.heap.size + 1 + 1 + 1, 0, none⟩), .pointer (some ⟨Bx, 0, none⟩), .bool x.2, .string s, .int .i64 s.size, .bool false, .string s, .func (.func 20) #[] #[.pointer (some ⟨w.heap.size + 1 + 1 + 1 + 1, 0, none⟩)], x.1.val, .bool x.2, undef, undef, undef, undef, undef, undef, undef, undef, undef], defers := [] })
      (fun x a' _ X Y row hs hg hr => by obtain ⟨Bx, h1, h2, h3⟩ := hs; exact ⟨Bx, h1, blk_own Bx _ (fun (_ : Unit) => x.1.cells.toArray) () X Y row h2 hg (fun r e => (hr r e).2), h3⟩)
      ?assign ?body ?done ?stop
    case assign =>
      rintro l pre x W K ⟨⟨⟨⟨⟨⟨⟨v, c3, row, _⟩, c0⟩, c1⟩, c2⟩, c4⟩, he⟩, hB1⟩ hK
      obtain ⟨⟨k, p, tx⟩, ok⟩ := x
      dsimp only [encT, Tok.val] at *
      gi_wp2
      exact hK _ _ ((KeepsOthers.alloc _ _).from _) (fun e => e.alloc _) ⟨⟨⟨⟨⟨⟨⟨v, c3.alloc _, row.alloc _, trivial⟩, c0.alloc _⟩, c1.alloc _⟩, c2.alloc _⟩, c4.alloc _⟩, he⟩, hB1.alloc hB1.size _⟩ ⟨W.heap.size, c4.lt, Blk.new W _ _, rfl⟩
    case body =>
      rintro l pre ⟨⟨k, p, tx⟩, ok⟩ a' W hl' ⟨r', hr'⟩ ⟨⟨⟨⟨⟨⟨⟨v, c3, row, _⟩, c0⟩, c1⟩, c2⟩, c4⟩, he⟩, hB1⟩ ⟨Bx, hBx, hblk, rfl⟩ hlt
      have hpl := Nat.lt_of_lt_of_le hlt (lexT_len _ _ _)
      have hs2 : s.data.toList.length ≤ 1048576 := by simp; omega
      have htl := toksOf_le pre
      dsimp only [Tok.cells, Tok.val] at hblk ⊢
      have hx0 := hblk.cell 0
      have hx1 := hblk.cell 1
      have hx2 := hblk.cell 2
      have hc3 := c3.cell
      have HE := Lib.hid he
      clear he
      cases ok with
      | true =>
        gi_wp2_with (gi_at_builtin; go_loud (refine wpListIn_append_own _ rfl _ _ 23 rfl w.heap.size 28 i0 _ 3 32 Tryd.underlying23 hi hz0 hz1 hz2 rfl (by decide) _ _ _ rfl (row.alloc _) ⟨W.heap.size, 0, none⟩ 1 1 [.int .u8 k, .int .i64 p, .string ⟨tx.toArray⟩] rfl rfl (cells_new _ _ _) (by simp [Value.oneCell']) (by unfold maxLen; omega) (by omega) (by have := hB1.size; simp; omega) ?_); intro v' w1 hown' hgrow _; obtain ⟨g', cap', rfl⟩ := ownsRow_succ hown'; obtain ⟨hv1, hv2, hr2, hk2, hb2⟩ := c3.appended (by decide) row hB1.size (by omega) hown' hgrow; have hc1 := hv1.cell; have hf1 := hv1.frozen)
        obtain ⟨q1, q2⟩ := toksOf_snoc pre HE.out ⟨k, p, tx⟩
        refine ⟨hk2.from _, fun _ => ((c4.alloc _).kept hgrow (c4.not_row (by decide) row)).other (by omega) _, ⟨⟨⟨⟨⟨⟨_, hv2, ?_, trivial⟩, ((c0.alloc _).kept hgrow (c0.not_row (by decide) row)).other (by omega) _⟩, ((c1.alloc _).kept hgrow (c1.not_row (by decide) row)).other (by omega) _⟩, ((c2.alloc _).kept hgrow (c2.not_row (by decide) row)).other (by omega) _⟩, ((c4.alloc _).kept hgrow (c4.not_row (by decide) row)).other (by omega) _⟩, q2⟩, hB1.trans hb2⟩
        rw [q1, cellsOf_snoc, List.length_append]
        exact hr2
      | false =>
        have hc0 := c0.cell
        have hf0 := c0.frozen
        have hc1 := c1.cell
        have hf1 := c1.frozen
        have hc2 := c2.cell
        have hf2 := c2.frozen
        gi_wp2
        gi_region
        all_goals gi_wp2
        all_goals
          refine ⟨(((KeepsOthers.setCell _ _ _).trans (KeepsOthers.setCell _ _ _)).trans ((KeepsOthers.setCell _ _ _).trans (KeepsOthers.drew _))).from _, ⟨rfl, pre, ⟨k, p, tx⟩, rfl, HE.out, ?_, ?_, ?_⟩, ?_⟩
          · exact ((c0.set _).other (B' := w.heap.size + 1) (by omega) _).other (B' := w.heap.size + 1 + 1) (by omega) _
          · exact ((c1.other (B' := w.heap.size) (by omega) _).set _).other (B' := w.heap.size + 1 + 1) (by omega) _
          · exact ((c2.other (B' := w.heap.size) (by omega) _).other (B' := w.heap.size + 1) (by omega) _).set _
          · exact (((hB1.setCell (p := ⟨w.heap.size, 0, none⟩) (Nat.le_refl _) _).setCell (p := ⟨w.heap.size + 1, 0, none⟩) (by simp) _).setCell (p := ⟨w.heap.size + 1 + 1, 0, none⟩) (by simp; omega) _).drew
    case done =>
      rintro D ys W hD rfl ⟨⟨⟨⟨⟨⟨⟨v, c3, row, _⟩, c0⟩, c1⟩, c2⟩, c4⟩, he⟩, hB1⟩ hK
      have hc0 := c0.cell
      have hf0 := c0.frozen
      have hc1 := c1.cell
      have hf1 := c1.frozen
      have hc2 := c2.cell
      have hf2 := c2.frozen
      have hc3 := c3.cell
      have HE := Lib.hid he
      clear he
      obtain ⟨va, vc, rfl⟩ := row_form row
      have hr := HR.out
      rw [HE.out] at hr
      have HR2 := Lib.hid hr
      clear hr HR
      gi_wp2
      have hK' := (((KeepsOthers.setCell W ⟨w.heap.size, 0, none⟩ (.slice va (toksOf (lexT s.data.toList 0 4)).length vc)).trans (KeepsOthers.setCell _ ⟨w.heap.size + 1, 0, none⟩ (.int .i64 0))).trans (KeepsOthers.setCell _ ⟨w.heap.size + 1 + 1, 0, none⟩ (.int .i64 0))).same D _ hK rfl
      have e0 := ((c0.set (.slice va (toksOf (lexT s.data.toList 0 4)).length vc)).other (B' := w.heap.size + 1) (by omega) (.int .i64 0)).other (B' := w.heap.size + 1 + 1) (by omega) (.int .i64 0)
      have e1 := ((c1.other (B' := w.heap.size) (by omega) (.slice va (toksOf (lexT s.data.toList 0 4)).length vc)).set (.int .i64 0)).other (B' := w.heap.size + 1 + 1) (by omega) (.int .i64 0)
      have e2 := ((c2.other (B' := w.heap.size) (by omega) (.slice va (toksOf (lexT s.data.toList 0 4)).length vc)).other (B' := w.heap.size + 1) (by omega) (.int .i64 0)).set (.int .i64 0)
      have erow := ((row.kept (grownBy_setCell' _ w.heap.size (.slice va (toksOf (lexT s.data.toList 0 4)).length vc)) (.inr (c0.not_row (by decide) row).symm)).kept (grownBy_setCell' _ (w.heap.size + 1) (.int .i64 0)) (.inr (c1.not_row (by decide) row).symm)).kept (grownBy_setCell' _ (w.heap.size + 1 + 1) (.int .i64 0)) (.inr (c2.not_row (by decide) row).symm)
      have hB2 := ((hB1.setCell (p := ⟨w.heap.size, 0, none⟩) (Nat.le_refl _) (.slice va (toksOf (lexT s.data.toList 0 4)).length vc)).setCell (p := ⟨w.heap.size + 1, 0, none⟩) (by simp) (.int .i64 0)).setCell (p := ⟨w.heap.size + 1 + 1, 0, none⟩) (by simp; omega) (.int .i64 0)
      refine ⟨by simp, .inl ⟨_, _, rfl, run_takeDeferred hK', ?_⟩⟩
      have f0 := (e0.kept (grownBy_putObj' _ D (.deferred none)) (fun e' => by injection e'; omega)).cell
      have f1 := (e1.kept (grownBy_putObj' _ D (.deferred none)) (fun e' => by injection e'; omega)).cell
      have f2 := (e2.kept (grownBy_putObj' _ D (.deferred none)) (fun e' => by injection e'; omega)).cell
      have frow := ownsRow_putObj erow (.deferred none) hK' rfl
      have hB3 := hB2.trans (belowK_b (w := w) (Nat.le_refl _) _ D _ (.deferred none) (by omega) hK' rfl rfl)
      refine ⟨.tuple #[.slice va (toksOf (lexT s.data.toList 0 4)).length vc, .int .i64 0, .int .i64 0], by simp [results, Tryd.results5, go_sem, f0, f1, f2], ?_⟩
      rw [← HR2.out]
      exact ⟨_, rfl, frow, hB3⟩
    case stop =>
      rintro D c pre W hD hpre ⟨⟨rfl, ts, t, hp, he, c0, c1, c2⟩, hB1⟩ hK
      have hc0 := c0.cell
      have hc1 := c1.cell
      have hc2 := c2.cell
      have hr := HR.out
      obtain ⟨rest, hrest⟩ := hpre
      rw [← hrest, hp, List.append_assoc, List.singleton_append, errOf_bad ts he] at hr
      have HR2 := Lib.hid hr
      clear hr HR
      gi_wp2
      refine ⟨by simp, .inl ⟨_, _, rfl, run_takeDeferred hK, ?_⟩⟩
      have f0 := (c0.kept (grownBy_putObj' _ D (.deferred none)) (fun e' => by injection e'; omega)).cell
      have f1 := (c1.kept (grownBy_putObj' _ D (.deferred none)) (fun e' => by injection e'; omega)).cell
      have f2 := (c2.kept (grownBy_putObj' _ D (.deferred none)) (fun e' => by injection e'; omega)).cell
      have hB3 := hB1.trans (belowK_b (w := w) (Nat.le_refl _) _ D _ (.deferred none) (by omega) hK rfl rfl)
      refine ⟨.tuple #[.slice none 0 0, .int .i64 t.pos, .int .i64 150], by simp [results, Tryd.results5, go_sem, f0, f1, f2], ?_⟩
      rw [← HR2.out]
      exact ⟨_, rfl, ⟨by simp [cellsOf], .inl ⟨rfl, rfl⟩⟩, hB3⟩

theorem lex_any (s : ByteArray) (hs : s.size ≤ maxLen) (w : World) : Calls Tryd.prog 5 #[.string s] w (LexPost w (lexRes s.data.toList)) :=
  callsIn_wide.1 (lex_in 3 (Nat.le_refl _) s hs w)

end Go.Proofs.YtekhdocejahboaaDoor.lexw
