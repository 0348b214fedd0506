/- What the walks of layers 15 to 17 share: rows of tokens, small laws. The texts are those of the seat of layer 15. -/
import Derived.Test.YtdmhebibnnemnaaDoorLexMath
import Derived.Test.YtdmhebibnnemnaaDoorProg
import Derived.WalkKit
import Derived.WalkLawsBesides
import Derived.WalkSpells
import Derived.Lib.Hide
import Derived.Outline
import Derived.Laws.EntriesVeiled
import Derived.Maps.AppendAt
import Derived.OwnWalkIn
import Derived.TacticsInMore
import Derived.LoopNIn
import Derived.LoopIn
import Derived.Lib.IndexBytes
import Derived.Shelf.Abstract
import Derived.Shelf.RegionOpen
import Derived.Deep.QuietTactic
import Derived.BigQuiet
import Derived.Laws.StructEq
namespace Go.Proofs.YtdmhebibnnemnaaDoor.lexw
open Go.RowKit Go.Shelf
open Go.Proofs.YtdmhebibnnemnaaDoor.lexm
attribute [local go_sem] Oper.semAt_some

theorem ret_bool {a b : Bool} (h : a = b) : Ending.returned (.bool a) = .returned (.bool b) := by rw [h]
theorem ret_int {k : IntKind} {a b : Int} (h : a = b) : Ending.returned (.int k a) = .returned (.int k b) := by rw [h]

theorem drop_cons (s : ByteArray) (k : Nat) (h : k < s.size) : s.data.toList.drop k = s[k] :: s.data.toList.drop (k + 1) := by
  rw [List.drop_eq_getElem_cons (by simpa using h)]; rfl
theorem drop_end (s : ByteArray) (k : Nat) (h : s.size ≤ k) : s.data.toList.drop k = [] := List.drop_eq_nil_of_le (by simpa using h)
theorem byte_le (s : ByteArray) (k : Nat) (h : k < s.size) : (s[k].toNat : Int) ≤ 255 := by have := UInt8.toNat_lt s[k]; omega

theorem tok_text (s : ByteArray) (k n : Nat) : s.extract k (k + n) = ⟨((s.data.toList.drop k).take n).toArray⟩ := by
  have h := Lib.extract_data s k (k + n)
  rw [Nat.add_sub_cancel_left] at h
  rw [← h]

/-- a block that is known whole -/
def Blk (w : World) (g : Nat) (t : TypeId) (cs : Array Value) : Prop := w.heap[g]? = some (.cells cs t (0, 0))
theorem Blk.lt {w : World} {g : Nat} {t : TypeId} {cs : Array Value} (h : Blk w g t cs) : g < w.heap.size := (Array.getElem?_eq_some_iff.1 h).1
theorem Blk.cell {w : World} {g : Nat} {t : TypeId} {cs : Array Value} (h : Blk w g t cs) (i : Nat) : w.cell? ⟨g, i, none⟩ = cs[i]? := cell_of_row w g i cs t (0, 0) h
theorem Blk.kept {W W' : World} {row : Option Nat} {B : Nat} {t : TypeId} {v : Array Value} (h : Blk W B t v) (hg : W.grownBy W' row) (hne : some B ≠ row) : Blk W' B t v := (hg.block B h.lt hne).trans h
theorem Blk.alloc {W : World} {B : Nat} {t : TypeId} {v : Array Value} (h : Blk W B t v) (o : Obj) : Blk (W.alloc o) B t v := h.kept (World.grownBy_alloc W o none) (by simp)
theorem Blk.new (w : World) (t : TypeId) (cs : Array Value) : Blk (w.alloc (.cells cs t)) w.heap.size t cs := heap_alloc_new w _
theorem cells_new (W : World) (news : List Value) (t : TypeId) : ∀ j u, news[j]? = some u → (W.alloc (.cells news.toArray t)).cell? ((⟨W.heap.size, 0, none⟩ : Addr).add j) = some u := by
  intro j u hu
  have hadd : (⟨W.heap.size, 0, none⟩ : Addr).add j = ⟨W.heap.size, j, none⟩ := by unfold Addr.add; split <;> simp_all
  rw [hadd, (Blk.new W t news.toArray).cell j]
  simpa using hu

theorem toksOf_snoc (pre : List (Tok × Bool)) (h : errOf pre = none) (t : Tok) : toksOf (pre ++ [(t, true)]) = toksOf pre ++ [t] ∧ errOf (pre ++ [(t, true)]) = none := by
  induction pre with
  | nil => exact ⟨rfl, rfl⟩
  | cons x r ih =>
    obtain ⟨y, b⟩ := x
    cases b with
    | true =>
      have := ih h
      exact ⟨by simpa [toksOf] using this.1, by simpa [errOf] using this.2⟩
    | false => cases h
theorem toksOf_le (pre : List (Tok × Bool)) : (toksOf pre).length ≤ pre.length := by
  induction pre with
  | nil => simp [toksOf]
  | cons x r ih =>
    obtain ⟨y, b⟩ := x
    cases b <;> simp [toksOf] <;> omega
theorem errOf_bad (pre : List (Tok × Bool)) (h : errOf pre = none) (t : Tok) (r : List (Tok × Bool)) : errOf (pre ++ (t, false) :: r) = some t.pos := by
  induction pre with
  | nil => rfl
  | cons x q ih =>
    obtain ⟨y, b⟩ := x
    cases b with
    | true => exact ih h
    | false => cases h

theorem row_form {W : World} {base : Nat} {e : TypeId} {size : Nat} {v : Value} {k : Nat} {xs : List Value} (h : W.ownsRow base e size v k xs) : ∃ a c, v = .slice a k c := by
  rcases h.2 with ⟨rfl, h0⟩ | ⟨g, cap, _, rfl, _⟩
  · subst h0; exact ⟨_, _, rfl⟩
  · exact ⟨_, _, rfl⟩
theorem Tryd.tokInfo : (Tryd.prog.info? 24).map (fun i => (i.zero, i.size, i.bytes)) = some (some (.agg #[.int .u8 0, .int .i64 0, .string ⟨#[]⟩]), 3, 32) := by kernel_rfl

/-- what Lex hands back -/
def LexPost (w : World) (r : List Tok × Nat × Nat) (e : Ending) (w' : World) : Prop :=
  ∃ v, e = .returned (.tuple #[v, .int .i64 r.2.1, .int .i64 r.2.2]) ∧ w'.ownsRow w.heap.size 24 3 v r.1.length (cellsOf r.1) ∧ Below w.heap.size w w'

/-- the slice value v holds the tokens ts, in blocks below B -/
def Toks (W : World) (B : Nat) (v : Value) (ts : List Tok) : Prop :=
  ∃ A c, v = .slice A ts.length c ∧ (ts ≠ [] → ∃ g off, A = some ⟨g, off, none⟩ ∧ g < B ∧ ∀ j u, (cellsOf ts)[j]? = some u → W.cell? ⟨g, off + j, none⟩ = some u)

theorem Toks.of_own {W : World} {base : Nat} {v : Value} {ts : List Tok} (h : W.ownsRow base 24 3 v ts.length (cellsOf ts)) : Toks W W.heap.size v ts := by
  rcases h.2 with ⟨rfl, hn⟩ | ⟨g, cap, cur, rfl, _, hgg, _⟩
  · exact ⟨_, _, by rw [hn], fun h0 => absurd (List.eq_nil_of_length_eq_zero hn) h0⟩
  · refine ⟨_, _, rfl, fun _ => ⟨g, 0, rfl, (Array.getElem?_eq_some_iff.1 hgg).1, fun j u hu => ?_⟩⟩
    have hc := h.cells (g := g) rfl j u hu
    have hadd : (⟨g, 0, none⟩ : Addr).add j = ⟨g, j, none⟩ := by unfold Addr.add; split <;> simp_all
    rw [hadd] at hc
    rw [Nat.zero_add]
    exact hc
theorem Toks.below {W W' : World} {B B' : Nat} {v : Value} {ts : List Tok} (h : Toks W B v ts) (hb : Below B' W W') (hB : B ≤ B') : Toks W' B' v ts := by
  obtain ⟨A, c, hv, hc⟩ := h
  refine ⟨A, c, hv, fun h0 => ?_⟩
  obtain ⟨g, off, hA, hg, hcell⟩ := hc h0
  exact ⟨g, off, hA, by omega, fun j u hu => (hb.cell (p := ⟨g, off + j, none⟩) (by simp; omega)).trans (hcell j u hu)⟩

theorem Toks.mono {W : World} {B B' : Nat} {v : Value} {ts : List Tok} (h : Toks W B v ts) (hB : B ≤ B') : Toks W B' v ts := by
  obtain ⟨A, c, hv, hc⟩ := h
  refine ⟨A, c, hv, fun h0 => ?_⟩
  obtain ⟨g, off, hA, hg, hcell⟩ := hc h0
  exact ⟨g, off, hA, by omega, hcell⟩

theorem Toks.of_cells (W : World) (cs : List Value) (ts : List Tok) (n : Nat) (hn : ts.length = n) (h : cs = cellsOf ts) : Toks (W.alloc (.cells cs.toArray 24)) (W.heap.size + 1) (.slice (some ⟨W.heap.size, 0, none⟩) n n) ts := by
  subst hn
  refine ⟨_, _, rfl, fun _ => ⟨_, _, rfl, by omega, fun j u hu => ?_⟩⟩
  have := (Blk.new W 24 cs.toArray).cell j
  rw [Nat.zero_add, this, h]
  simpa using hu

theorem below_drewN' {B : Nat} {a w : World} (h : Below B a w) (n : Nat) : Below B a (w.drewN n) := ⟨h.os, h.tape, h.output, h.size, h.block⟩


end Go.Proofs.YtdmhebibnnemnaaDoor.lexw
