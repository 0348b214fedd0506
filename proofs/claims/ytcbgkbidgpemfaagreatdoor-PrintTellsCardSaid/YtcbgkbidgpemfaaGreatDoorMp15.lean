/- The contract of lex.tokens: the tokens come one by one. Condition: the text is within the reach. -/
import Derived.Test.YtcbgkbidgpemfaaGreatDoorMp14
import Derived.Test.YtcbgkbidgpemfaaGreatDoorProg
import Derived.RangeFuncBound
import Derived.RangeFuncCalls
import Derived.RangeFuncLeaves
import Derived.Shelf.Abstract
import Derived.Shelf.RegionOpen
import Derived.OwnWalkIn
import Derived.TacticsInMore
import Derived.LoopNIn
import Derived.LoopIn
import Derived.Lib.IndexBytes
import Derived.Maps.AppendAt
import Derived.WalkKit
import Derived.WalkLawsBesides
import Derived.WalkSpells
import Derived.Lib.Hide
import Derived.Outline
import Derived.Laws.EntriesVeiled
import Derived.Deep.QuietTactic
import Derived.BigQuiet
import Derived.Laws.StructEq
namespace Go.Proofs.YtcbgkbidgpemfaaGreatDoor.lexw
open Go.RowKit Go.Shelf
open Go.Proofs.YtcbgkbidgpemfaaGreatDoor.lexm
attribute [local go_sem] Oper.semAt_some

end Go.Proofs.YtcbgkbidgpemfaaGreatDoor.lexw

/- The contract of lex.Lex: its answer is lexRes of the text's bytes. Condition: the text is within the reach. -/
namespace Go.Proofs.YtcbgkbidgpemfaaGreatDoor.lexw
open Go.RowKit Go.Shelf
open Go.Proofs.YtcbgkbidgpemfaaGreatDoor.lexm
attribute [local go_sem] Oper.semAt_some

/-- a block that is known whole -/
def Blk (w : World) (g : Nat) (t : TypeId) (cs : Array Value) : Prop := w.heap[g]? = some (.cells cs t (0, 0))
theorem Blk.lt {w : World} {g : Nat} {t : TypeId} {cs : Array Value} (h : Blk w g t cs) : g < w.heap.size := (Array.getElem?_eq_some_iff.1 h).1
theorem Blk.cell {w : World} {g : Nat} {t : TypeId} {cs : Array Value} (h : Blk w g t cs) (i : Nat) : w.cell? ⟨g, i, none⟩ = cs[i]? := cell_of_row w g i cs t (0, 0) h
theorem Blk.kept {W W' : World} {row : Option Nat} {B : Nat} {t : TypeId} {v : Array Value} (h : Blk W B t v) (hg : W.grownBy W' row) (hne : some B ≠ row) : Blk W' B t v := (hg.block B h.lt hne).trans h
theorem Blk.alloc {W : World} {B : Nat} {t : TypeId} {v : Array Value} (h : Blk W B t v) (o : Obj) : Blk (W.alloc o) B t v := h.kept (World.grownBy_alloc W o none) (by simp)
theorem Blk.new (w : World) (t : TypeId) (cs : Array Value) : Blk (w.alloc (.cells cs t)) w.heap.size t cs := heap_alloc_new w _
end Go.Proofs.YtcbgkbidgpemfaaGreatDoor.lexw

/- What the walks of layers 15 to 17 share, where lex.Lex is walked too: rows of tokens. -/
namespace Go.Proofs.YtcbgkbidgpemfaaGreatDoor.lexw
open Go.RowKit Go.Shelf
open Go.Proofs.YtcbgkbidgpemfaaGreatDoor.lexm
attribute [local go_sem] Oper.semAt_some
/-- the slice value v holds the tokens ts, in blocks below B -/
def Toks (W : World) (B : Nat) (v : Value) (ts : List Tok) : Prop :=
  ∃ A c, v = .slice A ts.length c ∧ (ts ≠ [] → ∃ g off, A = some ⟨g, off, none⟩ ∧ g < B ∧ ∀ j u, (cellsOf ts)[j]? = some u → W.cell? ⟨g, off + j, none⟩ = some u)

theorem Toks.below {W W' : World} {B B' : Nat} {v : Value} {ts : List Tok} (h : Toks W B v ts) (hb : Below B' W W') (hB : B ≤ B') : Toks W' B' v ts := by
  obtain ⟨A, c, hv, hc⟩ := h
  refine ⟨A, c, hv, fun h0 => ?_⟩
  obtain ⟨g, off, hA, hg, hcell⟩ := hc h0
  exact ⟨g, off, hA, by omega, fun j u hu => (hb.cell (p := ⟨g, off + j, none⟩) (by simp; omega)).trans (hcell j u hu)⟩

theorem Toks.mono {W : World} {B B' : Nat} {v : Value} {ts : List Tok} (h : Toks W B v ts) (hB : B ≤ B') : Toks W B' v ts := by
  obtain ⟨A, c, hv, hc⟩ := h
  refine ⟨A, c, hv, fun h0 => ?_⟩
  obtain ⟨g, off, hA, hg, hcell⟩ := hc h0
  exact ⟨g, off, hA, by omega, hcell⟩

end Go.Proofs.YtcbgkbidgpemfaaGreatDoor.lexw

/- The reader of parse: what it holds; the walks of fails and next. Conditions: as each theorem states. -/
namespace Go.Proofs.YtcbgkbidgpemfaaGreatDoor.parw
open Go.RowKit
open Go.Proofs.YtcbgkbidgpemfaaGreatDoor.lexw

/-- a token, whatever its place -/
structure PTok where
  kind : Nat
  pos : Int
  text : ByteArray
def PTok.cells (t : PTok) : List Value := [.int .u8 t.kind, .int .i64 t.pos, .string t.text]
def PTok.val (t : PTok) : Value := .agg #[.int .u8 t.kind, .int .i64 t.pos, .string t.text]
def PTok.no : PTok := ⟨0, 0, ⟨#[]⟩⟩
def pcells (ts : List PTok) : List Value := ts.flatMap PTok.cells
/-- the slice value v holds the tokens ts, in blocks below B -/
def PRow (W : World) (B : Nat) (v : Value) (ts : List PTok) : Prop :=
  ∃ A c, v = .slice A ts.length c ∧ ts.length ≤ c ∧ (ts ≠ [] → ∃ g off, A = some ⟨g, off, none⟩ ∧ g < B ∧ ∀ j u, (pcells ts)[j]? = some u → W.cell? ⟨g, off + j, none⟩ = some u)
theorem PRow.keep {W W' : World} {B : Nat} {v : Value} {ts : List PTok} (h : PRow W B v ts) (hk : ∀ g, g < B → g < W.heap.size → W'.heap[g]? = W.heap[g]?) : PRow W' B v ts := by
  obtain ⟨A, c, hv, hc, hx⟩ := h
  refine ⟨A, c, hv, hc, fun h0 => ?_⟩
  obtain ⟨g, off, hA, hg, hcell⟩ := hx h0
  exact ⟨g, off, hA, hg, fun j u hu => (World.cell?_of_block (a := ⟨g, off + j, none⟩) (hk g hg (World.block_lt_of_cell? W _ (hcell j u hu)))).trans (hcell j u hu)⟩

/-- what is left, and the first error -/
structure RSt where
  ts : List PTok
  pl : Int
  er : Nat
/-- the reader in block rb -/
def RdAt (w : World) (rb B : Nat) (en : Int) (s : RSt) : Prop :=
  B ≤ rb ∧ ∃ v, PRow w B v s.ts ∧ w.heap[rb]? = some (.cells #[v, .int .i64 en, .int .i64 s.pl, .int .i64 s.er] 67 (0, 0))
theorem RdAt.lt {w : World} {rb B : Nat} {en : Int} {s : RSt} (h : RdAt w rb B en s) : rb < w.heap.size := by
  obtain ⟨_, v, _, hb⟩ := h
  exact (Array.getElem?_eq_some_iff.1 hb).1
theorem RdAt.kept {w w' : World} {rb B : Nat} {en : Int} {s : RSt} {row : Option Nat} (h : RdAt w rb B en s) (hg : w.grownBy w' row) (hr : ∀ r, row = some r → B ≤ r ∧ r ≠ rb) : RdAt w' rb B en s := by
  have hlt := h.lt
  obtain ⟨hB, v, hp, hb⟩ := h
  refine ⟨hB, v, hp.keep fun g hgB hgl => hg.block g hgl fun e => ?_, (hg.block rb hlt fun e => ?_).trans hb⟩
  · have := (hr g e.symm).1; omega
  · exact (hr rb e.symm).2 rfl
theorem RdAt.alloc {w : World} {rb B : Nat} {en : Int} {s : RSt} (h : RdAt w rb B en s) (o : Obj) : RdAt (w.alloc o) rb B en s := h.kept (World.grownBy_alloc w o none) fun r e => by cases e
theorem grown_drewN (w : World) (n : Nat) (row : Option Nat) : w.grownBy (w.drewN n) row := ⟨rfl, rfl, rfl, Nat.le_refl _, fun _ _ _ => rfl⟩
theorem RdAt.drewN {w : World} {rb B : Nat} {en : Int} {s : RSt} (h : RdAt w rb B en s) (n : Nat) : RdAt (w.drewN n) rb B en s := h
theorem grown_below {w w' : World} (h : Below w.heap.size w w') (row : Option Nat) : w.grownBy w' row := ⟨h.os, h.tape, h.output, h.size, fun k hk _ => h.block k hk⟩
theorem RdAt.below {w w' : World} {rb B : Nat} {en : Int} {s : RSt} (h : RdAt w rb B en s) (hb : Below w.heap.size w w') : RdAt w' rb B en s := h.kept (grown_below hb none) fun r e => by cases e
theorem grown_trans {a b c : World} {row : Option Nat} (h : a.grownBy b row) (k : b.grownBy c row) : a.grownBy c row :=
  ⟨k.os.trans h.os, k.tape.trans h.tape, k.output.trans h.output, Nat.le_trans h.size k.size, fun i hi hr => (k.block i (Nat.lt_of_lt_of_le hi h.size) hr).trans (h.block i hi hr)⟩
theorem heap_set (w : World) (g j : Nat) (cs : Array Value) (t : TypeId) (fr : Nat × Nat) (v : Value) (h : w.heap[g]? = some (.cells cs t fr)) :
    (w.setCell ⟨g, j, none⟩ v).heap[g]? = some (.cells (cs.setIfInBounds j v) t fr) := by
  obtain ⟨hlt, hk⟩ := Array.getElem?_eq_some_iff.1 h
  show (w.heap.modify g _)[g]? = _
  rw [Array.getElem?_eq_getElem (by rw [Array.size_modify]; exact hlt), Array.getElem_modify_self, hk]
  simp
theorem not_frozen {w : World} {g : Nat} {cs : Array Value} {t : TypeId} (h : w.heap[g]? = some (.cells cs t (0, 0))) (j : Nat) : w.frozen? ⟨g, j, none⟩ = false := by
  simp [World.frozen?, h]

end Go.Proofs.YtcbgkbidgpemfaaGreatDoor.parw

/- The walks of parse's words, Kind, Word, forms, and of slices.Index. Conditions: as each theorem states. -/
namespace Go.Proofs.YtcbgkbidgpemfaaGreatDoor.parw
open Go.RowKit
open Go.Proofs.YtcbgkbidgpemfaaGreatDoor.lexw

def wd1 : ByteArray := ⟨#[108, 97, 109, 98, 101, 114, 116]⟩
def wd2 : ByteArray := ⟨#[111, 114, 101, 110]⟩
def wd3 : ByteArray := ⟨#[112, 108, 97, 115, 116, 105, 99]⟩
def wd4 : ByteArray := ⟨#[109, 101, 116, 97, 108]⟩
def wd5 : ByteArray := ⟨#[109, 105, 120]⟩
def wd6 : ByteArray := ⟨#[99, 111, 97, 116]⟩
def wordsL : List ByteArray := [⟨#[]⟩, wd1, wd2, wd3, wd4, wd5, wd6]

def kindF (s : ByteArray) : Nat := if s = wd1 then 1 else if s = wd2 then 2 else if s = wd3 then 3 else if s = wd4 then 4 else if s = wd5 then 5 else if s = wd6 then 6 else 0
end Go.Proofs.YtcbgkbidgpemfaaGreatDoor.parw
