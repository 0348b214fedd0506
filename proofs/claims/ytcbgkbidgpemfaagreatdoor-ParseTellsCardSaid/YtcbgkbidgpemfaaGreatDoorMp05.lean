/- The contract of lex.Lex: its answer is lexRes of the text's bytes. Condition: the text is within the reach. -/
import Derived.Test.YtcbgkbidgpemfaaGreatDoorMp04
import Derived.Test.YtcbgkbidgpemfaaGreatDoorProg
import Derived.Maps.AppendAt
import Derived.WalkKit
import Derived.WalkLawsBesides
import Derived.WalkSpells
import Derived.Lib.Hide
import Derived.Outline
import Derived.Laws.EntriesVeiled
import Derived.OwnWalkIn
import Derived.TacticsInMore
import Derived.LoopNIn
import Derived.LoopIn
import Derived.Lib.IndexBytes
import Derived.Shelf.Abstract
import Derived.Shelf.RegionOpen
import Derived.Deep.QuietTactic
import Derived.BigQuiet
import Derived.Laws.StructEq
namespace Go.Proofs.YtcbgkbidgpemfaaGreatDoor.lexw
open Go.RowKit Go.Shelf
open Go.Proofs.YtcbgkbidgpemfaaGreatDoor.lexm
attribute [local go_sem] Oper.semAt_some

/-- a block that is known whole -/
def Blk (w : World) (g : Nat) (t : TypeId) (cs : Array Value) : Prop := w.heap[g]? = some (.cells cs t (0, 0))
theorem Blk.cell {w : World} {g : Nat} {t : TypeId} {cs : Array Value} (h : Blk w g t cs) (i : Nat) : w.cell? ⟨g, i, none⟩ = cs[i]? := cell_of_row w g i cs t (0, 0) h
theorem Blk.new (w : World) (t : TypeId) (cs : Array Value) : Blk (w.alloc (.cells cs t)) w.heap.size t cs := heap_alloc_new w _
theorem cells_new (W : World) (news : List Value) (t : TypeId) : ∀ j u, news[j]? = some u → (W.alloc (.cells news.toArray t)).cell? ((⟨W.heap.size, 0, none⟩ : Addr).add j) = some u := by
  intro j u hu
  have hadd : (⟨W.heap.size, 0, none⟩ : Addr).add j = ⟨W.heap.size, j, none⟩ := by unfold Addr.add; split <;> simp_all
  rw [hadd, (Blk.new W t news.toArray).cell j]
  simpa using hu

theorem row_form {W : World} {base : Nat} {e : TypeId} {size : Nat} {v : Value} {k : Nat} {xs : List Value} (h : W.ownsRow base e size v k xs) : ∃ a c, v = .slice a k c := by
  rcases h.2 with ⟨rfl, h0⟩ | ⟨g, cap, _, rfl, _⟩
  · subst h0; exact ⟨_, _, rfl⟩
  · exact ⟨_, _, rfl⟩
theorem Tryz.tokInfo : (Tryz.prog.info? 27).map (fun i => (i.zero, i.size, i.bytes)) = some (some (.agg #[.int .u8 0, .int .i64 0, .string ⟨#[]⟩]), 3, 32) := by kernel_rfl

/-- what Lex hands back -/
def LexPost (w : World) (r : List Tok × Nat × Nat) (e : Ending) (w' : World) : Prop :=
  ∃ v, e = .returned (.tuple #[v, .int .i64 r.2.1, .int .i64 r.2.2]) ∧ w'.ownsRow w.heap.size 27 3 v r.1.length (cellsOf r.1) ∧ Below w.heap.size w w'

end Go.Proofs.YtcbgkbidgpemfaaGreatDoor.lexw

/- What the walks of layers 15 to 17 share, where lex.Lex is walked too: rows of tokens. -/
namespace Go.Proofs.YtcbgkbidgpemfaaGreatDoor.lexw
open Go.RowKit Go.Shelf
open Go.Proofs.YtcbgkbidgpemfaaGreatDoor.lexm
attribute [local go_sem] Oper.semAt_some
/-- the slice value v holds the tokens ts, in blocks below B -/
def Toks (W : World) (B : Nat) (v : Value) (ts : List Tok) : Prop :=
  ∃ A c, v = .slice A ts.length c ∧ (ts ≠ [] → ∃ g off, A = some ⟨g, off, none⟩ ∧ g < B ∧ ∀ j u, (cellsOf ts)[j]? = some u → W.cell? ⟨g, off + j, none⟩ = some u)

theorem Toks.below {W W' : World} {B B' : Nat} {v : Value} {ts : List Tok} (h : Toks W B v ts) (hb : Below B' W W') (hB : B ≤ B') : Toks W' B' v ts := by
  obtain ⟨A, c, hv, hc⟩ := h
  refine ⟨A, c, hv, fun h0 => ?_⟩
  obtain ⟨g, off, hA, hg, hcell⟩ := hc h0
  exact ⟨g, off, hA, by omega, fun j u hu => (hb.cell (p := ⟨g, off + j, none⟩) (by simp; omega)).trans (hcell j u hu)⟩

end Go.Proofs.YtcbgkbidgpemfaaGreatDoor.lexw

/- The reader of parse: what it holds; the walks of fails and next. Conditions: as each theorem states. -/
namespace Go.Proofs.YtcbgkbidgpemfaaGreatDoor.parw
open Go.RowKit
open Go.Proofs.YtcbgkbidgpemfaaGreatDoor.lexw

/-- a token, whatever its place -/
structure PTok where
  kind : Nat
  pos : Int
  text : ByteArray
def PTok.cells (t : PTok) : List Value := [.int .u8 t.kind, .int .i64 t.pos, .string t.text]
def PTok.val (t : PTok) : Value := .agg #[.int .u8 t.kind, .int .i64 t.pos, .string t.text]
def PTok.no : PTok := ⟨0, 0, ⟨#[]⟩⟩
def pcells (ts : List PTok) : List Value := ts.flatMap PTok.cells
theorem pcells_cons (t : PTok) (r : List PTok) : pcells (t :: r) = t.cells ++ pcells r := rfl

/-- the slice value v holds the tokens ts, in blocks below B -/
def PRow (W : World) (B : Nat) (v : Value) (ts : List PTok) : Prop :=
  ∃ A c, v = .slice A ts.length c ∧ ts.length ≤ c ∧ (ts ≠ [] → ∃ g off, A = some ⟨g, off, none⟩ ∧ g < B ∧ ∀ j u, (pcells ts)[j]? = some u → W.cell? ⟨g, off + j, none⟩ = some u)
theorem PRow.keep {W W' : World} {B : Nat} {v : Value} {ts : List PTok} (h : PRow W B v ts) (hk : ∀ g, g < B → g < W.heap.size → W'.heap[g]? = W.heap[g]?) : PRow W' B v ts := by
  obtain ⟨A, c, hv, hc, hx⟩ := h
  refine ⟨A, c, hv, hc, fun h0 => ?_⟩
  obtain ⟨g, off, hA, hg, hcell⟩ := hx h0
  exact ⟨g, off, hA, hg, fun j u hu => (World.cell?_of_block (a := ⟨g, off + j, none⟩) (hk g hg (World.block_lt_of_cell? W _ (hcell j u hu)))).trans (hcell j u hu)⟩

/-- what is left, and the first error -/
structure RSt where
  ts : List PTok
  pl : Int
  er : Nat
/-- the reader in block rb -/
def RdAt (w : World) (rb B : Nat) (en : Int) (s : RSt) : Prop :=
  B ≤ rb ∧ ∃ v, PRow w B v s.ts ∧ w.heap[rb]? = some (.cells #[v, .int .i64 en, .int .i64 s.pl, .int .i64 s.er] 67 (0, 0))
theorem RdAt.lt {w : World} {rb B : Nat} {en : Int} {s : RSt} (h : RdAt w rb B en s) : rb < w.heap.size := by
  obtain ⟨_, v, _, hb⟩ := h
  exact (Array.getElem?_eq_some_iff.1 hb).1
theorem RdAt.kept {w w' : World} {rb B : Nat} {en : Int} {s : RSt} {row : Option Nat} (h : RdAt w rb B en s) (hg : w.grownBy w' row) (hr : ∀ r, row = some r → B ≤ r ∧ r ≠ rb) : RdAt w' rb B en s := by
  have hlt := h.lt
  obtain ⟨hB, v, hp, hb⟩ := h
  refine ⟨hB, v, hp.keep fun g hgB hgl => hg.block g hgl fun e => ?_, (hg.block rb hlt fun e => ?_).trans hb⟩
  · have := (hr g e.symm).1; omega
  · exact (hr rb e.symm).2 rfl
theorem RdAt.alloc {w : World} {rb B : Nat} {en : Int} {s : RSt} (h : RdAt w rb B en s) (o : Obj) : RdAt (w.alloc o) rb B en s := h.kept (World.grownBy_alloc w o none) fun r e => by cases e
theorem grown_below {w w' : World} (h : Below w.heap.size w w') (row : Option Nat) : w.grownBy w' row := ⟨h.os, h.tape, h.output, h.size, fun k hk _ => h.block k hk⟩
theorem RdAt.below {w w' : World} {rb B : Nat} {en : Int} {s : RSt} (h : RdAt w rb B en s) (hb : Below w.heap.size w w') : RdAt w' rb B en s := h.kept (grown_below hb none) fun r e => by cases e
theorem grown_trans {a b c : World} {row : Option Nat} (h : a.grownBy b row) (k : b.grownBy c row) : a.grownBy c row :=
  ⟨k.os.trans h.os, k.tape.trans h.tape, k.output.trans h.output, Nat.le_trans h.size k.size, fun i hi hr => (k.block i (Nat.lt_of_lt_of_le hi h.size) hr).trans (h.block i hi hr)⟩
theorem grown_into {a b c : World} {row : Option Nat} (h : a.grownBy b row) (k : b.grownBy c (some a.heap.size)) : a.grownBy c row :=
  ⟨k.os.trans h.os, k.tape.trans h.tape, k.output.trans h.output, Nat.le_trans h.size k.size, fun i hi hr => (k.block i (Nat.lt_of_lt_of_le hi h.size) (by intro e; injection e with e; omega)).trans (h.block i hi hr)⟩
theorem grown_setCell (w : World) (p : Addr) (v : Value) : w.grownBy (w.setCell p v) (some p.block) :=
  ⟨rfl, rfl, rfl, by simp, fun k _ hk => Below.heap_setCell _ _ _ _ (fun e => hk (by rw [e]))⟩

theorem heap_set (w : World) (g j : Nat) (cs : Array Value) (t : TypeId) (fr : Nat × Nat) (v : Value) (h : w.heap[g]? = some (.cells cs t fr)) :
    (w.setCell ⟨g, j, none⟩ v).heap[g]? = some (.cells (cs.setIfInBounds j v) t fr) := by
  obtain ⟨hlt, hk⟩ := Array.getElem?_eq_some_iff.1 h
  show (w.heap.modify g _)[g]? = _
  rw [Array.getElem?_eq_getElem (by rw [Array.size_modify]; exact hlt), Array.getElem_modify_self, hk]
  simp
theorem not_frozen {w : World} {g : Nat} {cs : Array Value} {t : TypeId} (h : w.heap[g]? = some (.cells cs t (0, 0))) (j : Nat) : w.frozen? ⟨g, j, none⟩ = false := by
  simp [World.frozen?, h]

def RSt.fail (s : RSt) (at_ : Int) (e : Nat) : RSt := if s.er = 0 then { s with pl := at_, er := e } else s

theorem fails_any (rb B : Nat) (en : Int) (s : RSt) (at_ : Int) (e : Nat) (w : World) (h : RdAt w rb B en s) :
    Calls Tryz.prog 57 #[.pointer (some ⟨rb, 0, none⟩), .int .i64 at_, .int .i64 e] w fun x w' => x = .returned (.tuple #[]) ∧ RdAt w' rb B en (s.fail at_ e) ∧ w.grownBy w' (some rb) := by
  obtain ⟨hB, v, hp, hb⟩ := h
  have c2 := (cell_of_row w rb 2 _ _ _ hb)
  have c3 := (cell_of_row w rb 3 _ _ _ hb)
  have f2 := not_frozen hb 2
  have f3 := not_frozen hb 3
  simp at c2 c3
  by_cases h0 : s.er = 0
  · have e0 : ((s.er : Int) == 0) = true := by rw [h0]; rfl
    have hs : s.fail at_ e = { s with pl := at_, er := e } := by unfold RSt.fail; rw [if_pos h0]
    rw [hs]
    clear hs
    go_enter Tryz.func57, Tryz.ntmps57
    go_wp2
    go_end0
    refine ⟨rfl, ?_, ?_⟩
    · have k2 := heap_set w rb 2 _ _ _ (.int .i64 at_) hb
      have k3 := heap_set _ rb 3 _ _ _ (.int .i64 e) k2
      refine ⟨hB, v, hp.keep fun g hgB _ => ?_, k3⟩
      rw [Below.heap_setCell _ _ _ _ (by simp; omega), Below.heap_setCell _ _ _ _ (by simp; omega)]
    · exact grown_trans (grown_setCell w ⟨rb, 2, none⟩ _) (grown_setCell _ ⟨rb, 3, none⟩ _)
  · have e0 : ((s.er : Int) == 0) = false := by rw [beq_eq_false_iff_ne]; omega
    have hs : s.fail at_ e = s := by unfold RSt.fail; rw [if_neg h0]
    rw [hs]
    clear hs
    go_enter Tryz.func57, Tryz.ntmps57
    go_wp2
    go_end0
    exact ⟨rfl, ⟨hB, v, hp, hb⟩, World.grownBy.refl w _⟩

/-- one token of a kind -/
def nextS (en : Int) (s : RSt) (k : Nat) : PTok × RSt :=
  if s.er = 0 then
    match s.ts with
    | [] => (PTok.no, { s with pl := en, er := 170 })
    | t :: r => if t.kind = k then (t, { s with ts := r }) else (PTok.no, { s with pl := t.pos, er := 170 })
  else (PTok.no, s)
theorem nextS_er {en : Int} {s : RSt} {k : Nat} (h : ¬ s.er = 0) : nextS en s k = (PTok.no, s) := by unfold nextS; rw [if_neg h]
theorem nextS_nil {en : Int} {s : RSt} {k : Nat} (h : s.er = 0) (h1 : s.ts = []) : nextS en s k = (PTok.no, { s with pl := en, er := 170 }) := by unfold nextS; rw [if_pos h, h1]
theorem nextS_no {en : Int} {s : RSt} {k : Nat} {t : PTok} {r : List PTok} (h : s.er = 0) (h1 : s.ts = t :: r) (h2 : ¬ t.kind = k) : nextS en s k = (PTok.no, { s with pl := t.pos, er := 170 }) := by unfold nextS; rw [if_pos h, h1]; simp [h2]
theorem nextS_yes {en : Int} {s : RSt} {k : Nat} {t : PTok} {r : List PTok} (h : s.er = 0) (h1 : s.ts = t :: r) (h2 : t.kind = k) : nextS en s k = (t, { s with ts := r }) := by unfold nextS; rw [if_pos h, h1]; simp [h2]

theorem World.heap_alloc_lt' (w : World) (o : Obj) (k : Nat) (h : k < w.heap.size) : (w.alloc o).heap[k]? = w.heap[k]? := (World.grownBy_alloc w o none).block k h (by simp)
theorem next_blk (w : World) (p : Addr) (v : Value) (o : Array Value) (t : TypeId) : (((w.setCell p v).alloc (.cells o t)).alloc (.cells o t)).heap[w.heap.size]? = some (.cells o t (0, 0)) := by
  have h : ((w.setCell p v).alloc (.cells o t)).heap[(w.setCell p v).heap.size]? = some (.cells o t (0, 0)) := heap_alloc_new _ _
  rw [World.size_setCell] at h
  exact (World.heap_alloc_lt' _ _ _ (by simp)).trans h
theorem next_step (rb B : Nat) (en : Int) (s : RSt) (v v' : Value) (r : List PTok) (w : World) (o : Obj) (hB : B ≤ rb) (hb : w.heap[rb]? = some (.cells #[v, .int .i64 en, .int .i64 s.pl, .int .i64 s.er] 67 (0, 0)))
    (hp : PRow w B v' r) : RdAt (((w.setCell ⟨rb, 0, none⟩ v').alloc o).alloc o) rb B en ⟨r, s.pl, s.er⟩ ∧ w.grownBy (((w.setCell ⟨rb, 0, none⟩ v').alloc o).alloc o) (some rb) := by
  have k0 := heap_set w rb 0 _ _ _ v' hb
  have hR : RdAt (w.setCell ⟨rb, 0, none⟩ v') rb B en ⟨r, s.pl, s.er⟩ := ⟨hB, v', hp.keep fun g hg _ => by rw [Below.heap_setCell _ _ _ _ (by simp; omega)], k0⟩
  exact ⟨(hR.alloc o).alloc o, grown_trans (grown_trans (grown_setCell w ⟨rb, 0, none⟩ v') (World.grownBy_alloc _ o _)) (World.grownBy_alloc _ o _)⟩

/-- what next hands back -/
def NextPost (rb B : Nat) (en : Int) (r : PTok × RSt) (w : World) (e : Ending) (w' : World) : Prop :=
  e = .returned r.1.val ∧ RdAt w' rb B en r.2 ∧ w.grownBy w' (some rb)

set_option maxHeartbeats 1000000 in
theorem next_any (rb B : Nat) (en : Int) (s : RSt) (k : Nat) (w : World) (h : RdAt w rb B en s) :
    Calls Tryz.prog 56 #[.pointer (some ⟨rb, 0, none⟩), .int .u8 k] w (NextPost rb B en (nextS en s k) w) := by
  have hR := h
  have hlt := h.lt
  obtain ⟨hB, v, hp, hb⟩ := h
  have c0 := (cell_of_row w rb 0 _ _ _ hb)
  have c1 := (cell_of_row w rb 1 _ _ _ hb)
  have c2 := (cell_of_row w rb 2 _ _ _ hb)
  have c3 := (cell_of_row w rb 3 _ _ _ hb)
  simp at c0 c1 c2 c3
  by_cases h0 : s.er = 0
  · have e0 : ((s.er : Int) != 0) = false := by rw [h0]; rfl
    obtain ⟨A, c, rfl, hlc, hx⟩ := hp
    rcases hts : s.ts with _ | ⟨t, r⟩
    · rw [nextS_nil h0 hts]
      have hl0 : s.ts.length = 0 := by rw [hts]; rfl
      rw [hl0] at c0 
      clear hx c2
      go_enter Tryz.func56, Tryz.ntmps56
      go_wp2_with fail
      refine (fails_any rb B en s _ _ _ (hR.alloc _)).mono ?_
      rintro e w1 ⟨rfl, h1, g1⟩
      have hf : s.fail en 170 = { ts := [], pl := en, er := 170 } := by unfold RSt.fail; rw [if_pos h0, hts]
      rw [hf] at h1
      have h1 : RdAt w1 rb B en { ts := s.ts, pl := en, er := 170 } := by rw [hts]; exact h1
      have hk : w1.heap[w.heap.size]? = _ := (g1.block w.heap.size (by simp) (by simp; omega)).trans (heap_alloc_new w _)
      have F0 := not_frozen hk 0
      have F1 := not_frozen hk 1
      have F2 := not_frozen hk 2
      have C0 := (cell_of_row w1 w.heap.size 0 _ _ _ hk).trans rfl
      have C1 := (cell_of_row w1 w.heap.size 1 _ _ _ hk).trans rfl
      have C2 := (cell_of_row w1 w.heap.size 2 _ _ _ hk).trans rfl
      go_wp2
      have k0 := heap_set w1 w.heap.size 0 _ _ _ (.int .u8 0) hk
      have k1 := heap_set _ w.heap.size 1 _ _ _ (.int .i64 0) k0
      have k2 := heap_set _ w.heap.size 2 _ _ _ (.string ⟨#[]⟩) k1
      refine bodyPost_ret (results_cell_row (ty := 27) (p := 4) rfl _ _ _ _ _ _ _ rfl k2 Tryz.underlying27 rfl (by kernel_rfl)) rfl ?_
      have hsz : rb < w.heap.size := hlt
      have hgs : w1.grownBy _ (some w.heap.size) := grown_trans (grown_trans (grown_setCell w1 ⟨w.heap.size, 0, none⟩ (.int .u8 0)) (grown_setCell _ ⟨w.heap.size, 1, none⟩ (.int .i64 0))) (grown_setCell _ ⟨w.heap.size, 2, none⟩ (.string ⟨#[]⟩))
      exact ⟨rfl, h1.kept hgs fun q e => by injection e with e; omega, grown_into (grown_trans (World.grownBy_alloc w _ _) g1) hgs⟩
    · have hl0 : s.ts.length = r.length + 1 := by rw [hts]; rfl
      obtain ⟨g, off, rfl, hg, hcell⟩ := hx (by rw [hts]; simp)
      rw [hts, pcells_cons] at hcell
      have q0 := hcell 0 _ rfl
      rw [Nat.add_zero] at q0
      have hgs : g < w.heap.size := by omega
      have q1 := hcell 1 _ rfl
      have q2 := hcell 2 _ rfl
      have n0 : ((s.ts.length : Int) == 0) = false := by rw [beq_eq_false_iff_ne]; omega
      have n1 : 0 < s.ts.length := by omega
      by_cases hkk : t.kind = k
      · rw [nextS_yes h0 hts hkk]
        subst hkk
        have ek : ((t.kind : Int) != t.kind) = false := by simp
        have hc1 : 1 ≤ c := by omega
        have f0 := not_frozen hb 0
        clear c2
        have hcell := Lib.hid hcell
        go_enter Tryz.func56, Tryz.ntmps56
        go_wp2
        all_goals refine bodyPost_ret (results_cell_row (ty := 27) (p := 4) rfl _ _ w.heap.size _ #[.int .u8 t.kind, .int .i64 t.pos, .string t.text] (0, 0) _ rfl (by first | exact next_blk _ _ _ _ _) Tryz.underlying27 rfl (by kernel_rfl)) rfl ?_
        · have hr0 : r = [] := List.eq_nil_of_length_eq_zero (by omega)
          have hn := fun (v' : Value) (hp : PRow w B v' r) => next_step rb B en s _ v' r w (.cells #[.int .u8 t.kind, .int .i64 t.pos, .string t.text] 27) hB hb hp
          rw [h0] at hn
          exact ⟨rfl, hn _ ⟨_, _, rfl, by omega, fun hr => absurd hr0 hr⟩⟩
        · have hn := fun (v' : Value) (hp : PRow w B v' r) => next_step rb B en s _ v' r w (.cells #[.int .u8 t.kind, .int .i64 t.pos, .string t.text] 27) hB hb hp
          rw [h0] at hn
          exact ⟨rfl, hn _ ⟨_, _, rfl, by omega, fun hr => ⟨g, off + 3, rfl, hg, fun j u hu => by
            rw [Nat.add_assoc]
            exact hcell.out (3 + j) u (by rw [List.getElem?_append_right (by simp [PTok.cells])]; simpa [PTok.cells] using hu)⟩⟩⟩
      · rw [nextS_no h0 hts hkk]
        have ek : ((t.kind : Int) != k) = true := by simp; omega
        go_enter Tryz.func56, Tryz.ntmps56
        go_wp2_with fail
        refine (fails_any rb B en s _ _ _ (hR.alloc _)).mono ?_
        rintro e w1 ⟨rfl, h1, g1⟩
        have hf : s.fail t.pos 170 = { ts := s.ts, pl := t.pos, er := 170 } := by unfold RSt.fail; rw [if_pos h0]
        rw [hf] at h1
        have hk : w1.heap[w.heap.size]? = _ := (g1.block w.heap.size (by simp) (by simp; omega)).trans (heap_alloc_new w _)
        have F0 := not_frozen hk 0
        have F1 := not_frozen hk 1
        have F2 := not_frozen hk 2
        have C0 := (cell_of_row w1 w.heap.size 0 _ _ _ hk).trans rfl
        have C1 := (cell_of_row w1 w.heap.size 1 _ _ _ hk).trans rfl
        have C2 := (cell_of_row w1 w.heap.size 2 _ _ _ hk).trans rfl
        go_wp2
        have k0 := heap_set w1 w.heap.size 0 _ _ _ (.int .u8 0) hk
        have k1 := heap_set _ w.heap.size 1 _ _ _ (.int .i64 0) k0
        have k2 := heap_set _ w.heap.size 2 _ _ _ (.string ⟨#[]⟩) k1
        refine bodyPost_ret (results_cell_row (ty := 27) (p := 4) rfl _ _ _ _ _ _ _ rfl k2 Tryz.underlying27 rfl (by kernel_rfl)) rfl ?_
        have hsz : rb < w.heap.size := hlt
        have hgs : w1.grownBy _ (some w.heap.size) := grown_trans (grown_trans (grown_setCell w1 ⟨w.heap.size, 0, none⟩ (.int .u8 0)) (grown_setCell _ ⟨w.heap.size, 1, none⟩ (.int .i64 0))) (grown_setCell _ ⟨w.heap.size, 2, none⟩ (.string ⟨#[]⟩))
        exact ⟨rfl, h1.kept hgs fun q e => by injection e with e; omega, grown_into (grown_trans (World.grownBy_alloc w _ _) g1) hgs⟩
  · have e0 : ((s.er : Int) != 0) = true := by simp; omega
    rw [nextS_er h0]
    clear c0 c1 c2
    go_enter Tryz.func56, Tryz.ntmps56
    go_wp2
    refine bodyPost_ret (results_cell_row (ty := 27) (p := 4) rfl _ _ _ _ _ _ _ rfl (heap_alloc_new w _) Tryz.underlying27 rfl (by kernel_rfl)) rfl ?_
    exact ⟨rfl, hR.alloc _, World.grownBy_alloc w _ _⟩

end Go.Proofs.YtcbgkbidgpemfaaGreatDoor.parw
