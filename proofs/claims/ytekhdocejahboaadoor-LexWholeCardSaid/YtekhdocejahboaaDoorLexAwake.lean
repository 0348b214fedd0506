/- The walk of the statements' awake: the chapter's examples hold. No conditions. -/
import Derived.Test.YtekhdocejahboaaDoorLexSame
namespace Go.Proofs.YtekhdocejahboaaDoor.lexw
open Go.RowKit
open Go.Proofs.YtekhdocejahboaaDoor.lexm
attribute [local go_sem] guardTok

theorem same_eq (w : World) (B : Nat) (v u : Value) (ts : List Tok) (hv : Toks w B v ts) (hu : Toks w B u ts) (h1 : ts.length ≤ 4611686018427387904) :
    Calls Tryd.prog 9 #[v, u] w fun e w' => e = .returned (.bool true) ∧ ∃ n, w' = w.drewN n :=
  (same_any w B v u ts ts hv hu h1 h1).mono fun _ _ ⟨he, hw⟩ => ⟨by rw [he, decide_eq_true rfl], hw⟩

def T1 : List Tok := [⟨1, 0, [97]⟩, ⟨3, 2, [61]⟩, ⟨2, 4, [49]⟩, ⟨4, 9, []⟩]
def T2 : List Tok := [⟨2, 0, [45, 46, 53, 101, 43, 51]⟩, ⟨4, 6, []⟩]
def T5 : List Tok := [⟨4, 2, [10]⟩]

/-- what Lex hands back, written with Toks -/
def LexAns (w : World) (ts : List Tok) (i er : Nat) (e : Ending) (w' : World) : Prop :=
  ∃ v, e = .returned (.tuple #[v, .int .i64 i, .int .i64 er]) ∧ Toks w' w'.heap.size v ts ∧ Below w.heap.size w w'
theorem lex_ans (s : ByteArray) (hs : s.size ≤ maxLen) (ts : List Tok) (i er : Nat) (h : lexRes s.data.toList = (ts, i, er)) (w : World) : Calls Tryd.prog 5 #[.string s] w (LexAns w ts i er) :=
  (lex_any s hs w).mono fun e w' ⟨v, he, hown, hB⟩ => by
    rw [h] at he hown
    exact ⟨v, he, Toks.of_own hown, hB⟩

theorem lex1 (w : World) : Calls Tryd.prog 5 #[.string ⟨#[97, 32, 61, 32, 49, 32, 35, 32, 120]⟩] w (LexAns w T1 0 0) := lex_ans _ (by decide) _ _ _ (by decide +kernel) w
theorem lex2 (w : World) : Calls Tryd.prog 5 #[.string ⟨#[45, 46, 53, 101, 43, 51]⟩] w (LexAns w T2 0 0) := lex_ans _ (by decide) _ _ _ (by decide +kernel) w
theorem lex3 (w : World) : Calls Tryd.prog 5 #[.string ⟨#[97, 36]⟩] w (LexAns w [] 1 150) := lex_ans _ (by decide) _ _ _ (by decide +kernel) w
theorem lex4 (w : World) : Calls Tryd.prog 5 #[.string ⟨#[]⟩] w (LexAns w [] 0 0) := lex_ans _ (by decide) _ _ _ (by decide +kernel) w
theorem lex5 (w : World) : Calls Tryd.prog 5 #[.string ⟨#[32, 32, 10]⟩] w (LexAns w T5 0 0) := lex_ans _ (by decide) _ _ _ (by decide +kernel) w

theorem Toks.of_cells (W : World) (cs : List Value) (ts : List Tok) (n : Nat) (hn : ts.length = n) (h : cs = cellsOf ts) : Toks (W.alloc (.cells cs.toArray 28)) (W.heap.size + 1) (.slice (some ⟨W.heap.size, 0, none⟩) n n) ts := by
  subst hn
  refine ⟨_, _, rfl, fun _ => ⟨_, _, rfl, by omega, fun j u hu => ?_⟩⟩
  have := (Blk.new W 28 cs.toArray).cell j
  rw [Nat.zero_add, this, h]
  simpa using hu

theorem below_drewN' {B : Nat} {a w : World} (h : Below B a w) (n : Nat) : Below B a (w.drewN n) := ⟨h.os, h.tape, h.output, h.size, h.block⟩

set_option maxRecDepth 100000 in
set_option maxHeartbeats 4000000 in
theorem awake_any (w : World) : Calls Tryd.prog 4 #[] w fun e w' => e = .returned (.bool true) ∧ Below w.heap.size w w' := by
  go_enter Tryd.func4, Tryd.ntmps4
  go_wp2_with fail
  refine (lex1 _).mono ?_
  rintro e w1 ⟨v1, rfl, k1, b1⟩
  go_wp2_with fail
  refine (lex2 _).mono ?_
  rintro e w2 ⟨v2, rfl, k2, b2⟩
  go_wp2_with fail
  refine (lex3 _).mono ?_
  rintro e w3 ⟨v3, rfl, k3, b3⟩
  go_wp2_with fail
  refine (lex4 _).mono ?_
  rintro e w4 ⟨v4, rfl, k4, b4⟩
  go_wp2_with fail
  refine (lex5 _).mono ?_
  rintro e w5 ⟨v5, rfl, k5, b5⟩
  have g1 := k1.below (((b2.trans (b3.mono b2.size)).trans (b4.mono (Nat.le_trans b2.size b3.size))).trans (b5.mono (Nat.le_trans b2.size (Nat.le_trans b3.size b4.size)))) (Nat.le_refl _)
  have g2 := k2.below (((b3).trans (b4.mono b3.size)).trans (b5.mono (Nat.le_trans b3.size b4.size))) (Nat.le_refl _)
  have hB : Below w.heap.size w w5 := (((b1.trans (b2.mono b1.size)).trans (b3.mono (Nat.le_trans b1.size b2.size))).trans (b4.mono (Nat.le_trans b1.size (Nat.le_trans b2.size b3.size)))).trans (b5.mono (Nat.le_trans b1.size (Nat.le_trans b2.size (Nat.le_trans b3.size b4.size))))
  have s15 : w1.heap.size ≤ w5.heap.size := Nat.le_trans b2.size (Nat.le_trans b3.size (Nat.le_trans b4.size b5.size))
  have s25 : w2.heap.size ≤ w5.heap.size := (Nat.le_trans b3.size (Nat.le_trans b4.size b5.size))
  obtain ⟨g, off, c2, hv2, q0, q1, q2⟩ := g2.at_ (i := 0) (by decide)
  obtain ⟨A4, c4, hv4, _⟩ := k4
  subst hv2 hv4
  have k6 := Toks.of_cells w5 [.int .u8 1, .int .i64 0, .string ⟨#[97]⟩, .int .u8 3, .int .i64 2, .string ⟨#[61]⟩, .int .u8 2, .int .i64 4, .string ⟨#[49]⟩, .int .u8 4, .int .i64 9, .string ⟨#[]⟩] T1 4 rfl rfl
  have al := World.cell?_alloc_lt
  have g1' : Toks (w5.alloc (.cells #[.int .u8 1, .int .i64 0, .string ⟨#[97]⟩, .int .u8 3, .int .i64 2, .string ⟨#[61]⟩, .int .u8 2, .int .i64 4, .string ⟨#[49]⟩, .int .u8 4, .int .i64 9, .string ⟨#[]⟩] 28)) (w5.heap.size + 1) v1 T1 :=
    Toks.mono (g1.below ((Below.refl w5.heap.size w5).alloc (Nat.le_refl _) _) s15) (by omega)
  go_wp2_with fail
  refine (same_eq _ (w5.heap.size + 1) _ _ T1 g1' k6 (by decide)).mono ?_
  rintro e w6 ⟨rfl, n6, rfl⟩
  have hg : g < w5.heap.size := by
    obtain ⟨A, c, hv, hc⟩ := g2
    obtain ⟨g', off', hA, hg, _⟩ := hc (by decide)
    injection hv with hv
    rw [hA] at hv
    injection hv with hv
    injection hv with hv
    omega
  have r0 : (w5.alloc (.cells #[.int .u8 1, .int .i64 0, .string ⟨#[97]⟩, .int .u8 3, .int .i64 2, .string ⟨#[61]⟩, .int .u8 2, .int .i64 4, .string ⟨#[49]⟩, .int .u8 4, .int .i64 9, .string ⟨#[]⟩] 28)).cell? ⟨g, off, none⟩ = some (.int .u8 2) := (World.cell?_alloc_lt _ _ _ hg).trans (by simpa [T2] using q0)
  have r1 : (w5.alloc (.cells #[.int .u8 1, .int .i64 0, .string ⟨#[97]⟩, .int .u8 3, .int .i64 2, .string ⟨#[61]⟩, .int .u8 2, .int .i64 4, .string ⟨#[49]⟩, .int .u8 4, .int .i64 9, .string ⟨#[]⟩] 28)).cell? ⟨g, off + 1, none⟩ = some (.int .i64 0) := (World.cell?_alloc_lt _ _ _ hg).trans (by simpa [T2] using q1)
  have r2 : (w5.alloc (.cells #[.int .u8 1, .int .i64 0, .string ⟨#[97]⟩, .int .u8 3, .int .i64 2, .string ⟨#[61]⟩, .int .u8 2, .int .i64 4, .string ⟨#[49]⟩, .int .u8 4, .int .i64 9, .string ⟨#[]⟩] 28)).cell? ⟨g, off + 2, none⟩ = some (.string ⟨#[45, 46, 53, 101, 43, 51]⟩) := (World.cell?_alloc_lt _ _ _ hg).trans (by simpa [T2] using q2)
  have hT2 : T2.length = 2 := rfl
  rw [hT2]
  clear q0 q1 q2 g2 k2 al hT2
  go_wp2_with fail
  have k7 := Toks.of_cells ((w5.alloc (.cells #[.int .u8 1, .int .i64 0, .string ⟨#[97]⟩, .int .u8 3, .int .i64 2, .string ⟨#[61]⟩, .int .u8 2, .int .i64 4, .string ⟨#[49]⟩, .int .u8 4, .int .i64 9, .string ⟨#[]⟩] 28)).drewN n6) [.int .u8 4, .int .i64 2, .string ⟨#[10]⟩] T5 1 rfl rfl
  have hB7 : Below w5.heap.size w5 (((w5.alloc (.cells #[.int .u8 1, .int .i64 0, .string ⟨#[97]⟩, .int .u8 3, .int .i64 2, .string ⟨#[61]⟩, .int .u8 2, .int .i64 4, .string ⟨#[49]⟩, .int .u8 4, .int .i64 9, .string ⟨#[]⟩] 28)).drewN n6).alloc (.cells #[.int .u8 4, .int .i64 2, .string ⟨#[10]⟩] 28)) :=
    (below_drewN' ((Below.refl w5.heap.size w5).alloc (Nat.le_refl _) _) n6).alloc (by simp) _
  have g5 := Toks.mono (B' := w5.heap.size + 1 + 1) (k5.below hB7 (Nat.le_refl _)) (by omega)
  have hz : ((w5.alloc (.cells #[.int .u8 1, .int .i64 0, .string ⟨#[97]⟩, .int .u8 3, .int .i64 2, .string ⟨#[61]⟩, .int .u8 2, .int .i64 4, .string ⟨#[49]⟩, .int .u8 4, .int .i64 9, .string ⟨#[]⟩] 28)).drewN n6).heap.size = w5.heap.size + 1 := by simp
  rw [hz] at k7
  have HZ := Lib.hid hz
  have H7 := Lib.hid hB7
  clear hz hB7
  refine (same_eq _ (w5.heap.size + 1 + 1) _ _ T5 g5 k7 (by decide)).mono ?_
  rintro e w7 ⟨rfl, n7, rfl⟩
  go_wp2_with fail
  go_ret
  exact ⟨rfl, below_drewN' (hB.trans (H7.out.mono hB.size)) n7⟩

end Go.Proofs.YtekhdocejahboaaDoor.lexw
