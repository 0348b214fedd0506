/- The walk of burnishlaw17.awake. Condition: three of strconv's variables hold what the program's text lays. -/
import Derived.Test.YtejmbbkklhpnaaaGreatDoorMb37
import Derived.Test.YtejmbbkklhpnaaaGreatDoorMb35
import Derived.Test.YtejmbbkklhpnaaaGreatDoorMb27
import Derived.Deep.Slices
import Derived.ChangeSame
import Derived.ChangeArms
import Derived.OpenShut
import Derived.WideShapes
namespace Go.Proofs.YtejmbbkklhpnaaaGreatDoor.awaw
open Go.RowKit
open Go.Proofs.YtejmbbkklhpnaaaGreatDoor.lexm
open Go.Proofs.YtejmbbkklhpnaaaGreatDoor.lexw
open Go.Proofs.YtejmbbkklhpnaaaGreatDoor.parw
open Go.Proofs.YtejmbbkklhpnaaaGreatDoor.flow

theorem ARead.mono {W : World} {B B' : Nat} {v : Value} {l : List PArg} (h : ARead W B v l) (hb : B ≤ B') : ARead W B' v l := by
  obtain ⟨A, c, hv, hx⟩ := h
  refine ⟨A, c, hv, fun h0 => ?_⟩
  obtain ⟨g, off, hA, hg, hcell⟩ := hx h0
  exact ⟨g, off, hA, by omega, hcell⟩
theorem SRead.mono {W : World} {B B' : Nat} {v : Value} {l : List PStmt} (h : SRead W B v l) (hb : B ≤ B') : SRead W B' v l := by
  obtain ⟨vs, A, c, hl, hv, hx, ha⟩ := h
  refine ⟨vs, A, c, hl, hv, fun h0 => ?_, fun i h1 h2 => ARead.mono (ha i h1 h2) hb⟩
  obtain ⟨g, off, hA, hg, hcell⟩ := hx h0
  exact ⟨g, off, hA, by omega, hcell⟩
/-- one statement, written out: its arguments' block, its own block -/
theorem one_read (w : World) (s : PStmt) (n : Nat) (hn : s.args.length = n) (ca cs : Array Value) (hca : ca = (acells s.args).toArray) (hcs : cs = (stCells s (.slice (some ⟨w.heap.size, 0, none⟩) n n)).toArray) :
    SRead ((w.alloc (.cells ca 40)).alloc (.cells cs 28)) (w.heap.size + 2) (.slice (some ⟨w.heap.size + 1, 0, none⟩) 1 1) [s] := by
  subst hn hca hcs
  have hsz : (w.alloc (.cells (acells s.args).toArray 40)).heap.size = w.heap.size + 1 := by simp
  refine ⟨[.slice (some ⟨w.heap.size, 0, none⟩) s.args.length s.args.length], _, _, rfl, rfl, fun _ => ⟨w.heap.size + 1, 0, rfl, by omega, fun j u hu => ?_⟩, fun i h1 h2 => ?_⟩
  · rw [cell_of_row _ (w.heap.size + 1) _ _ _ _ (heap_at _ _ _ hsz), Nat.zero_add]
    simpa [scells] using hu
  · have h0 : i = 0 := by simp at h2; omega
    subst h0
    refine ⟨_, _, rfl, fun _ => ⟨w.heap.size, 0, rfl, by omega, fun j u hu => ?_⟩⟩
    rw [cell_of_row _ w.heap.size _ _ _ _ ((World.heap_alloc_lt' _ _ _ (by rw [hsz]; omega)).trans (heap_alloc_new w _)), Nat.zero_add]
    simpa using hu

set_option maxRecDepth 100000 in
set_option maxHeartbeats 4000000 in
theorem awake_any (B : Nat) (w : World) (hw : Laid B w) (hB : B ≤ w.heap.size) : Calls Tryz.prog 7 #[] w fun e w' => e = .returned (.bool true) ∧ Below w.heap.size w w' := by
  have HW := Lib.hid hw
  have hc0 := of_0 B w hw hB
  clear hw
  go_enter Tryz.func7, Tryz.ntmps7
  go_wp2_with fail
  refine hc0.mono ?_
  rintro e w1 ⟨o, rfl, ho, hB1⟩
  have hs1 := hB1.size
  unfold res0 at ho ⊢
  simp only at ho ⊢
  go_wp2_with fail
  have hG1 : Laid B w1 := Laid.stable B w w1 none HW.out (grown_below hB1 none) (fun r e => by cases e)
  have hR2 := one_read w1 ⟨⟨#[97]⟩, 0, 1, [⟨12, 4602678819172646912, ⟨#[]⟩⟩, ⟨16, 4607182418800017408, ⟨#[]⟩⟩, ⟨18, 0, ⟨#[]⟩⟩]⟩ 3 rfl
    #[.int .i64 12, .float .f64 4602678819172646912, .string ⟨#[]⟩, .int .i64 16, .float .f64 4607182418800017408, .string ⟨#[]⟩, .int .i64 18, .float .f64 0, .string ⟨#[]⟩] #[.string ⟨#[97]⟩, .int .i64 0, .int .u8 1, .slice (some ⟨w1.heap.size, 0, none⟩) 3 3] rfl rfl
  have hg2 : w1.grownBy ((w1.alloc (.cells #[.int .i64 12, .float .f64 4602678819172646912, .string ⟨#[]⟩, .int .i64 16, .float .f64 4607182418800017408, .string ⟨#[]⟩, .int .i64 18, .float .f64 0, .string ⟨#[]⟩] 40)).alloc
    (.cells #[.string ⟨#[97]⟩, .int .i64 0, .int .u8 1, .slice (some ⟨w1.heap.size, 0, none⟩) 3 3] 28)) none := grown_trans (World.grownBy_alloc w1 _ _) (World.grownBy_alloc _ _ _)
  have hR1 := SRead.mono (ho.keep (fun g h _ => hg2.block g h (by simp))) (show w1.heap.size ≤ w1.heap.size + 2 by omega)
  have hG2 := Laid.stable B w1 _ none hG1 hg2 (fun r e => by cases e)
  refine (same17_eq (w1.heap.size + 2) o _ _ _ hR1 hR2 (by simp) (by simp) (by intro s hs; simp at hs; subst hs; simp)).mono ?_
  rintro e w2 ⟨rfl, hB2⟩
  have hG3 := Laid.stable B _ w2 none hG2 (grown_below hB2 none) (fun r e => by cases e)
  have hgw : w.grownBy w2 none := grown_trans (grown_below hB1 none) (grown_trans hg2 (grown_below hB2 none))
  have hw2 := hgw.size
  clear hR1 hR2 hg2 hG1 hG2 ho hB1 hB2
  have HGW := Lib.hid hgw
  clear hgw
  go_wp2_with fail
  go_loopw [36] (fun i wr => ∃ (k : Nat) (T : TypeId), k ≤ 5 ∧ i = .int .i64 k ∧ w2.grownBy wr none ∧ wr.heap[w2.heap.size]? = some (.cells #[.string ⟨#[97, 32, 61, 32, 103, 108, 97, 115, 115, 32, 49]⟩, .int .i64 4, .int .i64 171, .string ⟨#[97, 32, 108, 97, 109, 98, 101, 114, 116]⟩, .int .i64 2, .int .i64 170, .string ⟨#[97, 32, 61, 32, 109, 105, 120, 32, 48, 46, 53, 32, 98]⟩, .int .i64 13, .int .i64 170, .string ⟨#[97, 32, 61, 32, 112, 108, 97, 115, 116, 105, 99, 32, 49, 46, 46, 50, 32, 50]⟩, .int .i64 12, .int .i64 160, .string ⟨#[97, 32, 61, 32, 99, 111, 97, 116, 32, 49, 46, 53, 32, 49, 32, 49, 32, 49, 32, 49]⟩, .int .i64 19, .int .i64 170] T (0, 0)))
    (fun i _ => 5 - (intOf i).toNat)
  case atStart => exact ⟨0, _, by omega, rfl, World.grownBy_alloc w2 _ _, heap_alloc_new w2 _⟩
  case round =>
    obtain ⟨k, T, hk, rfl, hg, hb⟩ := hrel
    have hGr : Laid B wr := Laid.stable B _ wr none hG3 hg (fun r e => by cases e)
    have hbl : w2.heap.size < wr.heap.size := (Array.getElem?_eq_some_iff.1 hb).1
    have HB := Lib.hid hb
    have HG := Lib.hid hGr
    clear hb hGr
    have hk6 : k = 0 ∨ k = 1 ∨ k = 2 ∨ k = 3 ∨ k = 4 ∨ k = 5 := by omega
    rcases hk6 with rfl | rfl | rfl | rfl | rfl | rfl
    · have c0 := (cell_of_row wr w2.heap.size 0 _ _ _ HB.out).trans rfl
      have c1 := (cell_of_row wr w2.heap.size 1 _ _ _ HB.out).trans rfl
      have c2 := (cell_of_row wr w2.heap.size 2 _ _ _ HB.out).trans rfl
      go_wp2_with fail
      refine (of_1 B _ (Laid.stable B wr _ none HG.out (World.grownBy_alloc wr _ _) (fun r e => by cases e)) (by simp; omega)).mono ?_
      rintro e wx ⟨o', rfl, ho', hBx⟩
      obtain ⟨_, A', c', _, rfl, _, _⟩ := ho'
      have kt := (hBx.block wr.heap.size (by simp)).trans (heap_alloc_new wr _)
      have t1 := (cell_of_row wx wr.heap.size 1 _ _ _ kt).trans rfl
      have t2 := (cell_of_row wx wr.heap.size 2 _ _ _ kt).trans rfl
      have gx : wr.grownBy wx none := grown_trans (World.grownBy_alloc wr _ _) (grown_below hBx none)
      unfold res1
      simp only
      clear kt c0 c1 c2 hBx
      go_wp2_with fail
      go_roundw
      case rel => exact ⟨1, T, by omega, by go_num, grown_trans hg gx, (gx.block _ hbl (by simp)).trans HB.out⟩
      case measure => simp [intOf]
    · have c0 := (cell_of_row wr w2.heap.size 3 _ _ _ HB.out).trans rfl
      have c1 := (cell_of_row wr w2.heap.size 4 _ _ _ HB.out).trans rfl
      have c2 := (cell_of_row wr w2.heap.size 5 _ _ _ HB.out).trans rfl
      go_wp2_with fail
      refine (of_2 B _ (Laid.stable B wr _ none HG.out (World.grownBy_alloc wr _ _) (fun r e => by cases e)) (by simp; omega)).mono ?_
      rintro e wx ⟨o', rfl, ho', hBx⟩
      obtain ⟨_, A', c', _, rfl, _, _⟩ := ho'
      have kt := (hBx.block wr.heap.size (by simp)).trans (heap_alloc_new wr _)
      have t1 := (cell_of_row wx wr.heap.size 1 _ _ _ kt).trans rfl
      have t2 := (cell_of_row wx wr.heap.size 2 _ _ _ kt).trans rfl
      have gx : wr.grownBy wx none := grown_trans (World.grownBy_alloc wr _ _) (grown_below hBx none)
      unfold res2
      simp only
      clear kt c0 c1 c2 hBx
      go_wp2_with fail
      go_roundw
      case rel => exact ⟨2, T, by omega, by go_num, grown_trans hg gx, (gx.block _ hbl (by simp)).trans HB.out⟩
      case measure => simp [intOf]
    · have c0 := (cell_of_row wr w2.heap.size 6 _ _ _ HB.out).trans rfl
      have c1 := (cell_of_row wr w2.heap.size 7 _ _ _ HB.out).trans rfl
      have c2 := (cell_of_row wr w2.heap.size 8 _ _ _ HB.out).trans rfl
      go_wp2_with fail
      refine (of_3 B _ (Laid.stable B wr _ none HG.out (World.grownBy_alloc wr _ _) (fun r e => by cases e)) (by simp; omega)).mono ?_
      rintro e wx ⟨o', rfl, ho', hBx⟩
      obtain ⟨_, A', c', _, rfl, _, _⟩ := ho'
      have kt := (hBx.block wr.heap.size (by simp)).trans (heap_alloc_new wr _)
      have t1 := (cell_of_row wx wr.heap.size 1 _ _ _ kt).trans rfl
      have t2 := (cell_of_row wx wr.heap.size 2 _ _ _ kt).trans rfl
      have gx : wr.grownBy wx none := grown_trans (World.grownBy_alloc wr _ _) (grown_below hBx none)
      unfold res3
      simp only
      clear kt c0 c1 c2 hBx
      go_wp2_with fail
      go_roundw
      case rel => exact ⟨3, T, by omega, by go_num, grown_trans hg gx, (gx.block _ hbl (by simp)).trans HB.out⟩
      case measure => simp [intOf]
    · have c0 := (cell_of_row wr w2.heap.size 9 _ _ _ HB.out).trans rfl
      have c1 := (cell_of_row wr w2.heap.size 10 _ _ _ HB.out).trans rfl
      have c2 := (cell_of_row wr w2.heap.size 11 _ _ _ HB.out).trans rfl
      go_wp2_with fail
      refine (of_4 B _ (Laid.stable B wr _ none HG.out (World.grownBy_alloc wr _ _) (fun r e => by cases e)) (by simp; omega)).mono ?_
      rintro e wx ⟨o', rfl, ho', hBx⟩
      obtain ⟨_, A', c', _, rfl, _, _⟩ := ho'
      have kt := (hBx.block wr.heap.size (by simp)).trans (heap_alloc_new wr _)
      have t1 := (cell_of_row wx wr.heap.size 1 _ _ _ kt).trans rfl
      have t2 := (cell_of_row wx wr.heap.size 2 _ _ _ kt).trans rfl
      have gx : wr.grownBy wx none := grown_trans (World.grownBy_alloc wr _ _) (grown_below hBx none)
      unfold res4
      simp only
      clear kt c0 c1 c2 hBx
      go_wp2_with fail
      go_roundw
      case rel => exact ⟨4, T, by omega, by go_num, grown_trans hg gx, (gx.block _ hbl (by simp)).trans HB.out⟩
      case measure => simp [intOf]
    · have c0 := (cell_of_row wr w2.heap.size 12 _ _ _ HB.out).trans rfl
      have c1 := (cell_of_row wr w2.heap.size 13 _ _ _ HB.out).trans rfl
      have c2 := (cell_of_row wr w2.heap.size 14 _ _ _ HB.out).trans rfl
      go_wp2_with fail
      refine (of_5 B _ (Laid.stable B wr _ none HG.out (World.grownBy_alloc wr _ _) (fun r e => by cases e)) (by simp; omega)).mono ?_
      rintro e wx ⟨o', rfl, ho', hBx⟩
      obtain ⟨_, A', c', _, rfl, _, _⟩ := ho'
      have kt := (hBx.block wr.heap.size (by simp)).trans (heap_alloc_new wr _)
      have t1 := (cell_of_row wx wr.heap.size 1 _ _ _ kt).trans rfl
      have t2 := (cell_of_row wx wr.heap.size 2 _ _ _ kt).trans rfl
      have gx : wr.grownBy wx none := grown_trans (World.grownBy_alloc wr _ _) (grown_below hBx none)
      unfold res5
      simp only
      clear kt c0 c1 c2 hBx
      go_wp2_with fail
      go_roundw
      case rel => exact ⟨5, T, by omega, by go_num, grown_trans hg gx, (gx.block _ hbl (by simp)).trans HB.out⟩
      case measure => simp [intOf]
    · go_wp2_with fail
      go_ret
      exact ⟨rfl, below_of_grown (grown_trans HGW.out hg)⟩

end Go.Proofs.YtejmbbkklhpnaaaGreatDoor.awaw

/- burnishlaw17.ParseBack: the walk. Conditions: the statements lie in memory, their numbers are numbers; the library's tables hold what the row lists. -/
namespace Go.Proofs.YtejmbbkklhpnaaaGreatDoor.plw
open Go.RowKit
open Go.Proofs.YtejmbbkklhpnaaaGreatDoor.parw
open Go.Proofs.YtejmbbkklhpnaaaGreatDoor.bkp
open Go.Proofs.YtejmbbkklhpnaaaGreatDoor.pft (TArg tapp_run exec_tbs1)
open Go.Proofs.YtejmbbkklhpnaaaGreatDoor.prnw (Bel bA bA_list prT prOk prE prB print_b hiP loP Env)
open Go.Proofs.YtejmbbkklhpnaaaGreatDoor.flow (decE Laid dec_ok)

structure KL (B : Nat) (w u : World) : Prop where
  en : Env hiP loP u
  la : Laid B u
  lo : Below w.heap.size w u
theorem KL.on {B : Nat} {w u u' : World} (h : KL B w u) (hb : Below u.heap.size u u') : KL B w u' :=
  ⟨h.en.later hb, Laid.stable B u u' none h.la (parw.grown_below hb none) (fun r e => by cases e), h.lo.trans (hb.mono h.lo.size)⟩
/-! the tokens of a statement, parsed -/
theorem kind_word : ∀ k, 1 ≤ k → k ≤ 6 → kindF (prnw.wordF k) = k := by
  intro k h1 h2
  have : k = 1 ∨ k = 2 ∨ k = 3 ∨ k = 4 ∨ k = 5 ∨ k = 6 := by omega
  rcases this with rfl | rfl | rfl | rfl | rfl | rfl <;> decide +kernel
theorem args_back : ∀ (bs : List Bool) (l : List PArg), bs.length = l.length → argsFine bs l = true → (∀ a ∈ l, a.num < 18446744073709551616) → fitB decE bs (argToks bs l) ∧ argsOf decE bs (argToks bs l) = l
  | [], [], _, _, _ => ⟨trivial, rfl⟩
  | b :: bs, a :: l, hl, hf, hn => by
    unfold argsFine at hf
    rw [Bool.and_eq_true] at hf
    obtain ⟨h1, h2⟩ := args_back bs l (by simpa using hl) hf.2 (fun x hx => hn x (by simp [hx]))
    have ha := hf.1
    cases b with
    | true =>
      have ha' : prOk a.num = true ∧ a.name = ⟨#[]⟩ := by
        unfold argFine at ha
        simpa using ha
      have hd : decE (prB hiP loP a.num) = (a.num, 0) := by
        show rdf.decR (prB hiP loP a.num).data.toList = _
        unfold prB
        rw [bA_list]
        exact rdf.read_prT a.num (hn a (by simp)) ha'.1
      refine ⟨⟨rfl, fun _ => ?_, h1⟩, ?_⟩
      · show (decE (prB hiP loP a.num)).2 = 0
        rw [hd]
      · show (⟨a.pos, (decE (prB hiP loP a.num)).1, ⟨#[]⟩⟩ : PArg) :: argsOf decE bs (argToks bs l) = a :: l
        rw [hd, h2, ← ha'.2]
    | false =>
      have ha' : a.num = 0 := by
        unfold argFine at ha
        simpa using ha
      refine ⟨⟨rfl, (fun e => by cases e), h1⟩, ?_⟩
      show (⟨a.pos, 0, a.name⟩ : PArg) :: argsOf decE bs (argToks bs l) = a :: l
      rw [h2, ← ha']
theorem fine_parts {s : PStmt} (hf : fineS s = true) : 1 ≤ s.kind ∧ s.kind ≤ 6 ∧ (formL s.kind).length = s.args.length ∧ argsFine (formL s.kind) s.args = true := by
  unfold fineS at hf
  simp only [Bool.and_eq_true, decide_eq_true_eq] at hf
  exact ⟨hf.1.1.1, hf.1.1.2, hf.1.2.symm, hf.2⟩
def grpOf (bl : List PTok) (s : PStmt) : Grp := ⟨bl, ⟨1, s.pos, s.name⟩, ⟨3, s.pos, eqB⟩, ⟨1, s.pos, prnw.wordF s.kind⟩, argToks (formL s.kind) s.args, ⟨4, s.pos, ⟨#[]⟩⟩⟩
theorem grp_toks (bl : List PTok) (s : PStmt) : (grpOf bl s).toks = bl ++ stToks s := by
  unfold Grp.toks grpOf stToks headToks
  simp
theorem grp_ok (bl : List PTok) (hb : ∀ t ∈ bl, t.kind = 4) (s : PStmt) (hf : fineS s = true) (hn : ∀ a ∈ s.args, a.num < 18446744073709551616) : (grpOf bl s).Ok decE ∧ (grpOf bl s).st decE = s := by
  obtain ⟨h1, h2, h3, h4⟩ := fine_parts hf
  obtain ⟨a1, a2⟩ := args_back _ _ h3 h4 hn
  have hk : kindF (prnw.wordF s.kind) = s.kind := kind_word _ h1 h2
  refine ⟨⟨hb, rfl, rfl, rfl, ?_, ?_, rfl⟩, ?_⟩
  · show kindF (prnw.wordF s.kind) ≠ 0
    rw [hk]
    omega
  · show fitB decE (formL (kindF (prnw.wordF s.kind))) _
    rw [hk]
    exact a1
  · show (⟨s.name, s.pos, kindF (prnw.wordF s.kind), argsOf decE (formL (kindF (prnw.wordF s.kind))) (argToks (formL s.kind) s.args)⟩ : PStmt) = s
    rw [hk, a2]
/-! rows of statements -/
def endZ : PTok := ⟨4, 0, ⟨#[]⟩⟩
def blQ (ends : List Nat) (i : Nat) : Bool := decide (i < ends.length) && decide (ends.getD i 0 % 2 = 1)
def blS (ends : List Nat) (i : Nat) : List PTok := if blQ ends i = true then List.replicate (i % 3) endZ else []
def rowGs (ends : List Nat) (l : List PStmt) : Nat → List Grp
  | 0 => []
  | i + 1 => rowGs ends l i ++ (match l[i]? with | some s => [grpOf (blS ends i) s] | none => [])
def rowToks (ends : List Nat) (l : List PStmt) (i : Nat) : List PTok := (rowGs ends l i).flatMap Grp.toks
theorem rowToks_succ (ends : List Nat) (l : List PStmt) (i : Nat) (h : i < l.length) : rowToks ends l (i + 1) = rowToks ends l i ++ (blS ends i ++ stToks l[i]) := by
  unfold rowToks
  show ((rowGs ends l i ++ (match l[i]? with | some s => [grpOf (blS ends i) s] | none => [])).flatMap Grp.toks) = _
  rw [List.getElem?_eq_getElem h, List.flatMap_append]
  simp [grp_toks]
theorem row_all (ends : List Nat) (l : List PStmt) (hf : ∀ s ∈ l, fineS s = true) (hn : ∀ s ∈ l, ∀ a ∈ s.args, a.num < 18446744073709551616) : ∀ i, i ≤ l.length → (∀ g ∈ rowGs ends l i, g.Ok decE) ∧ (rowGs ends l i).map (Grp.st decE) = l.take i
  | 0, _ => ⟨(fun g hg => by cases hg), rfl⟩
  | i + 1, h => by
    obtain ⟨a1, a2⟩ := row_all ends l hf hn i (by omega)
    have hi : i < l.length := by omega
    have hb : ∀ t ∈ blS ends i, t.kind = 4 := fun t ht => by
      unfold blS at ht
      split at ht
      · rw [List.eq_of_mem_replicate ht]; rfl
      · cases ht
    obtain ⟨b1, b2⟩ := grp_ok (blS ends i) hb l[i] (hf _ (List.getElem_mem hi)) (hn _ (List.getElem_mem hi))
    have e : rowGs ends l (i + 1) = rowGs ends l i ++ [grpOf (blS ends i) l[i]] := by
      show rowGs ends l i ++ (match l[i]? with | some s => [grpOf (blS ends i) s] | none => []) = _
      rw [List.getElem?_eq_getElem hi]
    rw [e]
    refine ⟨fun g hg => ?_, ?_⟩
    · rcases List.mem_append.1 hg with hg | hg
      · exact a1 g hg
      · rw [List.mem_singleton.1 hg]; exact b1
    · rw [List.map_append, a2, List.map_cons, b2, List.map_nil, List.take_add_one, List.getElem?_eq_getElem hi]
      rfl
theorem row_parse (ends : List Nat) (l : List PStmt) (hf : ∀ s ∈ l, fineS s = true) (hn : ∀ s ∈ l, ∀ a ∈ s.args, a.num < 18446744073709551616) : parseRes decE (rowToks ends l l.length) = (l, 0, 0) := by
  obtain ⟨a1, a2⟩ := row_all ends l hf hn l.length (Nat.le_refl _)
  have := parse_gs (rowGs ends l l.length) a1
  rw [a2, List.take_length] at this
  exact this
theorem stToks_len (s : PStmt) (hf : fineS s = true) : (stToks s).length ≤ 12 := by
  obtain ⟨h1, h2, h3, -⟩ := fine_parts hf
  have h7 := (parw.form_len s.kind h2).2
  unfold stToks headToks
  rw [List.length_append, List.length_append, argToks_len _ _ h3]
  simp only [List.length_cons, List.length_nil]
  omega
theorem rowToks_len (ends : List Nat) (l : List PStmt) (hf : ∀ s ∈ l, fineS s = true) : ∀ i, i ≤ l.length → (rowToks ends l i).length ≤ 14 * i
  | 0, _ => Nat.zero_le _
  | i + 1, h => by
    have ih := rowToks_len ends l hf i (by omega)
    rw [rowToks_succ ends l i (by omega), List.length_append, List.length_append]
    have h2 := stToks_len l[i] (hf _ (List.getElem_mem _))
    have h3 : (blS ends i).length ≤ 2 := by
      unfold blS
      split
      · rw [List.length_replicate]; omega
      · exact Nat.zero_le _
    omega
/-- a statement's cells in a row -/
theorem st_at {W : World} {B : Nat} {A : Option Addr} {c : Nat} {l : List PStmt} (h : SRead W B (.slice A l.length c) l) (i : Nat) (hi : i < l.length) :
    ∃ g off v, A = some ⟨g, off, none⟩ ∧ g < B ∧ ARead W B v l[i].args ∧ W.cell? ⟨g, off + i * 4, none⟩ = some (.string l[i].name) ∧ W.cell? ⟨g, off + i * 4 + 1, none⟩ = some (.int .i64 l[i].pos) ∧ W.cell? ⟨g, off + i * 4 + 2, none⟩ = some (.int .u8 (l[i].kind : Nat)) ∧ W.cell? ⟨g, off + i * 4 + 3, none⟩ = some v := by
  obtain ⟨vs, A', c', hl, hv, hx, ha⟩ := h
  injection hv with e1 e2 e3
  subst e1
  have hi' : i < vs.length := by omega
  obtain ⟨g, off, hA, hg, hx⟩ := hx (by intro e; rw [e] at hi; simp at hi)
  have key := fun j (hj : j < 4) => scells_get l vs i j hi' hi hj hl
  refine ⟨g, off, vs[i], hA, hg, ha i hi' hi, ?_, ?_, ?_, ?_⟩
  · have := hx (i * 4 + 0) _ ((key 0 (by omega)).trans rfl)
    simpa using this
  · rw [Nat.add_assoc]; exact hx (i * 4 + 1) _ ((key 1 (by omega)).trans rfl)
  · rw [Nat.add_assoc]; exact hx (i * 4 + 2) _ ((key 2 (by omega)).trans rfl)
  · rw [Nat.add_assoc]; exact hx (i * 4 + 3) _ ((key 3 (by omega)).trans rfl)
/-- a slice of bytes that comes in -/
def BArg (W : World) (B : Nat) (v : Value) (l : List Nat) : Prop :=
  ∃ A c, v = .slice A l.length c ∧ (l ≠ [] → ∃ g off, A = some ⟨g, off, none⟩ ∧ g < B ∧ ∀ j x, l[j]? = some x → W.cell? ⟨g, off + j, none⟩ = some (.int .u8 (x : Nat)))
end Go.Proofs.YtejmbbkklhpnaaaGreatDoor.plw

/- burnishlaw17.ParseBack: the walk. Conditions: the statements lie in memory, their numbers are numbers; the library's tables hold what the row lists. -/
namespace Go.Proofs.YtejmbbkklhpnaaaGreatDoor.plw
open Go.RowKit
open Go.Proofs.YtejmbbkklhpnaaaGreatDoor.parw
open Go.Proofs.YtejmbbkklhpnaaaGreatDoor.bkp
open Go.Proofs.YtejmbbkklhpnaaaGreatDoor.bsw (wl_val)
open Go.Proofs.YtejmbbkklhpnaaaGreatDoor.pft (TArg tapp_run exec_tbs1)
open Go.Proofs.YtejmbbkklhpnaaaGreatDoor.prnw (Bel bA bA_list prT prOk prE prB print_b hiP loP Env)
open Go.Proofs.YtejmbbkklhpnaaaGreatDoor.flow (decE Laid dec_ok)

theorem row_take (ends : List Nat) (l : List PStmt) (n : Nat) : ∀ i, i ≤ n → rowToks ends (l.take n) i = rowToks ends l i := by
  intro i hi
  have key : ∀ i, i ≤ n → rowGs ends (l.take n) i = rowGs ends l i := by
    intro i
    induction i with
    | zero => intro _; rfl
    | succ i ih =>
      intro hi
      show rowGs ends (l.take n) i ++ _ = rowGs ends l i ++ _
      rw [ih (by omega), List.getElem?_take, if_pos (by omega)]
  unfold rowToks
  rw [key i hi]
theorem sr_up {W : World} {B B' : Nat} {v : Value} {l : List PStmt} (h : SRead W B v l) (hb : B ≤ B') : SRead W B' v l := by
  obtain ⟨vs, A, c, hl, hv, hx, ha⟩ := h
  refine ⟨vs, A, c, hl, hv, fun h0 => ?_, fun i h1 h2 => pft.aread_mono (ha i h1 h2) hb⟩
  obtain ⟨g, off, hA, hg, hcell⟩ := hx h0
  exact ⟨g, off, hA, by omega, hcell⟩
theorem sread_keep {W u : World} {B : Nat} {v : Value} {l : List PStmt} (h : SRead W B v l) (hb : Below W.heap.size W u) : SRead u B v l := h.keep fun g _ hg => hb.block g hg
/-- the tokens so far -/
def Own (w X : World) (o : Value) (ts : List PTok) : Prop := X.ownsRow w.heap.size 31 3 o ts.length (pcells ts)
theorem Own.below {w X Y : World} {o : Value} {ts : List PTok} (h : Own w X o ts) (hb : Below X.heap.size X Y) : Own w Y o ts := own_grown h (parw.grown_below hb none) (fun r e => by cases e)
theorem own_low {w X Y : World} {o : Value} {ts : List PTok} (h : Own w X o ts) (hl : Below w.heap.size w X) (hg : X.grownBy Y o.ownBlock) : Below w.heap.size w Y :=
  hl.trans ⟨hg.os, hg.tape, hg.output, by have := hl.size; have := hg.size; omega, fun i hi => hg.block i (Nat.lt_of_lt_of_le hi hl.size) (fun e => by have := own_base h e.symm; omega)⟩
theorem KL.grown {B : Nat} {w u u' : World} (h : KL B w u) (hB : B ≤ w.heap.size) (hE : Env hiP loP w) {o : Value} {ts : List PTok} (ho : Own w u o ts) (hg : u.grownBy u' o.ownBlock) : KL B w u' := by
  have hl := own_low ho h.lo hg
  exact ⟨hE.later hl, Laid.stable B u u' o.ownBlock h.la hg (fun r e => by have := own_base ho e; omega), hl⟩
theorem aread_grown {w X Y : World} {B : Nat} {v o : Value} {l : List PArg} {ts : List PTok} (h : ARead X B v l) (hB : B ≤ w.heap.size) (ho : Own w X o ts) (hg : X.grownBy Y o.ownBlock) : ARead Y B v l :=
  h.keep fun g hgB hgl => hg.block g hgl (fun e => by have := own_base ho e.symm; omega)
theorem cells_grown {w X Y : World} {o : Value} {ts : List PTok} {pb : Nat} {cs : Array Value} (h : X.heap[pb]? = some (.cells cs 28 (0, 0))) (ho : Own w X o ts) (hg : X.grownBy Y o.ownBlock) : Y.heap[pb]? = some (.cells cs 28 (0, 0)) :=
  (hg.block pb (Array.getElem?_eq_some_iff.1 h).1 (fun e => own_not_ty ho h (by decide) e.symm)).trans h
set_option maxRecDepth 100000 in
set_option maxHeartbeats 3000000 in
theorem back17 (B : Nat) (v v1 : Value) (l : List PStmt) (ends : List Nat) (hk : ∀ s ∈ l, s.kind < 256) (hnum : ∀ s ∈ l, ∀ a ∈ s.args, a.num < 18446744073709551616) (w : World) (hr : SRead w B v l) (he : BArg w B v1 ends) (h255 : ∀ x ∈ ends, x < 256) (hB : B ≤ w.heap.size) (hE : Env hiP loP w) (hL : Laid B w) :
    Calls Tryz.prog 3 #[v, v1] w (Bel w (.bool true)) := by
  obtain ⟨_, A, c, _, rfl, -, -⟩ := id hr
  obtain ⟨A1, c1, rfl, -⟩ := id he
  have K0 := Lib.hid (KL.mk hE hL (Below.refl w.heap.size w))
  have CA := Lib.hid (fun (u : World) (h : KL B w u) => show Calls Tryz.prog 7 #[] u (Bel u (.bool true)) from awaw.awake_any B u h.la (Nat.le_trans hB h.lo.size))
  obtain ⟨N, hN⟩ : ∃ N, N = l.length := ⟨_, rfl⟩
  obtain ⟨M, hM⟩ : ∃ M, M = ends.length := ⟨_, rfl⟩
  rw [← hN] at hr ⊢
  rw [← hM] at he ⊢
  by_cases h12 : 12 < N
  · have h12' : (12 : Int) < (N : Int) := by omega
    clear hr he hB hE hL hN hM hk hnum h255
    go_enter Tryz.func3, Tryz.ntmps3
    go_wp2_with (go_at_call 7; (with_reducible refine (CA.out _ K0.out).mono ?_); rintro e w1 ⟨rfl, hb1⟩)
    go_ret
    exact ⟨rfl, hb1⟩
  have h12' : ¬ (12 : Int) < (N : Int) := by omega
  have HX := Lib.hid (And.intro hr (And.intro he (And.intro hB (And.intro hE (And.intro hN (And.intro hM (And.intro hk (And.intro hnum h255))))))))
  clear hr he hB hE hL hN hM hk hnum h255
  go_enter Tryz.func3, Tryz.ntmps3
  go_wp2_with fail
  go_loopw [5, 17] (fun s5 s17 wr => ∃ i : Nat, i ≤ N ∧ s17 = .int .i64 (i : Nat) ∧ KL B w wr ∧ Own w wr s5 (rowToks ends l i) ∧ ∀ j (h : j < l.length), j < i → fineS l[j] = true) (fun _ s17 _ => N - (intOf s17).toNat)
  case atStart => exact ⟨0, Nat.zero_le _, rfl, K0.out, World.ownsRow_nil _ _ _ _, fun j _ h => absurd h (Nat.not_lt_zero _)⟩
  case round =>
    obtain ⟨i, hi, rfl, hK, ho, hall⟩ := hrel
    have i0 : (0 : Int) ≤ (i : Int) := by omega
    by_cases hiN : i < N
    · have d1 : (i : Int) < (N : Int) := by omega
      have hil : i < l.length := by have := HX.out.2.2.2.2.1; omega
      obtain ⟨g, off, va, hA, hg, har, e0, e1, e2, e3⟩ := st_at (HX.out.2.2.2.2.1 ▸ sread_keep HX.out.1 (show Below w.heap.size w wr from hK.lo)) i hil
      subst hA
      obtain ⟨s, hs⟩ : ∃ s, l[i] = s := ⟨_, rfl⟩
      rw [hs] at har e0 e1 e2
      have hs' : l[i]? = some s := by rw [List.getElem?_eq_getElem hil, hs]
      obtain ⟨Aa, ca, rfl, -⟩ := id har
      obtain ⟨na, hna⟩ : ∃ na, s.args.length = na := ⟨_, rfl⟩
      rw [hna] at har e3
      have hnums := HX.out.2.2.2.2.2.2.2.1 s (List.mem_of_getElem? hs')
      have hks := HX.out.2.2.2.2.2.2.1 s (List.mem_of_getElem? hs')
      obtain ⟨X, hX⟩ : ∃ X, X = wr.alloc (.cells #[.string s.name, .int .i64 s.pos, .int .u8 (s.kind : Nat), .slice Aa na ca] 28) := ⟨_, rfl⟩
      have hBX : Below wr.heap.size wr X := by rw [hX]; exact (Below.refl _ _).alloc (Nat.le_refl _) _
      have hbX : X.heap[wr.heap.size]? = some (.cells #[.string s.name, .int .i64 s.pos, .int .u8 (s.kind : Nat), .slice Aa na ca] 28 (0, 0)) := by rw [hX]; exact heap_alloc_new wr _
      have HKX := Lib.hid (hK.on hBX)
      have HOX := Lib.hid (ho.below hBX)
      have HAX := Lib.hid (har.keep (W' := X) fun g _ hg => hBX.block g hg)
      have HJ := Lib.hid (And.intro hall (And.intro hs' (And.intro hnums hks)))
      clear hK ho hall hs hs' har hil hnums hks hBX hna
      go_upto_region 7 with fail
      rw [← hX]
      obtain ⟨pb, hpb⟩ : ∃ pb, pb = wr.heap.size := ⟨_, rfl⟩
      rw [← hpb] at hbX ⊢
      clear hpb hX e0 e1 e2 e3
      have HBX := Lib.hid hbX
      have k0 := (cell_of_row X pb 0 _ _ _ hbX).trans rfl
      have k1 := (cell_of_row X pb 1 _ _ _ hbX).trans rfl
      have k2 := (cell_of_row X pb 2 _ _ _ hbX).trans rfl
      have k3 := (cell_of_row X pb 3 _ _ _ hbX).trans rfl
      have CF := Lib.hid (show Calls Tryz.prog 8 #[.agg #[.string s.name, .int .i64 s.pos, .int .u8 (s.kind : Nat), .slice Aa na ca]] X (Bel X (.bool (fineS s))) from fine_any B s HJ.out.2.2.2 HJ.out.2.2.1 _ X HAX.out (Nat.le_trans HX.out.2.2.1 HKX.out.lo.size) HKX.out.en)
      clear hbX
      cases hf : fineS s with
      | false =>
        rw [hf] at CF
        go_wp2_with (first
          | (go_at_call 8; (with_reducible refine CF.out.mono ?_); rintro e w2 ⟨rfl, hb2⟩; have K2 := Lib.hid (HKX.out.on hb2); clear hb2)
          | (go_at_call 7; (with_reducible refine (CA.out _ K2.out).mono ?_); rintro e w3 ⟨rfl, hb3⟩; have K3 := Lib.hid (K2.out.on hb3); clear hb3))
        go_ret
        exact ⟨rfl, K3.out.lo⟩
      | true =>
        rw [hf] at CF
        obtain ⟨r, hr3⟩ : ∃ r, i % 3 = r := ⟨_, rfl⟩
        have hrm : Int.tmod (i : Int) 3 = (r : Int) := by rw [← hr3]; rfl
        obtain ⟨q, hq⟩ : ∃ q, blQ ends i = q := ⟨_, rfl⟩
        have hcond : (¬ i < M ∧ q = false) ∨ (∃ ge oe x, i < M ∧ A1 = some ⟨ge, oe, none⟩ ∧ ge < B ∧ w.cell? ⟨ge, oe + i, none⟩ = some (.int .u8 (x : Nat)) ∧ (q = decide (x % 2 = 1))) := by
          rw [← hq]
          unfold blQ
          by_cases hiM : i < M
          · right
            have hiE : i < ends.length := by have := HX.out.2.2.2.2.2.1; omega
            obtain ⟨A', c', hv, hx⟩ := HX.out.2.1
            injection hv with z1 z2 z3
            subst z1
            obtain ⟨ge, oe, hA', hge, hcell⟩ := hx (by intro e; rw [e] at hiE; simp at hiE)
            refine ⟨ge, oe, ends[i], hiM, hA', hge, hcell i _ (List.getElem?_eq_getElem hiE), ?_⟩
            rw [decide_eq_true hiE, Bool.true_and, List.getD_eq_getElem?_getD, List.getElem?_eq_getElem hiE]
            rfl
          · left
            have hiE : ¬ i < ends.length := by have := HX.out.2.2.2.2.2.1; omega
            exact ⟨hiM, by rw [decide_eq_false hiE]; rfl⟩
        have HQ := Lib.hid (And.intro hcond (And.intro hq hr3))
        clear hcond hq hr3
        go_wp2_with (go_at_call 8; (with_reducible refine CF.out.mono ?_); rintro e w2 ⟨rfl, hb2⟩; have B2 := Lib.hid hb2; clear hb2)
        have hr2 : r ≤ 2 := by have := HQ.out.2.2; omega
        clear k0 k1 k2 k3
        go_loopw [5, 28] (fun t5 t28 wz => ∃ m : Nat, m ≤ r ∧ t28 = .int .i64 (m : Nat) ∧ KL B w wz ∧ Own w wz t5 (rowToks ends l i ++ if q = true then List.replicate m endZ else []) ∧ wz.heap[pb]? = some (.cells #[.string s.name, .int .i64 s.pos, .int .u8 (s.kind : Nat), .slice Aa na ca] 28 (0, 0)) ∧ ARead wz B (.slice Aa na ca) s.args) (fun _ t28 _ => r - (intOf t28).toNat)
        case atStart =>
          have hb2 := B2.out
          refine ⟨0, Nat.zero_le _, rfl, HKX.out.on hb2, ?_, (hb2.block _ (Array.getElem?_eq_some_iff.1 HBX.out).1).trans HBX.out, HAX.out.keep fun g _ hg => hb2.block g hg⟩
          have e : (rowToks ends l i ++ if q = true then List.replicate 0 endZ else []) = rowToks ends l i := by split <;> simp
          rw [e]
          exact HOX.out.below hb2
        case round =>
          obtain ⟨m, hm, rfl, hK, ho, hbz, haz⟩ := hrel
          have m0 : (0 : Int) ≤ (m : Int) := by omega
          by_cases hmr : m < r
          · have dm : (m : Int) < (r : Int) := by omega
            have HZ := Lib.hid (And.intro hK (And.intro ho (And.intro hbz haz)))
            have hlen : (rowToks ends l i ++ if q = true then List.replicate m endZ else []).length ≤ 900000 := by
              have h1 : (rowToks ends l i).length ≤ 14 * i := by
                have := rowToks_len ends (l.take i) (fun x hx => by
                  obtain ⟨j, hj, rfl⟩ := List.getElem_of_mem hx
                  rw [List.length_take] at hj
                  rw [List.getElem_take]
                  exact HJ.out.1 j (by omega) (by omega)) i (by rw [List.length_take]; have := HX.out.2.2.2.2.1; omega)
                rwa [show rowToks ends (l.take i) i = rowToks ends l i from row_take ends l i i (Nat.le_refl _)] at this
              rw [List.length_append]
              have h2 : (if q = true then List.replicate m endZ else []).length ≤ 2 := by
                split
                · rw [List.length_replicate]; omega
                · exact Nat.zero_le _
              omega
            have HLN := Lib.hid hlen
            clear hlen
            rcases HQ.out.1 with ⟨hiM, rfl⟩ | ⟨ge, oe, x, hiM, rfl, hge, hcx, hqx⟩
            · have dM : ¬ (i : Int) < (M : Int) := by omega
              clear hK ho hbz haz
              go_wp2_with fail
              go_roundw
              case rel => exact ⟨m + 1, by omega, by go_num, HZ.out.1, HZ.out.2.1, HZ.out.2.2.1, HZ.out.2.2.2⟩
              case measure => simp [intOf]; omega
            · have dM : (i : Int) < (M : Int) := by omega
              have cz : wr.cell? ⟨ge, oe + i, none⟩ = some (.int .u8 (x : Nat)) := (hK.lo.cell (p := ⟨ge, oe + i, none⟩) (Nat.lt_of_lt_of_le hge HX.out.2.2.1)).trans hcx
              obtain ⟨z, hz⟩ : ∃ z, x % 2 = z := ⟨_, rfl⟩
              have hzt : Int.tmod (x : Int) 2 = (z : Int) := by rw [← hz]; rfl
              rw [hz] at hqx
              clear hK ho hbz haz hz hcx
              by_cases hz1 : z = 1
              · subst hz1
                rw [decide_eq_true rfl] at hqx
                subst hqx
                obtain ⟨v7, w7, hrun7, ho7, hg7⟩ := tok_app HZ.out.2.1 HLN.out HZ.out.1.lo.size endZ
                have HG7 := Lib.hid (And.intro ho7 hg7)
                clear ho7 hg7
                go_wp2_with ((with_reducible refine wl_here ?_); (refine wl_val rfl v7 (hrun7 _ _ (.tmp 42) (.tmp 44) rfl rfl rfl) ?_); (simp only [Act.put, List.setIfInBounds_toArray, List.set_cons_succ, List.set_cons_zero]))
                go_roundw
                case rel =>
                  refine ⟨m + 1, by omega, by go_num, HZ.out.1.grown HX.out.2.2.1 HX.out.2.2.2.1 HZ.out.2.1 HG7.out.2, ?_, cells_grown HZ.out.2.2.1 HZ.out.2.1 HG7.out.2, aread_grown HZ.out.2.2.2 HX.out.2.2.1 HZ.out.2.1 HG7.out.2⟩
                  have e : rowToks ends l i ++ List.replicate (m + 1) endZ = (rowToks ends l i ++ List.replicate m endZ) ++ [endZ] := by
                    rw [List.append_assoc, List.replicate_succ']
                  rw [e]
                  exact HG7.out.1
                case measure => simp [intOf]; omega
              · have hz0 : ((z : Int) == 1) = false := by rw [beq_eq_false_iff_ne]; omega
                rw [decide_eq_false hz1] at hqx
                subst hqx
                go_wp2_with fail
                go_roundw
                case rel => exact ⟨m + 1, by omega, by go_num, HZ.out.1, HZ.out.2.1, HZ.out.2.2.1, HZ.out.2.2.2⟩
                case measure => simp [intOf]; omega
          · obtain rfl : m = r := by omega
            have hil : i < l.length := by have := HX.out.2.2.2.2.1; omega
            have hsl : l[i] = s := by have := HJ.out.2.1; rw [List.getElem?_eq_getElem hil] at this; exact Option.some.inj this
            have hblS : (if q = true then List.replicate m endZ else []) = blS ends i := by
              unfold blS
              rw [HQ.out.2.1, HQ.out.2.2]
            rw [hblS] at ho
            have k0 := (cell_of_row wr pb 0 _ _ _ hbz).trans rfl
            have k1 := (cell_of_row wr pb 1 _ _ _ hbz).trans rfl
            have k2 := (cell_of_row wr pb 2 _ _ _ hbz).trans rfl
            have k3 := (cell_of_row wr pb 3 _ _ _ hbz).trans rfl
            have CT : Calls Tryz.prog 9 #[.agg #[.string s.name, .int .i64 s.pos, .int .u8 (s.kind : Nat), .slice Aa na ca]] wr (TkPost wr (stToks s)) := tokens_any B s hf HJ.out.2.2.1 _ wr haz (Nat.le_trans HX.out.2.2.1 hK.lo.size) hK.en
            have h1 : (rowToks ends l i).length ≤ 14 * i := by
              have := rowToks_len ends (l.take i) (fun x hx => by
                obtain ⟨j, hj, rfl⟩ := List.getElem_of_mem hx
                rw [List.length_take] at hj
                rw [List.getElem_take]
                exact HJ.out.1 j (by omega) (by omega)) i (by rw [List.length_take]; omega)
              rwa [show rowToks ends (l.take i) i = rowToks ends l i from row_take ends l i i (Nat.le_refl _)] at this
            have h2 := stToks_len s hf
            have h3 : (blS ends i).length ≤ 2 := by
              unfold blS
              split
              · rw [List.length_replicate]; omega
              · exact Nat.zero_le _
            have HZ := Lib.hid (And.intro hK (And.intro ho (And.intro hsl (And.intro h1 (And.intro h2 h3)))))
            clear hK ho hbz haz hsl h1 h2 h3 hblS
            go_wp2_with fail
            refine CT.mono ?_
            rintro e w4 ⟨o4, rfl, ho4, hb4⟩
            have ho5 := HZ.out.2.1.below hb4
            have hK4 := HZ.out.1.on hb4
            obtain ⟨v7, w7, hrun7, ho7, hg7⟩ := tapp_run w.heap.size u5 _ _ ho5 w4.heap.size o4 (stToks s) (TArg.of_own ho4) (by
              obtain ⟨_, _, _, q1, q2, q3⟩ := HZ.out
              rw [List.length_append]
              omega) hK4.lo.size
            have HG7 := Lib.hid (And.intro ho7 (And.intro (hK4.grown HX.out.2.2.1 HX.out.2.2.2.1 ho5 hg7) trivial))
            clear ho5 hK4 ho7 hg7 ho4 hb4 CT k0 k1 k2 k3
            go_wp2_with ((with_reducible refine wl_here ?_); (refine wl_val rfl v7 (hrun7 _ _ (.tmp 47) (.tmp 49) rfl rfl rfl) ?_); (simp only [Act.put, List.setIfInBounds_toArray, List.set_cons_succ, List.set_cons_zero]))
            go_roundw
            case rel =>
              refine ⟨i + 1, by omega, by go_num, HG7.out.2.1, ?_, fun j h hj => ?_⟩
              · rw [rowToks_succ ends l i hil, HZ.out.2.2.1, ← List.append_assoc]
                unfold Own
                rw [List.length_append, pcells_app]
                exact HG7.out.1
              · by_cases hji : j < i
                · exact HJ.out.1 j h hji
                · obtain rfl : j = i := by omega
                  rw [HZ.out.2.2.1]
                  exact hf
            case measure => simp [intOf]; omega
    · obtain rfl : i = N := by omega
      have d1 : ¬ (i : Int) < (i : Int) := by omega
      have hil : l.length = i := HX.out.2.2.2.2.1.symm
      have hfa : ∀ s ∈ l, fineS s = true := fun s hs => by
        obtain ⟨j, hj, rfl⟩ := List.getElem_of_mem hs
        exact hall j hj (by omega)
      have hpar := row_parse ends l hfa HX.out.2.2.2.2.2.2.2.1
      have hlen := rowToks_len ends l hfa l.length (Nat.le_refl _)
      rw [hil] at hpar hlen
      have hTA : TArg wr wr.heap.size u5 (rowToks ends l i) := TArg.of_own ho
      have CPa := parse_any decE (Laid B) (rowToks ends l i) (by omega) u5 wr (fun a b row h1 h2 h3 => Laid.stable B a b row h1 h2 fun r e => Nat.le_trans (Nat.le_trans HX.out.2.2.1 hK.lo.size) (h3 r e)) (dec_ok B _) (hTA.row (Nat.le_refl _)) hK.la
      rw [hpar] at CPa
      have hargs : ∀ s ∈ l, s.args.length ≤ 1000000000000 := fun s hs => by
        obtain ⟨h1, h2, h3, -⟩ := fine_parts (hfa s hs)
        have := (parw.form_len s.kind h2).2
        omega
      have HZ := Lib.hid (And.intro hK (And.intro hil hargs))
      clear hK ho hall hfa hpar hlen hTA hil hargs
      go_wp2_with fail
      refine CPa.mono ?_
      rintro e w4 ⟨o4, rfl, ho4, hb4⟩
      simp only at ho4 ⊢
      have K4 := Lib.hid (HZ.out.1.on hb4)
      have CS := Lib.hid (same17_eq w4.heap.size o4 (.slice A i c) l w4 (.of_row ho4) (sr_up (sread_keep HX.out.1 (show Below w.heap.size w w4 from K4.out.lo)) (Nat.le_trans HX.out.2.2.1 K4.out.lo.size)) (Nat.le_refl _) (by have := HZ.out.2.1; omega) HZ.out.2.2)
      clear CPa ho4 hb4
      go_wp2_with (first
        | (go_at_call 11; (with_reducible refine CS.out.mono ?_); rintro e w5 ⟨rfl, hb5⟩; have K5 := Lib.hid (K4.out.on hb5); clear hb5)
        | (go_at_call 7; (with_reducible refine (CA.out _ K5.out).mono ?_); rintro e w6 ⟨rfl, hb6⟩; have K6 := Lib.hid (K5.out.on hb6); clear hb6))
      go_ret
      exact ⟨rfl, K6.out.lo⟩
end Go.Proofs.YtejmbbkklhpnaaaGreatDoor.plw

/- (As XFlaD, with the kind's bound.) What a node, and a slice of nodes, that the row reads is. No conditions. -/
namespace Go.Proofs.YtejmbbkklhpnaaaGreatDoor.prnw
open Go.RowKit
open Go.Proofs.YtejmbbkklhpnaaaGreatDoor.nodew
open Go.Proofs.YtejmbbkklhpnaaaGreatDoor.chkw
open Go.ChangeShapes Go.WideShapes Go.Deep

section
variable {H : Type} {enc : TypeId × Value → H} {w : World} {base : Nat} {sp : Nat → Bool} {held : Bool}
theorem float_gen {t : TypeId} {k : FloatKind} {fuel : Nat} {cs : List Value} {x : DataW H × List MemPlace} (ht : Tryz.prog.underlying t = some (.float k)) (h : DataW.trod enc Tryz.prog w base sp held fuel t cs = some x) : ∃ n, cs = [.float k n] ∧ (Lit.float k n).wf = true := by
  cases fuel with
  | zero => simp [DataW.trod] at h
  | succ n =>
    unfold DataW.trod at h
    rw [ht] at h
    split at h <;> simp_all
theorem float_of {t : TypeId} {fuel : Nat} {cs : List Value} {x : DataW H × List MemPlace} (ht : Tryz.prog.underlying t = some (.float .f64)) (h : DataW.trod enc Tryz.prog w base sp held fuel t cs = some x) : ∃ n, cs = [.float .f64 n] ∧ n < 18446744073709551616 := by
  obtain ⟨n, hc, hw⟩ := float_gen ht h
  exact ⟨n, hc, by simpa [Lit.wf] using hw⟩
theorem cells_u8 : Tryz.prog.cellsOf 5 = 1 := by kernel_rfl
theorem cells_int : Tryz.prog.cellsOf 3 = 1 := by kernel_rfl
theorem cells_f64 : Tryz.prog.cellsOf 38 = 1 := by kernel_rfl
end

end Go.Proofs.YtejmbbkklhpnaaaGreatDoor.prnw
