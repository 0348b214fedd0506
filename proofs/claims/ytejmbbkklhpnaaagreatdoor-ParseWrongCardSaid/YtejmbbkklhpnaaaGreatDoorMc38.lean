/- The walk of burnishlaw17.awake. Condition: three of strconv's variables hold what the program's text lays. -/
import Derived.Test.YtejmbbkklhpnaaaGreatDoorMc37
import Derived.Test.YtejmbbkklhpnaaaGreatDoorMc35
namespace Go.Proofs.YtejmbbkklhpnaaaGreatDoor.awaw
open Go.RowKit
open Go.Proofs.YtejmbbkklhpnaaaGreatDoor.lexm
open Go.Proofs.YtejmbbkklhpnaaaGreatDoor.lexw
open Go.Proofs.YtejmbbkklhpnaaaGreatDoor.parw
open Go.Proofs.YtejmbbkklhpnaaaGreatDoor.flow

theorem ARead.mono {W : World} {B B' : Nat} {v : Value} {l : List PArg} (h : ARead W B v l) (hb : B ≤ B') : ARead W B' v l := by
  obtain ⟨A, c, hv, hx⟩ := h
  refine ⟨A, c, hv, fun h0 => ?_⟩
  obtain ⟨g, off, hA, hg, hcell⟩ := hx h0
  exact ⟨g, off, hA, by omega, hcell⟩
theorem SRead.mono {W : World} {B B' : Nat} {v : Value} {l : List PStmt} (h : SRead W B v l) (hb : B ≤ B') : SRead W B' v l := by
  obtain ⟨vs, A, c, hl, hv, hx, ha⟩ := h
  refine ⟨vs, A, c, hl, hv, fun h0 => ?_, fun i h1 h2 => ARead.mono (ha i h1 h2) hb⟩
  obtain ⟨g, off, hA, hg, hcell⟩ := hx h0
  exact ⟨g, off, hA, by omega, hcell⟩
/-- one statement, written out: its arguments' block, its own block -/
theorem one_read (w : World) (s : PStmt) (n : Nat) (hn : s.args.length = n) (ca cs : Array Value) (hca : ca = (acells s.args).toArray) (hcs : cs = (stCells s (.slice (some ⟨w.heap.size, 0, none⟩) n n)).toArray) :
    SRead ((w.alloc (.cells ca 40)).alloc (.cells cs 28)) (w.heap.size + 2) (.slice (some ⟨w.heap.size + 1, 0, none⟩) 1 1) [s] := by
  subst hn hca hcs
  have hsz : (w.alloc (.cells (acells s.args).toArray 40)).heap.size = w.heap.size + 1 := by simp
  refine ⟨[.slice (some ⟨w.heap.size, 0, none⟩) s.args.length s.args.length], _, _, rfl, rfl, fun _ => ⟨w.heap.size + 1, 0, rfl, by omega, fun j u hu => ?_⟩, fun i h1 h2 => ?_⟩
  · rw [cell_of_row _ (w.heap.size + 1) _ _ _ _ (heap_at _ _ _ hsz), Nat.zero_add]
    simpa [scells] using hu
  · have h0 : i = 0 := by simp at h2; omega
    subst h0
    refine ⟨_, _, rfl, fun _ => ⟨w.heap.size, 0, rfl, by omega, fun j u hu => ?_⟩⟩
    rw [cell_of_row _ w.heap.size _ _ _ _ ((World.heap_alloc_lt' _ _ _ (by rw [hsz]; omega)).trans (heap_alloc_new w _)), Nat.zero_add]
    simpa using hu

set_option maxRecDepth 100000 in
set_option maxHeartbeats 4000000 in
theorem awake_any (B : Nat) (w : World) (hw : Laid B w) (hB : B ≤ w.heap.size) : Calls Tryz.prog 7 #[] w fun e w' => e = .returned (.bool true) ∧ Below w.heap.size w w' := by
  have HW := Lib.hid hw
  have hc0 := of_0 B w hw hB
  clear hw
  go_enter Tryz.func7, Tryz.ntmps7
  go_wp2_with fail
  refine hc0.mono ?_
  rintro e w1 ⟨o, rfl, ho, hB1⟩
  have hs1 := hB1.size
  unfold res0 at ho ⊢
  simp only at ho ⊢
  go_wp2_with fail
  have hG1 : Laid B w1 := Laid.stable B w w1 none HW.out (grown_below hB1 none) (fun r e => by cases e)
  have hR2 := one_read w1 ⟨⟨#[97]⟩, 0, 1, [⟨12, 4602678819172646912, ⟨#[]⟩⟩, ⟨16, 4607182418800017408, ⟨#[]⟩⟩, ⟨18, 0, ⟨#[]⟩⟩]⟩ 3 rfl
    #[.int .i64 12, .float .f64 4602678819172646912, .string ⟨#[]⟩, .int .i64 16, .float .f64 4607182418800017408, .string ⟨#[]⟩, .int .i64 18, .float .f64 0, .string ⟨#[]⟩] #[.string ⟨#[97]⟩, .int .i64 0, .int .u8 1, .slice (some ⟨w1.heap.size, 0, none⟩) 3 3] rfl rfl
  have hg2 : w1.grownBy ((w1.alloc (.cells #[.int .i64 12, .float .f64 4602678819172646912, .string ⟨#[]⟩, .int .i64 16, .float .f64 4607182418800017408, .string ⟨#[]⟩, .int .i64 18, .float .f64 0, .string ⟨#[]⟩] 40)).alloc
    (.cells #[.string ⟨#[97]⟩, .int .i64 0, .int .u8 1, .slice (some ⟨w1.heap.size, 0, none⟩) 3 3] 28)) none := grown_trans (World.grownBy_alloc w1 _ _) (World.grownBy_alloc _ _ _)
  have hR1 := SRead.mono (ho.keep (fun g h _ => hg2.block g h (by simp))) (show w1.heap.size ≤ w1.heap.size + 2 by omega)
  have hG2 := Laid.stable B w1 _ none hG1 hg2 (fun r e => by cases e)
  refine (same17_eq (w1.heap.size + 2) o _ _ _ hR1 hR2 (by simp) (by simp) (by intro s hs; simp at hs; subst hs; simp)).mono ?_
  rintro e w2 ⟨rfl, hB2⟩
  have hG3 := Laid.stable B _ w2 none hG2 (grown_below hB2 none) (fun r e => by cases e)
  have hgw : w.grownBy w2 none := grown_trans (grown_below hB1 none) (grown_trans hg2 (grown_below hB2 none))
  have hw2 := hgw.size
  clear hR1 hR2 hg2 hG1 hG2 ho hB1 hB2
  have HGW := Lib.hid hgw
  clear hgw
  go_wp2_with fail
  go_loopw [36] (fun i wr => ∃ (k : Nat) (T : TypeId), k ≤ 5 ∧ i = .int .i64 k ∧ w2.grownBy wr none ∧ wr.heap[w2.heap.size]? = some (.cells #[.string ⟨#[97, 32, 61, 32, 103, 108, 97, 115, 115, 32, 49]⟩, .int .i64 4, .int .i64 171, .string ⟨#[97, 32, 108, 97, 109, 98, 101, 114, 116]⟩, .int .i64 2, .int .i64 170, .string ⟨#[97, 32, 61, 32, 109, 105, 120, 32, 48, 46, 53, 32, 98]⟩, .int .i64 13, .int .i64 170, .string ⟨#[97, 32, 61, 32, 112, 108, 97, 115, 116, 105, 99, 32, 49, 46, 46, 50, 32, 50]⟩, .int .i64 12, .int .i64 160, .string ⟨#[97, 32, 61, 32, 99, 111, 97, 116, 32, 49, 46, 53, 32, 49, 32, 49, 32, 49, 32, 49]⟩, .int .i64 19, .int .i64 170] T (0, 0)))
    (fun i _ => 5 - (intOf i).toNat)
  case atStart => exact ⟨0, _, by omega, rfl, World.grownBy_alloc w2 _ _, heap_alloc_new w2 _⟩
  case round =>
    obtain ⟨k, T, hk, rfl, hg, hb⟩ := hrel
    have hGr : Laid B wr := Laid.stable B _ wr none hG3 hg (fun r e => by cases e)
    have hbl : w2.heap.size < wr.heap.size := (Array.getElem?_eq_some_iff.1 hb).1
    have HB := Lib.hid hb
    have HG := Lib.hid hGr
    clear hb hGr
    have hk6 : k = 0 ∨ k = 1 ∨ k = 2 ∨ k = 3 ∨ k = 4 ∨ k = 5 := by omega
    rcases hk6 with rfl | rfl | rfl | rfl | rfl | rfl
    · have c0 := (cell_of_row wr w2.heap.size 0 _ _ _ HB.out).trans rfl
      have c1 := (cell_of_row wr w2.heap.size 1 _ _ _ HB.out).trans rfl
      have c2 := (cell_of_row wr w2.heap.size 2 _ _ _ HB.out).trans rfl
      go_wp2_with fail
      refine (of_1 B _ (Laid.stable B wr _ none HG.out (World.grownBy_alloc wr _ _) (fun r e => by cases e)) (by simp; omega)).mono ?_
      rintro e wx ⟨o', rfl, ho', hBx⟩
      obtain ⟨_, A', c', _, rfl, _, _⟩ := ho'
      have kt := (hBx.block wr.heap.size (by simp)).trans (heap_alloc_new wr _)
      have t1 := (cell_of_row wx wr.heap.size 1 _ _ _ kt).trans rfl
      have t2 := (cell_of_row wx wr.heap.size 2 _ _ _ kt).trans rfl
      have gx : wr.grownBy wx none := grown_trans (World.grownBy_alloc wr _ _) (grown_below hBx none)
      unfold res1
      simp only
      clear kt c0 c1 c2 hBx
      go_wp2_with fail
      go_roundw
      case rel => exact ⟨1, T, by omega, by go_num, grown_trans hg gx, (gx.block _ hbl (by simp)).trans HB.out⟩
      case measure => simp [intOf]
    · have c0 := (cell_of_row wr w2.heap.size 3 _ _ _ HB.out).trans rfl
      have c1 := (cell_of_row wr w2.heap.size 4 _ _ _ HB.out).trans rfl
      have c2 := (cell_of_row wr w2.heap.size 5 _ _ _ HB.out).trans rfl
      go_wp2_with fail
      refine (of_2 B _ (Laid.stable B wr _ none HG.out (World.grownBy_alloc wr _ _) (fun r e => by cases e)) (by simp; omega)).mono ?_
      rintro e wx ⟨o', rfl, ho', hBx⟩
      obtain ⟨_, A', c', _, rfl, _, _⟩ := ho'
      have kt := (hBx.block wr.heap.size (by simp)).trans (heap_alloc_new wr _)
      have t1 := (cell_of_row wx wr.heap.size 1 _ _ _ kt).trans rfl
      have t2 := (cell_of_row wx wr.heap.size 2 _ _ _ kt).trans rfl
      have gx : wr.grownBy wx none := grown_trans (World.grownBy_alloc wr _ _) (grown_below hBx none)
      unfold res2
      simp only
      clear kt c0 c1 c2 hBx
      go_wp2_with fail
      go_roundw
      case rel => exact ⟨2, T, by omega, by go_num, grown_trans hg gx, (gx.block _ hbl (by simp)).trans HB.out⟩
      case measure => simp [intOf]
    · have c0 := (cell_of_row wr w2.heap.size 6 _ _ _ HB.out).trans rfl
      have c1 := (cell_of_row wr w2.heap.size 7 _ _ _ HB.out).trans rfl
      have c2 := (cell_of_row wr w2.heap.size 8 _ _ _ HB.out).trans rfl
      go_wp2_with fail
      refine (of_3 B _ (Laid.stable B wr _ none HG.out (World.grownBy_alloc wr _ _) (fun r e => by cases e)) (by simp; omega)).mono ?_
      rintro e wx ⟨o', rfl, ho', hBx⟩
      obtain ⟨_, A', c', _, rfl, _, _⟩ := ho'
      have kt := (hBx.block wr.heap.size (by simp)).trans (heap_alloc_new wr _)
      have t1 := (cell_of_row wx wr.heap.size 1 _ _ _ kt).trans rfl
      have t2 := (cell_of_row wx wr.heap.size 2 _ _ _ kt).trans rfl
      have gx : wr.grownBy wx none := grown_trans (World.grownBy_alloc wr _ _) (grown_below hBx none)
      unfold res3
      simp only
      clear kt c0 c1 c2 hBx
      go_wp2_with fail
      go_roundw
      case rel => exact ⟨3, T, by omega, by go_num, grown_trans hg gx, (gx.block _ hbl (by simp)).trans HB.out⟩
      case measure => simp [intOf]
    · have c0 := (cell_of_row wr w2.heap.size 9 _ _ _ HB.out).trans rfl
      have c1 := (cell_of_row wr w2.heap.size 10 _ _ _ HB.out).trans rfl
      have c2 := (cell_of_row wr w2.heap.size 11 _ _ _ HB.out).trans rfl
      go_wp2_with fail
      refine (of_4 B _ (Laid.stable B wr _ none HG.out (World.grownBy_alloc wr _ _) (fun r e => by cases e)) (by simp; omega)).mono ?_
      rintro e wx ⟨o', rfl, ho', hBx⟩
      obtain ⟨_, A', c', _, rfl, _, _⟩ := ho'
      have kt := (hBx.block wr.heap.size (by simp)).trans (heap_alloc_new wr _)
      have t1 := (cell_of_row wx wr.heap.size 1 _ _ _ kt).trans rfl
      have t2 := (cell_of_row wx wr.heap.size 2 _ _ _ kt).trans rfl
      have gx : wr.grownBy wx none := grown_trans (World.grownBy_alloc wr _ _) (grown_below hBx none)
      unfold res4
      simp only
      clear kt c0 c1 c2 hBx
      go_wp2_with fail
      go_roundw
      case rel => exact ⟨4, T, by omega, by go_num, grown_trans hg gx, (gx.block _ hbl (by simp)).trans HB.out⟩
      case measure => simp [intOf]
    · have c0 := (cell_of_row wr w2.heap.size 12 _ _ _ HB.out).trans rfl
      have c1 := (cell_of_row wr w2.heap.size 13 _ _ _ HB.out).trans rfl
      have c2 := (cell_of_row wr w2.heap.size 14 _ _ _ HB.out).trans rfl
      go_wp2_with fail
      refine (of_5 B _ (Laid.stable B wr _ none HG.out (World.grownBy_alloc wr _ _) (fun r e => by cases e)) (by simp; omega)).mono ?_
      rintro e wx ⟨o', rfl, ho', hBx⟩
      obtain ⟨_, A', c', _, rfl, _, _⟩ := ho'
      have kt := (hBx.block wr.heap.size (by simp)).trans (heap_alloc_new wr _)
      have t1 := (cell_of_row wx wr.heap.size 1 _ _ _ kt).trans rfl
      have t2 := (cell_of_row wx wr.heap.size 2 _ _ _ kt).trans rfl
      have gx : wr.grownBy wx none := grown_trans (World.grownBy_alloc wr _ _) (grown_below hBx none)
      unfold res5
      simp only
      clear kt c0 c1 c2 hBx
      go_wp2_with fail
      go_roundw
      case rel => exact ⟨5, T, by omega, by go_num, grown_trans hg gx, (gx.block _ hbl (by simp)).trans HB.out⟩
      case measure => simp [intOf]
    · go_wp2_with fail
      go_ret
      exact ⟨rfl, below_of_grown (grown_trans HGW.out hg)⟩

end Go.Proofs.YtejmbbkklhpnaaaGreatDoor.awaw

/- burnishlaw17.ParseBack: the walk. Conditions: the statements lie in memory, their numbers are numbers; the library's tables hold what the row lists. -/
namespace Go.Proofs.YtejmbbkklhpnaaaGreatDoor.plw
open Go.RowKit
open Go.Proofs.YtejmbbkklhpnaaaGreatDoor.parw
open Go.Proofs.YtejmbbkklhpnaaaGreatDoor.bkp
open Go.Proofs.YtejmbbkklhpnaaaGreatDoor.pft (TArg tapp_run exec_tbs1)
open Go.Proofs.YtejmbbkklhpnaaaGreatDoor.prnw (Bel bA bA_list prT prOk prE prB print_b hiP loP Env)
open Go.Proofs.YtejmbbkklhpnaaaGreatDoor.flow (decE Laid dec_ok)

structure KL (B : Nat) (w u : World) : Prop where
  en : Env hiP loP u
  la : Laid B u
  lo : Below w.heap.size w u
theorem KL.on {B : Nat} {w u u' : World} (h : KL B w u) (hb : Below u.heap.size u u') : KL B w u' :=
  ⟨h.en.later hb, Laid.stable B u u' none h.la (parw.grown_below hb none) (fun r e => by cases e), h.lo.trans (hb.mono h.lo.size)⟩
/-! the tokens of a statement, parsed -/
theorem kind_word : ∀ k, 1 ≤ k → k ≤ 6 → kindF (prnw.wordF k) = k := by
  intro k h1 h2
  have : k = 1 ∨ k = 2 ∨ k = 3 ∨ k = 4 ∨ k = 5 ∨ k = 6 := by omega
  rcases this with rfl | rfl | rfl | rfl | rfl | rfl <;> decide +kernel
theorem args_back : ∀ (bs : List Bool) (l : List PArg), bs.length = l.length → argsFine bs l = true → (∀ a ∈ l, a.num < 18446744073709551616) → fitB decE bs (argToks bs l) ∧ argsOf decE bs (argToks bs l) = l
  | [], [], _, _, _ => ⟨trivial, rfl⟩
  | b :: bs, a :: l, hl, hf, hn => by
    unfold argsFine at hf
    rw [Bool.and_eq_true] at hf
    obtain ⟨h1, h2⟩ := args_back bs l (by simpa using hl) hf.2 (fun x hx => hn x (by simp [hx]))
    have ha := hf.1
    cases b with
    | true =>
      have ha' : prOk a.num = true ∧ a.name = ⟨#[]⟩ := by
        unfold argFine at ha
        simpa using ha
      have hd : decE (prB hiP loP a.num) = (a.num, 0) := by
        show rdf.decR (prB hiP loP a.num).data.toList = _
        unfold prB
        rw [bA_list]
        exact rdf.read_prT a.num (hn a (by simp)) ha'.1
      refine ⟨⟨rfl, fun _ => ?_, h1⟩, ?_⟩
      · show (decE (prB hiP loP a.num)).2 = 0
        rw [hd]
      · show (⟨a.pos, (decE (prB hiP loP a.num)).1, ⟨#[]⟩⟩ : PArg) :: argsOf decE bs (argToks bs l) = a :: l
        rw [hd, h2, ← ha'.2]
    | false =>
      have ha' : a.num = 0 := by
        unfold argFine at ha
        simpa using ha
      refine ⟨⟨rfl, (fun e => by cases e), h1⟩, ?_⟩
      show (⟨a.pos, 0, a.name⟩ : PArg) :: argsOf decE bs (argToks bs l) = a :: l
      rw [h2, ← ha']
theorem fine_parts {s : PStmt} (hf : fineS s = true) : 1 ≤ s.kind ∧ s.kind ≤ 6 ∧ (formL s.kind).length = s.args.length ∧ argsFine (formL s.kind) s.args = true := by
  unfold fineS at hf
  simp only [Bool.and_eq_true, decide_eq_true_eq] at hf
  exact ⟨hf.1.1.1, hf.1.1.2, hf.1.2.symm, hf.2⟩
/-! rows of statements -/
theorem stToks_len (s : PStmt) (hf : fineS s = true) : (stToks s).length ≤ 12 := by
  obtain ⟨h1, h2, h3, -⟩ := fine_parts hf
  have h7 := (parw.form_len s.kind h2).2
  unfold stToks headToks
  rw [List.length_append, List.length_append, argToks_len _ _ h3]
  simp only [List.length_cons, List.length_nil]
  omega
end Go.Proofs.YtejmbbkklhpnaaaGreatDoor.plw

/- burnishlaw17.ParseBack: the walk. Conditions: the statements lie in memory, their numbers are numbers; the library's tables hold what the row lists. -/
namespace Go.Proofs.YtejmbbkklhpnaaaGreatDoor.plw
open Go.RowKit
open Go.Proofs.YtejmbbkklhpnaaaGreatDoor.parw
open Go.Proofs.YtejmbbkklhpnaaaGreatDoor.bkp
open Go.Proofs.YtejmbbkklhpnaaaGreatDoor.bsw (wl_val)
open Go.Proofs.YtejmbbkklhpnaaaGreatDoor.pft (TArg tapp_run exec_tbs1)
open Go.Proofs.YtejmbbkklhpnaaaGreatDoor.prnw (Bel bA bA_list prT prOk prE prB print_b hiP loP Env)
open Go.Proofs.YtejmbbkklhpnaaaGreatDoor.flow (decE Laid dec_ok)

/-- the tokens so far -/
def Own (w X : World) (o : Value) (ts : List PTok) : Prop := X.ownsRow w.heap.size 31 3 o ts.length (pcells ts)
theorem Own.below {w X Y : World} {o : Value} {ts : List PTok} (h : Own w X o ts) (hb : Below X.heap.size X Y) : Own w Y o ts := own_grown h (parw.grown_below hb none) (fun r e => by cases e)
theorem own_low {w X Y : World} {o : Value} {ts : List PTok} (h : Own w X o ts) (hl : Below w.heap.size w X) (hg : X.grownBy Y o.ownBlock) : Below w.heap.size w Y :=
  hl.trans ⟨hg.os, hg.tape, hg.output, by have := hl.size; have := hg.size; omega, fun i hi => hg.block i (Nat.lt_of_lt_of_le hi hl.size) (fun e => by have := own_base h e.symm; omega)⟩
theorem KL.grown {B : Nat} {w u u' : World} (h : KL B w u) (hB : B ≤ w.heap.size) (hE : Env hiP loP w) {o : Value} {ts : List PTok} (ho : Own w u o ts) (hg : u.grownBy u' o.ownBlock) : KL B w u' := by
  have hl := own_low ho h.lo hg
  exact ⟨hE.later hl, Laid.stable B u u' o.ownBlock h.la hg (fun r e => by have := own_base ho e; omega), hl⟩
end Go.Proofs.YtejmbbkklhpnaaaGreatDoor.plw

/- The plain law of ParseWrong: a statement's tokens, of which one is left out, put twice, or of another kind, are none. Plain; no condition but those stated. -/
namespace Go.Proofs.YtejmbbkklhpnaaaGreatDoor.plm
open Go.RowKit
open Go.Proofs.YtejmbbkklhpnaaaGreatDoor.parw
open Go.Proofs.YtejmbbkklhpnaaaGreatDoor.plw

/-- an error is told, at a place from 3 on -/
structure Bad (s : RSt) : Prop where
  er : s.er = 170
  pl : 3 ≤ s.pl
def Pos (ts : List PTok) : Prop := ∀ t ∈ ts, 3 ≤ t.pos
def expL (bs : List Bool) : List Nat := bs.map fun b => if b then 2 else 1
variable {dec : ByteArray → Nat × Nat} {en : Int}
/-- tokens are not of the kinds that are expected -/
def misD (dec : ByteArray → Nat × Nat) : List Nat → List PTok → Prop
  | x :: e, t :: r => t.kind ≠ x ∨ ((x = 2 → (dec t.text).2 = 0) ∧ misD dec e r)
  | _, _ => False
theorem Bad.ne {s : RSt} (h : Bad s) : ¬ s.er = 0 := by
  rw [h.er]
  decide
theorem Bad.next {s : RSt} (h : Bad s) (k : Nat) : Bad (nextS en s k).2 := by
  rw [nextS_er h.ne]
  exact h
theorem Bad.fail {s : RSt} (h : Bad s) (a : Int) (e : Nat) : Bad (s.fail a e) := by
  unfold RSt.fail
  rw [if_neg h.ne]
  exact h
theorem Bad.arg {s : RSt} (h : Bad s) (b : Bool) : Bad (argS dec en b s).2 := by
  unfold argS
  split
  · unfold numS
    rw [if_neg (h.next 2).ne]
    exact h.next 2
  · exact h.next 1
theorem Bad.args : ∀ (bs : List Bool) {s : RSt}, Bad s → Bad (argsS dec en bs s).2
  | [], _, h => h
  | b :: r, _, h => Bad.args r (h.arg b)
/-- one token: it fits, or all is bad -/
theorem next_mis {s : RSt} {k : Nat} {e : List Nat} (h0 : s.er = 0) (hf : Pos s.ts) (hm : misD dec (k :: e) s.ts) :
    Bad (nextS en s k).2 ∨ ∃ t r, s.ts = t :: r ∧ t.kind = k ∧ nextS en s k = (t, { s with ts := r }) ∧ (k = 2 → (dec t.text).2 = 0) ∧ misD dec e r ∧ Pos r := by
  cases hts : s.ts with
  | nil =>
    rw [hts] at hm
    exact hm.elim
  | cons t r =>
    rw [hts] at hm hf
    by_cases hk : t.kind = k
    · rcases hm with hm | hm
      · exact absurd hk hm
      · exact .inr ⟨t, r, rfl, hk, nextS_yes h0 hts hk, hm.1, hm.2, fun u hu => hf u (by simp [hu])⟩
    · left
      rw [nextS_no h0 hts hk]
      exact ⟨rfl, hf t (by simp)⟩
theorem args_mis : ∀ (bs : List Bool) (s : RSt), s.er = 0 → Pos s.ts → misD dec (expL bs ++ [4]) s.ts → Bad (nextS en (argsS dec en bs s).2 4).2
  | [], s, h0, hf, hm => by
    rcases next_mis (en := en) h0 hf hm with h | ⟨t, r, _, _, _, _, hm', _⟩
    · exact h
    · exact hm'.elim
  | b :: r, s, h0, hf, hm => by
    have hm1 : misD dec ((if b then 2 else 1) :: (expL r ++ [4])) s.ts := hm
    show Bad (nextS en (argsS dec en r (argS dec en b s).2).2 4).2
    cases b with
    | true =>
      have e : argS dec en true s = numS dec en s := rfl
      rw [e]
      rcases next_mis (en := en) (k := 2) h0 hf hm1 with h | ⟨t, u, hts, hk, hn, hz, hm', hf'⟩
      · have : Bad (numS dec en s).2 := by
          unfold numS
          rw [if_neg h.ne]
          exact h
        exact (this.args r).next 4
      · have e2 : (numS dec en s).2 = { s with ts := u } := by
          unfold numS
          rw [hn]
          rw [if_pos h0]
          show (if (dec t.text).2 = 0 then _ else _) = _
          rw [if_pos (hz rfl)]
        rw [e2]
        exact args_mis r { s with ts := u } h0 hf' hm'
    | false =>
      have e : argS dec en false s = wordS en s := rfl
      rw [e]
      rcases next_mis (en := en) (k := 1) h0 hf hm1 with h | ⟨t, u, hts, hk, hn, -, hm', hf'⟩
      · exact ((show Bad (wordS en s).2 from h).args r).next 4
      · have e2 : (wordS en s).2 = { s with ts := u } := by
          unfold wordS
          rw [hn]
        rw [e2]
        exact args_mis r { s with ts := u } h0 hf' hm'
/-- a whole statement -/
theorem stmt_mis (a b c : PTok) (r : List PTok) (hf : Pos (a :: b :: c :: r))
    (h : (a.kind ≠ 1 ∨ b.kind ≠ 3 ∨ c.kind ≠ 1) ∨ (kindF c.text ≠ 0 ∧ misD dec (expL (formL (kindF c.text)) ++ [4]) r)) : Bad (stmtS dec en ⟨a :: b :: c :: r, 0, 0⟩).2 := by
  have hfa := hf a (by simp)
  have hfb := hf b (by simp)
  have hfc := hf c (by simp)
  have hfr : Pos r := fun u hu => hf u (by simp [hu])
  unfold stmtS
  simp only
  have bad3 : ∀ (n : PTok × RSt), Bad n.2 → Bad (nextS en (argsS dec en (formL (kindF (nextS en (nextS en n.2 3).2 1).1.text)) (if kindF (nextS en (nextS en n.2 3).2 1).1.text = 0 then (nextS en (nextS en n.2 3).2 1).2.fail (nextS en (nextS en n.2 3).2 1).1.pos 171 else (nextS en (nextS en n.2 3).2 1).2)).2 4).2 := fun n hn => by
    have h2 := (hn.next (en := en) 3).next (en := en) 1
    refine Bad.next (Bad.args _ ?_) 4
    split
    · exact h2.fail _ _
    · exact h2
  by_cases ha : a.kind = 1
  · have e1 : nextS en ⟨a :: b :: c :: r, 0, 0⟩ 1 = (a, ⟨b :: c :: r, 0, 0⟩) := nextS_yes rfl rfl ha
    rw [e1]
    simp only
    by_cases hb : b.kind = 3
    · have e2 : nextS en ⟨b :: c :: r, 0, 0⟩ 3 = (b, ⟨c :: r, 0, 0⟩) := nextS_yes rfl rfl hb
      rw [e2]
      simp only
      by_cases hc : c.kind = 1
      · have e3 : nextS en ⟨c :: r, 0, 0⟩ 1 = (c, ⟨r, 0, 0⟩) := nextS_yes rfl rfl hc
        rw [e3]
        simp only
        rcases h with h | ⟨hk, hm⟩
        · exfalso
          rcases h with h | h | h
          · exact h ha
          · exact h hb
          · exact h hc
        · rw [if_neg hk]
          exact args_mis _ ⟨r, 0, 0⟩ rfl hfr hm
      · have e3 : nextS en ⟨c :: r, 0, 0⟩ 1 = (PTok.no, ⟨c :: r, c.pos, 170⟩) := nextS_no rfl rfl hc
        rw [e3]
        simp only
        have hb3 : Bad ⟨c :: r, c.pos, 170⟩ := ⟨rfl, hfc⟩
        refine Bad.next (Bad.args _ ?_) 4
        split
        · exact hb3.fail _ _
        · exact hb3
    · have e2 : nextS en ⟨b :: c :: r, 0, 0⟩ 3 = (PTok.no, ⟨b :: c :: r, b.pos, 170⟩) := nextS_no rfl rfl hb
      rw [e2]
      have hb2 : Bad ⟨b :: c :: r, b.pos, 170⟩ := ⟨rfl, hfb⟩
      have h2 := hb2.next (en := en) 1
      refine Bad.next (Bad.args _ ?_) 4
      split
      · exact h2.fail _ _
      · exact h2
  · have e1 : nextS en ⟨a :: b :: c :: r, 0, 0⟩ 1 = (PTok.no, ⟨a :: b :: c :: r, a.pos, 170⟩) := nextS_no rfl rfl ha
    rw [e1]
    exact bad3 _ ⟨rfl, hfa⟩
/-- what parsing answers -/
theorem parse_mis (a b c : PTok) (r : List PTok) (hf : Pos (a :: b :: c :: r)) (h4 : a.kind ≠ 4)
    (h : (a.kind ≠ 1 ∨ b.kind ≠ 3 ∨ c.kind ≠ 1) ∨ (kindF c.text ≠ 0 ∧ misD dec (expL (formL (kindF c.text)) ++ [4]) r)) : ∃ p : Int, 3 ≤ p ∧ parseRes dec (a :: b :: c :: r) = ([], p, 170) := by
  have hs := stmt_mis (en := endOf (a :: b :: c :: r)) a b c r hf h
  refine ⟨_, hs.pl, ?_⟩
  unfold parseRes
  simp only
  have e : parseL dec (endOf (a :: b :: c :: r)) ((a :: b :: c :: r).length + 1) ⟨a :: b :: c :: r, 0, 0⟩ [] = ([(stmtS dec (endOf (a :: b :: c :: r)) ⟨a :: b :: c :: r, 0, 0⟩).1], (stmtS dec (endOf (a :: b :: c :: r)) ⟨a :: b :: c :: r, 0, 0⟩).2) := by
    conv => lhs; unfold parseL
    rw [if_pos rfl]
    simp only
    rw [if_neg h4]
    exact parseL_end (.inl hs.ne)
  rw [e]
  simp only
  rw [if_neg hs.ne, hs.er]
/-- a kind's word that is none -/
theorem parse_kind (a b c : PTok) (r : List PTok) (ha : a.kind = 1) (hb : b.kind = 3) (hc : c.kind = 1) (h0 : kindF c.text = 0) : parseRes dec (a :: b :: c :: r) = ([], c.pos, 171) := by
  have hs : ∀ en : Int, (stmtS dec en ⟨a :: b :: c :: r, 0, 0⟩).2.er = 171 ∧ (stmtS dec en ⟨a :: b :: c :: r, 0, 0⟩).2.pl = c.pos := fun en => by
    unfold stmtS
    simp only
    have e1 : nextS en ⟨a :: b :: c :: r, 0, 0⟩ 1 = (a, ⟨b :: c :: r, 0, 0⟩) := nextS_yes rfl rfl ha
    have e2 : nextS en ⟨b :: c :: r, 0, 0⟩ 3 = (b, ⟨c :: r, 0, 0⟩) := nextS_yes rfl rfl hb
    have e3 : nextS en ⟨c :: r, 0, 0⟩ 1 = (c, ⟨r, 0, 0⟩) := nextS_yes rfl rfl hc
    rw [e1]
    simp only
    rw [e2]
    simp only
    rw [e3]
    simp only
    rw [h0, if_pos rfl]
    have e4 : (RSt.fail ⟨r, 0, 0⟩ c.pos 171) = ⟨r, c.pos, 171⟩ := by
      unfold RSt.fail
      rw [if_pos rfl]
    rw [e4]
    show (nextS en ⟨r, c.pos, 171⟩ 4).2.er = 171 ∧ (nextS en ⟨r, c.pos, 171⟩ 4).2.pl = c.pos
    rw [nextS_er (show ¬ (171 : Nat) = 0 by decide)]
    exact ⟨rfl, rfl⟩
  obtain ⟨h1, h2⟩ := hs (endOf (a :: b :: c :: r))
  unfold parseRes
  simp only
  have hne : (stmtS dec (endOf (a :: b :: c :: r)) ⟨a :: b :: c :: r, 0, 0⟩).2.er ≠ 0 := by rw [h1]; decide
  have e : parseL dec (endOf (a :: b :: c :: r)) ((a :: b :: c :: r).length + 1) ⟨a :: b :: c :: r, 0, 0⟩ [] = ([(stmtS dec (endOf (a :: b :: c :: r)) ⟨a :: b :: c :: r, 0, 0⟩).1], (stmtS dec (endOf (a :: b :: c :: r)) ⟨a :: b :: c :: r, 0, 0⟩).2) := by
    conv => lhs; unfold parseL
    rw [if_pos rfl]
    simp only
    rw [if_neg (by rw [ha]; decide)]
    exact parseL_end (.inl hne)
  rw [e]
  simp only
  rw [if_neg hne, h1, h2]
/-! which lists are not of the kinds that are expected -/
/-- tokens of the kinds E, their numbers numbers -/
def Kds (dec : ByteArray → Nat × Nat) : List Nat → List PTok → Prop
  | [], [] => True
  | x :: e, t :: r => t.kind = x ∧ (x = 2 → (dec t.text).2 = 0) ∧ Kds dec e r
  | _, _ => False
theorem mis_shift : ∀ (F : List Nat) (x : Nat) (T : List PTok), x ≠ 4 → (∀ y ∈ F, y ≠ 4) → Kds dec (F ++ [4]) T → misD dec (x :: (F ++ [4])) T
  | [], x, t :: T, hx, _, h => .inl (by rw [h.1]; exact Ne.symm hx)
  | [], _, [], _, _, h => h.elim
  | y :: F, x, [], _, _, h => h.elim
  | y :: F, x, t :: T, hx, hF, h => by
    obtain ⟨h1, h2, h3⟩ := h
    by_cases hyx : y = x
    · exact .inr ⟨fun e => h2 (hyx.trans e), mis_shift F y T (hF y (by simp)) (fun z hz => hF z (by simp [hz])) h3⟩
    · exact .inl (by rw [h1]; exact hyx)
theorem mis_twice : ∀ (F : List Nat) (x : Nat) (t : PTok) (T : List PTok), x ≠ 4 → (∀ y ∈ F, y ≠ 4) → t.kind = x → (x = 2 → (dec t.text).2 = 0) → Kds dec (F ++ [4]) T → misD dec (F ++ [4]) (t :: T)
  | [], x, t, T, hx, _, ht, _, _ => .inl (by rw [ht]; exact hx)
  | y :: F, x, t, [], _, _, _, _, h => h.elim
  | y :: F, x, t, u :: T, hx, hF, ht, hd, h => by
    obtain ⟨h1, h2, h3⟩ := h
    by_cases hyx : y = x
    · exact .inr ⟨fun e => hd (hyx.symm.trans e), mis_twice F y u T (hF y (by simp)) (fun z hz => hF z (by simp [hz])) h1 h2 h3⟩
    · exact .inl (by rw [ht]; exact Ne.symm hyx)
/-- left out -/
theorem mis_less : ∀ (F : List Nat) (T : List PTok) (k : Nat), k < F.length → (∀ y ∈ F, y ≠ 4) → Kds dec (F ++ [4]) T → misD dec (F ++ [4]) (T.take k ++ T.drop (k + 1))
  | x :: F, t :: T, 0, _, hF, h => mis_shift F x T (hF x (by simp)) (fun z hz => hF z (by simp [hz])) h.2.2
  | x :: F, t :: T, k + 1, hk, hF, h => .inr ⟨h.2.1, mis_less F T k (by simpa using hk) (fun z hz => hF z (by simp [hz])) h.2.2⟩
  | x :: F, [], _, _, _, h => h.elim
  | [], _, _, hk, _, _ => absurd hk (Nat.not_lt_zero _)
/-- put twice -/
theorem mis_more : ∀ (F : List Nat) (T : List PTok) (k : Nat), k < F.length → (∀ y ∈ F, y ≠ 4) → Kds dec (F ++ [4]) T → misD dec (F ++ [4]) (T.take (k + 1) ++ T.drop k)
  | x :: F, t :: T, 0, _, hF, h => .inr ⟨h.2.1, mis_twice F x t T (hF x (by simp)) (fun z hz => hF z (by simp [hz])) h.1 h.2.1 h.2.2⟩
  | x :: F, t :: T, k + 1, hk, hF, h => .inr ⟨h.2.1, mis_more F T k (by simpa using hk) (fun z hz => hF z (by simp [hz])) h.2.2⟩
  | x :: F, [], _, _, _, h => h.elim
  | [], _, _, hk, _, _ => absurd hk (Nat.not_lt_zero _)
def turn (t : PTok) : PTok := { t with kind := t.kind % 4 + 1 }
/-- of another kind -/
theorem mis_other : ∀ (F : List Nat) (T : List PTok) (k : Nat) (h2 : k < T.length), k < F.length → (∀ y ∈ F, 1 ≤ y ∧ y ≤ 3) → Kds dec (F ++ [4]) T → misD dec (F ++ [4]) (T.set k (turn T[k]))
  | x :: F, t :: T, 0, _, _, hF, h => .inl (by
      have hx := hF x (by simp)
      show t.kind % 4 + 1 ≠ x
      rw [h.1]
      omega)
  | x :: F, t :: T, k + 1, h2, hk, hF, h => .inr ⟨h.2.1, mis_other F T k (by simpa using h2) (by simpa using hk) (fun z hz => hF z (by simp [hz])) h.2.2⟩
  | x :: F, [], _, h2, _, _, _ => absurd h2 (Nat.not_lt_zero _)
  | [], _, _, _, hk, _, _ => absurd hk (Nat.not_lt_zero _)
end Go.Proofs.YtejmbbkklhpnaaaGreatDoor.plm
