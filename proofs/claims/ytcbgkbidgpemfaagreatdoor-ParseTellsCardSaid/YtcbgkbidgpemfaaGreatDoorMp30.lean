/- The walk of burnishlaw17.Of at a text. Conditions: as each theorem states. -/
import Derived.Test.YtcbgkbidgpemfaaGreatDoorMp28
import Derived.Test.YtcbgkbidgpemfaaGreatDoorMp29
namespace Go.Proofs.YtcbgkbidgpemfaaGreatDoor.awaw
open Go.RowKit
open Go.Proofs.YtcbgkbidgpemfaaGreatDoor.lexm
open Go.Proofs.YtcbgkbidgpemfaaGreatDoor.lexw
open Go.Proofs.YtcbgkbidgpemfaaGreatDoor.parw
open Go.Proofs.YtcbgkbidgpemfaaGreatDoor.flow

def toP (t : Tok) : PTok := ⟨t.kind, t.pos, ⟨t.text.toArray⟩⟩
theorem pcells_toP (ts : List Tok) : pcells (ts.map toP) = cellsOf ts := by
  induction ts with
  | nil => rfl
  | cons t r ih => rw [List.map_cons, pcells_cons, ih]; rfl
theorem PRow.of_own {W : World} {base : Nat} {v : Value} {ts : List Tok} (h : W.ownsRow base 27 3 v ts.length (cellsOf ts)) : PRow W W.heap.size v (ts.map toP) := by
  rcases h.2 with ⟨rfl, hn⟩ | ⟨g, cap, cur, rfl, _, hgg, hc, _⟩
  · exact ⟨none, 0, by rw [List.length_map, hn], by rw [List.length_map, hn]; exact Nat.le_refl _, fun h0 => absurd (by rw [List.eq_nil_of_length_eq_zero hn]; rfl) h0⟩
  · refine ⟨_, cap, by rw [List.length_map], by rw [List.length_map]; exact hc, fun _ => ⟨g, 0, rfl, (Array.getElem?_eq_some_iff.1 hgg).1, fun j u hu => ?_⟩⟩
    rw [pcells_toP] at hu
    have hc := h.cells (g := g) rfl j u hu
    have hadd : (⟨g, 0, none⟩ : Addr).add j = ⟨g, j, none⟩ := by unfold Addr.add; split <;> simp_all
    rw [hadd] at hc
    rw [Nat.zero_add]
    exact hc
theorem Stable.more {G : World → Prop} {B B' : Nat} (h : Stable G B) (hb : B ≤ B') : Stable G B' := fun w w' row hG hg hr => h w w' row hG hg fun r e => Nat.le_trans hb (hr r e)

/-- what Of hands back -/
def OfPost (w : World) (r : List PStmt × Int × Nat) (e : Ending) (w' : World) : Prop :=
  ∃ o, e = .returned (.tuple #[o, .int .i64 r.2.1, .int .i64 r.2.2]) ∧ SRead w' w'.heap.size o r.1 ∧ Below w.heap.size w w'

theorem of_any (dec : ByteArray → Nat × Nat) (G : World → Prop) (B : Nat) (hG : Stable G B) (s : ByteArray) (hs : s.size ≤ maxLen) (ts : List Tok) (hts : ts.length ≤ 1000000000000) (i er : Nat) (h : lexRes s.data.toList = (ts, i, er)) (r : List PStmt × Int × Nat)
    (hr : parseRes dec (ts.map toP) = r) (hd : DecOk dec G (ts.map toP)) (w : World) (hw : G w) (hB : B ≤ w.heap.size) :
    Calls Tryz.prog 32 #[.string s] w (OfPost w r) := by
  go_enter Tryz.func32, Tryz.ntmps32
  go_wp2_with fail
  refine (reflex_any s hs _).mono ?_
  rintro e w1 ⟨v, rfl, hown, hB1⟩
  rw [h] at hown ⊢
  simp only at hown ⊢
  have hp := PRow.of_own hown
  have hw1 := hG w w1 none hw (grown_below hB1 none) (fun r e => by cases e)
  have hs1 := hB1.size
  have hc := parse_any dec G (ts.map toP) (by simpa using hts) v w1 (Stable.more hG (by omega)) hd hp hw1
  rw [hr] at hc
  clear hown hp hr h
  go_wp2_with fail
  refine hc.mono ?_
  rintro e w2 ⟨o, rfl, ho, hB2⟩
  go_wp2_with fail
  go_ret3
  exact ⟨o, rfl, .of_row ho, hB1.trans (hB2.mono hs1)⟩

end Go.Proofs.YtcbgkbidgpemfaaGreatDoor.awaw

/- The chapter's examples: what Of hands back at six texts. Condition: three of strconv's variables hold what the program's text lays. -/
namespace Go.Proofs.YtcbgkbidgpemfaaGreatDoor.awaw
open Go.RowKit
open Go.Proofs.YtcbgkbidgpemfaaGreatDoor.lexm
open Go.Proofs.YtcbgkbidgpemfaaGreatDoor.lexw
open Go.Proofs.YtcbgkbidgpemfaaGreatDoor.parw
open Go.Proofs.YtcbgkbidgpemfaaGreatDoor.flow

theorem of_ex (B : Nat) (s : ByteArray) (r : List PStmt × Int × Nat) (hs : s.size ≤ maxLen) (h1 : decide ((lexRes s.data.toList).1.length ≤ 1000) = true) (h2 : parseRes decE ((lexRes s.data.toList).1.map toP) = r) (w : World) (hw : Laid B w) (hB : B ≤ w.heap.size) :
    Calls Tryz.prog 32 #[.string s] w (OfPost w r) := by
  have h1 := of_decide_eq_true h1
  exact of_any decE (Laid B) B (Laid.stable B) s hs (lexRes s.data.toList).1 (by omega) (lexRes s.data.toList).2.1 (lexRes s.data.toList).2.2 rfl r h2 (dec_ok B _) w hw hB

def res0 : List PStmt × Int × Nat := ([⟨⟨#[97]⟩, 0, 1, [⟨12, 4602678819172646912, ⟨#[]⟩⟩, ⟨16, 4607182418800017408, ⟨#[]⟩⟩, ⟨18, 0, ⟨#[]⟩⟩]⟩], 0, 0)
theorem of_0 (B : Nat) (w : World) (hw : Laid B w) (hB : B ≤ w.heap.size) : Calls Tryz.prog 32 #[.string ⟨#[97, 32, 61, 32, 108, 97, 109, 98, 101, 114, 116, 32, 48, 46, 53, 32, 49, 32, 48]⟩] w (OfPost w res0) :=
  of_ex B _ _ (by decide) (by decide +kernel) (by kernel_rfl) w hw hB
def res1 : List PStmt × Int × Nat := ([], 4, 171)
theorem of_1 (B : Nat) (w : World) (hw : Laid B w) (hB : B ≤ w.heap.size) : Calls Tryz.prog 32 #[.string ⟨#[97, 32, 61, 32, 103, 108, 97, 115, 115, 32, 49]⟩] w (OfPost w res1) :=
  of_ex B _ _ (by decide) (by decide +kernel) (by kernel_rfl) w hw hB
def res2 : List PStmt × Int × Nat := ([], 2, 170)
theorem of_2 (B : Nat) (w : World) (hw : Laid B w) (hB : B ≤ w.heap.size) : Calls Tryz.prog 32 #[.string ⟨#[97, 32, 108, 97, 109, 98, 101, 114, 116]⟩] w (OfPost w res2) :=
  of_ex B _ _ (by decide) (by decide +kernel) (by kernel_rfl) w hw hB
def res3 : List PStmt × Int × Nat := ([], 13, 170)
theorem of_3 (B : Nat) (w : World) (hw : Laid B w) (hB : B ≤ w.heap.size) : Calls Tryz.prog 32 #[.string ⟨#[97, 32, 61, 32, 109, 105, 120, 32, 48, 46, 53, 32, 98]⟩] w (OfPost w res3) :=
  of_ex B _ _ (by decide) (by decide +kernel) (by kernel_rfl) w hw hB
def res4 : List PStmt × Int × Nat := ([], 12, 160)
theorem of_4 (B : Nat) (w : World) (hw : Laid B w) (hB : B ≤ w.heap.size) : Calls Tryz.prog 32 #[.string ⟨#[97, 32, 61, 32, 112, 108, 97, 115, 116, 105, 99, 32, 49, 46, 46, 50, 32, 50]⟩] w (OfPost w res4) :=
  of_ex B _ _ (by decide) (by decide +kernel) (by kernel_rfl) w hw hB
def res5 : List PStmt × Int × Nat := ([], 19, 170)
theorem of_5 (B : Nat) (w : World) (hw : Laid B w) (hB : B ≤ w.heap.size) : Calls Tryz.prog 32 #[.string ⟨#[97, 32, 61, 32, 99, 111, 97, 116, 32, 49, 46, 53, 32, 49, 32, 49, 32, 49, 32, 49]⟩] w (OfPost w res5) :=
  of_ex B _ _ (by decide) (by decide +kernel) (by kernel_rfl) w hw hB

end Go.Proofs.YtcbgkbidgpemfaaGreatDoor.awaw

/- The walk of burnishlaw17.Same at two rows that are the same. Condition: both lie in memory, within the reach. -/
namespace Go.Proofs.YtcbgkbidgpemfaaGreatDoor.parw
open Go.RowKit
open Go.Proofs.YtcbgkbidgpemfaaGreatDoor.lexw
attribute [local go_sem] run_store_float

set_option maxRecDepth 100000 in
set_option maxHeartbeats 4000000 in
theorem same17_eq (B : Nat) (v1 v2 : Value) (l : List PStmt) (w : World) (h1 : SRead w B v1 l) (h2 : SRead w B v2 l) (hB : B ≤ w.heap.size) (hl : l.length ≤ 1000000000000) (hal : ∀ s ∈ l, s.args.length ≤ 1000000000000) :
    Calls Tryz.prog 13 #[v1, v2] w fun e w' => e = .returned (.bool true) ∧ Below w.heap.size w w' := by
  obtain ⟨vs1, A1, c1, hl1, rfl, hx1, ha1⟩ := h1
  obtain ⟨vs2, A2, c2, hl2, rfl, hx2, ha2⟩ := h2
  go_enter Tryz.func13, Tryz.ntmps13
  go_wp2_with fail
  go_loopw [18] (fun i wr => ∃ k : Nat, k ≤ l.length ∧ i = .int .i64 k ∧ w.grownBy wr none) (fun i _ => l.length - (intOf i).toNat)
  case atStart => exact ⟨0, Nat.zero_le _, rfl, World.grownBy.refl _ _⟩
  case round =>
    obtain ⟨k, hk, rfl, hg⟩ := hrel
    by_cases hkl : k < l.length
    · obtain ⟨g1, o1, rfl, hb1, hc1⟩ := hx1 (by intro e; subst e; simp at hkl)
      obtain ⟨g2, o2, rfl, hb2, hc2⟩ := hx2 (by intro e; subst e; simp at hkl)
      have hK : ∀ g, g < B → g < w.heap.size → wr.heap[g]? = w.heap[g]? := fun g _ h => hg.block g h (by simp)
      obtain ⟨s, hs⟩ : ∃ s, l[k] = s := ⟨_, rfl⟩
      obtain ⟨u1, hu1⟩ : ∃ u, vs1[k]'(by omega) = u := ⟨_, rfl⟩
      obtain ⟨u2, hu2⟩ : ∃ u, vs2[k]'(by omega) = u := ⟨_, rfl⟩
      have r1 := (ha1 k (by omega) hkl).keep hK
      have r2 := (ha2 k (by omega) hkl).keep hK
      rw [hs, hu1] at r1
      rw [hs, hu2] at r2
      have q1 : ∀ j u, (stCells s u1)[j]? = some u → wr.cell? ⟨g1, o1 + k * 4 + j, none⟩ = some u := fun j u hu => by
        have hj : j < 4 := by have := (List.getElem?_eq_some_iff.1 hu).1; simpa [stCells] using this
        have h := hc1 (k * 4 + j) u (by rw [scells_get l vs1 k j (by omega) hkl hj hl1, hs, hu1]; exact hu)
        rw [Nat.add_assoc]
        exact (World.cell?_of_block (a := ⟨g1, o1 + (k * 4 + j), none⟩) (hK g1 hb1 (by omega))).trans h
      have q2 : ∀ j u, (stCells s u2)[j]? = some u → wr.cell? ⟨g2, o2 + k * 4 + j, none⟩ = some u := fun j u hu => by
        have hj : j < 4 := by have := (List.getElem?_eq_some_iff.1 hu).1; simpa [stCells] using this
        have h := hc2 (k * 4 + j) u (by rw [scells_get l vs2 k j (by omega) hkl hj hl2, hs, hu2]; exact hu)
        rw [Nat.add_assoc]
        exact (World.cell?_of_block (a := ⟨g2, o2 + (k * 4 + j), none⟩) (hK g2 hb2 (by omega))).trans h
      have hsl : s.args.length ≤ 1000000000000 := hal s (by rw [← hs]; exact List.getElem_mem hkl)
      have x0 := q1 0 _ rfl
      have x1 := q1 1 _ rfl
      have x2 := q1 2 _ rfl
      have x3 := q1 3 _ rfl
      have y0 := q2 0 _ rfl
      have y1 := q2 1 _ rfl
      have y2 := q2 2 _ rfl
      have y3 := q2 3 _ rfl
      rw [Nat.add_zero] at x0 y0
      obtain ⟨D1, d1, rfl, hr1⟩ := r1
      obtain ⟨D2, d2, rfl, hr2⟩ := r2
      have hsz := hg.size
      have hg1l : g1 < wr.heap.size := by omega
      have hg2l : g2 < wr.heap.size := by omega
      clear q1 q2 hc1 hc2 hs hu1 hu2 hK
      go_upto_region 6 with (fail)
      go_cut [6, 7] from 21 to 28 (fun x y wx => ∃ bx by_, x = .pointer (some ⟨bx, 0, none⟩) ∧ y = .pointer (some ⟨by_, 0, none⟩) ∧ wr.heap.size ≤ bx ∧ wr.heap.size ≤ by_ ∧ wr.grownBy wx none ∧
        wx.heap[bx]? = some (.cells #[.string s.name, .int .i64 s.pos, .int .u8 s.kind, .slice D1 s.args.length d1] 62 (0, 0)) ∧ wx.heap[by_]? = some (.cells #[.string s.name, .int .i64 s.pos, .int .u8 s.kind, .slice D2 s.args.length d2] 62 (0, 0)))
      case first =>
        go_region
        · go_wp2_with fail
          go_meet
          exact ⟨wr.heap.size, wr.heap.size + 1, rfl, rfl, Nat.le_refl _, by omega, grown_drew (grown_trans (World.grownBy_alloc wr _ _) (World.grownBy_alloc _ _ _)), (World.heap_alloc_lt' _ _ _ (by simp)).trans (heap_at wr _ _ rfl), heap_at _ _ _ (by simp)⟩
        · go_wp2_with fail
          go_meet
          exact ⟨wr.heap.size + 1, wr.heap.size, rfl, rfl, by omega, Nat.le_refl _, grown_drew (grown_trans (World.grownBy_alloc wr _ _) (World.grownBy_alloc _ _ _)), heap_at _ _ _ (by simp), (World.heap_alloc_lt' _ _ _ (by simp)).trans (heap_at wr _ _ rfl)⟩
      case rest =>
        obtain ⟨bx, by_, rfl, rfl, hbx, hby, gx, kx, ky⟩ := hcut
        have hgx := grown_trans hg gx
        have hbxl : bx < wc.heap.size := (Array.getElem?_eq_some_iff.1 kx).1
        have hbyl : by_ < wc.heap.size := (Array.getElem?_eq_some_iff.1 ky).1
        have hr1' : ARead wc B (.slice D1 s.args.length d1) s.args := ARead.keep ⟨D1, d1, rfl, hr1⟩ fun g _ h => gx.block g h (by simp)
        have hr2' : ARead wc B (.slice D2 s.args.length d2) s.args := ARead.keep ⟨D2, d2, rfl, hr2⟩ fun g _ h => gx.block g h (by simp)
        have X0 := (cell_of_row wc bx 0 _ _ _ kx).trans rfl
        have X1 := (cell_of_row wc bx 1 _ _ _ kx).trans rfl
        have X2 := (cell_of_row wc bx 2 _ _ _ kx).trans rfl
        have X3 := (cell_of_row wc bx 3 _ _ _ kx).trans rfl
        have Y0 := (cell_of_row wc by_ 0 _ _ _ ky).trans rfl
        have Y1 := (cell_of_row wc by_ 1 _ _ _ ky).trans rfl
        have Y2 := (cell_of_row wc by_ 2 _ _ _ ky).trans rfl
        have Y3 := (cell_of_row wc by_ 3 _ _ _ ky).trans rfl
        have hse : (s.name.toList == s.name.toList) = true := by simp
        clear x0 x1 x2 x3 y0 y1 y2 y3 hr1 hr2 gx hx1 hx2 ha1 ha2
        have hwc : B ≤ wc.heap.size := by have := hgx.size; omega
        generalize hWC : wc = w2 at *
        clear hWC
        go_wp2_with fail
        go_loopw [60] (fun i wr => ∃ j : Nat, j ≤ s.args.length ∧ i = .int .i64 j ∧ w2.grownBy wr none) (fun i _ => s.args.length - (intOf i).toNat)
        case atStart => exact ⟨0, Nat.zero_le _, rfl, World.grownBy.refl _ _⟩
        case round =>
          obtain ⟨j, hj, rfl, hg2⟩ := hrel
          have hz2 := hg2.size
          have kx2 := (hg2.block bx hbxl (by simp)).trans kx
          have ky2 := (hg2.block by_ hbyl (by simp)).trans ky
          by_cases hjl : j < s.args.length
          · obtain ⟨_, _, e1, hq1⟩ := hr1'
            obtain ⟨_, _, e2, hq2⟩ := hr2'
            injection e1 with e1 _ e1'
            injection e2 with e2 _ e2'
            subst e1 e2 e1' e2'
            obtain ⟨ga, oa, rfl, hga, hca⟩ := hq1 (by intro e; rw [e] at hjl; simp at hjl)
            obtain ⟨gb, ob, rfl, hgb, hcb⟩ := hq2 (by intro e; rw [e] at hjl; simp at hjl)
            obtain ⟨a, ha⟩ : ∃ a, s.args[j] = a := ⟨_, rfl⟩
            have p1 : ∀ i u, a.cells[i]? = some u → wr.cell? ⟨ga, oa + j * 3 + i, none⟩ = some u := fun i u hu => by
              have hi : i < 3 := by have := (List.getElem?_eq_some_iff.1 hu).1; simpa [PArg.cells] using this
              rw [Nat.add_assoc]
              exact (World.cell?_of_block (a := ⟨ga, oa + (j * 3 + i), none⟩) (hg2.block ga (by omega) (by simp))).trans (hca (j * 3 + i) u (by rw [acells_get _ j i hjl hi, ha]; exact hu))
            have p2 : ∀ i u, a.cells[i]? = some u → wr.cell? ⟨gb, ob + j * 3 + i, none⟩ = some u := fun i u hu => by
              have hi : i < 3 := by have := (List.getElem?_eq_some_iff.1 hu).1; simpa [PArg.cells] using this
              rw [Nat.add_assoc]
              exact (World.cell?_of_block (a := ⟨gb, ob + (j * 3 + i), none⟩) (hg2.block gb (by omega) (by simp))).trans (hcb (j * 3 + i) u (by rw [acells_get _ j i hjl hi, ha]; exact hu))
            have a0 := p1 0 _ rfl
            have a1 := p1 1 _ rfl
            have a2 := p1 2 _ rfl
            have b0 := p2 0 _ rfl
            have b1 := p2 1 _ rfl
            have b2 := p2 2 _ rfl
            rw [Nat.add_zero] at a0 b0
            have Y3' := (cell_of_row wr by_ 3 _ _ _ ky2).trans rfl
            have hgal : ga < wr.heap.size := by omega
            have hgbl : gb < wr.heap.size := by omega
            have hbyl2 : by_ < wr.heap.size := by omega
            have hne : (a.name.toList == a.name.toList) = true := by simp
            clear p1 p2 hca hcb hq1 hq2 ha kx2 ky2 X0 X1 X2 X3 Y0 Y1 Y2 Y3
            go_wp2_with (go_at_call 35; refine (same01_self _ _).mono ?_; rintro e wq ⟨rfl, rfl⟩)
            go_roundw
            case rel => exact ⟨j + 1, by omega, by go_num, grown_trans hg2 (grown_trans (World.grownBy_alloc wr _ _) (World.grownBy_alloc _ _ _))⟩
            case measure => simp [intOf]; omega
          · obtain rfl : j = s.args.length := by omega
            go_wp2_with fail
            go_roundw
            case rel => exact ⟨k + 1, by omega, by go_num, grown_trans hgx hg2⟩
            case measure => simp [intOf]; omega
    · obtain rfl : k = l.length := by omega
      go_wp2_with fail
      go_ret
      exact ⟨rfl, below_of_grown hg⟩

end Go.Proofs.YtcbgkbidgpemfaaGreatDoor.parw
