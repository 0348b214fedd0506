/- The walks of burnishref18.Node at any kind, and of burnishref18.Right. Conditions: the nodes' numbers are of 64 bits; they lie in memory, within the reach. -/
import Derived.Test.YtcbgkbidgpemfaaGreatDoorMp26
import Derived.Test.YtcbgkbidgpemfaaGreatDoorMp15
import Derived.Test.YtcbgkbidgpemfaaGreatDoorMp18
namespace Go.Proofs.YtcbgkbidgpemfaaGreatDoor.chkw
open Go.RowKit
open Go.Proofs.YtcbgkbidgpemfaaGreatDoor.lexw
open Go.Proofs.YtcbgkbidgpemfaaGreatDoor.parw
open Go.Proofs.YtcbgkbidgpemfaaGreatDoor.nodew
open Go.Proofs.YtcbgkbidgpemfaaGreatDoor.qt

set_option maxRecDepth 100000 in
set_option maxHeartbeats 2000000 in
theorem refnode_any (n : Nd) (hn : n.ok) (at_ : Int) (w : World) : Calls Tryz.prog 51 #[n.val, .int .i64 at_] w fun e w' => e = .returned (.bool (nodeOk n at_)) ∧ Below w.heap.size w w' := by
  by_cases h16 : 1 ≤ n.kind ∧ n.kind ≤ 6
  · have : n.kind = 1 ∨ n.kind = 2 ∨ n.kind = 3 ∨ n.kind = 4 ∨ n.kind = 5 ∨ n.kind = 6 := by omega
    rcases this with h | h | h | h | h | h
    · exact refnode_k1 n hn h at_ w
    · exact refnode_k2 n hn h at_ w
    · exact refnode_k3 n hn h at_ w
    · exact refnode_k4 n hn h at_ w
    · exact refnode_k5 n hn h at_ w
    · exact refnode_k6 n hn h at_ w
  · have hno : nodeOk n at_ = false := by
      rw [Bool.eq_false_iff]
      intro h
      have := kinds_six n.kind ((nodeOk_iff n hn.1 at_).1 h).2.2.2.1
      simp at this
      omega
    have e1 : ((n.kind : Int) == 1) = false := by rw [beq_eq_false_iff_ne]; omega
    have e2 : ((n.kind : Int) == 2) = false := by rw [beq_eq_false_iff_ne]; omega
    have e3 : ((n.kind : Int) == 3) = false := by rw [beq_eq_false_iff_ne]; omega
    have e4 : ((n.kind : Int) == 4) = false := by rw [beq_eq_false_iff_ne]; omega
    have e5 : ((n.kind : Int) == 5) = false := by rw [beq_eq_false_iff_ne]; omega
    have e6 : ((n.kind : Int) == 6) = false := by rw [beq_eq_false_iff_ne]; omega
    have HN := Lib.hid hno
    have HK := Lib.hid h16
    clear hno h16
    go_enter Tryz.func51, Tryz.ntmps51
    go_upto_region 0 with (fail)
    refine wp_region_lit ?_
    refine wl_val rfl _ (exec_box (.tmp 0) rfl _ _ n rfl) ?_
    have hbx := (Below.refl w.heap.size w).alloc (Nat.le_refl _) (.cells n.cells.toArray 49)
    have hnb : NBlk (w.alloc (.cells n.cells.toArray 49)) w.heap.size n := heap_alloc_new w _
    obtain ⟨W, hW⟩ : ∃ W, W = w.alloc (.cells n.cells.toArray 49) := ⟨_, rfl⟩
    rw [← hW] at hbx hnb ⊢
    clear hW
    obtain ⟨nb, hnbe⟩ : ∃ nb, nb = w.heap.size := ⟨_, rfl⟩
    rw [← hnbe] at hnb ⊢
    clear hnbe
    have x0 : W.cell? ⟨nb, 0, none⟩ = some (.int .u8 n.kind) := (hnb.cell 0).trans rfl
    have HB0 := Lib.hid hbx
    clear hbx hnb
    obtain ⟨kk, hkk⟩ : ∃ kk, n.kind = kk := ⟨_, rfl⟩
    have HK := HK.out
    rw [hkk] at x0 e1 e2 e3 e4 e5 e6 HK
    by_cases h0 : kk = 0
    · subst h0
      clear e1 e2 e3 e4 e5 e6 HK
      go_wp2_with fail
      go_ret
      exact ⟨nodew.ret_bool (by rw [HN.out]), HB0.out⟩
    · have h7 : (6 : Int) < (kk : Int) := by omega
      have h1 : ¬ (kk : Int) < 1 := by omega
      clear h0 HK hkk
      go_wp2_with fail
      go_ret
      exact ⟨nodew.ret_bool (by rw [HN.out]), HB0.out⟩

set_option maxRecDepth 100000 in
set_option maxHeartbeats 4000000 in
theorem refright_any (B : Nat) (v : Value) (l : List Nd) (hok : ∀ n ∈ l, n.ok) (hl : l.length ≤ 1000000000000) (w : World) (hr : NRead w B v l) (_hB : B ≤ w.heap.size) :
    Calls Tryz.prog 39 #[v] w fun e w' => e = .returned (.bool (rightP l)) ∧ Below w.heap.size w w' := by
  obtain ⟨A, c, rfl, hx⟩ := hr
  go_enter Tryz.func39, Tryz.ntmps39
  go_wp2_with fail
  go_loopw [3] (fun i wr => ∃ k : Nat, k ≤ l.length ∧ i = .int .i64 k ∧ Below w.heap.size w wr ∧ ∀ j (hj : j < l.length), j < k → nodeOk l[j] j = true) (fun i _ => l.length - (intOf i).toNat)
  case atStart => exact ⟨0, Nat.zero_le _, rfl, Below.refl _ _, fun _ _ h => by omega⟩
  case round =>
    obtain ⟨k, hk, rfl, hBr, hall⟩ := hrel
    have hz := hBr.size
    by_cases hkl : k < l.length
    · obtain ⟨g, off, rfl, hgB, hgl, hcell⟩ := hx (by intro e; subst e; simp at hkl)
      obtain ⟨n, hn⟩ : ∃ n, l[k] = n := ⟨_, rfl⟩
      have hno : n.ok := hok n (by rw [← hn]; exact List.getElem_mem hkl)
      have hrg : wr.rangeAt g (off + k * 19) n.cells := fun j u hu => by
        have hj : j < 19 := by have := (List.getElem?_eq_some_iff.1 hu).1; rwa [nd_cells_len] at this
        rw [Nat.add_assoc]
        exact (World.cell?_of_block (a := ⟨g, off + (k * 19 + j), none⟩) (hBr.block g hgl)).trans (hcell (k * 19 + j) u (by rw [ncells_get l k j hkl hj, hn]; exact hu))
      have HA := Lib.hid hall
      have HN := Lib.hid hn
      have HR := Lib.hid hrg
      have hk0 : (0 : Int) ≤ (k : Int) := by omega
      have hkl' : (k : Int) < (l.length : Int) := by omega
      have hq := refnode_any n hno k wr
      obtain ⟨q, hqe⟩ : ∃ q, nodeOk n k = q := ⟨_, rfl⟩
      rw [hqe] at hq
      have HC := Lib.hid hq
      have HQ := Lib.hid hqe
      clear hall hno hn hcell hrg hq hqe
      cases q with
      | true =>
        go_wp2_with (refine wpList_load_mid rfl 49 (.tmp 12) rfl g (off + k * 19) rfl n.cells _ HR.out Tryz.underlying49 rfl (by kernel_rfl) ?_)
        refine HC.out.mono ?_
        rintro e wy ⟨rfl, hBy⟩
        have hBz := hBr.trans (hBy.mono hz)
        have HBZ := Lib.hid hBz
        clear hBz hBy hBr
        go_wp2_with fail
        go_roundw
        case rel =>
          refine ⟨k + 1, by omega, by go_num, HBZ.out, fun j hj hjk => ?_⟩
          by_cases e : j = k
          · subst e; rw [HN.out]; exact HQ.out
          · exact HA.out j hj (by omega)
        case measure => simp [intOf]; omega
      | false =>
        have hbad : rightP l = false := rightP_bad hkl (by rw [HN.out]; exact HQ.out)
        have HB := Lib.hid hbad
        clear hbad
        go_wp2_with (refine wpList_load_mid rfl 49 (.tmp 12) rfl g (off + k * 19) rfl n.cells _ HR.out Tryz.underlying49 rfl (by kernel_rfl) ?_)
        refine HC.out.mono ?_
        rintro e wy ⟨rfl, hBy⟩
        have hBz := hBr.trans (hBy.mono hz)
        have HBZ := Lib.hid hBz
        clear hBz hBy hBr
        go_wp2_with fail
        go_ret
        exact ⟨nodew.ret_bool HB.out.symm, HBZ.out⟩
    · obtain rfl : k = l.length := by omega
      have hg := rightP_good fun j hj => hall j hj hj
      have HG := Lib.hid hg
      clear hg hall
      go_wp2_with fail
      all_goals go_ret
      all_goals refine ⟨nodew.ret_bool ?_, hBr⟩
      all_goals rw [HG.out]
      all_goals by_cases h1 : 0 < l.length
      all_goals by_cases h2 : l.length ≤ 4096
      all_goals simp [h1, h2]
      all_goals omega
end Go.Proofs.YtcbgkbidgpemfaaGreatDoor.chkw

/- The walk of parse.Word. Condition: the kind is a byte. -/
namespace Go.Proofs.YtcbgkbidgpemfaaGreatDoor.parw
open Go.RowKit
open Go.Proofs.YtcbgkbidgpemfaaGreatDoor.lexw

def wordF (k : Nat) : ByteArray := wordsL.getD k ⟨#[]⟩
end Go.Proofs.YtcbgkbidgpemfaaGreatDoor.parw

/- burnishref17: a statement from a token on, as a list function, is what the parser's reader makes of it. Plain; no condition but those stated. -/
namespace Go.Proofs.YtcbgkbidgpemfaaGreatDoor.rg
open Go.Proofs.YtcbgkbidgpemfaaGreatDoor.parw

variable {dec : ByteArray → Nat × Nat} {en : Int}
/-- how many numbers, and how many words, stand behind a kind -/
def behF (k : Nat) : Nat × Nat := if k = 1 then (3, 0) else if k = 2 then (4, 0) else if k = 3 then (2, 0) else if k = 4 then (7, 0) else if k = 5 then (1, 2) else (4, 1)
def wantF (i nb wd : Nat) : Nat := if i = 1 then 3 else if i = 3 + nb + wd then 4 else if 3 ≤ i ∧ i < 3 + nb then 2 else 1
/-- a statement from a token on, and what is left; or the first error, and that one's place -/
def lineL (dec : ByteArray → Nat × Nat) (en : Int) : List PTok → Nat → Nat → Nat → PStmt → (PStmt × List PTok) ⊕ (Int × Nat)
  | [], i, nb, wd, s => if 3 + nb + wd + 1 ≤ i then .inl (s, []) else .inr (en, 170)
  | t :: r, i, nb, wd, s =>
    if 3 + nb + wd + 1 ≤ i then .inl (s, t :: r)
    else if t.kind ≠ wantF i nb wd then .inr (t.pos, 170)
    else if i = 0 then lineL dec en r 1 nb wd { s with name := t.text, pos := t.pos }
    else if i = 2 then (if kindF t.text = 0 then .inr (t.pos, 171) else lineL dec en r 3 (behF (kindF t.text)).1 (behF (kindF t.text)).2 { s with kind := kindF t.text })
    else if wantF i nb wd = 2 then (if (dec t.text).2 = 0 then lineL dec en r (i + 1) nb wd { s with args := s.args ++ [⟨t.pos, (dec t.text).1, ⟨#[]⟩⟩] } else .inr (t.pos, (dec t.text).2))
    else if wantF i nb wd = 1 then lineL dec en r (i + 1) nb wd { s with args := s.args ++ [⟨t.pos, 0, t.text⟩] }
    else lineL dec en r (i + 1) nb wd s
end Go.Proofs.YtcbgkbidgpemfaaGreatDoor.rg

/- burnishref17: the walks of Word, Kind and behind. Conditions: as each theorem states. -/
namespace Go.Proofs.YtcbgkbidgpemfaaGreatDoor.rg
open Go.RowKit
open Go.Proofs.YtcbgkbidgpemfaaGreatDoor.parw
open Go.Proofs.YtcbgkbidgpemfaaGreatDoor.lexw

theorem word_no (k : Nat) (h : k = 0 ∨ 7 ≤ k) : wordF k = ⟨#[]⟩ := by
  rcases h with rfl | h
  · rfl
  · unfold wordF
    rw [List.getD_eq_getElem?_getD, List.getElem?_eq_none (by show 7 ≤ k; omega)]
    rfl
theorem rword_any (k : Nat) (w : World) : Calls Tryz.prog 9 #[.int .u8 k] w fun e w' => e = .returned (.string (wordF k)) ∧ w' = w := by
  by_cases h1 : k = 1
  case' neg => by_cases h2 : k = 2
  case' neg => by_cases h3 : k = 3
  case' neg => by_cases h4 : k = 4
  case' neg => by_cases h5 : k = 5
  case' neg => by_cases h6 : k = 6
  case neg =>
    have e1 : ((k : Int) == 1) = false := by rw [beq_eq_false_iff_ne]; omega
    have e2 : ((k : Int) == 2) = false := by rw [beq_eq_false_iff_ne]; omega
    have e3 : ((k : Int) == 3) = false := by rw [beq_eq_false_iff_ne]; omega
    have e4 : ((k : Int) == 4) = false := by rw [beq_eq_false_iff_ne]; omega
    have e5 : ((k : Int) == 5) = false := by rw [beq_eq_false_iff_ne]; omega
    have e6 : ((k : Int) == 6) = false := by rw [beq_eq_false_iff_ne]; omega
    rw [word_no k (by omega)]
    clear h1 h2 h3 h4 h5 h6
    go_enter Tryz.func9, Tryz.ntmps9
    go_wp2
    go_ret
    exact ⟨rfl, rfl⟩
  all_goals
    subst_vars
    go_enter Tryz.func9, Tryz.ntmps9
    go_wp2
    go_ret
    exact ⟨rfl, rfl⟩
end Go.Proofs.YtcbgkbidgpemfaaGreatDoor.rg
