/- The pick of one of two places. No conditions but those stated. -/
import Derived.Test.YtlhdabpoljoobaaFlaA
import Derived.Test.YtlhdabpoljoobaaFlaF
import Derived.Test.YtlhdabpoljoobaaFlaC
import Derived.Test.YtlhdabpoljoobaaFlaS
namespace Go.Proofs.Ytlhdabpoljoobaa.flatw
open Go.RowKit Go.Shelf
open Go.Proofs.Ytlhdabpoljoobaa.nodew
open Go.Proofs.Ytlhdabpoljoobaa.chkw
open Go.Proofs.Ytlhdabpoljoobaa.flatm

def SamePost (w : World) (v : Value) (e : Ending) (w' : World) : Prop := e = .returned v ∧ w' = w
theorem pick_odd {bs : List Nat} {i at_ : Nat} (h : i < bs.length) (h2 : bs.getD i 0 % 2 = 1) : pickF bs i at_ = 3 * at_ + 2 := if_pos ⟨h, h2⟩
theorem pick_even {bs : List Nat} {i at_ : Nat} (h2 : ¬ bs.getD i 0 % 2 = 1) : pickF bs i at_ = 3 * at_ := if_neg (fun h => h2 h.2)
theorem pick_far {bs : List Nat} {i at_ : Nat} (h : ¬ i < bs.length) : pickF bs i at_ = 3 * at_ := if_neg (fun h' => h h'.1)
set_option maxRecDepth 100000 in
set_option maxHeartbeats 1000000 in
theorem pick_any (bs : List Nat) (hb : ∀ b ∈ bs, b < 256) (bb : Nat) (v : Value) (i at_ : Nat) (hi : i ≤ 1000000) (ha : at_ ≤ 1000000) (B : Nat) (w : World) (hx : Boxed w bb 39 v) (hv : BArg w B v bs) :
    Calls Try.prog 19 #[.int .i64 i, .int .i64 at_, .pointer (some ⟨bb, 0, none⟩)] w (SamePost w (.int .i64 (pickF bs i at_ : Nat))) := by
  obtain ⟨A, c, rfl, hcell⟩ := hv
  have cb := hx.cell
  have i0 : (0 : Int) ≤ (i : Int) := by omega
  have a0 : (0 : Int) ≤ (at_ : Int) := by omega
  by_cases hl : i < bs.length
  · obtain ⟨g, off, rfl, _, hgl, hc⟩ := hcell (by intro e; subst e; simp at hl)
    have cc := hc i hl
    obtain ⟨b, hbb⟩ : ∃ b, bs[i] = b := ⟨_, rfl⟩
    have hgd : bs.getD i 0 = b := by rw [List.getD_eq_getElem?_getD, List.getElem?_eq_getElem hl, hbb]; rfl
    have hb2 : b < 256 := by rw [← hbb]; exact hb _ (List.getElem_mem hl)
    rw [hbb] at cc
    have b0 : (0 : Int) ≤ (b : Int) := by omega
    have b1 : (b : Int) < 256 := by omega
    by_cases h2 : b % 2 = 1
    · have hp := pick_odd (at_ := at_) hl (by rw [hgd]; exact h2)
      have HP := Lib.hid hp
      have m2 : (((b : Int).tmod 2) == 1) = true := by rw [beq_iff_eq, Int.tmod_eq_emod_of_nonneg b0]; omega
      have m3 : (((b : Int) % 2) == 1) = true := by rw [beq_iff_eq]; omega
      clear hp h2 hgd hbb hc hcell hx
      go_enter Try.func19, Try.ntmps19
      go_wp2
      go_ret
      exact ⟨by rw [HP.out]; congr 2, rfl⟩
    · have hp := pick_even (at_ := at_) (bs := bs) (i := i) (by rw [hgd]; exact h2)
      have HP := Lib.hid hp
      have m2 : (((b : Int).tmod 2) == 1) = false := by rw [beq_eq_false_iff_ne, ne_eq, Int.tmod_eq_emod_of_nonneg b0]; omega
      have m3 : (((b : Int) % 2) == 1) = false := by rw [beq_eq_false_iff_ne]; omega
      clear hp h2 hgd hbb hc hcell hx
      go_enter Try.func19, Try.ntmps19
      go_wp2
      go_ret
      exact ⟨by rw [HP.out]; congr 2, rfl⟩
  · have hp := pick_far (at_ := at_) hl
    have HP := Lib.hid hp
    clear hp hx hcell
    go_enter Try.func19, Try.ntmps19
    go_wp2
    go_ret
    exact ⟨by rw [HP.out]; congr 2, rfl⟩
end Go.Proofs.Ytlhdabpoljoobaa.flatw
