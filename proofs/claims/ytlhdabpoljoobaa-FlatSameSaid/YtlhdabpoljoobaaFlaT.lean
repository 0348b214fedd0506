/- What lies below a node, and the maker of the iterator. No conditions but those stated. -/
import Derived.Test.YtlhdabpoljoobaaFlaW
import Derived.Test.YtlhdabpoljoobaaFlaB
import Derived.Test.YtlhdabpoljoobaaFlaN
import Derived.RangeFuncBound
import Derived.RangeFuncCalls
import Derived.RangeFuncLeaves
import Derived.Shelf.Abstract
import Derived.Shelf.RegionOpen
import Derived.OwnWalkIn
import Derived.TacticsInMore
import Derived.LoopNIn
import Derived.LoopIn
namespace Go.Proofs.Ytlhdabpoljoobaa.flatw
open Go.RowKit Go.Shelf
open Go.Proofs.Ytlhdabpoljoobaa.nodew
open Go.Proofs.Ytlhdabpoljoobaa.chkw
open Go.Proofs.Ytlhdabpoljoobaa.flatm
attribute [local go_sem] Oper.semAt_some

/-- a slice of numbers that lie in one whole block -/
def IArg (W : World) (v : Value) (ks : List Int) : Prop :=
  (ks = [] ∧ v = .slice none 0 0) ∨ (∃ g, v = .slice (some ⟨g, 0, none⟩) ks.length ks.length ∧ ks ≠ [] ∧ W.heap[g]? = some (.cells (ks.map (Value.int .i64)).toArray 3 (0, 0)))
/-- the places below a node, as numbers -/
def kidsI (n : Nd) : List Int := if n.kind = 5 then [n.a, n.b] else if n.kind = 6 then [n.a] else []
def BelowPost (w : World) (n : Nd) (e : Ending) (w' : World) : Prop :=
  ∃ v, e = .returned v ∧ IArg w' v (kidsI n) ∧ Below w.heap.size w w' ∧ (∀ g o c, v = .slice (some ⟨g, o, none⟩) c c → w.heap.size ≤ g)

theorem bi1_run (x : Int) (w : World) : (Instr.buildSlice 30 1 #[(0, .int .i64 x)]).run Try.prog w = .ok (.slice (some ⟨w.heap.size, 0, none⟩) 1 1) (w.alloc (.cells #[.int .i64 x] 3)) := by
  kernel_rfl
theorem bi2_run (x y : Int) (w : World) : (Instr.buildSlice 30 2 #[(0, .int .i64 x), (1, .int .i64 y)]).run Try.prog w = .ok (.slice (some ⟨w.heap.size, 0, none⟩) 2 2) (w.alloc (.cells #[.int .i64 x, .int .i64 y] 3)) := by
  kernel_rfl
attribute [local go_sem] bi1_run bi2_run

set_option maxRecDepth 100000 in
set_option maxHeartbeats 1000000 in
theorem below_any (nd : Nd) (w : World) : Calls Try.prog 15 #[nd.val] w (BelowPost w nd) := by
  obtain ⟨nb, hnbe⟩ : ∃ nb, nb = w.heap.size := ⟨_, rfl⟩
  obtain ⟨W, hW⟩ : ∃ W, W = w.alloc (.cells nd.cells.toArray 37) := ⟨_, rfl⟩
  have hbx : Below nb w W := by rw [hW, hnbe]; exact (Below.refl w.heap.size w).alloc (Nat.le_refl _) _
  have hnb : NBlk W nb nd := by rw [hW, hnbe]; exact heap_alloc_new w _
  have hWz : W.heap.size = nb + 1 := by rw [hW, hnbe]; simp
  have c0 : W.cell? ⟨nb, 0, none⟩ = some (.int .u8 nd.kind) := (hnb.cell 0).trans rfl
  have c17 : W.cell? ⟨nb, 17, none⟩ = some (.int .i64 nd.a) := (hnb.cell 17).trans rfl
  have c18 : W.cell? ⟨nb, 18, none⟩ = some (.int .i64 nd.b) := (hnb.cell 18).trans rfl
  unfold BelowPost
  rw [← hnbe]
  go_enter Try.func15, Try.ntmps15
  go_upto_region 0 with (fail)
  refine wp_region_lit ?_
  refine wl_val rfl _ (exec_box (.tmp 0) rfl _ _ nd rfl) ?_
  rw [← hW, ← hnbe]
  by_cases h5 : nd.kind = 5
  · have hk : kidsI nd = [nd.a, nd.b] := by unfold kidsI; rw [if_pos h5]
    have e5 : ((nd.kind : Int) == 5) = true := by rw [beq_iff_eq]; omega
    have HK := Lib.hid hk
    clear hW hnbe h5 hnb hk
    go_wp2
    go_ret
    rw [HK.out]
    refine ⟨_, rfl, .inr ⟨nb + 1, rfl, by simp, heap_at W _ _ hWz⟩, hbx.alloc (by omega) _, ?_⟩
    rintro g o c h
    injection h with h1 _ _
    injection h1 with h1
    injection h1 with h1
    omega
  · have e5 : ((nd.kind : Int) == 5) = false := by rw [beq_eq_false_iff_ne]; omega
    by_cases h6 : nd.kind = 6
    · have hk : kidsI nd = [nd.a] := by unfold kidsI; rw [if_neg h5, if_pos h6]
      have e6 : ((nd.kind : Int) == 6) = true := by rw [beq_iff_eq]; omega
      have HK := Lib.hid hk
      clear hW hnbe h5 h6 hnb hk
      go_wp2
      go_ret
      rw [HK.out]
      refine ⟨_, rfl, .inr ⟨nb + 1, rfl, by simp, heap_at W _ _ hWz⟩, hbx.alloc (by omega) _, ?_⟩
      rintro g o c h
      injection h with h1 _ _
      injection h1 with h1
      injection h1 with h1
      omega
    · have hk : kidsI nd = [] := by unfold kidsI; rw [if_neg h5, if_neg h6]
      have e6 : ((nd.kind : Int) == 6) = false := by rw [beq_eq_false_iff_ne]; omega
      have HK := Lib.hid hk
      clear hW hnbe h5 h6 hnb hk
      go_wp2
      go_ret
      rw [HK.out]
      refine ⟨_, rfl, .inl ⟨rfl, rfl⟩, hbx, ?_⟩
      rintro g o c h
      injection h with h1 _ _
      cases h1

set_option maxHeartbeats 1000000 in
theorem needed_in (n : Nat) (sa : Option Addr) (sl sc : Nat) (w : World) :
    CallsIn Fence.wide n Try.prog 14 #[.slice sa sl sc] w fun e w' => e = .returned (.func (.func 20) #[] #[.pointer (some ⟨w.heap.size, 0, none⟩)]) ∧ w' = w.alloc (.cells #[.slice sa sl sc] 22) := by
  refine callsIn_of_wp Try.func14 rfl trivial ?_ rfl
  simp only [Try.ntmps14, List.size_toArray, List.length_cons, List.length_nil, Nat.reduceAdd, Nat.reduceSub, Array.replicate_succ, Array.replicate_zero, List.push_toArray, List.append_toArray, List.nil_append, List.cons_append]
  gi_wp2
  go_ret
  exact ⟨rfl, rfl⟩
end Go.Proofs.Ytlhdabpoljoobaa.flatw
