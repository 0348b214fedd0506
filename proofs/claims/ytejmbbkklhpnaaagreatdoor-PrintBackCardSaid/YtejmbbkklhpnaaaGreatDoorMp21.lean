/- A drawn region: some reads may be taken first; the other operations ahead of n in each order that the edges leave; then a forced tail that may leave the class. No conditions. -/
import Derived.Test.YtejmbbkklhpnaaaGreatDoorMp12
namespace Go.Proofs.YtejmbbkklhpnaaaGreatDoor.qt
open Go.RowKit
section
variable {P : Program} {ops : Array Oper} {md : Region.Mode} {C : World → Prop} {Q : Exit → Act → World → Prop}

/-- the end of the head: what is left stands in one forced order -/
def tailL (P : Program) (md : Region.Mode) (ops : Array Oper) (Q : Exit → Act → World → Prop) (n g : Nat) (l : List Oper) : Array Bool → Act → World → Prop :=
  fun listed a w => Region.seqB md ops g n listed = true ∧ wpList P ops Q l a w
theorem headG_reads (hsel : Region.noSelect ops = true) {n g : Nat} {l : List Oper} (hs : Region.sinkB md ops n = true) (hc : Region.chainB md ops n = true) (hn : n < ops.size) {f : Nat} {w : World} (hw : C w) :
    ∀ (is : List Nat) (listed : Array Bool) (a : Act), HeadInv md ops n listed → is.all (fun i => decide (i < n)) = true → readsB md ops is listed = true →
    wpQuiet P ops C (fun a' => headG P md ops C n (tailL P md ops Q n g l) f (listAll is listed) a' w) (is.filterMap fun i => ops[i]?) a → headG P md ops C n (tailL P md ops Q n g l) (is.length + f) listed a w
  | [], listed, a, _, _, _, h => by rw [List.length_nil, Nat.zero_add]; exact h
  | i :: is, listed, a, inv, hlt, hB, h => by
    simp only [readsB, Bool.and_eq_true] at hB
    obtain ⟨⟨⟨hr, hf⟩, hp⟩, hB'⟩ := hB
    simp only [List.all_cons, Bool.and_eq_true, decide_eq_true_eq] at hlt
    cases hi : ops[i]? with
    | none => rw [hi] at hp; cases hp
    | some o =>
      rw [hi] at hp
      have hr' : i ∈ Region.ready md ops listed := by simpa using hr
      rw [List.filterMap_cons, hi] at h
      have hst : qOp P ops C i (wpQuiet P ops C (fun a' => headG P md ops C n (tailL P md ops Q n g l) f (listAll is (listed.setIfInBounds i true)) a' w) (is.filterMap fun i => ops[i]?)) a := by unfold qOp; simp only [hi]; exact h
      obtain ⟨v, hy, hK⟩ := yieldsIn_of_qOp hi hst
      rw [List.length_cons, show is.length + 1 + f = (is.length + f) + 1 by omega]
      exact headG_first hi (Region.noSelect_spec hsel) hs hc hn hlt.1 (fun listed' a' w' hL => seqB_ready hL.1) _ listed a w hw inv (Region.free_spec hi hf) hr' (readsR_of hp hy)
        (headG_reads hsel hs hc hn hw is _ _ (inv.set hr' hlt.1) hlt.2 hB' hK)
/-- the law -/
theorem region_head {id : Nat} {a : Act} {w : World} {l : List Oper} (n : Nat) (is : List Nat) (f : Nat) (hm : P.follows .mixedOrders = true)
    (hB : (Region.noSelect l.toArray && decide (n < l.length) && Region.sinkB .any l.toArray n && Region.chainB .any l.toArray n && is.all (fun i => decide (i < n)) && readsB .any l.toArray is (Array.replicate l.toArray.size false) && decide (is.length + f = n)) = true) (hC : C w.drew)
    (h : wpQuiet P l.toArray C (fun a' => headG P .any l.toArray C n (tailL P .any l.toArray Q n (l.length - n) (l.drop n)) f (listAll is (Array.replicate l.toArray.size false)) a' w.drew) (is.filterMap fun i => l[i]?) a) : (Code.region id l.toArray true).wp P Q a w := by
  simp only [Bool.and_eq_true, decide_eq_true_eq] at hB
  obtain ⟨⟨⟨⟨⟨⟨hsel, hn⟩, hs⟩, hc⟩, hlt⟩, hr⟩, hf⟩ := hB
  have hn' : n < l.toArray.size := by simpa using hn
  have inv0 : HeadInv .any l.toArray n (Array.replicate l.toArray.size false) :=
    ⟨by simp, fun j oj _ hl => (by rw [getD_replicate_false] at hl; cases hl), fun t _ ht => getD_in (by simpa using ht) (getD_replicate_false _ _)⟩
  have e : (fun i => l.toArray[i]?) = fun i => l[i]? := funext fun i => List.getElem?_toArray
  have H := headG_reads (Q := Q) (g := l.length - n) (l := l.drop n) (f := f) hsel hs hc hn' hC is _ a inv0 hlt hr (by rw [e]; exact h)
  rw [hf] at H
  refine wp_region_any hm ?_
  have hdl : (l.drop n).length = l.length - n := by simp
  have := any_of_headG (Q := Q) (g := l.length - n) (fun listed a' w' hL => by
    have := wpAny_of_seq (md := .any) (Q' := Q) (l.drop n) n listed a' w' (fun j => by simp [List.getElem?_drop]) (by rw [hdl]; exact hL.1) hL.2
    rwa [hdl] at this) _ _ _ _ hC H
  rw [show n + (l.length - n) = l.toArray.size by simp; omega] at this
  exact this
theorem headG_one {L : Array Bool → Act → World → Prop} {n f : Nat} {listed : Array Bool} {a : Act} {w : World} (i : Nat) (o : Oper) (hr : Region.ready md ops listed = [i]) (hi : decide (i < n) = true) (ho : ops[i]? = some o) (hg : o.guard = none)
    (h : goUpon P C o a (headG P md ops C n L f (listed.setIfInBounds i true)) ((execOp a.eval o).run P w)) : headG P md ops C n L (f + 1) listed a w := by
  refine ⟨by rw [hr]; simp, fun j hj => ?_⟩
  rw [hr] at hj
  have hj : j = i := by simpa using hj
  subst hj
  refine ⟨of_decide_eq_true hi, ?_⟩
  unfold gOp
  simp only [ho, Region.wanted, hg, if_true]
  exact h
theorem headG_end {n g : Nat} {l : List Oper} {listed : Array Bool} {a : Act} {w : World} (hB : Region.seqB md ops g n listed = true) (h : wpList P ops Q l a w) : headG P md ops C n (tailL P md ops Q n g l) 0 listed a w := ⟨hB, h⟩
end
end Go.Proofs.YtejmbbkklhpnaaaGreatDoor.qt
