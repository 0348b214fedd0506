/- A drawn region: reads (float and integer operations too) that may be taken first; of the other operations each order that the edges leave, calls among them. As the last part of XQt, with calls. No conditions. -/
import Derived.Test.YtgblgolkajdfbaaGreatDoorQt
namespace Go.Proofs.YtgblgolkajdfbaaGreatDoor.qv
open Go.RowKit
open Go.Proofs.YtgblgolkajdfbaaGreatDoor.qt

section
variable {P : Program} {ops : Array Oper} {md : Region.Mode} {C : World → Prop} {Q : Exit → Act → World → Prop}

def pureOp2 : Op → Bool
  | .load .. | .fieldAddr .. | .move _ | .assign _ | .indexAddr .. | .binOp .. => true
  | _ => false
theorem pure_enter2 {o : Oper} (hp : pureOp2 o.op = true) {ρ : Operand → Value} {w w' : World} {f : FuncId} {args : Array Value} (h : (execOp ρ o).run P w = .ok (.enter f args) w') : False := by
  unfold execOp at h
  cases ho : o.op <;> rw [ho] at hp h <;> try (exact Bool.noConfusion hp)
  case move x => cases (show Result.ok (Next.value (ρ x)) w = .ok (.enter f args) w' from h)
  case assign x => cases (show Result.ok (Next.value (ρ x)) w = .ok (.enter f args) w' from h)
  case load t x => exact run_value (s := Instr.loadAt t (ρ x)) (g := id) h
  case fieldAddr t x k => exact run_value (s := Instr.fieldAt t (ρ x) k) (g := id) h
  case indexAddr t x k => exact run_value (s := Instr.indexAt t (ρ x) (ρ k)) (g := id) h
  case binOp b t x y u => exact run_value (s := _) (g := id) h
theorem readsR_of2 {o : Oper} {v : Value} {a : Act} (hp : pureOp2 o.op = true) (h : YieldsIn P ops C o v a) : ReadsR P ops C o v a := by
  rcases h with ⟨h1, h2⟩ | h
  · refine .inl ⟨h1, fun w hw => ?_⟩
    have h3 := h2 w hw
    unfold Oper.quietAt at h3
    generalize hr : (execOp a.eval o).run P w = r at h3
    cases r with
    | ok n w' =>
      cases n <;> simp only [Oper.quietUpon] at h3
      case value u => obtain ⟨rfl, rfl⟩ := h3; exact .inl rfl
      case skip => obtain ⟨rfl, rfl⟩ := h3; exact .inr ⟨rfl, rfl⟩
      case enter f args => exact (pure_enter2 hp hr).elim
    | halt x w' => simp only [Oper.quietUpon] at h3
  · exact .inr h

/-- one operation, the class kept; no panic; a call may be one -/
def goUp (P : Program) (C : World → Prop) (o : Oper) (a : Act) (K : Act → World → Prop) : Result Next → Prop
  | .ok (.value v) w' => C w' ∧ K (a.put o.dst v) w'
  | .ok .skip w' => C w' ∧ K (a.put o.dst undef) w'
  | .ok (.enter f args) w' => Calls P f args w' fun e w'' => ∃ v, e = .returned v ∧ C w'' ∧ K (a.put o.dst v) w''
  | _ => False
def gOp2 (P : Program) (ops : Array Oper) (C : World → Prop) (i : Nat) (K : Act → World → Prop) (a : Act) (w : World) : Prop :=
  match ops[i]? with
  | none => K a w
  | some o => if Region.wanted o (yielded ops a.tmps) then goUp P C o a K ((execOp a.eval o).run P w) else K (a.put o.dst undef) w
theorem goUp_mono {o : Oper} {a : Act} {K K' : Act → World → Prop} {r : Result Next} (h : ∀ a w, C w → K a w → K' a w) (hh : goUp P C o a K r) : goUp P C o a K' r := by
  cases r with
  | ok n w' =>
    cases n <;> simp only [goUp] at hh ⊢
    case value => exact ⟨hh.1, h _ _ hh.1 hh.2⟩
    case skip => exact ⟨hh.1, h _ _ hh.1 hh.2⟩
    case enter => exact hh.mono fun e w'' ⟨v, he, hc, hk⟩ => ⟨v, he, hc, h _ _ hc hk⟩
  | halt x w' => simp only [goUp] at hh
theorem gOp2_mono {i : Nat} {a : Act} {w : World} {K K' : Act → World → Prop} (hw : C w) (h : ∀ a w, C w → K a w → K' a w) (hh : gOp2 P ops C i K a w) : gOp2 P ops C i K' a w := by
  unfold gOp2 at *
  split
  · exact h _ _ hw (by simpa [*] using hh)
  · rename_i o ho
    simp only [ho] at hh
    split
    · rename_i hq; simp only [hq, if_true] at hh; exact goUp_mono h hh
    · rename_i hq; simp only [hq] at hh; exact h _ _ hw hh
theorem wpOp_of_gOp2 {i : Nat} {a : Act} {w : World} {K K' : Act → World → Prop} {Q : Exit → Act → World → Prop} (hw : C w) (h : ∀ a w, C w → K a w → K' a w) (hh : gOp2 P ops C i K a w) : wpOp P ops Q i K' a w := by
  have hh := gOp2_mono hw h hh
  unfold gOp2 at hh
  unfold wpOp
  split
  · rename_i ho; simpa [ho] using hh
  · rename_i o ho
    simp only [ho] at hh
    split
    · rename_i hq
      simp only [hq, if_true] at hh
      refine .inl ?_
      unfold Oper.wp
      generalize (execOp a.eval o).run P w = r at *
      cases r with
      | ok n w' =>
        cases n <;> simp only [goUp] at hh
        case value => exact hh.2
        case skip => exact hh.2
        case enter => exact hh.mono fun e w'' ⟨v, he, _, hk⟩ => by subst he; exact hk
      | halt x w' => simp only [goUp] at hh
    · rename_i hq; simpa [hq] using hh
theorem ReadsR.gOp2 {i : Nat} {o : Oper} {v : Value} {a : Act} {w : World} (hi : ops[i]? = some o) (hw : C w) (hy : ReadsR P ops C o v a) {K : Act → World → Prop} (h : K (a.put o.dst v) w) : gOp2 P ops C i K a w := by
  unfold qv.gOp2
  simp only [hi]
  rcases hy with ⟨hq, hv⟩ | ⟨hq, rfl⟩
  · simp only [hq, if_true]
    rcases hv w hw with hx | ⟨hx, rfl⟩
    · rw [hx]; exact ⟨hw, h⟩
    · rw [hx]; exact ⟨hw, h⟩
  · simp only [hq, Bool.false_eq_true, if_false]; exact h
theorem gOp2_put {j : Nat} {oi oj : Oper} {v : Value} (hj : ops[j]? = some oj) (hap : oi.apart ops oj = true) (hsj : ∀ cs b, oj.op ≠ .select cs b) {K : Act → World → Prop} {a : Act} {w : World}
    (h : gOp2 P ops C j K (a.put oi.dst v) w) : gOp2 P ops C j (fun a' w' => (∃ u, a' = a.put oj.dst u) ∧ K (a'.put oi.dst v) w') a w := by
  obtain ⟨h1, h2, _⟩ := Oper.apart_spec hap
  unfold gOp2 at *
  simp only [hj] at *
  rw [wanted_put oj a oi.dst v h1] at h
  split
  · rename_i hq
    simp only [hq, if_true] at h
    rw [execOp_put oj hsj a oi.dst v h1] at h
    generalize (execOp a.eval oj).run P w = r at *
    cases r with
    | ok n w' =>
      cases n <;> simp only [goUp] at h ⊢
      case value u => exact ⟨h.1, ⟨_, rfl⟩, by rw [← Act.put_comm a v u h2]; exact h.2⟩
      case skip => exact ⟨h.1, ⟨_, rfl⟩, by rw [← Act.put_comm a v undef h2]; exact h.2⟩
      case enter => exact h.mono fun e w'' ⟨u, he, hc, hk⟩ => ⟨u, he, hc, ⟨_, rfl⟩, by rw [← Act.put_comm a v u h2]; exact hk⟩
    | halt x w' => simp only [goUp] at h
  · rename_i hq
    simp only [hq] at h
    exact ⟨⟨_, rfl⟩, by rw [← Act.put_comm a v undef h2]; exact h⟩

def anyH (P : Program) (md : Region.Mode) (ops : Array Oper) (C : World → Prop) (Q : Exit → Act → World → Prop) : Nat → Array Bool → Act → World → Prop
  | 0, listed, a, w => Region.ready md ops listed = [] ∧ Q .normal a w
  | f + 1, listed, a, w => Region.ready md ops listed ≠ [] ∧ ∀ i ∈ Region.ready md ops listed, gOp2 P ops C i (anyH P md ops C Q f (listed.setIfInBounds i true)) a w
theorem any_of_anyH : ∀ (f : Nat) (listed : Array Bool) (a : Act) (w : World), C w → anyH P md ops C Q f listed a w → wpAny P md ops Q f listed a w
  | 0, _, _, _, _, h => h
  | f + 1, _, _, _, hw, h => ⟨fun h0 => absurd h0 h.1, fun i hi => wpOp_of_gOp2 hw (fun a' w' hw' h' => any_of_anyH f _ a' w' hw' h') (h.2 i hi)⟩
theorem anyH_first {i : Nat} {oi : Oper} {v : Value} (hi : ops[i]? = some oi) (hsel : ∀ (j : Nat) (o : Oper) cs b, ops[j]? = some o → o.op ≠ .select cs b) :
    ∀ (f : Nat) (listed : Array Bool) (a : Act) (w : World), C w →
      (∀ j oj, ops[j]? = some oj → j ≠ i → listed.getD j true = false → (∀ e ∈ oj.after, Region.binds md e = true → e.on ≠ i) → oi.apart ops oj = true) →
      i ∈ Region.ready md ops listed → ReadsR P ops C oi v a →
      anyH P md ops C Q f (listed.setIfInBounds i true) (a.put oi.dst v) w → anyH P md ops C Q (f + 1) listed a w := by
  intro f
  induction f with
  | zero =>
    intro listed a w hw _ hr hy H
    refine ⟨fun h => (by rw [h] at hr; cases hr), fun j hj => ?_⟩
    by_cases hji : j = i
    · subst hji; exact ReadsR.gOp2 hi hw hy H
    · have := ready_mono hj hji
      rw [H.1] at this
      cases this
  | succ f ih =>
    intro listed a w hw hfree hr hy H
    have hun := (mem_ready.1 hr).1
    refine ⟨fun h => (by rw [h] at hr; cases hr), fun j hj => ?_⟩
    by_cases hji : j = i
    · subst hji; exact ReadsR.gOp2 hi hw hy H
    · obtain ⟨hjun, oj, hoj, hall⟩ := mem_ready.1 hj
      have hnot : ∀ e ∈ oj.after, Region.binds md e = true → e.on ≠ i := fun e he hb heq => by
        have h1 := hall e he hb
        rw [heq, getD_both hun] at h1
        cases h1
      have hap := hfree j oj hoj hji hjun hnot
      have h2 := gOp2_put hoj hap (fun cs b => hsel j oj cs b hoj) (H.2 j (ready_mono hj hji))
      have hfree' : ∀ k ok, ops[k]? = some ok → k ≠ i → (listed.setIfInBounds j true).getD k true = false → (∀ e ∈ ok.after, Region.binds md e = true → e.on ≠ i) → oi.apart ops ok = true := fun k ok hk hki hun' hno => by
        refine hfree k ok hk hki ?_ hno
        by_cases hjk : j = k
        · subst hjk; exact hjun
        · rw [getD_set_ne true hjk] at hun'; exact hun'
      refine gOp2_mono hw (fun a' w' hw' h3 => ?_) h2
      obtain ⟨⟨u, rfl⟩, h3⟩ := h3
      refine ih (listed.setIfInBounds j true) _ w' hw' hfree' (ready_mono hr (Ne.symm hji)) (hy.put hap (fun cs b => hsel i oi cs b hi) u) ?_
      rw [Array.setIfInBounds_comm _ _ hji]
      exact h3

def readsC (md : Region.Mode) (ops : Array Oper) : List Nat → Array Bool → Bool
  | [], _ => true
  | i :: is, listed => (Region.ready md ops listed).contains i && Region.free md ops listed i && ((ops[i]?).map fun o => pureOp2 o.op).getD false && readsC md ops is (listed.setIfInBounds i true)
theorem anyH_reads (hsel : Region.noSelect ops = true) {f : Nat} {w : World} (hw : C w) : ∀ (is : List Nat) (listed : Array Bool) (a : Act), readsC md ops is listed = true →
    wpQuiet P ops C (fun a' => anyH P md ops C Q f (listAll is listed) a' w) (is.filterMap fun i => ops[i]?) a → anyH P md ops C Q (is.length + f) listed a w
  | [], listed, a, _, h => by rw [List.length_nil, Nat.zero_add]; exact h
  | i :: is, listed, a, hB, h => by
    simp only [readsC, Bool.and_eq_true] at hB
    obtain ⟨⟨⟨hr, hf⟩, hp⟩, hB'⟩ := hB
    cases hi : ops[i]? with
    | none => rw [hi] at hp; cases hp
    | some o =>
      rw [hi] at hp
      have hr' : i ∈ Region.ready md ops listed := by simpa using hr
      rw [List.filterMap_cons, hi] at h
      have hst : qOp P ops C i (wpQuiet P ops C (fun a' => anyH P md ops C Q f (listAll is (listed.setIfInBounds i true)) a' w) (is.filterMap fun i => ops[i]?)) a := by unfold qOp; simp only [hi]; exact h
      obtain ⟨v, hy, hK⟩ := yieldsIn_of_qOp hi hst
      rw [List.length_cons, show is.length + 1 + f = (is.length + f) + 1 by omega]
      exact anyH_first hi (Region.noSelect_spec hsel) _ listed a w hw (Region.free_spec hi hf) hr' (readsR_of2 hp hy) (anyH_reads hsel hw is _ _ hB' hK)
/-- the reads 'is' first, then each order of the others, calls among them -/
theorem region_calls {id : Nat} {a : Act} {w : World} {l : List Oper} (is : List Nat) (f : Nat) (hm : P.follows .mixedOrders = true) (hB : (Region.noSelect l.toArray && readsC .any l.toArray is (Array.replicate l.toArray.size false) && decide (is.length + f = l.toArray.size)) = true) (hC : C w.drew)
    (h : wpQuiet P l.toArray C (fun a' => anyH P .any l.toArray C Q f (listAll is (Array.replicate l.toArray.size false)) a' w.drew) (is.filterMap fun i => l[i]?) a) : (Code.region id l.toArray true).wp P Q a w := by
  simp only [Bool.and_eq_true, decide_eq_true_eq] at hB
  obtain ⟨⟨hs, hr⟩, hf⟩ := hB
  refine wp_region_any hm ?_
  have e : (fun i => l.toArray[i]?) = fun i => l[i]? := funext fun i => List.getElem?_toArray
  have hx := anyH_reads (Q := Q) (f := f) hs hC is _ a hr (by rw [e]; exact h)
  rw [hf] at hx
  exact any_of_anyH _ _ _ _ hC hx
theorem anyH_end {listed : Array Bool} {a : Act} {w : World} (hr : Region.ready md ops listed = []) (h : Q .normal a w) : anyH P md ops C Q 0 listed a w := ⟨hr, h⟩
theorem anyH_one {f : Nat} {listed : Array Bool} {a : Act} {w : World} (i : Nat) (o : Oper) (hr : Region.ready md ops listed = [i]) (ho : ops[i]? = some o) (hg : o.guard = none)
    (h : goUp P C o a (anyH P md ops C Q f (listed.setIfInBounds i true)) ((execOp a.eval o).run P w)) : anyH P md ops C Q (f + 1) listed a w := by
  refine ⟨by rw [hr]; simp, fun j hj => ?_⟩
  rw [hr] at hj
  have hj : j = i := by simpa using hj
  subst hj
  unfold gOp2
  simp only [ho, Region.wanted, hg, if_true]
  exact h
theorem goUp_val {o : Oper} {a : Act} {K : Act → World → Prop} {r : Result Next} (v : Value) (w' : World) (hr : r = .ok (.value v) w') (hC : C w') (h : K (a.put o.dst v) w') : goUp P C o a K r := by
  rw [hr]; exact ⟨hC, h⟩
theorem goUp_call {o : Oper} {a : Act} {K : Act → World → Prop} {r : Result Next} (f : FuncId) (args : Array Value) (v : Value) (w : World) (hr : r = .ok (.enter f args) w) (hc : Calls P f args w fun e w' => e = .returned v ∧ w' = w) (hC : C w) (h : K (a.put o.dst v) w) : goUp P C o a K r := by
  rw [hr]; exact hc.mono fun e w' ⟨he, hw⟩ => ⟨v, he, by rw [hw]; exact hC, by rw [hw]; exact h⟩
end
end Go.Proofs.YtgblgolkajdfbaaGreatDoor.qv
