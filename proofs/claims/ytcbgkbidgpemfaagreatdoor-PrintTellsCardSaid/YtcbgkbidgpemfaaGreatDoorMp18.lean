/- The walk of parse.Parse. Conditions: as the theorem states. -/
import Derived.Test.YtcbgkbidgpemfaaGreatDoorMp17
import Derived.Deep.LoopGhost
import Derived.Laws.FloatBits
import Derived.Laws.FloatArith
import Derived.Laws.Externs
import Derived.StillTail
import Derived.Deep.QuietTactic
import Derived.BigQuiet
import Derived.WalkKit
import Derived.Below
namespace Go.Proofs.YtcbgkbidgpemfaaGreatDoor.parw
open Go.RowKit
open Go.Proofs.YtcbgkbidgpemfaaGreatDoor.lexw
attribute [local go_sem] run_store_float

def stCells (s : PStmt) (v : Value) : List Value := [.string s.name, .int .i64 s.pos, .int .u8 s.kind, v]
def scells : List PStmt → List Value → List Value
  | s :: r, v :: q => stCells s v ++ scells r q
  | _, _ => []
def left (s : RSt) : Nat := s.ts.length + if s.er = 0 then 1 else 0
end Go.Proofs.YtcbgkbidgpemfaaGreatDoor.parw

/- Rows of statements that lie in memory; burnishlaw01.Same at one number twice. Conditions: as each theorem states. -/
namespace Go.Proofs.YtcbgkbidgpemfaaGreatDoor.parw
open Go.RowKit
open Go.Proofs.YtcbgkbidgpemfaaGreatDoor.lexw
attribute [local go_sem] run_store_float

theorem fbits_run (x : Nat) (w : World) : (callFunc 63 #[.float .f64 x]).run Tryz.prog w = .ok (.value (.int .u64 x)) w := by
  rw [@run_callFunc_extern Tryz.prog 63 _ Extern.MathFloatBits.float64bits Tryz.func63 (by kernel_rfl) (by kernel_rfl) (by kernel_rfl) (by kernel_rfl)]
  rfl
attribute [local go_sem] fbits_run

/-- the slice value v holds the arguments l, in blocks below B -/
def ARead (W : World) (B : Nat) (v : Value) (l : List PArg) : Prop :=
  ∃ A c, v = .slice A l.length c ∧ (l ≠ [] → ∃ g off, A = some ⟨g, off, none⟩ ∧ g < B ∧ ∀ j u, (acells l)[j]? = some u → W.cell? ⟨g, off + j, none⟩ = some u)
/-- the slice value v holds the statements l, in blocks below B -/
def SRead (W : World) (B : Nat) (v : Value) (l : List PStmt) : Prop :=
  ∃ (vs : List Value) (A : Option Addr) (c : Nat), vs.length = l.length ∧ v = .slice A l.length c ∧
    (l ≠ [] → ∃ g off, A = some ⟨g, off, none⟩ ∧ g < B ∧ ∀ j u, (scells l vs)[j]? = some u → W.cell? ⟨g, off + j, none⟩ = some u) ∧
    ∀ i (h1 : i < vs.length) (h2 : i < l.length), ARead W B vs[i] l[i].args
theorem ARead.keep {W W' : World} {B : Nat} {v : Value} {l : List PArg} (h : ARead W B v l) (hg : ∀ g, g < B → g < W.heap.size → W'.heap[g]? = W.heap[g]?) : ARead W' B v l := by
  obtain ⟨A, c, hv, hx⟩ := h
  refine ⟨A, c, hv, fun h0 => ?_⟩
  obtain ⟨g, off, hA, hB, hcell⟩ := hx h0
  exact ⟨g, off, hA, hB, fun j u hu => (World.cell?_of_block (a := ⟨g, off + j, none⟩) (hg g hB (World.block_lt_of_cell? W _ (hcell j u hu)))).trans (hcell j u hu)⟩
theorem SRead.keep {W W' : World} {B : Nat} {v : Value} {l : List PStmt} (h : SRead W B v l) (hg : ∀ g, g < B → g < W.heap.size → W'.heap[g]? = W.heap[g]?) : SRead W' B v l := by
  obtain ⟨vs, A, c, hl, hv, hx, ha⟩ := h
  refine ⟨vs, A, c, hl, hv, fun h0 => ?_, fun i h1 h2 => (ha i h1 h2).keep hg⟩
  obtain ⟨g, off, hA, hB, hcell⟩ := hx h0
  exact ⟨g, off, hA, hB, fun j u hu => (World.cell?_of_block (a := ⟨g, off + j, none⟩) (hg g hB (World.block_lt_of_cell? W _ (hcell j u hu)))).trans (hcell j u hu)⟩
end Go.Proofs.YtcbgkbidgpemfaaGreatDoor.parw

/- A drawn region whose first n operations are quiet in a class of worlds, and whose others stand in one forced order: one walk in the order of the text. The proof goes along Derived/StillTail and Derived/Deep/Quiet of the kit (the two ideas put together). No conditions. -/
namespace Go.Proofs.YtcbgkbidgpemfaaGreatDoor.qt
open Go.RowKit

section
variable {P : Program} {ops : Array Oper} {md : Region.Mode} {C : World → Prop}

end

/-- the worlds that hold all that w holds -/
abbrev Ext (w : World) := (u : World) ×' Below w.heap.size w u

instance (w : World) : Nonempty (Ext w) := ⟨⟨w, Below.refl _ _⟩⟩
theorem ext_self (w : World) : ∃ u : Ext w, w.drew = u.1 := ⟨⟨w.drew, (Below.refl _ _).drew⟩, rfl⟩

theorem region_ext {P : Program} {id : Nat} {Q : Exit → Act → World → Prop} {a : Act} {w : World} {l : List Oper} (hm : P.follows .mixedOrders = true) (hB : Region.lexB .any l.toArray = true)
    (h : wpQuiet P l.toArray (fun w' => ∃ u : Ext w, w' = u.1) (fun a' => ∀ u : Ext w, Q .normal a' u.1) l a) : (Code.region id l.toArray true).wp P Q a w := by
  refine wp_region_quiet (C := fun w' => ∃ u : Ext w, w' = u.1) hm hB (ext_self w) ?_
  have e : (fun a' => ∀ w', (∃ u : Ext w, w' = u.1) → Q .normal a' w') = (fun a' => ∀ u : Ext w, Q .normal a' u.1) := by
    funext a'
    exact propext ⟨fun h u => h _ ⟨u, rfl⟩, fun h w' ⟨u, hu⟩ => hu ▸ h u⟩
  rw [e]
  exact h
/-- a call whose contract keeps what lies below -/
theorem ext_call {P : Program} {f : FuncId} {args : Array Value} {w : World} {v : Value} (u : Ext w) (h : Calls P f args u.1 fun e w' => e = .returned v ∧ Below u.1.heap.size u.1 w') :
    Calls P f args u.1 fun e w'' => e = .returned v ∧ ∃ u' : Ext w, w'' = u'.1 :=
  h.mono fun _ w'' ⟨he, hb⟩ => ⟨he, ⟨w'', u.2.trans (hb.mono u.2.size)⟩, rfl⟩
theorem ext_call_same {P : Program} {f : FuncId} {args : Array Value} {w : World} {v : Value} (u : Ext w) (h : Calls P f args u.1 fun e w' => e = .returned v ∧ w' = u.1) :
    Calls P f args u.1 fun e w'' => e = .returned v ∧ ∃ u' : Ext w, w'' = u'.1 :=
  h.mono fun _ _ ⟨he, hb⟩ => ⟨he, u, hb⟩
theorem ext_cell {w : World} {p : Addr} {v : Value} (h : w.cell? p = some v) (u : Ext w) : u.1.cell? p = some v :=
  (u.2.cell (World.block_lt_of_cell? w p h)).trans h

/-! reads, one writing operation that may come up ahead of some of them, and a forced tail -/
section
variable {P : Program} {ops : Array Oper} {md : Region.Mode} {C : World → Prop}

def pureOp : Op → Bool
  | .load .. | .fieldAddr .. | .move _ | .assign _ | .indexAddr .. | .build .. | .binOp .. | .extract .. => true
  | _ => false
theorem run_value {α : Type} {s : Sem α} {g : α → Value} {w w' : World} {f : FuncId} {args : Array Value} (h : (s >>= fun x => pure (Next.value (g x))).run P w = .ok (.enter f args) w') : False := by
  rw [Sem.run_bind] at h
  cases hs : s.run P w with
  | ok x w1 =>
    rw [hs] at h
    have h2 : Result.ok (Next.value (g x)) w1 = .ok (.enter f args) w' := h
    cases h2
  | halt x w1 => rw [hs] at h; cases h
theorem pure_enter {o : Oper} (hp : pureOp o.op = true) {ρ : Operand → Value} {w w' : World} {f : FuncId} {args : Array Value} (h : (execOp ρ o).run P w = .ok (.enter f args) w') : False := by
  unfold execOp at h
  cases ho : o.op <;> rw [ho] at hp h <;> try (exact Bool.noConfusion hp)
  case move x => cases (show Result.ok (Next.value (ρ x)) w = .ok (.enter f args) w' from h)
  case assign x => cases (show Result.ok (Next.value (ρ x)) w = .ok (.enter f args) w' from h)
  case load t x => exact run_value (s := Instr.loadAt t (ρ x)) (g := id) h
  case fieldAddr t x k => exact run_value (s := Instr.fieldAt t (ρ x) k) (g := id) h
  case indexAddr t x k => exact run_value (s := Instr.indexAt t (ρ x) (ρ k)) (g := id) h
  case build t ps => exact run_value (s := Instr.build t (ps.map fun (i, x) => (i, ρ x))) (g := id) h
  case binOp op t x y u => exact run_value (s := (do eqGuard op t x y (ρ x) (ρ y); Go.binOp op t (ρ x) (ρ y))) (g := id) h
  case extract x k => exact run_value (s := Instr.extract (ρ x) k) (g := id) h

/-- a read: its value, and the world as it is, in each world of the class -/
def ReadsR (P : Program) (ops : Array Oper) (C : World → Prop) (o : Oper) (v : Value) (a : Act) : Prop :=
  (Region.wanted o (yielded ops a.tmps) = true ∧ ∀ w, C w → (execOp a.eval o).run P w = .ok (.value v) w ∨ ((execOp a.eval o).run P w = .ok .skip w ∧ v = undef) ∨ ∃ f args, (execOp a.eval o).run P w = .ok (.enter f args) w ∧ Calls P f args w fun e w'' => e = .returned v ∧ w'' = w) ∨ (Region.wanted o (yielded ops a.tmps) = false ∧ v = undef)

theorem readsR_of {o : Oper} {v : Value} {a : Act} (hp : pureOp o.op = true) (h : YieldsIn P ops C o v a) : ReadsR P ops C o v a := by
  rcases h with ⟨h1, h2⟩ | h
  · refine .inl ⟨h1, fun w hw => ?_⟩
    have h3 := h2 w hw
    unfold Oper.quietAt at h3
    generalize hr : (execOp a.eval o).run P w = r at h3
    cases r with
    | ok n w' =>
      cases n <;> simp only [Oper.quietUpon] at h3
      case value u => obtain ⟨rfl, rfl⟩ := h3; exact .inl rfl
      case skip => obtain ⟨rfl, rfl⟩ := h3; exact .inr (.inl ⟨rfl, rfl⟩)
      case enter f args => exact (pure_enter hp hr).elim
    | halt x w' => simp only [Oper.quietUpon] at h3
  · exact .inr h
/-- one operation, the class kept; no panic -/
def goUpon (P : Program) (C : World → Prop) (o : Oper) (a : Act) (K : Act → World → Prop) : Result Next → Prop
  | .ok (.value v) w' => C w' ∧ K (a.put o.dst v) w'
  | .ok .skip w' => C w' ∧ K (a.put o.dst undef) w'
  | .ok (.enter f args) w' => Calls P f args w' fun e w'' => ∃ v, e = .returned v ∧ C w'' ∧ K (a.put o.dst v) w''
  | _ => False
def gOp (P : Program) (ops : Array Oper) (C : World → Prop) (i : Nat) (K : Act → World → Prop) (a : Act) (w : World) : Prop :=
  match ops[i]? with
  | none => K a w
  | some o => if Region.wanted o (yielded ops a.tmps) then goUpon P C o a K ((execOp a.eval o).run P w) else K (a.put o.dst undef) w

theorem goUpon_mono {o : Oper} {a : Act} {K K' : Act → World → Prop} {r : Result Next} (h : ∀ a w, C w → K a w → K' a w) (hh : goUpon P C o a K r) : goUpon P C o a K' r := by
  cases r with
  | ok n w' =>
    cases n <;> simp only [goUpon] at hh ⊢
    case enter f args => exact hh.mono fun e w'' ⟨v, he, hc, hk⟩ => ⟨v, he, hc, h _ _ hc hk⟩
    all_goals exact ⟨hh.1, h _ _ hh.1 hh.2⟩
  | halt x w' => simp only [goUpon] at hh
theorem gOp_mono {i : Nat} {a : Act} {w : World} {K K' : Act → World → Prop} (hw : C w) (h : ∀ a w, C w → K a w → K' a w) (hh : gOp P ops C i K a w) : gOp P ops C i K' a w := by
  unfold gOp at *
  split
  · exact h _ _ hw (by simpa [*] using hh)
  · rename_i o ho
    simp only [ho] at hh
    split
    · rename_i hq; simp only [hq, if_true] at hh; exact goUpon_mono h hh
    · rename_i hq; simp only [hq] at hh; exact h _ _ hw hh
theorem wpOp_of_gOp {i : Nat} {a : Act} {w : World} {K K' : Act → World → Prop} {Q : Exit → Act → World → Prop} (hw : C w) (h : ∀ a w, C w → K a w → K' a w) (hh : gOp P ops C i K a w) : wpOp P ops Q i K' a w := by
  have hh := gOp_mono hw h hh
  unfold gOp at hh
  unfold wpOp
  split
  · rename_i ho; simpa [ho] using hh
  · rename_i o ho
    simp only [ho] at hh
    split
    · rename_i hq
      simp only [hq, if_true] at hh
      refine .inl ?_
      unfold Oper.wp
      generalize (execOp a.eval o).run P w = r at *
      cases r with
      | ok n w' =>
        cases n <;> simp only [goUpon] at hh
        case enter f args => exact hh.mono fun e w'' ⟨v, he, _, hk⟩ => by subst he; exact hk
        all_goals exact hh.2
      | halt x w' => simp only [goUpon] at hh
    · rename_i hq; simpa [hq] using hh

theorem ReadsR.gOp {i : Nat} {o : Oper} {v : Value} {a : Act} {w : World} (hi : ops[i]? = some o) (hw : C w) (hy : ReadsR P ops C o v a) {K : Act → World → Prop} (h : K (a.put o.dst v) w) : gOp P ops C i K a w := by
  unfold qt.gOp
  simp only [hi]
  rcases hy with ⟨hq, hv⟩ | ⟨hq, rfl⟩
  · simp only [hq, if_true]
    rcases hv w hw with hx | ⟨hx, rfl⟩ | ⟨f, args, hx, hcl⟩
    · rw [hx]; exact ⟨hw, h⟩
    · rw [hx]; exact ⟨hw, h⟩
    · rw [hx]
      exact hcl.mono fun e w'' ⟨he, hw''⟩ => ⟨v, he, by rw [hw'']; exact hw, by rw [hw'']; exact h⟩
  · simp only [hq, Bool.false_eq_true, if_false]; exact h
theorem ReadsR.put {oi oj : Oper} {v : Value} {a : Act} (hap : oi.apart ops oj = true) (hsi : ∀ cs b, oi.op ≠ .select cs b) (hy : ReadsR P ops C oi v a) (u : Value) : ReadsR P ops C oi v (a.put oj.dst u) := by
  obtain ⟨_, _, h3⟩ := Oper.apart_spec hap
  unfold ReadsR at *
  rw [execOp_put oi hsi a oj.dst u h3, wanted_put oi a oj.dst u h3]
  exact hy
theorem gOp_put {j : Nat} {oi oj : Oper} {v : Value} (hj : ops[j]? = some oj) (hap : oi.apart ops oj = true) (hsj : ∀ cs b, oj.op ≠ .select cs b) {K : Act → World → Prop} {a : Act} {w : World}
    (h : gOp P ops C j K (a.put oi.dst v) w) : gOp P ops C j (fun a' w' => (∃ u, a' = a.put oj.dst u) ∧ K (a'.put oi.dst v) w') a w := by
  obtain ⟨h1, h2, _⟩ := Oper.apart_spec hap
  unfold gOp at *
  simp only [hj] at *
  rw [wanted_put oj a oi.dst v h1] at h
  split
  · rename_i hq
    simp only [hq, if_true] at h
    rw [execOp_put oj hsj a oi.dst v h1] at h
    generalize (execOp a.eval oj).run P w = r at *
    cases r with
    | ok n w' =>
      cases n <;> simp only [goUpon] at h ⊢
      case value u => exact ⟨h.1, ⟨_, rfl⟩, by rw [← Act.put_comm a v u h2]; exact h.2⟩
      case skip => exact ⟨h.1, ⟨_, rfl⟩, by rw [← Act.put_comm a v undef h2]; exact h.2⟩
      case enter f args => exact h.mono fun e w'' ⟨u, he, hc, hk⟩ => ⟨u, he, hc, ⟨_, rfl⟩, by rw [← Act.put_comm a v u h2]; exact hk⟩
    | halt x w' => simp only [goUpon] at h
  · rename_i hq
    simp only [hq] at h
    exact ⟨⟨_, rfl⟩, by rw [← Act.put_comm a v undef h2]; exact h⟩

def headG (P : Program) (md : Region.Mode) (ops : Array Oper) (C : World → Prop) (n : Nat) (L : Array Bool → Act → World → Prop) : Nat → Array Bool → Act → World → Prop
  | 0, listed, a, w => L listed a w
  | f + 1, listed, a, w => Region.ready md ops listed ≠ [] ∧ ∀ i ∈ Region.ready md ops listed, i < n ∧ gOp P ops C i (headG P md ops C n L f (listed.setIfInBounds i true)) a w
theorem any_of_headG {n g : Nat} {L : Array Bool → Act → World → Prop} {Q : Exit → Act → World → Prop} (hL : ∀ listed a w, L listed a w → wpAny P md ops Q g listed a w) :
    ∀ (f : Nat) (listed : Array Bool) (a : Act) (w : World), C w → headG P md ops C n L f listed a w → wpAny P md ops Q (f + g) listed a w
  | 0, listed, a, w, _, h => by rw [Nat.zero_add]; exact hL _ _ _ h
  | f + 1, listed, a, w, hw, h => by
    rw [show f + 1 + g = (f + g) + 1 by omega]
    exact ⟨fun h0 => absurd h0 h.1, fun i hi => wpOp_of_gOp hw (fun a' w' hw' h' => any_of_headG hL f _ a' w' hw' h') (h.2 i hi).2⟩

theorem headG_first {n i : Nat} {oi : Oper} {v : Value} {L : Array Bool → Act → World → Prop} (hi : ops[i]? = some oi) (hsel : ∀ (j : Nat) (o : Oper) cs b, ops[j]? = some o → o.op ≠ .select cs b)
    (hs : Region.sinkB md ops n = true) (hc : Region.chainB md ops n = true) (hn : n < ops.size) (hin : i < n) (hdone : ∀ listed a w, L listed a w → ∀ j ∈ Region.ready md ops listed, n ≤ j) :
    ∀ (f : Nat) (listed : Array Bool) (a : Act) (w : World), C w → HeadInv md ops n listed →
      (∀ j oj, ops[j]? = some oj → j ≠ i → listed.getD j true = false → (∀ e ∈ oj.after, Region.binds md e = true → e.on ≠ i) → oi.apart ops oj = true) →
      i ∈ Region.ready md ops listed → ReadsR P ops C oi v a →
      headG P md ops C n L f (listed.setIfInBounds i true) (a.put oi.dst v) w → headG P md ops C n L (f + 1) listed a w := by
  intro f
  induction f with
  | zero =>
    intro listed a w hw inv _ hr hy H
    have hun := (mem_ready.1 hr).1
    refine ⟨fun h => (by rw [h] at hr; cases hr), fun j hj => ?_⟩
    have hjn : j < n := Nat.lt_of_not_le fun h => tail_waits hs hc hn inv _ i rfl hin hun j h hj
    refine ⟨hjn, ?_⟩
    by_cases hji : j = i
    · subst hji; exact hy.gOp hi hw H
    · exact absurd (hdone _ _ _ H j (ready_mono hj hji)) (by omega)
  | succ f ih =>
    intro listed a w hw inv hfree hr hy H
    have hun := (mem_ready.1 hr).1
    refine ⟨fun h => (by rw [h] at hr; cases hr), fun j hj => ?_⟩
    have hjn : j < n := Nat.lt_of_not_le fun h => tail_waits hs hc hn inv _ i rfl hin hun j h hj
    refine ⟨hjn, ?_⟩
    by_cases hji : j = i
    · subst hji; exact hy.gOp hi hw H
    · obtain ⟨hjun, oj, hoj, hall⟩ := mem_ready.1 hj
      have hnot : ∀ e ∈ oj.after, Region.binds md e = true → e.on ≠ i := fun e he hb heq => by
        have h1 := hall e he hb
        rw [heq, getD_both hun] at h1
        cases h1
      have hap := hfree j oj hoj hji hjun hnot
      have h2 := gOp_put hoj hap (fun cs b => hsel j oj cs b hoj) (H.2 j (ready_mono hj hji)).2
      have hfree' : ∀ k ok, ops[k]? = some ok → k ≠ i → (listed.setIfInBounds j true).getD k true = false → (∀ e ∈ ok.after, Region.binds md e = true → e.on ≠ i) → oi.apart ops ok = true := fun k ok hk hki hun' hno => by
        refine hfree k ok hk hki ?_ hno
        by_cases hjk : j = k
        · subst hjk; exact hjun
        · rw [getD_set_ne true hjk] at hun'; exact hun'
      refine gOp_mono hw (fun a' w' hw' h3 => ?_) h2
      obtain ⟨⟨u, rfl⟩, h3⟩ := h3
      refine ih (listed.setIfInBounds j true) _ w' hw' (inv.set hj hjn) hfree' (ready_mono hr (Ne.symm hji)) (hy.put hap (fun cs b => hsel i oi cs b hi) u) ?_
      rw [Array.setIfInBounds_comm _ _ hji]
      exact h3

end

/-- the worlds that hold all that w holds, but for block g -/
abbrev ExtBut (w : World) (g : Nat) := (u : World) ×' (∀ b, b < w.heap.size → b ≠ g → u.heap[b]? = w.heap[b]?)
instance (w : World) (g : Nat) : Nonempty (ExtBut w g) := ⟨⟨w, fun _ _ _ => rfl⟩⟩
/-! reads that may be taken first; of the other operations each order that the edges leave -/
section
variable {P : Program} {ops : Array Oper} {md : Region.Mode} {C : World → Prop} {Q : Exit → Act → World → Prop}

def anyG (P : Program) (md : Region.Mode) (ops : Array Oper) (C : World → Prop) (Q : Exit → Act → World → Prop) : Nat → Array Bool → Act → World → Prop
  | 0, listed, a, w => Region.ready md ops listed = [] ∧ Q .normal a w
  | f + 1, listed, a, w => Region.ready md ops listed ≠ [] ∧ ∀ i ∈ Region.ready md ops listed, gOp P ops C i (anyG P md ops C Q f (listed.setIfInBounds i true)) a w
theorem any_of_anyG : ∀ (f : Nat) (listed : Array Bool) (a : Act) (w : World), C w → anyG P md ops C Q f listed a w → wpAny P md ops Q f listed a w
  | 0, _, _, _, _, h => h
  | f + 1, _, _, _, hw, h => ⟨fun h0 => absurd h0 h.1, fun i hi => wpOp_of_gOp hw (fun a' w' hw' h' => any_of_anyG f _ a' w' hw' h') (h.2 i hi)⟩

theorem anyG_first {i : Nat} {oi : Oper} {v : Value} (hi : ops[i]? = some oi) (hsel : ∀ (j : Nat) (o : Oper) cs b, ops[j]? = some o → o.op ≠ .select cs b) :
    ∀ (f : Nat) (listed : Array Bool) (a : Act) (w : World), C w →
      (∀ j oj, ops[j]? = some oj → j ≠ i → listed.getD j true = false → (∀ e ∈ oj.after, Region.binds md e = true → e.on ≠ i) → oi.apart ops oj = true) →
      i ∈ Region.ready md ops listed → ReadsR P ops C oi v a →
      anyG P md ops C Q f (listed.setIfInBounds i true) (a.put oi.dst v) w → anyG P md ops C Q (f + 1) listed a w := by
  intro f
  induction f with
  | zero =>
    intro listed a w hw _ hr hy H
    refine ⟨fun h => (by rw [h] at hr; cases hr), fun j hj => ?_⟩
    by_cases hji : j = i
    · subst hji; exact hy.gOp hi hw H
    · have := ready_mono hj hji
      rw [H.1] at this
      cases this
  | succ f ih =>
    intro listed a w hw hfree hr hy H
    have hun := (mem_ready.1 hr).1
    refine ⟨fun h => (by rw [h] at hr; cases hr), fun j hj => ?_⟩
    by_cases hji : j = i
    · subst hji; exact hy.gOp hi hw H
    · obtain ⟨hjun, oj, hoj, hall⟩ := mem_ready.1 hj
      have hnot : ∀ e ∈ oj.after, Region.binds md e = true → e.on ≠ i := fun e he hb heq => by
        have h1 := hall e he hb
        rw [heq, getD_both hun] at h1
        cases h1
      have hap := hfree j oj hoj hji hjun hnot
      have h2 := gOp_put hoj hap (fun cs b => hsel j oj cs b hoj) (H.2 j (ready_mono hj hji))
      have hfree' : ∀ k ok, ops[k]? = some ok → k ≠ i → (listed.setIfInBounds j true).getD k true = false → (∀ e ∈ ok.after, Region.binds md e = true → e.on ≠ i) → oi.apart ops ok = true := fun k ok hk hki hun' hno => by
        refine hfree k ok hk hki ?_ hno
        by_cases hjk : j = k
        · subst hjk; exact hjun
        · rw [getD_set_ne true hjk] at hun'; exact hun'
      refine gOp_mono hw (fun a' w' hw' h3 => ?_) h2
      obtain ⟨⟨u, rfl⟩, h3⟩ := h3
      refine ih (listed.setIfInBounds j true) _ w' hw' hfree' (ready_mono hr (Ne.symm hji)) (hy.put hap (fun cs b => hsel i oi cs b hi) u) ?_
      rw [Array.setIfInBounds_comm _ _ hji]
      exact h3

def readsB (md : Region.Mode) (ops : Array Oper) : List Nat → Array Bool → Bool
  | [], _ => true
  | i :: is, listed => (Region.ready md ops listed).contains i && Region.free md ops listed i && ((ops[i]?).map fun o => pureOp o.op).getD false && readsB md ops is (listed.setIfInBounds i true)
def listAll : List Nat → Array Bool → Array Bool
  | [], listed => listed
  | i :: is, listed => listAll is (listed.setIfInBounds i true)
theorem anyG_reads (hsel : Region.noSelect ops = true) {f : Nat} {w : World} (hw : C w) : ∀ (is : List Nat) (listed : Array Bool) (a : Act), readsB md ops is listed = true →
    wpQuiet P ops C (fun a' => anyG P md ops C Q f (listAll is listed) a' w) (is.filterMap fun i => ops[i]?) a → anyG P md ops C Q (is.length + f) listed a w
  | [], listed, a, _, h => by rw [List.length_nil, Nat.zero_add]; exact h
  | i :: is, listed, a, hB, h => by
    simp only [readsB, Bool.and_eq_true] at hB
    obtain ⟨⟨⟨hr, hf⟩, hp⟩, hB'⟩ := hB
    cases hi : ops[i]? with
    | none => rw [hi] at hp; cases hp
    | some o =>
      rw [hi] at hp
      have hr' : i ∈ Region.ready md ops listed := by simpa using hr
      rw [List.filterMap_cons, hi] at h
      have hst : qOp P ops C i (wpQuiet P ops C (fun a' => anyG P md ops C Q f (listAll is (listed.setIfInBounds i true)) a' w) (is.filterMap fun i => ops[i]?)) a := by unfold qOp; simp only [hi]; exact h
      obtain ⟨v, hy, hK⟩ := yieldsIn_of_qOp hi hst
      rw [List.length_cons, show is.length + 1 + f = (is.length + f) + 1 by omega]
      exact anyG_first hi (Region.noSelect_spec hsel) _ listed a w hw (Region.free_spec hi hf) hr' (readsR_of hp hy) (anyG_reads hsel hw is _ _ hB' hK)

/-- the reads 'is' first, then each order of the others -/
theorem region_reads {id : Nat} {a : Act} {w : World} {l : List Oper} (is : List Nat) (f : Nat) (hm : P.follows .mixedOrders = true) (hB : (Region.noSelect l.toArray && readsB .any l.toArray is (Array.replicate l.toArray.size false) && decide (is.length + f = l.toArray.size)) = true) (hC : C w.drew)
    (h : wpQuiet P l.toArray C (fun a' => anyG P .any l.toArray C Q f (listAll is (Array.replicate l.toArray.size false)) a' w.drew) (is.filterMap fun i => l[i]?) a) : (Code.region id l.toArray true).wp P Q a w := by
  simp only [Bool.and_eq_true, decide_eq_true_eq] at hB
  obtain ⟨⟨hs, hr⟩, hf⟩ := hB
  refine wp_region_any hm ?_
  have e : (fun i => l.toArray[i]?) = fun i => l[i]? := funext fun i => List.getElem?_toArray
  have hx := anyG_reads (Q := Q) (f := f) hs hC is _ a hr (by rw [e]; exact h)
  rw [hf] at hx
  exact any_of_anyG _ _ _ _ hC hx
theorem anyG_end {listed : Array Bool} {a : Act} {w : World} (hr : Region.ready md ops listed = []) (h : Q .normal a w) : anyG P md ops C Q 0 listed a w := ⟨hr, h⟩
theorem anyG_one {f : Nat} {listed : Array Bool} {a : Act} {w : World} (i : Nat) (o : Oper) (hr : Region.ready md ops listed = [i]) (ho : ops[i]? = some o) (hg : o.guard = none)
    (h : goUpon P C o a (anyG P md ops C Q f (listed.setIfInBounds i true)) ((execOp a.eval o).run P w)) : anyG P md ops C Q (f + 1) listed a w := by
  refine ⟨by rw [hr]; simp, fun j hj => ?_⟩
  rw [hr] at hj
  have hj : j = i := by simpa using hj
  subst hj
  unfold gOp
  simp only [ho, Region.wanted, hg, if_true]
  exact h
theorem anyG_two {f : Nat} {listed : Array Bool} {a : Act} {w : World} (i k : Nat) (o p : Oper) (hr : Region.ready md ops listed = [i, k]) (ho : ops[i]? = some o) (hp : ops[k]? = some p) (hg : o.guard = none) (hg' : p.guard = none)
    (h : goUpon P C o a (anyG P md ops C Q f (listed.setIfInBounds i true)) ((execOp a.eval o).run P w))
    (h' : goUpon P C p a (anyG P md ops C Q f (listed.setIfInBounds k true)) ((execOp a.eval p).run P w)) : anyG P md ops C Q (f + 1) listed a w := by
  refine ⟨by rw [hr]; simp, fun j hj => ?_⟩
  rw [hr] at hj
  have hj : j = i ∨ j = k := by simpa using hj
  rcases hj with rfl | rfl
  · unfold gOp
    simp only [ho, Region.wanted, hg, if_true]
    exact h
  · unfold gOp
    simp only [hp, Region.wanted, hg', if_true]
    exact h'
theorem goUpon_val {o : Oper} {a : Act} {K : Act → World → Prop} {r : Result Next} (v : Value) (w' : World) (hr : r = .ok (.value v) w') (hC : C w') (h : K (a.put o.dst v) w') : goUpon P C o a K r := by
  rw [hr]; exact ⟨hC, h⟩
theorem goUpon_skip {o : Oper} {a : Act} {K : Act → World → Prop} {r : Result Next} (w' : World) (hr : r = .ok .skip w') (hC : C w') (h : K (a.put o.dst undef) w') : goUpon P C o a K r := by
  rw [hr]; exact ⟨hC, h⟩
end

end Go.Proofs.YtcbgkbidgpemfaaGreatDoor.qt
