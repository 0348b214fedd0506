/- An append of arguments; rows of statements with other names. Conditions: as each theorem states. -/
import Derived.Test.YtgblgolkajdfbaaGreatDoorFroM
import Derived.Test.YtgblgolkajdfbaaGreatDoorFroR
import Derived.Test.YtgblgolkajdfbaaGreatDoorProB
namespace Go.Proofs.YtgblgolkajdfbaaGreatDoor.chkw
open Go.RowKit
open Go.Proofs.YtgblgolkajdfbaaGreatDoor.lexw
open Go.Proofs.YtgblgolkajdfbaaGreatDoor.parw
open Go.Proofs.YtgblgolkajdfbaaGreatDoor.nodew
open Go.Proofs.YtgblgolkajdfbaaGreatDoor.qt
open Go.ChangeShapes Go.WideShapes Go.Deep

theorem argInfo : (Tryz.prog.info? 40).map (fun i => (i.zero, i.size, i.bytes)) = some (some (.agg #[.int .i64 0, .float .f64 0, .string ⟨#[]⟩]), 3, 32) := by kernel_rfl
theorem acells_one (l : List PArg) : ∀ u ∈ acells l, u.oneCell' = true := by
  intro u hu
  unfold acells at hu
  obtain ⟨a, _, hu⟩ := List.mem_flatMap.1 hu
  simp only [PArg.cells, List.mem_cons, List.not_mem_nil, or_false] at hu
  rcases hu with rfl | rfl | rfl <;> rfl
/-- what an append of arguments to an own row does -/
theorem aapp_run {w : World} (base : Nat) (v : Value) (n : Nat) (xs : List Value) (hown : w.ownsRow base 40 3 v n xs)
    (B : Nat) (sv : Value) (l : List PArg) (hr : ARead w B sv l) (hnil : ∃ A c, sv = .slice A l.length c ∧ l.length ≤ c ∧ (A = none → c = 0)) (hn : n + l.length ≤ 1000000) (hbase : base ≤ w.heap.size) :
    ∃ v' w', (∀ (o : Oper) (a : Act) (s x : Operand), o.op = .call { callee := .builtin .append, args := #[s, x], argTypes := #[36, 36] } → a.eval s = v → a.eval x = sv → (execOp a.eval o).run Tryz.prog w = .ok (.value v') w') ∧
      w'.ownsRow base 40 3 v' (n + l.length) (xs ++ acells l) ∧ w.grownBy w' v.ownBlock := by
  obtain ⟨i0, hi0, hz0, hz1, hz2⟩ := info_parts argInfo
  obtain ⟨A, c, rfl, hcell⟩ := hr
  obtain ⟨A', c', he, hlc, hnil⟩ := hnil
  injection he with e1 e2 e3
  subst e1 e3
  cases A with
  | none =>
    have h0 := hnil rfl
    have hl0 : l.length = 0 := by omega
    obtain rfl := List.eq_nil_of_length_eq_zero hl0
    subst h0
    refine ⟨v, w, fun o a s x ho hs hx => ?_, by simpa [acells] using hown, World.grownBy.refl _ _⟩
    have hrun := run_append_owned_none (P := Tryz.prog) (w := w) base 36 o.type 40 i0 3 Tryz.underlying36 hi0 v n xs hown
    have hx' : a.eval x = .slice none 0 0 := hx
    unfold execOp
    simp only [ho, resolve, invoke, builtin, Sem.run_bind, Sem.run_pure, Result.andThen_ok, List.map_toArray, List.map_cons, List.map_nil, hs, hx', hrun]
  | some ad =>
    obtain ⟨v', w', hrun, h2, h3, _⟩ := run_append_own (P := Tryz.prog) w base 36 0 40 i0 _ 3 32 Tryz.underlying36 hi0 hz0 hz1 hz2 rfl (by omega) v n xs hown ad l.length c (acells l) (acells_length l)
      (fun j u hu => by
        obtain ⟨g, off, e, _, hx⟩ := hcell (by intro e; subst e; simp [acells] at hu)
        obtain rfl := Option.some.inj e
        have hadd : (⟨g, off, none⟩ : Addr).add j = ⟨g, off + j, none⟩ := by unfold Addr.add; split <;> simp_all
        rw [hadd]; exact hx j u hu) (acells_one l) (by unfold maxLen; omega) (by omega) hbase
    refine ⟨v', w', fun o a s x ho hs hx => ?_, h2, h3⟩
    have hrun' : (Builtin.append_ #[36, 36] o.type #[v, .slice (some ad) l.length c]).run Tryz.prog w = .ok v' w' := hrun
    unfold execOp
    simp only [ho, resolve, invoke, builtin, Sem.run_bind, Sem.run_pure, Result.andThen_ok, List.map_toArray, List.map_cons, List.map_nil, hs, hx, hrun']
theorem abs0_run (w : World) : (Instr.buildSlice 36 0 #[]).run Tryz.prog w = .ok (.slice (some ⟨w.heap.size, 0, none⟩) 0 0) (w.alloc (.cells #[] 40)) := by
  kernel_rfl
theorem exec_abs0 {o : Oper} (ho : o.op = .buildSlice 36 0 #[]) (a : Act) (w : World) : (execOp a.eval o).run Tryz.prog w = .ok (.value (.slice (some ⟨w.heap.size, 0, none⟩) 0 0)) (w.alloc (.cells #[] 40)) := by
  unfold execOp
  simp only [ho, Sem.run_bind, List.map_toArray, List.map_nil, abs0_run, Result.andThen_ok, Sem.run_pure]
theorem own_abs0 (w : World) (base : Nat) (hb : base ≤ w.heap.size) : (w.alloc (.cells #[] 40)).ownsRow base 40 3 (.slice (some ⟨w.heap.size, 0, none⟩) 0 0) 0 [] :=
  own_new w w.heap.size base rfl hb _ 3 0 [] rfl (by decide)
/-- the first j of the arguments have other names -/
def renTo (l : List PArg) (j : Nat) : List PArg := (l.take j).map renA ++ l.drop j
theorem renTo_zero (l : List PArg) : renTo l 0 = l := rfl
theorem renTo_all (l : List PArg) : renTo l l.length = l.map renA := by simp [renTo]
theorem renTo_len (l : List PArg) (j : Nat) : (renTo l j).length = l.length := by
  simp [renTo]; omega
theorem renTo_at (l : List PArg) (j : Nat) (hj : j < l.length) : (renTo l j)[j]? = l[j]? := by
  unfold renTo
  rw [List.getElem?_append_right (by simp; omega)]
  simp [List.length_take, Nat.min_eq_left (Nat.le_of_lt hj)]
theorem renTo_succ (l : List PArg) (j : Nat) (hj : j < l.length) : renTo l (j + 1) = (renTo l j).set j (renA l[j]) := by
  unfold renTo
  rw [List.set_append_right _ _ (by simp; omega), List.take_add_one, List.getElem?_eq_getElem hj, List.map_append, List.append_assoc]
  congr 1
  rw [show j - (List.map renA (List.take j l)).length = 0 by simp [Nat.min_eq_left (Nat.le_of_lt hj)], List.drop_eq_getElem_cons hj]
  rfl
theorem acells_at (l : List PArg) (j i : Nat) (a : PArg) (h : l[j]? = some a) (hi : i < 3) : (acells l)[j * 3 + i]? = a.cells[i]? := by
  obtain ⟨hj, rfl⟩ := List.getElem?_eq_some_iff.1 h
  exact acells_get l j i hj hi
theorem acells_set : ∀ (l : List PArg) (j : Nat) (a : PArg), l[j]? = some a → (acells l).set (j * 3 + 2) (.string (a.name ++ plusB)) = acells (l.set j (renA a))
  | [], j, a, h => by simp at h
  | b :: r, 0, a, h => by
    obtain rfl : b = a := by simpa using h
    rfl
  | b :: r, j + 1, a, h => by
    have ih := acells_set r j a (by simpa using h)
    show (b.cells ++ acells r).set _ _ = b.cells ++ acells (r.set j (renA a))
    rw [List.set_append_right _ _ (by simp [PArg.cells]; omega), ← ih]
    congr 2
    simp [PArg.cells]; omega
/-- a row that holds nodes or arguments, seen as what may be read -/
theorem ARead.of_own' {W : World} {base : Nat} {v : Value} {l : List PArg} (h : W.ownsRow base 40 3 v l.length (acells l)) : ARead W W.heap.size v l ∧ CapOk v := ⟨.of_own h, cap_own h⟩
theorem PStmt.ren_len (s : PStmt) : (renS s).args.length = s.args.length := by simp [renS]
theorem ren_take_succ (l : List PStmt) (k : Nat) (h : k < l.length) : (l.take (k + 1)).map renS = (l.take k).map renS ++ [renS l[k]] := by
  rw [List.take_add_one, List.map_append, List.getElem?_eq_getElem h]
  rfl

end Go.Proofs.YtgblgolkajdfbaaGreatDoor.chkw
