/- ParseWrong, plain: what is spoilt of a statement's tokens is none; what the statement's new places are. Plain; no condition but those stated. -/
import Derived.Test.YtejmbbkklhpnaaaGreatDoorMc38
import Derived.Test.YtejmbbkklhpnaaaGreatDoorMc27
import Derived.Test.YtejmbbkklhpnaaaGreatDoorMc35
import Derived.Test.YtejmbbkklhpnaaaGreatDoorRows
import Derived.Laws.OwnMore
import Derived.Deep.Slices
import Derived.ChangeSame
import Derived.ChangeArms
import Derived.OpenShut
import Derived.WideShapes
import Derived.Lib.LaidU8
import Derived.LaidMore
import Derived.Below
namespace Go.Proofs.YtejmbbkklhpnaaaGreatDoor.plm
open Go.RowKit
open Go.Proofs.YtejmbbkklhpnaaaGreatDoor.parw
open Go.Proofs.YtejmbbkklhpnaaaGreatDoor.plw
open Go.Proofs.YtejmbbkklhpnaaaGreatDoor.bkp
open Go.Proofs.YtejmbbkklhpnaaaGreatDoor.flow (decE)

theorem fit_kds {dec : ByteArray → Nat × Nat} (z : PTok) (hz : z.kind = 4) : ∀ (bs : List Bool) (T : List PTok), fitB dec bs T → Kds dec (expL bs ++ [4]) (T ++ [z])
  | [], [], _ => ⟨hz, (fun e => by cases e), trivial⟩
  | b :: bs, t :: T, h => ⟨h.1, (fun e => h.2.1 (by cases b <;> simp_all)), fit_kds z hz bs T h.2.2⟩
  | [], _ :: _, h => h.elim
  | _ :: _, [], h => h.elim
theorem form_first : ∀ k, 1 ≤ k → k ≤ 6 → ∃ F, formL k = true :: F := by
  intro k h1 h2
  have : k = 1 ∨ k = 2 ∨ k = 3 ∨ k = 4 ∨ k = 5 ∨ k = 6 := by omega
  rcases this with rfl | rfl | rfl | rfl | rfl | rfl <;> exact ⟨_, rfl⟩
theorem expL_bd (bs : List Bool) : ∀ y ∈ expL bs, 1 ≤ y ∧ y ≤ 3 := fun y hy => by
  unfold expL at hy
  obtain ⟨b, _, rfl⟩ := List.mem_map.1 hy
  cases b <;> decide
theorem expL_len (bs : List Bool) : (expL bs).length = bs.length := by unfold expL; simp
theorem pos_args : ∀ (bs : List Bool) (l : List PArg), (∀ a ∈ l, 3 ≤ a.pos) → Pos (argToks bs l)
  | [], [], _ => fun t ht => by cases ht
  | [], _ :: _, _ => fun t ht => by cases ht
  | _ :: _, [], _ => fun t ht => by cases ht
  | b :: bs, a :: l, h => fun t ht => by
    rcases List.mem_cons.1 ht with rfl | ht
    · have := h a (by simp)
      unfold argTok
      split <;> exact this
    · exact pos_args bs l (fun x hx => h x (by simp [hx])) t ht
def spoilt (L : List PTok) (k : Nat) (h : k < L.length) : List (List PTok) := [L.take k ++ L.drop (k + 1), L.take (k + 1) ++ L.drop k, L.set k (turn L[k])]
theorem spoilt_pos (L : List PTok) (hL : Pos L) (k : Nat) (h : k < L.length) : ∀ V ∈ spoilt L k h, Pos V := fun V hV t ht => by
  unfold spoilt at hV
  simp only [List.mem_cons, List.not_mem_nil, or_false] at hV
  rcases hV with rfl | rfl | rfl
  · rcases List.mem_append.1 ht with ht | ht
    · exact hL t (List.mem_of_mem_take ht)
    · exact hL t (List.mem_of_mem_drop ht)
  · rcases List.mem_append.1 ht with ht | ht
    · exact hL t (List.mem_of_mem_take ht)
    · exact hL t (List.mem_of_mem_drop ht)
  · rcases List.mem_or_eq_of_mem_set ht with ht | rfl
    · exact hL t ht
    · exact (show 3 ≤ L[k].pos from hL _ (List.getElem_mem h))
theorem wrong3 (s : PStmt) (hf : fineS s = true) (hn : ∀ a ∈ s.args, a.num < 18446744073709551616) (h3 : 3 ≤ s.pos) (hp : ∀ a ∈ s.args, 3 ≤ a.pos) (k : Nat) (hk : k < (stToks s).length - 1) (hkl : k < (stToks s).length) :
    ∀ V ∈ spoilt (stToks s) k hkl, ∃ p : Int, 3 ≤ p ∧ parseRes decE V = ([], p, 170) := by
  obtain ⟨h1, h2, hl, h4⟩ := fine_parts hf
  obtain ⟨a1, -⟩ := args_back _ _ hl h4 hn
  have hkd : kindF (prnw.wordF s.kind) = s.kind := kind_word _ h1 h2
  obtain ⟨F, hF⟩ := form_first s.kind h1 h2
  obtain ⟨R, hR⟩ : ∃ R, R = argToks (formL s.kind) s.args ++ [⟨4, s.pos, ⟨#[]⟩⟩] := ⟨_, rfl⟩
  obtain ⟨a, ha⟩ : ∃ a : PTok, a = ⟨1, s.pos, s.name⟩ := ⟨_, rfl⟩
  obtain ⟨b, hb⟩ : ∃ a : PTok, a = ⟨3, s.pos, eqB⟩ := ⟨_, rfl⟩
  obtain ⟨c, hc⟩ : ∃ a : PTok, a = ⟨1, s.pos, prnw.wordF s.kind⟩ := ⟨_, rfl⟩
  have hL : stToks s = a :: b :: c :: R := by
    rw [ha, hb, hc, hR]
    unfold stToks headToks
    simp
  have hPos : Pos (stToks s) := fun t ht => by
    rw [hL] at ht
    simp only [List.mem_cons] at ht
    rcases ht with rfl | rfl | rfl | ht
    · rw [ha]; exact h3
    · rw [hb]; exact h3
    · rw [hc]; exact h3
    · rw [hR] at ht
      rcases List.mem_append.1 ht with ht | ht
      · exact pos_args _ _ hp t ht
      · rw [List.mem_singleton.1 ht]; exact h3
  have hka : a.kind = 1 := by rw [ha]
  have hkb : b.kind = 3 := by rw [hb]
  have hkc : c.kind = 1 := by rw [hc]
  have hct : kindF c.text = s.kind := by rw [hc]; exact hkd
  have hct0 : kindF c.text ≠ 0 := by rw [hct]; omega
  have hK : Kds decE (expL (formL s.kind) ++ [4]) R := by rw [hR]; exact fit_kds _ rfl _ _ a1
  have hRl : R.length = (expL (formL s.kind)).length + 1 := by
    rw [hR, List.length_append, argToks_len _ _ hl, expL_len, hl]
    rfl
  have hE4 : ∀ y ∈ expL (formL s.kind), y ≠ 4 := fun y hy => by have := expL_bd _ y hy; omega
  have hsp := spoilt_pos _ hPos k hkl
  clear hPos hR ha hb hc hkd a1 h4 hn hp h3
  obtain ⟨t0, R1, hR1, ht0⟩ : ∃ t0 R1, R = t0 :: R1 ∧ t0.kind = 2 := by
    rw [hF] at hK
    cases R with
    | nil => exact hK.elim
    | cons t0 R1 => exact ⟨t0, R1, rfl, hK.1⟩
  have fin : ∀ (a' b' c' : PTok) (r' : List PTok), Pos (a' :: b' :: c' :: r') → a'.kind ≠ 4 → ((a'.kind ≠ 1 ∨ b'.kind ≠ 3 ∨ c'.kind ≠ 1) ∨ (c' = c ∧ misD decE (expL (formL s.kind) ++ [4]) r')) → ∃ p : Int, 3 ≤ p ∧ parseRes decE (a' :: b' :: c' :: r') = ([], p, 170) := fun a' b' c' r' q1 q2 q3 =>
    parse_mis a' b' c' r' q1 q2 (q3.imp id fun q => ⟨by rw [q.1]; exact hct0, by rw [q.1, hct]; exact q.2⟩)
  intro V hV
  have hPV := hsp V hV
  unfold spoilt at hV
  simp only [List.mem_cons, List.not_mem_nil, or_false] at hV
  simp only [hL] at hV
  rw [hL] at hk
  simp only [List.length_cons] at hk
  rcases k with _ | _ | _ | j
  · have hk := hk
    rcases hV with rfl | rfl | rfl
    · rw [hR1] at hPV ⊢
      exact fin b c t0 R1 hPV (by rw [hkb]; decide) (.inl (.inl (by rw [hkb]; decide)))
    · exact fin a a b (c :: R) hPV (by rw [hka]; decide) (.inl (.inr (.inl (by rw [hka]; decide))))
    · exact fin (turn a) b c R hPV (by show a.kind % 4 + 1 ≠ 4; rw [hka]; decide) (.inl (.inl (by show a.kind % 4 + 1 ≠ 1; rw [hka]; decide)))
  · have hk := hk
    rcases hV with rfl | rfl | rfl
    · rw [hR1] at hPV ⊢
      exact fin a c t0 R1 hPV (by rw [hka]; decide) (.inl (.inr (.inl (by rw [hkc]; decide))))
    · exact fin a b b (c :: R) hPV (by rw [hka]; decide) (.inl (.inr (.inr (by rw [hkb]; decide))))
    · exact fin a (turn b) c R hPV (by rw [hka]; decide) (.inl (.inr (.inl (by show b.kind % 4 + 1 ≠ 3; rw [hkb]; decide))))
  · have hk := hk
    rcases hV with rfl | rfl | rfl
    · rw [hR1] at hPV ⊢
      exact fin a b t0 R1 hPV (by rw [hka]; decide) (.inl (.inr (.inr (by rw [ht0]; decide))))
    · exact fin a b c (c :: R) hPV (by rw [hka]; decide) (.inr ⟨rfl, by rw [hF]; exact .inl (by rw [hkc]; decide)⟩)
    · exact fin a b (turn c) R hPV (by rw [hka]; decide) (.inl (.inr (.inr (by show c.kind % 4 + 1 ≠ 1; rw [hkc]; decide))))
  · have hj : j < (expL (formL s.kind)).length := by omega
    have hjR : j < R.length := by omega
    rcases hV with rfl | rfl | rfl
    · exact fin a b c (R.take j ++ R.drop (j + 1)) hPV (by rw [hka]; decide) (.inr ⟨rfl, mis_less _ R j hj hE4 hK⟩)
    · exact fin a b c (R.take (j + 1) ++ R.drop j) hPV (by rw [hka]; decide) (.inr ⟨rfl, mis_more _ R j hj hE4 hK⟩)
    · exact fin a b c (R.set j (turn R[j])) hPV (by rw [hka]; decide) (.inr ⟨rfl, mis_other _ R j hjR hj (expL_bd _) hK⟩)
/-- a kind's word that is none -/
theorem wrong_kind (s : PStmt) (S : ByteArray) (hS : kindF S = 0) (h : 2 < (stToks s).length) : parseRes decE ((stToks s).set 2 { (stToks s)[2] with text := S }) = ([], s.pos, 171) := by
  have e : (stToks s).set 2 { (stToks s)[2] with text := S } = ⟨1, s.pos, s.name⟩ :: ⟨3, s.pos, eqB⟩ :: ⟨1, s.pos, S⟩ :: (argToks (formL s.kind) s.args ++ [⟨4, s.pos, ⟨#[]⟩⟩]) := by
    simp only [stToks, headToks]
    rfl
  rw [e]
  exact parse_kind _ _ _ _ rfl rfl rfl hS
/-! the places that the law sets -/
def posTo (l : List PArg) (i : Nat) : List PArg := l.mapIdx fun j a => if j < i then { a with pos := 10 + (j : Int) } else a
theorem posTo_len (l : List PArg) (i : Nat) : (posTo l i).length = l.length := by unfold posTo; simp
theorem posTo_zero (l : List PArg) : posTo l 0 = l := by
  unfold posTo
  refine List.ext_getElem (by simp) fun j h1 h2 => ?_
  rw [List.getElem_mapIdx, if_neg (Nat.not_lt_zero _)]
theorem posTo_at (l : List PArg) (i j : Nat) (h1 : j < (posTo l i).length) (h2 : j < l.length) : (posTo l i)[j] = if j < i then { l[j] with pos := 10 + (j : Int) } else l[j] := by
  simp only [posTo, List.getElem_mapIdx]
theorem posTo_succ (l : List PArg) (i : Nat) (h : i < l.length) (h' : i < (posTo l i).length) : posTo l (i + 1) = (posTo l i).set i { (posTo l i)[i] with pos := 10 + (i : Int) } := by
  refine List.ext_getElem (by rw [List.length_set, posTo_len, posTo_len]) fun j h1 h2 => ?_
  have hj : j < l.length := by rw [posTo_len] at h1; exact h1
  rw [posTo_at l (i + 1) j h1 hj, List.getElem_set]
  by_cases hij : i = j
  · subst hij
    rw [if_pos rfl, if_pos (by omega), posTo_at l i i h' h, if_neg (by omega)]
  · rw [if_neg hij, posTo_at l i j (by rw [posTo_len]; exact hj) hj]
    by_cases h5 : j < i
    · rw [if_pos h5, if_pos (by omega)]
    · rw [if_neg h5, if_neg (by omega)]
theorem posTo_num (l : List PArg) (i : Nat) (h : ∀ a ∈ l, a.num < 18446744073709551616) : ∀ a ∈ posTo l i, a.num < 18446744073709551616 := fun a ha => by
  obtain ⟨j, hj, rfl⟩ := List.getElem_of_mem ha
  have hj' : j < l.length := by rw [posTo_len] at hj; exact hj
  rw [posTo_at l i j hj hj']
  have := h l[j] (List.getElem_mem hj')
  split <;> exact this
theorem posTo_pos (l : List PArg) : ∀ a ∈ posTo l l.length, 3 ≤ a.pos := fun a ha => by
  obtain ⟨j, hj, rfl⟩ := List.getElem_of_mem ha
  have hj' : j < l.length := by rw [posTo_len] at hj; exact hj
  rw [posTo_at l l.length j hj hj', if_pos hj']
  show 3 ≤ 10 + (j : Int)
  omega
theorem posTo_fine (s : PStmt) (p : Int) (hf : fineS s = true) : fineS { s with pos := p, args := posTo s.args s.args.length } = true := by
  obtain ⟨h1, h2, h3, h4⟩ := fine_parts hf
  unfold fineS
  simp only
  rw [decide_eq_true h1, decide_eq_true h2, posTo_len, decide_eq_true h3.symm]
  refine argsFine_all _ _ fun j x1 x2 => ?_
  have hj : j < s.args.length := by rw [posTo_len] at x2; exact x2
  have := argsFine_at _ _ h3 h4 j x1 hj
  rw [posTo_at s.args s.args.length j x2 hj, if_pos hj]
  exact this
theorem acells_set0 : ∀ (l : List PArg) (i : Nat) (h : i < l.length) (p : Int), (acells l).set (i * 3) (.int .i64 p) = acells (l.set i { l[i] with pos := p })
  | a :: l, 0, _, p => rfl
  | a :: l, i + 1, h, p => by
    have e : acells (a :: l) = a.cells ++ acells l := rfl
    have e2 : acells ((a :: l).set (i + 1) { (a :: l)[i + 1] with pos := p }) = a.cells ++ acells (l.set i { l[i]'(by simpa using h) with pos := p }) := rfl
    rw [e, e2, ← acells_set0 l i (by simpa using h) p, List.set_append_right _ _ (by simp [PArg.cells]; omega)]
    congr 1
    simp [PArg.cells]
    congr 1
    omega
theorem pcells_set (f : Nat) (hf : f < 3) (g : PTok → PTok) (v : PTok → Value) (hg : ∀ t, (g t).cells = t.cells.set f (v t)) : ∀ (l : List PTok) (i : Nat) (h : i < l.length), (pcells l).set (i * 3 + f) (v l[i]) = pcells (l.set i (g l[i]))
  | t :: l, 0, _ => by
    have e : pcells (t :: l) = t.cells ++ pcells l := rfl
    have e2 : pcells ((t :: l).set 0 (g (t :: l)[0])) = (g t).cells ++ pcells l := rfl
    rw [e, e2, hg, List.set_append_left _ _ (by simp [PTok.cells]; omega)]
    simp
  | t :: l, i + 1, h => by
    have e : pcells (t :: l) = t.cells ++ pcells l := rfl
    have e2 : pcells ((t :: l).set (i + 1) (g (t :: l)[i + 1])) = t.cells ++ pcells (l.set i (g (l[i]'(by simpa using h)))) := rfl
    rw [e, e2, ← pcells_set f hf g v hg l i (by simpa using h), List.set_append_right _ _ (by simp [PTok.cells]; omega)]
    congr 1
    have : (i + 1) * 3 + f - t.cells.length = i * 3 + f := by simp [PTok.cells]; omega
    rw [this]
    rfl
end Go.Proofs.YtejmbbkklhpnaaaGreatDoor.plm

/- Appends of arguments, slices of tokens, as ParseWrong wants them. Conditions: as each theorem states. -/
namespace Go.Proofs.YtejmbbkklhpnaaaGreatDoor.plw
open Go.RowKit
open Go.Proofs.YtejmbbkklhpnaaaGreatDoor.parw
open Go.Proofs.YtejmbbkklhpnaaaGreatDoor.plm
open Go.Proofs.YtejmbbkklhpnaaaGreatDoor.bkp
open Go.Proofs.YtejmbbkklhpnaaaGreatDoor.pft (TArg)

theorem argInfo : (Tryz.prog.info? 40).map (fun i => (i.zero, i.size, i.bytes)) = some (some (.agg #[.int .i64 0, .float .f64 0, .string ⟨#[]⟩]), 3, 32) := by kernel_rfl
theorem acells_one (l : List PArg) : ∀ u ∈ acells l, u.oneCell' = true := by
  intro u hu
  unfold acells at hu
  obtain ⟨a, _, hu⟩ := List.mem_flatMap.1 hu
  simp only [PArg.cells, List.mem_cons, List.not_mem_nil, or_false] at hu
  rcases hu with rfl | rfl | rfl <;> rfl
/-- what an append of arguments to an own row does -/
theorem aapp_run {w : World} (base : Nat) (v : Value) (n : Nat) (xs : List Value) (hown : w.ownsRow base 40 3 v n xs)
    (B : Nat) (sv : Value) (l : List PArg) (hr : ARead w B sv l) (hnil : ∃ A c, sv = .slice A l.length c ∧ l.length ≤ c ∧ (A = none → c = 0)) (hn : n + l.length ≤ 1000000) (hbase : base ≤ w.heap.size) :
    ∃ v' w', (∀ (o : Oper) (a : Act) (s x : Operand), o.op = .call { callee := .builtin .append, args := #[s, x], argTypes := #[26, 26] } → a.eval s = v → a.eval x = sv → (execOp a.eval o).run Tryz.prog w = .ok (.value v') w') ∧
      w'.ownsRow base 40 3 v' (n + l.length) (xs ++ acells l) ∧ w.grownBy w' v.ownBlock := by
  obtain ⟨i0, hi0, hz0, hz1, hz2⟩ := info_parts argInfo
  obtain ⟨A, c, rfl, hcell⟩ := hr
  obtain ⟨A', c', he, hlc, hnil⟩ := hnil
  injection he with e1 e2 e3
  subst e1 e3
  cases A with
  | none =>
    have h0 := hnil rfl
    have hl0 : l.length = 0 := by omega
    obtain rfl := List.eq_nil_of_length_eq_zero hl0
    subst h0
    refine ⟨v, w, fun o a s x ho hs hx => ?_, by simpa [acells] using hown, World.grownBy.refl _ _⟩
    have hrun := run_append_owned_none (P := Tryz.prog) (w := w) base 26 o.type 40 i0 3 Tryz.underlying26 hi0 v n xs hown
    have hx' : a.eval x = .slice none 0 0 := hx
    unfold execOp
    simp only [ho, resolve, invoke, builtin, Sem.run_bind, Sem.run_pure, Result.andThen_ok, List.map_toArray, List.map_cons, List.map_nil, hs, hx', hrun]
  | some ad =>
    obtain ⟨v', w', hrun, h2, h3, _⟩ := run_append_own (P := Tryz.prog) w base 26 0 40 i0 _ 3 32 Tryz.underlying26 hi0 hz0 hz1 hz2 rfl (by omega) v n xs hown ad l.length c (acells l) (acells_length l)
      (fun j u hu => by
        obtain ⟨g, off, e, _, hx⟩ := hcell (by intro e; subst e; simp [acells] at hu)
        obtain rfl := Option.some.inj e
        have hadd : (⟨g, off, none⟩ : Addr).add j = ⟨g, off + j, none⟩ := by unfold Addr.add; split <;> simp_all
        rw [hadd]; exact hx j u hu) (acells_one l) (by unfold maxLen; omega) (by omega) hbase
    refine ⟨v', w', fun o a s x ho hs hx => ?_, h2, h3⟩
    have hrun' : (Builtin.append_ #[26, 26] o.type #[v, .slice (some ad) l.length c]).run Tryz.prog w = .ok v' w' := hrun
    unfold execOp
    simp only [ho, resolve, invoke, builtin, Sem.run_bind, Sem.run_pure, Result.andThen_ok, List.map_toArray, List.map_cons, List.map_nil, hs, hx, hrun']
theorem abs0_run (w : World) : (Instr.buildSlice 26 0 #[]).run Tryz.prog w = .ok (.slice (some ⟨w.heap.size, 0, none⟩) 0 0) (w.alloc (.cells #[] 40)) := by
  kernel_rfl
theorem exec_abs0 {o : Oper} (ho : o.op = .buildSlice 26 0 #[]) (a : Act) (w : World) : (execOp a.eval o).run Tryz.prog w = .ok (.value (.slice (some ⟨w.heap.size, 0, none⟩) 0 0)) (w.alloc (.cells #[] 40)) := by
  unfold execOp
  simp only [ho, Sem.run_bind, List.map_toArray, List.map_nil, abs0_run, Result.andThen_ok, Sem.run_pure]
theorem own_abs0 (w : World) (base : Nat) (hb : base ≤ w.heap.size) : (w.alloc (.cells #[] 40)).ownsRow base 40 3 (.slice (some ⟨w.heap.size, 0, none⟩) 0 0) 0 [] :=
  pft.own_new w w.heap.size base rfl hb _ 3 0 [] rfl (by decide)
theorem tslice_to (A : Option Addr) (len cap k : Nat) (h : k ≤ cap) (wx : World) :
    (Instr.slice 25 (.slice A len cap) none (some (.int .i64 (k : Int))) none).run Tryz.prog wx = .ok (.slice (if cap = 0 then A else A.map (·.add (0 * 3))) k cap) wx := by
  have h0 : (0 : Int) ≤ (k : Int) := by omega
  have h1 : (k : Int) ≤ (cap : Int) := by omega
  simp [Instr.slice, run_underlying Tryz.underlying25, Instr.sliceBounds, run_sliceBound, h, Tryz.sizeOf31]
theorem tslice_from (A : Option Addr) (len cap k : Nat) (h : k ≤ len) (wx : World) :
    (Instr.slice 25 (.slice A len cap) (some (.int .i64 (k : Int))) none none).run Tryz.prog wx = .ok (.slice (if cap = k then A else A.map (·.add (k * 3))) (len - k) (cap - k)) wx := by
  have h0 : (0 : Int) ≤ (k : Int) := by omega
  have h1 : (k : Int) ≤ (len : Int) := by omega
  simp [Instr.slice, run_underlying Tryz.underlying25, Instr.sliceBounds, run_sliceBound, h, Tryz.sizeOf31]
theorem pcells_take (l : List PTok) (k j : Nat) (u : Value) (h : (pcells (l.take k))[j]? = some u) : (pcells l)[j]? = some u := by
  have e : pcells l = pcells (l.take k) ++ pcells (l.drop k) := by rw [← pcells_app, List.take_append_drop]
  rw [e, List.getElem?_append_left (List.getElem?_eq_some_iff.1 h).1]
  exact h
theorem pcells_drop (l : List PTok) (k j : Nat) (hk : k ≤ l.length) (u : Value) (h : (pcells (l.drop k))[j]? = some u) : (pcells l)[k * 3 + j]? = some u := by
  have e : pcells l = pcells (l.take k) ++ pcells (l.drop k) := by rw [← pcells_app, List.take_append_drop]
  have hl : (pcells (l.take k)).length = k * 3 := by rw [pcells_length, List.length_take, Nat.min_eq_left hk]
  rw [e, List.getElem?_append_right (by omega), hl, Nat.add_sub_cancel_left]
  exact h
theorem tk_to {W : World} {B : Nat} {A : Option Addr} {c : Nat} {l : List PTok} (h : TArg W B (.slice A l.length c) l) (k : Nat) (hk : k ≤ l.length) :
    ∃ v', (∀ wx : World, (Instr.slice 25 (.slice A l.length c) none (some (.int .i64 (k : Int))) none).run Tryz.prog wx = .ok v' wx) ∧ TArg W B v' (l.take k) := by
  obtain ⟨A', c', hv, hc, hn, hx⟩ := h
  injection hv with e1 e2 e3
  subst e1 e3
  refine ⟨_, fun wx => tslice_to A l.length c k (by omega) wx, _, _, by rw [List.length_take, Nat.min_eq_left hk], by rw [List.length_take]; omega, fun h0 => ?_, fun h0 => ?_⟩
  · by_cases hc0 : c = 0
    · exact hc0
    · rw [if_neg hc0] at h0
      cases A with
      | none => exact hn rfl
      | some a => cases h0
  · obtain ⟨g, off, rfl, hB, hl, hx⟩ := hx (by intro e; subst e; simp at h0)
    have hkl : 0 < k := by
      rcases Nat.eq_zero_or_pos k with h' | h'
      · subst h'; exact absurd rfl h0
      · exact h'
    refine ⟨g, off, ?_, hB, hl, fun j u hu => hx j u (pcells_take l k j u hu)⟩
    rw [if_neg (by omega)]; simp [Addr.add]
theorem tk_from {W : World} {B : Nat} {A : Option Addr} {c : Nat} {l : List PTok} (h : TArg W B (.slice A l.length c) l) (k : Nat) (hk : k ≤ l.length) :
    ∃ v', (∀ wx : World, (Instr.slice 25 (.slice A l.length c) (some (.int .i64 (k : Int))) none none).run Tryz.prog wx = .ok v' wx) ∧ TArg W B v' (l.drop k) := by
  obtain ⟨A', c', hv, hc, hn, hx⟩ := h
  injection hv with e1 e2 e3
  subst e1 e3
  refine ⟨_, fun wx => tslice_from A l.length c k hk wx, _, _, by rw [List.length_drop], by rw [List.length_drop]; omega, fun h0 => ?_, fun h0 => ?_⟩
  · by_cases hck : c = k
    · omega
    · rw [if_neg hck] at h0
      cases A with
      | none => have := hn rfl; omega
      | some a => cases h0
  · have hkl : k < l.length := by
      apply Nat.lt_of_not_le
      intro hle
      exact h0 (List.drop_eq_nil_of_le hle)
    obtain ⟨g, off, rfl, hB, hl, hx⟩ := hx (by intro e; subst e; simp at hkl)
    refine ⟨g, off + k * 3, ?_, hB, hl, fun j u hu => ?_⟩
    · rw [if_neg (by omega)]; simp [Addr.add]
    · rw [Nat.add_assoc]
      exact hx _ u (pcells_drop l k j hk u hu)
theorem readsR_val {P : Program} {ops : Array Oper} {C : World → Prop} {o : Oper} {v : Value} {a : Act} (hg : o.guard = none) (h : ∀ w, C w → (execOp a.eval o).run P w = .ok (.value v) w) : qt.ReadsR P ops C o v a :=
  .inl ⟨by simp [Region.wanted, hg], fun w hw => .inl (h w hw)⟩
theorem exec_slice {o : Oper} {a : Act} {w : World} {v : Value} (x : Operand) (lo hi mx : Option Operand) (ho : o.op = .slice 25 x lo hi mx)
    (h : (Instr.slice 25 (a.eval x) (lo.map a.eval) (hi.map a.eval) (mx.map a.eval)).run Tryz.prog w = .ok v w) : (execOp a.eval o).run Tryz.prog w = .ok (.value v) w := by
  have hu : Tryz.prog.underlying 25 = some (.slice (Tryz.prog.elem 25)) := by kernel_rfl
  unfold execOp
  simp only [ho, Sem.run_bind, run_sliceAt_slice (h := hu), h, Result.andThen_ok, Sem.run_pure]
theorem pcells_at : ∀ (l : List PTok) (i : Nat) (hi : i < l.length) (j : Nat), j < 3 → (pcells l)[i * 3 + j]? = l[i].cells[j]?
  | t :: r, 0, _, j, hj => by
    have e0 : pcells (t :: r) = t.cells ++ pcells r := rfl
    rw [e0, List.getElem?_append_left (by simp [PTok.cells]; omega)]
    simp
  | t :: r, i + 1, hi, j, hj => by
    have e0 : pcells (t :: r) = t.cells ++ pcells r := rfl
    rw [e0, List.getElem?_append_right (by simp [PTok.cells]; omega)]
    have e1 : (i + 1) * 3 + j - t.cells.length = i * 3 + j := by simp [PTok.cells]; omega
    rw [e1, pcells_at r i (by simpa using hi) j hj]
    simp
theorem tok_cell {w : World} {base g c n : Nat} {l : List PTok} (h : w.ownsRow base 31 3 (.slice (some ⟨g, 0, none⟩) n c) n (pcells l)) (k : Nat) (hk : k < l.length) (hn : l.length = n) (j : Nat) (hj : j < 3) : w.cell? ⟨g, k * 3 + j, none⟩ = l[k].cells[j]? := by
  rw [h.cellAt _ (by omega), pcells_at l k hk j hj]
theorem args_kind : ∀ (bs : List Bool) (l : List PArg) {t : PTok}, t ∈ argToks bs l → t.kind ≤ 4
  | [], [], _, h => by cases h
  | [], _ :: _, _, h => by cases h
  | _ :: _, [], _, h => by cases h
  | b :: bs, a :: l, t, h => by
    rcases List.mem_cons.1 h with rfl | h
    · unfold argTok
      split <;> simp only <;> decide
    · exact args_kind bs l h
theorem stToks_kind (s : PStmt) {t : PTok} (h : t ∈ stToks s) : t.kind ≤ 4 := by
  unfold stToks headToks at h
  rcases List.mem_append.1 h with h | h
  · rcases List.mem_append.1 h with h | h
    · simp only [List.mem_cons, List.not_mem_nil, or_false] at h
      rcases h with rfl | rfl | rfl <;> simp only <;> decide
    · exact args_kind _ _ h
  · rw [List.mem_singleton.1 h]
    exact Nat.le_refl _
theorem targ_self {W : World} {B : Nat} {v : Value} {ts : List PTok} (h : TArg W B v ts) : TArg W W.heap.size v ts := by
  obtain ⟨A, c, h1, h2, h3, h4⟩ := h
  exact ⟨A, c, h1, h2, h3, fun h0 => by obtain ⟨g, off, q1, _, q3, q4⟩ := h4 h0; exact ⟨g, off, q1, q3, q3, q4⟩⟩
def lamB : ByteArray := ⟨#[76, 97, 109, 98, 101, 114, 116]⟩
theorem lam_kind : kindF lamB = 0 := by decide +kernel
/-- any world -/
structure AW where
  out : World
instance : Nonempty AW := ⟨⟨default⟩⟩
end Go.Proofs.YtejmbbkklhpnaaaGreatDoor.plw

/- burnishlaw17.ParseWrong: the walk. Conditions: the statement lies in memory, its numbers are numbers; the library's tables hold what the row lists. -/
namespace Go.Proofs.YtejmbbkklhpnaaaGreatDoor.plw
open Go.RowKit
open Go.Proofs.YtejmbbkklhpnaaaGreatDoor.parw
open Go.Proofs.YtejmbbkklhpnaaaGreatDoor.bkp
open Go.Proofs.YtejmbbkklhpnaaaGreatDoor.plm
open Go.Proofs.YtejmbbkklhpnaaaGreatDoor.qt
open Go.Proofs.YtejmbbkklhpnaaaGreatDoor.bsw (wl_val)
open Go.Proofs.YtejmbbkklhpnaaaGreatDoor.pft (TArg tapp_run exec_tbs1 exec_tbs0 own_tbs0)
open Go.Proofs.YtejmbbkklhpnaaaGreatDoor.prnw (Bel bA bA_list prT prOk prE prB print_b hiP loP Env)
open Go.Proofs.YtejmbbkklhpnaaaGreatDoor.flow (decE Laid dec_ok)
open Go.BigFrame

/-- what the first loop holds -/
structure W1 (B : Nat) (w : World) (s : PStmt) (i : Nat) (X : World) : Prop where
  kl : KL B w X
  bx : ∃ Av cv, X.heap[w.heap.size]? = some (.cells #[.string s.name, .int .i64 s.pos, .int .u8 (s.kind : Nat), .slice Av s.args.length cv] 28 (0, 0)) ∧ ARead X X.heap.size (.slice Av s.args.length cv) (posTo s.args i) ∧ s.args.length ≤ cv ∧ (Av = none → cv = 0) ∧ ∀ g off, Av = some ⟨g, off, none⟩ → s.args ≠ [] → g ≠ w.heap.size
theorem aread_up {W : World} {B B' : Nat} {v : Value} {l : List PArg} (h : ARead W B v l) (hb : B ≤ B') : ARead W B' v l := pft.aread_mono h hb
theorem kl_of {B : Nat} {w u : World} (hE : Env hiP loP w) (hL : Laid B w) (hb : Below w.heap.size w u) : KL B w u :=
  ⟨hE.later hb, Laid.stable B w u none hL (parw.grown_below hb none) (fun r e => by cases e), hb⟩
set_option maxRecDepth 100000 in
set_option maxHeartbeats 3000000 in
theorem wrong17 (B : Nat) (s : PStmt) (v : Value) (at_ : Nat) (hat : at_ < 256) (hk : s.kind < 256) (hnum : ∀ a ∈ s.args, a.num < 18446744073709551616) (w : World) (hr : ARead w B v s.args) (hform : ∃ A c, v = .slice A s.args.length c ∧ s.args.length ≤ c ∧ (A = none → c = 0)) (hB : B ≤ w.heap.size) (hE : Env hiP loP w) (hL : Laid B w) :
    Calls Tryz.prog 4 #[stV s v, .int .u8 (at_ : Nat)] w (Bel w (.bool true)) := by
  obtain ⟨A, c, rfl, hAc, hAn⟩ := hform
  obtain ⟨N, hN⟩ : ∃ N, s.args.length = N := ⟨_, rfl⟩
  obtain ⟨W, hW⟩ : ∃ W, W = w.alloc (.cells #[.string s.name, .int .i64 s.pos, .int .u8 (s.kind : Nat), .slice A N c] 28) := ⟨_, rfl⟩
  have hBW : Below w.heap.size w W := by rw [hW]; exact (Below.refl _ _).alloc (Nat.le_refl _) _
  have hbk : W.heap[w.heap.size]? = some (.cells #[.string s.name, .int .i64 s.pos, .int .u8 (s.kind : Nat), .slice A N c] 28 (0, 0)) := by rw [hW]; exact heap_alloc_new w _
  have KW := kl_of hE hL hBW
  rw [hN] at hr hAc
  have hrW : ARead W B (.slice A N c) s.args := hr.keep fun g _ hg => hBW.block g hg
  have CF := Lib.hid (show Calls Tryz.prog 8 #[.agg #[.string s.name, .int .i64 s.pos, .int .u8 (s.kind : Nat), .slice A N c]] W (Bel W (.bool (fineS s))) from fine_any B s hk hnum _ W hrW (Nat.le_trans hB hBW.size) KW.en)
  have CA := Lib.hid (fun (u : World) (h : KL B w u) => show Calls Tryz.prog 7 #[] u (Bel u (.bool true)) from awaw.awake_any B u h.la (Nat.le_trans hB h.lo.size))
  have HW1 : W1 B w s 0 W := ⟨KW, A, c, by rw [hN]; exact hbk, by rw [hN, posTo_zero]; exact aread_up hrW (Nat.le_trans hB hBW.size), by rw [hN]; exact hAc, hAn, fun g off e h0 => by
    obtain ⟨A', c', h1, h2⟩ := hrW
    injection h1 with z1 _ _
    obtain ⟨g', off', q1, q2, _⟩ := h2 h0
    rw [← z1, e] at q1
    have q3 := Option.some.inj q1
    injection q3 with q4 _
    omega⟩
  obtain ⟨b0, hb0⟩ : ∃ b0, b0 = w.heap.size := ⟨_, rfl⟩
  rw [← hb0] at hbk
  have k0 := (cell_of_row W b0 0 _ _ _ hbk).trans rfl
  have k1 := (cell_of_row W b0 1 _ _ _ hbk).trans rfl
  have k2 := (cell_of_row W b0 2 _ _ _ hbk).trans rfl
  have k3 := (cell_of_row W b0 3 _ _ _ hbk).trans rfl
  have HX := Lib.hid (And.intro HW1 (And.intro hN (And.intro hB (And.intro hE (And.intro hL (And.intro hnum (And.intro hk hb0)))))))
  unfold stV
  rw [hN]
  clear hr hAc hAn hbk hBW HW1 hB hE hL hnum hk hN hrW
  go_enter Tryz.func4, Tryz.ntmps4
  go_upto_region 1 with fail
  rw [← hb0, ← hW]
  clear hb0 hW
  cases hf : fineS s with
  | false =>
    rw [hf] at CF
    have HK := Lib.hid KW
    clear KW
    go_wp2_with (first
      | (go_at_call 8; (with_reducible refine CF.out.mono ?_); rintro e w2 ⟨rfl, hb2⟩; have K2 := Lib.hid (HK.out.on hb2); clear hb2)
      | (go_at_call 7; (with_reducible refine (CA.out _ K2.out).mono ?_); rintro e w3 ⟨rfl, hb3⟩; have K3 := Lib.hid (K2.out.on hb3); clear hb3))
    go_ret
    exact ⟨rfl, K3.out.lo⟩
  | true =>
    rw [hf] at CF
    have HF := Lib.hid hf
    clear hf KW
    have hN7 : N ≤ 7 := by
      obtain ⟨_, h2, h3, -⟩ := fine_parts HF.out
      have := (parw.form_len s.kind h2).2
      have := HX.out.2.1
      omega
    go_upto_region 3 with (go_at_call 8; (with_reducible refine CF.out.mono ?_); rintro e w2 ⟨rfl, hb2⟩; have B2 := Lib.hid hb2; clear hb2)
    have k3' := (B2.out.cell (p := ⟨b0, 3, none⟩) (World.block_lt_of_cell? W _ k3)).trans k3
    clear k0 k1 k2 k3
    have HW2 : W1 B w s 0 w2 := by
      obtain ⟨q1, Av, cv, q2, q3, q4, q5, q6⟩ := HX.out.1
      exact ⟨q1.on B2.out, Av, cv, (B2.out.block _ (Array.getElem?_eq_some_iff.1 q2).1).trans q2, aread_up (q3.keep fun g _ hg => B2.out.block g hg) B2.out.size, q4, q5, q6⟩
    have HS0 := Lib.hid HW2
    clear HW2
    go_wp2_with fail
    clear k3'
    go_loopw [27] (fun s27 wr => ∃ i : Nat, i ≤ N ∧ s27 = .int .i64 (i : Nat) ∧ W1 B w s i wr) (fun s27 _ => N - (intOf s27).toNat)
    case atStart => exact ⟨0, Nat.zero_le _, rfl, HS0.out⟩
    case round =>
      obtain ⟨i, hi, rfl, hK, Av, cv, hbx, har, hvc, hvn, hvg⟩ := hrel
      rw [← HX.out.2.2.2.2.2.2.2, HX.out.2.1] at hbx
      rw [HX.out.2.1] at har hvc
      have i0 : (0 : Int) ≤ (i : Int) := by omega
      have i7 : (i : Int) ≤ 7 := by omega
      by_cases hiN : i < N
      · have d1 : (i : Int) < (N : Int) := by omega
        have hal : (posTo s.args i).length = N := by rw [posTo_len, HX.out.2.1]
        have hbb : b0 < wr.heap.size := (Array.getElem?_eq_some_iff.1 hbx).1
        have hwb : w.heap.size + 1 ≤ wr.heap.size := by rw [← HX.out.2.2.2.2.2.2.2]; omega
        have hx0 := (Below.refl wr.heap.size wr).alloc (Nat.le_refl _) (.cells #[] 40)
        have hox := own_abs0 wr (w.heap.size + 1) hwb
        have harx : ARead (wr.alloc (.cells #[] 40)) wr.heap.size (.slice Av N cv) (posTo s.args i) := har.keep fun g _ hg => hx0.block g hg
        have hbx0 : (wr.alloc (.cells #[] 40)).heap[b0]? = _ := (hx0.block b0 hbb).trans hbx
        have s3 : (wr.alloc (.cells #[] 40)).cell? ⟨b0, 3, none⟩ = some (.slice Av N cv) := (cell_of_row _ b0 3 _ _ _ hbx0).trans rfl
        obtain ⟨v33, w5, hrun, ho5, hg5⟩ := aapp_run (w.heap.size + 1) _ 0 [] hox wr.heap.size _ (posTo s.args i) harx ⟨Av, cv, by rw [hal], by rw [hal]; exact hvc, hvn⟩ (by omega) (Nat.le_trans hwb hx0.size)
        rw [Nat.zero_add, List.nil_append, hal] at ho5
        have hb5 : w5.heap[b0]? = _ := (hg5.block b0 (by simp; omega) (fun e => by have := own_base hox e.symm; have := HX.out.2.2.2.2.2.2.2; omega)).trans hbx0
        have hB5 : Below w.heap.size w w5 := hK.lo.trans ((hx0.grown hg5 hx0.size (fun r e => by
          have h1 : some wr.heap.size = some r := e
          have := Option.some.inj h1
          omega)).mono hK.lo.size)
        obtain ⟨A5, c5, rfl⟩ := lexw.row_form ho5
        obtain ⟨g5, rfl⟩ : ∃ g5, A5 = some (⟨g5, 0, none⟩ : Addr) := by
          obtain ⟨g5, cap5, he, _⟩ := World.ownsRow.form ho5 (by omega)
          injection he with e1
          exact ⟨g5, e1⟩
        have c3 : w5.cell? ⟨b0, 3, none⟩ = some (.slice Av N cv) := (cell_of_row _ b0 3 _ _ _ hb5).trans rfl
        have q3 : w5.frozen? ⟨b0, 3, none⟩ = false := by simp [World.frozen?, hb5]
        have HJ := Lib.hid (And.intro hb5 (And.intro ho5 (And.intro hB5 hal)))
        clear hbx har hvc hvn hvg hx0 hox harx hbx0 hg5 hb5 hB5 ho5 hal hbb hwb hK
        go_upto_region 7 with ((with_reducible refine wl_here ?_); (first | (refine wl_val rfl _ (exec_abs0 rfl _ _) ?_) | (refine wl_val rfl _ (hrun _ _ (.tmp 30) (.tmp 32) rfl rfl rfl) ?_)); (simp only [Act.put, List.setIfInBounds_toArray, List.set_cons_succ, List.set_cons_zero]))
        obtain ⟨hb5, ho5, hB5, hal⟩ := HJ.out
        have hb6 := heap_set w5 b0 3 _ _ _ (.slice (some ⟨g5, 0, none⟩) N c5) hb5
        have ho6 := own_grown ho5 (grown_setCell w5 ⟨b0, 3, none⟩ (.slice (some ⟨g5, 0, none⟩) N c5)) (fun r e => by
          have h1 := Option.some.inj e
          have := HX.out.2.2.2.2.2.2.2
          simp only at h1
          omega)
        have hB6 := hB5.setCell (p := ⟨b0, 3, none⟩) (show w.heap.size ≤ b0 by rw [HX.out.2.2.2.2.2.2.2]; exact Nat.le_refl _) (.slice (some ⟨g5, 0, none⟩) N c5)
        obtain ⟨w6, hw6⟩ : ∃ w6, w6 = w5.setCell ⟨b0, 3, none⟩ (.slice (some ⟨g5, 0, none⟩) N c5) := ⟨_, rfl⟩
        rw [← hw6] at hb6 ho6 hB6 ⊢
        have hne5 : g5 ≠ b0 := fun e => by
          have h1 := own_base ho5 (r := g5) rfl
          have := HX.out.2.2.2.2.2.2.2
          omega
        clear hw6 hrun s3 c3 q3 hb5 ho5 hB5
        have hari : i < (posTo s.args i).length := by omega
        have hAR : ARead w6 w6.heap.size (.slice (some ⟨g5, 0, none⟩) (posTo s.args i).length c5) (posTo s.args i) := by
          refine ARead.of_own (base := w.heap.size + 1) ?_
          rw [hal]
          exact ho6
        obtain ⟨g', off', hA', -, x0, -, -⟩ := arg_at hAR i hari
        have hA'' := Option.some.inj hA'
        injection hA'' with y1 y2
        subst y1 y2
        rw [Nat.zero_add] at x0
        obtain ⟨p0, hp0⟩ : ∃ p0, (posTo s.args i)[i].pos = p0 := ⟨_, rfl⟩
        rw [hp0] at x0
        clear hp0
        have fz := ho6.frozenAt (i * 3)
        have hst := ho6.stored (i * 3) (.int .i64 (10 + (i : Int)))
        rw [acells_set0 _ i hari, ← posTo_succ s.args i (by have := HX.out.2.1; omega) hari] at hst
        have hb7 : (w6.setCell ⟨g5, i * 3, none⟩ (.int .i64 (10 + (i : Int)))).heap[b0]? = _ := (Below.heap_setCell w6 ⟨g5, i * 3, none⟩ (.int .i64 (10 + (i : Int))) b0 (by show b0 ≠ g5; exact Ne.symm hne5)).trans hb6
        have hB7 := hB6.setCell (p := ⟨g5, i * 3, none⟩) (show w.heap.size ≤ g5 by have h1 := own_base ho6 (r := g5) rfl; omega) (.int .i64 (10 + (i : Int)))
        have c3 : w6.cell? ⟨b0, 3, none⟩ = some (.slice (some ⟨g5, 0, none⟩) N c5) := (cell_of_row _ b0 3 _ _ _ hb6).trans rfl
        have HZ := Lib.hid (And.intro hst.1 (And.intro hb7 hB7))
        clear hst hb7 hB7 hb6 ho6 hB6 hAR hA' hal hari
        go_wp2_with fail
        go_roundw
        case rel =>
          obtain ⟨h1, h2, h3⟩ := HZ.out
          have hN := HX.out.2.1
          refine ⟨i + 1, by omega, by go_num, kl_of HX.out.2.2.2.1 HX.out.2.2.2.2.1 h3, some ⟨g5, 0, none⟩, c5, ?_, ?_, ?_, (fun e => by cases e), fun g off e _ => ?_⟩
          · rw [← HX.out.2.2.2.2.2.2.2, hN]
            exact h2
          · rw [hN]
            have h4 : (posTo s.args (i + 1)).length = N := by rw [posTo_len, hN]
            have := ARead.of_own (base := w.heap.size + 1) (v := .slice (some ⟨g5, 0, none⟩) N c5) (l := posTo s.args (i + 1)) (by rw [h4]; exact h1)
            exact this
          · rcases h1.2 with ⟨e, _⟩ | ⟨_, _, _, e, _, _, e2, _⟩
            · cases e
            · injection e with _ _ e3
              rw [e3, hN]
              exact e2
          · have q3 := Option.some.inj e
            injection q3 with q4 _
            have := HX.out.2.2.2.2.2.2.2
            omega
        case measure => simp [intOf]; omega
      · obtain rfl : i = N := by omega
        have d1 : ¬ (i : Int) < (i : Int) := by omega
        have f1 : wr.frozen? ⟨b0, 1, none⟩ = false := by simp [World.frozen?, hbx]
        have e1 : wr.cell? ⟨b0, 1, none⟩ = some (.int .i64 s.pos) := (cell_of_row _ b0 1 _ _ _ hbx).trans rfl
        have hb9 := heap_set wr b0 1 _ _ _ (.int .i64 3) hbx
        have hB9 := hK.lo.setCell (p := ⟨b0, 1, none⟩) (show w.heap.size ≤ b0 by rw [HX.out.2.2.2.2.2.2.2]; exact Nat.le_refl _) (.int .i64 3)
        have har9 : ARead (wr.setCell ⟨b0, 1, none⟩ (.int .i64 3)) wr.heap.size (.slice Av i cv) (posTo s.args i) := by
          obtain ⟨A', c', h1, h2⟩ := har
          refine ⟨A', c', h1, fun h0 => ?_⟩
          obtain ⟨g, off, q1, q2, q3⟩ := h2 h0
          have hne : g ≠ b0 := by
            rw [HX.out.2.2.2.2.2.2.2]
            refine hvg g off ?_ (fun e => h0 (by rw [e]; rfl))
            injection h1 with z1 _ _
            rw [z1]
            exact q1
          refine ⟨g, off, q1, q2, fun j u hu => ?_⟩
          exact (World.cell?_of_block (a := ⟨g, off + j, none⟩) (Below.heap_setCell wr ⟨b0, 1, none⟩ (.int .i64 3) g (by show g ≠ b0; exact hne))).trans (q3 j u hu)
        have HZ := Lib.hid (And.intro hb9 (And.intro hB9 har9))
        clear hbx har hK hb9 hB9 har9
        go_upto_region 10 with fail
        obtain ⟨hb9, hB9, har9⟩ := HZ.out
        obtain ⟨w9, hw9⟩ : ∃ w9, w9 = wr.setCell ⟨b0, 1, none⟩ (.int .i64 3) := ⟨_, rfl⟩
        have hz9 : w9.heap.size = wr.heap.size := by rw [hw9]; show (Array.modify _ _ _).size = _; rw [Array.size_modify]
        rw [← hw9] at hb9 hB9 har9 ⊢
        rw [← hz9] at har9
        clear hw9 hz9 HZ
        obtain ⟨s2, hs2⟩ : ∃ s2 : PStmt, s2 = { s with pos := 3, args := posTo s.args s.args.length } := ⟨_, rfl⟩
        have hN := HX.out.2.1
        have hf2 : fineS s2 = true := by rw [hs2]; exact posTo_fine s 3 HF.out
        have hn2 : ∀ a ∈ s2.args, a.num < 18446744073709551616 := by rw [hs2]; exact posTo_num _ _ HX.out.2.2.2.2.2.1
        have hp2 : ∀ a ∈ s2.args, 3 ≤ a.pos := by rw [hs2]; exact posTo_pos _
        have hr2 : ARead w9 w9.heap.size (.slice Av i cv) s2.args := by rw [hs2]; show ARead _ _ _ (posTo s.args s.args.length); rw [hN]; exact har9
        have K9 := Lib.hid (kl_of HX.out.2.2.2.1 HX.out.2.2.2.2.1 hB9)
        have CT : Calls Tryz.prog 9 #[.agg #[.string s.name, .int .i64 3, .int .u8 (s.kind : Nat), .slice Av i cv]] w9 (TkPost w9 (stToks s2)) := by
          have := tokens_any w9.heap.size s2 hf2 hn2 _ w9 hr2 (Nat.le_refl _) K9.out.en
          rw [hs2] at this ⊢
          exact this
        have k0 := (cell_of_row _ b0 0 _ _ _ hb9).trans rfl
        have k1 := (cell_of_row _ b0 1 _ _ _ hb9).trans rfl
        have k2 := (cell_of_row _ b0 2 _ _ _ hb9).trans rfl
        have k3 := (cell_of_row _ b0 3 _ _ _ hb9).trans rfl
        have h12 := stToks_len s2 hf2
        have hL3 : 4 ≤ (stToks s2).length := by
          unfold stToks headToks
          rw [List.length_append, List.length_append]
          simp only [List.length_cons, List.length_nil]
          omega
        obtain ⟨L, hLL⟩ : ∃ L, stToks s2 = L := ⟨_, rfl⟩
        obtain ⟨n, hn⟩ : ∃ n, L.length = n := ⟨_, rfl⟩
        rw [hLL] at CT h12 hL3
        rw [hn] at h12 hL3
        obtain ⟨k, hkk⟩ : ∃ k, at_ % (n - 1) = k := ⟨_, rfl⟩
        have hkn : k < n - 1 := by rw [← hkk]; exact Nat.mod_lt _ (by omega)
        have hki : Int.tmod (at_ : Int) ((n : Int) - 1) = (k : Int) := by
          rw [show (n : Int) - 1 = ((n - 1 : Nat) : Int) by omega, ← hkk]
          rfl
        have h3 : s2.pos = 3 := by rw [hs2]
        have HS := Lib.hid (And.intro hf2 (And.intro hn2 (And.intro hp2 (And.intro h3 (And.intro hLL hn)))))
        clear hb9 hB9 har9 hf2 hn2 hp2 hr2 hs2 h3 hLL hkk
        go_wp2_with fail
        refine CT.mono ?_
        rintro e wa ⟨o6, rfl, ho6, hb6⟩
        have KA := Lib.hid (K9.out.on hb6)
        have hTA := TArg.of_own ho6
        obtain ⟨A6, c6, rfl⟩ := hTA.form
        rw [hn] at hTA
        rw [hn]
        have HTA := Lib.hid hTA
        clear CT k0 k1 k2 k3 ho6 hb6 hTA K9 hn
        have n12 : (n : Int) ≤ 12 := by omega
        have n4 : (4 : Int) ≤ (n : Int) := by omega
        have kn : (k : Int) < (n : Int) - 1 := by omega
        have k0 : (0 : Int) ≤ (k : Int) := by omega
        have a0 : (0 : Int) ≤ (at_ : Int) := by omega
        have a9 : (at_ : Int) ≤ 255 := by omega
        go_upto_region 12 with fail
        go_cut [8] from 52 to 61 (fun s8 wx => wx.ownsRow wa.heap.size 31 3 s8 (L.take k ++ L.drop (k + 1)).length (pcells (L.take k ++ L.drop (k + 1))) ∧ Below wa.heap.size wa wx)
        case first =>
          have hT : TArg wa wa.heap.size (.slice A6 L.length c6) L := by rw [HS.out.2.2.2.2.2]; exact HTA.out
          have hLn := HS.out.2.2.2.2.2
          obtain ⟨vto, hto, hvto⟩ := tk_to hT k (by omega)
          obtain ⟨vfr, hfr, hvfr⟩ := tk_from hT (k + 1) (by omega)
          rw [hLn] at hto hfr
          rw [show (((k + 1 : Nat)) : Int) = (k : Int) + 1 by omega] at hfr
          have l1 : (L.take k).length ≤ 12 := by rw [List.length_take]; omega
          have l2 : (L.drop (k + 1)).length ≤ 12 := by rw [List.length_drop]; omega
          clear hT hLn
          refine region_reads (C := fun w' => ∃ u : Ext wa, w' = u.1) [1, 2, 5, 6, 7] 6 (by kernel_rfl) (by kernel_rfl) (ext_self wa) ?_
          simp only [List.filterMap_cons, List.filterMap_nil, List.getElem?_cons_zero, List.getElem?_cons_succ]
          change wpQuiet _ _ _ _ (_ :: _ :: _ :: _ :: _ :: []) _
          go_big_quiet_step (fail)
          go_big_quiet_step (fail)
          go_big_quiet_step (fail)
          go_big_quiet_step (fail)
          go_big_quiet_step (fail)
          refine wpQuiet_nil ?_
          obtain ⟨X, hX⟩ : ∃ X, X = wa.drew := ⟨_, rfl⟩
          have hx0 : Below wa.heap.size wa X := by rw [hX]; exact (Below.refl _ _).drew
          rw [← hX]
          clear hX
          refine anyG_read (by kernel_rfl) ⟨⟨_, hx0⟩, rfl⟩ 3 _ vto rfl (by kernel_rfl) (readsR_val rfl fun wq _ => exec_slice (.tmp 53) none (some (.tmp 54)) none rfl (hto wq)) ?_
          change anyG _ _ _ _ _ _ _ (Act.put _ (some 55) _) _
          simp only [Act.put, List.setIfInBounds_toArray, List.set_cons_succ, List.set_cons_zero]
          refine anyG_read (by kernel_rfl) ⟨⟨_, hx0⟩, rfl⟩ 8 _ vfr rfl (by kernel_rfl) (readsR_val rfl fun wq _ => exec_slice (.tmp 57) (some (.tmp 59)) none none rfl (hfr wq)) ?_
          change anyG _ _ _ _ _ _ _ (Act.put _ (some 60) _) _
          simp only [Act.put, List.setIfInBounds_toArray, List.set_cons_succ, List.set_cons_zero]
          refine anyG_one 0 _ (by kernel_rfl) rfl rfl ?_
          refine goUpon_val _ _ (exec_tbs0 rfl _ _) ⟨⟨_, hx0.alloc hx0.size _⟩, rfl⟩ ?_
          change anyG _ _ _ _ _ _ _ (Act.put _ (some 52) _) _
          simp only [Act.put, List.setIfInBounds_toArray, List.set_cons_succ, List.set_cons_zero]
          have ho1 := own_tbs0 X wa.heap.size hx0.size
          have hx1 := hx0.alloc hx0.size (.cells #[] 31)
          obtain ⟨X1, hX1⟩ : ∃ Y, Y = X.alloc (.cells #[] 31) := ⟨_, rfl⟩
          rw [← hX1] at ho1 hx1 ⊢
          clear hX1
          refine anyG_one 4 _ (by kernel_rfl) rfl rfl ?_
          obtain ⟨u16, X2, hrun, ho2, hg⟩ := tapp_run wa.heap.size _ 0 [] ho1 wa.heap.size vto (L.take k) (TArg.ext hvto hx1) (by omega) hx1.size
          refine goUpon_val _ _ (hrun _ _ (.tmp 52) (.tmp 55) rfl rfl rfl) ⟨⟨_, hx1.grown hg hx1.size (fun r e => own_base ho1 e)⟩, rfl⟩ ?_
          change anyG _ _ _ _ _ _ _ (Act.put _ (some 56) _) _
          simp only [Act.put, List.setIfInBounds_toArray, List.set_cons_succ, List.set_cons_zero]
          have hx2 := hx1.grown hg hx1.size (fun r e => own_base ho1 e)
          refine anyG_one 9 _ (by kernel_rfl) rfl rfl ?_
          obtain ⟨u19, X4, hrun2, ho4, hg2⟩ := tapp_run wa.heap.size _ (0 + (L.take k).length) ([] ++ pcells (L.take k)) ho2 wa.heap.size vfr (L.drop (k + 1)) (TArg.ext hvfr hx2) (by omega) hx2.size
          refine goUpon_val _ _ (hrun2 _ _ (.tmp 56) (.tmp 60) rfl rfl rfl) ⟨⟨_, hx2.grown hg2 hx2.size (fun r e => own_base ho2 e)⟩, rfl⟩ ?_
          change anyG _ _ _ _ _ _ _ (Act.put _ (some 61) _) _
          simp only [Act.put, List.setIfInBounds_toArray, List.set_cons_succ, List.set_cons_zero]
          have hx4 := hx2.grown hg2 hx2.size (fun r e => own_base ho2 e)
          refine anyG_one 10 _ (by kernel_rfl) rfl rfl ?_
          refine goUpon_val u19 _ rfl ⟨⟨_, hx4⟩, rfl⟩ ?_
          change anyG _ _ _ _ _ _ _ (Act.put _ (some 8) _) _
          simp only [Act.put, List.setIfInBounds_toArray, List.set_cons_succ, List.set_cons_zero]
          refine anyG_end (by kernel_rfl) ?_
          simp only [Exit.then]
          go_wp2_with fail
          go_meet
          refine ⟨?_, hx4⟩
          rw [pcells_app, List.length_append]
          rw [Nat.zero_add, List.nil_append] at ho4
          exact ho4
        case rest =>
        obtain ⟨ho8, hb8⟩ := hcut
        obtain ⟨wb, hwb⟩ : ∃ wb, wb = wc := ⟨_, rfl⟩
        rw [← hwb] at ho8 hb8 ⊢
        clear hwb
        have KB := Lib.hid (KA.out.on hb8)
        have HTB := Lib.hid (HTA.out.ext hb8)
        have H8 := Lib.hid (TArg.of_own ho8)
        have B8 := Lib.hid hb8
        clear ho8 hb8
        go_upto_region 13 with fail
        go_cut [9] from 62 to 71 (fun s9 wx => wx.ownsRow wb.heap.size 31 3 s9 (L.take (k + 1) ++ L.drop k).length (pcells (L.take (k + 1) ++ L.drop k)) ∧ Below wb.heap.size wb wx)
        case first =>
          have hT : TArg wb wa.heap.size (.slice A6 L.length c6) L := by rw [HS.out.2.2.2.2.2]; exact HTB.out
          have hLn := HS.out.2.2.2.2.2
          obtain ⟨vto, hto, hvto⟩ := tk_to hT (k + 1) (by omega)
          obtain ⟨vfr, hfr, hvfr⟩ := tk_from hT k (by omega)
          rw [hLn] at hto hfr
          rw [show (((k + 1 : Nat)) : Int) = (k : Int) + 1 by omega] at hto
          have l1 : (L.take (k + 1)).length ≤ 12 := by rw [List.length_take]; omega
          have l2 : (L.drop k).length ≤ 12 := by rw [List.length_drop]; omega
          clear hT hLn
          refine region_reads (C := fun w' => ∃ u : Ext wb, w' = u.1) [1, 2, 3, 6, 7] 6 (by kernel_rfl) (by kernel_rfl) (ext_self wb) ?_
          simp only [List.filterMap_cons, List.filterMap_nil, List.getElem?_cons_zero, List.getElem?_cons_succ]
          change wpQuiet _ _ _ _ (_ :: _ :: _ :: _ :: _ :: []) _
          go_big_quiet_step (fail)
          go_big_quiet_step (fail)
          go_big_quiet_step (fail)
          go_big_quiet_step (fail)
          go_big_quiet_step (fail)
          refine wpQuiet_nil ?_
          obtain ⟨X, hX⟩ : ∃ X, X = wb.drew := ⟨_, rfl⟩
          have hx0 : Below wb.heap.size wb X := by rw [hX]; exact (Below.refl _ _).drew
          rw [← hX]
          clear hX
          refine anyG_read (by kernel_rfl) ⟨⟨_, hx0⟩, rfl⟩ 4 _ vto rfl (by kernel_rfl) (readsR_val rfl fun wq _ => exec_slice (.tmp 63) none (some (.tmp 65)) none rfl (hto wq)) ?_
          change anyG _ _ _ _ _ _ _ (Act.put _ (some 66) _) _
          simp only [Act.put, List.setIfInBounds_toArray, List.set_cons_succ, List.set_cons_zero]
          refine anyG_read (by kernel_rfl) ⟨⟨_, hx0⟩, rfl⟩ 8 _ vfr rfl (by kernel_rfl) (readsR_val rfl fun wq _ => exec_slice (.tmp 68) (some (.tmp 69)) none none rfl (hfr wq)) ?_
          change anyG _ _ _ _ _ _ _ (Act.put _ (some 70) _) _
          simp only [Act.put, List.setIfInBounds_toArray, List.set_cons_succ, List.set_cons_zero]
          refine anyG_one 0 _ (by kernel_rfl) rfl rfl ?_
          refine goUpon_val _ _ (exec_tbs0 rfl _ _) ⟨⟨_, hx0.alloc hx0.size _⟩, rfl⟩ ?_
          change anyG _ _ _ _ _ _ _ (Act.put _ (some 62) _) _
          simp only [Act.put, List.setIfInBounds_toArray, List.set_cons_succ, List.set_cons_zero]
          have ho1 := own_tbs0 X wb.heap.size hx0.size
          have hx1 := hx0.alloc hx0.size (.cells #[] 31)
          obtain ⟨X1, hX1⟩ : ∃ Y, Y = X.alloc (.cells #[] 31) := ⟨_, rfl⟩
          rw [← hX1] at ho1 hx1 ⊢
          clear hX1
          refine anyG_one 5 _ (by kernel_rfl) rfl rfl ?_
          obtain ⟨u16, X2, hrun, ho2, hg⟩ := tapp_run wb.heap.size _ 0 [] ho1 wa.heap.size vto (L.take (k + 1)) (TArg.ext hvto hx1) (by omega) hx1.size
          refine goUpon_val _ _ (hrun _ _ (.tmp 62) (.tmp 66) rfl rfl rfl) ⟨⟨_, hx1.grown hg hx1.size (fun r e => own_base ho1 e)⟩, rfl⟩ ?_
          change anyG _ _ _ _ _ _ _ (Act.put _ (some 67) _) _
          simp only [Act.put, List.setIfInBounds_toArray, List.set_cons_succ, List.set_cons_zero]
          have hx2 := hx1.grown hg hx1.size (fun r e => own_base ho1 e)
          refine anyG_one 9 _ (by kernel_rfl) rfl rfl ?_
          obtain ⟨u19, X4, hrun2, ho4, hg2⟩ := tapp_run wb.heap.size _ (0 + (L.take (k + 1)).length) ([] ++ pcells (L.take (k + 1))) ho2 wa.heap.size vfr (L.drop k) (TArg.ext hvfr hx2) (by omega) hx2.size
          refine goUpon_val _ _ (hrun2 _ _ (.tmp 67) (.tmp 70) rfl rfl rfl) ⟨⟨_, hx2.grown hg2 hx2.size (fun r e => own_base ho2 e)⟩, rfl⟩ ?_
          change anyG _ _ _ _ _ _ _ (Act.put _ (some 71) _) _
          simp only [Act.put, List.setIfInBounds_toArray, List.set_cons_succ, List.set_cons_zero]
          have hx4 := hx2.grown hg2 hx2.size (fun r e => own_base ho2 e)
          refine anyG_one 10 _ (by kernel_rfl) rfl rfl ?_
          refine goUpon_val u19 _ rfl ⟨⟨_, hx4⟩, rfl⟩ ?_
          change anyG _ _ _ _ _ _ _ (Act.put _ (some 9) _) _
          simp only [Act.put, List.setIfInBounds_toArray, List.set_cons_succ, List.set_cons_zero]
          refine anyG_end (by kernel_rfl) ?_
          simp only [Exit.then]
          go_wp2_with fail
          go_meet
          refine ⟨?_, hx4⟩
          rw [pcells_app, List.length_append]
          rw [Nat.zero_add, List.nil_append] at ho4
          exact ho4
        case rest =>
        obtain ⟨ho9, hb9⟩ := hcut
        obtain ⟨wd, hwd⟩ : ∃ wd, wd = wc := ⟨_, rfl⟩
        rw [← hwd] at ho9 hb9 ⊢
        clear hwd
        have KD := Lib.hid (KB.out.on hb9)
        have HTD := Lib.hid (HTB.out.ext hb9)
        have H8d := Lib.hid (H8.out.ext hb9)
        have H9 := Lib.hid (TArg.of_own ho9)
        clear ho9 hb9
        have hxd := (Below.refl wd.heap.size wd).alloc (Nat.le_refl _) (.cells #[] 31)
        have hod := own_tbs0 wd wd.heap.size (Nat.le_refl _)
        obtain ⟨v74, we, hrun, hoe, hge⟩ := tapp_run wd.heap.size _ 0 [] hod wa.heap.size (.slice A6 n c6) L (TArg.ext HTD.out hxd) (by have := HS.out.2.2.2.2.2; omega) hxd.size
        have hbe := hxd.grown hge hxd.size (fun r e => own_base hod e)
        rw [Nat.zero_add, List.nil_append, HS.out.2.2.2.2.2] at hoe
        obtain ⟨A10, c10, rfl⟩ := lexw.row_form hoe
        obtain ⟨g10, rfl⟩ : ∃ g10, A10 = some (⟨g10, 0, none⟩ : Addr) := by
          obtain ⟨g5, cap5, he, _⟩ := World.ownsRow.form hoe (by omega)
          injection he with e1
          exact ⟨g5, e1⟩
        have HE := Lib.hid (And.intro hoe hbe)
        clear hxd hod hge hoe hbe
        go_upto_region 15 with ((with_reducible refine wl_here ?_); (first | (refine wl_val rfl _ (exec_tbs0 rfl _ _) ?_) | (refine wl_val rfl _ (hrun _ _ (.tmp 72) (.tmp 73) rfl rfl rfl) ?_)); (simp only [Act.put, List.setIfInBounds_toArray, List.set_cons_succ, List.set_cons_zero]))
        clear hrun
        obtain ⟨hoe, hbe⟩ := HE.out
        clear HE
        have hLn := HS.out.2.2.2.2.2
        have hkL : k < L.length := by omega
        have hck := (tok_cell hoe k hkL (by omega) 0 (by omega)).trans (show _ = some (Value.int .u8 (L[k].kind : Nat)) from rfl)
        have fz := hoe.frozenAt (k * 3 + 0)
        have hst := hoe.stored (k * 3 + 0) (.int .u8 (((turn L[k]).kind : Nat) : Int))
        rw [pcells_set 0 (by omega) turn (fun t => .int .u8 (((turn t).kind : Nat) : Int)) (fun t => rfl) L k hkL] at hst
        have hkd : L[k].kind ≤ 4 := stToks_kind s2 (HS.out.2.2.2.2.1 ▸ List.getElem_mem hkL)
        rw [Nat.add_zero] at hck fz hst
        have htu : (turn L[k]).kind = L[k].kind % 4 + 1 := rfl
        obtain ⟨Lt, hLt⟩ : ∃ Lt, L.set k (turn L[k]) = Lt := ⟨_, rfl⟩
        have HLt := Lib.hid (show ∃ h : k < L.length, L.set k (turn L[k]) = Lt from ⟨hkL, hLt⟩)
        rw [hLt] at hst
        rw [htu] at hst
        obtain ⟨kd, hkde⟩ : ∃ kd, L[k].kind = kd := ⟨_, rfl⟩
        rw [hkde] at hck hst hkd
        obtain ⟨q, hq⟩ : ∃ q, kd % 4 = q := ⟨_, rfl⟩
        have hqi : Int.tmod (kd : Int) 4 = (q : Int) := by rw [← hq]; rfl
        have hq3 : q ≤ 3 := by omega
        rw [hq] at hst
        clear hLt hkde hq htu hLn
        have d0 : (0 : Int) ≤ (kd : Int) := by omega
        have d4 : (kd : Int) ≤ 4 := by omega
        have q0 : (0 : Int) ≤ (q : Int) := by omega
        have q4 : (q : Int) ≤ 3 := by omega
        have hbf := hbe.setCell (p := ⟨g10, k * 3, none⟩) (show wd.heap.size ≤ g10 from own_base hoe rfl) (.int .u8 ((q + 1 : Nat) : Int))
        have hqs : (.int .u8 ((q + 1 : Nat) : Int) : Value) = .int .u8 ((q : Int) + 1) := by rw [Int.natCast_add]; rfl
        rw [hqs] at hst hbf
        have HF2 := Lib.hid (And.intro hst.1 hbf)
        clear hqs hst hbf hoe hbe
        go_upto_region 16 with fail
        obtain ⟨wf, hwf⟩ : ∃ wf, wf = we.setCell ⟨g10, k * 3, none⟩ (.int .u8 ((q : Int) + 1)) := ⟨_, rfl⟩
        obtain ⟨hof, hbf⟩ := HF2.out
        rw [← hwf] at hof hbf ⊢
        clear hwf hck fz HF2
        have KF := Lib.hid (KD.out.on hbf)
        have HTF := Lib.hid (HTD.out.ext hbf)
        have H8f := H8d.out.ext hbf
        have H9f := H9.out.ext hbf
        have q8 := H8f.form
        have q9 := H9f.form
        obtain ⟨m8, hm8⟩ : ∃ m, m = (L.take k ++ L.drop (k + 1)).length := ⟨_, rfl⟩
        obtain ⟨m9, hm9⟩ : ∃ m, m = (L.take (k + 1) ++ L.drop k).length := ⟨_, rfl⟩
        rw [← hm8] at q8
        rw [← hm9] at q9
        obtain ⟨A8, c8, rfl⟩ := q8
        obtain ⟨A9, c9, rfl⟩ := q9
        clear hm8 hm9
        have hln : Lt.length = n := by
          obtain ⟨h, e⟩ := HLt.out
          rw [← e, List.length_set, HS.out.2.2.2.2.2]
        have H10f : TArg wf wf.heap.size (.slice (some ⟨g10, 0, none⟩) n c10) Lt := by
          refine TArg.of_own (base := wd.heap.size) ?_
          rw [hln]
          exact hof
        have H3 : ∀ j : Nat, j < 3 → ∃ v V p B', (#[.slice A8 m8 c8, .slice A9 m9 c9, .slice (some ⟨g10, 0, none⟩) n c10] : Array Value)[j]? = some v ∧ TArg wf B' v V ∧ V.length ≤ 100 ∧ 3 ≤ (p : Int) ∧ parseRes decE V = ([], p, 170) := by
          obtain ⟨hkL, hLt⟩ := HLt.out
          obtain ⟨f1, f2, f3, f4, f5, f6⟩ := HS.out
          have hw3 := wrong3 s2 f1 f2 (by omega) f3 k (by rw [f5, f6]; omega) (by rw [f5]; exact hkL)
          simp only [f5] at hw3
          intro j hj
          have : j = 0 ∨ j = 1 ∨ j = 2 := by omega
          rcases this with rfl | rfl | rfl
          · obtain ⟨p, h1, h2⟩ := hw3 (L.take k ++ L.drop (k + 1)) (by unfold spoilt; exact .head _)
            exact ⟨_, _, p, _, rfl, H8f, by rw [List.length_append, List.length_take, List.length_drop]; omega, h1, h2⟩
          · obtain ⟨p, h1, h2⟩ := hw3 (L.take (k + 1) ++ L.drop k) (by unfold spoilt; exact .tail _ (.head _))
            exact ⟨_, _, p, _, rfl, H9f, by rw [List.length_append, List.length_take, List.length_drop]; omega, h1, h2⟩
          · obtain ⟨p, h1, h2⟩ := hw3 (L.set k (turn L[k])) (by unfold spoilt; exact .tail _ (.tail _ (.head _)))
            rw [hLt] at h2
            exact ⟨_, _, p, _, rfl, H10f, by omega, h1, h2⟩
        have hbg := (Below.refl wf.heap.size wf).alloc (Nat.le_refl _) (.cells #[.slice A8 m8 c8, .slice A9 m9 c9, .slice (some ⟨g10, 0, none⟩) n c10] 25)
        have hng := heap_alloc_new wf (.cells #[.slice A8 m8 c8, .slice A9 m9 c9, .slice (some ⟨g10, 0, none⟩) n c10] 25)
        have HG := Lib.hid (And.intro H3 (And.intro hbg hng))
        clear hof hbf H8f H9f H10f H3 hbg hng HTD H8d H9 HLt hln
        go_upto_region 17 with fail
        obtain ⟨wg, hwg⟩ : ∃ wg, wg = wf.alloc (.cells #[.slice A8 m8 c8, .slice A9 m9 c9, .slice (some ⟨g10, 0, none⟩) n c10] 25) := ⟨_, rfl⟩
        have hbg := HG.out.2.1
        have hng := HG.out.2.2
        rw [← hwg] at hbg hng ⊢
        have hzg : wg.heap.size = wf.heap.size + 1 := by rw [hwg]; simp
        obtain ⟨bg, hbgz⟩ : ∃ bg, bg = wf.heap.size := ⟨_, rfl⟩
        rw [← hbgz] at hng ⊢
        have HG2 := Lib.hid (And.intro HG.out.1 (And.intro hbg (And.intro hng (And.intro hzg hbgz))))
        clear hwg hbg hng hzg hbgz HG
        go_loopw [91] (fun s91 wx => ∃ j : Nat, j ≤ 3 ∧ s91 = .int .i64 (j : Nat) ∧ Below wg.heap.size wg wx) (fun s91 _ => 3 - (intOf s91).toNat)
        case atStart => exact ⟨0, by omega, rfl, Below.refl _ _⟩
        case round =>
          obtain ⟨j, hj, rfl, hbj⟩ := hrel
          have j0 : (0 : Int) ≤ (j : Int) := by omega
          have j3 : (j : Int) ≤ 3 := by omega
          by_cases hj3 : j < 3
          · have d1 : (j : Int) < 3 := by omega
            obtain ⟨v, V, p, B', hv, hT, hVl, hp, hpr⟩ := HG2.out.1 j hj3
            obtain ⟨_, hbg, hng, hzg, hbgz⟩ := HG2.out
            have hbJ := hbg.trans (hbj.mono (by omega))
            have hngJ := (hbj.block bg (by omega)).trans hng
            have KJ := Lib.hid (KF.out.on hbJ)
            have cJ : wr.cell? ⟨bg, j, none⟩ = some v := (cell_of_row _ bg j _ _ _ hngJ).trans hv
            have hTJ := hT.ext hbJ
            obtain ⟨AJ, cj, rfl⟩ := hTJ.form
            have CPa := parse_any decE (Laid B) V (by omega) (.slice AJ V.length cj) wr (fun a b row h1 h2 h3 => Laid.stable B a b row h1 h2 fun r e => Nat.le_trans (Nat.le_trans HX.out.2.2.1 KJ.out.lo.size) (h3 r e)) (dec_ok B _) ((targ_self hTJ).row (Nat.le_refl _)) KJ.out.la
            rw [hpr] at CPa
            have p3 : ¬ (p : Int) < 3 := by omega
            have HJ := Lib.hid hbj
            clear hbj hv hT hbg hng hzg hbgz hbJ hngJ hTJ hpr
            go_wp2_with fail
            refine CPa.mono ?_
            rintro e w4 ⟨o4, rfl, ho4, hb4⟩
            simp only at ho4 ⊢
            obtain ⟨vs4, -, ho4, -⟩ := ho4
            obtain ⟨Ao, co, rfl⟩ := lexw.row_form ho4
            simp only [List.length_nil]
            have H4 := Lib.hid hb4
            clear CPa hb4 ho4
            go_wp2_with fail
            go_roundw
            case rel => exact ⟨j + 1, by omega, by go_num, HJ.out.trans (H4.out.mono HJ.out.size)⟩
            case measure => simp [intOf]; omega
          · obtain rfl : j = 3 := by omega
            obtain ⟨_, hbg, hng, hzg, hbgz⟩ := HG2.out
            have hbJ := hbg.trans (hbj.mono (by omega))
            have KJ := Lib.hid (KF.out.on hbJ)
            have HTJ := HTF.out.ext hbJ
            clear hbj hbg hng hzg hbgz hbJ HG2 HTF
            have hxj := (Below.refl wr.heap.size wr).alloc (Nat.le_refl _) (.cells #[] 31)
            have hoj := own_tbs0 wr wr.heap.size (Nat.le_refl _)
            obtain ⟨v132, ws, hrun, hos, hgs⟩ := tapp_run wr.heap.size _ 0 [] hoj wa.heap.size (.slice A6 n c6) L (TArg.ext HTJ hxj) (by have := HS.out.2.2.2.2.2; omega) hxj.size
            have hbs := hxj.grown hgs hxj.size (fun r e => own_base hoj e)
            rw [Nat.zero_add, List.nil_append, HS.out.2.2.2.2.2] at hos
            obtain ⟨A16, c16, rfl⟩ := lexw.row_form hos
            obtain ⟨g16, rfl⟩ : ∃ g16, A16 = some (⟨g16, 0, none⟩ : Addr) := by
              obtain ⟨g5, cap5, he, _⟩ := World.ownsRow.form hos (by omega)
              injection he with e1
              exact ⟨g5, e1⟩
            have HE := Lib.hid (And.intro hos hbs)
            clear hxj hoj hgs hos hbs HTJ
            go_upto_region 24 with ((with_reducible refine wl_here ?_); (first | (refine wl_val rfl _ (exec_tbs0 rfl _ _) ?_) | (refine wl_val rfl _ (hrun _ _ (.tmp 130) (.tmp 131) rfl rfl rfl) ?_)); (simp only [Act.put, List.setIfInBounds_toArray, List.set_cons_succ, List.set_cons_zero]))
            clear hrun
            obtain ⟨hos, hbs⟩ := HE.out
            clear HE
            have hLn := HS.out.2.2.2.2.2
            have h2L : 2 < L.length := by omega
            have fz := hos.frozenAt 8
            have c8' := (tok_cell hos 2 h2L (by omega) 2 (by omega)).trans (show _ = some (Value.string L[2].text) from rfl)
            rw [show 2 * 3 + 2 = 8 from rfl] at c8'
            obtain ⟨z8, hz8⟩ : ∃ z, L[2].text = z := ⟨_, rfl⟩
            rw [hz8] at c8'
            clear hz8
            have hst := hos.stored (2 * 3 + 2) (.string lamB)
            rw [pcells_set 2 (by omega) (fun t => { t with text := lamB }) (fun t => .string lamB) (fun t => rfl) L 2 h2L] at hst
            have hbt := hbs.setCell (p := ⟨g16, 2 * 3 + 2, none⟩) (show wr.heap.size ≤ g16 from own_base hos rfl) (.string lamB)
            have HT2 := Lib.hid (And.intro hst.1 hbt)
            clear hst hbt hos hbs hLn
            go_upto_region 25 with fail
            obtain ⟨wt, hwt⟩ : ∃ wt, wt = ws.setCell ⟨g16, 8, none⟩ (.string lamB) := ⟨_, rfl⟩
            obtain ⟨hot, hbt⟩ := HT2.out
            rw [show 2 * 3 + 2 = 8 from rfl] at hot hbt
            rw [← hwt] at hot hbt
            change Code.wp _ _ _ _ (ws.setCell ⟨g16, 8, none⟩ (.string lamB))
            rw [← hwt]
            clear hwt c8' fz HT2
            have KT := Lib.hid (KJ.out.on hbt)
            have H16 : TArg wt wt.heap.size (.slice (some ⟨g16, 0, none⟩) n c16) (L.set 2 { L[2] with text := lamB }) := by
              refine TArg.of_own (base := wr.heap.size) ?_
              rw [List.length_set, HS.out.2.2.2.2.2]
              exact hot
            have CPa := parse_any decE (Laid B) (L.set 2 { L[2] with text := lamB }) (by rw [List.length_set]; have := HS.out.2.2.2.2.2; omega) (.slice (some ⟨g16, 0, none⟩) n c16) wt (fun a b row h1 h2 h3 => Laid.stable B a b row h1 h2 fun r e => Nat.le_trans (Nat.le_trans HX.out.2.2.1 KT.out.lo.size) (h3 r e)) (dec_ok B _) (H16.row (Nat.le_refl _)) KT.out.la
            have hpr : parseRes decE (L.set 2 { L[2] with text := lamB }) = ([], 3, 171) := by
              obtain ⟨f1, f2, f3, f4, f5, f6⟩ := HS.out
              have h := wrong_kind s2 lamB lam_kind (by rw [f5]; exact h2L)
              simp only [f5, f4] at h
              exact h
            rw [hpr] at CPa
            clear hot hbt H16 hpr
            go_wp2_with fail
            refine CPa.mono ?_
            rintro e w4 ⟨o4, rfl, ho4, hb4⟩
            simp only at ho4 ⊢
            have K4 := Lib.hid (KT.out.on hb4)
            clear CPa hb4 ho4
            go_wp2_with (go_at_call 7; (with_reducible refine (CA.out _ K4.out).mono ?_); rintro e w6 ⟨rfl, hb6⟩; have K6 := Lib.hid (K4.out.on hb6); clear hb6)
            go_ret
            exact ⟨rfl, K6.out.lo⟩
end Go.Proofs.YtejmbbkklhpnaaaGreatDoor.plw

/- (As XFlaD, with the kind's bound.) What a node, and a slice of nodes, that the row reads is. No conditions. -/
namespace Go.Proofs.YtejmbbkklhpnaaaGreatDoor.prnw
open Go.RowKit
open Go.Proofs.YtejmbbkklhpnaaaGreatDoor.nodew
open Go.Proofs.YtejmbbkklhpnaaaGreatDoor.chkw
open Go.ChangeShapes Go.WideShapes Go.Deep

section
variable {H : Type} {enc : TypeId × Value → H} {w : World} {base : Nat} {sp : Nat → Bool} {held : Bool}
theorem float_gen {t : TypeId} {k : FloatKind} {fuel : Nat} {cs : List Value} {x : DataW H × List MemPlace} (ht : Tryz.prog.underlying t = some (.float k)) (h : DataW.trod enc Tryz.prog w base sp held fuel t cs = some x) : ∃ n, cs = [.float k n] ∧ (Lit.float k n).wf = true := by
  cases fuel with
  | zero => simp [DataW.trod] at h
  | succ n =>
    unfold DataW.trod at h
    rw [ht] at h
    split at h <;> simp_all
theorem float_of {t : TypeId} {fuel : Nat} {cs : List Value} {x : DataW H × List MemPlace} (ht : Tryz.prog.underlying t = some (.float .f64)) (h : DataW.trod enc Tryz.prog w base sp held fuel t cs = some x) : ∃ n, cs = [.float .f64 n] ∧ n < 18446744073709551616 := by
  obtain ⟨n, hc, hw⟩ := float_gen ht h
  exact ⟨n, hc, by simpa [Lit.wf] using hw⟩
theorem cells_u8 : Tryz.prog.cellsOf 5 = 1 := by kernel_rfl
theorem cells_int : Tryz.prog.cellsOf 3 = 1 := by kernel_rfl
theorem cells_f64 : Tryz.prog.cellsOf 38 = 1 := by kernel_rfl
end

end Go.Proofs.YtejmbbkklhpnaaaGreatDoor.prnw

/- What statements, a statement, and bytes that the row reads are. No conditions. -/
namespace Go.Proofs.YtejmbbkklhpnaaaGreatDoor.plw
open Go.RowKit
open Go.Proofs.YtejmbbkklhpnaaaGreatDoor.parw
open Go.ChangeShapes Go.WideShapes Go.Deep

section
variable {H : Type} {enc : TypeId × Value → H} {w : World} {base : Nat} {held : Bool}
theorem cells_u8 : Tryz.prog.cellsOf 5 = 1 := by kernel_rfl
theorem cells_int : Tryz.prog.cellsOf 3 = 1 := by kernel_rfl
theorem cells_f64 : Tryz.prog.cellsOf 38 = 1 := by kernel_rfl
theorem cells_str : Tryz.prog.cellsOf 9 = 1 := by kernel_rfl
theorem cells_arg : Tryz.prog.cellsOf 40 = 3 := by kernel_rfl
theorem cells_stmt : Tryz.prog.cellsOf 28 = 4 := by kernel_rfl
theorem cells_args : Tryz.prog.cellsOf 26 = 1 := by kernel_rfl
def argR (a : PArg) : Prop := a.num < 18446744073709551616
def stR (s : PStmt) : Prop := s.kind < 256 ∧ ∀ a ∈ s.args, a.num < 18446744073709551616
set_option maxRecDepth 100000 in
theorem arg_of {sp : Nat → Bool} {fuel : Nat} {cs : List Value} {x : DataW H × List MemPlace} (h : DataW.trod enc Tryz.prog w base sp held fuel 40 cs = some x) : ∃ a : PArg, cs = a.cells ∧ argR a := by
  obtain ⟨xs, m, _, _, hl, hlen, hf⟩ := DataW.trod_struct Tryz.underlying40 h
  rw [cells_arg] at hl
  match cs, hl with
  | [c0, c1, c2], _ =>
    have g := fun i (hi : i < xs.length) => List.getElem?_eq_getElem hi
    have hlen' : xs.length = 3 := hlen
    have h0 := (hf 0 _ rfl).trans (g 0 (by omega))
    change DataW.trod enc Tryz.prog w base sp held m 3 ((List.drop 0 [c0, c1, c2]).take (Tryz.prog.cellsOf 3)) = _ at h0
    rw [cells_int] at h0
    change DataW.trod enc Tryz.prog w base sp held m 3 [c0] = _ at h0
    have h1 := (hf 1 _ rfl).trans (g 1 (by omega))
    change DataW.trod enc Tryz.prog w base sp held m 38 ((List.drop 1 [c0, c1, c2]).take (Tryz.prog.cellsOf 38)) = _ at h1
    rw [cells_f64] at h1
    change DataW.trod enc Tryz.prog w base sp held m 38 [c1] = _ at h1
    have h2 := (hf 2 _ rfl).trans (g 2 (by omega))
    change DataW.trod enc Tryz.prog w base sp held m 9 ((List.drop 2 [c0, c1, c2]).take (Tryz.prog.cellsOf 9)) = _ at h2
    rw [cells_str] at h2
    change DataW.trod enc Tryz.prog w base sp held m 9 [c2] = _ at h2
    obtain ⟨p, ep, -, -⟩ := DataW.trod_int Tryz.underlying3 h0
    obtain ⟨n, en, ln⟩ := prnw.float_of Tryz.underlying38 h1
    obtain ⟨s, es, -, -⟩ := DataW.trod_string Tryz.underlying9 h2
    have ep : c0 = .int .i64 p := by simpa using ep
    have en : c1 = .float .f64 n := by simpa using en
    have es : c2 = .string s := by simpa using es
    subst ep en es
    exact ⟨⟨p, n, s⟩, rfl, ln⟩
set_option maxRecDepth 100000 in
theorem st_of {fuel : Nat} {cs : List Value} {x : DataW H × List MemPlace} (h : DataW.trod enc Tryz.prog w base (fun _ => true) held fuel 28 cs = some x) :
    ∃ p : PStmt × Value, cs = stCells p.1 p.2 ∧ (stR p.1 ∧ ARead w w.heap.size p.2 p.1.args ∧ ∃ A c, p.2 = .slice A p.1.args.length c ∧ p.1.args.length ≤ c ∧ (A = none → c = 0)) := by
  obtain ⟨xs, m, _, _, hl, hlen, hf⟩ := DataW.trod_struct Tryz.underlying28 h
  rw [cells_stmt] at hl
  match cs, hl with
  | [c0, c1, c2, c3], _ =>
    have g := fun i (hi : i < xs.length) => List.getElem?_eq_getElem hi
    have hlen' : xs.length = 4 := hlen
    have h0 := (hf 0 _ rfl).trans (g 0 (by omega))
    change DataW.trod enc Tryz.prog w base (fun _ => true) held m 9 ((List.drop 0 [c0, c1, c2, c3]).take (Tryz.prog.cellsOf 9)) = _ at h0
    rw [cells_str] at h0
    change DataW.trod enc Tryz.prog w base (fun _ => true) held m 9 [c0] = _ at h0
    have h1 := (hf 1 _ rfl).trans (g 1 (by omega))
    change DataW.trod enc Tryz.prog w base (fun _ => true) held m 3 ((List.drop 1 [c0, c1, c2, c3]).take (Tryz.prog.cellsOf 3)) = _ at h1
    rw [cells_int] at h1
    change DataW.trod enc Tryz.prog w base (fun _ => true) held m 3 [c1] = _ at h1
    have h2 := (hf 2 _ rfl).trans (g 2 (by omega))
    change DataW.trod enc Tryz.prog w base (fun _ => true) held m 5 ((List.drop 2 [c0, c1, c2, c3]).take (Tryz.prog.cellsOf 5)) = _ at h2
    rw [cells_u8] at h2
    change DataW.trod enc Tryz.prog w base (fun _ => true) held m 5 [c2] = _ at h2
    have h3 := (hf 3 _ rfl).trans (g 3 (by omega))
    change DataW.trod enc Tryz.prog w base (fun _ => true) held m 26 ((List.drop 3 [c0, c1, c2, c3]).take (Tryz.prog.cellsOf 26)) = _ at h3
    rw [cells_args] at h3
    change DataW.trod enc Tryz.prog w base (fun _ => true) held m 26 [c3] = _ at h3
    obtain ⟨s, es, -, -⟩ := DataW.trod_string Tryz.underlying9 h0
    obtain ⟨p, ep, -, -⟩ := DataW.trod_int Tryz.underlying3 h1
    obtain ⟨k, ek, -, wk⟩ := DataW.trod_int Tryz.underlying5 h2
    have es : c0 = .string s := by simpa using es
    have ep : c1 = .int .i64 p := by simpa using ep
    have ek : c2 = .int .u8 k := by simpa using ek
    subst ep ek es
    have hk : 0 ≤ k ∧ k ≤ 255 := by simpa [Lit.wf, IntKind.min, IntKind.max, IntKind.signed, IntKind.bits] using wk
    obtain ⟨al, ⟨A, c, hv, hc, hn, hx⟩, hnum⟩ := pft.rows_of (k := 3) Tryz.underlying26 cells_arg PArg.cells (fun a => rfl) (by omega) argR (fun fuel cs x h => arg_of h) h3
    have hkk : ((k.toNat : Nat) : Int) = k := Int.toNat_of_nonneg hk.1
    refine ⟨(⟨s, p, k.toNat, al⟩, c3), by simp [stCells, hkk], ⟨(by show k.toNat < 256; omega), hnum⟩, ⟨A, c, hv, fun h0 => ?_⟩, A, c, hv, hc, hn⟩
    obtain ⟨g, off, hA, hg, hcell⟩ := hx h0
    exact ⟨g, off, hA, hg, hcell⟩
end
end Go.Proofs.YtejmbbkklhpnaaaGreatDoor.plw

/- What the listed variables hold, out of the row's condition. No condition. -/
namespace Go.Proofs.YtejmbbkklhpnaaaGreatDoor.flow
open Go.RowKit
open Go.Proofs.YtejmbbkklhpnaaaGreatDoor.parw
open Go.Proofs.YtejmbbkklhpnaaaGreatDoor.rdf
open Go.Proofs.YtejmbbkklhpnaaaGreatDoor.dcw
open Go.Proofs.YtejmbbkklhpnaaaGreatDoor.dmx
open Go.Proofs.YtejmbbkklhpnaaaGreatDoor.fpm
open Go.Proofs.YtejmbbkklhpnaaaGreatDoor.prnw

section
variable {H : Type} {enc : TypeId × Value → H} {P : Program} {w : World} {base : Nat} {sp : Nat → Bool} {held : Bool}
theorem trod_float {fuel : Nat} {t : TypeId} {cs : List Value} {k : FloatKind} {x : DataW H × List MemPlace} (ht : P.underlying t = some (.float k)) (h : DataW.trod enc P w base sp held fuel t cs = some x) : ∃ n, cs = [.float k n] ∧ x = (.lit (.float k n), []) := by
  cases fuel with
  | zero => simp [DataW.trod] at h
  | succ n =>
    unfold DataW.trod at h
    rw [ht] at h
    split at h <;> simp_all
theorem trod_face {fuel : Nat} {t : TypeId} {ms : Array (String × TypeId)} {cs : List Value} {x : DataW H × List MemPlace} (ht : P.underlying t = some (.interface ms)) (h : DataW.trod enc P w base sp held fuel t cs = some x) : ∃ v, cs = [v] ∧ (v = .nilIface ∨ ∃ te pe, v = .iface te pe) := by
  cases fuel with
  | zero => simp [DataW.trod] at h
  | succ n =>
    unfold DataW.trod at h
    rw [ht] at h
    split at h <;> simp_all
/-- a row of elements of k cells -/
theorem open_rows {t e : TypeId} {k fuel : Nat} {cs : List Value} {ds : List (DataW H)} {p : List MemPlace} (ht : P.underlying t = some (.slice e)) (hc : P.cellsOf e = k) (hk : 0 < k) (h0 : 0 < ds.length)
    (h : DataW.trod enc P w base sp held fuel t cs = some (.slice ds [], p)) :
    ∃ g off cap, cs = [.slice (some ⟨g, off, none⟩) ds.length cap] ∧ g < w.heap.size ∧ ∀ i d, ds[i]? = some d → ∃ us n q, us.length = k ∧ (∀ j u, us[j]? = some u → w.cell? ⟨g, off + (i * k + j), none⟩ = some u) ∧ DataW.trod enc P w base sp held n e us = some (d, q) := by
  rcases DataW.trod_slice ht h with ⟨_, hx⟩ | ⟨a, len, cap, elems, rest, n, _, hcs, hx, _, hl, _, hlen, hel, _⟩
  · simp at hx
  · simp only [Prod.mk.injEq, DataW.slice.injEq] at hx
    obtain ⟨⟨rfl, _⟩, _⟩ := hx
    have el : (elems.map (·.1)).length = len := by simpa using hlen
    have key : ∀ i d, (elems.map (·.1))[i]? = some d → ∃ us q, us.length = k ∧ (∀ j u, us[j]? = some u → w.cell? (a.add (i * k + j)) = some u) ∧ DataW.trod enc P w base sp held n e us = some (d, q) := fun i d hd => by
      rw [List.getElem?_map, Option.map_eq_some_iff] at hd
      obtain ⟨⟨d', q⟩, hd, rfl⟩ := hd
      have hil : i < len := by
        have := (List.getElem?_eq_some_iff.1 hd).1
        omega
      have hi := hel i hil
      rw [hd, hc, Option.bind_eq_some_iff] at hi
      obtain ⟨us, hus, htr⟩ := hi
      obtain ⟨_, hcl, hat⟩ := World.cells?_some hus
      refine ⟨us, q, hcl, fun j u hu => ?_, htr⟩
      have hj : j < k := by have := (List.getElem?_eq_some_iff.1 hu).1; omega
      have := hat j hj
      rw [Go.Deep.add_add] at this
      rw [this, hu]
    obtain ⟨d0, hd0⟩ : ∃ d0, (elems.map (·.1))[0]? = some d0 := ⟨_, List.getElem?_eq_getElem h0⟩
    obtain ⟨us0, q0, hu0, hat0, _⟩ := key 0 d0 hd0
    have hc0 := hat0 0 _ (List.getElem?_eq_getElem (by omega))
    have ha0 : a.add (0 * k + 0) = a := by unfold Addr.add; simp
    rw [ha0] at hc0
    obtain ⟨g, off, spot⟩ := a
    have hspot : spot = none := by
      cases spot with
      | none => rfl
      | some p => unfold World.cell? at hc0; split at hc0 <;> simp at hc0
    subst hspot
    refine ⟨g, off, cap, by rw [hcs, el], World.block_lt_of_cell? w _ hc0, fun i d hd => ?_⟩
    obtain ⟨us, q, h1, h2, h3⟩ := key i d hd
    refine ⟨us, n, q, h1, fun j u hu => ?_, h3⟩
    have := h2 j u hu
    have hadd : (⟨g, off, none⟩ : Addr).add (i * k + j) = ⟨g, off + (i * k + j), none⟩ := by unfold Addr.add; split <;> simp_all
    rwa [hadd] at this
end
/-- the table of the shifts to the left, checked -/
def cheatB (k : Nat) : Bool :=
  let r := Go.Pinned.cheatRows.getD k (0, [])
  let c := r.2.length
  decide (r.1 = k + 1 - c) && decide (c ≤ k) && decide (10 ^ c ≤ 10 * 5 ^ k) && decide (5 ^ k < 10 ^ c) && (List.range c).all (fun j => decide ((r.2.getD j 0).toNat = 48 + 5 ^ k / 10 ^ (c - 1 - j) % 10))
theorem cheats_ok : (List.range 60).all (fun k => cheatB (k + 1)) = true := by kernel_rfl
theorem cheats_len : Go.Pinned.cheatRows.length = 61 := by kernel_rfl
theorem powtab_ok : (Rows.laid_internal_strconv_powtab (H := Unit)) = .slice ((List.range 9).map fun k => .lit (.int .i64 (powT k : Nat))) [] := by kernel_rfl
theorem pow10_ok : (Rows.laid_internal_strconv_float64pow10 (H := Unit)) = .slice ((List.range 23).map fun k => .lit (.float .f64 (p10 k))) [] := by kernel_rfl
set_option maxRecDepth 100000 in
theorem laid_of (L : List (String × DataW Unit)) (W : World) (h : laidMet Tryz.prog L W) (m1 : ("internal/strconv.optimize", Rows.laid_internal_strconv_optimize) ∈ L) (m2 : ("internal/strconv.float64info", Rows.laid_internal_strconv_float64info) ∈ L)
    (m3 : ("internal/strconv.float64pow10", Rows.laid_internal_strconv_float64pow10) ∈ L) (m4 : ("internal/strconv.powtab", Rows.laid_internal_strconv_powtab) ∈ L) (m5 : ("strconv.ErrRange", Rows.laid_strconv_ErrRange) ∈ L)
    (m6 : ("internal/strconv.leftcheats", Rows.laid_internal_strconv_leftcheats) ∈ L) (m7 : ("internal/strconv.pow10Tab", Rows.laid_internal_strconv_pow10Tab) ∈ L) : Laid W.heap.size W := by
  obtain ⟨g1, t1, cs1, f1, p1, hg1, ht1, hv1, hd1⟩ := Lib.laidMet.reads h m1
  obtain ⟨g2, t2, cs2, f2, p2, hg2, ht2, hv2, hd2⟩ := Lib.laidMet.reads h m2
  obtain ⟨g3, t3, cs3, f3, p3, hg3, ht3, hv3, hd3⟩ := Lib.laidMet.reads h m3
  obtain ⟨g4, t4, cs4, f4, p4, hg4, ht4, hv4, hd4⟩ := Lib.laidMet.reads h m4
  obtain ⟨g5, t5, cs5, f5, p5, hg5, ht5, hv5, hd5⟩ := Lib.laidMet.reads h m5
  obtain ⟨g6, t6, cs6, f6, p6, hg6, ht6, hv6, hd6⟩ := Lib.laidMet.reads h m6
  obtain ⟨g7, t7, cs7, f7, p7, hg7, ht7, hv7, hd7⟩ := Lib.laidMet.reads h m7
  obtain rfl := Option.some.inj ((show Tryz.prog.globalNamed "internal/strconv.optimize" = some 2 by kernel_rfl).symm.trans hg1)
  obtain rfl := Option.some.inj ((show Tryz.prog.globalNamed "internal/strconv.float64info" = some 11 by kernel_rfl).symm.trans hg2)
  obtain rfl := Option.some.inj ((show Tryz.prog.globalNamed "internal/strconv.float64pow10" = some 16 by kernel_rfl).symm.trans hg3)
  obtain rfl := Option.some.inj ((show Tryz.prog.globalNamed "internal/strconv.powtab" = some 15 by kernel_rfl).symm.trans hg4)
  obtain rfl := Option.some.inj ((show Tryz.prog.globalNamed "strconv.ErrRange" = some 4 by kernel_rfl).symm.trans hg5)
  obtain rfl := Option.some.inj ((show Tryz.prog.globalNamed "internal/strconv.leftcheats" = some 9 by kernel_rfl).symm.trans hg6)
  obtain rfl := Option.some.inj ((show Tryz.prog.globalNamed "internal/strconv.pow10Tab" = some 8 by kernel_rfl).symm.trans hg7)
  obtain rfl := Option.some.inj ((show (Tryz.prog.globals[2]?).map (·.type) = some 4 by kernel_rfl).symm.trans ht1)
  obtain rfl := Option.some.inj ((show (Tryz.prog.globals[11]?).map (·.type) = some 263 by kernel_rfl).symm.trans ht2)
  obtain rfl := Option.some.inj ((show (Tryz.prog.globals[16]?).map (·.type) = some 106 by kernel_rfl).symm.trans ht3)
  obtain rfl := Option.some.inj ((show (Tryz.prog.globals[15]?).map (·.type) = some 86 by kernel_rfl).symm.trans ht4)
  obtain rfl := Option.some.inj ((show (Tryz.prog.globals[4]?).map (·.type) = some 73 by kernel_rfl).symm.trans ht5)
  obtain rfl := Option.some.inj ((show (Tryz.prog.globals[9]?).map (·.type) = some 248 by kernel_rfl).symm.trans ht6)
  obtain rfl := Option.some.inj ((show (Tryz.prog.globals[8]?).map (·.type) = some 243 by kernel_rfl).symm.trans ht7)
  have k1 : W.cell? ⟨2, 0, none⟩ = some (.bool true) := by
    obtain ⟨b, hb, hx⟩ := DataW.trod_bool Tryz.underlying4 hd1
    have : b = true := by
      have := congrArg Prod.fst hx
      simp [Rows.laid_internal_strconv_optimize] at this
      exact this
    subst this
    rw [World.var?_cell hg1 hv1 0]
    have : cs1[0]? = cs1.toList[0]? := by simp
    rw [this, hb]; rfl
  have k2 : W.cell? ⟨11, 0, none⟩ = some (.int .u64 52) ∧ W.cell? ⟨11, 1, none⟩ = some (.int .u64 11) ∧ W.cell? ⟨11, 2, none⟩ = some (.int .i64 (-1023)) := by
    obtain ⟨xs, n, _, hx, hlen, hn, hf⟩ := DataW.trod_struct Tryz.underlying263 hd2
    have hx1 := congrArg Prod.fst hx
    simp only [Rows.laid_internal_strconv_float64info, DataW.agg.injEq] at hx1
    have hc3 : Tryz.prog.cellsOf 263 = 3 := by kernel_rfl
    have hcu : Tryz.prog.cellsOf 166 = 1 := by kernel_rfl
    have hci : Tryz.prog.cellsOf 3 = 1 := by kernel_rfl
    rw [hc3] at hlen
    have hl : ∀ j, j < 3 → cs2[j]? = cs2.toList[j]? := fun j _ => by simp
    obtain ⟨cl, hcl⟩ : ∃ cl, cs2.toList = cl := ⟨_, rfl⟩
    rw [hcl] at hlen hf
    match cl, hlen, xs, hx1 with
    | [c0, c1, c2], _, [y0, y1, y2], hx1 =>
      simp only [List.map_cons, List.map_nil, List.cons.injEq, and_true] at hx1
      have h0 := hf 0 _ rfl
      change DataW.trod _ Tryz.prog W 0 _ false n 166 ((List.drop 0 [c0, c1, c2]).take (Tryz.prog.cellsOf 166)) = some y0 at h0
      rw [hcu] at h0
      have h1 := hf 1 _ rfl
      change DataW.trod _ Tryz.prog W 0 _ false n 166 ((List.drop 1 [c0, c1, c2]).take (Tryz.prog.cellsOf 166)) = some y1 at h1
      rw [hcu] at h1
      have h2 := hf 2 _ rfl
      change DataW.trod _ Tryz.prog W 0 _ false n 3 ((List.drop 2 [c0, c1, c2]).take (Tryz.prog.cellsOf 3)) = some y2 at h2
      rw [hci] at h2
      obtain ⟨z0, e0, f0, _⟩ := DataW.trod_int Tryz.underlying166 h0
      obtain ⟨z1, e1, f1, _⟩ := DataW.trod_int Tryz.underlying166 h1
      obtain ⟨z2, e2, f2, _⟩ := DataW.trod_int Tryz.underlying3 h2
      rw [f0, f1, f2] at hx1
      have q0 : z0 = 52 := by simpa using hx1.1.symm
      have q1 : z1 = 11 := by simpa using hx1.2.1.symm
      have q2 : z2 = -1023 := by simpa using hx1.2.2.symm
      have r0 : c0 = .int .u64 z0 := by simpa using e0
      have r1 : c1 = .int .u64 z1 := by simpa using e1
      have r2 : c2 = .int .i64 z2 := by simpa using e2
      refine ⟨?_, ?_, ?_⟩
      · rw [World.var?_cell hg2 hv2 0, hl 0 (by omega), hcl, r0, q0]; rfl
      · rw [World.var?_cell hg2 hv2 1, hl 1 (by omega), hcl, r1, q1]; rfl
      · rw [World.var?_cell hg2 hv2 2, hl 2 (by omega), hcl, r2, q2]; rfl
  have k3 : FT W.heap.size W := by
    rw [pow10_ok] at hd3
    obtain ⟨g, off, cap, hcs, hg, hel⟩ := open_rows (k := 1) Tryz.underlying106 (by kernel_rfl) (by omega) (by decide) hd3
    have c3 : W.cell? ⟨16, 0, none⟩ = some (.slice (some ⟨g, off, none⟩) 23 cap) := by
      rw [World.var?_cell hg3 hv3 0]
      have : cs3[0]? = cs3.toList[0]? := by simp
      rw [this, hcs]
      rfl
    refine ⟨World.block_lt_of_cell? W _ c3, g, off, cap, hg, c3, fun k hk => ?_⟩
    obtain ⟨us, n, q, h1, h2, h3⟩ := hel k (.lit (.float .f64 (p10 k))) (by rw [List.getElem?_map, List.getElem?_range (by omega)]; rfl)
    obtain ⟨z, hz, hx⟩ := trod_float Tryz.underlying38 h3
    have hz' : z = p10 k := by
      have := congrArg Prod.fst hx
      simpa using this.symm
    have := h2 0 (.float .f64 z) (by rw [hz]; rfl)
    rw [hz'] at this
    rw [← this]
    congr 2
    omega
  have k4 : ∃ bb bo cap, bb < W.heap.size ∧ W.cell? ⟨15, 0, none⟩ = some (.slice (some ⟨bb, bo, none⟩) 9 cap) ∧ ∀ d, d ≤ 8 → W.cell? ⟨bb, bo + d, none⟩ = some (.int .i64 (powT d : Nat)) := by
    rw [powtab_ok] at hd4
    obtain ⟨g, off, cap, hcs, hg, hel⟩ := open_rows (k := 1) Tryz.underlying86 (by kernel_rfl) (by omega) (by decide) hd4
    have c4 : W.cell? ⟨15, 0, none⟩ = some (.slice (some ⟨g, off, none⟩) 9 cap) := by
      rw [World.var?_cell hg4 hv4 0]
      have : cs4[0]? = cs4.toList[0]? := by simp
      rw [this, hcs]
      rfl
    refine ⟨g, off, cap, hg, c4, fun k hk => ?_⟩
    obtain ⟨us, n, q, h1, h2, h3⟩ := hel k (.lit (.int .i64 (powT k : Nat))) (by rw [List.getElem?_map, List.getElem?_range (by omega)]; rfl)
    obtain ⟨z, hz, hx, _⟩ := DataW.trod_int Tryz.underlying3 h3
    have hz' : z = (powT k : Nat) := by
      have := congrArg Prod.fst hx
      simpa using this.symm
    have := h2 0 (.int .i64 z) (by rw [hz]; rfl)
    rw [hz'] at this
    rw [← this]
    congr 2
    omega
  have k5 : ∃ v, W.cell? ⟨4, 0, none⟩ = some v ∧ (v = .nilIface ∨ ∃ te pe, v = .iface te pe) := by
    obtain ⟨v, hv, hx⟩ := trod_face Tryz.underlying73 hd5
    refine ⟨v, ?_, hx⟩
    rw [World.var?_cell hg5 hv5 0]
    have : cs5[0]? = cs5.toList[0]? := by simp
    rw [this, hv]
    rfl
  have k6 : LC W.heap.size W := by
    have hd6' : DataW.trod _ Tryz.prog W 0 _ false f6 248 cs6.toList = some (.slice (Go.Pinned.cheatRows.map fun x => .agg [.lit (.int .i64 x.1), .lit (.string x.2)]) [], p6) := hd6
    have hl0 : (Go.Pinned.cheatRows.map fun x => (DataW.agg [.lit (.int .i64 x.1), .lit (.string x.2)] : DataW Unit)).length = 61 := by rw [List.length_map, cheats_len]
    obtain ⟨g, off, cap, hcs, hg, hel⟩ := open_rows (k := 2) Tryz.underlying248 (by kernel_rfl) (by omega) (by rw [hl0]; decide) hd6'
    rw [hl0] at hcs
    have c6 : W.cell? ⟨9, 0, none⟩ = some (.slice (some ⟨g, off, none⟩) 61 cap) := by
      rw [World.var?_cell hg6 hv6 0]
      have : cs6[0]? = cs6.toList[0]? := by simp
      rw [this, hcs]
      rfl
    refine ⟨World.block_lt_of_cell? W _ c6, g, off, cap, hg, c6, fun k hk1 hk => ?_⟩
    have hb := List.all_eq_true.1 cheats_ok (k - 1) (List.mem_range.2 (by omega))
    rw [show k - 1 + 1 = k by omega] at hb
    unfold cheatB at hb
    obtain ⟨⟨x1, x2⟩, hx⟩ : ∃ x, Go.Pinned.cheatRows.getD k (0, []) = x := ⟨_, rfl⟩
    have hk61 : k < Go.Pinned.cheatRows.length := by rw [cheats_len]; omega
    have hget : Go.Pinned.cheatRows[k]? = some (x1, x2) := by
      rw [← hx, List.getD_eq_getElem?_getD, List.getElem?_eq_getElem hk61]
      rfl
    simp only [hx, Bool.and_eq_true, decide_eq_true_eq] at hb
    obtain ⟨⟨⟨⟨b1, b2⟩, b3⟩, b4⟩, b5⟩ := hb
    obtain ⟨us, n, q, h1, h2, h3⟩ := hel k _ (by rw [List.getElem?_map, hget]; rfl)
    obtain ⟨xs, m, _, hxx, hlen, hn, hf⟩ := DataW.trod_struct Tryz.underlying247 h3
    have hx1 := congrArg Prod.fst hxx
    simp only [DataW.agg.injEq] at hx1
    have hci : Tryz.prog.cellsOf 3 = 1 := by kernel_rfl
    have hcs1 : Tryz.prog.cellsOf 9 = 1 := by kernel_rfl
    match us, h1, xs, hx1 with
    | [u0, u1], _, [y0, y1], hx1 =>
      simp only [List.map_cons, List.map_nil, List.cons.injEq, and_true] at hx1
      have h30 := hf 0 _ rfl
      change DataW.trod _ Tryz.prog W 0 _ false m 3 ((List.drop 0 [u0, u1]).take (Tryz.prog.cellsOf 3)) = some y0 at h30
      rw [hci] at h30
      have h31 := hf 1 _ rfl
      change DataW.trod _ Tryz.prog W 0 _ false m 9 ((List.drop 1 [u0, u1]).take (Tryz.prog.cellsOf 9)) = some y1 at h31
      rw [hcs1] at h31
      obtain ⟨z0, e0, f0, _⟩ := DataW.trod_int Tryz.underlying3 h30
      obtain ⟨s1, e1, f1, _⟩ := DataW.trod_string Tryz.underlying9 h31
      rw [f0, f1] at hx1
      have q0 : z0 = ((x1 : Nat) : Int) := by simpa using hx1.1.symm
      have q1 : s1.data.toList = x2 := by simpa using hx1.2.symm
      have r0 : u0 = .int .i64 z0 := by simpa using e0
      have r1 : u1 = .string s1 := by simpa using e1
      have hsz : s1.size = x2.length := by rw [← q1]; simp
      refine ⟨x2.length, s1, ?_, ?_, ⟨hsz, fun j hj => ?_⟩, b3, b4, b2⟩
      · have := h2 0 _ rfl
        rw [r0, q0, b1] at this
        exact this
      · have := h2 1 _ rfl
        rw [r1] at this
        exact this
      · have hb5 := List.all_eq_true.1 b5 j (List.mem_range.2 (by omega))
        have hb6 := of_decide_eq_true hb5
        have e : s1[j] = x2.getD j 0 := by
          rw [← q1, List.getD_eq_getElem?_getD, List.getElem?_eq_getElem (by simpa using hj)]
          rfl
        rw [e]
        exact hb6
  have k7 : PT hiT loT W := fun i hi => by
    obtain ⟨f', d, q, hd, he⟩ := Lib.array_elem Tryz.underlying243 hd7 i hi
    have hlen : Go.Pinned.pow10Rows.length = 696 := by kernel_rfl
    have hr : Go.Pinned.pow10Rows[i]? = some (hiT i, loT i) := by
      have : i < Go.Pinned.pow10Rows.length := by rw [hlen]; exact hi
      unfold hiT loT
      rw [List.getD_eq_getElem?_getD, List.getElem?_eq_getElem this]
      rfl
    rw [List.getElem?_map, hr] at hd
    obtain rfl := (Option.some.inj hd).symm
    obtain ⟨r1, r2, r3, _⟩ := row_spec i hi
    have hz := Lib.ints_of_struct (zs := [(hiT i : Int), (loT i : Int)]) (k := .u64) Tryz.underlying242 (fun j f hf => ?_) (by kernel_rfl) he
    · have hc2 : Tryz.prog.cellsOf 242 = 2 := by kernel_rfl
      rw [hc2] at hz
      have c0 : cs7[i * 2]? = some (.int .u64 (hiT i : Int)) := by
        have := congrArg (·[0]?) hz
        simpa [List.getElem?_take, List.getElem?_drop] using this
      have c1 : cs7[i * 2 + 1]? = some (.int .u64 (loT i : Int)) := by
        have := congrArg (·[1]?) hz
        simpa [List.getElem?_take, List.getElem?_drop] using this
      exact ⟨r2, r3, by rw [World.var?_cell hg7 hv7 (i * 2)]; exact c0, by rw [World.var?_cell hg7 hv7 (i * 2 + 1)]; exact c1⟩
    · match j, hf with
      | 0, hf => obtain rfl := Option.some.inj hf; exact ⟨Tryz.underlying96, rfl, by kernel_rfl⟩
      | 1, hf => obtain rfl := Option.some.inj hf; exact ⟨Tryz.underlying96, rfl, by kernel_rfl⟩
      | k + 2, hf => cases hf
  obtain ⟨bb, bo, cap, n1, n2, n3⟩ := k4
  obtain ⟨v5, v51, v52⟩ := k5
  exact ⟨⟨⟨k6, World.block_lt_of_cell? W _ k2.1, k2.1, k2.2.1, k2.2.2, World.block_lt_of_cell? W _ n2, bb, bo, cap, n1, n2, n3⟩, k3, k7, World.block_lt_of_cell? W _ (k7 0 (by decide)).2.2.1, World.block_lt_of_cell? W _ k1, k1, Nat.le_refl _⟩, World.block_lt_of_cell? W _ v51, v5, v51, v52⟩
end Go.Proofs.YtejmbbkklhpnaaaGreatDoor.flow

/- A small lemma for every law of this seat: what has only grown is as the row asks. Its text is the guide's (extra-small), as the guide bids to copy it. -/
namespace Go.Proofs.YtejmbbkklhpnaaaGreatDoor.post
open Go.RowKit Go.WideShapes Go.ChangeShapes
section
variable {H : Type} {enc : TypeId × Value → H} {P : Program}
theorem post_of_below {f : Func} {s : ChangeSpec} {apart fresh handsOn again : Bool} {W W' : World} {args : Array Value} {v : Value} {ds gs : List (DataW H)} {before pa pv : List MemPlace}
    (hW : DataW.Whole enc P f.params.toList s.vars apart W args.toList ds gs before)
    (hres : ∀ (b : Nat) (sp : Nat → Bool) (hd : Bool), DataW.TrodAll enc P W' b sp hd f.resultTypes.toList (v.resultList f.resultTypes.size) (s.fn H (ds ++ gs)).results [])
    (hargs : ∀ sp : Nat → Bool, (∀ p ∈ before, sp p.block = true) → DataW.TrodAll enc P W' 0 sp true f.params.toList args.toList (s.fn H (ds ++ gs)).args pa)
    (hvars : ∀ sp : Nat → Bool, (∀ p ∈ before, sp p.block = true) → DataW.TrodVars enc P W' sp s.vars (s.fn H (ds ++ gs)).vars pv)
    (hps : before = pa ++ pv) (hb : Below W.heap.size W W')
    (hok : ∀ (j : Nat) (t : TypeId) (r : Value), f.resultTypes[j]? = some t → (v.resultList f.resultTypes.size)[j]? = some r → Value.okWide P W' .any 0 t r) :
    s.post enc P f apart fresh handsOn again W args v W' := by
  have hlt : ∀ p ∈ before, p.block < W.heap.size := fun p hp => hW.lt p hp
  have hold : ∀ p ∈ before, (fun b => decide (b < W.heap.size)) p.block = true := fun p hp => by simpa using hlt p hp
  refine ⟨ds, gs, before, [], pa, pv, hW, hres _ _ _, hargs _ hold, hvars _ hold, World.keptBut_mono (fun p hp => ⟨hp, ?_⟩) (hb.frame (· ∈ before)), fun _ => ?_⟩
  · rw [hps, List.mem_append] at hp
    exact Or.inr hp
  · obtain ⟨_, _, _, _, _, hz, hn⟩ := hW
    refine ⟨hok, _, _, ([] ++ pa) ++ pv, ⟨[] ++ pa, pv, trodAll_append (hargs _ (fun _ _ => rfl)) (hres _ _ _), hvars _ (fun _ _ => rfl), rfl, ?_, ?_⟩, ?_⟩
    · intro b off hp
      have hin : MemPlace.cell b off ∈ before := by rw [hps]; simpa using hp
      rw [hb.frozen (hlt _ hin)]
      exact hz b off hin
    · intro ha
      have := hn ha
      rw [hps] at this
      simpa using this
    · intro p hp _
      rw [hps]
      simpa using hp
end
end Go.Proofs.YtejmbbkklhpnaaaGreatDoor.post
