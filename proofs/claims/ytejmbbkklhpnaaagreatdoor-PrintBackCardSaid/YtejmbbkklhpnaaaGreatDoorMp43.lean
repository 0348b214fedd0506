/- What rows of tokens say when they are parsed: groups of tokens, one a statement, with ends between. Plain; no condition but those stated. -/
import Derived.Test.YtejmbbkklhpnaaaGreatDoorMp11
import Derived.Test.YtejmbbkklhpnaaaGreatDoorMp04
import Derived.Test.YtejmbbkklhpnaaaGreatDoorMp13
import Derived.Test.YtejmbbkklhpnaaaGreatDoorMp14
import Derived.Test.YtejmbbkklhpnaaaGreatDoorMp28
import Derived.Test.YtejmbbkklhpnaaaGreatDoorMp42
namespace Go.Proofs.YtejmbbkklhpnaaaGreatDoor.bkp
open Go.RowKit
open Go.Proofs.YtejmbbkklhpnaaaGreatDoor.parw

variable {dec : ByteArray → Nat × Nat} {en : Int}
/-- tokens that fit a form -/
def fitB (dec : ByteArray → Nat × Nat) : List Bool → List PTok → Prop
  | [], [] => True
  | b :: bs, t :: ts => t.kind = (if b then 2 else 1) ∧ (b = true → (dec t.text).2 = 0) ∧ fitB dec bs ts
  | _, _ => False
/-- what they say -/
def argsOf (dec : ByteArray → Nat × Nat) : List Bool → List PTok → List PArg
  | b :: bs, t :: ts => (if b then ⟨t.pos, (dec t.text).1, ⟨#[]⟩⟩ else ⟨t.pos, 0, t.text⟩) :: argsOf dec bs ts
  | _, _ => []
theorem args_fit : ∀ (bs : List Bool) (ts r : List PTok), fitB dec bs ts → argsS dec en bs ⟨ts ++ r, 0, 0⟩ = (argsOf dec bs ts, ⟨r, 0, 0⟩)
  | [], [], r, _ => rfl
  | [], _ :: _, _, h => h.elim
  | _ :: _, [], _, h => h.elim
  | b :: bs, t :: ts, r, ⟨hk, hd, hf⟩ => by
    have hs : argS dec en b ⟨t :: (ts ++ r), 0, 0⟩ = ((if b then ⟨t.pos, (dec t.text).1, ⟨#[]⟩⟩ else ⟨t.pos, 0, t.text⟩), ⟨ts ++ r, 0, 0⟩) := by
      cases b with
      | false =>
        show wordS en _ = _
        unfold wordS
        rw [nextS_yes (s := ⟨t :: (ts ++ r), 0, 0⟩) (k := 1) (t := t) (r := ts ++ r) rfl rfl hk]
        rfl
      | true =>
        show numS dec en _ = _
        unfold numS
        rw [nextS_yes (s := ⟨t :: (ts ++ r), 0, 0⟩) (k := 2) (t := t) (r := ts ++ r) rfl rfl hk]
        rw [if_pos rfl]
        show (_, if (dec t.text).2 = 0 then _ else _) = _
        rw [if_pos (hd rfl)]
        rfl
    show ((argS dec en b ⟨t :: (ts ++ r), 0, 0⟩).1 :: (argsS dec en bs (argS dec en b ⟨t :: (ts ++ r), 0, 0⟩).2).1, (argsS dec en bs (argS dec en b ⟨t :: (ts ++ r), 0, 0⟩).2).2) = _
    rw [hs, args_fit bs ts r hf]
    rfl
/-- the tokens of a statement, ends ahead of them -/
structure Grp where
  bl : List PTok
  a : PTok
  b : PTok
  c : PTok
  ts : List PTok
  z : PTok
def Grp.toks (g : Grp) : List PTok := g.bl ++ g.a :: g.b :: g.c :: (g.ts ++ [g.z])
structure Grp.Ok (dec : ByteArray → Nat × Nat) (g : Grp) : Prop where
  bl : ∀ t ∈ g.bl, t.kind = 4
  a : g.a.kind = 1
  b : g.b.kind = 3
  c : g.c.kind = 1
  k : kindF g.c.text ≠ 0
  f : fitB dec (formL (kindF g.c.text)) g.ts
  z : g.z.kind = 4
def Grp.st (dec : ByteArray → Nat × Nat) (g : Grp) : PStmt := ⟨g.a.text, g.a.pos, kindF g.c.text, argsOf dec (formL (kindF g.c.text)) g.ts⟩
theorem stmt_fit (g : Grp) (h : g.Ok dec) (r : List PTok) : stmtS dec en ⟨g.a :: g.b :: g.c :: (g.ts ++ g.z :: r), 0, 0⟩ = (g.st dec, ⟨r, 0, 0⟩) := by
  unfold stmtS
  simp only
  rw [nextS_yes (t := g.a) (r := g.b :: g.c :: (g.ts ++ g.z :: r)) rfl rfl h.a]
  simp only
  rw [nextS_yes (t := g.b) (r := g.c :: (g.ts ++ g.z :: r)) rfl rfl h.b]
  simp only
  rw [nextS_yes (t := g.c) (r := g.ts ++ g.z :: r) rfl rfl h.c]
  simp only
  rw [if_neg h.k, args_fit _ _ _ h.f]
  simp only
  rw [nextS_yes (t := g.z) (r := r) rfl rfl h.z]
  rfl
theorem parseL_bl : ∀ (bl : List PTok) (f : Nat) (R : List PTok) (acc : List PStmt), (∀ t ∈ bl, t.kind = 4) → bl.length ≤ f → parseL dec en f ⟨bl ++ R, 0, 0⟩ acc = parseL dec en (f - bl.length) ⟨R, 0, 0⟩ acc
  | [], _, _, _, _, _ => rfl
  | t :: bl, 0, _, _, _, h => absurd h (by simp)
  | t :: bl, f + 1, R, acc, hk, h => by
    have h4 := hk t (by simp)
    rw [List.length_cons] at h
    conv => lhs; unfold parseL
    rw [if_pos rfl]
    show (if t.kind = 4 then _ else _) = _
    rw [if_pos h4]
    have := parseL_bl bl f R acc (fun u hu => hk u (by simp [hu])) (by omega)
    rw [List.length_cons, Nat.add_sub_add_right, ← this]
    rfl
theorem parseL_gs : ∀ (gs : List Grp) (f : Nat) (acc : List PStmt), (gs.flatMap Grp.toks).length < f → (∀ g ∈ gs, g.Ok dec) → parseL dec en f ⟨gs.flatMap Grp.toks, 0, 0⟩ acc = (acc ++ gs.map (Grp.st dec), ⟨[], 0, 0⟩)
  | [], f, acc, _, _ => by
    rw [parseL_end (.inr rfl)]
    simp
  | g :: gs, f, acc, hf, h => by
    have hg := h g (by simp)
    rw [List.flatMap_cons, List.length_append] at hf
    have hl : g.toks.length = g.bl.length + (g.ts.length + 4) := by
      unfold Grp.toks
      simp only [List.length_append, List.length_cons, List.length_nil]
    rw [hl] at hf
    have e : (g :: gs).flatMap Grp.toks = g.bl ++ (g.a :: g.b :: g.c :: (g.ts ++ g.z :: gs.flatMap Grp.toks)) := by
      rw [List.flatMap_cons]
      unfold Grp.toks
      simp
    rw [e, parseL_bl g.bl f _ acc hg.bl (by omega)]
    obtain ⟨f', hf'⟩ : ∃ f', f - g.bl.length = f' + 1 := ⟨f - g.bl.length - 1, by omega⟩
    rw [hf']
    conv => lhs; unfold parseL
    rw [if_pos rfl]
    show (if g.a.kind = 4 then _ else _) = _
    rw [if_neg (by rw [hg.a]; decide), stmt_fit g hg]
    rw [parseL_gs gs f' _ (by omega) (fun x hx => h x (by simp [hx])), List.map_cons, List.append_assoc]
    rfl
/-- what parsing answers -/
theorem parse_gs (gs : List Grp) (h : ∀ g ∈ gs, g.Ok dec) : parseRes dec (gs.flatMap Grp.toks) = (gs.map (Grp.st dec), 0, 0) := by
  unfold parseRes
  simp only
  rw [parseL_gs gs _ [] (Nat.lt_succ_self _) h, if_pos rfl, List.nil_append]
end Go.Proofs.YtejmbbkklhpnaaaGreatDoor.bkp

/- Programs of nodes in plain words: a front, a node more, a node that stands first. No conditions but those stated. -/
namespace Go.Proofs.YtejmbbkklhpnaaaGreatDoor.chkw
open Go.Proofs.YtejmbbkklhpnaaaGreatDoor.nodew

theorem rightP_iff (l : List Nd) : rightP l = true ↔ (∀ k (hk : k < l.length), nodeOk l[k] k = true) ∧ 0 < l.length ∧ l.length ≤ 4096 := by
  constructor
  · intro h
    have h1 : ∀ k (hk : k < l.length), nodeOk l[k] k = true := fun k hk => by
      cases hq : nodeOk l[k] k with
      | true => rfl
      | false => rw [rightP_bad hk hq] at h; cases h
    refine ⟨h1, ?_⟩
    rw [rightP_good h1] at h
    simpa using h
  · rintro ⟨h1, h2, h3⟩
    rw [rightP_good h1]
    simp [h2, h3]
end Go.Proofs.YtejmbbkklhpnaaaGreatDoor.chkw

/- A right node in which one number is another: is it right? In plain words. Conditions: as each theorem states. -/
namespace Go.Proofs.YtejmbbkklhpnaaaGreatDoor.chkw
open Go.Proofs.YtejmbbkklhpnaaaGreatDoor.nodew

theorem f_put (n : Nd) (hl : n.x.length = 16) (o x j : Nat) (h1 : 1 ≤ o) (h2 : o ≤ 16) (j1 : 1 ≤ j) : (Nd.put n o x).f j = if j = o then x else n.f j := by
  unfold Nd.put Nd.f
  simp only [List.getD_eq_getElem?_getD]
  by_cases h : j = o
  · subst h
    rw [List.getElem?_set_self (by omega), if_pos rfl]
    rfl
  · rw [List.getElem?_set_ne (by omega), if_neg h]
theorem f_zero (n : Nd) (hl : n.x.length = 16) (o j : Nat) (h1 : 1 ≤ o) (h2 : o ≤ 16) (j1 : 1 ≤ j) : (n.zero o).f j = if j = o then 0 else n.f j := f_put n hl o 0 j h1 h2 j1
theorem f_zeros : ∀ (l : List Nat) (n : Nd), n.x.length = 16 → (∀ o ∈ l, 1 ≤ o ∧ o ≤ 16) → ∀ j, 1 ≤ j → (n.zeros l).f j = if j ∈ l then 0 else n.f j
  | [], n, _, _, j, _ => by simp [Nd.zeros]
  | o :: r, n, hl, ho, j, hj => by
    show ((n.zero o).zeros r).f j = _
    rw [f_zeros r (n.zero o) ((n.zero_len o).trans hl) (fun p hp => ho p (by simp [hp])) j hj, f_zero n hl o j (ho o (by simp)).1 (ho o (by simp)).2 hj]
    by_cases h : j = o
    · subst h
      by_cases hr : j ∈ r <;> simp [hr]
    · by_cases hr : j ∈ r <;> simp [h, hr]
theorem offs_range (k : Nat) : ∀ o ∈ offs k, 1 ≤ o ∧ o ≤ 16 := fun o ho => by
  unfold offs at ho
  obtain ⟨d, hd, rfl⟩ := List.mem_map.1 ho
  exact fieldList_range k d hd
theorem nodeOk_iff (n : Nd) (hl : n.x.length = 16) (at_ : Int) : nodeOk n at_ = true ↔ (∀ d ∈ fieldList n.kind, withinF d.2.1 d.2.2 (n.f d.1) = true) ∧ placeOk (decide (0 < belowN n.kind)) n.a at_ = true ∧ placeOk (decide (1 < belowN n.kind)) n.b at_ = true ∧ 0 < (fieldList n.kind).length ∧ ∀ j, 1 ≤ j → j ≤ 16 → j ∉ offs n.kind → n.f j = 0 := by
  unfold nodeOk ndOk bare
  simp only [Bool.and_eq_true, List.all_eq_true, decide_eq_true_eq, beq_iff_eq, List.mem_range]
  have hz := f_zeros (offs n.kind) n hl (offs_range n.kind)
  constructor
  · rintro ⟨⟨⟨⟨h1, h2⟩, h3⟩, h4⟩, h5⟩
    refine ⟨h1, h2, h3, h4, fun j j1 j2 hj => ?_⟩
    have := h5 (j - 1) (by omega)
    rw [show j - 1 + 1 = j by omega, hz j j1, if_neg hj] at this
    exact this
  · rintro ⟨h1, h2, h3, h4, h5⟩
    refine ⟨⟨⟨⟨h1, h2⟩, h3⟩, h4⟩, fun j hj => ?_⟩
    rw [hz (j + 1) (by omega)]
    by_cases h : j + 1 ∈ offs n.kind
    · rw [if_pos h]
    · rw [if_neg h]; exact h5 (j + 1) (by omega) (by omega) h
end Go.Proofs.YtejmbbkklhpnaaaGreatDoor.chkw

/- The first error of statements in plain words: it stays, whatever stands behind. No conditions but those stated. -/
namespace Go.Proofs.YtejmbbkklhpnaaaGreatDoor.chkw
open Go.Proofs.YtejmbbkklhpnaaaGreatDoor.parw
open Go.Proofs.YtejmbbkklhpnaaaGreatDoor.nodew

end Go.Proofs.YtejmbbkklhpnaaaGreatDoor.chkw

/- Statements that are a program, in plain words: its nodes are right, a front of the statements gives a front of it, and other names give the same. No conditions but those stated. -/
namespace Go.Proofs.YtejmbbkklhpnaaaGreatDoor.chkw
open Go.Proofs.YtejmbbkklhpnaaaGreatDoor.parw
open Go.Proofs.YtejmbbkklhpnaaaGreatDoor.nodew

def plusB : ByteArray := ⟨#[43]⟩
def renA (a : PArg) : PArg := { a with name := a.name ++ plusB }
def renS (s : PStmt) : PStmt := { s with name := s.name ++ plusB, args := s.args.map renA }
def renE (ents : List (ByteArray × Nat)) : List (ByteArray × Nat) := ents.map fun p => (p.1 ++ plusB, p.2)

theorem ba_beq (a b : ByteArray) : (a == b) = true ↔ a = b := by
  obtain ⟨a⟩ := a
  obtain ⟨b⟩ := b
  show (a == b) = true ↔ _
  rw [beq_iff_eq]
  simp
theorem plus_beq (a b : ByteArray) : ((a ++ plusB) == (b ++ plusB)) = (a == b) := by
  rw [Bool.eq_iff_iff, ba_beq, ba_beq, ByteArray.append_left_inj]
theorem lookE_ren (k : ByteArray) : ∀ ents : List (ByteArray × Nat), lookE (renE ents) (k ++ plusB) = lookE ents k
  | [] => rfl
  | p :: r => by
    have ih := lookE_ren k r
    unfold lookE renE at ih ⊢
    rw [List.map_cons, List.find?_cons, List.find?_cons]
    simp only [plus_beq]
    cases k == p.1
    · exact ih
    · rfl
theorem plus_last (s t : ByteArray) (h : s ++ plusB = t) : t.data.toList.getLast? = some 43 := by
  rw [← h, ByteArray.data_append]
  simp [plusB]
theorem kind_plus (s : ByteArray) : kindF (s ++ plusB) = 0 := by
  have h : ∀ t, t.data.toList.getLast? ≠ some 43 → ¬ s ++ plusB = t := fun t ht e => ht (plus_last s t e)
  unfold kindF
  rw [if_neg (h wd1 (by decide)), if_neg (h wd2 (by decide)), if_neg (h wd3 (by decide)), if_neg (h wd4 (by decide)), if_neg (h wd5 (by decide)), if_neg (h wd6 (by decide))]
theorem numsS_ren : ∀ (fl : List (Nat × Nat × Nat)) (l : List PArg) (n : Nd), numsS fl (l.map renA) n = numsS fl l n
  | [], [], _ => rfl
  | [], _ :: _, _ => rfl
  | _ :: _, [], _ => rfl
  | d :: r, a :: q, n => by
    rw [List.map_cons]
    unfold numsS
    rw [numsS_ren r q]
    rfl
theorem namesS_ren (look look' : ByteArray → Option Nat) (h : ∀ k, look' (k ++ plusB) = look k) : ∀ (l : List PArg) (i : Nat) (n : Nd), namesS look' (l.map renA) i n = namesS look l i n
  | [], _, _ => rfl
  | a :: q, i, n => by
    rw [List.map_cons]
    unfold namesS
    rw [show (renA a).name = a.name ++ plusB from rfl, h]
    cases look a.name with
    | none => rfl
    | some p => exact namesS_ren look look' h q _ _
theorem nodeS_ren (ents : List (ByteArray × Nat)) (s : PStmt) : nodeS (lookE (renE ents)) (renS s) = nodeS (lookE ents) s := by
  have hl : (s.args.map renA).length = s.args.length := by simp
  unfold nodeS
  show (if (fieldList s.kind).length = 0 ∨ (s.args.map renA).length ≠ _ then _ else if (numsS (fieldList s.kind) (s.args.map renA) (nodeZ s.kind)).2.2 = 0 then namesS (lookE (renE ents)) ((s.args.map renA).drop _) 0 (numsS (fieldList s.kind) (s.args.map renA) (nodeZ s.kind)).1 else numsS (fieldList s.kind) (s.args.map renA) (nodeZ s.kind)) = _
  rw [hl, numsS_ren, ← List.map_drop, namesS_ren (lookE ents) (lookE (renE ents)) (fun k => lookE_ren k ents)]
  rfl
theorem chkA_eq (ents : List (ByteArray × Nat)) (out : List Nd) (s : PStmt) (r : List PStmt) : chkA ents out (s :: r) =
    if 4096 ≤ out.length then ([], s.pos, 181)
    else if (lookE ents s.name).isSome = true ∨ 0 < kindF s.name then ([], s.pos, 182)
    else if (nodeS (lookE ents) s).2.2 = 0 then chkA (ents ++ [(s.name, out.length)]) (out ++ [(nodeS (lookE ents) s).1]) r
    else ([], (nodeS (lookE ents) s).2.1, (nodeS (lookE ents) s).2.2) := rfl
/-- one statement more -/
theorem chkA_cons (ents : List (ByteArray × Nat)) (out : List Nd) (s : PStmt) (r : List PStmt) (h : (chkA ents out (s :: r)).2.2 = 0) :
    out.length < 4096 ∧ lookE ents s.name = none ∧ kindF s.name = 0 ∧ (nodeS (lookE ents) s).2.2 = 0 ∧ chkA ents out (s :: r) = chkA (ents ++ [(s.name, out.length)]) (out ++ [(nodeS (lookE ents) s).1]) r := by
  rw [chkA_eq] at h ⊢
  by_cases h1 : 4096 ≤ out.length
  · rw [if_pos h1] at h; cases h
  · rw [if_neg h1] at h ⊢
    by_cases h2 : (lookE ents s.name).isSome = true ∨ 0 < kindF s.name
    · rw [if_pos h2] at h; cases h
    · rw [if_neg h2] at h ⊢
      by_cases h3 : (nodeS (lookE ents) s).2.2 = 0
      · rw [if_pos h3]
        have h4 : ¬ (lookE ents s.name).isSome = true := fun e => h2 (.inl e)
        have h5 : ¬ 0 < kindF s.name := fun e => h2 (.inr e)
        exact ⟨by omega, by simpa using h4, by omega, h3, rfl⟩
      · rw [if_neg h3] at h; exact absurd h h3
theorem chkA_ren : ∀ (l : List PStmt) (ents : List (ByteArray × Nat)) (out : List Nd), (chkA ents out l).2.2 = 0 → chkA (renE ents) out (l.map renS) = chkA ents out l
  | [], _, _, _ => rfl
  | s :: r, ents, out, h => by
    obtain ⟨h1, h2, h3, h4, h5⟩ := chkA_cons ents out s r h
    rw [h5] at h ⊢
    rw [← chkA_ren r _ _ h, List.map_cons]
    rw [chkA_eq, if_neg (show ¬ 4096 ≤ out.length by omega), if_neg, nodeS_ren, if_pos h4]
    · unfold renE
      rw [List.map_append]
      rfl
    · rw [show (renS s).name = s.name ++ plusB from rfl, lookE_ren, h2, kind_plus]
      simp
/-- the whole, and a front of it -/
theorem chkA_take : ∀ (l : List PStmt) (ents : List (ByteArray × Nat)) (out : List Nd), (chkA ents out l).2.2 = 0 →
    (chkA ents out l).2.1 = 0 ∧ (chkA ents out l).1.length = out.length + l.length ∧ ∀ k, k ≤ l.length → chkA ents out (l.take k) = ((chkA ents out l).1.take (out.length + k), 0, 0)
  | [], ents, out, h => by
    refine ⟨rfl, rfl, fun k hk => ?_⟩
    obtain rfl : k = 0 := by simpa using hk
    show (out, (0 : Int), 0) = (out.take (out.length + 0), 0, 0)
    rw [Nat.add_zero, List.take_length]
  | s :: r, ents, out, h => by
    obtain ⟨h1, h2, h3, h4, h5⟩ := chkA_cons ents out s r h
    rw [h5] at h ⊢
    obtain ⟨i1, i2, i3⟩ := chkA_take r _ _ h
    refine ⟨i1, by rw [i2, List.length_append]; simp; omega, fun k hk => ?_⟩
    cases k with
    | zero =>
      have hz := i3 0 (Nat.zero_le _)
      have hpre : ((chkA (ents ++ [(s.name, out.length)]) (out ++ [(nodeS (lookE ents) s).1]) r).1.take (out ++ [(nodeS (lookE ents) s).1]).length) = out ++ [(nodeS (lookE ents) s).1] := by
        have := congrArg (·.1) hz
        simpa [chkA] using this.symm
      have h6 := congrArg (List.take out.length) hpre
      rw [List.take_take, List.length_append, Nat.min_eq_left (by omega)] at h6
      rw [Nat.add_zero, h6]
      show (out, (0 : Int), 0) = _
      rw [List.take_left' rfl]
    | succ k =>
      have hk' : k ≤ r.length := by simpa using hk
      rw [List.take_succ_cons]
      have h6 := i3 k hk'
      rw [List.length_append] at h6
      rw [show out.length + (k + 1) = out.length + [(nodeS (lookE ents) s).1].length + k by simp; omega, ← h6]
      rw [chkA_eq, if_neg (show ¬ 4096 ≤ out.length by omega), if_neg (by rw [h2, h3]; simp), if_pos h4]
theorem checkS_front (l : List PStmt) (h : (checkS l).2.2 = 0) : 0 < l.length ∧ (checkS l).2.1 = 0 ∧ (checkS l).1.length = l.length ∧ ∀ k, 0 < k → k ≤ l.length → checkS (l.take k) = ((checkS l).1.take k, 0, 0) := by
  unfold checkS at h ⊢
  by_cases h0 : l.length = 0
  · rw [if_pos h0] at h; cases h
  · rw [if_neg h0] at h ⊢
    obtain ⟨h1, h2, h3⟩ := chkA_take l [] [] h
    refine ⟨by omega, h1, by rw [h2]; simp, fun k hk hkl => ?_⟩
    rw [if_neg (by rw [List.length_take]; omega), h3 k hkl]
    simp
theorem chkA_bad : ∀ (l : List PStmt) (ents : List (ByteArray × Nat)) (out : List Nd), (chkA ents out l).2.2 ≠ 0 → (chkA ents out l).1 = []
  | [], _, _, h => absurd rfl h
  | s :: r, ents, out, h => by
    rw [chkA_eq] at h ⊢
    by_cases h1 : 4096 ≤ out.length
    · rw [if_pos h1]
    · rw [if_neg h1] at h ⊢
      by_cases h2 : (lookE ents s.name).isSome = true ∨ 0 < kindF s.name
      · rw [if_pos h2]
      · rw [if_neg h2] at h ⊢
        by_cases h3 : (nodeS (lookE ents) s).2.2 = 0
        · rw [if_pos h3] at h ⊢
          exact chkA_bad r _ _ h
        · rw [if_neg h3]
theorem checkS_bad (l : List PStmt) (h : (checkS l).2.2 ≠ 0) : (checkS l).1 = [] := by
  unfold checkS at h ⊢
  by_cases h0 : l.length = 0
  · rw [if_pos h0]
  · rw [if_neg h0] at h ⊢
    exact chkA_bad l [] [] h
/-! the nodes are right -/
theorem numsS_ok : ∀ (fl : List (Nat × Nat × Nat)) (l : List PArg) (n : Nd), n.x.length = 16 → (∀ v ∈ n.x, v < 18446744073709551616) → (∀ a ∈ l, a.num < 18446744073709551616) → (∀ d ∈ fl, 1 ≤ d.1 ∧ d.1 ≤ 16) → (fl.map (·.1)).Nodup → fl.length ≤ l.length → (numsS fl l n).2.2 = 0 →
    ((numsS fl l n).1.kind = n.kind ∧ (numsS fl l n).1.a = n.a ∧ (numsS fl l n).1.b = n.b) ∧ (numsS fl l n).1.ok ∧ (∀ d ∈ fl, withinF d.2.1 d.2.2 ((numsS fl l n).1.f d.1) = true) ∧ ∀ j, 1 ≤ j → j ∉ fl.map (·.1) → (numsS fl l n).1.f j = n.f j
  | [], l, n, hl, hv, ha, ho, hn, hx, h => by
    have e : numsS [] l n = (n, 0, 0) := by cases l <;> rfl
    rw [e]
    exact ⟨⟨rfl, rfl, rfl⟩, ⟨hl, hv⟩, (fun d hd => by cases hd), fun j _ _ => rfl⟩
  | d :: r, [], n, hl, hv, ha, ho, hn, hx, h => by simp at hx
  | d :: r, a :: q, n, hl, hv, ha, ho, hn, hx, h => by
    have ee : numsS (d :: r) (a :: q) n = if withinF d.2.1 d.2.2 a.num then numsS r q (Nd.put n d.1 a.num) else (Nd.put n d.1 a.num, a.pos, 184) := rfl
    rw [ee] at h ⊢
    by_cases hw : withinF d.2.1 d.2.2 a.num = true
    · rw [if_pos hw] at h ⊢
      have hd := ho d (.head _)
      rw [List.map_cons, List.nodup_cons] at hn
      have hok := put_ok' n hl hv d.1 a.num (ha a (.head _))
      obtain ⟨i1, i2, i3, i4⟩ := numsS_ok r q (Nd.put n d.1 a.num) hok.1 hok.2 (fun b hb => ha b (.tail _ hb)) (fun e he => ho e (.tail _ he)) hn.2 (by simpa using hx) h
      have hf := fun j j1 => f_put n hl d.1 a.num j hd.1 hd.2 j1
      refine ⟨i1, i2, fun e he => ?_, fun j j1 hj => ?_⟩
      · rcases List.mem_cons.1 he with he | he
        · rw [he, i4 d.1 hd.1 hn.1, hf d.1 hd.1, if_pos rfl]; exact hw
        · exact i3 e he
      · rw [List.map_cons, List.mem_cons, not_or] at hj
        rw [i4 j j1 hj.2, hf j j1, if_neg hj.1]
    · rw [if_neg hw] at h; cases h
where
  put_ok' (n : Nd) (hl : n.x.length = 16) (hv : ∀ v ∈ n.x, v < 18446744073709551616) (o x : Nat) (hx : x < 18446744073709551616) : (Nd.put n o x).ok :=
    ⟨(Nd.put_len n o x).trans hl, fun v hv' => by
      rcases List.mem_or_eq_of_mem_set hv' with h | h
      · exact hv v h
      · rw [h]; exact hx⟩
theorem offs_nodup (k : Nat) : ((fieldList k).map (·.1)).Nodup := by
  unfold fieldList
  repeat' split
  all_goals decide
theorem below_two (k : Nat) : belowN k ≤ 2 := by
  unfold belowN
  repeat' split
  all_goals omega
/-- a node that a statement gives is right at its place -/
theorem nodeS_ok (look : ByteArray → Option Nat) (at_ : Nat) (hlk : ∀ k p, look k = some p → p < at_) (s : PStmt) (hnum : ∀ a ∈ s.args, a.num < 18446744073709551616) (h : (nodeS look s).2.2 = 0) :
    (nodeS look s).1.ok ∧ nodeOk (nodeS look s).1 at_ = true ∧ s.args.length ≤ 9 := by
  unfold nodeS at h ⊢
  by_cases h1 : (fieldList s.kind).length = 0 ∨ s.args.length ≠ (fieldList s.kind).length + belowN s.kind
  · rw [if_pos h1] at h; cases h
  · rw [if_neg h1] at h ⊢
    rw [not_or, Decidable.not_not] at h1
    obtain ⟨hf0, hal⟩ := h1
    have hb2 := below_two s.kind
    have h9 : s.args.length ≤ 9 := by
      have : (fieldList s.kind).length ≤ 7 := by
        unfold fieldList; repeat' split
        all_goals simp
      omega
    by_cases h2 : (numsS (fieldList s.kind) s.args (nodeZ s.kind)).2.2 = 0
    · rw [if_pos h2] at h ⊢
      have hz : ∀ j, (nodeZ s.kind).f j = 0 := fun j => by
        unfold nodeZ Nd.f
        simp only [List.getD_eq_getElem?_getD, List.getElem?_replicate]
        split <;> rfl
      obtain ⟨⟨i1, i2, i3⟩, i4, i5, i6⟩ := numsS_ok (fieldList s.kind) s.args (nodeZ s.kind) (by simp [nodeZ]) (fun v hv => by have := List.eq_of_mem_replicate hv; omega) hnum (fieldList_range s.kind) (offs_nodup _) (by omega) h2
      obtain ⟨m, hm⟩ : ∃ m, (numsS (fieldList s.kind) s.args (nodeZ s.kind)).1 = m := ⟨_, rfl⟩
      rw [hm] at h i1 i2 i3 i4 i5 i6 ⊢
      have key : ∀ a b : Int, placeOk (decide (0 < belowN s.kind)) a at_ = true → placeOk (decide (1 < belowN s.kind)) b at_ = true → nodeOk { m with a := a, b := b } at_ = true := fun a b ha hb => by
        have hk : ({ m with a := a, b := b } : Nd).kind = s.kind := i1
        rw [nodeOk_iff _ (by exact i4.1), hk]
        refine ⟨fun d hd => i5 d hd, ha, hb, by omega, fun j j1 j2 hj => ?_⟩
        have := i6 j j1 (by unfold offs at hj; exact hj)
        rw [hz] at this
        exact this
      have hok : ∀ a b : Int, ({ m with a := a, b := b } : Nd).ok := fun a b => i4
      have hpl : ∀ p : Nat, p < at_ → placeOk true (p : Int) at_ = true := fun p hp => by unfold placeOk; simp; omega
      obtain ⟨bs, hbs⟩ : ∃ bs, s.args.drop (fieldList s.kind).length = bs := ⟨_, rfl⟩
      have hbl : bs.length = belowN s.kind := by rw [← hbs, List.length_drop]; omega
      rw [hbs] at h ⊢
      have em : ({ m with a := 0, b := 0 } : Nd) = m := by
        obtain ⟨mk, mx, ma, mb⟩ := m
        have i2 : ma = 0 := i2
        have i3 : mb = 0 := i3
        subst i2 i3
        rfl
      match bs, hbl with
      | [], hbl =>
        have e0 : belowN s.kind = 0 := hbl.symm
        have k0 := key 0 0 (by rw [e0]; rfl) (by rw [e0]; rfl)
        rw [em] at k0
        exact ⟨i4, k0, h9⟩
      | [x], hbl =>
        have e1 : belowN s.kind = 1 := hbl.symm
        unfold namesS at h ⊢
        cases hx : look x.name with
        | none => rw [hx] at h; cases h
        | some p =>
          have k1 := key p 0 (by rw [e1]; exact hpl p (hlk _ _ hx)) (by rw [e1]; rfl)
          have em' : ({ m with a := (p : Int), b := 0 } : Nd) = { m with a := (p : Int) } := by
            obtain ⟨mk, mx, ma, mb⟩ := m
            have i3 : mb = 0 := i3
            subst i3
            rfl
          rw [em'] at k1
          exact ⟨hok _ _, k1, h9⟩
      | [x, y], hbl =>
        have e2 : belowN s.kind = 2 := hbl.symm
        unfold namesS at h ⊢
        cases hx : look x.name with
        | none => rw [hx] at h; cases h
        | some p =>
          rw [hx] at h
          simp only [if_true] at h ⊢
          unfold namesS at h ⊢
          cases hy : look y.name with
          | none => rw [hy] at h; cases h
          | some q =>
            have k2 := key p q (by rw [e2]; exact hpl p (hlk _ _ hx)) (by rw [e2]; exact hpl q (hlk _ _ hy))
            exact ⟨hok _ _, k2, h9⟩
      | x :: y :: z :: r, hbl => simp at hbl; omega
    · rw [if_neg h2] at h; exact absurd h h2
theorem lookE_lt (ents : List (ByteArray × Nat)) (m : Nat) (h : ∀ p ∈ ents, p.2 < m) (k : ByteArray) (p : Nat) (hp : lookE ents k = some p) : p < m := by
  unfold lookE at hp
  rw [Option.map_eq_some_iff] at hp
  obtain ⟨q, hq, rfl⟩ := hp
  exact h q (List.mem_of_find?_eq_some hq)
theorem chkA_ok : ∀ (l : List PStmt) (ents : List (ByteArray × Nat)) (out : List Nd), (∀ s ∈ l, ∀ a ∈ s.args, a.num < 18446744073709551616) → (∀ p ∈ ents, p.2 < out.length) → out.length ≤ 4096 → (∀ x ∈ out, x.ok) → (∀ k (hk : k < out.length), nodeOk out[k] k = true) → (chkA ents out l).2.2 = 0 →
    (∀ x ∈ (chkA ents out l).1, x.ok) ∧ (∀ k (hk : k < (chkA ents out l).1.length), nodeOk (chkA ents out l).1[k] k = true) ∧ (chkA ents out l).1.length ≤ 4096 ∧ ∀ s ∈ l, s.args.length ≤ 9
  | [], ents, out, _, _, h96, hx, hk, _ => ⟨hx, hk, h96, fun s hs => by cases hs⟩
  | s :: r, ents, out, ha, hp, h96, hx, hk, h => by
    obtain ⟨h1, h2, h3, h4, h5⟩ := chkA_cons ents out s r h
    rw [h5] at h ⊢
    obtain ⟨j1, j2, j3⟩ := nodeS_ok (lookE ents) out.length (lookE_lt ents out.length hp) s (ha s (.head _)) h4
    obtain ⟨i1, i2, i3, i4⟩ := chkA_ok r (ents ++ [(s.name, out.length)]) (out ++ [(nodeS (lookE ents) s).1]) (fun t ht => ha t (.tail _ ht)) (fun p hq => by
      rw [List.length_append]
      rcases List.mem_append.1 hq with hq | hq
      · have := hp p hq; simp; omega
      · have : p = (s.name, out.length) := by simpa using hq
        rw [this]; simp) (by rw [List.length_append]; simp; omega) (fun x hq => by
      rcases List.mem_append.1 hq with hq | hq
      · exact hx x hq
      · have : x = (nodeS (lookE ents) s).1 := by simpa using hq
        rw [this]; exact j1) (fun k hk' => by
      rw [List.length_append] at hk'
      by_cases hkl : k < out.length
      · rw [List.getElem_append_left hkl]; exact hk k hkl
      · obtain rfl : k = out.length := by simp at hk'; omega
        simpa using j2) h
    exact ⟨i1, i2, i3, fun t ht => by
      rcases List.mem_cons.1 ht with rfl | ht
      · exact j3
      · exact i4 t ht⟩
theorem checkS_right (l : List PStmt) (ha : ∀ s ∈ l, ∀ a ∈ s.args, a.num < 18446744073709551616) (h : (checkS l).2.2 = 0) :
    (∀ x ∈ (checkS l).1, x.ok) ∧ rightP (checkS l).1 = true ∧ ∀ s ∈ l, s.args.length ≤ 9 := by
  obtain ⟨h0, _, hl, _⟩ := checkS_front l h
  have e : checkS l = chkA [] [] l := by unfold checkS; rw [if_neg (by omega)]
  rw [e] at h hl ⊢
  obtain ⟨i1, i2, i3, i4⟩ := chkA_ok l [] [] ha (fun p hp => by cases hp) (by simp) (fun x hx => by cases hx) (fun k hk => by simp at hk) h
  exact ⟨i1, (rightP_iff _).2 ⟨i2, by omega, i3⟩, i4⟩
end Go.Proofs.YtejmbbkklhpnaaaGreatDoor.chkw

/- What the statements of a program's nodes are when they are checked: the nodes. Plain; no condition but those stated. -/
namespace Go.Proofs.YtejmbbkklhpnaaaGreatDoor.bkk
open Go.RowKit
open Go.Proofs.YtejmbbkklhpnaaaGreatDoor.nodew
open Go.Proofs.YtejmbbkklhpnaaaGreatDoor.chkw
open Go.Proofs.YtejmbbkklhpnaaaGreatDoor.parw (PArg PStmt kindF)
open Go.Proofs.YtejmbbkklhpnaaaGreatDoor.prnw (nmB bA bA_list numsK subsN right_at node_facts)

/-- a statement says a node -/
structure St (n : Nd) (k : Nat) (s : PStmt) : Prop where
  name : s.name = nmB k
  kind : s.kind = n.kind
  args : ∃ us ws, s.args = us ++ ws ∧ us.map (·.num) = (numsK n.kind).map n.f ∧ ws.map (·.name) = (subsN n).map nmB

def putAll : List (Nat × Nat × Nat) → List PArg → Nd → Nd
  | d :: r, a :: q, m => putAll r q (Nd.put m d.1 a.num)
  | _, _, m => m
theorem numsS_all (n : Nd) : ∀ (fl : List (Nat × Nat × Nat)) (us ws : List PArg) (m : Nd), us.map (·.num) = fl.map (fun d => n.f d.1) → ndOk n fl = true → numsS fl (us ++ ws) m = (putAll fl us m, 0, 0)
  | [], us, ws, m, h, _ => by
    have : us = [] := by simpa using h
    rw [this]
    cases ws <;> rfl
  | d :: r, [], ws, m, h, _ => by simp at h
  | d :: r, a :: q, ws, m, h, hw => by
    simp only [List.map_cons, List.cons.injEq] at h
    have hw2 : withinF d.2.1 d.2.2 (n.f d.1) = true ∧ ndOk n r = true := by
      unfold ndOk at hw
      rw [List.all_cons, Bool.and_eq_true] at hw
      exact hw
    show (if withinF d.2.1 d.2.2 a.num then numsS r (q ++ ws) (Nd.put m d.1 a.num) else _) = _
    rw [h.1, if_pos hw2.1, numsS_all n r q ws _ h.2 hw2.2]
    show _ = (putAll r q (Nd.put m d.1 a.num), 0, 0)
    rw [h.1]
theorem put_f (m : Nd) (hl : m.x.length = 16) (i v j : Nat) (hi : 1 ≤ i ∧ i ≤ 16) (hj : 1 ≤ j ∧ j ≤ 16) : (Nd.put m i v).f j = if j = i then v else m.f j := by
  unfold Nd.put Nd.f
  simp only
  by_cases h : j = i
  · subst h
    rw [if_pos rfl, List.getD_eq_getElem?_getD, List.getElem?_set_self (by omega)]
    rfl
  · rw [if_neg h, List.getD_eq_getElem?_getD, List.getD_eq_getElem?_getD, List.getElem?_set_ne (by omega)]
theorem putAll_f (n : Nd) : ∀ (fl : List (Nat × Nat × Nat)) (us : List PArg) (m : Nd), us.map (·.num) = fl.map (fun d => n.f d.1) → (∀ d ∈ fl, 1 ≤ d.1 ∧ d.1 ≤ 16) → m.x.length = 16 →
    (putAll fl us m).x.length = 16 ∧ (putAll fl us m).kind = m.kind ∧ (putAll fl us m).a = m.a ∧ (putAll fl us m).b = m.b ∧ ∀ j, 1 ≤ j → j ≤ 16 → (putAll fl us m).f j = if j ∈ fl.map (·.1) then n.f j else m.f j
  | [], us, m, h, _, hl => by
    have : us = [] := by simpa using h
    rw [this]
    exact ⟨hl, rfl, rfl, rfl, fun j _ _ => by simp [putAll]⟩
  | d :: r, [], m, h, _, _ => by simp at h
  | d :: r, a :: q, m, h, hd, hl => by
    simp only [List.map_cons, List.cons.injEq] at h
    obtain ⟨a1, a2, a3, a4, a5⟩ := putAll_f n r q (Nd.put m d.1 a.num) h.2 (fun e he => hd e (by simp [he])) (by rw [Nd.put_len]; exact hl)
    refine ⟨a1, a2, a3, a4, fun j j1 j2 => ?_⟩
    show (putAll r q (Nd.put m d.1 a.num)).f j = _
    rw [a5 j j1 j2, List.map_cons, put_f m hl d.1 _ j (hd d (by simp)) ⟨j1, j2⟩, h.1]
    by_cases hj : j ∈ r.map (·.1)
    · rw [if_pos hj, if_pos (by simp [hj])]
    · rw [if_neg hj]
      by_cases hjd : j = d.1
      · rw [if_pos hjd, if_pos (by simp [hjd]), hjd]
      · rw [if_neg hjd, if_neg (by rw [List.mem_cons]; exact fun e => e.elim hjd hj)]
theorem nd_ext (n m : Nd) (hn : n.x.length = 16) (hm : m.x.length = 16) (hk : n.kind = m.kind) (ha : n.a = m.a) (hb : n.b = m.b) (h : ∀ j, 1 ≤ j → j ≤ 16 → n.f j = m.f j) : n = m := by
  have hx : n.x = m.x := by
    refine List.ext_getElem (hn.trans hm.symm) fun i h1 h2 => ?_
    have := h (i + 1) (by omega) (by omega)
    unfold Nd.f at this
    rw [Nat.add_sub_cancel, List.getD_eq_getElem?_getD, List.getD_eq_getElem?_getD, List.getElem?_eq_getElem h1, List.getElem?_eq_getElem h2] at this
    exact this
  cases n
  cases m
  simp only at hk ha hb hx
  rw [hk, ha, hb, hx]
theorem nodeZ_f (k j : Nat) : (nodeZ k).f j = 0 := by
  unfold nodeZ Nd.f
  simp only
  rw [List.getD_eq_getElem?_getD, List.getElem?_replicate]
  split <;> rfl
theorem namesS_hit (look : ByteArray → Option Nat) (a : PArg) (q : List PArg) (i : Nat) (m : Nd) (p : Nat) (h : look a.name = some p) : namesS look (a :: q) i m = namesS look q (i + 1) (Nd.setP m i p) := by
  conv => lhs; unfold namesS
  rw [h]
  rfl
theorem one_of {A B : Type} (f : A → B) (l : List A) (x : B) (h : l.map f = [x]) : ∃ a, l = [a] ∧ f a = x := by
  cases l with
  | nil => simp at h
  | cons a l =>
    cases l with
    | nil => exact ⟨a, rfl, by simpa using h⟩
    | cons b l => simp at h
theorem two_of {A B : Type} (f : A → B) (l : List A) (x y : B) (h : l.map f = [x, y]) : ∃ a b, l = [a, b] ∧ f a = x ∧ f b = y := by
  cases l with
  | nil => simp at h
  | cons a l =>
    rw [List.map_cons, List.cons.injEq] at h
    obtain ⟨b, hb, hy⟩ := one_of f l y h.2
    exact ⟨a, b, by rw [hb], h.1, hy⟩
theorem node_st (look : ByteArray → Option Nat) (n : Nd) (hn : n.ok) (k : Nat) (hk : k < 4096) (h : nodeOk n k = true) (s : PStmt) (hs : St n k s) (hl : ∀ a : Int, 0 ≤ a → a < k → look (nmB a) = some a.toNat) : nodeS look s = (n, 0, 0) := by
  obtain ⟨hkd, -, -⟩ := node_facts h (by omega)
  have hk6 : 1 ≤ n.kind ∧ n.kind ≤ 6 := by omega
  obtain ⟨us, ws, hargs, h1, h2⟩ := hs.args
  have hoff := (fpm.nums_offs n.kind).resolve_right (fun e => e hk6)
  have h1' : us.map (·.num) = (fieldList n.kind).map (fun d => n.f d.1) := by
    rw [h1, hoff]
    unfold offs
    rw [List.map_map]
    rfl
  have hno := h
  unfold nodeOk at hno
  simp only [Bool.and_eq_true] at hno
  obtain ⟨⟨⟨⟨hnd, hpa⟩, hpb⟩, hfl⟩, -⟩ := hno
  have hla : us.length = (fieldList n.kind).length := by have := congrArg List.length h1'; simpa using this
  have hlb : ws.length = (subsN n).length := by have := congrArg List.length h2; simpa using this
  have hsub : (subsN n).length = belowN n.kind := by
    unfold subsN belowN
    rcases hkd with e | e | e | e | e | e <;> rw [e] <;> rfl
  obtain ⟨f1, f2, f3, f4, f5⟩ := putAll_f n (fieldList n.kind) us (nodeZ n.kind) h1' (fun d hd => fieldList_range n.kind d hd) (by simp [nodeZ])
  have hns := numsS_all n (fieldList n.kind) us ws (nodeZ n.kind) h1' hnd
  have hx : ∀ j, 1 ≤ j → j ≤ 16 → (putAll (fieldList n.kind) us (nodeZ n.kind)).f j = n.f j := fun j j1 j2 => by
    rw [f5 j j1 j2]
    by_cases hj : j ∈ (fieldList n.kind).map (·.1)
    · rw [if_pos hj]
    · rw [if_neg hj, nodeZ_f]
      exact (fpm.rest_zero n k h j j1 j2 fun i hi => ⟨by
        obtain ⟨d, hd, rfl⟩ := List.mem_map.1 hi
        exact (fieldList_range n.kind d hd).1, fun e => hj (e ▸ hi)⟩).symm
  obtain ⟨M, hM⟩ : ∃ M, putAll (fieldList n.kind) us (nodeZ n.kind) = M := ⟨_, rfl⟩
  rw [hM] at f1 f2 f3 f4 hx hns
  unfold nodeS
  have hfl2 : 0 < (fieldList n.kind).length := of_decide_eq_true hfl
  rw [hs.kind, if_neg (by rw [hargs, List.length_append]; omega), hargs, hns]
  rw [if_pos rfl, ← hla, List.drop_left]
  have fin : ∀ m : Nd, m.x = M.x → m.kind = M.kind → m.a = n.a → m.b = n.b → m = n := fun m m1 m2 m3 m4 =>
    nd_ext m n (by rw [m1]; exact f1) hn.1 (by rw [m2, f2]; rfl) m3 m4 (fun j j1 j2 => by
      rw [← hx j j1 j2]
      unfold Nd.f
      rw [m1])
  have pl : ∀ v : Int, placeOk false v k = true → v = 0 := fun v hv => by
    unfold placeOk at hv
    simpa using hv
  have pt : ∀ v : Int, placeOk true v k = true → 0 ≤ v ∧ v < k := fun v hv => by
    unfold placeOk at hv
    simpa using hv
  have z0 : (nodeZ n.kind).a = 0 ∧ (nodeZ n.kind).b = 0 := ⟨rfl, rfl⟩
  by_cases h5 : n.kind = 5
  · have hs5 : subsN n = [n.a, n.b] := by
      unfold subsN
      rw [h5]
      rfl
    rw [hs5] at h2
    rw [h5] at hpa hpb
    have pa := pt _ hpa
    have pb := pt _ hpb
    obtain ⟨b1, b2, rfl, e1, e2⟩ := two_of _ _ _ _ h2
    rw [namesS_hit look b1 _ _ _ n.a.toNat (by rw [e1]; exact hl _ pa.1 pa.2), namesS_hit look b2 _ _ _ n.b.toNat (by rw [e2]; exact hl _ pb.1 pb.2)]
    have e := fin (Nd.setP (Nd.setP M 0 n.a.toNat) 1 n.b.toNat) rfl rfl (by show ((n.a.toNat : Nat) : Int) = n.a; omega) (by show ((n.b.toNat : Nat) : Int) = n.b; omega)
    show (Nd.setP (Nd.setP M 0 n.a.toNat) 1 n.b.toNat, (0 : Int), 0) = _
    rw [e]
  · by_cases h6 : n.kind = 6
    · have hs6 : subsN n = [n.a] := by
        unfold subsN
        rw [h6]
        rfl
      rw [hs6] at h2
      rw [h6] at hpa hpb
      have pa := pt _ hpa
      have pb := pl _ hpb
      obtain ⟨b1, rfl, e1⟩ := one_of _ _ _ h2
      rw [namesS_hit look b1 _ _ _ n.a.toNat (by rw [e1]; exact hl _ pa.1 pa.2)]
      have e := fin (Nd.setP M 0 n.a.toNat) rfl rfl (by show ((n.a.toNat : Nat) : Int) = n.a; omega) (by show M.b = n.b; rw [f4, pb]; rfl)
      show (Nd.setP M 0 n.a.toNat, (0 : Int), 0) = _
      rw [e]
    · have hb0 : belowN n.kind = 0 := by unfold belowN; rw [if_neg h5, if_neg h6]
      rw [hb0] at hpa hpb hsub
      have pa := pl _ hpa
      have pb := pl _ hpb
      have hws : ws = [] := List.eq_nil_of_length_eq_zero (by omega)
      rw [hws]
      show (M, (0 : Int), 0) = _
      rw [fin M rfl rfl (by rw [f3, pa]; rfl) (by rw [f4, pb]; rfl)]
/-- the names of the first k nodes -/
def ents (k : Nat) : List (ByteArray × Nat) := (List.range k).map fun i : Nat => (nmB i, i)
theorem ents_succ (k : Nat) : ents (k + 1) = ents k ++ [(nmB k, k)] := by
  unfold ents
  rw [List.range_succ, List.map_append]
  rfl
theorem nm_inj {a b : Int} (h : nmB a = nmB b) : a = b := fpm.nmB_inj a b (by rw [h])
theorem look_none (k : Nat) : ∀ m, m ≤ k → lookE (ents m) (nmB k) = none := fun m hm => by
  unfold lookE
  rw [List.find?_eq_none.2]
  · rfl
  · intro p hp
    unfold ents at hp
    obtain ⟨i, hi, rfl⟩ := List.mem_map.1 hp
    have hi2 := List.mem_range.1 hi
    intro e
    have := nm_inj ((ba_beq _ _).1 e)
    omega
theorem look_some (a : Nat) : ∀ k, a < k → lookE (ents k) (nmB a) = some a
  | 0, h => absurd h (Nat.not_lt_zero _)
  | k + 1, h => by
    rw [ents_succ]
    unfold lookE
    rw [List.find?_append]
    by_cases hak : a < k
    · have := look_some a k hak
      unfold lookE at this
      rw [Option.map_eq_some_iff] at this
      obtain ⟨p, hp, hp2⟩ := this
      rw [hp]
      simp [hp2]
    · have e : a = k := by omega
      have := look_none k k (Nat.le_refl _)
      unfold lookE at this
      rw [Option.map_eq_none_iff] at this
      have hb : (nmB (k : Int) == nmB (k : Int)) = true := (ba_beq _ _).2 rfl
      rw [e, this, Option.none_or]
      simp [List.find?, hb]
theorem kind_nm (k : Int) : kindF (nmB k) = 0 := by
  have key : ∀ w : ByteArray, w.data.toList.head? ≠ some 110 → nmB k ≠ w := fun w hw e => hw (by
    rw [← e]
    unfold nmB
    rw [bA_list]
    rfl)
  unfold kindF
  rw [if_neg (key _ (by decide)), if_neg (key _ (by decide)), if_neg (key _ (by decide)), if_neg (key _ (by decide)), if_neg (key _ (by decide)), if_neg (key _ (by decide))]
/-- the statements of a program, checked -/
theorem chk_from (l : List Nd) (hok : ∀ n ∈ l, n.ok) (h : rightP l = true) (ss : List PStmt) (hlen : ss.length = l.length) (hs : ∀ k (h1 : k < l.length) (h2 : k < ss.length), St l[k] k ss[k]) :
    ∀ m k, k + m = l.length → chkA (ents k) (l.take k) (ss.drop k) = (l, 0, 0)
  | 0, k, hk => by
    have hk' : k = l.length := by omega
    rw [hk', List.take_length, ← hlen, List.drop_length]
    rfl
  | m + 1, k, hk => by
    obtain ⟨hl4, hl0, hall⟩ := right_at h
    have h1 : k < l.length := by omega
    have h2 : k < ss.length := by omega
    have hst := hs k h1 h2
    have htl : (l.take k).length = k := by rw [List.length_take]; omega
    have hns := node_st (lookE (ents k)) l[k] (hok _ (List.getElem_mem h1)) k (by omega) (hall k h1) ss[k] hst (fun a a0 a1 => by
      have := look_some a.toNat k (by omega)
      rw [show ((a.toNat : Nat) : Int) = a by omega] at this
      exact this)
    rw [List.drop_eq_getElem_cons h2, chkA_eq, if_neg (by omega), if_neg, hns]
    · rw [if_pos rfl, htl, hst.name, ← ents_succ]
      have := chk_from l hok h ss hlen hs m (k + 1) (by omega)
      rw [List.take_add_one, List.getElem?_eq_getElem h1] at this
      exact this
    · rw [hst.name, look_none k k (Nat.le_refl _), kind_nm]
      simp
theorem chk_all (l : List Nd) (hok : ∀ n ∈ l, n.ok) (h : rightP l = true) (ss : List PStmt) (hlen : ss.length = l.length) (hs : ∀ k (h1 : k < l.length) (h2 : k < ss.length), St l[k] k ss[k]) : checkS ss = (l, 0, 0) := by
  obtain ⟨_, hl0, _⟩ := right_at h
  unfold checkS
  rw [if_neg (by omega)]
  have := chk_from l hok h ss hlen hs l.length 0 (by omega)
  rw [List.take_zero, List.drop_zero] at this
  exact this
end Go.Proofs.YtejmbbkklhpnaaaGreatDoor.bkk

/- The walks of strconv.ParseFloat and of decimal.Parse at any text. Conditions: as each theorem states. -/
namespace Go.Proofs.YtejmbbkklhpnaaaGreatDoor.rdf
open Go.RowKit
open Go.Proofs.YtejmbbkklhpnaaaGreatDoor.bsw
open Go.Proofs.YtejmbbkklhpnaaaGreatDoor.prnw
open Go.Proofs.YtejmbbkklhpnaaaGreatDoor.dcw
open Go.Proofs.YtejmbbkklhpnaaaGreatDoor.dmx
open Go.Proofs.YtejmbbkklhpnaaaGreatDoor.fpm
open Go.Proofs.YtejmbbkklhpnaaaGreatDoor.flatm
open Go.Proofs.YtejmbbkklhpnaaaGreatDoor.nodew
attribute [local go_sem] fo_eq

/-- what decimal.Parse reads, in blocks below B -/
structure DE (B : Nat) (w : World) : Prop extends NE B w where
  eb : 4 < B
  er : ∃ v, w.cell? ⟨4, 0, none⟩ = some v ∧ (v = .nilIface ∨ ∃ te pe, v = .iface te pe)
theorem DE.below {B : Nat} {w w' : World} (h : DE B w) (hb : Below w.heap.size w w') : DE B w' := by
  obtain ⟨v, h1, h2⟩ := h.er
  exact ⟨h.toNE.below hb, h.eb, v, (hb.cell (Nat.lt_of_lt_of_le h.eb h.lt)).trans h1, h2⟩
theorem fo_0 (s : Bool) (X : Nat) (hX : X < infW) : (fo (sgn s X) 0 == some .eq) = decide (X = 0) := by
  have hi := infW_eq
  have hm : sgn s X % 9223372036854775808 = X := by
    unfold sgn
    split <;> omega
  rw [fo_sv (by rw [hm]; omega) (by decide), sv_zero, sv_sgn s X hX]
  by_cases h0 : X = 0
  · rw [decide_eq_true h0, h0, val_low (by decide)]
    cases s <;> rfl
  · have := val_pos (Nat.pos_of_ne_zero h0)
    rw [decide_eq_false h0, Int.compare_eq_ite_lt]
    cases s
    · rw [show (if (false : Bool) = true then -(valR X : Int) else (valR X : Int)) = (valR X : Int) from rfl, if_neg (by omega), if_pos (by omega)]
      rfl
    · rw [show (if (true : Bool) = true then -(valR X : Int) else (valR X : Int)) = -(valR X : Int) from rfl, if_pos (by omega)]
      rfl
section
variable (B : Nat) (s : ByteArray) (neg : Bool) (x : MS) (rest : List UInt8) (ex : Int) (h : RfOk s neg x rest ex) (hnd : x.nd ≤ 30) (w : World)
include h hnd
theorem prefix_any (hN : NE B w) :
    Calls Tryz.prog 182 #[.string s, .int .i64 64] w (AtPost w neg (nx x.N (dpX x + ex - x.nd)) s.size) := by
  have hA := atof_any B s neg x rest ex h hnd w hN
  obtain ⟨F, E, k1, k2, k3⟩ := pk_parts neg (nx x.N (dpX x + ex - x.nd)) s.size
  have hA2 : Calls Tryz.prog 189 #[.string s] w fun e w' => e = .returned (.tuple #[.float .f64 F, .int .i64 (s.size : Nat), E]) ∧ Below w.heap.size w w' := by
    unfold AtPost at hA
    rw [k2] at hA
    exact hA
  have HA := Lib.hid hA2
  have HK := Lib.hid k2
  clear hA hA2 k1 k2 k3 hN h hnd
  go_enter Tryz.func182, Tryz.ntmps182
  go_wp2_with (go_at_call 189; (with_reducible refine HA.out.mono ?_); rintro e w1 ⟨rfl, hw1⟩; have HB1 := Lib.hid hw1; clear hw1)
  go_ret3
  exact ⟨congrArg Ending.returned HK.out.symm, HB1.out⟩
theorem iparse_any (hN : NE B w) :
    Calls Tryz.prog 153 #[.string s, .int .i64 64] w fun e w' => e = .returned (pkV neg (nx x.N (dpX x + ex - x.nd))) ∧ Below w.heap.size w w' := by
  have hA := prefix_any B s neg x rest ex h hnd w hN
  obtain ⟨F, E, k1, k2, k3⟩ := pk_parts neg (nx x.N (dpX x + ex - x.nd)) s.size
  have hA2 : Calls Tryz.prog 182 #[.string s, .int .i64 64] w fun e w' => e = .returned (.tuple #[.float .f64 F, .int .i64 (s.size : Nat), E]) ∧ Below w.heap.size w w' := by
    unfold AtPost at hA
    rw [k2] at hA
    exact hA
  have HA := Lib.hid hA2
  have HK := Lib.hid k1
  clear hA hA2 k1 k2 k3 hN h hnd
  go_enter Tryz.func153, Tryz.ntmps153
  go_wp2_with (go_at_call 182; (with_reducible refine HA.out.mono ?_); rintro e w1 ⟨rfl, hw1⟩; have HB1 := Lib.hid hw1; clear hw1)
  go_ret2
  exact ⟨congrArg Ending.returned HK.out.symm, HB1.out⟩
theorem sparse_any (hN : DE B w) :
    Calls Tryz.prog 114 #[.string s, .int .i64 64] w fun e w' => (∃ E, e = .returned (.tuple #[.float .f64 (sgn neg (min (nx x.N (dpX x + ex - x.nd)) infX)), E]) ∧ if infX ≤ nx x.N (dpX x + ex - x.nd) then ∃ t p, E = .iface t p else E = .nilIface) ∧ Below w.heap.size w w' := by
  have hA := iparse_any B s neg x rest ex h hnd w hN.toNE
  have hsz := h.sz
  obtain ⟨X, hX⟩ : ∃ X, nx x.N (dpX x + ex - x.nd) = X := ⟨_, rfl⟩
  rw [hX] at hA ⊢
  obtain ⟨F, hF⟩ : ∃ F, sgn neg (min X infX) = F := ⟨_, rfl⟩
  unfold pkV at hA
  rw [hF] at hA ⊢
  by_cases hc : infX ≤ X
  · rw [if_pos hc] at hA
    have CT : ∀ W, DE B W → Calls Tryz.prog 73 #[.string ⟨#[80, 97, 114, 115, 101, 70, 108, 111, 97, 116]⟩, .string s, .int .i64 0, .int .i64 64, .iface 160 (.int .i64 1)] W fun e w' => (∃ M : Nat, e = .returned (.iface 163 (.pointer (some ⟨M, 0, none⟩)))) ∧ Below W.heap.size W w' := fun W hW => by
      obtain ⟨v, e1, e2⟩ := hW.er
      refine (Tryz.strconv_toError_range ⟨#[80, 97, 114, 115, 101, 70, 108, 111, 97, 116]⟩ s 0 64 v W (by omega) e1 e2).mono ?_
      rintro e w' ⟨M, h1, -, -, h2⟩
      exact ⟨⟨M, h1⟩, h2⟩
    have HA := Lib.hid hA
    have HN := Lib.hid hN
    have HT := Lib.hid CT
    have HC := Lib.hid hc
    clear hA hN CT hc hX hF h hnd
    go_enter Tryz.func114, Tryz.ntmps114
    go_upto_region 2 with (go_at_call 153; (with_reducible refine HA.out.mono ?_); rintro e w1 ⟨rfl, hw1⟩; have HB1 := Lib.hid hw1; clear hw1)
    have HN1 := Lib.hid (HN.out.below HB1.out)
    go_wp2_with (go_at_call 73; (with_reducible refine (HT.out _ HN1.out).mono ?_); rintro e w2 ⟨⟨M, rfl⟩, hw2⟩; have HB2 := Lib.hid hw2; clear hw2)
    go_ret2
    exact ⟨⟨_, rfl, _, _, rfl⟩, HB1.out.trans (HB2.out.mono HB1.out.size)⟩
  · rw [if_neg hc] at hA
    have HA := Lib.hid hA
    have HC := Lib.hid hc
    clear hA hN hc hX hF h hnd
    go_enter Tryz.func114, Tryz.ntmps114
    go_wp2_with (go_at_call 153; (with_reducible refine HA.out.mono ?_); rintro e w1 ⟨rfl, hw1⟩; have HB1 := Lib.hid hw1; clear hw1)
    go_ret2
    exact ⟨rfl, HB1.out⟩
end
def DqPost (w : World) (r : Nat × Nat) (e : Ending) (w' : World) : Prop := e = .returned (.tuple #[.float .f64 r.1, .int .i64 ((r.2 : Nat) : Int)]) ∧ Below w.heap.size w w'
theorem dparse_any (B : Nat) (s : ByteArray) (w : World) (hN : DE B w) : Calls Tryz.prog 81 #[.string s] w (DqPost w (decR s.data.toList)) := by
  have CR := right_any s w
  cases hr : rightL s.data.toList with
  | false =>
    have hd : decR s.data.toList = (0, 160) := by unfold decR; rw [hr, if_neg (by decide)]
    rw [hd]
    rw [hr] at CR
    have HR := Lib.hid CR
    clear CR hd hr hN
    go_enter Tryz.func81, Tryz.ntmps81
    go_wp2_with (go_at_call 113; (with_reducible refine HR.out.mono ?_); rintro e w1 ⟨rfl, hw1⟩; have HB1 := Lib.hid hw1; clear hw1)
    go_ret2
    exact ⟨rfl, HB1.out⟩
  | true =>
    obtain ⟨hrf, hnd⟩ := right_rf s hr
    have CP := fun W hW => sparse_any B s _ _ _ _ hrf hnd W hW
    obtain ⟨r, hrr⟩ : ∃ r, decR s.data.toList = r := ⟨_, rfl⟩
    have hd : r = if infX ≤ decW s.data.toList then (0, 10) else if decW s.data.toList = 0 then (0, 0) else (sgn (sgL s.data.toList) (decW s.data.toList), 0) := by
      rw [← hrr]
      unfold decR
      rw [hr, if_pos rfl]
    rw [hrr]
    rw [hr] at CR
    have e0 : nx (msL s.data.toList).N (dpX (msL s.data.toList) + exL s.data.toList - (msL s.data.toList).nd) = decW s.data.toList := rfl
    rw [e0] at CP
    obtain ⟨X, hX⟩ : ∃ X, decW s.data.toList = X := ⟨_, rfl⟩
    obtain ⟨neg, hneg⟩ : ∃ neg, sgL s.data.toList = neg := ⟨_, rfl⟩
    rw [hX, hneg] at CP hd
    obtain ⟨F, hF⟩ : ∃ F, sgn neg (min X infX) = F := ⟨_, rfl⟩
    rw [hF] at CP
    have HR := Lib.hid CR
    have HN := Lib.hid hN
    clear hrf hnd hrr hr CR hN e0 hX hneg
    by_cases hc : infX ≤ X
    · rw [if_pos hc] at hd
      subst hd
      simp only [if_pos hc] at CP
      have HP := Lib.hid CP
      clear CP hc hF
      go_enter Tryz.func81, Tryz.ntmps81
      go_upto_region 3 with (go_at_call 113; (with_reducible refine HR.out.mono ?_); rintro e w1 ⟨rfl, hw1⟩; have HB1 := Lib.hid hw1; clear hw1)
      have HN1 := Lib.hid (HN.out.below HB1.out)
      go_wp2_with (go_at_call 114; (with_reducible refine (HP.out _ HN1.out).mono ?_); rintro e w2 ⟨⟨E, rfl, t, p, rfl⟩, hw2⟩; have HB2 := Lib.hid hw2; clear hw2)
      go_ret2
      exact ⟨rfl, HB1.out.trans (HB2.out.mono HB1.out.size)⟩
    · rw [if_neg hc] at hd
      simp only [if_neg hc] at CP
      have hXi : X < infW := by have : infX = infW := rfl; omega
      rw [Nat.min_eq_left (by omega)] at hF
      have hfo := fo_0 neg X hXi
      rw [hF] at hfo
      have HP := Lib.hid CP
      by_cases h0 : X = 0
      · rw [if_pos h0] at hd
        subst hd
        rw [decide_eq_true h0] at hfo
        clear CP hc hF h0 hXi
        go_enter Tryz.func81, Tryz.ntmps81
        go_upto_region 3 with (go_at_call 113; (with_reducible refine HR.out.mono ?_); rintro e w1 ⟨rfl, hw1⟩; have HB1 := Lib.hid hw1; clear hw1)
        have HN1 := Lib.hid (HN.out.below HB1.out)
        go_wp2_with (go_at_call 114; (with_reducible refine (HP.out _ HN1.out).mono ?_); rintro e w2 ⟨⟨E, rfl, rfl⟩, hw2⟩; have HB2 := Lib.hid hw2; clear hw2)
        go_ret2
        exact ⟨rfl, HB1.out.trans (HB2.out.mono HB1.out.size)⟩
      · rw [if_neg h0, hF] at hd
        subst hd
        rw [decide_eq_false h0] at hfo
        clear CP hc hF h0 hXi
        go_enter Tryz.func81, Tryz.ntmps81
        go_upto_region 3 with (go_at_call 113; (with_reducible refine HR.out.mono ?_); rintro e w1 ⟨rfl, hw1⟩; have HB1 := Lib.hid hw1; clear hw1)
        have HN1 := Lib.hid (HN.out.below HB1.out)
        go_wp2_with (go_at_call 114; (with_reducible refine (HP.out _ HN1.out).mono ?_); rintro e w2 ⟨⟨E, rfl, rfl⟩, hw2⟩; have HB2 := Lib.hid hw2; clear hw2)
        go_ret2
        exact ⟨rfl, HB1.out.trans (HB2.out.mono HB1.out.size)⟩
end Go.Proofs.YtejmbbkklhpnaaaGreatDoor.rdf

/- decimal.Parse at any text, as the other texts ask for it. Condition: seven of the library's variables hold what the program's text lays. -/
namespace Go.Proofs.YtejmbbkklhpnaaaGreatDoor.flow
open Go.RowKit
open Go.Proofs.YtejmbbkklhpnaaaGreatDoor.parw
open Go.Proofs.YtejmbbkklhpnaaaGreatDoor.rdf

/-- what the variables hold, in blocks below B -/
def Laid (B : Nat) (w : World) : Prop := DE B w
theorem Laid.stable (B : Nat) : Stable (Laid B) B := by
  intro w w' row h hg hr
  have hk : ∀ (p : Addr) (v : Value), p.block < B → w.cell? p = some v → w'.cell? p = some v := fun p v hp hv =>
    (World.cell?_of_block (hg.block p.block (World.block_lt_of_cell? w _ hv) (fun e => by have := hr _ e.symm; omega))).trans hv
  obtain ⟨v, h1, h2⟩ := h.er
  exact ⟨⟨h.ev.keep hk, h.ft.keep hk, fun i hi => by
    obtain ⟨a1, a2, a3, a4⟩ := h.pt i hi
    exact ⟨a1, a2, hk _ _ h.pb a3, hk _ _ h.pb a4⟩, h.pb, h.ob, hk _ _ h.ob h.op, Nat.le_trans h.lt hg.size⟩, h.eb, v, hk _ _ h.eb h1, h2⟩
/-- what decimal.Parse says -/
def decE (s : ByteArray) : Nat × Nat := decR s.data.toList
theorem dparse_e (B : Nat) (s : ByteArray) (w : World) (h : Laid B w) : Calls Tryz.prog 81 #[.string s] w (DecPost (decE s) w) := dparse_any B s w h
theorem dec_ok (B : Nat) (ts : List PTok) : DecOk decE (Laid B) ts := fun t _ _ w hw => dparse_e B t.text w hw
end Go.Proofs.YtejmbbkklhpnaaaGreatDoor.flow
