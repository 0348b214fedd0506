/- Statements that are a program, in plain words: its nodes are right, a front of the statements gives a front of it, and other names give the same. No conditions but those stated. -/
import Derived.Test.YtgblgolkajdfbaaGreatDoorRngM
import Derived.Test.YtgblgolkajdfbaaGreatDoorFstM
namespace Go.Proofs.YtgblgolkajdfbaaGreatDoor.chkw
open Go.Proofs.YtgblgolkajdfbaaGreatDoor.parw
open Go.Proofs.YtgblgolkajdfbaaGreatDoor.nodew

def plusB : ByteArray := ⟨#[43]⟩
def renA (a : PArg) : PArg := { a with name := a.name ++ plusB }
def renS (s : PStmt) : PStmt := { s with name := s.name ++ plusB, args := s.args.map renA }
def renE (ents : List (ByteArray × Nat)) : List (ByteArray × Nat) := ents.map fun p => (p.1 ++ plusB, p.2)

theorem ba_beq (a b : ByteArray) : (a == b) = true ↔ a = b := by
  obtain ⟨a⟩ := a
  obtain ⟨b⟩ := b
  show (a == b) = true ↔ _
  rw [beq_iff_eq]
  simp
theorem plus_beq (a b : ByteArray) : ((a ++ plusB) == (b ++ plusB)) = (a == b) := by
  rw [Bool.eq_iff_iff, ba_beq, ba_beq, ByteArray.append_left_inj]
theorem lookE_ren (k : ByteArray) : ∀ ents : List (ByteArray × Nat), lookE (renE ents) (k ++ plusB) = lookE ents k
  | [] => rfl
  | p :: r => by
    have ih := lookE_ren k r
    unfold lookE renE at ih ⊢
    rw [List.map_cons, List.find?_cons, List.find?_cons]
    simp only [plus_beq]
    cases k == p.1
    · exact ih
    · rfl
theorem plus_last (s t : ByteArray) (h : s ++ plusB = t) : t.data.toList.getLast? = some 43 := by
  rw [← h, ByteArray.data_append]
  simp [plusB]
theorem kind_plus (s : ByteArray) : kindF (s ++ plusB) = 0 := by
  have h : ∀ t, t.data.toList.getLast? ≠ some 43 → ¬ s ++ plusB = t := fun t ht e => ht (plus_last s t e)
  unfold kindF
  rw [if_neg (h wd1 (by decide)), if_neg (h wd2 (by decide)), if_neg (h wd3 (by decide)), if_neg (h wd4 (by decide)), if_neg (h wd5 (by decide)), if_neg (h wd6 (by decide))]
theorem numsS_ren : ∀ (fl : List (Nat × Nat × Nat)) (l : List PArg) (n : Nd), numsS fl (l.map renA) n = numsS fl l n
  | [], [], _ => rfl
  | [], _ :: _, _ => rfl
  | _ :: _, [], _ => rfl
  | d :: r, a :: q, n => by
    rw [List.map_cons]
    unfold numsS
    rw [numsS_ren r q]
    rfl
theorem namesS_ren (look look' : ByteArray → Option Nat) (h : ∀ k, look' (k ++ plusB) = look k) : ∀ (l : List PArg) (i : Nat) (n : Nd), namesS look' (l.map renA) i n = namesS look l i n
  | [], _, _ => rfl
  | a :: q, i, n => by
    rw [List.map_cons]
    unfold namesS
    rw [show (renA a).name = a.name ++ plusB from rfl, h]
    cases look a.name with
    | none => rfl
    | some p => exact namesS_ren look look' h q _ _
theorem nodeS_ren (ents : List (ByteArray × Nat)) (s : PStmt) : nodeS (lookE (renE ents)) (renS s) = nodeS (lookE ents) s := by
  have hl : (s.args.map renA).length = s.args.length := by simp
  unfold nodeS
  show (if (fieldList s.kind).length = 0 ∨ (s.args.map renA).length ≠ _ then _ else if (numsS (fieldList s.kind) (s.args.map renA) (nodeZ s.kind)).2.2 = 0 then namesS (lookE (renE ents)) ((s.args.map renA).drop _) 0 (numsS (fieldList s.kind) (s.args.map renA) (nodeZ s.kind)).1 else numsS (fieldList s.kind) (s.args.map renA) (nodeZ s.kind)) = _
  rw [hl, numsS_ren, ← List.map_drop, namesS_ren (lookE ents) (lookE (renE ents)) (fun k => lookE_ren k ents)]
  rfl
theorem chkA_eq (ents : List (ByteArray × Nat)) (out : List Nd) (s : PStmt) (r : List PStmt) : chkA ents out (s :: r) =
    if 4096 ≤ out.length then ([], s.pos, 181)
    else if (lookE ents s.name).isSome = true ∨ 0 < kindF s.name then ([], s.pos, 182)
    else if (nodeS (lookE ents) s).2.2 = 0 then chkA (ents ++ [(s.name, out.length)]) (out ++ [(nodeS (lookE ents) s).1]) r
    else ([], (nodeS (lookE ents) s).2.1, (nodeS (lookE ents) s).2.2) := rfl
/-- one statement more -/
theorem chkA_cons (ents : List (ByteArray × Nat)) (out : List Nd) (s : PStmt) (r : List PStmt) (h : (chkA ents out (s :: r)).2.2 = 0) :
    out.length < 4096 ∧ lookE ents s.name = none ∧ kindF s.name = 0 ∧ (nodeS (lookE ents) s).2.2 = 0 ∧ chkA ents out (s :: r) = chkA (ents ++ [(s.name, out.length)]) (out ++ [(nodeS (lookE ents) s).1]) r := by
  rw [chkA_eq] at h ⊢
  by_cases h1 : 4096 ≤ out.length
  · rw [if_pos h1] at h; cases h
  · rw [if_neg h1] at h ⊢
    by_cases h2 : (lookE ents s.name).isSome = true ∨ 0 < kindF s.name
    · rw [if_pos h2] at h; cases h
    · rw [if_neg h2] at h ⊢
      by_cases h3 : (nodeS (lookE ents) s).2.2 = 0
      · rw [if_pos h3]
        have h4 : ¬ (lookE ents s.name).isSome = true := fun e => h2 (.inl e)
        have h5 : ¬ 0 < kindF s.name := fun e => h2 (.inr e)
        exact ⟨by omega, by simpa using h4, by omega, h3, rfl⟩
      · rw [if_neg h3] at h; exact absurd h h3
theorem chkA_ren : ∀ (l : List PStmt) (ents : List (ByteArray × Nat)) (out : List Nd), (chkA ents out l).2.2 = 0 → chkA (renE ents) out (l.map renS) = chkA ents out l
  | [], _, _, _ => rfl
  | s :: r, ents, out, h => by
    obtain ⟨h1, h2, h3, h4, h5⟩ := chkA_cons ents out s r h
    rw [h5] at h ⊢
    rw [← chkA_ren r _ _ h, List.map_cons]
    rw [chkA_eq, if_neg (show ¬ 4096 ≤ out.length by omega), if_neg, nodeS_ren, if_pos h4]
    · unfold renE
      rw [List.map_append]
      rfl
    · rw [show (renS s).name = s.name ++ plusB from rfl, lookE_ren, h2, kind_plus]
      simp
theorem checkS_ren (l : List PStmt) (h : (checkS l).2.2 = 0) : checkS (l.map renS) = checkS l := by
  unfold checkS at h ⊢
  rw [List.length_map]
  by_cases h0 : l.length = 0
  · rw [if_pos h0, if_pos h0]
  · rw [if_neg h0] at h ⊢
    rw [if_neg h0]
    exact chkA_ren l [] [] h
/-- the whole, and a front of it -/
theorem chkA_take : ∀ (l : List PStmt) (ents : List (ByteArray × Nat)) (out : List Nd), (chkA ents out l).2.2 = 0 →
    (chkA ents out l).2.1 = 0 ∧ (chkA ents out l).1.length = out.length + l.length ∧ ∀ k, k ≤ l.length → chkA ents out (l.take k) = ((chkA ents out l).1.take (out.length + k), 0, 0)
  | [], ents, out, h => by
    refine ⟨rfl, rfl, fun k hk => ?_⟩
    obtain rfl : k = 0 := by simpa using hk
    show (out, (0 : Int), 0) = (out.take (out.length + 0), 0, 0)
    rw [Nat.add_zero, List.take_length]
  | s :: r, ents, out, h => by
    obtain ⟨h1, h2, h3, h4, h5⟩ := chkA_cons ents out s r h
    rw [h5] at h ⊢
    obtain ⟨i1, i2, i3⟩ := chkA_take r _ _ h
    refine ⟨i1, by rw [i2, List.length_append]; simp; omega, fun k hk => ?_⟩
    cases k with
    | zero =>
      have hz := i3 0 (Nat.zero_le _)
      have hpre : ((chkA (ents ++ [(s.name, out.length)]) (out ++ [(nodeS (lookE ents) s).1]) r).1.take (out ++ [(nodeS (lookE ents) s).1]).length) = out ++ [(nodeS (lookE ents) s).1] := by
        have := congrArg (·.1) hz
        simpa [chkA] using this.symm
      have h6 := congrArg (List.take out.length) hpre
      rw [List.take_take, List.length_append, Nat.min_eq_left (by omega)] at h6
      rw [Nat.add_zero, h6]
      show (out, (0 : Int), 0) = _
      rw [List.take_left' rfl]
    | succ k =>
      have hk' : k ≤ r.length := by simpa using hk
      rw [List.take_succ_cons]
      have h6 := i3 k hk'
      rw [List.length_append] at h6
      rw [show out.length + (k + 1) = out.length + [(nodeS (lookE ents) s).1].length + k by simp; omega, ← h6]
      rw [chkA_eq, if_neg (show ¬ 4096 ≤ out.length by omega), if_neg (by rw [h2, h3]; simp), if_pos h4]
theorem checkS_front (l : List PStmt) (h : (checkS l).2.2 = 0) : 0 < l.length ∧ (checkS l).2.1 = 0 ∧ (checkS l).1.length = l.length ∧ ∀ k, 0 < k → k ≤ l.length → checkS (l.take k) = ((checkS l).1.take k, 0, 0) := by
  unfold checkS at h ⊢
  by_cases h0 : l.length = 0
  · rw [if_pos h0] at h; cases h
  · rw [if_neg h0] at h ⊢
    obtain ⟨h1, h2, h3⟩ := chkA_take l [] [] h
    refine ⟨by omega, h1, by rw [h2]; simp, fun k hk hkl => ?_⟩
    rw [if_neg (by rw [List.length_take]; omega), h3 k hkl]
    simp
theorem chkA_bad : ∀ (l : List PStmt) (ents : List (ByteArray × Nat)) (out : List Nd), (chkA ents out l).2.2 ≠ 0 → (chkA ents out l).1 = []
  | [], _, _, h => absurd rfl h
  | s :: r, ents, out, h => by
    rw [chkA_eq] at h ⊢
    by_cases h1 : 4096 ≤ out.length
    · rw [if_pos h1]
    · rw [if_neg h1] at h ⊢
      by_cases h2 : (lookE ents s.name).isSome = true ∨ 0 < kindF s.name
      · rw [if_pos h2]
      · rw [if_neg h2] at h ⊢
        by_cases h3 : (nodeS (lookE ents) s).2.2 = 0
        · rw [if_pos h3] at h ⊢
          exact chkA_bad r _ _ h
        · rw [if_neg h3]
theorem checkS_bad (l : List PStmt) (h : (checkS l).2.2 ≠ 0) : (checkS l).1 = [] := by
  unfold checkS at h ⊢
  by_cases h0 : l.length = 0
  · rw [if_pos h0]
  · rw [if_neg h0] at h ⊢
    exact chkA_bad l [] [] h
theorem checkS_nil (l : List PStmt) (h : l.length = 0) : checkS l = ([], 0, 180) := by
  unfold checkS
  rw [if_pos h]

/-! the nodes are right -/
theorem numsS_ok : ∀ (fl : List (Nat × Nat × Nat)) (l : List PArg) (n : Nd), n.x.length = 16 → (∀ v ∈ n.x, v < 18446744073709551616) → (∀ a ∈ l, a.num < 18446744073709551616) → (∀ d ∈ fl, 1 ≤ d.1 ∧ d.1 ≤ 16) → (fl.map (·.1)).Nodup → fl.length ≤ l.length → (numsS fl l n).2.2 = 0 →
    ((numsS fl l n).1.kind = n.kind ∧ (numsS fl l n).1.a = n.a ∧ (numsS fl l n).1.b = n.b) ∧ (numsS fl l n).1.ok ∧ (∀ d ∈ fl, withinF d.2.1 d.2.2 ((numsS fl l n).1.f d.1) = true) ∧ ∀ j, 1 ≤ j → j ∉ fl.map (·.1) → (numsS fl l n).1.f j = n.f j
  | [], l, n, hl, hv, ha, ho, hn, hx, h => by
    have e : numsS [] l n = (n, 0, 0) := by cases l <;> rfl
    rw [e]
    exact ⟨⟨rfl, rfl, rfl⟩, ⟨hl, hv⟩, (fun d hd => by cases hd), fun j _ _ => rfl⟩
  | d :: r, [], n, hl, hv, ha, ho, hn, hx, h => by simp at hx
  | d :: r, a :: q, n, hl, hv, ha, ho, hn, hx, h => by
    have ee : numsS (d :: r) (a :: q) n = if withinF d.2.1 d.2.2 a.num then numsS r q (Nd.put n d.1 a.num) else (Nd.put n d.1 a.num, a.pos, 184) := rfl
    rw [ee] at h ⊢
    by_cases hw : withinF d.2.1 d.2.2 a.num = true
    · rw [if_pos hw] at h ⊢
      have hd := ho d (.head _)
      rw [List.map_cons, List.nodup_cons] at hn
      have hok := put_ok' n hl hv d.1 a.num (ha a (.head _))
      obtain ⟨i1, i2, i3, i4⟩ := numsS_ok r q (Nd.put n d.1 a.num) hok.1 hok.2 (fun b hb => ha b (.tail _ hb)) (fun e he => ho e (.tail _ he)) hn.2 (by simpa using hx) h
      have hf := fun j j1 => f_put n hl d.1 a.num j hd.1 hd.2 j1
      refine ⟨i1, i2, fun e he => ?_, fun j j1 hj => ?_⟩
      · rcases List.mem_cons.1 he with he | he
        · rw [he, i4 d.1 hd.1 hn.1, hf d.1 hd.1, if_pos rfl]; exact hw
        · exact i3 e he
      · rw [List.map_cons, List.mem_cons, not_or] at hj
        rw [i4 j j1 hj.2, hf j j1, if_neg hj.1]
    · rw [if_neg hw] at h; cases h
where
  put_ok' (n : Nd) (hl : n.x.length = 16) (hv : ∀ v ∈ n.x, v < 18446744073709551616) (o x : Nat) (hx : x < 18446744073709551616) : (Nd.put n o x).ok :=
    ⟨(Nd.put_len n o x).trans hl, fun v hv' => by
      rcases List.mem_or_eq_of_mem_set hv' with h | h
      · exact hv v h
      · rw [h]; exact hx⟩
theorem offs_nodup (k : Nat) : ((fieldList k).map (·.1)).Nodup := by
  unfold fieldList
  repeat' split
  all_goals decide
theorem below_two (k : Nat) : belowN k ≤ 2 := by
  unfold belowN
  repeat' split
  all_goals omega
/-- a node that a statement gives is right at its place -/
theorem nodeS_ok (look : ByteArray → Option Nat) (at_ : Nat) (hlk : ∀ k p, look k = some p → p < at_) (s : PStmt) (hnum : ∀ a ∈ s.args, a.num < 18446744073709551616) (h : (nodeS look s).2.2 = 0) :
    (nodeS look s).1.ok ∧ nodeOk (nodeS look s).1 at_ = true ∧ s.args.length ≤ 9 := by
  unfold nodeS at h ⊢
  by_cases h1 : (fieldList s.kind).length = 0 ∨ s.args.length ≠ (fieldList s.kind).length + belowN s.kind
  · rw [if_pos h1] at h; cases h
  · rw [if_neg h1] at h ⊢
    rw [not_or, Decidable.not_not] at h1
    obtain ⟨hf0, hal⟩ := h1
    have hb2 := below_two s.kind
    have h9 : s.args.length ≤ 9 := by
      have : (fieldList s.kind).length ≤ 7 := by
        unfold fieldList; repeat' split
        all_goals simp
      omega
    by_cases h2 : (numsS (fieldList s.kind) s.args (nodeZ s.kind)).2.2 = 0
    · rw [if_pos h2] at h ⊢
      have hz : ∀ j, (nodeZ s.kind).f j = 0 := fun j => by
        unfold nodeZ Nd.f
        simp only [List.getD_eq_getElem?_getD, List.getElem?_replicate]
        split <;> rfl
      obtain ⟨⟨i1, i2, i3⟩, i4, i5, i6⟩ := numsS_ok (fieldList s.kind) s.args (nodeZ s.kind) (by simp [nodeZ]) (fun v hv => by have := List.eq_of_mem_replicate hv; omega) hnum (fieldList_range s.kind) (offs_nodup _) (by omega) h2
      obtain ⟨m, hm⟩ : ∃ m, (numsS (fieldList s.kind) s.args (nodeZ s.kind)).1 = m := ⟨_, rfl⟩
      rw [hm] at h i1 i2 i3 i4 i5 i6 ⊢
      have key : ∀ a b : Int, placeOk (decide (0 < belowN s.kind)) a at_ = true → placeOk (decide (1 < belowN s.kind)) b at_ = true → nodeOk { m with a := a, b := b } at_ = true := fun a b ha hb => by
        have hk : ({ m with a := a, b := b } : Nd).kind = s.kind := i1
        rw [nodeOk_iff _ (by exact i4.1), hk]
        refine ⟨fun d hd => i5 d hd, ha, hb, by omega, fun j j1 j2 hj => ?_⟩
        have := i6 j j1 (by unfold offs at hj; exact hj)
        rw [hz] at this
        exact this
      have hok : ∀ a b : Int, ({ m with a := a, b := b } : Nd).ok := fun a b => i4
      have hpl : ∀ p : Nat, p < at_ → placeOk true (p : Int) at_ = true := fun p hp => by unfold placeOk; simp; omega
      obtain ⟨bs, hbs⟩ : ∃ bs, s.args.drop (fieldList s.kind).length = bs := ⟨_, rfl⟩
      have hbl : bs.length = belowN s.kind := by rw [← hbs, List.length_drop]; omega
      rw [hbs] at h ⊢
      have em : ({ m with a := 0, b := 0 } : Nd) = m := by
        obtain ⟨mk, mx, ma, mb⟩ := m
        have i2 : ma = 0 := i2
        have i3 : mb = 0 := i3
        subst i2 i3
        rfl
      match bs, hbl with
      | [], hbl =>
        have e0 : belowN s.kind = 0 := hbl.symm
        have k0 := key 0 0 (by rw [e0]; rfl) (by rw [e0]; rfl)
        rw [em] at k0
        exact ⟨i4, k0, h9⟩
      | [x], hbl =>
        have e1 : belowN s.kind = 1 := hbl.symm
        unfold namesS at h ⊢
        cases hx : look x.name with
        | none => rw [hx] at h; cases h
        | some p =>
          have k1 := key p 0 (by rw [e1]; exact hpl p (hlk _ _ hx)) (by rw [e1]; rfl)
          have em' : ({ m with a := (p : Int), b := 0 } : Nd) = { m with a := (p : Int) } := by
            obtain ⟨mk, mx, ma, mb⟩ := m
            have i3 : mb = 0 := i3
            subst i3
            rfl
          rw [em'] at k1
          exact ⟨hok _ _, k1, h9⟩
      | [x, y], hbl =>
        have e2 : belowN s.kind = 2 := hbl.symm
        unfold namesS at h ⊢
        cases hx : look x.name with
        | none => rw [hx] at h; cases h
        | some p =>
          rw [hx] at h
          simp only [if_true] at h ⊢
          unfold namesS at h ⊢
          cases hy : look y.name with
          | none => rw [hy] at h; cases h
          | some q =>
            have k2 := key p q (by rw [e2]; exact hpl p (hlk _ _ hx)) (by rw [e2]; exact hpl q (hlk _ _ hy))
            exact ⟨hok _ _, k2, h9⟩
      | x :: y :: z :: r, hbl => simp at hbl; omega
    · rw [if_neg h2] at h; exact absurd h h2
theorem lookE_lt (ents : List (ByteArray × Nat)) (m : Nat) (h : ∀ p ∈ ents, p.2 < m) (k : ByteArray) (p : Nat) (hp : lookE ents k = some p) : p < m := by
  unfold lookE at hp
  rw [Option.map_eq_some_iff] at hp
  obtain ⟨q, hq, rfl⟩ := hp
  exact h q (List.mem_of_find?_eq_some hq)
theorem chkA_ok : ∀ (l : List PStmt) (ents : List (ByteArray × Nat)) (out : List Nd), (∀ s ∈ l, ∀ a ∈ s.args, a.num < 18446744073709551616) → (∀ p ∈ ents, p.2 < out.length) → out.length ≤ 4096 → (∀ x ∈ out, x.ok) → (∀ k (hk : k < out.length), nodeOk out[k] k = true) → (chkA ents out l).2.2 = 0 →
    (∀ x ∈ (chkA ents out l).1, x.ok) ∧ (∀ k (hk : k < (chkA ents out l).1.length), nodeOk (chkA ents out l).1[k] k = true) ∧ (chkA ents out l).1.length ≤ 4096 ∧ ∀ s ∈ l, s.args.length ≤ 9
  | [], ents, out, _, _, h96, hx, hk, _ => ⟨hx, hk, h96, fun s hs => by cases hs⟩
  | s :: r, ents, out, ha, hp, h96, hx, hk, h => by
    obtain ⟨h1, h2, h3, h4, h5⟩ := chkA_cons ents out s r h
    rw [h5] at h ⊢
    obtain ⟨j1, j2, j3⟩ := nodeS_ok (lookE ents) out.length (lookE_lt ents out.length hp) s (ha s (.head _)) h4
    obtain ⟨i1, i2, i3, i4⟩ := chkA_ok r (ents ++ [(s.name, out.length)]) (out ++ [(nodeS (lookE ents) s).1]) (fun t ht => ha t (.tail _ ht)) (fun p hq => by
      rw [List.length_append]
      rcases List.mem_append.1 hq with hq | hq
      · have := hp p hq; simp; omega
      · have : p = (s.name, out.length) := by simpa using hq
        rw [this]; simp) (by rw [List.length_append]; simp; omega) (fun x hq => by
      rcases List.mem_append.1 hq with hq | hq
      · exact hx x hq
      · have : x = (nodeS (lookE ents) s).1 := by simpa using hq
        rw [this]; exact j1) (fun k hk' => by
      rw [List.length_append] at hk'
      by_cases hkl : k < out.length
      · rw [List.getElem_append_left hkl]; exact hk k hkl
      · obtain rfl : k = out.length := by simp at hk'; omega
        simpa using j2) h
    exact ⟨i1, i2, i3, fun t ht => by
      rcases List.mem_cons.1 ht with rfl | ht
      · exact j3
      · exact i4 t ht⟩
theorem checkS_right (l : List PStmt) (ha : ∀ s ∈ l, ∀ a ∈ s.args, a.num < 18446744073709551616) (h : (checkS l).2.2 = 0) :
    (∀ x ∈ (checkS l).1, x.ok) ∧ rightP (checkS l).1 = true ∧ ∀ s ∈ l, s.args.length ≤ 9 := by
  obtain ⟨h0, _, hl, _⟩ := checkS_front l h
  have e : checkS l = chkA [] [] l := by unfold checkS; rw [if_neg (by omega)]
  rw [e] at h hl ⊢
  obtain ⟨i1, i2, i3, i4⟩ := chkA_ok l [] [] ha (fun p hp => by cases hp) (by simp) (fun x hx => by cases hx) (fun k hk => by simp at hk) h
  exact ⟨i1, (rightP_iff _).2 ⟨i2, by omega, i3⟩, i4⟩
end Go.Proofs.YtgblgolkajdfbaaGreatDoor.chkw
