/- A program's text, read: lexed, parsed and checked, it is the program. What any text that is read says: a program, or an error and its place. Plain; no condition but those stated. -/
import Derived.Test.YtejmbbkklhpnaaaGreatDoorMp42
import Derived.Test.YtejmbbkklhpnaaaGreatDoorMp43
import Derived.Test.YtejmbbkklhpnaaaGreatDoorMp08
import Derived.Test.YtejmbbkklhpnaaaGreatDoorMp14
import Derived.Test.YtejmbbkklhpnaaaGreatDoorMp24
namespace Go.Proofs.YtejmbbkklhpnaaaGreatDoor.bkr
open Go.RowKit
open Go.Proofs.YtejmbbkklhpnaaaGreatDoor.lexm (Tok toksC lexRes lexT errOf toksOf lexT_len toksC_app flat_app firstL firstL_le firstL_pos lexT_nil lexT_bad lexT_skip lexT_tok)
open Go.Proofs.YtejmbbkklhpnaaaGreatDoor.parw (PTok PArg PStmt RSt kindF formL parseRes parseL stmtS argsS argS numS wordS nextS)
open Go.Proofs.YtejmbbkklhpnaaaGreatDoor.nodew
open Go.Proofs.YtejmbbkklhpnaaaGreatDoor.chkw (checkS checkS_front checkS_bad checkS_right)
open Go.Proofs.YtejmbbkklhpnaaaGreatDoor.prnw (hiP loP prT prOk nmB bA bA_list numsK subsN textT textP right_at node_facts atN atN_eq)
open Go.Proofs.YtejmbbkklhpnaaaGreatDoor.bkm
open Go.Proofs.YtejmbbkklhpnaaaGreatDoor.bkp
open Go.Proofs.YtejmbbkklhpnaaaGreatDoor.bkk
open Go.Proofs.YtejmbbkklhpnaaaGreatDoor.flow (decE)

def pt (t : Tok) : PTok := ⟨t.kind, (t.pos : Int), ⟨t.text.toArray⟩⟩
def key (t : Tok) : Nat × List UInt8 := (t.kind, t.text)
theorem toks_spread : ∀ (ps : List (Nat × List UInt8)) (i : Nat), (∀ p ∈ ps, p.1 ≠ 0) → ∃ (qs : List Tok) (j : Nat), toksC (spread ps) i = qs ++ [⟨4, j, [10]⟩] ∧ qs.map key = ps
  | [], i, _ => ⟨[], i, rfl, rfl⟩
  | p :: r, i, h => by
    obtain ⟨qs, j, h1, h2⟩ := toks_spread r (i + 1 + p.2.length) (fun q hq => h q (by simp [hq]))
    refine ⟨⟨p.1, i + 1, p.2⟩ :: qs, j, ?_, by rw [List.map_cons, h2]; rfl⟩
    show (if p.1 = 0 then _ else _) = _
    rw [if_neg (h p (by simp)), List.cons_append, ← h1]
    rfl
theorem kind_word : ∀ k, 1 ≤ k → k ≤ 6 → kindF (prnw.wordF k) = k := by
  intro k h1 h2
  have : k = 1 ∨ k = 2 ∨ k = 3 ∨ k = 4 ∨ k = 5 ∨ k = 6 := by omega
  rcases this with rfl | rfl | rfl | rfl | rfl | rfl <;> decide +kernel
theorem form_kind (n : Nd) (h : 1 ≤ n.kind ∧ n.kind ≤ 6) : formL n.kind = (numsK n.kind).map (fun _ => true) ++ (subsN n).map (fun _ => false) := by
  have : n.kind = 1 ∨ n.kind = 2 ∨ n.kind = 3 ∨ n.kind = 4 ∨ n.kind = 5 ∨ n.kind = 6 := by omega
  unfold subsN
  rcases this with e | e | e | e | e | e <;> rw [e] <;> rfl
theorem dec_pt (t : Tok) : decE (pt t).text = rdf.decR t.text := by
  unfold decE pt
  simp only
theorem fit_names : ∀ (us : List Int) (ts : List Tok), ts.map key = us.map (fun a => (1, 110 :: Lib.itoa a)) → fitB decE (us.map fun _ => false) (ts.map pt) ∧ (argsOf decE (us.map fun _ => false) (ts.map pt)).map (·.name) = us.map nmB
  | [], [], _ => ⟨trivial, rfl⟩
  | [], _ :: _, h => by simp at h
  | _ :: _, [], h => by simp at h
  | a :: us, t :: ts, h => by
    simp only [List.map_cons, List.cons.injEq] at h
    obtain ⟨h1, h2⟩ := fit_names us ts h.2
    have hk := congrArg Prod.fst h.1
    have ht := congrArg Prod.snd h.1
    refine ⟨⟨hk, (fun e => by cases e), h1⟩, ?_⟩
    show (⟨t.text.toArray⟩ : ByteArray) :: _ = _
    rw [h2, show t.text = 110 :: Lib.itoa a from ht]
    rfl
theorem fit_rest : ∀ (xs : List Nat) (us : List Int) (ts : List Tok), ts.map key = xs.map (fun x => (2, prT hiP loP x)) ++ us.map (fun a => (1, 110 :: Lib.itoa a)) → (∀ x ∈ xs, prOk x = true ∧ x < 18446744073709551616) →
    fitB decE (xs.map (fun _ => true) ++ us.map fun _ => false) (ts.map pt) ∧ ∃ bs ws, argsOf decE (xs.map (fun _ => true) ++ us.map fun _ => false) (ts.map pt) = bs ++ ws ∧ bs.map (·.num) = xs ∧ ws.map (·.name) = us.map nmB
  | [], us, ts, h, _ => by
    obtain ⟨h1, h2⟩ := fit_names us ts h
    exact ⟨h1, [], _, rfl, rfl, h2⟩
  | x :: xs, us, [], h, _ => by simp at h
  | x :: xs, us, t :: ts, h, ho => by
    simp only [List.map_cons, List.cons_append, List.cons.injEq] at h
    obtain ⟨h1, bs, ws, h2, h3, h4⟩ := fit_rest xs us ts h.2 (fun y hy => ho y (by simp [hy]))
    have hk := congrArg Prod.fst h.1
    have ht := congrArg Prod.snd h.1
    have hx := ho x (by simp)
    have hd : decE (pt t).text = (x, 0) := by
      rw [dec_pt, show t.text = prT hiP loP x from ht]
      exact rdf.read_prT x hx.2 hx.1
    refine ⟨⟨hk, fun _ => by rw [hd], h1⟩, ⟨(pt t).pos, x, ⟨#[]⟩⟩ :: bs, ws, ?_, by rw [List.map_cons, h3], h4⟩
    show (⟨(pt t).pos, (decE (pt t).text).1, ⟨#[]⟩⟩ : PArg) :: _ = _
    rw [hd, List.cons_append, ← h2]
    rfl
/-- the tokens of a line are a statement's, which says the node -/
theorem line_grp (n : Nd) (hn : n.ok) (k : Nat) (hk : k < 4096) (h : nodeOk n k = true) (i : Nat) : ∃ g : Grp, (toksC (lineC n k) i).map pt = g.toks ∧ g.Ok decE ∧ St n k (g.st decE) := by
  obtain ⟨hkd, -, -⟩ := node_facts h (by omega)
  have hk6 : 1 ≤ n.kind ∧ n.kind ≤ 6 := by omega
  have hpc := piecesL_ok n hn k hk h
  obtain ⟨qs, j, h1, h2⟩ := toks_spread (piecesL n) (i + (110 :: Lib.itoa (k : Int)).length) (fun p hp => (hpc p hp).kd.1)
  have e0 : toksC (lineC n k) i = ⟨1, i, 110 :: Lib.itoa (k : Int)⟩ :: (qs ++ [⟨4, j, [10]⟩]) := by
    rw [← h1]
    rfl
  unfold piecesL at h2
  match qs, h2 with
  | b :: c :: ts, h2 =>
    simp only [List.map_cons, List.cons.injEq] at h2
    obtain ⟨hb, hc, hts⟩ := h2
    have hts' : ts.map key = ((numsK n.kind).map n.f).map (fun x => (2, prT hiP loP x)) ++ (subsN n).map (fun a => (1, 110 :: Lib.itoa a)) := by
      rw [hts, List.map_map]
      rfl
    obtain ⟨f1, bs, ws, f2, f3, f4⟩ := fit_rest ((numsK n.kind).map n.f) (subsN n) ts hts' (fun x hx => by
      obtain ⟨q, hq, rfl⟩ := List.mem_map.1 hx
      rw [(fpm.nums_offs n.kind).resolve_right (fun e => e hk6)] at hq
      have := fpm.told_pr n hn k h q hq
      exact ⟨this.1, by omega⟩)
    have hcw : (pt c).text = prnw.wordF n.kind := by
      show (⟨c.text.toArray⟩ : ByteArray) = _
      rw [show c.text = (prnw.wordF n.kind).data.toList from congrArg Prod.snd hc]
    have hkc : kindF (pt c).text = n.kind := by rw [hcw]; exact kind_word _ hk6.1 hk6.2
    have hfm : formL n.kind = ((numsK n.kind).map n.f).map (fun _ => true) ++ (subsN n).map (fun _ => false) := by
      rw [form_kind n hk6, List.map_map]
      rfl
    refine ⟨⟨[], pt ⟨1, i, 110 :: Lib.itoa (k : Int)⟩, pt b, pt c, ts.map pt, pt ⟨4, j, [10]⟩⟩, ?_, ⟨(fun t ht => by cases ht), rfl, congrArg Prod.fst hb, congrArg Prod.fst hc, by rw [hkc]; omega, by rw [hkc, hfm]; exact f1, rfl⟩, ⟨rfl, hkc, ?_⟩⟩
    · rw [e0]
      simp [Grp.toks]
    · refine ⟨bs, ws, ?_, f3, f4⟩
      show argsOf decE (formL (kindF (pt c).text)) (ts.map pt) = _
      rw [hkc, hfm]
      exact f2
theorem text_grps (l : List Nd) (hok : ∀ n ∈ l, n.ok) (h : rightP l = true) : ∀ k, k ≤ l.length → ∃ gs : List Grp, gs.length = k ∧ (toksC (textC l k) 0).map pt = gs.flatMap Grp.toks ∧ (∀ g ∈ gs, g.Ok decE) ∧ ∀ i (h1 : i < gs.length), St (atN l i) i (gs[i].st decE)
  | 0, _ => ⟨[], rfl, rfl, (fun g hg => by cases hg), (fun i h1 => by simp at h1)⟩
  | k + 1, hk => by
    obtain ⟨gs, a1, a2, a3, a4⟩ := text_grps l hok h k (by omega)
    obtain ⟨hl4, hl0, hall⟩ := right_at h
    have hat : atN l k = l[k]'(by omega) := atN_eq l k (by omega)
    have hno : nodeOk (atN l k) k = true := by rw [hat]; exact hall k (by omega)
    have hnk : (atN l k).ok := by rw [hat]; exact hok _ (List.getElem_mem _)
    obtain ⟨g, b1, b2, b3⟩ := line_grp (atN l k) hnk k (by omega) hno (0 + (lexm.flat (textC l k)).length)
    refine ⟨gs ++ [g], by rw [List.length_append, a1]; rfl, ?_, fun x hx => ?_, fun i h1 => ?_⟩
    · show (toksC (textC l k ++ lineC (atN l k) k) 0).map pt = _
      rw [toksC_app, List.map_append, a2, b1, List.flatMap_append]
      simp
    · rcases List.mem_append.1 hx with hx | hx
      · exact a3 x hx
      · rw [List.mem_singleton.1 hx]; exact b2
    · rw [List.length_append, List.length_singleton] at h1
      by_cases hi : i < gs.length
      · rw [List.getElem_append_left hi]
        exact a4 i hi
      · obtain rfl : i = k := by omega
        rw [List.getElem_append_right (by omega)]
        simpa [a1] using b3
/-- what flat.Read says of a text -/
def readL (t : List UInt8) : List Nd × Int × Nat :=
  if (lexRes t).2.2 = 0 then
    (if (parseRes decE ((lexRes t).1.map pt)).2.2 = 0 then checkS (parseRes decE ((lexRes t).1.map pt)).1 else ([], (parseRes decE ((lexRes t).1.map pt)).2.1, (parseRes decE ((lexRes t).1.map pt)).2.2))
  else ([], (lexRes t).2.1, (lexRes t).2.2)
/-- a program's text is read as the program -/
theorem read_text (l : List Nd) (hok : ∀ n ∈ l, n.ok) (h : rightP l = true) (hs : l.length ≤ 2000) :
    ∃ T ss, lexRes (textT hiP loP l) = (T, 0, 0) ∧ parseRes decE (T.map pt) = (ss, 0, 0) ∧ checkS ss = (l, 0, 0) := by
  obtain ⟨gs, a1, a2, a3, a4⟩ := text_grps l hok h l.length (Nat.le_refl _)
  refine ⟨_, _, lex_text l hok h hs, by rw [a2]; exact parse_gs gs a3, ?_⟩
  refine chk_all l hok h _ (by rw [List.length_map, a1]) fun k h1 h2 => ?_
  rw [List.getElem_map]
  have := a4 k (by omega)
  rw [atN_eq l k h1] at this
  exact this
theorem readL_text (l : List Nd) (hok : ∀ n ∈ l, n.ok) (h : rightP l = true) (hs : l.length ≤ 2000) : readL (textT hiP loP l) = (l, 0, 0) := by
  obtain ⟨T, ss, h1, h2, h3⟩ := read_text l hok h hs
  unfold readL
  rw [h1, if_pos rfl, h2, if_pos rfl, h3]
end Go.Proofs.YtejmbbkklhpnaaaGreatDoor.bkr

/- What any text says that is read: how many tokens, which errors, which places. Plain; no condition but those stated. -/
namespace Go.Proofs.YtejmbbkklhpnaaaGreatDoor.bkr
open Go.RowKit
open Go.Proofs.YtejmbbkklhpnaaaGreatDoor.lexm (Tok toksC lexRes lexT errOf toksOf lexT_len firstL firstL_le firstL_pos lexT_nil lexT_bad lexT_skip lexT_tok)
open Go.Proofs.YtejmbbkklhpnaaaGreatDoor.parw (PTok PArg PStmt RSt kindF kindF_le formL parseRes parseL parseL_end endOf stmtS argsS argS numS wordS nextS nextS_er nextS_nil nextS_yes nextS_no)
open Go.Proofs.YtejmbbkklhpnaaaGreatDoor.nodew
open Go.Proofs.YtejmbbkklhpnaaaGreatDoor.chkw (checkS checkS_front checkS_bad checkS_right chkA chkA_eq nodeS numsS namesS)
open Go.Proofs.YtejmbbkklhpnaaaGreatDoor.flow (decE)

theorem lexT_bd (n : Nat) : ∀ (l : List UInt8) (i kl : Nat), l.length ≤ n → ∀ x ∈ lexT l i kl, x.1.pos + x.1.text.length ≤ i + l.length := by
  induction n with
  | zero =>
    intro l i kl hn x hx
    obtain rfl : l = [] := List.eq_nil_of_length_eq_zero (by omega)
    rw [lexT_nil] at hx
    split at hx
    · cases hx
    · rw [List.mem_singleton.1 hx]
      exact Nat.le_refl _
  | succ n ih =>
    intro l i kl hn x hx
    by_cases hl : l = []
    · subst hl
      rw [lexT_nil] at hx
      split at hx
      · cases hx
      · rw [List.mem_singleton.1 hx]
        exact Nat.le_refl _
    · obtain ⟨⟨k, m, b⟩, hq⟩ : ∃ q, firstL l = q := ⟨_, rfl⟩
      have hle := firstL_le l
      have hpos := firstL_pos hl
      rw [hq] at hle hpos
      simp only at hle hpos
      have htl : (l.take m).length ≤ m := by rw [List.length_take]; omega
      cases b with
      | false =>
        rw [lexT_bad hl hq] at hx
        rw [List.mem_singleton.1 hx]
        show i + (l.take m).length ≤ _
        omega
      | true =>
        have hm := hpos (.inl rfl)
        have hd : (l.drop m).length = l.length - m := List.length_drop
        by_cases hk : k = 0
        · subst hk
          rw [lexT_skip hl hq] at hx
          have := ih (l.drop m) (i + m) kl (by omega) x hx
          omega
        · rw [lexT_tok hl hq hk] at hx
          rcases List.mem_cons.1 hx with rfl | hx
          · show i + (l.take m).length ≤ _
            omega
          · have := ih (l.drop m) (i + m) k (by omega) x hx
            omega
theorem mem_toks {t : Tok} : ∀ {xs : List (Tok × Bool)}, t ∈ toksOf xs → (t, true) ∈ xs
  | [], h => by cases h
  | (u, true) :: r, h => by
    rcases List.mem_cons.1 h with rfl | h
    · simp
    · simp [mem_toks h]
  | (u, false) :: r, h => by cases h
theorem mem_err {p : Nat} : ∀ {xs : List (Tok × Bool)}, errOf xs = some p → ∃ x ∈ xs, x.1.pos = p
  | [], h => by cases h
  | (u, true) :: r, h => by
    obtain ⟨x, hx, hp⟩ := mem_err (xs := r) h
    exact ⟨x, by simp [hx], hp⟩
  | (u, false) :: r, h => ⟨(u, false), by simp, by injection h⟩
/-- what lexing tells -/
theorem lex_facts (l : List UInt8) : (lexRes l).2.1 ≤ max l.length 1048576 ∧ (l.length ≤ 1048576 → (lexRes l).2.1 ≤ l.length) ∧ (1048576 < l.length → (lexRes l).2.2 ≠ 0) ∧ (lexRes l).2.2 ≤ 151 ∧ (lexRes l).1.length ≤ l.length + 1 ∧ (lexRes l).1.length ≤ 1048577 ∧ ((lexRes l).2.2 ≠ 0 → (lexRes l).1 = []) ∧ ∀ t ∈ (lexRes l).1, t.pos + t.text.length ≤ l.length := by
  unfold lexRes
  by_cases h : 1048576 < l.length
  · rw [if_pos h]
    exact ⟨by simp only; omega, fun h' => absurd h' (by omega), fun _ => by decide, by decide, Nat.zero_le _, Nat.zero_le _, fun _ => rfl, fun t ht => by cases ht⟩
  · rw [if_neg h]
    have hb := lexT_bd l.length l 0 4 (Nat.le_refl _)
    cases he : errOf (lexT l 0 4) with
    | some p =>
      obtain ⟨x, hx, hp⟩ := mem_err he
      have := hb x hx
      exact ⟨by simp only; omega, fun _ => by simp only; omega, fun h' => absurd h' h, Nat.le_of_ble_eq_true rfl, Nat.zero_le _, Nat.zero_le _, fun _ => rfl, fun t ht => by cases ht⟩
    | none =>
      have hlen : (toksOf (lexT l 0 4)).length ≤ l.length + 1 := by
        have h1 := lexT_len l 0 4
        have h2 : ∀ xs : List (Tok × Bool), (toksOf xs).length ≤ xs.length := by
          intro xs
          induction xs with
          | nil => exact Nat.le_refl _
          | cons x r ih =>
            obtain ⟨u, b⟩ := x
            cases b with
            | true => exact Nat.succ_le_succ ih
            | false => exact Nat.zero_le _
        exact Nat.le_trans (h2 _) h1
      refine ⟨by simp only; omega, fun _ => by simp only; omega, fun h' => absurd h' h, Nat.le_of_ble_eq_true rfl, hlen, by simp only; omega, fun h' => absurd rfl h', fun t ht => ?_⟩
      have := hb _ (mem_toks ht)
      simpa using this
/-! parsing -/
/-- what holds of a reader -/
structure Inv (M : Int) (s : RSt) : Prop where
  er : s.er ≤ 171
  pl : 0 ≤ s.pl ∧ s.pl ≤ M
  ts : ∀ t ∈ s.ts, 0 ≤ t.pos ∧ t.pos ≤ M
structure ArgG (M : Int) (a : PArg) : Prop where
  num : a.num < 18446744073709551616
  pos : 0 ≤ a.pos ∧ a.pos ≤ M
structure StG (M : Int) (s : PStmt) : Prop where
  kind : s.kind ≤ 6
  pos : 0 ≤ s.pos ∧ s.pos ≤ M
  args : ∀ a ∈ s.args, ArgG M a
theorem dec_facts (s : ByteArray) : (decE s).1 < 18446744073709551616 ∧ (decE s).2 ≤ 160 := by
  unfold decE rdf.decR
  have hi : dmx.infX = 9218868437227405312 := rfl
  split
  · split
    · exact ⟨by decide, by decide⟩
    · split
      · exact ⟨by decide, by decide⟩
      · refine ⟨?_, by simp only; omega⟩
        unfold dcw.sgn
        simp only
        split <;> omega
  · exact ⟨by decide, by decide⟩
variable {M en : Int}
theorem next_inv {s : RSt} (h : Inv M s) (hen : 0 ≤ en ∧ en ≤ M) (k : Nat) : Inv M (nextS en s k).2 ∧ 0 ≤ (nextS en s k).1.pos ∧ (nextS en s k).1.pos ≤ M := by
  have hM : 0 ≤ M := by omega
  by_cases h0 : s.er = 0
  · cases hts : s.ts with
    | nil =>
      rw [nextS_nil h0 hts]
      exact ⟨⟨Nat.le_of_ble_eq_true rfl, hen, h.ts⟩, Int.le_refl _, hM⟩
    | cons t r =>
      have ht := h.ts t (by rw [hts]; simp)
      by_cases hk : t.kind = k
      · rw [nextS_yes h0 hts hk]
        exact ⟨⟨h.er, h.pl, fun u hu => h.ts u (by rw [hts]; simp [show u ∈ r from hu])⟩, ht⟩
      · rw [nextS_no h0 hts hk]
        exact ⟨⟨Nat.le_of_ble_eq_true rfl, ht, h.ts⟩, Int.le_refl _, hM⟩
  · rw [nextS_er h0]
    exact ⟨h, Int.le_refl _, hM⟩
theorem fail_inv {s : RSt} (h : Inv M s) (a : Int) (ha : 0 ≤ a ∧ a ≤ M) (e : Nat) (he : e ≤ 171) : Inv M (s.fail a e) := by
  unfold RSt.fail
  split
  · exact ⟨he, ha, h.ts⟩
  · exact h
theorem arg_inv {s : RSt} (h : Inv M s) (hen : 0 ≤ en ∧ en ≤ M) (b : Bool) : Inv M (argS decE en b s).2 ∧ ArgG M (argS decE en b s).1 := by
  have hM : 0 ≤ M := by omega
  cases b with
  | false =>
    obtain ⟨h1, h2⟩ := next_inv h hen 1
    exact ⟨h1, ⟨(by decide : (0 : Nat) < 18446744073709551616), h2⟩⟩
  | true =>
    obtain ⟨h1, h2⟩ := next_inv h hen 2
    show Inv M (numS decE en s).2 ∧ ArgG M (numS decE en s).1
    unfold numS
    split
    · obtain ⟨d1, d2⟩ := dec_facts (nextS en s 2).1.text
      refine ⟨?_, ⟨d1, h2⟩⟩
      simp only
      split
      · exact h1
      · exact fail_inv h1 _ h2 _ (by omega)
    · exact ⟨h1, ⟨(by decide : (0 : Nat) < 18446744073709551616), Int.le_refl _, hM⟩⟩
theorem args_inv (hen : 0 ≤ en ∧ en ≤ M) : ∀ (bs : List Bool) {s : RSt}, Inv M s → Inv M (argsS decE en bs s).2 ∧ ∀ a ∈ (argsS decE en bs s).1, ArgG M a
  | [], s, h => ⟨h, fun a ha => by cases ha⟩
  | b :: r, s, h => by
    obtain ⟨h1, h2⟩ := arg_inv h hen b
    obtain ⟨h3, h4⟩ := args_inv hen r h1
    refine ⟨h3, fun a ha => ?_⟩
    rcases List.mem_cons.1 ha with rfl | ha
    · exact h2
    · exact h4 a ha
theorem stmt_inv {s : RSt} (h : Inv M s) (hen : 0 ≤ en ∧ en ≤ M) : Inv M (stmtS decE en s).2 ∧ StG M (stmtS decE en s).1 := by
  unfold stmtS
  simp only
  obtain ⟨a1, a2⟩ := next_inv h hen 1
  obtain ⟨b1, b2⟩ := next_inv a1 hen 3
  obtain ⟨c1, c2⟩ := next_inv b1 hen 1
  have d1 : Inv M (if kindF (nextS en (nextS en (nextS en s 1).2 3).2 1).1.text = 0 then (nextS en (nextS en (nextS en s 1).2 3).2 1).2.fail (nextS en (nextS en (nextS en s 1).2 3).2 1).1.pos 171 else (nextS en (nextS en (nextS en s 1).2 3).2 1).2) := by
    split
    · exact fail_inv c1 _ c2 _ (by decide)
    · exact c1
  obtain ⟨e1, e2⟩ := args_inv hen (formL (kindF (nextS en (nextS en (nextS en s 1).2 3).2 1).1.text)) d1
  obtain ⟨f1, _⟩ := next_inv e1 hen 4
  exact ⟨f1, ⟨kindF_le _, a2, e2⟩⟩
theorem parseL_inv (hen : 0 ≤ en ∧ en ≤ M) : ∀ (f : Nat) (s : RSt) (out : List PStmt), Inv M s → (∀ x ∈ out, StG M x) → Inv M (parseL decE en f s out).2 ∧ ∀ x ∈ (parseL decE en f s out).1, StG M x
  | 0, s, out, h, ho => ⟨h, ho⟩
  | f + 1, s, out, h, ho => by
    unfold parseL
    by_cases h0 : s.er = 0
    · rw [if_pos h0]
      cases hts : s.ts with
      | nil => exact ⟨h, ho⟩
      | cons t r =>
        simp only
        by_cases hk : t.kind = 4
        · rw [if_pos hk]
          exact parseL_inv hen f _ out ⟨h.er, h.pl, fun u hu => h.ts u (by rw [hts]; simp [show u ∈ r from hu])⟩ ho
        · rw [if_neg hk]
          obtain ⟨a1, a2⟩ := stmt_inv h hen
          refine parseL_inv hen f _ _ a1 fun x hx => ?_
          rcases List.mem_append.1 hx with hx | hx
          · exact ho x hx
          · rw [List.mem_singleton.1 hx]; exact a2
    · rw [if_neg h0]
      exact ⟨h, ho⟩
/-- what parsing tells -/
theorem parse_facts (M : Int) (hM : 0 ≤ M) (hM2 : M ≤ 4611686018427387904) (ts : List PTok) (h : ∀ t ∈ ts, 0 ≤ t.pos ∧ t.pos + t.text.size ≤ M) :
    (parseRes decE ts).2.2 ≤ 171 ∧ (0 ≤ (parseRes decE ts).2.1 ∧ (parseRes decE ts).2.1 ≤ M) ∧ ((parseRes decE ts).2.2 ≠ 0 → (parseRes decE ts).1 = []) ∧ ∀ x ∈ (parseRes decE ts).1, StG M x := by
  have hen : 0 ≤ endOf ts ∧ endOf ts ≤ M := by
    unfold endOf
    cases hl : ts.getLast? with
    | none => exact ⟨Int.le_refl _, hM⟩
    | some t =>
      have := h t (List.mem_of_getLast? hl)
      have hw : wrap64 (t.pos + (t.text.size : Int)) = t.pos + (t.text.size : Int) := IntWalk.wrap64_in _ (by omega)
      simp only
      rw [hw]
      omega
  obtain ⟨a1, a2⟩ := parseL_inv hen (ts.length + 1) ⟨ts, 0, 0⟩ [] ⟨Nat.le_of_ble_eq_true rfl, ⟨Int.le_refl _, hM⟩, fun t ht => by have := h t ht; omega⟩ (fun x hx => by cases hx)
  unfold parseRes
  simp only
  split
  · exact ⟨Nat.le_of_ble_eq_true rfl, ⟨Int.le_refl _, hM⟩, fun h' => absurd rfl h', a2⟩
  · exact ⟨a1.er, a1.pl, fun _ => rfl, fun x hx => by cases hx⟩
/-! checking -/
theorem nums_pl : ∀ (fl : List (Nat × Nat × Nat)) (l : List PArg) (n : Nd), (∀ a ∈ l, ArgG M a) → 0 ≤ M → (0 ≤ (numsS fl l n).2.1 ∧ (numsS fl l n).2.1 ≤ M) ∧ (numsS fl l n).2.2 ≤ 184
  | [], l, n, _, hM => by
    have : numsS [] l n = (n, 0, 0) := by cases l <;> rfl
    rw [this]
    exact ⟨⟨Int.le_refl _, hM⟩, Nat.le_of_ble_eq_true rfl⟩
  | d :: r, [], n, _, hM => ⟨⟨Int.le_refl _, hM⟩, by show (0 : Nat) ≤ 184; decide⟩
  | d :: r, a :: q, n, h, hM => by
    show (0 ≤ (if withinF d.2.1 d.2.2 a.num then numsS r q (chkw.Nd.put n d.1 a.num) else (chkw.Nd.put n d.1 a.num, a.pos, 184)).2.1 ∧ _) ∧ _
    have e : numsS (d :: r) (a :: q) n = if withinF d.2.1 d.2.2 a.num then numsS r q (chkw.Nd.put n d.1 a.num) else (chkw.Nd.put n d.1 a.num, a.pos, 184) := rfl
    rw [e]
    split
    · exact nums_pl r q _ (fun b hb => h b (by simp [hb])) hM
    · exact ⟨(h a (by simp)).pos, by show (184 : Nat) ≤ 184; decide⟩
theorem names_pl (look : ByteArray → Option Nat) : ∀ (l : List PArg) (i : Nat) (n : Nd), (∀ a ∈ l, ArgG M a) → 0 ≤ M → (0 ≤ (namesS look l i n).2.1 ∧ (namesS look l i n).2.1 ≤ M) ∧ (namesS look l i n).2.2 ≤ 184
  | [], i, n, _, hM => ⟨⟨Int.le_refl _, hM⟩, by show (0 : Nat) ≤ 184; decide⟩
  | a :: q, i, n, h, hM => by
    unfold namesS
    split
    · exact ⟨(h a (by simp)).pos, by show (183 : Nat) ≤ 184; decide⟩
    · exact names_pl look q _ _ (fun b hb => h b (by simp [hb])) hM
theorem node_pl (look : ByteArray → Option Nat) (s : PStmt) (h : StG M s) (hM : 0 ≤ M) : (0 ≤ (nodeS look s).2.1 ∧ (nodeS look s).2.1 ≤ M) ∧ (nodeS look s).2.2 ≤ 184 := by
  unfold nodeS
  split
  · exact ⟨h.pos, by show (170 : Nat) ≤ 184; decide⟩
  · split
    · exact names_pl look _ _ _ (fun a ha => h.args a (List.mem_of_mem_drop ha)) hM
    · exact nums_pl _ _ _ h.args hM
theorem chkA_pl (hM : 0 ≤ M) : ∀ (l : List PStmt) (ents : List (ByteArray × Nat)) (out : List Nd), (∀ s ∈ l, StG M s) → (0 ≤ (chkA ents out l).2.1 ∧ (chkA ents out l).2.1 ≤ M) ∧ (chkA ents out l).2.2 ≤ 184
  | [], _, _, _ => ⟨⟨Int.le_refl _, hM⟩, by show (0 : Nat) ≤ 184; decide⟩
  | s :: r, ents, out, h => by
    have hs := h s (by simp)
    rw [chkA_eq]
    split
    · exact ⟨hs.pos, by show (181 : Nat) ≤ 184; decide⟩
    · split
      · exact ⟨hs.pos, by show (182 : Nat) ≤ 184; decide⟩
      · split
        · exact chkA_pl hM r _ _ (fun x hx => h x (by simp [hx]))
        · exact node_pl _ s hs hM
theorem check_facts (hM : 0 ≤ M) (l : List PStmt) (h : ∀ s ∈ l, StG M s) : (0 ≤ (checkS l).2.1 ∧ (checkS l).2.1 ≤ M) ∧ (checkS l).2.2 ≤ 184 := by
  unfold checkS
  split
  · exact ⟨⟨Int.le_refl _, hM⟩, by show (180 : Nat) ≤ 184; decide⟩
  · exact chkA_pl hM l [] [] h
/-- the tokens of a text stand within it -/
theorem toks_in (l : List UInt8) : ∀ t ∈ (lexRes l).1.map pt, 0 ≤ t.pos ∧ t.pos + t.text.size ≤ (l.length : Int) := fun t ht => by
  obtain ⟨u, hu, rfl⟩ := List.mem_map.1 ht
  have := (lex_facts l).2.2.2.2.2.2.2 u hu
  have hz : (pt u).text.size = u.text.length := by
    show u.text.toArray.size = _
    simp
  rw [hz]
  show 0 ≤ (u.pos : Int) ∧ (u.pos : Int) + (u.text.length : Int) ≤ _
  omega
/-- what is read is a program, or an error at a place within the text -/
theorem readL_facts (l : List UInt8) (hl : l.length ≤ 1048576) : (0 ≤ (readL l).2.1 ∧ (readL l).2.1 ≤ (l.length : Int)) ∧ ((readL l).2.2 ≠ 0 → (readL l).1 = []) ∧
    ((readL l).2.2 = 0 → (readL l).2.1 = 0 ∧ rightP (readL l).1 = true ∧ ∀ n ∈ (readL l).1, n.ok) := by
  have hM : (0 : Int) ≤ (l.length : Int) := by omega
  obtain ⟨x1, x2, x3, x4, x5, x6, x7, x8⟩ := lex_facts l
  obtain ⟨y1, y2, y3, y4⟩ := parse_facts (l.length : Int) hM (by omega) _ (toks_in l)
  unfold readL
  split
  · split
    · obtain ⟨z1, z2⟩ := check_facts hM _ y4
      refine ⟨z1, fun h => checkS_bad _ h, fun h => ?_⟩
      obtain ⟨r1, r2, r3⟩ := checkS_right _ (fun s hs a ha => ((y4 s hs).args a ha).num) h
      exact ⟨(checkS_front _ h).2.1, r2, r1⟩
    · rename_i hne
      exact ⟨y2, fun _ => rfl, fun h => absurd h hne⟩
  · rename_i hne
    exact ⟨by have := x2 hl; simp only; omega, fun _ => rfl, fun h => absurd h hne⟩
end Go.Proofs.YtejmbbkklhpnaaaGreatDoor.bkr

/- The walks of burnishlaw19.read and flat.Read: what they say of any text. Conditions: the library's tables hold what the row lists. -/
namespace Go.Proofs.YtejmbbkklhpnaaaGreatDoor.bkr
open Go.RowKit
open Go.Proofs.YtejmbbkklhpnaaaGreatDoor.lexm (Tok toksC lexRes cellsOf)
open Go.Proofs.YtejmbbkklhpnaaaGreatDoor.lexw (lex_any LexPost)
open Go.Proofs.YtejmbbkklhpnaaaGreatDoor.parw
open Go.Proofs.YtejmbbkklhpnaaaGreatDoor.nodew
open Go.Proofs.YtejmbbkklhpnaaaGreatDoor.chkw
open Go.Proofs.YtejmbbkklhpnaaaGreatDoor.flow (decE Laid Laid.stable dec_ok)

theorem pcells_pt (ts : List Tok) : pcells (ts.map pt) = cellsOf ts := by
  induction ts with
  | nil => rfl
  | cons t r ih => rw [List.map_cons, pcells_cons, ih]; rfl
theorem prow_own {W : World} {base : Nat} {v : Value} {ts : List Tok} (h : W.ownsRow base 31 3 v ts.length (cellsOf ts)) : PRow W W.heap.size v (ts.map pt) := by
  rcases h.2 with ⟨rfl, hn⟩ | ⟨g, cap, cur, rfl, _, hgg, hc, _⟩
  · exact ⟨none, 0, by rw [List.length_map, hn], by rw [List.length_map, hn]; exact Nat.le_refl _, fun h0 => absurd (by rw [List.eq_nil_of_length_eq_zero hn]; rfl) h0⟩
  · refine ⟨_, cap, by rw [List.length_map], by rw [List.length_map]; exact hc, fun _ => ⟨g, 0, rfl, (Array.getElem?_eq_some_iff.1 hgg).1, fun j u hu => ?_⟩⟩
    rw [pcells_pt] at hu
    have hc := h.cells (g := g) rfl j u hu
    have hadd : (⟨g, 0, none⟩ : Addr).add j = ⟨g, j, none⟩ := by unfold Addr.add; split <;> simp_all
    rw [hadd] at hc
    rw [Nat.zero_add]
    exact hc
theorem stable_more {G : World → Prop} {B B' : Nat} (h : Stable G B) (hb : B ≤ B') : Stable G B' := fun w w' row hG hg hr => h w w' row hG hg fun r e => Nat.le_trans hb (hr r e)
theorem laid_below {B : Nat} {w w' : World} (h : Laid B w) (hb : Below w.heap.size w w') : Laid B w' := Laid.stable B w w' none h (parw.grown_below hb none) (fun r e => by cases e)
/-- what law 19's read says of a text -/
def rdP (t : List UInt8) : List PStmt × Int × Nat := parseRes decE ((lexRes t).1.map pt)
def rdL (t : List UInt8) : List Nd × Bool := ((checkS (rdP t).1).1, decide ((((lexRes t).2.2 : Nat) : Int) + (((rdP t).2.2 : Nat) : Int) + (((checkS (rdP t).1).2.2 : Nat) : Int) = 0))
def RdPost (w : World) (r : List Nd × Bool) (e : Ending) (w' : World) : Prop :=
  ∃ o, e = .returned (.tuple #[o, .bool r.2]) ∧ w'.ownsRow w.heap.size 67 19 o r.1.length (ncells r.1) ∧ Below w.heap.size w w'
theorem rdP_facts (t : List UInt8) (ht : t.length ≤ 4611686018427387904) : (rdP t).2.2 ≤ 171 ∧ ∀ x ∈ (rdP t).1, StG (t.length : Int) x := by
  obtain ⟨y1, y2, y3, y4⟩ := parse_facts (t.length : Int) (by omega) (by omega) _ (toks_in t)
  exact ⟨y1, y4⟩
/-- a text that law 19 reads is one that flat reads -/
theorem rdL_readL (t : List UInt8) (h : (rdL t).2 = true) : readL t = ((rdL t).1, 0, 0) := by
  have h1 := of_decide_eq_true h
  have a1 : (lexRes t).2.2 = 0 := by omega
  have a2 : (parseRes decE ((lexRes t).1.map pt)).2.2 = 0 := by
    have : (rdP t).2.2 = 0 := by omega
    exact this
  have a3 : (checkS (rdP t).1).2.2 = 0 := by omega
  unfold readL
  rw [if_pos a1, if_pos a2]
  show checkS (rdP t).1 = _
  have hp := (checkS_front _ a3).2.1
  obtain ⟨p, q, r⟩ : ∃ p q r, checkS (rdP t).1 = (p, q, r) := ⟨_, _, _, rfl⟩
  refine Prod.ext rfl (Prod.ext hp a3)
theorem readL_rdL (t : List UInt8) (l : List Nd) (h : readL t = (l, 0, 0)) : rdL t = (l, true) := by
  unfold readL at h
  have a1 : (lexRes t).2.2 = 0 := by
    apply Decidable.byContradiction
    intro hn
    rw [if_neg hn] at h
    exact hn (congrArg (fun x => x.2.2) h)
  rw [if_pos a1] at h
  have a2 : (parseRes decE ((lexRes t).1.map pt)).2.2 = 0 := by
    apply Decidable.byContradiction
    intro hn
    rw [if_neg hn] at h
    exact hn (congrArg (fun x => x.2.2) h)
  rw [if_pos a2] at h
  unfold rdL
  have e : checkS (rdP t).1 = (l, 0, 0) := h
  have a2' : (rdP t).2.2 = 0 := a2
  rw [e, a1, a2']
  rfl
set_option maxHeartbeats 1000000 in
theorem read_any (B : Nat) (s : ByteArray) (hs0 : s.size ≤ 1000000000000) (w : World) (hw : Laid B w) (hB : B ≤ w.heap.size) : Calls Tryz.prog 15 #[.string s] w (RdPost w (rdL s.data.toList)) := by
  have hlen : s.data.toList.length = s.size := by simp
  have hs : s.size ≤ maxLen := by unfold maxLen; omega
  obtain ⟨x1, x2, x3, x4, x5, x6, x7, x8⟩ := lex_facts s.data.toList
  obtain ⟨y1, y2⟩ := rdP_facts s.data.toList (by omega)
  have z1 := (check_facts (by omega) _ y2).2
  have hkd : ∀ x ∈ (rdP s.data.toList).1, x.kind < 256 := fun x hx => by have := (y2 x hx).kind; omega
  obtain ⟨R, hR⟩ : ∃ R, rdL s.data.toList = R := ⟨_, rfl⟩
  have hRe : (rdL s.data.toList) = ((checkS (rdP s.data.toList).1).1, decide ((((lexRes s.data.toList).2.2 : Nat) : Int) + (((rdP s.data.toList).2.2 : Nat) : Int) + (((checkS (rdP s.data.toList).1).2.2 : Nat) : Int) = 0)) := rfl
  rw [hR] at hRe ⊢
  have CL := Lib.hid (lex_any s hs w)
  obtain ⟨L, hL⟩ : ∃ L, lexRes s.data.toList = L := ⟨_, rfl⟩
  have hPe : rdP s.data.toList = parseRes decE (L.1.map pt) := by rw [← hL]; rfl
  obtain ⟨P, hP⟩ : ∃ P, rdP s.data.toList = P := ⟨_, rfl⟩
  obtain ⟨C, hC⟩ : ∃ C, checkS P.1 = C := ⟨_, rfl⟩
  rw [hL] at x4 x6 hRe CL
  rw [hP] at y1 z1 hkd hRe hPe
  rw [hC] at z1 hRe
  obtain ⟨Lt, Lp, Le⟩ := L
  obtain ⟨Pt, Pp, Pe⟩ := P
  obtain ⟨Ct, Cp, Ce⟩ := C
  simp only at x4 x6 y1 z1 hkd hRe hPe hC
  have i1 : IntKind.i64.wrap ((Le : Int) + (Pe : Int)) = (Le : Int) + (Pe : Int) := IntWalk.i64_in _ (by omega)
  have i2 : IntKind.i64.wrap ((Le : Int) + (Pe : Int) + (Ce : Int)) = (Le : Int) + (Pe : Int) + (Ce : Int) := IntWalk.i64_in _ (by omega)
  have HW := Lib.hid (And.intro hw hB)
  have HX := Lib.hid (And.intro x6 (And.intro hkd (And.intro hPe hC)))
  have HR := Lib.hid hRe
  clear hw hB x1 x2 x3 x5 x6 x7 x8 y2 hkd hR hL hP hC hRe hPe hlen hs hs0
  go_enter Tryz.func15, Tryz.ntmps15
  go_wp2_with fail
  refine CL.out.mono ?_
  rintro e w1 ⟨v1, rfl, hown1, hB1⟩
  simp only at hown1 ⊢
  have hp1 := prow_own hown1
  have hz1 := hB1.size
  have hw1 := laid_below HW.out.1 hB1
  have hc1 := parse_any decE (Laid B) (Lt.map pt) (by rw [List.length_map]; have := HX.out.1; omega) v1 w1 (stable_more (Laid.stable B) (by have := HW.out.2; omega)) (dec_ok B _) hp1 hw1
  rw [← HX.out.2.2.1] at hc1
  have B1 := Lib.hid (And.intro hB1 hz1)
  clear hown1 hp1 hw1 hB1 hz1
  go_wp2_with fail
  refine hc1.mono ?_
  rintro e w2 ⟨v2, rfl, hrow2, hB2⟩
  simp only at hrow2 ⊢
  have hc2 := check_any w2.heap.size v2 Pt HX.out.2.1 w2 (SR.of_row hrow2) (Nat.le_refl _)
  rw [HX.out.2.2.2] at hc2
  have B2 := Lib.hid hB2
  clear hc1 hrow2 hB2
  go_wp2_with fail
  refine hc2.mono ?_
  rintro e w3 ⟨v3, rfl, hown3, hB3⟩
  simp only at hown3 ⊢
  have B3 := Lib.hid (And.intro hown3 hB3)
  clear hc2 hown3 hB3
  have hq : ((Le : Int) + (Pe : Int) + (Ce : Int) == 0) = decide ((Le : Int) + (Pe : Int) + (Ce : Int) = 0) := by
    by_cases h : (Le : Int) + (Pe : Int) + (Ce : Int) = 0
    · rw [h]; rfl
    · rw [decide_eq_false h, beq_eq_false_iff_ne]; exact h
  obtain ⟨q, hqq⟩ : ∃ q, decide ((Le : Int) + (Pe : Int) + (Ce : Int) = 0) = q := ⟨_, rfl⟩
  rw [hqq] at hq
  have HQ := Lib.hid hqq
  clear hqq
  go_wp2_with fail
  go_ret2
  rw [HR.out, HQ.out]
  obtain ⟨b1, z1⟩ := B1.out
  have b2 := B2.out
  obtain ⟨o3, b3⟩ := B3.out
  exact ⟨v3, rfl, parw.own_le o3 (by have := b2.size; omega), (b1.trans (b2.mono z1)).trans (b3.mono (by have := b2.size; omega))⟩
end Go.Proofs.YtejmbbkklhpnaaaGreatDoor.bkr

/- burnishlaw19.awake: the chapter's examples. Condition: the library's tables hold what the row lists. -/
namespace Go.Proofs.YtejmbbkklhpnaaaGreatDoor.prnw
open Go.RowKit
open Go.Shelf
open Go.Sort
open Go.Proofs.YtejmbbkklhpnaaaGreatDoor.nodew
open Go.Proofs.YtejmbbkklhpnaaaGreatDoor.chkw
open Go.Proofs.YtejmbbkklhpnaaaGreatDoor.flatm

theorem nd_eq : ∀ (n u : Nat), 10 ^ n ≤ u → u < 10 ^ (n + 1) → Lib.nDigits u = n + 1
  | 0, u, _, h => Lib.nDigits_small (by simpa using h)
  | n + 1, u, h1, h2 => by
    have h3 : 10 ≤ u := Nat.le_trans (by rw [Nat.pow_succ]; have := Nat.pow_pos (n := n) (show 0 < 10 by decide); omega) h1
    rw [Lib.nDigits_big (by omega), nd_eq n (u / 10) (by rw [Nat.pow_succ] at h1; omega) (by rw [Nat.pow_succ] at h2; omega)]
def trX (u N : Nat) : Nat → Nat
  | 0 => 0
  | n + 1 => if Lib.dg u (N - 1 - n) = 48 then trX u N n else n + 1
theorem tr_x (u N : Nat) (h : Lib.nDigits u = N) : ∀ n, trimTo u n = trX u N n
  | 0 => rfl
  | n + 1 => by
    unfold trimTo trX
    rw [h, tr_x u N h n]
/-- a positive number's text, the count of its digits given -/
def posX (u N : Nat) (p : Int) : List UInt8 := laidT (Lib.dg u (N - 1) :: (List.range (trX u N N - 1)).map fun t => Lib.dg u (N - 1 - (t + 1))) ((N : Nat) + p)
theorem pos_x (hi lo : Nat → Nat) (X u n : Nat) (p : Int) (h : ftR hi lo X = ((u : Int), p)) (h1 : 10 ^ n ≤ u) (h2 : u < 10 ^ (n + 1)) : posT hi lo X = posX u (n + 1) p := by
  have hn := nd_eq n u h1 h2
  unfold posT posD posK posX sdH sdL
  rw [h]
  simp only [Int.toNat_natCast]
  rw [hn, tr_x u (n + 1) hn]
theorem prT_pos (hi lo : Nat → Nat) (x : Nat) (h : prOk x = true) (h0 : x ≠ 0) (h1 : ¬ 9223372036854775808 ≤ x) : prT hi lo x = posT hi lo x := by
  unfold prT
  rw [if_pos h, if_neg h0, if_neg h1]
theorem prT_h : prT hiP loP 4602678819172646912 = [48, 46, 53] := by
  have h := pos_x hiP loP 4602678819172646912 5000000000000000 15 (-16) (by kernel_rfl) (by decide) (by decide)
  exact (prT_pos _ _ _ (by kernel_rfl) (by decide) (by decide)).trans (h.trans (by kernel_rfl))
theorem prT_1 : prT hiP loP 4607182418800017408 = [49] := by
  have h := pos_x hiP loP 4607182418800017408 1000000000000000 15 (-15) (by kernel_rfl) (by decide) (by decide)
  exact (prT_pos _ _ _ (by kernel_rfl) (by decide) (by decide)).trans (h.trans (by kernel_rfl))
theorem prT_q : prT hiP loP 4598175219545276416 = [48, 46, 50, 53] := by
  have h := pos_x hiP loP 4598175219545276416 2500000000000000 15 (-16) (by kernel_rfl) (by decide) (by decide)
  exact (prT_pos _ _ _ (by kernel_rfl) (by decide) (by decide)).trans (h.trans (by kernel_rfl))
theorem prT_0 : prT hiP loP 0 = [48] := by
  unfold prT
  rw [if_pos (by kernel_rfl), if_pos rfl]
theorem itoa_d (k : Nat) (h : k < 10) : Lib.itoa (k : Int) = [UInt8.ofNat (48 + k)] := by
  unfold Lib.itoa
  rw [if_neg (by omega), Int.toNat_natCast, Lib.decDigits, dif_pos h]
/-- the examples' nodes -/
def exL : Nd := ⟨1, [4602678819172646912, 4607182418800017408, 0, 0, 0, 0, 0, 0, 0, 0, 0, 0, 0, 0, 0, 0], 0, 0⟩
def exM : Nd := ⟨5, [0, 0, 0, 0, 0, 0, 0, 0, 0, 0, 0, 0, 0, 0, 0, 4598175219545276416], 0, 1⟩
theorem exL_ok : exL.ok := ⟨rfl, by decide⟩
theorem exM_ok : exM.ok := ⟨rfl, by decide⟩
theorem exL_t : lineT hiP loP exL 0 = [110, 48, 32, 61, 32, 108, 97, 109, 98, 101, 114, 116, 32, 48, 46, 53, 32, 49, 32, 48] ∧ lineE exL 0 = 0 := by
  have ho : lineOk exL 0 = true := by kernel_rfl
  have hn : nmB 0 = ⟨#[110, 48]⟩ := by
    unfold nmB
    rw [show (0 : Int) = ((0 : Nat) : Int) from rfl, itoa_d 0 (by decide)]
    rfl
  have hp : ∀ x l, prT hiP loP x = l → prB hiP loP x = bA l := fun x l h => by unfold prB; rw [h]
  refine ⟨?_, by unfold lineE; rw [if_pos ho]⟩
  have hT : lineT hiP loP exL 0 = Lib.join ((lineL hiP loP exL 0).map (·.data.toList)) [32] := if_pos ho
  have e : lineL hiP loP exL 0 = [⟨#[110, 48]⟩, eqB, wd1, bA [48, 46, 53], bA [49], bA [48]] := by
    show [nmB 0, eqB, wd1, prB hiP loP 4602678819172646912, prB hiP loP 4607182418800017408, prB hiP loP 0] = _
    rw [hn, hp _ _ prT_h, hp _ _ prT_1, hp _ _ prT_0]
  rw [e] at hT
  exact hT.trans (by kernel_rfl)
theorem exM_t : lineT hiP loP exM 2 = [110, 50, 32, 61, 32, 109, 105, 120, 32, 48, 46, 50, 53, 32, 110, 48, 32, 110, 49] ∧ lineE exM 2 = 0 := by
  have ho : lineOk exM 2 = true := by kernel_rfl
  have hn : ∀ k : Nat, k < 10 → nmB (k : Int) = bA [110, UInt8.ofNat (48 + k)] := fun k h => by
    unfold nmB
    rw [itoa_d k h]
  have hp : ∀ x l, prT hiP loP x = l → prB hiP loP x = bA l := fun x l h => by unfold prB; rw [h]
  refine ⟨?_, by unfold lineE; rw [if_pos ho]⟩
  have hT : lineT hiP loP exM 2 = Lib.join ((lineL hiP loP exM 2).map (·.data.toList)) [32] := if_pos ho
  have e : lineL hiP loP exM 2 = [bA [110, 50], eqB, wd5, bA [48, 46, 50, 53], bA [110, 48], bA [110, 49]] := by
    show [nmB ((2 : Nat) : Int), eqB, wd5, prB hiP loP 4598175219545276416, nmB ((0 : Nat) : Int), nmB ((1 : Nat) : Int)] = _
    rw [hn 2 (by decide), hn 0 (by decide), hn 1 (by decide), hp _ _ prT_q]
    rfl
  rw [e] at hT
  exact hT.trans (by kernel_rfl)
theorem exM_w : lineT hiP loP exM 1 = [] ∧ lineE exM 1 = 190 := by
  have ho : lineOk exM 1 = false := by kernel_rfl
  exact ⟨by unfold lineT; rw [if_neg (by rw [ho]; decide)], by unfold lineE; rw [if_neg (by rw [ho]; decide)]⟩
end Go.Proofs.YtejmbbkklhpnaaaGreatDoor.prnw
