/- The flat program in plain words: it is a program, its root stands for the same, it is flat; a program in which each node stands twice has the same one. No conditions but those stated. -/
import Derived.Test.YtlhdabpoljoobaaFlaM
namespace Go.Proofs.Ytlhdabpoljoobaa.flatm
open Go.Proofs.Ytlhdabpoljoobaa.nodew

def nth (l : List Nd) (x : Nat) : Nd := l.getD x ⟨0, [], 0, 0⟩
theorem nth_at (l : List Nd) (x : Nat) (h : x < l.length) : l[x]? = some (nth l x) := by simp [nth, h]
theorem nth_eq (l : List Nd) (x : Nat) (n : Nd) (h : l[x]? = some n) : nth l x = n := by
  obtain ⟨hk, rfl⟩ := List.getElem?_eq_some_iff.1 h
  simp [nth, hk]
/-- the row of what a root needs; what is done; the flat program -/
def none_ : Nat → Bool := fun _ => false
def ordP (l : List Nd) : List Nat := (visit (nth l) l.length (l.length - 1) none_).2
def runP (l : List Nd) : (Nat → Bool) × List Nat := visitD (nth l) l.length (l.length - 1) none_
def endP (l : List Nd) : FS := (runP l).2.foldl (stepF (nth l)) ⟨fun _ => 0, []⟩
def flatP (l : List Nd) : List Nd := (endP l).out

/-! programs -/
theorem place_lt {k at_ : Int} (h : placeOk true k at_ = true) : 0 ≤ k ∧ k < at_ := by simpa [placeOk] using h
theorem nodeOk_parts {n : Nd} {at_ : Int} (h : nodeOk n at_ = true) : ndOk n (fieldList n.kind) = true ∧ placeOk (decide (0 < belowN n.kind)) n.a at_ = true ∧ placeOk (decide (1 < belowN n.kind)) n.b at_ = true ∧ 0 < (fieldList n.kind).length ∧ bare (n.zeros (offs n.kind)) = true := by
  unfold nodeOk at h
  simp only [Bool.and_eq_true, decide_eq_true_eq] at h
  exact ⟨h.1.1.1.1, h.1.1.1.2, h.1.1.2, h.1.2, h.2⟩
theorem below5 : belowN 5 = 2 := rfl
theorem below6 : belowN 6 = 1 := rfl
theorem below_else {k : Nat} (h5 : k ≠ 5) (h6 : k ≠ 6) : belowN k = 0 := by unfold belowN; rw [if_neg h5, if_neg h6]
theorem kids_lt {n : Nd} {x : Nat} (h : nodeOk n x = true) : ∀ c ∈ kids n, c < x := by
  obtain ⟨_, ha, hb, _⟩ := nodeOk_parts h
  intro c hc
  unfold kids at hc
  by_cases h5 : n.kind = 5
  · rw [h5, below5] at ha hb
    have ha := place_lt ha
    have hb := place_lt hb
    rw [if_pos h5] at hc
    simp only [List.mem_cons, List.not_mem_nil, or_false] at hc
    omega
  · by_cases h6 : n.kind = 6
    · rw [h6, below6] at ha
      have ha := place_lt ha
      rw [if_neg h5, if_pos h6] at hc
      simp only [List.mem_cons, List.not_mem_nil, or_false] at hc
      omega
    · rw [if_neg h5, if_neg h6] at hc
      cases hc
theorem zeros_ab (n : Nd) (a b : Int) (L : List Nat) : ({ n with a := a, b := b } : Nd).zeros L = { n.zeros L with a := a, b := b } := by
  induction L generalizing n with
  | nil => rfl
  | cons j r ih => exact ih (n.zero j)
theorem bare_ab (n : Nd) (a b : Int) : bare { n with a := a, b := b } = bare n := rfl
theorem nodeOk_ab {n : Nd} {x : Int} (h : nodeOk n x = true) (a b y : Int) (ha : placeOk (decide (0 < belowN n.kind)) a y = true) (hb : placeOk (decide (1 < belowN n.kind)) b y = true) : nodeOk { n with a := a, b := b } y = true := by
  obtain ⟨h1, _, _, h4, h5⟩ := nodeOk_parts h
  unfold nodeOk
  simp only [Bool.and_eq_true, decide_eq_true_eq]
  refine ⟨⟨⟨⟨h1, ha⟩, hb⟩, h4⟩, ?_⟩
  show bare (({ n with a := a, b := b } : Nd).zeros (offs n.kind)) = true
  rw [zeros_ab, bare_ab]
  exact h5
theorem place_mk {k at_ : Nat} (h : k < at_) : placeOk true (k : Int) (at_ : Int) = true := by simp [placeOk]; omega
theorem place_no {k : Int} {x : Int} (y : Int) (h : placeOk false k x = true) : placeOk false k y = true := by simpa [placeOk] using h
/-- a right node with other places is right at another place -/
theorem nodeOk_remap {n : Nd} {x : Int} (h : nodeOk n x = true) (ta : Nat → Nat) (y : Nat) (hk : ∀ c ∈ kids n, ta c < y) : nodeOk (remap ta n) y = true := by
  obtain ⟨_, ha, hb, _⟩ := nodeOk_parts h
  unfold remap
  by_cases h5 : n.kind = 5
  · rw [if_pos h5]
    refine nodeOk_ab h _ _ _ ?_ ?_
    · rw [h5, below5]; exact place_mk (hk _ (by simp [kids, h5]))
    · rw [h5, below5]; exact place_mk (hk _ (by simp [kids, h5]))
  · by_cases h6 : n.kind = 6
    · rw [if_neg h5, if_pos h6]
      refine nodeOk_ab h ((ta n.a.toNat : Nat) : Int) n.b _ ?_ ?_
      · rw [h6, below6]; exact place_mk (hk _ (by simp [kids, h6]))
      · rw [h6, below6] at hb ⊢; exact place_no _ hb
    · rw [if_neg h5, if_neg h6]
      have hz := below_else h5 h6
      have e : n = { n with a := n.a, b := n.b } := rfl
      rw [e]
      rw [hz] at ha hb
      refine nodeOk_ab h _ _ _ ?_ ?_
      · rw [hz]; exact place_no _ ha
      · rw [hz]; exact place_no _ hb
theorem right_nodes {l : List Nd} (h : rightP l = true) : (∀ x, x < l.length → nodeOk (nth l x) x = true) ∧ 0 < l.length ∧ l.length ≤ 4096 := by
  have h1 : ∀ k (hk : k < l.length), nodeOk l[k] k = true := fun k hk => by
    cases hq : nodeOk l[k] k with
    | true => rfl
    | false => rw [rightP_bad hk hq] at h; cases h
  have h2 := rightP_good h1
  rw [h] at h2
  have h2 : 0 < l.length ∧ l.length ≤ 4096 := by simpa using h2.symm
  exact ⟨fun x hx => by rw [nth_eq l x l[x] (List.getElem?_eq_getElem hx)]; exact h1 x hx, h2⟩
theorem right_mk {l : List Nd} (h : ∀ x, x < l.length → nodeOk (nth l x) x = true) (h0 : 0 < l.length) (h1 : l.length ≤ 4096) : rightP l = true := by
  rw [rightP_good fun k hk => by rw [← nth_eq l k l[k] (List.getElem?_eq_getElem hk)]; exact h k hk]
  simp [h0, h1]
theorem right_ac {l : List Nd} (h : rightP l = true) : ∀ x, x < l.length → ∀ c ∈ kids (nth l x), c < x := fun x hx => kids_lt ((right_nodes h).1 x hx)
theorem ordP_eq {l : List Nd} (h : rightP l = true) : ordP l = (runP l).2 := by
  obtain ⟨_, h0, _⟩ := right_nodes h
  exact (visit_same (nth l) l.length (right_ac h) l.length (l.length - 1) l.length none_ none_ (by omega) (by omega) (fun _ _ => rfl)).1

/-! what is reached -/
inductive Reach (p : Nat → Nd) : Nat → Nat → Prop
  | refl (x : Nat) : Reach p x x
  | down (x c y : Nat) (h : c ∈ kids (p x)) (r : Reach p c y) : Reach p x y
theorem run_reach (p : Nat → Nd) (f : Nat) (ih : ∀ x D y, (visitD p f x D).1 y = true → D y = true ∨ Reach p x y) : ∀ (L : List Nat) (D : Nat → Bool) (y : Nat), (runK (visitD p f) L D).1 y = true → D y = true ∨ ∃ c ∈ L, Reach p c y
  | [], _, _, h => .inl h
  | c :: r, D, y, h => by
    rcases run_reach p f ih r (visitD p f c D).1 y h with h1 | ⟨d, hd, h1⟩
    · rcases ih c D y h1 with h2 | h2
      · exact .inl h2
      · exact .inr ⟨c, .head _, h2⟩
    · exact .inr ⟨d, .tail _ hd, h1⟩
theorem visit_reach (p : Nat → Nd) : ∀ (f x : Nat) (D : Nat → Bool) (y : Nat), (visitD p f x D).1 y = true → D y = true ∨ Reach p x y
  | 0, _, _, _, h => .inl h
  | f + 1, x, D, y, h => by
    unfold visitD at h
    by_cases hD : D x = true
    · rw [if_pos hD] at h; exact .inl h
    · rw [if_neg hD] at h
      by_cases e : y = x
      · rw [e]; exact .inr (.refl x)
      · have h : upd (runK (visitD p f) (kids (p x)) D).1 x true y = true := h
        rw [upd_ne _ _ _ _ e] at h
        rcases run_reach p f (visit_reach p f) _ D y h with h1 | ⟨c, hc, h1⟩
        · exact .inl h1
        · exact .inr (.down x c y hc h1)
theorem Good.le {p : Nat → Nd} {E : Nat → Bool} {t : FS} (h : Good p E t) {x y : Nat} (r : Reach p x y) : E x = true → t.tm y ≤ t.tm x := by
  induction r with
  | refl x => exact fun _ => Nat.le_refl _
  | down x c y hc _ ih =>
    intro hx
    have h1 := ih (h.closed x hx c hc)
    have h2 := h.ord _ _ (h.key x hx) (t.tm c) (by rw [kids_remap]; exact List.mem_map.2 ⟨c, hc, rfl⟩)
    omega

/-! the flat program -/
structure FI (l : List Nd) (D : Nat → Bool) (t : FS) : Prop where
  good : Good (nth l) D t
  lt : ∀ y, D y = true → y < l.length
  ok : ∀ (k : Nat) (m : Nd), t.out[k]? = some m → nodeOk m k = true
theorem FI.start (l : List Nd) : FI l none_ ⟨fun _ => 0, []⟩ := ⟨Good.start _ _, fun y h => (by cases h), fun k m h => (by simp at h)⟩
theorem FI.step {l : List Nd} (hr : rightP l = true) (D : Nat → Bool) (t : FS) (x : Nat) (hx : x < l.length) (h : FI l D t) (hD : D x = false) (hk : ∀ c ∈ kids (nth l x), D c = true) : FI l (upd D x true) (stepF (nth l) t x) := by
  refine ⟨h.good.step hD hk, fun y hy => ?_, ?_⟩
  · by_cases e : y = x
    · rw [e]; exact hx
    · rw [upd_ne _ _ _ _ e] at hy; exact h.lt y hy
  · unfold stepF
    cases hq : idxN t.out (remap t.tm (nth l x)) with
    | some k => exact h.ok
    | none =>
      intro k m hm
      have hm : (t.out ++ [remap t.tm (nth l x)])[k]? = some m := hm
      by_cases hkl : k < t.out.length
      · rw [List.getElem?_append_left hkl] at hm; exact h.ok k m hm
      · rw [List.getElem?_append_right (by omega)] at hm
        have hk0 : k - t.out.length = 0 := by
          rcases Nat.eq_zero_or_pos (k - t.out.length) with h0 | h0
          · exact h0
          · rw [List.getElem?_eq_none (by simp; omega)] at hm; cases hm
        rw [hk0] at hm
        have hm' : remap t.tm (nth l x) = m := by simpa using hm
        obtain rfl : k = t.out.length := by omega
        rw [← hm']
        exact nodeOk_remap ((right_nodes hr).1 x hx) _ _ fun c hc => (List.getElem?_eq_some_iff.1 (h.good.key c (hk c hc))).1
theorem flat_inv {l : List Nd} (hr : rightP l = true) : FI l (runP l).1 (endP l) ∧ (runP l).1 (l.length - 1) = true := by
  obtain ⟨_, h0, _⟩ := right_nodes hr
  have := visitD_inv (nth l) l.length (right_ac hr) (FI l) (stepF (nth l)) (fun D s x hx h hD hk => FI.step hr D s x hx h hD hk) l.length (l.length - 1) none_ ⟨fun _ => 0, []⟩ (by omega) (by omega) (FI.start l)
  exact ⟨this.1, this.2.1⟩
theorem fold_len (p : Nat → Nd) : ∀ (ys : List Nat) (s : FS), (ys.foldl (stepF p) s).out.length ≤ s.out.length + ys.length
  | [], s => Nat.le_refl _
  | y :: r, s => by
    have := fold_len p r (stepF p s y)
    have h1 : (stepF p s y).out.length ≤ s.out.length + 1 := by
      unfold stepF
      cases idxN s.out (remap s.tm (p y)) with
      | some k => exact Nat.le_succ _
      | none => simp
    simp only [List.foldl_cons, List.length_cons]
    omega
theorem flat_short {l : List Nd} (hr : rightP l = true) : (flatP l).length ≤ (ordP l).length := by
  rw [ordP_eq hr]
  have := fold_len (nth l) (runP l).2 ⟨fun _ => 0, []⟩
  simpa [flatP, endP] using this
/-- the root is the last one -/
theorem flat_root {l : List Nd} (hr : rightP l = true) : (endP l).tm (l.length - 1) + 1 = (flatP l).length := by
  obtain ⟨_, h0, _⟩ := right_nodes hr
  obtain ⟨m, hm⟩ : ∃ m, l.length = m + 1 := ⟨l.length - 1, by omega⟩
  have hac := right_ac hr
  have key : ∀ (L : List Nat) (D1 : Nat → Bool) (s1 : FS), (∀ c ∈ L, c < m) → FI l D1 s1 → FI l (runK (visitD (nth l) m) L D1).1 ((runK (visitD (nth l) m) L D1).2.foldl (stepF (nth l)) s1) ∧ (∀ c ∈ L, (runK (visitD (nth l) m) L D1).1 c = true) ∧ (∀ y, D1 y = true → (runK (visitD (nth l) m) L D1).1 y = true) := by
    intro L
    induction L with
    | nil => exact fun D1 s1 _ h1 => ⟨h1, fun c hc => (by cases hc), fun _ h => h⟩
    | cons c r ih =>
      intro D1 s1 hL h1
      have hcm := hL c (.head _)
      obtain ⟨i1, i2, i3⟩ := visitD_inv (nth l) l.length hac (FI l) (stepF (nth l)) (fun D s x hx h hD hk => FI.step hr D s x hx h hD hk) m c D1 s1 (by omega) hcm h1
      obtain ⟨j1, j2, j3⟩ := ih (visitD (nth l) m c D1).1 _ (fun d hd => hL d (.tail _ hd)) i1
      refine ⟨?_, fun d hd => ?_, fun y hy => j3 y (i3 y hy)⟩
      · show FI l (runK (visitD (nth l) m) r (visitD (nth l) m c D1).1).1 (List.foldl (stepF (nth l)) s1 (_ ++ _))
        rw [List.foldl_append]
        exact j1
      · rcases List.mem_cons.1 hd with rfl | hd
        · exact j3 d i2
        · exact j2 d hd
  obtain ⟨k1, k2, _⟩ := key (kids (nth l m)) none_ ⟨fun _ => 0, []⟩ (hac m (by omega)) (FI.start l)
  have hre := run_reach (nth l) m (visit_reach (nth l) m) (kids (nth l m)) none_
  have e : runP l = (upd (runK (visitD (nth l) m) (kids (nth l m)) none_).1 m true, (runK (visitD (nth l) m) (kids (nth l m)) none_).2 ++ [m]) := by
    unfold runP
    rw [hm, Nat.add_sub_cancel]
    conv => lhs; unfold visitD
    rw [if_neg (by simp [none_])]
  have e2 : endP l = stepF (nth l) ((runK (visitD (nth l) m) (kids (nth l m)) none_).2.foldl (stepF (nth l)) ⟨fun _ => 0, []⟩) m := by
    unfold endP
    rw [e]
    show List.foldl (stepF (nth l)) _ (_ ++ [m]) = _
    rw [List.foldl_append]
    rfl
  obtain ⟨D0, hD0⟩ : ∃ D0, (runK (visitD (nth l) m) (kids (nth l m)) none_).1 = D0 := ⟨_, rfl⟩
  obtain ⟨s0, hs0⟩ : ∃ s0, (runK (visitD (nth l) m) (kids (nth l m)) none_).2.foldl (stepF (nth l)) ⟨fun _ => 0, []⟩ = s0 := ⟨_, rfl⟩
  rw [hD0, hs0] at k1
  rw [hD0] at k2 hre
  rw [hs0] at e2
  have hnew : idxN s0.out (remap s0.tm (nth l m)) = none := by
    cases hq : idxN s0.out (remap s0.tm (nth l m)) with
    | none => rfl
    | some k =>
      exfalso
      have hk := idx_some hq
      obtain ⟨z, hz, hzk⟩ := k1.good.surj k (List.getElem?_eq_some_iff.1 hk).1
      rcases hre z hz with h | ⟨c, hc, hcz⟩
      · cases h
      · have h1 := k1.good.le hcz (k2 c hc)
        have h2 := k1.good.ord k _ hk (s0.tm c) (by rw [kids_remap]; exact List.mem_map.2 ⟨c, hc, rfl⟩)
        omega
  unfold flatP
  rw [e2, hm, Nat.add_sub_cancel]
  unfold stepF
  rw [hnew]
  show upd s0.tm m s0.out.length m + 1 = (s0.out ++ [remap s0.tm (nth l m)]).length
  rw [upd_same]
  simp
theorem flat_pos {l : List Nd} (hr : rightP l = true) : 0 < (flatP l).length := by have := flat_root hr; omega
/-- the flat program is a program -/
theorem flat_right {l : List Nd} (hr : rightP l = true) (hn : (flatP l).length ≤ 4096) : rightP (flatP l) = true :=
  right_mk (fun x hx => (flat_inv hr).1.ok x _ (nth_at _ x hx)) (flat_pos hr) hn
theorem flat_nodup {l : List Nd} (hr : rightP l = true) : (flatP l).Nodup := (flat_inv hr).1.good.nodup
/-- the program covers its flat one -/
theorem flat_cover {l : List Nd} (hr : rightP l = true) : Cover (nth l) (nth (flatP l)) l.length (flatP l).length (fun x => (runP l).1 x = true) (endP l).tm := by
  have hi := (flat_inv hr).1
  exact ⟨hi.lt, hi.good.closed, fun x hx => (List.getElem?_eq_some_iff.1 (hi.good.key x hx)).1, fun x hx => nth_eq _ _ _ (hi.good.key x hx)⟩
/-- programs of which one covers the other have the same flat one -/
theorem cover_flat {P Q : List Nd} {S : Nat → Prop} {f : Nat → Nat} (hP : rightP P = true) (hQ : rightP Q = true) (hc : Cover (nth P) (nth Q) P.length Q.length S f) (hx : S (P.length - 1)) (hf : f (P.length - 1) = Q.length - 1) :
    Sim S f (nth Q) (runP P).1 (endP P) (runP Q).1 (endP Q) := by
  obtain ⟨_, p0, _⟩ := right_nodes hP
  obtain ⟨_, q0, _⟩ := right_nodes hQ
  have := sim hc (right_ac hP) (right_ac hQ) P.length (P.length - 1) Q.length none_ ⟨fun _ => 0, []⟩ none_ ⟨fun _ => 0, []⟩ hx (by omega) (by omega) ⟨rfl, fun y h => (by cases h), Good.start _ _⟩
  rw [hf] at this
  exact this
theorem cover_out {P Q : List Nd} {S : Nat → Prop} {f : Nat → Nat} (hP : rightP P = true) (hQ : rightP Q = true) (hc : Cover (nth P) (nth Q) P.length Q.length S f) (hx : S (P.length - 1)) (hf : f (P.length - 1) = Q.length - 1) : flatP P = flatP Q :=
  (cover_flat hP hQ hc hx hf).out
/-- flat once more it is the same -/
theorem flat_sim {l : List Nd} (hr : rightP l = true) (hn : (flatP l).length ≤ 4096) : Sim (fun x => (runP l).1 x = true) (endP l).tm (nth (flatP l)) (runP l).1 (endP l) (runP (flatP l)).1 (endP (flatP l)) :=
  cover_flat hr (flat_right hr hn) (flat_cover hr) (flat_inv hr).2 (by have := flat_root hr; omega)
theorem flat_twice {l : List Nd} (hr : rightP l = true) (hn : (flatP l).length ≤ 4096) : flatP (flatP l) = flatP l := (flat_sim hr hn).out.symm
/-- it comes to its nodes in their order -/
structure RI (p : Nat → Nd) (D : Nat → Bool) (s : FS × List Nat) : Prop where
  met : ∀ z ∈ s.2, D z = true
  rng : (∀ z, D z = true → s.1.tm z = z) → s.2 = List.range s.2.length ∧ s.1.out.length = s.2.length
theorem fold_two (p : Nat → Nd) : ∀ (ys : List Nat) (s : FS) (zs : List Nat), ys.foldl (fun (q : FS × List Nat) x => (stepF p q.1 x, q.2 ++ [x])) (s, zs) = (ys.foldl (stepF p) s, zs ++ ys)
  | [], s, zs => by simp
  | y :: r, s, zs => by
    simp only [List.foldl_cons]
    rw [fold_two p r]
    simp
theorem flat_ord {l : List Nd} (hr : rightP l = true) (hn : (flatP l).length ≤ 4096) : ordP (flatP l) = List.range (flatP l).length := by
  have hq := flat_right hr hn
  obtain ⟨_, q0, _⟩ := right_nodes hq
  rw [ordP_eq hq]
  obtain ⟨Q, hQ⟩ : ∃ Q, flatP l = Q := ⟨_, rfl⟩
  have hs := flat_sim hr hn
  have htw := flat_twice hr hn
  have hi := (flat_inv hq).1
  rw [hQ] at hs htw hi hq q0 ⊢
  have hsur := (flat_inv hr).1.good.surj
  have hid : ∀ z, (runP Q).1 z = true → (endP Q).tm z = z := fun z hz => by
    have hzl := hi.lt z hz
    obtain ⟨y, hy, hyz⟩ := hsur z (by show z < (flatP l).length; rw [hQ]; exact hzl)
    have := (hs.met y hy).2.2
    rw [hyz] at this
    exact this.symm
  have h := visitD_inv (nth Q) Q.length (right_ac hq) (RI (nth Q)) (fun (q : FS × List Nat) x => (stepF (nth Q) q.1 x, q.2 ++ [x])) (fun D s x hx h hD hk => by
    refine ⟨fun z hz => ?_, fun hz => ?_⟩
    · rcases List.mem_append.1 hz with hz | hz
      · by_cases e : z = x
        · rw [e, upd_same]
        · rw [upd_ne _ _ _ _ e]; exact h.met z hz
      · have : z = x := by simpa using hz
        rw [this, upd_same]
    · have hto : ∀ z, D z = true → s.1.tm z = z := fun z hzD => by
        have hne : z ≠ x := fun e => by rw [e, hD] at hzD; cases hzD
        have h1 := hz z (by rw [upd_ne _ _ _ _ hne]; exact hzD)
        have h2 : (stepF (nth Q) s.1 x).tm z = s.1.tm z := by
          unfold stepF
          cases idxN s.1.out (remap s.1.tm (nth Q x)) with
          | some k => exact upd_ne _ _ _ _ hne
          | none => exact upd_ne _ _ _ _ hne
        rw [← h2]; exact h1
      obtain ⟨r1, r2⟩ := h.rng hto
      have hx1 : (stepF (nth Q) s.1 x).tm x = x := hz x (upd_same _ _ _)
      show s.2 ++ [x] = List.range (s.2 ++ [x]).length ∧ (stepF (nth Q) s.1 x).out.length = (s.2 ++ [x]).length
      unfold stepF at hx1 ⊢
      cases hq : idxN s.1.out (remap s.1.tm (nth Q x)) with
      | some k =>
        exfalso
        rw [hq] at hx1
        have hx1 : upd s.1.tm x k x = x := hx1
        rw [upd_same] at hx1
        have hkl := (List.getElem?_eq_some_iff.1 (idx_some hq)).1
        have hmem : x ∈ s.2 := by rw [r1, List.mem_range]; omega
        rw [h.met x hmem] at hD
        cases hD
      | none =>
        rw [hq] at hx1
        have hx1 : upd s.1.tm x s.1.out.length x = x := hx1
        rw [upd_same] at hx1
        refine ⟨?_, by show (s.1.out ++ [_]).length = _; simp; omega⟩
        rw [List.length_append]
        show s.2 ++ [x] = List.range (s.2.length + 1)
        rw [List.range_succ, ← r1, ← r2, hx1]) Q.length (Q.length - 1) none_ (⟨fun _ => 0, []⟩, []) (by omega) (by omega) ⟨fun z hz => (by cases hz), fun _ => ⟨rfl, rfl⟩⟩
  rw [fold_two] at h
  have hr1 := h.1.rng hid
  have e1 : ([] ++ (visitD (nth Q) Q.length (Q.length - 1) none_).2 : List Nat) = (runP Q).2 := by rw [List.nil_append]; rfl
  rw [e1] at hr1
  have hlen : (endP Q).out.length = (runP Q).2.length := hr1.2
  rw [hr1.1, ← hlen]
  show List.range (flatP Q).length = _
  rw [htw]

/-! how deep -/
def depF (p : Nat → Nd) : Nat → Nat → Nat
  | 0, _ => 0
  | f + 1, x => (kids (p x)).foldl (fun m c => max m (depF p f c)) 0 + 1
theorem foldl_congr_mem {g h : Nat → Nat → Nat} : ∀ (L : List Nat) (a : Nat), (∀ c ∈ L, ∀ m, g m c = h m c) → L.foldl g a = L.foldl h a
  | [], _, _ => rfl
  | c :: r, a, e => by
    simp only [List.foldl_cons]
    rw [e c (.head _), foldl_congr_mem r _ fun d hd => e d (.tail _ hd)]
theorem dep_fuel (p : Nat → Nd) (n : Nat) (hac : ∀ x, x < n → ∀ c ∈ kids (p x), c < x) : ∀ (f g x : Nat), x < n → x < f → x < g → depF p f x = depF p g x
  | 0, _, _, _, h, _ => by omega
  | _ + 1, 0, _, _, _, h => by omega
  | f + 1, g + 1, x, hn, hf, hg => by
    refine congrArg (· + 1) (foldl_congr_mem (h := fun m c => max m (depF p g c)) (kids (p x)) 0 fun c hc m => ?_)
    rw [dep_fuel p n hac f g c (by have := hac x hn c hc; omega) (by have := hac x hn c hc; omega) (by have := hac x hn c hc; omega)]
def depP (l : List Nd) (x : Nat) : Nat := depF (nth l) (x + 1) x
theorem depP_eq {l : List Nd} (hr : rightP l = true) (x : Nat) (hx : x < l.length) : depP l x = (kids (nth l x)).foldl (fun m c => max m (depP l c)) 0 + 1 := by
  refine congrArg (· + 1) (foldl_congr_mem (h := fun m c => max m (depP l c)) (kids (nth l x)) 0 fun c hc m => ?_)
  rw [show depP l c = depF (nth l) (c + 1) c from rfl, dep_fuel (nth l) l.length (right_ac hr) x (c + 1) c (by have := right_ac hr x hx c hc; omega) (right_ac hr x hx c hc) (by omega)]
theorem foldl_map_max (g : Nat → Nat) (f : Nat → Nat) : ∀ (L : List Nat) (a : Nat), (L.map f).foldl (fun m c => max m (g c)) a = L.foldl (fun m c => max m (g (f c))) a
  | [], _ => rfl
  | c :: r, a => by simp only [List.map_cons, List.foldl_cons]; exact foldl_map_max g f r _
theorem cover_dep {P Q : List Nd} {S : Nat → Prop} {f : Nat → Nat} (hP : rightP P = true) (hQ : rightP Q = true) (hc : Cover (nth P) (nth Q) P.length Q.length S f) : ∀ x, S x → depP P x = depP Q (f x) := by
  intro x
  induction x using Nat.strongRecOn with
  | ind x ih =>
    intro hx
    rw [depP_eq hP x (hc.lt x hx), depP_eq hQ (f x) (hc.top x hx), hc.node x hx, kids_remap, foldl_map_max]
    refine congrArg (· + 1) (foldl_congr_mem (kids (nth P x)) 0 fun c hcc m => ?_)
    rw [ih c (right_ac hP x (hc.lt x hx) c hcc) (hc.down x hx c hcc)]
theorem flat_dep {l : List Nd} (hr : rightP l = true) (hn : (flatP l).length ≤ 4096) : depP (flatP l) ((flatP l).length - 1) = depP l (l.length - 1) := by
  have := cover_dep hr (flat_right hr hn) (flat_cover hr) (l.length - 1) (flat_inv hr).2
  rw [this]
  have := flat_root hr
  rw [show (endP l).tm (l.length - 1) = (flatP l).length - 1 by omega]
end Go.Proofs.Ytlhdabpoljoobaa.flatm
