/- Flat programs in plain words: the walk through what a root needs, each node once, and what it keeps; a program that covers another one has the same flat one. No conditions but those stated. -/
import Derived.Test.YtlhdabpoljoobaaNodeB
namespace Go.Proofs.Ytlhdabpoljoobaa.flatm
open Go.Proofs.Ytlhdabpoljoobaa.nodew

/-- the places below a node -/
def kids (n : Nd) : List Nat := if n.kind = 5 then [n.a.toNat, n.b.toNat] else if n.kind = 6 then [n.a.toNat] else []
/-- a node whose places are others -/
def remap (ta : Nat → Nat) (n : Nd) : Nd := if n.kind = 5 then { n with a := ta n.a.toNat, b := ta n.b.toNat } else if n.kind = 6 then { n with a := ta n.a.toNat } else n
theorem remap_kind (ta : Nat → Nat) (n : Nd) : (remap ta n).kind = n.kind := by
  unfold remap
  split
  · rfl
  · split <;> rfl
theorem kids_remap (ta : Nat → Nat) (n : Nd) : kids (remap ta n) = (kids n).map ta := by
  unfold kids
  rw [remap_kind]
  by_cases h5 : n.kind = 5
  · simp [remap, h5]
  · by_cases h6 : n.kind = 6
    · simp [remap, h6]
    · simp [h5, h6]
theorem remap_congr (ta tu : Nat → Nat) (n : Nd) (h : ∀ c ∈ kids n, ta c = tu c) : remap ta n = remap tu n := by
  unfold remap
  by_cases h5 : n.kind = 5
  · have h1 := h n.a.toNat (by simp [kids, h5])
    have h2 := h n.b.toNat (by simp [kids, h5])
    rw [if_pos h5, if_pos h5, h1, h2]
  · by_cases h6 : n.kind = 6
    · have h1 := h n.a.toNat (by simp [kids, h6])
      rw [if_neg h5, if_pos h6, if_neg h5, if_pos h6, h1]
    · rw [if_neg h5, if_neg h6, if_neg h5, if_neg h6]

def upd {α : Type} (g : Nat → α) (x : Nat) (v : α) : Nat → α := fun y => if y = x then v else g y
theorem upd_same {α : Type} (g : Nat → α) (x : Nat) (v : α) : upd g x v x = v := by simp [upd]
theorem upd_ne {α : Type} (g : Nat → α) (x y : Nat) (v : α) (h : y ≠ x) : upd g x v y = g y := by simp [upd, h]
/-- one after the other -/
def runK (g : Nat → (Nat → Bool) → (Nat → Bool) × List Nat) : List Nat → (Nat → Bool) → (Nat → Bool) × List Nat
  | [], m => (m, [])
  | c :: r, m => ((runK g r (g c m).1).1, (g c m).2 ++ (runK g r (g c m).1).2)
/-- as the code goes: a node is met ahead of what is below it -/
def visit (p : Nat → Nd) : Nat → Nat → (Nat → Bool) → (Nat → Bool) × List Nat
  | 0, _, m => (m, [])
  | f + 1, x, m => if m x = true then (m, []) else ((runK (visit p f) (kids (p x)) (upd m x true)).1, (runK (visit p f) (kids (p x)) (upd m x true)).2 ++ [x])
/-- as one reasons: a node is done behind what is below it -/
def visitD (p : Nat → Nd) : Nat → Nat → (Nat → Bool) → (Nat → Bool) × List Nat
  | 0, _, m => (m, [])
  | f + 1, x, m => if m x = true then (m, []) else (upd (runK (visitD p f) (kids (p x)) m).1 x true, (runK (visitD p f) (kids (p x)) m).2 ++ [x])

theorem visitD_above (p : Nat → Nd) (n : Nat) (hac : ∀ x, x < n → ∀ c ∈ kids (p x), c < x) : ∀ (f x : Nat) (D : Nat → Bool), x < n → ∀ y, x < y → (visitD p f x D).1 y = D y
  | 0, _, _, _, _, _ => rfl
  | f + 1, x, D, hn, y, hy => by
    unfold visitD
    by_cases hD : D x = true
    · rw [if_pos hD]
    · rw [if_neg hD]
      show upd (runK (visitD p f) (kids (p x)) D).1 x true y = D y
      rw [upd_ne _ _ _ _ (by omega)]
      have key : ∀ (L : List Nat) (D1 : Nat → Bool), (∀ c ∈ L, c < x) → (runK (visitD p f) L D1).1 y = D1 y := by
        intro L
        induction L with
        | nil => exact fun _ _ => rfl
        | cons c r ih =>
          intro D1 hc
          show (runK (visitD p f) r (visitD p f c D1).1).1 y = D1 y
          rw [ih _ (fun d hd => hc d (.tail _ hd)), visitD_above p n hac f c D1 (by have := hc c (.head _); omega) y (by have := hc c (.head _); omega)]
      exact key _ D (hac x hn)
theorem runD_above (p : Nat → Nd) (n : Nat) (hac : ∀ x, x < n → ∀ c ∈ kids (p x), c < x) (f x : Nat) (hn : x < n) (L : List Nat) (D : Nat → Bool) (hc : ∀ c ∈ L, c < x) : ∀ y, x ≤ y → (runK (visitD p f) L D).1 y = D y := by
  induction L generalizing D with
  | nil => exact fun _ _ => rfl
  | cons c r ih =>
    intro y hy
    show (runK (visitD p f) r (visitD p f c D).1).1 y = D y
    rw [ih _ (fun d hd => hc d (.tail _ hd)) y hy, visitD_above p n hac f c D (by have := hc c (.head _); omega) y (by have := hc c (.head _); omega)]
/-- both ways give the same row -/
theorem visit_same (p : Nat → Nd) (n : Nat) (hac : ∀ x, x < n → ∀ c ∈ kids (p x), c < x) : ∀ (f x b : Nat) (m D : Nat → Bool), x < n → x < b → (∀ y, y < b → m y = D y) →
    (visit p f x m).2 = (visitD p f x D).2 ∧ (∀ y, y < b → (visit p f x m).1 y = (visitD p f x D).1 y) ∧ (∀ y, x < y → (visit p f x m).1 y = m y)
  | 0, x, b, m, D, _, _, h => ⟨rfl, h, fun _ _ => rfl⟩
  | f + 1, x, b, m, D, hn, hx, h => by
    unfold visit visitD
    rw [h x hx]
    by_cases hD : D x = true
    · rw [if_pos hD, if_pos hD]
      exact ⟨rfl, h, fun _ _ => rfl⟩
    · rw [if_neg hD, if_neg hD]
      have key : ∀ (L : List Nat) (m1 D1 : Nat → Bool), (∀ c ∈ L, c < x) → (∀ y, y < x → m1 y = D1 y) →
          (runK (visit p f) L m1).2 = (runK (visitD p f) L D1).2 ∧ (∀ y, y < x → (runK (visit p f) L m1).1 y = (runK (visitD p f) L D1).1 y) ∧ (∀ y, x ≤ y → (runK (visit p f) L m1).1 y = m1 y) := by
        intro L
        induction L with
        | nil => exact fun m1 D1 _ h1 => ⟨rfl, h1, fun _ _ => rfl⟩
        | cons c r ih =>
          intro m1 D1 hc h1
          have hcx := hc c (.head _)
          obtain ⟨i1, i2, i3⟩ := visit_same p n hac f c x m1 D1 (by omega) hcx h1
          obtain ⟨j1, j2, j3⟩ := ih (visit p f c m1).1 (visitD p f c D1).1 (fun d hd => hc d (.tail _ hd)) i2
          refine ⟨?_, j2, fun y hy => ?_⟩
          · show _ ++ _ = _ ++ _
            rw [i1, j1]
          · show (runK (visit p f) r (visit p f c m1).1).1 y = m1 y
            rw [j3 y hy, i3 y (by omega)]
      obtain ⟨k1, k2, k3⟩ := key (kids (p x)) (upd m x true) D (hac x hn) (fun y hy => by rw [upd_ne _ _ _ _ (by omega)]; exact h y (by omega))
      have hDk := runD_above p n hac f x hn (kids (p x)) D (hac x hn)
      refine ⟨by rw [k1], fun y hy => ?_, fun y hy => ?_⟩
      · show (runK (visit p f) (kids (p x)) (upd m x true)).1 y = upd (runK (visitD p f) (kids (p x)) D).1 x true y
        by_cases e : y = x
        · subst e
          rw [k3 y (Nat.le_refl _), upd_same, upd_same]
        · rw [upd_ne _ _ _ _ e]
          by_cases e2 : y < x
          · exact k2 y e2
          · rw [k3 y (by omega), upd_ne _ _ _ _ e, hDk y (by omega), h y hy]
      · show (runK (visit p f) (kids (p x)) (upd m x true)).1 y = m y
        rw [k3 y (by omega), upd_ne _ _ _ _ (by omega)]

/-- THE RULE: what each step keeps, the walk keeps -/
theorem visitD_inv {σ : Type} (p : Nat → Nd) (n : Nat) (hac : ∀ x, x < n → ∀ c ∈ kids (p x), c < x) (I : (Nat → Bool) → σ → Prop) (st : σ → Nat → σ)
    (hst : ∀ D s x, x < n → I D s → D x = false → (∀ c ∈ kids (p x), D c = true) → I (upd D x true) (st s x)) :
    ∀ (f x : Nat) (D : Nat → Bool) (s : σ), x < n → x < f → I D s →
      I (visitD p f x D).1 ((visitD p f x D).2.foldl st s) ∧ (visitD p f x D).1 x = true ∧ (∀ y, D y = true → (visitD p f x D).1 y = true)
  | 0, x, D, s, _, hf, _ => by omega
  | f + 1, x, D, s, hn, hf, h => by
    unfold visitD
    by_cases hD : D x = true
    · rw [if_pos hD]
      exact ⟨h, hD, fun _ h => h⟩
    · rw [if_neg hD]
      have key : ∀ (L : List Nat) (D1 : Nat → Bool) (s1 : σ), (∀ c ∈ L, c < x) → I D1 s1 →
          I (runK (visitD p f) L D1).1 ((runK (visitD p f) L D1).2.foldl st s1) ∧ (∀ c ∈ L, (runK (visitD p f) L D1).1 c = true) ∧ (∀ y, D1 y = true → (runK (visitD p f) L D1).1 y = true) := by
        intro L
        induction L with
        | nil => exact fun D1 s1 _ h1 => ⟨h1, fun c hc => (by cases hc), fun _ h => h⟩
        | cons c r ih =>
          intro D1 s1 hc h1
          have hcx := hc c (.head _)
          obtain ⟨i1, i2, i3⟩ := visitD_inv p n hac I st hst f c D1 s1 (by omega) (by omega) h1
          obtain ⟨j1, j2, j3⟩ := ih (visitD p f c D1).1 _ (fun d hd => hc d (.tail _ hd)) i1
          refine ⟨?_, fun d hd => ?_, fun y hy => j3 y (i3 y hy)⟩
          · show I (runK (visitD p f) r (visitD p f c D1).1).1 (List.foldl st s1 (_ ++ _))
            rw [List.foldl_append]
            exact j1
          · rcases List.mem_cons.1 hd with rfl | hd
            · exact j3 d i2
            · exact j2 d hd
      obtain ⟨k1, k2, k3⟩ := key (kids (p x)) D s (hac x hn) h
      have hx : (runK (visitD p f) (kids (p x)) D).1 x = false := by
        rw [runD_above p n hac f x hn (kids (p x)) D (hac x hn) x (Nat.le_refl _)]
        simpa using hD
      refine ⟨?_, upd_same _ _ _, fun y hy => ?_⟩
      · show I (upd _ x true) (List.foldl st s (_ ++ [x]))
        rw [List.foldl_append]
        exact hst _ _ x hn k1 hx k2
      · show upd _ x true y = true
        by_cases e : y = x
        · rw [e, upd_same]
        · rw [upd_ne _ _ _ _ e]; exact k3 y hy

/-! flat -/
structure FS where
  tm : Nat → Nat
  out : List Nd
def idxN (l : List Nd) (n : Nd) : Option Nat := if n ∈ l then some (l.idxOf n) else none
def stepF (p : Nat → Nd) (s : FS) (x : Nat) : FS :=
  match idxN s.out (remap s.tm (p x)) with
  | some k => ⟨upd s.tm x k, s.out⟩
  | none => ⟨upd s.tm x s.out.length, s.out ++ [remap s.tm (p x)]⟩
theorem idx_at {l : List Nd} (hn : l.Nodup) {k : Nat} {n : Nd} (h : l[k]? = some n) : idxN l n = some k := by
  obtain ⟨hk, rfl⟩ := List.getElem?_eq_some_iff.1 h
  unfold idxN
  rw [if_pos (List.getElem_mem hk), hn.idxOf_getElem k hk]
theorem idx_some {l : List Nd} {n : Nd} {k : Nat} (h : idxN l n = some k) : l[k]? = some n := by
  unfold idxN at h
  by_cases hm : n ∈ l
  · rw [if_pos hm] at h
    injection h with h
    subst h
    rw [List.getElem?_eq_getElem (List.idxOf_lt_length_of_mem hm)]
    simp
  · rw [if_neg hm] at h; cases h
theorem idx_none {l : List Nd} {n : Nd} (h : idxN l n = none) : n ∉ l := by
  unfold idxN at h
  intro hm
  rw [if_pos hm] at h; cases h
/-- what holds of what is done -/
structure Good (p : Nat → Nd) (E : Nat → Bool) (t : FS) : Prop where
  closed : ∀ z, E z = true → ∀ c ∈ kids (p z), E c = true
  key : ∀ z, E z = true → t.out[t.tm z]? = some (remap t.tm (p z))
  nodup : t.out.Nodup
  ord : ∀ k n, t.out[k]? = some n → ∀ c ∈ kids n, c < k
  surj : ∀ k, k < t.out.length → ∃ z, E z = true ∧ t.tm z = k
theorem Good.start (p : Nat → Nd) (g : Nat → Nat) : Good p (fun _ => false) ⟨g, []⟩ :=
  ⟨fun z h => (by cases h), fun z h => (by cases h), List.nodup_nil, fun k n h => (by simp at h), fun k h => (by simp at h)⟩
theorem Good.step {p : Nat → Nd} {E : Nat → Bool} {t : FS} (h : Good p E t) {z : Nat} (hz : E z = false) (hk : ∀ c ∈ kids (p z), E c = true) : Good p (upd E z true) (stepF p t z) := by
  have hold : ∀ y, E y = true → y ≠ z := fun y hy e => by rw [e, hz] at hy; cases hy
  have hcl : ∀ y, upd E z true y = true → ∀ c ∈ kids (p y), E c = true := fun y hy c hc => by
    by_cases e : y = z
    · subst e; exact hk c hc
    · rw [upd_ne _ _ _ _ e] at hy; exact h.closed y hy c hc
  have hin : ∀ y, E y = true → upd E z true y = true := fun y hy => by rw [upd_ne _ _ _ _ (hold y hy)]; exact hy
  have hsame : ∀ (v : Nat) y, upd E z true y = true → remap (upd t.tm z v) (p y) = remap t.tm (p y) := fun v y hy =>
    remap_congr _ _ _ fun c hc => upd_ne _ _ _ _ (hold c (hcl y hy c hc))
  have hlt : ∀ y, E y = true → t.tm y < t.out.length := fun y hy => (List.getElem?_eq_some_iff.1 (h.key y hy)).1
  unfold stepF
  cases hq : idxN t.out (remap t.tm (p z)) with
  | some k =>
    refine ⟨fun y hy c hc => hin c (hcl y hy c hc), fun y hy => ?_, h.nodup, h.ord, fun k' hk' => ?_⟩
    · show t.out[upd t.tm z k y]? = some (remap (upd t.tm z k) (p y))
      rw [hsame k y hy]
      by_cases e : y = z
      · rw [e, upd_same]; exact idx_some hq
      · rw [upd_ne _ _ _ _ e]
        rw [upd_ne _ _ _ _ e] at hy
        exact h.key y hy
    · obtain ⟨y, hy, he⟩ := h.surj k' hk'
      exact ⟨y, hin y hy, by show upd t.tm z k y = k'; rw [upd_ne _ _ _ _ (hold y hy)]; exact he⟩
  | none =>
    have hnm := idx_none hq
    refine ⟨fun y hy c hc => hin c (hcl y hy c hc), fun y hy => ?_, ?_, fun k n hkn c hc => ?_, fun k' hk' => ?_⟩
    · show (t.out ++ [remap t.tm (p z)])[upd t.tm z t.out.length y]? = some (remap (upd t.tm z t.out.length) (p y))
      rw [hsame _ y hy]
      by_cases e : y = z
      · rw [e, upd_same]; simp
      · rw [upd_ne _ _ _ _ e]
        rw [upd_ne _ _ _ _ e] at hy
        rw [List.getElem?_append_left (hlt y hy)]
        exact h.key y hy
    · show (t.out ++ [remap t.tm (p z)]).Nodup
      rw [List.nodup_append]
      exact ⟨h.nodup, by simp, fun a ha b hb e => by
        have : b = remap t.tm (p z) := by simpa using hb
        rw [this] at e
        exact hnm (e ▸ ha)⟩
    · have hkn : (t.out ++ [remap t.tm (p z)])[k]? = some n := hkn
      by_cases hkl : k < t.out.length
      · rw [List.getElem?_append_left hkl] at hkn
        exact h.ord k n hkn c hc
      · rw [List.getElem?_append_right (by omega)] at hkn
        have hk0 : k - t.out.length = 0 := by
          rcases Nat.eq_zero_or_pos (k - t.out.length) with h0 | h0
          · exact h0
          · rw [List.getElem?_eq_none (by simp; omega)] at hkn; cases hkn
        rw [hk0] at hkn
        have hn : remap t.tm (p z) = n := by simpa using hkn
        rw [← hn, kids_remap] at hc
        obtain ⟨d, hd, rfl⟩ := List.mem_map.1 hc
        have := hlt d (hk d hd)
        omega
    · have hk' : k' < (t.out ++ [remap t.tm (p z)]).length := hk'
      rw [List.length_append] at hk'
      by_cases hkl : k' < t.out.length
      · obtain ⟨y, hy, he⟩ := h.surj k' hkl
        exact ⟨y, hin y hy, by show upd t.tm z t.out.length y = k'; rw [upd_ne _ _ _ _ (hold y hy)]; exact he⟩
      · exact ⟨z, upd_same _ _ _, by show upd t.tm z t.out.length z = k'; rw [upd_same]; simp at hk'; omega⟩

/-! a program that covers another one -/
structure Cover (P Q : Nat → Nd) (nP nQ : Nat) (S : Nat → Prop) (f : Nat → Nat) : Prop where
  lt : ∀ x, S x → x < nP
  down : ∀ x, S x → ∀ c ∈ kids (P x), S c
  top : ∀ x, S x → f x < nQ
  node : ∀ x, S x → Q (f x) = remap f (P x)
structure Sim (S : Nat → Prop) (f : Nat → Nat) (Q : Nat → Nd) (D : Nat → Bool) (s : FS) (E : Nat → Bool) (t : FS) : Prop where
  out : s.out = t.out
  met : ∀ y, D y = true → S y ∧ E (f y) = true ∧ s.tm y = t.tm (f y)
  good : Good Q E t
theorem remap_cover {P Q : Nat → Nd} {nP nQ : Nat} {S : Nat → Prop} {f : Nat → Nat} (hc : Cover P Q nP nQ S f) {x : Nat} (hx : S x) (a b : Nat → Nat) (h : ∀ c ∈ kids (P x), a c = b (f c)) : remap a (P x) = remap b (Q (f x)) := by
  rw [hc.node x hx]
  unfold remap
  by_cases h5 : (P x).kind = 5
  · have h1 := h (P x).a.toNat (by simp [kids, h5])
    have h2 := h (P x).b.toNat (by simp [kids, h5])
    simp only [h5, if_true, h1, h2, Int.toNat_natCast]
  · by_cases h6 : (P x).kind = 6
    · have h1 := h (P x).a.toNat (by simp [kids, h6])
      simp only [h6, if_true, h1, Int.toNat_natCast]
      simp
    · simp [h5, h6]
theorem sim {P Q : Nat → Nd} {nP nQ : Nat} {S : Nat → Prop} {f : Nat → Nat} (hc : Cover P Q nP nQ S f) (hP : ∀ x, x < nP → ∀ c ∈ kids (P x), c < x) (hQ : ∀ x, x < nQ → ∀ c ∈ kids (Q x), c < x) :
    ∀ (a x b : Nat) (D : Nat → Bool) (s : FS) (E : Nat → Bool) (t : FS), S x → x < a → f x < b → Sim S f Q D s E t →
      Sim S f Q (visitD P a x D).1 ((visitD P a x D).2.foldl (stepF P) s) (visitD Q b (f x) E).1 ((visitD Q b (f x) E).2.foldl (stepF Q) t)
  | 0, x, b, D, s, E, t, _, ha, _, _ => by omega
  | a + 1, x, b, D, s, E, t, hx, ha, hb, h => by
    obtain ⟨b, rfl⟩ : ∃ c, b = c + 1 := ⟨b - 1, by omega⟩
    have hxn := hc.lt x hx
    have hkx := hP x hxn
    have hkk : kids (Q (f x)) = (kids (P x)).map f := by rw [hc.node x hx, kids_remap]
    by_cases hD : D x = true
    · have hE := (h.met x hD).2.1
      unfold visitD
      rw [if_pos hD, if_pos hE]
      exact h
    · have hDf : D x = false := by simpa using hD
      by_cases hE : E (f x) = true
      · have eQ : visitD Q (b + 1) (f x) E = (E, []) := by unfold visitD; rw [if_pos hE]
        rw [eQ]
        have key : ∀ (L : List Nat) (D1 : Nat → Bool) (s1 : FS), (∀ c ∈ L, c < x ∧ S c ∧ E (f c) = true) → Sim S f Q D1 s1 E t →
            Sim S f Q (runK (visitD P a) L D1).1 ((runK (visitD P a) L D1).2.foldl (stepF P) s1) E t ∧ (∀ c ∈ L, (runK (visitD P a) L D1).1 c = true) ∧ (∀ y, D1 y = true → (runK (visitD P a) L D1).1 y = true) := by
          intro L
          induction L with
          | nil => exact fun D1 s1 _ h1 => ⟨h1, fun c hc => (by cases hc), fun _ h => h⟩
          | cons c r ih =>
            intro D1 s1 hL h1
            obtain ⟨hcx, hcS, hcE⟩ := hL c (.head _)
            have i := sim hc hP hQ a c (f c + 1) D1 s1 E t hcS (by omega) (by omega) h1
            have eQc : visitD Q (f c + 1) (f c) E = (E, []) := by unfold visitD; rw [if_pos hcE]
            rw [eQc] at i
            have m := visitD_inv P nP hP (fun _ _ => True) (fun (u : Unit) _ => u) (fun _ _ _ _ _ _ _ => trivial) a c D1 () (hc.lt c hcS) (by omega) trivial
            obtain ⟨j1, j2, j3⟩ := ih (visitD P a c D1).1 _ (fun d hd => hL d (.tail _ hd)) i
            refine ⟨?_, fun d hd => ?_, fun y hy => j3 y (m.2.2 y hy)⟩
            · show Sim S f Q (runK (visitD P a) r (visitD P a c D1).1).1 (List.foldl (stepF P) s1 (_ ++ _)) E t
              rw [List.foldl_append]
              exact j1
            · rcases List.mem_cons.1 hd with rfl | hd
              · exact j3 d m.2.1
              · exact j2 d hd
        obtain ⟨k1, k2, k3⟩ := key (kids (P x)) D s (fun c hcc => ⟨hkx c hcc, hc.down x hx c hcc, h.good.closed (f x) hE (f c) (by rw [hkk]; exact List.mem_map.2 ⟨c, hcc, rfl⟩)⟩) h
        have hux : (runK (visitD P a) (kids (P x)) D).1 x = false := by
          rw [runD_above P nP hP a x hxn (kids (P x)) D hkx x (Nat.le_refl _)]; exact hDf
        unfold visitD
        rw [if_neg hD]
        show Sim S f Q (upd _ x true) (List.foldl (stepF P) s (_ ++ [x])) E t
        rw [List.foldl_append]
        obtain ⟨D1, hD1⟩ : ∃ D1, (runK (visitD P a) (kids (P x)) D).1 = D1 := ⟨_, rfl⟩
        obtain ⟨s1, hs1⟩ : ∃ s1, (runK (visitD P a) (kids (P x)) D).2.foldl (stepF P) s = s1 := ⟨_, rfl⟩
        rw [hD1, hs1] at k1
        rw [hD1] at k2 hux
        rw [hD1, hs1]
        show Sim S f Q (upd D1 x true) (stepF P s1 x) E t
        have hkey : remap s1.tm (P x) = remap t.tm (Q (f x)) := remap_cover hc hx _ _ fun c hcc => (k1.met c (k2 c hcc)).2.2
        have hidx : idxN s1.out (remap s1.tm (P x)) = some (t.tm (f x)) := by
          rw [k1.out, hkey]
          exact idx_at k1.good.nodup (k1.good.key (f x) hE)
        unfold stepF
        rw [hidx]
        refine ⟨k1.out, fun y hy => ?_, k1.good⟩
        by_cases e : y = x
        · subst e
          exact ⟨hx, hE, by show upd s1.tm y _ y = _; rw [upd_same]⟩
        · rw [upd_ne _ _ _ _ e] at hy
          obtain ⟨m1, m2, m3⟩ := k1.met y hy
          exact ⟨m1, m2, by show upd s1.tm x _ y = _; rw [upd_ne _ _ _ _ e]; exact m3⟩
      · have hEf : E (f x) = false := by simpa using hE
        have hfn := hc.top x hx
        have key : ∀ (L : List Nat) (D1 : Nat → Bool) (s1 : FS) (E1 : Nat → Bool) (t1 : FS), (∀ c ∈ L, c < x ∧ S c ∧ f c < f x) → Sim S f Q D1 s1 E1 t1 →
            Sim S f Q (runK (visitD P a) L D1).1 ((runK (visitD P a) L D1).2.foldl (stepF P) s1) (runK (visitD Q b) (L.map f) E1).1 ((runK (visitD Q b) (L.map f) E1).2.foldl (stepF Q) t1) ∧ (∀ c ∈ L, (runK (visitD P a) L D1).1 c = true) ∧ (∀ y, D1 y = true → (runK (visitD P a) L D1).1 y = true) := by
          intro L
          induction L with
          | nil => exact fun D1 s1 E1 t1 _ h1 => ⟨h1, fun c hc => (by cases hc), fun _ h => h⟩
          | cons c r ih =>
            intro D1 s1 E1 t1 hL h1
            obtain ⟨hcx, hcS, hcf⟩ := hL c (.head _)
            have i := sim hc hP hQ a c b D1 s1 E1 t1 hcS (by omega) (by omega) h1
            have m := visitD_inv P nP hP (fun _ _ => True) (fun (u : Unit) _ => u) (fun _ _ _ _ _ _ _ => trivial) a c D1 () (hc.lt c hcS) (by omega) trivial
            obtain ⟨j1, j2, j3⟩ := ih (visitD P a c D1).1 _ (visitD Q b (f c) E1).1 _ (fun d hd => hL d (.tail _ hd)) i
            refine ⟨?_, fun d hd => ?_, fun y hy => j3 y (m.2.2 y hy)⟩
            · show Sim S f Q (runK (visitD P a) r (visitD P a c D1).1).1 (List.foldl (stepF P) s1 (_ ++ _)) (runK (visitD Q b) (r.map f) (visitD Q b (f c) E1).1).1 (List.foldl (stepF Q) t1 (_ ++ _))
              rw [List.foldl_append, List.foldl_append]
              exact j1
            · rcases List.mem_cons.1 hd with rfl | hd
              · exact j3 d m.2.1
              · exact j2 d hd
        have hfk : ∀ c ∈ kids (P x), f c < f x := fun c hcc => hQ (f x) hfn (f c) (by rw [hkk]; exact List.mem_map.2 ⟨c, hcc, rfl⟩)
        obtain ⟨k1, k2, k3⟩ := key (kids (P x)) D s E t (fun c hcc => ⟨hkx c hcc, hc.down x hx c hcc, hfk c hcc⟩) h
        have hux : (runK (visitD P a) (kids (P x)) D).1 x = false := by
          rw [runD_above P nP hP a x hxn (kids (P x)) D hkx x (Nat.le_refl _)]; exact hDf
        have hue : (runK (visitD Q b) ((kids (P x)).map f) E).1 (f x) = false := by
          rw [runD_above Q nQ hQ b (f x) hfn ((kids (P x)).map f) E (fun d hd => by obtain ⟨c, hcc, rfl⟩ := List.mem_map.1 hd; exact hfk c hcc) (f x) (Nat.le_refl _)]; exact hEf
        unfold visitD
        rw [if_neg hD, if_neg hE, hkk]
        show Sim S f Q (upd _ x true) (List.foldl (stepF P) s (_ ++ [x])) (upd _ (f x) true) (List.foldl (stepF Q) t (_ ++ [f x]))
        rw [List.foldl_append, List.foldl_append]
        obtain ⟨D1, hD1⟩ : ∃ D1, (runK (visitD P a) (kids (P x)) D).1 = D1 := ⟨_, rfl⟩
        obtain ⟨s1, hs1⟩ : ∃ s1, (runK (visitD P a) (kids (P x)) D).2.foldl (stepF P) s = s1 := ⟨_, rfl⟩
        obtain ⟨E1, hE1⟩ : ∃ E1, (runK (visitD Q b) ((kids (P x)).map f) E).1 = E1 := ⟨_, rfl⟩
        obtain ⟨t1, ht1⟩ : ∃ t1, (runK (visitD Q b) ((kids (P x)).map f) E).2.foldl (stepF Q) t = t1 := ⟨_, rfl⟩
        rw [hD1, hs1, hE1, ht1] at k1
        rw [hD1] at k2 hux
        rw [hE1] at hue
        rw [hD1, hs1, hE1, ht1]
        show Sim S f Q (upd D1 x true) (stepF P s1 x) (upd E1 (f x) true) (stepF Q t1 (f x))
        have hkey : remap s1.tm (P x) = remap t1.tm (Q (f x)) := remap_cover hc hx _ _ fun c hcc => (k1.met c (k2 c hcc)).2.2
        have hgood := k1.good.step hue (fun d hd => by
          rw [hkk] at hd
          obtain ⟨c, hcc, rfl⟩ := List.mem_map.1 hd
          exact (k1.met c (k2 c hcc)).2.1)
        have hne : ∀ y, D1 y = true → f y ≠ f x := fun y hy e => by
          have := (k1.met y hy).2.1
          rw [e, hue] at this
          cases this
        have hto : (stepF P s1 x).out = (stepF Q t1 (f x)).out ∧ ∃ v, (stepF P s1 x).tm = upd s1.tm x v ∧ (stepF Q t1 (f x)).tm = upd t1.tm (f x) v := by
          unfold stepF
          rw [hkey, k1.out]
          cases idxN t1.out (remap t1.tm (Q (f x))) with
          | some k => exact ⟨rfl, k, rfl, rfl⟩
          | none => exact ⟨rfl, _, rfl, rfl⟩
        obtain ⟨ho, v, hv1, hv2⟩ := hto
        refine ⟨ho, fun y hy => ?_, hgood⟩
        rw [hv1, hv2]
        by_cases e : y = x
        · subst e
          exact ⟨hx, upd_same _ _ _, by rw [upd_same, upd_same]⟩
        · rw [upd_ne _ _ _ _ e] at hy
          obtain ⟨m1, m2, m3⟩ := k1.met y hy
          exact ⟨m1, by rw [upd_ne _ _ _ _ (hne y hy)]; exact m2, by rw [upd_ne _ _ _ _ e, upd_ne _ _ _ _ (hne y hy)]; exact m3⟩
end Go.Proofs.Ytlhdabpoljoobaa.flatm
