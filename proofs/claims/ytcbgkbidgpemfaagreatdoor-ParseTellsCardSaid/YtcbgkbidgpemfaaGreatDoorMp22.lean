/- Whole numbers of any size, as burnishref16 keeps them: digits of 10^9, the least one first. Plain; no condition but those stated. -/
import Derived.Test.YtcbgkbidgpemfaaGreatDoorMp10
namespace Go.Proofs.YtcbgkbidgpemfaaGreatDoor.rg

def bv : List Nat → Nat
  | [] => 0
  | d :: l => d + 1000000000 * bv l
def BOk (l : List Nat) : Prop := ∀ d ∈ l, d < 1000000000
def Trim (l : List Nat) : Prop := l ≠ [] → 1000000000 ^ (l.length - 1) ≤ bv l
def dig (n : Nat) : List Nat := if h : n = 0 then [] else n % 1000000000 :: dig (n / 1000000000)
termination_by n
decreasing_by omega
def timesL (by_ : Nat) : List Nat → Nat → List Nat
  | [], more => dig more
  | d :: l, more => (d * by_ + more) % 1000000000 :: timesL by_ l ((d * by_ + more) / 1000000000)
theorem dig_zero : dig 0 = [] := by unfold dig; rfl
theorem dig_pos {n : Nat} (h : n ≠ 0) : dig n = n % 1000000000 :: dig (n / 1000000000) := by
  conv => lhs; unfold dig
  rw [dif_neg h]
theorem bv_dig (n : Nat) : bv (dig n) = n := by
  induction n using Nat.strongRecOn with
  | _ n ih =>
    by_cases h : n = 0
    · subst h; rw [dig_zero]; rfl
    · rw [dig_pos h]
      show n % 1000000000 + 1000000000 * bv (dig (n / 1000000000)) = n
      rw [ih _ (by omega)]
      omega
theorem ok_dig (n : Nat) : BOk (dig n) := by
  induction n using Nat.strongRecOn with
  | _ n ih =>
    by_cases h : n = 0
    · subst h; rw [dig_zero]; intro d hd; cases hd
    · rw [dig_pos h]
      intro d hd
      rcases List.mem_cons.1 hd with rfl | hd
      · omega
      · exact ih _ (by omega) d hd
theorem trim_cons (d : Nat) (l : List Nat) (h : Trim l) (h0 : l = [] → d ≠ 0) : Trim (d :: l) := by
  intro _
  by_cases hl : l = []
  · subst hl
    have := h0 rfl
    show 1000000000 ^ 0 ≤ d + 1000000000 * 0
    omega
  · have h1 := h hl
    obtain ⟨k, hk⟩ : ∃ k, l.length = k + 1 := ⟨l.length - 1, by have := List.length_pos_iff.2 hl; omega⟩
    rw [hk, Nat.add_sub_cancel] at h1
    show 1000000000 ^ ((d :: l).length - 1) ≤ d + 1000000000 * bv l
    rw [List.length_cons, Nat.add_sub_cancel, hk, Nat.pow_succ]
    omega
theorem trim_tail {d : Nat} {l : List Nat} (hd : d < 1000000000) (h : Trim (d :: l)) : Trim l := by
  intro hl
  have h1 := h (by simp)
  obtain ⟨k, hk⟩ : ∃ k, l.length = k + 1 := ⟨l.length - 1, by have := List.length_pos_iff.2 hl; omega⟩
  rw [List.length_cons, Nat.add_sub_cancel, hk, Nat.pow_succ] at h1
  rw [hk, Nat.add_sub_cancel]
  have h2 : bv (d :: l) = d + 1000000000 * bv l := rfl
  rw [h2] at h1
  omega
theorem trim_dig (n : Nat) : Trim (dig n) := by
  induction n using Nat.strongRecOn with
  | _ n ih =>
    by_cases h : n = 0
    · subst h; rw [dig_zero]; intro h; exact absurd rfl h
    · rw [dig_pos h]
      refine trim_cons _ _ (ih _ (by omega)) fun h0 => ?_
      have h1 := bv_dig (n / 1000000000)
      rw [h0] at h1
      have h2 : bv [] = 0 := rfl
      omega
theorem bv_times (by_ : Nat) : ∀ (l : List Nat) (more : Nat), bv (timesL by_ l more) = bv l * by_ + more
  | [], more => by
    show bv (dig more) = 0 * by_ + more
    rw [bv_dig, Nat.zero_mul, Nat.zero_add]
  | d :: l, more => by
    show (d * by_ + more) % 1000000000 + 1000000000 * bv (timesL by_ l ((d * by_ + more) / 1000000000)) = (d + 1000000000 * bv l) * by_ + more
    rw [bv_times by_ l, Nat.add_mul, Nat.mul_assoc]
    obtain ⟨x, hx⟩ : ∃ x, x = d * by_ := ⟨_, rfl⟩
    obtain ⟨y, hy⟩ : ∃ y, y = bv l * by_ := ⟨_, rfl⟩
    rw [← hx, ← hy]
    omega
theorem ok_times (by_ : Nat) : ∀ (l : List Nat) (more : Nat), BOk (timesL by_ l more)
  | [], more => ok_dig more
  | d :: l, more => fun x hx => by
    rcases List.mem_cons.1 hx with rfl | hx
    · exact Nat.mod_lt _ (by decide)
    · exact ok_times by_ l _ x hx
theorem times_nil {by_ : Nat} : ∀ {l : List Nat} {more : Nat}, timesL by_ l more = [] → l = [] ∧ more = 0
  | [], more, h => ⟨rfl, by
    by_cases h0 : more = 0
    · exact h0
    · have h' : dig more = [] := h
      rw [dig_pos h0] at h'
      cases h'⟩
  | _ :: _, _, h => by cases h
theorem trim_times (by_ : Nat) (hb : 0 < by_) : ∀ (l : List Nat) (more : Nat), BOk l → Trim l → Trim (timesL by_ l more)
  | [], more, _, _ => trim_dig more
  | d :: l, more, ho, ht => by
    have hd := ho d (by simp)
    refine trim_cons _ _ (trim_times by_ hb l _ (fun x hx => ho x (by simp [hx])) (trim_tail hd ht)) fun h0 => ?_
    obtain ⟨h1, h2⟩ := times_nil h0
    subst h1
    have h3 := ht (by simp)
    have h4 : bv [d] = d := by show d + 1000000000 * 0 = d; omega
    rw [h4] at h3
    have h5 : 0 < d := h3
    have h6 : 0 < d * by_ := Nat.mul_pos h5 hb
    omega
theorem dig_len (n : Nat) (h : n < 1000000000000000000) : (dig n).length ≤ 2 := by
  by_cases h0 : n = 0
  · subst h0; rw [dig_zero]; decide
  · rw [dig_pos h0]
    by_cases h1 : n / 1000000000 = 0
    · rw [h1, dig_zero]; simp
    · rw [dig_pos h1, show n / 1000000000 / 1000000000 = 0 by omega, dig_zero]
      simp
theorem times_len (by_ : Nat) (hb : by_ ≤ 10000000000) : ∀ (l : List Nat) (more : Nat), BOk l → more < 1000000000000000000 → (l ≠ [] → more ≤ 10000000000) → (timesL by_ l more).length ≤ l.length + 2
  | [], more, _, hm, _ => by
    have := dig_len more hm
    show (dig more).length ≤ 0 + 2
    omega
  | d :: l, more, ho, _, hm => by
    have h1 := hm (by simp)
    have h2 := ho d (by simp)
    have h3 : d * by_ ≤ 999999999 * 10000000000 := Nat.mul_le_mul (by omega) hb
    have h4 : (d * by_ + more) / 1000000000 ≤ 10000000000 := by omega
    have := times_len by_ hb l ((d * by_ + more) / 1000000000) (fun x hx => ho x (by simp [hx])) (by omega) (fun _ => h4)
    show (timesL by_ l _).length + 1 ≤ l.length + 1 + 2
    omega
theorem bv_lt : ∀ (l : List Nat), BOk l → bv l < 1000000000 ^ l.length
  | [], _ => by show 0 < 1; omega
  | d :: l, h => by
    have h1 := bv_lt l fun x hx => h x (by simp [hx])
    have h2 := h d (by simp)
    show d + 1000000000 * bv l < 1000000000 ^ (l.length + 1)
    rw [Nat.pow_succ]
    omega
theorem len_lt {a b : List Nat} (ha : BOk a) (hb : Trim b) (h : a.length < b.length) : bv a < bv b := by
  have h1 := bv_lt a ha
  have h2 := hb (by intro e; subst e; simp at h)
  exact Nat.lt_of_lt_of_le h1 (Nat.le_trans (Nat.pow_le_pow_right (by decide) (by omega)) h2)
/-- the greater one of two of the same length is told by the last place where they part -/
theorem bv_app : ∀ (a b : List Nat), bv (a ++ b) = bv a + 1000000000 ^ a.length * bv b
  | [], b => by show bv b = 0 + 1 * bv b; omega
  | d :: a, b => by
    show d + 1000000000 * bv (a ++ b) = d + 1000000000 * bv a + 1000000000 ^ (a.length + 1) * bv b
    rw [bv_app a b, Nat.pow_succ, Nat.mul_add, Nat.mul_comm (1000000000 ^ a.length) 1000000000, Nat.mul_assoc]
    omega
theorem part_lt (a b : List Nat) (ha : BOk a) (hl : a.length = b.length) (i : Nat) (hi : i < a.length) (hs : a.drop (i + 1) = b.drop (i + 1)) (h : a[i] < b[i]'(by omega)) : bv a < bv b := by
  have e1 : bv a = bv (a.take i) + 1000000000 ^ i * bv (a.drop i) := by
    conv => lhs; rw [← List.take_append_drop i a]
    rw [bv_app, List.length_take, Nat.min_eq_left (by omega)]
  have e2 : bv b = bv (b.take i) + 1000000000 ^ i * bv (b.drop i) := by
    conv => lhs; rw [← List.take_append_drop i b]
    rw [bv_app, List.length_take, Nat.min_eq_left (by omega)]
  have d1 : bv (a.drop i) = a[i] + 1000000000 * bv (a.drop (i + 1)) := by rw [List.drop_eq_getElem_cons hi]; rfl
  have d2 : bv (b.drop i) = b[i] + 1000000000 * bv (b.drop (i + 1)) := by rw [List.drop_eq_getElem_cons (by omega)]; rfl
  have l1 := bv_lt (a.take i) fun x hx => ha x (List.mem_of_mem_take hx)
  rw [List.length_take, Nat.min_eq_left (by omega)] at l1
  rw [e1, e2, d1, d2, hs]
  have h2 : 1000000000 ^ i * (a[i] + 1000000000 * bv (b.drop (i + 1))) + 1000000000 ^ i ≤ 1000000000 ^ i * (b[i] + 1000000000 * bv (b.drop (i + 1))) := by
    rw [← Nat.mul_succ]
    exact Nat.mul_le_mul_left _ (by omega)
  omega
theorem trim_nil {l : List Nat} (h : Trim l) : bv l = 0 ↔ l = [] := by
  refine ⟨fun h0 => ?_, fun e => by rw [e]; rfl⟩
  by_cases hl : l = []
  · exact hl
  · have h1 := h hl
    have h2 : 0 < 1000000000 ^ (l.length - 1) := Nat.pow_pos (by decide)
    omega
end Go.Proofs.YtcbgkbidgpemfaaGreatDoor.rg
