/- Small laws of worlds and of operations. No conditions but those stated. -/
import Derived.Test.YtcbgkbidgpemfaaGreatDoorProg
import Derived.Outline
import Derived.Deep.LoopGhost
import Derived.Laws.OwnMore
import Derived.Laws.FloatBits
import Derived.Laws.FloatArith
import Derived.Laws.Externs
import Derived.Lib.Hide
import Derived.WalkKit
import Derived.WalkLawsBesides
import Derived.Handy
import Derived.WalkMore
import Derived.IntWalk
import Derived.BigQuiet
import Derived.Lib.BitFns
import Derived.Below
import Derived.Deep.AppendLies
import Derived.Deep.Cut
import Derived.Deep.CutBlock
import Derived.Deep.CutRange
import Derived.Deep.Draws
import Derived.Deep.MidRow
import Derived.Deep.QuietTactic
import Derived.Deep.RegionHeld3
import Derived.Deep.DeepFit
import Derived.Laws.BitsAllLaws
import Derived.Laws.Pointers
import Derived.Laws.Tables
import Derived.OwnWalk
import Derived.RegionTactic
import Derived.StillTactics
import Derived.WalkSpells
import Derived.Shelf.Strconv.Itoa0
import Derived.Shelf.Strconv.Itoa1
import Derived.Shelf.Strconv.Itoa2
import Derived.Shelf.Strconv.Itoa3
import Derived.Shelf.LaysM
import Derived.Shelf.Bits.Mul64
import Derived.Shelf.Strings.OnBuilder
import Derived.Shelf.Strings.BuilderK
import Derived.Shelf.Strconv.Atoi
import Derived.Shelf.Strings.Cut
import Derived.Shelf.Strings.Split
import Derived.Shelf.Strings.Replace
import Derived.Shelf.Strings.Repeat
import Derived.Shelf.Small.Wraps
import Derived.Shelf.Strconv.Clone
import Derived.Shelf.Strconv.SyntaxError
import Derived.Shelf.LaysC
import Derived.Shelf.Strconv.ToError
import Derived.Shelf.Strconv.Lower
import Derived.Shelf.Strconv.RangeError
import Derived.Shelf.Strconv.ToErrorRange
import Derived.Shelf.Strings.Prefix
import Derived.Shelf.Strings.Builder1
import Derived.Shelf.Strings.Builder2
import Derived.Shelf.Small.Strs
import Derived.Shelf.Strings.BuilderF
import Derived.Shelf.Strings.Search1
import Derived.Shelf.Strings.Search2
import Derived.Shelf.Strings.Search3
import Derived.Shelf.Strings.Shaped
namespace Go.Proofs.YtcbgkbidgpemfaaGreatDoor.bsw
open Go.RowKit
theorem grown_below {w w' : World} (h : Below w.heap.size w w') (row : Option Nat) : w.grownBy w' row := ⟨h.os, h.tape, h.output, h.size, fun k hk _ => h.block k hk⟩
theorem grown_trans {a b c : World} {row : Option Nat} (h : a.grownBy b row) (k : b.grownBy c row) : a.grownBy c row :=
  ⟨k.os.trans h.os, k.tape.trans h.tape, k.output.trans h.output, Nat.le_trans h.size k.size, fun i hi hr => (k.block i (Nat.lt_of_lt_of_le hi h.size) hr).trans (h.block i hi hr)⟩
theorem heap_set (w : World) (g j : Nat) (cs : Array Value) (t : TypeId) (fr : Nat × Nat) (v : Value) (h : w.heap[g]? = some (.cells cs t fr)) :
    (w.setCell ⟨g, j, none⟩ v).heap[g]? = some (.cells (cs.setIfInBounds j v) t fr) := by
  obtain ⟨hlt, hk⟩ := Array.getElem?_eq_some_iff.1 h
  show (w.heap.modify g _)[g]? = _
  rw [Array.getElem?_eq_getElem (by rw [Array.size_modify]; exact hlt), Array.getElem_modify_self, hk]
  simp
theorem not_frozen {w : World} {g : Nat} {cs : Array Value} {t : TypeId} (h : w.heap[g]? = some (.cells cs t (0, 0))) (j : Nat) : w.frozen? ⟨g, j, none⟩ = false := by
  simp [World.frozen?, h]
end Go.Proofs.YtcbgkbidgpemfaaGreatDoor.bsw

/- Whole numbers of any size, as burnishref16 keeps them: digits of 10^9, the least one first. Plain; no condition but those stated. -/
namespace Go.Proofs.YtcbgkbidgpemfaaGreatDoor.rg

def bv : List Nat → Nat
  | [] => 0
  | d :: l => d + 1000000000 * bv l
def BOk (l : List Nat) : Prop := ∀ d ∈ l, d < 1000000000
def Trim (l : List Nat) : Prop := l ≠ [] → 1000000000 ^ (l.length - 1) ≤ bv l
def dig (n : Nat) : List Nat := if h : n = 0 then [] else n % 1000000000 :: dig (n / 1000000000)
termination_by n
decreasing_by omega
def timesL (by_ : Nat) : List Nat → Nat → List Nat
  | [], more => dig more
  | d :: l, more => (d * by_ + more) % 1000000000 :: timesL by_ l ((d * by_ + more) / 1000000000)
theorem dig_zero : dig 0 = [] := by unfold dig; rfl
theorem dig_pos {n : Nat} (h : n ≠ 0) : dig n = n % 1000000000 :: dig (n / 1000000000) := by
  conv => lhs; unfold dig
  rw [dif_neg h]
theorem bv_dig (n : Nat) : bv (dig n) = n := by
  induction n using Nat.strongRecOn with
  | _ n ih =>
    by_cases h : n = 0
    · subst h; rw [dig_zero]; rfl
    · rw [dig_pos h]
      show n % 1000000000 + 1000000000 * bv (dig (n / 1000000000)) = n
      rw [ih _ (by omega)]
      omega
theorem ok_dig (n : Nat) : BOk (dig n) := by
  induction n using Nat.strongRecOn with
  | _ n ih =>
    by_cases h : n = 0
    · subst h; rw [dig_zero]; intro d hd; cases hd
    · rw [dig_pos h]
      intro d hd
      rcases List.mem_cons.1 hd with rfl | hd
      · omega
      · exact ih _ (by omega) d hd
theorem trim_cons (d : Nat) (l : List Nat) (h : Trim l) (h0 : l = [] → d ≠ 0) : Trim (d :: l) := by
  intro _
  by_cases hl : l = []
  · subst hl
    have := h0 rfl
    show 1000000000 ^ 0 ≤ d + 1000000000 * 0
    omega
  · have h1 := h hl
    obtain ⟨k, hk⟩ : ∃ k, l.length = k + 1 := ⟨l.length - 1, by have := List.length_pos_iff.2 hl; omega⟩
    rw [hk, Nat.add_sub_cancel] at h1
    show 1000000000 ^ ((d :: l).length - 1) ≤ d + 1000000000 * bv l
    rw [List.length_cons, Nat.add_sub_cancel, hk, Nat.pow_succ]
    omega
theorem trim_tail {d : Nat} {l : List Nat} (hd : d < 1000000000) (h : Trim (d :: l)) : Trim l := by
  intro hl
  have h1 := h (by simp)
  obtain ⟨k, hk⟩ : ∃ k, l.length = k + 1 := ⟨l.length - 1, by have := List.length_pos_iff.2 hl; omega⟩
  rw [List.length_cons, Nat.add_sub_cancel, hk, Nat.pow_succ] at h1
  rw [hk, Nat.add_sub_cancel]
  have h2 : bv (d :: l) = d + 1000000000 * bv l := rfl
  rw [h2] at h1
  omega
theorem trim_dig (n : Nat) : Trim (dig n) := by
  induction n using Nat.strongRecOn with
  | _ n ih =>
    by_cases h : n = 0
    · subst h; rw [dig_zero]; intro h; exact absurd rfl h
    · rw [dig_pos h]
      refine trim_cons _ _ (ih _ (by omega)) fun h0 => ?_
      have h1 := bv_dig (n / 1000000000)
      rw [h0] at h1
      have h2 : bv [] = 0 := rfl
      omega
theorem bv_times (by_ : Nat) : ∀ (l : List Nat) (more : Nat), bv (timesL by_ l more) = bv l * by_ + more
  | [], more => by
    show bv (dig more) = 0 * by_ + more
    rw [bv_dig, Nat.zero_mul, Nat.zero_add]
  | d :: l, more => by
    show (d * by_ + more) % 1000000000 + 1000000000 * bv (timesL by_ l ((d * by_ + more) / 1000000000)) = (d + 1000000000 * bv l) * by_ + more
    rw [bv_times by_ l, Nat.add_mul, Nat.mul_assoc]
    obtain ⟨x, hx⟩ : ∃ x, x = d * by_ := ⟨_, rfl⟩
    obtain ⟨y, hy⟩ : ∃ y, y = bv l * by_ := ⟨_, rfl⟩
    rw [← hx, ← hy]
    omega
theorem ok_times (by_ : Nat) : ∀ (l : List Nat) (more : Nat), BOk (timesL by_ l more)
  | [], more => ok_dig more
  | d :: l, more => fun x hx => by
    rcases List.mem_cons.1 hx with rfl | hx
    · exact Nat.mod_lt _ (by decide)
    · exact ok_times by_ l _ x hx
theorem times_nil {by_ : Nat} : ∀ {l : List Nat} {more : Nat}, timesL by_ l more = [] → l = [] ∧ more = 0
  | [], more, h => ⟨rfl, by
    by_cases h0 : more = 0
    · exact h0
    · have h' : dig more = [] := h
      rw [dig_pos h0] at h'
      cases h'⟩
  | _ :: _, _, h => by cases h
theorem trim_times (by_ : Nat) (hb : 0 < by_) : ∀ (l : List Nat) (more : Nat), BOk l → Trim l → Trim (timesL by_ l more)
  | [], more, _, _ => trim_dig more
  | d :: l, more, ho, ht => by
    have hd := ho d (by simp)
    refine trim_cons _ _ (trim_times by_ hb l _ (fun x hx => ho x (by simp [hx])) (trim_tail hd ht)) fun h0 => ?_
    obtain ⟨h1, h2⟩ := times_nil h0
    subst h1
    have h3 := ht (by simp)
    have h4 : bv [d] = d := by show d + 1000000000 * 0 = d; omega
    rw [h4] at h3
    have h5 : 0 < d := h3
    have h6 : 0 < d * by_ := Nat.mul_pos h5 hb
    omega
theorem dig_len (n : Nat) (h : n < 1000000000000000000) : (dig n).length ≤ 2 := by
  by_cases h0 : n = 0
  · subst h0; rw [dig_zero]; decide
  · rw [dig_pos h0]
    by_cases h1 : n / 1000000000 = 0
    · rw [h1, dig_zero]; simp
    · rw [dig_pos h1, show n / 1000000000 / 1000000000 = 0 by omega, dig_zero]
      simp
theorem times_len (by_ : Nat) (hb : by_ ≤ 10000000000) : ∀ (l : List Nat) (more : Nat), BOk l → more < 1000000000000000000 → (l ≠ [] → more ≤ 10000000000) → (timesL by_ l more).length ≤ l.length + 2
  | [], more, _, hm, _ => by
    have := dig_len more hm
    show (dig more).length ≤ 0 + 2
    omega
  | d :: l, more, ho, _, hm => by
    have h1 := hm (by simp)
    have h2 := ho d (by simp)
    have h3 : d * by_ ≤ 999999999 * 10000000000 := Nat.mul_le_mul (by omega) hb
    have h4 : (d * by_ + more) / 1000000000 ≤ 10000000000 := by omega
    have := times_len by_ hb l ((d * by_ + more) / 1000000000) (fun x hx => ho x (by simp [hx])) (by omega) (fun _ => h4)
    show (timesL by_ l _).length + 1 ≤ l.length + 1 + 2
    omega
theorem bv_lt : ∀ (l : List Nat), BOk l → bv l < 1000000000 ^ l.length
  | [], _ => by show 0 < 1; omega
  | d :: l, h => by
    have h1 := bv_lt l fun x hx => h x (by simp [hx])
    have h2 := h d (by simp)
    show d + 1000000000 * bv l < 1000000000 ^ (l.length + 1)
    rw [Nat.pow_succ]
    omega
theorem len_lt {a b : List Nat} (ha : BOk a) (hb : Trim b) (h : a.length < b.length) : bv a < bv b := by
  have h1 := bv_lt a ha
  have h2 := hb (by intro e; subst e; simp at h)
  exact Nat.lt_of_lt_of_le h1 (Nat.le_trans (Nat.pow_le_pow_right (by decide) (by omega)) h2)
/-- the greater one of two of the same length is told by the last place where they part -/
theorem bv_app : ∀ (a b : List Nat), bv (a ++ b) = bv a + 1000000000 ^ a.length * bv b
  | [], b => by show bv b = 0 + 1 * bv b; omega
  | d :: a, b => by
    show d + 1000000000 * bv (a ++ b) = d + 1000000000 * bv a + 1000000000 ^ (a.length + 1) * bv b
    rw [bv_app a b, Nat.pow_succ, Nat.mul_add, Nat.mul_comm (1000000000 ^ a.length) 1000000000, Nat.mul_assoc]
    omega
theorem part_lt (a b : List Nat) (ha : BOk a) (hl : a.length = b.length) (i : Nat) (hi : i < a.length) (hs : a.drop (i + 1) = b.drop (i + 1)) (h : a[i] < b[i]'(by omega)) : bv a < bv b := by
  have e1 : bv a = bv (a.take i) + 1000000000 ^ i * bv (a.drop i) := by
    conv => lhs; rw [← List.take_append_drop i a]
    rw [bv_app, List.length_take, Nat.min_eq_left (by omega)]
  have e2 : bv b = bv (b.take i) + 1000000000 ^ i * bv (b.drop i) := by
    conv => lhs; rw [← List.take_append_drop i b]
    rw [bv_app, List.length_take, Nat.min_eq_left (by omega)]
  have d1 : bv (a.drop i) = a[i] + 1000000000 * bv (a.drop (i + 1)) := by rw [List.drop_eq_getElem_cons hi]; rfl
  have d2 : bv (b.drop i) = b[i] + 1000000000 * bv (b.drop (i + 1)) := by rw [List.drop_eq_getElem_cons (by omega)]; rfl
  have l1 := bv_lt (a.take i) fun x hx => ha x (List.mem_of_mem_take hx)
  rw [List.length_take, Nat.min_eq_left (by omega)] at l1
  rw [e1, e2, d1, d2, hs]
  have h2 : 1000000000 ^ i * (a[i] + 1000000000 * bv (b.drop (i + 1))) + 1000000000 ^ i ≤ 1000000000 ^ i * (b[i] + 1000000000 * bv (b.drop (i + 1))) := by
    rw [← Nat.mul_succ]
    exact Nat.mul_le_mul_left _ (by omega)
  omega
theorem trim_nil {l : List Nat} (h : Trim l) : bv l = 0 ↔ l = [] := by
  refine ⟨fun h0 => ?_, fun e => by rw [e]; rfl⟩
  by_cases hl : l = []
  · exact hl
  · have h1 := h hl
    have h2 : 0 < 1000000000 ^ (l.length - 1) := Nat.pow_pos (by decide)
    omega
end Go.Proofs.YtcbgkbidgpemfaaGreatDoor.rg

/- burnishref16: the walks of Times, power and Compare: whole numbers digit by digit. Conditions: as each theorem states. -/
namespace Go.Proofs.YtcbgkbidgpemfaaGreatDoor.rg
open Go.RowKit

theorem u64Info : (Tryz.prog.info? 109).map (fun i => (i.zero, i.size, i.bytes)) = some (some (.int .u64 0), 1, 8) := by kernel_rfl
def uV (l : List Nat) : List Value := l.map fun d : Nat => Value.int .u64 (d : Int)
/-- the slice v reads as the digits l -/
def BigV (W : World) (v : Value) (l : List Nat) : Prop :=
  ∃ A c, v = .slice A l.length c ∧ (l ≠ [] → ∃ g, A = some ⟨g, 0, none⟩ ∧ g < W.heap.size ∧ ∀ j (h : j < l.length), W.cell? ⟨g, j, none⟩ = some (.int .u64 ((l[j] : Nat) : Int)))
theorem BigV.below {W W' : World} {v : Value} {l : List Nat} (h : BigV W v l) (hb : Below W.heap.size W W') : BigV W' v l := by
  obtain ⟨A, c, hv, hx⟩ := h
  refine ⟨A, c, hv, fun h0 => ?_⟩
  obtain ⟨g, hA, hg, hc⟩ := hx h0
  exact ⟨g, hA, by have := hb.size; omega, fun j hj => (hb.cell (p := ⟨g, j, none⟩) hg).trans (hc j hj)⟩
theorem BigV.of_own {W : World} {base : Nat} {v : Value} {ds : List Nat} (h : W.ownsRow base 109 1 v ds.length (uV ds)) : BigV W v ds := by
  rcases h.2 with ⟨rfl, hn⟩ | ⟨g, cap, cur, rfl, _, hgg, _⟩
  · exact ⟨_, _, by rw [hn], fun h0 => absurd (List.eq_nil_of_length_eq_zero hn) h0⟩
  · refine ⟨_, _, rfl, fun _ => ⟨g, rfl, (Array.getElem?_eq_some_iff.1 hgg).1, fun j hj => ?_⟩⟩
    have hc := h.cells (g := g) rfl j (.int .u64 ((ds[j] : Nat) : Int)) (by simp [uV, hj])
    have hadd : (⟨g, 0, none⟩ : Addr).add j = ⟨g, j, none⟩ := by unfold Addr.add; split <;> simp_all
    rw [hadd] at hc
    exact hc
theorem BigV.nil (W : World) (c : Nat) (A : Option Addr) : BigV W (.slice A 0 c) [] := ⟨A, c, rfl, fun h => absurd rfl h⟩
theorem cells_new1 (W : World) (u : Value) (t : TypeId) : ∀ j v, [u][j]? = some v → (W.alloc (.cells #[u] t)).cell? ((⟨W.heap.size, 0, none⟩ : Addr).add j) = some v := by
  intro j v hv
  have hadd : (⟨W.heap.size, 0, none⟩ : Addr).add j = ⟨W.heap.size, j, none⟩ := by unfold Addr.add; split <;> simp_all
  rw [hadd, cell_of_row _ _ j _ _ _ (heap_alloc_new W _)]
  simpa using hv
theorem dig_len3 (n : Nat) (h : n < 18446744073709551616) : (dig n).length ≤ 3 := by
  by_cases h0 : n = 0
  · subst h0; rw [dig_zero]; decide
  · rw [dig_pos h0, List.length_cons]
    have := dig_len (n / 1000000000) (by omega)
    omega
set_option maxRecDepth 100000 in
set_option maxHeartbeats 1000000 in
theorem times_any (v : Value) (l : List Nat) (by_ more : Nat) (w : World) (hv : BigV w v l) (ho : BOk l) (hb : by_ ≤ 10000000000) (hl : l.length ≤ 100000) (hm : l ≠ [] → more ≤ 10000000000) (hm2 : more < 18446744073709551616) :
    Calls Tryz.prog 165 #[v, .int .u64 by_, .int .u64 more] w fun e w' => ∃ v', e = .returned v' ∧ BigV w' v' (timesL by_ l more) ∧ Below w.heap.size w w' := by
  obtain ⟨A, c, rfl, hx⟩ := hv
  obtain ⟨i0, hi, hz0, hz1, hz2⟩ := info_parts u64Info
  have HX := Lib.hid hx
  have HO := Lib.hid ho
  have HM := Lib.hid hm
  clear hx ho hm
  go_enter Tryz.func165, Tryz.ntmps165
  go_wp2_with fail
  go_loopw [2, 7, 8] (fun sm so si wr => ∃ (i m : Nat) (ds : List Nat), i ≤ l.length ∧ ds.length = i ∧ si = .int .i64 i ∧ sm = .int .u64 m ∧ wr.ownsRow w.heap.size 109 1 so ds.length (uV ds) ∧ Below w.heap.size w wr ∧
    timesL by_ l more = ds ++ timesL by_ (l.drop i) m ∧ (i < l.length → m ≤ 10000000000) ∧ m < 18446744073709551616) (fun _ _ si _ => l.length - (intOf si).toNat)
  case atStart => exact ⟨0, more, [], Nat.zero_le _, rfl, rfl, rfl, ⟨rfl, .inl ⟨rfl, rfl⟩⟩, Below.refl _ _, rfl, fun h => HM.out (by intro e; subst e; simp at h), hm2⟩
  case round =>
    obtain ⟨i, m, ds, hil, hds, rfl, rfl, hown, hB, heq, hmi, hm64⟩ := hrel
    obtain ⟨wo, rfl⟩ : ∃ wo : World, wo = wr := ⟨_, rfl⟩
    have HB := Lib.hid hB
    have HE := Lib.hid heq
    clear hB heq
    by_cases hlt : i < l.length
    · obtain ⟨g, rfl, hg, hc⟩ := HX.out (by intro e; subst e; simp at hlt)
      have hcell := (HB.out.cell (p := ⟨g, i, none⟩) hg).trans (hc i hlt)
      have hd9 := HO.out l[i] (List.getElem_mem hlt)
      have hmi' := hmi hlt
      have heq2 := HE.out
      rw [List.drop_eq_getElem_cons hlt] at heq2
      obtain ⟨d, hd⟩ : ∃ d, l[i] = d := ⟨_, rfl⟩
      rw [hd] at hcell hd9 heq2
      obtain ⟨P, hP⟩ : ∃ P, d * by_ = P := ⟨_, rfl⟩
      have hPb : P ≤ 9999999990000000000 := by
        rw [← hP]
        exact Nat.mul_le_mul (show d ≤ 999999999 by omega) hb
      have hPi : (d : Int) * (by_ : Int) = (P : Int) := by rw [← hP]; simp
      obtain ⟨X, hX⟩ : ∃ X, P + m = X := ⟨_, rfl⟩
      have hXi : (P : Int) + (m : Int) = (X : Int) := by omega
      have e2 : timesL by_ (d :: l.drop (i + 1)) m = X % 1000000000 :: timesL by_ (l.drop (i + 1)) (X / 1000000000) := by
        show (d * by_ + m) % 1000000000 :: timesL by_ (l.drop (i + 1)) ((d * by_ + m) / 1000000000) = _
        rw [hP, hX]
      rw [e2] at heq2
      have HQ := Lib.hid heq2
      have hX2 : X < 18446744073709551616 := by omega
      obtain ⟨R, hR⟩ : ∃ R, X % 1000000000 = R := ⟨_, rfl⟩
      obtain ⟨D, hD⟩ : ∃ D, X / 1000000000 = D := ⟨_, rfl⟩
      have hXm : (X : Int) % 1000000000 = (R : Int) := by omega
      have hXd : (X : Int) / 1000000000 = (D : Int) := by omega
      have hXd9 : D ≤ 10000000000 := by omega
      rw [hR, hD] at HQ
      have hli : (l.length : Int) ≤ 100000 := by omega
      have hlt' : (i : Int) < (l.length : Int) := by omega
      clear hc hd heq2 e2 hP hX hmi HE hR hD
      go_wp2_with (at_builtin; go_loud (refine wpList_append_own _ rfl _ _ 173 rfl w.heap.size 109 i0 _ 1 8 Tryz.underlying173 hi hz0 hz1 hz2 rfl (by decide) _ _ _ rfl (hown.alloc _) ⟨wo.heap.size, 0, none⟩ 1 1 [.int .u64 ((R : Nat) : Int)] rfl rfl (cells_new1 _ _ _) (by simp [Value.oneCell']) (by unfold maxLen; omega) (by omega) (by have := HB.out.size; simp; omega) ?_); intro v' w1 hown' hgrow _)
      have hB' := (HB.out.alloc HB.out.size (.cells #[.int .u64 ((R : Nat) : Int)] 109)).grown hgrow (by have := HB.out.size; simp; omega) (fun j ej => (hown.lt j ej).1)
      refine ⟨⟨i + 1, D, ds ++ [R], by omega, by simp [hds], by go_num, by first | rfl | rw [hXd], ?_, hB', ?_, fun _ => hXd9, by omega⟩, by simp only [intOf]; omega⟩
      · rw [List.length_append]
        have : uV (ds ++ [R]) = uV ds ++ [.int .u64 ((R : Nat) : Int)] := by simp [uV]
        rw [this]
        exact hown'
      · rw [HQ.out]; simp
    · have hie : i = l.length := by omega
      have heq2 := HE.out
      rw [List.drop_eq_nil_of_le (by omega)] at heq2
      have HQ := Lib.hid (show timesL by_ l more = ds ++ dig m from heq2)
      clear heq2 HE hmi
      have hlt' : ¬ (i : Int) < (l.length : Int) := by omega
      have hdsl : ds.length + 3 ≤ 100003 := by omega
      clear hil hds hlt
      go_wp2_with fail
      have H3 := Lib.hid (show (dig m).length ≤ 3 from dig_len3 m hm64)
      obtain ⟨ml, hml⟩ : ∃ ml, (dig m).length = ml := ⟨_, rfl⟩
      go_loopw [2, 7] (fun sm so wr => ∃ (m : Nat) (ds : List Nat), ds.length + (dig m).length ≤ 100003 ∧ sm = .int .u64 m ∧ wr.ownsRow w.heap.size 109 1 so ds.length (uV ds) ∧ Below w.heap.size w wr ∧
        timesL by_ l more = ds ++ dig m ∧ m < 18446744073709551616) (fun sm _ _ => (intOf sm).toNat)
      case atStart => exact ⟨m, ds, by have := H3.out; omega, rfl, hown, HB.out, HQ.out, hm64⟩
      case round =>
        clear hown HB HQ H3 hml hm64 hdsl
        obtain ⟨m, ds, hdl, rfl, hown, hB, heq, hm64⟩ := hrel
        obtain ⟨wq, rfl⟩ : ∃ wq : World, wq = wr := ⟨_, rfl⟩
        have HB := Lib.hid hB
        by_cases hm0 : m = 0
        · subst hm0
          rw [dig_zero, List.append_nil] at heq
          have HR := Lib.hid (BigV.of_own hown)
          have HQ := Lib.hid heq
          clear hB heq hown hdl
          go_wp2_with fail
          go_ret
          exact ⟨_, rfl, by rw [HQ.out]; exact HR.out, HB.out⟩
        · rw [dig_pos hm0] at heq hdl
          have HQ := Lib.hid heq
          rw [List.length_cons] at hdl
          have HD := Lib.hid hdl
          have hd0 : ds.length ≤ 100002 := by omega
          have hmp : (0 : Int) < (m : Int) := by omega
          obtain ⟨R, hR⟩ : ∃ R, m % 1000000000 = R := ⟨_, rfl⟩
          obtain ⟨D, hD⟩ : ∃ D, m / 1000000000 = D := ⟨_, rfl⟩
          have hXm : (m : Int) % 1000000000 = (R : Int) := by omega
          have hXd : (m : Int) / 1000000000 = (D : Int) := by omega
          have hDm : D < m := by omega
          rw [hR, hD] at HQ
          rw [hD] at HD
          clear hB heq hdl hR hD hm0
          go_wp2_with (at_builtin; go_loud (refine wpList_append_own _ rfl _ _ 173 rfl w.heap.size 109 i0 _ 1 8 Tryz.underlying173 hi hz0 hz1 hz2 rfl (by decide) _ _ _ rfl (hown.alloc _) ⟨wq.heap.size, 0, none⟩ 1 1 [.int .u64 ((R : Nat) : Int)] rfl rfl (cells_new1 _ _ _) (by simp [Value.oneCell']) (by unfold maxLen; omega) (by omega) (by have := HB.out.size; simp; omega) ?_); intro v' w1 hown' hgrow _)
          have hB' := (HB.out.alloc HB.out.size (.cells #[.int .u64 ((R : Nat) : Int)] 109)).grown hgrow (by have := HB.out.size; simp; omega) (fun j ej => (hown.lt j ej).1)
          refine ⟨⟨D, ds ++ [R], by rw [List.length_append]; have := HD.out; simp only [List.length_singleton]; omega, by first | rfl | rw [hXd], ?_, hB', ?_, by omega⟩, by simp only [intOf]; omega⟩
          · rw [List.length_append]
            have : uV (ds ++ [R]) = uV ds ++ [.int .u64 ((R : Nat) : Int)] := by simp [uV]
            rw [this]
            exact hown'
          · rw [HQ.out]; simp
end Go.Proofs.YtcbgkbidgpemfaaGreatDoor.rg

/- A float's mantissa, exponent and interval. Plain. -/
namespace Go.Proofs.YtcbgkbidgpemfaaGreatDoor.prnw
open Go.RowKit
theorem and_mask (k : IntKind) (hk : k = .i64 ∨ k = .u64) (a n : Nat) (ha : a < 9223372036854775808) (hn : n ≤ 62) : bits BinOp.and k (a : Int) ((2 ^ n - 1 : Nat) : Int) = ((a % 2 ^ n : Nat) : Int) := by
  have hp : 2 ^ n ≤ 4611686018427387904 := by
    have := Nat.pow_le_pow_right (show 0 < 2 by decide) hn
    simpa using this
  have hp0 : 0 < 2 ^ n := Nat.pow_pos (by decide)
  obtain ⟨q, hq⟩ : ∃ q, q = 2 ^ n := ⟨_, rfl⟩
  have h2 : (BitVec.ofInt 64 (a : Int)).toNat = a := by
    rw [BitVec.toNat_ofInt]
    omega
  have h3 : (BitVec.ofInt 64 ((2 ^ n - 1 : Nat) : Int)).toNat = 2 ^ n - 1 := by
    rw [BitVec.toNat_ofInt, ← hq]
    rw [← hq] at hp hp0
    omega
  have hm : a % 2 ^ n < 2 ^ n := Nat.mod_lt _ hp0
  rcases hk with rfl | rfl
  · have h : bits BinOp.and IntKind.i64 (a : Int) ((2 ^ n - 1 : Nat) : Int) = IntKind.i64.wrap (((BitVec.ofInt 64 (a : Int) &&& BitVec.ofInt 64 ((2 ^ n - 1 : Nat) : Int)).toNat : Nat) : Int) := rfl
    rw [h, BitVec.toNat_and, h2, h3, Nat.and_two_pow_sub_one_eq_mod, IntKind.wrap_i64]
    obtain ⟨r, hr⟩ : ∃ r, r = a % 2 ^ n := ⟨_, rfl⟩
    rw [← hr] at hm ⊢
    rw [← hq] at hp hm
    omega
  · have h : bits BinOp.and IntKind.u64 (a : Int) ((2 ^ n - 1 : Nat) : Int) = IntKind.u64.wrap (((BitVec.ofInt 64 (a : Int) &&& BitVec.ofInt 64 ((2 ^ n - 1 : Nat) : Int)).toNat : Nat) : Int) := rfl
    rw [h, BitVec.toNat_and, h2, h3, Nat.and_two_pow_sub_one_eq_mod, IntKind.wrap_u64]
    obtain ⟨r, hr⟩ : ∃ r, r = a % 2 ^ n := ⟨_, rfl⟩
    rw [← hr] at hm ⊢
    rw [← hq] at hp hm
    omega
theorem or_top (a : Nat) (ha : a < 4503599627370496) : bits BinOp.or IntKind.u64 (a : Int) 4503599627370496 = ((a + 4503599627370496 : Nat) : Int) := by
  have h : bits BinOp.or IntKind.u64 (a : Int) 4503599627370496 = IntKind.u64.wrap (((BitVec.ofInt 64 (a : Int) ||| BitVec.ofInt 64 4503599627370496).toNat : Nat) : Int) := rfl
  have h2 : (BitVec.ofInt 64 (a : Int)).toNat = a := by
    rw [BitVec.toNat_ofInt]
    omega
  have h3 : (BitVec.ofInt 64 4503599627370496).toNat = 2 ^ 52 * 1 := by decide
  have h4 : a ||| 2 ^ 52 * 1 = 2 ^ 52 * 1 + a := by
    rw [Nat.or_comm]
    exact (Nat.two_pow_add_eq_or_of_lt (by simpa using ha) 1).symm
  rw [h, BitVec.toNat_or, h2, h3, h4, IntKind.wrap_u64]
  omega
/-- a float's mantissa and exponent -/
def ftM (X : Nat) : Nat := if X / 4503599627370496 = 0 then X % 4503599627370496 else X % 4503599627370496 + 4503599627370496
def ftE (X : Nat) : Int := if X / 4503599627370496 = 0 then -1022 else ((X / 4503599627370496 : Nat) : Int) - 1023
theorem ftM_pos (X : Nat) (h : 0 < X) : 1 ≤ ftM X ∧ ftM X < 9007199254740992 := by
  unfold ftM
  split
  · omega
  · omega
theorem bl_bd : ∀ (f x : Nat), x < 2 ^ f → 0 < x → 1 ≤ Lib.bitLenAux f x ∧ Lib.bitLenAux f x ≤ f ∧ 2 ^ (Lib.bitLenAux f x - 1) ≤ x ∧ x < 2 ^ Lib.bitLenAux f x
  | 0, x, h, h0 => by
    have : x < 1 := by simpa using h
    omega
  | f + 1, x, h, h0 => by
    rw [Lib.bitLenAux, if_neg (by omega)]
    by_cases h2 : x / 2 = 0
    · have e : x = 1 := by omega
      have : Lib.bitLenAux f (x / 2) = 0 := by
        rw [h2]
        cases f with
        | zero => rfl
        | succ f => rw [Lib.bitLenAux, if_pos rfl]
      rw [this, e]
      refine ⟨?_, ?_, ?_, ?_⟩
      · omega
      · omega
      · decide
      · decide
    · obtain ⟨a, b, c, d⟩ := bl_bd f (x / 2) (by rw [Nat.pow_succ] at h; omega) (by omega)
      obtain ⟨k, hk⟩ : ∃ k, Lib.bitLenAux f (x / 2) = k + 1 := ⟨Lib.bitLenAux f (x / 2) - 1, by omega⟩
      rw [hk] at a b c d ⊢
      rw [show k + 1 - 1 = k by omega] at c
      rw [Nat.pow_succ] at d
      refine ⟨by omega, by omega, ?_, ?_⟩
      · rw [show 1 + (k + 1) - 1 = k + 1 by omega, Nat.pow_succ]
        omega
      · rw [show 1 + (k + 1) = k + 1 + 1 by omega, Nat.pow_succ, Nat.pow_succ]
        omega
theorem toNat_bits63 (s : Int) (h0 : 0 ≤ s) (h1 : s ≤ 63) : bits BinOp.and IntKind.i64 s 63 = s := by
  obtain ⟨n, rfl⟩ := Int.eq_ofNat_of_zero_le h0
  have hn : n < 64 := by omega
  revert hn
  revert n
  intro n _ _ hn
  have h : bits BinOp.and IntKind.i64 (n : Int) 63 = IntKind.i64.wrap (((BitVec.ofInt 64 (n : Int) &&& BitVec.ofInt 64 63).toNat : Nat) : Int) := rfl
  have h2 : (BitVec.ofInt 64 (n : Int)).toNat = n := by
    rw [BitVec.toNat_ofInt]
    omega
  have h3 : (BitVec.ofInt 64 63).toNat = 2 ^ 6 - 1 := by decide
  rw [h, BitVec.toNat_and, h2, h3, Nat.and_two_pow_sub_one_eq_mod, IntKind.wrap_i64]
  omega
end Go.Proofs.YtcbgkbidgpemfaaGreatDoor.prnw
namespace Go.Proofs.YtcbgkbidgpemfaaGreatDoor.fpm
open Go Go.RowKit Go.Proofs.YtcbgkbidgpemfaaGreatDoor.prnw
/-- the interval's lower end, in quarters of the last place -/
def loQ (M : Nat) (E : Int) : Nat := if M = 4503599627370496 ∧ -1074 < E then 4 * M - 1 else 4 * M - 2
theorem loQ_bd (M : Nat) (E : Int) : 4 * M - 2 ≤ loQ M E ∧ loQ M E ≤ 4 * M - 1 ∧ (M % 2 = 1 → loQ M E = 4 * M - 2) := by
  unfold loQ
  by_cases h : M = 4503599627370496 ∧ -1074 < E
  · rw [if_pos h]
    have := h.1
    exact ⟨by omega, by omega, fun h2 => by omega⟩
  · rw [if_neg h]
    exact ⟨Nat.le_refl _, by omega, fun _ => rfl⟩
/-- the ends of a float's interval, in quarters of the least unit -/
def endL (X : Nat) : Nat := loQ (ftM X) (ftE X - 52) * 2 ^ (ftE X - 52 + 1074).toNat
def endU (X : Nat) : Nat := (4 * ftM X + 2) * 2 ^ (ftE X - 52 + 1074).toNat
theorem ends_meet (X : Nat) : endL (X + 1) = endU X := by
  unfold endL endU
  obtain ⟨q, hq⟩ : ∃ q, q = X / 4503599627370496 := ⟨_, rfl⟩
  obtain ⟨r, hr⟩ : ∃ r, r = X % 4503599627370496 := ⟨_, rfl⟩
  by_cases hl : r + 1 < 4503599627370496
  · have e1 : (X + 1) / 4503599627370496 = q := by omega
    have e2 : (X + 1) % 4503599627370496 = r + 1 := by omega
    have hM : ftM (X + 1) = ftM X + 1 := by
      unfold ftM
      rw [e1, e2, ← hq, ← hr]
      split <;> omega
    have hE : ftE (X + 1) = ftE X := by
      unfold ftE
      rw [e1, ← hq]
    have hM0 : ftM X + 1 ≠ 4503599627370496 ∨ ¬ -1074 < ftE X - 52 := by
      unfold ftM ftE
      rw [← hq, ← hr]
      split <;> omega
    rw [hM, hE]
    congr 1
    unfold loQ
    rw [if_neg (by omega)]
    omega
  · have e1 : (X + 1) / 4503599627370496 = q + 1 := by omega
    have e2 : (X + 1) % 4503599627370496 = 0 := by omega
    have hM : ftM (X + 1) = 4503599627370496 := by
      unfold ftM
      rw [e1, e2, if_neg (by omega)]
    have hE : ftE (X + 1) = (q : Int) - 1022 := by
      unfold ftE
      rw [e1, if_neg (by omega)]
      omega
    rw [hM, hE]
    by_cases h0 : q = 0
    · have hM2 : ftM X = 4503599627370495 := by
        unfold ftM
        rw [← hq, ← hr, if_pos h0]
        omega
      have hE2 : ftE X = -1022 := by unfold ftE; rw [← hq, if_pos h0]
      rw [hM2, hE2, h0]
      decide
    · have hM2 : ftM X = 9007199254740991 := by
        unfold ftM
        rw [← hq, ← hr, if_neg h0]
        omega
      have hE2 : ftE X = (q : Int) - 1023 := by unfold ftE; rw [← hq, if_neg h0]
      rw [hM2, hE2]
      unfold loQ
      rw [if_pos ⟨rfl, by omega⟩, show ((q : Int) - 1022 - 52 + 1074).toNat = q - 1 + 1 by omega, show ((q : Int) - 1023 - 52 + 1074).toNat = q - 1 by omega, Nat.pow_succ]
      generalize 2 ^ (q - 1) = t
      omega
theorem ends_lt (X : Nat) (h : 0 < X) : endL X < endU X := by
  unfold endL endU
  refine (Nat.mul_lt_mul_right (Nat.two_pow_pos _)).2 ?_
  have := loQ_bd (ftM X) (ftE X - 52)
  have := ftM_pos X h
  omega
theorem ends_mono (X : Nat) (h : 0 < X) : ∀ n, endL X + n ≤ endL (X + n)
  | 0 => Nat.le_refl _
  | n + 1 => by
    have h1 := ends_mono X h n
    have h2 := ends_lt (X + n) (by omega)
    rw [← Nat.add_assoc X, ends_meet (X + n)]
    omega
theorem ftM_odd (X : Nat) : ftM X % 2 = X % 2 := by
  unfold ftM
  split <;> omega
end Go.Proofs.YtcbgkbidgpemfaaGreatDoor.fpm

/- Contracts of library functions, laid by the shelf of the kit for this translation, in plain words. Conditions: as each theorem states. -/
namespace Go.Proofs
open Go.Shelf
def Tryz.lays169_ren : Go.Shelf.Ren := ⟨fun | 169 => 55 | n => n, fun | 70 => 91 | 9 => 9 | 0 => 0 | 72 => 94 | 37 => 92 | 127 => 145 | 3 => 3 | 5 => 5 | n => n, fun | n => n⟩
theorem Tryz.lays169 : Go.Proofs.Lays.n169 Tryz.prog Tryz.lays169_ren := {
  mixed := by kernel_rfl
  f169 := Tryz.func55.trans (congrArg some (by kernel_rfl))
  t0 := Tryz.underlying0
  a0 := Tryz.isAgg0
  z0 := Tryz.sizeOf0
  v0 := Tryz.zeroValue0
  t3 := Tryz.underlying3
  a3 := Tryz.isAgg3
  z3 := Tryz.sizeOf3
  v3 := Tryz.zeroValue3
  t9 := Tryz.underlying9
  a9 := Tryz.isAgg9
  z9 := Tryz.sizeOf9
  v9 := Tryz.zeroValue9
  t37 := Tryz.underlying92
  a37 := Tryz.isAgg92
  z37 := Tryz.sizeOf92
  v37 := Tryz.zeroValue92
  t70 := Tryz.underlying91
  a70 := Tryz.isAgg91
  z70 := Tryz.sizeOf91
  v70 := Tryz.zeroValue91
  t72 := Tryz.underlying94
  a72 := Tryz.isAgg94
  z72 := Tryz.sizeOf94
  v72 := Tryz.zeroValue94
  t127 := Tryz.underlying145
  a127 := Tryz.isAgg145
  z127 := Tryz.sizeOf145
  v127 := Tryz.zeroValue145 }
theorem Tryz.Builder_Extra_169 : Builder.Extra Tryz.prog Tryz.lays169_ren := {
  sizeBuilder := by kernel_rfl
  liesBuilder := by kernel_rfl
  t5 := Tryz.underlying5
  a5 := Tryz.isAgg5
  z5 := Tryz.sizeOf5
  v5 := Tryz.zeroValue5
  infoByte := by kernel_rfl
  cellsByte := by kernel_rfl
  sizeByte := by kernel_rfl
  neB5 := by decide }
def Tryz.lays156_ren : Go.Shelf.Ren := ⟨fun | 156 => 50 | 165 => 87 | 166 => 54 | 169 => 55 | 240 => 93 | 241 => 122 | 276 => 126 | 277 => 156 | n => n, fun | 31 => 55 | 9 => 9 | 3 => 3 | 4 => 4 | 0 => 0 | 20 => 20 | 72 => 94 | 76 => 97 | 70 => 91 | 37 => 92 | 75 => 96 | 127 => 145 | 164 => 167 | 5 => 5 | 80 => 99 | n => n, fun | n => n⟩
theorem Tryz.lays156 : Go.Proofs.Lays.n156 Tryz.prog Tryz.lays156_ren := {
  mixed := by kernel_rfl
  f156 := Tryz.func50.trans (congrArg some (by kernel_rfl))
  f165 := Tryz.func87.trans (congrArg some (by kernel_rfl))
  f166 := Tryz.func54.trans (congrArg some (by kernel_rfl))
  f169 := Tryz.func55.trans (congrArg some (by kernel_rfl))
  f240 := Tryz.func93.trans (congrArg some (by kernel_rfl))
  f241 := Tryz.func122.trans (congrArg some (by kernel_rfl))
  f276 := Tryz.func126.trans (congrArg some (by kernel_rfl))
  f277 := Tryz.func156.trans (congrArg some (by kernel_rfl))
  t0 := Tryz.underlying0
  a0 := Tryz.isAgg0
  z0 := Tryz.sizeOf0
  v0 := Tryz.zeroValue0
  t3 := Tryz.underlying3
  a3 := Tryz.isAgg3
  z3 := Tryz.sizeOf3
  v3 := Tryz.zeroValue3
  t4 := Tryz.underlying4
  a4 := Tryz.isAgg4
  z4 := Tryz.sizeOf4
  v4 := Tryz.zeroValue4
  t9 := Tryz.underlying9
  a9 := Tryz.isAgg9
  z9 := Tryz.sizeOf9
  v9 := Tryz.zeroValue9
  t20 := Tryz.underlying20
  a20 := Tryz.isAgg20
  z20 := Tryz.sizeOf20
  v20 := Tryz.zeroValue20
  t31 := Tryz.underlying55
  a31 := Tryz.isAgg55
  z31 := Tryz.sizeOf55
  v31 := Tryz.zeroValue55
  t37 := Tryz.underlying92
  a37 := Tryz.isAgg92
  z37 := Tryz.sizeOf92
  v37 := Tryz.zeroValue92
  t70 := Tryz.underlying91
  a70 := Tryz.isAgg91
  z70 := Tryz.sizeOf91
  v70 := Tryz.zeroValue91
  t72 := Tryz.underlying94
  a72 := Tryz.isAgg94
  z72 := Tryz.sizeOf94
  v72 := Tryz.zeroValue94
  t75 := Tryz.underlying96
  a75 := Tryz.isAgg96
  z75 := Tryz.sizeOf96
  v75 := Tryz.zeroValue96
  t76 := Tryz.underlying97
  a76 := Tryz.isAgg97
  z76 := Tryz.sizeOf97
  v76 := Tryz.zeroValue97
  t127 := Tryz.underlying145
  a127 := Tryz.isAgg145
  z127 := Tryz.sizeOf145
  v127 := Tryz.zeroValue145
  t164 := Tryz.underlying167
  a164 := Tryz.isAgg167
  z164 := Tryz.sizeOf167
  v164 := Tryz.zeroValue167 }
theorem Tryz.Builder_Extra_156 : Builder.Extra Tryz.prog Tryz.lays156_ren := {
  sizeBuilder := by kernel_rfl
  liesBuilder := by kernel_rfl
  t5 := Tryz.underlying5
  a5 := Tryz.isAgg5
  z5 := Tryz.sizeOf5
  v5 := Tryz.zeroValue5
  infoByte := by kernel_rfl
  cellsByte := by kernel_rfl
  sizeByte := by kernel_rfl
  neB5 := by decide }
open Go.RowKit in
theorem Tryz.strings_Join (bk o c : Nat) (xs : List ByteArray) (sep : ByteArray) (w : World) (hcells : ∀ (j : Nat) x, xs[j]? = some x → w.cell? ⟨bk, o + j, none⟩ = some (.string x)) (hbk : bk < w.heap.size) (hN : xs.length ≤ 140737488355328) (hcap : xs.length ≤ c) (hlen : (Lib.join (xs.map (·.data.toList)) sep.data.toList).length ≤ 140737488355328) :
    Calls Tryz.prog 50 #[.slice (some ⟨bk, o, none⟩) xs.length c, .string sep] w fun e w' => e = .returned (.string ⟨(Lib.join (xs.map (·.data.toList)) sep.data.toList).toArray⟩) ∧ Below w.heap.size w w' := Any.strings_Join Tryz.lays156 Tryz.Builder_Extra_156 bk o c xs sep w hcells hbk hN hcap hlen
open Go.RowKit in
theorem Tryz.Builder_String_any_k (B b : Nat) (l : List UInt8) (w : World) (h : Lib.IsBuilderF 94 5 B b (Lib.byteCells l) w) (hBw : B ≤ w.heap.size) :
    Calls Tryz.prog 55 #[.pointer (some ⟨b, 0, none⟩)] w fun e w' => e = .returned (.string ⟨l.toArray⟩) ∧ (Lib.IsBuilderF 94 5 B b (Lib.byteCells l) w' ∧ Below B w w' ∧ Lib.OthersKept 5 (some b) w w') := Any.Builder_String_any_k Tryz.lays169 Tryz.Builder_Extra_169 B b l w h hBw
def Tryz.lays172_ren : Go.Shelf.Ren := ⟨fun | 172 => 84 | 244 => 116 | 245 => 117 | 247 => 145 | 279 => 146 | 280 => 147 | 281 => 148 | 282 => 149 | 287 => 195 | 316 => 196 | 171 => 79 | 205 => 197 | 321 => 217 | 322 => 234 | 243 => 109 | 246 => 141 | 283 => 174 | 284 => 175 | 285 => 176 | 286 => 177 | 129 => 186 | 317 => 189 | 318 => 211 | 319 => 212 | 320 => 213 | 337 => 238 | 338 => 239 | n => n, fun | 9 => 9 | 3 => 3 | 75 => 96 | 76 => 97 | 4 => 4 | 5 => 5 | 167 => 185 | 37 => 92 | 0 => 0 | 85 => 186 | 2 => 2 | 168 => 188 | 53 => 109 | 175 => 233 | 46 => 191 | 210 => 236 | 127 => 145 | 145 => 271 | 143 => 269 | 21 => 21 | 171 => 213 | 173 => 216 | 212 => 250 | 51 => 219 | 20 => 20 | 213 => 251 | 232 => 224 | 233 => 303 | 80 => 99 | n => n, fun | 15 => 3 | 16 => 4 | 17 => 7 | 18 => 12 | 19 => 13 | n => n⟩
theorem Tryz.lays172 : Go.Proofs.Lays.n172 Tryz.prog Tryz.lays172_ren := {
  mixed := by kernel_rfl
  f129 := Tryz.func186.trans (congrArg some (by kernel_rfl))
  f171 := Tryz.func79.trans (congrArg some (by kernel_rfl))
  f172 := Tryz.func84.trans (congrArg some (by kernel_rfl))
  f205 := Tryz.func197.trans (congrArg some (by kernel_rfl))
  f243 := Tryz.func109.trans (congrArg some (by kernel_rfl))
  f244 := Tryz.func116.trans (congrArg some (by kernel_rfl))
  f245 := Tryz.func117.trans (congrArg some (by kernel_rfl))
  f246 := Tryz.func141.trans (congrArg some (by kernel_rfl))
  f247 := Tryz.func145.trans (congrArg some (by kernel_rfl))
  f279 := Tryz.func146.trans (congrArg some (by kernel_rfl))
  f280 := Tryz.func147.trans (congrArg some (by kernel_rfl))
  f281 := Tryz.func148.trans (congrArg some (by kernel_rfl))
  f282 := Tryz.func149.trans (congrArg some (by kernel_rfl))
  f283 := Tryz.func174.trans (congrArg some (by kernel_rfl))
  f284 := Tryz.func175.trans (congrArg some (by kernel_rfl))
  f285 := Tryz.func176.trans (congrArg some (by kernel_rfl))
  f286 := Tryz.func177.trans (congrArg some (by kernel_rfl))
  f287 := Tryz.func195.trans (congrArg some (by kernel_rfl))
  f316 := Tryz.func196.trans (congrArg some (by kernel_rfl))
  f317 := Tryz.func189.trans (congrArg some (by kernel_rfl))
  f318 := Tryz.func211.trans (congrArg some (by kernel_rfl))
  f319 := Tryz.func212.trans (congrArg some (by kernel_rfl))
  f320 := Tryz.func213.trans (congrArg some (by kernel_rfl))
  f321 := Tryz.func217.trans (congrArg some (by kernel_rfl))
  f322 := Tryz.func234.trans (congrArg some (by kernel_rfl))
  f337 := Tryz.func238.trans (congrArg some (by kernel_rfl))
  f338 := Tryz.func239.trans (congrArg some (by kernel_rfl))
  t0 := Tryz.underlying0
  a0 := Tryz.isAgg0
  z0 := Tryz.sizeOf0
  v0 := Tryz.zeroValue0
  t2 := Tryz.underlying2
  a2 := Tryz.isAgg2
  z2 := Tryz.sizeOf2
  v2 := Tryz.zeroValue2
  t3 := Tryz.underlying3
  a3 := Tryz.isAgg3
  z3 := Tryz.sizeOf3
  v3 := Tryz.zeroValue3
  t4 := Tryz.underlying4
  a4 := Tryz.isAgg4
  z4 := Tryz.sizeOf4
  v4 := Tryz.zeroValue4
  t5 := Tryz.underlying5
  a5 := Tryz.isAgg5
  z5 := Tryz.sizeOf5
  v5 := Tryz.zeroValue5
  t9 := Tryz.underlying9
  a9 := Tryz.isAgg9
  z9 := Tryz.sizeOf9
  v9 := Tryz.zeroValue9
  t20 := Tryz.underlying20
  a20 := Tryz.isAgg20
  z20 := Tryz.sizeOf20
  v20 := Tryz.zeroValue20
  t21 := Tryz.underlying21
  a21 := Tryz.isAgg21
  z21 := Tryz.sizeOf21
  v21 := Tryz.zeroValue21
  t37 := Tryz.underlying92
  a37 := Tryz.isAgg92
  z37 := Tryz.sizeOf92
  v37 := Tryz.zeroValue92
  t46 := Tryz.underlying191
  a46 := Tryz.isAgg191
  z46 := Tryz.sizeOf191
  v46 := Tryz.zeroValue191
  t51 := Tryz.underlying219
  a51 := Tryz.isAgg219
  z51 := Tryz.sizeOf219
  v51 := Tryz.zeroValue219
  t53 := Tryz.underlying109
  a53 := Tryz.isAgg109
  z53 := Tryz.sizeOf109
  v53 := Tryz.zeroValue109
  t75 := Tryz.underlying96
  a75 := Tryz.isAgg96
  z75 := Tryz.sizeOf96
  v75 := Tryz.zeroValue96
  t76 := Tryz.underlying97
  a76 := Tryz.isAgg97
  z76 := Tryz.sizeOf97
  v76 := Tryz.zeroValue97
  t85 := Tryz.underlying186
  a85 := Tryz.isAgg186
  z85 := Tryz.sizeOf186
  v85 := Tryz.zeroValue186
  t127 := Tryz.underlying145
  a127 := Tryz.isAgg145
  z127 := Tryz.sizeOf145
  v127 := Tryz.zeroValue145
  t143 := Tryz.underlying269
  a143 := Tryz.isAgg269
  z143 := Tryz.sizeOf269
  v143 := Tryz.zeroValue269
  t145 := Tryz.underlying271
  a145 := Tryz.isAgg271
  z145 := Tryz.sizeOf271
  v145 := Tryz.zeroValue271
  t167 := Tryz.underlying185
  a167 := Tryz.isAgg185
  z167 := Tryz.sizeOf185
  v167 := Tryz.zeroValue185
  t168 := Tryz.underlying188
  a168 := Tryz.isAgg188
  z168 := Tryz.sizeOf188
  v168 := Tryz.zeroValue188
  t171 := Tryz.underlying213
  a171 := Tryz.isAgg213
  z171 := Tryz.sizeOf213
  v171 := Tryz.zeroValue213
  t173 := Tryz.underlying216
  a173 := Tryz.isAgg216
  z173 := Tryz.sizeOf216
  v173 := Tryz.zeroValue216
  t175 := Tryz.underlying233
  a175 := Tryz.isAgg233
  z175 := Tryz.sizeOf233
  v175 := Tryz.zeroValue233
  t210 := Tryz.underlying236
  a210 := Tryz.isAgg236
  z210 := Tryz.sizeOf236
  v210 := Tryz.zeroValue236
  t212 := Tryz.underlying250
  a212 := Tryz.isAgg250
  z212 := Tryz.sizeOf250
  v212 := Tryz.zeroValue250
  t213 := Tryz.underlying251
  a213 := Tryz.isAgg251
  z213 := Tryz.sizeOf251
  t232 := Tryz.underlying224
  a232 := Tryz.isAgg224
  z232 := Tryz.sizeOf224
  v232 := Tryz.zeroValue224
  t233 := Tryz.underlying303
  a233 := Tryz.isAgg303
  z233 := Tryz.sizeOf303
  v233 := Tryz.zeroValue303
  g15 := by kernel_rfl
  g16 := by kernel_rfl
  g17 := by kernel_rfl
  g18 := by kernel_rfl
  g19 := by kernel_rfl }
open Go.RowKit in
theorem Tryz.strconv_Atoi (s : ByteArray) (n : Int) (hl : s.size ≤ 18) (h : Lib.atoi s.data.toList = some n) (w : World) :
    Calls Tryz.prog 84 #[.string s] w fun e w' => e = .returned (.tuple #[.int .i64 n, .nilIface]) ∧ ∃ t, w' = Lib.bytesWorld w 5 t := Any.strconv_Atoi Tryz.lays172 s n hl h w
def Tryz.lays129_ren : Go.Shelf.Ren := ⟨fun | 129 => 186 | n => n, fun | 53 => 109 | 3 => 3 | 4 => 4 | 46 => 191 | 5 => 5 | 9 => 9 | n => n, fun | n => n⟩
theorem Tryz.lays129 : Go.Proofs.Lays.n129 Tryz.prog Tryz.lays129_ren := {
  mixed := by kernel_rfl
  f129 := Tryz.func186.trans (congrArg some (by kernel_rfl))
  t3 := Tryz.underlying3
  a3 := Tryz.isAgg3
  z3 := Tryz.sizeOf3
  v3 := Tryz.zeroValue3
  t4 := Tryz.underlying4
  a4 := Tryz.isAgg4
  z4 := Tryz.sizeOf4
  v4 := Tryz.zeroValue4
  t5 := Tryz.underlying5
  a5 := Tryz.isAgg5
  z5 := Tryz.sizeOf5
  v5 := Tryz.zeroValue5
  t9 := Tryz.underlying9
  a9 := Tryz.isAgg9
  z9 := Tryz.sizeOf9
  v9 := Tryz.zeroValue9
  t46 := Tryz.underlying191
  a46 := Tryz.isAgg191
  z46 := Tryz.sizeOf191
  v46 := Tryz.zeroValue191
  t53 := Tryz.underlying109
  a53 := Tryz.isAgg109
  z53 := Tryz.sizeOf109
  v53 := Tryz.zeroValue109 }
theorem Tryz.bits_Len64 (x : Int) (w : World) (h0 : 0 ≤ x) (h1 : x ≤ 18446744073709551615) :
    Calls Tryz.prog 186 #[.int .u64 x] w fun e w' => e = .returned (.int .i64 (Lib.bitLen x.toNat)) ∧ w' = w := Any.bits_Len64 Tryz.lays129 x w h0 h1
def Tryz.laysM284_ren : Go.Shelf.Ren := ⟨fun | 284 => 175 | 129 => 186 | 317 => 189 | 318 => 211 | n => n, fun | 53 => 109 | 3 => 3 | 212 => 250 | 0 => 0 | 4 => 4 | 46 => 191 | 5 => 5 | 9 => 9 | n => n, fun | 17 => 7 | n => n⟩
theorem Tryz.laysM284 : Go.Proofs.LaysM.n284 Tryz.prog Tryz.laysM284_ren := {
  mixed := by kernel_rfl
  f129 := Tryz.func186.trans (congrArg some (by kernel_rfl))
  f284 := Tryz.func175.trans (congrArg some (by kernel_rfl))
  f317 := Tryz.func189.trans (congrArg some (by kernel_rfl))
  f318 := Tryz.func211.trans (congrArg some (by kernel_rfl))
  t0 := Tryz.underlying0
  a0 := Tryz.isAgg0
  z0 := Tryz.sizeOf0
  v0 := Tryz.zeroValue0
  t3 := Tryz.underlying3
  a3 := Tryz.isAgg3
  z3 := Tryz.sizeOf3
  v3 := Tryz.zeroValue3
  t4 := Tryz.underlying4
  a4 := Tryz.isAgg4
  z4 := Tryz.sizeOf4
  v4 := Tryz.zeroValue4
  t5 := Tryz.underlying5
  a5 := Tryz.isAgg5
  z5 := Tryz.sizeOf5
  v5 := Tryz.zeroValue5
  t9 := Tryz.underlying9
  a9 := Tryz.isAgg9
  z9 := Tryz.sizeOf9
  v9 := Tryz.zeroValue9
  t46 := Tryz.underlying191
  a46 := Tryz.isAgg191
  z46 := Tryz.sizeOf191
  v46 := Tryz.zeroValue191
  t53 := Tryz.underlying109
  a53 := Tryz.isAgg109
  z53 := Tryz.sizeOf109
  v53 := Tryz.zeroValue109
  t212 := Tryz.underlying250
  a212 := Tryz.isAgg250
  z212 := Tryz.sizeOf250
  v212 := Tryz.zeroValue250
  g17 := by kernel_rfl
  i0 := by kernel_rfl
  i3 := by kernel_rfl
  i4 := by kernel_rfl
  i5 := by kernel_rfl
  i9 := by kernel_rfl
  i46 := by kernel_rfl
  i53 := by kernel_rfl
  i212 := by kernel_rfl
  m17 := by kernel_rfl }
open Go.Lib in
theorem Tryz.internal_strconv_numDigits (u : Nat) (h1 : 1 ≤ u) (h2 : u < 18446744073709551616) (w : World) (htab : Lib.TabIs Tryz.prog w "internal/strconv.uint64pow10" .u64 Lib.pow10Tab) :
    Calls Tryz.prog 175 #[.int .u64 u] w fun e w' => e = .returned (.int .i64 (Lib.nDigits u)) ∧ w' = w := Any.internal_strconv_numDigits Tryz.laysM284 u h1 h2 w htab
def Tryz.lays285_ren : Go.Shelf.Ren := ⟨fun | 285 => 176 | n => n, fun | 37 => 92 | 53 => 109 | 3 => 3 | 4 => 4 | 51 => 219 | 9 => 9 | 5 => 5 | 0 => 0 | n => n, fun | n => n⟩
theorem Tryz.lays285 : Go.Proofs.Lays.n285 Tryz.prog Tryz.lays285_ren := {
  mixed := by kernel_rfl
  f285 := Tryz.func176.trans (congrArg some (by kernel_rfl))
  t0 := Tryz.underlying0
  a0 := Tryz.isAgg0
  z0 := Tryz.sizeOf0
  v0 := Tryz.zeroValue0
  t3 := Tryz.underlying3
  a3 := Tryz.isAgg3
  z3 := Tryz.sizeOf3
  v3 := Tryz.zeroValue3
  t4 := Tryz.underlying4
  a4 := Tryz.isAgg4
  z4 := Tryz.sizeOf4
  v4 := Tryz.zeroValue4
  t5 := Tryz.underlying5
  a5 := Tryz.isAgg5
  z5 := Tryz.sizeOf5
  v5 := Tryz.zeroValue5
  t9 := Tryz.underlying9
  a9 := Tryz.isAgg9
  z9 := Tryz.sizeOf9
  v9 := Tryz.zeroValue9
  t37 := Tryz.underlying92
  a37 := Tryz.isAgg92
  z37 := Tryz.sizeOf92
  v37 := Tryz.zeroValue92
  t51 := Tryz.underlying219
  a51 := Tryz.isAgg219
  z51 := Tryz.sizeOf219
  v51 := Tryz.zeroValue219
  t53 := Tryz.underlying109
  a53 := Tryz.isAgg109
  z53 := Tryz.sizeOf109
  v53 := Tryz.zeroValue109 }
open Go.RowKit Go.Sort Go.Lib in
theorem Tryz.internal_strconv_formatBase10 (blk off cap : Nat) (u : Nat) (d : Array UInt8) (w : World) (hH : Holds (fun (b : UInt8) => Value.int .u8 (b.toNat : Int)) w blk off d) (hu : u < 10 ^ d.size) (hu64 : u < 18446744073709551616) (hsz : d.size < 4611686018427387904) :
    Calls Tryz.prog 176 #[.slice (some ⟨blk, off, none⟩) d.size cap, .int .u64 u] w fun e w' =>
      e = .returned (.tuple #[]) ∧ ∃ (n v' : Nat) (dk : Array UInt8), w' = (putRow (fun (b : UInt8) => Value.int .u8 (b.toNat : Int)) w blk off dk).drewN n ∧ FmtInv d.size u 0 v' dk := Any.internal_strconv_formatBase10 Tryz.lays285 blk off cap u d w hH hu hu64 hsz
def Tryz.laysM171_ren : Go.Shelf.Ren := ⟨fun | 171 => 79 | 243 => 109 | 246 => 141 | 283 => 174 | 284 => 175 | 285 => 176 | 286 => 177 | 129 => 186 | 317 => 189 | 318 => 211 | 319 => 212 | 320 => 213 | 337 => 238 | 338 => 239 | n => n, fun | 3 => 3 | 9 => 9 | 2 => 2 | 4 => 4 | 171 => 213 | 0 => 0 | 53 => 109 | 37 => 92 | 5 => 5 | 173 => 216 | 212 => 250 | 51 => 219 | 20 => 20 | 213 => 251 | 46 => 191 | 232 => 224 | 233 => 303 | n => n, fun | 17 => 7 | 18 => 12 | 19 => 13 | n => n⟩
theorem Tryz.laysM171 : Go.Proofs.LaysM.n171 Tryz.prog Tryz.laysM171_ren := {
  mixed := by kernel_rfl
  f129 := Tryz.func186.trans (congrArg some (by kernel_rfl))
  f171 := Tryz.func79.trans (congrArg some (by kernel_rfl))
  f243 := Tryz.func109.trans (congrArg some (by kernel_rfl))
  f246 := Tryz.func141.trans (congrArg some (by kernel_rfl))
  f283 := Tryz.func174.trans (congrArg some (by kernel_rfl))
  f284 := Tryz.func175.trans (congrArg some (by kernel_rfl))
  f285 := Tryz.func176.trans (congrArg some (by kernel_rfl))
  f286 := Tryz.func177.trans (congrArg some (by kernel_rfl))
  f317 := Tryz.func189.trans (congrArg some (by kernel_rfl))
  f318 := Tryz.func211.trans (congrArg some (by kernel_rfl))
  f319 := Tryz.func212.trans (congrArg some (by kernel_rfl))
  f320 := Tryz.func213.trans (congrArg some (by kernel_rfl))
  f337 := Tryz.func238.trans (congrArg some (by kernel_rfl))
  f338 := Tryz.func239.trans (congrArg some (by kernel_rfl))
  t0 := Tryz.underlying0
  a0 := Tryz.isAgg0
  z0 := Tryz.sizeOf0
  v0 := Tryz.zeroValue0
  t2 := Tryz.underlying2
  a2 := Tryz.isAgg2
  z2 := Tryz.sizeOf2
  v2 := Tryz.zeroValue2
  t3 := Tryz.underlying3
  a3 := Tryz.isAgg3
  z3 := Tryz.sizeOf3
  v3 := Tryz.zeroValue3
  t4 := Tryz.underlying4
  a4 := Tryz.isAgg4
  z4 := Tryz.sizeOf4
  v4 := Tryz.zeroValue4
  t5 := Tryz.underlying5
  a5 := Tryz.isAgg5
  z5 := Tryz.sizeOf5
  v5 := Tryz.zeroValue5
  t9 := Tryz.underlying9
  a9 := Tryz.isAgg9
  z9 := Tryz.sizeOf9
  v9 := Tryz.zeroValue9
  t20 := Tryz.underlying20
  a20 := Tryz.isAgg20
  z20 := Tryz.sizeOf20
  v20 := Tryz.zeroValue20
  t37 := Tryz.underlying92
  a37 := Tryz.isAgg92
  z37 := Tryz.sizeOf92
  v37 := Tryz.zeroValue92
  t46 := Tryz.underlying191
  a46 := Tryz.isAgg191
  z46 := Tryz.sizeOf191
  v46 := Tryz.zeroValue191
  t51 := Tryz.underlying219
  a51 := Tryz.isAgg219
  z51 := Tryz.sizeOf219
  v51 := Tryz.zeroValue219
  t53 := Tryz.underlying109
  a53 := Tryz.isAgg109
  z53 := Tryz.sizeOf109
  v53 := Tryz.zeroValue109
  t171 := Tryz.underlying213
  a171 := Tryz.isAgg213
  z171 := Tryz.sizeOf213
  v171 := Tryz.zeroValue213
  t173 := Tryz.underlying216
  a173 := Tryz.isAgg216
  z173 := Tryz.sizeOf216
  v173 := Tryz.zeroValue216
  t212 := Tryz.underlying250
  a212 := Tryz.isAgg250
  z212 := Tryz.sizeOf250
  v212 := Tryz.zeroValue250
  t213 := Tryz.underlying251
  a213 := Tryz.isAgg251
  z213 := Tryz.sizeOf251
  t232 := Tryz.underlying224
  a232 := Tryz.isAgg224
  z232 := Tryz.sizeOf224
  v232 := Tryz.zeroValue224
  t233 := Tryz.underlying303
  a233 := Tryz.isAgg303
  z233 := Tryz.sizeOf303
  v233 := Tryz.zeroValue303
  g17 := by kernel_rfl
  g18 := by kernel_rfl
  g19 := by kernel_rfl
  i0 := by kernel_rfl
  i2 := by kernel_rfl
  i3 := by kernel_rfl
  i4 := by kernel_rfl
  i5 := by kernel_rfl
  i9 := by kernel_rfl
  i20 := by kernel_rfl
  i37 := by kernel_rfl
  i46 := by kernel_rfl
  i51 := by kernel_rfl
  i53 := by kernel_rfl
  i171 := by kernel_rfl
  i173 := by kernel_rfl
  i212 := by kernel_rfl
  i232 := by kernel_rfl
  i233 := by kernel_rfl
  m17 := by kernel_rfl
  m18 := by kernel_rfl
  m19 := by kernel_rfl }
open Go.RowKit Go.Sort Go.Lib in
theorem Tryz.strconv_Itoa (n : Int) (h0 : -9223372036854775808 ≤ n) (h1 : n ≤ 9223372036854775807) (w : World) (htab : Lib.TabIs Tryz.prog w "internal/strconv.uint64pow10" .u64 Lib.pow10Tab) :
    Calls Tryz.prog 79 #[.int .i64 n] w fun e w' => e = .returned (.string ⟨(Lib.itoa n).toArray⟩) ∧ ∃ k os, w' = grow (w.drewN k) os := Any.strconv_Itoa Tryz.laysM171 n h0 h1 w htab
def Tryz.lays145_ren : Go.Shelf.Ren := ⟨fun | 145 => 82 | 220 => 114 | 219 => 142 | 217 => 173 | 225 => 178 | 224 => 179 | 267 => 180 | 266 => 210 | 314 => 214 | n => n, fun | 9 => 9 | 4 => 4 | 59 => 136 | 3 => 3 | 5 => 5 | 46 => 191 | 146 => 238 | 51 => 219 | n => n, fun | 1 => 1 | n => n⟩
theorem Tryz.lays145 : Go.Proofs.Lays.n145 Tryz.prog Tryz.lays145_ren := {
  mixed := by kernel_rfl
  f145 := Tryz.func82.trans (congrArg some (by kernel_rfl))
  f217 := Tryz.func173.trans (congrArg some (by kernel_rfl))
  f219 := Tryz.func142.trans (congrArg some (by kernel_rfl))
  f220 := Tryz.func114.trans (congrArg some (by kernel_rfl))
  f224 := Tryz.func179.trans (congrArg some (by kernel_rfl))
  f225 := Tryz.func178.trans (congrArg some (by kernel_rfl))
  f266 := Tryz.func210.trans (congrArg some (by kernel_rfl))
  f267 := Tryz.func180.trans (congrArg some (by kernel_rfl))
  f314 := Tryz.func214.trans (congrArg some (by kernel_rfl))
  t3 := Tryz.underlying3
  a3 := Tryz.isAgg3
  z3 := Tryz.sizeOf3
  v3 := Tryz.zeroValue3
  t4 := Tryz.underlying4
  a4 := Tryz.isAgg4
  z4 := Tryz.sizeOf4
  v4 := Tryz.zeroValue4
  t5 := Tryz.underlying5
  a5 := Tryz.isAgg5
  z5 := Tryz.sizeOf5
  v5 := Tryz.zeroValue5
  t9 := Tryz.underlying9
  a9 := Tryz.isAgg9
  z9 := Tryz.sizeOf9
  v9 := Tryz.zeroValue9
  t46 := Tryz.underlying191
  a46 := Tryz.isAgg191
  z46 := Tryz.sizeOf191
  v46 := Tryz.zeroValue191
  t51 := Tryz.underlying219
  a51 := Tryz.isAgg219
  z51 := Tryz.sizeOf219
  v51 := Tryz.zeroValue219
  t59 := Tryz.underlying136
  a59 := Tryz.isAgg136
  z59 := Tryz.sizeOf136
  v59 := Tryz.zeroValue136
  t146 := Tryz.underlying238
  a146 := Tryz.isAgg238
  z146 := Tryz.sizeOf238
  v146 := Tryz.zeroValue238
  g1 := by kernel_rfl }
open Go.RowKit Go.Lib in
theorem Tryz.strings_Cut (s sep : ByteArray) (m : Int) (w : World) (hs : s.size < 4294967281) (hm : w.cell? ⟨1, 0, none⟩ = some (.int .i64 m)) :
    Calls Tryz.prog 82 #[.string s, .string sep] w fun e w' => e = .returned (.tuple #[.string ⟨(Lib.cut s.data.toList sep.data.toList).1.toArray⟩, .string ⟨(Lib.cut s.data.toList sep.data.toList).2.1.toArray⟩, .bool (Lib.cut s.data.toList sep.data.toList).2.2]) ∧ ∃ n, w' = w.drewN n := Any.strings_Cut Tryz.lays145 s sep m w hs hm
def Tryz.lays154_ren : Go.Shelf.Ren := ⟨fun | 154 => 86 | 138 => 119 | 165 => 87 | 143 => 120 | 166 => 54 | 197 => 121 | 169 => 55 | 195 => 153 | 218 => 154 | 240 => 93 | 241 => 122 | 219 => 142 | 260 => 155 | 276 => 126 | 277 => 156 | 217 => 173 | 225 => 178 | 224 => 179 | 267 => 180 | 266 => 210 | 314 => 214 | n => n, fun | 9 => 9 | 3 => 3 | 4 => 4 | 72 => 94 | 0 => 0 | 76 => 97 | 105 => 163 | 21 => 21 | 5 => 5 | 70 => 91 | 20 => 20 | 37 => 92 | 75 => 96 | 127 => 145 | 164 => 167 | 46 => 191 | 119 => 242 | 139 => 245 | 138 => 244 | 146 => 238 | 51 => 219 | 80 => 99 | n => n, fun | 1 => 1 | 3 => 5 | 4 => 6 | n => n⟩
theorem Tryz.lays154 : Go.Proofs.Lays.n154 Tryz.prog Tryz.lays154_ren := {
  mixed := by kernel_rfl
  f138 := Tryz.func119.trans (congrArg some (by kernel_rfl))
  f143 := Tryz.func120.trans (congrArg some (by kernel_rfl))
  f154 := Tryz.func86.trans (congrArg some (by kernel_rfl))
  f165 := Tryz.func87.trans (congrArg some (by kernel_rfl))
  f166 := Tryz.func54.trans (congrArg some (by kernel_rfl))
  f169 := Tryz.func55.trans (congrArg some (by kernel_rfl))
  f195 := Tryz.func153.trans (congrArg some (by kernel_rfl))
  f197 := Tryz.func121.trans (congrArg some (by kernel_rfl))
  f217 := Tryz.func173.trans (congrArg some (by kernel_rfl))
  f218 := Tryz.func154.trans (congrArg some (by kernel_rfl))
  f219 := Tryz.func142.trans (congrArg some (by kernel_rfl))
  f224 := Tryz.func179.trans (congrArg some (by kernel_rfl))
  f225 := Tryz.func178.trans (congrArg some (by kernel_rfl))
  f240 := Tryz.func93.trans (congrArg some (by kernel_rfl))
  f241 := Tryz.func122.trans (congrArg some (by kernel_rfl))
  f260 := Tryz.func155.trans (congrArg some (by kernel_rfl))
  f266 := Tryz.func210.trans (congrArg some (by kernel_rfl))
  f267 := Tryz.func180.trans (congrArg some (by kernel_rfl))
  f276 := Tryz.func126.trans (congrArg some (by kernel_rfl))
  f277 := Tryz.func156.trans (congrArg some (by kernel_rfl))
  f314 := Tryz.func214.trans (congrArg some (by kernel_rfl))
  t0 := Tryz.underlying0
  a0 := Tryz.isAgg0
  z0 := Tryz.sizeOf0
  v0 := Tryz.zeroValue0
  t3 := Tryz.underlying3
  a3 := Tryz.isAgg3
  z3 := Tryz.sizeOf3
  v3 := Tryz.zeroValue3
  t4 := Tryz.underlying4
  a4 := Tryz.isAgg4
  z4 := Tryz.sizeOf4
  v4 := Tryz.zeroValue4
  t5 := Tryz.underlying5
  a5 := Tryz.isAgg5
  z5 := Tryz.sizeOf5
  v5 := Tryz.zeroValue5
  t9 := Tryz.underlying9
  a9 := Tryz.isAgg9
  z9 := Tryz.sizeOf9
  v9 := Tryz.zeroValue9
  t20 := Tryz.underlying20
  a20 := Tryz.isAgg20
  z20 := Tryz.sizeOf20
  v20 := Tryz.zeroValue20
  t21 := Tryz.underlying21
  a21 := Tryz.isAgg21
  z21 := Tryz.sizeOf21
  v21 := Tryz.zeroValue21
  t37 := Tryz.underlying92
  a37 := Tryz.isAgg92
  z37 := Tryz.sizeOf92
  v37 := Tryz.zeroValue92
  t46 := Tryz.underlying191
  a46 := Tryz.isAgg191
  z46 := Tryz.sizeOf191
  v46 := Tryz.zeroValue191
  t51 := Tryz.underlying219
  a51 := Tryz.isAgg219
  z51 := Tryz.sizeOf219
  v51 := Tryz.zeroValue219
  t70 := Tryz.underlying91
  a70 := Tryz.isAgg91
  z70 := Tryz.sizeOf91
  v70 := Tryz.zeroValue91
  t72 := Tryz.underlying94
  a72 := Tryz.isAgg94
  z72 := Tryz.sizeOf94
  v72 := Tryz.zeroValue94
  t75 := Tryz.underlying96
  a75 := Tryz.isAgg96
  z75 := Tryz.sizeOf96
  v75 := Tryz.zeroValue96
  t76 := Tryz.underlying97
  a76 := Tryz.isAgg97
  z76 := Tryz.sizeOf97
  v76 := Tryz.zeroValue97
  t105 := Tryz.underlying163
  a105 := Tryz.isAgg163
  z105 := Tryz.sizeOf163
  v105 := Tryz.zeroValue163
  t119 := Tryz.underlying242
  a119 := Tryz.isAgg242
  z119 := Tryz.sizeOf242
  t127 := Tryz.underlying145
  a127 := Tryz.isAgg145
  z127 := Tryz.sizeOf145
  v127 := Tryz.zeroValue145
  t138 := Tryz.underlying244
  a138 := Tryz.isAgg244
  z138 := Tryz.sizeOf244
  v138 := Tryz.zeroValue244
  t139 := Tryz.underlying245
  a139 := Tryz.isAgg245
  z139 := Tryz.sizeOf245
  v139 := Tryz.zeroValue245
  t146 := Tryz.underlying238
  a146 := Tryz.isAgg238
  z146 := Tryz.sizeOf238
  v146 := Tryz.zeroValue238
  t164 := Tryz.underlying167
  a164 := Tryz.isAgg167
  z164 := Tryz.sizeOf167
  v164 := Tryz.zeroValue167
  g1 := by kernel_rfl
  g3 := by kernel_rfl
  g4 := by kernel_rfl }
theorem Tryz.Builder_Extra_154 : Builder.Extra Tryz.prog Tryz.lays154_ren := {
  sizeBuilder := by kernel_rfl
  liesBuilder := by kernel_rfl
  t5 := Tryz.underlying5
  a5 := Tryz.isAgg5
  z5 := Tryz.sizeOf5
  v5 := Tryz.zeroValue5
  infoByte := by kernel_rfl
  cellsByte := by kernel_rfl
  sizeByte := by kernel_rfl
  neB5 := by decide }
open Go.RowKit Go.Lib in
theorem Tryz.strings_Replace (s old new : ByteArray) (n : Int) (m : Int) (w : World) (hs : s.size < 4294967281) (hm : w.cell? ⟨1, 0, none⟩ = some (.int .i64 m)) (h1 : 1 ≤ old.size) (hlen : s.size + Lib.countB s old * new.size ≤ 140737488355328) :
    Calls Tryz.prog 86 #[.string s, .string old, .string new, .int .i64 n] w fun e w' =>
      e = .returned (.string ⟨(Lib.replace s.data.toList old.data.toList new.data.toList n).toArray⟩) ∧ Below w.heap.size w w' := Any.strings_Replace Tryz.lays154 Tryz.Builder_Extra_154 s old new n m w hs hm h1 hlen
def Tryz.lays264_ren : Go.Shelf.Ren := ⟨fun | 264 => 199 | n => n, fun | 53 => 109 | 46 => 191 | n => n, fun | n => n⟩
theorem Tryz.lays264 : Go.Proofs.Lays.n264 Tryz.prog Tryz.lays264_ren := {
  mixed := by kernel_rfl
  f264 := Tryz.func199.trans (congrArg some (by kernel_rfl))
  t46 := Tryz.underlying191
  a46 := Tryz.isAgg191
  z46 := Tryz.sizeOf191
  v46 := Tryz.zeroValue191
  t53 := Tryz.underlying109
  a53 := Tryz.isAgg109
  z53 := Tryz.sizeOf109
  v53 := Tryz.zeroValue109 }
open Go.RowKit Go.Lib in
theorem Tryz.bits_Mul64 (x y : Nat) (hx : x < 18446744073709551616) (hy : y < 18446744073709551616) (w : World) :
    Calls Tryz.prog 199 #[.int .u64 x, .int .u64 y] w fun e w' => e = .returned (.tuple #[.int .u64 ((x * y / 18446744073709551616 : Nat) : Int), .int .u64 ((x * y % 18446744073709551616 : Nat) : Int)]) ∧ w' = w := Any.bits_Mul64 Tryz.lays264 x y hx hy w
def Tryz.lays105_ren : Go.Shelf.Ren := ⟨fun | 105 => 118 | 212 => 150 | 99 => 151 | 165 => 87 | 166 => 54 | 170 => 152 | 169 => 55 | 263 => 198 | 264 => 199 | 206 => 200 | 240 => 93 | 241 => 122 | 276 => 126 | 277 => 156 | n => n, fun | 9 => 9 | 3 => 3 | 4 => 4 | 20 => 20 | 0 => 0 | 46 => 191 | 109 => 192 | 5 => 5 | 72 => 94 | 76 => 97 | 51 => 219 | 146 => 238 | 53 => 109 | 148 => 240 | 70 => 91 | 37 => 92 | 75 => 96 | 127 => 145 | 164 => 167 | 80 => 99 | n => n, fun | n => n⟩
theorem Tryz.lays105 : Go.Proofs.Lays.n105 Tryz.prog Tryz.lays105_ren := {
  mixed := by kernel_rfl
  f99 := Tryz.func151.trans (congrArg some (by kernel_rfl))
  f105 := Tryz.func118.trans (congrArg some (by kernel_rfl))
  f165 := Tryz.func87.trans (congrArg some (by kernel_rfl))
  f166 := Tryz.func54.trans (congrArg some (by kernel_rfl))
  f169 := Tryz.func55.trans (congrArg some (by kernel_rfl))
  f170 := Tryz.func152.trans (congrArg some (by kernel_rfl))
  f206 := Tryz.func200.trans (congrArg some (by kernel_rfl))
  f212 := Tryz.func150.trans (congrArg some (by kernel_rfl))
  f240 := Tryz.func93.trans (congrArg some (by kernel_rfl))
  f241 := Tryz.func122.trans (congrArg some (by kernel_rfl))
  f263 := Tryz.func198.trans (congrArg some (by kernel_rfl))
  f264 := Tryz.func199.trans (congrArg some (by kernel_rfl))
  f276 := Tryz.func126.trans (congrArg some (by kernel_rfl))
  f277 := Tryz.func156.trans (congrArg some (by kernel_rfl))
  t0 := Tryz.underlying0
  a0 := Tryz.isAgg0
  z0 := Tryz.sizeOf0
  v0 := Tryz.zeroValue0
  t3 := Tryz.underlying3
  a3 := Tryz.isAgg3
  z3 := Tryz.sizeOf3
  v3 := Tryz.zeroValue3
  t4 := Tryz.underlying4
  a4 := Tryz.isAgg4
  z4 := Tryz.sizeOf4
  v4 := Tryz.zeroValue4
  t5 := Tryz.underlying5
  a5 := Tryz.isAgg5
  z5 := Tryz.sizeOf5
  v5 := Tryz.zeroValue5
  t9 := Tryz.underlying9
  a9 := Tryz.isAgg9
  z9 := Tryz.sizeOf9
  v9 := Tryz.zeroValue9
  t20 := Tryz.underlying20
  a20 := Tryz.isAgg20
  z20 := Tryz.sizeOf20
  v20 := Tryz.zeroValue20
  t37 := Tryz.underlying92
  a37 := Tryz.isAgg92
  z37 := Tryz.sizeOf92
  v37 := Tryz.zeroValue92
  t46 := Tryz.underlying191
  a46 := Tryz.isAgg191
  z46 := Tryz.sizeOf191
  v46 := Tryz.zeroValue191
  t51 := Tryz.underlying219
  a51 := Tryz.isAgg219
  z51 := Tryz.sizeOf219
  v51 := Tryz.zeroValue219
  t53 := Tryz.underlying109
  a53 := Tryz.isAgg109
  z53 := Tryz.sizeOf109
  v53 := Tryz.zeroValue109
  t70 := Tryz.underlying91
  a70 := Tryz.isAgg91
  z70 := Tryz.sizeOf91
  v70 := Tryz.zeroValue91
  t72 := Tryz.underlying94
  a72 := Tryz.isAgg94
  z72 := Tryz.sizeOf94
  v72 := Tryz.zeroValue94
  t75 := Tryz.underlying96
  a75 := Tryz.isAgg96
  z75 := Tryz.sizeOf96
  v75 := Tryz.zeroValue96
  t76 := Tryz.underlying97
  a76 := Tryz.isAgg97
  z76 := Tryz.sizeOf97
  v76 := Tryz.zeroValue97
  t109 := Tryz.underlying192
  a109 := Tryz.isAgg192
  z109 := Tryz.sizeOf192
  v109 := Tryz.zeroValue192
  t127 := Tryz.underlying145
  a127 := Tryz.isAgg145
  z127 := Tryz.sizeOf145
  v127 := Tryz.zeroValue145
  t146 := Tryz.underlying238
  a146 := Tryz.isAgg238
  z146 := Tryz.sizeOf238
  v146 := Tryz.zeroValue238
  t148 := Tryz.underlying240
  a148 := Tryz.isAgg240
  z148 := Tryz.sizeOf240
  v148 := Tryz.zeroValue240
  t164 := Tryz.underlying167
  a164 := Tryz.isAgg167
  z164 := Tryz.sizeOf167
  v164 := Tryz.zeroValue167 }
theorem Tryz.Builder_Extra_105 : Builder.Extra Tryz.prog Tryz.lays105_ren := {
  sizeBuilder := by kernel_rfl
  liesBuilder := by kernel_rfl
  t5 := Tryz.underlying5
  a5 := Tryz.isAgg5
  z5 := Tryz.sizeOf5
  v5 := Tryz.zeroValue5
  infoByte := by kernel_rfl
  cellsByte := by kernel_rfl
  sizeByte := by kernel_rfl
  neB5 := by decide }
open Go.RowKit Go.Lib in
theorem Tryz.strings_Repeat (s : ByteArray) (c : Nat) (w : World) (hc : c ≤ 9223372036854775807) (hlen : s.size * c ≤ 140737488355328) :
    Calls Tryz.prog 118 #[.string s, .int .i64 c] w fun e w' => e = .returned (.string ⟨(Lib.repeatL s.data.toList c).toArray⟩) ∧ Below w.heap.size w w' := Any.strings_Repeat Tryz.lays105 Tryz.Builder_Extra_105 s c w hc hlen
end Go.Proofs

/- The small functions of unrounded scaling: what each answers. No conditions but those stated. -/
namespace Go.Proofs.YtcbgkbidgpemfaaGreatDoor.prnw
open Go.RowKit
open Go.Proofs.YtcbgkbidgpemfaaGreatDoor.bsw
theorem set_grown (W : World) (b j : Nat) (v : Value) : W.grownBy (W.setCell ⟨b, j, none⟩ v) (some b) := ⟨rfl, rfl, rfl, by simp, fun i _ hne => Below.heap_setCell W ⟨b, j, none⟩ v i (fun e => hne (by rw [e]))⟩
/-- returns this, and the world is as it was -/
def Same (w : World) (v : Value) (e : Ending) (w' : World) : Prop := e = .returned v ∧ w' = w
theorem l2_any (e : Int) (h0 : -3000 ≤ e) (h1 : e ≤ 3000) (w : World) : Calls Tryz.prog 220 #[.int .i64 e] w (Same w (.int .i64 (e * 108853 / 32768))) := by
  go_enter Tryz.func220, Tryz.ntmps220
  go_wp2
  go_ret
  exact ⟨rfl, rfl⟩
theorem b2u (b : Bool) (w : World) : Calls Tryz.prog 240 #[.bool b] w (Same w (.int .u64 (if b then 1 else 0))) := by
  go_enter Tryz.func240, Tryz.ntmps240
  cases b
  all_goals go_wp2
  all_goals go_ret
  all_goals exact ⟨rfl, rfl⟩
def ceilI (u : Int) : Int := IntKind.u64.wrap (u + 3) / 4
def nudgeI (u d : Int) : Int := IntKind.u64.wrap (u + IntKind.u64.wrap d)
def roundI (u : Int) : Int := IntKind.u64.wrap (IntKind.u64.wrap (u + 1) + bits BinOp.and IntKind.u64 (u / 4) 1) / 4
theorem w64 (n : Int) : 0 ≤ IntKind.u64.wrap n ∧ IntKind.u64.wrap n < 18446744073709551616 := by
  rw [IntKind.wrap_u64]
  omega
theorem ceil_bd (u : Int) : 0 ≤ ceilI u ∧ ceilI u < 18446744073709551616 := by have := w64 (u + 3); unfold ceilI; omega
theorem nudge_bd (u d : Int) : 0 ≤ nudgeI u d ∧ nudgeI u d < 18446744073709551616 := w64 _
theorem round_bd (u : Int) : 0 ≤ roundI u ∧ roundI u < 18446744073709551616 := by have := w64 (IntKind.u64.wrap (u + 1) + bits BinOp.and IntKind.u64 (u / 4) 1); unfold roundI; omega
theorem round_any (u : Int) (_h0 : 0 ≤ u) (_h1 : u < 18446744073709551616) (w : World) : Calls Tryz.prog 225 #[.int .u64 u] w (Same w (.int .u64 (roundI u))) := by
  go_enter Tryz.func225, Tryz.ntmps225
  go_wp2
  go_ret
  exact ⟨rfl, rfl⟩
theorem wl_pre {P : Program} {ops : Array Oper} {rest : List Oper} {o : Oper} {a : Act} {w : World} {Q : Exit → Act → World → Prop} (h : wpList P ops Q (o :: rest) a w) : wpList P ops Q (o :: rest) a w := h
theorem wl_set_u64 {ops : Array Oper} {rest : List Oper} {o : Oper} {a : Act} {w : World} {Q : Exit → Act → World → Prop} (hgd : o.guard = none) (x y : Operand) (ho : o.op = .store 109 x y) (b j : Nat) (v : Int) (old : Value) (hx : a.eval x = .pointer (some ⟨b, j, none⟩)) (hy : a.eval y = .int .u64 v)
    (hc : w.cell? ⟨b, j, none⟩ = some old) (hf : w.frozen? ⟨b, j, none⟩ = false)
    (h : wpList Tryz.prog ops Q rest (a.put o.dst undef) (w.setCell ⟨b, j, none⟩ (.int .u64 v))) : wpList Tryz.prog ops Q (o :: rest) a w := by
  have hr : (Instr.storeAt 109 (.pointer (some ⟨b, j, none⟩)) (.int .u64 v)).run Tryz.prog w = .ok () (w.setCell ⟨b, j, none⟩ (.int .u64 v)) := by
    simp [Instr.storeAt, Instr.sureAddr, storeVar, run_store_int, stored, hc, hf, go_sem]
  refine wpList_plain hgd fun K hK => ?_
  unfold Oper.wp execOp
  simp only [ho, hx, hy, hr, Sem.run_bind, Sem.run_pure, Result.andThen_ok]
  exact hK _ _ h
theorem wl_set_i64 {ops : Array Oper} {rest : List Oper} {o : Oper} {a : Act} {w : World} {Q : Exit → Act → World → Prop} (hgd : o.guard = none) (x y : Operand) (ho : o.op = .store 3 x y) (b j : Nat) (v : Int) (old : Value) (hx : a.eval x = .pointer (some ⟨b, j, none⟩)) (hy : a.eval y = .int .i64 v)
    (hc : w.cell? ⟨b, j, none⟩ = some old) (hf : w.frozen? ⟨b, j, none⟩ = false)
    (h : wpList Tryz.prog ops Q rest (a.put o.dst undef) (w.setCell ⟨b, j, none⟩ (.int .i64 v))) : wpList Tryz.prog ops Q (o :: rest) a w := by
  have hr : (Instr.storeAt 3 (.pointer (some ⟨b, j, none⟩)) (.int .i64 v)).run Tryz.prog w = .ok () (w.setCell ⟨b, j, none⟩ (.int .i64 v)) := by
    simp [Instr.storeAt, Instr.sureAddr, storeVar, run_store_int, stored, hc, hf, go_sem]
  refine wpList_plain hgd fun K hK => ?_
  unfold Oper.wp execOp
  simp only [ho, hx, hy, hr, Sem.run_bind, Sem.run_pure, Result.andThen_ok]
  exact hK _ _ h
/-- the table of powers of ten -/
def PT (hi lo : Nat → Nat) (w : World) : Prop := ∀ i, i < 696 → hi i < 18446744073709551616 ∧ lo i < 18446744073709551616 ∧ w.cell? ⟨8, i * 2, none⟩ = some (.int .u64 (hi i : Nat)) ∧ w.cell? ⟨8, i * 2 + 1, none⟩ = some (.int .u64 (lo i : Nat))
/-- a scaler in block pb -/
def SC (w : World) (pb : Nat) (hi lo : Nat) (s : Int) : Prop := w.heap[pb]? = some (.cells #[.int .u64 (hi : Nat), .int .u64 (lo : Nat), .int .i64 s] 258 (0, 0))
set_option maxRecDepth 100000 in
set_option maxHeartbeats 1000000 in
theorem prescale_any (hi lo : Nat → Nat) (pb : Nat) (e : Int) (i : Nat) (lp : Int) (hi6 : i < 696) (e0 : -3000 ≤ e) (e1 : e ≤ 3000) (l0 : -3000 ≤ lp) (l1 : lp ≤ 3000) (h0 l00 : Nat) (s0 : Int) (w : World) (hT : PT hi lo w) (hne : pb ≠ 8) (hb : SC w pb h0 l00 s0) :
    Calls Tryz.prog 219 #[.pointer (some ⟨pb, 0, none⟩), .int .i64 e, .int .i64 ((i : Int) - 348), .int .i64 lp] w fun x w' => x = .returned (.tuple #[]) ∧ SC w' pb (hi i) (lo i) (-(e + lp + 3)) ∧ w.grownBy w' (some pb) := by
  obtain ⟨_, _, c1, c2⟩ := hT i hi6
  have i0 : (0 : Int) ≤ (i : Int) := by omega
  have i6 : (i : Int) < 696 := by omega
  have ce : ∀ (u : World) (cs : Array Value) (j : Nat), u.heap[pb]? = some (.cells cs 258 (0, 0)) → u.frozen? ⟨pb, j, none⟩ = false := fun u cs j h => by simp [World.frozen?, h]
  have hb0 : w.heap[pb]? = some (.cells #[.int .u64 (h0 : Nat), .int .u64 (l00 : Nat), .int .i64 s0] 258 (0, 0)) := hb
  obtain ⟨W1, hW1⟩ : ∃ W1, W1 = w.setCell ⟨pb, 0, none⟩ (.int .u64 (hi i : Nat)) := ⟨_, rfl⟩
  obtain ⟨W2, hW2⟩ : ∃ W2, W2 = W1.setCell ⟨pb, 1, none⟩ (.int .u64 (lo i : Nat)) := ⟨_, rfl⟩
  obtain ⟨W3, hW3⟩ : ∃ W3, W3 = W2.setCell ⟨pb, 2, none⟩ (.int .i64 (-(e + lp + 3))) := ⟨_, rfl⟩
  have hb1 : W1.heap[pb]? = some (.cells #[.int .u64 (hi i : Nat), .int .u64 (l00 : Nat), .int .i64 s0] 258 (0, 0)) := by rw [hW1, heap_set w pb 0 _ _ _ _ hb0]; rfl
  have hb2 : W2.heap[pb]? = some (.cells #[.int .u64 (hi i : Nat), .int .u64 (lo i : Nat), .int .i64 s0] 258 (0, 0)) := by rw [hW2, heap_set W1 pb 1 _ _ _ _ hb1]; rfl
  have hb3 : W3.heap[pb]? = some (.cells #[.int .u64 (hi i : Nat), .int .u64 (lo i : Nat), .int .i64 (-(e + lp + 3))] 258 (0, 0)) := by rw [hW3, heap_set W2 pb 2 _ _ _ _ hb2]; rfl
  have hg : w.grownBy W3 (some pb) := by
    rw [hW3, hW2, hW1]
    exact grown_trans (grown_trans (set_grown _ _ _ _) (set_grown _ _ _ _)) (set_grown _ _ _ _)
  have hk : ∀ (u : World) (j : Nat) (v : Value), (∀ b, b ≠ pb → u.heap[b]? = w.heap[b]?) → w.cell? ⟨8, j, none⟩ = some v → u.cell? ⟨8, j, none⟩ = some v := fun u j v hu hv =>
    (World.cell?_of_block (a := ⟨8, j, none⟩) (hu _ (fun e => hne e.symm))).trans hv
  have u1 : ∀ b, b ≠ pb → W1.heap[b]? = w.heap[b]? := fun b hb => by rw [hW1]; exact Below.heap_setCell w ⟨pb, 0, none⟩ _ b hb
  have c21 := hk W1 _ _ u1 c2
  have C1 := Lib.hid (And.intro ((cell_of_row w pb 0 _ _ _ hb0).trans rfl : w.cell? ⟨pb, 0, none⟩ = some (.int .u64 (h0 : Nat))) (ce w _ 0 hb0))
  have C2 := Lib.hid (And.intro ((cell_of_row W1 pb 1 _ _ _ hb1).trans rfl : W1.cell? ⟨pb, 1, none⟩ = some (.int .u64 (l00 : Nat))) (ce W1 _ 1 hb1))
  have C3 := Lib.hid (And.intro ((cell_of_row W2 pb 2 _ _ _ hb2).trans rfl : W2.cell? ⟨pb, 2, none⟩ = some (.int .i64 s0)) (ce W2 _ 2 hb2))
  have Y1 := Lib.hid hW1
  have Y2 := Lib.hid hW2
  have Y3 := Lib.hid hW3
  have HR := Lib.hid (And.intro (show SC W3 pb (hi i) (lo i) (-(e + lp + 3)) from hb3) hg)
  clear hk u1 hb0 hb1 hb2 hb3 hb hT hg ce hW1 hW2 hW3 c2 hne
  go_enter Tryz.func219, Tryz.ntmps219
  go_wp2_with ((with_reducible refine wl_pre ?_); (first | (refine wl_set_u64 rfl (.tmp 15) (.tmp 13) rfl pb 0 _ _ rfl rfl C1.out.1 C1.out.2 ?_; rw [← Y1.out]) | (refine wl_set_u64 rfl (.tmp 23) (.tmp 21) rfl pb 1 _ _ rfl rfl C2.out.1 C2.out.2 ?_; rw [← Y2.out]) | (refine wl_set_i64 rfl (.tmp 31) (.tmp 29) rfl pb 2 _ _ rfl rfl C3.out.1 C3.out.2 ?_; rw [← Y3.out])); (simp only [Act.put]))
  go_end0
  exact ⟨rfl, HR.out⟩
end Go.Proofs.YtcbgkbidgpemfaaGreatDoor.prnw

/- Multiprecision decimals: plain arithmetic of their digits. No conditions but those stated. -/
namespace Go.Proofs.YtcbgkbidgpemfaaGreatDoor.dmx

/-- the number that the first r of the n digits of N spell, with noughts behind -/
def preN (N n r : Nat) : Nat := N * 10 ^ r / 10 ^ n
/-- the digit at place r -/
def dgN (N n r : Nat) : Nat := N * 10 ^ (r + 1) / 10 ^ n % 10
/-- the shift to the right: what is written when r digits are read -/
def quR (N n k r : Nat) : Nat := preN N n r / (10 * 2 ^ k)
theorem two_pos (k : Nat) : 0 < 2 ^ k := Nat.pow_pos (by decide)
end Go.Proofs.YtcbgkbidgpemfaaGreatDoor.dmx

/- Multiprecision decimals: the shift to the left, noughts at the end, values: plain arithmetic. No conditions but those stated. -/
namespace Go.Proofs.YtcbgkbidgpemfaaGreatDoor.dmx

/-- a number that is written: digits N of so many, 0.N by ten to dp; good: it begins with no nought, and ends with none -/
structure WGood (N n : Nat) : Prop where
  n1 : 1 ≤ n
  lo : 10 ^ (n - 1) ≤ N
  hi : N < 10 ^ n
structure DGood (N n : Nat) : Prop extends WGood N n where
  md : N % 10 ≠ 0
/-- its value, by ten to 2000 -/
def val (N n : Nat) (dp : Int) : Nat := N * 10 ^ (dp - n + 2000).toNat
end Go.Proofs.YtcbgkbidgpemfaaGreatDoor.dmx

/- Multiprecision decimals: the shift to the left: plain arithmetic. No conditions but those stated. -/
namespace Go.Proofs.YtcbgkbidgpemfaaGreatDoor.dmx

end Go.Proofs.YtcbgkbidgpemfaaGreatDoor.dmx

/- Multiprecision decimals: how many digits there can be, and rounding to a whole number: plain arithmetic. No conditions but those stated. -/
namespace Go.Proofs.YtcbgkbidgpemfaaGreatDoor.dmx

theorem five_ten (s : Nat) : 5 ^ s ≤ 10 ^ (7 * (s / 10) + 7) := by
  have h1 : (5 : Nat) ^ s ≤ 5 ^ (10 * (s / 10 + 1)) := Nat.pow_le_pow_right (by decide) (by omega)
  have h2 : (5 : Nat) ^ (10 * (s / 10 + 1)) ≤ 10 ^ (7 * (s / 10 + 1)) := by
    rw [Nat.pow_mul, Nat.pow_mul]
    exact Nat.pow_le_pow_left (by decide) _
  have e : 7 * (s / 10 + 1) = 7 * (s / 10) + 7 := by omega
  rw [e] at h2
  exact Nat.le_trans h1 h2
theorem pow_lt_inv {a b : Nat} (h : 10 ^ a < 10 ^ b) : a < b := by
  refine Nat.lt_of_not_le fun hl => ?_
  exact absurd (Nat.pow_le_pow_right (n := 10) (by decide) hl) (Nat.not_le_of_lt h)
theorem d10 : ∀ d : Nat, d ≠ 0 → 10 ∣ 10 ^ d
  | 0, h => absurd rfl h
  | d + 1, _ => Nat.dvd_mul_left 10 (10 ^ d)
/-- shifts to the right: how great the digits' number can be -/
theorem right_bd {N N0 q q0 s : Nat} (hm : N % 10 ≠ 0) (h : N * 10 ^ q * 2 ^ s = N0 * 10 ^ q0) : N ≤ N0 * 5 ^ s := by
  by_cases hq : q0 ≤ q
  · obtain ⟨d, rfl⟩ := Nat.exists_eq_add_of_le hq
    have h1 : N * 10 ^ d * 2 ^ s = N0 := by
      rw [Nat.pow_add] at h
      have e : N * (10 ^ q0 * 10 ^ d) * 2 ^ s = N * 10 ^ d * 2 ^ s * 10 ^ q0 := by ac_rfl
      rw [e] at h
      exact Nat.eq_of_mul_eq_mul_right (Nat.pow_pos (by decide)) h
    have h2 : N ≤ N0 := by
      rw [← h1, Nat.mul_assoc]
      exact Nat.le_mul_of_pos_right _ (Nat.mul_pos (Nat.pow_pos (by decide)) (two_pos s))
    exact Nat.le_trans h2 (Nat.le_mul_of_pos_right _ (Nat.pow_pos (by decide)))
  · obtain ⟨d, hd⟩ : ∃ d, q0 = q + d := ⟨q0 - q, by omega⟩
    subst hd
    have hd0 : d ≠ 0 := by omega
    have h1 : N * 2 ^ s = N0 * 10 ^ d := by
      rw [Nat.pow_add] at h
      have e : N * 10 ^ q * 2 ^ s = N * 2 ^ s * 10 ^ q := by ac_rfl
      have e2 : N0 * (10 ^ q * 10 ^ d) = N0 * 10 ^ d * 10 ^ q := by ac_rfl
      rw [e, e2] at h
      exact Nat.eq_of_mul_eq_mul_right (Nat.pow_pos (by decide)) h
    have ht : (10 : Nat) ^ d = 2 ^ d * 5 ^ d := by rw [← Nat.mul_pow]
    have c5 : Nat.Coprime 5 (2 ^ s) := Nat.Coprime.pow_right s (by decide)
    have f5 : 5 ∣ N := by
      have : 5 ∣ N * 2 ^ s := by
        rw [h1]
        exact Nat.dvd_mul_left_of_dvd (Nat.dvd_trans (by decide : 5 ∣ 10) (d10 d hd0)) _
      exact c5.dvd_of_dvd_mul_right this
    have n2 : N % 2 = 1 := by
      obtain ⟨c, rfl⟩ := f5
      omega
    have c2 : Nat.Coprime (2 ^ d) N := Nat.Coprime.pow_left d (by
      rw [Nat.coprime_comm, Nat.Coprime, Nat.gcd_comm, Nat.gcd_rec, n2]
      decide)
    have h2d : 2 ^ d ∣ 2 ^ s := by
      have : 2 ^ d ∣ N * 2 ^ s := by
        rw [h1, ht]
        exact Nat.dvd_mul_left_of_dvd (Nat.dvd_mul_right _ _) _
      exact c2.dvd_of_dvd_mul_left this
    have hds : d ≤ s := (Nat.pow_dvd_pow_iff_le_right (by decide)).1 h2d
    obtain ⟨c, rfl⟩ := Nat.exists_eq_add_of_le hds
    have h3 : N * 2 ^ c = N0 * 5 ^ d := by
      rw [Nat.pow_add, ht] at h1
      have e : N * (2 ^ d * 2 ^ c) = N * 2 ^ c * 2 ^ d := by ac_rfl
      have e2 : N0 * (2 ^ d * 5 ^ d) = N0 * 5 ^ d * 2 ^ d := by ac_rfl
      rw [e, e2] at h1
      exact Nat.eq_of_mul_eq_mul_right (two_pos d) h1
    have h4 : N ≤ N0 * 5 ^ d := by
      rw [← h3]
      exact Nat.le_mul_of_pos_right _ (two_pos c)
    exact Nat.le_trans h4 (Nat.mul_le_mul_left _ (Nat.pow_le_pow_right (by decide) (by omega)))
theorem right_n {N n N0 n0 q q0 s : Nat} (g : DGood N n) (h0 : N0 < 10 ^ n0) (h : N * 10 ^ q * 2 ^ s = N0 * 10 ^ q0) : n ≤ n0 + 7 * (s / 10) + 7 := by
  have h1 := right_bd g.md h
  have h2 := five_ten s
  have h3 : N0 * 5 ^ s < 10 ^ (n0 + (7 * (s / 10) + 7)) := by
    rw [Nat.pow_add]
    exact Nat.lt_of_lt_of_le (Nat.mul_lt_mul_of_pos_right h0 (Nat.pow_pos (by decide))) (Nat.mul_le_mul_left _ h2)
  have h4 := pow_lt_inv (Nat.lt_of_le_of_lt (Nat.le_trans g.lo h1) h3)
  have := g.n1
  omega
/-- ten to the power 2000: one -/
def oneE : Nat := 2000
theorem oneE_eq : oneE = 2000 := rfl
def one : Nat := 10 ^ oneE
theorem val_bd {N n : Nat} (g : WGood N n) (dp : Int) (h : (n : Int) ≤ dp + 2000) : 10 ^ (dp + 1999).toNat ≤ val N n dp ∧ val N n dp < 10 ^ (dp + 2000).toNat := by
  have h1 := g.n1
  unfold val
  constructor
  · rw [show (dp + 1999).toNat = n - 1 + (dp - n + 2000).toNat by omega, Nat.pow_add]
    exact Nat.mul_le_mul_right _ g.lo
  · rw [show (dp + 2000).toNat = n + (dp - n + 2000).toNat by omega, Nat.pow_add]
    exact Nat.mul_lt_mul_of_pos_right g.hi (Nat.pow_pos (by decide))
theorem val_small {N n : Nat} (g : WGood N n) (dp : Int) (k : Nat) (h : (n : Int) ≤ dp + 2000) (hk : dp + (k : Int) ≤ 0) (hk2 : k ≤ 2000) : val N n dp * 10 ^ k < one := by
  have h1 := (val_bd g dp h).2
  refine Nat.lt_of_lt_of_le (Nat.mul_lt_mul_of_pos_right h1 (Nat.pow_pos (by decide))) ?_
  unfold one
  have he := oneE_eq
  rw [← Nat.pow_add]
  exact Nat.pow_le_pow_right (by decide) (by omega)
end Go.Proofs.YtcbgkbidgpemfaaGreatDoor.dmx

/- strconv's multiprecision decimal in memory; the walk of trim. Conditions: as each theorem states. -/
namespace Go.Proofs.YtcbgkbidgpemfaaGreatDoor.dcw
open Go.RowKit
open Go.Proofs.YtcbgkbidgpemfaaGreatDoor.bsw
open Go.Proofs.YtcbgkbidgpemfaaGreatDoor.prnw
open Go.Proofs.YtcbgkbidgpemfaaGreatDoor.dmx

/-- a decimal lies in block a: bytes f, nd of them, the point, the sign; nothing was left out -/
def DM (w : World) (a : Nat) (f : Nat → Nat) (nd dp : Int) (neg : Bool) : Prop :=
  ∃ cs : Array Value, w.heap[a]? = some (.cells cs 231 (0, 0)) ∧ (∀ j, j < 800 → cs[j]? = some (.int .u8 (f j : Nat))) ∧ cs[800]? = some (.int .i64 nd) ∧ cs[801]? = some (.int .i64 dp) ∧ cs[802]? = some (.bool neg) ∧ cs[803]? = some (.bool false)
variable {w : World} {a : Nat} {f : Nat → Nat} {nd dp : Int} {neg : Bool}
theorem DM.dig (h : DM w a f nd dp neg) (j : Nat) (hj : j < 800) : w.cell? ⟨a, j, none⟩ = some (.int .u8 (f j : Nat)) := by
  obtain ⟨cs, h0, h1, _⟩ := h
  exact (cell_of_row w a j _ _ _ h0).trans (h1 j hj)
theorem DM.cnd (h : DM w a f nd dp neg) : w.cell? ⟨a, 800, none⟩ = some (.int .i64 nd) := by
  obtain ⟨cs, h0, _, h1, _⟩ := h
  exact (cell_of_row w a _ _ _ _ h0).trans h1
theorem DM.cdp (h : DM w a f nd dp neg) : w.cell? ⟨a, 801, none⟩ = some (.int .i64 dp) := by
  obtain ⟨cs, h0, _, _, h1, _⟩ := h
  exact (cell_of_row w a _ _ _ _ h0).trans h1
theorem DM.cng (h : DM w a f nd dp neg) : w.cell? ⟨a, 802, none⟩ = some (.bool neg) := by
  obtain ⟨cs, h0, _, _, _, h1, _⟩ := h
  exact (cell_of_row w a _ _ _ _ h0).trans h1
theorem DM.ctr (h : DM w a f nd dp neg) : w.cell? ⟨a, 803, none⟩ = some (.bool false) := by
  obtain ⟨cs, h0, _, _, _, _, h1⟩ := h
  exact (cell_of_row w a _ _ _ _ h0).trans h1
theorem DM.fr (h : DM w a f nd dp neg) (j : Nat) : w.frozen? ⟨a, j, none⟩ = false := by
  obtain ⟨cs, h0, _⟩ := h
  exact not_frozen h0 j
theorem DM.lt (h : DM w a f nd dp neg) : a < w.heap.size := by
  obtain ⟨cs, h0, _⟩ := h
  exact (Array.getElem?_eq_some_iff.1 h0).1
theorem set_at {cs : Array Value} {j : Nat} {u : Value} (h : cs[j]? = some u) (v : Value) (i : Nat) : (cs.setIfInBounds j v)[i]? = if i = j then some v else cs[i]? := by
  have hl := (Array.getElem?_eq_some_iff.1 h).1
  rw [Array.getElem?_setIfInBounds]
  by_cases e : j = i
  · rw [if_pos e, if_pos hl, if_pos e.symm]
  · rw [if_neg e, if_neg (fun x => e x.symm)]
theorem DM.drewN (h : DM w a f nd dp neg) (q : Nat) : DM (w.drewN q) a f nd dp neg := by
  obtain ⟨cs, h0, h⟩ := h
  exact ⟨cs, h0, h⟩
theorem grown_drewN {w wr : World} {a : Nat} (h : w.grownBy wr (some a)) (q : Nat) : w.grownBy (wr.drewN q) (some a) := ⟨h.os, h.tape, h.output, h.size, h.block⟩
def upd (f : Nat → Nat) (j d : Nat) : Nat → Nat := fun i => if i = j then d else f i
theorem upd_at (f : Nat → Nat) (j d : Nat) : upd f j d j = d := if_pos rfl
theorem upd_ne (f : Nat → Nat) (j d i : Nat) (h : i ≠ j) : upd f j d i = f i := if_neg h
theorem DM.sdig (h : DM w a f nd dp neg) (j d : Nat) (hj : j < 800) : DM (w.setCell ⟨a, j, none⟩ (.int .u8 (d : Nat))) a (upd f j d) nd dp neg := by
  obtain ⟨cs, h0, h1, h2, h3, h4, h5⟩ := h
  refine ⟨_, heap_set w a j _ _ _ _ h0, fun i hi => ?_, ?_, ?_, ?_, ?_⟩
  · rw [set_at (h1 j hj)]
    unfold upd
    split
    · rfl
    · exact h1 i hi
  · rw [set_at (h1 j hj), if_neg (by omega)]; exact h2
  · rw [set_at (h1 j hj), if_neg (by omega)]; exact h3
  · rw [set_at (h1 j hj), if_neg (by omega)]; exact h4
  · rw [set_at (h1 j hj), if_neg (by omega)]; exact h5
theorem DM.snd (h : DM w a f nd dp neg) (n : Int) : DM (w.setCell ⟨a, 800, none⟩ (.int .i64 n)) a f n dp neg := by
  obtain ⟨cs, h0, h1, h2, h3, h4, h5⟩ := h
  refine ⟨_, heap_set w a 800 _ _ _ _ h0, fun i hi => ?_, ?_, ?_, ?_, ?_⟩
  · rw [set_at h2, if_neg (by omega)]; exact h1 i hi
  · rw [set_at h2, if_pos rfl]
  · rw [set_at h2, if_neg (by omega)]; exact h3
  · rw [set_at h2, if_neg (by omega)]; exact h4
  · rw [set_at h2, if_neg (by omega)]; exact h5
theorem DM.sdp (h : DM w a f nd dp neg) (n : Int) : DM (w.setCell ⟨a, 801, none⟩ (.int .i64 n)) a f nd n neg := by
  obtain ⟨cs, h0, h1, h2, h3, h4, h5⟩ := h
  refine ⟨_, heap_set w a 801 _ _ _ _ h0, fun i hi => ?_, ?_, ?_, ?_, ?_⟩
  · rw [set_at h3, if_neg (by omega)]; exact h1 i hi
  · rw [set_at h3, if_neg (by omega)]; exact h2
  · rw [set_at h3, if_pos rfl]
  · rw [set_at h3, if_neg (by omega)]; exact h4
  · rw [set_at h3, if_neg (by omega)]; exact h5
/-- the bytes are the n digits of N -/
def Dg (f : Nat → Nat) (N n : Nat) : Prop := ∀ j, j < n → f j = 48 + N / 10 ^ (n - 1 - j) % 10
end Go.Proofs.YtcbgkbidgpemfaaGreatDoor.dcw

/- The walk of strconv's prefixIsLessThan. Conditions: as the theorem states. -/
namespace Go.Proofs.YtcbgkbidgpemfaaGreatDoor.dcw
open Go.RowKit
open Go.Proofs.YtcbgkbidgpemfaaGreatDoor.bsw
open Go.Proofs.YtcbgkbidgpemfaaGreatDoor.prnw
open Go.Proofs.YtcbgkbidgpemfaaGreatDoor.dmx

/-- a text is the c digits of C -/
def Tx (s : ByteArray) (C c : Nat) : Prop := s.size = c ∧ ∀ j (h : j < s.size), s[j].toNat = 48 + C / 10 ^ (c - 1 - j) % 10
end Go.Proofs.YtcbgkbidgpemfaaGreatDoor.dcw

/- The walk of strconv's leftShift. Conditions: as the theorem states. -/
namespace Go.Proofs.YtcbgkbidgpemfaaGreatDoor.dcw
open Go.RowKit
open Go.Proofs.YtcbgkbidgpemfaaGreatDoor.bsw
open Go.Proofs.YtcbgkbidgpemfaaGreatDoor.prnw
open Go.Proofs.YtcbgkbidgpemfaaGreatDoor.dmx

/-- the table of the shifts to the left, in blocks below B -/
def LC (B : Nat) (w : World) : Prop :=
  9 < B ∧ ∃ bb bo cap, bb < B ∧ w.cell? ⟨9, 0, none⟩ = some (.slice (some ⟨bb, bo, none⟩) 61 cap) ∧
    ∀ k, 1 ≤ k → k ≤ 60 → ∃ c s, w.cell? ⟨bb, bo + k * 2, none⟩ = some (.int .i64 (((k + 1 - c : Nat) : Int))) ∧ w.cell? ⟨bb, bo + k * 2 + 1, none⟩ = some (.string s) ∧ Tx s (5 ^ k) c ∧ 10 ^ c ≤ 10 * 5 ^ k ∧ 5 ^ k < 10 ^ c ∧ c ≤ k
/-- a decimal of value V lies in block a -/
def DV (w : World) (a V N n : Nat) (dp : Int) (neg : Bool) : Prop :=
  ∃ f, DM w a f (n : Nat) dp neg ∧ Dg f N n ∧ WGood N n ∧ (n : Int) ≤ dp + 2000 ∧ val N n dp = V
def ShPost (w : World) (a V : Nat) (B D : Int) (neg : Bool) (e : Ending) (w' : World) : Prop :=
  e = .returned (.tuple #[]) ∧ (∃ N n dp, DV w' a V N n dp neg ∧ N % 10 ≠ 0 ∧ (n : Int) ≤ B ∧ D - 20 ≤ dp ∧ dp ≤ D + 20) ∧ w.grownBy w' (some a)
/-- where the digits stand when e of them are shifted -/
def ShRel (w : World) (a : Nat) (f : Nat → Nat) (N n k d : Nat) (dp : Int) (neg : Bool) (e : Nat) (wr : World) : Prop :=
  ∃ f', DM wr a f' (n : Nat) dp neg ∧ (∀ j, j + e < n → f' j = f j) ∧ (∀ j, n + d ≤ j + e → j < n + d → f' j = 48 + N * 2 ^ k / 10 ^ (n + d - 1 - j) % 10) ∧ w.grownBy wr (some a)
theorem ShRel.drewN {w wr : World} {a N n k d e : Nat} {f : Nat → Nat} {dp : Int} {neg : Bool} (h : ShRel w a f N n k d dp neg e wr) (q : Nat) : ShRel w a f N n k d dp neg e (wr.drewN q) := by
  obtain ⟨f', h1, h2, h3, h4⟩ := h
  exact ⟨f', h1.drewN q, h2, h3, grown_drewN h4 q⟩
theorem ShRel.put {w wr : World} {a N n k d e b : Nat} {f : Nat → Nat} {dp : Int} {neg : Bool} (h : ShRel w a f N n k d dp neg e wr) (he : e < n + d) (hn : n + d ≤ 800) (hb : b = N * 2 ^ k / 10 ^ e % 10) :
    ShRel w a f N n k d dp neg (e + 1) (wr.setCell ⟨a, n + d - 1 - e, none⟩ (.int .u8 ((48 + b : Nat) : Int))) := by
  obtain ⟨f', h1, h2, h3, h4⟩ := h
  refine ⟨_, h1.sdig (n + d - 1 - e) (48 + b) (by omega), fun j hj => ?_, fun j hj hj2 => ?_, grown_trans h4 (set_grown _ _ _ _)⟩
  · rw [upd_ne _ _ _ _ (by omega)]
    exact h2 j (by omega)
  · by_cases hje : j = n + d - 1 - e
    · rw [hje, upd_at, hb, show n + d - 1 - (n + d - 1 - e) = e by omega]
    · rw [upd_ne _ _ _ _ hje]
      exact h3 j (by omega) hj2
end Go.Proofs.YtcbgkbidgpemfaaGreatDoor.dcw
