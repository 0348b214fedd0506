/- The walk of strconv's atof64 at a decimal. Conditions: as each theorem states. -/
import Derived.Test.YtcbgkbidgpemfaaGreatDoorMp07
import Derived.Test.YtcbgkbidgpemfaaGreatDoorMp08
import Derived.Test.YtcbgkbidgpemfaaGreatDoorMp01
import Derived.Test.YtcbgkbidgpemfaaGreatDoorMp05
namespace Go.Proofs.YtcbgkbidgpemfaaGreatDoor.rdf
open Go.RowKit
open Go.Proofs.YtcbgkbidgpemfaaGreatDoor.bsw
open Go.Proofs.YtcbgkbidgpemfaaGreatDoor.prnw
open Go.Proofs.YtcbgkbidgpemfaaGreatDoor.dcw
open Go.Proofs.YtcbgkbidgpemfaaGreatDoor.dmx
open Go.Proofs.YtcbgkbidgpemfaaGreatDoor.fpm
open Go.Proofs.YtcbgkbidgpemfaaGreatDoor.flatm
open Go.Proofs.YtcbgkbidgpemfaaGreatDoor.nodew

attribute [local go_sem] ifrombits_run un_neg fo_eq
/-- the nearest float of N times ten to P -/
def nx (N : Nat) (P : Int) : Nat := nearX (N * 10 ^ P.toNat) (10 ^ (-P).toNat)
theorem ten_pos (k : Nat) : 0 < 10 ^ k := Nat.pow_pos (by decide)
theorem nx_mono {M N : Nat} (h : M ≤ N) (P : Int) : nx M P ≤ nx N P := near_le (ten_pos _) (ten_pos _) (Nat.mul_le_mul_right _ (Nat.mul_le_mul_right _ h))
theorem nx_shift (N k : Nat) (P : Int) : nx (N * 10 ^ k) P = nx N (P + k) := by
  refine near_same (ten_pos _) (ten_pos _) ?_
  have e : P.toNat + k + (-(P + k)).toNat = (P + k).toNat + (-P).toNat := by omega
  calc N * 10 ^ k * 10 ^ P.toNat * 10 ^ (-(P + k)).toNat = N * 10 ^ (P.toNat + k + (-(P + k)).toNat) := by rw [Nat.pow_add, Nat.pow_add]; ac_rfl
    _ = N * 10 ^ ((P + k).toNat + (-P).toNat) := by rw [e]
    _ = N * 10 ^ (P + k).toNat * 10 ^ (-P).toNat := by rw [Nat.pow_add]; ac_rfl
def tenF : Nat := 346
theorem tenF_eq : tenF = 346 := rfl
theorem nx_zero (P : Int) : nx 0 P = 0 := by
  unfold nx
  rw [Nat.zero_mul]
  refine near_low (ten_pos _) ?_
  rw [Nat.zero_mul]
  exact Nat.zero_le _
theorem two_ten : 2 ^ twoC ≤ 10 ^ tenA := by decide +kernel
theorem nx_big {N : Nat} (h : 0 < N) {P : Int} (hP : 310 < P) : infX ≤ nx N P := by
  unfold nx
  rw [show (-P).toNat = 0 by omega, Nat.pow_zero]
  refine near_big (by decide) ?_
  rw [Nat.mul_one]
  refine Nat.le_trans two_ten ?_
  have h1 : (10 : Nat) ^ tenA ≤ 10 ^ P.toNat := Nat.pow_le_pow_right (by decide) (by have := tenA_eq; omega)
  exact Nat.le_trans h1 (Nat.le_mul_of_pos_left _ h)
theorem low_ten : 10 ^ 20 * 2 ^ lowE ≤ 10 ^ tenF := by decide +kernel
theorem nx_low {N : Nat} (h : N ≤ 10 ^ 20) {P : Int} (hP : P < -345) : nx N P = 0 := by
  unfold nx
  rw [show P.toNat = 0 by omega, Nat.pow_zero, Nat.mul_one]
  refine near_low (ten_pos _) ?_
  have h1 : (10 : Nat) ^ tenF ≤ 10 ^ (-P).toNat := Nat.pow_le_pow_right (by decide) (by have := tenF_eq; omega)
  exact Nat.le_trans (Nat.le_trans (Nat.mul_le_mul_right _ h) low_ten) h1
/-- what reading reads, in blocks below B -/
structure NE (B : Nat) (w : World) : Prop where
  ev : EV B w
  ft : FT B w
  pt : PT hiT loT w
  pb : 8 < B
  ob : 2 < B
  op : w.cell? ⟨2, 0, none⟩ = some (.bool true)
  lt : B ≤ w.heap.size
theorem NE.below {B : Nat} {w w' : World} (h : NE B w) (hb : Below w.heap.size w w') : NE B w' := by
  have hk : ∀ (p : Addr) (v : Value), p.block < B → w.cell? p = some v → w'.cell? p = some v := fun p v hp hv => (hb.cell (Nat.lt_of_lt_of_le hp h.lt)).trans hv
  exact ⟨h.ev.keep hk, h.ft.keep hk, fun i hi => by
    obtain ⟨a1, a2, a3, a4⟩ := h.pt i hi
    exact ⟨a1, a2, hk _ _ h.pb a3, hk _ _ h.pb a4⟩, h.pb, h.ob, hk _ _ h.ob h.op, Nat.le_trans h.lt hb.size⟩
end Go.Proofs.YtcbgkbidgpemfaaGreatDoor.rdf

/- The nearest number by halving, as burnishref16 looks for it, is the nearest one. Plain; no condition but those stated. -/
namespace Go.Proofs.YtcbgkbidgpemfaaGreatDoor.rg
open Go.Proofs.YtcbgkbidgpemfaaGreatDoor.prnw
open Go.Proofs.YtcbgkbidgpemfaaGreatDoor.fpm

/-- a float's value, in quarters of the least unit -/
def qv (X : Nat) : Nat := 4 * ftM X * 2 ^ (ftE X - 52 + 1074).toNat
theorem endL_qv (X : Nat) : endL X ≤ qv X ∧ (0 < X → endL X < qv X) := by
  unfold endL qv
  have h1 := loQ_bd (ftM X) (ftE X - 52)
  refine ⟨?_, fun h => ?_⟩
  · exact Nat.mul_le_mul_right _ (by omega)
  · have h2 := ftM_pos X h
    exact (Nat.mul_lt_mul_right (Nat.two_pow_pos _)).2 (by omega)
theorem qv_endU (X : Nat) : qv X < endU X := by
  unfold endU qv
  exact (Nat.mul_lt_mul_right (Nat.two_pow_pos _)).2 (by omega)
theorem qv_zero : qv 0 = 0 := by decide
/-- the greatest one below is found; the midst above it tells which one is the nearest -/
theorem near_low {X A B : Nat} (hB : 0 < B) (h1 : qv X * B ≤ A * 2 ^ unB) (h : A * 2 ^ unB < endU X * B ∨ (A * 2 ^ unB = endU X * B ∧ ftM X % 2 = 0)) : nearX A B = X := by
  refine (near_eq hB ⟨?_, ?_, fun ho => ⟨?_, ?_⟩⟩).symm
  · exact Nat.le_trans (Nat.mul_le_mul_right _ (endL_qv X).1) h1
  · rcases h with h | h
    · exact Nat.le_of_lt h
    · exact Nat.le_of_eq h.1
  · exact Nat.lt_of_lt_of_le ((Nat.mul_lt_mul_right hB).2 ((endL_qv X).2 (by omega))) h1
  · rcases h with h | h
    · exact h
    · have := ftM_odd X
      omega
theorem near_next {X A B : Nat} (hB : 0 < B) (h1 : A * 2 ^ unB < qv (X + 1) * B) (h : endU X * B < A * 2 ^ unB ∨ (A * 2 ^ unB = endU X * B ∧ ftM X % 2 = 1)) : nearX A B = X + 1 := by
  refine (near_eq hB ⟨?_, ?_, fun ho => ⟨?_, ?_⟩⟩).symm
  · rw [ends_meet]
    rcases h with h | h
    · exact Nat.le_of_lt h
    · exact Nat.le_of_eq h.1.symm
  · exact Nat.le_of_lt (Nat.lt_trans h1 ((Nat.mul_lt_mul_right hB).2 (qv_endU _)))
  · rw [ends_meet]
    rcases h with h | h
    · exact h
    · have := ftM_odd X
      omega
  · exact Nat.lt_trans h1 ((Nat.mul_lt_mul_right hB).2 (qv_endU _))
theorem endU_mono (X : Nat) : ∀ n, endU X ≤ endU (X + n)
  | 0 => Nat.le_refl _
  | n + 1 => by
    have h1 := endU_mono X n
    have h2 := ends_lt (X + n + 1) (by omega)
    rw [ends_meet] at h2
    rw [← Nat.add_assoc]
    omega
theorem near_over {X A B : Nat} (hB : 0 < B) (h : endU X * B < A * 2 ^ unB ∨ (A * 2 ^ unB = endU X * B ∧ ftM X % 2 = 1)) : X + 1 ≤ nearX A B := by
  refine Nat.le_of_not_lt fun hl => ?_
  obtain ⟨n, hn⟩ : ∃ n, X = nearX A B + n := ⟨X - nearX A B, by omega⟩
  obtain ⟨-, h2, h3⟩ := near_of A B hB
  have h4 := endU_mono (nearX A B) n
  rw [← hn] at h4
  have h5 : endU (nearX A B) * B ≤ endU X * B := Nat.mul_le_mul_right _ h4
  rcases h with h | ⟨h, ho⟩
  · omega
  · have h6 : endU (nearX A B) = endU X := Nat.le_antisymm h4 (Nat.le_of_mul_le_mul_right (by omega) hB)
    have h7 : n = 0 := by
      cases n with
      | zero => rfl
      | succ n =>
        have e1 := endU_mono (nearX A B) n
        have e2 := ends_lt (nearX A B + n + 1) (by omega)
        rw [ends_meet] at e2
        rw [hn, ← Nat.add_assoc] at h6
        omega
    have h8 : nearX A B = X := by omega
    have := ftM_odd X
    have := h3 (by omega)
    rw [h8] at this
    omega
/-- what is held against a whole number by a power of two -/
theorem against_eq (A B m : Nat) (e : Int) (he : -1076 ≤ e) :
    (A * 2 ^ (-e).toNat < m * B * 2 ^ e.toNat ↔ A * 2 ^ unB < m * 2 ^ (e + 1076).toNat * B) ∧ (A * 2 ^ (-e).toNat = m * B * 2 ^ e.toNat ↔ A * 2 ^ unB = m * 2 ^ (e + 1076).toNat * B) := by
  obtain ⟨k, hk⟩ : ∃ k, (-e).toNat + k = unB := ⟨unB - (-e).toNat, by rw [unB_eq]; omega⟩
  have e1 : A * 2 ^ unB = A * 2 ^ (-e).toNat * 2 ^ k := by rw [← hk, Nat.pow_add, Nat.mul_assoc]
  have e2 : m * 2 ^ (e + 1076).toNat * B = m * B * 2 ^ e.toNat * 2 ^ k := by
    have : (e + 1076).toNat = e.toNat + k := by rw [unB_eq] at hk; omega
    rw [this, Nat.pow_add, Nat.mul_right_comm m, ← Nat.mul_assoc]
  rw [e1, e2]
  have hp := Nat.two_pow_pos k
  exact ⟨⟨fun h => (Nat.mul_lt_mul_right hp).2 h, fun h => (Nat.mul_lt_mul_right hp).1 h⟩, ⟨fun h => by rw [h], fun h => Nat.mul_right_cancel hp h⟩⟩
theorem at_qv (X B : Nat) : ftM X * 2 ^ (ftE X - 52 + 1076).toNat * B = qv X * B := by
  have hE : -1074 ≤ ftE X - 52 := by unfold ftE; split <;> omega
  unfold qv
  rw [show (ftE X - 52 + 1076).toNat = (ftE X - 52 + 1074).toNat + 2 by omega, Nat.pow_add]
  generalize 2 ^ (ftE X - 52 + 1074).toNat = t
  congr 1
  show ftM X * (t * 4) = 4 * ftM X * t
  rw [Nat.mul_comm t, ← Nat.mul_assoc, Nat.mul_comm (ftM X)]
theorem at_endU (X B : Nat) : (2 * ftM X + 1) * 2 ^ (ftE X - 52 - 1 + 1076).toNat * B = endU X * B := by
  have hE : -1074 ≤ ftE X - 52 := by unfold ftE; split <;> omega
  unfold endU
  rw [show (ftE X - 52 - 1 + 1076).toNat = (ftE X - 52 + 1074).toNat + 1 by omega, Nat.pow_succ]
  generalize 2 ^ (ftE X - 52 + 1074).toNat = t
  congr 1
  rw [Nat.mul_comm t, ← Nat.mul_assoc]
  congr 1
  omega
end Go.Proofs.YtcbgkbidgpemfaaGreatDoor.rg

/- The walk of decimal.right. Conditions: as each theorem states. -/
namespace Go.Proofs.YtcbgkbidgpemfaaGreatDoor.rdf
open Go.RowKit
open Go.Proofs.YtcbgkbidgpemfaaGreatDoor.bsw
open Go.Proofs.YtcbgkbidgpemfaaGreatDoor.prnw

theorem list_len (t : ByteArray) : t.data.toList.length = t.size := by simp
/-- a text lies in a cell of its own -/
def RB (w : World) (b : Nat) (t : ByteArray) (W : World) : Prop := W.heap[b]? = some (.cells #[.string t] 9 (0, 0)) ∧ Below w.heap.size w W ∧ w.heap.size ≤ b
theorem RB.at {w W : World} {b : Nat} {t : ByteArray} (h : RB w b t W) : W.cell? ⟨b, 0, none⟩ = some (.string t) ∧ W.frozen? ⟨b, 0, none⟩ = false := ⟨(cell_of_row W b 0 _ _ _ h.1).trans rfl, not_frozen h.1 0⟩
end Go.Proofs.YtcbgkbidgpemfaaGreatDoor.rdf

/- What decimal.right takes is what strconv's reading takes: plain. -/
namespace Go.Proofs.YtcbgkbidgpemfaaGreatDoor.rdf
open Go.RowKit
open Go.Proofs.YtcbgkbidgpemfaaGreatDoor.dmx
open Go.Proofs.YtcbgkbidgpemfaaGreatDoor.fpm

end Go.Proofs.YtcbgkbidgpemfaaGreatDoor.rdf

/- What burnishref16.parts takes out of a text is what decimal.Parse takes out of it. Plain; no condition but those stated. -/
namespace Go.Proofs.YtcbgkbidgpemfaaGreatDoor.rg
open Go.Proofs.YtcbgkbidgpemfaaGreatDoor.rdf

/-- the number that digits spell -/
def dv (n : Nat) (l : List UInt8) : Nat := l.foldl (fun n c => n * 10 + (c.toNat - 48)) n
end Go.Proofs.YtcbgkbidgpemfaaGreatDoor.rg

/- What burnishref16.near tells of digits and a power of ten. Plain; no condition but those stated. -/
namespace Go.Proofs.YtcbgkbidgpemfaaGreatDoor.rg
open Go.Proofs.YtcbgkbidgpemfaaGreatDoor.rdf
open Go.Proofs.YtcbgkbidgpemfaaGreatDoor.fpm
open Go.Proofs.YtcbgkbidgpemfaaGreatDoor.prnw (ftM ftE)
open Go.Proofs.YtcbgkbidgpemfaaGreatDoor.dmx

theorem dv_lt : ∀ (l : List UInt8) (n : Nat), (∀ c ∈ l, isD c = true) → dv n l < (n + 1) * 10 ^ l.length
  | [], n, _ => by show n < (n + 1) * 1; omega
  | c :: l, n, h => by
    have h1 := dv_lt l (n * 10 + (c.toNat - 48)) fun x hx => h x (by simp [hx])
    have h2 := (isD_iff c).1 (h c (by simp))
    have h3 : (n * 10 + (c.toNat - 48) + 1) * 10 ^ l.length ≤ ((n + 1) * 10) * 10 ^ l.length := Nat.mul_le_mul_right _ (by omega)
    show dv (n * 10 + (c.toNat - 48)) l < (n + 1) * 10 ^ (l.length + 1)
    rw [Nat.pow_succ, Nat.mul_comm (10 ^ l.length) 10, ← Nat.mul_assoc]
    exact Nat.lt_of_lt_of_le h1 h3
theorem nx_tiny {N : Nat} (hN : N < 10 ^ 30) {P : Int} (hP : P < -800) : nx N P = 0 := by
  have h1 := nx_mono (Nat.le_of_lt hN) P
  have h2 := nx_shift 1 30 P
  rw [Nat.one_mul] at h2
  have h3 := nx_low (N := 1) (by decide) (P := P + (30 : Nat)) (by omega)
  rw [h2, h3] at h1
  omega
/-- what near answers: a number's word, and whether there is one -/
def nearR (N : Nat) (P : Int) : Nat × Bool := if infX ≤ nx N P then (0, false) else (nx N P, true)
/-- the halving's state -/
structure NI (A B low high : Nat) : Prop where
  lo : qv low * B ≤ A * 2 ^ unB
  le : low ≤ high
  top : high ≤ 9218868437227405311
  hi : high = 9218868437227405311 ∨ A * 2 ^ unB < qv (high + 1) * B
theorem NI.start (A B : Nat) : NI A B 0 9218868437227405311 := ⟨by rw [qv_zero, Nat.zero_mul]; exact Nat.zero_le _, by decide, Nat.le_refl _, .inl rfl⟩
theorem NI.up {A B low high mid : Nat} (h : NI A B low high) (h1 : mid ≤ high) (h2 : qv mid * B ≤ A * 2 ^ unB) : NI A B mid high := ⟨h2, h1, h.top, h.hi⟩
theorem NI.down {A B low high mid : Nat} (h : NI A B low high) (h0 : low < mid) (h1 : mid ≤ high) (h2 : A * 2 ^ unB < qv mid * B) : NI A B low (mid - 1) :=
  ⟨h.lo, by omega, by have := h.top; omega, .inr (by rw [show mid - 1 + 1 = mid by omega]; exact h2)⟩
theorem near_end {N : Nat} {P : Int} {X : Nat} (h : NI (N * 10 ^ P.toNat) (10 ^ (-P).toNat) X X) :
    nearR N P = if endU X * 10 ^ (-P).toNat < N * 10 ^ P.toNat * 2 ^ unB ∨ (N * 10 ^ P.toNat * 2 ^ unB = endU X * 10 ^ (-P).toNat ∧ ftM X % 2 = 1)
      then (if X = 9218868437227405311 then (0, false) else (X + 1, true)) else (X, true) := by
  have hB : 0 < 10 ^ (-P).toNat := Nat.pow_pos (by decide)
  have hi : infX = 9218868437227405312 := rfl
  have ht := h.top
  unfold nearR
  by_cases hc : endU X * 10 ^ (-P).toNat < N * 10 ^ P.toNat * 2 ^ unB ∨ (N * 10 ^ P.toNat * 2 ^ unB = endU X * 10 ^ (-P).toNat ∧ ftM X % 2 = 1)
  · rw [if_pos hc]
    by_cases hX : X = 9218868437227405311
    · have h1 := near_over hB hc
      have h2 : infX ≤ nx N P := by
        show infX ≤ nearX (N * 10 ^ P.toNat) (10 ^ (-P).toNat)
        omega
      rw [if_pos h2, if_pos hX]
    · have h1 := near_next hB (h.hi.resolve_left hX) hc
      have h2 : nx N P = X + 1 := h1
      rw [h2, if_neg (by omega), if_neg hX]
  · rw [if_neg hc]
    have h1 : nearX (N * 10 ^ P.toNat) (10 ^ (-P).toNat) = X := by
      refine near_low hB h.lo ?_
      rcases Nat.lt_trichotomy (N * 10 ^ P.toNat * 2 ^ unB) (endU X * 10 ^ (-P).toNat) with hl | hl | hl
      · exact .inl hl
      · exact .inr ⟨hl, by
          have : ¬ ftM X % 2 = 1 := fun e => hc (.inr ⟨hl, e⟩)
          omega⟩
      · exact absurd (.inl hl) hc
    have h2 : nx N P = X := h1
    rw [h2, if_neg (by omega)]
/-- the cases that are told ahead -/
theorem near_tiny {D : List UInt8} (hD : ∀ c ∈ D, isD c = true) (hl : D.length ≤ 30) {P : Int} (h : P < -800 ∨ dv 0 D = 0) : nearR (dv 0 D) P = (0, true) := by
  have h1 : nx (dv 0 D) P = 0 := by
    rcases h with h | h
    · have := dv_lt D 0 hD
      have h2 : (10 : Nat) ^ D.length ≤ 10 ^ 30 := Nat.pow_le_pow_right (by decide) hl
      exact nx_tiny (by omega) h
    · rw [h]
      exact nx_zero P
  unfold nearR
  rw [h1]
  rfl
theorem near_huge {N : Nat} (hN : 0 < N) {P : Int} (h : 400 < P) : nearR N P = (0, false) := by
  unfold nearR
  rw [if_pos (nx_big hN (by omega))]
end Go.Proofs.YtcbgkbidgpemfaaGreatDoor.rg

/- burnishref16: the walks of power, Compare, whole and against. Conditions: as each theorem states. -/
namespace Go.Proofs.YtcbgkbidgpemfaaGreatDoor.rg
open Go.RowKit
open Go.Proofs.YtcbgkbidgpemfaaGreatDoor.rdf
open Go.BigFrame

/-- v reads as the whole number N, of k digits at most -/
def Num (W : World) (v : Value) (k N : Nat) : Prop := ∃ l, BigV W v l ∧ BOk l ∧ Trim l ∧ bv l = N ∧ l.length ≤ k
theorem Num.below {W W' : World} {v : Value} {k N : Nat} (h : Num W v k N) (hb : Below W.heap.size W W') : Num W' v k N := by
  obtain ⟨l, h1, h2⟩ := h
  exact ⟨l, h1.below hb, h2⟩
def NumPost (w : World) (k N : Nat) (e : Ending) (w' : World) : Prop := ∃ v', e = .returned v' ∧ Num w' v' k N ∧ Below w.heap.size w w'
theorem times_num (v : Value) (k N by_ more : Nat) (w : World) (hv : Num w v k N) (hb0 : 0 < by_) (hb : by_ ≤ 10000000000) (hk : k ≤ 100000) (hm : more ≤ 10000000000) :
    Calls Tryz.prog 165 #[v, .int .u64 by_, .int .u64 more] w (NumPost w (k + 2) (N * by_ + more)) := by
  obtain ⟨l, h1, h2, h3, h4, h5⟩ := hv
  refine (times_any v l by_ more w h1 h2 hb (by omega) (fun _ => hm) (by omega)).mono ?_
  rintro e w' ⟨v', rfl, g1, g2⟩
  refine ⟨v', rfl, ⟨_, g1, ok_times _ _ _, trim_times _ hb0 _ _ h2 h3, by rw [bv_times, h4], ?_⟩, g2⟩
  have := times_len by_ hb l more h2 (by omega) (fun _ => hm)
  omega
theorem times_0 (v : Value) (k N S : Nat) (w : World) (hv : Num w v k N) (hb0 : 0 < S) (hb : S ≤ 10000000000) (hk : k ≤ 100000) :
    Calls Tryz.prog 165 #[v, .int .u64 (S : Int), .int .u64 0] w (NumPost w (k + 2) (N * S)) := times_num v k N S 0 w hv hb0 hb hk (by decide)
theorem times_nil_num (v : Value) (more : Nat) (w : World) (hv : BigV w v []) (hm : more < 18446744073709551616) :
    Calls Tryz.prog 165 #[v, .int .u64 1, .int .u64 more] w (NumPost w 3 more) := by
  refine (times_any v [] 1 more w hv (fun x hx => by cases hx) (by decide) (by decide) (fun h => absurd rfl h) hm).mono ?_
  rintro e w' ⟨v', rfl, g1, g2⟩
  have e1 : timesL 1 [] more = dig more := rfl
  rw [e1] at g1
  exact ⟨v', rfl, ⟨_, g1, ok_dig _, trim_dig _, bv_dig _, dig_len3 _ hm⟩, g2⟩
set_option maxRecDepth 100000 in
set_option maxHeartbeats 1000000 in
theorem power_any (v : Value) (k N by_ n : Nat) (w : World) (hv : Num w v k N) (hb0 : 2 ≤ by_) (hb : by_ ≤ 10) (hn : k + 2 * n ≤ 90000) :
    Calls Tryz.prog 168 #[v, .int .u64 by_, .int .i64 n] w (NumPost w (k + 2 * n) (N * by_ ^ n)) := by
  have HV := Lib.hid hv
  clear hv
  have hn9 : (n : Int) ≤ 45000 := by omega
  go_enter Tryz.func168, Tryz.ntmps168
  go_wp2_with fail
  go_loopw [0, 2] (fun s0 s2 wr => ∃ j r : Nat, n = j + r ∧ s2 = .int .i64 r ∧ Num wr s0 (k + 2 * j) (N * by_ ^ j) ∧ Below w.heap.size w wr) (fun _ s2 _ => (intOf s2).toNat)
  case atStart => exact ⟨0, n, by omega, rfl, by simpa using HV.out, Below.refl _ _⟩
  case round =>
    clear HV
    obtain ⟨j, r, hj, rfl, hN, hB⟩ := hrel
    obtain ⟨wo, rfl⟩ : ∃ wo : World, wo = wr := ⟨_, rfl⟩
    have HB := Lib.hid hB
    have HN := Lib.hid hN
    clear hB hN
    by_cases hr : r = 0
    · subst hr
      obtain rfl : n = j := by omega
      clear hj
      go_wp2_with fail
      go_ret
      exact ⟨_, rfl, HN.out, HB.out⟩
    · have hr0 : (0 : Int) < (r : Int) := by omega
      have hr9 : (r : Int) ≤ 45000 := by omega
      have HJ := Lib.hid hj
      clear hj
      go_wp2_with fail
      go_loopw [2, 7] (fun s2 s7 wr => ∃ p q S : Nat, r = p + q ∧ s2 = .int .i64 q ∧ s7 = .int .u64 S ∧ S = by_ ^ p ∧ S < 10000000000 ∧ wr = wo) (fun s2 _ _ => (intOf s2).toNat)
      case atStart => exact ⟨0, r, 1, by omega, rfl, rfl, rfl, by decide, rfl⟩
      case round =>
        obtain ⟨p, q, S, hpq, rfl, rfl, hS, hS9, hwr⟩ := hrel
        obtain rfl := hwr.symm
        have HS := Lib.hid (And.intro hS hpq)
        clear hS
        by_cases hq : 0 < q
        · have hq0 : (0 : Int) < (q : Int) := by omega
          have hq9 : (q : Int) ≤ 45000 := by omega
          by_cases hS1 : S < 1000000000
          · have hS1i : (S : Int) < 1000000000 := by omega
            obtain ⟨S2, hS2⟩ : ∃ S2, S * by_ = S2 := ⟨_, rfl⟩
            have hS2i : (S : Int) * (by_ : Int) = (S2 : Int) := by rw [← hS2]; simp
            have hS29 : S2 < 10000000000 := by
              rw [← hS2]
              have := Nat.mul_le_mul (show S ≤ 999999999 by omega) hb
              omega
            have H2 := Lib.hid hS2
            clear hS2 hpq
            go_wp2_with fail
            refine ⟨⟨p + 1, q - 1, S2, by have := HS.out.2; omega, by go_num, rfl, ?_, hS29, by first | trivial | rfl⟩, by simp only [intOf]; omega⟩
            rw [← H2.out, HS.out.1, Nat.pow_succ]
          · have hS1i : ¬ (S : Int) < 1000000000 := by omega
            have hp : p ≠ 0 := fun h => by
              have := HS.out.1
              rw [h, Nat.pow_zero] at this
              omega
            have CT := Lib.hid (times_0 · (k + 2 * j) (N * by_ ^ j) S wo · (by have := HS.out.1; have := Nat.pow_pos (n := p) (show 0 < by_ by omega); omega) (by omega) (by have := HJ.out; omega))
            clear hpq hS1
            go_wp2_with (go_at_call 165; (with_reducible refine (CT.out _ HN.out).mono ?_); rintro e w2 ⟨v2, rfl, h2, b2⟩; have HN2 := Lib.hid h2; have HB2 := Lib.hid b2; clear h2 b2)
            refine ⟨⟨j + p, q, by have := HJ.out; have := HS.out.2; omega, rfl, ?_, HB.out.trans (HB2.out.mono HB.out.size)⟩, by have := HS.out.2; simp only [intOf]; omega⟩
            obtain ⟨l, g1, g2, g3, g4, g5⟩ := HN2.out
            exact ⟨l, g1, g2, g3, by rw [g4, HS.out.1, Nat.mul_assoc, ← Nat.pow_add], by omega⟩
        · obtain rfl : q = 0 := by omega
          have hp : p ≠ 0 := fun h => by omega
          have CT := Lib.hid (times_0 · (k + 2 * j) (N * by_ ^ j) S wo · (by have := HS.out.1; have := Nat.pow_pos (n := p) (show 0 < by_ by omega); omega) (by omega) (by have := HJ.out; omega))
          clear hpq hq
          go_wp2_with (go_at_call 165; (with_reducible refine (CT.out _ HN.out).mono ?_); rintro e w2 ⟨v2, rfl, h2, b2⟩; have HN2 := Lib.hid h2; have HB2 := Lib.hid b2; clear h2 b2)
          refine ⟨⟨j + p, 0, by have := HJ.out; have := HS.out.2; omega, rfl, ?_, HB.out.trans (HB2.out.mono HB.out.size)⟩, by have := HS.out.2; simp only [intOf]; omega⟩
          obtain ⟨l, g1, g2, g3, g4, g5⟩ := HN2.out
          exact ⟨l, g1, g2, g3, by rw [g4, HS.out.1, Nat.mul_assoc, ← Nat.pow_add], by omega⟩
theorem below_drewN {B : Nat} {a w : World} (h : Below B a w) (n : Nat) : Below B a (w.drewN n) := ⟨h.os, h.tape, h.output, h.size, h.block⟩
/-- what a comparison tells -/
def CmpPost (w : World) (x y : Nat) (e : Ending) (w' : World) : Prop := ∃ c : Int, e = .returned (.int .i64 c) ∧ (c < 0 ↔ x < y) ∧ (c = 0 ↔ x = y) ∧ Below w.heap.size w w'
set_option maxRecDepth 100000 in
set_option maxHeartbeats 1000000 in
theorem compare_any (a b : Value) (ka kb x y : Nat) (w : World) (ha : Num w a ka x) (hb : Num w b kb y) (hka : ka ≤ 100000) (hkb : kb ≤ 100000) :
    Calls Tryz.prog 169 #[a, b] w (CmpPost w x y) := by
  obtain ⟨la, ⟨A, ca, rfl, xa⟩, oa, ta, rfl, na⟩ := ha
  obtain ⟨lb, ⟨B, cb, rfl, xb⟩, ob, tb, rfl, nb⟩ := hb
  have n1 : (la.length : Int) ≤ 100000 := by omega
  have n2 : (lb.length : Int) ≤ 100000 := by omega
  have HA := Lib.hid xa
  have HB := Lib.hid xb
  have HO := Lib.hid (And.intro oa (And.intro ob (And.intro ta tb)))
  clear xa xb oa ob ta tb na nb hka hkb
  by_cases hl : la.length = lb.length
  · obtain ⟨n, hna⟩ : ∃ n, la.length = n := ⟨_, rfl⟩
    have hnb : lb.length = n := by omega
    rw [hna] at n1 ⊢
    rw [hnb] at ⊢
    have HL := Lib.hid (And.intro hna hnb)
    clear hl hna hnb n2
    go_enter Tryz.func169, Tryz.ntmps169
    go_wp2_with fail
    go_loopw [5] (fun s5 wr => ∃ i : Nat, i ≤ n ∧ s5 = .int .i64 ((i : Int) - 1) ∧ la.drop i = lb.drop i ∧ Below w.heap.size w wr) (fun s5 _ => (intOf s5 + 1).toNat)
    case atStart => exact ⟨n, Nat.le_refl _, by go_num, by rw [List.drop_eq_nil_of_le (by rw [HL.out.1]; exact Nat.le_refl _), List.drop_eq_nil_of_le (by rw [HL.out.2]; exact Nat.le_refl _)], Below.refl _ _⟩
    case round =>
      obtain ⟨i, hi, h5, hd, hwr⟩ := hrel
      obtain ⟨wo, rfl⟩ : ∃ wo : World, wo = wr := ⟨_, rfl⟩
      have HW := Lib.hid hwr
      clear hwr
      cases i with
      | zero =>
        have h5' : u5 = .int .i64 (-1) := h5
        subst h5'
        have he : la = lb := hd
        have HE := Lib.hid he
        clear hd he hi h5
        go_wp2_with fail
        go_ret
        exact ⟨0, rfl, by rw [HE.out]; simp, by rw [HE.out]; simp, HW.out⟩
      | succ m =>
        have h5' : u5 = .int .i64 (m : Int) := by rw [h5]; congr 1; omega
        subst h5'
        have hm1 : m < la.length := by rw [HL.out.1]; exact hi
        have hm2 : m < lb.length := by rw [HL.out.2]; exact hi
        obtain ⟨ga, rfl, lga, cca⟩ := HA.out (by intro e; subst e; simp at hm1)
        obtain ⟨gb, rfl, lgb, ccb⟩ := HB.out (by intro e; subst e; simp at hm2)
        have c1 := (HW.out.cell (p := ⟨ga, m, none⟩) lga).trans (cca m hm1)
        have c2 := (HW.out.cell (p := ⟨gb, m, none⟩) lgb).trans (ccb m hm2)
        have hxa := HO.out.1 _ (List.getElem_mem hm1)
        have hxb := HO.out.2.1 _ (List.getElem_mem hm2)
        have hlt := part_lt la lb HO.out.1 (by rw [HL.out.1, HL.out.2]) m hm1 hd
        have hgt := part_lt lb la HO.out.2.1 (by rw [HL.out.1, HL.out.2]) m hm2 hd.symm
        have heq : la[m] = lb[m] → la.drop m = lb.drop m := fun h => by rw [List.drop_eq_getElem_cons hm1, List.drop_eq_getElem_cons hm2, h, hd]
        obtain ⟨x, hx⟩ : ∃ x, la[m] = x := ⟨_, rfl⟩
        obtain ⟨y, hy⟩ : ∃ y, lb[m] = y := ⟨_, rfl⟩
        rw [hx] at c1 hxa
        rw [hy] at c2 hxb
        rw [hx, hy] at hlt hgt heq
        have HF := Lib.hid (And.intro hlt (And.intro hgt heq))
        have hmn : (m : Int) < (n : Int) := by omega
        clear cca ccb hx hy hlt hgt heq hd hm1 hm2 h5
        rcases Nat.lt_trichotomy x y with h | h | h
        · have d1 : (x : Int) < (y : Int) := by omega
          go_wp2_with fail
          go_quiet (fail)
          go_wp2_with fail
          go_ret
          have := HF.out.1 h
          exact ⟨-1, rfl, by simp [this], by omega, below_drewN HW.out _⟩
        · subst h
          go_wp2_with fail
          go_quiet (fail)
          go_wp2_with fail
          go_quiet (fail)
          go_wp2_with fail
          exact ⟨⟨m, by omega, by go_num, HF.out.2.2 (by first | rfl | trivial), by first | exact below_drewN HW.out _ | exact below_drewN (below_drewN HW.out _) _⟩, by simp only [intOf]; omega⟩
        · have d1 : (y : Int) < (x : Int) := by omega
          have d2 : ¬ (x : Int) < (y : Int) := by omega
          go_wp2_with fail
          go_quiet (fail)
          go_wp2_with fail
          go_quiet (fail)
          go_wp2_with fail
          go_ret
          have := HF.out.2.1 h
          exact ⟨1, rfl, by omega, by omega, below_drewN (below_drewN HW.out _) _⟩
  · have HL := Lib.hid hl
    obtain ⟨p, hp⟩ : ∃ p, la.length = p := ⟨_, rfl⟩
    obtain ⟨q, hq⟩ : ∃ q, lb.length = q := ⟨_, rfl⟩
    rw [hp] at n1 hl ⊢
    rw [hq] at n2 hl ⊢
    have HP := Lib.hid (And.intro hp hq)
    have hne : ((p : Int) == (q : Int)) = false := by rw [beq_eq_false_iff_ne]; omega
    have hne2 : ((p : Int) != (q : Int)) = true := by rw [bne_iff_ne]; omega
    clear hp hq
    go_enter Tryz.func169, Tryz.ntmps169
    go_wp2_with fail
    go_ret
    refine ⟨(p : Int) - q, rfl, ?_, ?_, Below.refl _ _⟩
    · constructor
      · intro h
        exact len_lt HO.out.1 HO.out.2.2.2 (by rw [HP.out.1, HP.out.2]; omega)
      · intro h
        by_cases hpq : p < q
        · omega
        · have := len_lt (a := lb) (b := la) HO.out.2.1 HO.out.2.2.1 (by rw [HP.out.1, HP.out.2]; omega)
          omega
    · constructor
      · intro h
        omega
      · intro h
        by_cases hpq : p < q
        · have := len_lt (a := la) (b := lb) HO.out.1 HO.out.2.2.2 (by rw [HP.out.1, HP.out.2]; omega)
          omega
        · have := len_lt (a := lb) (b := la) HO.out.2.1 HO.out.2.2.1 (by rw [HP.out.1, HP.out.2]; omega)
          omega
end Go.Proofs.YtcbgkbidgpemfaaGreatDoor.rg

/- burnishref16: the walks of text, tens and trimmed. Conditions: as each theorem states. -/
namespace Go.Proofs.YtcbgkbidgpemfaaGreatDoor.rh
open Go.RowKit
open Go.Proofs.YtcbgkbidgpemfaaGreatDoor.rg

/-- the last digits of a whole number, so many -/
def txL : Nat → Nat → List UInt8
  | 0, _ => []
  | m + 1, n => (48 + n / 10 ^ m % 10).toUInt8 :: txL m n
theorem txL_len : ∀ m n, (txL m n).length = m
  | 0, _ => rfl
  | m + 1, n => by
    show (_ :: txL m n).length = m + 1
    rw [List.length_cons, txL_len m n]
def StrPost (w : World) (l : List UInt8) (e : Ending) (w' : World) : Prop := e = .returned (.string ⟨l.toArray⟩) ∧ Below w.heap.size w w'
theorem conv_two (c : Nat) (hc : c < 256) (W : World) : (convert 92 9 (.slice (some ⟨W.heap.size, 0, none⟩) 1 1)).run Tryz.prog (W.alloc (.cells #[.int .u8 (c : Int)] 5)) = .ok (.string ⟨#[c.toUInt8]⟩) (W.alloc (.cells #[.int .u8 (c : Int)] 5)) := by
  have := run_convert_bytes_back (P := Tryz.prog) (W.alloc (.cells #[.int .u8 (c : Int)] 5)) 92 9 5 ⟨W.heap.size, 0, none⟩ 1 [c.toUInt8] (by kernel_rfl) (by kernel_rfl) (by kernel_rfl) fun j hj => by
    obtain rfl : j = 0 := by simpa using hj
    have hh : (W.alloc (.cells #[.int .u8 (c : Int)] 5)).heap[W.heap.size]? = some (.cells #[.int .u8 (c : Int)] 5 (0, 0)) := heap_alloc_new W _
    have ha : (⟨W.heap.size, 0, none⟩ : Addr).add 0 = ⟨W.heap.size, 0, none⟩ := rfl
    rw [ha, cell_of_row _ W.heap.size 0 _ _ _ hh]
    show some (Value.int .u8 (c : Int)) = some (.int .u8 ((c.toUInt8).toNat : Int))
    have : (c.toUInt8).toNat = c := by
      rw [Nat.toUInt8, UInt8.toNat_ofNat']
      omega
    rw [this]
  exact this
set_option maxRecDepth 100000 in
set_option maxHeartbeats 1000000 in
theorem tens_any (n : Nat) (hn : n ≤ 19) (w : World) : Calls Tryz.prog 160 #[.int .i64 n] w fun e w' => e = .returned (.int .u64 ((10 ^ n : Nat) : Int)) ∧ w' = w := by
  obtain ⟨N, hN⟩ : ∃ N, 10 ^ n = N := ⟨_, rfl⟩
  rw [hN]
  have HN := Lib.hid hN
  clear hN
  go_enter Tryz.func160, Tryz.ntmps160
  go_wp2_with fail
  go_loopw [3, 4] (fun s3 s4 wr => ∃ (i x : Nat), i ≤ n ∧ x = 10 ^ i ∧ s3 = .int .u64 x ∧ s4 = .int .i64 i ∧ wr = w) (fun _ s4 _ => n - (intOf s4).toNat)
  case atStart => exact ⟨0, 1, Nat.zero_le _, rfl, rfl, rfl, rfl⟩
  case round =>
    obtain ⟨i, x, hi, hx, rfl, rfl, hwr⟩ := hrel
    obtain rfl := hwr.symm
    have HX := Lib.hid hx
    by_cases hlt : i < n
    · have h1 : x ≤ 1000000000000000000 := by
        rw [hx]
        exact Nat.pow_le_pow_right (n := 10) (by decide) (show i ≤ 18 by omega)
      have hlti : (i : Int) < (n : Int) := by omega
      clear hx
      have hx9 : (x : Int) ≤ 1000000000000000000 := by omega
      have hmu : IntKind.u64.wrap ((x : Int) * 10) = ((x * 10 : Nat) : Int) := by rw [IntKind.wrap_u64]; omega
      go_wp2_with fail
      refine ⟨⟨i + 1, x * 10, by omega, by rw [HX.out, Nat.pow_succ], by go_num, by go_num, by first | trivial | rfl⟩, by simp only [intOf]; omega⟩
    · obtain rfl : i = n := by omega
      have HF := Lib.hid (show x = N by rw [hx, HN.out])
      clear hx
      go_wp2_with fail
      go_ret
      rw [HF.out]
      exact ⟨rfl, rfl⟩
set_option maxRecDepth 100000 in
set_option maxHeartbeats 1000000 in
theorem text16_any (n many : Nat) (hn : n < 18446744073709551616) (hm : many ≤ 40) (w : World) : Calls Tryz.prog 158 #[.int .u64 n, .int .i64 many] w (StrPost w (txL many n)) := by
  have hmi : (many : Int) ≤ 40 := by omega
  obtain ⟨T, hT⟩ : ∃ T, txL many n = T := ⟨_, rfl⟩
  rw [hT]
  have HT := Lib.hid hT
  have HN := Lib.hid hn
  obtain ⟨n0, hn0⟩ : ∃ n0, n0 = n := ⟨_, rfl⟩
  rw [← hn0]
  have HN0 := Lib.hid hn0
  clear hT hn hn0
  go_enter Tryz.func158, Tryz.ntmps158
  go_wp2_with fail
  go_loopw [0, 5, 6] (fun s0 s5 s6 wr => ∃ (i q : Nat) (l : List UInt8), i ≤ many ∧ q = n / 10 ^ i ∧ l = txL i n ∧ s0 = .int .u64 q ∧ s5 = .string ⟨l.toArray⟩ ∧ s6 = .int .i64 i ∧ Below w.heap.size w wr) (fun _ _ s6 _ => many - (intOf s6).toNat)
  case atStart => exact ⟨0, n0, [], Nat.zero_le _, by rw [HN0.out, Nat.pow_zero, Nat.div_one], rfl, rfl, rfl, rfl, Below.refl _ _⟩
  case round =>
    obtain ⟨i, q, l, hi, hq, hl, rfl, rfl, rfl, hB⟩ := hrel
    obtain ⟨wo, rfl⟩ : ∃ wo : World, wo = wr := ⟨_, rfl⟩
    have HQ := Lib.hid (And.intro hq hl)
    have HB := Lib.hid hB
    have hq9 : q < 18446744073709551616 := by
      rw [hq]
      exact Nat.lt_of_le_of_lt (Nat.div_le_self _ _) HN.out
    have hll : l.length ≤ 40 := by rw [hl, txL_len]; omega
    clear hq hl hB
    by_cases hlt : i < many
    · have hlti : (i : Int) < (many : Int) := by omega
      obtain ⟨c, hc⟩ : ∃ c, 48 + q % 10 = c := ⟨_, rfl⟩
      obtain ⟨r, hr⟩ : ∃ r, q % 10 = r := ⟨_, rfl⟩
      obtain ⟨d, hd⟩ : ∃ d, q / 10 = d := ⟨_, rfl⟩
      have hqr : (q : Int) % 10 = (r : Int) := by omega
      have hqd : (q : Int) / 10 = (d : Int) := by omega
      have hrc : (48 : Int) + (r : Int) = (c : Int) := by omega
      have hc57 : (c : Int) ≤ 57 := by omega
      have hcv := fun W : World => conv_two c (by omega) W
      have HC := Lib.hid (And.intro hc hd)
      have hls : (⟨l.toArray⟩ : ByteArray).size ≤ 40 := by show l.toArray.size ≤ 40; simpa using hll
      have hs1 : (⟨#[c.toUInt8]⟩ : ByteArray).size = 1 := rfl
      clear hc hr hd
      go_wp2_with fail
      refine ⟨⟨i + 1, d, c.toUInt8 :: l, by omega, ?_, ?_, by go_num, ?_, by go_num, ?_⟩, by simp only [intOf]; omega⟩
      · rw [← HC.out.2, HQ.out.1, Nat.div_div_eq_div_mul, Nat.pow_succ]
      · rw [← HC.out.1, HQ.out.1, HQ.out.2]
        rfl
      · rfl
      · exact HB.out.alloc HB.out.size _
    · obtain rfl : i = many := by omega
      have HF := Lib.hid (show l = T by rw [HQ.out.2, HT.out])
      go_wp2_with fail
      go_ret
      rw [← HF.out]
      exact ⟨rfl, HB.out⟩
end Go.Proofs.YtcbgkbidgpemfaaGreatDoor.rh
