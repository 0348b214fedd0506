/- Nodes in memory, as the walks of chapter 20 want them. Conditions: as each theorem states. -/
import Derived.Test.YtejmbbkklhpnaaaGreatDoorMp14
import Derived.Test.YtejmbbkklhpnaaaGreatDoorMp04
import Derived.Test.YtejmbbkklhpnaaaGreatDoorMp12
import Derived.Test.YtejmbbkklhpnaaaGreatDoorMp01
import Derived.Outline
import Derived.Deep.LoopGhost
import Derived.Laws.OwnMore
import Derived.Lib.Hide
import Derived.WalkKit
import Derived.BigQuiet
import Derived.WalkLawsBesides
import Derived.IntWalk
namespace Go.Proofs.YtejmbbkklhpnaaaGreatDoor.chkw
open Go.RowKit
open Go.Proofs.YtejmbbkklhpnaaaGreatDoor.nodew
open Go.Proofs.YtejmbbkklhpnaaaGreatDoor.words
open Go.Proofs.YtejmbbkklhpnaaaGreatDoor.qt
open Go.BigFrame
attribute [local go_sem] nodew.run_store_float

theorem grown_below {w w' : World} (h : Below w.heap.size w w') (row : Option Nat) : w.grownBy w' row := ⟨h.os, h.tape, h.output, h.size, fun k hk _ => h.block k hk⟩
theorem heap_set (w : World) (g j : Nat) (cs : Array Value) (t : TypeId) (fr : Nat × Nat) (v : Value) (h : w.heap[g]? = some (.cells cs t fr)) :
    (w.setCell ⟨g, j, none⟩ v).heap[g]? = some (.cells (cs.setIfInBounds j v) t fr) := by
  obtain ⟨hlt, hk⟩ := Array.getElem?_eq_some_iff.1 h
  show (w.heap.modify g _)[g]? = _
  rw [Array.getElem?_eq_getElem (by rw [Array.size_modify]; exact hlt), Array.getElem_modify_self, hk]
  simp
/-- a slice of nodes, in a block below B, no longer than its capacity -/
def NArg (W : World) (B : Nat) (v : Value) (l : List Nd) : Prop :=
  ∃ A c, v = .slice A l.length c ∧ l.length ≤ c ∧ (A = none → c = 0) ∧ (l ≠ [] → ∃ g off, A = some ⟨g, off, none⟩ ∧ g < B ∧ g < W.heap.size ∧ ∀ j u, (ncells l)[j]? = some u → W.cell? ⟨g, off + j, none⟩ = some u)
theorem NArg.keep {W W' : World} {B : Nat} {v : Value} {l : List Nd} (h : NArg W B v l) (hz : W.heap.size ≤ W'.heap.size) (hg : ∀ g, g < B → g < W.heap.size → W'.heap[g]? = W.heap[g]?) : NArg W' B v l := by
  obtain ⟨A, c, hv, hc, hn, hx⟩ := h
  refine ⟨A, c, hv, hc, hn, fun h0 => ?_⟩
  obtain ⟨g, off, hA, hB, hl, hx⟩ := hx h0
  exact ⟨g, off, hA, hB, by omega, fun j u hu => (World.cell?_of_block (a := ⟨g, off + j, none⟩) (hg g hB hl)).trans (hx j u hu)⟩
theorem NArg.mono {W : World} {B B' : Nat} {v : Value} {l : List Nd} (h : NArg W B v l) (hb : B ≤ B') : NArg W B' v l := by
  obtain ⟨A, c, hv, hc, hn, hx⟩ := h
  refine ⟨A, c, hv, hc, hn, fun h0 => ?_⟩
  obtain ⟨g, off, hA, hB, r⟩ := hx h0
  exact ⟨g, off, hA, by omega, r⟩
theorem NArg.read {W : World} {B : Nat} {v : Value} {l : List Nd} (h : NArg W B v l) : NRead W B v l := by
  obtain ⟨A, c, hv, hc, hn, hx⟩ := h
  exact ⟨A, c, hv, hx⟩
theorem NArg.of_own {W : World} {base : Nat} {v : Value} {l : List Nd} (h : W.ownsRow base 67 19 v l.length (ncells l)) : NArg W W.heap.size v l := by
  rcases h.2 with ⟨rfl, hn⟩ | ⟨g, cap, cur, rfl, _, hgg, hc, _⟩
  · exact ⟨none, 0, by rw [hn], by omega, fun _ => rfl, fun h0 => absurd (List.eq_nil_of_length_eq_zero hn) h0⟩
  · refine ⟨_, cap, rfl, hc, fun h => by simp at h, fun _ => ⟨g, 0, rfl, (Array.getElem?_eq_some_iff.1 hgg).1, (Array.getElem?_eq_some_iff.1 hgg).1, fun j u hu => ?_⟩⟩
    have hc := h.cells (g := g) rfl j u hu
    have hadd : (⟨g, 0, none⟩ : Addr).add j = ⟨g, j, none⟩ := by unfold Addr.add; split <;> simp_all
    rw [hadd] at hc
    rw [Nat.zero_add]
    exact hc
theorem NArg.one (w : World) (n : Nd) (u : World) (hu : u.heap[w.heap.size]? = some (.cells n.cells.toArray 67 (0, 0))) : NArg u u.heap.size (.slice (some ⟨w.heap.size, 0, none⟩) 1 1) [n] := by
  have hl := (Array.getElem?_eq_some_iff.1 hu).1
  refine ⟨_, 1, rfl, Nat.le_refl _, fun h => by simp at h, fun _ => ⟨w.heap.size, 0, rfl, hl, hl, fun j v hv => ?_⟩⟩
  rw [cell_of_row u w.heap.size _ _ _ _ hu, Nat.zero_add]
  simpa [ncells] using hv
theorem ncells_len (l : List Nd) : (ncells l).length = l.length * 19 := by
  induction l with
  | nil => rfl
  | cons a r ih => show (a.cells ++ ncells r).length = _; rw [List.length_append, ih, nd_cells_len, List.length_cons]; omega
theorem NRead.of_own {W : World} {base : Nat} {v : Value} {l : List Nd} (h : W.ownsRow base 67 19 v l.length (ncells l)) : NRead W W.heap.size v l := by
  rcases h.2 with ⟨rfl, hn⟩ | ⟨g, cap, cur, rfl, _, hgg, _⟩
  · exact ⟨_, _, by rw [hn], fun h0 => absurd (List.eq_nil_of_length_eq_zero hn) h0⟩
  · refine ⟨_, _, rfl, fun _ => ⟨g, 0, rfl, (Array.getElem?_eq_some_iff.1 hgg).1, (Array.getElem?_eq_some_iff.1 hgg).1, fun j u hu => ?_⟩⟩
    have hc := h.cells (g := g) rfl j u hu
    have hadd : (⟨g, 0, none⟩ : Addr).add j = ⟨g, j, none⟩ := by unfold Addr.add; split <;> simp_all
    rw [hadd] at hc
    rw [Nat.zero_add]
    exact hc
end Go.Proofs.YtejmbbkklhpnaaaGreatDoor.chkw

/- The small functions of unrounded scaling: what each answers. No conditions but those stated. -/
namespace Go.Proofs.YtejmbbkklhpnaaaGreatDoor.prnw
open Go.RowKit
open Go.Proofs.YtejmbbkklhpnaaaGreatDoor.nodew
open Go.Proofs.YtejmbbkklhpnaaaGreatDoor.chkw

theorem skew_any (e : Int) (h0 : -3000 ≤ e) (h1 : e ≤ 3000) (w : World) : Calls Tryz.prog 159 #[.int .i64 e] w (Same w (.int .i64 ((e * 631305 - 261663) / 2097152))) := by
  go_enter Tryz.func159, Tryz.ntmps159
  go_wp2
  go_ret
  exact ⟨rfl, rfl⟩
theorem l10_any (e : Int) (h0 : -3000 ≤ e) (h1 : e ≤ 3000) (w : World) : Calls Tryz.prog 136 #[.int .i64 e] w (Same w (.int .i64 (e * 78913 / 262144))) := by
  go_enter Tryz.func136, Tryz.ntmps136
  go_wp2
  go_ret
  exact ⟨rfl, rfl⟩
theorem floor_any (u : Int) (h0 : 0 ≤ u) (h1 : u < 18446744073709551616) (w : World) : Calls Tryz.prog 165 #[.int .u64 u] w (Same w (.int .u64 (u / 4))) := by
  go_enter Tryz.func165, Tryz.ntmps165
  go_wp2
  go_ret
  exact ⟨rfl, rfl⟩
theorem ceil_any (u : Int) (_h0 : 0 ≤ u) (_h1 : u < 18446744073709551616) (w : World) : Calls Tryz.prog 164 #[.int .u64 u] w (Same w (.int .u64 (ceilI u))) := by
  go_enter Tryz.func164, Tryz.ntmps164
  go_wp2
  go_ret
  exact ⟨rfl, rfl⟩
theorem nudge_any (u d : Int) (_h0 : 0 ≤ u) (_h1 : u < 18446744073709551616) (_d0 : -1 ≤ d) (_d1 : d ≤ 1) (w : World) : Calls Tryz.prog 163 #[.int .u64 u, .int .i64 d] w (Same w (.int .u64 (nudgeI u d))) := by
  go_enter Tryz.func163, Tryz.ntmps163
  go_wp2
  go_ret
  exact ⟨rfl, rfl⟩
end Go.Proofs.YtejmbbkklhpnaaaGreatDoor.prnw

/- Unrounded scaling. No conditions but those stated. -/
namespace Go.Proofs.YtejmbbkklhpnaaaGreatDoor.prnw
open Go.RowKit

theorem and63 (s : Int) : 0 ≤ bits BinOp.and IntKind.i64 s 63 ∧ bits BinOp.and IntKind.i64 s 63 ≤ 63 := by
  have h : bits BinOp.and IntKind.i64 s 63 = IntKind.i64.wrap (((BitVec.ofInt 64 s &&& BitVec.ofInt 64 63).toNat : Nat) : Int) := rfl
  have h2 : (BitVec.ofInt 64 s &&& BitVec.ofInt 64 63).toNat ≤ 63 := by
    rw [BitVec.toNat_and]
    exact Nat.le_trans Nat.and_le_right (by decide)
  rw [h, IntKind.wrap_i64]
  omega
theorem or_bd (a b : Int) : 0 ≤ bits BinOp.or IntKind.u64 a b ∧ bits BinOp.or IntKind.u64 a b < 18446744073709551616 := w64 _
/-- what unrounded scaling answers -/
def usI (x hi lo : Nat) (s : Int) : Int :=
  if (IntKind.u64.wrap (((x * hi / 18446744073709551616 : Nat) : Int) / 2 ^ (bits BinOp.and IntKind.i64 s 63).toNat * 2 ^ (bits BinOp.and IntKind.i64 s 63).toNat) != ((x * hi / 18446744073709551616 : Nat) : Int)) = true then bits BinOp.or IntKind.u64 (((x * hi / 18446744073709551616 : Nat) : Int) / 2 ^ (bits BinOp.and IntKind.i64 s 63).toNat) 1
  else bits BinOp.or IntKind.u64 (IntKind.u64.wrap (((x * hi / 18446744073709551616 : Nat) : Int) - (if x * hi % 18446744073709551616 < x * lo / 18446744073709551616 then 1 else 0)) / 2 ^ (bits BinOp.and IntKind.i64 s 63).toNat)
    (if 1 < IntKind.u64.wrap (((x * hi % 18446744073709551616 : Nat) : Int) - ((x * lo / 18446744073709551616 : Nat) : Int)) then 1 else 0)
theorem us_bd (x hi lo : Nat) (s : Int) : 0 ≤ usI x hi lo s ∧ usI x hi lo s < 18446744073709551616 := by
  unfold usI
  split
  · exact or_bd _ _
  · exact or_bd _ _
def UsPost (w : World) (r : Int) (e : Ending) (w' : World) : Prop := e = .returned (.int .u64 r) ∧ ∃ n, w' = w.drewN n
set_option maxRecDepth 100000 in
set_option maxHeartbeats 1000000 in
theorem uscale_any (x hi lo : Nat) (s : Int) (hx : x < 18446744073709551616) (hh : hi < 18446744073709551616) (hlo : lo < 18446744073709551616) (pb : Nat) (w : World) (hb : SC w pb hi lo s) :
    Calls Tryz.prog 162 #[.int .u64 x, .pointer (some ⟨pb, 0, none⟩)] w (UsPost w (usI x hi lo s)) := by
  have d0 : w.cell? ⟨pb, 0, none⟩ = some (.int .u64 (hi : Nat)) := by rw [cell_of_row _ _ _ _ _ _ hb]; rfl
  have d1 : w.cell? ⟨pb, 1, none⟩ = some (.int .u64 (lo : Nat)) := by rw [cell_of_row _ _ _ _ _ _ hb]; rfl
  have d2 : w.cell? ⟨pb, 2, none⟩ = some (.int .i64 s) := by rw [cell_of_row _ _ _ _ _ _ hb]; rfl
  have m1 := Tryz.bits_Mul64 x hi hx hh w
  have m2 := Tryz.bits_Mul64 x lo hx hlo w
  obtain ⟨R, hR⟩ : ∃ R, usI x hi lo s = R := ⟨_, rfl⟩
  rw [hR]
  unfold usI at hR
  obtain ⟨k, hk⟩ : ∃ k : Int, bits BinOp.and IntKind.i64 s 63 = k := ⟨_, rfl⟩
  have k0 : 0 ≤ k := by rw [← hk]; exact (and63 s).1
  have k1 : k ≤ 63 := by rw [← hk]; exact (and63 s).2
  rw [hk] at hR
  have H1 : ((x * hi / 18446744073709551616 : Nat) : Int) < 18446744073709551616 := by
    have h1 : x * hi < 18446744073709551616 * 18446744073709551616 := Nat.mul_lt_mul_of_lt_of_lt hx hh
    have := Nat.div_lt_of_lt_mul h1
    omega
  obtain ⟨H, hH⟩ : ∃ H, x * hi / 18446744073709551616 = H := ⟨_, rfl⟩
  obtain ⟨M, hM⟩ : ∃ M, x * hi % 18446744073709551616 = M := ⟨_, rfl⟩
  obtain ⟨L, hL⟩ : ∃ L, x * lo / 18446744073709551616 = L := ⟨_, rfl⟩
  rw [hH] at H1
  rw [hH, hM] at m1
  rw [hL] at m2
  rw [hH, hM, hL] at hR
  have N1 := Lib.hid m1
  have N2 := Lib.hid m2
  have H0 : (0 : Int) ≤ (H : Int) := by omega
  have HR := Lib.hid hR
  clear hH hM hL m1 m2 hb hR
  go_enter Tryz.func162, Tryz.ntmps162
  go_wp2_with fail
  (with_reducible refine N1.out.mono ?_)
  rintro e w' ⟨rfl, hw'⟩
  obtain rfl := hw'.symm
  go_upto_region 3 with (fail)
  clear hk
  go_upto_if 30 with (fail)
  cases hb1 : (IntKind.u64.wrap ((H : Int) / 2 ^ k.toNat * 2 ^ k.toNat) != (H : Int)) with
  | true =>
    have hR2 := HR.out
    rw [if_pos hb1] at hR2
    have HR2 := Lib.hid hR2
    clear hb1 hR2
    go_wp2_with fail
    go_ret
    exact ⟨by rw [HR2.out]; rfl, 0, rfl⟩
  | false =>
    have hR2 := HR.out
    rw [if_neg (by rw [hb1]; decide)] at hR2
    have HR2 := Lib.hid hR2
    clear hb1 hR2
    go_wp2_with fail
    (with_reducible refine N2.out.mono ?_)
    rintro e w' ⟨rfl, hw'⟩
    obtain rfl := hw'.symm
    go_wp2_with fail
    (with_reducible refine (b2u _ _).mono ?_)
    rintro e w' ⟨rfl, hw'⟩
    obtain rfl := hw'.symm
    go_upto_region 7 with (fail)
    clear H1
    go_quiet (exact Calls.quiet_of_same (b2u _ _))
    all_goals go_wp2_with fail
    all_goals go_ret
    all_goals refine ⟨?_, nq, rfl⟩
    all_goals rw [← HR2.out]
    all_goals (repeat (first | rw [if_pos (by assumption)] | rw [if_neg (by assumption)] | rw [if_neg (by omega)] | rw [if_pos (by omega)]))
    all_goals rfl
end Go.Proofs.YtejmbbkklhpnaaaGreatDoor.prnw

/- Unrounded scaling, and the small functions about it. No conditions but those stated. -/


/- Shortest digits: bounds of what unrounded scaling answers (plain), and the number itself. No conditions but those stated. -/
namespace Go.Proofs.YtejmbbkklhpnaaaGreatDoor.prnw
open Go.RowKit
open Go.Proofs.YtejmbbkklhpnaaaGreatDoor.nodew
open Go.Proofs.YtejmbbkklhpnaaaGreatDoor.chkw

theorem or_ge (a b : Int) (ha : 0 ≤ a) (ha2 : a < 9223372036854775808) (hb : 0 ≤ b) (hb2 : b < 9223372036854775808) : a ≤ bits BinOp.or IntKind.u64 a b ∧ bits BinOp.or IntKind.u64 a b < 9223372036854775808 := by
  have h : bits BinOp.or IntKind.u64 a b = IntKind.u64.wrap (((BitVec.ofInt 64 a ||| BitVec.ofInt 64 b).toNat : Nat) : Int) := rfl
  have h1 : (BitVec.ofInt 64 a).toNat = a.toNat := by
    rw [BitVec.toNat_ofInt]
    congr 1
    omega
  have h2 : (BitVec.ofInt 64 b).toNat = b.toNat := by
    rw [BitVec.toNat_ofInt]
    congr 1
    omega
  rw [h, IntKind.wrap_u64, BitVec.toNat_or, h1, h2]
  have h3 : a.toNat ||| b.toNat < 2 ^ 63 := Nat.or_lt_two_pow (by omega) (by omega)
  have h4 : a.toNat ≤ a.toNat ||| b.toNat := Nat.left_le_or
  omega
/-- unrounded scaling of a big number by a normal power -/
theorem us_lo (x hi lo : Nat) (s : Int) (hx : 4611686018427387904 ≤ x) (hx2 : x < 18446744073709551616) (hh : 9223372036854775808 ≤ hi) (hh2 : hi < 18446744073709551616) (s0 : 1 ≤ s) (s1 : s ≤ 58) : 7 ≤ usI x hi lo s ∧ usI x hi lo s < 9223372036854775808 := by
  have hk := toNat_bits63 s (by omega) (by omega)
  unfold usI
  rw [hk]
  have hH : 2305843009213693952 ≤ x * hi / 18446744073709551616 := by
    have : 4611686018427387904 * 9223372036854775808 ≤ x * hi := Nat.mul_le_mul hx hh
    omega
  have hH2 : x * hi / 18446744073709551616 < 18446744073709551616 := by
    have h1 : x * hi < 18446744073709551616 * 18446744073709551616 := Nat.mul_lt_mul_of_lt_of_lt hx2 hh2
    exact Nat.div_lt_of_lt_mul h1
  obtain ⟨H, hHe⟩ : ∃ H, x * hi / 18446744073709551616 = H := ⟨_, rfl⟩
  rw [hHe] at hH hH2 ⊢
  obtain ⟨k, rfl⟩ := Int.eq_ofNat_of_zero_le (show 0 ≤ s by omega)
  rw [Int.toNat_natCast]
  have e2 : ((2 : Int) ^ k) = ((2 ^ k : Nat) : Int) := by norm_cast
  have p1 : 2 ≤ 2 ^ k := by
    have := Nat.pow_le_pow_right (show 0 < 2 by decide) (show 1 ≤ k by omega)
    simpa using this
  have p2 : 2 ^ k ≤ 288230376151711744 := by
    have := Nat.pow_le_pow_right (show 0 < 2 by decide) (show k ≤ 58 by omega)
    simpa using this
  have q : ∀ c : Nat, 2305843009213693951 ≤ c → c < 18446744073709551616 → (7 : Int) ≤ (c : Int) / 2 ^ k ∧ (c : Int) / 2 ^ k < 9223372036854775808 := fun c h1 h2 => by
    have a1 : 7 ≤ c / 2 ^ k := (Nat.le_div_iff_mul_le (by omega)).2 (by omega)
    have a2 : c / 2 ^ k < 9223372036854775808 := Nat.div_lt_of_lt_mul (by
      have : 2 * 9223372036854775808 ≤ 2 ^ k * 9223372036854775808 := Nat.mul_le_mul_right _ p1
      omega)
    rw [e2]
    have e3 : ((c : Int) / ((2 ^ k : Nat) : Int)) = ((c / 2 ^ k : Nat) : Int) := by norm_cast
    rw [e3]
    omega
  split
  · obtain ⟨a, b⟩ := q H (by omega) hH2
    have := or_ge _ 1 (by omega) b (by decide) (by decide)
    omega
  · have hw : ∃ c : Nat, IntKind.u64.wrap ((H : Int) - (if x * hi % 18446744073709551616 < x * lo / 18446744073709551616 then 1 else 0)) = (c : Int) ∧ 2305843009213693951 ≤ c ∧ c < 18446744073709551616 := by
      split
      · exact ⟨H - 1, by rw [IntKind.wrap_u64]; omega, by omega, by omega⟩
      · exact ⟨H, by rw [IntKind.wrap_u64]; omega, by omega, by omega⟩
    obtain ⟨c, hc, c1, c2⟩ := hw
    rw [hc]
    obtain ⟨a, b⟩ := q c c1 c2
    have := or_ge ((c : Int) / 2 ^ k) (if 1 < IntKind.u64.wrap (((x * hi % 18446744073709551616 : Nat) : Int) - ((x * lo / 18446744073709551616 : Nat) : Int)) then 1 else 0) (by omega) b (by split <;> decide) (by split <;> decide)
    omega
end Go.Proofs.YtejmbbkklhpnaaaGreatDoor.prnw

/- The shortest digits of a number. No conditions but those stated. -/
namespace Go.Proofs.YtejmbbkklhpnaaaGreatDoor.prnw
open Go.RowKit
open Go.Proofs.YtejmbbkklhpnaaaGreatDoor.nodew
open Go.Proofs.YtejmbbkklhpnaaaGreatDoor.chkw

def sfB (m e : Int) : Bool := m == 9223372036854775808 && decide (-1085 < e)
def sfZ (e : Int) : Int := if -1085 ≤ e then 11 else 11 + (-1085 - e)
def sfP (m e : Int) : Int := if sfB m e then -(((e + 11) * 631305 - 261663) / 2097152) else -((e + sfZ e) * 78913 / 262144)
def sfMn (m e : Int) : Int := if sfB m e then IntKind.u64.wrap (m - 512) else if -1085 ≤ e then IntKind.u64.wrap (m - 1024) else IntKind.u64.wrap (m - IntKind.u64.wrap (2 ^ ((sfZ e).toNat - 1)))
def sfMx (m e : Int) : Int := if -1085 ≤ e then IntKind.u64.wrap (m + 1024) else IntKind.u64.wrap (m + IntKind.u64.wrap (2 ^ ((sfZ e).toNat - 1)))
def sfO (m e : Int) : Int := bits BinOp.and IntKind.i64 (wrap64 (m / 2 ^ (sfZ e).toNat)) 1

theorem and1 (s : Int) : 0 ≤ bits BinOp.and IntKind.i64 s 1 ∧ bits BinOp.and IntKind.i64 s 1 ≤ 1 := by
  have h : bits BinOp.and IntKind.i64 s 1 = IntKind.i64.wrap (((BitVec.ofInt 64 s &&& BitVec.ofInt 64 1).toNat : Nat) : Int) := rfl
  have h2 : (BitVec.ofInt 64 s &&& BitVec.ofInt 64 1).toNat ≤ 1 := by
    rw [BitVec.toNat_and]
    exact Nat.le_trans Nat.and_le_right (by decide)
  rw [h, IntKind.wrap_i64]
  omega
def sfI (m e : Int) : Nat := (sfP m e + 348).toNat
def sfS (m e : Int) : Int := -(e + sfP m e * 108853 / 32768 + 3)
def sfU (hi lo : Nat → Nat) (m e x : Int) : Int := usI x.toNat (hi (sfI m e)) (lo (sfI m e)) (sfS m e)
def sfDn (hi lo : Nat → Nat) (m e : Int) : Int := ceilI (nudgeI (sfU hi lo m e (sfMn m e)) (sfO m e))
def sfDx (hi lo : Nat → Nat) (m e : Int) : Int := nudgeI (sfU hi lo m e (sfMx m e)) (-(sfO m e)) / 4
/-- the digits and the power of ten -/
def sfR (hi lo : Nat → Nat) (m e : Int) : Int × Int :=
  if sfDn hi lo m e ≤ sfDx hi lo m e / 10 * 10 then (sfDx hi lo m e / 10, -(sfP m e - 1))
  else if sfDn hi lo m e < sfDx hi lo m e then (roundI (sfU hi lo m e m), -(sfP m e))
  else (sfDn hi lo m e, -(sfP m e))
theorem sf_p (m e : Int) (e0 : -1137 ≤ e) (e1 : e ≤ 960) : -347 ≤ sfP m e ∧ sfP m e ≤ 347 ∧ 1 ≤ sfS m e ∧ sfS m e ≤ 58 := by
  unfold sfS
  by_cases hb : sfB m e = true
  · have he : -1085 < e := by
      unfold sfB at hb
      simp only [Bool.and_eq_true, decide_eq_true_eq] at hb
      exact hb.2
    have r1 : sfP m e = -(((e + 11) * 631305 - 261663) / 2097152) := if_pos hb
    rw [r1]
    omega
  · by_cases he : -1085 ≤ e
    · have r1 : sfP m e = -((e + 11) * 78913 / 262144) := by unfold sfP sfZ; rw [if_neg hb, if_pos he]
      rw [r1]
      omega
    · have rz : sfZ e = 11 + (-1085 - e) := if_neg he
      have r1 : sfP m e = -((e + (11 + (-1085 - e))) * 78913 / 262144) := by unfold sfP; rw [if_neg hb, rz]
      have r2 : e + (11 + (-1085 - e)) = -1074 := by omega
      rw [r1, r2]
      omega
theorem sf_mn (m e : Int) (hm0 : 9223372036854775808 ≤ m) (hm : m < 18446744073709551616) (e0 : -1137 ≤ e) (e1 : e ≤ 960) : 4611686018427387904 ≤ sfMn m e ∧ sfMn m e < 18446744073709551616 := by
  unfold sfMn
  split
  · rw [IntKind.wrap_u64]; omega
  · split
    · rw [IntKind.wrap_u64]; omega
    · rename_i he
      have rz : sfZ e = 11 + (-1085 - e) := if_neg he
      rw [rz]
      obtain ⟨k, hk⟩ : ∃ k, k = (11 + (-1085 - e)).toNat - 1 := ⟨_, rfl⟩
      rw [← hk]
      have hk2 : k ≤ 62 := by omega
      have e2 : ((2 : Int) ^ k) = ((2 ^ k : Nat) : Int) := by norm_cast
      have p2 : 2 ^ k ≤ 4611686018427387904 := by
        have := Nat.pow_le_pow_right (show 0 < 2 by decide) hk2
        simpa using this
      obtain ⟨q, hq⟩ : ∃ q, q = 2 ^ k := ⟨_, rfl⟩
      rw [e2, ← hq, IntKind.wrap_u64, IntKind.wrap_u64]
      rw [← hq] at p2
      clear hq e2
      omega
theorem sf_mx (m e : Int) : 0 ≤ sfMx m e ∧ sfMx m e < 18446744073709551616 := by
  unfold sfMx
  split
  · exact w64 _
  · exact w64 _
/-- the digits are a number from 1 on -/
theorem sf_d (hi lo : Nat → Nat) (m e : Int) (hm0 : 9223372036854775808 ≤ m) (hm : m < 18446744073709551616) (e0 : -1137 ≤ e) (e1 : e ≤ 960) (hh : ∀ i, i < 696 → 9223372036854775808 ≤ hi i ∧ hi i < 18446744073709551616) :
    1 ≤ (sfR hi lo m e).1 ∧ (sfR hi lo m e).1 < 18446744073709551616 ∧ -348 ≤ (sfR hi lo m e).2 ∧ (sfR hi lo m e).2 ≤ 348 := by
  obtain ⟨p0, p1, s0, s1⟩ := sf_p m e e0 e1
  obtain ⟨n0, n1⟩ := sf_mn m e hm0 hm e0 e1
  obtain ⟨o0, o1⟩ := and1 (wrap64 (m / 2 ^ (sfZ e).toNat))
  have hi0 : sfI m e < 696 := by unfold sfI; omega
  obtain ⟨t0, t1⟩ := hh _ hi0
  obtain ⟨u0, u1⟩ := us_lo (sfMn m e).toNat (hi (sfI m e)) (lo (sfI m e)) (sfS m e) (by omega) (by omega) t0 t1 s0 s1
  obtain ⟨v0, v1⟩ := us_lo m.toNat (hi (sfI m e)) (lo (sfI m e)) (sfS m e) (by omega) (by omega) t0 t1 s0 s1
  have hn1 : 1 ≤ sfDn hi lo m e ∧ sfDn hi lo m e < 18446744073709551616 := by
    unfold sfDn ceilI nudgeI sfU sfO
    rw [IntKind.wrap_u64, IntKind.wrap_u64, IntKind.wrap_u64]
    omega
  have hx := nudge_bd (sfU hi lo m e (sfMx m e)) (-(sfO m e))
  have hx2 : 0 ≤ sfDx hi lo m e ∧ sfDx hi lo m e < 18446744073709551616 := by unfold sfDx; omega
  have hr : 1 ≤ roundI (sfU hi lo m e m) ∧ roundI (sfU hi lo m e m) < 18446744073709551616 := by
    refine ⟨?_, (round_bd _).2⟩
    unfold roundI sfU
    obtain ⟨c, hc⟩ : ∃ c, bits BinOp.and IntKind.u64 (usI m.toNat (hi (sfI m e)) (lo (sfI m e)) (sfS m e) / 4) 1 = c := ⟨_, rfl⟩
    have hc2 : 0 ≤ c ∧ c ≤ 1 := by
      rw [← hc]
      have h : ∀ a : Int, bits BinOp.and IntKind.u64 a 1 = IntKind.u64.wrap (((BitVec.ofInt 64 a &&& BitVec.ofInt 64 1).toNat : Nat) : Int) := fun _ => rfl
      have h2 : ∀ a : Int, (BitVec.ofInt 64 a &&& BitVec.ofInt 64 1).toNat ≤ 1 := fun a => by
        rw [BitVec.toNat_and]
        exact Nat.le_trans Nat.and_le_right (by decide)
      rw [h, IntKind.wrap_u64]
      have := h2 (usI m.toNat (hi (sfI m e)) (lo (sfI m e)) (sfS m e) / 4)
      omega
    rw [hc, IntKind.wrap_u64, IntKind.wrap_u64]
    omega
  unfold sfR
  split
  · refine ⟨?_, ?_, ?_, ?_⟩ <;> dsimp only <;> omega
  · split
    · refine ⟨?_, ?_, ?_, ?_⟩ <;> dsimp only <;> omega
    · refine ⟨?_, ?_, ?_, ?_⟩ <;> dsimp only <;> omega
/-- returns the two, and what lay there lies there -/
def SfPost (w : World) (r : Int × Int) (x : Ending) (w' : World) : Prop := x = .returned (.tuple #[.int .u64 r.1, .int .i64 r.2]) ∧ Below w.heap.size w w'
set_option maxRecDepth 100000 in
set_option maxHeartbeats 1000000 in
theorem short_any (hi lo : Nat → Nat) (m : Nat) (e : Int) (hm0 : 9223372036854775808 ≤ m) (hm : m < 18446744073709551616) (e0 : -1137 ≤ e) (e1 : e ≤ 960) (w : World) (hT : PT hi lo w) (hTn : 8 < w.heap.size) :
    Calls Tryz.prog 141 #[.int .u64 m, .int .i64 e] w (SfPost w (sfR hi lo m e)) := by
  have HM := Lib.hid (And.intro hm0 hm)
  have HT := Lib.hid (And.intro hT hTn)
  obtain ⟨mi, hmi⟩ : ∃ mi : Int, mi = (m : Int) := ⟨_, rfl⟩
  have pb := sf_p mi e e0 e1
  have nb := sf_mn mi e (by omega) (by omega) e0 e1
  have xb := sf_mx mi e
  rw [← hmi]
  obtain ⟨R, hR⟩ : ∃ R, R = sfR hi lo mi e := ⟨_, rfl⟩
  rw [← hR]
  unfold sfR at hR
  have HR0 := Lib.hid hR
  have HB := Lib.hid (And.intro pb (And.intro nb xb))
  have HMi := Lib.hid hmi
  clear hm0 hm hT hmi pb nb xb hR hTn
  go_enter Tryz.func141, Tryz.ntmps141
  go_upto_region 12 with (fail)
  go_cut [28] from 22 to 28 (fun s28 wx => s28 = .bool (sfB mi e) ∧ wx = w)
  case first =>
    cases hb : (mi == 9223372036854775808) with
    | true =>
      go_wp2_with fail
      all_goals go_meet
      all_goals refine ⟨?_, rfl⟩
      all_goals unfold sfB
      all_goals rw [hb]
      all_goals rfl
    | false =>
      go_wp2_with fail
      all_goals go_meet
      all_goals refine ⟨?_, rfl⟩
      all_goals unfold sfB
      all_goals rw [hb]
      all_goals rfl
  case rest =>
    obtain ⟨rfl, rfl⟩ := hcut
    go_upto_if 28 with (fail)
    go_cut [5, 8, 9, 10] from 5 to 96 (fun s5 s8 s9 s10 wx => s5 = .int .i64 (sfP mi e) ∧ s8 = .int .u64 (sfMn mi e) ∧ s9 = .int .u64 (sfMx mi e) ∧ s10 = .int .i64 (sfO mi e) ∧ wx = wc)
    case first =>
      cases hb : sfB mi e with
      | true =>
        have he : -1085 < e := by
          unfold sfB at hb
          simp only [Bool.and_eq_true, decide_eq_true_eq] at hb
          exact hb.2
        have r1 : sfP mi e = -(((e + 11) * 631305 - 261663) / 2097152) := if_pos hb
        have r2 : sfMn mi e = IntKind.u64.wrap (mi - 512) := if_pos hb
        have r3 : sfMx mi e = IntKind.u64.wrap (mi + 1024) := if_pos (by omega)
        have rz : sfZ e = 11 := if_pos (by omega)
        have r4 : sfO mi e = bits BinOp.and IntKind.i64 (wrap64 (mi / 2048)) 1 := by unfold sfO; rw [rz]; rfl
        have HR := Lib.hid (And.intro r1 (And.intro r2 (And.intro r3 r4)))
        clear r1 r2 r3 r4 rz
        go_wp2_with (first | (go_at_call 159; (with_reducible refine (skew_any _ (by omega) (by omega) _).mono ?_); rintro e w' ⟨rfl, hw'⟩; obtain rfl := hw'.symm))
        go_meet
        exact ⟨by rw [HR.out.1], by rw [HR.out.2.1], by rw [HR.out.2.2.1], by rw [HR.out.2.2.2], rfl⟩
      | false =>
        by_cases he : -1085 ≤ e
        · have r1 : sfP mi e = -((e + 11) * 78913 / 262144) := by unfold sfP sfZ; rw [if_neg (by rw [hb]; decide), if_pos he]
          have r2 : sfMn mi e = IntKind.u64.wrap (mi - 1024) := by unfold sfMn; rw [if_neg (by rw [hb]; decide), if_pos he]
          have r3 : sfMx mi e = IntKind.u64.wrap (mi + 1024) := if_pos (by omega)
          have rz : sfZ e = 11 := if_pos (by omega)
          have r4 : sfO mi e = bits BinOp.and IntKind.i64 (wrap64 (mi / 2048)) 1 := by unfold sfO; rw [rz]; rfl
          have HR := Lib.hid (And.intro r1 (And.intro r2 (And.intro r3 r4)))
          clear r1 r2 r3 r4 rz
          go_wp2_with (first | (go_at_call 136; (with_reducible refine (l10_any _ (by omega) (by omega) _).mono ?_); rintro e w' ⟨rfl, hw'⟩; obtain rfl := hw'.symm))
          go_meet
          exact ⟨by rw [HR.out.1], by rw [HR.out.2.1], by rw [HR.out.2.2.1], by rw [HR.out.2.2.2], rfl⟩
        · have rz : sfZ e = 11 + (-1085 - e) := if_neg he
          have r1 : sfP mi e = -((e + (11 + (-1085 - e))) * 78913 / 262144) := by unfold sfP; rw [if_neg (by rw [hb]; decide), rz]
          have r2 : sfMn mi e = IntKind.u64.wrap (mi - IntKind.u64.wrap (2 ^ ((11 + (-1085 - e)).toNat - 1))) := by unfold sfMn; rw [if_neg (by rw [hb]; decide), if_neg he, rz]
          have r3 : sfMx mi e = IntKind.u64.wrap (mi + IntKind.u64.wrap (2 ^ ((11 + (-1085 - e)).toNat - 1))) := by unfold sfMx; rw [if_neg he, rz]
          have r4 : sfO mi e = bits BinOp.and IntKind.i64 (wrap64 (mi / 2 ^ (11 + (-1085 - e)).toNat)) 1 := by unfold sfO; rw [rz]
          have HR := Lib.hid (And.intro r1 (And.intro r2 (And.intro r3 r4)))
          have he2 : e < -1085 := by omega
          clear r1 r2 r3 r4 rz he
          go_wp2_with (first | (go_at_call 136; (with_reducible refine (l10_any _ (by omega) (by omega) _).mono ?_); rintro e w' ⟨rfl, hw'⟩; obtain rfl := hw'.symm))
          go_meet
          exact ⟨by rw [HR.out.1], by rw [HR.out.2.1], by rw [HR.out.2.2.1], by rw [HR.out.2.2.2], rfl⟩
    case rest =>
      obtain ⟨rfl, rfl, rfl, rfl, hwc⟩ := hcut
      obtain rfl := hwc.symm
      obtain ⟨⟨p0, p1, s0, s1⟩, ⟨n0, n1⟩, ⟨x0, x1⟩⟩ := HB.out
      obtain ⟨hT, hTn⟩ := HT.out
      obtain ⟨hm0, hm⟩ := HM.out
      have hmi := HMi.out
      have hI : sfP mi e = (sfI mi e : Int) - 348 := by unfold sfI; omega
      have hi0 : sfI mi e < 696 := by omega
      obtain ⟨t0, t1, _, _⟩ := hT _ hi0
      obtain ⟨w1, hw1⟩ : ∃ w1, w1 = wc.alloc (.cells #[.int .u64 0, .int .u64 0, .int .i64 0] 220) := ⟨_, rfl⟩
      have hb1 : Below wc.heap.size wc w1 := by rw [hw1]; exact (Below.refl _ _).alloc (Nat.le_refl _) _
      have hsc : SC w1 wc.heap.size 0 0 0 := by rw [hw1]; exact heap_alloc_new wc _
      have hT1 : PT hi lo w1 := fun i hi6 => by
        obtain ⟨a, b, c, d⟩ := hT i hi6
        exact ⟨a, b, (hb1.cell hTn).trans c, (hb1.cell hTn).trans d⟩
      have CP := prescale_any hi lo wc.heap.size e (sfI mi e) (sfP mi e * 108853 / 32768) hi0 (by omega) (by omega) (by omega) (by omega) 0 0 0 w1 hT1 (by omega) hsc
      rw [← hI] at CP
      have CL := fun W => l2_any (sfP mi e) (by omega) (by omega) W
      have CU : ∀ (W : World) (x : Int), SC W wc.heap.size (hi (sfI mi e)) (lo (sfI mi e)) (sfS mi e) → 0 ≤ x → x < 18446744073709551616 → Calls Tryz.prog 162 #[.int .u64 x, .pointer (some ⟨wc.heap.size, 0, none⟩)] W (UsPost W (sfU hi lo mi e x)) := fun W x hs h0 h1 => by
        have := uscale_any x.toNat _ _ _ (by omega) t0 t1 _ W hs
        rw [show ((x.toNat : Nat) : Int) = x by omega] at this
        exact this
      have ob := and1 (wrap64 (mi / 2 ^ (sfZ e).toNat))
      have CN1 := fun W => nudge_any (sfU hi lo mi e (sfMn mi e)) (sfO mi e) (us_bd _ _ _ _).1 (us_bd _ _ _ _).2 (by unfold sfO; omega) (by unfold sfO; omega) W
      have CN2 := fun W => nudge_any (sfU hi lo mi e (sfMx mi e)) (-(sfO mi e)) (us_bd _ _ _ _).1 (us_bd _ _ _ _).2 (by unfold sfO; omega) (by unfold sfO; omega) W
      have CC : ∀ W, Calls _ _ _ W (Same W (.int .u64 (sfDn hi lo mi e))) := fun W => ceil_any (nudgeI (sfU hi lo mi e (sfMn mi e)) (sfO mi e)) (nudge_bd _ _).1 (nudge_bd _ _).2 W
      have CF : ∀ W, Calls _ _ _ W (Same W (.int .u64 (sfDx hi lo mi e))) := fun W => floor_any (nudgeI (sfU hi lo mi e (sfMx mi e)) (-(sfO mi e))) (nudge_bd _ _).1 (nudge_bd _ _).2 W
      have CR := fun W => round_any (sfU hi lo mi e mi) (us_bd _ _ _ _).1 (us_bd _ _ _ _).2 W
      have dnb : 0 ≤ sfDn hi lo mi e ∧ sfDn hi lo mi e < 18446744073709551616 := ceil_bd _
      have dxb : 0 ≤ sfDx hi lo mi e ∧ sfDx hi lo mi e < 18446744073709551616 := by
        have := nudge_bd (sfU hi lo mi e (sfMx mi e)) (-(sfO mi e))
        unfold sfDx
        omega
      have hR := HR0.out
      have cu1 := fun W h => CU W (sfMn mi e) h (by omega) n1
      have cu2 := fun W h => CU W (sfMx mi e) h x0 x1
      have cu3 := fun W h => CU W mi h (by omega) (by omega)
      have o0 : 0 ≤ sfO mi e := ob.1
      have o1 : sfO mi e ≤ 1 := ob.2
      have ub1 := us_bd (sfMn mi e).toNat (hi (sfI mi e)) (lo (sfI mi e)) (sfS mi e)
      have u1b : 0 ≤ sfU hi lo mi e (sfMn mi e) ∧ sfU hi lo mi e (sfMn mi e) < 18446744073709551616 := us_bd _ _ _ _
      have u2b : 0 ≤ sfU hi lo mi e (sfMx mi e) ∧ sfU hi lo mi e (sfMx mi e) < 18446744073709551616 := us_bd _ _ _ _
      have rb := round_bd (sfU hi lo mi e mi)
      change Calls _ _ _ _ (fun x w' => x = .returned (.tuple #[]) ∧ SC w' wc.heap.size (hi (sfI mi e)) (lo (sfI mi e)) (sfS mi e) ∧ w1.grownBy w' (some wc.heap.size)) at CP
      clear ub1 CU ob hI hi0 hT hT1 hsc s0 s1 t0 t1 hm0 hm hmi hTn
      obtain ⟨P, hP⟩ : ∃ P, sfP mi e = P := ⟨_, rfl⟩
      obtain ⟨S, hS⟩ : ∃ S : World → Prop, S = fun W => SC W wc.heap.size (hi (sfI mi e)) (lo (sfI mi e)) (sfS mi e) := ⟨_, rfl⟩
      have hSd : ∀ W n, S W → S (W.drewN n) := fun W n h => by rw [hS] at h ⊢; exact h
      have cu1' : ∀ W, S W → Calls Tryz.prog 162 #[.int .u64 (sfMn mi e), .pointer (some ⟨wc.heap.size, 0, none⟩)] W (UsPost W (sfU hi lo mi e (sfMn mi e))) := fun W h => cu1 W (by rw [hS] at h; exact h)
      have cu2' : ∀ W, S W → Calls Tryz.prog 162 #[.int .u64 (sfMx mi e), .pointer (some ⟨wc.heap.size, 0, none⟩)] W (UsPost W (sfU hi lo mi e (sfMx mi e))) := fun W h => cu2 W (by rw [hS] at h; exact h)
      have cu3' : ∀ W, S W → Calls Tryz.prog 162 #[.int .u64 mi, .pointer (some ⟨wc.heap.size, 0, none⟩)] W (UsPost W (sfU hi lo mi e mi)) := fun W h => cu3 W (by rw [hS] at h; exact h)
      have CP' : Calls Tryz.prog 160 #[.pointer (some ⟨wc.heap.size, 0, none⟩), .int .i64 e, .int .i64 (sfP mi e), .int .i64 (sfP mi e * 108853 / 32768)] w1 fun x w' => x = .returned (.tuple #[]) ∧ S w' ∧ w1.grownBy w' (some wc.heap.size) := CP.mono fun x w' h => ⟨h.1, by rw [hS]; exact h.2.1, h.2.2⟩
      clear CP cu1 cu2 cu3 hS
      rw [hP] at CP' CL hR p0 p1 ⊢
      obtain ⟨O, hO⟩ : ∃ O, sfO mi e = O := ⟨_, rfl⟩
      rw [hO] at CN1 CN2 CC CF o0 o1 ⊢
      obtain ⟨U1, hU1⟩ : ∃ U1, sfU hi lo mi e (sfMn mi e) = U1 := ⟨_, rfl⟩
      rw [hU1] at CN1 CC cu1' u1b
      obtain ⟨U2, hU2⟩ : ∃ U2, sfU hi lo mi e (sfMx mi e) = U2 := ⟨_, rfl⟩
      rw [hU2] at CN2 CF cu2' u2b
      obtain ⟨U3, hU3⟩ : ∃ U3, sfU hi lo mi e mi = U3 := ⟨_, rfl⟩
      rw [hU3] at CR cu3' hR rb
      obtain ⟨MN, hMN⟩ : ∃ MN, sfMn mi e = MN := ⟨_, rfl⟩
      rw [hMN] at cu1' n0 n1 ⊢
      obtain ⟨MX, hMX⟩ : ∃ MX, sfMx mi e = MX := ⟨_, rfl⟩
      rw [hMX] at cu2' x0 x1 ⊢
      obtain ⟨dn, hdn⟩ : ∃ dn, sfDn hi lo mi e = dn := ⟨_, rfl⟩
      rw [hdn] at CC hR dnb
      obtain ⟨dx, hdx⟩ : ∃ dx, sfDx hi lo mi e = dx := ⟨_, rfl⟩
      rw [hdx] at CF hR dxb
      obtain ⟨V1, hV1⟩ : ∃ V1, nudgeI U1 O = V1 := ⟨_, rfl⟩
      rw [hV1] at CN1 CC
      obtain ⟨V2, hV2⟩ : ∃ V2, nudgeI U2 (-O) = V2 := ⟨_, rfl⟩
      rw [hV2] at CN2 CF
      have K1 := Lib.hid CP'
      have K2 := Lib.hid CL
      have K3 := Lib.hid cu1'
      have K4 := Lib.hid cu2'
      have K5 := Lib.hid cu3'
      have K6 := Lib.hid CN1
      have K7 := Lib.hid CN2
      have K8 := Lib.hid CC
      have K9 := Lib.hid CF
      have K10 := Lib.hid CR
      have K11 := Lib.hid hR
      have K12 := Lib.hid hSd
      have K13 := Lib.hid hb1
      have Y1 := Lib.hid hw1
      obtain ⟨dn0, dn1⟩ := dnb
      obtain ⟨dx0, dx1⟩ := dxb
      clear CP' CL cu1' cu2' cu3' CN1 CN2 CC CF CR hR hSd hb1 hw1 hP hO hU1 hU2 hU3 hMN hMX hdn hdx hV1 hV2 u1b u2b rb n0 n1 x0 x1
      go_upto_region 28 with (first | (rw [← Y1.out]))
      go_upto_region 29 with (first | (go_at_call 161; (with_reducible refine (K2.out _).mono ?_); rintro e w' ⟨rfl, hw'⟩; obtain rfl := hw'.symm) | (go_at_call 160; (with_reducible refine K1.out.mono ?_); rintro e w2 ⟨rfl, hS2, hG2⟩))
      have hB2 : Below wc.heap.size wc w2 := K13.out.grown hG2 K13.out.size (fun k e => by obtain rfl := Option.some.inj e; exact Nat.le_refl _)
      have HS2 := Lib.hid hS2
      have HB2 := Lib.hid hB2
      have HP := Lib.hid (And.intro p0 p1)
      clear hS2 hB2 hG2 hw'
      go_wp2_with (first
        | (go_at_call 162; (first | (with_reducible refine (K3.out _ (by (repeat (first | exact HS2.out | refine K12.out _ _ ?_)))).mono ?_) | (with_reducible refine (K4.out _ (by (repeat (first | exact HS2.out | refine K12.out _ _ ?_)))).mono ?_) | (with_reducible refine (K5.out _ (by (repeat (first | exact HS2.out | refine K12.out _ _ ?_)))).mono ?_)); rintro e w' ⟨rfl, nd, hw'⟩; obtain rfl := hw'.symm; clear hw')
        | (go_at_call 163; (first | (with_reducible refine (K6.out _).mono ?_) | (with_reducible refine (K7.out _).mono ?_)); rintro e w' ⟨rfl, hw'⟩; obtain rfl := hw'.symm; clear hw')
        | (go_at_call 164; (with_reducible refine (K8.out _).mono ?_); rintro e w' ⟨rfl, hw'⟩; obtain rfl := hw'.symm; clear hw')
        | (go_at_call 165; (with_reducible refine (K9.out _).mono ?_); rintro e w' ⟨rfl, hw'⟩; obtain rfl := hw'.symm; clear hw')
        | (go_at_call 166; (with_reducible refine (K10.out _).mono ?_); rintro e w' ⟨rfl, hw'⟩; obtain rfl := hw'.symm; clear hw'))
      all_goals go_ret2
      all_goals refine ⟨?_, below_drewN' HB2.out _⟩
      · rw [K11.out, if_pos (by assumption)]; rfl
      · rw [K11.out, if_neg (by omega), if_pos (by assumption)]; rfl
      · rw [K11.out, if_neg (by omega), if_neg (by omega)]; rfl
end Go.Proofs.YtejmbbkklhpnaaaGreatDoor.prnw
