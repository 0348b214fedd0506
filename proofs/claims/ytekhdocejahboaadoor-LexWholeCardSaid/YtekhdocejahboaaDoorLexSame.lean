/- The walk of the statements' Same: are two rows of tokens the same. Condition: both rows lie in memory, within the reach. -/
import Derived.Test.YtekhdocejahboaaDoorLexLex
import Derived.Deep.QuietTactic
import Derived.BigQuiet
import Derived.Laws.StructEq
namespace Go.Proofs.YtekhdocejahboaaDoor.lexw
open Go.RowKit
open Go.Proofs.YtekhdocejahboaaDoor.lexm

/-- the slice value v holds the tokens ts, in blocks below B -/
def Toks (W : World) (B : Nat) (v : Value) (ts : List Tok) : Prop :=
  ∃ A c, v = .slice A ts.length c ∧ (ts ≠ [] → ∃ g off, A = some ⟨g, off, none⟩ ∧ g < B ∧ ∀ j u, (cellsOf ts)[j]? = some u → W.cell? ⟨g, off + j, none⟩ = some u)

theorem Toks.of_own {W : World} {base : Nat} {v : Value} {ts : List Tok} (h : W.ownsRow base 28 3 v ts.length (cellsOf ts)) : Toks W W.heap.size v ts := by
  rcases h.2 with ⟨rfl, hn⟩ | ⟨g, cap, cur, rfl, _, hgg, _⟩
  · exact ⟨_, _, by rw [hn], fun h0 => absurd (List.eq_nil_of_length_eq_zero hn) h0⟩
  · refine ⟨_, _, rfl, fun _ => ⟨g, 0, rfl, (Array.getElem?_eq_some_iff.1 hgg).1, fun j u hu => ?_⟩⟩
    have hc := h.cells (g := g) rfl j u hu
    have hadd : (⟨g, 0, none⟩ : Addr).add j = ⟨g, j, none⟩ := by unfold Addr.add; split <;> simp_all
    rw [hadd] at hc
    rw [Nat.zero_add]
    exact hc
theorem Toks.below {W W' : World} {B B' : Nat} {v : Value} {ts : List Tok} (h : Toks W B v ts) (hb : Below B' W W') (hB : B ≤ B') : Toks W' B' v ts := by
  obtain ⟨A, c, hv, hc⟩ := h
  refine ⟨A, c, hv, fun h0 => ?_⟩
  obtain ⟨g, off, hA, hg, hcell⟩ := hc h0
  exact ⟨g, off, hA, by omega, fun j u hu => (hb.cell (p := ⟨g, off + j, none⟩) (by simp; omega)).trans (hcell j u hu)⟩

theorem Toks.mono {W : World} {B B' : Nat} {v : Value} {ts : List Tok} (h : Toks W B v ts) (hB : B ≤ B') : Toks W B' v ts := by
  obtain ⟨A, c, hv, hc⟩ := h
  refine ⟨A, c, hv, fun h0 => ?_⟩
  obtain ⟨g, off, hA, hg, hcell⟩ := hc h0
  exact ⟨g, off, hA, by omega, hcell⟩

theorem cellsOf_get (ts : List Tok) (i j : Nat) (hi : i < ts.length) (hj : j < 3) : (cellsOf ts)[i * 3 + j]? = (ts[i]).cells[j]? := by
  induction ts generalizing i with
  | nil => simp at hi
  | cons t r ih =>
    have hc : (cellsOf (t :: r)) = t.cells ++ cellsOf r := by simp [cellsOf]
    have hl : t.cells.length = 3 := rfl
    rw [hc]
    cases i with
    | zero => rw [List.getElem?_append_left (by omega), Nat.zero_mul, Nat.zero_add]; rfl
    | succ i =>
      rw [List.getElem?_append_right (by omega), hl, show (i + 1) * 3 + j - 3 = i * 3 + j from by omega, ih i (by simpa using hi)]
      rfl

theorem Toks.at_ {W : World} {B : Nat} {v : Value} {ts : List Tok} (h : Toks W B v ts) {i : Nat} (hi : i < ts.length) : ∃ g off c, v = .slice (some ⟨g, off, none⟩) ts.length c ∧
    W.cell? ⟨g, off + i * 3, none⟩ = some (.int .u8 ts[i].kind) ∧ W.cell? ⟨g, off + i * 3 + 1, none⟩ = some (.int .i64 ts[i].pos) ∧ W.cell? ⟨g, off + i * 3 + 2, none⟩ = some (.string ⟨ts[i].text.toArray⟩) := by
  obtain ⟨A, c, rfl, hc⟩ := h
  obtain ⟨g, off, rfl, _, hcell⟩ := hc (by intro e; subst e; simp at hi)
  refine ⟨g, off, c, rfl, ?_, ?_, ?_⟩
  · have := hcell (i * 3 + 0) (.int .u8 ts[i].kind) (by rw [cellsOf_get ts i 0 hi (by omega)]; rfl)
    simpa using this
  · have := hcell (i * 3 + 1) (.int .i64 ts[i].pos) (by rw [cellsOf_get ts i 1 hi (by omega)]; rfl)
    simpa [Nat.add_assoc] using this
  · have := hcell (i * 3 + 2) (.string ⟨ts[i].text.toArray⟩) (by rw [cellsOf_get ts i 2 hi (by omega)]; rfl)
    simpa [Nat.add_assoc] using this

theorem guardTok : Tryd.prog.eqGuardType Tryd.prog.depth 28 = false := by kernel_rfl
theorem eqTok (a b : Int) (c : ByteArray) (d e : Int) (f : ByteArray) (w : World) : (Op.equalIn 10000 28 (.agg #[.int .u8 a, .int .i64 b, .string c]) (.agg #[.int .u8 d, .int .i64 e, .string f])).run Tryd.prog w = .ok (a == d && b == e && c.toList == f.toList) w := by
  have u3 := Tryd.underlying3
  have a3 := Tryd.isAgg3
  have z3 := Tryd.sizeOf3
  have u5 := Tryd.underlying5
  have a5 := Tryd.isAgg5
  have z5 := Tryd.sizeOf5
  have u9 := Tryd.underlying9
  have a9 := Tryd.isAgg9
  have z9 := Tryd.sizeOf9
  have hS : Tryd.prog.underlying 28 = some (.struct (Tryd.prog.fieldsOf 28)) := by kernel_rfl
  have hp : Tryd.prog.stoodInHeld 28 = false := by kernel_rfl
  rw [show (10000 : Nat) = 9999 + 1 from rfl, run_equalIn_agg w 9999 28 _ _ hS hp]
  simp only [Program.fieldsOf, Tryd.underlying28]
  go_simp
  by_cases h1 : a = d <;> by_cases h2 : b = e <;> by_cases h3 : c.toList = f.toList <;> simp [h1, h2, h3]
attribute [local go_sem] guardTok
theorem toList_mk (l : List UInt8) : (⟨l.toArray⟩ : ByteArray).toList = l := by rw [ByteArray.toList_eq]
theorem eqTok_at (t u : Tok) (w : World) : (Op.equalIn 10000 28 (.agg #[.int .u8 t.kind, .int .i64 t.pos, .string ⟨t.text.toArray⟩]) (.agg #[.int .u8 u.kind, .int .i64 u.pos, .string ⟨u.text.toArray⟩])).run Tryd.prog w = .ok (decide (t = u)) w := by
  rw [eqTok]
  congr 1
  rw [toList_mk, toList_mk, Bool.eq_iff_iff]
  obtain ⟨a, b, c⟩ := t
  obtain ⟨d, e, f⟩ := u
  simp only [Bool.and_eq_true, beq_iff_eq, decide_eq_true_eq, Tok.mk.injEq]
  exact ⟨fun ⟨⟨x, y⟩, z⟩ => ⟨by omega, by omega, z⟩, fun ⟨x, y, z⟩ => ⟨⟨by omega, by omega⟩, z⟩⟩

set_option maxRecDepth 100000 in
set_option maxHeartbeats 2000000 in
theorem same_any (w : World) (B : Nat) (v u : Value) (ts us : List Tok) (hv : Toks w B v ts) (hu : Toks w B u us) (h1 : ts.length ≤ 4611686018427387904) (h2 : us.length ≤ 4611686018427387904) :
    Calls Tryd.prog 9 #[v, u] w fun e w' => e = .returned (.bool (decide (ts = us))) ∧ ∃ n, w' = w.drewN n := by
  by_cases hl : ts.length = us.length
  · obtain ⟨A, c, hve, _⟩ := id hv
    obtain ⟨A', c', hue, _⟩ := id hu
    subst hve hue
    have hb : ((ts.length : Int) != us.length) = false := by rw [bne_eq_false_iff_eq]; omega
    have HL := Lib.hid hl
    clear hl
    have HV := Lib.hid hv
    have HU := Lib.hid hu
    clear hv hu
    go_enter Tryd.func9, Tryd.ntmps9
    go_wp2
    go_loopw [13] (fun i wr => ∃ (k n : Nat), k ≤ ts.length ∧ i = .int .i64 k ∧ ts.take k = us.take k ∧ wr = w.drewN n) (fun i _ => ts.length - (intOf i).toNat)
    case atStart => exact ⟨0, 0, Nat.zero_le _, rfl, rfl, rfl⟩
    case round =>
      obtain ⟨k, n, hk, rfl, heq, rfl⟩ := hrel
      have HE := Lib.hid heq
      clear heq
      by_cases hlt : k < ts.length
      · have hlt' : k < us.length := by rw [← HL.out]; exact hlt
        obtain ⟨g, off, c0, hvv, hv0, hv1, hv2⟩ := HV.out.at_ hlt
        injection hvv with hA _ hc0
        subst hA hc0
        obtain ⟨g', off', c0', huu, hu0, hu1, hu2⟩ := HU.out.at_ hlt'
        injection huu with hA' _ hc0'
        subst hA' hc0'
        have i0 : (0 : Int) ≤ k := by omega
        have i1 : (k : Int) < ts.length := by omega
        have i2 : (k : Int) < us.length := by omega
        have hq := eqTok_at ts[k] us[k]
        cases hd : decide (ts[k] = us[k]) with
        | true =>
          have HD := Lib.hid hd
          rw [hd] at hq
          clear hd
          go_wp2
          go_quiet (fail)
          go_wp2
          go_roundw
          case rel => exact ⟨k + 1, n + nq, by omega, by go_num, by rw [List.take_succ_eq_append_getElem hlt, List.take_succ_eq_append_getElem hlt', HE.out, of_decide_eq_true HD.out], rfl⟩
          case measure => simp [intOf]; omega
        | false =>
          have hne : decide (ts = us) = false := by
            rw [decide_eq_false_iff_not] at hd ⊢
            intro e
            exact hd (by subst e; rfl)
          have HD := Lib.hid hne
          rw [hd] at hq
          clear hd hne
          go_wp2
          go_quiet (fail)
          go_wp2
          go_ret
          exact ⟨ret_bool HD.out.symm, n + nq, by rw [World.drewN_drewN]⟩
      · have hall : decide (ts = us) = true := by
          rw [decide_eq_true_eq]
          have h := HE.out
          rw [List.take_of_length_le (by omega), List.take_of_length_le (by rw [← HL.out]; omega)] at h
          exact h
        have HD := Lib.hid hall
        clear hall
        go_wp2
        go_ret
        exact ⟨ret_bool HD.out.symm, n, rfl⟩
  · obtain ⟨A, c, rfl, _⟩ := hv
    obtain ⟨A', c', rfl, _⟩ := hu
    have hb : ((ts.length : Int) != us.length) = true := by rw [bne_iff_ne]; omega
    have hd : decide (ts = us) = false := by rw [decide_eq_false_iff_not]; intro e; exact hl (by rw [e])
    have HD := Lib.hid hd
    clear hd hl
    go_enter Tryd.func9, Tryd.ntmps9
    go_wp2
    go_ret
    exact ⟨ret_bool HD.out.symm, 0, rfl⟩

end Go.Proofs.YtekhdocejahboaaDoor.lexw
