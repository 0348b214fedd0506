/-
  Proved: burnishlaw15.LexBlanks returns true for every two texts, every place and every remark, and its arguments read afterwards as they read before. No conditions.
-/
import Derived.Test.YtekhdocejahboaaRows
import Derived.Test.YtekhdocejahboaaLexBlankV
import Derived.Test.YtekhdocejahboaaPost
import Derived.WalkKit
import Derived.ProofKit
import Derived.OpenShut
import Derived.ShutString
namespace Go.Proofs.Ytekhdocejahboaa.lexBlanks
open Go.ChangeShapes Go.WideShapes Go.ChangeAt Go.RowKit
open Go.ChangeMaps (open_string shut_string)
open Go.Proofs.Ytekhdocejahboaa.post
open Go.Proofs.Ytekhdocejahboaa.lexm Go.Proofs.Ytekhdocejahboaa.lexw

theorem own : ownKnob Try.prog.godebug = none := by kernel_rfl

theorem walk (s o r : ByteArray) (p : Int) (hs : s.size ≤ maxLen) (ho : o.size ≤ maxLen) (hr : r.size ≤ maxLen) (wp : (Lit.int .u16 p).wf = true) (w : World) :
    Calls Try.prog 4 #[.string s, .string o, .int .u16 p, .string r] w fun e w' => e = .returned (.bool true) ∧ Below w.heap.size w w' := by
  by_cases hb : 600 < s.size ∨ 600 < o.size ∨ 60 < r.size ∨ 0 ≤ Lib.indexByte r.data.toList 10 ∨ (lexRes s.data.toList).2.2 + (lexRes o.data.toList).2.2 ≠ 0
  · exact blanks_bad s o r p hs ho hr w hb
  · have hp : 0 ≤ p ∧ p ≤ 65535 := by simpa [Lit.wf, IntKind.min, IntKind.max, IntKind.signed, IntKind.bits] using wp
    have c1 : s.size ≤ 600 := by omega
    have c2 : o.size ≤ 600 := by omega
    have c3 : r.size ≤ 60 := by omega
    have c4 : ¬ 0 ≤ Lib.indexByte r.data.toList 10 := fun h => hb (.inr (.inr (.inr (.inl h))))
    have c5 : (lexRes s.data.toList).2.2 + (lexRes o.data.toList).2.2 = 0 := by
      rcases Nat.eq_zero_or_pos ((lexRes s.data.toList).2.2 + (lexRes o.data.toList).2.2) with h | h
      · exact h
      · exact absurd (.inr (.inr (.inr (.inr (by omega))))) hb
    have e1 := lexRes_er s.data.toList
    have e2 := lexRes_er o.data.toList
    obtain ⟨⟨ts, i, er⟩, hts⟩ : ∃ q, lexRes s.data.toList = q := ⟨_, rfl⟩
    obtain ⟨⟨us, j, er2⟩, hus⟩ : ∃ q, lexRes o.data.toList = q := ⟨_, rfl⟩
    rw [hts, hus] at c5
    rw [hts] at e1
    rw [hus] at e2
    simp only at c5 e1 e2
    obtain rfl : er = 0 := by omega
    obtain rfl : er2 = 0 := by omega
    obtain rfl := e1.2 rfl
    obtain rfl := e2.2 rfl
    exact blanks_good s o r p hp.1 hp.2 w c1 c2 c3 c4 ts us hts hus

/-! ### the row -/
set_option maxRecDepth 100000 in
theorem lifted (os : Os) (started : os.Started) (H : Type) (enc : TypeId × Value → H) :
    ReturnsInHanded {} Try.checked os 4 .any (Rows.lexBlanksSpec.pre6 enc Try.prog Try.f4 Rows.lexBlanksRow.domain false) (Rows.lexBlanksSpec.post enc Try.prog Try.f4 false true false false) := by
  refine returnsInHanded_of_change (C := Try.checked) own started (by kernel_rfl) Try.func4
    (ChangeSpec.witness6 (enc := enc) (C := Try.checked) false ⟨#[], #[.string ByteArray.empty, .string ByteArray.empty, .int .u16 0, .string ByteArray.empty], []⟩ 8 (by kernel_rfl) (by kernel_rfl) (by kernel_rfl) (by kernel_rfl)) ?_
  intro W base args ds gs before hval0 hW _ _
  have hval : ∀ (j : Nat) t v, Try.f4.params[j]? = some t → args[j]? = some v → Value.okWide Try.prog W .any base t v := hval0
  have hW' := hW
  obtain ⟨p, q, hA0, hV, rfl, _, _⟩ := hW
  have hA : DataW.TrodAll enc Try.prog W 0 (fun _ => true) true Try.f4.params.toList args.toList ds p := hA0
  rw [Try.params4] at hA hval
  obtain ⟨v0, vs0, d0, ds0, p0, q0, hargs, rfl, rfl, h0, r0⟩ := trodAll_cons hA
  obtain ⟨v1, vs1, d1, ds1, p1, q1, rfl, rfl, rfl, h1, r1⟩ := trodAll_cons r0
  obtain ⟨v2, vs2, d2, ds2, p2, q2, rfl, rfl, rfl, h2, r2⟩ := trodAll_cons r1
  obtain ⟨v3, vs3, d3, ds3, p3, q3, rfl, rfl, rfl, h3, r3⟩ := trodAll_cons r2
  obtain ⟨rfl, rfl, rfl⟩ := trodAll_nil r3
  obtain rfl : args = #[v0, v1, v2, v3] := by cases args; simp_all
  obtain ⟨rfl, rfl⟩ := trodVars_none hV
  obtain ⟨a0, rfl, rfl, rfl, w0⟩ := open_string Try.underlying9 (hval 0 9 v0 rfl rfl) h0
  obtain ⟨a1, rfl, rfl, rfl, w1⟩ := open_string Try.underlying9 (hval 1 9 v1 rfl rfl) h1
  obtain ⟨a2, rfl, rfl, rfl, w2⟩ := open_int Try.underlying29 (hval 2 29 v2 rfl rfl) h2
  obtain ⟨a3, rfl, rfl, rfl, w3⟩ := open_string Try.underlying9 (hval 3 9 v3 rfl rfl) h3
  clear hA0 hval0
  simp only [List.append_nil] at hW'
  refine (walk a0 a1 a3 a2 w0 w1 w3 w2 W).mono fun e W' ⟨he, hg⟩ => ?_
  subst he
  exact ⟨_, rfl, post_of_below (pa := []) (pv := []) hW' (fun _ _ _ => (trodAll_cons_mk (shut_bool Try.underlying4 _) trodAll_mk0))
    (fun sp _ => (trodAll_cons_mk (shut_string Try.underlying9 w0) (trodAll_cons_mk (shut_string Try.underlying9 w1) (trodAll_cons_mk (shut_int Try.underlying29 w2) (trodAll_cons_mk (shut_string Try.underlying9 w3) trodAll_mk0))))) (fun _ _ => rfl) rfl
    hg (ok_one (by kernel_rfl) rfl (okWide_bool_mk Try.underlying4 _))⟩

theorem over : Rows.lexBlanksRow.holds Try.pinned (OpenSpec.ofChange Rows.lexBlanksSpec) :=
  OpenClaim.holds_of_wide 4 Try.f4 rfl rfl rfl rfl rfl rfl rfl ⟨rfl, rfl, rfl, rfl, rfl⟩ rfl rfl rfl rfl rfl (by kernel_rfl) Try.func4 (by kernel_rfl)
    (of_decide_eq_true (by kernel_rfl)) (by unfold Func.isWrapper; first | (rw [if_pos (by decide +kernel)]; kernel_rfl) | (rw [if_neg (by decide +kernel)]; exact ⟨rfl, rfl⟩))
    (fun os started H enc _ => lifted os started H enc)

theorem proved : Rows.LexBlanksSaid :=
  over
#print axioms proved
end Go.Proofs.Ytekhdocejahboaa.lexBlanks
