/-
  Proved: burnishlaw15.LexTells returns true for every text, and its argument reads afterwards as it read before. No conditions.
-/
import Derived.Test.YtekhdocejahboaaRows
import Derived.Test.YtekhdocejahboaaLexAwake
import Derived.Test.YtekhdocejahboaaLexRefB
import Derived.Test.YtekhdocejahboaaPost
import Derived.WalkKit
import Derived.ProofKit
import Derived.OpenShut
import Derived.ShutString
namespace Go.Proofs.Ytekhdocejahboaa.lexTells
open Go.ChangeShapes Go.WideShapes Go.ChangeAt Go.RowKit
open Go.ChangeMaps (open_string shut_string)
open Go.Proofs.Ytekhdocejahboaa.post
open Go.Proofs.Ytekhdocejahboaa.lexm Go.Proofs.Ytekhdocejahboaa.lexw

theorem own : ownKnob Try.prog.godebug = none := by kernel_rfl

theorem lexRes_len (l : List UInt8) : (lexRes l).1.length ≤ l.length + 1 := by
  unfold lexRes
  split
  · simp
  · split
    · simp
    · exact Nat.le_trans (toksOf_le _) (lexT_len _ _ _)

set_option maxRecDepth 100000 in
set_option maxHeartbeats 2000000 in
theorem walk (s : ByteArray) (hs : s.size ≤ maxLen) (w : World) :
    Calls Try.prog 3 #[.string s] w fun e w' => e = .returned (.bool true) ∧ Below w.heap.size w w' := by
  have hsL := hs
  unfold maxLen at hs
  by_cases hl : 2000 < s.size
  · go_enter Try.func3, Try.ntmps3
    go_wp2_with fail
    refine (awake_any _).mono ?_
    rintro e w1 ⟨rfl, b1⟩
    go_wp2_with fail
    go_ret
    exact ⟨rfl, b1⟩
  · have hq := lexRes_len s.data.toList
    have hsz : s.data.toList.length = s.size := by simp
    rw [hsz] at hq
    obtain ⟨⟨ts, i, er⟩, hr⟩ : ∃ r, lexRes s.data.toList = r := ⟨_, rfl⟩
    rw [hr] at hq
    simp only at hq
    have HR := Lib.hid hr
    clear hr hsz
    have hii : ((i : Int) == i) = true := by simp
    have hee : ((er : Int) == er) = true := by simp
    go_enter Try.func3, Try.ntmps3
    go_wp2_with fail
    refine (lex_any s hsL _).mono ?_
    rw [HR.out]
    rintro e w1 ⟨v1, rfl, k1, b1⟩
    go_wp2_with fail
    refine (reflex_any s hsL _).mono ?_
    rw [HR.out]
    rintro e w2 ⟨v2, rfl, k2, b2⟩
    have t1 := (Toks.of_own k1).below b2 (Nat.le_refl _)
    have t2 := Toks.of_own k2
    go_wp2_with fail
    refine (same_eq _ w2.heap.size _ _ ts (t1.mono b2.size) t2 (by omega)).mono ?_
    rintro e w3 ⟨rfl, n, rfl⟩
    go_wp2_with fail
    refine (awake_any _).mono ?_
    rintro e w4 ⟨rfl, b4⟩
    go_wp2_with fail
    go_ret
    have hz : (w2.drewN n).heap.size = w2.heap.size := rfl
    rw [hz] at b4
    exact ⟨rfl, (below_drewN' (b1.trans (b2.mono b1.size)) n).trans (b4.mono (Nat.le_trans b1.size b2.size))⟩

/-! ### the row -/
set_option maxRecDepth 100000 in
theorem lifted (os : Os) (started : os.Started) (H : Type) (enc : TypeId × Value → H) :
    ReturnsInHanded {} Try.checked os 3 .any (Rows.lexTellsSpec.pre6 enc Try.prog Try.f3 Rows.lexTellsRow.domain false) (Rows.lexTellsSpec.post enc Try.prog Try.f3 false true false false) := by
  refine returnsInHanded_of_change (C := Try.checked) own started (by kernel_rfl) Try.func3
    (ChangeSpec.witness6 (enc := enc) (C := Try.checked) false ⟨#[], #[.string ByteArray.empty], []⟩ 8 (by kernel_rfl) (by kernel_rfl) (by kernel_rfl) (by kernel_rfl)) ?_
  intro W base args ds gs before hval0 hW _ _
  have hval : ∀ (j : Nat) t v, Try.f3.params[j]? = some t → args[j]? = some v → Value.okWide Try.prog W .any base t v := hval0
  have hW' := hW
  obtain ⟨p, q, hA0, hV, rfl, _, _⟩ := hW
  have hA : DataW.TrodAll enc Try.prog W 0 (fun _ => true) true Try.f3.params.toList args.toList ds p := hA0
  rw [Try.params3] at hA hval
  obtain ⟨v0, vs0, d0, ds0, p0, q0, hargs, rfl, rfl, h0, r0⟩ := trodAll_cons hA
  obtain ⟨rfl, rfl, rfl⟩ := trodAll_nil r0
  obtain rfl : args = #[v0] := by cases args; simp_all
  obtain ⟨rfl, rfl⟩ := trodVars_none hV
  obtain ⟨a0, rfl, rfl, rfl, w0⟩ := open_string Try.underlying9 (hval 0 9 v0 rfl rfl) h0
  clear hA0 hval0
  simp only [List.append_nil] at hW'
  refine (walk a0 w0 W).mono fun e W' ⟨he, hg⟩ => ?_
  subst he
  exact ⟨_, rfl, post_of_below (pa := []) (pv := []) hW' (fun _ _ _ => (trodAll_cons_mk (shut_bool Try.underlying4 _) trodAll_mk0)) (fun sp _ => (trodAll_cons_mk (shut_string Try.underlying9 w0) trodAll_mk0)) (fun _ _ => rfl) rfl
    hg (ok_one (by kernel_rfl) rfl (okWide_bool_mk Try.underlying4 _))⟩

theorem over : Rows.lexTellsRow.holds Try.pinned (OpenSpec.ofChange Rows.lexTellsSpec) :=
  OpenClaim.holds_of_wide 3 Try.f3 rfl rfl rfl rfl rfl rfl rfl ⟨rfl, rfl, rfl, rfl, rfl⟩ rfl rfl rfl rfl rfl (by kernel_rfl) Try.func3 (by kernel_rfl)
    (of_decide_eq_true (by kernel_rfl)) (by unfold Func.isWrapper; first | (rw [if_pos (by decide +kernel)]; kernel_rfl) | (rw [if_neg (by decide +kernel)]; exact ⟨rfl, rfl⟩))
    (fun os started H enc _ => lifted os started H enc)

theorem proved : Rows.LexTellsSaid :=
  over
#print axioms proved
end Go.Proofs.Ytekhdocejahboaa.lexTells
