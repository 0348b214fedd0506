/- The first error of statements in plain words: it stays, whatever stands behind. No conditions but those stated. -/
import Derived.Test.YtgblgolkajdfbaaGreatDoorChkC
namespace Go.Proofs.YtgblgolkajdfbaaGreatDoor.chkw
open Go.Proofs.YtgblgolkajdfbaaGreatDoor.parw
open Go.Proofs.YtgblgolkajdfbaaGreatDoor.nodew

theorem chkA_app (b : List PStmt) : ∀ (a : List PStmt) (ents : List (ByteArray × Nat)) (out : List Nd), (chkA ents out a).2.2 ≠ 0 → chkA ents out (a ++ b) = chkA ents out a
  | [], ents, out, h => absurd rfl h
  | s :: r, ents, out, h => by
    show chkA ents out (s :: (r ++ b)) = _
    unfold chkA at h ⊢
    by_cases h1 : 4096 ≤ out.length
    · rw [if_pos h1, if_pos h1]
    · rw [if_neg h1] at h ⊢
      rw [if_neg h1]
      by_cases h2 : (lookE ents s.name).isSome = true ∨ 0 < kindF s.name
      · rw [if_pos h2, if_pos h2]
      · rw [if_neg h2] at h ⊢
        rw [if_neg h2]
        by_cases h3 : (nodeS (lookE ents) s).2.2 = 0
        · rw [if_pos h3] at h ⊢
          rw [if_pos h3]
          exact chkA_app b r _ _ h
        · rw [if_neg h3, if_neg h3]
theorem checkS_app (a b : List PStmt) (ha : 0 < a.length) (h : (checkS a).2.2 ≠ 0) : checkS (a ++ b) = checkS a := by
  unfold checkS at h ⊢
  rw [if_neg (show ¬ a.length = 0 by omega)] at h
  rw [if_neg (show ¬ (a ++ b).length = 0 by rw [List.length_append]; omega), if_neg (show ¬ a.length = 0 by omega)]
  exact chkA_app b a [] [] h
theorem checkS_take (a : List PStmt) (n : Nat) (hn : 0 < n) (hna : n ≤ a.length) (h : (checkS (a.take n)).2.2 ≠ 0) : checkS a = checkS (a.take n) := by
  have := checkS_app (a.take n) (a.drop n) (by rw [List.length_take]; omega) h
  rwa [List.take_append_drop] at this

end Go.Proofs.YtgblgolkajdfbaaGreatDoor.chkw
