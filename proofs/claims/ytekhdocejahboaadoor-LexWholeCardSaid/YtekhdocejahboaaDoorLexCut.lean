/- The walk of strings.Cut at a cut of one byte, 35. Condition: the text is within the reach. -/
import Derived.Test.YtekhdocejahboaaDoorLexAwake
import Derived.Test.YtekhdocejahboaaDoorLexWholeM
import Derived.Test.YtekhdocejahboaaDoorShelfD
namespace Go.Proofs.YtekhdocejahboaaDoor.lexw
open Go.RowKit
open Go.Proofs.YtekhdocejahboaaDoor.lexm

/-- what Cut hands back -/
def CutPost (l : List UInt8) (w : World) (e : Ending) (w' : World) : Prop :=
  ∃ x y n, e = .returned (.tuple #[.string ⟨(cutL l).toArray⟩, .string x, .bool y]) ∧ w' = w.drewN n

theorem ret_cut {a b x : ByteArray} {y : Bool} (h : a = b) : Ending.returned (.tuple #[.string a, .string x, .bool y]) = .returned (.tuple #[.string b, .string x, .bool y]) := by rw [h]
theorem ba_ext (s : ByteArray) (l : List UInt8) (h : s.data.toList = l) : s = ⟨l.toArray⟩ := by subst h; rfl

set_option maxHeartbeats 1000000 in
theorem cutl_any (s : ByteArray) (hs : s.size ≤ maxLen) (w : World) : Calls Tryd.prog 11 #[.string s, .string ⟨#[35]⟩] w (CutPost s.data.toList w) := by
  unfold maxLen at hs
  have hc := index_cut s.data.toList
  have hge := index_ge s.data.toList 35
  obtain ⟨j, hj⟩ : ∃ j, Lib.indexByte s.data.toList 35 = j := ⟨_, rfl⟩
  rw [hj] at hc hge
  have HJ := Lib.hid hj
  clear hj
  have hsz : s.data.toList.length = s.size := by simp
  rw [hsz] at hc
  by_cases h0 : 0 ≤ j
  · obtain ⟨q, rfl⟩ := Int.eq_ofNat_of_zero_le h0
    obtain ⟨c1, c2⟩ := hc.1 h0
    rw [Int.toNat_natCast] at c1 c2
    have hx : s.extract 0 q = ⟨(cutL s.data.toList).toArray⟩ := ba_ext _ _ (by rw [Lib.extract_data, ← c1]; simp)
    have HX := Lib.hid hx
    clear hc hx c1 hge hsz
    go_enter Tryd.func11, Tryd.ntmps11
    go_wp2_with (go_at_call 22; refine (Tryd.stringslite_Index_one s 35 _).mono ?_; rw [HJ.out]; rintro e w' ⟨rfl, rfl⟩)
    go_quiet (fail)
    go_wp2
    go_ret3
    exact ⟨_, _, nq, ret_cut HX.out, rfl⟩
  · have hx : s = ⟨(cutL s.data.toList).toArray⟩ := ba_ext _ _ (hc.2 h0).symm
    have HX := Lib.hid hx
    clear hc hx hsz
    go_enter Tryd.func11, Tryd.ntmps11
    go_wp2_with (go_at_call 22; refine (Tryd.stringslite_Index_one s 35 _).mono ?_; rw [HJ.out]; rintro e w' ⟨rfl, rfl⟩)
    go_ret3
    exact ⟨_, _, 0, ret_cut HX.out, rfl⟩

theorem cut_any (s : ByteArray) (hs : s.size ≤ maxLen) (w : World) : Calls Tryd.prog 6 #[.string s, .string ⟨#[35]⟩] w (CutPost s.data.toList w) := by
  go_enter Tryd.func6, Tryd.ntmps6
  go_wp2_with fail
  refine (cutl_any s hs _).mono ?_
  rintro e w1 ⟨x, y, n, rfl, rfl⟩
  go_wp2_with fail
  go_ret3
  exact ⟨x, y, n, rfl, rfl⟩

end Go.Proofs.YtekhdocejahboaaDoor.lexw
