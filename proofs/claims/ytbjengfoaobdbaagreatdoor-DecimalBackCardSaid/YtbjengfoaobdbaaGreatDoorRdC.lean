/- The walks of strconv's special and commonPrefixLenIgnoreCase at a decimal. Conditions: as each theorem states. -/
import Derived.Test.YtbjengfoaobdbaaGreatDoorRdB
namespace Go.Proofs.YtbjengfoaobdbaaGreatDoor.rdf
open Go.RowKit
open Go.Proofs.YtbjengfoaobdbaaGreatDoor.bsw
open Go.Proofs.YtbjengfoaobdbaaGreatDoor.prnw

theorem okc_cases {c : UInt8} (h : okc c = true) : c.toNat = 43 ∨ c.toNat = 45 ∨ c.toNat = 46 ∨ (48 ≤ c.toNat ∧ c.toNat ≤ 57) ∨ c.toNat = 69 ∨ c.toNat = 101 := by
  unfold okc at h
  simp only [Bool.or_eq_true, decide_eq_true_eq] at h
  rcases h with ((((h | h) | h) | h) | h) | h
  · exact .inl h
  · exact .inr (.inl h)
  · exact .inr (.inr (.inl h))
  · exact .inr (.inr (.inr (.inl ((isD_iff c).1 h))))
  · exact .inr (.inr (.inr (.inr (.inl h))))
  · exact .inr (.inr (.inr (.inr (.inr h))))
set_option maxRecDepth 100000 in
set_option maxHeartbeats 1000000 in
theorem common_no (t : ByteArray) (h : 0 < t.size) (hc : okc t[0] = true) (w : World) :
    Calls Tryz.prog 169 #[.string t, .string ⟨#[105, 110, 102, 105, 110, 105, 116, 121]⟩] w (Same w (.int .i64 0)) := by
  have HC := Lib.hid (okc_cases hc)
  obtain ⟨m, hm⟩ : ∃ m : Int, min (8 : Int) (t.size : Int) = m := ⟨_, rfl⟩
  have m0 : 0 < m := by omega
  clear hc
  go_enter Tryz.func169, Tryz.ntmps169
  go_wp2_with fail
  have h0 : decide (0 < m) = true := decide_eq_true m0
  have b0 : ((⟨#[105, 110, 102, 105, 110, 105, 116, 121]⟩ : ByteArray)[0]'(by decide)).toNat = 105 := rfl
  clear hm
  refine wp_loop_rounds 1 ?_
  rw [rounds_succ]
  rcases HC.out with z | z | z | ⟨z1, z2⟩ | z | z
  case inr.inr.inr.inl =>
    have u1 : decide (65 ≤ t[0].toNat) = false := decide_eq_false (by omega)
    have u2 : (t[0].toNat : Int) ≤ 57 := by omega
    have u3 : ((t[0].toNat : Int) != 105) = true := by rw [bne_iff_ne]; omega
    go_wp2_with fail
    go_ret
    exact ⟨rfl, rfl⟩
  all_goals
    go_wp2_with fail
    go_ret
    exact ⟨rfl, rfl⟩
theorem drop1 (s : ByteArray) (h : 2 ≤ s.size) : (s.extract 1 s.size).size = s.size - 1 ∧ ∀ (k : Nat) (hk : k < (s.extract 1 s.size).size) (hk2 : k + 1 < s.size), (s.extract 1 s.size)[k] = s[k + 1] := by
  constructor
  · rw [ByteArray.size_extract]
    omega
  · intro k hk hk2
    rw [ByteArray.getElem_extract]
    congr 1
    omega
set_option maxRecDepth 100000 in
set_option maxHeartbeats 1000000 in
theorem special_any (s : ByteArray) (neg : Bool) (x : MS) (rest : List UInt8) (ex : Int) (h : RfOk s neg x rest ex) (w : World) :
    Calls Tryz.prog 136 #[.string s] w (Same w (.tuple #[.float .f64 0, .int .i64 0, .bool false])) := by
  have h0 : 0 < s.size := h.pos
  have hc := okc_cases (h.ok 0 h0)
  have hsz : ((s.size : Int) == 0) = false := by rw [beq_eq_false_iff_ne]; omega
  have hf := h.first
  by_cases h45 : (s[0]).toNat = 45
  · have hng : neg = true := by rw [h.ng]; exact decide_eq_true h45
    have h2 := h.two hng
    obtain ⟨e1, e2⟩ := drop1 s h2
    have h3 : 0 < (s.extract 1 s.size).size := by omega
    have HC := Lib.hid (common_no (s.extract 1 s.size) h3 (by rw [e2 0 h3 (by omega)]; exact h.ok 1 (by omega)) w)
    have l1 : (1 : Int) ≤ (s.size : Int) := by omega
    have l2 : 1 ≤ s.size := by omega
    clear hc hf h e1 e2 h3 hng
    go_enter Tryz.func136, Tryz.ntmps136
    go_wp2_with (go_at_call 169; (with_reducible refine HC.out.mono ?_); rintro e w' ⟨rfl, hw'⟩; obtain rfl := hw'.symm)
    go_ret3
    exact ⟨rfl, rfl⟩
  · have k1 : ((s[0].toNat : Int) == 43) = false := by rw [beq_eq_false_iff_ne]; omega
    have k2 : ((s[0].toNat : Int) == 45) = false := by rw [beq_eq_false_iff_ne]; omega
    have k3 : ((s[0].toNat : Int) == 105) = false := by rw [beq_eq_false_iff_ne]; omega
    have k4 : ((s[0].toNat : Int) == 73) = false := by rw [beq_eq_false_iff_ne]; omega
    have k5 : ((s[0].toNat : Int) == 110) = false := by rw [beq_eq_false_iff_ne]; omega
    have k6 : ((s[0].toNat : Int) == 78) = false := by rw [beq_eq_false_iff_ne]; omega
    clear hc hf h45
    go_enter Tryz.func136, Tryz.ntmps136
    go_wp2
    go_ret3
    exact ⟨rfl, rfl⟩
end Go.Proofs.YtbjengfoaobdbaaGreatDoor.rdf
