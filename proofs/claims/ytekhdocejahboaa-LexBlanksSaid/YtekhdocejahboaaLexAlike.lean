/- The walk of the statements' alike: have two rows of tokens the same kinds, and the same bytes (of ends any). Condition: both rows lie in memory, within the reach. -/
import Derived.Test.YtekhdocejahboaaLexSame
import Derived.Test.YtekhdocejahboaaLexChunks
namespace Go.Proofs.Ytekhdocejahboaa.lexw
open Go.RowKit
open Go.Proofs.Ytekhdocejahboaa.lexm

set_option maxRecDepth 100000 in
set_option maxHeartbeats 4000000 in
theorem alike_any (w : World) (B : Nat) (v u : Value) (ts us : List Tok) (hv : Toks w B v ts) (hu : Toks w B u us) (h1 : ts.length ≤ 4611686018427387904) :
    Calls Try.prog 11 #[v, u] w fun e w' => e = .returned (.bool (decide (ts.map key = us.map key))) ∧ ∃ n, w' = w.drewN n := by
  by_cases hl : ts.length = us.length
  · obtain ⟨A, c, hve, _⟩ := id hv
    obtain ⟨A', c', hue, _⟩ := id hu
    subst hve hue
    have hb : ((ts.length : Int) != us.length) = false := by rw [bne_eq_false_iff_eq]; omega
    have HL := Lib.hid hl
    clear hl
    have HV := Lib.hid hv
    have HU := Lib.hid hu
    clear hv hu
    go_enter Try.func11, Try.ntmps11
    go_wp2
    go_loopw [13] (fun i wr => ∃ (k n : Nat), k ≤ ts.length ∧ i = .int .i64 k ∧ (ts.map key).take k = (us.map key).take k ∧ wr = w.drewN n) (fun i _ => ts.length - (intOf i).toNat)
    case atStart => exact ⟨0, 0, Nat.zero_le _, rfl, rfl, rfl⟩
    case round =>
      obtain ⟨k, n, hk, rfl, heq, rfl⟩ := hrel
      have HE := Lib.hid heq
      clear heq
      by_cases hlt : k < ts.length
      · have hlt' : k < us.length := by rw [← HL.out]; exact hlt
        obtain ⟨g, off, c0, hvv, hv0, hv1, hv2⟩ := HV.out.at_ hlt
        injection hvv with hA _ hc0
        subst hA hc0
        obtain ⟨g', off', c0', huu, hu0, hu1, hu2⟩ := HU.out.at_ hlt'
        injection huu with hA' _ hc0'
        subst hA' hc0'
        have i0 : (0 : Int) ≤ k := by omega
        have i1 : (k : Int) < ts.length := by omega
        have i2 : (k : Int) < us.length := by omega
        have hbq : (ts[k].text == us[k].text) = decide (ts[k].text = us[k].text) := by rw [Bool.eq_iff_iff]; simp
        have hno : key ts[k] ≠ key us[k] → decide (ts.map key = us.map key) = false := by
          intro hne
          rw [decide_eq_false_iff_not]
          intro e
          apply hne
          have h1 : (ts.map key)[k]'(by simpa using hlt) = (us.map key)[k]'(by simpa using hlt') := by simp only [e]
          simpa using h1
        have hyes : key ts[k] = key us[k] → (ts.map key).take (k + 1) = (us.map key).take (k + 1) := by
          intro he
          rw [List.take_succ_eq_append_getElem (by simpa using hlt), List.take_succ_eq_append_getElem (by simpa using hlt'), HE.out]
          simp [he]
        by_cases hkk : ts[k].kind = us[k].kind
        · have b1 : ((ts[k].kind : Int) != us[k].kind) = false := by rw [bne_eq_false_iff_eq]; omega
          by_cases h4 : ts[k].kind = 4
          · have b2 : ((ts[k].kind : Int) != 4) = false := by rw [bne_eq_false_iff_eq]; omega
            have HY := Lib.hid (hyes (by simp only [key]; rw [if_pos h4, if_pos (by rw [← hkk]; exact h4), hkk]))
            clear hkk h4 hyes hno hbq
            go_wp2
            go_quiet (fail)
            go_wp2
            go_roundw
            case rel => exact ⟨k + 1, n + nq, by omega, by go_num, HY.out, rfl⟩
            case measure => simp [intOf]; omega
          · have b2 : ((ts[k].kind : Int) != 4) = true := by rw [bne_iff_ne]; omega
            by_cases ht : ts[k].text = us[k].text
            · rw [decide_eq_true ht] at hbq
              have HY := Lib.hid (hyes (by simp only [key]; rw [ht, hkk]))
              clear hkk h4 hyes hno ht
              go_wp2
              go_quiet (fail)
              go_wp2
              go_roundw
              case rel => exact ⟨k + 1, n + nq, by omega, by go_num, HY.out, rfl⟩
              case measure => simp [intOf]; omega
            · rw [decide_eq_false ht] at hbq
              have HN := Lib.hid (hno (by simp only [key]; rw [if_neg h4, if_neg (by rw [← hkk]; exact h4)]; intro e; injection e with _ e; exact ht e))
              clear hkk h4 hyes hno ht
              go_wp2
              go_quiet (fail)
              go_wp2
              go_ret
              exact ⟨ret_bool HN.out.symm, n + nq, by rw [World.drewN_drewN]⟩
        · have b1 : ((ts[k].kind : Int) != us[k].kind) = true := by rw [bne_iff_ne]; omega
          have HN := Lib.hid (hno (by simp only [key]; intro e; injection e with e _; exact hkk e))
          clear hkk hyes hno hbq
          go_wp2
          go_quiet (fail)
          go_wp2
          go_ret
          exact ⟨ret_bool HN.out.symm, n + nq, by rw [World.drewN_drewN]⟩
      · have hall : decide (ts.map key = us.map key) = true := by
          rw [decide_eq_true_eq]
          have h := HE.out
          rw [List.take_of_length_le (by simp; omega), List.take_of_length_le (by simp; rw [← HL.out]; omega)] at h
          exact h
        have HD := Lib.hid hall
        clear hall
        go_wp2
        go_ret
        exact ⟨ret_bool HD.out.symm, n, rfl⟩
  · obtain ⟨A, c, rfl, _⟩ := hv
    obtain ⟨A', c', rfl, _⟩ := hu
    have hb : ((ts.length : Int) != us.length) = true := by rw [bne_iff_ne]; omega
    have hd : decide (ts.map key = us.map key) = false := by rw [decide_eq_false_iff_not]; intro e; have := congrArg List.length e; simp at this; exact hl this
    have HD := Lib.hid hd
    clear hd hl
    go_enter Try.func11, Try.ntmps11
    go_wp2
    go_ret
    exact ⟨ret_bool HD.out.symm, 0, rfl⟩

end Go.Proofs.Ytekhdocejahboaa.lexw
