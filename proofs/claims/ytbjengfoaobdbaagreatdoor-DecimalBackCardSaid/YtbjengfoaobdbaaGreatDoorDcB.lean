/- The walk of strconv's prefixIsLessThan. Conditions: as the theorem states. -/
import Derived.Test.YtbjengfoaobdbaaGreatDoorDcA
namespace Go.Proofs.YtbjengfoaobdbaaGreatDoor.dcw
open Go.RowKit
open Go.Proofs.YtbjengfoaobdbaaGreatDoor.bsw
open Go.Proofs.YtbjengfoaobdbaaGreatDoor.prnw
open Go.Proofs.YtbjengfoaobdbaaGreatDoor.dmx

/-- a text is the c digits of C -/
def Tx (s : ByteArray) (C c : Nat) : Prop := s.size = c ∧ ∀ j (h : j < s.size), s[j].toNat = 48 + C / 10 ^ (c - 1 - j) % 10
def LsPost (w : World) (b : Bool) (e : Ending) (w' : World) : Prop := e = .returned (.bool b) ∧ ∃ q, w' = w.drewN q
set_option maxRecDepth 100000 in
set_option maxHeartbeats 1000000 in
theorem less_any (a : Nat) (f : Nat → Nat) (N n C c : Nat) (dp : Int) (neg : Bool) (s : ByteArray) (w : World) (hN : N < 10 ^ n) (hn : n ≤ 800) (hd : Dg f N n) (h : DM w a f (n : Nat) dp neg)
    (hC : C < 10 ^ c) (_hc : c ≤ 100) (hm : C % 10 ≠ 0) (hs : Tx s C c) :
    Calls Tryz.prog 176 #[.slice (some ⟨a, 0, none⟩) n 800, .string s] w (LsPost w (lessB N n C c)) := by
  have HD := Lib.hid h
  have HG := Lib.hid hd
  have HX := Lib.hid hs
  have h00 : preN N n 0 = preN C c 0 := by rw [pre_zero hN, pre_zero hC]
  have H0 := Lib.hid h00
  have HM := Lib.hid hm
  have HZ := Lib.hid hs.1
  clear h hd hs hN hC hm h00
  go_enter Tryz.func176, Tryz.ntmps176
  go_wp2_with fail
  go_loopw [5] (fun i wr => ∃ k q : Nat, k ≤ c ∧ k ≤ n ∧ i = .int .i64 k ∧ preN N n k = preN C c k ∧ wr = w.drewN q) (fun i _ => c - (intOf i).toNat)
  case atStart => exact ⟨0, 0, Nat.zero_le _, Nat.zero_le _, rfl, H0.out, rfl⟩
  case round =>
    obtain ⟨k, q, hkc, hkn, rfl, hp, rfl⟩ := hrel
    have HP := Lib.hid hp
    have hsz := HZ.out
    clear hp
    by_cases h1 : k < c
    · have d1 : decide (k < s.size) = true := by rw [hsz]; exact decide_eq_true h1
      have d1' : k < s.size := by omega
      by_cases h2 : k < n
      · have c3 := HD.out.dig k (by omega)
        have hx := HG.out k h2
        have hy := HX.out.2 k d1'
        rw [← dg_usual h2] at hx
        rw [← dg_usual h1] at hy
        obtain ⟨x, hx2⟩ : ∃ x, f k = x := ⟨_, rfl⟩
        rw [hx2] at c3 hx
        have d2' : decide (n ≤ k) = false := decide_eq_false (by omega)
        have k1 : (k : Int) < 800 := by omega
        have k2 : k < n := h2
        rcases Nat.lt_trichotomy x s[k].toNat with hl | he | hg
        · have hless : lessB N n C c = true := less_lt HP.out (by omega)
          have e1 : ((x : Int) != (s[k].toNat : Int)) = true := by rw [bne_iff_ne]; omega
          have e2 : decide (x < s[k].toNat) = true := decide_eq_true hl
          have HL := Lib.hid hless
          clear hx hx2 hy hless hsz hl
          go_wp2_with fail
          go_quiet (fail)
          go_wp2_with fail
          go_quiet (fail)
          go_wp2_with fail
          go_ret
          exact ⟨by rw [HL.out]; rfl, _, by rw [World.drewN_drewN, World.drewN_drewN]⟩
        · have e1 : ((x : Int) != (s[k].toNat : Int)) = false := by rw [bne_eq_false_iff_eq]; omega
          have hnext : preN N n (k + 1) = preN C c (k + 1) := by
            rw [pre_succ, pre_succ, HP.out]
            omega
          have HE := Lib.hid hnext
          clear hx hx2 hy he hsz hnext
          go_wp2_with fail
          go_quiet (fail)
          go_wp2_with fail
          exact ⟨⟨k + 1, q + nq, h1, h2, by go_num, HE.out, rfl⟩, by simp [intOf]; omega⟩
        · have hless : lessB N n C c = false := less_gt HP.out (by omega)
          have e1 : ((x : Int) != (s[k].toNat : Int)) = true := by rw [bne_iff_ne]; omega
          have e2 : decide (x < s[k].toNat) = false := decide_eq_false (by omega)
          have HL := Lib.hid hless
          clear hx hx2 hy hless hsz hg
          go_wp2_with fail
          go_quiet (fail)
          go_wp2_with fail
          go_quiet (fail)
          go_wp2_with fail
          go_ret
          exact ⟨by rw [HL.out]; rfl, _, by rw [World.drewN_drewN, World.drewN_drewN]⟩
      · have hnk : n = k := by omega
        have d2' : decide (n ≤ k) = true := decide_eq_true (by omega)
        have d3 : n ≤ k := by omega
        have hless : lessB N n C c = true := less_out (by rw [hnk]; have := HP.out; rw [hnk] at this; exact this) (by omega) HM.out
        have HL := Lib.hid hless
        clear hless hsz hnk
        go_wp2_with fail
        go_ret
        exact ⟨by rw [HL.out]; rfl, q, rfl⟩
    · have hkc2 : k = c := by omega
      have d1 : decide (k < s.size) = false := decide_eq_false (by omega)
      have d1' : ¬ k < s.size := by omega
      have hless : lessB N n C c = false := less_end (by rw [← hkc2]; rw [hkc2]; have := HP.out; rw [hkc2] at this; exact this)
      have HL := Lib.hid hless
      clear hless hsz hkc2 h1
      go_wp2_with fail
      go_ret
      exact ⟨by rw [HL.out]; rfl, q, rfl⟩
end Go.Proofs.YtbjengfoaobdbaaGreatDoor.dcw
