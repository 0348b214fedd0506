/- strconv's multiprecision decimal in memory; the walk of trim. Conditions: as each theorem states. -/
import Derived.Test.YtcbgkbidgpemfaaGreatDoorMp10
namespace Go.Proofs.YtcbgkbidgpemfaaGreatDoor.dcw
open Go.RowKit
open Go.Proofs.YtcbgkbidgpemfaaGreatDoor.bsw
open Go.Proofs.YtcbgkbidgpemfaaGreatDoor.prnw
open Go.Proofs.YtcbgkbidgpemfaaGreatDoor.dmx

/-- a decimal lies in block a: bytes f, nd of them, the point, the sign; nothing was left out -/
def DM (w : World) (a : Nat) (f : Nat → Nat) (nd dp : Int) (neg : Bool) : Prop :=
  ∃ cs : Array Value, w.heap[a]? = some (.cells cs 231 (0, 0)) ∧ (∀ j, j < 800 → cs[j]? = some (.int .u8 (f j : Nat))) ∧ cs[800]? = some (.int .i64 nd) ∧ cs[801]? = some (.int .i64 dp) ∧ cs[802]? = some (.bool neg) ∧ cs[803]? = some (.bool false)
variable {w : World} {a : Nat} {f : Nat → Nat} {nd dp : Int} {neg : Bool}
theorem DM.dig (h : DM w a f nd dp neg) (j : Nat) (hj : j < 800) : w.cell? ⟨a, j, none⟩ = some (.int .u8 (f j : Nat)) := by
  obtain ⟨cs, h0, h1, _⟩ := h
  exact (cell_of_row w a j _ _ _ h0).trans (h1 j hj)
theorem DM.cnd (h : DM w a f nd dp neg) : w.cell? ⟨a, 800, none⟩ = some (.int .i64 nd) := by
  obtain ⟨cs, h0, _, h1, _⟩ := h
  exact (cell_of_row w a _ _ _ _ h0).trans h1
theorem DM.cdp (h : DM w a f nd dp neg) : w.cell? ⟨a, 801, none⟩ = some (.int .i64 dp) := by
  obtain ⟨cs, h0, _, _, h1, _⟩ := h
  exact (cell_of_row w a _ _ _ _ h0).trans h1
theorem DM.cng (h : DM w a f nd dp neg) : w.cell? ⟨a, 802, none⟩ = some (.bool neg) := by
  obtain ⟨cs, h0, _, _, _, h1, _⟩ := h
  exact (cell_of_row w a _ _ _ _ h0).trans h1
theorem DM.ctr (h : DM w a f nd dp neg) : w.cell? ⟨a, 803, none⟩ = some (.bool false) := by
  obtain ⟨cs, h0, _, _, _, _, h1⟩ := h
  exact (cell_of_row w a _ _ _ _ h0).trans h1
theorem DM.fr (h : DM w a f nd dp neg) (j : Nat) : w.frozen? ⟨a, j, none⟩ = false := by
  obtain ⟨cs, h0, _⟩ := h
  exact not_frozen h0 j
theorem set_at {cs : Array Value} {j : Nat} {u : Value} (h : cs[j]? = some u) (v : Value) (i : Nat) : (cs.setIfInBounds j v)[i]? = if i = j then some v else cs[i]? := by
  have hl := (Array.getElem?_eq_some_iff.1 h).1
  rw [Array.getElem?_setIfInBounds]
  by_cases e : j = i
  · rw [if_pos e, if_pos hl, if_pos e.symm]
  · rw [if_neg e, if_neg (fun x => e x.symm)]
theorem DM.drewN (h : DM w a f nd dp neg) (q : Nat) : DM (w.drewN q) a f nd dp neg := by
  obtain ⟨cs, h0, h⟩ := h
  exact ⟨cs, h0, h⟩
theorem grown_drewN {w wr : World} {a : Nat} (h : w.grownBy wr (some a)) (q : Nat) : w.grownBy (wr.drewN q) (some a) := ⟨h.os, h.tape, h.output, h.size, h.block⟩
def upd (f : Nat → Nat) (j d : Nat) : Nat → Nat := fun i => if i = j then d else f i
theorem upd_at (f : Nat → Nat) (j d : Nat) : upd f j d j = d := if_pos rfl
theorem upd_ne (f : Nat → Nat) (j d i : Nat) (h : i ≠ j) : upd f j d i = f i := if_neg h
theorem DM.sdig (h : DM w a f nd dp neg) (j d : Nat) (hj : j < 800) : DM (w.setCell ⟨a, j, none⟩ (.int .u8 (d : Nat))) a (upd f j d) nd dp neg := by
  obtain ⟨cs, h0, h1, h2, h3, h4, h5⟩ := h
  refine ⟨_, heap_set w a j _ _ _ _ h0, fun i hi => ?_, ?_, ?_, ?_, ?_⟩
  · rw [set_at (h1 j hj)]
    unfold upd
    split
    · rfl
    · exact h1 i hi
  · rw [set_at (h1 j hj), if_neg (by omega)]; exact h2
  · rw [set_at (h1 j hj), if_neg (by omega)]; exact h3
  · rw [set_at (h1 j hj), if_neg (by omega)]; exact h4
  · rw [set_at (h1 j hj), if_neg (by omega)]; exact h5
theorem DM.snd (h : DM w a f nd dp neg) (n : Int) : DM (w.setCell ⟨a, 800, none⟩ (.int .i64 n)) a f n dp neg := by
  obtain ⟨cs, h0, h1, h2, h3, h4, h5⟩ := h
  refine ⟨_, heap_set w a 800 _ _ _ _ h0, fun i hi => ?_, ?_, ?_, ?_, ?_⟩
  · rw [set_at h2, if_neg (by omega)]; exact h1 i hi
  · rw [set_at h2, if_pos rfl]
  · rw [set_at h2, if_neg (by omega)]; exact h3
  · rw [set_at h2, if_neg (by omega)]; exact h4
  · rw [set_at h2, if_neg (by omega)]; exact h5
theorem DM.sdp (h : DM w a f nd dp neg) (n : Int) : DM (w.setCell ⟨a, 801, none⟩ (.int .i64 n)) a f nd n neg := by
  obtain ⟨cs, h0, h1, h2, h3, h4, h5⟩ := h
  refine ⟨_, heap_set w a 801 _ _ _ _ h0, fun i hi => ?_, ?_, ?_, ?_, ?_⟩
  · rw [set_at h3, if_neg (by omega)]; exact h1 i hi
  · rw [set_at h3, if_neg (by omega)]; exact h2
  · rw [set_at h3, if_pos rfl]
  · rw [set_at h3, if_neg (by omega)]; exact h4
  · rw [set_at h3, if_neg (by omega)]; exact h5
/-- the bytes are the n digits of N -/
def Dg (f : Nat → Nat) (N n : Nat) : Prop := ∀ j, j < n → f j = 48 + N / 10 ^ (n - 1 - j) % 10
def TrPost (w : World) (a : Nat) (f : Nat → Nat) (N n : Nat) (dp : Int) (neg : Bool) (e : Ending) (w' : World) : Prop :=
  e = .returned (.tuple #[]) ∧ DM w' a f ((trN N n).2 : Nat) dp neg ∧ w.grownBy w' (some a)
def TrRel (w : World) (a : Nat) (f : Nat → Nat) (N n : Nat) (dp : Int) (neg : Bool) (g : Nat) (wr : World) : Prop :=
  ∃ M m, m ≤ n ∧ m ≤ g ∧ 0 < M ∧ M < 10 ^ m ∧ trN M m = trN N n ∧ Dg f M m ∧ DM wr a f (m : Nat) dp neg ∧ w.grownBy wr (some a)
theorem dg_tail {f : Nat → Nat} {M m : Nat} (h : Dg f M (m + 1)) : Dg f (M / 10) m := fun j hj => by
  rw [h j (by omega), Nat.div_div_eq_div_mul]
  have e : 10 * 10 ^ (m - 1 - j) = 10 ^ (m + 1 - 1 - j) := by
    rw [show m + 1 - 1 - j = m - 1 - j + 1 by omega, Nat.pow_succ, Nat.mul_comm]
  rw [e]
set_option maxRecDepth 100000 in
set_option maxHeartbeats 1000000 in
theorem trim_any (a : Nat) (f : Nat → Nat) (N n : Nat) (dp : Int) (neg : Bool) (w : World) (hN0 : 0 < N) (hN : N < 10 ^ n) (hn : n ≤ 800) (hd : Dg f N n) (h : DM w a f (n : Nat) dp neg) :
    Calls Tryz.prog 228 #[.pointer (some ⟨a, 0, none⟩)] w (TrPost w a f N n dp neg) := by
  have HS := Lib.hid (show TrRel w a f N n dp neg n w from ⟨N, n, Nat.le_refl _, Nat.le_refl _, hN0, hN, rfl, hd, h, ⟨rfl, rfl, rfl, Nat.le_refl _, fun _ _ _ => rfl⟩⟩)
  clear hN0 hN hd h
  go_enter Tryz.func228, Tryz.ntmps228
  go_wp2_with fail
  go_loopg [] n (fun gk wr => TrRel w a f N n dp neg gk wr)
  case atStart => exact HS.out
  case round =>
    obtain ⟨M, m, hmn, hmg, hM0, hM, ht, hdg, hD, hg⟩ := hrel
    have c1 := hD.cnd
    have c2 := hD.fr 800
    cases m with
    | zero => simp at hM; omega
    | succ m =>
      have c3 := hD.dig m (by omega)
      have hlast := hdg m (Nat.lt_succ_self m)
      rw [show m + 1 - 1 - m = 0 by omega, Nat.pow_zero, Nat.div_one] at hlast
      have hset : ∀ q, DM ((wr.drewN q).setCell ⟨a, 800, none⟩ (.int .i64 (m : Nat))) a f (m : Nat) dp neg ∧ w.grownBy ((wr.drewN q).setCell ⟨a, 800, none⟩ (.int .i64 (m : Nat))) (some a) ∧ DM (wr.drewN q) a f ((m + 1 : Nat) : Int) dp neg := fun q =>
        ⟨(hD.drewN q).snd _, grown_trans (grown_drewN hg q) (set_grown _ a 800 _), hD.drewN q⟩
      have ec : ((m + 1 : Nat) : Int) = (m : Int) + 1 := by omega
      rw [ec] at c1
      have et : trN M (m + 1) = if M % 10 = 0 then trN (M / 10) m else (M, m + 1) := rfl
      obtain ⟨b, hb⟩ : ∃ b, f m = b := ⟨_, rfl⟩
      rw [hb] at c3 hlast
      have hm8 : m < 800 := by omega
      have k1 : IntKind.i64.wrap ((m : Int) + 1 - 1) = (m : Int) := by rw [show (m : Int) + 1 - 1 = (m : Int) by omega]; exact IntWalk.i64_in _ (by omega)
      have k2 : (0 : Int) ≤ (m : Int) := by omega
      have k3 : (m : Int) < 800 := by omega
      have k4 : (0 : Int) < (m : Int) + 1 := by omega
      by_cases h0 : M % 10 = 0
      · rw [if_pos h0] at et
        have hb48 : ((b : Int) == 48) = true := by rw [beq_iff_eq]; omega
        have HR := Lib.hid (fun q => show TrRel w a f N n dp neg m ((wr.drewN q).setCell ⟨a, 800, none⟩ (.int .i64 (m : Nat))) from ⟨M / 10, m, by omega, Nat.le_refl _, by omega, by rw [Nat.pow_succ] at hM; omega, by rw [← et]; exact ht, dg_tail hdg, (hset q).1, (hset q).2.1⟩)
        have HD := Lib.hid hD
        clear hdg hM hM0 ht hlast hD hg hset ec et hb h0
        go_wp2_with fail
        go_quiet (fail)
        have HC := Lib.hid (And.intro (HD.out.drewN nq).cnd ((HD.out.drewN nq).fr 800))
        go_wp2_with ((with_reducible refine wl_pre ?_); (refine wl_set_i64 rfl (.tmp 26) (.tmp 24) rfl a 800 _ _ rfl rfl HC.out.1 HC.out.2 ?_); (simp only [Act.put]))
        go_roundg m
        case measure => omega
        case rel => exact HR.out nq
      · rw [if_neg h0] at et
        have hb48 : ((b : Int) == 48) = false := by rw [beq_eq_false_iff_ne]; omega
        have HR := Lib.hid (fun q => show TrPost w a f N n dp neg (.returned (.tuple #[])) (wr.drewN q) from ⟨rfl, by rw [← ht, et]; exact (hset q).2.2, grown_drewN hg q⟩)
        have k5 : ((m : Int) + 1 == 0) = false := by rw [beq_eq_false_iff_ne]; omega
        clear hdg hM hM0 ht hlast hD hg hset ec et hb h0
        go_wp2_with fail
        go_quiet (fail)
        go_wp2_with fail
        go_end0
        exact HR.out nq
end Go.Proofs.YtcbgkbidgpemfaaGreatDoor.dcw

/- The walk of strconv's prefixIsLessThan. Conditions: as the theorem states. -/
namespace Go.Proofs.YtcbgkbidgpemfaaGreatDoor.dcw
open Go.RowKit
open Go.Proofs.YtcbgkbidgpemfaaGreatDoor.bsw
open Go.Proofs.YtcbgkbidgpemfaaGreatDoor.prnw
open Go.Proofs.YtcbgkbidgpemfaaGreatDoor.dmx

/-- a text is the c digits of C -/
def Tx (s : ByteArray) (C c : Nat) : Prop := s.size = c ∧ ∀ j (h : j < s.size), s[j].toNat = 48 + C / 10 ^ (c - 1 - j) % 10
def LsPost (w : World) (b : Bool) (e : Ending) (w' : World) : Prop := e = .returned (.bool b) ∧ ∃ q, w' = w.drewN q
set_option maxRecDepth 100000 in
set_option maxHeartbeats 1000000 in
theorem less_any (a : Nat) (f : Nat → Nat) (N n C c : Nat) (dp : Int) (neg : Bool) (s : ByteArray) (w : World) (hN : N < 10 ^ n) (hn : n ≤ 800) (hd : Dg f N n) (h : DM w a f (n : Nat) dp neg)
    (hC : C < 10 ^ c) (_hc : c ≤ 100) (hm : C % 10 ≠ 0) (hs : Tx s C c) :
    Calls Tryz.prog 242 #[.slice (some ⟨a, 0, none⟩) n 800, .string s] w (LsPost w (lessB N n C c)) := by
  have HD := Lib.hid h
  have HG := Lib.hid hd
  have HX := Lib.hid hs
  have h00 : preN N n 0 = preN C c 0 := by rw [pre_zero hN, pre_zero hC]
  have H0 := Lib.hid h00
  have HM := Lib.hid hm
  have HZ := Lib.hid hs.1
  clear h hd hs hN hC hm h00
  go_enter Tryz.func242, Tryz.ntmps242
  go_wp2_with fail
  go_loopw [5] (fun i wr => ∃ k q : Nat, k ≤ c ∧ k ≤ n ∧ i = .int .i64 k ∧ preN N n k = preN C c k ∧ wr = w.drewN q) (fun i _ => c - (intOf i).toNat)
  case atStart => exact ⟨0, 0, Nat.zero_le _, Nat.zero_le _, rfl, H0.out, rfl⟩
  case round =>
    obtain ⟨k, q, hkc, hkn, rfl, hp, rfl⟩ := hrel
    have HP := Lib.hid hp
    have hsz := HZ.out
    clear hp
    by_cases h1 : k < c
    · have d1 : decide (k < s.size) = true := by rw [hsz]; exact decide_eq_true h1
      have d1' : k < s.size := by omega
      by_cases h2 : k < n
      · have c3 := HD.out.dig k (by omega)
        have hx := HG.out k h2
        have hy := HX.out.2 k d1'
        rw [← dg_usual h2] at hx
        rw [← dg_usual h1] at hy
        obtain ⟨x, hx2⟩ : ∃ x, f k = x := ⟨_, rfl⟩
        rw [hx2] at c3 hx
        have d2' : decide (n ≤ k) = false := decide_eq_false (by omega)
        have k1 : (k : Int) < 800 := by omega
        have k2 : k < n := h2
        rcases Nat.lt_trichotomy x s[k].toNat with hl | he | hg
        · have hless : lessB N n C c = true := less_lt HP.out (by omega)
          have e1 : ((x : Int) != (s[k].toNat : Int)) = true := by rw [bne_iff_ne]; omega
          have e2 : decide (x < s[k].toNat) = true := decide_eq_true hl
          have HL := Lib.hid hless
          clear hx hx2 hy hless hsz hl
          go_wp2_with fail
          go_quiet (fail)
          go_wp2_with fail
          go_quiet (fail)
          go_wp2_with fail
          go_ret
          exact ⟨by rw [HL.out]; rfl, _, by rw [World.drewN_drewN, World.drewN_drewN]⟩
        · have e1 : ((x : Int) != (s[k].toNat : Int)) = false := by rw [bne_eq_false_iff_eq]; omega
          have hnext : preN N n (k + 1) = preN C c (k + 1) := by
            rw [pre_succ, pre_succ, HP.out]
            omega
          have HE := Lib.hid hnext
          clear hx hx2 hy he hsz hnext
          go_wp2_with fail
          go_quiet (fail)
          go_wp2_with fail
          exact ⟨⟨k + 1, q + nq, h1, h2, by go_num, HE.out, rfl⟩, by simp [intOf]; omega⟩
        · have hless : lessB N n C c = false := less_gt HP.out (by omega)
          have e1 : ((x : Int) != (s[k].toNat : Int)) = true := by rw [bne_iff_ne]; omega
          have e2 : decide (x < s[k].toNat) = false := decide_eq_false (by omega)
          have HL := Lib.hid hless
          clear hx hx2 hy hless hsz hg
          go_wp2_with fail
          go_quiet (fail)
          go_wp2_with fail
          go_quiet (fail)
          go_wp2_with fail
          go_ret
          exact ⟨by rw [HL.out]; rfl, _, by rw [World.drewN_drewN, World.drewN_drewN]⟩
      · have hnk : n = k := by omega
        have d2' : decide (n ≤ k) = true := decide_eq_true (by omega)
        have d3 : n ≤ k := by omega
        have hless : lessB N n C c = true := less_out (by rw [hnk]; have := HP.out; rw [hnk] at this; exact this) (by omega) HM.out
        have HL := Lib.hid hless
        clear hless hsz hnk
        go_wp2_with fail
        go_ret
        exact ⟨by rw [HL.out]; rfl, q, rfl⟩
    · have hkc2 : k = c := by omega
      have d1 : decide (k < s.size) = false := decide_eq_false (by omega)
      have d1' : ¬ k < s.size := by omega
      have hless : lessB N n C c = false := less_end (by rw [← hkc2]; rw [hkc2]; have := HP.out; rw [hkc2] at this; exact this)
      have HL := Lib.hid hless
      clear hless hsz hkc2 h1
      go_wp2_with fail
      go_ret
      exact ⟨by rw [HL.out]; rfl, q, rfl⟩
end Go.Proofs.YtcbgkbidgpemfaaGreatDoor.dcw
