/- burnishref16: the walk of Shortest: what it answers if one of its tries answers. Conditions: as each theorem states. -/
import Derived.Test.YtcbgkbidgpemfaaGreatDoorMp10
import Derived.Deep.DeepCutAuto
namespace Go.Proofs.YtcbgkbidgpemfaaGreatDoor.rh
open Go.RowKit
open Go.Proofs.YtcbgkbidgpemfaaGreatDoor.nodew
open Go.Proofs.YtcbgkbidgpemfaaGreatDoor.rg
open Go.Proofs.YtcbgkbidgpemfaaGreatDoor.flatm
open Go.Proofs.YtcbgkbidgpemfaaGreatDoor.fpm
open Go.Proofs.YtcbgkbidgpemfaaGreatDoor.rdf
open Go.Proofs.YtcbgkbidgpemfaaGreatDoor.prnw
open Go.Proofs.YtcbgkbidgpemfaaGreatDoor.dcw
open Go.Proofs.YtcbgkbidgpemfaaGreatDoor.dmx
attribute [local go_sem] nodew.fo_eq

/-- ten to k is above X -/
def gtX (X : Nat) (k : Int) : Prop := ftM X * 10 ^ (-k).toNat * 2 ^ (ftE X - 52).toNat < 1 * 10 ^ k.toNat * 2 ^ (-(ftE X - 52)).toNat
def hitB (X N : Nat) (P : Int) : Bool := (nearR N P).2 && decide ((nearR N P).1 = X)
def flX (X : Nat) (P : Int) : Nat := flN (ftM X * 10 ^ (-P).toNat * 2 ^ (ftE X - 52).toNat) (10 ^ P.toNat * 2 ^ (-(ftE X - 52)).toNat)
/-- is X above the midst of a and the next one, or at it and a odd -/
def overB (X a : Nat) (P : Int) : Bool :=
  decide ((2 * a + 1) * 10 ^ P.toNat * 2 ^ (-(ftE X - 52)).toNat < 2 * ftM X * 10 ^ (-P).toNat * 2 ^ (ftE X - 52).toNat) ||
  (decide ((2 * a + 1) * 10 ^ P.toNat * 2 ^ (-(ftE X - 52)).toNat = 2 * ftM X * 10 ^ (-P).toNat * 2 ^ (ftE X - 52).toNat) && decide (a % 2 = 1))
/-- one try of Shortest: n digits below ten to k -/
def tryS (X : Nat) (k : Int) (n : Nat) : Option (List UInt8 × Int) :=
  if (hitB X (flX X (k - n)) (k - n) && !(hitB X (flX X (k - n) + 1) (k - n) && overB X (flX X (k - n)) (k - n))) = true then some (trimL (txL n (flX X (k - n))), k)
  else if hitB X (flX X (k - n) + 1) (k - n) = true then (if flX X (k - n) + 1 = 10 ^ n then some ([49], k + 1) else some (trimL (txL n (flX X (k - n) + 1)), k))
  else none
theorem near_lt (N : Nat) (P : Int) : (nearR N P).1 < 9218868437227405312 := by
  unfold nearR
  split
  · decide
  · rename_i h
    have : infX = 9218868437227405312 := rfl
    simp only
    omega
theorem flX_le (X : Nat) (P : Int) : flX X P ≤ 1000000000000000000 := Nat.min_le_right _ _
/-- 19 digits, read again -/
theorem near19 (a : Nat) (ha : a < 10000000000000000000) (P : Int) (hP : -2000 ≤ P ∧ P ≤ 2000) (w : World) :
    Calls Tryz.prog 96 #[.string ⟨(txL 19 a).toArray⟩, .int .i64 P] w (NearPost w (nearR a P)) := by
  have h := near_any ⟨(txL 19 a).toArray⟩ (by show (txL 19 a).toArray.size ≤ 30; simp [txL_len]) (fun c hc => txL_dig 19 a c (by simpa using hc)) P hP w
  have hd : dv 0 (⟨(txL 19 a).toArray⟩ : ByteArray).data.toList = a := by
    show dv 0 (txL 19 a).toArray.toList = a
    rw [List.toList_toArray, txL_dv, Nat.zero_mul, Nat.zero_add, Nat.mod_eq_of_lt (by omega)]
  rw [hd] at h
  exact h
theorem against19 (a : Nat) (ha : a < 10000000000000000000) (P E : Int) (hP : -2000 ≤ P ∧ P ≤ 2000) (hE : -2000 ≤ E ∧ E ≤ 2000) (m : Nat) (hm : m < 18446744073709551616) (w : World) :
    Calls Tryz.prog 131 #[.string ⟨(txL 19 a).toArray⟩, .int .i64 P, .int .u64 (m : Nat), .int .i64 E] w (CmpPost w (a * 10 ^ P.toNat * 2 ^ (-E).toNat) (m * 10 ^ (-P).toNat * 2 ^ E.toNat)) := by
  have h := against_any ⟨(txL 19 a).toArray⟩ (by show (txL 19 a).toArray.size ≤ 60; simp [txL_len]) (fun c hc => txL_dig 19 a c (by simpa using hc)) P E hP hE m hm w
  have hd : dv 0 (⟨(txL 19 a).toArray⟩ : ByteArray).data.toList = a := by
    show dv 0 (txL 19 a).toArray.toList = a
    rw [List.toList_toArray, txL_dv, Nat.zero_mul, Nat.zero_add, Nat.mod_eq_of_lt (by omega)]
  rw [hd] at h
  exact h
theorem trim_l (l : List UInt8) (hl : l.length ≤ 60) (w : World) : Calls Tryz.prog 159 #[.string ⟨l.toArray⟩] w fun e w' => e = .returned (.string ⟨(trimL l).toArray⟩) ∧ w' = w :=
  trimmed_any ⟨l.toArray⟩ (by show l.toArray.size ≤ 60; simpa using hl) w
theorem text19 (a : Nat) (ha : a < 18446744073709551616) (w : World) : Calls Tryz.prog 158 #[.int .u64 (a : Nat), .int .i64 19] w (StrPost w (txL 19 a)) := text16_any a 19 ha (by decide) w
def ShPost (w : World) (r : List UInt8 × Int) (e : Ending) (w' : World) : Prop := e = .returned (.tuple #[.string ⟨r.1.toArray⟩, .int .i64 r.2]) ∧ Below w.heap.size w w'
set_option maxRecDepth 100000 in
set_option maxHeartbeats 4000000 in
theorem short_any (X : Nat) (hX0 : 0 < X) (hX : X < 9218868437227405312) (k0 : Int) (n0 : Nat) (r : List UInt8 × Int) (hk : -330 ≤ k0 ∧ k0 ≤ 310) (hgt : gtX X k0) (hle : ∀ k, -330 ≤ k → k < k0 → ¬ gtX X k) (hn : 1 ≤ n0 ∧ n0 ≤ 18) (hr : tryS X k0 n0 = some r) (hno : ∀ n, 1 ≤ n → n < n0 → tryS X k0 n = none) (w : World) :
    Calls Tryz.prog 124 #[.float .f64 X] w (ShPost w r) := by
  have HPc := Lib.hid (fun W => pieces_any X hX W)
  have hM := ftM_pos X hX0
  have hEb : -1074 ≤ ftE X - 52 ∧ ftE X - 52 ≤ 1000 := by unfold ftE; split <;> omega
  have HFi := Lib.hid (fun (P : Int) (hP : -2000 ≤ P ∧ P ≤ 2000) W => show Calls Tryz.prog 157 #[.float .f64 X, .int .i64 P] W fun e w' => e = .returned (.int .u64 (flX X P : Nat)) ∧ Below W.heap.size W w' from first_any X hX0 hX P hP W)
  have HA1 := Lib.hid (fun (k : Int) (hk : -2000 ≤ k ∧ k ≤ 2000) W => show Calls Tryz.prog 131 #[.string ⟨#[49]⟩, .int .i64 k, .int .u64 (ftM X : Nat), .int .i64 (ftE X - 52)] W (CmpPost W (1 * 10 ^ k.toNat * 2 ^ (-(ftE X - 52)).toNat) (ftM X * 10 ^ (-k).toNat * 2 ^ (ftE X - 52).toNat)) from against_any ⟨#[49]⟩ (by decide) (by decide) k (ftE X - 52) hk (by omega) (ftM X) (by omega) W)
  have HMid := Lib.hid (fun (a : Nat) (ha : a ≤ 1000000000000000000) (P : Int) (hP : -2000 ≤ P ∧ P ≤ 2000) W => against19 (2 * a + 1) (by omega) P (ftE X - 52) hP (by omega) (2 * ftM X) (by omega) W)
  have hgd : ∀ k, gtX X k = (ftM X * 10 ^ (-k).toNat * 2 ^ (ftE X - 52).toNat < 1 * 10 ^ k.toNat * 2 ^ (-(ftE X - 52)).toNat) := fun _ => rfl
  have hov : ∀ a P, overB X a P = (decide ((2 * a + 1) * 10 ^ P.toNat * 2 ^ (-(ftE X - 52)).toNat < 2 * ftM X * 10 ^ (-P).toNat * 2 ^ (ftE X - 52).toNat) || (decide ((2 * a + 1) * 10 ^ P.toNat * 2 ^ (-(ftE X - 52)).toNat = 2 * ftM X * 10 ^ (-P).toNat * 2 ^ (ftE X - 52).toNat) && decide (a % 2 = 1))) := fun _ _ => rfl
  obtain ⟨M, hMe⟩ : ∃ M, ftM X = M := ⟨_, rfl⟩
  obtain ⟨E, hEe⟩ : ∃ E, ftE X - 52 = E := ⟨_, rfl⟩
  rw [hMe, hEe] at HPc HA1 HMid
  simp only [hMe, hEe] at hgd hov
  rw [hMe] at hM
  have HGD := Lib.hid hgd
  have HOV := Lib.hid hov
  have HGT := Lib.hid (And.intro hgt hle)
  have HR := Lib.hid (And.intro hr hno)
  have HX := Lib.hid hX
  have hM9 : (M : Int) < 9007199254740992 := by omega
  clear hgd hov hgt hle hr hno hMe hEe hM hEb hX hX0
  go_enter Tryz.func124, Tryz.ntmps124
  go_wp2_with fail
  go_loopw [4] (fun s4 wr => ∃ k : Int, s4 = .int .i64 k ∧ -330 ≤ k ∧ k ≤ k0 ∧ Below w.heap.size w wr) (fun s4 _ => (k0 - intOf s4).toNat)
  case atStart => exact ⟨-330, rfl, by omega, hk.1, Below.refl _ _⟩
  case round =>
    obtain ⟨k, rfl, k1, k2, hB⟩ := hrel
    obtain ⟨wo, rfl⟩ : ∃ wo : World, wo = wr := ⟨_, rfl⟩
    have HB := Lib.hid hB
    have HA := Lib.hid (fun W => HA1.out k (by omega) W)
    clear hB HA1
    go_upto_if 27 with (first
      | (go_at_call 130; (with_reducible refine (HPc.out _).mono ?_); rintro e w' ⟨rfl, rfl⟩)
      | (go_at_call 131; (with_reducible refine (HA.out _).mono ?_); rintro e w5 ⟨c, rfl, c1, c2, b5⟩; have CC := Lib.hid (And.intro c1 c2); have B5 := Lib.hid (HB.out.trans (b5.mono HB.out.size)); clear b5 c1 c2))
    by_cases hk0 : k < k0
    · have hc : ¬ 0 < c := fun h => HGT.out.2 k k1 hk0 (by
        rw [HGD.out]
        have h1 := CC.out.1
        have h2 := CC.out.2
        rcases Nat.lt_trichotomy (1 * 10 ^ k.toNat * 2 ^ (-E).toNat) (M * 10 ^ (-k).toNat * 2 ^ E.toNat) with h | h | h
        · have := h1.2 h; omega
        · have := h2.2 h; omega
        · exact h)
      have hcd : decide (0 < c) = false := decide_eq_false hc
      have KK := Lib.hid (And.intro k1 (And.intro k2 hk0))
      have HK := Lib.hid hk
      rw [hcd]
      have hkw : IntKind.i64.wrap (k + 1) = k + 1 := IntWalk.i64_in _ (by omega)
      clear hc k1 k2 hk0 hk hcd
      go_wp2_with fail
      have k1 := KK.out
      refine ⟨⟨k + 1, by go_num, by omega, by omega, B5.out⟩, by simp only [intOf]; omega⟩
    · obtain rfl : k = k0 := by omega
      have hc : 0 < c := by
        have h0 := HGT.out.1
        rw [HGD.out] at h0
        have h1 := CC.out.1
        have h2 := CC.out.2
        have h3 : ¬ c < 0 := fun h => by have := h1.1 h; omega
        have h4 : ¬ c = 0 := fun h => by have := h2.1 h; omega
        omega
      have hcd : decide (0 < c) = true := decide_eq_true hc
      have HK := Lib.hid hk
      rw [hcd]
      clear HA HGT HGD CC hc k1 k2 hk0 hk hcd
      go_wp2_with fail
      go_loopw [7] (fun s7 wr => ∃ n : Nat, 1 ≤ n ∧ n ≤ n0 ∧ s7 = .int .i64 n ∧ Below w.heap.size w wr) (fun s7 _ => n0 - (intOf s7).toNat)
      case atStart => exact ⟨1, Nat.le_refl _, hn.1, rfl, B5.out⟩
      case round =>
        clear B5
        obtain ⟨n, n1, n2, rfl, hB⟩ := hrel
        obtain ⟨wq, rfl⟩ : ∃ wq : World, wq = wr := ⟨_, rfl⟩
        obtain ⟨P, hP⟩ : ∃ P, k - (n : Int) = P := ⟨_, rfl⟩
        have hk := HK.out
        have hPb : -2000 ≤ P ∧ P ≤ 2000 := by omega
        have hPw : wrap64 P = P := by unfold wrap64; omega
        obtain ⟨a, ha⟩ : ∃ a, flX X P = a := ⟨_, rfl⟩
        have ha9 : a ≤ 1000000000000000000 := by rw [← ha]; exact flX_le X P
        have hai : (a : Int) ≤ 1000000000000000000 := by omega
        obtain ⟨a1, ha1⟩ : ∃ a1, a + 1 = a1 := ⟨_, rfl⟩
        have ha1i : (a : Int) + 1 = (a1 : Int) := by omega
        have HF := Lib.hid (fun W => HFi.out P hPb W)
        rw [ha] at HF
        have HT1 := Lib.hid (fun W => text19 a (by omega) W)
        have HT2 := Lib.hid (fun W => text19 a1 (by omega) W)
        have HN1 := Lib.hid (fun W => near19 a (by omega) P hPb W)
        have HN2 := Lib.hid (fun W => near19 a1 (by omega) P hPb W)
        have hstep : tryS X k n = if (hitB X a P && !(hitB X a1 P && overB X a P)) = true then some (trimL (txL n a), k) else if hitB X a1 P = true then (if a1 = 10 ^ n then some ([49], k + 1) else some (trimL (txL n a1), k)) else none := by
          unfold tryS
          rw [hP, ha, ha1]
        have hL : hitB X a P = ((nearR a P).2 && decide ((nearR a P).1 = X)) := rfl
        have hU : hitB X a1 P = ((nearR a1 P).2 && decide ((nearR a1 P).1 = X)) := rfl
        have l1 := near_lt a P
        have l2 := near_lt a1 P
        obtain ⟨r1, hr1⟩ : ∃ r, nearR a P = r := ⟨_, rfl⟩
        obtain ⟨r2, hr2⟩ : ∃ r, nearR a1 P = r := ⟨_, rfl⟩
        rw [hr1] at hL l1 HN1
        rw [hr2] at hU l2 HN2
        clear hr1 hr2
        obtain ⟨y, p⟩ := r1
        obtain ⟨z, q⟩ := r2
        change hitB X a P = (p && decide (y = X)) at hL
        change hitB X a1 P = (q && decide (z = X)) at hU
        change y < 9218868437227405312 at l1
        change z < 9218868437227405312 at l2
        have f1 := fo_eq_pos l1 HX.out
        have f2 := fo_eq_pos l2 HX.out
        obtain ⟨b1, hb1⟩ : ∃ b, decide (y = X) = b := ⟨_, rfl⟩
        obtain ⟨b2, hb2⟩ : ∃ b, decide (z = X) = b := ⟨_, rfl⟩
        rw [hb1] at f1 hL
        rw [hb2] at f2 hU
        obtain ⟨L, hLe⟩ : ∃ L, hitB X a P = L := ⟨_, rfl⟩
        obtain ⟨U, hUe⟩ : ∃ U, hitB X a1 P = U := ⟨_, rfl⟩
        rw [hLe] at hL hstep
        rw [hUe] at hU hstep
        have HB := Lib.hid hB
        have HS := Lib.hid hstep
        have HNN := Lib.hid (And.intro n1 n2)
        have HPB := Lib.hid hPb
        clear hB hstep hLe hUe hb1 hb2 l1 l2 hPb hk n1 n2 ha
        go_upto_region 10 with (first
          | (go_at_call 157; (with_reducible refine (HF.out _).mono ?_); rintro e w1 ⟨rfl, b⟩; have B1 := Lib.hid (HB.out.trans (b.mono HB.out.size)); clear b)
          | (go_at_call 158; (with_reducible refine (HT1.out _).mono ?_); rintro e w2 ⟨rfl, b⟩; have B2 := Lib.hid (B1.out.trans (b.mono B1.out.size)); clear b)
          | (go_at_call 96; (with_reducible refine (HN1.out _).mono ?_); rintro e w3 ⟨rfl, b⟩; have B3 := Lib.hid (B2.out.trans (b.mono B2.out.size)); clear b)
          | (go_at_call 158; (with_reducible refine (HT2.out _).mono ?_); rintro e w4 ⟨rfl, b⟩; have B4 := Lib.hid (B3.out.trans (b.mono B3.out.size)); clear b)
          | (go_at_call 96; (with_reducible refine (HN2.out _).mono ?_); rintro e w6 ⟨rfl, b⟩; have B6 := Lib.hid (B4.out.trans (b.mono B4.out.size)); clear b))
        go_cut [13, 14] (fun s13 s14 wx => s13 = .bool L ∧ s14 = .bool U ∧ wx = w6)
        case first =>
          cases p <;> cases b1 <;> cases q <;> cases b2 <;> (go_wp2_with fail; go_meet; exact ⟨by rw [hL]; rfl, by rw [hU]; rfl, rfl⟩)
        obtain ⟨rfl, rfl, hwc⟩ := hcut
        subst hwc
        clear hL hU f1 f2 HN1 HN2 HT1 HT2 HF
        obtain ⟨O, hO⟩ : ∃ O, overB X a P = O := ⟨_, rfl⟩
        have hov := HOV.out a P
        rw [hO] at hov
        have HO := Lib.hid hov
        have HS2 := HS.out
        rw [hO] at HS2
        have HS3 := Lib.hid HS2
        clear HS2 HS hov hO
        obtain ⟨w6, hw6⟩ : ∃ w6, w6 = wc := ⟨_, rfl⟩
        subst hw6
        go_upto_region 11 with fail
        go_cut [71] (fun s71 wx => s71 = .bool (L && U) ∧ wx = w6)
        case first =>
          cases L <;> cases U <;> (go_wp2_with fail; go_meet; exact ⟨rfl, rfl⟩)
        obtain ⟨rfl, hwc⟩ := hcut
        subst hwc
        go_upto_if 71 with fail
        go_cut [13] (fun s13 wx => s13 = .bool (L && !(U && O)) ∧ Below w.heap.size w wx)
        case first =>
          cases L with
          | false =>
            rw [Bool.false_and]
            go_wp2_with fail
            go_meet
            exact ⟨rfl, B6.out⟩
          | true =>
            cases U with
            | false =>
              rw [show (true && false) = false from rfl]
              go_wp2_with fail
              go_meet
              exact ⟨rfl, B6.out⟩
            | true =>
              rw [show (true && true) = true from rfl]
              obtain ⟨M2, hM2⟩ : ∃ M2, 2 * M = M2 := ⟨_, rfl⟩
              obtain ⟨A2, hA2⟩ : ∃ A2, 2 * a + 1 = A2 := ⟨_, rfl⟩
              have m2i : 2 * (M : Int) = (M2 : Int) := by omega
              have a2i : 2 * (a : Int) + 1 = (A2 : Int) := by omega
              have HG := Lib.hid (fun W => HMid.out a ha9 P HPB.out W)
              have HT := Lib.hid (fun W => text19 A2 (by omega) W)
              have hov := HO.out
              rw [hM2, hA2] at HG hov
              have HO2 := Lib.hid hov
              clear hov hM2 hA2 HMid
              go_upto_region 14 with (first
                | (go_at_call 130; (with_reducible refine (HPc.out _).mono ?_); rintro e w' ⟨rfl, rfl⟩)
                | (go_at_call 158; (with_reducible refine (HT.out _).mono ?_); rintro e w7 ⟨rfl, b⟩; have B7 := Lib.hid (B6.out.trans (b.mono B6.out.size)); clear b)
                | (go_at_call 131; (with_reducible refine (HG.out _).mono ?_); rintro e w8 ⟨c, rfl, c1, c2, b⟩; have CC := Lib.hid (And.intro c1 c2); have B8 := Lib.hid (B7.out.trans (b.mono B7.out.size)); clear b c1 c2))
              obtain ⟨par, hpar⟩ : ∃ par, a % 2 = par := ⟨_, rfl⟩
              have hpi : (a : Int) % 2 = (par : Int) := by omega
              have hp2 : par = 0 ∨ par = 1 := by omega
              have hc1 := CC.out.1
              have hc2 := CC.out.2
              have ho := HO2.out
              rcases Int.lt_trichotomy c 0 with h | h | h
              · have hot : O = true := by rw [ho, decide_eq_true (hc1.1 h)]; rfl
                subst hot
                have d1 : decide (c < 0) = true := decide_eq_true h
                clear hc1 hc2 ho h hp2 CC HG HT
                go_wp2_with fail
                go_meet
                exact ⟨rfl, B8.out⟩
              · subst h
                have hlt : ¬ A2 * 10 ^ P.toNat * 2 ^ (-E).toNat < M2 * 10 ^ (-P).toNat * 2 ^ E.toNat := fun h => by have := hc1.2 h; omega
                have heq := hc2.1 rfl
                rw [decide_eq_false hlt, decide_eq_true heq, Bool.false_or, Bool.true_and, hpar] at ho
                rcases hp2 with rfl | rfl
                · have hot : O = false := by rw [ho]; rfl
                  subst hot
                  clear hc1 hc2 ho hlt heq CC HG HT hpar
                  go_wp2_with fail
                  go_meet
                  exact ⟨rfl, B8.out⟩
                · have hot : O = true := by rw [ho]; rfl
                  subst hot
                  clear hc1 hc2 ho hlt heq CC HG HT hpar
                  go_wp2_with fail
                  go_meet
                  exact ⟨rfl, B8.out⟩
              · have hlt : ¬ A2 * 10 ^ P.toNat * 2 ^ (-E).toNat < M2 * 10 ^ (-P).toNat * 2 ^ E.toNat := fun h => by have := hc1.2 h; omega
                have hne : ¬ A2 * 10 ^ P.toNat * 2 ^ (-E).toNat = M2 * 10 ^ (-P).toNat * 2 ^ E.toNat := fun h => by have := hc2.2 h; omega
                have hot : O = false := by rw [ho, decide_eq_false hlt, decide_eq_false hne]; rfl
                subst hot
                have d1 : decide (c < 0) = false := decide_eq_false (by omega)
                have d2 : (c == 0) = false := by rw [beq_eq_false_iff_ne]; omega
                clear hc1 hc2 ho h hp2 CC HG HT hlt hne hpar
                go_wp2_with fail
                go_meet
                exact ⟨rfl, B8.out⟩
        obtain ⟨rfl, hBc⟩ := hcut
        obtain ⟨LL, hLL⟩ : ∃ b, (L && !(U && O)) = b := ⟨_, rfl⟩
        have HS4 := HS3.out
        rw [hLL] at HS4 ⊢
        have HBC := Lib.hid hBc
        have HLAST := Lib.hid (show ∀ q, tryS X k n = some q → n = n0 ∧ r = q from fun q h => by
          have hnn : n = n0 := Nat.le_antisymm HNN.out.2 (Nat.le_of_not_lt fun hlt => by
            have := HR.out.2 n HNN.out.1 hlt
            rw [this] at h
            cases h)
          refine ⟨hnn, ?_⟩
          have h2 := HR.out.1
          rw [← hnn, h] at h2
          exact (Option.some.inj h2).symm)
        have HNX := Lib.hid (show tryS X k n = none → n < n0 from fun h => Nat.lt_of_le_of_ne HNN.out.2 fun e => by
          have h2 := HR.out.1
          rw [← e, h] at h2
          cases h2)
        have hn40 : n ≤ 18 := by have := HNN.out.2; omega
        have hni : (n : Int) ≤ 18 := by omega
        clear hLL HS3 hBc HO HMid HOV HR HFi HPc
        cases LL with
        | true =>
          have hs : tryS X k n = some (trimL (txL n a), k) := HS4
          obtain ⟨hnn, hrr⟩ := HLAST.out _ hs
          subst hrr
          have HTn := Lib.hid (fun W => text16_any a n (by omega) (by omega) W)
          have HTr := Lib.hid (fun W => trim_l (txL n a) (by rw [txL_len]; omega) W)
          clear hs HS4 HLAST HNX hnn
          go_wp2_with (first
            | (go_at_call 158; (with_reducible refine (HTn.out _).mono ?_); rintro e w7 ⟨rfl, b⟩; have B7 := Lib.hid (HBC.out.trans (b.mono HBC.out.size)); clear b)
            | (go_at_call 159; (with_reducible refine (HTr.out _).mono ?_); rintro e w' ⟨rfl, rfl⟩))
          go_ret2
          exact ⟨rfl, B7.out⟩
        | false =>
          cases U with
          | false =>
            have hlt := HNX.out HS4
            have KN := Lib.hid hlt
            clear hlt HS4 HLAST HNX
            go_wp2_with fail
            refine ⟨⟨n + 1, by omega, KN.out, by go_num, HBC.out⟩, by have := KN.out; simp only [intOf]; omega⟩
          | true =>
            obtain ⟨T, hT⟩ : ∃ T, 10 ^ n = T := ⟨_, rfl⟩
            have HTe := Lib.hid (fun W => tens_any n (by omega) W)
            rw [hT] at HTe HS4
            clear hT HNX
            by_cases hq : a1 = T
            · have hs : tryS X k n = some ([49], k + 1) := by rw [HS4, if_neg (by simp), if_pos rfl, if_pos hq]
              obtain ⟨hnn, hrr⟩ := HLAST.out _ hs
              subst hrr
              have e1 : ((a1 : Int) == (T : Int)) = true := by rw [beq_iff_eq]; omega
              have hkw1 : IntKind.i64.wrap (k + 1) = k + 1 := IntWalk.i64_in _ (by have := HK.out; omega)
              have hkw2 : wrap64 (k + 1) = k + 1 := by have := HK.out; unfold wrap64; omega
              clear hs HS4 HLAST hnn hq
              go_wp2_with (go_at_call 160; (with_reducible refine (HTe.out _).mono ?_); rintro e w' ⟨rfl, rfl⟩)
              go_ret2
              exact ⟨rfl, HBC.out⟩
            · have hs : tryS X k n = some (trimL (txL n a1), k) := by rw [HS4, if_neg (by simp), if_pos rfl, if_neg hq]
              obtain ⟨hnn, hrr⟩ := HLAST.out _ hs
              subst hrr
              have e1 : ((a1 : Int) == (T : Int)) = false := by rw [beq_eq_false_iff_ne]; omega
              have HTn := Lib.hid (fun W => text16_any a1 n (by omega) (by omega) W)
              have HTr := Lib.hid (fun W => trim_l (txL n a1) (by rw [txL_len]; omega) W)
              clear hs HS4 HLAST hnn hq
              go_wp2_with (first
                | (go_at_call 160; (with_reducible refine (HTe.out _).mono ?_); rintro e w' ⟨rfl, rfl⟩)
                | (go_at_call 158; (with_reducible refine (HTn.out _).mono ?_); rintro e w7 ⟨rfl, b⟩; have B7 := Lib.hid (HBC.out.trans (b.mono HBC.out.size)); clear b)
                | (go_at_call 159; (with_reducible refine (HTr.out _).mono ?_); rintro e w' ⟨rfl, rfl⟩))
              go_ret2
              exact ⟨rfl, B7.out⟩
end Go.Proofs.YtcbgkbidgpemfaaGreatDoor.rh

/- burnishref16: the walk of laid. Conditions: as each theorem states. -/
namespace Go.Proofs.YtcbgkbidgpemfaaGreatDoor.rh
open Go.RowKit
open Go.Proofs.YtcbgkbidgpemfaaGreatDoor.rg
open Go.Proofs.YtcbgkbidgpemfaaGreatDoor.rdf

/-- the digits of k, of one to three places -/
def kL (k : Nat) : List UInt8 := txL (if 100 ≤ k then 3 else if 10 ≤ k then 2 else 1) k
/-- digits, 0.d times ten to k, as they are printed -/
def laidR (D : List UInt8) (k : Int) : List UInt8 :=
  if 1 ≤ k ∧ k ≤ 15 then
    if (D.length : Int) ≤ k then D ++ List.replicate (k - D.length).toNat 48
    else D.take k.toNat ++ [46] ++ D.drop k.toNat
  else if -4 ≤ k ∧ k ≤ 0 then [48, 46] ++ List.replicate (-k).toNat 48 ++ D
  else (if 1 < D.length then D.take 1 ++ [46] ++ D.drop 1 else D) ++ [101] ++ (if k - 1 < 0 then [45] else []) ++ kL (k - 1).natAbs
theorem app_list (s t : ByteArray) : (s ++ t).data.toList = s.data.toList ++ t.data.toList := by simp
theorem tail_list (t : ByteArray) (q : Nat) : (t.extract q t.size).data.toList = t.data.toList.drop q := by
  have h : t.data.toList.length = t.size := list_len t
  simp only [ByteArray.data_extract, Array.toList_extract, List.extract_eq_take_drop]
  rw [List.take_of_length_le]
  rw [List.length_drop, h]
  exact Nat.le_refl _
theorem str_of (t : ByteArray) (l : List UInt8) (h : t.data.toList = l) : Value.string t = .string ⟨l.toArray⟩ := by
  rw [← h, ← back_list]
set_option maxRecDepth 100000 in
set_option maxHeartbeats 2000000 in
theorem laid_any (d : ByteArray) (hd : 1 ≤ d.size ∧ d.size ≤ 30) (k : Int) (hk : -400 ≤ k ∧ k ≤ 400) (w : World) :
    Calls Tryz.prog 125 #[.string d, .int .i64 k] w (StrPost w (laidR d.data.toList k)) := by
  have hdl := list_len d
  obtain ⟨R, hR⟩ : ∃ R, laidR d.data.toList k = R := ⟨_, rfl⟩
  rw [hR]
  unfold laidR at hR
  rw [hdl] at hR
  have HR := Lib.hid hR
  have HDL := Lib.hid hdl
  have hdi : (d.size : Int) ≤ 30 := by omega
  have hd1 : (1 : Int) ≤ (d.size : Int) := by omega
  obtain ⟨d0, hd0⟩ : ∃ d0, d0 = d := ⟨_, rfl⟩
  have HD0 := Lib.hid hd0
  clear hR hdl
  by_cases c1 : 1 ≤ k ∧ k ≤ 15
  · obtain ⟨q, rfl⟩ : ∃ q : Nat, k = (q : Int) := ⟨k.toNat, by omega⟩
    have HR2 := HR.out
    rw [if_pos c1] at HR2
    have HC := Lib.hid HR2
    have k1 : (1 : Int) ≤ (q : Int) := c1.1
    have k2 : (q : Int) ≤ 15 := c1.2
    have d1 : decide ((1 : Int) ≤ (q : Int)) = true := decide_eq_true k1
    have d2 : decide (1 ≤ q) = true := decide_eq_true (by omega)
    clear HR2 c1 hk HR
    go_enter Tryz.func125, Tryz.ntmps125
    go_wp2_with fail
    go_loopw [0] (fun s0 wr => ∃ (t : ByteArray) (j : Nat), s0 = .string t ∧ t.data.toList = d.data.toList ++ List.replicate j 48 ∧ t.size = d.size + j ∧ (j = 0 ∨ d.size + j ≤ q) ∧ wr = w) (fun s0 _ => match s0 with | .string t => q - t.size | _ => 0)
    case atStart => exact ⟨d, 0, rfl, by simp, rfl, .inl rfl, rfl⟩
    case round =>
      obtain ⟨t, j, rfl, ht, hts, hj, hwr⟩ := hrel
      obtain rfl := hwr.symm
      have HT := Lib.hid (And.intro ht (And.intro hts hj))
      have hti : (t.size : Int) ≤ 50 := by omega
      clear ht hj
      by_cases hlt : t.size < q
      · have h1 : (t.size : Int) < (q : Int) := by omega
        have h2 : decide (t.size < q) = true := decide_eq_true hlt
        clear hts
        go_wp2_with fail
        refine ⟨⟨t ++ ⟨#[48]⟩, j + 1, rfl, ?_, ?_, ?_, by first | trivial | rfl⟩, ?_⟩
        · rw [app_list, HT.out.1, List.append_assoc, List.replicate_succ']
        · rw [ByteArray.size_append, HT.out.2.1]; rfl
        · have := HT.out.2.1; omega
        · simp only [ByteArray.size_append]
          have : (⟨#[48]⟩ : ByteArray).size = 1 := rfl
          omega
      · have h1 : ¬ (t.size : Int) < (q : Int) := by omega
        have h2 : decide (t.size < q) = false := decide_eq_false hlt
        have ht := HT.out.1
        have hj := HT.out.2.2
        by_cases hnk : q < d.size
        · have hj0 : j = 0 := by omega
          rw [hj0, List.replicate_zero, List.append_nil] at ht
          have htd : t = d := by rw [back_list t, ht, ← back_list]
          subst htd
          have hr := HC.out
          rw [if_neg (by omega), Int.toNat_natCast] at hr
          have HRR := Lib.hid hr
          have g1 : (q : Int) < (t.size : Int) := by omega
          have g2 : decide (q < t.size) = true := decide_eq_true hnk
          have g3 : (q : Int) ≤ (t.size : Int) := by omega
          clear hr ht hj hj0 hlt hnk HT hts
          have htl := HDL.out
          have HST := Lib.hid (show (t.extract 0 q ++ ⟨#[46]⟩ ++ t.extract q t.size).data.toList = R by
            rw [← HRR.out, app_list, app_list]
            have e1 : (t.extract 0 q).data.toList = t.data.toList.take q := by simp
            have e2 : (t.extract q t.size).data.toList = t.data.toList.drop q := tail_list t q
            rw [e1, e2])
          obtain ⟨T, hT⟩ : ∃ T, t.extract 0 q ++ ⟨#[46]⟩ ++ t.extract q t.size = T := ⟨_, rfl⟩
          rw [hT] at HST
          clear htl
          go_upto_region 6 with fail
          go_region
          go_wp2_with fail
          go_ret
          refine ⟨?_, (Below.refl _ _).drew⟩
          rw [← HST.out, ← back_list]
          rfl
        · have hr := HC.out
          rw [if_pos (by omega)] at hr
          have hts2 : t.data.toList = R := by
            rw [ht, ← hr]
            congr 2
            omega
          have HRR := Lib.hid hts2
          have g1 : ¬ (q : Int) < (d.size : Int) := by omega
          have g2 : decide (q < d.size) = false := decide_eq_false hnk
          clear hr ht hj hlt hnk HT hts hts2
          go_wp2_with fail
          go_ret
          refine ⟨?_, Below.refl _ _⟩
          rw [← HRR.out, ← back_list]
          rfl
  have HR1 := HR.out
  rw [if_neg c1] at HR1
  have d1 : (decide ((1 : Int) ≤ k) && decide (k ≤ 15)) = false := by
    rw [Bool.and_eq_false_iff, decide_eq_false_iff_not, decide_eq_false_iff_not]
    omega
  have HD1 := Lib.hid d1
  by_cases c2 : -4 ≤ k ∧ k ≤ 0
  · obtain ⟨q, hq⟩ : ∃ q : Nat, k = -(q : Int) := ⟨(-k).toNat, by omega⟩
    rw [if_pos c2] at HR1
    have hqn : (-k).toNat = q := by omega
    rw [hqn] at HR1
    have HC := Lib.hid HR1
    have HQ := Lib.hid hq
    have x1 : decide ((1 : Int) ≤ k) = false := decide_eq_false (by omega)
    have x2 : ¬ (1 : Int) ≤ k := by omega
    have x3 : (-4 : Int) ≤ k := c2.1
    have x4 : k ≤ (0 : Int) := c2.2
    clear c1 c2 hk HR HR1 d1 hqn hq HD1
    go_enter Tryz.func125, Tryz.ntmps125
    go_wp2_with fail
    go_loopw [0, 6] (fun s0 s6 wr => ∃ (t : ByteArray) (j : Nat) (m : Int), s0 = .string t ∧ s6 = .int .i64 m ∧ m = -(q : Int) + (j : Int) ∧ j ≤ q ∧ t.data.toList = List.replicate j 48 ++ d.data.toList ∧ t.size = d.size + j ∧ wr = w) (fun _ s6 _ => (-(intOf s6)).toNat)
    case atStart => exact ⟨d, 0, k, rfl, rfl, by rw [HQ.out]; omega, Nat.zero_le _, rfl, rfl, rfl⟩
    case round =>
      obtain ⟨t, j, m, rfl, rfl, hm, hj, ht, hts, hwr⟩ := hrel
      obtain rfl := hwr.symm
      have hq4 := HQ.out
      have hti : (t.size : Int) ≤ 50 := by omega
      have HT := Lib.hid (And.intro hm (And.intro hj (And.intro ht hts)))
      have m1 : (-4 : Int) ≤ m := by omega
      have m2 : m ≤ (0 : Int) := by omega
      clear ht hts hq4
      by_cases hlt : m < 0
      · have hw1 : IntKind.i64.wrap (m + 1) = m + 1 := IntWalk.i64_in _ (by omega)
        have hs1 : (⟨#[48]⟩ : ByteArray).size = 1 := rfl
        clear hm hj
        go_wp2_with fail
        refine ⟨⟨⟨#[48]⟩ ++ t, j + 1, m + 1, rfl, by go_num, ?_, ?_, ?_, ?_, by first | trivial | rfl⟩, by simp only [intOf]; omega⟩
        · have := HT.out.1; omega
        · have := HT.out.1; have := HT.out.2.1; omega
        · rw [app_list, HT.out.2.2.1, List.replicate_succ]
          rfl
        · rw [ByteArray.size_append, HT.out.2.2.2, hs1]
          omega
      · have hjq : j = q := by omega
        have HF := Lib.hid (show ((⟨#[48, 46]⟩ : ByteArray) ++ t).data.toList = R by
          rw [app_list, HT.out.2.2.1, hjq, ← HC.out, List.append_assoc])
        have hs2 : (⟨#[48, 46]⟩ : ByteArray).size = 2 := rfl
        clear hm hj hjq HT
        go_wp2_with fail
        go_ret
        exact ⟨congrArg Ending.returned (str_of _ _ HF.out), Below.refl _ _⟩
  rw [if_neg c2] at HR1
  have d2 : (decide ((-4 : Int) ≤ k) && decide (k ≤ 0)) = false := by
    rw [Bool.and_eq_false_iff, decide_eq_false_iff_not, decide_eq_false_iff_not]
    omega
  obtain ⟨m, hm⟩ : ∃ m, (k - 1).natAbs = m := ⟨_, rfl⟩
  rw [hm] at HR1
  have hm4 : m ≤ 401 := by omega
  have CT := Lib.hid (fun (many : Nat) (h : many ≤ 3) W => text16_any m many (by omega) (by omega) W)
  have HC := Lib.hid HR1
  clear HR HD1
  have hmm : m < 10 ∨ (10 ≤ m ∧ m < 100) ∨ 100 ≤ m := by omega
  have hdd : d.size = 1 ∨ 1 < d.size := by omega
  have hkk : 16 ≤ k ∨ k ≤ -5 := by omega
  have hw1 : IntKind.i64.wrap (k - 1) = k - 1 := IntWalk.i64_in _ (by omega)
  clear d1 d2
  have hcu : IntKind.u64.wrap (m : Int) = (m : Int) := by rw [IntKind.wrap_u64]; omega
  have hs1 : (⟨#[46]⟩ : ByteArray).size = 1 := rfl
  have hs2 : (⟨#[101]⟩ : ByteArray).size = 1 := rfl
  have hs3 : (⟨#[45]⟩ : ByteArray).size = 1 := rfl
  have HH : (d.extract 0 1).data.toList = d.data.toList.take 1 := by simp
  have HTL : (d.extract 1 d.size).data.toList = d.data.toList.drop 1 := tail_list d 1
  have HA := Lib.hid (And.intro HH HTL)
  have hone : (d.extract 0 1).size = 1 := by rw [ByteArray.size_extract]; omega
  have htwo : (d.extract 1 d.size).size ≤ 30 := by rw [ByteArray.size_extract]; omega
  clear HH HTL
  rcases hkk with hkk | hkk
  · have z1 : (1 : Int) ≤ k := by omega
    have z2 : ¬ k ≤ (15 : Int) := by omega
    have z3 : (-4 : Int) ≤ k := by omega
    have z4 : ¬ k ≤ (0 : Int) := by omega
    have z6 : k - 1 = (m : Int) := by omega
    have z5 : ¬ (m : Int) < 0 := by omega
    rw [if_neg (show ¬ k - 1 < 0 by omega)] at HR1
    rcases hdd with hdd | hdd
    · have y1 : decide (1 < d.size) = false := decide_eq_false (by omega)
      have y2 : ¬ (1 : Int) < (d.size : Int) := by omega
      have hr := HR1
      rw [if_neg (show ¬ 1 < d.size by omega)] at hr
      rcases hmm with hmm | hmm | hmm
      · exfalso
        omega
      · skip
        have x1 : (10 : Int) ≤ (m : Int) := by omega
        have x2 : ¬ (100 : Int) ≤ (m : Int) := by omega
        have x3 : decide (10 ≤ m) = true := decide_eq_true (by omega)
        have x4 : decide (100 ≤ m) = false := decide_eq_false (by omega)
        have hkL : kL m = txL 2 m := by unfold kL; rw [if_neg (by omega), if_pos (by omega)]
        rw [hkL] at hr
        have CT1 := Lib.hid (fun W => show Calls Tryz.prog 158 #[.int .u64 (m : Nat), .int .i64 2] W (StrPost W (txL 2 m)) from CT.out 2 (by decide) W)
        have HF := Lib.hid (show (d.extract 0 1 ++ ⟨#[101]⟩ ++ ⟨(txL 2 m).toArray⟩ : ByteArray).data.toList = R by
          rw [← hr]
          simp only [app_list, HA.out.1]
          rw [List.take_of_length_le (by rw [HDL.out]; omega)]
          simp)
        have hlt : ((⟨(txL 2 m).toArray⟩ : ByteArray)).size = 2 := by show (txL 2 m).toArray.size = _; rw [List.size_toArray, txL_len]
        clear hr hkL HR1 HC hdd hmm hkk CT HA HDL hk c1 c2 hm HD0 hd0
        go_enter Tryz.func125, Tryz.ntmps125
        go_wp2_with (go_at_call 158; (with_reducible refine (CT1.out _).mono ?_); rintro e w' ⟨rfl, hb⟩; have HB := Lib.hid hb; clear hb)
        go_ret
        exact ⟨congrArg Ending.returned (str_of _ _ HF.out), HB.out⟩
      · skip
        have x1 : (10 : Int) ≤ (m : Int) := by omega
        have x2 : (100 : Int) ≤ (m : Int) := by omega
        have x3 : decide (10 ≤ m) = true := decide_eq_true (by omega)
        have x4 : decide (100 ≤ m) = true := decide_eq_true (by omega)
        have hkL : kL m = txL 3 m := by unfold kL; rw [if_pos (by omega)]
        rw [hkL] at hr
        have CT1 := Lib.hid (fun W => show Calls Tryz.prog 158 #[.int .u64 (m : Nat), .int .i64 3] W (StrPost W (txL 3 m)) from CT.out 3 (by decide) W)
        have HF := Lib.hid (show (d.extract 0 1 ++ ⟨#[101]⟩ ++ ⟨(txL 3 m).toArray⟩ : ByteArray).data.toList = R by
          rw [← hr]
          simp only [app_list, HA.out.1]
          rw [List.take_of_length_le (by rw [HDL.out]; omega)]
          simp)
        have hlt : ((⟨(txL 3 m).toArray⟩ : ByteArray)).size = 3 := by show (txL 3 m).toArray.size = _; rw [List.size_toArray, txL_len]
        clear hr hkL HR1 HC hdd hmm hkk CT HA HDL hk c1 c2 hm HD0 hd0
        go_enter Tryz.func125, Tryz.ntmps125
        go_wp2_with (go_at_call 158; (with_reducible refine (CT1.out _).mono ?_); rintro e w' ⟨rfl, hb⟩; have HB := Lib.hid hb; clear hb)
        go_ret
        exact ⟨congrArg Ending.returned (str_of _ _ HF.out), HB.out⟩
    · have y1 : decide (1 < d.size) = true := decide_eq_true hdd
      have y2 : (1 : Int) < (d.size : Int) := by omega
      have hr := HR1
      rw [if_pos hdd] at hr
      rcases hmm with hmm | hmm | hmm
      · exfalso
        omega
      · skip
        have x1 : (10 : Int) ≤ (m : Int) := by omega
        have x2 : ¬ (100 : Int) ≤ (m : Int) := by omega
        have x3 : decide (10 ≤ m) = true := decide_eq_true (by omega)
        have x4 : decide (100 ≤ m) = false := decide_eq_false (by omega)
        have hkL : kL m = txL 2 m := by unfold kL; rw [if_neg (by omega), if_pos (by omega)]
        rw [hkL] at hr
        have CT1 := Lib.hid (fun W => show Calls Tryz.prog 158 #[.int .u64 (m : Nat), .int .i64 2] W (StrPost W (txL 2 m)) from CT.out 2 (by decide) W)
        have HF := Lib.hid (show (d.extract 0 1 ++ ⟨#[46]⟩ ++ d.extract 1 d.size ++ ⟨#[101]⟩ ++ ⟨(txL 2 m).toArray⟩ : ByteArray).data.toList = R by
          rw [← hr]
          simp only [app_list, HA.out.1, HA.out.2]
          simp)
        have hlt : ((⟨(txL 2 m).toArray⟩ : ByteArray)).size = 2 := by show (txL 2 m).toArray.size = _; rw [List.size_toArray, txL_len]
        clear hr hkL HR1 HC hdd hmm hkk CT HA HDL hk c1 c2 hm HD0 hd0
        go_enter Tryz.func125, Tryz.ntmps125
        go_wp2_with (go_at_call 158; (with_reducible refine (CT1.out _).mono ?_); rintro e w' ⟨rfl, hb⟩; have HB := Lib.hid hb; clear hb)
        go_ret
        exact ⟨congrArg Ending.returned (str_of _ _ HF.out), HB.out⟩
      · skip
        have x1 : (10 : Int) ≤ (m : Int) := by omega
        have x2 : (100 : Int) ≤ (m : Int) := by omega
        have x3 : decide (10 ≤ m) = true := decide_eq_true (by omega)
        have x4 : decide (100 ≤ m) = true := decide_eq_true (by omega)
        have hkL : kL m = txL 3 m := by unfold kL; rw [if_pos (by omega)]
        rw [hkL] at hr
        have CT1 := Lib.hid (fun W => show Calls Tryz.prog 158 #[.int .u64 (m : Nat), .int .i64 3] W (StrPost W (txL 3 m)) from CT.out 3 (by decide) W)
        have HF := Lib.hid (show (d.extract 0 1 ++ ⟨#[46]⟩ ++ d.extract 1 d.size ++ ⟨#[101]⟩ ++ ⟨(txL 3 m).toArray⟩ : ByteArray).data.toList = R by
          rw [← hr]
          simp only [app_list, HA.out.1, HA.out.2]
          simp)
        have hlt : ((⟨(txL 3 m).toArray⟩ : ByteArray)).size = 3 := by show (txL 3 m).toArray.size = _; rw [List.size_toArray, txL_len]
        clear hr hkL HR1 HC hdd hmm hkk CT HA HDL hk c1 c2 hm HD0 hd0
        go_enter Tryz.func125, Tryz.ntmps125
        go_wp2_with (go_at_call 158; (with_reducible refine (CT1.out _).mono ?_); rintro e w' ⟨rfl, hb⟩; have HB := Lib.hid hb; clear hb)
        go_ret
        exact ⟨congrArg Ending.returned (str_of _ _ HF.out), HB.out⟩
  · have z1 : ¬ (1 : Int) ≤ k := by omega
    have z3 : ¬ (-4 : Int) ≤ k := by omega
    have z5 : k - 1 < 0 := by omega
    have z6 : IntKind.i64.wrap (-(k - 1)) = (m : Int) := by rw [IntWalk.i64_in _ (by omega)]; omega
    rw [if_pos (show k - 1 < 0 by omega)] at HR1
    rcases hdd with hdd | hdd
    · have y1 : decide (1 < d.size) = false := decide_eq_false (by omega)
      have y2 : ¬ (1 : Int) < (d.size : Int) := by omega
      have hr := HR1
      rw [if_neg (show ¬ 1 < d.size by omega)] at hr
      rcases hmm with hmm | hmm | hmm
      · skip
        have x1 : ¬ (10 : Int) ≤ (m : Int) := by omega
        have x2 : ¬ (100 : Int) ≤ (m : Int) := by omega
        have x3 : decide (10 ≤ m) = false := decide_eq_false (by omega)
        have x4 : decide (100 ≤ m) = false := decide_eq_false (by omega)
        have hkL : kL m = txL 1 m := by unfold kL; rw [if_neg (by omega), if_neg (by omega)]
        rw [hkL] at hr
        have CT1 := Lib.hid (fun W => show Calls Tryz.prog 158 #[.int .u64 (m : Nat), .int .i64 1] W (StrPost W (txL 1 m)) from CT.out 1 (by decide) W)
        have HF := Lib.hid (show (d.extract 0 1 ++ ⟨#[101]⟩ ++ ⟨#[45]⟩ ++ ⟨(txL 1 m).toArray⟩ : ByteArray).data.toList = R by
          rw [← hr]
          simp only [app_list, HA.out.1]
          rw [List.take_of_length_le (by rw [HDL.out]; omega)])
        have hlt : ((⟨(txL 1 m).toArray⟩ : ByteArray)).size = 1 := by show (txL 1 m).toArray.size = _; rw [List.size_toArray, txL_len]
        clear hr hkL HR1 HC hdd hmm hkk CT HA HDL hk c1 c2 hm HD0 hd0
        go_enter Tryz.func125, Tryz.ntmps125
        go_wp2_with (go_at_call 158; (with_reducible refine (CT1.out _).mono ?_); rintro e w' ⟨rfl, hb⟩; have HB := Lib.hid hb; clear hb)
        go_ret
        exact ⟨congrArg Ending.returned (str_of _ _ HF.out), HB.out⟩
      · skip
        have x1 : (10 : Int) ≤ (m : Int) := by omega
        have x2 : ¬ (100 : Int) ≤ (m : Int) := by omega
        have x3 : decide (10 ≤ m) = true := decide_eq_true (by omega)
        have x4 : decide (100 ≤ m) = false := decide_eq_false (by omega)
        have hkL : kL m = txL 2 m := by unfold kL; rw [if_neg (by omega), if_pos (by omega)]
        rw [hkL] at hr
        have CT1 := Lib.hid (fun W => show Calls Tryz.prog 158 #[.int .u64 (m : Nat), .int .i64 2] W (StrPost W (txL 2 m)) from CT.out 2 (by decide) W)
        have HF := Lib.hid (show (d.extract 0 1 ++ ⟨#[101]⟩ ++ ⟨#[45]⟩ ++ ⟨(txL 2 m).toArray⟩ : ByteArray).data.toList = R by
          rw [← hr]
          simp only [app_list, HA.out.1]
          rw [List.take_of_length_le (by rw [HDL.out]; omega)])
        have hlt : ((⟨(txL 2 m).toArray⟩ : ByteArray)).size = 2 := by show (txL 2 m).toArray.size = _; rw [List.size_toArray, txL_len]
        clear hr hkL HR1 HC hdd hmm hkk CT HA HDL hk c1 c2 hm HD0 hd0
        go_enter Tryz.func125, Tryz.ntmps125
        go_wp2_with (go_at_call 158; (with_reducible refine (CT1.out _).mono ?_); rintro e w' ⟨rfl, hb⟩; have HB := Lib.hid hb; clear hb)
        go_ret
        exact ⟨congrArg Ending.returned (str_of _ _ HF.out), HB.out⟩
      · skip
        have x1 : (10 : Int) ≤ (m : Int) := by omega
        have x2 : (100 : Int) ≤ (m : Int) := by omega
        have x3 : decide (10 ≤ m) = true := decide_eq_true (by omega)
        have x4 : decide (100 ≤ m) = true := decide_eq_true (by omega)
        have hkL : kL m = txL 3 m := by unfold kL; rw [if_pos (by omega)]
        rw [hkL] at hr
        have CT1 := Lib.hid (fun W => show Calls Tryz.prog 158 #[.int .u64 (m : Nat), .int .i64 3] W (StrPost W (txL 3 m)) from CT.out 3 (by decide) W)
        have HF := Lib.hid (show (d.extract 0 1 ++ ⟨#[101]⟩ ++ ⟨#[45]⟩ ++ ⟨(txL 3 m).toArray⟩ : ByteArray).data.toList = R by
          rw [← hr]
          simp only [app_list, HA.out.1]
          rw [List.take_of_length_le (by rw [HDL.out]; omega)])
        have hlt : ((⟨(txL 3 m).toArray⟩ : ByteArray)).size = 3 := by show (txL 3 m).toArray.size = _; rw [List.size_toArray, txL_len]
        clear hr hkL HR1 HC hdd hmm hkk CT HA HDL hk c1 c2 hm HD0 hd0
        go_enter Tryz.func125, Tryz.ntmps125
        go_wp2_with (go_at_call 158; (with_reducible refine (CT1.out _).mono ?_); rintro e w' ⟨rfl, hb⟩; have HB := Lib.hid hb; clear hb)
        go_ret
        exact ⟨congrArg Ending.returned (str_of _ _ HF.out), HB.out⟩
    · have y1 : decide (1 < d.size) = true := decide_eq_true hdd
      have y2 : (1 : Int) < (d.size : Int) := by omega
      have hr := HR1
      rw [if_pos hdd] at hr
      rcases hmm with hmm | hmm | hmm
      · skip
        have x1 : ¬ (10 : Int) ≤ (m : Int) := by omega
        have x2 : ¬ (100 : Int) ≤ (m : Int) := by omega
        have x3 : decide (10 ≤ m) = false := decide_eq_false (by omega)
        have x4 : decide (100 ≤ m) = false := decide_eq_false (by omega)
        have hkL : kL m = txL 1 m := by unfold kL; rw [if_neg (by omega), if_neg (by omega)]
        rw [hkL] at hr
        have CT1 := Lib.hid (fun W => show Calls Tryz.prog 158 #[.int .u64 (m : Nat), .int .i64 1] W (StrPost W (txL 1 m)) from CT.out 1 (by decide) W)
        have HF := Lib.hid (show (d.extract 0 1 ++ ⟨#[46]⟩ ++ d.extract 1 d.size ++ ⟨#[101]⟩ ++ ⟨#[45]⟩ ++ ⟨(txL 1 m).toArray⟩ : ByteArray).data.toList = R by
          rw [← hr]
          simp only [app_list, HA.out.1, HA.out.2])
        have hlt : ((⟨(txL 1 m).toArray⟩ : ByteArray)).size = 1 := by show (txL 1 m).toArray.size = _; rw [List.size_toArray, txL_len]
        clear hr hkL HR1 HC hdd hmm hkk CT HA HDL hk c1 c2 hm HD0 hd0
        go_enter Tryz.func125, Tryz.ntmps125
        go_wp2_with (go_at_call 158; (with_reducible refine (CT1.out _).mono ?_); rintro e w' ⟨rfl, hb⟩; have HB := Lib.hid hb; clear hb)
        go_ret
        exact ⟨congrArg Ending.returned (str_of _ _ HF.out), HB.out⟩
      · skip
        have x1 : (10 : Int) ≤ (m : Int) := by omega
        have x2 : ¬ (100 : Int) ≤ (m : Int) := by omega
        have x3 : decide (10 ≤ m) = true := decide_eq_true (by omega)
        have x4 : decide (100 ≤ m) = false := decide_eq_false (by omega)
        have hkL : kL m = txL 2 m := by unfold kL; rw [if_neg (by omega), if_pos (by omega)]
        rw [hkL] at hr
        have CT1 := Lib.hid (fun W => show Calls Tryz.prog 158 #[.int .u64 (m : Nat), .int .i64 2] W (StrPost W (txL 2 m)) from CT.out 2 (by decide) W)
        have HF := Lib.hid (show (d.extract 0 1 ++ ⟨#[46]⟩ ++ d.extract 1 d.size ++ ⟨#[101]⟩ ++ ⟨#[45]⟩ ++ ⟨(txL 2 m).toArray⟩ : ByteArray).data.toList = R by
          rw [← hr]
          simp only [app_list, HA.out.1, HA.out.2])
        have hlt : ((⟨(txL 2 m).toArray⟩ : ByteArray)).size = 2 := by show (txL 2 m).toArray.size = _; rw [List.size_toArray, txL_len]
        clear hr hkL HR1 HC hdd hmm hkk CT HA HDL hk c1 c2 hm HD0 hd0
        go_enter Tryz.func125, Tryz.ntmps125
        go_wp2_with (go_at_call 158; (with_reducible refine (CT1.out _).mono ?_); rintro e w' ⟨rfl, hb⟩; have HB := Lib.hid hb; clear hb)
        go_ret
        exact ⟨congrArg Ending.returned (str_of _ _ HF.out), HB.out⟩
      · skip
        have x1 : (10 : Int) ≤ (m : Int) := by omega
        have x2 : (100 : Int) ≤ (m : Int) := by omega
        have x3 : decide (10 ≤ m) = true := decide_eq_true (by omega)
        have x4 : decide (100 ≤ m) = true := decide_eq_true (by omega)
        have hkL : kL m = txL 3 m := by unfold kL; rw [if_pos (by omega)]
        rw [hkL] at hr
        have CT1 := Lib.hid (fun W => show Calls Tryz.prog 158 #[.int .u64 (m : Nat), .int .i64 3] W (StrPost W (txL 3 m)) from CT.out 3 (by decide) W)
        have HF := Lib.hid (show (d.extract 0 1 ++ ⟨#[46]⟩ ++ d.extract 1 d.size ++ ⟨#[101]⟩ ++ ⟨#[45]⟩ ++ ⟨(txL 3 m).toArray⟩ : ByteArray).data.toList = R by
          rw [← hr]
          simp only [app_list, HA.out.1, HA.out.2])
        have hlt : ((⟨(txL 3 m).toArray⟩ : ByteArray)).size = 3 := by show (txL 3 m).toArray.size = _; rw [List.size_toArray, txL_len]
        clear hr hkL HR1 HC hdd hmm hkk CT HA HDL hk c1 c2 hm HD0 hd0
        go_enter Tryz.func125, Tryz.ntmps125
        go_wp2_with (go_at_call 158; (with_reducible refine (CT1.out _).mono ?_); rintro e w' ⟨rfl, hb⟩; have HB := Lib.hid hb; clear hb)
        go_ret
        exact ⟨congrArg Ending.returned (str_of _ _ HF.out), HB.out⟩
end Go.Proofs.YtcbgkbidgpemfaaGreatDoor.rh
