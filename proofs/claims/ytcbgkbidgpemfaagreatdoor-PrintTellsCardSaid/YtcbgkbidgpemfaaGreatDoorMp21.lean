/- fmtEFG on its road for 'e', shortest. No conditions but those stated. -/
import Derived.Test.YtcbgkbidgpemfaaGreatDoorMp20
import Derived.Test.YtcbgkbidgpemfaaGreatDoorMp06
import Derived.Test.YtcbgkbidgpemfaaGreatDoorMp18
namespace Go.Proofs.YtcbgkbidgpemfaaGreatDoor.prnw
open Go.RowKit
open Go.Shelf
open Go.Sort
open Go.Proofs.YtcbgkbidgpemfaaGreatDoor.nodew
open Go.Proofs.YtcbgkbidgpemfaaGreatDoor.chkw

/-- the exponent's digits -/
def expD (x : Nat) : List UInt8 :=
  if x < 10 then [48, UInt8.ofNat (48 + x)] else if x < 100 then [UInt8.ofNat (48 + x / 10), UInt8.ofNat (48 + x % 10)]
  else [UInt8.ofNat (48 + x / 100), UInt8.ofNat (48 + x / 10 % 10), UInt8.ofNat (48 + x % 10)]
theorem u8n (n : Nat) (h : n < 256) : (((UInt8.ofNat n).toNat : Nat) : Int) = (n : Int) := by
  rw [UInt8.toNat_ofNat']
  omega
theorem exp_v1 (x : Nat) (h : x < 10) : (#[.int .u8 48, .int .u8 ((x : Int) + 48)] : Array Value) = ([48, UInt8.ofNat (48 + x)].map bV).toArray := by
  have e1 := u8n (48 + x) (by omega)
  change _ = (#[.int .u8 48, .int .u8 ((UInt8.ofNat (48 + x)).toNat : Int)] : Array Value)
  rw [e1, show ((48 + x : Nat) : Int) = (x : Int) + 48 by omega]
theorem exp_v2 (x : Nat) (h : x < 100) : (#[.int .u8 ((x : Int) / 10 + 48), .int .u8 ((x : Int) % 10 + 48)] : Array Value) = ([UInt8.ofNat (48 + x / 10), UInt8.ofNat (48 + x % 10)].map bV).toArray := by
  have e1 := u8n (48 + x / 10) (by omega)
  have e2 := u8n (48 + x % 10) (by omega)
  change _ = (#[.int .u8 ((UInt8.ofNat (48 + x / 10)).toNat : Int), .int .u8 ((UInt8.ofNat (48 + x % 10)).toNat : Int)] : Array Value)
  rw [e1, e2, show ((48 + x / 10 : Nat) : Int) = (x : Int) / 10 + 48 by omega, show ((48 + x % 10 : Nat) : Int) = (x : Int) % 10 + 48 by omega]
theorem exp_v3 (x : Nat) (h : x < 1000) : (#[.int .u8 ((x : Int) / 100 + 48), .int .u8 ((x : Int) / 10 % 10 + 48), .int .u8 ((x : Int) % 10 + 48)] : Array Value) = ([UInt8.ofNat (48 + x / 100), UInt8.ofNat (48 + x / 10 % 10), UInt8.ofNat (48 + x % 10)].map bV).toArray := by
  have e0 := u8n (48 + x / 100) (by omega)
  have e1 := u8n (48 + x / 10 % 10) (by omega)
  have e2 := u8n (48 + x % 10) (by omega)
  change _ = (#[.int .u8 ((UInt8.ofNat (48 + x / 100)).toNat : Int), .int .u8 ((UInt8.ofNat (48 + x / 10 % 10)).toNat : Int), .int .u8 ((UInt8.ofNat (48 + x % 10)).toNat : Int)] : Array Value)
  rw [e0, e1, e2, show ((48 + x / 100 : Nat) : Int) = (x : Int) / 100 + 48 by omega, show ((48 + x / 10 % 10 : Nat) : Int) = (x : Int) / 10 % 10 + 48 by omega, show ((48 + x % 10 : Nat) : Int) = (x : Int) % 10 + 48 by omega]
/-- the text of digits d0 ds, of which the point stands behind dp -/
def efgT (d0 : UInt8) (ds : List UInt8) (dp : Int) : List UInt8 :=
  [d0] ++ (if ds = [] then [] else 46 :: ds) ++ [101] ++ [if dp - 1 < 0 then 45 else 43] ++ expD (dp - 1).natAbs
def EfPost (w : World) (base bb : Nat) (t : List UInt8) (x : Ending) (w' : World) : Prop :=
  ∃ g cap, x = .returned (.slice (some ⟨g, 0, none⟩) t.length cap) ∧ St w base bb w' g cap t
set_option maxRecDepth 100000 in
set_option maxHeartbeats 1000000 in
theorem efg_any (base bb g cap : Nat) (d0 : UInt8) (ds : List UInt8) (dp : Int) (p0 : -400 ≤ dp) (p1 : dp ≤ 400) (hlen : ds.length ≤ 20) (w : World) (hS : St w base bb w g cap [])
    (hd : ∀ j b, (d0 :: ds)[j]? = some b → w.cell? ⟨bb, j, none⟩ = some (bV b)) :
    Calls Tryz.prog 185 #[.slice (some ⟨g, 0, none⟩) 0 cap, .bool false, .slice (some ⟨bb, 0, none⟩) 32 32, .int .i64 dp, .int .i64 ((ds.length : Nat) + 1), .int .i64 (ds.length : Nat), .int .u8 101, .bool true] w (EfPost w base bb (efgT d0 ds dp)) := by
  have c0 : w.cell? ⟨bb, 0, none⟩ = some (.int .u8 (d0.toNat : Int)) := hd 0 d0 rfl
  have HS := Lib.hid hS
  have HD := Lib.hid hd
  obtain ⟨q, hq⟩ : ∃ q, q = ds.length := ⟨_, rfl⟩
  rw [← hq] at hlen ⊢
  have HQ := Lib.hid hq
  have q0 : (0 : Int) ≤ (q : Int) := by omega
  have q1 : (q : Int) ≤ 20 := by omega
  have q2 : ((q : Int) + 1 == 0) = false := by rw [beq_eq_false_iff_ne]; omega
  clear hS hd hq hlen
  go_enter Tryz.func185, Tryz.ntmps185
  go_upto_region 25 with (fail)
  clear c0
  go_upto_region 26 with (at_builtin; refine wl_put8 HS.out rfl (.tmp 87) (.tmp 89) rfl [d0] 1 _ rfl rfl (by decide) 0 rfl (by decide) rfl rfl ?_; intro g1 c1 w1 hS1)
  obtain ⟨l, hl⟩ : ∃ l, l = [d0] ++ (if ds = [] then [] else 46 :: ds) := ⟨_, rfl⟩
  have HL := Lib.hid hl
  have HS1 := Lib.hid hS1
  clear hl hS1
  go_upto_if 92 with (fail)
  go_cut [0] from 20 to 119 (fun s0 wx => ∃ g' c', s0 = .slice (some ⟨g', 0, none⟩) l.length c' ∧ St w base bb wx g' c' l)
  case first =>
    by_cases h0 : q = 0
    · have hds : ds = [] := List.length_eq_zero_iff.1 (by rw [← HQ.out]; exact h0)
      have hl1 : l = [d0] := by rw [HL.out, if_pos hds]; rfl
      have HL1 := Lib.hid hl1
      have hq0 : decide (0 < q) = false := decide_eq_false (by omega)
      have hq1 : ¬ 0 < q := by omega
      clear hds hl1 h0
      go_wp2_with fail
      go_meet
      exact ⟨g1, c1, by rw [HL1.out]; rfl, by rw [HL1.out]; exact HS1.out⟩
    · have hds : ¬ ds = [] := fun e => h0 (by rw [HQ.out, e]; rfl)
      have hl1 : l = [d0] ++ [46] ++ ds := by rw [HL.out, if_neg hds]; simp
      have HL1 := Lib.hid hl1
      have hq0 : 0 < q := by omega
      have hq1 : decide (0 < q) = true := decide_eq_true hq0
      clear hds hl1
      go_upto_region 28 with (at_builtin; refine wl_put8 HS1.out rfl (.tmp 93) (.tmp 94) rfl [46] 1 _ rfl rfl (by decide) 1 rfl (by decide) rfl rfl ?_; intro g2 c2 w2 hS2)
      have HS2 := Lib.hid hS2
      have q3 : (1 : Int) < (q : Int) + 1 := by omega
      clear hS2
      go_upto_region 31 with (fail)
      have s1 : ((q : Int) + 1).toNat = q + 1 := by omega
      have s2 : q + 1 - 1 = q := by omega
      have s3 : (q : Int) + 1 ≤ 32 := by omega
      have s4 : q + 1 ≤ 32 := by omega
      go_upto_region 32 with (at_builtin; refine wl_digs8 HS2.out rfl (.tmp 103) (.tmp 107) rfl ds 1 q 31 HQ.out.symm hq0 2 rfl (by omega) (fun j b hb => by have := HD.out (1 + j) b (by rw [Nat.add_comm, List.getElem?_cons_succ]; exact hb); exact this) rfl rfl ?_; intro g3 c3 w3 hS3)
      clear s1 s2 s3 s4
      have HS3 := Lib.hid hS3
      have hq5 : (q : Int) + 1 - ((q : Int) + 1) = 0 := by omega
      clear hS3
      go_wp2_with fail
      go_loopw [0, 114] (fun s0 i wr => s0 = .slice (some ⟨g3, 0, none⟩) (2 + q) c3 ∧ i = .int .i64 0 ∧ wr = w3) (fun _ _ _ => 0)
      case atStart => exact ⟨rfl, rfl, rfl⟩
      case round =>
        obtain ⟨rfl, rfl, rfl⟩ := hrel
        go_wp2_with fail
        go_meet
        exact ⟨g3, c3, by rw [HL1.out, HQ.out]; simp only [List.length_append, List.length_cons, List.length_nil], by rw [HL1.out]; exact HS3.out⟩
  case rest =>
    obtain ⟨g4, c4, rfl, hS4⟩ := hcut
    have hLb : l.length ≤ 22 := by
      rw [HL.out]
      have := HQ.out
      split <;> simp <;> omega
    have HS4 := Lib.hid hS4
    obtain ⟨L, hL⟩ : ∃ L, l.length = L := ⟨_, rfl⟩
    rw [hL] at hLb ⊢
    have HL2 := Lib.hid hL
    obtain ⟨c, hc⟩ : ∃ c : UInt8, c = if dp - 1 < 0 then 45 else 43 := ⟨_, rfl⟩
    obtain ⟨x, hx⟩ : ∃ x, x = (dp - 1).natAbs := ⟨_, rfl⟩
    have hx4 : x ≤ 401 := by omega
    have HC := Lib.hid hc
    have HX := Lib.hid hx
    clear hS4 hc hx hL
    go_upto_region 38 with (at_builtin; refine wl_put8 HS4.out rfl (.tmp 120) (.tmp 122) rfl [101] 1 _ rfl rfl (by decide) L HL2.out (by omega) rfl rfl ?_; intro g5 c5 w5 hS5)
    have HS5 := Lib.hid hS5
    clear hS5
    go_upto_if 129 with (fail)
    go_cut [19, 22] from 129 to 131 (fun s19 s22 wx => s19 = .int .u8 (c.toNat : Int) ∧ s22 = .int .i64 (x : Int) ∧ wx = w5)
    case first =>
      by_cases hneg : dp - 1 < 0
      · have hc1 : ((c.toNat : Nat) : Int) = 45 := by rw [HC.out, if_pos hneg]; rfl
        have hx1 : (x : Int) = -(dp - 1) := by have := HX.out; omega
        have HC1 := Lib.hid hc1
        have HX1 := Lib.hid hx1
        have hd1 : decide (dp - 1 < 0) = true := decide_eq_true hneg
        clear hc1 hx1
        go_wp2_with fail
        go_meet
        exact ⟨by rw [HC1.out], by rw [HX1.out], rfl⟩
      · have hc1 : ((c.toNat : Nat) : Int) = 43 := by rw [HC.out, if_neg hneg]; rfl
        have hx1 : (x : Int) = dp - 1 := by have := HX.out; omega
        have HC1 := Lib.hid hc1
        have HX1 := Lib.hid hx1
        have hd1 : decide (dp - 1 < 0) = false := decide_eq_false hneg
        clear hc1 hx1
        go_wp2_with fail
        go_meet
        exact ⟨by rw [HC1.out], by rw [HX1.out], rfl⟩
    case rest =>
      obtain ⟨rfl, rfl, rfl⟩ := hcut
      have hxi : (x : Int) ≤ 401 := by omega
      have hx0 : (0 : Int) ≤ (x : Int) := by omega
      go_upto_region 47 with (at_builtin; refine wl_put8 HS5.out rfl (.tmp 132) (.tmp 134) rfl [c] 1 _ rfl rfl (by decide) (L + 1) (by rw [List.length_append, HL2.out]; rfl) (by omega) rfl rfl ?_; intro g6 c6 w6 hS6)
      have HS6 := Lib.hid hS6
      clear hS6
      by_cases h10 : x < 10
      · have ht : efgT d0 ds dp = l ++ [101] ++ [c] ++ [48, UInt8.ofNat (48 + x)] := by
          unfold efgT expD
          rw [← HX.out, if_pos h10, ← HC.out, HL.out]
        have HTT := Lib.hid ht
        have e1 : decide (x < 10) = true := decide_eq_true h10
        clear ht
        go_wp2_with (at_builtin; refine wl_put8 HS6.out rfl (.tmp 155) (.tmp 159) rfl [48, UInt8.ofNat (48 + x)] 2 _ (exp_v1 x h10) rfl (by decide) (L + 1 + 1) (by rw [List.length_append, List.length_append, HL2.out]; rfl) (by omega) rfl rfl ?_; intro g7 c7 w7 hS7; have HS7 := Lib.hid hS7; clear hS7)
        go_ret
        exact ⟨g7, c7, by rw [HTT.out, List.length_append, List.length_append, List.length_append, HL2.out]; rfl, by rw [HTT.out]; exact HS7.out⟩
      · have e1 : decide (x < 10) = false := decide_eq_false h10
        by_cases h100 : x < 100
        · have ht : efgT d0 ds dp = l ++ [101] ++ [c] ++ [UInt8.ofNat (48 + x / 10), UInt8.ofNat (48 + x % 10)] := by
            unfold efgT expD
            rw [← HX.out, if_neg h10, if_pos h100, ← HC.out, HL.out]
          have HTT := Lib.hid ht
          have e2 : decide (x < 100) = true := decide_eq_true h100
          clear ht
          go_wp2_with (at_builtin; refine wl_put8 HS6.out rfl (.tmp 164) (.tmp 173) rfl [UInt8.ofNat (48 + x / 10), UInt8.ofNat (48 + x % 10)] 2 _ (exp_v2 x h100) rfl (by decide) (L + 1 + 1) (by rw [List.length_append, List.length_append, HL2.out]; rfl) (by omega) rfl rfl ?_; intro g7 c7 w7 hS7; have HS7 := Lib.hid hS7; clear hS7)
          go_ret
          exact ⟨g7, c7, by rw [HTT.out, List.length_append, List.length_append, List.length_append, HL2.out]; rfl, by rw [HTT.out]; exact HS7.out⟩
        · have ht : efgT d0 ds dp = l ++ [101] ++ [c] ++ [UInt8.ofNat (48 + x / 100), UInt8.ofNat (48 + x / 10 % 10), UInt8.ofNat (48 + x % 10)] := by
            unfold efgT expD
            rw [← HX.out, if_neg h10, if_neg h100, ← HC.out, HL.out]
          have HTT := Lib.hid ht
          have e2 : decide (x < 100) = false := decide_eq_false h100
          clear ht
          go_wp2_with (at_builtin; refine wl_put8 HS6.out rfl (.tmp 136) (.tmp 150) rfl [UInt8.ofNat (48 + x / 100), UInt8.ofNat (48 + x / 10 % 10), UInt8.ofNat (48 + x % 10)] 3 _ (exp_v3 x (by omega)) rfl (by decide) (L + 1 + 1) (by rw [List.length_append, List.length_append, HL2.out]; rfl) (by omega) rfl rfl ?_; intro g7 c7 w7 hS7; have HS7 := Lib.hid hS7; clear hS7)
          go_ret
          exact ⟨g7, c7, by rw [HTT.out, List.length_append, List.length_append, List.length_append, HL2.out]; rfl, by rw [HTT.out]; exact HS7.out⟩
end Go.Proofs.YtcbgkbidgpemfaaGreatDoor.prnw

/- Plain mathematics ahead of ftoa64: digits, the parts of a float. No conditions but those stated. -/
namespace Go.Proofs.YtcbgkbidgpemfaaGreatDoor.prnw
open Go.RowKit
open Go.Shelf
open Go.Sort
open Go.Proofs.YtcbgkbidgpemfaaGreatDoor.nodew
open Go.Proofs.YtcbgkbidgpemfaaGreatDoor.chkw

theorem pow_nDigits (u : Nat) (h : 1 ≤ u) : 10 ^ (Lib.nDigits u - 1) ≤ u := by
  induction u using Nat.strongRecOn with
  | _ u ih =>
    by_cases h1 : u < 10
    · rw [Lib.nDigits_small h1]; simpa using h
    · have h2 := ih (u / 10) (by omega) (by omega)
      have h3 := Lib.nDigits_pos (u / 10)
      rw [Lib.nDigits_big h1, show Lib.nDigits (u / 10) + 1 - 1 = (Lib.nDigits (u / 10) - 1) + 1 by omega, Nat.pow_succ]
      omega
theorem dg_first (u : Nat) (h : 1 ≤ u) : Lib.dg u (Lib.nDigits u - 1 - 0) ≠ 48 := by
  have h1 := pow_nDigits u h
  have h2 := Lib.lt_pow_nDigits u
  have h3 := Lib.nDigits_pos u
  obtain ⟨k, hk⟩ : ∃ k, Lib.nDigits u = k + 1 := ⟨Lib.nDigits u - 1, by omega⟩
  rw [hk] at h1 h2 ⊢
  rw [show k + 1 - 1 = k by omega] at h1
  rw [show k + 1 - 1 - 0 = k by omega]
  rw [Nat.pow_succ] at h2
  have p : 0 < 10 ^ k := Nat.pow_pos (by decide)
  have q1 : 1 ≤ u / 10 ^ k := (Nat.le_div_iff_mul_le p).2 (by omega)
  have q2 : u / 10 ^ k < 10 := Nat.div_lt_of_lt_mul h2
  unfold Lib.dg
  intro e
  have e2 := congrArg UInt8.toNat e
  rw [UInt8.toNat_ofNat', Nat.mod_eq_of_lt q2] at e2
  have : (48 : UInt8).toNat = 48 := rfl
  omega
theorem trim_pos (u : Nat) (h : 1 ≤ u) : ∀ n, 1 ≤ n → 1 ≤ trimTo u n
  | 0, h0 => by omega
  | 1, _ => by
    unfold trimTo
    rw [if_neg (dg_first u h)]
    exact Nat.le_refl _
  | n + 2, _ => by
    unfold trimTo
    split
    · exact trim_pos u h (n + 1) (by omega)
    · omega
theorem dg_digit (u j : Nat) : 48 ≤ (Lib.dg u j).toNat ∧ (Lib.dg u j).toNat ≤ 57 := by
  unfold Lib.dg
  rw [UInt8.toNat_ofNat']
  omega
/-- the first digit, and the others that count -/
def sdH (u : Nat) : UInt8 := Lib.dg u (Lib.nDigits u - 1)
def sdL (u : Nat) : List UInt8 := (List.range (trimTo u (Lib.nDigits u) - 1)).map fun t => Lib.dg u (Lib.nDigits u - 1 - (t + 1))
theorem sdL_len (u : Nat) (h : 1 ≤ u) : (sdL u).length + 1 = trimTo u (Lib.nDigits u) := by
  have := trim_pos u h _ (Lib.nDigits_pos u)
  unfold sdL
  rw [List.length_map, List.length_range]
  omega
theorem sd_at (u j : Nat) (b : UInt8) (h : (sdH u :: sdL u)[j]? = some b) (hu : 1 ≤ u) : j < Lib.nDigits u ∧ b = Lib.dg u (Lib.nDigits u - 1 - j) := by
  have ht := trim_le u (Lib.nDigits u)
  have hl := sdL_len u hu
  cases j with
  | zero =>
    rw [List.getElem?_cons_zero] at h
    exact ⟨Lib.nDigits_pos u, (Option.some.inj h).symm⟩
  | succ j =>
    rw [List.getElem?_cons_succ] at h
    obtain ⟨hj, he⟩ := List.getElem?_eq_some_iff.1 h
    refine ⟨by omega, ?_⟩
    rw [← he]
    simp [sdL]
/-- a mantissa set to the left end -/
theorem shl_bd (M : Nat) (h : 1 ≤ M) (h2 : M < 9007199254740992) : 1 ≤ Lib.bitLen M ∧ Lib.bitLen M ≤ 53 ∧ 9223372036854775808 ≤ M * 2 ^ (64 - Lib.bitLen M) ∧ M * 2 ^ (64 - Lib.bitLen M) < 18446744073709551616 := by
  obtain ⟨a, b, c, d⟩ := bl_bd 64 M (by omega) (by omega)
  change 1 ≤ Lib.bitLen M at a
  change Lib.bitLen M ≤ 64 at b
  change 2 ^ (Lib.bitLen M - 1) ≤ M at c
  change M < 2 ^ Lib.bitLen M at d
  obtain ⟨L, hL⟩ : ∃ L, Lib.bitLen M = L := ⟨_, rfl⟩
  rw [hL] at a b c d ⊢
  have h53 : L ≤ 53 := by
    apply Nat.le_of_not_lt
    intro h
    have h5 := Nat.pow_le_pow_right (show 0 < 2 by decide) (show 53 ≤ L - 1 by omega)
    have : (2 : Nat) ^ 53 = 9007199254740992 := by decide
    omega
  have p : 0 < 2 ^ (64 - L) := Nat.pow_pos (by decide)
  have e1 : 2 ^ (L - 1) * 2 ^ (64 - L) = 9223372036854775808 := by
    rw [← Nat.pow_add, show L - 1 + (64 - L) = 63 by omega]
  have e2 : 2 ^ L * 2 ^ (64 - L) = 18446744073709551616 := by
    rw [← Nat.pow_add, show L + (64 - L) = 64 by omega]
  have q1 := Nat.mul_le_mul_right (2 ^ (64 - L)) c
  have q2 := (Nat.mul_lt_mul_right p).2 d
  exact ⟨a, h53, by omega, by omega⟩
end Go.Proofs.YtcbgkbidgpemfaaGreatDoor.prnw

/- The printed digits: the model's words in plain numbers. -/
namespace Go.Proofs.YtcbgkbidgpemfaaGreatDoor.fpm
open Go Go.RowKit Go.Proofs.YtcbgkbidgpemfaaGreatDoor.prnw

end Go.Proofs.YtcbgkbidgpemfaaGreatDoor.fpm

/- The digits that are printed lie in the number's interval. Plain. -/
namespace Go.Proofs.YtcbgkbidgpemfaaGreatDoor.fpm
open Go Go.RowKit Go.Proofs.YtcbgkbidgpemfaaGreatDoor.prnw

/-- how many binary places below one the halves of halves of the least unit are -/
def upB : Nat := 1076
theorem upB_eq : upB = 1076 := rfl
/-- a whole number of the power P against a whole number of halves: two spellings of one comparison -/
theorem scale_id (P E : Int) (h0 : -348 ≤ P) (i : Nat) (hi : i = (P + 348).toNat) (lp : Int) (hlp : lp = P * 108853 / 32768) (hE : -1074 ≤ E) (S s : Nat) (hS : 2 ≤ S) (hs : (s : Int) = S - 3 - E - lp) (k W : Nat) :
    ∃ α β : Nat, 0 < α ∧ 0 < β ∧ k * (4 * (dT i * 2 ^ (128 + s))) * α = k * 2 ^ upB * 10 ^ (-P).toNat * β ∧ W * 2 ^ (S - 2) * nT i * α = W * 2 ^ (E + 1074).toNat * 10 ^ P.toNat * β := by
  have hid := nd_id P h0 i hi lp hlp
  have hd := dT_pos i
  have hB := upB_eq
  obtain ⟨u, hu⟩ : ∃ u, u = (lp - 127).toNat := ⟨_, rfl⟩
  obtain ⟨v, hv⟩ : ∃ v, v = (127 - lp).toNat := ⟨_, rfl⟩
  obtain ⟨t, ht⟩ : ∃ t, t = (E + 1074).toNat := ⟨_, rfl⟩
  rw [← hu, ← hv] at hid
  rw [← ht]
  refine ⟨10 ^ (-P).toNat * 2 ^ u * 2 ^ (S - 2 + v + upB), dT i * 2 ^ (130 + s + u + (S - 2 + v)), ?_, ?_, ?_, ?_⟩
  · exact Nat.mul_pos (Nat.mul_pos (Nat.pow_pos (by decide)) (Nat.two_pow_pos _)) (Nat.two_pow_pos _)
  · exact Nat.mul_pos hd (Nat.two_pow_pos _)
  · have e : 4 * 2 ^ (128 + s) * 2 ^ u * 2 ^ (S - 2 + v + upB) = 2 ^ upB * 2 ^ (130 + s + u + (S - 2 + v)) := by
      rw [show (4 : Nat) = 2 ^ 2 by decide, ← Nat.pow_add, ← Nat.pow_add, ← Nat.pow_add, ← Nat.pow_add]
      exact congrArg (fun z : Nat => 2 ^ z) (by omega)
    generalize 10 ^ (-P).toNat = T at *
    generalize 2 ^ (128 + s) = x1 at *
    generalize 2 ^ u = x2 at *
    generalize 2 ^ (S - 2 + v + upB) = x3 at *
    generalize 2 ^ upB = x4 at *
    generalize 2 ^ (130 + s + u + (S - 2 + v)) = x5 at *
    have e1 : k * (4 * (dT i * x1)) * (T * x2 * x3) = (k * T * dT i) * (4 * x1 * x2 * x3) := by ac_rfl
    have e2 : k * x4 * T * (dT i * x5) = (k * T * dT i) * (x4 * x5) := by ac_rfl
    rw [e1, e2, e]
  · have e : 2 ^ (S - 2) * 2 ^ v * 2 ^ (S - 2 + v + upB) = 2 ^ t * 2 ^ (130 + s + u + (S - 2 + v)) := by
      rw [← Nat.pow_add, ← Nat.pow_add, ← Nat.pow_add]
      exact congrArg (fun z : Nat => 2 ^ z) (by omega)
    generalize 10 ^ (-P).toNat = T at *
    generalize 10 ^ P.toNat = T' at *
    generalize 2 ^ (S - 2) = x1 at *
    generalize 2 ^ u = x2 at *
    generalize 2 ^ v = x6 at *
    generalize 2 ^ (S - 2 + v + upB) = x3 at *
    generalize 2 ^ t = x4 at *
    generalize 2 ^ (130 + s + u + (S - 2 + v)) = x5 at *
    have e1 : W * x1 * nT i * (T * x2 * x3) = (W * x1 * x3) * (nT i * T * x2) := by ac_rfl
    have e2 : W * x4 * T' * (dT i * x5) = (W * T' * dT i) * (x4 * x5) := by ac_rfl
    have e3 : (W * x1 * x3) * (dT i * T' * x6) = (W * T' * dT i) * (x1 * x6 * x3) := by ac_rfl
    rw [e1, hid, e2, e3, e]
/-- the power of ten and the shift for a number's last place E -/
def powB (E : Int) : Bool := decide (10 ^ (E * 78913 / 262144).toNat * 2 ^ (-E).toNat ≤ 10 ^ (-(E * 78913 / 262144)).toNat * 2 ^ E.toNat)
def powC (E : Int) : Bool := decide (4 * (10 ^ ((E * 631305 - 261663) / 2097152).toNat * 2 ^ (-E).toNat) ≤ 3 * (10 ^ (-((E * 631305 - 261663) / 2097152)).toNat * 2 ^ E.toNat))
theorem powAll : (List.range 2046).all (fun j => powB ((j : Int) - 1074) && powC ((j : Int) - 1074)) = true := by kernel_rfl
theorem pow_at (E : Int) (h0 : -1074 ≤ E) (h1 : E ≤ 971) : powB E = true ∧ powC E = true := by
  have := List.all_eq_true.1 powAll (E + 1074).toNat (List.mem_range.2 (by omega))
  rw [show (((E + 1074).toNat : Nat) : Int) - 1074 = E by omega] at this
  simpa using this
/-- the number that is picked lies between -/
theorem pick (Q Amin Am Amax o : Nat) (hQ : 0 < Q) (ho : o ≤ 1) (hA0 : 0 < Amin) (h1 : Amin < Am) (hs1 : Amax + 2 * Amin ≤ 3 * Am) (hs2 : 2 * Am ≤ Amax + Amin) (hw : Amin + 4 * Q ≤ Amax)
    (hodd : o = 1 → Amin + 4 * Q < Amax ∨ ∃ n, Amin < n * (4 * Q) ∧ n * (4 * Q) < Amax) (k : Nat)
    (hk : k = if (unr Amin Q + o + 3) / 4 ≤ (unr Amax Q - o) / 4 / 10 * 10 then (unr Amax Q - o) / 4 / 10 * 10 else if (unr Amin Q + o + 3) / 4 < (unr Amax Q - o) / 4 then rnd (unr Am Q) else (unr Amin Q + o + 3) / 4) :
    (Amin ≤ k * (4 * Q) ∧ k * (4 * Q) ≤ Amax) ∧ (o = 1 → Amin < k * (4 * Q) ∧ k * (4 * Q) < Amax) := by
  have hdn : ∀ n, (unr Amin Q + o + 3) / 4 ≤ n ↔ (if o = 1 then Amin < n * (4 * Q) else Amin ≤ n * (4 * Q)) := fun n => by
    have ho2 : o = 0 ∨ o = 1 := by omega
    rcases ho2 with rfl | rfl
    · simp only [Nat.add_zero, Nat.zero_ne_one, if_false]; exact r_ceil Amin Q hQ n
    · simp only [if_true]; exact r_above Amin Q hQ n
  have hdx : ∀ n, n ≤ (unr Amax Q - o) / 4 ↔ (if o = 1 then n * (4 * Q) < Amax else n * (4 * Q) ≤ Amax) := fun n => by
    have ho2 : o = 0 ∨ o = 1 := by omega
    rcases ho2 with rfl | rfl
    · simp only [Nat.sub_zero, Nat.zero_ne_one, if_false]; exact r_under Amax Q hQ n
    · simp only [if_true]; exact r_below Amax Q hQ (by omega) n
  obtain ⟨dn, hdne⟩ : ∃ dn, dn = (unr Amin Q + o + 3) / 4 := ⟨_, rfl⟩
  obtain ⟨dx, hdxe⟩ : ∃ dx, dx = (unr Amax Q - o) / 4 := ⟨_, rfl⟩
  rw [← hdne, ← hdxe] at hk
  rw [← hdne] at hdn
  rw [← hdxe] at hdx
  obtain ⟨P, hP⟩ : ∃ P, P = 4 * Q := ⟨_, rfl⟩
  rw [← hP] at hw hodd hdn hdx ⊢
  -- it is enough that dn ≤ k ≤ dx
  suffices hkk : dn ≤ k ∧ k ≤ dx by
    have a := (hdn k).1 hkk.1
    have b := (hdx k).1 hkk.2
    by_cases h : o = 1
    · rw [if_pos h] at a b
      exact ⟨⟨by omega, by omega⟩, fun _ => ⟨a, b⟩⟩
    · rw [if_neg h] at a b
      exact ⟨⟨a, b⟩, fun h' => absurd h' h⟩
  have mono : ∀ n, (n + 1) * P = n * P + P := fun n => by rw [Nat.add_mul, Nat.one_mul]
  by_cases c1 : dn ≤ dx / 10 * 10
  · rw [if_pos c1] at hk
    omega
  · rw [if_neg c1] at hk
    by_cases c2 : dn < dx
    · rw [if_pos c2] at hk
      obtain ⟨q1, q2, _⟩ := r_round Am Q hQ
      rw [← hk, ← hP] at q1 q2
      refine ⟨?_, ?_⟩
      · apply Nat.le_of_not_lt
        intro hlt
        have n1 := (hdx (k + 2)).1 (by omega)
        have n3 : ¬ dn ≤ k := by omega
        rw [hdn k] at n3
        have e2 : (k + 2) * P = k * P + P + P := by rw [Nat.add_mul]; omega
        rw [e2] at n1
        split at n1 <;> split at n3 <;> omega
      · apply Nat.le_of_not_lt
        intro hlt
        obtain ⟨k', rfl⟩ : ∃ k', k = k' + 2 := ⟨k - 2, by omega⟩
        have n1 := (hdn k').1 (by omega)
        have n3 : ¬ k' + 2 ≤ dx := by omega
        rw [hdx (k' + 2)] at n3
        have e2 : (k' + 2) * P = k' * P + P + P := by rw [Nat.add_mul]; omega
        rw [e2] at n3 q1 q2
        split at n1 <;> split at n3 <;> omega
    · rw [if_neg c2] at hk
      rw [hk]
      refine ⟨Nat.le_refl _, ?_⟩
      -- there is a whole number between
      have hex : ∃ n, dn ≤ n ∧ n ≤ dx := by
        by_cases h : o = 1
        · rcases hodd h with hh | ⟨n, ha, hb⟩
          · refine ⟨dx, ?_, Nat.le_refl _⟩
            rw [hdn dx, if_pos h]
            have n3 : ¬ dx + 1 ≤ dx := by omega
            rw [hdx (dx + 1), if_pos h, mono] at n3
            omega
          · exact ⟨n, by rw [hdn n, if_pos h]; exact ha, by rw [hdx n, if_pos h]; exact hb⟩
        · refine ⟨dx, ?_, Nat.le_refl _⟩
          rw [hdn dx, if_neg h]
          have n3 : ¬ dx + 1 ≤ dx := by omega
          rw [hdx (dx + 1), if_neg h, mono] at n3
          omega
      obtain ⟨n, ha, hb⟩ := hex
      omega
end Go.Proofs.YtcbgkbidgpemfaaGreatDoor.fpm

/- A positive float's digits lie in its interval. Plain. -/
namespace Go.Proofs.YtcbgkbidgpemfaaGreatDoor.fpm
open Go Go.RowKit Go.Proofs.YtcbgkbidgpemfaaGreatDoor.prnw

theorem ft_range (X : Nat) (hX0 : 0 < X) (hX : X < 9218868437227405312) : 1 ≤ ftM X ∧ ftM X < 9007199254740992 ∧ -1074 ≤ ftE X - 52 ∧ ftE X - 52 ≤ 971 ∧ (ftM X < 4503599627370496 → ftE X - 52 = -1074) := by
  obtain ⟨a, b⟩ := ftM_pos X hX0
  unfold ftM ftE at *
  split at a
  · rename_i h
    rw [if_pos h] at b ⊢
    rw [if_pos h]
    omega
  · rename_i h
    rw [if_neg h] at b ⊢
    rw [if_neg h]
    omega
theorem bl_norm (M : Nat) (h1 : 4503599627370496 ≤ M) (h2 : M < 9007199254740992) : Lib.bitLen M = 53 := by
  obtain ⟨a, b, c, d⟩ := bl_bd 64 M (by omega) (by omega)
  change 2 ^ (Lib.bitLen M - 1) ≤ M at c
  change M < 2 ^ Lib.bitLen M at d
  have h53 : ¬ Lib.bitLen M ≤ 52 := fun h => by
    have := Nat.pow_le_pow_right (show 0 < 2 by decide) h
    have e : (2 : Nat) ^ 52 = 4503599627370496 := by decide
    omega
  have h54 : ¬ 54 ≤ Lib.bitLen M := fun h => by
    have := Nat.pow_le_pow_right (show 0 < 2 by decide) (show 53 ≤ Lib.bitLen M - 1 by omega)
    have e : (2 : Nat) ^ 53 = 9007199254740992 := by decide
    omega
  omega
theorem bl_sub (M : Nat) (h0 : 1 ≤ M) (h1 : M < 4503599627370496) : Lib.bitLen M ≤ 52 := by
  obtain ⟨a, b, c, d⟩ := bl_bd 64 M (by omega) (by omega)
  change 2 ^ (Lib.bitLen M - 1) ≤ M at c
  apply Nat.le_of_not_lt
  intro h
  have := Nat.pow_le_pow_right (show 0 < 2 by decide) (show 52 ≤ Lib.bitLen M - 1 by omega)
  have e : (2 : Nat) ^ 52 = 4503599627370496 := by decide
  omega
def powS (E : Int) : Bool := decide (E = 0) || decide (10 ^ (E * 78913 / 262144).toNat * 2 ^ (-E).toNat < 10 ^ (-(E * 78913 / 262144)).toNat * 2 ^ E.toNat)
theorem powSAll : (List.range 2046).all (fun j => powS ((j : Int) - 1074)) = true := by kernel_rfl
theorem powS_at (E : Int) (h0 : -1074 ≤ E) (h1 : E ≤ 971) : powS E = true := by
  have := List.all_eq_true.1 powSAll (E + 1074).toNat (List.mem_range.2 (by omega))
  rw [show (((E + 1074).toNat : Nat) : Int) - 1074 = E by omega] at this
  exact this
/-- the width of an interval, scaled -/
theorem width (P E : Int) (W c : Nat) (hE : -1074 ≤ E) (h : c * (10 ^ (-P).toNat * 2 ^ (-E).toNat) ≤ W * (10 ^ P.toNat * 2 ^ E.toNat)) (hc : c = 4) : 1 * 2 ^ upB * 10 ^ (-P).toNat ≤ W * 2 ^ (E + 1074).toNat * 10 ^ P.toNat := by
  subst hc
  have hB := upB_eq
  obtain ⟨t, ht⟩ : ∃ t, t = 1074 - (-E).toNat := ⟨_, rfl⟩
  have e1 : 2 ^ upB = 4 * (2 ^ (-E).toNat * 2 ^ t) := by
    rw [show (4 : Nat) = 2 ^ 2 by decide, ← Nat.pow_add, ← Nat.pow_add]
    exact congrArg (fun z : Nat => 2 ^ z) (by omega)
  have e2 : 2 ^ (E + 1074).toNat = 2 ^ E.toNat * 2 ^ t := by
    rw [← Nat.pow_add]
    exact congrArg (fun z : Nat => 2 ^ z) (by omega)
  rw [e1, e2]
  generalize 10 ^ (-P).toNat = x1 at *
  generalize 10 ^ P.toNat = x2 at *
  generalize 2 ^ (-E).toNat = x3 at *
  generalize 2 ^ E.toNat = x4 at *
  generalize 2 ^ t = x5 at *
  have := Nat.mul_le_mul_right x5 h
  have a1 : 1 * (4 * (x3 * x5)) * x1 = 4 * (x1 * x3) * x5 := by rw [Nat.one_mul]; ac_rfl
  have a2 : W * (x4 * x5) * x2 = W * (x2 * x4) * x5 := by ac_rfl
  rw [a1, a2]
  exact this
theorem width_lt (P E : Int) (hE : -1074 ≤ E) (h : 10 ^ (-P).toNat * 2 ^ (-E).toNat < 10 ^ P.toNat * 2 ^ E.toNat) : 1 * 2 ^ upB * 10 ^ (-P).toNat < 4 * 2 ^ (E + 1074).toNat * 10 ^ P.toNat := by
  have hB := upB_eq
  obtain ⟨t, ht⟩ : ∃ t, t = 1074 - (-E).toNat := ⟨_, rfl⟩
  have e1 : 2 ^ upB = 4 * (2 ^ (-E).toNat * 2 ^ t) := by
    rw [show (4 : Nat) = 2 ^ 2 by decide, ← Nat.pow_add, ← Nat.pow_add]
    exact congrArg (fun z : Nat => 2 ^ z) (by omega)
  have e2 : 2 ^ (E + 1074).toNat = 2 ^ E.toNat * 2 ^ t := by
    rw [← Nat.pow_add]
    exact congrArg (fun z : Nat => 2 ^ z) (by omega)
  have h5 : 0 < 2 ^ t := Nat.two_pow_pos t
  rw [e1, e2]
  generalize 10 ^ (-P).toNat = x1 at *
  generalize 10 ^ P.toNat = x2 at *
  generalize 2 ^ (-E).toNat = x3 at *
  generalize 2 ^ E.toNat = x4 at *
  generalize 2 ^ t = x5 at *
  have := (Nat.mul_lt_mul_right h5).2 h
  have a1 : 1 * (4 * (x3 * x5)) * x1 = 4 * (x1 * x3 * x5) := by rw [Nat.one_mul]; ac_rfl
  have a2 : 4 * (x4 * x5) * x2 = 4 * (x2 * x4 * x5) := by ac_rfl
  rw [a1, a2]
  omega
/-- two comparisons, scaled -/
theorem le_scaled {a b c d α β : Nat} (hα : 0 < α) (hβ : 0 < β) (h1 : a * α = c * β) (h2 : b * α = d * β) : a ≤ b ↔ c ≤ d := by
  refine ⟨fun h => ?_, fun h => ?_⟩
  · have := Nat.mul_le_mul_right α h
    rw [h1, h2] at this
    exact Nat.le_of_mul_le_mul_right this hβ
  · have := Nat.mul_le_mul_right β h
    rw [← h1, ← h2] at this
    exact Nat.le_of_mul_le_mul_right this hα
end Go.Proofs.YtcbgkbidgpemfaaGreatDoor.fpm

/- The digits of a positive float lie in its interval. Plain. -/
namespace Go.Proofs.YtcbgkbidgpemfaaGreatDoor.fpm
open Go Go.RowKit Go.Proofs.YtcbgkbidgpemfaaGreatDoor.prnw

/-- unrounded scaling at a printed number -/
theorem us_at (i s x : Nat) (h1 : 56 ≤ i) (h2 : i < 673) (hs : 5 ≤ s) (hs2 : s < 59) (hx0 : 4611686018427387904 ≤ x) (hx : x < 18446744073709551616) (hd : x % 512 = 0) :
    ∃ u : Nat, usI x (hiT i) (loT i) (s : Int) = (u : Int) ∧ u = unr (x * nT i) (dT i * 2 ^ (128 + s)) ∧ 7 ≤ u ∧ u < 9223372036854775808 := by
  obtain ⟨r1, r2, r3, r4, r5⟩ := row_spec i (by omega)
  have e := us_eq x (hiT i) (loT i) s hx r1 r2 r3 (by omega)
  have b := us_lo x (hiT i) (loT i) (s : Int) hx0 hx r1 r2 (by omega) (by omega)
  refine ⟨usN x (hiT i) (loT i) s, e, ?_, ?_, ?_⟩
  · have := us_print i s (x / 512) h1 h2 hs (by omega) (by omega)
    rw [show 512 * (x / 512) = x by omega] at this
    exact this
  · rw [e] at b; omega
  · rw [e] at b; omega
theorem ceil_n (u o : Nat) (h : u < 9223372036854775808) (ho : o ≤ 1) : ceilI (nudgeI (u : Int) (o : Int)) = (((u + o + 3) / 4 : Nat) : Int) := by
  unfold ceilI nudgeI
  rw [IntKind.wrap_u64, IntKind.wrap_u64, IntKind.wrap_u64]
  omega
theorem lt_scaled {a b c d α β : Nat} (hα : 0 < α) (hβ : 0 < β) (h1 : a * α = c * β) (h2 : b * α = d * β) : a < b ↔ c < d := by
  have := le_scaled hα hβ h2 h1
  omega
theorem floor_n (u o : Nat) (h : u < 9223372036854775808) (h7 : 7 ≤ u) (ho : o ≤ 1) : nudgeI (u : Int) (-(o : Int)) / 4 = (((u - o) / 4 : Nat) : Int) := by
  unfold nudgeI
  rw [IntKind.wrap_u64, IntKind.wrap_u64]
  omega
/-- a float's mantissa, normalized: what the code has set up -/
structure Base (M S m p2 : Nat) (E e : Int) (bd : Bool) : Prop where
  s11 : 11 ≤ S ∧ S ≤ 63
  hm : m = M * 2 ^ S
  he : e = E - S
  norm : 4503599627370496 ≤ M → S = 11 ∧ p2 = 512
  deno : M < 4503599627370496 → 12 ≤ S ∧ E = -1074
  hp2 : p2 = 2 ^ (S - 2)
  e2S : 2 ^ S = 4 * p2
  p512 : ∃ r, p2 = 512 * r ∧ 1 ≤ r
  hm4 : m = 4 * M * p2
  lo : 9223372036854775808 ≤ m
  hi : m + 4 * p2 ≤ 18446744073709551616
  hbd : bd = (decide (M = 4503599627370496) && decide (-1074 < E))
  hB : sfB (m : Int) e = bd
  hz : sfZ e = (S : Int)
  hE : -1074 ≤ E ∧ E ≤ 971
theorem sf_base (M S : Nat) (E : Int) (hM1 : 1 ≤ M) (hM2 : M < 9007199254740992) (hE0 : -1074 ≤ E) (hE1 : E ≤ 971) (hsub : M < 4503599627370496 → E = -1074) (hS : S = 64 - Lib.bitLen M) :
    ∃ m p2 e bd, Base M S m p2 E e bd := by
  obtain ⟨sl0, sl1, sl2, sl3⟩ := shl_bd M hM1 hM2
  rw [← hS] at sl2 sl3
  have hS11 : 11 ≤ S ∧ S ≤ 63 := by omega
  have hnorm : 4503599627370496 ≤ M → S = 11 := fun h => by have := bl_norm M h hM2; omega
  have hdeno : M < 4503599627370496 → 12 ≤ S := fun h => by have := bl_sub M hM1 h; omega
  obtain ⟨m, hm⟩ : ∃ m, m = M * 2 ^ S := ⟨_, rfl⟩
  rw [← hm] at sl2 sl3
  obtain ⟨e, he⟩ : ∃ e : Int, e = E - S := ⟨_, rfl⟩
  have hz : sfZ e = (S : Int) := by
    unfold sfZ
    by_cases h : M < 4503599627370496
    · have := hsub h
      have := hdeno h
      rw [if_neg (by omega)]
      omega
    · have := hnorm (by omega)
      rw [if_pos (by omega)]
      omega
  obtain ⟨p2, hp2⟩ : ∃ p2, p2 = 2 ^ (S - 2) := ⟨_, rfl⟩
  have e2S : 2 ^ S = 4 * p2 := by
    rw [hp2, show (4 : Nat) = 2 ^ 2 by decide, ← Nat.pow_add]
    exact congrArg (fun z : Nat => 2 ^ z) (by omega)
  have hp512 : ∃ r, p2 = 512 * r ∧ 1 ≤ r := ⟨2 ^ (S - 11), by
    rw [hp2, show (512 : Nat) = 2 ^ 9 by decide, ← Nat.pow_add]
    exact congrArg (fun z : Nat => 2 ^ z) (by omega), Nat.two_pow_pos _⟩
  have hm4 : m = 4 * M * p2 := by rw [hm, e2S, ← Nat.mul_assoc, Nat.mul_comm M 4]
  -- is it the lower end of a binade?
  obtain ⟨bd, hbd⟩ : ∃ bd : Bool, bd = (decide (M = 4503599627370496) && decide (-1074 < E)) := ⟨_, rfl⟩
  have hB : sfB (m : Int) e = bd := by
    rw [hbd]
    unfold sfB
    by_cases h : M < 4503599627370496
    · have h1 := hsub h
      have h2 := hdeno h
      rw [decide_eq_false (show ¬ -1085 < e by omega), decide_eq_false (show ¬ M = 4503599627370496 by omega), Bool.and_false, Bool.false_and]
    · have h1 := hnorm (by omega)
      have h2 : p2 = 512 := by rw [hp2, h1]
      have h3 : ((m : Int) == 9223372036854775808) = decide (M = 4503599627370496) := by
        rw [Bool.eq_iff_iff, beq_iff_eq, decide_eq_true_eq]
        rw [h2] at hm4
        omega
      have h4 : decide (-1085 < e) = decide (-1074 < E) := by
        rw [Bool.eq_iff_iff, decide_eq_true_eq, decide_eq_true_eq]
        omega
      rw [h3, h4]
  refine ⟨m, p2, e, bd, hS11, hm, he, fun h => ⟨hnorm h, ?_⟩, fun h => ⟨hdeno h, hsub h⟩, hp2, e2S, hp512, hm4, sl2, ?_, hbd, hB, hz, hE0, hE1⟩
  · rw [hp2, hnorm h]
  · obtain ⟨b1, b2, b3, b4⟩ := bl_bd 64 M (by omega) (by omega)
    change M < 2 ^ Lib.bitLen M at b4
    have h1 : (M + 1) * 2 ^ S ≤ 2 ^ Lib.bitLen M * 2 ^ S := Nat.mul_le_mul_right _ b4
    rw [← Nat.pow_add, show Lib.bitLen M + S = 64 by omega] at h1
    rw [hm, ← e2S, ← Nat.succ_mul]
    exact h1
end Go.Proofs.YtcbgkbidgpemfaaGreatDoor.fpm

/- The set-up of shortFloat: power, shift, ends. Plain. -/
namespace Go.Proofs.YtcbgkbidgpemfaaGreatDoor.fpm
open Go Go.RowKit Go.Proofs.YtcbgkbidgpemfaaGreatDoor.prnw

theorem ba_P {M S m p2 : Nat} {E e : Int} {bd : Bool} (b : Base M S m p2 E e bd) : sfP (m : Int) e = if bd then -((E * 631305 - 261663) / 2097152) else -(E * 78913 / 262144) := by
  have h1 := b.he
  have hE := b.hE
  unfold sfP
  rw [b.hB, b.hz, show e + (S : Int) = E by omega]
  cases hb : bd
  · rfl
  · have hbd := b.hbd
    rw [hb] at hbd
    have hb2 := hbd.symm
    rw [Bool.and_eq_true, decide_eq_true_eq, decide_eq_true_eq] at hb2
    have := (b.norm (by omega)).1
    rw [show e + 11 = E by omega]
theorem ba_rng (E P : Int) (S : Nat) (bd : Bool) (h0 : -1074 ≤ E) (h1 : E ≤ 971) (hS : 11 ≤ S) (hP : P = if bd then -((E * 631305 - 261663) / 2097152) else -(E * 78913 / 262144)) :
    -292 ≤ P ∧ P ≤ 324 ∧ 5 ≤ (S : Int) - 3 - E - P * 108853 / 32768 := by
  cases bd
  · simp only [Bool.false_eq_true, if_false] at hP
    omega
  · simp only [if_true] at hP
    omega
theorem ba_W {M S m p2 : Nat} {E e : Int} {bd : Bool} (b : Base M S m p2 E e bd) : loQ M E = if bd then 4 * M - 1 else 4 * M - 2 := by
  rw [b.hbd]
  unfold loQ
  by_cases h : M = 4503599627370496 ∧ -1074 < E
  · rw [if_pos h, if_pos (by rw [Bool.and_eq_true, decide_eq_true_eq, decide_eq_true_eq]; exact h)]
  · rw [if_neg h, if_neg (by rw [Bool.and_eq_true, decide_eq_true_eq, decide_eq_true_eq]; exact h)]
theorem pw_half (S p2 : Nat) (hS : 11 ≤ S) (hp2 : p2 = 2 ^ (S - 2)) : (2 : Int) ^ (((S : Int)).toNat - 1) = ((2 * p2 : Nat) : Int) := by
  have : 2 * p2 = 2 ^ (S - 1) := by
    rw [hp2, show S - 1 = (S - 2) + 1 by omega, Nat.pow_succ, Nat.mul_comm 2]
  rw [this, show ((S : Int)).toNat - 1 = S - 1 by omega]
  simp
theorem ba_Mx {M S m p2 : Nat} {E e : Int} {bd : Bool} (b : Base M S m p2 E e bd) : sfMx (m : Int) e = ((m + 2 * p2 : Nat) : Int) := by
  have h1 := b.he
  have hE := b.hE
  have h2 := b.hi
  have h3 := b.lo
  obtain ⟨r, h4, h5⟩ := b.p512
  unfold sfMx
  by_cases h : M < 4503599627370496
  · have h6 := b.deno h
    rw [if_neg (by omega), b.hz, pw_half S p2 b.s11.1 b.hp2, IntKind.wrap_u64, IntKind.wrap_u64]
    omega
  · have h6 := b.norm (by omega)
    rw [if_pos (by omega), IntKind.wrap_u64]
    omega
theorem ba_Mn {M S m p2 : Nat} {E e : Int} {bd : Bool} (b : Base M S m p2 E e bd) : sfMn (m : Int) e = (((if bd then m - p2 else m - 2 * p2) : Nat) : Int) := by
  have h1 := b.he
  have hE := b.hE
  have h2 := b.hi
  have h3 := b.lo
  obtain ⟨r, h4, h5⟩ := b.p512
  unfold sfMn
  rw [b.hB]
  cases hb : bd
  · simp only [Bool.false_eq_true, if_false]
    by_cases h : M < 4503599627370496
    · have h6 := b.deno h
      have h7 : 4 * p2 ≤ m := by
        rw [b.hm4, Nat.mul_assoc, Nat.mul_left_comm]
        have : 1 ≤ M := by
          have := b.hm4
          by_cases h0 : M = 0
          · rw [h0] at this; omega
          · omega
        exact Nat.le_mul_of_pos_left _ this
      rw [if_neg (by omega), b.hz, pw_half S p2 b.s11.1 b.hp2, IntKind.wrap_u64, IntKind.wrap_u64]
      omega
    · have h6 := b.norm (by omega)
      rw [if_pos (by omega), IntKind.wrap_u64]
      omega
  · have hbd := b.hbd
    rw [hb] at hbd
    have hb2 := hbd.symm
    rw [Bool.and_eq_true, decide_eq_true_eq, decide_eq_true_eq] at hb2
    have h6 := b.norm (by omega)
    simp only [if_true]
    rw [IntKind.wrap_u64]
    omega
theorem ba_O {M S m p2 : Nat} {E e : Int} {bd : Bool} (b : Base M S m p2 E e bd) (hM : M < 9007199254740992) : sfO (m : Int) e = ((M % 2 : Nat) : Int) := by
  unfold sfO
  rw [b.hz, show ((S : Int)).toNat = S by omega]
  have h1 : (m : Int) / 2 ^ S = (M : Int) := by
    have : ((m / 2 ^ S : Nat) : Int) = (m : Int) / 2 ^ S := by simp
    rw [← this, b.hm, Nat.mul_div_cancel _ (Nat.two_pow_pos _)]
  rw [h1]
  have h2 : wrap64 (M : Int) = (M : Int) := by
    unfold wrap64
    omega
  rw [h2]
  have := and_mask .i64 (Or.inl rfl) M 1 (by omega) (by decide)
  simpa using this
theorem ba_S {M S m p2 : Nat} {E e : Int} {bd : Bool} (b : Base M S m p2 E e bd) (P : Int) (hP : P = sfP (m : Int) e) : sfS (m : Int) e = S - 3 - E - P * 108853 / 32768 := by
  unfold sfS
  rw [← hP, b.he]
  omega
end Go.Proofs.YtcbgkbidgpemfaaGreatDoor.fpm

/- The digits of a positive float lie in its interval. Plain. -/
namespace Go.Proofs.YtcbgkbidgpemfaaGreatDoor.fpm
open Go Go.RowKit Go.Proofs.YtcbgkbidgpemfaaGreatDoor.prnw

/-- scaled by the power's fraction: as many quarters of the last place -/
theorem ba_u {M S m p2 : Nat} {E e : Int} {bd : Bool} (b : Base M S m p2 E e bd) (hM1 : 1 ≤ M) (i s W : Nat) (h1 : 56 ≤ i) (h2 : i < 673) (hs : 5 ≤ s) (hs2 : s < 59) (hW : 4 * M - 2 ≤ W) (hW2 : W ≤ 4 * M + 2) :
    ∃ u : Nat, usI (W * p2) (hiT i) (loT i) (s : Int) = (u : Int) ∧ u = unr (W * p2 * nT i) (dT i * 2 ^ (128 + s)) ∧ 7 ≤ u ∧ u < 9223372036854775808 := by
  obtain ⟨r, h4, h5⟩ := b.p512
  have a1 : (4 * M - 2) * p2 ≤ W * p2 := Nat.mul_le_mul_right _ hW
  have a2 : W * p2 ≤ (4 * M + 2) * p2 := Nat.mul_le_mul_right _ hW2
  have a3 : (4 * M - 2) * p2 + 2 * p2 = m := by rw [b.hm4, ← Nat.add_mul]; congr 1; omega
  have a4 : (4 * M + 2) * p2 = m + 2 * p2 := by rw [b.hm4, ← Nat.add_mul]
  have a5 : 4 * p2 ≤ m := by rw [b.hm4]; exact Nat.mul_le_mul_right _ (by omega)
  have a6 := b.hi
  have a7 := b.lo
  refine us_at i s (W * p2) h1 h2 hs hs2 (by omega) (by omega) ?_
  rw [h4, Nat.mul_left_comm]
  exact Nat.mul_mod_right _ _
theorem ba_wd {M S m p2 : Nat} {E e : Int} {bd : Bool} (b : Base M S m p2 E e bd) (hM1 : 1 ≤ M) (P : Int) (hPv : P = if bd then -((E * 631305 - 261663) / 2097152) else -(E * 78913 / 262144)) :
    ∃ c, c + loQ M E = 4 * M + 2 ∧ (c = 3 ∨ c = 4) ∧ 1 * 2 ^ upB * 10 ^ (-P).toNat ≤ c * 2 ^ (E + 1074).toNat * 10 ^ P.toNat ∧
      (M % 2 = 1 → c = 4 ∧ (1 * 2 ^ upB * 10 ^ (-P).toNat < 4 * 2 ^ (E + 1074).toNat * 10 ^ P.toNat ∨ E = 0 ∧ P = 0)) := by
  have hW := ba_W b
  obtain ⟨hB, hC⟩ := pow_at E b.hE.1 b.hE.2
  have hS := powS_at E b.hE.1 b.hE.2
  cases hb : bd
  · rw [hb] at hW hPv
    simp only [Bool.false_eq_true, if_false] at hW hPv
    have e1 : -P = E * 78913 / 262144 := by omega
    unfold powB at hB
    rw [decide_eq_true_eq, ← e1, show -(-P) = P by omega] at hB
    refine ⟨4, by omega, Or.inr rfl, width P E 4 4 b.hE.1 (Nat.mul_le_mul_left 4 hB) rfl, fun _ => ⟨rfl, ?_⟩⟩
    unfold powS at hS
    rw [Bool.or_eq_true, decide_eq_true_eq, decide_eq_true_eq, ← e1, show -(-P) = P by omega] at hS
    rcases hS with h | h
    · right
      clear hB hC
      rw [h] at e1
      exact ⟨h, by omega⟩
    · left
      exact width_lt P E b.hE.1 h
  · rw [hb] at hW hPv
    simp only [if_true] at hW hPv
    have e1 : -P = (E * 631305 - 261663) / 2097152 := by omega
    unfold powC at hC
    rw [decide_eq_true_eq, ← e1, show -(-P) = P by omega] at hC
    refine ⟨3, by omega, Or.inl rfl, width P E 3 4 b.hE.1 hC rfl, fun ho => ?_⟩
    have hbd := b.hbd
    rw [hb] at hbd
    have hb2 := hbd.symm
    rw [Bool.and_eq_true, decide_eq_true_eq, decide_eq_true_eq] at hb2
    rw [hb2.1] at ho
    exact absurd ho (by decide)
/-- the upper bound of an interval's width: less than ten units -/
def powW (E : Int) : Bool := decide (10 ^ (-(E * 78913 / 262144)).toNat * 2 ^ E.toNat < 10 * (10 ^ (E * 78913 / 262144).toNat * 2 ^ (-E).toNat)) && decide (3 * (10 ^ (-((E * 631305 - 261663) / 2097152)).toNat * 2 ^ E.toNat) < 40 * (10 ^ ((E * 631305 - 261663) / 2097152).toNat * 2 ^ (-E).toNat))
theorem powWAll : (List.range 2046).all (fun j => powW ((j : Int) - 1074)) = true := by kernel_rfl
theorem powW_at (E : Int) (h0 : -1074 ≤ E) (h1 : E ≤ 971) : powW E = true := by
  have := List.all_eq_true.1 powWAll (E + 1074).toNat (List.mem_range.2 (by omega))
  rw [show (((E + 1074).toNat : Nat) : Int) - 1074 = E by omega] at this
  exact this
theorem width_up (P E : Int) (W : Nat) (hE : -1074 ≤ E) (h : W * (10 ^ P.toNat * 2 ^ E.toNat) < 40 * (10 ^ (-P).toNat * 2 ^ (-E).toNat)) : W * 2 ^ (E + 1074).toNat * 10 ^ P.toNat < 10 * 2 ^ upB * 10 ^ (-P).toNat := by
  have hB := upB_eq
  obtain ⟨t, ht⟩ : ∃ t, t = 1074 - (-E).toNat := ⟨_, rfl⟩
  have e1 : 2 ^ upB = 4 * (2 ^ (-E).toNat * 2 ^ t) := by
    rw [show (4 : Nat) = 2 ^ 2 by decide, ← Nat.pow_add, ← Nat.pow_add]
    exact congrArg (fun z : Nat => 2 ^ z) (by omega)
  have e2 : 2 ^ (E + 1074).toNat = 2 ^ E.toNat * 2 ^ t := by
    rw [← Nat.pow_add]
    exact congrArg (fun z : Nat => 2 ^ z) (by omega)
  have h5 : 0 < 2 ^ t := Nat.two_pow_pos t
  rw [e1, e2]
  generalize 10 ^ (-P).toNat = x1 at *
  generalize 10 ^ P.toNat = x2 at *
  generalize 2 ^ (-E).toNat = x3 at *
  generalize 2 ^ E.toNat = x4 at *
  generalize 2 ^ t = x5 at *
  have := (Nat.mul_lt_mul_right h5).2 h
  have a1 : 10 * (4 * (x3 * x5)) * x1 = 40 * (x1 * x3) * x5 := by rw [← Nat.mul_assoc 10 4]; ac_rfl
  have a2 : W * (x4 * x5) * x2 = W * (x2 * x4) * x5 := by ac_rfl
  rw [a1, a2]
  exact this
theorem ba_up {M S m p2 : Nat} {E e : Int} {bd : Bool} (b : Base M S m p2 E e bd) (P : Int) (hPv : P = if bd then -((E * 631305 - 261663) / 2097152) else -(E * 78913 / 262144)) (c : Nat) (hc : c + loQ M E = 4 * M + 2) (hM1 : 1 ≤ M) :
    c * 2 ^ (E + 1074).toNat * 10 ^ P.toNat < 10 * 2 ^ upB * 10 ^ (-P).toNat ∧ (c = 3 → M = 4503599627370496) := by
  have hW := ba_W b
  have hS := powW_at E b.hE.1 b.hE.2
  unfold powW at hS
  rw [Bool.and_eq_true, decide_eq_true_eq, decide_eq_true_eq] at hS
  obtain ⟨hS1, hS2⟩ := hS
  cases hb : bd
  · rw [hb] at hW hPv
    simp only [Bool.false_eq_true, if_false] at hW hPv
    have e1 : -P = E * 78913 / 262144 := by omega
    rw [← e1, show -(-P) = P by omega] at hS1
    have h4 : c = 4 := by clear hS1 hS2; omega
    subst h4
    refine ⟨width_up P E 4 b.hE.1 ?_, fun h => by cases h⟩
    generalize 10 ^ P.toNat * 2 ^ E.toNat = q1 at *
    generalize 10 ^ (-P).toNat * 2 ^ (-E).toNat = q2 at *
    clear hS2
    omega
  · rw [hb] at hW hPv
    simp only [if_true] at hW hPv
    have e1 : -P = (E * 631305 - 261663) / 2097152 := by omega
    rw [← e1, show -(-P) = P by omega] at hS2
    have h3 : c = 3 := by clear hS1 hS2; omega
    subst h3
    refine ⟨width_up P E 3 b.hE.1 hS2, fun _ => ?_⟩
    have hbd := b.hbd
    rw [hb] at hbd
    have hb2 := hbd.symm
    rw [Bool.and_eq_true, decide_eq_true_eq, decide_eq_true_eq] at hb2
    exact hb2.1
/-- bounds of the picked number, and the one multiple of ten -/
theorem pick_one {Am : Nat} (Q Amin Amax o k j : Nat) (hQ : 0 < Q) (ho : o ≤ 1) (hA : 0 < Amax) (hw : Amax < Amin + 10 * (4 * Q))
    (hk : k = if (unr Amin Q + o + 3) / 4 ≤ (unr Amax Q - o) / 4 / 10 * 10 then (unr Amax Q - o) / 4 / 10 * 10 else if (unr Amin Q + o + 3) / 4 < (unr Amax Q - o) / 4 then rnd (unr Am Q) else (unr Amin Q + o + 3) / 4)
    (hk2 : k * (4 * Q) ≤ Amax)
    (h1 : Amin ≤ 10 * j * (4 * Q)) (h2 : 10 * j * (4 * Q) ≤ Amax) (h3 : o = 1 → Amin < 10 * j * (4 * Q) ∧ 10 * j * (4 * Q) < Amax) :
    (unr Amin Q + o + 3) / 4 ≤ (unr Amax Q - o) / 4 / 10 * 10 ∧ k = 10 * j := by
  have ho2 : o = 0 ∨ o = 1 := by omega
  have a1 : (unr Amin Q + o + 3) / 4 ≤ 10 * j := by
    rcases ho2 with rfl | rfl
    · exact (r_ceil Amin Q hQ (10 * j)).2 h1
    · exact (r_above Amin Q hQ (10 * j)).2 (h3 rfl).1
  have a2 : 10 * j ≤ (unr Amax Q - o) / 4 := by
    rcases ho2 with rfl | rfl
    · exact (r_under Amax Q hQ (10 * j)).2 h2
    · exact (r_below Amax Q hQ hA (10 * j)).2 (h3 rfl).2
  have c1 : (unr Amin Q + o + 3) / 4 ≤ (unr Amax Q - o) / 4 / 10 * 10 := by omega
  refine ⟨c1, ?_⟩
  rw [if_pos c1] at hk
  have h4 : k * (4 * Q) < (10 * j + 10) * (4 * Q) := by
    rw [Nat.add_mul]
    omega
  have h5 := Nat.lt_of_mul_lt_mul_right h4
  omega
/-- a multiple within the bounds lies between the ends -/
theorem pick_two (Q Amin Amax o j : Nat) (hQ : 0 < Q) (ho : o ≤ 1) (hA : 0 < Amax)
    (h1 : Amin ≤ j * (4 * Q)) (h2 : j * (4 * Q) ≤ Amax) (h3 : o = 1 → Amin < j * (4 * Q) ∧ j * (4 * Q) < Amax) :
    (unr Amin Q + o + 3) / 4 ≤ j ∧ j ≤ (unr Amax Q - o) / 4 := by
  have ho2 : o = 0 ∨ o = 1 := by omega
  rcases ho2 with rfl | rfl
  · exact ⟨(r_ceil Amin Q hQ j).2 h1, (r_under Amax Q hQ j).2 h2⟩
  · exact ⟨(r_above Amin Q hQ j).2 (h3 rfl).1, (r_below Amax Q hQ hA j).2 (h3 rfl).2⟩
theorem sf_more (M S : Nat) (E : Int) (hM1 : 1 ≤ M) (hM2 : M < 9007199254740992) (hE0 : -1074 ≤ E) (hE1 : E ≤ 971) (hsub : M < 4503599627370496 → E = -1074) (hS : S = 64 - Lib.bitLen M) :
    ∃ (k : Nat) (P : Int), -348 ≤ P ∧ P ≤ 348 ∧ (sfR hiT loT ((M * 2 ^ S : Nat) : Int) (E - S) = ((k : Int), -P) ∨ ∃ k' : Nat, k = k' * 10 ∧ sfR hiT loT ((M * 2 ^ S : Nat) : Int) (E - S) = ((k' : Int), -(P - 1))) ∧
      loQ M E * 2 ^ (E + 1074).toNat * 10 ^ P.toNat ≤ k * 2 ^ upB * 10 ^ (-P).toNat ∧ k * 2 ^ upB * 10 ^ (-P).toNat ≤ (4 * M + 2) * 2 ^ (E + 1074).toNat * 10 ^ P.toNat ∧
      (M % 2 = 1 → loQ M E * 2 ^ (E + 1074).toNat * 10 ^ P.toNat < k * 2 ^ upB * 10 ^ (-P).toNat ∧ k * 2 ^ upB * 10 ^ (-P).toNat < (4 * M + 2) * 2 ^ (E + 1074).toNat * 10 ^ P.toNat) ∧ k < 100000000000000000 ∧
      (∀ j : Nat, loQ M E * 2 ^ (E + 1074).toNat * 10 ^ P.toNat ≤ 10 * j * 2 ^ upB * 10 ^ (-P).toNat → 10 * j * 2 ^ upB * 10 ^ (-P).toNat ≤ (4 * M + 2) * 2 ^ (E + 1074).toNat * 10 ^ P.toNat →
        (M % 2 = 1 → loQ M E * 2 ^ (E + 1074).toNat * 10 ^ P.toNat < 10 * j * 2 ^ upB * 10 ^ (-P).toNat ∧ 10 * j * 2 ^ upB * 10 ^ (-P).toNat < (4 * M + 2) * 2 ^ (E + 1074).toNat * 10 ^ P.toNat) →
        sfR hiT loT ((M * 2 ^ S : Nat) : Int) (E - S) = ((j : Int), -(P - 1))) ∧
      1 * 2 ^ upB * 10 ^ (-P).toNat ≤ 4 * 2 ^ (E + 1074).toNat * 10 ^ P.toNat ∧
      (k % 10 = 0 ∨ (∀ j : Nat, loQ M E * 2 ^ (E + 1074).toNat * 10 ^ P.toNat ≤ j * 2 ^ upB * 10 ^ (-P).toNat → j * 2 ^ upB * 10 ^ (-P).toNat ≤ (4 * M + 2) * 2 ^ (E + 1074).toNat * 10 ^ P.toNat →
        (M % 2 = 1 → loQ M E * 2 ^ (E + 1074).toNat * 10 ^ P.toNat < j * 2 ^ upB * 10 ^ (-P).toNat ∧ j * 2 ^ upB * 10 ^ (-P).toNat < (4 * M + 2) * 2 ^ (E + 1074).toNat * 10 ^ P.toNat) → j = k) ∨
       ((2 * k - 1) * 2 ^ upB * 10 ^ (-P).toNat ≤ 8 * M * 2 ^ (E + 1074).toNat * 10 ^ P.toNat ∧ 8 * M * 2 ^ (E + 1074).toNat * 10 ^ P.toNat ≤ (2 * k + 1) * 2 ^ upB * 10 ^ (-P).toNat ∧
        ((2 * k - 1) * 2 ^ upB * 10 ^ (-P).toNat = 8 * M * 2 ^ (E + 1074).toNat * 10 ^ P.toNat ∨ 8 * M * 2 ^ (E + 1074).toNat * 10 ^ P.toNat = (2 * k + 1) * 2 ^ upB * 10 ^ (-P).toNat → k % 2 = 0))) := by
  obtain ⟨o, ho⟩ : ∃ o, o = M % 2 := ⟨_, rfl⟩
  have ho1 : o ≤ 1 := by omega
  obtain ⟨m, p2, e, bd, b⟩ := sf_base M S E hM1 hM2 hE0 hE1 hsub hS
  rw [← b.hm, ← b.he]
  obtain ⟨P, hP⟩ : ∃ P, P = sfP (m : Int) e := ⟨_, rfl⟩
  have hPv := ba_P b
  rw [← hP] at hPv
  obtain ⟨hP1, hP2, hs5⟩ := ba_rng E P S bd hE0 hE1 b.s11.1 hPv
  have hSd := ba_S b P hP
  obtain ⟨lp, hlp⟩ : ∃ lp, lp = P * 108853 / 32768 := ⟨_, rfl⟩
  obtain ⟨s, hs⟩ : ∃ s : Nat, (s : Int) = S - 3 - E - lp := ⟨(S - 3 - E - lp : Int).toNat, by omega⟩
  have hs58 := (sf_p (m : Int) e (by have := b.he; have := b.s11; omega) (by have := b.he; have := b.s11; omega)).2.2.2
  rw [← hlp, ← hs] at hSd hs5
  rw [hSd] at hs58
  obtain ⟨i, hi⟩ : ∃ i, i = (P + 348).toNat := ⟨_, rfl⟩
  have hI : sfI (m : Int) e = i := by unfold sfI; rw [← hP, hi]
  obtain ⟨W, hW⟩ : ∃ W, W = loQ M E := ⟨_, rfl⟩
  have hWv := ba_W b
  obtain ⟨w1, w2, w3⟩ := loQ_bd M E
  rw [← hW] at hWv w1 w2 w3 ⊢
  have hi1 : 56 ≤ i ∧ i < 673 := by omega
  have hs6 : 5 ≤ s ∧ s < 59 := by omega
  obtain ⟨u1, ue1, uv1, ua1, ub1⟩ := ba_u b hM1 i s W hi1.1 hi1.2 hs6.1 hs6.2 w1 (by omega)
  obtain ⟨u2, ue2, uv2, ua2, ub2⟩ := ba_u b hM1 i s (4 * M) hi1.1 hi1.2 hs6.1 hs6.2 (by omega) (by omega)
  obtain ⟨u3, ue3, uv3, ua3, ub3⟩ := ba_u b hM1 i s (4 * M + 2) hi1.1 hi1.2 hs6.1 hs6.2 (by omega) (by omega)
  have hP0 : -348 ≤ P := Int.le_trans (by decide) hP1
  have hS2 : 2 ≤ S := Nat.le_trans (by decide) b.s11.1
  have hMn := ba_Mn b
  have hMx := ba_Mx b
  have hO := ba_O b hM2
  have x1 : (if bd then m - p2 else m - 2 * p2) = W * p2 := by
    rw [hWv, b.hm4]
    cases bd
    · simp only [Bool.false_eq_true, if_false]; rw [Nat.sub_mul]
    · simp only [if_true]; rw [Nat.sub_mul, Nat.one_mul]
  have x3 : m + 2 * p2 = (4 * M + 2) * p2 := by rw [b.hm4, Nat.add_mul]
  rw [x1] at hMn
  rw [x3] at hMx
  rw [← ho] at hO
  have hDn : sfDn hiT loT (m : Int) e = (((u1 + o + 3) / 4 : Nat) : Int) := by
    unfold sfDn sfU
    rw [hMn, hO, hI, hSd, Int.toNat_natCast, ue1]
    exact ceil_n u1 o ub1 ho1
  have hDx : sfDx hiT loT (m : Int) e = (((u3 - o) / 4 : Nat) : Int) := by
    unfold sfDx sfU
    rw [hMx, hO, hI, hSd, Int.toNat_natCast, ue3]
    exact floor_n u3 o ub3 ua3 ho1
  have hDm : roundI (sfU hiT loT (m : Int) e (m : Int)) = (rnd u2 : Int) := by
    unfold sfU
    rw [hI, hSd, Int.toNat_natCast]
    have : usI m (hiT i) (loT i) (s : Int) = (u2 : Int) := by rw [b.hm4]; exact ue2
    rw [this]
    exact round_eq u2 ub2
  obtain ⟨Q, hQ⟩ : ∃ Q, Q = dT i * 2 ^ (128 + s) := ⟨_, rfl⟩
  rw [← hQ] at uv1 uv2 uv3
  have hQ0 : 0 < Q := by rw [hQ]; exact Nat.mul_pos (dT_pos i) (Nat.two_pow_pos _)
  have hn0 : 0 < nT i := by
    unfold nT
    split
    · exact Nat.mul_pos (Nat.pow_pos (by decide)) (Nat.two_pow_pos _)
    · exact Nat.two_pow_pos _
  have hp0 : 0 < p2 := by rw [b.hp2]; exact Nat.two_pow_pos _
  have hpn : 0 < p2 * nT i := Nat.mul_pos hp0 hn0
  -- the spelling of a comparison
  have sc := fun k W' => scale_id P E hP0 i hi lp hlp hE0 S s hS2 hs k W'
  rw [← hQ, ← b.hp2] at sc
  obtain ⟨c, hc, hc34, hcw, hco⟩ := ba_wd b hM1 P hPv
  obtain ⟨hup, hc3⟩ := ba_up b P hPv c hc hM1
  rw [← hW] at hc
  have hEz : E = 0 → 2 ^ upB = 4 * 2 ^ (E + 1074).toNat := fun h => by
    rw [show upB = (E + 1074).toNat + 2 by rw [h]; rfl, Nat.pow_add, Nat.mul_comm]
  clear ue1 ue2 ue3 ua1 ua2 ua3 ub1 ub2 ub3 hSd hI hMn hMx hO x1 x3 hs58 hs6 hs5 hPv hWv
  obtain ⟨v, hv⟩ : ∃ v, v = p2 * nT i := ⟨_, rfl⟩
  have hA : ∀ V, V * p2 * nT i = V * v := fun V => by rw [hv]; exact Nat.mul_assoc _ _ _
  have hv0 : 0 < v := by rw [hv]; exact hpn
  simp only [hA] at uv1 uv2 uv3 sc
  obtain ⟨T1, hT1⟩ : ∃ T, T = 2 ^ (E + 1074).toNat := ⟨_, rfl⟩
  obtain ⟨T2, hT2⟩ : ∃ T, T = 10 ^ P.toNat := ⟨_, rfl⟩
  obtain ⟨T3, hT3⟩ : ∃ T, T = 10 ^ (-P).toNat := ⟨_, rfl⟩
  obtain ⟨T4, hT4⟩ : ∃ T, T = 2 ^ upB := ⟨_, rfl⟩
  rw [← hT1, ← hT2, ← hT3, ← hT4] at sc
  rw [← hT1, ← hT2, ← hT3, ← hT4] at hcw hco hup
  rw [← hT1, ← hT4] at hEz
  have hP348 : P ≤ 348 := Int.le_trans hP2 (by decide)
  obtain ⟨dn, hdn⟩ : ∃ d, d = (u1 + o + 3) / 4 := ⟨_, rfl⟩
  obtain ⟨dx, hdx⟩ : ∃ d, d = (u3 - o) / 4 := ⟨_, rfl⟩
  rw [← hdn] at hDn
  rw [← hdx] at hDx
  obtain ⟨k, hk⟩ : ∃ k, k = if dn ≤ dx / 10 * 10 then dx / 10 * 10 else if dn < dx then rnd u2 else dn := ⟨_, rfl⟩
  refine ⟨k, P, hP0, hP348, ?_⟩
  rw [← hT1, ← hT2, ← hT3, ← hT4]
  have hT00 : P = 0 → T2 = 1 ∧ T3 = 1 := fun h => by rw [hT2, hT3, h]; exact ⟨rfl, rfl⟩
  clear hT1 hT2 hT3 hT4 hv hpn hp0 hn0 hQ hP1 hP2 hi1 hs hlp hi
  have hMv : 4 * M * v = 4 * (M * v) := Nat.mul_assoc _ _ _
  have hMv2 : (4 * M + 2) * v = 4 * (M * v) + 2 * v := by rw [Nat.add_mul, hMv]
  have hcv : c * v + W * v = 4 * (M * v) + 2 * v := by rw [← Nat.add_mul, hc, hMv2]
  have hcv34 : c * v = 3 * v ∨ c * v = 4 * v := by rcases hc34 with rfl | rfl <;> simp
  have hWpos : 0 < W * v := Nat.mul_pos (by omega) hv0
  have hq4 : 4 * Q ≤ c * v := by
    obtain ⟨α, β, a0, b0, q1, q2⟩ := sc 1 c
    rw [Nat.one_mul (4 * Q)] at q1
    exact (le_scaled a0 b0 q1 q2).2 hcw
  have hq40 : c * v < 10 * (4 * Q) := by
    obtain ⟨α, β, a0, b0, q1, q2⟩ := sc 10 c
    exact (lt_scaled a0 b0 q2 q1).2 hup
  have hR1 : dn ≤ dx / 10 * 10 → sfR hiT loT (m : Int) e = (((dx / 10 : Nat) : Int), -(P - 1)) := fun c1 => by
    unfold sfR
    rw [hDn, hDx, hDm, ← hP, if_pos (by omega), Int.natCast_ediv]
    rfl
  have hpick := pick Q (W * v) (4 * M * v) ((4 * M + 2) * v) o hQ0 ho1 hWpos (by omega) (by omega) (by omega) (by omega) (fun h => by
    obtain ⟨hc4, hor⟩ := hco (by omega)
    rcases hor with h1 | ⟨h1, h2⟩
    · left
      obtain ⟨α, β, a0, b0, q1, q2⟩ := sc 1 4
      rw [Nat.one_mul (4 * Q)] at q1
      have := (lt_scaled a0 b0 q1 q2).2 h1
      rw [hc4] at hcv
      omega
    · right
      refine ⟨M, ?_⟩
      obtain ⟨α, β, a0, b0, q1, q2⟩ := sc M (4 * M)
      obtain ⟨t2, t3⟩ := hT00 h2
      have he : M * T4 * T3 = 4 * M * T1 * T2 := by
        rw [hEz h1, t2, t3, Nat.mul_one, Nat.mul_one, ← Nat.mul_assoc, Nat.mul_comm M 4]
      have l1 := (le_scaled a0 b0 q1 q2).2 (Nat.le_of_eq he)
      have l2 := (le_scaled a0 b0 q2 q1).2 (Nat.le_of_eq he.symm)
      omega) k (by rw [hk, hdn, hdx, uv1, uv2, uv3])
  obtain ⟨⟨k1, k2⟩, k3⟩ := hpick
  have t1 : W * T1 * T2 ≤ k * T4 * T3 := by
    obtain ⟨α, β, a0, b0, q1, q2⟩ := sc k W
    exact (le_scaled a0 b0 q2 q1).1 k1
  have t2 : k * T4 * T3 ≤ (4 * M + 2) * T1 * T2 := by
    obtain ⟨α, β, a0, b0, q1, q2⟩ := sc k (4 * M + 2)
    exact (le_scaled a0 b0 q1 q2).1 k2
  refine ⟨?_, t1, t2, fun h => ?_, ?_, fun j j1 j2 j3 => ?_, ?_, ?_⟩
  · unfold sfR
    rw [hDn, hDx, hDm, ← hP, hk]
    by_cases c1 : dn ≤ dx / 10 * 10
    · right
      rw [if_pos c1, if_pos (by omega)]
      exact ⟨dx / 10, rfl, by rw [Int.natCast_ediv]; rfl⟩
    · left
      rw [if_neg c1, if_neg (by omega)]
      by_cases c2 : dn < dx
      · rw [if_pos c2, if_pos (by omega)]
      · rw [if_neg c2, if_neg (by omega)]
  · obtain ⟨k4, k5⟩ := k3 (by omega)
    refine ⟨?_, ?_⟩
    · obtain ⟨α, β, a0, b0, q1, q2⟩ := sc k W
      exact (lt_scaled a0 b0 q2 q1).1 k4
    · obtain ⟨α, β, a0, b0, q1, q2⟩ := sc k (4 * M + 2)
      exact (lt_scaled a0 b0 q1 q2).1 k5
  · apply Nat.lt_of_mul_lt_mul_right (a := 4 * Q)
    rcases hc34 with rfl | rfl
    · have hM := hc3 rfl
      rw [hM] at hMv2 k2
      omega
    · have h9 : M * v ≤ 9007199254740991 * v := Nat.mul_le_mul_right _ (by omega)
      omega
  · obtain ⟨α, β, a0, b0, q1, q2⟩ := sc (10 * j) W
    obtain ⟨α', β', a0', b0', q1', q2'⟩ := sc (10 * j) (4 * M + 2)
    obtain ⟨o1, o2⟩ := pick_one (Am := 4 * M * v) Q (W * v) ((4 * M + 2) * v) o k j hQ0 ho1 (by omega) (by omega) (by rw [hk, hdn, hdx, uv1, uv2, uv3]) k2
      ((le_scaled a0 b0 q2 q1).2 j1) ((le_scaled a0' b0' q1' q2').2 j2) (fun h => by
        obtain ⟨l1, l2⟩ := j3 (by omega)
        exact ⟨(lt_scaled a0 b0 q2 q1).2 l1, (lt_scaled a0' b0' q1' q2').2 l2⟩)
    rw [← uv1, ← uv3, ← hdn, ← hdx] at o1
    rw [hR1 o1]
    rw [if_pos o1] at hk
    rw [show dx / 10 = j by omega]
  · refine Nat.le_trans hcw (Nat.mul_le_mul_right _ (Nat.mul_le_mul_right _ ?_))
    omega
  · by_cases c1 : dn ≤ dx / 10 * 10
    · left
      rw [hk, if_pos c1]
      omega
    right
    rw [if_neg c1] at hk
    by_cases c2 : dn < dx
    · right
      rw [if_pos c2] at hk
      obtain ⟨g1, g2, g3⟩ := r_round (4 * M * v) Q hQ0
      rw [← uv2, ← hk] at g1 g2 g3
      have hk1 : 1 ≤ k := by
        refine Nat.pos_of_ne_zero fun h0 => ?_
        rw [h0, Nat.zero_mul] at k1
        omega
      have e1 : (2 * k - 1) * (4 * Q) + 4 * Q = 2 * (k * (4 * Q)) := by
        have h1 : (2 * k - 1) * (4 * Q) + 4 * Q = (2 * k - 1 + 1) * (4 * Q) := by rw [Nat.add_mul, Nat.one_mul]
        rw [h1, show 2 * k - 1 + 1 = 2 * k by omega, Nat.mul_assoc]
      have e2 : (2 * k + 1) * (4 * Q) = 2 * (k * (4 * Q)) + 4 * Q := by
        rw [Nat.add_mul, Nat.one_mul, Nat.mul_assoc]
      have e3 : 8 * M * v = 2 * (4 * M * v) := by
        rw [← Nat.mul_assoc, ← Nat.mul_assoc]
      obtain ⟨α, β, a0, b0, q1, q2⟩ := sc (2 * k - 1) (8 * M)
      obtain ⟨α', β', a0', b0', q1', q2'⟩ := sc (2 * k + 1) (8 * M)
      refine ⟨(le_scaled a0 b0 q1 q2).1 (by omega), (le_scaled a0' b0' q2' q1').1 (by omega), fun h => g3 ?_⟩
      rcases h with h | h
      · left
        have l1 := (le_scaled a0 b0 q2 q1).2 (Nat.le_of_eq h.symm)
        omega
      · right
        have l1 := (le_scaled a0' b0' q1' q2').2 (Nat.le_of_eq h.symm)
        omega
    · left
      rw [if_neg c2] at hk
      intro j j1 j2 j3
      obtain ⟨α, β, a0, b0, q1, q2⟩ := sc j W
      obtain ⟨α', β', a0', b0', q1', q2'⟩ := sc j (4 * M + 2)
      obtain ⟨o1, o2⟩ := pick_two Q (W * v) ((4 * M + 2) * v) o j hQ0 ho1 (by omega) ((le_scaled a0 b0 q2 q1).2 j1) ((le_scaled a0' b0' q1' q2').2 j2) (fun h => by
          obtain ⟨l1, l2⟩ := j3 (by omega)
          exact ⟨(lt_scaled a0 b0 q2 q1).2 l1, (lt_scaled a0' b0' q1' q2').2 l2⟩)
      rw [← uv1, ← hdn] at o1
      rw [← uv3, ← hdx] at o2
      omega
end Go.Proofs.YtcbgkbidgpemfaaGreatDoor.fpm

/- ftoa64 on its shortest road for 'e'. No conditions but those stated. -/
namespace Go.Proofs.YtcbgkbidgpemfaaGreatDoor.prnw
open Go.RowKit
open Go.Shelf
open Go.Sort
open Go.Proofs.YtcbgkbidgpemfaaGreatDoor.qt
open Go.BigFrame
open Go.Proofs.YtcbgkbidgpemfaaGreatDoor.nodew
open Go.Proofs.YtcbgkbidgpemfaaGreatDoor.chkw

theorem fbits_run (x : Nat) (w : World) : (callFunc 182 #[.float .f64 x]).run Tryz.prog w = .ok (.value (.int .u64 x)) w := by
  rw [@run_callFunc_extern Tryz.prog 182 _ Extern.MathFloatBits.float64bits Tryz.func182 (by kernel_rfl) (by kernel_rfl) (by kernel_rfl) (by kernel_rfl)]
  rfl
attribute [local go_sem] fbits_run
/-- the digits and the power of a positive float -/
def ftR (hi lo : Nat → Nat) (X : Nat) : Int × Int := sfR hi lo ((ftM X * 2 ^ (64 - Lib.bitLen (ftM X)) : Nat) : Int) (ftE X - ((64 - Lib.bitLen (ftM X) : Nat) : Int) - 52)
/-- the text of a positive float -/
def ftT (hi lo : Nat → Nat) (X : Nat) : List UInt8 := efgT (sdH (ftR hi lo X).1.toNat) (sdL (ftR hi lo X).1.toNat) ((Lib.nDigits (ftR hi lo X).1.toNat : Nat) + (ftR hi lo X).2)
def FtPost (w : World) (base : Nat) (t : List UInt8) (x : Ending) (w' : World) : Prop :=
  ∃ g cap, x = .returned (.slice (some ⟨g, 0, none⟩) t.length cap) ∧ Buf w' base g cap t ∧ Below base w w'
/-- the tables -/
def Tabs (hi lo : Nat → Nat) (w : World) : Prop := PT hi lo w ∧ (∀ i, i < 696 → 9223372036854775808 ≤ hi i ∧ hi i < 18446744073709551616) ∧ Lib.TabIs Tryz.prog w "internal/strconv.uint64pow10" .u64 Lib.pow10Tab
theorem tab_below {w w' : World} {B : Nat} (h : Lib.TabIs Tryz.prog w "internal/strconv.uint64pow10" .u64 Lib.pow10Tab) (hg : Below B w w') (hB : 7 < B) : Lib.TabIs Tryz.prog w' "internal/strconv.uint64pow10" .u64 Lib.pow10Tab := by
  have hgn : Tryz.prog.globalNamed "internal/strconv.uint64pow10" = some 7 := by kernel_rfl
  unfold Lib.TabIs World.var? at h ⊢
  rw [hgn] at h ⊢
  simp only [Option.bind_some] at h ⊢
  rw [hg.block 7 hB]
  exact h
theorem sl_run (b : Nat) (w : World) : (Instr.sliceAt 224 (.pointer (some ⟨b, 0, none⟩)) none none none).run Tryz.prog w = .ok (.slice (some ⟨b, 0, none⟩) 32 32) w := by
  simp [Instr.sliceAt, go_sem]
theorem exec_sl {o : Oper} (x : Operand) (ho : o.op = .slice 224 x none none none) (a : Act) (b : Nat) (hx : a.eval x = .pointer (some ⟨b, 0, none⟩)) (w : World) : (execOp a.eval o).run Tryz.prog w = .ok (.value (.slice (some ⟨b, 0, none⟩) 32 32)) w := by
  unfold execOp
  simp only [ho, hx, Sem.run_bind, Option.map_none, sl_run, Result.andThen_ok, Sem.run_pure]
theorem callFunc_enter {f : FuncId} {fn : Func} {c : Code} (hf : Tryz.prog.funcs[f]? = some fn) (hname : (fn.name == "runtime.NumGoroutine") = false) (hb : fn.body = some c) (args : Array Value) (w : World) :
    (callFunc f args).run Tryz.prog w = .ok (.enter f args) w := by
  have h1 : fn.name ≠ "runtime.NumGoroutine" := by simpa using hname
  simp [callFunc, hf, h1, hb]
theorem exec_call {o : Oper} (f : FuncId) (xs : Array Operand) (ats : Array TypeId) (ho : o.op = .call { callee := .value (.func f), args := xs, argTypes := ats }) (a : Act) (args : Array Value) (ha : #[] ++ xs.map a.eval ++ #[] = args) (w : World)
    (hr : (callFunc f args).run Tryz.prog w = .ok (.enter f args) w) : (execOp a.eval o).run Tryz.prog w = .ok (.enter f args) w := by
  obtain ⟨dst, op, ty, pos, after, guard⟩ := o
  simp only at ho
  subst ho
  rw [execOp_call_go, ha]
  exact hr
theorem nd_enter (args : Array Value) (w : World) : (callFunc 175 args).run Tryz.prog w = .ok (.enter 175 args) w := callFunc_enter Tryz.func175 (by kernel_rfl) rfl args w
theorem sd_enter (args : Array Value) (w : World) : (callFunc 188 args).run Tryz.prog w = .ok (.enter 188 args) w := callFunc_enter Tryz.func188 (by kernel_rfl) rfl args w
theorem exec_nd {o : Oper} (x : Operand) (ats : Array TypeId) (ho : o.op = .call { callee := .value (.func 175), args := #[x], argTypes := ats }) (a : Act) (vx : Value) (hx : a.eval x = vx) (w : World) : (execOp a.eval o).run Tryz.prog w = .ok (.enter 175 #[vx]) w :=
  exec_call _ #[x] ats ho a #[vx] (by simp [hx]) w (nd_enter _ w)
theorem exec_sd {o : Oper} (x1 x2 x3 x4 : Operand) (ats : Array TypeId) (ho : o.op = .call { callee := .value (.func 188), args := #[x1, x2, x3, x4], argTypes := ats }) (a : Act) (v1 v2 v3 v4 : Value) (h1 : a.eval x1 = v1) (h2 : a.eval x2 = v2) (h3 : a.eval x3 = v3) (h4 : a.eval x4 = v4) (w : World) : (execOp a.eval o).run Tryz.prog w = .ok (.enter 188 #[v1, v2, v3, v4]) w :=
  exec_call _ #[x1, x2, x3, x4] ats ho a #[v1, v2, v3, v4] (by simp [h1, h2, h3, h4]) w (sd_enter _ w)
theorem goUpon_call {P : Program} {C : World → Prop} {o : Oper} {a : Act} {K : Act → World → Prop} {r : Result Next} (f : FuncId) (args : Array Value) (w' : World) (hr : r = .ok (.enter f args) w') (h : Calls P f args w' fun e w'' => ∃ v, e = .returned v ∧ C w'' ∧ K (a.put o.dst v) w'') : goUpon P C o a K r := by
  rw [hr]; exact h
/-- the worlds that hold the table -/
structure Tb where
  val : World
  tab : Lib.TabIs Tryz.prog val "internal/strconv.uint64pow10" .u64 Lib.pow10Tab
set_option maxRecDepth 100000 in
set_option maxHeartbeats 1000000 in
theorem ftoa_any (hi lo : Nat → Nat) (X : Nat) (hX0 : 0 < X) (hX : X < 9218868437227405312) (base g cap : Nat) (w : World) (hT : Tabs hi lo w) (hTn : 8 < base) (hB : Buf w base g cap []) (hbs : base ≤ w.heap.size) :
    Calls Tryz.prog 144 #[.slice (some ⟨g, 0, none⟩) 0 cap, .float .f64 X, .int .u8 101, .int .i64 (-1)] w (FtPost w base (ftT hi lo X)) := by
  have HT := Lib.hid (And.intro hT (And.intro hTn (And.intro hB hbs)))
  have HX := Lib.hid (And.intro hX0 hX)
  have a1 := and_mask .i64 (.inl rfl) (X / 4503599627370496) 11 (by omega) (by decide)
  have a2 := and_mask .u64 (.inr rfl) X 52 (by omega) (by decide)
  have a3 := or_top (X % 4503599627370496) (by omega)
  have x63 : (X : Int) / 9223372036854775808 = 0 := by omega
  obtain ⟨Eb, hEb⟩ : ∃ Eb, X / 4503599627370496 = Eb := ⟨_, rfl⟩
  obtain ⟨Mb, hMb⟩ : ∃ Mb, X % 4503599627370496 = Mb := ⟨_, rfl⟩
  have e1 : (X : Int) / 4503599627370496 = (Eb : Int) := by omega
  have e2 : Eb ≤ 2046 := by omega
  have e3 : ((Eb : Int) == 2047) = false := by rw [beq_eq_false_iff_ne]; omega
  have e4 : (0 : Int) ≤ (Eb : Int) := by omega
  have e5 : (Eb : Int) ≤ 2046 := by omega
  rw [hEb, show Eb % 2 ^ 11 = Eb from Nat.mod_eq_of_lt (by omega)] at a1
  rw [show X % 2 ^ 52 = Mb from hMb] at a2
  rw [hMb] at a3
  have a1' : bits BinOp.and IntKind.i64 (Eb : Int) 2047 = (Eb : Int) := a1
  have a2' : bits BinOp.and IntKind.u64 (X : Int) 4503599627370495 = (Mb : Int) := a2
  have hm : Mb < 4503599627370496 := by omega
  have HE := Lib.hid (And.intro hEb hMb)
  have HA3 := Lib.hid a3
  have HM := Lib.hid hm
  clear hT hTn hB hbs a1 a2 a3 hX0 hX hEb hMb hm
  go_enter Tryz.func144, Tryz.ntmps144
  go_wp2_with fail
  go_quiet (fail)
  clear a1'
  go_upto_if 78 with (fail)
  obtain ⟨M, hM⟩ : ∃ M, M = ftM X := ⟨_, rfl⟩
  obtain ⟨E1, hE1⟩ : ∃ E1, E1 = ftE X + 1023 := ⟨_, rfl⟩
  have HM1 := Lib.hid hM
  have HE1 := Lib.hid hE1
  clear hM hE1 a2' x63
  go_cut [14, 15] from 78 to 84 (fun s14 s15 wx => s14 = .int .i64 E1 ∧ s15 = .int .u64 (M : Int) ∧ wx = w.drewN nq)
  case first =>
    have h1 := HM1.out
    have h2 := HE1.out
    unfold ftM at h1
    unfold ftE at h2
    rw [HE.out.1, HE.out.2] at h1
    rw [HE.out.1] at h2
    by_cases h0 : Eb = 0
    · rw [if_pos h0] at h1 h2
      have d1 : ((Eb : Int) == 0) = true := by rw [beq_iff_eq]; omega
      have K1 := Lib.hid h1
      have K2 := Lib.hid (show E1 = (Eb : Int) + 1 by omega)
      clear h1 h2 h0
      go_wp2_with fail
      go_meet
      exact ⟨by rw [K2.out], by rw [K1.out], rfl⟩
    · rw [if_neg h0] at h1 h2
      have d1 : ((Eb : Int) == 0) = false := by rw [beq_eq_false_iff_ne]; omega
      have K1 := Lib.hid h1
      have K2 := Lib.hid (show E1 = (Eb : Int) by omega)
      clear h1 h2 h0
      go_wp2_with fail
      go_meet
      exact ⟨by rw [K2.out], by rw [K1.out, ← HA3.out], rfl⟩
  case rest =>
    obtain ⟨rfl, rfl, rfl⟩ := hcut
    have mb := ftM_pos X HX.out.1
    rw [← HM1.out] at mb
    obtain ⟨sl0, sl1, sl2, sl3⟩ := shl_bd M mb.1 mb.2
    have hEr : -1022 ≤ ftE X ∧ ftE X ≤ 1023 := by
      unfold ftE
      rw [HE.out.1]
      split <;> omega
    have hE0 := HE1.out
    obtain ⟨S, hS⟩ : ∃ S : Nat, S = 64 - Lib.bitLen M := ⟨_, rfl⟩
    obtain ⟨m, hm⟩ : ∃ m : Nat, m = M * 2 ^ S := ⟨_, rfl⟩
    obtain ⟨BL, hBL⟩ : ∃ BL, Lib.bitLen M = BL := ⟨_, rfl⟩
    have CL := fun W => Tryz.bits_Len64 (M : Int) W (by omega) (by omega)
    rw [Int.toNat_natCast, hBL] at CL
    rw [hBL] at hS sl0 sl1 sl2 sl3
    rw [← hS, ← hm] at sl2 sl3
    have s1 : (64 : Int) - (BL : Int) = (S : Int) := by omega
    have s2 : (S : Int) ≤ 63 := by omega
    have s3 : (0 : Int) ≤ (S : Int) := by omega
    have b0 : (0 : Int) ≤ (BL : Int) := by omega
    have b1 : (BL : Int) ≤ 53 := by omega
    have hmw : IntKind.u64.wrap ((M : Int) * 2 ^ S) = (m : Int) := by
      have e2 : ((2 : Int) ^ S) = ((2 ^ S : Nat) : Int) := by norm_cast
      have e3 : (M : Int) * ((2 ^ S : Nat) : Int) = (m : Int) := by rw [hm]; norm_cast
      rw [e2, e3, IntKind.wrap_u64]
      omega
    have E0 : 1 ≤ E1 := by omega
    have E9 : E1 ≤ 2046 := by omega
    have mB : ((M : Int) == 0) = false := by rw [beq_eq_false_iff_ne]; omega
    have CL2 := Lib.hid CL
    have HSL := Lib.hid (And.intro sl2 sl3)
    have HSS := Lib.hid (And.intro hS (And.intro hm hBL))
    have HER := Lib.hid hEr
    have HE0 := Lib.hid hE0
    obtain ⟨W0, hW0⟩ : ∃ W0, W0 = w.drewN nq := ⟨_, rfl⟩
    have HW0 := Lib.hid hW0
    rw [← hW0]
    clear CL sl0 sl1 sl2 sl3 hS hm hBL hEr hE0 mb hW0
    obtain ⟨W1, hW1⟩ : ∃ W1, W1 = W0.alloc (.cells (List.replicate 32 (bV 0)).toArray 224) := ⟨_, rfl⟩
    have hW1s : W1.heap.size = W0.heap.size + 1 := by rw [hW1]; simp
    have hW1b : Below W0.heap.size W0 W1 := by rw [hW1]; exact (Below.refl _ _).alloc (Nat.le_refl _) _
    have hW1n : W1.heap[W0.heap.size]? = some (.cells (List.replicate 32 (bV 0)).toArray 224 (0, 0)) := by rw [hW1]; exact heap_alloc_new W0 _
    have HW1 := Lib.hid hW1
    have HWP := Lib.hid (And.intro hW1s (And.intro hW1b hW1n))
    clear hW1 hW1s hW1b hW1n
    go_upto_region 37 with (first | (go_at_call 186; (with_reducible refine (CL2.out _).mono ?_); rintro e w' ⟨rfl, hw'⟩; obtain rfl := hw'.symm) | (rw [show W0.alloc (.cells #[.int .u8 0, .int .u8 0, .int .u8 0, .int .u8 0, .int .u8 0, .int .u8 0, .int .u8 0, .int .u8 0, .int .u8 0, .int .u8 0, .int .u8 0, .int .u8 0, .int .u8 0, .int .u8 0, .int .u8 0, .int .u8 0, .int .u8 0, .int .u8 0, .int .u8 0, .int .u8 0, .int .u8 0, .int .u8 0, .int .u8 0, .int .u8 0, .int .u8 0, .int .u8 0, .int .u8 0, .int .u8 0, .int .u8 0, .int .u8 0, .int .u8 0, .int .u8 0] 224) = W1 from HW1.out.symm]))
    have hsl := HSL.out
    have hss := HSS.out
    have he0 := HE0.out
    have her := HER.out
    have CS : ∀ W : World, PT hi lo W → 8 < W.heap.size → Calls Tryz.prog 194 #[.int .u64 (m : Int), .int .i64 (E1 + -1023 - (S : Int) - 52)] W (SfPost W (ftR hi lo X)) := fun W hp hn => by
      have := short_any hi lo m (E1 + -1023 - (S : Int) - 52) hsl.1 hsl.2 (by omega) (by omega) W hp hn
      unfold ftR
      rw [← HM1.out, hss.2.2, ← hss.1, ← hss.2.1, show ftE X - (S : Int) - 52 = E1 + -1023 - (S : Int) - 52 by omega]
      exact this
    obtain ⟨hT, hTn, hB, hbs⟩ := HT.out
    have hwp := HWP.out
    have hbw : Below w.heap.size w W0 := by rw [HW0.out]; exact below_drewN' (Below.refl _ _) _
    have hPT1 : PT hi lo W1 := fun i hi6 => by
      obtain ⟨a, b, c, d⟩ := hT.1 i hi6
      have hlt : 8 < w.heap.size := by omega
      exact ⟨a, b, (hwp.2.1.cell (p := ⟨8, i * 2, none⟩) (Nat.lt_of_lt_of_le hlt hbw.size)).trans ((hbw.cell hlt).trans c), (hwp.2.1.cell (p := ⟨8, i * 2 + 1, none⟩) (Nat.lt_of_lt_of_le hlt hbw.size)).trans ((hbw.cell hlt).trans d)⟩
    have hsz := hbw.size
    have cs := CS W1 hPT1 (by omega)
    have sd := sf_d hi lo (m : Int) (E1 + -1023 - (S : Int) - 52) (by omega) (by omega) (by omega) (by omega) hT.2.1
    have hft : ftR hi lo X = sfR hi lo (m : Int) (E1 + -1023 - (S : Int) - 52) := by
      unfold ftR
      rw [← HM1.out, hss.2.2, ← hss.1, ← hss.2.1, show ftE X - (S : Int) - 52 = E1 + -1023 - (S : Int) - 52 by omega]
    rw [← hft] at sd
    obtain ⟨U, hU⟩ : ∃ U : Nat, U = (ftR hi lo X).1.toNat := ⟨_, rfl⟩
    obtain ⟨P, hP⟩ : ∃ P, P = (ftR hi lo X).2 := ⟨_, rfl⟩
    have hU1 : (ftR hi lo X).1 = (U : Int) := by omega
    unfold SfPost at cs
    rw [hU1, ← hP] at cs
    rw [hU1, ← hP] at sd
    have CSH := Lib.hid cs
    have SD := Lib.hid sd
    have HUP := Lib.hid (And.intro hU hP)
    clear CS cs sd hft hU1 hU hP hPT1 hsl hss he0 her hT hTn hB hbs hwp hbw hsz
    go_upto_region 38 with (go_at_call 194; (with_reducible refine CSH.out.mono ?_); rintro e w2 ⟨rfl, hb2⟩)
    obtain ⟨hT, hTn, hB, hbs⟩ := HT.out
    obtain ⟨hw1, hw2, hw3⟩ := HWP.out
    have hbw : Below w.heap.size w W0 := by rw [HW0.out]; exact below_drewN' (Below.refl _ _) _
    have hz1 := hbw.size
    have hz2 := hb2.size
    have hb12 : Below w.heap.size w w2 := (hbw.trans (hw2.mono hz1)).trans (hb2.mono (by omega))
    have htab : Lib.TabIs Tryz.prog w2 "internal/strconv.uint64pow10" .u64 Lib.pow10Tab := tab_below hT.2.2 hb12 (by omega)
    have hw9 : 7 < w2.heap.size := by omega
    have sd := SD.out
    have CND := fun (u : Tb) => Tryz.internal_strconv_numDigits U (by omega) (by omega) u.1 u.2
    obtain ⟨N, hN⟩ : ∃ N, Lib.nDigits U = N := ⟨_, rfl⟩
    rw [hN] at CND
    have CN := Lib.hid CND
    have HN := Lib.hid hN
    have HBB := Lib.hid (And.intro hb12 hb2)
    have HTA := Lib.hid htab
    have NZ := Lib.hid (And.intro hz1 hz2)
    clear hT hTn hB hbs hw1 hw2 hw3 hbw hz1 hz2 hb12 htab hw9 sd CND hN hb2
    haveI : Nonempty Tb := ⟨⟨w2, HTA.out⟩⟩
    have CN2 : ∀ u : Tb, Calls Tryz.prog 175 #[.int .u64 (U : Int)] u.1 fun e w'' => e = .returned (.int .i64 (N : Int)) ∧ ∃ u' : Tb, w'' = u'.1 := fun u => (CN.out u).mono fun e w'' h => ⟨h.1, u, h.2⟩
    have CN3 := Lib.hid CN2
    clear CN2
    refine region_reads (C := fun w' => ∃ u : Tb, w' = u.1) [1, 2, 3] 8 (by kernel_rfl) (by kernel_rfl) ⟨⟨w2.drew, HTA.out⟩, rfl⟩ ?_
    simp only [List.filterMap_cons, List.filterMap_nil, List.getElem?_cons_zero, List.getElem?_cons_succ]
    change wpQuiet _ _ _ _ (_ :: _ :: _ :: []) _
    go_big_quiet_step (fail)
    go_big_quiet_step (fail)
    go_big_quiet_step (fail)
    refine wpQuiet_nil ?_
    obtain ⟨q, hq⟩ : ∃ q, (sdL U).length = q := ⟨_, rfl⟩
    obtain ⟨Dp, hDp⟩ : ∃ Dp, (Lib.nDigits U : Nat) + P = Dp := ⟨_, rfl⟩
    have hq20 : q ≤ 19 := by
      have h1 := sdL_len U (by have := SD.out.1; omega)
      have h2 := trim_le U (Lib.nDigits U)
      have h3 := Lib.nDigits_le20 U (by have := SD.out.2.1; omega)
      omega
    have HD9 : Calls Tryz.prog 188 #[.slice (some ⟨W0.heap.size, 0, none⟩) 32 32, .int .u64 (U : Int), .int .i64 P, .int .i64 (N : Int)] w2.drew fun x w' => x = .returned (.tuple #[.int .i64 Dp, .int .i64 ((q : Int) + 1)]) ∧
        (∀ t, t < Lib.nDigits U → w'.cell? ⟨W0.heap.size, t, none⟩ = some (bV (Lib.dg U (Lib.nDigits U - 1 - t)))) ∧ w2.drew.grownBy w' (some W0.heap.size) := by
      rw [← HN.out]
      obtain ⟨sd1, sd2, sd3, sd4⟩ := SD.out
      obtain ⟨hw1, hw2, hw3⟩ := HWP.out
      have hbl : w2.drew.heap[W0.heap.size]? = some (.cells (List.replicate 32 (bV 0)).toArray 224 (0, 0)) := ((HBB.out.2.block _ (by omega)).trans hw3)
      have := setd_any W0.heap.size U P (by omega) (by omega) (by omega) (by omega) w2.drew fun j hj => by
        have hj' : j < 32 := by simpa using hj
        have hbl2 : w2.heap[W0.heap.size]? = some (.cells (List.replicate 32 (bV 0)).toArray 224 (0, 0)) := hbl
        refine ⟨?_, ?_⟩
        · rw [Nat.zero_add, cell_of_row _ _ j _ _ _ hbl, getElem!_pos _ j hj, Array.getElem_replicate, List.getElem?_toArray, List.getElem?_replicate, if_pos hj']
        · rw [Nat.zero_add]
          simp only [World.frozen?, World.drew, hbl2]
          show (decide (0 ≤ j) && decide (j < 0)) = false
          simp
      refine this.mono fun e w' h => ?_
      obtain ⟨h1, h2, h3⟩ := h
      refine ⟨?_, h2, h3⟩
      have hl := sdL_len U (by omega)
      rw [h1, hDp, ← hl, hq]
      rfl
    have HD := Lib.hid HD9
    have htd : Lib.TabIs Tryz.prog w2.drew "internal/strconv.uint64pow10" .u64 Lib.pow10Tab := HTA.out
    have HTD := Lib.hid htd
    have HQ := Lib.hid hq
    have HDP := Lib.hid hDp
    clear HD9 htd hq hDp
    refine anyG_two 0 4 _ _ (by kernel_rfl) rfl rfl rfl rfl ?o1 ?o2
    case' o1 =>
      refine goUpon_val _ _ (exec_sl (.tmp 16) rfl _ _ rfl _) ⟨⟨w2.drew, HTA.out⟩, rfl⟩ ?_
      change anyG _ _ _ _ _ _ _ (Act.put _ (some 140) _) _
      simp only [Act.put, List.setIfInBounds_toArray, List.set_cons_succ, List.set_cons_zero]
      refine anyG_one 4 _ (by kernel_rfl) rfl rfl ?_
      refine goUpon_call _ _ _ (exec_nd (.tmp 143) _ rfl _ (.int .u64 (U : Int)) rfl _) ?_
      (with_reducible refine (CN.out ⟨w2.drew, HTD.out⟩).mono ?_)
      rintro e w' ⟨rfl, hw'⟩
      obtain rfl := hw'.symm
      refine ⟨_, rfl, ⟨⟨w2.drew, HTA.out⟩, rfl⟩, ?_⟩
      change anyG _ _ _ _ _ _ _ (Act.put _ (some 144) _) _
      simp only [Act.put, List.setIfInBounds_toArray, List.set_cons_succ, List.set_cons_zero]
    case' o2 =>
      refine goUpon_call _ _ _ (exec_nd (.tmp 143) _ rfl _ (.int .u64 (U : Int)) rfl _) ?_
      (with_reducible refine (CN.out ⟨w2.drew, HTD.out⟩).mono ?_)
      rintro e w' ⟨rfl, hw'⟩
      obtain rfl := hw'.symm
      refine ⟨_, rfl, ⟨⟨w2.drew, HTA.out⟩, rfl⟩, ?_⟩
      change anyG _ _ _ _ _ _ _ (Act.put _ (some 144) _) _
      simp only [Act.put, List.setIfInBounds_toArray, List.set_cons_succ, List.set_cons_zero]
      refine anyG_one 0 _ (by kernel_rfl) rfl rfl ?_
      refine goUpon_val _ _ (exec_sl (.tmp 16) rfl _ _ rfl _) ⟨⟨w2.drew, HTA.out⟩, rfl⟩ ?_
      change anyG _ _ _ _ _ _ _ (Act.put _ (some 140) _) _
      simp only [Act.put, List.setIfInBounds_toArray, List.set_cons_succ, List.set_cons_zero]
    all_goals
      refine anyG_one 5 _ (by kernel_rfl) rfl rfl ?_
      refine goUpon_call _ _ _ (exec_sd (.tmp 140) (.tmp 141) (.tmp 142) (.tmp 144) _ rfl _ (.slice (some ⟨W0.heap.size, 0, none⟩) 32 32) (.int .u64 (U : Int)) (.int .i64 P) (.int .i64 (N : Int)) rfl rfl rfl rfl _) ?_
      (with_reducible refine HD.out.mono ?_)
      rintro e w3 ⟨rfl, hc3, hg3⟩
      have ht3 : Lib.TabIs Tryz.prog w3 "internal/strconv.uint64pow10" .u64 Lib.pow10Tab := by
        have hz := HWP.out.1
        have hz2 := NZ.out
        obtain ⟨hT, hTn, hB, hbs⟩ := HT.out
        exact tab_below HTD.out ((Below.refl W0.heap.size w2.drew).grown hg3 (by simp; omega) (fun k e => by obtain rfl := Option.some.inj e; exact Nat.le_refl _)) (by omega)
      have HC3 := Lib.hid hc3
      have HG3 := Lib.hid hg3
      have HT3 := Lib.hid ht3
      clear hc3 hg3 ht3
      refine ⟨_, rfl, ⟨⟨w3, HT3.out⟩, rfl⟩, ?_⟩
      change anyG _ _ _ _ _ _ _ (Act.put _ (some 145) _) _
      simp only [Act.put, List.setIfInBounds_toArray, List.set_cons_succ, List.set_cons_zero]
      refine anyG_reads (f := 0) (by kernel_rfl) ⟨⟨w3, HT3.out⟩, rfl⟩ [6, 7, 8, 9, 10] _ _ (by kernel_rfl) ?_
      simp only [List.filterMap_cons, List.filterMap_nil, List.getElem?_toArray, List.getElem?_cons_zero, List.getElem?_cons_succ]
      change wpQuiet _ _ _ _ (_ :: _ :: _ :: _ :: _ :: []) _
      go_big_quiet_step (fail)
      go_big_quiet_step (fail)
      go_big_quiet_step (fail)
      go_big_quiet_step (fail)
      go_big_quiet_step (fail)
      refine wpQuiet_nil ?_
      refine anyG_end (by kernel_rfl) ?_
      simp only [Exit.then]
      have q0 : (0 : Int) ≤ (q : Int) := by omega
      have q1 : (q : Int) ≤ 19 := by omega
      have CE : Calls Tryz.prog 185 #[.slice (some ⟨g, 0, none⟩) 0 cap, .bool false, .slice (some ⟨W0.heap.size, 0, none⟩) 32 32, .int .i64 Dp, .int .i64 ((q : Int) + 1), .int .i64 (q : Int), .int .u8 101, .bool true] w3 (EfPost w3 base W0.heap.size (ftT hi lo X)) := by
        obtain ⟨hT, hTn, hB, hbs⟩ := HT.out
        obtain ⟨hw1, hw2, hw3⟩ := HWP.out
        obtain ⟨hz1, hz2⟩ := NZ.out
        obtain ⟨sd1, sd2, sd3, sd4⟩ := SD.out
        have hg9 := hB.lt
        have hgz := HG3.out.size
        have hws : w2.drew.heap.size = w2.heap.size := rfl
        have hbw : w.heap.size ≤ W0.heap.size := by rw [HW0.out]; simp
        have hd2 : Below w.heap.size w w2.drew := HBB.out.1.drew
        have hB2 : Buf w2.drew base g cap [] := World.ownsRow.kept (row := none) hB ⟨hd2.os, hd2.tape, hd2.output, hd2.size, fun i hi _ => hd2.block i hi⟩ (.inr (fun e => by cases e))
        have hB3 : Buf w3 base g cap [] := World.ownsRow.kept hB2 HG3.out (.inr (fun e => by have h7 : g = W0.heap.size := Option.some.inj e; omega))
        have hN := Lib.nDigits_le20 U (by omega)
        have hdp := HDP.out
        have := efg_any base W0.heap.size g cap (sdH U) (sdL U) Dp (by omega) (by omega) (by rw [HQ.out]; omega) w3 ⟨hB3, by omega, rfl, Below.refl _ _, by omega, by omega⟩ (fun j b h => by
          obtain ⟨h1, h2⟩ := sd_at U j b h (by omega)
          rw [HC3.out j h1, h2])
        rw [HQ.out] at this
        have e : ftT hi lo X = efgT (sdH U) (sdL U) Dp := by
          unfold ftT
          rw [← HUP.out.1, ← HUP.out.2, hdp]
        rw [e]
        exact this
      have HCE := Lib.hid CE
      clear CE
      go_wp2_with (go_at_call 185; (with_reducible refine HCE.out.mono ?_); rintro e w4 ⟨g4, c4, rfl, hS4⟩)
      go_ret
      obtain ⟨hT, hTn, hB, hbs⟩ := HT.out
      obtain ⟨hw1, hw2, hw3⟩ := HWP.out
      obtain ⟨hz1, hz2⟩ := NZ.out
      have hbw : w.heap.size ≤ W0.heap.size := by rw [HW0.out]; simp
      have hd2 : Below base w w2.drew := HBB.out.1.drew.mono hbs
      exact ⟨g4, c4, rfl, hS4.buf, (hd2.grown HG3.out (by simp; omega) (fun k e => by obtain rfl := Option.some.inj e; omega)).trans hS4.below⟩
end Go.Proofs.YtcbgkbidgpemfaaGreatDoor.prnw

/- FormatFloat for 'e', of a positive float. No conditions but those stated. -/
namespace Go.Proofs.YtcbgkbidgpemfaaGreatDoor.prnw
open Go.RowKit
open Go.Shelf
open Go.Sort
open Go.Proofs.YtcbgkbidgpemfaaGreatDoor.nodew
open Go.Proofs.YtcbgkbidgpemfaaGreatDoor.chkw

/-- a list of bytes as a string -/
def strV (l : List UInt8) : Value := .string ⟨l.toArray⟩
theorem buf_string {w : World} {base g cap : Nat} {l : List UInt8} (h : Buf w base g cap l) : (convert 92 9 (.slice (some ⟨g, 0, none⟩) l.length cap)).run Tryz.prog w = .ok (.string ⟨l.toArray⟩) w := by
  refine run_convert_bytes_back w 92 9 5 ⟨g, 0, none⟩ cap l (by kernel_rfl) (by kernel_rfl) (by kernel_rfl) fun j hj => ?_
  refine World.ownsRow.cells h rfl j _ ?_
  rw [List.getElem?_map, List.getElem?_eq_getElem hj]
  rfl
theorem mk_u8 (w : World) : (Instr.makeSlice 92 (.int .i64 0) (.int .i64 24)).run Tryz.prog w = .ok (.slice (some ⟨w.heap.size, 0, none⟩) 0 24) (w.alloc (.cells (List.replicate 24 (bV 0)).toArray 5)) := by
  obtain ⟨i, hi, hz, h1, h2⟩ := info_parts u8Info
  have := run_makeSlice (P := Tryz.prog) w 92 5 i _ Tryz.underlying92 hi hz .i64 .i64 0 24 (by omega) (by omega) (by rw [h1]; omega) (by rw [h2]; omega) (by omega)
  rw [this, h1]
  have e : madeCells (Value.int IntKind.u8 0).cells (Int.toNat 24 * 1) = (List.replicate 24 (bV 0)).toArray := by kernel_rfl
  rw [e]
  rfl
/-- returns this text, and what lay below is as it was -/
def TxPost (w : World) (t : List UInt8) (x : Ending) (w' : World) : Prop := x = .returned (strV t) ∧ Below w.heap.size w w'
set_option maxRecDepth 100000 in
set_option maxHeartbeats 1000000 in
theorem ifmt_any (hi lo : Nat → Nat) (X : Nat) (hX0 : 0 < X) (hX : X < 9218868437227405312) (w : World) (hT : Tabs hi lo w) (hTn : 8 < w.heap.size) :
    Calls Tryz.prog 115 #[.float .f64 X, .int .u8 101, .int .i64 (-1), .int .i64 64] w (TxPost w (ftT hi lo X)) := by
  obtain ⟨W1, hW1⟩ : ∃ W1, W1 = w.alloc (.cells (List.replicate 24 (bV 0)).toArray 5) := ⟨_, rfl⟩
  have hmk := mk_u8 w
  rw [← hW1] at hmk
  have hb : Buf W1 w.heap.size w.heap.size 24 [] := by rw [hW1]; exact World.ownsRow_made w _ 24 (Nat.le_refl _) (by unfold maxLen; omega) (by simp)
  have hB1 : Below w.heap.size w W1 := by rw [hW1]; exact (Below.refl _ _).alloc (Nat.le_refl _) _
  have hT1 : Tabs hi lo W1 := by
    refine ⟨fun i h6 => ?_, hT.2.1, tab_below hT.2.2 hB1 (by omega)⟩
    obtain ⟨a, b, c, d⟩ := hT.1 i h6
    exact ⟨a, b, (hB1.cell hTn).trans c, (hB1.cell hTn).trans d⟩
  have C := Lib.hid (ftoa_any hi lo X hX0 hX w.heap.size w.heap.size 24 W1 hT1 hTn hb hB1.size)
  have HM := Lib.hid hmk
  have HB := Lib.hid hB1
  clear hW1 hmk hb hB1 hT1 hT hTn hX0 hX
  go_enter Tryz.func115, Tryz.ntmps115
  have hmk : (Instr.makeSlice 92 (.int .i64 0) (.int .i64 (max 3 24))).run Tryz.prog w = .ok (.slice (some ⟨w.heap.size, 0, none⟩) 0 24) W1 := HM.out
  go_wp2_with (go_at_call 144; (with_reducible refine C.out.mono ?_); rintro e w2 ⟨g, c, rfl, hb2, hbl⟩; have hcv := buf_string hb2)
  go_ret
  exact ⟨rfl, HB.out.trans hbl⟩
theorem fmt_any (hi lo : Nat → Nat) (X : Nat) (hX0 : 0 < X) (hX : X < 9218868437227405312) (w : World) (hT : Tabs hi lo w) (hTn : 8 < w.heap.size) :
    Calls Tryz.prog 83 #[.float .f64 X, .int .u8 101, .int .i64 (-1), .int .i64 64] w (TxPost w (ftT hi lo X)) := by
  have C := Lib.hid (ifmt_any hi lo X hX0 hX w hT hTn)
  clear hT hTn hX0 hX
  go_enter Tryz.func83, Tryz.ntmps83
  go_wp2_with (go_at_call 115; (with_reducible refine C.out.mono ?_); rintro e w2 ⟨rfl, hb2⟩)
  go_ret
  exact ⟨rfl, hb2⟩
end Go.Proofs.YtcbgkbidgpemfaaGreatDoor.prnw
