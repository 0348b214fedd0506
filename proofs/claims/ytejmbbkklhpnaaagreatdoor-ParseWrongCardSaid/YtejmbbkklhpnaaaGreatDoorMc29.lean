/- fmtEFG on its road for 'e', shortest. No conditions but those stated. -/
import Derived.Test.YtejmbbkklhpnaaaGreatDoorMc28
import Derived.Test.YtejmbbkklhpnaaaGreatDoorMc17
namespace Go.Proofs.YtejmbbkklhpnaaaGreatDoor.prnw
open Go.RowKit
open Go.Shelf
open Go.Sort
open Go.Proofs.YtejmbbkklhpnaaaGreatDoor.nodew
open Go.Proofs.YtejmbbkklhpnaaaGreatDoor.chkw

/-- the exponent's digits -/
def expD (x : Nat) : List UInt8 :=
  if x < 10 then [48, UInt8.ofNat (48 + x)] else if x < 100 then [UInt8.ofNat (48 + x / 10), UInt8.ofNat (48 + x % 10)]
  else [UInt8.ofNat (48 + x / 100), UInt8.ofNat (48 + x / 10 % 10), UInt8.ofNat (48 + x % 10)]
theorem u8n (n : Nat) (h : n < 256) : (((UInt8.ofNat n).toNat : Nat) : Int) = (n : Int) := by
  rw [UInt8.toNat_ofNat']
  omega
theorem exp_v1 (x : Nat) (h : x < 10) : (#[.int .u8 48, .int .u8 ((x : Int) + 48)] : Array Value) = ([48, UInt8.ofNat (48 + x)].map bV).toArray := by
  have e1 := u8n (48 + x) (by omega)
  change _ = (#[.int .u8 48, .int .u8 ((UInt8.ofNat (48 + x)).toNat : Int)] : Array Value)
  rw [e1, show ((48 + x : Nat) : Int) = (x : Int) + 48 by omega]
theorem exp_v2 (x : Nat) (h : x < 100) : (#[.int .u8 ((x : Int) / 10 + 48), .int .u8 ((x : Int) % 10 + 48)] : Array Value) = ([UInt8.ofNat (48 + x / 10), UInt8.ofNat (48 + x % 10)].map bV).toArray := by
  have e1 := u8n (48 + x / 10) (by omega)
  have e2 := u8n (48 + x % 10) (by omega)
  change _ = (#[.int .u8 ((UInt8.ofNat (48 + x / 10)).toNat : Int), .int .u8 ((UInt8.ofNat (48 + x % 10)).toNat : Int)] : Array Value)
  rw [e1, e2, show ((48 + x / 10 : Nat) : Int) = (x : Int) / 10 + 48 by omega, show ((48 + x % 10 : Nat) : Int) = (x : Int) % 10 + 48 by omega]
theorem exp_v3 (x : Nat) (h : x < 1000) : (#[.int .u8 ((x : Int) / 100 + 48), .int .u8 ((x : Int) / 10 % 10 + 48), .int .u8 ((x : Int) % 10 + 48)] : Array Value) = ([UInt8.ofNat (48 + x / 100), UInt8.ofNat (48 + x / 10 % 10), UInt8.ofNat (48 + x % 10)].map bV).toArray := by
  have e0 := u8n (48 + x / 100) (by omega)
  have e1 := u8n (48 + x / 10 % 10) (by omega)
  have e2 := u8n (48 + x % 10) (by omega)
  change _ = (#[.int .u8 ((UInt8.ofNat (48 + x / 100)).toNat : Int), .int .u8 ((UInt8.ofNat (48 + x / 10 % 10)).toNat : Int), .int .u8 ((UInt8.ofNat (48 + x % 10)).toNat : Int)] : Array Value)
  rw [e0, e1, e2, show ((48 + x / 100 : Nat) : Int) = (x : Int) / 100 + 48 by omega, show ((48 + x / 10 % 10 : Nat) : Int) = (x : Int) / 10 % 10 + 48 by omega, show ((48 + x % 10 : Nat) : Int) = (x : Int) % 10 + 48 by omega]
/-- the text of digits d0 ds, of which the point stands behind dp -/
def efgT (d0 : UInt8) (ds : List UInt8) (dp : Int) : List UInt8 :=
  [d0] ++ (if ds = [] then [] else 46 :: ds) ++ [101] ++ [if dp - 1 < 0 then 45 else 43] ++ expD (dp - 1).natAbs
def EfPost (w : World) (base bb : Nat) (t : List UInt8) (x : Ending) (w' : World) : Prop :=
  ∃ g cap, x = .returned (.slice (some ⟨g, 0, none⟩) t.length cap) ∧ St w base bb w' g cap t
set_option maxRecDepth 100000 in
set_option maxHeartbeats 1000000 in
theorem efg_any (base bb g cap : Nat) (d0 : UInt8) (ds : List UInt8) (dp : Int) (p0 : -400 ≤ dp) (p1 : dp ≤ 400) (hlen : ds.length ≤ 20) (w : World) (hS : St w base bb w g cap [])
    (hd : ∀ j b, (d0 :: ds)[j]? = some b → w.cell? ⟨bb, j, none⟩ = some (bV b)) :
    Calls Tryz.prog 131 #[.slice (some ⟨g, 0, none⟩) 0 cap, .bool false, .slice (some ⟨bb, 0, none⟩) 32 32, .int .i64 dp, .int .i64 ((ds.length : Nat) + 1), .int .i64 (ds.length : Nat), .int .u8 101, .bool true] w (EfPost w base bb (efgT d0 ds dp)) := by
  have c0 : w.cell? ⟨bb, 0, none⟩ = some (.int .u8 (d0.toNat : Int)) := hd 0 d0 rfl
  have HS := Lib.hid hS
  have HD := Lib.hid hd
  obtain ⟨q, hq⟩ : ∃ q, q = ds.length := ⟨_, rfl⟩
  rw [← hq] at hlen ⊢
  have HQ := Lib.hid hq
  have q0 : (0 : Int) ≤ (q : Int) := by omega
  have q1 : (q : Int) ≤ 20 := by omega
  have q2 : ((q : Int) + 1 == 0) = false := by rw [beq_eq_false_iff_ne]; omega
  clear hS hd hq hlen
  go_enter Tryz.func131, Tryz.ntmps131
  go_upto_region 25 with (fail)
  clear c0
  go_upto_region 26 with (at_builtin; refine wl_put8 HS.out rfl (.tmp 87) (.tmp 89) rfl [d0] 1 _ rfl rfl (by decide) 0 rfl (by decide) rfl rfl ?_; intro g1 c1 w1 hS1)
  obtain ⟨l, hl⟩ : ∃ l, l = [d0] ++ (if ds = [] then [] else 46 :: ds) := ⟨_, rfl⟩
  have HL := Lib.hid hl
  have HS1 := Lib.hid hS1
  clear hl hS1
  go_upto_if 92 with (fail)
  go_cut [0] from 20 to 119 (fun s0 wx => ∃ g' c', s0 = .slice (some ⟨g', 0, none⟩) l.length c' ∧ St w base bb wx g' c' l)
  case first =>
    by_cases h0 : q = 0
    · have hds : ds = [] := List.length_eq_zero_iff.1 (by rw [← HQ.out]; exact h0)
      have hl1 : l = [d0] := by rw [HL.out, if_pos hds]; rfl
      have HL1 := Lib.hid hl1
      have hq0 : decide (0 < q) = false := decide_eq_false (by omega)
      have hq1 : ¬ 0 < q := by omega
      clear hds hl1 h0
      go_wp2_with fail
      go_meet
      exact ⟨g1, c1, by rw [HL1.out]; rfl, by rw [HL1.out]; exact HS1.out⟩
    · have hds : ¬ ds = [] := fun e => h0 (by rw [HQ.out, e]; rfl)
      have hl1 : l = [d0] ++ [46] ++ ds := by rw [HL.out, if_neg hds]; simp
      have HL1 := Lib.hid hl1
      have hq0 : 0 < q := by omega
      have hq1 : decide (0 < q) = true := decide_eq_true hq0
      clear hds hl1
      go_upto_region 28 with (at_builtin; refine wl_put8 HS1.out rfl (.tmp 93) (.tmp 94) rfl [46] 1 _ rfl rfl (by decide) 1 rfl (by decide) rfl rfl ?_; intro g2 c2 w2 hS2)
      have HS2 := Lib.hid hS2
      have q3 : (1 : Int) < (q : Int) + 1 := by omega
      clear hS2
      go_upto_region 31 with (fail)
      have s1 : ((q : Int) + 1).toNat = q + 1 := by omega
      have s2 : q + 1 - 1 = q := by omega
      have s3 : (q : Int) + 1 ≤ 32 := by omega
      have s4 : q + 1 ≤ 32 := by omega
      go_upto_region 32 with (at_builtin; refine wl_digs8 HS2.out rfl (.tmp 103) (.tmp 107) rfl ds 1 q 31 HQ.out.symm hq0 2 rfl (by omega) (fun j b hb => by have := HD.out (1 + j) b (by rw [Nat.add_comm, List.getElem?_cons_succ]; exact hb); exact this) rfl rfl ?_; intro g3 c3 w3 hS3)
      clear s1 s2 s3 s4
      have HS3 := Lib.hid hS3
      have hq5 : (q : Int) + 1 - ((q : Int) + 1) = 0 := by omega
      clear hS3
      go_wp2_with fail
      go_loopw [0, 114] (fun s0 i wr => s0 = .slice (some ⟨g3, 0, none⟩) (2 + q) c3 ∧ i = .int .i64 0 ∧ wr = w3) (fun _ _ _ => 0)
      case atStart => exact ⟨rfl, rfl, rfl⟩
      case round =>
        obtain ⟨rfl, rfl, rfl⟩ := hrel
        go_wp2_with fail
        go_meet
        exact ⟨g3, c3, by rw [HL1.out, HQ.out]; simp only [List.length_append, List.length_cons, List.length_nil], by rw [HL1.out]; exact HS3.out⟩
  case rest =>
    obtain ⟨g4, c4, rfl, hS4⟩ := hcut
    have hLb : l.length ≤ 22 := by
      rw [HL.out]
      have := HQ.out
      split <;> simp <;> omega
    have HS4 := Lib.hid hS4
    obtain ⟨L, hL⟩ : ∃ L, l.length = L := ⟨_, rfl⟩
    rw [hL] at hLb ⊢
    have HL2 := Lib.hid hL
    obtain ⟨c, hc⟩ : ∃ c : UInt8, c = if dp - 1 < 0 then 45 else 43 := ⟨_, rfl⟩
    obtain ⟨x, hx⟩ : ∃ x, x = (dp - 1).natAbs := ⟨_, rfl⟩
    have hx4 : x ≤ 401 := by omega
    have HC := Lib.hid hc
    have HX := Lib.hid hx
    clear hS4 hc hx hL
    go_upto_region 38 with (at_builtin; refine wl_put8 HS4.out rfl (.tmp 120) (.tmp 122) rfl [101] 1 _ rfl rfl (by decide) L HL2.out (by omega) rfl rfl ?_; intro g5 c5 w5 hS5)
    have HS5 := Lib.hid hS5
    clear hS5
    go_upto_if 129 with (fail)
    go_cut [19, 22] from 129 to 131 (fun s19 s22 wx => s19 = .int .u8 (c.toNat : Int) ∧ s22 = .int .i64 (x : Int) ∧ wx = w5)
    case first =>
      by_cases hneg : dp - 1 < 0
      · have hc1 : ((c.toNat : Nat) : Int) = 45 := by rw [HC.out, if_pos hneg]; rfl
        have hx1 : (x : Int) = -(dp - 1) := by have := HX.out; omega
        have HC1 := Lib.hid hc1
        have HX1 := Lib.hid hx1
        have hd1 : decide (dp - 1 < 0) = true := decide_eq_true hneg
        clear hc1 hx1
        go_wp2_with fail
        go_meet
        exact ⟨by rw [HC1.out], by rw [HX1.out], rfl⟩
      · have hc1 : ((c.toNat : Nat) : Int) = 43 := by rw [HC.out, if_neg hneg]; rfl
        have hx1 : (x : Int) = dp - 1 := by have := HX.out; omega
        have HC1 := Lib.hid hc1
        have HX1 := Lib.hid hx1
        have hd1 : decide (dp - 1 < 0) = false := decide_eq_false hneg
        clear hc1 hx1
        go_wp2_with fail
        go_meet
        exact ⟨by rw [HC1.out], by rw [HX1.out], rfl⟩
    case rest =>
      obtain ⟨rfl, rfl, rfl⟩ := hcut
      have hxi : (x : Int) ≤ 401 := by omega
      have hx0 : (0 : Int) ≤ (x : Int) := by omega
      go_upto_region 47 with (at_builtin; refine wl_put8 HS5.out rfl (.tmp 132) (.tmp 134) rfl [c] 1 _ rfl rfl (by decide) (L + 1) (by rw [List.length_append, HL2.out]; rfl) (by omega) rfl rfl ?_; intro g6 c6 w6 hS6)
      have HS6 := Lib.hid hS6
      clear hS6
      by_cases h10 : x < 10
      · have ht : efgT d0 ds dp = l ++ [101] ++ [c] ++ [48, UInt8.ofNat (48 + x)] := by
          unfold efgT expD
          rw [← HX.out, if_pos h10, ← HC.out, HL.out]
        have HTT := Lib.hid ht
        have e1 : decide (x < 10) = true := decide_eq_true h10
        clear ht
        go_wp2_with (at_builtin; refine wl_put8 HS6.out rfl (.tmp 155) (.tmp 159) rfl [48, UInt8.ofNat (48 + x)] 2 _ (exp_v1 x h10) rfl (by decide) (L + 1 + 1) (by rw [List.length_append, List.length_append, HL2.out]; rfl) (by omega) rfl rfl ?_; intro g7 c7 w7 hS7; have HS7 := Lib.hid hS7; clear hS7)
        go_ret
        exact ⟨g7, c7, by rw [HTT.out, List.length_append, List.length_append, List.length_append, HL2.out]; rfl, by rw [HTT.out]; exact HS7.out⟩
      · have e1 : decide (x < 10) = false := decide_eq_false h10
        by_cases h100 : x < 100
        · have ht : efgT d0 ds dp = l ++ [101] ++ [c] ++ [UInt8.ofNat (48 + x / 10), UInt8.ofNat (48 + x % 10)] := by
            unfold efgT expD
            rw [← HX.out, if_neg h10, if_pos h100, ← HC.out, HL.out]
          have HTT := Lib.hid ht
          have e2 : decide (x < 100) = true := decide_eq_true h100
          clear ht
          go_wp2_with (at_builtin; refine wl_put8 HS6.out rfl (.tmp 164) (.tmp 173) rfl [UInt8.ofNat (48 + x / 10), UInt8.ofNat (48 + x % 10)] 2 _ (exp_v2 x h100) rfl (by decide) (L + 1 + 1) (by rw [List.length_append, List.length_append, HL2.out]; rfl) (by omega) rfl rfl ?_; intro g7 c7 w7 hS7; have HS7 := Lib.hid hS7; clear hS7)
          go_ret
          exact ⟨g7, c7, by rw [HTT.out, List.length_append, List.length_append, List.length_append, HL2.out]; rfl, by rw [HTT.out]; exact HS7.out⟩
        · have ht : efgT d0 ds dp = l ++ [101] ++ [c] ++ [UInt8.ofNat (48 + x / 100), UInt8.ofNat (48 + x / 10 % 10), UInt8.ofNat (48 + x % 10)] := by
            unfold efgT expD
            rw [← HX.out, if_neg h10, if_neg h100, ← HC.out, HL.out]
          have HTT := Lib.hid ht
          have e2 : decide (x < 100) = false := decide_eq_false h100
          clear ht
          go_wp2_with (at_builtin; refine wl_put8 HS6.out rfl (.tmp 136) (.tmp 150) rfl [UInt8.ofNat (48 + x / 100), UInt8.ofNat (48 + x / 10 % 10), UInt8.ofNat (48 + x % 10)] 3 _ (exp_v3 x (by omega)) rfl (by decide) (L + 1 + 1) (by rw [List.length_append, List.length_append, HL2.out]; rfl) (by omega) rfl rfl ?_; intro g7 c7 w7 hS7; have HS7 := Lib.hid hS7; clear hS7)
          go_ret
          exact ⟨g7, c7, by rw [HTT.out, List.length_append, List.length_append, List.length_append, HL2.out]; rfl, by rw [HTT.out]; exact HS7.out⟩
end Go.Proofs.YtejmbbkklhpnaaaGreatDoor.prnw

/- Plain mathematics ahead of ftoa64: digits, the parts of a float. No conditions but those stated. -/
namespace Go.Proofs.YtejmbbkklhpnaaaGreatDoor.prnw
open Go.RowKit
open Go.Shelf
open Go.Sort
open Go.Proofs.YtejmbbkklhpnaaaGreatDoor.nodew
open Go.Proofs.YtejmbbkklhpnaaaGreatDoor.chkw

theorem pow_nDigits (u : Nat) (h : 1 ≤ u) : 10 ^ (Lib.nDigits u - 1) ≤ u := by
  induction u using Nat.strongRecOn with
  | _ u ih =>
    by_cases h1 : u < 10
    · rw [Lib.nDigits_small h1]; simpa using h
    · have h2 := ih (u / 10) (by omega) (by omega)
      have h3 := Lib.nDigits_pos (u / 10)
      rw [Lib.nDigits_big h1, show Lib.nDigits (u / 10) + 1 - 1 = (Lib.nDigits (u / 10) - 1) + 1 by omega, Nat.pow_succ]
      omega
theorem dg_first (u : Nat) (h : 1 ≤ u) : Lib.dg u (Lib.nDigits u - 1 - 0) ≠ 48 := by
  have h1 := pow_nDigits u h
  have h2 := Lib.lt_pow_nDigits u
  have h3 := Lib.nDigits_pos u
  obtain ⟨k, hk⟩ : ∃ k, Lib.nDigits u = k + 1 := ⟨Lib.nDigits u - 1, by omega⟩
  rw [hk] at h1 h2 ⊢
  rw [show k + 1 - 1 = k by omega] at h1
  rw [show k + 1 - 1 - 0 = k by omega]
  rw [Nat.pow_succ] at h2
  have p : 0 < 10 ^ k := Nat.pow_pos (by decide)
  have q1 : 1 ≤ u / 10 ^ k := (Nat.le_div_iff_mul_le p).2 (by omega)
  have q2 : u / 10 ^ k < 10 := Nat.div_lt_of_lt_mul h2
  unfold Lib.dg
  intro e
  have e2 := congrArg UInt8.toNat e
  rw [UInt8.toNat_ofNat', Nat.mod_eq_of_lt q2] at e2
  have : (48 : UInt8).toNat = 48 := rfl
  omega
theorem trim_pos (u : Nat) (h : 1 ≤ u) : ∀ n, 1 ≤ n → 1 ≤ trimTo u n
  | 0, h0 => by omega
  | 1, _ => by
    unfold trimTo
    rw [if_neg (dg_first u h)]
    exact Nat.le_refl _
  | n + 2, _ => by
    unfold trimTo
    split
    · exact trim_pos u h (n + 1) (by omega)
    · omega
theorem dg_digit (u j : Nat) : 48 ≤ (Lib.dg u j).toNat ∧ (Lib.dg u j).toNat ≤ 57 := by
  unfold Lib.dg
  rw [UInt8.toNat_ofNat']
  omega
/-- the first digit, and the others that count -/
def sdH (u : Nat) : UInt8 := Lib.dg u (Lib.nDigits u - 1)
def sdL (u : Nat) : List UInt8 := (List.range (trimTo u (Lib.nDigits u) - 1)).map fun t => Lib.dg u (Lib.nDigits u - 1 - (t + 1))
theorem sdL_len (u : Nat) (h : 1 ≤ u) : (sdL u).length + 1 = trimTo u (Lib.nDigits u) := by
  have := trim_pos u h _ (Lib.nDigits_pos u)
  unfold sdL
  rw [List.length_map, List.length_range]
  omega
theorem sd_at (u j : Nat) (b : UInt8) (h : (sdH u :: sdL u)[j]? = some b) (hu : 1 ≤ u) : j < Lib.nDigits u ∧ b = Lib.dg u (Lib.nDigits u - 1 - j) := by
  have ht := trim_le u (Lib.nDigits u)
  have hl := sdL_len u hu
  cases j with
  | zero =>
    rw [List.getElem?_cons_zero] at h
    exact ⟨Lib.nDigits_pos u, (Option.some.inj h).symm⟩
  | succ j =>
    rw [List.getElem?_cons_succ] at h
    obtain ⟨hj, he⟩ := List.getElem?_eq_some_iff.1 h
    refine ⟨by omega, ?_⟩
    rw [← he]
    simp [sdL]
/-- a mantissa set to the left end -/
theorem shl_bd (M : Nat) (h : 1 ≤ M) (h2 : M < 9007199254740992) : 1 ≤ Lib.bitLen M ∧ Lib.bitLen M ≤ 53 ∧ 9223372036854775808 ≤ M * 2 ^ (64 - Lib.bitLen M) ∧ M * 2 ^ (64 - Lib.bitLen M) < 18446744073709551616 := by
  obtain ⟨a, b, c, d⟩ := bl_bd 64 M (by omega) (by omega)
  change 1 ≤ Lib.bitLen M at a
  change Lib.bitLen M ≤ 64 at b
  change 2 ^ (Lib.bitLen M - 1) ≤ M at c
  change M < 2 ^ Lib.bitLen M at d
  obtain ⟨L, hL⟩ : ∃ L, Lib.bitLen M = L := ⟨_, rfl⟩
  rw [hL] at a b c d ⊢
  have h53 : L ≤ 53 := by
    apply Nat.le_of_not_lt
    intro h
    have h5 := Nat.pow_le_pow_right (show 0 < 2 by decide) (show 53 ≤ L - 1 by omega)
    have : (2 : Nat) ^ 53 = 9007199254740992 := by decide
    omega
  have p : 0 < 2 ^ (64 - L) := Nat.pow_pos (by decide)
  have e1 : 2 ^ (L - 1) * 2 ^ (64 - L) = 9223372036854775808 := by
    rw [← Nat.pow_add, show L - 1 + (64 - L) = 63 by omega]
  have e2 : 2 ^ L * 2 ^ (64 - L) = 18446744073709551616 := by
    rw [← Nat.pow_add, show L + (64 - L) = 64 by omega]
  have q1 := Nat.mul_le_mul_right (2 ^ (64 - L)) c
  have q2 := (Nat.mul_lt_mul_right p).2 d
  exact ⟨a, h53, by omega, by omega⟩
end Go.Proofs.YtejmbbkklhpnaaaGreatDoor.prnw

/- The printed digits: the model's words in plain numbers. -/
namespace Go.Proofs.YtejmbbkklhpnaaaGreatDoor.fpm
open Go Go.RowKit Go.Proofs.YtejmbbkklhpnaaaGreatDoor.prnw

end Go.Proofs.YtejmbbkklhpnaaaGreatDoor.fpm

/- The digits that are printed lie in the number's interval. Plain. -/
namespace Go.Proofs.YtejmbbkklhpnaaaGreatDoor.fpm
open Go Go.RowKit Go.Proofs.YtejmbbkklhpnaaaGreatDoor.prnw

/-- how many binary places below one the halves of halves of the least unit are -/
def upB : Nat := 1076
theorem upB_eq : upB = 1076 := rfl
/-- a whole number of the power P against a whole number of halves: two spellings of one comparison -/
theorem scale_id (P E : Int) (h0 : -348 ≤ P) (i : Nat) (hi : i = (P + 348).toNat) (lp : Int) (hlp : lp = P * 108853 / 32768) (hE : -1074 ≤ E) (S s : Nat) (hS : 2 ≤ S) (hs : (s : Int) = S - 3 - E - lp) (k W : Nat) :
    ∃ α β : Nat, 0 < α ∧ 0 < β ∧ k * (4 * (dT i * 2 ^ (128 + s))) * α = k * 2 ^ upB * 10 ^ (-P).toNat * β ∧ W * 2 ^ (S - 2) * nT i * α = W * 2 ^ (E + 1074).toNat * 10 ^ P.toNat * β := by
  have hid := nd_id P h0 i hi lp hlp
  have hd := dT_pos i
  have hB := upB_eq
  obtain ⟨u, hu⟩ : ∃ u, u = (lp - 127).toNat := ⟨_, rfl⟩
  obtain ⟨v, hv⟩ : ∃ v, v = (127 - lp).toNat := ⟨_, rfl⟩
  obtain ⟨t, ht⟩ : ∃ t, t = (E + 1074).toNat := ⟨_, rfl⟩
  rw [← hu, ← hv] at hid
  rw [← ht]
  refine ⟨10 ^ (-P).toNat * 2 ^ u * 2 ^ (S - 2 + v + upB), dT i * 2 ^ (130 + s + u + (S - 2 + v)), ?_, ?_, ?_, ?_⟩
  · exact Nat.mul_pos (Nat.mul_pos (Nat.pow_pos (by decide)) (Nat.two_pow_pos _)) (Nat.two_pow_pos _)
  · exact Nat.mul_pos hd (Nat.two_pow_pos _)
  · have e : 4 * 2 ^ (128 + s) * 2 ^ u * 2 ^ (S - 2 + v + upB) = 2 ^ upB * 2 ^ (130 + s + u + (S - 2 + v)) := by
      rw [show (4 : Nat) = 2 ^ 2 by decide, ← Nat.pow_add, ← Nat.pow_add, ← Nat.pow_add, ← Nat.pow_add]
      exact congrArg (fun z : Nat => 2 ^ z) (by omega)
    generalize 10 ^ (-P).toNat = T at *
    generalize 2 ^ (128 + s) = x1 at *
    generalize 2 ^ u = x2 at *
    generalize 2 ^ (S - 2 + v + upB) = x3 at *
    generalize 2 ^ upB = x4 at *
    generalize 2 ^ (130 + s + u + (S - 2 + v)) = x5 at *
    have e1 : k * (4 * (dT i * x1)) * (T * x2 * x3) = (k * T * dT i) * (4 * x1 * x2 * x3) := by ac_rfl
    have e2 : k * x4 * T * (dT i * x5) = (k * T * dT i) * (x4 * x5) := by ac_rfl
    rw [e1, e2, e]
  · have e : 2 ^ (S - 2) * 2 ^ v * 2 ^ (S - 2 + v + upB) = 2 ^ t * 2 ^ (130 + s + u + (S - 2 + v)) := by
      rw [← Nat.pow_add, ← Nat.pow_add, ← Nat.pow_add]
      exact congrArg (fun z : Nat => 2 ^ z) (by omega)
    generalize 10 ^ (-P).toNat = T at *
    generalize 10 ^ P.toNat = T' at *
    generalize 2 ^ (S - 2) = x1 at *
    generalize 2 ^ u = x2 at *
    generalize 2 ^ v = x6 at *
    generalize 2 ^ (S - 2 + v + upB) = x3 at *
    generalize 2 ^ t = x4 at *
    generalize 2 ^ (130 + s + u + (S - 2 + v)) = x5 at *
    have e1 : W * x1 * nT i * (T * x2 * x3) = (W * x1 * x3) * (nT i * T * x2) := by ac_rfl
    have e2 : W * x4 * T' * (dT i * x5) = (W * T' * dT i) * (x4 * x5) := by ac_rfl
    have e3 : (W * x1 * x3) * (dT i * T' * x6) = (W * T' * dT i) * (x1 * x6 * x3) := by ac_rfl
    rw [e1, hid, e2, e3, e]
/-- the power of ten and the shift for a number's last place E -/
def powB (E : Int) : Bool := decide (10 ^ (E * 78913 / 262144).toNat * 2 ^ (-E).toNat ≤ 10 ^ (-(E * 78913 / 262144)).toNat * 2 ^ E.toNat)
def powC (E : Int) : Bool := decide (4 * (10 ^ ((E * 631305 - 261663) / 2097152).toNat * 2 ^ (-E).toNat) ≤ 3 * (10 ^ (-((E * 631305 - 261663) / 2097152)).toNat * 2 ^ E.toNat))
theorem powAll : (List.range 2046).all (fun j => powB ((j : Int) - 1074) && powC ((j : Int) - 1074)) = true := by kernel_rfl
theorem pow_at (E : Int) (h0 : -1074 ≤ E) (h1 : E ≤ 971) : powB E = true ∧ powC E = true := by
  have := List.all_eq_true.1 powAll (E + 1074).toNat (List.mem_range.2 (by omega))
  rw [show (((E + 1074).toNat : Nat) : Int) - 1074 = E by omega] at this
  simpa using this
/-- the number that is picked lies between -/
theorem pick (Q Amin Am Amax o : Nat) (hQ : 0 < Q) (ho : o ≤ 1) (hA0 : 0 < Amin) (h1 : Amin < Am) (hs1 : Amax + 2 * Amin ≤ 3 * Am) (hs2 : 2 * Am ≤ Amax + Amin) (hw : Amin + 4 * Q ≤ Amax)
    (hodd : o = 1 → Amin + 4 * Q < Amax ∨ ∃ n, Amin < n * (4 * Q) ∧ n * (4 * Q) < Amax) (k : Nat)
    (hk : k = if (unr Amin Q + o + 3) / 4 ≤ (unr Amax Q - o) / 4 / 10 * 10 then (unr Amax Q - o) / 4 / 10 * 10 else if (unr Amin Q + o + 3) / 4 < (unr Amax Q - o) / 4 then rnd (unr Am Q) else (unr Amin Q + o + 3) / 4) :
    (Amin ≤ k * (4 * Q) ∧ k * (4 * Q) ≤ Amax) ∧ (o = 1 → Amin < k * (4 * Q) ∧ k * (4 * Q) < Amax) := by
  have hdn : ∀ n, (unr Amin Q + o + 3) / 4 ≤ n ↔ (if o = 1 then Amin < n * (4 * Q) else Amin ≤ n * (4 * Q)) := fun n => by
    have ho2 : o = 0 ∨ o = 1 := by omega
    rcases ho2 with rfl | rfl
    · simp only [Nat.add_zero, Nat.zero_ne_one, if_false]; exact r_ceil Amin Q hQ n
    · simp only [if_true]; exact r_above Amin Q hQ n
  have hdx : ∀ n, n ≤ (unr Amax Q - o) / 4 ↔ (if o = 1 then n * (4 * Q) < Amax else n * (4 * Q) ≤ Amax) := fun n => by
    have ho2 : o = 0 ∨ o = 1 := by omega
    rcases ho2 with rfl | rfl
    · simp only [Nat.sub_zero, Nat.zero_ne_one, if_false]; exact r_under Amax Q hQ n
    · simp only [if_true]; exact r_below Amax Q hQ (by omega) n
  obtain ⟨dn, hdne⟩ : ∃ dn, dn = (unr Amin Q + o + 3) / 4 := ⟨_, rfl⟩
  obtain ⟨dx, hdxe⟩ : ∃ dx, dx = (unr Amax Q - o) / 4 := ⟨_, rfl⟩
  rw [← hdne, ← hdxe] at hk
  rw [← hdne] at hdn
  rw [← hdxe] at hdx
  obtain ⟨P, hP⟩ : ∃ P, P = 4 * Q := ⟨_, rfl⟩
  rw [← hP] at hw hodd hdn hdx ⊢
  -- it is enough that dn ≤ k ≤ dx
  suffices hkk : dn ≤ k ∧ k ≤ dx by
    have a := (hdn k).1 hkk.1
    have b := (hdx k).1 hkk.2
    by_cases h : o = 1
    · rw [if_pos h] at a b
      exact ⟨⟨by omega, by omega⟩, fun _ => ⟨a, b⟩⟩
    · rw [if_neg h] at a b
      exact ⟨⟨a, b⟩, fun h' => absurd h' h⟩
  have mono : ∀ n, (n + 1) * P = n * P + P := fun n => by rw [Nat.add_mul, Nat.one_mul]
  by_cases c1 : dn ≤ dx / 10 * 10
  · rw [if_pos c1] at hk
    omega
  · rw [if_neg c1] at hk
    by_cases c2 : dn < dx
    · rw [if_pos c2] at hk
      obtain ⟨q1, q2, _⟩ := r_round Am Q hQ
      rw [← hk, ← hP] at q1 q2
      refine ⟨?_, ?_⟩
      · apply Nat.le_of_not_lt
        intro hlt
        have n1 := (hdx (k + 2)).1 (by omega)
        have n3 : ¬ dn ≤ k := by omega
        rw [hdn k] at n3
        have e2 : (k + 2) * P = k * P + P + P := by rw [Nat.add_mul]; omega
        rw [e2] at n1
        split at n1 <;> split at n3 <;> omega
      · apply Nat.le_of_not_lt
        intro hlt
        obtain ⟨k', rfl⟩ : ∃ k', k = k' + 2 := ⟨k - 2, by omega⟩
        have n1 := (hdn k').1 (by omega)
        have n3 : ¬ k' + 2 ≤ dx := by omega
        rw [hdx (k' + 2)] at n3
        have e2 : (k' + 2) * P = k' * P + P + P := by rw [Nat.add_mul]; omega
        rw [e2] at n3 q1 q2
        split at n1 <;> split at n3 <;> omega
    · rw [if_neg c2] at hk
      rw [hk]
      refine ⟨Nat.le_refl _, ?_⟩
      -- there is a whole number between
      have hex : ∃ n, dn ≤ n ∧ n ≤ dx := by
        by_cases h : o = 1
        · rcases hodd h with hh | ⟨n, ha, hb⟩
          · refine ⟨dx, ?_, Nat.le_refl _⟩
            rw [hdn dx, if_pos h]
            have n3 : ¬ dx + 1 ≤ dx := by omega
            rw [hdx (dx + 1), if_pos h, mono] at n3
            omega
          · exact ⟨n, by rw [hdn n, if_pos h]; exact ha, by rw [hdx n, if_pos h]; exact hb⟩
        · refine ⟨dx, ?_, Nat.le_refl _⟩
          rw [hdn dx, if_neg h]
          have n3 : ¬ dx + 1 ≤ dx := by omega
          rw [hdx (dx + 1), if_neg h, mono] at n3
          omega
      obtain ⟨n, ha, hb⟩ := hex
      omega
end Go.Proofs.YtejmbbkklhpnaaaGreatDoor.fpm

/- A positive float's digits lie in its interval. Plain. -/
namespace Go.Proofs.YtejmbbkklhpnaaaGreatDoor.fpm
open Go Go.RowKit Go.Proofs.YtejmbbkklhpnaaaGreatDoor.prnw

theorem ft_range (X : Nat) (hX0 : 0 < X) (hX : X < 9218868437227405312) : 1 ≤ ftM X ∧ ftM X < 9007199254740992 ∧ -1074 ≤ ftE X - 52 ∧ ftE X - 52 ≤ 971 ∧ (ftM X < 4503599627370496 → ftE X - 52 = -1074) := by
  obtain ⟨a, b⟩ := ftM_pos X hX0
  unfold ftM ftE at *
  split at a
  · rename_i h
    rw [if_pos h] at b ⊢
    rw [if_pos h]
    omega
  · rename_i h
    rw [if_neg h] at b ⊢
    rw [if_neg h]
    omega
theorem bl_norm (M : Nat) (h1 : 4503599627370496 ≤ M) (h2 : M < 9007199254740992) : Lib.bitLen M = 53 := by
  obtain ⟨a, b, c, d⟩ := bl_bd 64 M (by omega) (by omega)
  change 2 ^ (Lib.bitLen M - 1) ≤ M at c
  change M < 2 ^ Lib.bitLen M at d
  have h53 : ¬ Lib.bitLen M ≤ 52 := fun h => by
    have := Nat.pow_le_pow_right (show 0 < 2 by decide) h
    have e : (2 : Nat) ^ 52 = 4503599627370496 := by decide
    omega
  have h54 : ¬ 54 ≤ Lib.bitLen M := fun h => by
    have := Nat.pow_le_pow_right (show 0 < 2 by decide) (show 53 ≤ Lib.bitLen M - 1 by omega)
    have e : (2 : Nat) ^ 53 = 9007199254740992 := by decide
    omega
  omega
theorem bl_sub (M : Nat) (h0 : 1 ≤ M) (h1 : M < 4503599627370496) : Lib.bitLen M ≤ 52 := by
  obtain ⟨a, b, c, d⟩ := bl_bd 64 M (by omega) (by omega)
  change 2 ^ (Lib.bitLen M - 1) ≤ M at c
  apply Nat.le_of_not_lt
  intro h
  have := Nat.pow_le_pow_right (show 0 < 2 by decide) (show 52 ≤ Lib.bitLen M - 1 by omega)
  have e : (2 : Nat) ^ 52 = 4503599627370496 := by decide
  omega
def powS (E : Int) : Bool := decide (E = 0) || decide (10 ^ (E * 78913 / 262144).toNat * 2 ^ (-E).toNat < 10 ^ (-(E * 78913 / 262144)).toNat * 2 ^ E.toNat)
theorem powSAll : (List.range 2046).all (fun j => powS ((j : Int) - 1074)) = true := by kernel_rfl
theorem powS_at (E : Int) (h0 : -1074 ≤ E) (h1 : E ≤ 971) : powS E = true := by
  have := List.all_eq_true.1 powSAll (E + 1074).toNat (List.mem_range.2 (by omega))
  rw [show (((E + 1074).toNat : Nat) : Int) - 1074 = E by omega] at this
  exact this
/-- the width of an interval, scaled -/
theorem width (P E : Int) (W c : Nat) (hE : -1074 ≤ E) (h : c * (10 ^ (-P).toNat * 2 ^ (-E).toNat) ≤ W * (10 ^ P.toNat * 2 ^ E.toNat)) (hc : c = 4) : 1 * 2 ^ upB * 10 ^ (-P).toNat ≤ W * 2 ^ (E + 1074).toNat * 10 ^ P.toNat := by
  subst hc
  have hB := upB_eq
  obtain ⟨t, ht⟩ : ∃ t, t = 1074 - (-E).toNat := ⟨_, rfl⟩
  have e1 : 2 ^ upB = 4 * (2 ^ (-E).toNat * 2 ^ t) := by
    rw [show (4 : Nat) = 2 ^ 2 by decide, ← Nat.pow_add, ← Nat.pow_add]
    exact congrArg (fun z : Nat => 2 ^ z) (by omega)
  have e2 : 2 ^ (E + 1074).toNat = 2 ^ E.toNat * 2 ^ t := by
    rw [← Nat.pow_add]
    exact congrArg (fun z : Nat => 2 ^ z) (by omega)
  rw [e1, e2]
  generalize 10 ^ (-P).toNat = x1 at *
  generalize 10 ^ P.toNat = x2 at *
  generalize 2 ^ (-E).toNat = x3 at *
  generalize 2 ^ E.toNat = x4 at *
  generalize 2 ^ t = x5 at *
  have := Nat.mul_le_mul_right x5 h
  have a1 : 1 * (4 * (x3 * x5)) * x1 = 4 * (x1 * x3) * x5 := by rw [Nat.one_mul]; ac_rfl
  have a2 : W * (x4 * x5) * x2 = W * (x2 * x4) * x5 := by ac_rfl
  rw [a1, a2]
  exact this
theorem width_lt (P E : Int) (hE : -1074 ≤ E) (h : 10 ^ (-P).toNat * 2 ^ (-E).toNat < 10 ^ P.toNat * 2 ^ E.toNat) : 1 * 2 ^ upB * 10 ^ (-P).toNat < 4 * 2 ^ (E + 1074).toNat * 10 ^ P.toNat := by
  have hB := upB_eq
  obtain ⟨t, ht⟩ : ∃ t, t = 1074 - (-E).toNat := ⟨_, rfl⟩
  have e1 : 2 ^ upB = 4 * (2 ^ (-E).toNat * 2 ^ t) := by
    rw [show (4 : Nat) = 2 ^ 2 by decide, ← Nat.pow_add, ← Nat.pow_add]
    exact congrArg (fun z : Nat => 2 ^ z) (by omega)
  have e2 : 2 ^ (E + 1074).toNat = 2 ^ E.toNat * 2 ^ t := by
    rw [← Nat.pow_add]
    exact congrArg (fun z : Nat => 2 ^ z) (by omega)
  have h5 : 0 < 2 ^ t := Nat.two_pow_pos t
  rw [e1, e2]
  generalize 10 ^ (-P).toNat = x1 at *
  generalize 10 ^ P.toNat = x2 at *
  generalize 2 ^ (-E).toNat = x3 at *
  generalize 2 ^ E.toNat = x4 at *
  generalize 2 ^ t = x5 at *
  have := (Nat.mul_lt_mul_right h5).2 h
  have a1 : 1 * (4 * (x3 * x5)) * x1 = 4 * (x1 * x3 * x5) := by rw [Nat.one_mul]; ac_rfl
  have a2 : 4 * (x4 * x5) * x2 = 4 * (x2 * x4 * x5) := by ac_rfl
  rw [a1, a2]
  omega
/-- two comparisons, scaled -/
theorem le_scaled {a b c d α β : Nat} (hα : 0 < α) (hβ : 0 < β) (h1 : a * α = c * β) (h2 : b * α = d * β) : a ≤ b ↔ c ≤ d := by
  refine ⟨fun h => ?_, fun h => ?_⟩
  · have := Nat.mul_le_mul_right α h
    rw [h1, h2] at this
    exact Nat.le_of_mul_le_mul_right this hβ
  · have := Nat.mul_le_mul_right β h
    rw [← h1, ← h2] at this
    exact Nat.le_of_mul_le_mul_right this hα
end Go.Proofs.YtejmbbkklhpnaaaGreatDoor.fpm
