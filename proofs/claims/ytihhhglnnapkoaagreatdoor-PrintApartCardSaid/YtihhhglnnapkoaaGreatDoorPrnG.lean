/- fmtEFG on its road for 'e', shortest. No conditions but those stated. -/
import Derived.Test.YtihhhglnnapkoaaGreatDoorPrnF
namespace Go.Proofs.YtihhhglnnapkoaaGreatDoor.prnw
open Go.RowKit
open Go.Shelf
open Go.Sort
open Go.Proofs.YtihhhglnnapkoaaGreatDoor.nodew
open Go.Proofs.YtihhhglnnapkoaaGreatDoor.chkw

/-- the exponent's digits -/
def expD (x : Nat) : List UInt8 :=
  if x < 10 then [48, UInt8.ofNat (48 + x)] else if x < 100 then [UInt8.ofNat (48 + x / 10), UInt8.ofNat (48 + x % 10)]
  else [UInt8.ofNat (48 + x / 100), UInt8.ofNat (48 + x / 10 % 10), UInt8.ofNat (48 + x % 10)]
theorem u8n (n : Nat) (h : n < 256) : (((UInt8.ofNat n).toNat : Nat) : Int) = (n : Int) := by
  rw [UInt8.toNat_ofNat']
  omega
theorem exp_v1 (x : Nat) (h : x < 10) : (#[.int .u8 48, .int .u8 ((x : Int) + 48)] : Array Value) = ([48, UInt8.ofNat (48 + x)].map bV).toArray := by
  have e1 := u8n (48 + x) (by omega)
  change _ = (#[.int .u8 48, .int .u8 ((UInt8.ofNat (48 + x)).toNat : Int)] : Array Value)
  rw [e1, show ((48 + x : Nat) : Int) = (x : Int) + 48 by omega]
theorem exp_v2 (x : Nat) (h : x < 100) : (#[.int .u8 ((x : Int) / 10 + 48), .int .u8 ((x : Int) % 10 + 48)] : Array Value) = ([UInt8.ofNat (48 + x / 10), UInt8.ofNat (48 + x % 10)].map bV).toArray := by
  have e1 := u8n (48 + x / 10) (by omega)
  have e2 := u8n (48 + x % 10) (by omega)
  change _ = (#[.int .u8 ((UInt8.ofNat (48 + x / 10)).toNat : Int), .int .u8 ((UInt8.ofNat (48 + x % 10)).toNat : Int)] : Array Value)
  rw [e1, e2, show ((48 + x / 10 : Nat) : Int) = (x : Int) / 10 + 48 by omega, show ((48 + x % 10 : Nat) : Int) = (x : Int) % 10 + 48 by omega]
theorem exp_v3 (x : Nat) (h : x < 1000) : (#[.int .u8 ((x : Int) / 100 + 48), .int .u8 ((x : Int) / 10 % 10 + 48), .int .u8 ((x : Int) % 10 + 48)] : Array Value) = ([UInt8.ofNat (48 + x / 100), UInt8.ofNat (48 + x / 10 % 10), UInt8.ofNat (48 + x % 10)].map bV).toArray := by
  have e0 := u8n (48 + x / 100) (by omega)
  have e1 := u8n (48 + x / 10 % 10) (by omega)
  have e2 := u8n (48 + x % 10) (by omega)
  change _ = (#[.int .u8 ((UInt8.ofNat (48 + x / 100)).toNat : Int), .int .u8 ((UInt8.ofNat (48 + x / 10 % 10)).toNat : Int), .int .u8 ((UInt8.ofNat (48 + x % 10)).toNat : Int)] : Array Value)
  rw [e0, e1, e2, show ((48 + x / 100 : Nat) : Int) = (x : Int) / 100 + 48 by omega, show ((48 + x / 10 % 10 : Nat) : Int) = (x : Int) / 10 % 10 + 48 by omega, show ((48 + x % 10 : Nat) : Int) = (x : Int) % 10 + 48 by omega]
/-- the text of digits d0 ds, of which the point stands behind dp -/
def efgT (d0 : UInt8) (ds : List UInt8) (dp : Int) : List UInt8 :=
  [d0] ++ (if ds = [] then [] else 46 :: ds) ++ [101] ++ [if dp - 1 < 0 then 45 else 43] ++ expD (dp - 1).natAbs
def EfPost (w : World) (base bb : Nat) (t : List UInt8) (x : Ending) (w' : World) : Prop :=
  ∃ g cap, x = .returned (.slice (some ⟨g, 0, none⟩) t.length cap) ∧ St w base bb w' g cap t
set_option maxRecDepth 100000 in
set_option maxHeartbeats 1000000 in
theorem efg_any (base bb g cap : Nat) (d0 : UInt8) (ds : List UInt8) (dp : Int) (p0 : -400 ≤ dp) (p1 : dp ≤ 400) (hlen : ds.length ≤ 20) (w : World) (hS : St w base bb w g cap [])
    (hd : ∀ j b, (d0 :: ds)[j]? = some b → w.cell? ⟨bb, j, none⟩ = some (bV b)) :
    Calls Tryz.prog 87 #[.slice (some ⟨g, 0, none⟩) 0 cap, .bool false, .slice (some ⟨bb, 0, none⟩) 32 32, .int .i64 dp, .int .i64 ((ds.length : Nat) + 1), .int .i64 (ds.length : Nat), .int .u8 101, .bool true] w (EfPost w base bb (efgT d0 ds dp)) := by
  have c0 : w.cell? ⟨bb, 0, none⟩ = some (.int .u8 (d0.toNat : Int)) := hd 0 d0 rfl
  have HS := Lib.hid hS
  have HD := Lib.hid hd
  obtain ⟨q, hq⟩ : ∃ q, q = ds.length := ⟨_, rfl⟩
  rw [← hq] at hlen ⊢
  have HQ := Lib.hid hq
  have q0 : (0 : Int) ≤ (q : Int) := by omega
  have q1 : (q : Int) ≤ 20 := by omega
  have q2 : ((q : Int) + 1 == 0) = false := by rw [beq_eq_false_iff_ne]; omega
  clear hS hd hq hlen
  go_enter Tryz.func87, Tryz.ntmps87
  go_upto_region 25 with (fail)
  clear c0
  go_upto_region 26 with (at_builtin; refine wl_put8 HS.out rfl (.tmp 87) (.tmp 89) rfl [d0] 1 _ rfl rfl (by decide) 0 rfl (by decide) rfl rfl ?_; intro g1 c1 w1 hS1)
  obtain ⟨l, hl⟩ : ∃ l, l = [d0] ++ (if ds = [] then [] else 46 :: ds) := ⟨_, rfl⟩
  have HL := Lib.hid hl
  have HS1 := Lib.hid hS1
  clear hl hS1
  go_upto_if 92 with (fail)
  go_cut [0] from 20 to 119 (fun s0 wx => ∃ g' c', s0 = .slice (some ⟨g', 0, none⟩) l.length c' ∧ St w base bb wx g' c' l)
  case first =>
    by_cases h0 : q = 0
    · have hds : ds = [] := List.length_eq_zero_iff.1 (by rw [← HQ.out]; exact h0)
      have hl1 : l = [d0] := by rw [HL.out, if_pos hds]; rfl
      have HL1 := Lib.hid hl1
      have hq0 : decide (0 < q) = false := decide_eq_false (by omega)
      have hq1 : ¬ 0 < q := by omega
      clear hds hl1 h0
      go_wp2_with fail
      go_meet
      exact ⟨g1, c1, by rw [HL1.out]; rfl, by rw [HL1.out]; exact HS1.out⟩
    · have hds : ¬ ds = [] := fun e => h0 (by rw [HQ.out, e]; rfl)
      have hl1 : l = [d0] ++ [46] ++ ds := by rw [HL.out, if_neg hds]; simp
      have HL1 := Lib.hid hl1
      have hq0 : 0 < q := by omega
      have hq1 : decide (0 < q) = true := decide_eq_true hq0
      clear hds hl1
      go_upto_region 28 with (at_builtin; refine wl_put8 HS1.out rfl (.tmp 93) (.tmp 94) rfl [46] 1 _ rfl rfl (by decide) 1 rfl (by decide) rfl rfl ?_; intro g2 c2 w2 hS2)
      have HS2 := Lib.hid hS2
      have q3 : (1 : Int) < (q : Int) + 1 := by omega
      clear hS2
      go_upto_region 31 with (fail)
      have s1 : ((q : Int) + 1).toNat = q + 1 := by omega
      have s2 : q + 1 - 1 = q := by omega
      have s3 : (q : Int) + 1 ≤ 32 := by omega
      have s4 : q + 1 ≤ 32 := by omega
      go_upto_region 32 with (at_builtin; refine wl_digs8 HS2.out rfl (.tmp 103) (.tmp 107) rfl ds 1 q 31 HQ.out.symm hq0 2 rfl (by omega) (fun j b hb => by have := HD.out (1 + j) b (by rw [Nat.add_comm, List.getElem?_cons_succ]; exact hb); exact this) rfl rfl ?_; intro g3 c3 w3 hS3)
      clear s1 s2 s3 s4
      have HS3 := Lib.hid hS3
      have hq5 : (q : Int) + 1 - ((q : Int) + 1) = 0 := by omega
      clear hS3
      go_wp2_with fail
      go_loopw [0, 114] (fun s0 i wr => s0 = .slice (some ⟨g3, 0, none⟩) (2 + q) c3 ∧ i = .int .i64 0 ∧ wr = w3) (fun _ _ _ => 0)
      case atStart => exact ⟨rfl, rfl, rfl⟩
      case round =>
        obtain ⟨rfl, rfl, rfl⟩ := hrel
        go_wp2_with fail
        go_meet
        exact ⟨g3, c3, by rw [HL1.out, HQ.out]; simp only [List.length_append, List.length_cons, List.length_nil], by rw [HL1.out]; exact HS3.out⟩
  case rest =>
    obtain ⟨g4, c4, rfl, hS4⟩ := hcut
    have hLb : l.length ≤ 22 := by
      rw [HL.out]
      have := HQ.out
      split <;> simp <;> omega
    have HS4 := Lib.hid hS4
    obtain ⟨L, hL⟩ : ∃ L, l.length = L := ⟨_, rfl⟩
    rw [hL] at hLb ⊢
    have HL2 := Lib.hid hL
    obtain ⟨c, hc⟩ : ∃ c : UInt8, c = if dp - 1 < 0 then 45 else 43 := ⟨_, rfl⟩
    obtain ⟨x, hx⟩ : ∃ x, x = (dp - 1).natAbs := ⟨_, rfl⟩
    have hx4 : x ≤ 401 := by omega
    have HC := Lib.hid hc
    have HX := Lib.hid hx
    clear hS4 hc hx hL
    go_upto_region 38 with (at_builtin; refine wl_put8 HS4.out rfl (.tmp 120) (.tmp 122) rfl [101] 1 _ rfl rfl (by decide) L HL2.out (by omega) rfl rfl ?_; intro g5 c5 w5 hS5)
    have HS5 := Lib.hid hS5
    clear hS5
    go_upto_if 129 with (fail)
    go_cut [19, 22] from 129 to 131 (fun s19 s22 wx => s19 = .int .u8 (c.toNat : Int) ∧ s22 = .int .i64 (x : Int) ∧ wx = w5)
    case first =>
      by_cases hneg : dp - 1 < 0
      · have hc1 : ((c.toNat : Nat) : Int) = 45 := by rw [HC.out, if_pos hneg]; rfl
        have hx1 : (x : Int) = -(dp - 1) := by have := HX.out; omega
        have HC1 := Lib.hid hc1
        have HX1 := Lib.hid hx1
        have hd1 : decide (dp - 1 < 0) = true := decide_eq_true hneg
        clear hc1 hx1
        go_wp2_with fail
        go_meet
        exact ⟨by rw [HC1.out], by rw [HX1.out], rfl⟩
      · have hc1 : ((c.toNat : Nat) : Int) = 43 := by rw [HC.out, if_neg hneg]; rfl
        have hx1 : (x : Int) = dp - 1 := by have := HX.out; omega
        have HC1 := Lib.hid hc1
        have HX1 := Lib.hid hx1
        have hd1 : decide (dp - 1 < 0) = false := decide_eq_false hneg
        clear hc1 hx1
        go_wp2_with fail
        go_meet
        exact ⟨by rw [HC1.out], by rw [HX1.out], rfl⟩
    case rest =>
      obtain ⟨rfl, rfl, rfl⟩ := hcut
      have hxi : (x : Int) ≤ 401 := by omega
      have hx0 : (0 : Int) ≤ (x : Int) := by omega
      go_upto_region 47 with (at_builtin; refine wl_put8 HS5.out rfl (.tmp 132) (.tmp 134) rfl [c] 1 _ rfl rfl (by decide) (L + 1) (by rw [List.length_append, HL2.out]; rfl) (by omega) rfl rfl ?_; intro g6 c6 w6 hS6)
      have HS6 := Lib.hid hS6
      clear hS6
      by_cases h10 : x < 10
      · have ht : efgT d0 ds dp = l ++ [101] ++ [c] ++ [48, UInt8.ofNat (48 + x)] := by
          unfold efgT expD
          rw [← HX.out, if_pos h10, ← HC.out, HL.out]
        have HTT := Lib.hid ht
        have e1 : decide (x < 10) = true := decide_eq_true h10
        clear ht
        go_wp2_with (at_builtin; refine wl_put8 HS6.out rfl (.tmp 155) (.tmp 159) rfl [48, UInt8.ofNat (48 + x)] 2 _ (exp_v1 x h10) rfl (by decide) (L + 1 + 1) (by rw [List.length_append, List.length_append, HL2.out]; rfl) (by omega) rfl rfl ?_; intro g7 c7 w7 hS7; have HS7 := Lib.hid hS7; clear hS7)
        go_ret
        exact ⟨g7, c7, by rw [HTT.out, List.length_append, List.length_append, List.length_append, HL2.out]; rfl, by rw [HTT.out]; exact HS7.out⟩
      · have e1 : decide (x < 10) = false := decide_eq_false h10
        by_cases h100 : x < 100
        · have ht : efgT d0 ds dp = l ++ [101] ++ [c] ++ [UInt8.ofNat (48 + x / 10), UInt8.ofNat (48 + x % 10)] := by
            unfold efgT expD
            rw [← HX.out, if_neg h10, if_pos h100, ← HC.out, HL.out]
          have HTT := Lib.hid ht
          have e2 : decide (x < 100) = true := decide_eq_true h100
          clear ht
          go_wp2_with (at_builtin; refine wl_put8 HS6.out rfl (.tmp 164) (.tmp 173) rfl [UInt8.ofNat (48 + x / 10), UInt8.ofNat (48 + x % 10)] 2 _ (exp_v2 x h100) rfl (by decide) (L + 1 + 1) (by rw [List.length_append, List.length_append, HL2.out]; rfl) (by omega) rfl rfl ?_; intro g7 c7 w7 hS7; have HS7 := Lib.hid hS7; clear hS7)
          go_ret
          exact ⟨g7, c7, by rw [HTT.out, List.length_append, List.length_append, List.length_append, HL2.out]; rfl, by rw [HTT.out]; exact HS7.out⟩
        · have ht : efgT d0 ds dp = l ++ [101] ++ [c] ++ [UInt8.ofNat (48 + x / 100), UInt8.ofNat (48 + x / 10 % 10), UInt8.ofNat (48 + x % 10)] := by
            unfold efgT expD
            rw [← HX.out, if_neg h10, if_neg h100, ← HC.out, HL.out]
          have HTT := Lib.hid ht
          have e2 : decide (x < 100) = false := decide_eq_false h100
          clear ht
          go_wp2_with (at_builtin; refine wl_put8 HS6.out rfl (.tmp 136) (.tmp 150) rfl [UInt8.ofNat (48 + x / 100), UInt8.ofNat (48 + x / 10 % 10), UInt8.ofNat (48 + x % 10)] 3 _ (exp_v3 x (by omega)) rfl (by decide) (L + 1 + 1) (by rw [List.length_append, List.length_append, HL2.out]; rfl) (by omega) rfl rfl ?_; intro g7 c7 w7 hS7; have HS7 := Lib.hid hS7; clear hS7)
          go_ret
          exact ⟨g7, c7, by rw [HTT.out, List.length_append, List.length_append, List.length_append, HL2.out]; rfl, by rw [HTT.out]; exact HS7.out⟩
end Go.Proofs.YtihhhglnnapkoaaGreatDoor.prnw
