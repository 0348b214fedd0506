/- The walk of burnishref18.Node, kind by kind. Condition: the node's numbers are of 64 bits. -/
import Derived.Test.YtcbgkbidgpemfaaGreatDoorMp24
import Derived.Test.YtcbgkbidgpemfaaGreatDoorMp25
namespace Go.Proofs.YtcbgkbidgpemfaaGreatDoor.chkw
open Go.RowKit
open Go.Proofs.YtcbgkbidgpemfaaGreatDoor.lexw
open Go.Proofs.YtcbgkbidgpemfaaGreatDoor.parw
open Go.Proofs.YtcbgkbidgpemfaaGreatDoor.nodew
open Go.Proofs.YtcbgkbidgpemfaaGreatDoor.qt

theorem all16 (P : Nat → Prop) : (∀ j, 1 ≤ j → j ≤ 16 → P j) ↔ (P 1 ∧ P 2 ∧ P 3 ∧ P 4 ∧ P 5 ∧ P 6 ∧ P 7 ∧ P 8 ∧ P 9 ∧ P 10 ∧ P 11 ∧ P 12 ∧ P 13 ∧ P 14 ∧ P 15 ∧ P 16) := by
  constructor
  · intro h
    exact ⟨h 1 (by decide) (by decide), h 2 (by decide) (by decide), h 3 (by decide) (by decide), h 4 (by decide) (by decide), h 5 (by decide) (by decide), h 6 (by decide) (by decide), h 7 (by decide) (by decide), h 8 (by decide) (by decide), h 9 (by decide) (by decide), h 10 (by decide) (by decide), h 11 (by decide) (by decide), h 12 (by decide) (by decide), h 13 (by decide) (by decide), h 14 (by decide) (by decide), h 15 (by decide) (by decide), h 16 (by decide) (by decide)⟩
  · rintro ⟨h1, h2, h3, h4, h5, h6, h7, h8, h9, h10, h11, h12, h13, h14, h15, h16⟩ j j1 j2
    have : j = 1 ∨ j = 2 ∨ j = 3 ∨ j = 4 ∨ j = 5 ∨ j = 6 ∨ j = 7 ∨ j = 8 ∨ j = 9 ∨ j = 10 ∨ j = 11 ∨ j = 12 ∨ j = 13 ∨ j = 14 ∨ j = 15 ∨ j = 16 := by omega
    rcases this with rfl | rfl | rfl | rfl | rfl | rfl | rfl | rfl | rfl | rfl | rfl | rfl | rfl | rfl | rfl | rfl <;> assumption
theorem nodeOk_k1 (n : Nd) (hl : n.x.length = 16) (hk : n.kind = 1) (at_ : Int) : nodeOk n at_ = (all3 0 b1f (n.f 1) (n.f 2) (n.f 3) && (decide ((n.f 13) = 0) && (decide ((n.f 14) = 0) && (decide ((n.f 15) = 0) && (none3 (n.f 7) (n.f 8) (n.f 9) && (none3 (n.f 10) (n.f 11) (n.f 12) && (decide ((n.f 16) = 0) && (none3 (n.f 4) (n.f 5) (n.f 6) && (decide (n.a = 0) && decide (n.b = 0)))))))))) := by
  rw [Bool.eq_iff_iff, nodeOk_iff n hl, hk, all16]
  simp [fieldList, offs, belowN, all3, none3, placeOk, and_assoc]
  all_goals first | done | (intros; trivial) | (intros; constructor <;> intro h <;> simp_all)
theorem nodeOk_k2 (n : Nd) (hl : n.x.length = 16) (hk : n.kind = 2) (at_ : Int) : nodeOk n at_ = (all3 0 b1f (n.f 1) (n.f 2) (n.f 3) && (withinF 0 b1f (n.f 13) && (decide ((n.f 14) = 0) && (decide ((n.f 15) = 0) && (none3 (n.f 7) (n.f 8) (n.f 9) && (none3 (n.f 10) (n.f 11) (n.f 12) && (decide ((n.f 16) = 0) && (none3 (n.f 4) (n.f 5) (n.f 6) && (decide (n.a = 0) && decide (n.b = 0)))))))))) := by
  rw [Bool.eq_iff_iff, nodeOk_iff n hl, hk, all16]
  simp [fieldList, offs, belowN, all3, none3, placeOk, and_assoc]
  all_goals first | done | (intros; trivial) | (intros; constructor <;> intro h <;> simp_all)
theorem nodeOk_k3 (n : Nd) (hl : n.x.length = 16) (hk : n.kind = 3) (at_ : Int) : nodeOk n at_ = (none3 (n.f 1) (n.f 2) (n.f 3) && (decide ((n.f 13) = 0) && (withinF bAlpha b1f (n.f 14) && (withinF bIor bIorM (n.f 15) && (none3 (n.f 7) (n.f 8) (n.f 9) && (none3 (n.f 10) (n.f 11) (n.f 12) && (decide ((n.f 16) = 0) && (none3 (n.f 4) (n.f 5) (n.f 6) && (decide (n.a = 0) && decide (n.b = 0)))))))))) := by
  rw [Bool.eq_iff_iff, nodeOk_iff n hl, hk, all16]
  simp [fieldList, offs, belowN, none3, placeOk, and_assoc]
  all_goals first | done | (intros; trivial) | (intros; constructor <;> intro h <;> simp_all)
theorem nodeOk_k4 (n : Nd) (hl : n.x.length = 16) (hk : n.kind = 4) (at_ : Int) : nodeOk n at_ = (none3 (n.f 1) (n.f 2) (n.f 3) && (decide ((n.f 13) = 0) && (withinF bAlpha b1f (n.f 14) && (decide ((n.f 15) = 0) && (all3 bMet bMetM (n.f 7) (n.f 8) (n.f 9) && (all3 bMet bMetM (n.f 10) (n.f 11) (n.f 12) && (decide ((n.f 16) = 0) && (none3 (n.f 4) (n.f 5) (n.f 6) && (decide (n.a = 0) && decide (n.b = 0)))))))))) := by
  rw [Bool.eq_iff_iff, nodeOk_iff n hl, hk, all16]
  simp [fieldList, offs, belowN, all3, none3, placeOk, and_assoc]
  all_goals first | done | (intros; trivial) | (intros; constructor <;> intro h <;> simp_all)
theorem nodeOk_k5 (n : Nd) (hl : n.x.length = 16) (hk : n.kind = 5) (at_ : Int) : nodeOk n at_ = (none3 (n.f 1) (n.f 2) (n.f 3) && (decide ((n.f 13) = 0) && (decide ((n.f 14) = 0) && (decide ((n.f 15) = 0) && (none3 (n.f 7) (n.f 8) (n.f 9) && (none3 (n.f 10) (n.f 11) (n.f 12) && (withinF 0 b1f (n.f 16) && (none3 (n.f 4) (n.f 5) (n.f 6) && ((decide (0 ≤ n.a) && decide (n.a < at_)) && (decide (0 ≤ n.b) && decide (n.b < at_))))))))))) := by
  rw [Bool.eq_iff_iff, nodeOk_iff n hl, hk, all16]
  simp [fieldList, offs, belowN, none3, placeOk, and_assoc]
  all_goals first | done | (intros; trivial) | (intros; constructor <;> intro h <;> simp_all)
theorem nodeOk_k6 (n : Nd) (hl : n.x.length = 16) (hk : n.kind = 6) (at_ : Int) : nodeOk n at_ = (none3 (n.f 1) (n.f 2) (n.f 3) && (decide ((n.f 13) = 0) && (decide ((n.f 14) = 0) && (withinF bIor bIorM (n.f 15) && (none3 (n.f 7) (n.f 8) (n.f 9) && (none3 (n.f 10) (n.f 11) (n.f 12) && (decide ((n.f 16) = 0) && (all3 0 b1f (n.f 4) (n.f 5) (n.f 6) && ((decide (0 ≤ n.a) && decide (n.a < at_)) && decide (n.b = 0)))))))))) := by
  rw [Bool.eq_iff_iff, nodeOk_iff n hl, hk, all16]
  simp [fieldList, offs, belowN, all3, none3, placeOk, and_assoc]
  all_goals first | done | (intros; trivial) | (intros; constructor <;> intro h <;> simp_all)
set_option maxRecDepth 100000 in
set_option maxHeartbeats 2000000 in
theorem refnode_14 (n : Nd) (hn : n.ok) (hk : n.kind = 1 ∨ n.kind = 2 ∨ n.kind = 3 ∨ n.kind = 4) (at_ : Int) (w : World) : Calls Tryz.prog 51 #[n.val, .int .i64 at_] w fun e w' => e = .returned (.bool (nodeOk n at_)) ∧ Below w.heap.size w w' := by
  have hx := n.f_lt hn.2
  rcases hk with hk | hk | hk | hk
  have hN := nodeOk_k1 n hn.1 hk at_
  obtain ⟨t1, ht1⟩ : ∃ q, all3 0 b1f (n.f 1) (n.f 2) (n.f 3) = q := ⟨_, rfl⟩
  obtain ⟨t2, ht2⟩ : ∃ q, decide ((n.f 13) = 0) = q := ⟨_, rfl⟩
  obtain ⟨t3, ht3⟩ : ∃ q, decide ((n.f 14) = 0) = q := ⟨_, rfl⟩
  obtain ⟨t4, ht4⟩ : ∃ q, decide ((n.f 15) = 0) = q := ⟨_, rfl⟩
  obtain ⟨t5, ht5⟩ : ∃ q, none3 (n.f 7) (n.f 8) (n.f 9) = q := ⟨_, rfl⟩
  obtain ⟨t6, ht6⟩ : ∃ q, none3 (n.f 10) (n.f 11) (n.f 12) = q := ⟨_, rfl⟩
  obtain ⟨t7, ht7⟩ : ∃ q, decide ((n.f 16) = 0) = q := ⟨_, rfl⟩
  obtain ⟨t8, ht8⟩ : ∃ q, none3 (n.f 4) (n.f 5) (n.f 6) = q := ⟨_, rfl⟩
  rw [ht1, ht2, ht3, ht4, ht5, ht6, ht7, ht8] at hN
  have r1 : ∀ u : World, Calls Tryz.prog 88 #[.agg #[.float .f64 (n.f 1), .float .f64 (n.f 2), .float .f64 (n.f 3)], .float .f64 0, .float .f64 b1f] u fun e w' => e = .returned (.bool t1) ∧ Below u.heap.size u w' := fun u => by rw [← ht1]; exact all_ref 0 b1f _ _ _ u
  have r2 : ∀ u : World, Calls Tryz.prog 91 #[.float .f64 (n.f 13)] u fun e w' => e = .returned (.bool t2) ∧ w' = u := fun u => by rw [← ht2]; exact nothing_ref _ (hx 13) u
  have r3 : ∀ u : World, Calls Tryz.prog 91 #[.float .f64 (n.f 14)] u fun e w' => e = .returned (.bool t3) ∧ w' = u := fun u => by rw [← ht3]; exact nothing_ref _ (hx 14) u
  have r4 : ∀ u : World, Calls Tryz.prog 91 #[.float .f64 (n.f 15)] u fun e w' => e = .returned (.bool t4) ∧ w' = u := fun u => by rw [← ht4]; exact nothing_ref _ (hx 15) u
  have r5 : ∀ u : World, Calls Tryz.prog 89 #[.agg #[.float .f64 (n.f 7), .float .f64 (n.f 8), .float .f64 (n.f 9)]] u fun e w' => e = .returned (.bool t5) ∧ Below u.heap.size u w' := fun u => by rw [← ht5]; exact none_ref _ _ _ (hx 7) (hx 8) (hx 9) u
  have r6 : ∀ u : World, Calls Tryz.prog 89 #[.agg #[.float .f64 (n.f 10), .float .f64 (n.f 11), .float .f64 (n.f 12)]] u fun e w' => e = .returned (.bool t6) ∧ Below u.heap.size u w' := fun u => by rw [← ht6]; exact none_ref _ _ _ (hx 10) (hx 11) (hx 12) u
  have r7 : ∀ u : World, Calls Tryz.prog 91 #[.float .f64 (n.f 16)] u fun e w' => e = .returned (.bool t7) ∧ w' = u := fun u => by rw [← ht7]; exact nothing_ref _ (hx 16) u
  have r8 : ∀ u : World, Calls Tryz.prog 89 #[.agg #[.float .f64 (n.f 4), .float .f64 (n.f 5), .float .f64 (n.f 6)]] u fun e w' => e = .returned (.bool t8) ∧ Below u.heap.size u w' := fun u => by rw [← ht8]; exact none_ref _ _ _ (hx 4) (hx 5) (hx 6) u
  have HN := Lib.hid hN
  have XX0 := Lib.hid (show ∀ (W : World) (nb : Nat), NBlk W nb n → W.cell? ⟨nb, 0, none⟩ = some (.int .u8 1) from fun W nb h => (h.cell 0).trans (by show some (Value.int .u8 n.kind) = _; rw [hk]; rfl))
  have HK := Lib.hid hk
  clear hN hx ht1 ht2 ht3 ht4 ht5 ht6 ht7 ht8 hk
  rotate_left
  have hN := nodeOk_k2 n hn.1 hk at_
  obtain ⟨t1, ht1⟩ : ∃ q, all3 0 b1f (n.f 1) (n.f 2) (n.f 3) = q := ⟨_, rfl⟩
  obtain ⟨t2, ht2⟩ : ∃ q, withinF 0 b1f (n.f 13) = q := ⟨_, rfl⟩
  obtain ⟨t3, ht3⟩ : ∃ q, decide ((n.f 14) = 0) = q := ⟨_, rfl⟩
  obtain ⟨t4, ht4⟩ : ∃ q, decide ((n.f 15) = 0) = q := ⟨_, rfl⟩
  obtain ⟨t5, ht5⟩ : ∃ q, none3 (n.f 7) (n.f 8) (n.f 9) = q := ⟨_, rfl⟩
  obtain ⟨t6, ht6⟩ : ∃ q, none3 (n.f 10) (n.f 11) (n.f 12) = q := ⟨_, rfl⟩
  obtain ⟨t7, ht7⟩ : ∃ q, decide ((n.f 16) = 0) = q := ⟨_, rfl⟩
  obtain ⟨t8, ht8⟩ : ∃ q, none3 (n.f 4) (n.f 5) (n.f 6) = q := ⟨_, rfl⟩
  rw [ht1, ht2, ht3, ht4, ht5, ht6, ht7, ht8] at hN
  have r1 : ∀ u : World, Calls Tryz.prog 88 #[.agg #[.float .f64 (n.f 1), .float .f64 (n.f 2), .float .f64 (n.f 3)], .float .f64 0, .float .f64 b1f] u fun e w' => e = .returned (.bool t1) ∧ Below u.heap.size u w' := fun u => by rw [← ht1]; exact all_ref 0 b1f _ _ _ u
  have r2 : ∀ u : World, Calls Tryz.prog 90 #[.float .f64 (n.f 13), .float .f64 0, .float .f64 b1f] u fun e w' => e = .returned (.bool t2) ∧ w' = u := fun u => by rw [← ht2]; exact within_ref 0 b1f _ u
  have r3 : ∀ u : World, Calls Tryz.prog 91 #[.float .f64 (n.f 14)] u fun e w' => e = .returned (.bool t3) ∧ w' = u := fun u => by rw [← ht3]; exact nothing_ref _ (hx 14) u
  have r4 : ∀ u : World, Calls Tryz.prog 91 #[.float .f64 (n.f 15)] u fun e w' => e = .returned (.bool t4) ∧ w' = u := fun u => by rw [← ht4]; exact nothing_ref _ (hx 15) u
  have r5 : ∀ u : World, Calls Tryz.prog 89 #[.agg #[.float .f64 (n.f 7), .float .f64 (n.f 8), .float .f64 (n.f 9)]] u fun e w' => e = .returned (.bool t5) ∧ Below u.heap.size u w' := fun u => by rw [← ht5]; exact none_ref _ _ _ (hx 7) (hx 8) (hx 9) u
  have r6 : ∀ u : World, Calls Tryz.prog 89 #[.agg #[.float .f64 (n.f 10), .float .f64 (n.f 11), .float .f64 (n.f 12)]] u fun e w' => e = .returned (.bool t6) ∧ Below u.heap.size u w' := fun u => by rw [← ht6]; exact none_ref _ _ _ (hx 10) (hx 11) (hx 12) u
  have r7 : ∀ u : World, Calls Tryz.prog 91 #[.float .f64 (n.f 16)] u fun e w' => e = .returned (.bool t7) ∧ w' = u := fun u => by rw [← ht7]; exact nothing_ref _ (hx 16) u
  have r8 : ∀ u : World, Calls Tryz.prog 89 #[.agg #[.float .f64 (n.f 4), .float .f64 (n.f 5), .float .f64 (n.f 6)]] u fun e w' => e = .returned (.bool t8) ∧ Below u.heap.size u w' := fun u => by rw [← ht8]; exact none_ref _ _ _ (hx 4) (hx 5) (hx 6) u
  have HN := Lib.hid hN
  have XX0 := Lib.hid (show ∀ (W : World) (nb : Nat), NBlk W nb n → W.cell? ⟨nb, 0, none⟩ = some (.int .u8 2) from fun W nb h => (h.cell 0).trans (by show some (Value.int .u8 n.kind) = _; rw [hk]; rfl))
  have HK := Lib.hid hk
  clear hN hx ht1 ht2 ht3 ht4 ht5 ht6 ht7 ht8 hk
  rotate_left
  have hN := nodeOk_k3 n hn.1 hk at_
  obtain ⟨t1, ht1⟩ : ∃ q, none3 (n.f 1) (n.f 2) (n.f 3) = q := ⟨_, rfl⟩
  obtain ⟨t2, ht2⟩ : ∃ q, decide ((n.f 13) = 0) = q := ⟨_, rfl⟩
  obtain ⟨t3, ht3⟩ : ∃ q, withinF bAlpha b1f (n.f 14) = q := ⟨_, rfl⟩
  obtain ⟨t4, ht4⟩ : ∃ q, withinF bIor bIorM (n.f 15) = q := ⟨_, rfl⟩
  obtain ⟨t5, ht5⟩ : ∃ q, none3 (n.f 7) (n.f 8) (n.f 9) = q := ⟨_, rfl⟩
  obtain ⟨t6, ht6⟩ : ∃ q, none3 (n.f 10) (n.f 11) (n.f 12) = q := ⟨_, rfl⟩
  obtain ⟨t7, ht7⟩ : ∃ q, decide ((n.f 16) = 0) = q := ⟨_, rfl⟩
  obtain ⟨t8, ht8⟩ : ∃ q, none3 (n.f 4) (n.f 5) (n.f 6) = q := ⟨_, rfl⟩
  rw [ht1, ht2, ht3, ht4, ht5, ht6, ht7, ht8] at hN
  have r1 : ∀ u : World, Calls Tryz.prog 89 #[.agg #[.float .f64 (n.f 1), .float .f64 (n.f 2), .float .f64 (n.f 3)]] u fun e w' => e = .returned (.bool t1) ∧ Below u.heap.size u w' := fun u => by rw [← ht1]; exact none_ref _ _ _ (hx 1) (hx 2) (hx 3) u
  have r2 : ∀ u : World, Calls Tryz.prog 91 #[.float .f64 (n.f 13)] u fun e w' => e = .returned (.bool t2) ∧ w' = u := fun u => by rw [← ht2]; exact nothing_ref _ (hx 13) u
  have r3 : ∀ u : World, Calls Tryz.prog 90 #[.float .f64 (n.f 14), .float .f64 bAlpha, .float .f64 b1f] u fun e w' => e = .returned (.bool t3) ∧ w' = u := fun u => by rw [← ht3]; exact within_ref bAlpha b1f _ u
  have r4 : ∀ u : World, Calls Tryz.prog 90 #[.float .f64 (n.f 15), .float .f64 bIor, .float .f64 bIorM] u fun e w' => e = .returned (.bool t4) ∧ w' = u := fun u => by rw [← ht4]; exact within_ref bIor bIorM _ u
  have r5 : ∀ u : World, Calls Tryz.prog 89 #[.agg #[.float .f64 (n.f 7), .float .f64 (n.f 8), .float .f64 (n.f 9)]] u fun e w' => e = .returned (.bool t5) ∧ Below u.heap.size u w' := fun u => by rw [← ht5]; exact none_ref _ _ _ (hx 7) (hx 8) (hx 9) u
  have r6 : ∀ u : World, Calls Tryz.prog 89 #[.agg #[.float .f64 (n.f 10), .float .f64 (n.f 11), .float .f64 (n.f 12)]] u fun e w' => e = .returned (.bool t6) ∧ Below u.heap.size u w' := fun u => by rw [← ht6]; exact none_ref _ _ _ (hx 10) (hx 11) (hx 12) u
  have r7 : ∀ u : World, Calls Tryz.prog 91 #[.float .f64 (n.f 16)] u fun e w' => e = .returned (.bool t7) ∧ w' = u := fun u => by rw [← ht7]; exact nothing_ref _ (hx 16) u
  have r8 : ∀ u : World, Calls Tryz.prog 89 #[.agg #[.float .f64 (n.f 4), .float .f64 (n.f 5), .float .f64 (n.f 6)]] u fun e w' => e = .returned (.bool t8) ∧ Below u.heap.size u w' := fun u => by rw [← ht8]; exact none_ref _ _ _ (hx 4) (hx 5) (hx 6) u
  have HN := Lib.hid hN
  have XX0 := Lib.hid (show ∀ (W : World) (nb : Nat), NBlk W nb n → W.cell? ⟨nb, 0, none⟩ = some (.int .u8 3) from fun W nb h => (h.cell 0).trans (by show some (Value.int .u8 n.kind) = _; rw [hk]; rfl))
  have HK := Lib.hid hk
  clear hN hx ht1 ht2 ht3 ht4 ht5 ht6 ht7 ht8 hk
  rotate_left
  have hN := nodeOk_k4 n hn.1 hk at_
  obtain ⟨t1, ht1⟩ : ∃ q, none3 (n.f 1) (n.f 2) (n.f 3) = q := ⟨_, rfl⟩
  obtain ⟨t2, ht2⟩ : ∃ q, decide ((n.f 13) = 0) = q := ⟨_, rfl⟩
  obtain ⟨t3, ht3⟩ : ∃ q, withinF bAlpha b1f (n.f 14) = q := ⟨_, rfl⟩
  obtain ⟨t4, ht4⟩ : ∃ q, decide ((n.f 15) = 0) = q := ⟨_, rfl⟩
  obtain ⟨t5, ht5⟩ : ∃ q, all3 bMet bMetM (n.f 7) (n.f 8) (n.f 9) = q := ⟨_, rfl⟩
  obtain ⟨t6, ht6⟩ : ∃ q, all3 bMet bMetM (n.f 10) (n.f 11) (n.f 12) = q := ⟨_, rfl⟩
  obtain ⟨t7, ht7⟩ : ∃ q, decide ((n.f 16) = 0) = q := ⟨_, rfl⟩
  obtain ⟨t8, ht8⟩ : ∃ q, none3 (n.f 4) (n.f 5) (n.f 6) = q := ⟨_, rfl⟩
  rw [ht1, ht2, ht3, ht4, ht5, ht6, ht7, ht8] at hN
  have r1 : ∀ u : World, Calls Tryz.prog 89 #[.agg #[.float .f64 (n.f 1), .float .f64 (n.f 2), .float .f64 (n.f 3)]] u fun e w' => e = .returned (.bool t1) ∧ Below u.heap.size u w' := fun u => by rw [← ht1]; exact none_ref _ _ _ (hx 1) (hx 2) (hx 3) u
  have r2 : ∀ u : World, Calls Tryz.prog 91 #[.float .f64 (n.f 13)] u fun e w' => e = .returned (.bool t2) ∧ w' = u := fun u => by rw [← ht2]; exact nothing_ref _ (hx 13) u
  have r3 : ∀ u : World, Calls Tryz.prog 90 #[.float .f64 (n.f 14), .float .f64 bAlpha, .float .f64 b1f] u fun e w' => e = .returned (.bool t3) ∧ w' = u := fun u => by rw [← ht3]; exact within_ref bAlpha b1f _ u
  have r4 : ∀ u : World, Calls Tryz.prog 91 #[.float .f64 (n.f 15)] u fun e w' => e = .returned (.bool t4) ∧ w' = u := fun u => by rw [← ht4]; exact nothing_ref _ (hx 15) u
  have r5 : ∀ u : World, Calls Tryz.prog 88 #[.agg #[.float .f64 (n.f 7), .float .f64 (n.f 8), .float .f64 (n.f 9)], .float .f64 bMet, .float .f64 bMetM] u fun e w' => e = .returned (.bool t5) ∧ Below u.heap.size u w' := fun u => by rw [← ht5]; exact all_ref bMet bMetM _ _ _ u
  have r6 : ∀ u : World, Calls Tryz.prog 88 #[.agg #[.float .f64 (n.f 10), .float .f64 (n.f 11), .float .f64 (n.f 12)], .float .f64 bMet, .float .f64 bMetM] u fun e w' => e = .returned (.bool t6) ∧ Below u.heap.size u w' := fun u => by rw [← ht6]; exact all_ref bMet bMetM _ _ _ u
  have r7 : ∀ u : World, Calls Tryz.prog 91 #[.float .f64 (n.f 16)] u fun e w' => e = .returned (.bool t7) ∧ w' = u := fun u => by rw [← ht7]; exact nothing_ref _ (hx 16) u
  have r8 : ∀ u : World, Calls Tryz.prog 89 #[.agg #[.float .f64 (n.f 4), .float .f64 (n.f 5), .float .f64 (n.f 6)]] u fun e w' => e = .returned (.bool t8) ∧ Below u.heap.size u w' := fun u => by rw [← ht8]; exact none_ref _ _ _ (hx 4) (hx 5) (hx 6) u
  have HN := Lib.hid hN
  have XX0 := Lib.hid (show ∀ (W : World) (nb : Nat), NBlk W nb n → W.cell? ⟨nb, 0, none⟩ = some (.int .u8 4) from fun W nb h => (h.cell 0).trans (by show some (Value.int .u8 n.kind) = _; rw [hk]; rfl))
  have HK := Lib.hid hk
  clear hN hx ht1 ht2 ht3 ht4 ht5 ht6 ht7 ht8 hk
  rotate_left
  all_goals (
    go_enter Tryz.func51, Tryz.ntmps51
    go_upto_region 0 with (fail)
    refine wp_region_lit ?_
    refine wl_val rfl _ (exec_box (.tmp 0) rfl _ _ n rfl) ?_
    have hbx := (Below.refl w.heap.size w).alloc (Nat.le_refl _) (.cells n.cells.toArray 49)
    have hnb : NBlk (w.alloc (.cells n.cells.toArray 49)) w.heap.size n := heap_alloc_new w _
    obtain ⟨W, hW⟩ : ∃ W, W = w.alloc (.cells n.cells.toArray 49) := ⟨_, rfl⟩
    have hWz : w.heap.size < W.heap.size := by rw [hW]; simp
    rw [← hW] at hbx hnb ⊢
    clear hW
    obtain ⟨nb, hnbe⟩ : ∃ nb, nb = w.heap.size := ⟨_, rfl⟩
    have hnz : nb < W.heap.size := by omega
    have hwn : w.heap.size ≤ W.heap.size := by omega
    rw [← hnbe] at hnb ⊢
    clear hnbe hWz
    have x0 := XX0.out W nb hnb
    have x1 : W.cell? ⟨nb, 1, none⟩ = some (.float .f64 (n.f 1)) := (hnb.cell 1).trans rfl
    have x2 : W.cell? ⟨nb, 2, none⟩ = some (.float .f64 (n.f 2)) := (hnb.cell 2).trans rfl
    have x3 : W.cell? ⟨nb, 3, none⟩ = some (.float .f64 (n.f 3)) := (hnb.cell 3).trans rfl
    have HB0 := Lib.hid hbx
    have HX0 := Lib.hid hnb
    clear hbx hnb
    go_wp2_with fail
    cases t1
    case false =>
      with_reducible refine (r1 _).mono ?_
      rintro e u ⟨rfl, hB⟩
      go_wp2_with fail
      go_ret
      exact ⟨nodew.ret_bool (by rw [HN.out]; rfl), HB0.out.trans (hB.mono hwn)⟩
    with_reducible refine (r1 _).mono ?_
    rintro e v1 ⟨rfl, hB1⟩
    have hn1 : NBlk v1 nb n := (hB1.block nb hnz).trans HX0.out
    have hw1 := HB0.out.trans (hB1.mono hwn)
    have hz1 : w.heap.size ≤ v1.heap.size := Nat.le_trans hwn hB1.size
    replace hnz : nb < v1.heap.size := Nat.lt_of_lt_of_le hnz hB1.size
    have y13 : v1.cell? ⟨nb, 13, none⟩ = some (.float .f64 (n.f 13)) := (hn1.cell 13).trans rfl
    have y14 : v1.cell? ⟨nb, 14, none⟩ = some (.float .f64 (n.f 14)) := (hn1.cell 14).trans rfl
    have y15 : v1.cell? ⟨nb, 15, none⟩ = some (.float .f64 (n.f 15)) := (hn1.cell 15).trans rfl
    have y7 : v1.cell? ⟨nb, 7, none⟩ = some (.float .f64 (n.f 7)) := (hn1.cell 7).trans rfl
    have y8 : v1.cell? ⟨nb, 8, none⟩ = some (.float .f64 (n.f 8)) := (hn1.cell 8).trans rfl
    have y9 : v1.cell? ⟨nb, 9, none⟩ = some (.float .f64 (n.f 9)) := (hn1.cell 9).trans rfl
    have HB1 := Lib.hid hw1
    have HX1 := Lib.hid hn1
    clear hw1 hn1 hB1 x0 x1 x2 x3
    go_wp2_with fail
    cases t2
    case false =>
      with_reducible refine (r2 _).mono ?_
      rintro e u ⟨rfl, rfl⟩
      go_wp2_with fail
      go_ret
      exact ⟨nodew.ret_bool (by rw [HN.out]; rfl), HB1.out⟩
    with_reducible refine (r2 _).mono ?_
    rintro e u2 ⟨rfl, rfl⟩
    go_wp2_with fail
    cases t3
    case false =>
      with_reducible refine (r3 _).mono ?_
      rintro e u ⟨rfl, rfl⟩
      go_wp2_with fail
      go_ret
      exact ⟨nodew.ret_bool (by rw [HN.out]; rfl), HB1.out⟩
    with_reducible refine (r3 _).mono ?_
    rintro e u3 ⟨rfl, rfl⟩
    go_wp2_with fail
    cases t4
    case false =>
      with_reducible refine (r4 _).mono ?_
      rintro e u ⟨rfl, rfl⟩
      go_wp2_with fail
      go_ret
      exact ⟨nodew.ret_bool (by rw [HN.out]; rfl), HB1.out⟩
    with_reducible refine (r4 _).mono ?_
    rintro e u4 ⟨rfl, rfl⟩
    go_wp2_with fail
    cases t5
    case false =>
      with_reducible refine (r5 _).mono ?_
      rintro e u ⟨rfl, hB⟩
      go_wp2_with fail
      go_ret
      exact ⟨nodew.ret_bool (by rw [HN.out]; rfl), HB1.out.trans (hB.mono hz1)⟩
    with_reducible refine (r5 _).mono ?_
    rintro e v2 ⟨rfl, hB2⟩
    have hn2 : NBlk v2 nb n := (hB2.block nb hnz).trans HX1.out
    have hw2 := HB1.out.trans (hB2.mono hz1)
    have hz2 : w.heap.size ≤ v2.heap.size := Nat.le_trans hz1 hB2.size
    replace hnz : nb < v2.heap.size := Nat.lt_of_lt_of_le hnz hB2.size
    have y10 : v2.cell? ⟨nb, 10, none⟩ = some (.float .f64 (n.f 10)) := (hn2.cell 10).trans rfl
    have y11 : v2.cell? ⟨nb, 11, none⟩ = some (.float .f64 (n.f 11)) := (hn2.cell 11).trans rfl
    have y12 : v2.cell? ⟨nb, 12, none⟩ = some (.float .f64 (n.f 12)) := (hn2.cell 12).trans rfl
    have HB2 := Lib.hid hw2
    have HX2 := Lib.hid hn2
    clear hw2 hn2 hB2 y13 y14 y15 y7 y8 y9
    go_wp2_with fail
    cases t6
    case false =>
      with_reducible refine (r6 _).mono ?_
      rintro e u ⟨rfl, hB⟩
      go_wp2_with fail
      go_ret
      exact ⟨nodew.ret_bool (by rw [HN.out]; rfl), HB2.out.trans (hB.mono hz2)⟩
    with_reducible refine (r6 _).mono ?_
    rintro e v3 ⟨rfl, hB3⟩
    have hn3 : NBlk v3 nb n := (hB3.block nb hnz).trans HX2.out
    have hw3 := HB2.out.trans (hB3.mono hz2)
    have hz3 : w.heap.size ≤ v3.heap.size := Nat.le_trans hz2 hB3.size
    replace hnz : nb < v3.heap.size := Nat.lt_of_lt_of_le hnz hB3.size
    have y16 : v3.cell? ⟨nb, 16, none⟩ = some (.float .f64 (n.f 16)) := (hn3.cell 16).trans rfl
    have y4 : v3.cell? ⟨nb, 4, none⟩ = some (.float .f64 (n.f 4)) := (hn3.cell 4).trans rfl
    have y5 : v3.cell? ⟨nb, 5, none⟩ = some (.float .f64 (n.f 5)) := (hn3.cell 5).trans rfl
    have y6 : v3.cell? ⟨nb, 6, none⟩ = some (.float .f64 (n.f 6)) := (hn3.cell 6).trans rfl
    have HB3 := Lib.hid hw3
    have HX3 := Lib.hid hn3
    clear hw3 hn3 hB3 y10 y11 y12
    go_wp2_with fail
    cases t7
    case false =>
      with_reducible refine (r7 _).mono ?_
      rintro e u ⟨rfl, rfl⟩
      go_wp2_with fail
      go_ret
      exact ⟨nodew.ret_bool (by rw [HN.out]; rfl), HB3.out⟩
    with_reducible refine (r7 _).mono ?_
    rintro e u7 ⟨rfl, rfl⟩
    go_wp2_with fail
    cases t8
    case false =>
      with_reducible refine (r8 _).mono ?_
      rintro e u ⟨rfl, hB⟩
      go_wp2_with fail
      go_ret
      exact ⟨nodew.ret_bool (by rw [HN.out]; rfl), HB3.out.trans (hB.mono hz3)⟩
    with_reducible refine (r8 _).mono ?_
    rintro e v4 ⟨rfl, hB4⟩
    have hn4 : NBlk v4 nb n := (hB4.block nb hnz).trans HX3.out
    have hw4 := HB3.out.trans (hB4.mono hz3)
    have hz4 : w.heap.size ≤ v4.heap.size := Nat.le_trans hz3 hB4.size
    replace hnz : nb < v4.heap.size := Nat.lt_of_lt_of_le hnz hB4.size
    have y17 : v4.cell? ⟨nb, 17, none⟩ = some (.int .i64 n.a) := (hn4.cell 17).trans rfl
    have y18 : v4.cell? ⟨nb, 18, none⟩ = some (.int .i64 n.b) := (hn4.cell 18).trans rfl
    have HB4 := Lib.hid hw4
    have HX4 := Lib.hid hn4
    clear hw4 hn4 hB4 y16 y4 y5 y6
    clear r1 r2 r3 r4 r5 r6 r7 r8
    go_upto_region 14 with (fail)
    go_cut [13] from 186 to 194 (fun s wx => s = .bool (decide (0 ≤ n.a) && decide (n.a < at_)) ∧ wx = v4)
    case first =>
      by_cases g1 : 0 ≤ n.a
      all_goals by_cases g2 : n.a < at_
      all_goals go_wp2_with fail
      all_goals go_meet
      all_goals exact ⟨by simp [g1, g2], rfl⟩
    obtain ⟨rfl, rfl⟩ := hcut
    obtain ⟨va, hva⟩ : ∃ va, va = wc := ⟨_, rfl⟩
    subst hva
    go_upto_region 15 with (fail)
    go_cut [14] from 195 to 203 (fun s wx => s = .bool (decide (0 ≤ n.b) && decide (n.b < at_)) ∧ wx = va)
    case first =>
      by_cases g1 : 0 ≤ n.b
      all_goals by_cases g2 : n.b < at_
      all_goals go_wp2_with fail
      all_goals go_meet
      all_goals exact ⟨by simp [g1, g2], rfl⟩
    obtain ⟨rfl, rfl⟩ := hcut
    obtain ⟨pa, hpa⟩ : ∃ q, (decide (0 ≤ n.a) && decide (n.a < at_)) = q := ⟨_, rfl⟩
    obtain ⟨pb, hpb⟩ : ∃ q, (decide (0 ≤ n.b) && decide (n.b < at_)) = q := ⟨_, rfl⟩
    rw [hpa, hpb]
    have HPA := Lib.hid hpa
    have HPB := Lib.hid hpb
    clear hpa hpb
    all_goals obtain ⟨qa, hqa⟩ : ∃ q, (n.a == 0) = q := ⟨_, rfl⟩
    all_goals have hqa2 : decide (n.a = 0) = qa := hqa
    all_goals have HQa := Lib.hid hqa2
    all_goals clear hqa2
    all_goals cases qa
    all_goals obtain ⟨qb, hqb⟩ : ∃ q, (n.b == 0) = q := ⟨_, rfl⟩
    all_goals have hqb2 : decide (n.b = 0) = qb := hqb
    all_goals have HQb := Lib.hid hqb2
    all_goals clear hqb2
    all_goals cases qb
    all_goals go_wp2_with fail
    all_goals go_ret
    all_goals exact ⟨nodew.ret_bool (by rw [HN.out, HQa.out, HQb.out]; rfl), HB4.out⟩)
theorem refnode_k1 (n : Nd) (hn : n.ok) (hk : n.kind = 1) (at_ : Int) (w : World) : Calls Tryz.prog 51 #[n.val, .int .i64 at_] w fun e w' => e = .returned (.bool (nodeOk n at_)) ∧ Below w.heap.size w w' := refnode_14 n hn (.inl hk) at_ w
theorem refnode_k2 (n : Nd) (hn : n.ok) (hk : n.kind = 2) (at_ : Int) (w : World) : Calls Tryz.prog 51 #[n.val, .int .i64 at_] w fun e w' => e = .returned (.bool (nodeOk n at_)) ∧ Below w.heap.size w w' := refnode_14 n hn (.inr (.inl hk)) at_ w
theorem refnode_k3 (n : Nd) (hn : n.ok) (hk : n.kind = 3) (at_ : Int) (w : World) : Calls Tryz.prog 51 #[n.val, .int .i64 at_] w fun e w' => e = .returned (.bool (nodeOk n at_)) ∧ Below w.heap.size w w' := refnode_14 n hn (.inr (.inr (.inl hk))) at_ w
theorem refnode_k4 (n : Nd) (hn : n.ok) (hk : n.kind = 4) (at_ : Int) (w : World) : Calls Tryz.prog 51 #[n.val, .int .i64 at_] w fun e w' => e = .returned (.bool (nodeOk n at_)) ∧ Below w.heap.size w w' := refnode_14 n hn (.inr (.inr (.inr hk))) at_ w
set_option maxRecDepth 100000 in
set_option maxHeartbeats 2000000 in
theorem refnode_k5 (n : Nd) (hn : n.ok) (hk : n.kind = 5) (at_ : Int) (w : World) : Calls Tryz.prog 51 #[n.val, .int .i64 at_] w fun e w' => e = .returned (.bool (nodeOk n at_)) ∧ Below w.heap.size w w' := by
  have hN := nodeOk_k5 n hn.1 hk at_
  have hx := n.f_lt hn.2
  obtain ⟨t1, ht1⟩ : ∃ q, none3 (n.f 1) (n.f 2) (n.f 3) = q := ⟨_, rfl⟩
  obtain ⟨t2, ht2⟩ : ∃ q, decide ((n.f 13) = 0) = q := ⟨_, rfl⟩
  obtain ⟨t3, ht3⟩ : ∃ q, decide ((n.f 14) = 0) = q := ⟨_, rfl⟩
  obtain ⟨t4, ht4⟩ : ∃ q, decide ((n.f 15) = 0) = q := ⟨_, rfl⟩
  obtain ⟨t5, ht5⟩ : ∃ q, none3 (n.f 7) (n.f 8) (n.f 9) = q := ⟨_, rfl⟩
  obtain ⟨t6, ht6⟩ : ∃ q, none3 (n.f 10) (n.f 11) (n.f 12) = q := ⟨_, rfl⟩
  obtain ⟨t7, ht7⟩ : ∃ q, withinF 0 b1f (n.f 16) = q := ⟨_, rfl⟩
  obtain ⟨t8, ht8⟩ : ∃ q, none3 (n.f 4) (n.f 5) (n.f 6) = q := ⟨_, rfl⟩
  rw [ht1, ht2, ht3, ht4, ht5, ht6, ht7, ht8] at hN
  have r1 : ∀ u : World, Calls Tryz.prog 89 #[.agg #[.float .f64 (n.f 1), .float .f64 (n.f 2), .float .f64 (n.f 3)]] u fun e w' => e = .returned (.bool t1) ∧ Below u.heap.size u w' := fun u => by rw [← ht1]; exact none_ref _ _ _ (hx 1) (hx 2) (hx 3) u
  have r2 : ∀ u : World, Calls Tryz.prog 91 #[.float .f64 (n.f 13)] u fun e w' => e = .returned (.bool t2) ∧ w' = u := fun u => by rw [← ht2]; exact nothing_ref _ (hx 13) u
  have r3 : ∀ u : World, Calls Tryz.prog 91 #[.float .f64 (n.f 14)] u fun e w' => e = .returned (.bool t3) ∧ w' = u := fun u => by rw [← ht3]; exact nothing_ref _ (hx 14) u
  have r4 : ∀ u : World, Calls Tryz.prog 91 #[.float .f64 (n.f 15)] u fun e w' => e = .returned (.bool t4) ∧ w' = u := fun u => by rw [← ht4]; exact nothing_ref _ (hx 15) u
  have r5 : ∀ u : World, Calls Tryz.prog 89 #[.agg #[.float .f64 (n.f 7), .float .f64 (n.f 8), .float .f64 (n.f 9)]] u fun e w' => e = .returned (.bool t5) ∧ Below u.heap.size u w' := fun u => by rw [← ht5]; exact none_ref _ _ _ (hx 7) (hx 8) (hx 9) u
  have r6 : ∀ u : World, Calls Tryz.prog 89 #[.agg #[.float .f64 (n.f 10), .float .f64 (n.f 11), .float .f64 (n.f 12)]] u fun e w' => e = .returned (.bool t6) ∧ Below u.heap.size u w' := fun u => by rw [← ht6]; exact none_ref _ _ _ (hx 10) (hx 11) (hx 12) u
  have r7 : ∀ u : World, Calls Tryz.prog 90 #[.float .f64 (n.f 16), .float .f64 0, .float .f64 b1f] u fun e w' => e = .returned (.bool t7) ∧ w' = u := fun u => by rw [← ht7]; exact within_ref 0 b1f _ u
  have r8 : ∀ u : World, Calls Tryz.prog 89 #[.agg #[.float .f64 (n.f 4), .float .f64 (n.f 5), .float .f64 (n.f 6)]] u fun e w' => e = .returned (.bool t8) ∧ Below u.heap.size u w' := fun u => by rw [← ht8]; exact none_ref _ _ _ (hx 4) (hx 5) (hx 6) u
  have HN := Lib.hid hN
  have HK := Lib.hid hk
  clear hN hx ht1 ht2 ht3 ht4 ht5 ht6 ht7 ht8 hk
  go_enter Tryz.func51, Tryz.ntmps51
  go_upto_region 0 with (fail)
  refine wp_region_lit ?_
  refine wl_val rfl _ (exec_box (.tmp 0) rfl _ _ n rfl) ?_
  have hbx := (Below.refl w.heap.size w).alloc (Nat.le_refl _) (.cells n.cells.toArray 49)
  have hnb : NBlk (w.alloc (.cells n.cells.toArray 49)) w.heap.size n := heap_alloc_new w _
  obtain ⟨W, hW⟩ : ∃ W, W = w.alloc (.cells n.cells.toArray 49) := ⟨_, rfl⟩
  have hWz : w.heap.size < W.heap.size := by rw [hW]; simp
  rw [← hW] at hbx hnb ⊢
  clear hW
  obtain ⟨nb, hnbe⟩ : ∃ nb, nb = w.heap.size := ⟨_, rfl⟩
  have hnz : nb < W.heap.size := by omega
  have hwn : w.heap.size ≤ W.heap.size := by omega
  rw [← hnbe] at hnb ⊢
  clear hnbe hWz
  have x0 : W.cell? ⟨nb, 0, none⟩ = some (.int .u8 5) := (hnb.cell 0).trans (by show some (Value.int .u8 n.kind) = _; rw [HK.out]; rfl)
  have x1 : W.cell? ⟨nb, 1, none⟩ = some (.float .f64 (n.f 1)) := (hnb.cell 1).trans rfl
  have x2 : W.cell? ⟨nb, 2, none⟩ = some (.float .f64 (n.f 2)) := (hnb.cell 2).trans rfl
  have x3 : W.cell? ⟨nb, 3, none⟩ = some (.float .f64 (n.f 3)) := (hnb.cell 3).trans rfl
  have HB0 := Lib.hid hbx
  have HX0 := Lib.hid hnb
  clear hbx hnb
  go_wp2_with fail
  cases t1
  case false =>
    with_reducible refine (r1 _).mono ?_
    rintro e u ⟨rfl, hB⟩
    go_wp2_with fail
    go_ret
    exact ⟨nodew.ret_bool (by rw [HN.out]; rfl), HB0.out.trans (hB.mono hwn)⟩
  with_reducible refine (r1 _).mono ?_
  rintro e v1 ⟨rfl, hB1⟩
  have hn1 : NBlk v1 nb n := (hB1.block nb hnz).trans HX0.out
  have hw1 := HB0.out.trans (hB1.mono hwn)
  have hz1 : w.heap.size ≤ v1.heap.size := Nat.le_trans hwn hB1.size
  replace hnz : nb < v1.heap.size := Nat.lt_of_lt_of_le hnz hB1.size
  have y13 : v1.cell? ⟨nb, 13, none⟩ = some (.float .f64 (n.f 13)) := (hn1.cell 13).trans rfl
  have y14 : v1.cell? ⟨nb, 14, none⟩ = some (.float .f64 (n.f 14)) := (hn1.cell 14).trans rfl
  have y15 : v1.cell? ⟨nb, 15, none⟩ = some (.float .f64 (n.f 15)) := (hn1.cell 15).trans rfl
  have y7 : v1.cell? ⟨nb, 7, none⟩ = some (.float .f64 (n.f 7)) := (hn1.cell 7).trans rfl
  have y8 : v1.cell? ⟨nb, 8, none⟩ = some (.float .f64 (n.f 8)) := (hn1.cell 8).trans rfl
  have y9 : v1.cell? ⟨nb, 9, none⟩ = some (.float .f64 (n.f 9)) := (hn1.cell 9).trans rfl
  have HB1 := Lib.hid hw1
  have HX1 := Lib.hid hn1
  clear hw1 hn1 hB1 x0 x1 x2 x3
  go_wp2_with fail
  cases t2
  case false =>
    with_reducible refine (r2 _).mono ?_
    rintro e u ⟨rfl, rfl⟩
    go_wp2_with fail
    go_ret
    exact ⟨nodew.ret_bool (by rw [HN.out]; rfl), HB1.out⟩
  with_reducible refine (r2 _).mono ?_
  rintro e u2 ⟨rfl, rfl⟩
  go_wp2_with fail
  cases t3
  case false =>
    with_reducible refine (r3 _).mono ?_
    rintro e u ⟨rfl, rfl⟩
    go_wp2_with fail
    go_ret
    exact ⟨nodew.ret_bool (by rw [HN.out]; rfl), HB1.out⟩
  with_reducible refine (r3 _).mono ?_
  rintro e u3 ⟨rfl, rfl⟩
  go_wp2_with fail
  cases t4
  case false =>
    with_reducible refine (r4 _).mono ?_
    rintro e u ⟨rfl, rfl⟩
    go_wp2_with fail
    go_ret
    exact ⟨nodew.ret_bool (by rw [HN.out]; rfl), HB1.out⟩
  with_reducible refine (r4 _).mono ?_
  rintro e u4 ⟨rfl, rfl⟩
  go_wp2_with fail
  cases t5
  case false =>
    with_reducible refine (r5 _).mono ?_
    rintro e u ⟨rfl, hB⟩
    go_wp2_with fail
    go_ret
    exact ⟨nodew.ret_bool (by rw [HN.out]; rfl), HB1.out.trans (hB.mono hz1)⟩
  with_reducible refine (r5 _).mono ?_
  rintro e v2 ⟨rfl, hB2⟩
  have hn2 : NBlk v2 nb n := (hB2.block nb hnz).trans HX1.out
  have hw2 := HB1.out.trans (hB2.mono hz1)
  have hz2 : w.heap.size ≤ v2.heap.size := Nat.le_trans hz1 hB2.size
  replace hnz : nb < v2.heap.size := Nat.lt_of_lt_of_le hnz hB2.size
  have y10 : v2.cell? ⟨nb, 10, none⟩ = some (.float .f64 (n.f 10)) := (hn2.cell 10).trans rfl
  have y11 : v2.cell? ⟨nb, 11, none⟩ = some (.float .f64 (n.f 11)) := (hn2.cell 11).trans rfl
  have y12 : v2.cell? ⟨nb, 12, none⟩ = some (.float .f64 (n.f 12)) := (hn2.cell 12).trans rfl
  have HB2 := Lib.hid hw2
  have HX2 := Lib.hid hn2
  clear hw2 hn2 hB2 y13 y14 y15 y7 y8 y9
  go_wp2_with fail
  cases t6
  case false =>
    with_reducible refine (r6 _).mono ?_
    rintro e u ⟨rfl, hB⟩
    go_wp2_with fail
    go_ret
    exact ⟨nodew.ret_bool (by rw [HN.out]; rfl), HB2.out.trans (hB.mono hz2)⟩
  with_reducible refine (r6 _).mono ?_
  rintro e v3 ⟨rfl, hB3⟩
  have hn3 : NBlk v3 nb n := (hB3.block nb hnz).trans HX2.out
  have hw3 := HB2.out.trans (hB3.mono hz2)
  have hz3 : w.heap.size ≤ v3.heap.size := Nat.le_trans hz2 hB3.size
  replace hnz : nb < v3.heap.size := Nat.lt_of_lt_of_le hnz hB3.size
  have y16 : v3.cell? ⟨nb, 16, none⟩ = some (.float .f64 (n.f 16)) := (hn3.cell 16).trans rfl
  have y4 : v3.cell? ⟨nb, 4, none⟩ = some (.float .f64 (n.f 4)) := (hn3.cell 4).trans rfl
  have y5 : v3.cell? ⟨nb, 5, none⟩ = some (.float .f64 (n.f 5)) := (hn3.cell 5).trans rfl
  have y6 : v3.cell? ⟨nb, 6, none⟩ = some (.float .f64 (n.f 6)) := (hn3.cell 6).trans rfl
  have HB3 := Lib.hid hw3
  have HX3 := Lib.hid hn3
  clear hw3 hn3 hB3 y10 y11 y12
  go_wp2_with fail
  cases t7
  case false =>
    with_reducible refine (r7 _).mono ?_
    rintro e u ⟨rfl, rfl⟩
    go_wp2_with fail
    go_ret
    exact ⟨nodew.ret_bool (by rw [HN.out]; rfl), HB3.out⟩
  with_reducible refine (r7 _).mono ?_
  rintro e u7 ⟨rfl, rfl⟩
  go_wp2_with fail
  cases t8
  case false =>
    with_reducible refine (r8 _).mono ?_
    rintro e u ⟨rfl, hB⟩
    go_wp2_with fail
    go_ret
    exact ⟨nodew.ret_bool (by rw [HN.out]; rfl), HB3.out.trans (hB.mono hz3)⟩
  with_reducible refine (r8 _).mono ?_
  rintro e v4 ⟨rfl, hB4⟩
  have hn4 : NBlk v4 nb n := (hB4.block nb hnz).trans HX3.out
  have hw4 := HB3.out.trans (hB4.mono hz3)
  have hz4 : w.heap.size ≤ v4.heap.size := Nat.le_trans hz3 hB4.size
  replace hnz : nb < v4.heap.size := Nat.lt_of_lt_of_le hnz hB4.size
  have y17 : v4.cell? ⟨nb, 17, none⟩ = some (.int .i64 n.a) := (hn4.cell 17).trans rfl
  have y18 : v4.cell? ⟨nb, 18, none⟩ = some (.int .i64 n.b) := (hn4.cell 18).trans rfl
  have HB4 := Lib.hid hw4
  have HX4 := Lib.hid hn4
  clear hw4 hn4 hB4 y16 y4 y5 y6
  clear r1 r2 r3 r4 r5 r6 r7 r8
  go_upto_region 14 with (fail)
  go_cut [13] from 186 to 194 (fun s wx => s = .bool (decide (0 ≤ n.a) && decide (n.a < at_)) ∧ wx = v4)
  case first =>
    by_cases g1 : 0 ≤ n.a
    all_goals by_cases g2 : n.a < at_
    all_goals go_wp2_with fail
    all_goals go_meet
    all_goals exact ⟨by simp [g1, g2], rfl⟩
  obtain ⟨rfl, rfl⟩ := hcut
  obtain ⟨va, hva⟩ : ∃ va, va = wc := ⟨_, rfl⟩
  subst hva
  go_upto_region 15 with (fail)
  go_cut [14] from 195 to 203 (fun s wx => s = .bool (decide (0 ≤ n.b) && decide (n.b < at_)) ∧ wx = va)
  case first =>
    by_cases g1 : 0 ≤ n.b
    all_goals by_cases g2 : n.b < at_
    all_goals go_wp2_with fail
    all_goals go_meet
    all_goals exact ⟨by simp [g1, g2], rfl⟩
  obtain ⟨rfl, rfl⟩ := hcut
  obtain ⟨pa, hpa⟩ : ∃ q, (decide (0 ≤ n.a) && decide (n.a < at_)) = q := ⟨_, rfl⟩
  obtain ⟨pb, hpb⟩ : ∃ q, (decide (0 ≤ n.b) && decide (n.b < at_)) = q := ⟨_, rfl⟩
  rw [hpa, hpb]
  have HPA := Lib.hid hpa
  have HPB := Lib.hid hpb
  clear hpa hpb
  cases pa
  all_goals cases pb
  all_goals go_wp2_with fail
  all_goals go_ret
  all_goals exact ⟨nodew.ret_bool (by rw [HN.out, HPA.out, HPB.out]; rfl), HB4.out⟩
set_option maxRecDepth 100000 in
set_option maxHeartbeats 2000000 in
theorem refnode_k6 (n : Nd) (hn : n.ok) (hk : n.kind = 6) (at_ : Int) (w : World) : Calls Tryz.prog 51 #[n.val, .int .i64 at_] w fun e w' => e = .returned (.bool (nodeOk n at_)) ∧ Below w.heap.size w w' := by
  have hN := nodeOk_k6 n hn.1 hk at_
  have hx := n.f_lt hn.2
  obtain ⟨t1, ht1⟩ : ∃ q, none3 (n.f 1) (n.f 2) (n.f 3) = q := ⟨_, rfl⟩
  obtain ⟨t2, ht2⟩ : ∃ q, decide ((n.f 13) = 0) = q := ⟨_, rfl⟩
  obtain ⟨t3, ht3⟩ : ∃ q, decide ((n.f 14) = 0) = q := ⟨_, rfl⟩
  obtain ⟨t4, ht4⟩ : ∃ q, withinF bIor bIorM (n.f 15) = q := ⟨_, rfl⟩
  obtain ⟨t5, ht5⟩ : ∃ q, none3 (n.f 7) (n.f 8) (n.f 9) = q := ⟨_, rfl⟩
  obtain ⟨t6, ht6⟩ : ∃ q, none3 (n.f 10) (n.f 11) (n.f 12) = q := ⟨_, rfl⟩
  obtain ⟨t7, ht7⟩ : ∃ q, decide ((n.f 16) = 0) = q := ⟨_, rfl⟩
  obtain ⟨t8, ht8⟩ : ∃ q, all3 0 b1f (n.f 4) (n.f 5) (n.f 6) = q := ⟨_, rfl⟩
  rw [ht1, ht2, ht3, ht4, ht5, ht6, ht7, ht8] at hN
  have r1 : ∀ u : World, Calls Tryz.prog 89 #[.agg #[.float .f64 (n.f 1), .float .f64 (n.f 2), .float .f64 (n.f 3)]] u fun e w' => e = .returned (.bool t1) ∧ Below u.heap.size u w' := fun u => by rw [← ht1]; exact none_ref _ _ _ (hx 1) (hx 2) (hx 3) u
  have r2 : ∀ u : World, Calls Tryz.prog 91 #[.float .f64 (n.f 13)] u fun e w' => e = .returned (.bool t2) ∧ w' = u := fun u => by rw [← ht2]; exact nothing_ref _ (hx 13) u
  have r3 : ∀ u : World, Calls Tryz.prog 91 #[.float .f64 (n.f 14)] u fun e w' => e = .returned (.bool t3) ∧ w' = u := fun u => by rw [← ht3]; exact nothing_ref _ (hx 14) u
  have r4 : ∀ u : World, Calls Tryz.prog 90 #[.float .f64 (n.f 15), .float .f64 bIor, .float .f64 bIorM] u fun e w' => e = .returned (.bool t4) ∧ w' = u := fun u => by rw [← ht4]; exact within_ref bIor bIorM _ u
  have r5 : ∀ u : World, Calls Tryz.prog 89 #[.agg #[.float .f64 (n.f 7), .float .f64 (n.f 8), .float .f64 (n.f 9)]] u fun e w' => e = .returned (.bool t5) ∧ Below u.heap.size u w' := fun u => by rw [← ht5]; exact none_ref _ _ _ (hx 7) (hx 8) (hx 9) u
  have r6 : ∀ u : World, Calls Tryz.prog 89 #[.agg #[.float .f64 (n.f 10), .float .f64 (n.f 11), .float .f64 (n.f 12)]] u fun e w' => e = .returned (.bool t6) ∧ Below u.heap.size u w' := fun u => by rw [← ht6]; exact none_ref _ _ _ (hx 10) (hx 11) (hx 12) u
  have r7 : ∀ u : World, Calls Tryz.prog 91 #[.float .f64 (n.f 16)] u fun e w' => e = .returned (.bool t7) ∧ w' = u := fun u => by rw [← ht7]; exact nothing_ref _ (hx 16) u
  have r8 : ∀ u : World, Calls Tryz.prog 88 #[.agg #[.float .f64 (n.f 4), .float .f64 (n.f 5), .float .f64 (n.f 6)], .float .f64 0, .float .f64 b1f] u fun e w' => e = .returned (.bool t8) ∧ Below u.heap.size u w' := fun u => by rw [← ht8]; exact all_ref 0 b1f _ _ _ u
  have HN := Lib.hid hN
  have HK := Lib.hid hk
  clear hN hx ht1 ht2 ht3 ht4 ht5 ht6 ht7 ht8 hk
  go_enter Tryz.func51, Tryz.ntmps51
  go_upto_region 0 with (fail)
  refine wp_region_lit ?_
  refine wl_val rfl _ (exec_box (.tmp 0) rfl _ _ n rfl) ?_
  have hbx := (Below.refl w.heap.size w).alloc (Nat.le_refl _) (.cells n.cells.toArray 49)
  have hnb : NBlk (w.alloc (.cells n.cells.toArray 49)) w.heap.size n := heap_alloc_new w _
  obtain ⟨W, hW⟩ : ∃ W, W = w.alloc (.cells n.cells.toArray 49) := ⟨_, rfl⟩
  have hWz : w.heap.size < W.heap.size := by rw [hW]; simp
  rw [← hW] at hbx hnb ⊢
  clear hW
  obtain ⟨nb, hnbe⟩ : ∃ nb, nb = w.heap.size := ⟨_, rfl⟩
  have hnz : nb < W.heap.size := by omega
  have hwn : w.heap.size ≤ W.heap.size := by omega
  rw [← hnbe] at hnb ⊢
  clear hnbe hWz
  have x0 : W.cell? ⟨nb, 0, none⟩ = some (.int .u8 6) := (hnb.cell 0).trans (by show some (Value.int .u8 n.kind) = _; rw [HK.out]; rfl)
  have x1 : W.cell? ⟨nb, 1, none⟩ = some (.float .f64 (n.f 1)) := (hnb.cell 1).trans rfl
  have x2 : W.cell? ⟨nb, 2, none⟩ = some (.float .f64 (n.f 2)) := (hnb.cell 2).trans rfl
  have x3 : W.cell? ⟨nb, 3, none⟩ = some (.float .f64 (n.f 3)) := (hnb.cell 3).trans rfl
  have HB0 := Lib.hid hbx
  have HX0 := Lib.hid hnb
  clear hbx hnb
  go_wp2_with fail
  cases t1
  case false =>
    with_reducible refine (r1 _).mono ?_
    rintro e u ⟨rfl, hB⟩
    go_wp2_with fail
    go_ret
    exact ⟨nodew.ret_bool (by rw [HN.out]; rfl), HB0.out.trans (hB.mono hwn)⟩
  with_reducible refine (r1 _).mono ?_
  rintro e v1 ⟨rfl, hB1⟩
  have hn1 : NBlk v1 nb n := (hB1.block nb hnz).trans HX0.out
  have hw1 := HB0.out.trans (hB1.mono hwn)
  have hz1 : w.heap.size ≤ v1.heap.size := Nat.le_trans hwn hB1.size
  replace hnz : nb < v1.heap.size := Nat.lt_of_lt_of_le hnz hB1.size
  have y13 : v1.cell? ⟨nb, 13, none⟩ = some (.float .f64 (n.f 13)) := (hn1.cell 13).trans rfl
  have y14 : v1.cell? ⟨nb, 14, none⟩ = some (.float .f64 (n.f 14)) := (hn1.cell 14).trans rfl
  have y15 : v1.cell? ⟨nb, 15, none⟩ = some (.float .f64 (n.f 15)) := (hn1.cell 15).trans rfl
  have y7 : v1.cell? ⟨nb, 7, none⟩ = some (.float .f64 (n.f 7)) := (hn1.cell 7).trans rfl
  have y8 : v1.cell? ⟨nb, 8, none⟩ = some (.float .f64 (n.f 8)) := (hn1.cell 8).trans rfl
  have y9 : v1.cell? ⟨nb, 9, none⟩ = some (.float .f64 (n.f 9)) := (hn1.cell 9).trans rfl
  have HB1 := Lib.hid hw1
  have HX1 := Lib.hid hn1
  clear hw1 hn1 hB1 x0 x1 x2 x3
  go_wp2_with fail
  cases t2
  case false =>
    with_reducible refine (r2 _).mono ?_
    rintro e u ⟨rfl, rfl⟩
    go_wp2_with fail
    go_ret
    exact ⟨nodew.ret_bool (by rw [HN.out]; rfl), HB1.out⟩
  with_reducible refine (r2 _).mono ?_
  rintro e u2 ⟨rfl, rfl⟩
  go_wp2_with fail
  cases t3
  case false =>
    with_reducible refine (r3 _).mono ?_
    rintro e u ⟨rfl, rfl⟩
    go_wp2_with fail
    go_ret
    exact ⟨nodew.ret_bool (by rw [HN.out]; rfl), HB1.out⟩
  with_reducible refine (r3 _).mono ?_
  rintro e u3 ⟨rfl, rfl⟩
  go_wp2_with fail
  cases t4
  case false =>
    with_reducible refine (r4 _).mono ?_
    rintro e u ⟨rfl, rfl⟩
    go_wp2_with fail
    go_ret
    exact ⟨nodew.ret_bool (by rw [HN.out]; rfl), HB1.out⟩
  with_reducible refine (r4 _).mono ?_
  rintro e u4 ⟨rfl, rfl⟩
  go_wp2_with fail
  cases t5
  case false =>
    with_reducible refine (r5 _).mono ?_
    rintro e u ⟨rfl, hB⟩
    go_wp2_with fail
    go_ret
    exact ⟨nodew.ret_bool (by rw [HN.out]; rfl), HB1.out.trans (hB.mono hz1)⟩
  with_reducible refine (r5 _).mono ?_
  rintro e v2 ⟨rfl, hB2⟩
  have hn2 : NBlk v2 nb n := (hB2.block nb hnz).trans HX1.out
  have hw2 := HB1.out.trans (hB2.mono hz1)
  have hz2 : w.heap.size ≤ v2.heap.size := Nat.le_trans hz1 hB2.size
  replace hnz : nb < v2.heap.size := Nat.lt_of_lt_of_le hnz hB2.size
  have y10 : v2.cell? ⟨nb, 10, none⟩ = some (.float .f64 (n.f 10)) := (hn2.cell 10).trans rfl
  have y11 : v2.cell? ⟨nb, 11, none⟩ = some (.float .f64 (n.f 11)) := (hn2.cell 11).trans rfl
  have y12 : v2.cell? ⟨nb, 12, none⟩ = some (.float .f64 (n.f 12)) := (hn2.cell 12).trans rfl
  have HB2 := Lib.hid hw2
  have HX2 := Lib.hid hn2
  clear hw2 hn2 hB2 y13 y14 y15 y7 y8 y9
  go_wp2_with fail
  cases t6
  case false =>
    with_reducible refine (r6 _).mono ?_
    rintro e u ⟨rfl, hB⟩
    go_wp2_with fail
    go_ret
    exact ⟨nodew.ret_bool (by rw [HN.out]; rfl), HB2.out.trans (hB.mono hz2)⟩
  with_reducible refine (r6 _).mono ?_
  rintro e v3 ⟨rfl, hB3⟩
  have hn3 : NBlk v3 nb n := (hB3.block nb hnz).trans HX2.out
  have hw3 := HB2.out.trans (hB3.mono hz2)
  have hz3 : w.heap.size ≤ v3.heap.size := Nat.le_trans hz2 hB3.size
  replace hnz : nb < v3.heap.size := Nat.lt_of_lt_of_le hnz hB3.size
  have y16 : v3.cell? ⟨nb, 16, none⟩ = some (.float .f64 (n.f 16)) := (hn3.cell 16).trans rfl
  have y4 : v3.cell? ⟨nb, 4, none⟩ = some (.float .f64 (n.f 4)) := (hn3.cell 4).trans rfl
  have y5 : v3.cell? ⟨nb, 5, none⟩ = some (.float .f64 (n.f 5)) := (hn3.cell 5).trans rfl
  have y6 : v3.cell? ⟨nb, 6, none⟩ = some (.float .f64 (n.f 6)) := (hn3.cell 6).trans rfl
  have HB3 := Lib.hid hw3
  have HX3 := Lib.hid hn3
  clear hw3 hn3 hB3 y10 y11 y12
  go_wp2_with fail
  cases t7
  case false =>
    with_reducible refine (r7 _).mono ?_
    rintro e u ⟨rfl, rfl⟩
    go_wp2_with fail
    go_ret
    exact ⟨nodew.ret_bool (by rw [HN.out]; rfl), HB3.out⟩
  with_reducible refine (r7 _).mono ?_
  rintro e u7 ⟨rfl, rfl⟩
  go_wp2_with fail
  cases t8
  case false =>
    with_reducible refine (r8 _).mono ?_
    rintro e u ⟨rfl, hB⟩
    go_wp2_with fail
    go_ret
    exact ⟨nodew.ret_bool (by rw [HN.out]; rfl), HB3.out.trans (hB.mono hz3)⟩
  with_reducible refine (r8 _).mono ?_
  rintro e v4 ⟨rfl, hB4⟩
  have hn4 : NBlk v4 nb n := (hB4.block nb hnz).trans HX3.out
  have hw4 := HB3.out.trans (hB4.mono hz3)
  have hz4 : w.heap.size ≤ v4.heap.size := Nat.le_trans hz3 hB4.size
  replace hnz : nb < v4.heap.size := Nat.lt_of_lt_of_le hnz hB4.size
  have y17 : v4.cell? ⟨nb, 17, none⟩ = some (.int .i64 n.a) := (hn4.cell 17).trans rfl
  have y18 : v4.cell? ⟨nb, 18, none⟩ = some (.int .i64 n.b) := (hn4.cell 18).trans rfl
  have HB4 := Lib.hid hw4
  have HX4 := Lib.hid hn4
  clear hw4 hn4 hB4 y16 y4 y5 y6
  clear r1 r2 r3 r4 r5 r6 r7 r8
  go_upto_region 14 with (fail)
  go_cut [13] from 186 to 194 (fun s wx => s = .bool (decide (0 ≤ n.a) && decide (n.a < at_)) ∧ wx = v4)
  case first =>
    by_cases g1 : 0 ≤ n.a
    all_goals by_cases g2 : n.a < at_
    all_goals go_wp2_with fail
    all_goals go_meet
    all_goals exact ⟨by simp [g1, g2], rfl⟩
  obtain ⟨rfl, rfl⟩ := hcut
  obtain ⟨va, hva⟩ : ∃ va, va = wc := ⟨_, rfl⟩
  subst hva
  go_upto_region 15 with (fail)
  go_cut [14] from 195 to 203 (fun s wx => s = .bool (decide (0 ≤ n.b) && decide (n.b < at_)) ∧ wx = va)
  case first =>
    by_cases g1 : 0 ≤ n.b
    all_goals by_cases g2 : n.b < at_
    all_goals go_wp2_with fail
    all_goals go_meet
    all_goals exact ⟨by simp [g1, g2], rfl⟩
  obtain ⟨rfl, rfl⟩ := hcut
  obtain ⟨pa, hpa⟩ : ∃ q, (decide (0 ≤ n.a) && decide (n.a < at_)) = q := ⟨_, rfl⟩
  obtain ⟨pb, hpb⟩ : ∃ q, (decide (0 ≤ n.b) && decide (n.b < at_)) = q := ⟨_, rfl⟩
  rw [hpa, hpb]
  have HPA := Lib.hid hpa
  have HPB := Lib.hid hpb
  clear hpa hpb
  cases pa
  all_goals obtain ⟨qb, hqb⟩ : ∃ q, (n.b == 0) = q := ⟨_, rfl⟩
  all_goals have hqb2 : decide (n.b = 0) = qb := hqb
  all_goals have HQb := Lib.hid hqb2
  all_goals clear hqb2
  all_goals cases qb
  all_goals go_wp2_with fail
  all_goals go_ret
  all_goals exact ⟨nodew.ret_bool (by rw [HN.out, HPA.out, HQb.out]; rfl), HB4.out⟩
end Go.Proofs.YtcbgkbidgpemfaaGreatDoor.chkw
