/- burnishlaw19.PrintApart. Conditions: the nodes lie in memory, their numbers are numbers; the library's tables hold what the row lists. -/
import Derived.Test.YtihhhglnnapkoaaGreatDoorPrnU
import Derived.Test.YtihhhglnnapkoaaGreatDoorApM
import Derived.Test.YtihhhglnnapkoaaGreatDoorSamG
namespace Go.Proofs.YtihhhglnnapkoaaGreatDoor.prnw
open Go.RowKit
open Go.Shelf
open Go.Sort
open Go.Proofs.YtihhhglnnapkoaaGreatDoor.nodew
open Go.Proofs.YtihhhglnnapkoaaGreatDoor.chkw
open Go.Proofs.YtihhhglnnapkoaaGreatDoor.flatm
attribute [local go_sem] nodew.run_store_float

theorem sneq {s a : ByteArray} (h : ¬ s = a) : (s.toList == a.toList) = false := by
  rw [beq_eq_false_iff_ne]
  intro e
  apply h
  rw [ByteArray.toList_eq, ByteArray.toList_eq] at e
  obtain ⟨⟨s⟩⟩ := s
  obtain ⟨⟨a⟩⟩ := a
  simp only at e
  rw [e]
set_option maxRecDepth 100000 in
set_option maxHeartbeats 1000000 in
theorem apart_any (B : Nat) (v1 v2 : Value) (l1 l2 : List Nd) (hok1 : ∀ n ∈ l1, n.ok) (hkd1 : ∀ n ∈ l1, n.kind < 256) (hok2 : ∀ n ∈ l2, n.ok) (hkd2 : ∀ n ∈ l2, n.kind < 256) (w : World) (hr1 : NRead w B v1 l1) (hr2 : NRead w B v2 l2) (hB : B ≤ w.heap.size) (hE : Env hiP loP w) (hG : Gl w.heap.size) :
    Calls Tryz.prog 3 #[v1, v2] w (Bel w (.bool true)) := by
  obtain ⟨A1, c1, rfl, -⟩ := id hr1
  obtain ⟨A2, c2, rfl, -⟩ := id hr2
  have hGW : ∀ m, w.heap.size ≤ m → Gl m := fun m hm => ⟨Nat.lt_of_lt_of_le hG.1 hm, Nat.lt_of_lt_of_le hG.2.1 hm, Nat.lt_of_lt_of_le hG.2.2 hm⟩
  have CA := Lib.hid (fun (u : World) (hb : Below w.heap.size w u) => awake19 u (hE.later hb) (hGW _ hb.size))
  by_cases h40 : 40 < l1.length
  · obtain ⟨N1, hN1⟩ : ∃ N, N = l1.length := ⟨_, rfl⟩
    obtain ⟨N2, hN2⟩ : ∃ N, N = l2.length := ⟨_, rfl⟩
    rw [← hN1] at h40
    rw [← hN1, ← hN2]
    have h40' : (40 : Int) < (N1 : Int) := by omega
    clear hok1 hkd1 hok2 hkd2 hr1 hr2 hB hE hG hGW hN1 hN2
    go_enter Tryz.func3, Tryz.ntmps3
    go_wp2_with (go_at_call 4; (with_reducible refine (CA.out _ (Below.refl _ _)).mono ?_); rintro e w1 ⟨rfl, hb1⟩)
    go_ret
    exact ⟨rfl, hb1⟩
  by_cases h41 : 40 < l2.length
  · obtain ⟨N1, hN1⟩ : ∃ N, N = l1.length := ⟨_, rfl⟩
    obtain ⟨N2, hN2⟩ : ∃ N, N = l2.length := ⟨_, rfl⟩
    rw [← hN1] at h40
    rw [← hN2] at h41
    rw [← hN1, ← hN2]
    have h40' : ¬ (40 : Int) < (N1 : Int) := by omega
    have h41' : (40 : Int) < (N2 : Int) := by omega
    clear hok1 hkd1 hok2 hkd2 hr1 hr2 hB hE hG hGW hN1 hN2
    go_enter Tryz.func3, Tryz.ntmps3
    go_wp2_with (go_at_call 4; (with_reducible refine (CA.out _ (Below.refl _ _)).mono ?_); rintro e w1 ⟨rfl, hb1⟩)
    go_ret
    exact ⟨rfl, hb1⟩
  have hl1 : l1.length ≤ 1000000000000 := by omega
  have hl2 : l2.length ≤ 1000000000000 := by omega
  have CT1 := Lib.hid (text_any hiP loP B (.slice A1 l1.length c1) l1 hok1 hkd1 hl1 w hr1 hB hE hG)
  have CT2 := Lib.hid (fun (u : World) (hb : Below w.heap.size w u) => text_any hiP loP B (.slice A2 l2.length c2) l2 hok2 hkd2 hl2 u (hr2.keep hb.size (fun g hgB hg => hb.block g hg)) (Nat.le_trans hB hb.size) (hE.later hb) (hGW _ hb.size))
  obtain ⟨D, hD⟩ : ∃ D, D = decide (l1 = l2) := ⟨_, rfl⟩
  have CS := Lib.hid (fun (u : World) (hb : Below w.heap.size w u) => same18_any B (.slice A1 l1.length c1) (.slice A2 l2.length c2) l1 l2 hok1 hok2 hl1 hl2 u (hr1.keep hb.size (fun g hgB hg => hb.block g hg)) (hr2.keep hb.size (fun g hgB hg => hb.block g hg)) (Nat.le_trans hB hb.size))
  rw [← hD] at CS
  obtain ⟨SA, hSA⟩ : ∃ S, S = bA (textT hiP loP l1) := ⟨_, rfl⟩
  obtain ⟨SB, hSB⟩ : ∃ S, S = bA (textT hiP loP l2) := ⟨_, rfl⟩
  obtain ⟨E1, hE1⟩ : ∃ e, e = textE l1 := ⟨_, rfl⟩
  obtain ⟨E2, hE2⟩ : ∃ e, e = textE l2 := ⟨_, rfl⟩
  have h3 : E1 = 190 ∨ (E1 = 0 ∧ E2 = 190) ∨ (E1 = 0 ∧ E2 = 0 ∧ SA = SB ∧ D = true) ∨ (E1 = 0 ∧ E2 = 0 ∧ ¬ SA = SB ∧ D = false) := by
    rw [hE1, hE2]
    unfold textE
    cases r1 : rightP l1
    · left; rfl
    · cases r2 : rightP l2
      · right; left; exact ⟨rfl, rfl⟩
      · right; right
        have hts := fpm.text_same l1 l2 hok1 hok2 r1 r2
        rw [← hSA, ← hSB] at hts
        by_cases he : l1 = l2
        · left; exact ⟨rfl, rfl, hts.2 he, hD.trans (decide_eq_true he)⟩
        · right; exact ⟨rfl, rfl, fun h => he (hts.1 h), hD.trans (decide_eq_false he)⟩
  rw [← hSA, ← hE1] at CT1
  rw [← hSB, ← hE2] at CT2
  obtain ⟨N1, hN1⟩ : ∃ N, N = l1.length := ⟨_, rfl⟩
  obtain ⟨N2, hN2⟩ : ∃ N, N = l2.length := ⟨_, rfl⟩
  rw [← hN1] at h40 CT1 CS
  rw [← hN2] at h41 CT2 CS
  rw [← hN1, ← hN2]
  have h40' : ¬ (40 : Int) < (N1 : Int) := by omega
  have h41' : ¬ (40 : Int) < (N2 : Int) := by omega
  clear hok1 hkd1 hok2 hkd2 hr1 hr2 hB hE hG hGW hN1 hN2 hl1 hl2 hD hSA hSB hE1 hE2
  rcases h3 with rfl | ⟨rfl, rfl⟩ | ⟨rfl, rfl, h, rfl⟩ | ⟨rfl, rfl, h, rfl⟩
  · go_enter Tryz.func3, Tryz.ntmps3
    go_wp2_with (first
      | (go_at_call 5; first
          | ((with_reducible refine CT1.out.mono ?_); rintro e w1 ⟨rfl, hb1⟩)
          | ((with_reducible refine (CT2.out _ hb1).mono ?_); rintro e w2 ⟨rfl, hb2'⟩; have hb2 := hb1.trans (hb2'.mono hb1.size)))
      | (go_at_call 4; (with_reducible refine (CA.out _ hb2).mono ?_); rintro e w4 ⟨rfl, hb4⟩))
    go_ret
    exact ⟨rfl, hb2.trans (hb4.mono hb2.size)⟩
  · go_enter Tryz.func3, Tryz.ntmps3
    go_wp2_with (first
      | (go_at_call 5; first
          | ((with_reducible refine CT1.out.mono ?_); rintro e w1 ⟨rfl, hb1⟩)
          | ((with_reducible refine (CT2.out _ hb1).mono ?_); rintro e w2 ⟨rfl, hb2'⟩; have hb2 := hb1.trans (hb2'.mono hb1.size)))
      | (go_at_call 4; (with_reducible refine (CA.out _ hb2).mono ?_); rintro e w4 ⟨rfl, hb4⟩))
    go_ret
    exact ⟨rfl, hb2.trans (hb4.mono hb2.size)⟩
  · subst h
    go_enter Tryz.func3, Tryz.ntmps3
    go_wp2_with (first
      | (go_at_call 5; first
          | ((with_reducible refine CT1.out.mono ?_); rintro e w1 ⟨rfl, hb1⟩)
          | ((with_reducible refine (CT2.out _ hb1).mono ?_); rintro e w2 ⟨rfl, hb2'⟩; have hb2 := hb1.trans (hb2'.mono hb1.size)))
      | (go_at_call 6; (with_reducible refine (CS.out _ hb2).mono ?_); rintro e w3 ⟨rfl, hb3'⟩; have hb3 := hb2.trans (hb3'.mono hb2.size))
      | (go_at_call 4; (with_reducible refine (CA.out _ hb3).mono ?_); rintro e w4 ⟨rfl, hb4⟩))
    go_ret
    exact ⟨rfl, hb3.trans (hb4.mono hb3.size)⟩
  · have g2 := sneq h
    clear h
    go_enter Tryz.func3, Tryz.ntmps3
    go_wp2_with (first
      | (go_at_call 5; first
          | ((with_reducible refine CT1.out.mono ?_); rintro e w1 ⟨rfl, hb1⟩)
          | ((with_reducible refine (CT2.out _ hb1).mono ?_); rintro e w2 ⟨rfl, hb2'⟩; have hb2 := hb1.trans (hb2'.mono hb1.size)))
      | (go_at_call 6; (with_reducible refine (CS.out _ hb2).mono ?_); rintro e w3 ⟨rfl, hb3'⟩; have hb3 := hb2.trans (hb3'.mono hb2.size))
      | (go_at_call 4; (with_reducible refine (CA.out _ hb3).mono ?_); rintro e w4 ⟨rfl, hb4⟩))
    go_ret
    exact ⟨rfl, hb3.trans (hb4.mono hb3.size)⟩
end Go.Proofs.YtihhhglnnapkoaaGreatDoor.prnw
