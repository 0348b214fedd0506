/- The walk of strconv's (*decimal).set at a decimal. Conditions: as the theorem states. -/
import Derived.Test.YtcbgkbidgpemfaaGreatDoorMp06
import Derived.Test.YtcbgkbidgpemfaaGreatDoorMp03
import Derived.StillTail
import Derived.StillTailTactics
namespace Go.Proofs.YtcbgkbidgpemfaaGreatDoor.rdf
open Go.RowKit
open Go.Proofs.YtcbgkbidgpemfaaGreatDoor.bsw
open Go.Proofs.YtcbgkbidgpemfaaGreatDoor.prnw
open Go.Proofs.YtcbgkbidgpemfaaGreatDoor.dcw
open Go.Proofs.YtcbgkbidgpemfaaGreatDoor.dmx

/-- a decimal with the digits of N lies in block a; else the world is as it was -/
def SeW (w : World) (a N n : Nat) (dp : Int) (neg : Bool) (wx : World) : Prop := ∃ f, DM wx a f (n : Nat) dp neg ∧ Dg f N n ∧ w.grownBy wx (some a)
theorem SeW.drewN {w wx : World} {a N n : Nat} {dp : Int} {neg : Bool} (h : SeW w a N n dp neg wx) (q : Nat) : SeW w a N n dp neg (wx.drewN q) := by
  obtain ⟨f, h1, h2, h3⟩ := h
  exact ⟨f, h1.drewN q, h2, grown_drewN h3 q⟩
theorem SeW.drew {w wx : World} {a N n : Nat} {dp : Int} {neg : Bool} (h : SeW w a N n dp neg wx) : SeW w a N n dp neg wx.drew := by
  obtain ⟨f, ⟨cs, h0, h1⟩, h2, h3⟩ := h
  exact ⟨f, ⟨cs, h0, h1⟩, h2, h3.os, h3.tape, h3.output, h3.size, h3.block⟩
theorem SeW.dp {w wx : World} {a N n : Nat} {dp : Int} {neg : Bool} (h : SeW w a N n dp neg wx) (d : Int) : SeW w a N n d neg (wx.setCell ⟨a, 801, none⟩ (.int .i64 d)) := by
  obtain ⟨f, h1, h2, h3⟩ := h
  exact ⟨f, h1.sdp d, h2, grown_trans h3 (set_grown _ _ _ _)⟩
/-- the cells -/
theorem SeW.at {w wx : World} {a N n : Nat} {dp : Int} {neg : Bool} (h : SeW w a N n dp neg wx) : wx.cell? ⟨a, 800, none⟩ = some (.int .i64 (n : Nat)) ∧ wx.cell? ⟨a, 801, none⟩ = some (.int .i64 dp) ∧ wx.cell? ⟨a, 802, none⟩ = some (.bool neg) ∧ wx.cell? ⟨a, 803, none⟩ = some (.bool false) ∧ (∀ j, wx.frozen? ⟨a, j, none⟩ = false) ∧ ∀ j, j < 800 → ∃ v, wx.cell? ⟨a, j, none⟩ = some v := by
  obtain ⟨f, h1, _, _⟩ := h
  exact ⟨h1.cnd, h1.cdp, h1.cng, h1.ctr, h1.fr, fun j hj => ⟨_, h1.dig j hj⟩⟩
theorem SeW.put {w wx : World} {a N n : Nat} {dp : Int} {neg : Bool} (h : SeW w a N n dp neg wx) (c y : Nat) (hc : c = 48 + y) (hy : y < 10) (hn : n < 800) :
    wx.frozen? ⟨a, n, none⟩ = false ∧ (wx.setCell ⟨a, n, none⟩ (.int .u8 (c : Nat))).cell? ⟨a, 800, none⟩ = some (.int .i64 (n : Nat)) ∧ (wx.setCell ⟨a, n, none⟩ (.int .u8 (c : Nat))).frozen? ⟨a, 800, none⟩ = false ∧
    SeW w a (N * 10 + y) (n + 1) dp neg ((wx.setCell ⟨a, n, none⟩ (.int .u8 (c : Nat))).setCell ⟨a, 800, none⟩ (.int .i64 ((n : Int) + 1))) := by
  obtain ⟨f, h1, h2, h3⟩ := h
  have h4 := h1.sdig n c hn
  refine ⟨h1.fr n, h4.cnd, h4.fr 800, _, h4.snd _, fun j hj => ?_, grown_trans (grown_trans h3 (set_grown _ _ _ _)) (set_grown _ _ _ _)⟩
  by_cases hjn : j = n
  · subst hjn
    rw [upd_at, hc, show j + 1 - 1 - j = 0 by omega, Nat.pow_zero, Nat.div_one]
    omega
  · rw [upd_ne _ _ _ _ hjn, h2 j (by omega), show n + 1 - 1 - j = n - 1 - j + 1 by omega, Nat.pow_succ, Nat.mul_comm (10 ^ (n - 1 - j)) 10, ← Nat.div_div_eq_div_mul, show (N * 10 + y) / 10 = N by omega]
end Go.Proofs.YtcbgkbidgpemfaaGreatDoor.rdf
