/- What the listed variables hold, out of the row's condition. No condition. -/
import Derived.Test.YtgblgolkajdfbaaGreatDoorFloB
import Derived.Test.YtgblgolkajdfbaaGreatDoorRows
import Derived.Lib.LaidU8
import Derived.LaidMore
import Derived.ChangeArms
namespace Go.Proofs.YtgblgolkajdfbaaGreatDoor.flow
open Go.RowKit
open Go.Proofs.YtgblgolkajdfbaaGreatDoor.parw

section
variable {H : Type} {enc : TypeId × Value → H} {P : Program} {w : World} {base : Nat} {sp : Nat → Bool} {held : Bool}
theorem trod_float {fuel : Nat} {t : TypeId} {cs : List Value} {k : FloatKind} {x : DataW H × List MemPlace} (ht : P.underlying t = some (.float k)) (h : DataW.trod enc P w base sp held fuel t cs = some x) : ∃ n, cs = [.float k n] ∧ x = (.lit (.float k n), []) := by
  cases fuel with
  | zero => simp [DataW.trod] at h
  | succ n =>
    unfold DataW.trod at h
    rw [ht] at h
    split at h <;> simp_all
end

theorem laid_of (L : List (String × DataW Unit)) (W : World) (h : laidMet Tryz.prog L W) (m1 : ("internal/strconv.optimize", Rows.laid_internal_strconv_optimize) ∈ L) (m2 : ("internal/strconv.float64info", Rows.laid_internal_strconv_float64info) ∈ L)
    (m3 : ("internal/strconv.float64pow10", Rows.laid_internal_strconv_float64pow10) ∈ L) : Laid W.heap.size W := by
  obtain ⟨g1, t1, cs1, f1, p1, hg1, ht1, hv1, hd1⟩ := Lib.laidMet.reads h m1
  obtain ⟨g2, t2, cs2, f2, p2, hg2, ht2, hv2, hd2⟩ := Lib.laidMet.reads h m2
  obtain ⟨g3, t3, cs3, f3, p3, hg3, ht3, hv3, hd3⟩ := Lib.laidMet.reads h m3
  obtain rfl := Option.some.inj ((show Tryz.prog.globalNamed "internal/strconv.optimize" = some 4 by kernel_rfl).symm.trans hg1)
  obtain rfl := Option.some.inj ((show Tryz.prog.globalNamed "internal/strconv.float64info" = some 5 by kernel_rfl).symm.trans hg2)
  obtain rfl := Option.some.inj ((show Tryz.prog.globalNamed "internal/strconv.float64pow10" = some 8 by kernel_rfl).symm.trans hg3)
  obtain rfl := Option.some.inj ((show (Tryz.prog.globals[4]?).map (·.type) = some 4 by kernel_rfl).symm.trans ht1)
  obtain rfl := Option.some.inj ((show (Tryz.prog.globals[5]?).map (·.type) = some 147 by kernel_rfl).symm.trans ht2)
  obtain rfl := Option.some.inj ((show (Tryz.prog.globals[8]?).map (·.type) = some 49 by kernel_rfl).symm.trans ht3)
  have k1 : W.cell? ⟨4, 0, none⟩ = some (.bool true) := by
    obtain ⟨b, hb, hx⟩ := DataW.trod_bool Tryz.underlying4 hd1
    have : b = true := by
      have := congrArg Prod.fst hx
      simp [Rows.laid_internal_strconv_optimize] at this
      exact this
    subst this
    rw [World.var?_cell hg1 hv1 0]
    have : cs1[0]? = cs1.toList[0]? := by simp
    rw [this, hb]; rfl
  have k2 : W.cell? ⟨5, 0, none⟩ = some (.int .u64 52) := by
    obtain ⟨xs, n, _, hx, hlen, hn, hf⟩ := DataW.trod_struct Tryz.underlying147 hd2
    have h0 := hf 0 _ rfl
    have hx1 := congrArg Prod.fst hx
    simp only [Rows.laid_internal_strconv_float64info, DataW.agg.injEq] at hx1
    match xs, hx1, h0 with
    | x0 :: r, hx1, h0 =>
      simp only [List.map_cons, List.cons.injEq] at hx1
      obtain ⟨z, e1, e2, _⟩ := DataW.trod_int Tryz.underlying145 (show DataW.trod _ Tryz.prog W 0 _ false n 145 _ = some x0 from h0)
      have hz : z = 52 := by
        have := hx1.1
        rw [e2] at this
        simpa using this.symm
      subst hz
      rw [World.var?_cell hg2 hv2 0]
      have hc : Tryz.prog.cellsOf 145 = 1 := by kernel_rfl
      have : cs2[0]? = cs2.toList[0]? := by simp
      rw [this]
      change (cs2.toList.drop 0).take (Tryz.prog.cellsOf 145) = _ at e1
      rw [hc, List.drop_zero] at e1
      cases hl : cs2.toList with
      | nil => rw [hl] at e1; simp at e1
      | cons a q => rw [hl] at e1; simp at e1; rw [e1]; rfl
  have k3 : ∃ (a : Addr) (c : Nat), W.cell? ⟨8, 0, none⟩ = some (.slice (some a) 23 c) ∧ W.cell? ⟨a.block, a.off + 1, none⟩ = some (.float .f64 4621819117588971520) := by
    obtain ⟨a, cap, hcs, _, hel⟩ := open_row Tryz.underlying49 (by kernel_rfl) hd3
    refine ⟨a, cap, ?_, ?_⟩
    · rw [World.var?_cell hg3 hv3 0]
      have : cs3[0]? = cs3.toList[0]? := by simp
      rw [this, hcs]; rfl
    · obtain ⟨v, n, q, hv, ht⟩ := hel 1 _ rfl
      obtain ⟨z, hz, hx⟩ := trod_float Tryz.underlying22 ht
      have hz' : z = 4621819117588971520 := by
        have := congrArg Prod.fst hx
        simpa using this.symm
      subst hz'
      have hv' : v = .float .f64 4621819117588971520 := by simpa using hz
      rw [← hv', ← hv]
      simp [Addr.add]
  obtain ⟨a, c, k3, k4⟩ := k3
  exact ⟨World.block_lt_of_cell? W _ k1, World.block_lt_of_cell? W _ k2, World.block_lt_of_cell? W _ k3, k1, k2, a, c, k3, World.block_lt_of_cell? W ⟨a.block, a.off + 1, none⟩ k4, k4⟩

end Go.Proofs.YtgblgolkajdfbaaGreatDoor.flow
