/- What the listed variables hold, out of the row's condition. No condition. -/
import Derived.Test.YtcbgkbidgpemfaaGreatDoorMp28
import Derived.Test.YtcbgkbidgpemfaaGreatDoorRows
import Derived.Lib.LaidU8
import Derived.LaidMore
import Derived.ChangeArms
import Derived.Deep.Slices
import Derived.Below
import Derived.ChangeSame
namespace Go.Proofs.YtcbgkbidgpemfaaGreatDoor.flow
open Go.RowKit
open Go.Proofs.YtcbgkbidgpemfaaGreatDoor.parw
open Go.Proofs.YtcbgkbidgpemfaaGreatDoor.rdf
open Go.Proofs.YtcbgkbidgpemfaaGreatDoor.dcw
open Go.Proofs.YtcbgkbidgpemfaaGreatDoor.dmx
open Go.Proofs.YtcbgkbidgpemfaaGreatDoor.fpm
open Go.Proofs.YtcbgkbidgpemfaaGreatDoor.prnw

section
variable {H : Type} {enc : TypeId × Value → H} {P : Program} {w : World} {base : Nat} {sp : Nat → Bool} {held : Bool}
theorem trod_float {fuel : Nat} {t : TypeId} {cs : List Value} {k : FloatKind} {x : DataW H × List MemPlace} (ht : P.underlying t = some (.float k)) (h : DataW.trod enc P w base sp held fuel t cs = some x) : ∃ n, cs = [.float k n] ∧ x = (.lit (.float k n), []) := by
  cases fuel with
  | zero => simp [DataW.trod] at h
  | succ n =>
    unfold DataW.trod at h
    rw [ht] at h
    split at h <;> simp_all
theorem trod_face {fuel : Nat} {t : TypeId} {ms : Array (String × TypeId)} {cs : List Value} {x : DataW H × List MemPlace} (ht : P.underlying t = some (.interface ms)) (h : DataW.trod enc P w base sp held fuel t cs = some x) : ∃ v, cs = [v] ∧ (v = .nilIface ∨ ∃ te pe, v = .iface te pe) := by
  cases fuel with
  | zero => simp [DataW.trod] at h
  | succ n =>
    unfold DataW.trod at h
    rw [ht] at h
    split at h <;> simp_all
/-- a row of elements of k cells -/
theorem open_rows {t e : TypeId} {k fuel : Nat} {cs : List Value} {ds : List (DataW H)} {p : List MemPlace} (ht : P.underlying t = some (.slice e)) (hc : P.cellsOf e = k) (hk : 0 < k) (h0 : 0 < ds.length)
    (h : DataW.trod enc P w base sp held fuel t cs = some (.slice ds [], p)) :
    ∃ g off cap, cs = [.slice (some ⟨g, off, none⟩) ds.length cap] ∧ g < w.heap.size ∧ ∀ i d, ds[i]? = some d → ∃ us n q, us.length = k ∧ (∀ j u, us[j]? = some u → w.cell? ⟨g, off + (i * k + j), none⟩ = some u) ∧ DataW.trod enc P w base sp held n e us = some (d, q) := by
  rcases DataW.trod_slice ht h with ⟨_, hx⟩ | ⟨a, len, cap, elems, rest, n, _, hcs, hx, _, hl, _, hlen, hel, _⟩
  · simp at hx
  · simp only [Prod.mk.injEq, DataW.slice.injEq] at hx
    obtain ⟨⟨rfl, _⟩, _⟩ := hx
    have el : (elems.map (·.1)).length = len := by simpa using hlen
    have key : ∀ i d, (elems.map (·.1))[i]? = some d → ∃ us q, us.length = k ∧ (∀ j u, us[j]? = some u → w.cell? (a.add (i * k + j)) = some u) ∧ DataW.trod enc P w base sp held n e us = some (d, q) := fun i d hd => by
      rw [List.getElem?_map, Option.map_eq_some_iff] at hd
      obtain ⟨⟨d', q⟩, hd, rfl⟩ := hd
      have hil : i < len := by
        have := (List.getElem?_eq_some_iff.1 hd).1
        omega
      have hi := hel i hil
      rw [hd, hc, Option.bind_eq_some_iff] at hi
      obtain ⟨us, hus, htr⟩ := hi
      obtain ⟨_, hcl, hat⟩ := World.cells?_some hus
      refine ⟨us, q, hcl, fun j u hu => ?_, htr⟩
      have hj : j < k := by have := (List.getElem?_eq_some_iff.1 hu).1; omega
      have := hat j hj
      rw [Go.Deep.add_add] at this
      rw [this, hu]
    obtain ⟨d0, hd0⟩ : ∃ d0, (elems.map (·.1))[0]? = some d0 := ⟨_, List.getElem?_eq_getElem h0⟩
    obtain ⟨us0, q0, hu0, hat0, _⟩ := key 0 d0 hd0
    have hc0 := hat0 0 _ (List.getElem?_eq_getElem (by omega))
    have ha0 : a.add (0 * k + 0) = a := by unfold Addr.add; simp
    rw [ha0] at hc0
    obtain ⟨g, off, spot⟩ := a
    have hspot : spot = none := by
      cases spot with
      | none => rfl
      | some p => unfold World.cell? at hc0; split at hc0 <;> simp at hc0
    subst hspot
    refine ⟨g, off, cap, by rw [hcs, el], World.block_lt_of_cell? w _ hc0, fun i d hd => ?_⟩
    obtain ⟨us, q, h1, h2, h3⟩ := key i d hd
    refine ⟨us, n, q, h1, fun j u hu => ?_, h3⟩
    have := h2 j u hu
    have hadd : (⟨g, off, none⟩ : Addr).add (i * k + j) = ⟨g, off + (i * k + j), none⟩ := by unfold Addr.add; split <;> simp_all
    rwa [hadd] at this
end
/-- the table of the shifts to the left, checked -/
def cheatB (k : Nat) : Bool :=
  let r := Go.Pinned.cheatRows.getD k (0, [])
  let c := r.2.length
  decide (r.1 = k + 1 - c) && decide (c ≤ k) && decide (10 ^ c ≤ 10 * 5 ^ k) && decide (5 ^ k < 10 ^ c) && (List.range c).all (fun j => decide ((r.2.getD j 0).toNat = 48 + 5 ^ k / 10 ^ (c - 1 - j) % 10))
theorem cheats_ok : (List.range 60).all (fun k => cheatB (k + 1)) = true := by kernel_rfl
theorem cheats_len : Go.Pinned.cheatRows.length = 61 := by kernel_rfl
theorem powtab_ok : (Rows.laid_internal_strconv_powtab (H := Unit)) = .slice ((List.range 9).map fun k => .lit (.int .i64 (powT k : Nat))) [] := by kernel_rfl
theorem pow10_ok : (Rows.laid_internal_strconv_float64pow10 (H := Unit)) = .slice ((List.range 23).map fun k => .lit (.float .f64 (p10 k))) [] := by kernel_rfl
set_option maxRecDepth 100000 in
theorem laid_of (L : List (String × DataW Unit)) (W : World) (h : laidMet Tryz.prog L W) (m1 : ("internal/strconv.optimize", Rows.laid_internal_strconv_optimize) ∈ L) (m2 : ("internal/strconv.float64info", Rows.laid_internal_strconv_float64info) ∈ L)
    (m3 : ("internal/strconv.float64pow10", Rows.laid_internal_strconv_float64pow10) ∈ L) (m4 : ("internal/strconv.powtab", Rows.laid_internal_strconv_powtab) ∈ L) (m5 : ("strconv.ErrRange", Rows.laid_strconv_ErrRange) ∈ L)
    (m6 : ("internal/strconv.leftcheats", Rows.laid_internal_strconv_leftcheats) ∈ L) (m7 : ("internal/strconv.pow10Tab", Rows.laid_internal_strconv_pow10Tab) ∈ L) : Laid W.heap.size W := by
  obtain ⟨g1, t1, cs1, f1, p1, hg1, ht1, hv1, hd1⟩ := Lib.laidMet.reads h m1
  obtain ⟨g2, t2, cs2, f2, p2, hg2, ht2, hv2, hd2⟩ := Lib.laidMet.reads h m2
  obtain ⟨g3, t3, cs3, f3, p3, hg3, ht3, hv3, hd3⟩ := Lib.laidMet.reads h m3
  obtain ⟨g4, t4, cs4, f4, p4, hg4, ht4, hv4, hd4⟩ := Lib.laidMet.reads h m4
  obtain ⟨g5, t5, cs5, f5, p5, hg5, ht5, hv5, hd5⟩ := Lib.laidMet.reads h m5
  obtain ⟨g6, t6, cs6, f6, p6, hg6, ht6, hv6, hd6⟩ := Lib.laidMet.reads h m6
  obtain ⟨g7, t7, cs7, f7, p7, hg7, ht7, hv7, hd7⟩ := Lib.laidMet.reads h m7
  obtain rfl := Option.some.inj ((show Tryz.prog.globalNamed "internal/strconv.optimize" = some 2 by kernel_rfl).symm.trans hg1)
  obtain rfl := Option.some.inj ((show Tryz.prog.globalNamed "internal/strconv.float64info" = some 11 by kernel_rfl).symm.trans hg2)
  obtain rfl := Option.some.inj ((show Tryz.prog.globalNamed "internal/strconv.float64pow10" = some 16 by kernel_rfl).symm.trans hg3)
  obtain rfl := Option.some.inj ((show Tryz.prog.globalNamed "internal/strconv.powtab" = some 15 by kernel_rfl).symm.trans hg4)
  obtain rfl := Option.some.inj ((show Tryz.prog.globalNamed "strconv.ErrRange" = some 4 by kernel_rfl).symm.trans hg5)
  obtain rfl := Option.some.inj ((show Tryz.prog.globalNamed "internal/strconv.leftcheats" = some 9 by kernel_rfl).symm.trans hg6)
  obtain rfl := Option.some.inj ((show Tryz.prog.globalNamed "internal/strconv.pow10Tab" = some 8 by kernel_rfl).symm.trans hg7)
  obtain rfl := Option.some.inj ((show (Tryz.prog.globals[2]?).map (·.type) = some 4 by kernel_rfl).symm.trans ht1)
  obtain rfl := Option.some.inj ((show (Tryz.prog.globals[11]?).map (·.type) = some 292 by kernel_rfl).symm.trans ht2)
  obtain rfl := Option.some.inj ((show (Tryz.prog.globals[16]?).map (·.type) = some 86 by kernel_rfl).symm.trans ht3)
  obtain rfl := Option.some.inj ((show (Tryz.prog.globals[15]?).map (·.type) = some 42 by kernel_rfl).symm.trans ht4)
  obtain rfl := Option.some.inj ((show (Tryz.prog.globals[4]?).map (·.type) = some 96 by kernel_rfl).symm.trans ht5)
  obtain rfl := Option.some.inj ((show (Tryz.prog.globals[9]?).map (·.type) = some 283 by kernel_rfl).symm.trans ht6)
  obtain rfl := Option.some.inj ((show (Tryz.prog.globals[8]?).map (·.type) = some 278 by kernel_rfl).symm.trans ht7)
  have k1 : W.cell? ⟨2, 0, none⟩ = some (.bool true) := by
    obtain ⟨b, hb, hx⟩ := DataW.trod_bool Tryz.underlying4 hd1
    have : b = true := by
      have := congrArg Prod.fst hx
      simp [Rows.laid_internal_strconv_optimize] at this
      exact this
    subst this
    rw [World.var?_cell hg1 hv1 0]
    have : cs1[0]? = cs1.toList[0]? := by simp
    rw [this, hb]; rfl
  have k2 : W.cell? ⟨11, 0, none⟩ = some (.int .u64 52) ∧ W.cell? ⟨11, 1, none⟩ = some (.int .u64 11) ∧ W.cell? ⟨11, 2, none⟩ = some (.int .i64 (-1023)) := by
    obtain ⟨xs, n, _, hx, hlen, hn, hf⟩ := DataW.trod_struct Tryz.underlying292 hd2
    have hx1 := congrArg Prod.fst hx
    simp only [Rows.laid_internal_strconv_float64info, DataW.agg.injEq] at hx1
    have hc3 : Tryz.prog.cellsOf 292 = 3 := by kernel_rfl
    have hcu : Tryz.prog.cellsOf 191 = 1 := by kernel_rfl
    have hci : Tryz.prog.cellsOf 3 = 1 := by kernel_rfl
    rw [hc3] at hlen
    have hl : ∀ j, j < 3 → cs2[j]? = cs2.toList[j]? := fun j _ => by simp
    obtain ⟨cl, hcl⟩ : ∃ cl, cs2.toList = cl := ⟨_, rfl⟩
    rw [hcl] at hlen hf
    match cl, hlen, xs, hx1 with
    | [c0, c1, c2], _, [y0, y1, y2], hx1 =>
      simp only [List.map_cons, List.map_nil, List.cons.injEq, and_true] at hx1
      have h0 := hf 0 _ rfl
      change DataW.trod _ Tryz.prog W 0 _ false n 191 ((List.drop 0 [c0, c1, c2]).take (Tryz.prog.cellsOf 191)) = some y0 at h0
      rw [hcu] at h0
      have h1 := hf 1 _ rfl
      change DataW.trod _ Tryz.prog W 0 _ false n 191 ((List.drop 1 [c0, c1, c2]).take (Tryz.prog.cellsOf 191)) = some y1 at h1
      rw [hcu] at h1
      have h2 := hf 2 _ rfl
      change DataW.trod _ Tryz.prog W 0 _ false n 3 ((List.drop 2 [c0, c1, c2]).take (Tryz.prog.cellsOf 3)) = some y2 at h2
      rw [hci] at h2
      obtain ⟨z0, e0, f0, _⟩ := DataW.trod_int Tryz.underlying191 h0
      obtain ⟨z1, e1, f1, _⟩ := DataW.trod_int Tryz.underlying191 h1
      obtain ⟨z2, e2, f2, _⟩ := DataW.trod_int Tryz.underlying3 h2
      rw [f0, f1, f2] at hx1
      have q0 : z0 = 52 := by simpa using hx1.1.symm
      have q1 : z1 = 11 := by simpa using hx1.2.1.symm
      have q2 : z2 = -1023 := by simpa using hx1.2.2.symm
      have r0 : c0 = .int .u64 z0 := by simpa using e0
      have r1 : c1 = .int .u64 z1 := by simpa using e1
      have r2 : c2 = .int .i64 z2 := by simpa using e2
      refine ⟨?_, ?_, ?_⟩
      · rw [World.var?_cell hg2 hv2 0, hl 0 (by omega), hcl, r0, q0]; rfl
      · rw [World.var?_cell hg2 hv2 1, hl 1 (by omega), hcl, r1, q1]; rfl
      · rw [World.var?_cell hg2 hv2 2, hl 2 (by omega), hcl, r2, q2]; rfl
  have k3 : FT W.heap.size W := by
    rw [pow10_ok] at hd3
    obtain ⟨g, off, cap, hcs, hg, hel⟩ := open_rows (k := 1) Tryz.underlying86 (by kernel_rfl) (by omega) (by decide) hd3
    have c3 : W.cell? ⟨16, 0, none⟩ = some (.slice (some ⟨g, off, none⟩) 23 cap) := by
      rw [World.var?_cell hg3 hv3 0]
      have : cs3[0]? = cs3.toList[0]? := by simp
      rw [this, hcs]
      rfl
    refine ⟨World.block_lt_of_cell? W _ c3, g, off, cap, hg, c3, fun k hk => ?_⟩
    obtain ⟨us, n, q, h1, h2, h3⟩ := hel k (.lit (.float .f64 (p10 k))) (by rw [List.getElem?_map, List.getElem?_range (by omega)]; rfl)
    obtain ⟨z, hz, hx⟩ := trod_float Tryz.underlying46 h3
    have hz' : z = p10 k := by
      have := congrArg Prod.fst hx
      simpa using this.symm
    have := h2 0 (.float .f64 z) (by rw [hz]; rfl)
    rw [hz'] at this
    rw [← this]
    congr 2
    omega
  have k4 : ∃ bb bo cap, bb < W.heap.size ∧ W.cell? ⟨15, 0, none⟩ = some (.slice (some ⟨bb, bo, none⟩) 9 cap) ∧ ∀ d, d ≤ 8 → W.cell? ⟨bb, bo + d, none⟩ = some (.int .i64 (powT d : Nat)) := by
    rw [powtab_ok] at hd4
    obtain ⟨g, off, cap, hcs, hg, hel⟩ := open_rows (k := 1) Tryz.underlying42 (by kernel_rfl) (by omega) (by decide) hd4
    have c4 : W.cell? ⟨15, 0, none⟩ = some (.slice (some ⟨g, off, none⟩) 9 cap) := by
      rw [World.var?_cell hg4 hv4 0]
      have : cs4[0]? = cs4.toList[0]? := by simp
      rw [this, hcs]
      rfl
    refine ⟨g, off, cap, hg, c4, fun k hk => ?_⟩
    obtain ⟨us, n, q, h1, h2, h3⟩ := hel k (.lit (.int .i64 (powT k : Nat))) (by rw [List.getElem?_map, List.getElem?_range (by omega)]; rfl)
    obtain ⟨z, hz, hx, _⟩ := DataW.trod_int Tryz.underlying3 h3
    have hz' : z = (powT k : Nat) := by
      have := congrArg Prod.fst hx
      simpa using this.symm
    have := h2 0 (.int .i64 z) (by rw [hz]; rfl)
    rw [hz'] at this
    rw [← this]
    congr 2
    omega
  have k5 : ∃ v, W.cell? ⟨4, 0, none⟩ = some v ∧ (v = .nilIface ∨ ∃ te pe, v = .iface te pe) := by
    obtain ⟨v, hv, hx⟩ := trod_face Tryz.underlying96 hd5
    refine ⟨v, ?_, hx⟩
    rw [World.var?_cell hg5 hv5 0]
    have : cs5[0]? = cs5.toList[0]? := by simp
    rw [this, hv]
    rfl
  have k6 : LC W.heap.size W := by
    have hd6' : DataW.trod _ Tryz.prog W 0 _ false f6 283 cs6.toList = some (.slice (Go.Pinned.cheatRows.map fun x => .agg [.lit (.int .i64 x.1), .lit (.string x.2)]) [], p6) := hd6
    have hl0 : (Go.Pinned.cheatRows.map fun x => (DataW.agg [.lit (.int .i64 x.1), .lit (.string x.2)] : DataW Unit)).length = 61 := by rw [List.length_map, cheats_len]
    obtain ⟨g, off, cap, hcs, hg, hel⟩ := open_rows (k := 2) Tryz.underlying283 (by kernel_rfl) (by omega) (by rw [hl0]; decide) hd6'
    rw [hl0] at hcs
    have c6 : W.cell? ⟨9, 0, none⟩ = some (.slice (some ⟨g, off, none⟩) 61 cap) := by
      rw [World.var?_cell hg6 hv6 0]
      have : cs6[0]? = cs6.toList[0]? := by simp
      rw [this, hcs]
      rfl
    refine ⟨World.block_lt_of_cell? W _ c6, g, off, cap, hg, c6, fun k hk1 hk => ?_⟩
    have hb := List.all_eq_true.1 cheats_ok (k - 1) (List.mem_range.2 (by omega))
    rw [show k - 1 + 1 = k by omega] at hb
    unfold cheatB at hb
    obtain ⟨⟨x1, x2⟩, hx⟩ : ∃ x, Go.Pinned.cheatRows.getD k (0, []) = x := ⟨_, rfl⟩
    have hk61 : k < Go.Pinned.cheatRows.length := by rw [cheats_len]; omega
    have hget : Go.Pinned.cheatRows[k]? = some (x1, x2) := by
      rw [← hx, List.getD_eq_getElem?_getD, List.getElem?_eq_getElem hk61]
      rfl
    simp only [hx, Bool.and_eq_true, decide_eq_true_eq] at hb
    obtain ⟨⟨⟨⟨b1, b2⟩, b3⟩, b4⟩, b5⟩ := hb
    obtain ⟨us, n, q, h1, h2, h3⟩ := hel k _ (by rw [List.getElem?_map, hget]; rfl)
    obtain ⟨xs, m, _, hxx, hlen, hn, hf⟩ := DataW.trod_struct Tryz.underlying282 h3
    have hx1 := congrArg Prod.fst hxx
    simp only [DataW.agg.injEq] at hx1
    have hci : Tryz.prog.cellsOf 3 = 1 := by kernel_rfl
    have hcs1 : Tryz.prog.cellsOf 9 = 1 := by kernel_rfl
    match us, h1, xs, hx1 with
    | [u0, u1], _, [y0, y1], hx1 =>
      simp only [List.map_cons, List.map_nil, List.cons.injEq, and_true] at hx1
      have h30 := hf 0 _ rfl
      change DataW.trod _ Tryz.prog W 0 _ false m 3 ((List.drop 0 [u0, u1]).take (Tryz.prog.cellsOf 3)) = some y0 at h30
      rw [hci] at h30
      have h31 := hf 1 _ rfl
      change DataW.trod _ Tryz.prog W 0 _ false m 9 ((List.drop 1 [u0, u1]).take (Tryz.prog.cellsOf 9)) = some y1 at h31
      rw [hcs1] at h31
      obtain ⟨z0, e0, f0, _⟩ := DataW.trod_int Tryz.underlying3 h30
      obtain ⟨s1, e1, f1, _⟩ := DataW.trod_string Tryz.underlying9 h31
      rw [f0, f1] at hx1
      have q0 : z0 = ((x1 : Nat) : Int) := by simpa using hx1.1.symm
      have q1 : s1.data.toList = x2 := by simpa using hx1.2.symm
      have r0 : u0 = .int .i64 z0 := by simpa using e0
      have r1 : u1 = .string s1 := by simpa using e1
      have hsz : s1.size = x2.length := by rw [← q1]; simp
      refine ⟨x2.length, s1, ?_, ?_, ⟨hsz, fun j hj => ?_⟩, b3, b4, b2⟩
      · have := h2 0 _ rfl
        rw [r0, q0, b1] at this
        exact this
      · have := h2 1 _ rfl
        rw [r1] at this
        exact this
      · have hb5 := List.all_eq_true.1 b5 j (List.mem_range.2 (by omega))
        have hb6 := of_decide_eq_true hb5
        have e : s1[j] = x2.getD j 0 := by
          rw [← q1, List.getD_eq_getElem?_getD, List.getElem?_eq_getElem (by simpa using hj)]
          rfl
        rw [e]
        exact hb6
  have k7 : PT hiT loT W := fun i hi => by
    obtain ⟨f', d, q, hd, he⟩ := Lib.array_elem Tryz.underlying278 hd7 i hi
    have hlen : Go.Pinned.pow10Rows.length = 696 := by kernel_rfl
    have hr : Go.Pinned.pow10Rows[i]? = some (hiT i, loT i) := by
      have : i < Go.Pinned.pow10Rows.length := by rw [hlen]; exact hi
      unfold hiT loT
      rw [List.getD_eq_getElem?_getD, List.getElem?_eq_getElem this]
      rfl
    rw [List.getElem?_map, hr] at hd
    obtain rfl := (Option.some.inj hd).symm
    obtain ⟨r1, r2, r3, _⟩ := row_spec i hi
    have hz := Lib.ints_of_struct (zs := [(hiT i : Int), (loT i : Int)]) (k := .u64) Tryz.underlying277 (fun j f hf => ?_) (by kernel_rfl) he
    · have hc2 : Tryz.prog.cellsOf 277 = 2 := by kernel_rfl
      rw [hc2] at hz
      have c0 : cs7[i * 2]? = some (.int .u64 (hiT i : Int)) := by
        have := congrArg (·[0]?) hz
        simpa [List.getElem?_take, List.getElem?_drop] using this
      have c1 : cs7[i * 2 + 1]? = some (.int .u64 (loT i : Int)) := by
        have := congrArg (·[1]?) hz
        simpa [List.getElem?_take, List.getElem?_drop] using this
      exact ⟨r2, r3, by rw [World.var?_cell hg7 hv7 (i * 2)]; exact c0, by rw [World.var?_cell hg7 hv7 (i * 2 + 1)]; exact c1⟩
    · match j, hf with
      | 0, hf => obtain rfl := Option.some.inj hf; exact ⟨Tryz.underlying109, rfl, by kernel_rfl⟩
      | 1, hf => obtain rfl := Option.some.inj hf; exact ⟨Tryz.underlying109, rfl, by kernel_rfl⟩
      | k + 2, hf => cases hf
  obtain ⟨bb, bo, cap, n1, n2, n3⟩ := k4
  obtain ⟨v5, v51, v52⟩ := k5
  exact ⟨⟨⟨k6, World.block_lt_of_cell? W _ k2.1, k2.1, k2.2.1, k2.2.2, World.block_lt_of_cell? W _ n2, bb, bo, cap, n1, n2, n3⟩, k3, k7, World.block_lt_of_cell? W _ (k7 0 (by decide)).2.2.1, World.block_lt_of_cell? W _ k1, k1, Nat.le_refl _⟩, World.block_lt_of_cell? W _ v51, v5, v51, v52⟩
end Go.Proofs.YtcbgkbidgpemfaaGreatDoor.flow

/- A small lemma for every law of this seat: what has only grown is as the row asks. Its text is the guide's (extra-small), as the guide bids to copy it. -/
namespace Go.Proofs.YtcbgkbidgpemfaaGreatDoor.post
open Go.RowKit Go.WideShapes Go.ChangeShapes
section
variable {H : Type} {enc : TypeId × Value → H} {P : Program}
theorem post_of_below {f : Func} {s : ChangeSpec} {apart fresh handsOn again : Bool} {W W' : World} {args : Array Value} {v : Value} {ds gs : List (DataW H)} {before pa pv : List MemPlace}
    (hW : DataW.Whole enc P f.params.toList s.vars apart W args.toList ds gs before)
    (hres : ∀ (b : Nat) (sp : Nat → Bool) (hd : Bool), DataW.TrodAll enc P W' b sp hd f.resultTypes.toList (v.resultList f.resultTypes.size) (s.fn H (ds ++ gs)).results [])
    (hargs : ∀ sp : Nat → Bool, (∀ p ∈ before, sp p.block = true) → DataW.TrodAll enc P W' 0 sp true f.params.toList args.toList (s.fn H (ds ++ gs)).args pa)
    (hvars : ∀ sp : Nat → Bool, (∀ p ∈ before, sp p.block = true) → DataW.TrodVars enc P W' sp s.vars (s.fn H (ds ++ gs)).vars pv)
    (hps : before = pa ++ pv) (hb : Below W.heap.size W W')
    (hok : ∀ (j : Nat) (t : TypeId) (r : Value), f.resultTypes[j]? = some t → (v.resultList f.resultTypes.size)[j]? = some r → Value.okWide P W' .any 0 t r) :
    s.post enc P f apart fresh handsOn again W args v W' := by
  have hlt : ∀ p ∈ before, p.block < W.heap.size := fun p hp => hW.lt p hp
  have hold : ∀ p ∈ before, (fun b => decide (b < W.heap.size)) p.block = true := fun p hp => by simpa using hlt p hp
  refine ⟨ds, gs, before, [], pa, pv, hW, hres _ _ _, hargs _ hold, hvars _ hold, World.keptBut_mono (fun p hp => ⟨hp, ?_⟩) (hb.frame (· ∈ before)), fun _ => ?_⟩
  · rw [hps, List.mem_append] at hp
    exact Or.inr hp
  · obtain ⟨_, _, _, _, _, hz, hn⟩ := hW
    refine ⟨hok, _, _, ([] ++ pa) ++ pv, ⟨[] ++ pa, pv, trodAll_append (hargs _ (fun _ _ => rfl)) (hres _ _ _), hvars _ (fun _ _ => rfl), rfl, ?_, ?_⟩, ?_⟩
    · intro b off hp
      have hin : MemPlace.cell b off ∈ before := by rw [hps]; simpa using hp
      rw [hb.frozen (hlt _ hin)]
      exact hz b off hin
    · intro ha
      have := hn ha
      rw [hps] at this
      simpa using this
    · intro p hp _
      rw [hps]
      simpa using hp
end
end Go.Proofs.YtcbgkbidgpemfaaGreatDoor.post
