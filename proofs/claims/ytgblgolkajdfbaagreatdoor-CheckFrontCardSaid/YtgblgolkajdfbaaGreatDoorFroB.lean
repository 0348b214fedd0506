/- The walk of burnishlaw18.CheckFront. Conditions: the statements lie in memory, within a process's reach; three of strconv's variables hold what the program's text lays. -/
import Derived.Test.YtgblgolkajdfbaaGreatDoorFroA
import Derived.Laws.Concat
namespace Go.Proofs.YtgblgolkajdfbaaGreatDoor.chkw
open Go.RowKit
open Go.Proofs.YtgblgolkajdfbaaGreatDoor.lexw
open Go.Proofs.YtgblgolkajdfbaaGreatDoor.parw
open Go.Proofs.YtgblgolkajdfbaaGreatDoor.flow
open Go.Proofs.YtgblgolkajdfbaaGreatDoor.nodew
open Go.Proofs.YtgblgolkajdfbaaGreatDoor.qt

set_option maxRecDepth 100000 in
set_option maxHeartbeats 4000000 in
theorem front_any (B : Nat) (v : Value) (l : List PStmt) (us : List Value) (hk : ∀ s ∈ l, s.kind < 256) (hsz : ∀ s ∈ l, StSz s) (hnil : ∀ i (h1 : i < us.length) (h2 : i < l.length), ∃ A c, us[i] = .slice A l[i].args.length c ∧ (A = none → c = 0))
    (at_ : Nat) (hat : at_ ≤ 255) (w : World) (hw : Laid B w) (h1 : SArg w B v l us) (hB : B ≤ w.heap.size) :
    Calls Tryz.prog 4 #[v, .int .u8 at_] w fun e w' => e = .returned (.bool true) ∧ Below w.heap.size w w' := by
  obtain ⟨A, c, rfl⟩ : ∃ A c, v = .slice A l.length c := by
    obtain ⟨_, ⟨A, c, hv, _⟩, _⟩ := h1
    exact ⟨A, c, hv⟩
  have HW := Lib.hid hw
  have H1 := Lib.hid h1
  have HK := Lib.hid hk
  have HSZ := Lib.hid hsz
  have HNIL := Lib.hid hnil
  clear hw h1 hk hsz hnil
  have haw : ∀ u : World, Below w.heap.size w u → Calls Tryz.prog 8 #[] u fun e w' => e = .returned (.bool true) ∧ Below u.heap.size u w' := fun u hu =>
    awake18 B u (Laid.stable B w u none HW.out (grown_below hu none) (fun r e => by cases e)) (by have := hu.size; omega)
  have HAW := Lib.hid haw
  clear haw
  by_cases hout : 40 < l.length
  · have p1' : (40 : Int) < (l.length : Int) := by omega
    clear hout
    go_enter Tryz.func4, Tryz.ntmps4
    go_wp2_with fail
    refine (HAW.out w (Below.refl _ _)).mono ?_
    rintro e wy ⟨rfl, hBy⟩
    go_wp2_with fail
    go_ret
    exact ⟨rfl, hBy⟩
  · have p1' : ¬ (40 : Int) < (l.length : Int) := by omega
    have hl40 : l.length ≤ 40 := by omega
    clear hout
    have hca := check_any B _ l HK.out w H1.out.sr hB
    obtain ⟨r, hr⟩ : ∃ r, checkS l = r := ⟨_, rfl⟩
    have hbad := checkS_bad l
    have hfr := checkS_front l
    have hrt := checkS_right l (fun s hs a ha => ((HSZ.out s hs).2 a ha).1)
    have hren := checkS_ren l
    rw [hr] at hca hbad hfr hrt hren
    obtain ⟨rn, rp, re⟩ := r
    have HR := Lib.hid hr
    have HCA := Lib.hid hca
    clear hca hr
    go_enter Tryz.func4, Tryz.ntmps4
    go_wp2_with fail
    refine HCA.out.mono ?_
    rintro e w1 ⟨o1, rfl, ho1, hB1⟩
    obtain ⟨A1, c1, rfl⟩ := row_form ho1
    have hz1 := hB1.size
    have HB1 := Lib.hid hB1
    have HO1 := Lib.hid ho1
    clear HCA ho1 hB1
    by_cases he : re = 0
    · obtain ⟨f1, f2, f30, f4⟩ := hfr he
      obtain ⟨g1, g2, g3⟩ := hrt he
      have hren1 := hren he
      have F4 := Lib.hid f4
      have G1 := Lib.hid g1
      have G2 := Lib.hid g2
      have G3 := Lib.hid g3
      have HREN := Lib.hid hren1
      obtain rfl : rp = 0 := f2
      subst he
      have f3 : rn.length = l.length := f30
      clear hbad hfr hrt f4 g1 g2 g3 hren hren1
      have hro := right_any w1.heap.size (.slice A1 rn.length c1) rn G1.out (by omega) w1 (NRead.of_own HO1.out) (Nat.le_refl _)
      rw [G2.out] at hro
      have HRO := Lib.hid hro
      have e3 : ((rn.length : Int) != (l.length : Int)) = false := by rw [bne_eq_false_iff_eq]; omega
      have F3 := Lib.hid f3
      clear hro f3 f30
      go_wp2_with fail
      refine HRO.out.mono ?_
      rintro e w2 ⟨rfl, hB2⟩
      have hz2 := hB2.size
      have HB2 := Lib.hid hB2
      clear HRO hB2
      obtain ⟨kk, hkk⟩ : ∃ kk, 1 + at_ % l.length = kk := ⟨_, rfl⟩
      have hkk1 : 0 < kk ∧ kk ≤ l.length := by have := Nat.mod_lt at_ f1; omega
      have hkw : (1 : Int) + (at_ : Int) % (l.length : Int) = (kk : Int) := by rw [← hkk]; simp
      obtain ⟨v', hsl, hsr⟩ := sd_to (SArg.ext (SArg.ext H1.out HB1.out) HB2.out) kk hkk1.2
      have hck := check_any B v' (l.take kk) (fun s hs => HK.out s (List.mem_of_mem_take hs)) w2 hsr (by omega)
      have hfk := F4.out kk hkk1.1 hkk1.2
      rw [hfk] at hck
      have HCK := Lib.hid hck
      have hat0 : (0 : Int) ≤ (at_ : Int) := by omega
      have hl1 : (1 : Int) ≤ (l.length : Int) := by omega
      have hl0 : ((l.length : Int) == 0) = false := by rw [beq_eq_false_iff_ne]; omega
      clear hck hsr hkk hfk F4
      go_wp2_with fail
      refine HCK.out.mono ?_
      rintro e w3 ⟨o3, rfl, ho3, hB3⟩
      have hz3 := hB3.size
      obtain ⟨v3, hsl3, hr3⟩ := nd_to (((NArg.of_own HO1.out).ext HB2.out).ext hB3 |>.mono (show w1.heap.size ≤ w3.heap.size by omega)) kk (by have := F3.out; omega)
      have hsame := same18_eq w3.heap.size o3 v3 (rn.take kk) (by rw [List.length_take]; have := F3.out; omega) w3 (NRead.of_own ho3) hr3 (Nat.le_refl _)
      have HSM := Lib.hid hsame
      have HB3 := Lib.hid hB3
      clear hsame hr3 ho3 hB3 HCK hsl
      go_wp2_with fail
      refine HSM.out.mono ?_
      rintro e w4 ⟨rfl, hB4⟩
      have hz4 := hB4.size
      have hb4 : Below w.heap.size w w4 := HB1.out.trans ((HB2.out.mono hz1).trans ((HB3.out.mono (by omega)).trans (hB4.mono (by omega))))
      have hr4 : NArg w4 w4.heap.size (.slice A1 rn.length c1) rn := ((((NArg.of_own HO1.out).ext HB2.out).ext HB3.out).ext hB4).mono (by omega)
      have HB4 := Lib.hid hb4
      have HR4 := Lib.hid hr4
      clear hB4 hb4 hr4 HSM HB3 HB2 HO1 hsl3 HB1
      go_wp2_with fail
      go_loopw [90, 12] (fun i o wr => ∃ k : Nat, k ≤ l.length ∧ i = .int .i64 k ∧ SRow wr w4.heap.size o ((l.take k).map renS) ∧ Below w4.heap.size w4 wr) (fun i _ _ => l.length - (intOf i).toNat)
      case atStart => exact ⟨0, Nat.zero_le _, rfl, ⟨[], rfl, World.ownsRow_nil _ _ _ _, fun i h => by simp at h⟩, Below.refl _ _⟩
      case round =>
        obtain ⟨k, hk, rfl, hS, hBr⟩ := hrel
        have hzr := hBr.size
        by_cases hkl : k < l.length
        · obtain ⟨st, hst⟩ : ∃ st, st = l[k] := ⟨_, rfl⟩
          have g1 := SArg.ext (SArg.ext H1.out HB4.out) (hBr.mono (Nat.le_refl _))
          obtain ⟨hul, ⟨A', c', he, hcap, hnn, hx⟩, hargs⟩ := g1
          injection he with e1 _ e2
          subst e1 e2
          obtain ⟨g, off, rfl, hgB, hgz, hcell⟩ := hx (by intro e; subst e; simp at hkl)
          have hku : k < us.length := by omega
          obtain ⟨av, hav⟩ : ∃ av, av = us[k] := ⟨_, rfl⟩
          obtain ⟨har, hac⟩ := hargs k hku hkl
          rw [← hst, ← hav] at har
          rw [← hav] at hac
          have hcw : ∀ j u, (stCells st av)[j]? = some u → j < 4 → wr.cell? ⟨g, off + k * 4 + j, none⟩ = some u := fun j u hu hj => by
            have := hcell (k * 4 + j) u ((scells_get l us k j hku hkl hj hul).trans (by rw [← hst, ← hav]; exact hu))
            rwa [← Nat.add_assoc] at this
          have r0 : wr.cell? ⟨g, off + k * 4, none⟩ = some (.string st.name) := hcw 0 _ rfl (by omega)
          have r1 : wr.cell? ⟨g, off + k * 4 + 1, none⟩ = some (.int .i64 st.pos) := hcw 1 _ rfl (by omega)
          have r2 : wr.cell? ⟨g, off + k * 4 + 2, none⟩ = some (.int .u8 st.kind) := hcw 2 _ rfl (by omega)
          have r3 : wr.cell? ⟨g, off + k * 4 + 3, none⟩ = some av := hcw 3 _ rfl (by omega)
          have hsz : StSz st := HSZ.out st (by rw [hst]; exact List.getElem_mem hkl)
          have ha9 : st.args.length ≤ 9 := G3.out st (by rw [hst]; exact List.getElem_mem hkl)
          have hnl := HNIL.out k hku hkl
          rw [← hst, ← hav] at hnl
          obtain ⟨Aa, ca, hva, hcn⟩ := hnl
          subst hva
          have hac : st.args.length ≤ ca := hac
          have hn1 : st.name.size + 1 ≤ 9223372036854775807 := by have := hsz.1; unfold reachBytes at this; omega
          have hk0 : (0 : Int) ≤ (k : Int) := by omega
          have hkl' : (k : Int) < (l.length : Int) := by omega
          have HAR := Lib.hid har
          have HSA := Lib.hid hsz.2
          have HS := Lib.hid hS
          have HBR := Lib.hid hBr
          have HST := Lib.hid hst
          clear har hsz hS hBr hst hcw hcell hx hargs hav hnn
          obtain ⟨oo, hoo⟩ : ∃ oo, oo = u12 := ⟨_, rfl⟩
          subst hoo
          go_upto_region 17 with (fail)
          obtain ⟨nm, hnm⟩ : ∃ nm, nm = st.name ++ plusB := ⟨_, rfl⟩
          rw [show (st.name ++ { data := #[43] } : ByteArray) = nm from hnm.symm]
          have hb0 := heap_alloc_new wr (.cells #[.string nm, .int .i64 st.pos, .int .u8 st.kind, .slice Aa st.args.length ca] 38)
          have hB0 := (Below.refl wr.heap.size wr).alloc (Nat.le_refl _) (.cells #[.string nm, .int .i64 st.pos, .int .u8 st.kind, .slice Aa st.args.length ca] 38)
          obtain ⟨W0, hW0⟩ : ∃ W0, W0 = wr.alloc (.cells #[.string nm, .int .i64 st.pos, .int .u8 st.kind, .slice Aa st.args.length ca] 38) := ⟨_, rfl⟩
          have hz0 : W0.heap.size = wr.heap.size + 1 := by rw [hW0]; simp
          rw [← hW0] at hb0 hB0 ⊢
          obtain ⟨sb, hsb⟩ : ∃ sb, sb = wr.heap.size := ⟨_, rfl⟩
          rw [← hsb] at hb0 ⊢
          have hx0 := (Below.refl W0.heap.size W0).alloc (Nat.le_refl _) (.cells #[] 40)
          have hox := own_abs0 W0 W0.heap.size (Nat.le_refl _)
          have harx : ARead (W0.alloc (.cells #[] 40)) B (.slice Aa st.args.length ca) st.args := HAR.out.keep fun g _ hg => (hx0.block g (by omega)).trans (hB0.block g hg)
          have hbx : (W0.alloc (.cells #[] 40)).heap[sb]? = _ := (hx0.block sb (by omega)).trans hb0
          have s3 : (W0.alloc (.cells #[] 40)).cell? ⟨sb, 3, none⟩ = some (.slice Aa st.args.length ca) := (cell_of_row _ sb 3 _ _ _ hbx).trans rfl
          obtain ⟨v101, w5, hrun, ho5, hg5⟩ := aapp_run W0.heap.size _ 0 [] hox B _ st.args harx ⟨Aa, ca, rfl, hac, hcn⟩ (by omega) hx0.size
          rw [Nat.zero_add, List.nil_append] at ho5
          have hb5 : w5.heap[sb]? = _ := (hg5.block sb (by simp; omega) (fun e => by have := nodew.own_base hox e.symm; omega)).trans hbx
          have hB5 : Below wr.heap.size wr w5 := ((hB0.alloc hB0.size _).grown hg5 (by simp; omega) (fun r e => by have := nodew.own_base hox e; omega))
          obtain ⟨A5, c5, rfl⟩ := row_form ho5
          have c3 : w5.cell? ⟨sb, 3, none⟩ = some (.slice Aa st.args.length ca) := (cell_of_row _ sb 3 _ _ _ hb5).trans rfl
          have k3 : w5.frozen? ⟨sb, 3, none⟩ = false := frozen_of_row w5 sb 3 _ _ hb5
          have HB5 := Lib.hid hb5
          have HO5 := Lib.hid ho5
          have HBB := Lib.hid hB5
          have HNM := Lib.hid hnm
          have HSB := Lib.hid hsb
          have hsb0 : sb < W0.heap.size := by omega
          have hwb0 : w4.heap.size ≤ W0.heap.size := by omega
          clear hz0 hW0 hb0 hB0 hx0 hox harx hbx ho5 hg5 hb5 hB5 hnm hsb r0 r1 r2 r3 hn1 hcn
          go_upto_region 18 with (first | (refine wl_val rfl _ (exec_abs0 rfl _ _) ?_) | (refine wl_val rfl _ (hrun _ _ (.tmp 98) (.tmp 100) rfl rfl rfl) ?_))
          clear hrun s3 c3 k3
          have hb6 : (w5.setCell ⟨sb, 3, none⟩ (.slice A5 st.args.length c5)).heap[sb]? = some (.cells #[.string nm, .int .i64 st.pos, .int .u8 st.kind, .slice A5 st.args.length c5] 38 (0, 0)) := heap_set w5 sb 3 _ _ _ _ HB5.out
          have hB6 := HBB.out.setCell (p := ⟨sb, 3, none⟩) (show wr.heap.size ≤ sb by rw [← HSB.out]; exact Nat.le_refl _) (.slice A5 st.args.length c5)
          have ho6 := ownsRow_setCell_below HO5.out (a := ⟨sb, 3, none⟩) hsb0 (.slice A5 st.args.length c5)
          obtain ⟨w6, hw6⟩ : ∃ w6, w6 = w5.setCell ⟨sb, 3, none⟩ (.slice A5 st.args.length c5) := ⟨_, rfl⟩
          rw [← hw6] at hb6 hB6 ho6 ⊢
          have c3 : w6.cell? ⟨sb, 3, none⟩ = some (.slice A5 st.args.length c5) := (cell_of_row _ sb 3 _ _ _ hb6).trans rfl
          have HB6 := Lib.hid hb6
          have HBB6 := Lib.hid hB6
          have HO6 := Lib.hid ho6
          clear hw6 hb6 hB6 ho6 HB5 HBB HO5
          obtain ⟨wo, hwo⟩ : ∃ wo, wo = wr := ⟨_, rfl⟩
          subst hwo
          go_wp2_with fail
          clear c3
          go_loopw [106] (fun i wt => ∃ j : Nat, j ≤ st.args.length ∧ i = .int .i64 j ∧ wt.ownsRow W0.heap.size 40 3 (.slice A5 st.args.length c5) st.args.length (acells (renTo st.args j)) ∧ wt.heap[sb]? = some (.cells #[.string nm, .int .i64 st.pos, .int .u8 st.kind, .slice A5 st.args.length c5] 38 (0, 0)) ∧ Below wo.heap.size wo wt) (fun i _ => st.args.length - (intOf i).toNat)
          case atStart => exact ⟨0, Nat.zero_le _, rfl, HO6.out, HB6.out, HBB6.out⟩
          case round =>
            obtain ⟨j, hj, rfl, hoj, hbj, hBj⟩ := hrel
            have hzj := hBj.size
            by_cases hjl : j < st.args.length
            · obtain ⟨ag, hag⟩ : ∃ ag, st.args[j] = ag := ⟨_, rfl⟩
              obtain ⟨g5, rfl⟩ : ∃ g5, A5 = some (⟨g5, 0, none⟩ : Addr) := by
                obtain ⟨g5, cap5, he, _⟩ := World.ownsRow.form hoj (by omega)
                injection he with e1
                exact ⟨g5, e1⟩
              have hgl := hoj.lt g5 rfl
              have hat := (renTo_at st.args j hjl).trans ((List.getElem?_eq_getElem hjl).trans (congrArg some hag))
              have x2 : wr.cell? ⟨g5, j * 3 + 2, none⟩ = some (.string ag.name) := (hoj.cellAt (j * 3 + 2) (by omega)).trans ((acells_at _ j 2 ag hat (by omega)).trans rfl)
              have k2 := hoj.frozenAt (j * 3 + 2)
              have hst2 := hoj.stored (j * 3 + 2) (.string (ag.name ++ plusB))
              have hset : (acells (renTo st.args j)).set (j * 3 + 2) (.string (ag.name ++ plusB)) = acells (renTo st.args (j + 1)) := by
                rw [acells_set _ j ag hat, renTo_succ st.args j hjl, hag]
              rw [hset] at hst2
              have hbz := (hst2.2.block sb (Array.getElem?_eq_some_iff.1 hbj).1 (fun e => by have := Option.some.inj e; omega)).trans hbj
              have hBz := hBj.setCell (p := ⟨g5, j * 3 + 2, none⟩) (show wo.heap.size ≤ g5 by have := HSB.out; omega) (.string (ag.name ++ plusB))
              have hn2 : ag.name.size + 1 ≤ 9223372036854775807 := by
                have := (HSA.out ag (by rw [← hag]; exact List.getElem_mem hjl)).2
                unfold reachBytes at this; omega
              have hj0 : (0 : Int) ≤ (j : Int) := by omega
              have hjl' : (j : Int) < (st.args.length : Int) := by omega
              have y3 : wr.cell? ⟨sb, 3, none⟩ = some (.slice (some ⟨g5, 0, none⟩) st.args.length c5) := (cell_of_row _ sb 3 _ _ _ hbj).trans rfl
              have HST2 := Lib.hid hst2.1
              have HBZ := Lib.hid hbz
              have HBZ2 := Lib.hid hBz
              clear hst2 hbz hBz hoj hbj hBj hat hset hag hgl
              go_wp2_with fail
              go_roundw
              case rel => exact ⟨j + 1, by omega, by go_num, HST2.out, HBZ.out, HBZ2.out⟩
              case measure => simp [intOf]; omega
            · obtain rfl : j = st.args.length := by omega
              rw [renTo_all] at hoj
              have hSj := HS.out.grown (grown_below hBj none) (fun r e => by cases e)
              obtain ⟨vs, hvl, ho, hvs⟩ := hSj
              have y0 : wr.cell? ⟨sb, 0, none⟩ = some (.string nm) := (cell_of_row _ sb 0 _ _ _ hbj).trans rfl
              have y1 : wr.cell? ⟨sb, 1, none⟩ = some (.int .i64 st.pos) := (cell_of_row _ sb 1 _ _ _ hbj).trans rfl
              have y2 : wr.cell? ⟨sb, 2, none⟩ = some (.int .u8 st.kind) := (cell_of_row _ sb 2 _ _ _ hbj).trans rfl
              have y3 : wr.cell? ⟨sb, 3, none⟩ = some (.slice A5 st.args.length c5) := (cell_of_row _ sb 3 _ _ _ hbj).trans rfl
              have hlen : ((l.take k).map renS).length = k := by rw [List.length_map, List.length_take]; omega
              obtain ⟨out, hout⟩ : ∃ out, (l.take k).map renS = out := ⟨_, rfl⟩
              rw [hout] at hlen hvl ho hvs
              have hnew : (l.take (k + 1)).map renS = out ++ [renS st] := by rw [ren_take_succ l k hkl, hout, HST.out]
              have hva' : wr.ownsRow w4.heap.size 40 3 (.slice A5 st.args.length c5) (renS st).args.length (acells (renS st).args) := by
                rw [PStmt.ren_len]
                exact nodew.own_le hoj hwb0
              have HVS := Lib.hid hvs
              have HNEW := Lib.hid hnew
              have HVA := Lib.hid hva'
              have HBJ := Lib.hid hBj
              have HLEN := Lib.hid hlen
              clear hvs hnew hva' hBj hbj hoj hj hjl hlen hout HO6 HB6 HBB6 HS
              obtain ⟨i0, hi0, hiz0, hiz1, hiz2⟩ := info_parts stmtInfo
              have hk40 : k < 40 := by omega
              have hzx : w4.heap.size ≤ wr.heap.size := by omega
              obtain ⟨wx, hwx⟩ : ∃ wx, wx = wr := ⟨_, rfl⟩
              subst hwx
              go_upto_region 24 with (at_builtin; refine wpList_append_lies _ rfl (.tmp 119) (.tmp 121) 27 rfl w4.heap.size 38 i0 (.agg #[.string ⟨#[]⟩, .int .i64 0, .int .u8 0, .slice none 0 0]) 4 56 Tryz.underlying27 hi0 hiz0 hiz1 hiz2 rfl (by omega) oo out.length (scells out vs) rfl (ho.alloc _) ⟨wx.heap.size, 0, none⟩ 1 1 [.string nm, .int .i64 st.pos, .int .u8 st.kind, .slice A5 st.args.length c5] rfl rfl (World.news_of_block (heap_at wx (.cells #[.string nm, .int .i64 st.pos, .int .u8 st.kind, .slice A5 st.args.length c5] 38) _ rfl)) (by simp [Value.oneCell']) (by have := HLEN.out; omega) (by have := HLEN.out; unfold maxLen; omega) (by have := HLEN.out; omega) (by simp; omega) _ rfl ?_; intro gz capz wz hownz hgz hatz hltz)
              have hro : ∀ r, Value.ownBlock oo = some r → w4.heap.size ≤ r := fun r e => (ho.lt r e).1
              have gz' : wx.grownBy wz (Value.ownBlock oo) := grown_trans (World.grownBy_alloc wx _ _) hgz
              have hBz : Below w4.heap.size w4 wz := (HBR.out.trans (HBJ.out.mono hzr)).grown gz' (by omega) hro
              have hall : SRow wz w4.heap.size (.slice (some ⟨gz, 0, none⟩) (out.length + 1) capz) (out ++ [renS st]) := by
                refine ⟨vs ++ [.slice A5 st.args.length c5], by simp [hvl], ?_, fun i h1 h2 => ?_⟩
                · rw [scells_snoc _ _ _ _ hvl, List.length_append]
                  have e : stCells (renS st) (.slice A5 st.args.length c5) = [.string nm, .int .i64 st.pos, .int .u8 st.kind, .slice A5 st.args.length c5] := by rw [HNM.out]; rfl
                  rw [e]; exact hownz
                · by_cases hi : i < vs.length
                  · rw [List.getElem_append_left hi, List.getElem_append_left (by omega)]
                    exact ((HVS.out i hi (by omega)).alloc _).kept hgz (own_ne (HVS.out i hi (by omega)) ho (by decide))
                  · have hi' : i = out.length := by simp at h1; omega
                    subst hi'
                    have e1 : (vs ++ [Value.slice A5 st.args.length c5])[out.length]'h1 = .slice A5 st.args.length c5 := by simp [hvl]
                    have e2 : (out ++ [renS st])[out.length]'h2 = renS st := by simp
                    rw [e1, e2]
                    exact (HVA.out.alloc _).kept hgz (own_ne HVA.out ho (by decide))
              rw [← HNEW.out] at hall
              have HALL := Lib.hid hall
              have HBZ := Lib.hid hBz
              clear hall hBz gz' hownz hgz hatz hltz ho y0 y1 y2 y3 hro
              go_wp2_with fail
              go_roundw
              case rel => exact ⟨k + 1, by omega, by go_num, HALL.out, HBZ.out⟩
              case measure => simp [intOf]; omega
        · obtain rfl : k = l.length := by omega
          rw [List.take_length] at hS
          have hck := check_any wr.heap.size u12 (l.map renS) (fun s hs => by
            obtain ⟨t, ht, rfl⟩ := List.mem_map.1 hs
            exact HK.out t ht) wr (SR.of_row hS) (Nat.le_refl _)
          rw [HREN.out] at hck
          have HCK := Lib.hid hck
          have HBR := Lib.hid hBr
          clear hck hS hBr
          go_wp2_with fail
          refine HCK.out.mono ?_
          rintro e wx ⟨o16, rfl, ho16, hBx⟩
          have hzx := hBx.size
          have hb5 := HB4.out.trans ((HBR.out.mono (show w.heap.size ≤ w4.heap.size by omega)).trans (hBx.mono (by omega)))
          have hsame := same18_eq wx.heap.size o16 (.slice A1 rn.length c1) rn (by have := F3.out; omega) wx (NRead.of_own ho16) (((HR4.out.ext HBR.out).ext hBx).mono (by omega)).read (Nat.le_refl _)
          have HSM := Lib.hid hsame
          have HB5 := Lib.hid hb5
          clear hsame hb5 ho16 hBx HCK
          go_wp2_with fail
          refine HSM.out.mono ?_
          rintro e wy ⟨rfl, hBy⟩
          have hby := HB5.out.trans (hBy.mono HB5.out.size)
          have HBY := Lib.hid hby
          clear hby hBy HSM
          go_wp2_with fail
          refine (HAW.out wy HBY.out).mono ?_
          rintro e wz ⟨rfl, hBz⟩
          go_wp2_with fail
          go_ret
          exact ⟨rfl, HBY.out.trans (hBz.mono HBY.out.size)⟩
    · have hnz : rn = [] := hbad he
      subst hnz
      have he' : ((re : Int) != 0) = true := by rw [bne_iff_ne]; omega
      clear hbad hfr hrt hren
      by_cases h0 : l.length = 0
      · have hn := (checkS_nil l h0).symm.trans HR.out
        injection hn with _ hn
        injection hn with hn1 hn2
        subst hn1 hn2
        have e0 : decide (0 < l.length) = false := decide_eq_false (by omega)
        clear h0 HR
        go_wp2_with fail
        refine (HAW.out w1 HB1.out).mono ?_
        rintro e wy ⟨rfl, hBy⟩
        go_wp2_with fail
        go_ret
        exact ⟨rfl, HB1.out.trans (hBy.mono HB1.out.size)⟩
      · have e0 : decide (0 < l.length) = true := decide_eq_true (by omega)
        clear h0 HR
        go_wp2_with fail
        refine (HAW.out w1 HB1.out).mono ?_
        rintro e wy ⟨rfl, hBy⟩
        go_wp2_with fail
        go_ret
        exact ⟨rfl, HB1.out.trans (hBy.mono HB1.out.size)⟩

end Go.Proofs.YtgblgolkajdfbaaGreatDoor.chkw
