/- The walk of burnishlaw18.CheckFirst. Conditions: the statements lie in memory; three of strconv's variables hold what the program's text lays. -/
import Derived.Test.YtgblgolkajdfbaaGreatDoorFstA
namespace Go.Proofs.YtgblgolkajdfbaaGreatDoor.chkw
open Go.RowKit
open Go.Proofs.YtgblgolkajdfbaaGreatDoor.lexw
open Go.Proofs.YtgblgolkajdfbaaGreatDoor.parw
open Go.Proofs.YtgblgolkajdfbaaGreatDoor.flow
open Go.Proofs.YtgblgolkajdfbaaGreatDoor.nodew
open Go.Proofs.YtgblgolkajdfbaaGreatDoor.qt

set_option maxRecDepth 100000 in
set_option maxHeartbeats 4000000 in
theorem first_any (B : Nat) (v1 v2 : Value) (a b : List PStmt) (us vs : List Value) (hka : ∀ s ∈ a, s.kind < 256) (hkb : ∀ s ∈ b, s.kind < 256) (w : World) (hw : Laid B w) (h1 : SArg w B v1 a us) (h2 : SArg w B v2 b vs) (hB : B ≤ w.heap.size) :
    Calls Tryz.prog 5 #[v1, v2] w fun e w' => e = .returned (.bool true) ∧ Below w.heap.size w w' := by
  obtain ⟨A1, c1, rfl⟩ : ∃ A c, v1 = .slice A a.length c := by
    obtain ⟨_, ⟨A, c, hv, _⟩, _⟩ := h1
    exact ⟨A, c, hv⟩
  obtain ⟨A2, c2, rfl⟩ : ∃ A c, v2 = .slice A b.length c := by
    obtain ⟨_, ⟨A, c, hv, _⟩, _⟩ := h2
    exact ⟨A, c, hv⟩
  have HW := Lib.hid hw
  have H1 := Lib.hid h1
  have H2 := Lib.hid h2
  have HKA := Lib.hid hka
  have HKB := Lib.hid hkb
  clear hw h1 h2 hka hkb
  have haw : ∀ u : World, Below w.heap.size w u → Calls Tryz.prog 8 #[] u fun e w' => e = .returned (.bool true) ∧ Below u.heap.size u w' := fun u hu =>
    awake18 B u (Laid.stable B w u none HW.out (grown_below hu none) (fun r e => by cases e)) (by have := hu.size; omega)
  have HAW := Lib.hid haw
  clear haw
  by_cases hout : 30 < a.length ∨ 30 < b.length ∨ a.length = 0
  · have key : ∀ (s1 s2 s3 : Bool), decide (30 < a.length) = s1 → decide (30 < b.length) = s2 → decide (a.length = 0) = s3 → (s1 || s2 || s3) = true := by
      rintro s1 s2 s3 rfl rfl rfl
      simpa [or_assoc] using hout
    go_enter Tryz.func5, Tryz.ntmps5
    by_cases p1 : 30 < a.length
    case' pos =>
      have p1' : (30 : Int) < (a.length : Int) := by omega
      clear key hout p1
      go_wp2_with fail
    case' neg =>
      have p1' : ¬ (30 : Int) < (a.length : Int) := by omega
      by_cases p2 : 30 < b.length
      case' pos =>
        have p2' : (30 : Int) < (b.length : Int) := by omega
        clear key hout p1 p2
        go_wp2_with fail
      case' neg =>
        have p2' : ¬ (30 : Int) < (b.length : Int) := by omega
        have p3' : ((a.length : Int) == 0) = true := by rw [beq_iff_eq]; omega
        clear key hout p1 p2
        go_wp2_with fail
    all_goals
      refine (HAW.out w (Below.refl _ _)).mono ?_
      rintro e wy ⟨rfl, hBy⟩
      go_wp2_with fail
      go_ret
      exact ⟨rfl, hBy⟩
  · have ha30 : a.length ≤ 30 := by omega
    have hb30 : b.length ≤ 30 := by omega
    have ha0 : 0 < a.length := by omega
    have p1' : ¬ (30 : Int) < (a.length : Int) := by omega
    have p2' : ¬ (30 : Int) < (b.length : Int) := by omega
    have p3' : ((a.length : Int) == 0) = false := by rw [beq_eq_false_iff_ne]; omega
    have hca := check_any B _ a HKA.out w H1.out.sr hB
    have happ := checkS_app a b ha0
    have htk := checkS_take a
    obtain ⟨ra, hra⟩ : ∃ r, checkS a = r := ⟨_, rfl⟩
    rw [hra] at hca happ
    obtain ⟨rn, rp, re⟩ := ra
    obtain ⟨rb, hrb⟩ : ∃ r, checkS (a ++ b) = r := ⟨_, rfl⟩
    rw [hrb] at happ
    obtain ⟨bn, bp, be⟩ := rb
    have HCA := Lib.hid hca
    have HRA := Lib.hid hra
    have HRB := Lib.hid hrb
    have HAPP := Lib.hid happ
    have HTK := Lib.hid htk
    clear hca hra hrb happ htk hout
    go_enter Tryz.func5, Tryz.ntmps5
    go_wp2_with fail
    refine HCA.out.mono ?_
    rintro e w1 ⟨o1, rfl, -, hB1⟩
    go_upto_region 4 with (fail)
    have HB1 := Lib.hid hB1
    have hs1 := hB1.size
    have g1 := SArg.ext H1.out hB1
    have g2 := SArg.ext H2.out hB1
    have x0 := (Below.refl w1.heap.size w1).alloc (Nat.le_refl _) (.cells #[] 38)
    have o0 := own_sbs0 w1 w1.heap.size (Nat.le_refl _)
    obtain ⟨v38, w2, hrun2, o2, gr2⟩ := sapp_run w1.heap.size _ 0 [] o0 B _ a us (SArg.ext g1 x0) (by omega) x0.size
    have x2 := x0.grown gr2 x0.size (fun r e => nodew.own_base o0 e)
    obtain ⟨v40, w3, hrun3, o3, gr3⟩ := sapp_run w1.heap.size v38 (0 + a.length) ([] ++ scells a us) o2 B _ b vs (SArg.ext g2 x2) (by omega) x2.size
    have x3 := x2.grown gr3 x2.size (fun r e => nodew.own_base o2 e)
    have y1 := SArg.ext g1 x3
    have y2 := SArg.ext g2 x3
    have hz3 := x3.size
    have hsr : SR w3 w3.heap.size v40 (a ++ b) := by
      refine SR.of_own (base := w1.heap.size) (B := B) (vs := us ++ vs) (by rw [List.length_append, List.length_append, y1.1, y2.1]) ?_ (by omega) ?_
      · rw [List.length_append, scells_app _ _ _ _ y1.1]; simpa using o3
      · intro i h1 h2
        by_cases hi : i < us.length
        · have hi' : i < a.length := by rw [← y1.1]; exact hi
          rw [List.getElem_append_left hi, List.getElem_append_left hi']
          exact y1.2.2 i hi hi'
        · have hi' : ¬ i < a.length := by rw [← y1.1]; exact hi
          rw [List.getElem_append_right (by omega), List.getElem_append_right (by omega)]
          have e : i - us.length = i - a.length := by rw [y1.1]
          have hb' : i - a.length < b.length := by rw [List.length_append] at h2; omega
          have := y2.2.2 (i - a.length) (by rw [y2.1]; exact hb') hb'
          simpa [e] using this
    have hcb := check_any w3.heap.size v40 (a ++ b) (fun s hs => by
      rcases List.mem_append.1 hs with hs | hs
      · exact HKA.out s hs
      · exact HKB.out s hs) w3 hsr (Nat.le_refl _)
    rw [HRB.out] at hcb
    have HCB := Lib.hid hcb
    have X3 := Lib.hid x3
    clear hcb x3 x2 x0 o0 o2 o3 gr2 gr3 y1 y2 hsr g1 g2 hB1
    refine wp_region_lit ?_
    refine wl_val rfl _ (exec_sbs0 rfl _ _) ?_
    refine wl_val rfl (.slice A1 a.length c1) rfl ?_
    refine wl_val rfl v38 (hrun2 _ _ (.tmp 36) (.tmp 37) rfl rfl rfl) ?_
    refine wl_val rfl (.slice A2 b.length c2) rfl ?_
    refine wl_val rfl v40 (hrun3 _ _ (.tmp 38) (.tmp 39) rfl rfl rfl) ?_
    simp only [Act.put, List.setIfInBounds_toArray, List.set_cons_succ, List.set_cons_zero]
    clear hrun2 hrun3
    go_wp2_with fail
    refine HCB.out.mono ?_
    rintro e w4 ⟨o4, rfl, -, hB4⟩
    have hz4 := hB4.size
    have hb4 : Below w.heap.size w w4 := HB1.out.trans ((X3.out.mono hs1).trans (hB4.mono (by omega)))
    have HB4 := Lib.hid hb4
    clear hB4 hb4 HCB X3
    by_cases he : re = 0
    · have he' : ((re : Int) != 0) = false := by rw [bne_eq_false_iff_eq]; omega
      clear he
      go_wp2_with fail
      refine (HAW.out w4 HB4.out).mono ?_
      rintro e w5 ⟨rfl, hB5⟩
      go_wp2_with fail
      go_ret
      exact ⟨rfl, HB4.out.trans (hB5.mono HB4.out.size)⟩
    · have he' : ((re : Int) != 0) = true := by rw [bne_iff_ne]; omega
      have hap := HAPP.out he
      injection hap with e1 e2
      injection e2 with e2 e3
      subst e1 e2 e3
      have HE := Lib.hid he
      clear he
      go_wp2_with fail
      go_loopw [11] (fun i wr => ∃ k : Nat, 1 ≤ k ∧ k ≤ a.length + 1 ∧ i = .int .i64 k ∧ Below w.heap.size w wr ∧ ∀ j, 1 ≤ j → j < k → (checkS (a.take j)).2.2 = 0) (fun i _ => a.length + 1 - (intOf i).toNat)
      case atStart => exact ⟨1, Nat.le_refl _, by omega, rfl, HB4.out, fun j h1 h2 => by omega⟩
      case round =>
        obtain ⟨k, hk1, hk2, rfl, hBr, hno⟩ := hrel
        have HNO := Lib.hid hno
        have hzr := hBr.size
        clear hno
        by_cases hkl : k ≤ a.length
        · as_aux_lemma =>
          have gr := SArg.ext H1.out hBr
          obtain ⟨v', hsl, hsr⟩ := sd_to gr k hkl
          have hck := check_any B v' (a.take k) (fun s hs => HKA.out s (List.mem_of_mem_take hs)) wr hsr (by omega)
          have htk := HTK.out k (by omega) hkl
          obtain ⟨r, hr⟩ : ∃ r, checkS (a.take k) = r := ⟨_, rfl⟩
          rw [hr] at hck htk
          obtain ⟨xn, xp, xe⟩ := r
          rw [HRA.out] at htk
          have HCK := Lib.hid hck
          have HTT := Lib.hid htk
          have HRK := Lib.hid hr
          have HBR := Lib.hid hBr
          have hki : (k : Int) ≤ (a.length : Int) := by omega
          clear hck htk hr hBr gr hsr
          go_wp2_with fail
          (with_reducible refine HCK.out.mono ?_)
          rintro e w5 ⟨o5, rfl, -, hB5⟩
          have hb5 := HBR.out.trans (hB5.mono hzr)
          have HB5 := Lib.hid hb5
          clear hB5 hb5
          by_cases hx : xe = 0
          · have hx' : ((xe : Int) != 0) = false := by rw [bne_eq_false_iff_eq]; omega
            have HX := Lib.hid hx
            clear hx
            go_wp2_with fail
            go_roundw
            case rel => exact ⟨k + 1, by omega, by omega, by go_num, HB5.out, fun j h1 h2 => by
              by_cases hj : j < k
              · exact HNO.out j h1 hj
              · obtain rfl : j = k := by omega
                rw [HRK.out]; exact HX.out⟩
            case measure => simp [intOf]; omega
          · have hx' : ((xe : Int) != 0) = true := by rw [bne_iff_ne]; omega
            have ht := HTT.out hx
            injection ht with t1 t2
            injection t2 with t2 t3
            subst t1 t2 t3
            clear hx
            go_wp2_with fail
            refine (HAW.out w5 HB5.out).mono ?_
            rintro e w6 ⟨rfl, hB6⟩
            go_wp2_with fail
            go_ret
            exact ⟨rfl, HB5.out.trans (hB6.mono HB5.out.size)⟩
        · exfalso
          have := HNO.out a.length (by omega) (by omega)
          rw [List.take_length, HRA.out] at this
          exact HE.out this

end Go.Proofs.YtgblgolkajdfbaaGreatDoor.chkw
