/- The walk of decimal.right. Conditions: as each theorem states. -/
import Derived.Test.YtcbgkbidgpemfaaGreatDoorMp18
namespace Go.Proofs.YtcbgkbidgpemfaaGreatDoor.rdf
open Go.RowKit
open Go.Proofs.YtcbgkbidgpemfaaGreatDoor.bsw
open Go.Proofs.YtcbgkbidgpemfaaGreatDoor.prnw

theorem ext_list (t : ByteArray) (k : Nat) : (t.extract k t.size).data.toList = t.data.toList.drop k := by
  rw [ByteArray.data_extract, Array.toList_extract]
  rw [List.extract_eq_take_drop, List.take_of_length_le]
  simp
theorem list_len (t : ByteArray) : t.data.toList.length = t.size := by simp
theorem dgs_at : ∀ (l : List UInt8) (n : Nat) (_h : n < dgs l), ∃ h2 : n < l.length, isD l[n] = true
  | [], n, h => absurd h (Nat.not_lt_zero _)
  | c :: l, n, h => by
    unfold dgs at h
    by_cases hc : isD c = true
    · rw [if_pos hc] at h
      cases n with
      | zero => exact ⟨Nat.zero_lt_succ _, hc⟩
      | succ n =>
        obtain ⟨h2, h3⟩ := dgs_at l n (by omega)
        exact ⟨Nat.succ_lt_succ h2, h3⟩
    · rw [if_neg hc] at h
      exact absurd h (Nat.not_lt_zero _)
theorem dgs_end : ∀ (l : List UInt8) (h : dgs l < l.length), isD l[dgs l] = false
  | [], h => absurd h (Nat.lt_irrefl _)
  | c :: l, h => by
    by_cases hc : isD c = true
    · have e : dgs (c :: l) = dgs l + 1 := by
        conv => lhs; unfold dgs
        rw [if_pos hc]
      have h2 : dgs l < l.length := by
        rw [e] at h
        exact Nat.lt_of_succ_lt_succ h
      have := dgs_end l h2
      simp only [e, List.getElem_cons_succ]
      exact this
    · have e : dgs (c :: l) = 0 := by
        conv => lhs; unfold dgs
        rw [if_neg hc]
      simp only [e, List.getElem_cons_zero]
      exact Bool.eq_false_iff.2 hc
/-- a text lies in a cell of its own -/
def RB (w : World) (b : Nat) (t : ByteArray) (W : World) : Prop := W.heap[b]? = some (.cells #[.string t] 9 (0, 0)) ∧ Below w.heap.size w W ∧ w.heap.size ≤ b
theorem RB.at {w W : World} {b : Nat} {t : ByteArray} (h : RB w b t W) : W.cell? ⟨b, 0, none⟩ = some (.string t) ∧ W.frozen? ⟨b, 0, none⟩ = false := ⟨(cell_of_row W b 0 _ _ _ h.1).trans rfl, not_frozen h.1 0⟩
theorem RB.set {w W : World} {b : Nat} {t : ByteArray} (h : RB w b t W) (u : ByteArray) : RB w b u (W.setCell ⟨b, 0, none⟩ (.string u)) :=
  ⟨heap_set W b 0 _ _ _ _ h.1, h.2.1.grown (set_grown W b 0 _) h.2.1.size (fun k e => by obtain rfl := Option.some.inj e; exact h.2.2), h.2.2⟩
set_option maxRecDepth 100000 in
set_option maxHeartbeats 1000000 in
theorem digits_any (w : World) (b : Nat) (t : ByteArray) (hs : t.size ≤ 60) (W : World) (h : RB w b t W) :
    Calls Tryz.prog 161 #[.pointer (some ⟨b, 0, none⟩)] W fun e W' => e = .returned (.int .i64 ((dgs t.data.toList : Nat) : Int)) ∧ RB w b (t.extract (dgs t.data.toList) t.size) W' := by
  obtain ⟨c0, f0⟩ := h.at
  have hd := dgs_le t.data.toList
  rw [list_len] at hd
  have ha := dgs_at t.data.toList
  have he := dgs_end t.data.toList
  obtain ⟨d, hdd⟩ : ∃ d, dgs t.data.toList = d := ⟨_, rfl⟩
  rw [hdd] at hd ⊢
  have H := Lib.hid (And.intro h (And.intro ha he))
  clear h ha he
  have d60 : (d : Int) ≤ 60 := by omega
  go_enter Tryz.func161, Tryz.ntmps161
  go_wp2_with fail
  go_loopw [2] (fun s2 wr => ∃ n : Nat, n ≤ d ∧ s2 = .int .i64 ((n : Nat) : Int) ∧ wr = W) (fun s2 _ => d - (intOf s2).toNat)
  case atStart => exact ⟨0, Nat.zero_le _, rfl, rfl⟩
  case round =>
    obtain ⟨n, hn, rfl, hwr⟩ := hrel
    obtain rfl := hwr.symm
    have n0 : (0 : Int) ≤ (n : Int) := by omega
    have n60 : (n : Int) ≤ 60 := by omega
    by_cases hlt : n < d
    · obtain ⟨h2, h3⟩ := H.out.2.1 n (by rw [hdd]; exact hlt)
      rw [list_len] at h2
      have h4 : isD t[n] = true := h3
      have h5 := (isD_iff _).1 h4
      have y1 : decide (n < t.size) = true := decide_eq_true h2
      have y2 : decide (48 ≤ t[n].toNat) = true := decide_eq_true h5.1
      have y3 : decide (t[n].toNat ≤ 57) = true := decide_eq_true h5.2
      have y5 : (48 : Int) ≤ (t[n].toNat : Int) := by omega
      have y6 : (t[n].toNat : Int) ≤ 57 := by omega
      have HL := Lib.hid hlt
      clear h3 h4 h5 hlt
      go_wp2_with fail
      exact ⟨⟨n + 1, HL.out, by go_num, by first | trivial | rfl⟩, by have := HL.out; simp only [intOf]; omega⟩
    · have hnd : n = d := by omega
      subst hnd
      have HS := Lib.hid (H.out.1.set (t.extract n t.size))
      have n1 : (n : Int) ≤ (t.size : Int) := by omega
      by_cases hsz : n < t.size
      · have h6 := H.out.2.2 (by rw [hdd, list_len]; exact hsz)
        simp only [hdd] at h6
        have h7 : isD t[n] = false := h6
        have h8 : ¬ (48 ≤ t[n].toNat ∧ t[n].toNat ≤ 57) := fun h => by
          rw [(isD_iff _).2 h] at h7
          cases h7
        have y1 : decide (n < t.size) = true := decide_eq_true hsz
        have v12 : (decide (48 ≤ t[n].toNat) = false ∧ ¬ (48 : Int) ≤ (t[n].toNat : Int)) ∨ (decide (48 ≤ t[n].toNat) = true ∧ (48 : Int) ≤ (t[n].toNat : Int)) ∧ decide (t[n].toNat ≤ 57) = false ∧ ¬ (t[n].toNat : Int) ≤ 57 := by
          by_cases hx : 48 ≤ t[n].toNat
          · exact .inr ⟨⟨decide_eq_true hx, by omega⟩, decide_eq_false (fun h => h8 ⟨hx, h⟩), by omega⟩
          · exact .inl ⟨decide_eq_false hx, by omega⟩
        clear h6 h7 h8
        rcases v12 with ⟨v1, v2⟩ | ⟨⟨v1, v2⟩, v3, v4⟩
        all_goals
          go_wp2_with fail
          go_ret
          exact ⟨rfl, HS.out⟩
      · have y1 : decide (n < t.size) = false := decide_eq_false hsz
        go_wp2_with fail
        go_ret
        exact ⟨rfl, HS.out⟩
theorem trim_45 (l : List UInt8) : Lib.trimPrefix l [45] = unsg l := by
  unfold unsg
  cases l with
  | nil => rfl
  | cons c l =>
    by_cases h : c = 45
    · subst h
      rfl
    · rw [if_neg (by simp [h])]
      have h2 : ¬ 45 = c := fun e => h e.symm
      simp [Lib.trimPrefix, Lib.hasPrefix, List.isPrefixOf, h2]
theorem has_46 (l : List UInt8) : Lib.hasPrefix l [46] = decide (l.head? = some 46) := by
  cases l with
  | nil => rfl
  | cons c l =>
    by_cases h : c = 46
    · subst h
      rfl
    · have h2 : ¬ 46 = c := fun e => h e.symm
      simp [Lib.hasPrefix, List.isPrefixOf, h, h2]
theorem trim_46 (l : List UInt8) (h : l.head? = some 46) : Lib.trimPrefix l [46] = l.drop 1 := by
  cases l with
  | nil => cases h
  | cons c l =>
    obtain rfl : c = 46 := by simpa using h
    rfl
/-- an exponent without its sign -/
def exR (l : List UInt8) : List UInt8 := if l.head? = some 43 ∨ l.head? = some 45 then l.drop 1 else l
theorem exp_cons (c : UInt8) (l : List UInt8) : expB (c :: l) = ((c == 101 || c == 69) && (decide (1 ≤ dgs (exR l)) && decide (dgs (exR l) ≤ 3) && decide (dgs (exR l) = (exR l).length))) := rfl
def RtPost (w : World) (b : Bool) (e : Ending) (w' : World) : Prop := e = .returned (.bool b) ∧ Below w.heap.size w w'
set_option maxRecDepth 100000 in
set_option maxHeartbeats 2000000 in
theorem right_any (s : ByteArray) (w : World) : Calls Tryz.prog 127 #[.string s] w (RtPost w (rightL s.data.toList)) := by
  have hlen := list_len s
  by_cases h40 : 40 < s.size
  · have hr : rightL s.data.toList = false := by
      unfold rightL
      rw [if_pos (by rw [hlen]; exact h40)]
    rw [hr]
    have d1 : decide ((40 : Int) < (s.size : Int)) = true := decide_eq_true (by omega)
    have d2 : decide (40 < s.size) = true := decide_eq_true h40
    have d3 : (40 : Int) < (s.size : Int) := by omega
    clear hr hlen h40
    go_enter Tryz.func127, Tryz.ntmps127
    go_wp2_with fail
    go_ret
    exact ⟨rfl, (Below.refl _ w).alloc (Nat.le_refl _) _⟩
  have d2 : decide (40 < s.size) = false := decide_eq_false h40
  have d3 : ¬ (40 : Int) < (s.size : Int) := by omega
  obtain ⟨q, hq⟩ : ∃ q, cutN (unsg s.data.toList) = q := ⟨_, rfl⟩
  have hr : rightL s.data.toList = if q.1 < 1 ∨ 30 < q.1 ∨ q.2 = [] then decide (1 ≤ q.1) && decide (q.1 ≤ 30) else expB q.2 := by
    unfold rightL
    rw [if_neg (by rw [hlen]; exact h40)]
    simp only [hq]
  obtain ⟨b, hb⟩ : ∃ b, rightL s.data.toList = b := ⟨_, rfl⟩
  rw [hb] at hr ⊢
  have HR := Lib.hid hr
  clear hb hr
  -- the text without its sign
  have CT := fun W => Tryz.strings_TrimPrefix s ⟨#[45]⟩ W
  rw [show Lib.trimPrefix s.data.toList (⟨#[45]⟩ : ByteArray).data.toList = unsg s.data.toList from trim_45 _] at CT
  obtain ⟨U, hU⟩ : ∃ U : ByteArray, U = ⟨(unsg s.data.toList).toArray⟩ := ⟨_, rfl⟩
  have hUl : U.data.toList = unsg s.data.toList := by rw [hU]
  have hUs : U.size ≤ 40 := by
    rw [← list_len U, hUl]
    unfold unsg
    split
    · rw [List.length_drop, hlen]; omega
    · rw [hlen]; omega
  rw [← hU] at CT
  rw [← hUl] at hq
  have HC := Lib.hid CT
  have HQ := Lib.hid hq
  clear CT hU hUl hq hlen
  obtain ⟨W0, hW0⟩ : ∃ W0, W0 = w.alloc (.cells #[.string s] 9) := ⟨_, rfl⟩
  have hRB : RB w w.heap.size s W0 := by
    rw [hW0]
    exact ⟨heap_at w _ _ rfl, (Below.refl _ w).alloc (Nat.le_refl _) _, Nat.le_refl _⟩
  obtain ⟨f0, f1⟩ := hRB.at
  go_enter Tryz.func127, Tryz.ntmps127
  go_upto_region 1 with (fail)
  rw [← hW0]
  obtain ⟨B, hB⟩ : ∃ B, w.heap.size = B := ⟨_, rfl⟩
  rw [hB] at hRB f0 f1 ⊢
  have HRB := Lib.hid hRB
  clear hW0 hRB
  go_upto_region 4 with (fail)
  have HS1 := Lib.hid (HRB.out.set U)
  have CD := fun W h => digits_any w B U (by omega) W h
  obtain ⟨n1, hn1⟩ : ∃ n1, dgs U.data.toList = n1 := ⟨_, rfl⟩
  rw [hn1] at CD
  have hn1s : n1 ≤ 40 := by
    have := dgs_le U.data.toList
    rw [list_len] at this
    omega
  have HD := Lib.hid CD
  clear CD
  obtain ⟨U1, hU1⟩ : ∃ U1, U.extract n1 U.size = U1 := ⟨_, rfl⟩
  have hU1l : U1.data.toList = U.data.toList.drop n1 := by rw [← hU1, ext_list]
  have hU1s : U1.size ≤ 40 := by
    rw [← list_len U1, hU1l, List.length_drop, list_len]
    omega
  have hsz : n1 + U1.size ≤ 40 := by
    rw [← list_len U1, hU1l, List.length_drop, list_len]
    have := dgs_le U.data.toList
    rw [hn1, list_len] at this
    omega
  rw [hU1] at HD
  -- the point
  have CP := fun W => Tryz.strings_CutPrefix U1 ⟨#[46]⟩ W
  rw [show (⟨#[46]⟩ : ByteArray).data.toList = [46] from rfl, has_46] at CP
  obtain ⟨T2, hT2⟩ : ∃ T2 : ByteArray, T2 = ⟨(Lib.trimPrefix U1.data.toList [46]).toArray⟩ := ⟨_, rfl⟩
  rw [← hT2] at CP
  obtain ⟨pd, hpd⟩ : ∃ pd, decide (U1.data.toList.head? = some 46) = pd := ⟨_, rfl⟩
  rw [hpd] at CP
  have hT2l : pd = true → T2.data.toList = U1.data.toList.drop 1 := fun h => by
    rw [hT2]
    exact trim_46 _ (of_decide_eq_true (hpd.trans h))
  have HP := Lib.hid CP
  have HT := Lib.hid (And.intro hpd (And.intro hU1l (And.intro hT2l hn1)))
  clear CP hT2 hpd hT2l hU1 hU1l hn1
  go_upto_region 5 with (go_at_call 162; (with_reducible refine (HC.out _).mono ?_); rintro e w' ⟨rfl, hw'⟩; obtain rfl := hw'.symm)
  go_upto_region 6 with (go_at_call 161; (with_reducible refine (HD.out _ HS1.out).mono ?_); rintro e w1 ⟨rfl, hw1⟩; have HS2 := Lib.hid hw1; clear hw1)
  obtain ⟨g0, g1⟩ := HS2.out.at
  go_upto_region 7 with (go_at_call 163; (with_reducible refine (HP.out _).mono ?_); rintro e w' ⟨rfl, hw'⟩; obtain rfl := hw'.symm)
  go_upto_if 21 with (fail)
  go_cut [4, 6, 16, 18, 20, 21] from 22 to 26 (fun s4 s6 s16 s18 s20 s21 wx => s4 = .int .i64 ((q.1 : Nat) : Int) ∧ q.1 ≤ 40 ∧ ∃ T : ByteArray, T.data.toList = q.2 ∧ T.size ≤ 40 ∧ RB w B T wx)
  case first =>
    have hq := HQ.out
    obtain ⟨t1, t2, t3, t4⟩ := HT.out
    unfold cutN at hq
    simp only [t4] at hq
    rw [← t2] at hq
    cases pd with
    | false =>
      rw [if_neg (of_decide_eq_false t1)] at hq
      have hq1 : q.1 = n1 := by rw [← hq]
      have hq2 : q.2 = U1.data.toList := by rw [← hq]
      have HQ2 := Lib.hid (And.intro hq1 hq2)
      clear hq hq1 hq2 t1 t2 t3 t4 HQ HT
      go_wp2_with fail
      go_meet
      exact ⟨by rw [HQ2.out.1], by rw [HQ2.out.1]; exact hn1s, U1, HQ2.out.2.symm, hU1s, HS2.out⟩
    | true =>
      rw [if_pos (of_decide_eq_true t1), ← t3 rfl] at hq
      have hT2s : T2.size ≤ 40 := by
        rw [← list_len T2, t3 rfl, List.length_drop, list_len]
        omega
      have hn2 := dgs_le T2.data.toList
      rw [list_len] at hn2
      have CD2 := fun W h => digits_any w B T2 (by omega) W h
      obtain ⟨n2, hn2d⟩ : ∃ n2, dgs T2.data.toList = n2 := ⟨_, rfl⟩
      rw [hn2d] at CD2 hq hn2
      have hq1 : q.1 = n1 + n2 := by rw [← hq]
      have hq2 : q.2 = (T2.extract n2 T2.size).data.toList := by rw [← hq, ext_list]
      have hsum : n1 + n2 ≤ 40 := by
        have e2 : T2.size = U1.size - 1 := by rw [← list_len T2, t3 rfl, List.length_drop, list_len]
        omega
      have n10 : (0 : Int) ≤ (n1 : Int) := by omega
      have n20 : (0 : Int) ≤ (n2 : Int) := by omega
      have n1b : (n1 : Int) ≤ 40 := by omega
      have n2b : (n2 : Int) ≤ 40 := by omega
      have HQ2 := Lib.hid (And.intro hq1 (And.intro hq2 (And.intro hsum hT2s)))
      have HS3 := Lib.hid (HS2.out.set T2)
      have HD2 := Lib.hid CD2
      clear hq hq1 hq2 t1 t2 t3 t4 HQ HT hsum hT2s hn2 hn2d CD2
      go_upto_region 9 with (fail)
      go_wp2_with (go_at_call 161; (with_reducible refine (HD2.out _ HS3.out).mono ?_); rintro e w3 ⟨rfl, hw3⟩; have HS4 := Lib.hid hw3; clear hw3)
      go_meet
      refine ⟨?_, by rw [HQ2.out.1]; exact HQ2.out.2.2.1, _, HQ2.out.2.1.symm, ?_, HS4.out⟩
      · rw [HQ2.out.1]
        exact congrArg (Value.int IntKind.i64) (by omega)
      · rw [ByteArray.size_extract]
        have := HQ2.out.2.2.2
        omega
  case rest =>
    obtain ⟨rfl, hq40, T, hTl, hTs, hRT⟩ := hcut
    clear HQ HT HP HD HS1 HS2 g0 g1 f0 f1 HC HRB hU1s hn1s
    obtain ⟨c0, c1⟩ := hRT.at
    obtain ⟨N, hN⟩ : ∃ N, q.1 = N := ⟨_, rfl⟩
    obtain ⟨R, hR⟩ : ∃ R, q.2 = R := ⟨_, rfl⟩
    have hbv := HR.out
    rw [hN, hR] at hbv
    rw [hR] at hTl
    rw [hN] at hq40 ⊢
    clear HR hN hR
    have n0 : (0 : Int) ≤ (N : Int) := by omega
    have n40 : (N : Int) ≤ 40 := by omega
    have HRT := Lib.hid hRT
    by_cases hA : 1 ≤ N
    · have a1 : decide (N < 1) = false := decide_eq_false (by omega)
      have a2 : decide (1 ≤ N) = true := decide_eq_true hA
      have a3 : ¬ (N : Int) < 1 := by omega
      have a4 : (1 : Int) ≤ (N : Int) := by omega
      by_cases hB30 : 30 < N
      · have b1 : decide (30 < N) = true := decide_eq_true hB30
        have b2 : (30 : Int) < (N : Int) := by omega
        have b3 : decide (N ≤ 30) = false := decide_eq_false (by omega)
        have b4 : ¬ (N : Int) ≤ 30 := by omega
        rw [if_pos (.inr (.inl hB30)), a2, b3] at hbv
        subst hbv
        clear hA hB30 hRT
        go_wp2_with fail
        go_ret
        exact ⟨rfl, HRT.out.2.1⟩
      · have b1 : decide (30 < N) = false := decide_eq_false hB30
        have b2 : ¬ (30 : Int) < (N : Int) := by omega
        have b3 : decide (N ≤ 30) = true := decide_eq_true (by omega)
        have b4 : (N : Int) ≤ 30 := by omega
        by_cases hE : R = []
        · rw [if_pos (.inr (.inr hE)), a2, b3] at hbv
          have hT0 : T = ByteArray.empty := by
            apply ByteArray.ext
            apply Array.ext'
            rw [hTl, hE]
            rfl
          subst hbv
          subst hT0
          clear hA hB30 hRT
          go_wp2_with fail
          go_ret
          exact ⟨rfl, HRT.out.2.1⟩
        · rw [if_neg (fun h => h.elim (fun h => absurd h (by omega)) (fun h => h.elim (fun h => absurd h (by omega)) hE))] at hbv
          cases R with
          | nil => exact absurd rfl hE
          | cons c l =>
            have hT0 : 0 < T.size := by rw [← list_len T, hTl]; exact Nat.zero_lt_succ _
            have hem : T.toList.isEmpty = false := by rw [ByteArray.toList_eq, hTl]; rfl
            have hTc : T[0] = c := by
              have : T.data.toList[0]'(by rw [list_len]; exact hT0) = c := by simp only [hTl, List.getElem_cons_zero]
              exact this
            have hle := low_e T[0]
            have hce : (c == 101 || c == 69) = (decide (T[0].toNat = 69) || decide (T[0].toNat = 101)) := by
              rw [hTc, Bool.or_comm]
              congr 1
              · by_cases h : c = 69
                · rw [h]; rfl
                · rw [beq_eq_false_iff_ne.2 h, decide_eq_false (fun h2 => h ((u8_eq c 69 (by decide)).2 h2))]
              · by_cases h : c = 101
                · rw [h]; rfl
                · rw [beq_eq_false_iff_ne.2 h, decide_eq_false (fun h2 => h ((u8_eq c 101 (by decide)).2 h2))]
            rw [exp_cons, hce, ← hle] at hbv
            by_cases hee : (bits BinOp.or IntKind.u8 (T[0].toNat : Int) 32 == 101) = true
            · have z1 : (bits BinOp.or IntKind.u8 (T[0].toNat : Int) 32 != 101) = false := by rw [bne, hee]; rfl
              rw [hee, Bool.true_and] at hbv
              obtain ⟨T1, hT1⟩ : ∃ T1, T.extract 1 T.size = T1 := ⟨_, rfl⟩
              have hT1l : T1.data.toList = l := by rw [← hT1, ext_list, hTl]; rfl
              have hT1s : T1.size ≤ 39 := by
                have e1 := list_len T
                rw [hTl, List.length_cons] at e1
                rw [← list_len T1, hT1l]
                omega
              have HS1 := Lib.hid (HRT.out.set T1)
              have HT1 := Lib.hid (And.intro hT1l hT1s)
              have HB := Lib.hid hbv
              have one1 : (1 : Int) ≤ (T.size : Int) := by omega
              clear hTl hTc hle hce hbv hee hRT hT1l hT1s
              go_upto_region 15 with (fail)
              clear one1 hem hT1 z1 c0 c1
              obtain ⟨c0, c1⟩ := HS1.out.at
              obtain ⟨sg, hsg⟩ : ∃ sg, sg = decide (l.head? = some 43 ∨ l.head? = some 45) := ⟨_, rfl⟩
              have HG := Lib.hid hsg
              go_cut [60] from 49 to 59 (fun s60 wx => s60 = .bool sg ∧ ∃ T3 : ByteArray, T3.data.toList = l ∧ T3.size ≤ 39 ∧ RB w B T3 wx)
              case first =>
                obtain ⟨u1, u2⟩ := HT1.out
                cases l with
                | nil =>
                  have he : T1.toList.isEmpty = true := by rw [ByteArray.toList_eq, u1]; rfl
                  have hs0 : sg = false := by rw [hsg]; decide
                  subst hs0
                  clear u1 u2 hsg
                  go_wp2_with fail
                  go_meet
                  exact ⟨rfl, T1, HT1.out.1, HT1.out.2, HS1.out⟩
                | cons c1 l1 =>
                  have he : T1.toList.isEmpty = false := by rw [ByteArray.toList_eq, u1]; rfl
                  have h0 : 0 < T1.size := by rw [← list_len T1, u1]; exact Nat.zero_lt_succ _
                  have hc1 : T1[0] = c1 := by
                    have : T1.data.toList[0]'(by rw [list_len]; exact h0) = c1 := by simp only [u1, List.getElem_cons_zero]
                    exact this
                  rw [List.head?_cons] at hsg
                  by_cases h43 : c1.toNat = 43
                  · have y1 : ((T1[0].toNat : Int) == 43) = true := by rw [hc1, beq_iff_eq]; omega
                    have hs0 : sg = true := by rw [hsg, (u8_eq c1 43 (by decide)).2 h43]; decide
                    subst hs0
                    clear u1 u2 hsg hc1
                    go_wp2_with fail
                    go_meet
                    exact ⟨rfl, T1, HT1.out.1, HT1.out.2, HS1.out⟩
                  · have y1 : ((T1[0].toNat : Int) == 43) = false := by rw [hc1, beq_eq_false_iff_ne]; omega
                    have n43 : ¬ some c1 = some 43 := fun h => h43 ((u8_eq c1 43 (by decide)).1 (Option.some.inj h))
                    by_cases h45 : c1.toNat = 45
                    · have y2 : ((T1[0].toNat : Int) == 45) = true := by rw [hc1, beq_iff_eq]; omega
                      have hs0 : sg = true := by rw [hsg, (u8_eq c1 45 (by decide)).2 h45]; decide
                      subst hs0
                      clear u1 u2 hsg hc1 n43
                      go_wp2_with fail
                      go_meet
                      exact ⟨rfl, T1, HT1.out.1, HT1.out.2, HS1.out⟩
                    · have y2 : ((T1[0].toNat : Int) == 45) = false := by rw [hc1, beq_eq_false_iff_ne]; omega
                      have n45 : ¬ some c1 = some 45 := fun h => h45 ((u8_eq c1 45 (by decide)).1 (Option.some.inj h))
                      have hs0 : sg = false := by rw [hsg]; exact decide_eq_false (fun h => h.elim n43 n45)
                      subst hs0
                      clear u1 u2 hsg hc1 n43 n45
                      go_wp2_with fail
                      go_meet
                      exact ⟨rfl, T1, HT1.out.1, HT1.out.2, HS1.out⟩
              case rest =>
                clear HS1 HT1 c0 c1
                obtain ⟨rfl, T3, k1, k2, k3⟩ := hcut
                obtain ⟨c0, c1⟩ := k3.at
                go_upto_if 60 with (fail)
                go_cut [60] from 61 to 62 (fun s60 wx => ∃ T4 : ByteArray, T4.data.toList = exR l ∧ T4.size ≤ 39 ∧ RB w B T4 wx)
                case first =>
                  cases sg with
                  | false =>
                    have hx : exR l = l := if_neg (of_decide_eq_false hsg.symm)
                    have H4 := Lib.hid (And.intro hx (And.intro k1 (And.intro k2 k3)))
                    clear hx k1 k2 k3 hsg
                    go_wp2_with fail
                    go_meet
                    exact ⟨T3, by rw [H4.out.1]; exact H4.out.2.1, H4.out.2.2.1, H4.out.2.2.2⟩
                  | true =>
                    have hx : exR l = l.drop 1 := if_pos (of_decide_eq_true hsg.symm)
                    have one1 : (1 : Int) ≤ (T3.size : Int) := by
                      rw [← list_len T3, k1]
                      have := of_decide_eq_true hsg.symm
                      cases l with
                      | nil => rcases this with h | h <;> cases h
                      | cons c1 l1 => rw [List.length_cons]; omega
                    obtain ⟨T4, hT4⟩ : ∃ T4, T3.extract 1 T3.size = T4 := ⟨_, rfl⟩
                    have hT4l : T4.data.toList = exR l := by rw [← hT4, ext_list, k1, hx]
                    have hT4s : T4.size ≤ 39 := by
                      rw [← list_len T4, hT4l, hx, List.length_drop, ← k1, list_len]
                      omega
                    have HS4 := Lib.hid (And.intro hT4l (And.intro hT4s (k3.set T4)))
                    clear hx k1 k2 k3 hsg hT4l hT4s
                    go_wp2_with fail
                    go_meet
                    exact ⟨T4, HS4.out.1, HS4.out.2.1, HS4.out.2.2⟩
                case rest =>
                  clear k1 k2 k3 c0 c1 hsg
                  obtain ⟨T4, k1, k2, k3⟩ := hcut
                  have CD4 := fun W h => digits_any w B T4 (by omega) W h
                  have hb4 := HB.out
                  rw [← k1] at hb4
                  have hd4 := dgs_le T4.data.toList
                  rw [list_len] at hb4 hd4
                  obtain ⟨n4, hn4⟩ : ∃ n4, dgs T4.data.toList = n4 := ⟨_, rfl⟩
                  rw [hn4] at CD4 hb4 hd4
                  have n40 : (0 : Int) ≤ (n4 : Int) := by omega
                  have hem : (T4.extract n4 T4.size).toList.isEmpty = decide (n4 = T4.size) := by
                    rw [ByteArray.toList_eq, ext_list]
                    by_cases h : n4 = T4.size
                    · rw [decide_eq_true h, List.drop_eq_nil_of_le (by rw [list_len]; omega)]
                      rfl
                    · rw [decide_eq_false h]
                      cases hl : T4.data.toList.drop n4 with
                      | nil =>
                        have := congrArg List.length hl
                        rw [List.length_drop, list_len] at this
                        simp at this
                        omega
                      | cons _ _ => rfl
                  obtain ⟨T5, hT5⟩ : ∃ T5, T4.extract n4 T4.size = T5 := ⟨_, rfl⟩
                  rw [hT5] at CD4 hem
                  have HD4 := Lib.hid CD4
                  have HS4 := Lib.hid k3
                  by_cases h1 : 1 ≤ n4
                  · have y1 : decide (1 ≤ n4) = true := decide_eq_true h1
                    have y1' : (1 : Int) ≤ (n4 : Int) := by omega
                    by_cases h3 : n4 ≤ 3
                    · have y2 : decide (n4 ≤ 3) = true := decide_eq_true h3
                      have y2' : (n4 : Int) ≤ 3 := by omega
                      rw [y1, y2, Bool.true_and, Bool.true_and, ← hem] at hb4
                      obtain ⟨em, he2⟩ : ∃ em, T5.toList.isEmpty = em := ⟨_, rfl⟩
                      rw [he2] at hb4
                      subst hb4
                      clear CD4 k1 k2 k3 hd4 hn4 hem hT5 h1 h3 HB HG
                      go_wp2_with (go_at_call 161; (with_reducible refine (HD4.out _ HS4.out).mono ?_); rintro e w5 ⟨rfl, hw5⟩; have HS5 := Lib.hid hw5; obtain ⟨g0, g1⟩ := hw5.at; clear hw5)
                      go_ret
                      exact ⟨rfl, HS5.out.2.1⟩
                    · have y2 : decide (n4 ≤ 3) = false := decide_eq_false h3
                      have y2' : ¬ (n4 : Int) ≤ 3 := by omega
                      rw [y2, Bool.and_false, Bool.false_and] at hb4
                      subst hb4
                      clear CD4 k1 k2 k3 hd4 hn4 hem hT5 h1 h3 HB HG
                      go_wp2_with (go_at_call 161; (with_reducible refine (HD4.out _ HS4.out).mono ?_); rintro e w5 ⟨rfl, hw5⟩; have HS5 := Lib.hid hw5; obtain ⟨g0, g1⟩ := hw5.at; clear hw5)
                      go_ret
                      exact ⟨rfl, HS5.out.2.1⟩
                  · have y1 : decide (1 ≤ n4) = false := decide_eq_false h1
                    have y1' : ¬ (1 : Int) ≤ (n4 : Int) := by omega
                    rw [y1, Bool.false_and, Bool.false_and] at hb4
                    subst hb4
                    clear CD4 k1 k2 k3 hd4 hn4 hem hT5 h1 HB HG
                    go_wp2_with (go_at_call 161; (with_reducible refine (HD4.out _ HS4.out).mono ?_); rintro e w5 ⟨rfl, hw5⟩; have HS5 := Lib.hid hw5; obtain ⟨g0, g1⟩ := hw5.at; clear hw5)
                    go_ret
                    exact ⟨rfl, HS5.out.2.1⟩
            · have hee2 := Bool.eq_false_iff.2 hee
              have z1 : (bits BinOp.or IntKind.u8 (T[0].toNat : Int) 32 != 101) = true := by rw [bne, hee2]; rfl
              rw [hee2, Bool.false_and] at hbv
              subst hbv
              clear hTl hTc hle hce hee hee2 hRT
              go_wp2_with fail
              go_ret
              exact ⟨rfl, HRT.out.2.1⟩
    · have a1 : decide (N < 1) = true := decide_eq_true (by omega)
      have a2 : decide (1 ≤ N) = false := decide_eq_false hA
      have a3 : (N : Int) < 1 := by omega
      have a4 : ¬ (1 : Int) ≤ (N : Int) := by omega
      rw [if_pos (.inl (by omega)), a2, Bool.false_and] at hbv
      subst hbv
      clear hA hRT
      go_wp2_with fail
      go_ret
      exact ⟨rfl, HRT.out.2.1⟩
end Go.Proofs.YtcbgkbidgpemfaaGreatDoor.rdf
