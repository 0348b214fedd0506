/- The walk of burnishlaw15.LexBlanks at two texts without an error. -/
import Derived.Test.YtekhdocejahboaaLexBlankW
import Derived.Deep.DeepFit
import Derived.Deep.DeepCutAuto
namespace Go.Proofs.Ytekhdocejahboaa.lexw
open Go.RowKit
open Go.Proofs.Ytekhdocejahboaa.lexm Go.Proofs.Ytekhdocejahboaa.words

theorem alike_eq (w : World) (B : Nat) (v u : Value) (ts us : List Tok) (hv : Toks w B v ts) (hu : Toks w B u us) (h1 : ts.length ≤ 4611686018427387904) (he : us.map key = ts.map key) :
    Calls Try.prog 11 #[v, u] w fun e w' => e = .returned (.bool true) ∧ ∃ n, w' = w.drewN n :=
  (alike_any w B v u ts us hv hu h1).mono fun _ _ ⟨he', hw⟩ => ⟨by rw [he', decide_eq_true he.symm], hw⟩

theorem Toks.reads {W : World} {B : Nat} {A : Option Addr} {n c : Nat} {ts : List Tok} (h : Toks W B (.slice A n c) ts) : Reads W B 3 A n (cellsOf ts) := by
  obtain ⟨A', c', hv, hc⟩ := h
  injection hv with hA hn _
  subst hA hn
  refine ⟨cellsOf_length ts, fun h0 => ?_⟩
  obtain ⟨g, off, hA, hg, hcell⟩ := hc (by intro e; subst e; simp at h0)
  refine ⟨_, hA, hg, fun j u hu => ?_⟩
  have hadd : (⟨g, off, none⟩ : Addr).add j = ⟨g, off + j, none⟩ := by unfold Addr.add; split <;> simp_all
  rw [hadd]
  exact hcell j u hu
theorem cells_one (ts : List Tok) : ∀ u ∈ cellsOf ts, u.oneCell' = true := by
  intro u hu
  simp only [cellsOf, List.mem_flatMap, Tok.cells] at hu
  obtain ⟨t, _, hu⟩ := hu
  simp only [List.mem_cons, List.not_mem_nil, or_false] at hu
  rcases hu with rfl | rfl | rfl <;> rfl

theorem b8to9 {w7 w8 w9 : World} {v u : Value} {bs : List Tok} {o : Obj} {n : Nat} {xs : List Value} {e : TypeId} (t : Toks w8 w7.heap.size v bs) (hB : Below w7.heap.size w7 w8) (gr : (w8.alloc o).grownBy w9 u.ownBlock) (own : w8.ownsRow w7.heap.size e 3 u n xs) : Toks w9 w7.heap.size v bs :=
  t.below (((Below.refl w7.heap.size w8).alloc hB.size o).grown gr (by have := hB.size; simp; omega) (fun k hk => (own.lt k hk).1)) (Nat.le_refl _)

set_option maxRecDepth 100000 in
set_option maxHeartbeats 4000000 in
theorem blanks_good (s o rem : ByteArray) (p : Int) (hp0 : 0 ≤ p) (hp1 : p ≤ 65535) (w : World) (c1 : s.size ≤ 600) (c2 : o.size ≤ 600) (c3 : rem.size ≤ 60) (c4 : ¬ 0 ≤ Lib.indexByte rem.data.toList 10)
    (ts us : List Tok) (hts : lexRes s.data.toList = (ts, 0, 0)) (hus : lexRes o.data.toList = (us, 0, 0)) :
    Calls Try.prog 4 #[.string s, .string o, .int .u16 p, .string rem] w (Good w) := by
  have hs : s.size ≤ maxLen := by unfold maxLen; omega
  have ho : o.size ≤ maxLen := by unfold maxLen; omega
  have h4 : decide (0 ≤ Lib.indexByte rem.data.toList 10) = false := decide_eq_false c4
  have H4 := Lib.hid h4
  have HT := Lib.hid hts
  have HU := Lib.hid hus
  have h5 : (((0 : Int) + 0) != 0) = false := by decide
  have htl := (lexRes_len s.data.toList).1
  rw [hts] at htl
  have hsz : s.data.toList.length = s.size := by simp
  rw [hsz] at htl
  simp only at htl
  have N10 := Lib.hid (no10 rem c4)
  obtain ⟨bs, hbs, hbk⟩ := law_cat s.data.toList o.data.toList ts us hts hus (by simpa using c1) (by simpa using c2)
  have HBK := Lib.hid hbk
  have HCB := Lib.hid (fun W => lex_ans (s ++ (⟨#[10]⟩ : ByteArray) ++ o) (by unfold maxLen; simp only [ByteArray.size_append]; have : (⟨#[10]⟩ : ByteArray).size = 1 := rfl; omega) bs 0 0 (by
    rw [← hbs]
    congr 1
    simp [ByteArray.data_append]) W)
  have hbl := (lexRes_len (s.data.toList ++ 10 :: o.data.toList)).2
  rw [hbs] at hbl
  simp only at hbl
  have hul := (lexRes_len o.data.toList).2
  rw [hus] at hul
  simp only at hul
  clear hbs hbk
  have hlen : ts.length ≤ 4611686018427387904 := by omega
  obtain ⟨q, rfl⟩ := Int.eq_ofNat_of_zero_le hp0
  clear h4 hts hus hsz c4 hp0
  obtain ⟨i0, hi, hz0, hz1, hz2⟩ := info_parts Try.tokInfo
  go_enter Try.func4, Try.ntmps4
  go_wp2_with fail
  refine (lex_any s hs _).mono ?_
  rw [HT.out]
  rintro e w1 ⟨v1, rfl, k1, b1⟩
  go_wp2_with fail
  refine (lex_any o ho _).mono ?_
  rw [HU.out]
  rintro e w2 ⟨v2, rfl, k2, b2⟩
  obtain ⟨a1, n1, rfl⟩ := row_form k1
  obtain ⟨a2, n2, rfl⟩ := row_form k2
  go_wp2_with fail
  refine (Try.strings_Contains_one rem 10 _).mono ?_
  rw [H4.out]
  rintro e w3 ⟨rfl, rfl⟩
  have t1 := (Toks.of_own k1).below b2 (Nat.le_refl _)
  have t2 := Toks.of_own k2
  have hB3 : Below w.heap.size w w3 := b1.trans (b2.mono b1.size)
  have t1 := Toks.mono t1 b2.size
  clear k1 k2 b1 b2
  go_upto_if 62 with (fail)
  go_cut [] (fun wx => Below w3.heap.size w3 wx)
  case first =>
    by_cases h0 : ts = []
    · subst h0
      have hl0 : decide ((0 : Int) < (([] : List Tok).length : Int)) = false := by decide
      go_wp2_with fail
      go_meet
      exact Below.refl _ _
    · have hl0 : 0 < ts.length := List.length_pos_iff.2 h0
      clear h0
      obtain ⟨m, hm⟩ : ∃ m, q % ts.length = m := ⟨_, rfl⟩
      have hml : m < ts.length := by rw [← hm]; exact Nat.mod_lt _ hl0
      have hidx : ((q : Int) % ts.length) = (m : Int) := by rw [← hm]; exact (Int.natCast_emod _ _).symm
      clear hm
      have m0 : (0 : Int) ≤ m := by omega
      have m1 : (m : Int) < ts.length := by omega
      obtain ⟨g, off, c, hv, x0, x1, x2⟩ := t1.at_ hml
      injection hv with hv _ hc
      subst hv hc
      obtain ⟨hpos, ns, hns, hkey⟩ := law_put s.data.toList rem.data.toList ts HT.out (by simpa using c1) (by simpa using c3) N10.out ts[m] (List.getElem_mem hml)
      have hpos' : ts[m].pos ≤ s.size := by simpa using hpos
      have HK := Lib.hid hkey
      clear hkey hpos
      by_cases h4 : ts[m].kind = 4
      · have b4 : ((ts[m].kind : Int) == 4) = true := by rw [beq_iff_eq]; omega
        have HCN := Lib.hid (fun W => lex_ans (s.extract 0 ts[m].pos ++ ((⟨#[32, 32, 35]⟩ : ByteArray) ++ rem) ++ s.extract ts[m].pos s.size) (by unfold maxLen; simp only [ByteArray.size_append, ByteArray.size_extract]; have : (⟨#[32, 32, 35]⟩ : ByteArray).size = 3 := rfl; omega) ns 0 0 (by
          rw [← hns, putOf, if_pos h4]
          congr 1
          have hx := Lib.extract_to_end s ts[m].pos
          rw [ByteArray.data_append, Array.toList_append, hx]
          congr 1
          simp [ByteArray.data_append]) W)
        clear h4 hns
        go_wp2_with fail
        clear hidx m0 m1
        go_region_with (go_at_call 7; refine (HCN.out _).mono ?_; rintro e w5 ⟨v5, rfl, k5, b5⟩)
        all_goals
          have hB4 : Below w3.heap.size w3 w5 := ((Below.refl _ w3).alloc (Nat.le_refl _) _).drew.trans (b5.mono (by simp))
          have t1' := Toks.mono (B' := w5.heap.size) (t1.below hB4 (Nat.le_refl _)) hB4.size
          go_wp2_with fail
          refine (alike_eq _ w5.heap.size _ _ ts ns t1' k5 hlen HK.out).mono ?_
          rintro e w6 ⟨rfl, n6, rfl⟩
          go_wp2_with fail
          go_meet
          exact below_drewN' hB4 n6
      · have b4 : ((ts[m].kind : Int) == 4) = false := by rw [beq_eq_false_iff_ne]; omega
        have HCN := Lib.hid (fun W => lex_ans (s.extract 0 ts[m].pos ++ (⟨#[32, 32, 32]⟩ : ByteArray) ++ s.extract ts[m].pos s.size) (by unfold maxLen; simp only [ByteArray.size_append, ByteArray.size_extract]; have : (⟨#[32, 32, 32]⟩ : ByteArray).size = 3 := rfl; omega) ns 0 0 (by
          rw [← hns, putOf, if_neg h4]
          congr 1
          have hx := Lib.extract_to_end s ts[m].pos
          rw [ByteArray.data_append, Array.toList_append, hx]
          congr 1
          simp [ByteArray.data_append]) W)
        clear h4 hns
        go_wp2_with fail
        clear hidx m0 m1
        go_region_with (go_at_call 7; refine (HCN.out _).mono ?_; rintro e w5 ⟨v5, rfl, k5, b5⟩)
        all_goals
          have hB4 : Below w3.heap.size w3 w5 := ((Below.refl _ w3).alloc (Nat.le_refl _) _).drew.trans (b5.mono (by simp))
          have t1' := Toks.mono (B' := w5.heap.size) (t1.below hB4 (Nat.le_refl _)) hB4.size
          go_wp2_with fail
          refine (alike_eq _ w5.heap.size _ _ ts ns t1' k5 hlen HK.out).mono ?_
          rintro e w6 ⟨rfl, n6, rfl⟩
          go_wp2_with fail
          go_meet
          exact below_drewN' hB4 n6
  case rest =>
    have hB4 : Below w.heap.size w wc := hB3.trans (hcut.mono hB3.size)
    have t1' := Toks.mono (B' := wc.heap.size) (t1.below hcut (Nat.le_refl _)) hcut.size
    have t2' := Toks.mono (B' := wc.heap.size) (t2.below hcut (Nat.le_refl _)) hcut.size
    clear t1 t2 hcut hB3
    go_wp2_with fail
    refine (HCB.out _).mono ?_
    rintro e w7 ⟨v7, rfl, k7, b7⟩
    have hb7 := b7.size
    have hB7 : Below w.heap.size w w7 := hB4.trans (b7.mono hB4.size)
    have t17 : Toks w7 w7.heap.size (.slice a1 ts.length n1) ts := Toks.mono (t1'.below b7 (Nat.le_refl _)) hb7
    have t27 : Toks w7 w7.heap.size (.slice a2 us.length n2) us := Toks.mono (t2'.below b7 (Nat.le_refl _)) hb7
    have q8 := (t17.reads.below (Below.refl _ _)).alloc (Nat.le_refl _) (.cells #[] 32)
    have o8 : (w7.alloc (.cells #[] 32)).ownsRow w7.heap.size 32 3 (.slice (some ⟨w7.heap.size, 0, none⟩) 0 0) 0 [] := World.ownsRow_made w7 #[] 0 (Nat.le_refl _) (by unfold maxLen; omega) rfl
    have hc1 := cells_one ts
    have hc2 := cells_one us
    have htl2 : ts.length ≤ 601 := by omega
    go_upto_region 15 with (at_builtin; refine wpList_append_any _ rfl (.tmp 109) (.tmp 110) _ rfl w7.heap.size 32 i0 _ 3 32 Try.underlying23 hi hz0 hz1 hz2 rfl (by omega) (.slice (some ⟨w7.heap.size, 0, none⟩) 0 0) 0 [] rfl o8 w7.heap.size a1 ts.length n1 (cellsOf ts) rfl q8 hc1 (by unfold maxLen; omega) (by omega) (by simp) ?_; intro v8 w8 own8 gr8 at8)
    have hB8 : Below w7.heap.size w7 w8 := ((Below.refl _ w7).alloc (Nat.le_refl _) _).grown gr8 (by simp) (by intro k hk; simp [Value.ownBlock] at hk; omega)
    have t18 : Toks w8 w7.heap.size (.slice a1 ts.length n1) ts := t17.below hB8 (Nat.le_refl _)
    have t28 : Toks w8 w7.heap.size (.slice a2 us.length n2) us := t27.below hB8 (Nat.le_refl _)
    have t38 : Toks w8 w7.heap.size v7 bs := k7.below hB8 (Nat.le_refl _)
    rw [Nat.zero_add, List.nil_append] at own8
    clear t17 t27 k7 q8 o8 at8 gr8 t1' t2' b7 hb7
    obtain ⟨a8, n8, rfl⟩ := row_form own8
    have hbk := HBK.out
    have hbl2 : bs.length ≤ 4611686018427387904 := by omega
    by_cases h0 : ts = []
    · rw [if_neg (by subst h0; simp)] at hbk
      have HBK2 := Lib.hid hbk
      have hl0 : ((ts.length : Int) == 0) = true := by rw [beq_iff_eq]; subst h0; rfl
      clear hbk h0
      go_wp2_with (first | (at_builtin; refine wpList_append_own _ rfl (.tmp 125) (.tmp 127) 23 rfl w7.heap.size 32 i0 _ 3 32 Try.underlying23 hi hz0 hz1 hz2 rfl (by decide) _ _ _ rfl (own8.alloc _) ⟨w8.heap.size, 0, none⟩ 1 1 [.int .u8 4, .int .i64 0, .string ⟨#[10]⟩] rfl rfl (cells_new _ _ _) (by simp [Value.oneCell']) (by unfold maxLen; omega) (by omega) (by have := hB8.size; simp; omega) ?_; intro v9 w9 own9 gr9 _; obtain ⟨a9, n9, rfl⟩ := row_form own9; have hB9 : Below w7.heap.size w7 w9 := (hB8.alloc hB8.size _).grown gr9 (by have := hB8.size; simp; omega) (fun k hk => (own8.lt k hk).1); have t39 : Toks w9 w7.heap.size v7 bs := b8to9 t38 hB8 gr9 own8; have t29 : Toks w9 w7.heap.size (.slice a2 us.length n2) us := b8to9 t28 hB8 gr9 own8) | (at_builtin; refine wpList_append_any_g _ ?_ (.tmp 133) (.tmp 134) 23 rfl w7.heap.size 32 i0 _ 3 32 Try.underlying23 hi hz0 hz1 hz2 rfl (by omega) _ _ _ rfl own9 w7.heap.size a2 us.length n2 (cellsOf us) rfl t29.reads hc2 (by unfold maxLen; omega) (by omega) hB9.size ?_; rotate_right; intro v10 w10 own10 gr10 at10))
      have e1 : (ts ++ [(⟨4, 0, [10]⟩ : Tok)] ++ us).length = ts.length + 1 + us.length := by simp; omega
      have e2 : cellsOf (ts ++ [(⟨4, 0, [10]⟩ : Tok)] ++ us) = cellsOf ts ++ [.int .u8 4, .int .i64 0, .string ⟨#[10]⟩] ++ cellsOf us := by simp [cellsOf, Tok.cells]
      have own11 : w10.ownsRow w7.heap.size 32 3 v10 (ts ++ [(⟨4, 0, [10]⟩ : Tok)] ++ us).length (cellsOf (ts ++ [(⟨4, 0, [10]⟩ : Tok)] ++ us)) := by rw [e1, e2]; exact own10
      clear e1 e2
      have hB10 : Below w7.heap.size w7 w10 := hB9.grown gr10 hB9.size (fun k hk => (own9.lt k hk).1)
      have t310 : Toks w10 w10.heap.size v7 bs := Toks.mono (t39.below ((Below.refl w7.heap.size _).grown gr10 hB9.size (fun k hk => (own9.lt k hk).1)) (Nat.le_refl _)) hB10.size
      refine (alike_eq _ w10.heap.size _ _ bs _ t310 (Toks.of_own own11) hbl2 HBK2.out.symm).mono ?_
      rintro e w11 ⟨rfl, n11, rfl⟩
      clear own10 own11 t310
      go_wp2_with fail
      refine (awake_any _).mono ?_
      rintro e w12 ⟨rfl, b12⟩
      go_wp2_with fail
      go_ret
      have b13 : Below w10.heap.size (w10.drewN n11) w12 := b12
      have hw10 : w.heap.size ≤ w10.heap.size := Nat.le_trans hB7.size hB10.size
      exact ⟨rfl, (below_drewN' (hB7.trans (hB10.mono hB7.size)) n11).trans (b13.mono hw10)⟩
    · have hl0 : ((ts.length : Int) == 0) = false := by rw [beq_eq_false_iff_ne]; have := List.length_pos_iff.2 h0; omega
      have hl1 : 0 < ts.length := List.length_pos_iff.2 h0
      obtain ⟨g, off, c, hv, _, _, x2⟩ := t18.at_ (i := ts.length - 1) (by omega)
      injection hv with hv _ hc
      subst hv hc
      have hgl : ts.getLast? = some (ts[ts.length - 1]'(by omega)) := List.getLast?_eq_getElem? .. |>.trans (List.getElem?_eq_getElem (by omega))
      rw [hgl] at hbk
      clear h0 hgl
      obtain ⟨tx, htx⟩ : ∃ tx, (ts[ts.length - 1]'(by omega)).text = tx := ⟨_, rfl⟩
      rw [htx] at x2
      simp only [Option.map_some, htx, Option.some.injEq] at hbk
      clear htx
      by_cases htt : tx = []
      · rw [if_pos htt] at hbk
        have HBK2 := Lib.hid hbk
        subst htt
        clear hbk
        go_wp2_with (at_builtin; refine wpList_append_any_g _ ?_ (.tmp 133) (.tmp 134) 23 rfl w7.heap.size 32 i0 _ 3 32 Try.underlying23 hi hz0 hz1 hz2 rfl (by omega) _ _ _ rfl own8 w7.heap.size a2 us.length n2 (cellsOf us) rfl t28.reads hc2 (by unfold maxLen; omega) (by omega) hB8.size ?_; rotate_right; intro v10 w10 own10 gr10 at10)
        have e1 : (ts ++ [] ++ us).length = ts.length + us.length := by simp
        have e2 : cellsOf (ts ++ [] ++ us) = cellsOf ts ++ cellsOf us := by simp [cellsOf]
        have own11 : w10.ownsRow w7.heap.size 32 3 v10 (ts ++ [] ++ us).length (cellsOf (ts ++ [] ++ us)) := by rw [e1, e2]; exact own10
        clear e1 e2
        have hB10 : Below w7.heap.size w7 w10 := hB8.grown gr10 hB8.size (fun k hk => (own8.lt k hk).1)
        have t310 : Toks w10 w10.heap.size v7 bs := Toks.mono (t38.below ((Below.refl w7.heap.size _).grown gr10 hB8.size (fun k hk => (own8.lt k hk).1)) (Nat.le_refl _)) hB10.size
        refine (alike_eq _ w10.heap.size _ _ bs _ t310 (Toks.of_own own11) hbl2 HBK2.out.symm).mono ?_
        rintro e w11 ⟨rfl, n11, rfl⟩
        clear own10 own11 t310
        go_wp2_with fail
        refine (awake_any _).mono ?_
        rintro e w12 ⟨rfl, b12⟩
        go_wp2_with fail
        go_ret
        have b13 : Below w10.heap.size (w10.drewN n11) w12 := b12
        have hw10 : w.heap.size ≤ w10.heap.size := Nat.le_trans hB7.size hB10.size
        exact ⟨rfl, (below_drewN' (hB7.trans (hB10.mono hB7.size)) n11).trans (b13.mono hw10)⟩
      · rw [if_neg htt] at hbk
        have HBK2 := Lib.hid hbk
        have hte : tx.isEmpty = false := by cases tx <;> simp_all
        clear hbk htt
        go_wp2_with (first | (at_builtin; refine wpList_append_own _ rfl (.tmp 125) (.tmp 127) 23 rfl w7.heap.size 32 i0 _ 3 32 Try.underlying23 hi hz0 hz1 hz2 rfl (by decide) _ _ _ rfl (own8.alloc _) ⟨w8.heap.size, 0, none⟩ 1 1 [.int .u8 4, .int .i64 0, .string ⟨#[10]⟩] rfl rfl (cells_new _ _ _) (by simp [Value.oneCell']) (by unfold maxLen; omega) (by omega) (by have := hB8.size; simp; omega) ?_; intro v9 w9 own9 gr9 _; obtain ⟨a9, n9, rfl⟩ := row_form own9; have hB9 : Below w7.heap.size w7 w9 := (hB8.alloc hB8.size _).grown gr9 (by have := hB8.size; simp; omega) (fun k hk => (own8.lt k hk).1); have t39 : Toks w9 w7.heap.size v7 bs := b8to9 t38 hB8 gr9 own8; have t29 : Toks w9 w7.heap.size (.slice a2 us.length n2) us := b8to9 t28 hB8 gr9 own8) | (at_builtin; refine wpList_append_any_g _ ?_ (.tmp 133) (.tmp 134) 23 rfl w7.heap.size 32 i0 _ 3 32 Try.underlying23 hi hz0 hz1 hz2 rfl (by omega) _ _ _ rfl own9 w7.heap.size a2 us.length n2 (cellsOf us) rfl t29.reads hc2 (by unfold maxLen; omega) (by omega) hB9.size ?_; rotate_right; intro v10 w10 own10 gr10 at10))
        have e1 : (ts ++ [(⟨4, 0, [10]⟩ : Tok)] ++ us).length = ts.length + 1 + us.length := by simp; omega
        have e2 : cellsOf (ts ++ [(⟨4, 0, [10]⟩ : Tok)] ++ us) = cellsOf ts ++ [.int .u8 4, .int .i64 0, .string ⟨#[10]⟩] ++ cellsOf us := by simp [cellsOf, Tok.cells]
        have own11 : w10.ownsRow w7.heap.size 32 3 v10 (ts ++ [(⟨4, 0, [10]⟩ : Tok)] ++ us).length (cellsOf (ts ++ [(⟨4, 0, [10]⟩ : Tok)] ++ us)) := by rw [e1, e2]; exact own10
        clear e1 e2
        have hB10 : Below w7.heap.size w7 w10 := hB9.grown gr10 hB9.size (fun k hk => (own9.lt k hk).1)
        have t310 : Toks w10 w10.heap.size v7 bs := Toks.mono (t39.below ((Below.refl w7.heap.size _).grown gr10 hB9.size (fun k hk => (own9.lt k hk).1)) (Nat.le_refl _)) hB10.size
        refine (alike_eq _ w10.heap.size _ _ bs _ t310 (Toks.of_own own11) hbl2 HBK2.out.symm).mono ?_
        rintro e w11 ⟨rfl, n11, rfl⟩
        clear own10 own11 t310
        go_wp2_with fail
        refine (awake_any _).mono ?_
        rintro e w12 ⟨rfl, b12⟩
        go_wp2_with fail
        go_ret
        have b13 : Below w10.heap.size (w10.drewN n11) w12 := b12
        have hw10 : w.heap.size ≤ w10.heap.size := Nat.le_trans hB7.size hB10.size
        exact ⟨rfl, (below_drewN' (hB7.trans (hB10.mono hB7.size)) n11).trans (b13.mono hw10)⟩

end Go.Proofs.Ytekhdocejahboaa.lexw
