/- burnishlaw16.DecimalWrong: the walk. Condition: the library's tables hold what the row lists. -/
import Derived.Test.YtbjengfoaobdbaaGreatDoorMgM
namespace Go.Proofs.YtbjengfoaobdbaaGreatDoor.lawd
open Go.RowKit
open Go.BigFrame
open Go.Proofs.YtbjengfoaobdbaaGreatDoor.nodew
open Go.Proofs.YtbjengfoaobdbaaGreatDoor.rdf
open Go.Proofs.YtbjengfoaobdbaaGreatDoor.prnw
open Go.Proofs.YtbjengfoaobdbaaGreatDoor.fpm
open Go.Proofs.YtbjengfoaobdbaaGreatDoor.dmx
open Go.Proofs.YtbjengfoaobdbaaGreatDoor.qt
open Go.Proofs.YtbjengfoaobdbaaGreatDoor.chkw
attribute [local go_sem] nodew.fo_eq

def one31 : ByteArray := ⟨(Lib.repeatL [49] 31).toArray⟩
def zero30 : ByteArray := ⟨(Lib.repeatL [48] 30).toArray⟩
/-- what is no decimal -/
def badL : List ByteArray := [⟨#[]⟩, ⟨#[45]⟩, ⟨#[46]⟩, ⟨#[101, 53]⟩, ⟨#[49, 101]⟩, ⟨#[49, 101, 43]⟩, ⟨#[49, 101, 49, 50, 51, 52]⟩, ⟨#[49, 46, 50, 46, 51]⟩, ⟨#[45, 45, 49]⟩, ⟨#[49, 101, 53, 46]⟩, ⟨#[48, 120, 49, 48]⟩, ⟨#[49, 95, 48]⟩, ⟨#[73, 110, 102]⟩, ⟨#[78, 97, 78]⟩, one31, ⟨#[48, 46]⟩ ++ zero30, ⟨#[32, 49]⟩, ⟨#[49, 32]⟩]
theorem bad_all : badL.all (fun s => !rightL s.data.toList) = true := by decide +kernel
theorem bad_r (k : Nat) (h : k < 18) : ∃ s : ByteArray, badL[k]? = some s ∧ decR s.data.toList = (0, 160) := by
  have hk : k < badL.length := h
  refine ⟨badL[k], List.getElem?_eq_getElem hk, ?_⟩
  have := List.all_eq_true.1 bad_all _ (List.getElem_mem hk)
  unfold decR
  rw [if_neg (by simpa using this)]
theorem rd_ones : decR (⟨(Lib.repeatL [49] 30).toArray⟩ : ByteArray).data.toList = (5041340318829193196, 0) := by decide +kernel
/-- a byte that is none of a decimal's -/
theorem foreign (c : Nat) (hc : c < 256) (h1 : ¬ (48 ≤ c ∧ c ≤ 57)) (h2 : Lib.indexByte [45, 43, 46, 101, 69] c.toUInt8 < 0) : okc c.toUInt8 = false := by
  have : ∀ x : Fin 256, ¬ (48 ≤ x.val ∧ x.val ≤ 57) → Lib.indexByte [45, 43, 46, 101, 69] x.val.toUInt8 < 0 → okc x.val.toUInt8 = false := by decide +kernel
  exact this ⟨c, hc⟩ h1 h2
/-- one byte as a text -/
theorem conv_one (c : Nat) (hc : c < 256) (W : World) : (convert 37 9 (.slice (some ⟨W.heap.size, 0, none⟩) 1 1)).run Tryz.prog (W.alloc (.cells #[.int .u8 (c : Int)] 5)).drew = .ok (.string ⟨#[c.toUInt8]⟩) (W.alloc (.cells #[.int .u8 (c : Int)] 5)).drew := by
  have := run_convert_bytes_back (P := Tryz.prog) (W.alloc (.cells #[.int .u8 (c : Int)] 5)).drew 37 9 5 ⟨W.heap.size, 0, none⟩ 1 [c.toUInt8] (by kernel_rfl) (by kernel_rfl) (by kernel_rfl) fun j hj => by
    obtain rfl : j = 0 := by simpa using hj
    have hh : (W.alloc (.cells #[.int .u8 (c : Int)] 5)).drew.heap[W.heap.size]? = some (.cells #[.int .u8 (c : Int)] 5 (0, 0)) := heap_alloc_new W _
    have ha : (⟨W.heap.size, 0, none⟩ : Addr).add 0 = ⟨W.heap.size, 0, none⟩ := rfl
    rw [ha, cell_of_row _ W.heap.size 0 _ _ _ hh]
    show some (Value.int .u8 (c : Int)) = some (.int .u8 ((c.toUInt8).toNat : Int))
    have : (c.toUInt8).toNat = c := by
      rw [Nat.toUInt8, UInt8.toNat_ofNat']
      omega
    rw [this]
  exact this
set_option maxRecDepth 100000 in
set_option maxHeartbeats 2000000 in
theorem wrong_any (B : Nat) (s : ByteArray) (at_ c : Nat) (hat : at_ < 256) (hc : c < 256) (w : World) (hE : LE B w) :
    Calls Tryz.prog 4 #[.string s, .int .u8 at_, .int .u8 c] w (Bel w (.bool true)) := by
  have HR := Lib.hid (fun (x : ByteArray) (n : Nat) (hn : x.size * n ≤ 1000) (h2 : n ≤ 1000) (v : World) => show Calls Tryz.prog 11 #[.string x, .int .i64 (n : Int)] v (Bel v (.string ⟨(Lib.repeatL x.data.toList n).toArray⟩)) from Tryz.strings_Repeat x n v (by omega) (by omega))
  have H31 := Lib.hid (fun (v : World) => show Calls Tryz.prog 11 #[.string ⟨#[49]⟩, .int .i64 31] v (Bel v (.string one31)) from HR.out ⟨#[49]⟩ 31 (by decide) (by decide) v)
  have H30 := Lib.hid (fun (v : World) => show Calls Tryz.prog 11 #[.string ⟨#[48]⟩, .int .i64 30] v (Bel v (.string zero30)) from HR.out ⟨#[48]⟩ 30 (by decide) (by decide) v)
  have z1 : zero30.size = 30 := by decide +kernel
  have HE := Lib.hid hE
  clear hE
  go_enter Tryz.func4, Tryz.ntmps4
  go_wp2_with (first
    | (go_at_call 11; (with_reducible refine (H31.out _).mono ?_); rintro e w1 ⟨rfl, hb1⟩; have B1 := Lib.hid hb1; clear hb1)
    | (go_at_call 11; (with_reducible refine (H30.out _).mono ?_); rintro e w2 ⟨rfl, hb2⟩; have B2 := Lib.hid (B1.out.trans (hb2.mono B1.out.size)); clear hb2))
  obtain ⟨g, hg⟩ : ∃ g, g = w2.heap.size := ⟨_, rfl⟩
  obtain ⟨W2, hW2⟩ : ∃ W2, W2 = w2.alloc (.cells #[.string ⟨#[]⟩, .string ⟨#[45]⟩, .string ⟨#[46]⟩, .string ⟨#[101, 53]⟩, .string ⟨#[49, 101]⟩, .string ⟨#[49, 101, 43]⟩, .string ⟨#[49, 101, 49, 50, 51, 52]⟩, .string ⟨#[49, 46, 50, 46, 51]⟩, .string ⟨#[45, 45, 49]⟩, .string ⟨#[49, 101, 53, 46]⟩, .string ⟨#[48, 120, 49, 48]⟩, .string ⟨#[49, 95, 48]⟩, .string ⟨#[73, 110, 102]⟩, .string ⟨#[78, 97, 78]⟩, .string one31, .string (⟨#[48, 46]⟩ ++ zero30), .string ⟨#[32, 49]⟩, .string ⟨#[49, 32]⟩] 9) := ⟨_, rfl⟩
  rw [← hW2, ← hg]
  have hcells : ∀ k v, (badL.map Value.string)[k]? = some v → W2.cell? ⟨g, k, none⟩ = some v := fun k v h => by
    have hh : W2.heap[g]? = some (.cells (badL.map Value.string).toArray 9 (0, 0)) := by rw [hW2, hg]; exact heap_alloc_new w2 _
    rw [cell_of_row W2 g k _ _ _ hh]
    simpa using h
  have hBW : Below w.heap.size w W2 := by rw [hW2]; exact B2.out.alloc B2.out.size _
  have hgl : g < W2.heap.size := by rw [hW2, hg]; simp
  have E2 := Lib.hid (HE.out.below hBW)
  have B3 := Lib.hid hBW
  have HC := Lib.hid hcells
  clear hcells hBW hW2 hg B1 B2 HE
  go_loopw [20] (fun i wr => ∃ k : Nat, k ≤ 18 ∧ i = .int .i64 k ∧ Below W2.heap.size W2 wr) (fun i _ => 18 - (intOf i).toNat)
  case atStart => exact ⟨0, by omega, rfl, Below.refl _ _⟩
  case round =>
    obtain ⟨k, hk, rfl, hBr⟩ := hrel
    obtain ⟨wo, rfl⟩ : ∃ wo : World, wo = wr := ⟨_, rfl⟩
    have ER := Lib.hid (E2.out.below hBr)
    by_cases hk18 : k < 18
    · obtain ⟨x, hx, hdx⟩ := bad_r k hk18
      have hcell : wo.cell? ⟨g, k, none⟩ = some (.string x) := (hBr.cell hgl).trans (HC.out k _ (by rw [List.getElem?_map, hx]; rfl))
      have CX := Lib.hid (show Calls Tryz.prog 7 #[.string x] wo (DqPost wo (0, 160)) from by
        have := dparse_any B x wo ER.out.de
        rw [hdx] at this
        exact this)
      have hk0 : (0 : Int) ≤ (k : Int) := by omega
      have hk9 : (k : Int) < 18 := by omega
      have BR := Lib.hid hBr
      clear hx hdx hBr
      go_wp2_with (first
        | (go_at_call 7; (with_reducible refine CX.out.mono ?_); rintro e v ⟨rfl, hb⟩; have BN := Lib.hid (BR.out.trans (hb.mono BR.out.size)); clear hb)
        | (go_at_call 12; (with_reducible refine (same_self _ _).mono ?_); rintro e v2 ⟨rfl, rfl⟩))
      go_roundw
      case rel => exact ⟨k + 1, by omega, by go_num, BN.out⟩
      case measure => simp [intOf]; omega
    · obtain rfl : k = 18 := by omega
      have BR := Lib.hid (B3.out.trans (hBr.mono B3.out.size))
      clear hBr hk hk18
      have AW := Lib.hid (fun (v : World) (h : LE B v) => awake_any B v h)
      by_cases hs : s.size ≤ 20
      · obtain ⟨K, hK⟩ : ∃ K, K = at_ % (s.size + 1) := ⟨_, rfl⟩
        have hK1 : K ≤ s.size := by have := Nat.mod_lt at_ (show 0 < s.size + 1 by omega); omega
        have hKi : (at_ : Int) % ((s.size : Int) + 1) = (K : Int) := by rw [hK]; simp
        have hs20 : (s.size : Int) ≤ 20 := by omega
        have hKs : (K : Int) ≤ (s.size : Int) := by omega
        have hK0 : (0 : Int) ≤ (K : Int) := by omega
        obtain ⟨J, hJ⟩ : ∃ J, J = Lib.indexByte [45, 43, 46, 101, 69] c.toUInt8 := ⟨_, rfl⟩
        have HI := Lib.hid (fun (v : World) => show Calls Tryz.prog 13 #[.string ⟨#[45, 43, 46, 101, 69]⟩, .int .u8 (c : Int)] v fun e w' => e = .returned (.int .i64 J) ∧ w' = v from by
          rw [hJ]
          exact Tryz.strings_IndexByte ⟨#[45, 43, 46, 101, 69]⟩ (c : Int) v)
        obtain ⟨T, hT⟩ : ∃ T, T = s.extract 0 K ++ ⟨#[c.toUInt8]⟩ ++ s.extract K s.size := ⟨_, rfl⟩
        have dT : T.data.toList = s.data.toList.take K ++ c.toUInt8 :: s.data.toList.drop K := by
          rw [hT, str_app, str_app, str_head, str_tail, List.append_assoc]
          rfl
        obtain ⟨X, hX⟩ : ∃ X, X = (decR T.data.toList).1 := ⟨_, rfl⟩
        obtain ⟨e', he'⟩ : ∃ e', e' = (decR T.data.toList).2 := ⟨_, rfl⟩
        have CT := Lib.hid (fun (v : World) (h : LE B v) => show Calls Tryz.prog 7 #[.string T] v (DqPost v (X, e')) from by
          have := dparse_any B T v h.de
          rw [show decR T.data.toList = (X, e') by rw [hX, he']] at this
          exact this)
        have H1 := Lib.hid (fun (v : World) => show Calls Tryz.prog 11 #[.string ⟨#[49]⟩, .int .i64 30] v (Bel v (.string ⟨(Lib.repeatL [49] 30).toArray⟩)) from HR.out ⟨#[49]⟩ 30 (by decide) (by decide) v)
        have H2 := Lib.hid (fun (v : World) (h : LE B v) => says_yes B ⟨(Lib.repeatL [49] 30).toArray⟩ 5041340318829193196 v h rd_ones)
        have hc0 : (0 : Int) ≤ (c : Int) := by omega
        have hfor : ¬ (48 ≤ c ∧ c ≤ 57) → J < 0 → e' = 160 := fun h1 h2 => by
          rw [hJ] at h2
          rw [he', dT, wrong_q _ _ _ (foreign c hc h1 h2)]
        have HT := Lib.hid hT
        have HF := Lib.hid hfor
        clear hK hJ hX he' dT hT hfor H30 H31 HR
        go_upto_region 11 with fail
        go_cut [11, 12] (fun kv mv wx => kv = .int .i64 (K : Int) ∧ ∃ M : Bool, mv = .bool M ∧ (M = true ∨ e' = 160) ∧ wx = wo)
        case first =>
          by_cases hd : 48 ≤ c ∧ c ≤ 57
          · have hd1 : (48 : Int) ≤ (c : Int) := by omega
            have hd2 : (c : Int) ≤ 57 := by omega
            clear hd
            go_wp2_with fail
            go_meet
            exact ⟨by first | rfl | rw [hKi], _, rfl, .inl (by first | rfl | exact decide_eq_true hd2 | exact decide_eq_true hj1), rfl⟩
          · by_cases hj : J < 0
            · have h160 := Lib.hid (HF.out hd hj)
              have hj2 : decide (0 ≤ J) = false := decide_eq_false (by omega)
              rcases Nat.lt_or_ge c 48 with h48 | h48
              · have hd1 : (c : Int) < 48 := by omega
                clear hd h48
                go_wp2_with (go_at_call 13; (with_reducible refine (HI.out _).mono ?_); rintro e v ⟨rfl, rfl⟩)
                go_meet
                exact ⟨by first | rfl | rw [hKi], _, rfl, .inr h160.out, rfl⟩
              · have hd1 : (48 : Int) ≤ (c : Int) := by omega
                have hd2 : (57 : Int) < (c : Int) := by omega
                clear hd h48
                go_wp2_with (go_at_call 13; (with_reducible refine (HI.out _).mono ?_); rintro e v ⟨rfl, rfl⟩)
                go_meet
                exact ⟨by first | rfl | rw [hKi], _, rfl, .inr h160.out, rfl⟩
            · have hj1 : 0 ≤ J := by omega
              rcases Nat.lt_or_ge c 48 with h48 | h48
              · have hd1 : (c : Int) < 48 := by omega
                clear hd h48
                go_wp2_with (go_at_call 13; (with_reducible refine (HI.out _).mono ?_); rintro e v ⟨rfl, rfl⟩)
                go_meet
                exact ⟨by first | rfl | rw [hKi], _, rfl, .inl (by first | rfl | exact decide_eq_true hd2 | exact decide_eq_true hj1), rfl⟩
              · have hd1 : (48 : Int) ≤ (c : Int) := by omega
                have hd2 : (57 : Int) < (c : Int) := by omega
                clear hd h48
                go_wp2_with (go_at_call 13; (with_reducible refine (HI.out _).mono ?_); rintro e v ⟨rfl, rfl⟩)
                go_meet
                exact ⟨by first | rfl | rw [hKi], _, rfl, .inl (by first | rfl | exact decide_eq_true hd2 | exact decide_eq_true hj1), rfl⟩
        case rest =>
          obtain ⟨rfl, M, rfl, hM, rfl⟩ := hcut
          have CT2 := Lib.hid (fun (v : World) (hb : Below wc.heap.size wc v) => (CT.out v (ER.out.below hb)).mono fun e w' (h : DqPost v (X, e') e w') => show e = _ ∧ Below wc.heap.size wc w' from ⟨h.1, hb.trans (h.2.mono hb.size)⟩)
          have hsz : (⟨#[c.toUInt8]⟩ : ByteArray).size = 1 := rfl
          have hcv := fun W : World => conv_one c hc W
          rw [HT.out] at CT2
          clear HI HF E2 B3 HC CT
          go_upto_region 12 with fail
          go_region_with (go_at_call 7; (refine (CT2.out _ ((Below.refl _ wc).alloc (Nat.le_refl _) _).drew).mono ?_); rintro e v ⟨rfl, hb⟩)
          all_goals
            have E0 := Lib.hid (ER.out.below hb)
            have B0 := Lib.hid (BR.out.trans (hb.mono BR.out.size))
            clear hb ER BR CT2 HT hcv
            rcases hM with rfl | rfl
            all_goals
              go_wp2_with (first
                | (go_at_call 11; (with_reducible refine (H1.out _).mono ?_); rintro e v ⟨rfl, hb⟩; have EN := Lib.hid (E0.out.below hb); have BN := Lib.hid (B0.out.trans (hb.mono B0.out.size)); clear hb E0 B0; have E0 := EN; have B0 := BN; clear EN BN)
                | (go_at_call 9; (with_reducible refine (H2.out _ E0.out).mono ?_); rintro e v ⟨rfl, hb⟩; have EN := Lib.hid (E0.out.below hb); have BN := Lib.hid (B0.out.trans (hb.mono B0.out.size)); clear hb E0 B0; have E0 := EN; have B0 := BN; clear EN BN)
                | (go_at_call 10; (with_reducible refine (AW.out _ E0.out).mono ?_); rintro e v ⟨rfl, hb⟩; have EN := Lib.hid (E0.out.below hb); have BN := Lib.hid (B0.out.trans (hb.mono B0.out.size)); clear hb E0 B0; have E0 := EN; have B0 := BN; clear EN BN))
              all_goals go_ret
              all_goals exact ⟨rfl, B0.out⟩
      · have hs20 : (20 : Int) < (s.size : Int) := by omega
        clear hs
        go_wp2_with (go_at_call 10; (with_reducible refine (AW.out _ ER.out).mono ?_); rintro e v ⟨rfl, hb⟩; have BN := Lib.hid (BR.out.trans (hb.mono BR.out.size)); clear hb)
        go_ret
        exact ⟨rfl, BN.out⟩
end Go.Proofs.YtbjengfoaobdbaaGreatDoor.lawd
