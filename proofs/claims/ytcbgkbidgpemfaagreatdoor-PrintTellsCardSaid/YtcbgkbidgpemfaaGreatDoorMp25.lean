/- burnishref19: the walks of name and numbers. Conditions: as each theorem states. -/
import Derived.Test.YtcbgkbidgpemfaaGreatDoorMp24
import Derived.Test.YtcbgkbidgpemfaaGreatDoorMp23
import Derived.Test.YtcbgkbidgpemfaaGreatDoorMp20
import Derived.Laws.FloatBits
import Derived.Laws.FloatArith
import Derived.Laws.Externs
import Derived.Deep.DeepCutAuto
namespace Go.Proofs.YtcbgkbidgpemfaaGreatDoor.rh
open Go.RowKit
open Go.Proofs.YtcbgkbidgpemfaaGreatDoor.nodew
open Go.Proofs.YtcbgkbidgpemfaaGreatDoor.rg
open Go.Proofs.YtcbgkbidgpemfaaGreatDoor.chkw
open Go.Proofs.YtcbgkbidgpemfaaGreatDoor.flatm
open Go.Proofs.YtcbgkbidgpemfaaGreatDoor.fpm
open Go.Proofs.YtcbgkbidgpemfaaGreatDoor.rdf
open Go.Proofs.YtcbgkbidgpemfaaGreatDoor.prnw

/-- the digits of a place, of one to four -/
def dgN (A : Nat) : Nat := if 1000 ≤ A then 4 else if 100 ≤ A then 3 else if 10 ≤ A then 2 else 1
theorem nm_all : (List.range 4096).all (fun A => decide (Lib.itoa (A : Int) = txL (dgN A) A)) = true := by decide +kernel
theorem nm_at (A : Nat) (h : A < 4096) : nmB (A : Int) = ⟨(110 :: txL (dgN A) A).toArray⟩ := by
  have := of_decide_eq_true (List.all_eq_true.1 nm_all A (List.mem_range.2 h))
  unfold nmB
  rw [this]
  rfl
set_option maxRecDepth 100000 in
set_option maxHeartbeats 1000000 in
theorem name19_any (A : Nat) (hA : A < 4096) (w : World) : Calls Tryz.prog 52 #[.int .i64 (A : Nat)] w (Bel w (.string (nmB (A : Int)))) := by
  rw [nm_at A hA]
  obtain ⟨T, hT⟩ : ∃ T, txL (dgN A) A = T := ⟨_, rfl⟩
  rw [hT]
  have HT := Lib.hid (And.intro hT hA)
  obtain ⟨n0, hn0⟩ : ∃ n0, n0 = A := ⟨_, rfl⟩
  rw [← hn0]
  have HN0 := Lib.hid hn0
  clear hT hn0 hA
  go_enter Tryz.func52, Tryz.ntmps52
  go_wp2_with fail
  go_loopw [0, 3] (fun s0 s3 wr => ∃ (i q : Nat) (l : List UInt8), i ≤ 3 ∧ q = A / 10 ^ i ∧ l = txL i A ∧ (i = 0 ∨ q ≠ 0) ∧ s0 = .int .i64 q ∧ s3 = .string ⟨l.toArray⟩ ∧ Below w.heap.size w wr) (fun s0 _ _ => (intOf s0).toNat)
  case atStart => exact ⟨0, n0, [], Nat.zero_le _, by rw [HN0.out, Nat.pow_zero, Nat.div_one], rfl, .inl rfl, rfl, rfl, Below.refl _ _⟩
  case round =>
    obtain ⟨i, q, l, hi, hq, hl, h0, rfl, rfl, hB⟩ := hrel
    obtain ⟨wo, rfl⟩ : ∃ wo : World, wo = wr := ⟨_, rfl⟩
    have HQ := Lib.hid (And.intro hq (And.intro hl (And.intro h0 hi)))
    have HB := Lib.hid hB
    have hq9 : q < 4096 := by
      rw [hq]
      exact Nat.lt_of_le_of_lt (Nat.div_le_self _ _) HT.out.2
    have hll : l.length ≤ 40 := by rw [hl, txL_len]; omega
    clear hq hl hB h0 hi
    obtain ⟨c, hc⟩ : ∃ c, 48 + q % 10 = c := ⟨_, rfl⟩
    obtain ⟨r, hr⟩ : ∃ r, q % 10 = r := ⟨_, rfl⟩
    obtain ⟨d, hd⟩ : ∃ d, q / 10 = d := ⟨_, rfl⟩
    have hqr : (q : Int).tmod 10 = (r : Int) := by rw [Int.tmod_eq_emod_of_nonneg (by omega)]; omega
    have hqd : (q : Int).tdiv 10 = (d : Int) := by rw [Int.tdiv_eq_ediv_of_nonneg (by omega)]; omega
    have hqr2 : (q : Int) % 10 = (r : Int) := by omega
    have hqd2 : (q : Int) / 10 = (d : Int) := by omega
    have hrc : (48 : Int) + (r : Int) = (c : Int) := by omega
    have hc57 : (c : Int) ≤ 57 := by omega
    have hcv := fun W : World => conv_two c (by omega) W
    have HC := Lib.hid (And.intro hc hd)
    have hls : (⟨l.toArray⟩ : ByteArray).size ≤ 40 := by show l.toArray.size ≤ 40; simpa using hll
    have hs1 : (⟨#[c.toUInt8]⟩ : ByteArray).size = 1 := rfl
    have hs2 : (⟨#[110]⟩ : ByteArray).size = 1 := rfl
    have hdq : d < q ∨ q = 0 := by omega
    clear hc hr hd
    have hld : d = A / 10 ^ (i + 1) := by rw [← HC.out.2, HQ.out.1, Nat.div_div_eq_div_mul, Nat.pow_succ]
    have hll2 : c.toUInt8 :: l = txL (i + 1) A := by
      rw [← HC.out.1, HQ.out.1, HQ.out.2.1]
      rfl
    have HL2 := Lib.hid (And.intro hld hll2)
    by_cases hz : d = 0
    · have hz1 : (d : Int) = 0 := by omega
      have HF := Lib.hid (show c.toUInt8 :: l = T by
        rw [hll2, ← HT.out.1]
        congr 1
        have h1 := HQ.out.1
        have h2 := HQ.out.2.2.1
        have h3 := HQ.out.2.2.2
        have h4 := HT.out.2
        unfold dgN
        have h5 : i = 0 ∨ i = 1 ∨ i = 2 ∨ i = 3 := by omega
        rcases h5 with rfl | rfl | rfl | rfl
        · rw [if_neg (by omega), if_neg (by omega), if_neg (by omega)]
        · rw [if_neg (by omega), if_neg (by omega), if_pos (by omega)]
        · rw [if_neg (by omega), if_pos (by omega)]
        · rw [if_pos (by omega)])
      subst hz
      clear hld hll2 hdq hz1
      go_wp2_with fail
      go_ret
      refine ⟨?_, HB.out.alloc HB.out.size _⟩
      rw [← HF.out]
      rfl
    · have hz1 : ¬ (d : Int) = 0 := by omega
      have hz2 : 0 < d := by omega
      have hdq2 : d < q := by omega
      have hi2 : i + 1 ≤ 3 := by
        have h3 := HQ.out.2.2.2
        have h4 := HT.out.2
        refine Nat.le_of_not_lt fun h => hz ?_
        have : i = 3 := by omega
        subst this
        omega
      clear hld hll2 hdq
      go_wp2_with fail
      refine ⟨⟨i + 1, d, c.toUInt8 :: l, hi2, HL2.out.1, HL2.out.2, .inr hz, by go_num, rfl, HB.out.alloc HB.out.size _⟩, by simp only [intOf]; omega⟩
/-- numbers, a blank ahead of each -/
def numL (xs : List Nat) : List UInt8 := (xs.map fun x => 32 :: prT hiP loP x).flatten
theorem numL_snoc (xs : List Nat) (x : Nat) : numL (xs ++ [x]) = numL xs ++ ([32] ++ prT hiP loP x) := by
  unfold numL
  rw [List.map_append, List.flatten_append]
  simp
theorem prT_len (x : Nat) (hx : x < 18446744073709551616) : (prT hiP loP x).length ≤ 101 := by
  have := prB_size (lo := loP) hh_T x hx
  unfold prnw.prB at this
  rw [bA_size] at this
  exact this
theorem numL_len : ∀ xs : List Nat, (∀ x ∈ xs, x < 18446744073709551616) → (numL xs).length ≤ 102 * xs.length
  | [], _ => Nat.zero_le _
  | x :: xs, h => by
    have h1 := numL_len xs fun y hy => h y (by simp [hy])
    have h2 := prT_len x (h x (by simp))
    have e : numL (x :: xs) = (32 :: prT hiP loP x) ++ numL xs := by unfold numL; simp
    rw [e, List.length_append, List.length_cons, List.length_cons]
    omega
set_option maxRecDepth 100000 in
set_option maxHeartbeats 1000000 in
theorem numbers_any (b c : Nat) (xs : List Nat) (hxs : ∀ x ∈ xs, x < 18446744073709551616) (hl : xs.length ≤ 9) (w : World) (hb : b < w.heap.size) (hcell : ∀ j x, xs[j]? = some x → w.cell? ⟨b, j, none⟩ = some (.float .f64 x)) :
    Calls Tryz.prog 53 #[.slice (some ⟨b, 0, none⟩) xs.length c] w (Bel w (.string (bA (numL xs)))) := by
  have HX := Lib.hid (And.intro hxs (And.intro hb hcell))
  have HP := Lib.hid (fun x hx W => print16_any x hx W)
  have hli : (xs.length : Int) ≤ 9 := by omega
  clear hxs hb hcell
  go_enter Tryz.func53, Tryz.ntmps53
  go_wp2_with fail
  go_loopw [3, 4] (fun s3 s4 wr => ∃ (i : Nat) (t : ByteArray), i ≤ xs.length ∧ s4 = .int .i64 i ∧ s3 = .string t ∧ t = bA (numL (xs.take i)) ∧ Below w.heap.size w wr) (fun _ s4 _ => xs.length - (intOf s4).toNat)
  case atStart => exact ⟨0, _, Nat.zero_le _, rfl, rfl, rfl, Below.refl _ _⟩
  case round =>
    obtain ⟨i, t, hi, rfl, rfl, ht, hB⟩ := hrel
    obtain ⟨wo, rfl⟩ : ∃ wo : World, wo = wr := ⟨_, rfl⟩
    have HT := Lib.hid ht
    have HB := Lib.hid hB
    have hts : t.size ≤ 1000 := by
      rw [ht, bA_size]
      have := numL_len (xs.take i) fun x hx => HX.out.1 x (List.mem_of_mem_take hx)
      have h2 : (xs.take i).length ≤ xs.length := by rw [List.length_take]; omega
      omega
    clear ht hB
    by_cases hlt : i < xs.length
    · have hlti : (i : Int) < (xs.length : Int) := by omega
      obtain ⟨x, hx⟩ : ∃ x, xs[i]? = some x := ⟨_, List.getElem?_eq_getElem hlt⟩
      have hxm : x < 18446744073709551616 := HX.out.1 x (List.mem_of_getElem? hx)
      have hcl : wo.cell? ⟨b, i, none⟩ = some (.float .f64 x) := by rw [HB.out.cell (p := ⟨b, i, none⟩) HX.out.2.1]; exact HX.out.2.2 i x hx
      have HPX := Lib.hid (fun W => HP.out x hxm W)
      have HXX := Lib.hid (And.intro hx hxm)
      clear hx hxm
      have hs1 : (⟨#[32]⟩ : ByteArray).size = 1 := rfl
      go_wp2_with (go_at_call 92; (with_reducible refine (HPX.out _).mono ?_); rintro e w1 ⟨⟨S, hS, rfl⟩, hb1⟩; have hSs : S.size ≤ 101 := (by rw [← list_len, hS]; exact prT_len x HXX.out.2); have HS := Lib.hid hS; have B1 := Lib.hid (HB.out.trans (hb1.mono HB.out.size)); clear hb1 hS)
      refine ⟨⟨i + 1, t ++ ⟨#[32]⟩ ++ S, by omega, by go_num, rfl, ?_, B1.out⟩, by simp only [intOf]; omega⟩
      refine bA_of ?_
      rw [app_list, app_list, HT.out, bA_list, HS.out, List.append_assoc]
      rw [List.take_add_one, HXX.out.1, Option.toList_some, numL_snoc]
    · have hie : i = xs.length := by omega
      have hge : ¬ (i : Int) < (xs.length : Int) := by omega
      have HF := Lib.hid (show t = bA (numL xs) by rw [HT.out, hie, List.take_length])
      clear hie
      go_wp2_with fail
      go_ret
      rw [HF.out]
      exact ⟨rfl, HB.out⟩
end Go.Proofs.YtcbgkbidgpemfaaGreatDoor.rh

/- The walk of burnishlaw18.Same at one row of nodes twice. Conditions: the nodes lie in memory, within the reach. -/
namespace Go.Proofs.YtcbgkbidgpemfaaGreatDoor.chkw
open Go.RowKit
open Go.Proofs.YtcbgkbidgpemfaaGreatDoor.nodew
open Go.Proofs.YtcbgkbidgpemfaaGreatDoor.qt
open Go.BigFrame
attribute [local go_sem] nodew.run_store_float

theorem fbits_run (x : Nat) (w : World) : (callFunc 63 #[.float .f64 x]).run Tryz.prog w = .ok (.value (.int .u64 x)) w := nodew.bits_run x w
attribute [local go_sem] fbits_run
theorem NRead.at {W : World} {B : Nat} {l : List Nd} {g off k : Nat} (h : l ≠ [] → ∃ g' off', some (⟨g, off, none⟩ : Addr) = some ⟨g', off', none⟩ ∧ g' < B ∧ g' < W.heap.size ∧ ∀ j u, (ncells l)[j]? = some u → W.cell? ⟨g', off' + j, none⟩ = some u) (hk : k < l.length) :
    g < W.heap.size ∧ ∀ u : World, u.heap[g]? = W.heap[g]? → (Instr.loadAt 49 (.pointer (some ⟨g, off + k * 19, none⟩))).run Tryz.prog u = .ok (l[k]).val u := by
  obtain ⟨g', off', e, _, hgl, hc⟩ := h (by intro e; subst e; simp at hk)
  injection e with e
  injection e with e1 e2
  subst e1 e2
  refine ⟨hgl, fun u hu => (l[k]).load_at u g (off + k * 19) fun j v hj => ?_⟩
  have hj' : j < 19 := by have := (List.getElem?_eq_some_iff.1 hj).1; rwa [nd_cells_len] at this
  rw [Nat.add_assoc]
  exact (World.cell?_of_block (a := ⟨g, off + (k * 19 + j), none⟩) hu).trans (hc (k * 19 + j) v (by rw [ncells_get l k j hk hj']; exact hj))

end Go.Proofs.YtcbgkbidgpemfaaGreatDoor.chkw

/- The first laws of NRead, as FlatTells wants them (check/XAwl without awake). Conditions: as each theorem states. -/
namespace Go.Proofs.YtcbgkbidgpemfaaGreatDoor.chkw
open Go.RowKit
open Go.Proofs.YtcbgkbidgpemfaaGreatDoor.nodew
open Go.Proofs.YtcbgkbidgpemfaaGreatDoor.qt

theorem NRead.mono {W : World} {B B' : Nat} {v : Value} {l : List Nd} (h : NRead W B v l) (hb : B ≤ B') : NRead W B' v l := by
  obtain ⟨A, c, hv, hx⟩ := h
  refine ⟨A, c, hv, fun h0 => ?_⟩
  obtain ⟨g, off, hA, hg, hgl, hcell⟩ := hx h0
  exact ⟨g, off, hA, by omega, hgl, hcell⟩
end Go.Proofs.YtcbgkbidgpemfaaGreatDoor.chkw

/- A stand-in for check/XProB: what FlatTells wants of it lies in bk/XFlaB. No conditions. -/
namespace Go.Proofs.YtcbgkbidgpemfaaGreatDoor.chkw
end Go.Proofs.YtcbgkbidgpemfaaGreatDoor.chkw
