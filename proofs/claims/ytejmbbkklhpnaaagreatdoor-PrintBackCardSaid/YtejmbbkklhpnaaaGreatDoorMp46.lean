/- burnishlaw19.PrintBack: the walk. Conditions: the nodes lie in memory, their numbers are numbers; the library's tables hold what the row lists. -/
import Derived.Test.YtejmbbkklhpnaaaGreatDoorMp44
import Derived.Test.YtejmbbkklhpnaaaGreatDoorMp45
import Derived.Test.YtejmbbkklhpnaaaGreatDoorMp27
import Derived.Test.YtejmbbkklhpnaaaGreatDoorMp43
import Derived.Test.YtejmbbkklhpnaaaGreatDoorRows
import Derived.Lib.LaidU8
import Derived.LaidMore
import Derived.ChangeArms
import Derived.Deep.Slices
import Derived.Below
import Derived.ChangeSame
namespace Go.Proofs.YtejmbbkklhpnaaaGreatDoor.bkr
open Go.RowKit
open Go.Proofs.YtejmbbkklhpnaaaGreatDoor.nodew
open Go.Proofs.YtejmbbkklhpnaaaGreatDoor.chkw
open Go.Proofs.YtejmbbkklhpnaaaGreatDoor.prnw (Bel Env Gl hiP loP bA bA_size textT textP textE text_any awake19)
open Go.Proofs.YtejmbbkklhpnaaaGreatDoor.flow (Laid)

theorem nread_ext {W u : World} {B : Nat} {v : Value} {l : List Nd} (h : NRead W B v l) (hb : Below W.heap.size W u) : NRead u B v l := h.keep hb.size fun g _ hg => hb.block g hg
theorem nread_up {W : World} {B B' : Nat} {v : Value} {l : List Nd} (h : NRead W B v l) (hb : B ≤ B') : NRead W B' v l := by
  obtain ⟨A, c, hv, hx⟩ := h
  refine ⟨A, c, hv, fun h0 => ?_⟩
  obtain ⟨g, off, hA, hB, r⟩ := hx h0
  exact ⟨g, off, hA, by omega, r⟩
/-- what the world holds all along -/
structure KW (B : Nat) (w u : World) : Prop where
  en : Env hiP loP u
  la : Laid B u
  gl : Gl u.heap.size
  lo : Below w.heap.size w u
theorem KW.on {B : Nat} {w u u' : World} (h : KW B w u) (hb : Below u.heap.size u u') : KW B w u' :=
  ⟨h.en.later hb, laid_below h.la hb, ⟨Nat.lt_of_lt_of_le h.gl.1 hb.size, Nat.lt_of_lt_of_le h.gl.2.1 hb.size, Nat.lt_of_lt_of_le h.gl.2.2 hb.size⟩, h.lo.trans (hb.mono h.lo.size)⟩
theorem text_of (l : List Nd) (hok : ∀ n ∈ l, n.ok) (h : rightP l = true) (hs : l.length ≤ 2000) : (bA (textT hiP loP l)).size ≤ 1000000 ∧ readL (bA (textT hiP loP l)).data.toList = (l, 0, 0) ∧ rdL (bA (textT hiP loP l)).data.toList = (l, true) := by
  have h1 := readL_text l hok h hs
  rw [prnw.bA_list]
  refine ⟨?_, h1, readL_rdL _ _ h1⟩
  rw [bA_size]
  have := bkm.text_len l hok h l.length (Nat.le_refl _)
  unfold textT
  rw [if_pos h]
  omega
theorem right_kd (l : List Nd) (h : rightP l = true) : ∀ n ∈ l, n.kind < 256 := fun n hn => by
  obtain ⟨hl4, hl0, hall⟩ := prnw.right_at h
  obtain ⟨i, hi, rfl⟩ := List.getElem_of_mem hn
  have := (prnw.node_facts (hall i hi) (by omega)).1
  omega
/-- what is read of a short text: few nodes -/
theorem rd_short (t : List UInt8) (ht : t.length ≤ 600) (h : (rdL t).2 = true) : rightP (rdL t).1 = true ∧ (∀ n ∈ (rdL t).1, n.ok) ∧ (rdL t).1.length ≤ 700 := by
  have h1 := rdL_readL t h
  obtain ⟨_, _, f3⟩ := readL_facts t (by omega)
  rw [h1] at f3
  obtain ⟨_, r1, r2⟩ := f3 rfl
  refine ⟨r1, r2, ?_⟩
  have e := of_decide_eq_true h
  have a3 : (checkS (rdP t).1).2.2 = 0 := by omega
  have a2 : (rdP t).2.2 = 0 := by omega
  obtain ⟨_, _, g3, _⟩ := checkS_front _ a3
  have x5 := (lex_facts t).2.2.2.2.1
  have hpl := parse_len flow.decE (((lexm.lexRes t).1).map pt)
  rw [List.length_map] at hpl
  show (checkS (rdP t).1).1.length ≤ 700
  rw [g3]
  have : (rdP t).1.length ≤ (lexm.lexRes t).1.length + 1 := hpl
  omega
where
  parse_len (dec : ByteArray → Nat × Nat) (ts : List parw.PTok) : (parw.parseRes dec ts).1.length ≤ ts.length + 1 := by
    have key : ∀ (f : Nat) (s : parw.RSt) (out : List parw.PStmt), (parw.parseL dec (parw.endOf ts) f s out).1.length ≤ out.length + f := by
      intro f
      induction f with
      | zero => exact fun s out => Nat.le_refl _
      | succ f ih =>
        intro s out
        unfold parw.parseL
        split
        · split
          · exact Nat.le_add_right _ _
          · split
            · exact Nat.le_trans (ih _ _) (by omega)
            · refine Nat.le_trans (ih _ _) ?_
              rw [List.length_append, List.length_singleton]
              omega
        · exact Nat.le_add_right _ _
    unfold parw.parseRes
    simp only
    split
    · have := key (ts.length + 1) ⟨ts, 0, 0⟩ []
      simpa using this
    · exact Nat.zero_le _
set_option maxRecDepth 100000 in
set_option maxHeartbeats 1000000 in
/-- the second half: what any text says -/
theorem back_any (B : Nat) (v : Value) (l : List Nd) (hok : ∀ n ∈ l, n.ok) (hkd : ∀ n ∈ l, n.kind < 256) (T : ByteArray) (w : World) (hr : NRead w B v l) (hB : B ≤ w.heap.size) (hE : Env hiP loP w) (hL : Laid B w) (hG : Gl w.heap.size) :
    Calls Tryz.prog 5 #[v, .string T] w (Bel w (.bool true)) := by
  obtain ⟨A, c, rfl, -⟩ := id hr
  have K0 := Lib.hid (KW.mk hE hL hG (Below.refl w.heap.size w))
  have CA := Lib.hid (fun (u : World) (hb : KW B w u) => awake19 u hb.en hb.gl)
  obtain ⟨N, hN⟩ : ∃ N, N = l.length := ⟨_, rfl⟩
  by_cases h40 : 40 < l.length
  · rw [← hN] at h40 ⊢
    have h40' : (40 : Int) < (N : Int) := by omega
    clear hok hkd hr hB hE hL hG hN
    go_enter Tryz.func5, Tryz.ntmps5
    go_wp2_with (go_at_call 12; (with_reducible refine (CA.out _ K0.out).mono ?_); rintro e w1 ⟨rfl, hb1⟩)
    go_ret
    exact ⟨rfl, hb1⟩
  by_cases h600 : 600 < T.size
  · rw [← hN] at h40 ⊢
    have h40' : ¬ (40 : Int) < (N : Int) := by omega
    have h600' : (600 : Int) < (T.size : Int) := by omega
    clear hok hkd hr hB hE hL hG hN
    go_enter Tryz.func5, Tryz.ntmps5
    go_wp2_with (go_at_call 12; (with_reducible refine (CA.out _ K0.out).mono ?_); rintro e w1 ⟨rfl, hb1⟩)
    go_ret
    exact ⟨rfl, hb1⟩
  have hl : l.length ≤ 40 := by omega
  have hTl : T.data.toList.length = T.size := by simp
  have CT := Lib.hid (fun (u : World) (hb : KW B w u) => text_any hiP loP B (.slice A l.length c) l hok hkd (by omega) u (nread_ext hr hb.lo) (Nat.le_trans hB hb.lo.size) hb.en hb.gl)
  have CR := Lib.hid (fun (u : World) (hb : KW B w u) => nodew.right_any B (.slice A l.length c) l hok (by omega) u (nread_ext hr hb.lo) (Nat.le_trans hB hb.lo.size))
  have CD := Lib.hid (fun (s : ByteArray) (hs : s.size ≤ 1000000) (u : World) (hb : KW B w u) => read_any B s (by omega) u hb.la (Nat.le_trans hB hb.lo.size))
  have CS := Lib.hid (fun (u : World) (hb : KW B w u) (v1 : Value) (B1 : Nat) (hB1 : B1 ≤ u.heap.size) (h1 : NRead u B1 v1 l) => same18_any u.heap.size v1 (.slice A l.length c) l l hok hok (by omega) (by omega) u (nread_up h1 hB1) (nread_up (nread_ext hr hb.lo) (Nat.le_trans hB hb.lo.size)) (Nat.le_refl _))
  obtain ⟨q, b, hqb⟩ : ∃ q b, rdL T.data.toList = (q, b) := ⟨_, _, rfl⟩
  have hq : b = true → rightP q = true ∧ (∀ n ∈ q, n.ok) ∧ (∀ n ∈ q, n.kind < 256) ∧ q.length ≤ 700 := fun h => by
    have := rd_short T.data.toList (by omega) (by rw [hqb]; exact h)
    rw [hqb] at this
    exact ⟨this.1, this.2.1, right_kd _ this.1, this.2.2⟩
  have CDT := Lib.hid (fun (u : World) (hb : KW B w u) => show Calls Tryz.prog 15 #[.string T] u (RdPost u (q, b)) from hqb ▸ CD.out T (by omega) u hb)
  have HQ := Lib.hid hq
  obtain ⟨S, hS⟩ : ∃ S, S = bA (textT hiP loP l) := ⟨_, rfl⟩
  obtain ⟨E, hEE⟩ : ∃ E, E = textE l := ⟨_, rfl⟩
  rw [← hS, ← hEE] at CT
  have hcase : (rightP l = false ∧ E = 190 ∧ S = ⟨#[]⟩) ∨ (rightP l = true ∧ E = 0 ∧ S.size ≤ 1000000 ∧ rdL S.data.toList = (l, true)) := by
    cases hp : rightP l with
    | false =>
      left
      refine ⟨rfl, ?_, ?_⟩
      · rw [hEE]
        unfold textE
        rw [if_neg (by rw [hp]; decide)]
      · rw [hS]
        unfold textT
        rw [if_neg (by rw [hp]; decide)]
        rfl
    | true =>
      right
      obtain ⟨t1, -, t3⟩ := text_of l hok hp (by omega)
      rw [hS]
      refine ⟨rfl, ?_, t1, t3⟩
      rw [hEE]
      unfold textE
      rw [if_pos hp]
  have h40' : ¬ (40 : Int) < (N : Int) := by omega
  have h600' : ¬ (600 : Int) < (T.size : Int) := by omega
  rw [← hN] at CT CR CS ⊢
  clear hok hkd hr hB hE hL hG hN hq hS hEE h40 h600 hl hTl hqb
  go_enter Tryz.func5, Tryz.ntmps5
  go_wp2_with fail
  refine (CT.out _ K0.out).mono ?_
  rintro e w1 ⟨rfl, hb1⟩
  have K1 := Lib.hid (K0.out.on hb1)
  clear hb1
  go_wp2_with fail
  refine (CR.out _ K1.out).mono ?_
  rintro e w2 ⟨rfl, hb2⟩
  have K2 := Lib.hid (K1.out.on hb2)
  clear hb2
  go_upto_if 31 with (fail)
  go_cut [7, 8] from 29 to 55 (fun s7 s8 wx => KW B w wx)
  case first =>
    rcases hcase with ⟨hp, rfl, rfl⟩ | ⟨hp, rfl, hSs, hSr⟩
    · rw [hp]
      go_wp2_with fail
      go_meet
      exact K2.out
    · rw [hp]
      have HS := Lib.hid (And.intro hSs hSr)
      clear hSs hSr
      go_wp2_with fail
      refine (CD.out S HS.out.1 _ K2.out).mono ?_
      rw [HS.out.2]
      rintro e w3 ⟨v3, rfl, ho3, hb3⟩
      have K3 := Lib.hid (K2.out.on hb3)
      have R3 := Lib.hid (NRead.of_own ho3)
      clear ho3 hb3
      have CS3 := Lib.hid (CS.out w3 K3.out v3 w3.heap.size (Nat.le_refl _) R3.out)
      rw [decide_true] at CS3
      go_wp2_with (go_at_call 16; (with_reducible refine CS3.out.mono ?_); rintro e w4 ⟨rfl, hb4⟩; have K4 := Lib.hid (K3.out.on hb4); clear hb4)
      go_meet
      exact K4.out
  case rest =>
    have K3 := Lib.hid hcut
    have CD5 := CD
    clear hcut K1 K2 CT CR CS CD
    go_wp2_with fail
    refine (CDT.out _ K3.out).mono ?_
    rintro e w4 ⟨v4, rfl, ho4, hb4⟩
    have K4 := Lib.hid (K3.out.on hb4)
    have R4 := Lib.hid (NRead.of_own ho4)
    clear ho4 hb4 CDT
    cases b with
    | false =>
      go_wp2_with (go_at_call 12; (with_reducible refine (CA.out _ K4.out).mono ?_); rintro e w5 ⟨rfl, hb5⟩; have K5 := Lib.hid (K4.out.on hb5); clear hb5)
      go_ret
      exact ⟨rfl, K5.out.lo⟩
    | true =>
      obtain ⟨q1, q2, q3, q4⟩ := HQ.out rfl
      obtain ⟨t1, -, t3⟩ := text_of q q2 q1 (by omega)
      have CT2 := text_any hiP loP w4.heap.size v4 q q2 q3 (by omega) w4 R4.out (Nat.le_refl _) K4.out.en K4.out.gl
      have he2 : textE q = 0 := by
        unfold textE
        rw [if_pos q1]
      rw [he2] at CT2
      obtain ⟨S2, hS2⟩ : ∃ S, S = bA (textT hiP loP q) := ⟨_, rfl⟩
      rw [← hS2] at CT2 t1 t3
      have HS2 := Lib.hid (And.intro t1 t3)
      have HQ2 := Lib.hid (And.intro q2 q4)
      clear q1 q2 q3 q4 t1 t3 he2 hS2 HQ
      go_wp2_with fail
      refine CT2.mono ?_
      rintro e w5 ⟨rfl, hb5⟩
      have K5 := Lib.hid (K4.out.on hb5)
      have R5 := Lib.hid (nread_ext R4.out hb5)
      have z5 := Lib.hid hb5.size
      clear CT2 hb5
      go_wp2_with fail
      refine (CD5.out S2 HS2.out.1 _ K5.out).mono ?_
      rw [HS2.out.2]
      rintro e w6 ⟨v6, rfl, ho6, hb6⟩
      have K6 := Lib.hid (K5.out.on hb6)
      have CS6 := Lib.hid (same18_any w6.heap.size v4 v6 q q HQ2.out.1 HQ2.out.1 (by have := HQ2.out.2; omega) (by have := HQ2.out.2; omega) w6 (nread_up (nread_ext R5.out hb6) (Nat.le_trans z5.out hb6.size)) (NRead.of_own ho6) (Nat.le_refl _))
      rw [decide_eq_true (rfl : q = q)] at CS6
      clear ho6 hb6
      go_wp2_with (first
        | (go_at_call 16; (with_reducible refine CS6.out.mono ?_); rintro e w7 ⟨rfl, hb7⟩; have K7 := Lib.hid (K6.out.on hb7); clear hb7)
        | (go_at_call 12; (with_reducible refine (CA.out _ K7.out).mono ?_); rintro e w8 ⟨rfl, hb8⟩; have K8 := Lib.hid (K7.out.on hb8); clear hb8))
      go_ret
      exact ⟨rfl, K8.out.lo⟩
end Go.Proofs.YtejmbbkklhpnaaaGreatDoor.bkr

/- What the listed variables hold, out of the row's condition. No condition. -/
namespace Go.Proofs.YtejmbbkklhpnaaaGreatDoor.flow
open Go.RowKit
open Go.Proofs.YtejmbbkklhpnaaaGreatDoor.parw
open Go.Proofs.YtejmbbkklhpnaaaGreatDoor.rdf
open Go.Proofs.YtejmbbkklhpnaaaGreatDoor.dcw
open Go.Proofs.YtejmbbkklhpnaaaGreatDoor.dmx
open Go.Proofs.YtejmbbkklhpnaaaGreatDoor.fpm
open Go.Proofs.YtejmbbkklhpnaaaGreatDoor.prnw

section
variable {H : Type} {enc : TypeId × Value → H} {P : Program} {w : World} {base : Nat} {sp : Nat → Bool} {held : Bool}
theorem trod_float {fuel : Nat} {t : TypeId} {cs : List Value} {k : FloatKind} {x : DataW H × List MemPlace} (ht : P.underlying t = some (.float k)) (h : DataW.trod enc P w base sp held fuel t cs = some x) : ∃ n, cs = [.float k n] ∧ x = (.lit (.float k n), []) := by
  cases fuel with
  | zero => simp [DataW.trod] at h
  | succ n =>
    unfold DataW.trod at h
    rw [ht] at h
    split at h <;> simp_all
theorem trod_face {fuel : Nat} {t : TypeId} {ms : Array (String × TypeId)} {cs : List Value} {x : DataW H × List MemPlace} (ht : P.underlying t = some (.interface ms)) (h : DataW.trod enc P w base sp held fuel t cs = some x) : ∃ v, cs = [v] ∧ (v = .nilIface ∨ ∃ te pe, v = .iface te pe) := by
  cases fuel with
  | zero => simp [DataW.trod] at h
  | succ n =>
    unfold DataW.trod at h
    rw [ht] at h
    split at h <;> simp_all
/-- a row of elements of k cells -/
theorem open_rows {t e : TypeId} {k fuel : Nat} {cs : List Value} {ds : List (DataW H)} {p : List MemPlace} (ht : P.underlying t = some (.slice e)) (hc : P.cellsOf e = k) (hk : 0 < k) (h0 : 0 < ds.length)
    (h : DataW.trod enc P w base sp held fuel t cs = some (.slice ds [], p)) :
    ∃ g off cap, cs = [.slice (some ⟨g, off, none⟩) ds.length cap] ∧ g < w.heap.size ∧ ∀ i d, ds[i]? = some d → ∃ us n q, us.length = k ∧ (∀ j u, us[j]? = some u → w.cell? ⟨g, off + (i * k + j), none⟩ = some u) ∧ DataW.trod enc P w base sp held n e us = some (d, q) := by
  rcases DataW.trod_slice ht h with ⟨_, hx⟩ | ⟨a, len, cap, elems, rest, n, _, hcs, hx, _, hl, _, hlen, hel, _⟩
  · simp at hx
  · simp only [Prod.mk.injEq, DataW.slice.injEq] at hx
    obtain ⟨⟨rfl, _⟩, _⟩ := hx
    have el : (elems.map (·.1)).length = len := by simpa using hlen
    have key : ∀ i d, (elems.map (·.1))[i]? = some d → ∃ us q, us.length = k ∧ (∀ j u, us[j]? = some u → w.cell? (a.add (i * k + j)) = some u) ∧ DataW.trod enc P w base sp held n e us = some (d, q) := fun i d hd => by
      rw [List.getElem?_map, Option.map_eq_some_iff] at hd
      obtain ⟨⟨d', q⟩, hd, rfl⟩ := hd
      have hil : i < len := by
        have := (List.getElem?_eq_some_iff.1 hd).1
        omega
      have hi := hel i hil
      rw [hd, hc, Option.bind_eq_some_iff] at hi
      obtain ⟨us, hus, htr⟩ := hi
      obtain ⟨_, hcl, hat⟩ := World.cells?_some hus
      refine ⟨us, q, hcl, fun j u hu => ?_, htr⟩
      have hj : j < k := by have := (List.getElem?_eq_some_iff.1 hu).1; omega
      have := hat j hj
      rw [Go.Deep.add_add] at this
      rw [this, hu]
    obtain ⟨d0, hd0⟩ : ∃ d0, (elems.map (·.1))[0]? = some d0 := ⟨_, List.getElem?_eq_getElem h0⟩
    obtain ⟨us0, q0, hu0, hat0, _⟩ := key 0 d0 hd0
    have hc0 := hat0 0 _ (List.getElem?_eq_getElem (by omega))
    have ha0 : a.add (0 * k + 0) = a := by unfold Addr.add; simp
    rw [ha0] at hc0
    obtain ⟨g, off, spot⟩ := a
    have hspot : spot = none := by
      cases spot with
      | none => rfl
      | some p => unfold World.cell? at hc0; split at hc0 <;> simp at hc0
    subst hspot
    refine ⟨g, off, cap, by rw [hcs, el], World.block_lt_of_cell? w _ hc0, fun i d hd => ?_⟩
    obtain ⟨us, q, h1, h2, h3⟩ := key i d hd
    refine ⟨us, n, q, h1, fun j u hu => ?_, h3⟩
    have := h2 j u hu
    have hadd : (⟨g, off, none⟩ : Addr).add (i * k + j) = ⟨g, off + (i * k + j), none⟩ := by unfold Addr.add; split <;> simp_all
    rwa [hadd] at this
end
/-- the table of the shifts to the left, checked -/
def cheatB (k : Nat) : Bool :=
  let r := Go.Pinned.cheatRows.getD k (0, [])
  let c := r.2.length
  decide (r.1 = k + 1 - c) && decide (c ≤ k) && decide (10 ^ c ≤ 10 * 5 ^ k) && decide (5 ^ k < 10 ^ c) && (List.range c).all (fun j => decide ((r.2.getD j 0).toNat = 48 + 5 ^ k / 10 ^ (c - 1 - j) % 10))
theorem cheats_ok : (List.range 60).all (fun k => cheatB (k + 1)) = true := by kernel_rfl
theorem cheats_len : Go.Pinned.cheatRows.length = 61 := by kernel_rfl
theorem powtab_ok : (Rows.laid_internal_strconv_powtab (H := Unit)) = .slice ((List.range 9).map fun k => .lit (.int .i64 (powT k : Nat))) [] := by kernel_rfl
theorem pow10_ok : (Rows.laid_internal_strconv_float64pow10 (H := Unit)) = .slice ((List.range 23).map fun k => .lit (.float .f64 (p10 k))) [] := by kernel_rfl
set_option maxRecDepth 100000 in
theorem laid_of (L : List (String × DataW Unit)) (W : World) (h : laidMet Tryz.prog L W) (m1 : ("internal/strconv.optimize", Rows.laid_internal_strconv_optimize) ∈ L) (m2 : ("internal/strconv.float64info", Rows.laid_internal_strconv_float64info) ∈ L)
    (m3 : ("internal/strconv.float64pow10", Rows.laid_internal_strconv_float64pow10) ∈ L) (m4 : ("internal/strconv.powtab", Rows.laid_internal_strconv_powtab) ∈ L) (m5 : ("strconv.ErrRange", Rows.laid_strconv_ErrRange) ∈ L)
    (m6 : ("internal/strconv.leftcheats", Rows.laid_internal_strconv_leftcheats) ∈ L) (m7 : ("internal/strconv.pow10Tab", Rows.laid_internal_strconv_pow10Tab) ∈ L) : Laid W.heap.size W := by
  obtain ⟨g1, t1, cs1, f1, p1, hg1, ht1, hv1, hd1⟩ := Lib.laidMet.reads h m1
  obtain ⟨g2, t2, cs2, f2, p2, hg2, ht2, hv2, hd2⟩ := Lib.laidMet.reads h m2
  obtain ⟨g3, t3, cs3, f3, p3, hg3, ht3, hv3, hd3⟩ := Lib.laidMet.reads h m3
  obtain ⟨g4, t4, cs4, f4, p4, hg4, ht4, hv4, hd4⟩ := Lib.laidMet.reads h m4
  obtain ⟨g5, t5, cs5, f5, p5, hg5, ht5, hv5, hd5⟩ := Lib.laidMet.reads h m5
  obtain ⟨g6, t6, cs6, f6, p6, hg6, ht6, hv6, hd6⟩ := Lib.laidMet.reads h m6
  obtain ⟨g7, t7, cs7, f7, p7, hg7, ht7, hv7, hd7⟩ := Lib.laidMet.reads h m7
  obtain rfl := Option.some.inj ((show Tryz.prog.globalNamed "internal/strconv.optimize" = some 2 by kernel_rfl).symm.trans hg1)
  obtain rfl := Option.some.inj ((show Tryz.prog.globalNamed "internal/strconv.float64info" = some 11 by kernel_rfl).symm.trans hg2)
  obtain rfl := Option.some.inj ((show Tryz.prog.globalNamed "internal/strconv.float64pow10" = some 16 by kernel_rfl).symm.trans hg3)
  obtain rfl := Option.some.inj ((show Tryz.prog.globalNamed "internal/strconv.powtab" = some 15 by kernel_rfl).symm.trans hg4)
  obtain rfl := Option.some.inj ((show Tryz.prog.globalNamed "strconv.ErrRange" = some 4 by kernel_rfl).symm.trans hg5)
  obtain rfl := Option.some.inj ((show Tryz.prog.globalNamed "internal/strconv.leftcheats" = some 9 by kernel_rfl).symm.trans hg6)
  obtain rfl := Option.some.inj ((show Tryz.prog.globalNamed "internal/strconv.pow10Tab" = some 8 by kernel_rfl).symm.trans hg7)
  obtain rfl := Option.some.inj ((show (Tryz.prog.globals[2]?).map (·.type) = some 4 by kernel_rfl).symm.trans ht1)
  obtain rfl := Option.some.inj ((show (Tryz.prog.globals[11]?).map (·.type) = some 263 by kernel_rfl).symm.trans ht2)
  obtain rfl := Option.some.inj ((show (Tryz.prog.globals[16]?).map (·.type) = some 106 by kernel_rfl).symm.trans ht3)
  obtain rfl := Option.some.inj ((show (Tryz.prog.globals[15]?).map (·.type) = some 86 by kernel_rfl).symm.trans ht4)
  obtain rfl := Option.some.inj ((show (Tryz.prog.globals[4]?).map (·.type) = some 73 by kernel_rfl).symm.trans ht5)
  obtain rfl := Option.some.inj ((show (Tryz.prog.globals[9]?).map (·.type) = some 248 by kernel_rfl).symm.trans ht6)
  obtain rfl := Option.some.inj ((show (Tryz.prog.globals[8]?).map (·.type) = some 243 by kernel_rfl).symm.trans ht7)
  have k1 : W.cell? ⟨2, 0, none⟩ = some (.bool true) := by
    obtain ⟨b, hb, hx⟩ := DataW.trod_bool Tryz.underlying4 hd1
    have : b = true := by
      have := congrArg Prod.fst hx
      simp [Rows.laid_internal_strconv_optimize] at this
      exact this
    subst this
    rw [World.var?_cell hg1 hv1 0]
    have : cs1[0]? = cs1.toList[0]? := by simp
    rw [this, hb]; rfl
  have k2 : W.cell? ⟨11, 0, none⟩ = some (.int .u64 52) ∧ W.cell? ⟨11, 1, none⟩ = some (.int .u64 11) ∧ W.cell? ⟨11, 2, none⟩ = some (.int .i64 (-1023)) := by
    obtain ⟨xs, n, _, hx, hlen, hn, hf⟩ := DataW.trod_struct Tryz.underlying263 hd2
    have hx1 := congrArg Prod.fst hx
    simp only [Rows.laid_internal_strconv_float64info, DataW.agg.injEq] at hx1
    have hc3 : Tryz.prog.cellsOf 263 = 3 := by kernel_rfl
    have hcu : Tryz.prog.cellsOf 166 = 1 := by kernel_rfl
    have hci : Tryz.prog.cellsOf 3 = 1 := by kernel_rfl
    rw [hc3] at hlen
    have hl : ∀ j, j < 3 → cs2[j]? = cs2.toList[j]? := fun j _ => by simp
    obtain ⟨cl, hcl⟩ : ∃ cl, cs2.toList = cl := ⟨_, rfl⟩
    rw [hcl] at hlen hf
    match cl, hlen, xs, hx1 with
    | [c0, c1, c2], _, [y0, y1, y2], hx1 =>
      simp only [List.map_cons, List.map_nil, List.cons.injEq, and_true] at hx1
      have h0 := hf 0 _ rfl
      change DataW.trod _ Tryz.prog W 0 _ false n 166 ((List.drop 0 [c0, c1, c2]).take (Tryz.prog.cellsOf 166)) = some y0 at h0
      rw [hcu] at h0
      have h1 := hf 1 _ rfl
      change DataW.trod _ Tryz.prog W 0 _ false n 166 ((List.drop 1 [c0, c1, c2]).take (Tryz.prog.cellsOf 166)) = some y1 at h1
      rw [hcu] at h1
      have h2 := hf 2 _ rfl
      change DataW.trod _ Tryz.prog W 0 _ false n 3 ((List.drop 2 [c0, c1, c2]).take (Tryz.prog.cellsOf 3)) = some y2 at h2
      rw [hci] at h2
      obtain ⟨z0, e0, f0, _⟩ := DataW.trod_int Tryz.underlying166 h0
      obtain ⟨z1, e1, f1, _⟩ := DataW.trod_int Tryz.underlying166 h1
      obtain ⟨z2, e2, f2, _⟩ := DataW.trod_int Tryz.underlying3 h2
      rw [f0, f1, f2] at hx1
      have q0 : z0 = 52 := by simpa using hx1.1.symm
      have q1 : z1 = 11 := by simpa using hx1.2.1.symm
      have q2 : z2 = -1023 := by simpa using hx1.2.2.symm
      have r0 : c0 = .int .u64 z0 := by simpa using e0
      have r1 : c1 = .int .u64 z1 := by simpa using e1
      have r2 : c2 = .int .i64 z2 := by simpa using e2
      refine ⟨?_, ?_, ?_⟩
      · rw [World.var?_cell hg2 hv2 0, hl 0 (by omega), hcl, r0, q0]; rfl
      · rw [World.var?_cell hg2 hv2 1, hl 1 (by omega), hcl, r1, q1]; rfl
      · rw [World.var?_cell hg2 hv2 2, hl 2 (by omega), hcl, r2, q2]; rfl
  have k3 : FT W.heap.size W := by
    rw [pow10_ok] at hd3
    obtain ⟨g, off, cap, hcs, hg, hel⟩ := open_rows (k := 1) Tryz.underlying106 (by kernel_rfl) (by omega) (by decide) hd3
    have c3 : W.cell? ⟨16, 0, none⟩ = some (.slice (some ⟨g, off, none⟩) 23 cap) := by
      rw [World.var?_cell hg3 hv3 0]
      have : cs3[0]? = cs3.toList[0]? := by simp
      rw [this, hcs]
      rfl
    refine ⟨World.block_lt_of_cell? W _ c3, g, off, cap, hg, c3, fun k hk => ?_⟩
    obtain ⟨us, n, q, h1, h2, h3⟩ := hel k (.lit (.float .f64 (p10 k))) (by rw [List.getElem?_map, List.getElem?_range (by omega)]; rfl)
    obtain ⟨z, hz, hx⟩ := trod_float Tryz.underlying38 h3
    have hz' : z = p10 k := by
      have := congrArg Prod.fst hx
      simpa using this.symm
    have := h2 0 (.float .f64 z) (by rw [hz]; rfl)
    rw [hz'] at this
    rw [← this]
    congr 2
    omega
  have k4 : ∃ bb bo cap, bb < W.heap.size ∧ W.cell? ⟨15, 0, none⟩ = some (.slice (some ⟨bb, bo, none⟩) 9 cap) ∧ ∀ d, d ≤ 8 → W.cell? ⟨bb, bo + d, none⟩ = some (.int .i64 (powT d : Nat)) := by
    rw [powtab_ok] at hd4
    obtain ⟨g, off, cap, hcs, hg, hel⟩ := open_rows (k := 1) Tryz.underlying86 (by kernel_rfl) (by omega) (by decide) hd4
    have c4 : W.cell? ⟨15, 0, none⟩ = some (.slice (some ⟨g, off, none⟩) 9 cap) := by
      rw [World.var?_cell hg4 hv4 0]
      have : cs4[0]? = cs4.toList[0]? := by simp
      rw [this, hcs]
      rfl
    refine ⟨g, off, cap, hg, c4, fun k hk => ?_⟩
    obtain ⟨us, n, q, h1, h2, h3⟩ := hel k (.lit (.int .i64 (powT k : Nat))) (by rw [List.getElem?_map, List.getElem?_range (by omega)]; rfl)
    obtain ⟨z, hz, hx, _⟩ := DataW.trod_int Tryz.underlying3 h3
    have hz' : z = (powT k : Nat) := by
      have := congrArg Prod.fst hx
      simpa using this.symm
    have := h2 0 (.int .i64 z) (by rw [hz]; rfl)
    rw [hz'] at this
    rw [← this]
    congr 2
    omega
  have k5 : ∃ v, W.cell? ⟨4, 0, none⟩ = some v ∧ (v = .nilIface ∨ ∃ te pe, v = .iface te pe) := by
    obtain ⟨v, hv, hx⟩ := trod_face Tryz.underlying73 hd5
    refine ⟨v, ?_, hx⟩
    rw [World.var?_cell hg5 hv5 0]
    have : cs5[0]? = cs5.toList[0]? := by simp
    rw [this, hv]
    rfl
  have k6 : LC W.heap.size W := by
    have hd6' : DataW.trod _ Tryz.prog W 0 _ false f6 248 cs6.toList = some (.slice (Go.Pinned.cheatRows.map fun x => .agg [.lit (.int .i64 x.1), .lit (.string x.2)]) [], p6) := hd6
    have hl0 : (Go.Pinned.cheatRows.map fun x => (DataW.agg [.lit (.int .i64 x.1), .lit (.string x.2)] : DataW Unit)).length = 61 := by rw [List.length_map, cheats_len]
    obtain ⟨g, off, cap, hcs, hg, hel⟩ := open_rows (k := 2) Tryz.underlying248 (by kernel_rfl) (by omega) (by rw [hl0]; decide) hd6'
    rw [hl0] at hcs
    have c6 : W.cell? ⟨9, 0, none⟩ = some (.slice (some ⟨g, off, none⟩) 61 cap) := by
      rw [World.var?_cell hg6 hv6 0]
      have : cs6[0]? = cs6.toList[0]? := by simp
      rw [this, hcs]
      rfl
    refine ⟨World.block_lt_of_cell? W _ c6, g, off, cap, hg, c6, fun k hk1 hk => ?_⟩
    have hb := List.all_eq_true.1 cheats_ok (k - 1) (List.mem_range.2 (by omega))
    rw [show k - 1 + 1 = k by omega] at hb
    unfold cheatB at hb
    obtain ⟨⟨x1, x2⟩, hx⟩ : ∃ x, Go.Pinned.cheatRows.getD k (0, []) = x := ⟨_, rfl⟩
    have hk61 : k < Go.Pinned.cheatRows.length := by rw [cheats_len]; omega
    have hget : Go.Pinned.cheatRows[k]? = some (x1, x2) := by
      rw [← hx, List.getD_eq_getElem?_getD, List.getElem?_eq_getElem hk61]
      rfl
    simp only [hx, Bool.and_eq_true, decide_eq_true_eq] at hb
    obtain ⟨⟨⟨⟨b1, b2⟩, b3⟩, b4⟩, b5⟩ := hb
    obtain ⟨us, n, q, h1, h2, h3⟩ := hel k _ (by rw [List.getElem?_map, hget]; rfl)
    obtain ⟨xs, m, _, hxx, hlen, hn, hf⟩ := DataW.trod_struct Tryz.underlying247 h3
    have hx1 := congrArg Prod.fst hxx
    simp only [DataW.agg.injEq] at hx1
    have hci : Tryz.prog.cellsOf 3 = 1 := by kernel_rfl
    have hcs1 : Tryz.prog.cellsOf 9 = 1 := by kernel_rfl
    match us, h1, xs, hx1 with
    | [u0, u1], _, [y0, y1], hx1 =>
      simp only [List.map_cons, List.map_nil, List.cons.injEq, and_true] at hx1
      have h30 := hf 0 _ rfl
      change DataW.trod _ Tryz.prog W 0 _ false m 3 ((List.drop 0 [u0, u1]).take (Tryz.prog.cellsOf 3)) = some y0 at h30
      rw [hci] at h30
      have h31 := hf 1 _ rfl
      change DataW.trod _ Tryz.prog W 0 _ false m 9 ((List.drop 1 [u0, u1]).take (Tryz.prog.cellsOf 9)) = some y1 at h31
      rw [hcs1] at h31
      obtain ⟨z0, e0, f0, _⟩ := DataW.trod_int Tryz.underlying3 h30
      obtain ⟨s1, e1, f1, _⟩ := DataW.trod_string Tryz.underlying9 h31
      rw [f0, f1] at hx1
      have q0 : z0 = ((x1 : Nat) : Int) := by simpa using hx1.1.symm
      have q1 : s1.data.toList = x2 := by simpa using hx1.2.symm
      have r0 : u0 = .int .i64 z0 := by simpa using e0
      have r1 : u1 = .string s1 := by simpa using e1
      have hsz : s1.size = x2.length := by rw [← q1]; simp
      refine ⟨x2.length, s1, ?_, ?_, ⟨hsz, fun j hj => ?_⟩, b3, b4, b2⟩
      · have := h2 0 _ rfl
        rw [r0, q0, b1] at this
        exact this
      · have := h2 1 _ rfl
        rw [r1] at this
        exact this
      · have hb5 := List.all_eq_true.1 b5 j (List.mem_range.2 (by omega))
        have hb6 := of_decide_eq_true hb5
        have e : s1[j] = x2.getD j 0 := by
          rw [← q1, List.getD_eq_getElem?_getD, List.getElem?_eq_getElem (by simpa using hj)]
          rfl
        rw [e]
        exact hb6
  have k7 : PT hiT loT W := fun i hi => by
    obtain ⟨f', d, q, hd, he⟩ := Lib.array_elem Tryz.underlying243 hd7 i hi
    have hlen : Go.Pinned.pow10Rows.length = 696 := by kernel_rfl
    have hr : Go.Pinned.pow10Rows[i]? = some (hiT i, loT i) := by
      have : i < Go.Pinned.pow10Rows.length := by rw [hlen]; exact hi
      unfold hiT loT
      rw [List.getD_eq_getElem?_getD, List.getElem?_eq_getElem this]
      rfl
    rw [List.getElem?_map, hr] at hd
    obtain rfl := (Option.some.inj hd).symm
    obtain ⟨r1, r2, r3, _⟩ := row_spec i hi
    have hz := Lib.ints_of_struct (zs := [(hiT i : Int), (loT i : Int)]) (k := .u64) Tryz.underlying242 (fun j f hf => ?_) (by kernel_rfl) he
    · have hc2 : Tryz.prog.cellsOf 242 = 2 := by kernel_rfl
      rw [hc2] at hz
      have c0 : cs7[i * 2]? = some (.int .u64 (hiT i : Int)) := by
        have := congrArg (·[0]?) hz
        simpa [List.getElem?_take, List.getElem?_drop] using this
      have c1 : cs7[i * 2 + 1]? = some (.int .u64 (loT i : Int)) := by
        have := congrArg (·[1]?) hz
        simpa [List.getElem?_take, List.getElem?_drop] using this
      exact ⟨r2, r3, by rw [World.var?_cell hg7 hv7 (i * 2)]; exact c0, by rw [World.var?_cell hg7 hv7 (i * 2 + 1)]; exact c1⟩
    · match j, hf with
      | 0, hf => obtain rfl := Option.some.inj hf; exact ⟨Tryz.underlying96, rfl, by kernel_rfl⟩
      | 1, hf => obtain rfl := Option.some.inj hf; exact ⟨Tryz.underlying96, rfl, by kernel_rfl⟩
      | k + 2, hf => cases hf
  obtain ⟨bb, bo, cap, n1, n2, n3⟩ := k4
  obtain ⟨v5, v51, v52⟩ := k5
  exact ⟨⟨⟨k6, World.block_lt_of_cell? W _ k2.1, k2.1, k2.2.1, k2.2.2, World.block_lt_of_cell? W _ n2, bb, bo, cap, n1, n2, n3⟩, k3, k7, World.block_lt_of_cell? W _ (k7 0 (by decide)).2.2.1, World.block_lt_of_cell? W _ k1, k1, Nat.le_refl _⟩, World.block_lt_of_cell? W _ v51, v5, v51, v52⟩
end Go.Proofs.YtejmbbkklhpnaaaGreatDoor.flow

/- A small lemma for every law of this seat: what has only grown is as the row asks. Its text is the guide's (extra-small), as the guide bids to copy it. -/
namespace Go.Proofs.YtejmbbkklhpnaaaGreatDoor.post
open Go.RowKit Go.WideShapes Go.ChangeShapes
section
variable {H : Type} {enc : TypeId × Value → H} {P : Program}
theorem post_of_below {f : Func} {s : ChangeSpec} {apart fresh handsOn again : Bool} {W W' : World} {args : Array Value} {v : Value} {ds gs : List (DataW H)} {before pa pv : List MemPlace}
    (hW : DataW.Whole enc P f.params.toList s.vars apart W args.toList ds gs before)
    (hres : ∀ (b : Nat) (sp : Nat → Bool) (hd : Bool), DataW.TrodAll enc P W' b sp hd f.resultTypes.toList (v.resultList f.resultTypes.size) (s.fn H (ds ++ gs)).results [])
    (hargs : ∀ sp : Nat → Bool, (∀ p ∈ before, sp p.block = true) → DataW.TrodAll enc P W' 0 sp true f.params.toList args.toList (s.fn H (ds ++ gs)).args pa)
    (hvars : ∀ sp : Nat → Bool, (∀ p ∈ before, sp p.block = true) → DataW.TrodVars enc P W' sp s.vars (s.fn H (ds ++ gs)).vars pv)
    (hps : before = pa ++ pv) (hb : Below W.heap.size W W')
    (hok : ∀ (j : Nat) (t : TypeId) (r : Value), f.resultTypes[j]? = some t → (v.resultList f.resultTypes.size)[j]? = some r → Value.okWide P W' .any 0 t r) :
    s.post enc P f apart fresh handsOn again W args v W' := by
  have hlt : ∀ p ∈ before, p.block < W.heap.size := fun p hp => hW.lt p hp
  have hold : ∀ p ∈ before, (fun b => decide (b < W.heap.size)) p.block = true := fun p hp => by simpa using hlt p hp
  refine ⟨ds, gs, before, [], pa, pv, hW, hres _ _ _, hargs _ hold, hvars _ hold, World.keptBut_mono (fun p hp => ⟨hp, ?_⟩) (hb.frame (· ∈ before)), fun _ => ?_⟩
  · rw [hps, List.mem_append] at hp
    exact Or.inr hp
  · obtain ⟨_, _, _, _, _, hz, hn⟩ := hW
    refine ⟨hok, _, _, ([] ++ pa) ++ pv, ⟨[] ++ pa, pv, trodAll_append (hargs _ (fun _ _ => rfl)) (hres _ _ _), hvars _ (fun _ _ => rfl), rfl, ?_, ?_⟩, ?_⟩
    · intro b off hp
      have hin : MemPlace.cell b off ∈ before := by rw [hps]; simpa using hp
      rw [hb.frozen (hlt _ hin)]
      exact hz b off hin
    · intro ha
      have := hn ha
      rw [hps] at this
      simpa using this
    · intro p hp _
      rw [hps]
      simpa using hp
end
end Go.Proofs.YtejmbbkklhpnaaaGreatDoor.post
