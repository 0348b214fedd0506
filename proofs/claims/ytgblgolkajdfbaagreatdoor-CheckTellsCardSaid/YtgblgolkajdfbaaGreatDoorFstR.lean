/- What a slice of statements that the row reads is. No conditions. -/
import Derived.Test.YtgblgolkajdfbaaGreatDoorFstA
import Derived.Test.YtgblgolkajdfbaaGreatDoorNdR
namespace Go.Proofs.YtgblgolkajdfbaaGreatDoor.chkw
open Go.RowKit
open Go.Proofs.YtgblgolkajdfbaaGreatDoor.lexw
open Go.Proofs.YtgblgolkajdfbaaGreatDoor.parw
open Go.Proofs.YtgblgolkajdfbaaGreatDoor.nodew
open Go.ChangeShapes Go.WideShapes Go.Deep

section
variable {H : Type} {enc : TypeId × Value → H} {w : World} {base : Nat} {held : Bool}
/-- a slice whose elements are rows of k cells -/
theorem rows_of {t e : TypeId} {k : Nat} (ht : Tryz.prog.underlying t = some (.slice e)) (hC : Tryz.prog.cellsOf e = k) {α : Type} (f : α → List Value) (hlen : ∀ a, (f a).length = k) (hk : 0 < k) (Pr : α → Prop)
    (hel : ∀ (fuel : Nat) (cs : List Value) (x : DataW H × List MemPlace), DataW.trod enc Tryz.prog w base (fun _ => true) held fuel e cs = some x → ∃ a, cs = f a ∧ Pr a)
    {fuel : Nat} {v : Value} {x : DataW H × List MemPlace} (h : DataW.trod enc Tryz.prog w base (fun _ => true) held fuel t [v] = some x) :
    ∃ l : List α, (∃ A c, v = .slice A l.length c ∧ l.length ≤ c ∧ (A = none → c = 0) ∧ (l ≠ [] → ∃ g off, A = some ⟨g, off, none⟩ ∧ g < w.heap.size ∧ ∀ j u, (l.flatMap f)[j]? = some u → w.cell? ⟨g, off + j, none⟩ = some u)) ∧ ∀ a ∈ l, Pr a := by
  rcases open_slice ht h with ⟨hcs, _⟩ | ⟨a, len, cap, m, n, D, Pl, hcs, hb, hl, hm, hmm, hx, hi⟩
  · simp only [List.cons.injEq, and_true] at hcs
    exact ⟨[], ⟨none, 0, hcs, by simp, fun _ => rfl, fun h => absurd rfl h⟩, (fun y hy => by cases hy)⟩
  · simp only [List.cons.injEq, and_true] at hcs
    have hml : len ≤ m := by rw [hmm]; simp; exact hl
    have hnd : ∀ i, i < len → ∃ y : α, Pr y ∧ ∀ j u, (f y)[j]? = some u → w.cell? (a.add (i * k + j)) = some u := fun i hil => by
      obtain ⟨cs', hc, ht⟩ := hi i (by omega)
      rw [hC] at hc
      obtain ⟨y, hy, hyo⟩ := hel _ _ _ ht
      obtain ⟨_, hcl, hat⟩ := World.cells?_some hc
      refine ⟨y, hyo, fun j u hu => ?_⟩
      have hj : j < k := by have := (List.getElem?_eq_some_iff.1 hu).1; rwa [hlen] at this
      have := hat j hj
      rw [Go.Deep.add_add] at this
      rw [this, hy]
      exact hu
    have flen : ∀ l : List α, (l.flatMap f).length = l.length * k := by
      intro l
      induction l with
      | nil => simp
      | cons y r ih => rw [List.flatMap_cons, List.length_append, ih, hlen, List.length_cons, Nat.add_mul]; omega
    have hall : ∀ q, q ≤ len → ∃ l : List α, l.length = q ∧ (∀ y ∈ l, Pr y) ∧ ∀ j u, (l.flatMap f)[j]? = some u → w.cell? (a.add j) = some u := by
      intro q
      induction q with
      | zero => exact fun _ => ⟨[], rfl, (fun y hy => by cases hy), (fun j u hu => by simp at hu)⟩
      | succ q ih =>
        intro hq
        obtain ⟨l, hll, hlo, hlc⟩ := ih (by omega)
        obtain ⟨y, hyo, hyc⟩ := hnd q (by omega)
        refine ⟨l ++ [y], by rw [List.length_append, hll]; rfl, fun z hz => ?_, fun j u hu => ?_⟩
        · rcases List.mem_append.1 hz with hz | hz
          · exact hlo z hz
          · have : z = y := by simpa using hz
            rw [this]; exact hyo
        · rw [List.flatMap_append] at hu
          by_cases hj : j < (l.flatMap f).length
          · rw [List.getElem?_append_left hj] at hu; exact hlc j u hu
          · rw [List.getElem?_append_right (by omega)] at hu
            have hu' : (f y)[j - (l.flatMap f).length]? = some u := by simpa using hu
            have := hyc _ u hu'
            rw [flen, hll] at this hj
            rwa [show q * k + (j - q * k) = j by omega] at this
    obtain ⟨l, hll, hlo, hlc⟩ := hall len (Nat.le_refl _)
    refine ⟨l, ⟨some a, cap, by rw [hcs, hll], by omega, fun h => by simp at h, fun h0 => ?_⟩, hlo⟩
    have hpos : 0 < l.length := List.length_pos_iff.2 h0
    have hfp : 0 < (l.flatMap f).length := by rw [flen]; exact Nat.mul_pos hpos hk
    have hc0 := hlc 0 _ (List.getElem?_eq_getElem hfp)
    have ha0 : a.add 0 = a := by unfold Addr.add; simp
    rw [ha0] at hc0
    obtain ⟨g, off, spot⟩ := a
    have hspot : spot = none := by
      cases spot with
      | none => rfl
      | some p => unfold World.cell? at hc0; split at hc0 <;> simp at hc0
    subst hspot
    have hgl : g < w.heap.size := World.block_lt_of_cell? w _ hc0
    refine ⟨g, off, rfl, hgl, fun j u hu => ?_⟩
    have := hlc j u hu
    have hadd : (⟨g, off, none⟩ : Addr).add j = ⟨g, off + j, none⟩ := by unfold Addr.add; split <;> simp_all
    rwa [hadd] at this
theorem cells_str : Tryz.prog.cellsOf 9 = 1 := by kernel_rfl
theorem cells_arg : Tryz.prog.cellsOf 40 = 3 := by kernel_rfl
theorem cells_stmt : Tryz.prog.cellsOf 38 = 4 := by kernel_rfl
theorem cells_args : Tryz.prog.cellsOf 36 = 1 := by kernel_rfl
set_option maxRecDepth 100000 in
theorem arg_of_trod {sp : Nat → Bool} {fuel : Nat} {cs : List Value} {x : DataW H × List MemPlace} (h : DataW.trod enc Tryz.prog w base sp held fuel 40 cs = some x) : ∃ a : PArg, cs = a.cells := by
  obtain ⟨xs, m, _, _, hl, hlen, hf⟩ := DataW.trod_struct Tryz.underlying40 h
  rw [cells_arg] at hl
  match cs, hl with
  | [c0, c1, c2], _ =>
    have g := fun i (hi : i < xs.length) => List.getElem?_eq_getElem hi
    have hlen' : xs.length = 3 := hlen
    have h0 := (hf 0 _ rfl).trans (g 0 (by omega))
    change DataW.trod enc Tryz.prog w base sp held m 3 ((List.drop 0 [c0, c1, c2]).take (Tryz.prog.cellsOf 3)) = _ at h0
    rw [cells_int] at h0
    change DataW.trod enc Tryz.prog w base sp held m 3 [c0] = _ at h0
    have h1 := (hf 1 _ rfl).trans (g 1 (by omega))
    change DataW.trod enc Tryz.prog w base sp held m 22 ((List.drop 1 [c0, c1, c2]).take (Tryz.prog.cellsOf 22)) = _ at h1
    rw [cells_f64] at h1
    change DataW.trod enc Tryz.prog w base sp held m 22 [c1] = _ at h1
    have h2 := (hf 2 _ rfl).trans (g 2 (by omega))
    change DataW.trod enc Tryz.prog w base sp held m 9 ((List.drop 2 [c0, c1, c2]).take (Tryz.prog.cellsOf 9)) = _ at h2
    rw [cells_str] at h2
    change DataW.trod enc Tryz.prog w base sp held m 9 [c2] = _ at h2
    obtain ⟨p, ep, -, -⟩ := DataW.trod_int Tryz.underlying3 h0
    obtain ⟨n, en, -⟩ := float_of Tryz.underlying22 h1
    obtain ⟨s, es, -, -⟩ := DataW.trod_string Tryz.underlying9 h2
    have ep : c0 = .int .i64 p := by simpa using ep
    have en : c1 = .float .f64 n := by simpa using en
    have es : c2 = .string s := by simpa using es
    subst ep en es
    exact ⟨⟨p, n, s⟩, rfl⟩
set_option maxRecDepth 100000 in
theorem st_of_trod {fuel : Nat} {cs : List Value} {x : DataW H × List MemPlace} (h : DataW.trod enc Tryz.prog w base (fun _ => true) held fuel 38 cs = some x) :
    ∃ p : PStmt × Value, cs = stCells p.1 p.2 ∧ (p.1.kind < 256 ∧ ARead w w.heap.size p.2 p.1.args ∧ CapOk p.2) := by
  obtain ⟨xs, m, _, _, hl, hlen, hf⟩ := DataW.trod_struct Tryz.underlying38 h
  rw [cells_stmt] at hl
  match cs, hl with
  | [c0, c1, c2, c3], _ =>
    have g := fun i (hi : i < xs.length) => List.getElem?_eq_getElem hi
    have hlen' : xs.length = 4 := hlen
    have h0 := (hf 0 _ rfl).trans (g 0 (by omega))
    change DataW.trod enc Tryz.prog w base (fun _ => true) held m 9 ((List.drop 0 [c0, c1, c2, c3]).take (Tryz.prog.cellsOf 9)) = _ at h0
    rw [cells_str] at h0
    change DataW.trod enc Tryz.prog w base (fun _ => true) held m 9 [c0] = _ at h0
    have h1 := (hf 1 _ rfl).trans (g 1 (by omega))
    change DataW.trod enc Tryz.prog w base (fun _ => true) held m 3 ((List.drop 1 [c0, c1, c2, c3]).take (Tryz.prog.cellsOf 3)) = _ at h1
    rw [cells_int] at h1
    change DataW.trod enc Tryz.prog w base (fun _ => true) held m 3 [c1] = _ at h1
    have h2 := (hf 2 _ rfl).trans (g 2 (by omega))
    change DataW.trod enc Tryz.prog w base (fun _ => true) held m 5 ((List.drop 2 [c0, c1, c2, c3]).take (Tryz.prog.cellsOf 5)) = _ at h2
    rw [cells_u8] at h2
    change DataW.trod enc Tryz.prog w base (fun _ => true) held m 5 [c2] = _ at h2
    have h3 := (hf 3 _ rfl).trans (g 3 (by omega))
    change DataW.trod enc Tryz.prog w base (fun _ => true) held m 36 ((List.drop 3 [c0, c1, c2, c3]).take (Tryz.prog.cellsOf 36)) = _ at h3
    rw [cells_args] at h3
    change DataW.trod enc Tryz.prog w base (fun _ => true) held m 36 [c3] = _ at h3
    obtain ⟨s, es, -, -⟩ := DataW.trod_string Tryz.underlying9 h0
    obtain ⟨p, ep, -, -⟩ := DataW.trod_int Tryz.underlying3 h1
    obtain ⟨k, ek, -, wk⟩ := DataW.trod_int Tryz.underlying5 h2
    have es : c0 = .string s := by simpa using es
    have ep : c1 = .int .i64 p := by simpa using ep
    have ek : c2 = .int .u8 k := by simpa using ek
    subst ep ek es
    have hk : 0 ≤ k ∧ k ≤ 255 := by simpa [Lit.wf, IntKind.min, IntKind.max, IntKind.signed, IntKind.bits] using wk
    obtain ⟨al, ⟨A, c, hv, hc, _, hx⟩, _⟩ := rows_of (k := 3) Tryz.underlying36 cells_arg PArg.cells (fun a => rfl) (by omega) (fun _ => True) (fun fuel cs x h => by
      obtain ⟨a, ha⟩ := arg_of_trod h
      exact ⟨a, ha, trivial⟩) h3
    have hkk : ((k.toNat : Nat) : Int) = k := Int.toNat_of_nonneg hk.1
    refine ⟨(⟨s, p, k.toNat, al⟩, c3), by simp [stCells, hkk], (by show k.toNat < 256; omega), ⟨A, c, hv, fun h0 => ?_⟩, by rw [hv]; exact hc⟩
    obtain ⟨g, off, hA, hg, hcell⟩ := hx h0
    exact ⟨g, off, hA, hg, hcell⟩
theorem scells_flat : ∀ l : List (PStmt × Value), scells (l.map (·.1)) (l.map (·.2)) = l.flatMap fun p => stCells p.1 p.2
  | [] => rfl
  | a :: r => by
    show stCells a.1 a.2 ++ scells (r.map (·.1)) (r.map (·.2)) = _
    rw [scells_flat r, List.flatMap_cons]
/-- a slice of statements that comes in -/
theorem stmts_of {fuel : Nat} {v : Value} {x : DataW H × List MemPlace} (hv : ∃ a len cap, v = .slice a len cap) (h : DataW.trod enc Tryz.prog w base (fun _ => true) held fuel 27 v.cells.toList = some x) :
    ∃ (l : List PStmt) (vs : List Value), SArg w w.heap.size v l vs ∧ ∀ s ∈ l, s.kind < 256 := by
  have h' : DataW.trod enc Tryz.prog w base (fun _ => true) held fuel 27 [v] = some x := by
    obtain ⟨va, vl, vc, rfl⟩ := hv
    exact h
  obtain ⟨l, ⟨A, c, hv, hc, hn, hx⟩, hp⟩ := rows_of (k := 4) Tryz.underlying27 cells_stmt (fun p : PStmt × Value => stCells p.1 p.2) (fun a => rfl) (by omega) (fun p => p.1.kind < 256 ∧ ARead w w.heap.size p.2 p.1.args ∧ CapOk p.2) (fun fuel cs x h => st_of_trod h) h'
  refine ⟨l.map (·.1), l.map (·.2), ⟨by simp, ⟨A, c, by simpa using hv, by simpa using hc, hn, fun h0 => ?_⟩, fun i h1 h2 => ?_⟩, fun s hs => ?_⟩
  · obtain ⟨g, off, hA, hg, hcell⟩ := hx (by intro e; subst e; simp at h0)
    exact ⟨g, off, hA, hg, hg, fun j u hu => hcell j u (by rw [scells_flat] at hu; exact hu)⟩
  · have hi : i < l.length := by simpa using h1
    have := hp l[i] (List.getElem_mem hi)
    simpa using this.2
  · obtain ⟨p, hp1, rfl⟩ := List.mem_map.1 hs
    exact (hp p hp1).1
end

end Go.Proofs.YtgblgolkajdfbaaGreatDoor.chkw
