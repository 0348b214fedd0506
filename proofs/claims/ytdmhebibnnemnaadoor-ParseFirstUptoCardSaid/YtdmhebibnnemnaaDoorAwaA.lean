/- The walk of burnishlaw17.Of at a text. Conditions: as each theorem states. -/
import Derived.Test.YtdmhebibnnemnaaDoorSevA
import Derived.Test.YtdmhebibnnemnaaDoorDecB
import Derived.Test.YtdmhebibnnemnaaDoorLexRefB
namespace Go.Proofs.YtdmhebibnnemnaaDoor.awaw
open Go.RowKit
open Go.Proofs.YtdmhebibnnemnaaDoor.lexm
open Go.Proofs.YtdmhebibnnemnaaDoor.lexw
open Go.Proofs.YtdmhebibnnemnaaDoor.parw
open Go.Proofs.YtdmhebibnnemnaaDoor.flow

def toP (t : Tok) : PTok := ⟨t.kind, t.pos, ⟨t.text.toArray⟩⟩
theorem pcells_toP (ts : List Tok) : pcells (ts.map toP) = cellsOf ts := by
  induction ts with
  | nil => rfl
  | cons t r ih => rw [List.map_cons, pcells_cons, ih]; rfl
theorem PRow.of_own {W : World} {base : Nat} {v : Value} {ts : List Tok} (h : W.ownsRow base 24 3 v ts.length (cellsOf ts)) : PRow W W.heap.size v (ts.map toP) := by
  rcases h.2 with ⟨rfl, hn⟩ | ⟨g, cap, cur, rfl, _, hgg, hc, _⟩
  · exact ⟨none, 0, by rw [List.length_map, hn], by rw [List.length_map, hn]; exact Nat.le_refl _, fun h0 => absurd (by rw [List.eq_nil_of_length_eq_zero hn]; rfl) h0⟩
  · refine ⟨_, cap, by rw [List.length_map], by rw [List.length_map]; exact hc, fun _ => ⟨g, 0, rfl, (Array.getElem?_eq_some_iff.1 hgg).1, fun j u hu => ?_⟩⟩
    rw [pcells_toP] at hu
    have hc := h.cells (g := g) rfl j u hu
    have hadd : (⟨g, 0, none⟩ : Addr).add j = ⟨g, j, none⟩ := by unfold Addr.add; split <;> simp_all
    rw [hadd] at hc
    rw [Nat.zero_add]
    exact hc
theorem Stable.more {G : World → Prop} {B B' : Nat} (h : Stable G B) (hb : B ≤ B') : Stable G B' := fun w w' row hG hg hr => h w w' row hG hg fun r e => Nat.le_trans hb (hr r e)

/-- what Of hands back -/
def OfPost (w : World) (r : List PStmt × Int × Nat) (e : Ending) (w' : World) : Prop :=
  ∃ o, e = .returned (.tuple #[o, .int .i64 r.2.1, .int .i64 r.2.2]) ∧ SRead w' w'.heap.size o r.1 ∧ Below w.heap.size w w'

theorem of_any (dec : ByteArray → Nat × Nat) (G : World → Prop) (B : Nat) (hG : Stable G B) (s : ByteArray) (hs : s.size ≤ maxLen) (ts : List Tok) (hts : ts.length ≤ 1000000000000) (i er : Nat) (h : lexRes s.data.toList = (ts, i, er)) (r : List PStmt × Int × Nat)
    (hr : parseRes dec (ts.map toP) = r) (hd : DecOk dec G (ts.map toP)) (w : World) (hw : G w) (hB : B ≤ w.heap.size) :
    Calls Tryd.prog 7 #[.string s] w (OfPost w r) := by
  go_enter Tryd.func7, Tryd.ntmps7
  go_wp2_with fail
  refine (reflex_any s hs _).mono ?_
  rintro e w1 ⟨v, rfl, hown, hB1⟩
  rw [h] at hown ⊢
  simp only at hown ⊢
  have hp := PRow.of_own hown
  have hw1 := hG w w1 none hw (grown_below hB1 none) (fun r e => by cases e)
  have hs1 := hB1.size
  have hc := parse_any dec G (ts.map toP) (by simpa using hts) v w1 (Stable.more hG (by omega)) hd hp hw1
  rw [hr] at hc
  clear hown hp hr h
  go_wp2_with fail
  refine hc.mono ?_
  rintro e w2 ⟨o, rfl, ho, hB2⟩
  go_wp2_with fail
  go_ret3
  exact ⟨o, rfl, .of_row ho, hB1.trans (hB2.mono hs1)⟩

end Go.Proofs.YtdmhebibnnemnaaDoor.awaw
