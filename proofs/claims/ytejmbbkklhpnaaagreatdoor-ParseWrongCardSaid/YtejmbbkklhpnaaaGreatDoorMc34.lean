/- strings.Builder's copyCheck and WriteString. No conditions but those stated. -/
import Derived.Test.YtejmbbkklhpnaaaGreatDoorMc33
import Derived.Test.YtejmbbkklhpnaaaGreatDoorRows
import Derived.Lib.LaidU8
import Derived.LaidMore
import Derived.ChangeArms
import Derived.Shelf.Vars
namespace Go.Proofs.YtejmbbkklhpnaaaGreatDoor.prnw
open Go.RowKit
open Go.Shelf
open Go.Sort
open Go.Proofs.YtejmbbkklhpnaaaGreatDoor.nodew
open Go.Proofs.YtejmbbkklhpnaaaGreatDoor.chkw
open Go.Proofs.YtejmbbkklhpnaaaGreatDoor.flatm

abbrev BlF (B b : Nat) (bs : List Value) (w : World) : Prop := Lib.IsBuilderF 71 5 B b bs w
end Go.Proofs.YtejmbbkklhpnaaaGreatDoor.prnw

/- print.Text. Conditions: the nodes lie in memory, at most 4096. -/
namespace Go.Proofs.YtejmbbkklhpnaaaGreatDoor.prnw
open Go.RowKit
open Go.Shelf
open Go.Sort
open Go.Proofs.YtejmbbkklhpnaaaGreatDoor.nodew
open Go.Proofs.YtejmbbkklhpnaaaGreatDoor.chkw
open Go.Proofs.YtejmbbkklhpnaaaGreatDoor.flatm
attribute [local go_sem] nodew.run_store_float

theorem BlF.grown {B b : Nat} {bs : List Value} {w w' : World} (h : BlF B b bs w) (hg : w.grownBy w' none) : BlF B b bs w' := by
  have k : ∀ p, Lib.BuilderAtF 71 5 B b p bs w → Lib.BuilderAtF 71 5 B b p bs w' := fun p h => by
    have hlt := h.lt
    obtain ⟨hB, v, hb, hown, hne⟩ := h
    exact ⟨hB, v, (hg.block b hlt (by simp)).trans hb, hown.kept hg (by cases hv : v.ownBlock <;> simp), hne⟩
  rcases h with h | h
  · exact .inl (k _ h)
  · exact .inr (k _ h)
end Go.Proofs.YtejmbbkklhpnaaaGreatDoor.prnw

/- What the library's tables hold, out of the row's condition. No condition. -/
namespace Go.Proofs.YtejmbbkklhpnaaaGreatDoor.prnw
open Go.RowKit
open Go.Shelf
open Go.Proofs.YtejmbbkklhpnaaaGreatDoor.nodew

/-- the table of powers of ten -/
def hiP (i : Nat) : Nat := (Go.Pinned.pow10Rows.getD i (0, 0)).1
def loP (i : Nat) : Nat := (Go.Pinned.pow10Rows.getD i (0, 0)).2
theorem tabP : (List.range 696).all (fun i => decide (9223372036854775808 ≤ hiP i) && decide (hiP i < 18446744073709551616) && decide (loP i < 18446744073709551616)) = true := by kernel_rfl
theorem tabP_bd (i : Nat) (h : i < 696) : 9223372036854775808 ≤ hiP i ∧ hiP i < 18446744073709551616 ∧ loP i < 18446744073709551616 := by
  have := List.all_eq_true.1 tabP i (List.mem_range.2 h)
  simp only [Bool.and_eq_true, decide_eq_true_eq] at this
  exact ⟨this.1.1, this.1.2, this.2⟩
theorem rowsP_len : Go.Pinned.pow10Rows.length = 696 := by kernel_rfl
theorem u64tab : Rows.laid_internal_strconv_uint64pow10 (H := Unit) = Lib.tabData .u64 Lib.pow10Tab := by kernel_rfl
set_option maxRecDepth 100000 in
theorem env_of (L : List (String × DataW Unit)) (W : World) (h : laidMet Tryz.prog L W) (m1 : ("internal/strconv.uint64pow10", Rows.laid_internal_strconv_uint64pow10) ∈ L) (m2 : ("internal/strconv.pow10Tab", Rows.laid_internal_strconv_pow10Tab) ∈ L) (hsh : W.ShapedOpen Tryz.prog) : Env hiP loP W ∧ Gl W.heap.size := by
  obtain ⟨g1, t1, cs1, f1, p1, hg1, ht1, hv1, hd1⟩ := Lib.laidMet.reads h m1
  obtain ⟨g2, t2, cs2, f2, p2, hg2, ht2, hv2, hd2⟩ := Lib.laidMet.reads h m2
  obtain rfl := Option.some.inj ((show Tryz.prog.globalNamed "internal/strconv.uint64pow10" = some 7 by kernel_rfl).symm.trans hg1)
  obtain rfl := Option.some.inj ((show Tryz.prog.globalNamed "internal/strconv.pow10Tab" = some 8 by kernel_rfl).symm.trans hg2)
  obtain rfl := Option.some.inj ((show (Tryz.prog.globals[7]?).map (·.type) = some 229 by kernel_rfl).symm.trans ht1)
  obtain rfl := Option.some.inj ((show (Tryz.prog.globals[8]?).map (·.type) = some 243 by kernel_rfl).symm.trans ht2)
  have k1 : Lib.TabIs Tryz.prog W "internal/strconv.uint64pow10" .u64 Lib.pow10Tab := by
    rw [u64tab] at hd1
    unfold Lib.TabIs
    rw [hv1, ← Lib.cells_of_tab Tryz.underlying229 Tryz.underlying96 (by kernel_rfl) (by kernel_rfl) hd1]
  have k2 : ∀ i, i < 696 → W.cell? ⟨8, i * 2, none⟩ = some (.int .u64 (hiP i : Nat)) ∧ W.cell? ⟨8, i * 2 + 1, none⟩ = some (.int .u64 (loP i : Nat)) := fun i hi => by
    obtain ⟨f', d, q, hd, he⟩ := Lib.array_elem Tryz.underlying243 hd2 i hi
    have hr : Go.Pinned.pow10Rows[i]? = some (hiP i, loP i) := by
      have : i < Go.Pinned.pow10Rows.length := by rw [rowsP_len]; exact hi
      unfold hiP loP
      rw [List.getD_eq_getElem?_getD, List.getElem?_eq_getElem this]
      rfl
    rw [List.getElem?_map, hr] at hd
    obtain rfl := (Option.some.inj hd).symm
    have hz := Lib.ints_of_struct (zs := [(hiP i : Int), (loP i : Int)]) (k := .u64) Tryz.underlying242 (fun j f hf => ?_) (by kernel_rfl) he
    · have hc2 : Tryz.prog.cellsOf 242 = 2 := by kernel_rfl
      rw [hc2] at hz
      have c0 : cs2[i * 2]? = some (.int .u64 (hiP i : Int)) := by
        have := congrArg (·[0]?) hz
        simpa [List.getElem?_take, List.getElem?_drop] using this
      have c1 : cs2[i * 2 + 1]? = some (.int .u64 (loP i : Int)) := by
        have := congrArg (·[1]?) hz
        simpa [List.getElem?_take, List.getElem?_drop] using this
      exact ⟨by rw [World.var?_cell hg2 hv2 (i * 2)]; exact c0, by rw [World.var?_cell hg2 hv2 (i * 2 + 1)]; exact c1⟩
    · match j, hf with
      | 0, hf => obtain rfl := Option.some.inj hf; exact ⟨Tryz.underlying96, rfl, by kernel_rfl⟩
      | 1, hf => obtain rfl := Option.some.inj hf; exact ⟨Tryz.underlying96, rfl, by kernel_rfl⟩
      | k + 2, hf => cases hf
  have k3 : ∃ m : Int, W.cell? ⟨1, 0, none⟩ = some (.int .i64 m) :=
    cell_of_shapedOpen_int (t := 3) (zero := #[.int .i64 0]) hsh (of_decide_eq_true (by kernel_rfl)) (by kernel_rfl) rfl (by kernel_rfl) (by kernel_rfl) Tryz.underlying3
  have n1 := World.block_lt_of_cell? W _ (k2 0 (by decide)).1
  have n2 : 7 < W.heap.size := World.block_lt_of_cell? W _ (k1.cell hg1 0 (by decide))
  obtain ⟨m, hm⟩ := k3
  have n3 := World.block_lt_of_cell? W _ hm
  exact ⟨⟨⟨fun i hi => ⟨(tabP_bd i hi).2.1, (tabP_bd i hi).2.2, (k2 i hi).1, (k2 i hi).2⟩, fun i hi => ⟨(tabP_bd i hi).1, (tabP_bd i hi).2.1⟩, k1⟩, ⟨m, hm⟩, n1, n2, n3⟩, n1, n2, n3⟩
end Go.Proofs.YtejmbbkklhpnaaaGreatDoor.prnw
