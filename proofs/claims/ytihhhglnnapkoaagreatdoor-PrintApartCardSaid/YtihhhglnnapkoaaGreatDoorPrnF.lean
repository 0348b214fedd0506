/- A row of bytes that grows: what an append leaves. No conditions but those stated. -/
import Derived.Test.YtihhhglnnapkoaaGreatDoorPrnE
import Derived.Deep.AppendLies
namespace Go.Proofs.YtihhhglnnapkoaaGreatDoor.prnw
open Go.RowKit
open Go.Shelf
open Go.Sort
open Go.Proofs.YtihhhglnnapkoaaGreatDoor.nodew
open Go.Proofs.YtihhhglnnapkoaaGreatDoor.chkw

theorem u8Info : (Tryz.prog.info? 5).map (fun i => (i.zero, i.size, i.bytes)) = some (some (.int .u8 0), 1, 1) := by kernel_rfl
/-- a row of bytes of the call's own, in block g -/
def Buf (w : World) (base g cap : Nat) (l : List UInt8) : Prop := w.ownsRow base 5 1 (.slice (some ⟨g, 0, none⟩) l.length cap) l.length (l.map bV)
theorem bV_one (l : List UInt8) : ∀ u ∈ l.map bV, u.oneCell' = true := by
  intro u hu
  obtain ⟨b, _, rfl⟩ := List.mem_map.1 hu
  rfl
theorem Buf.lt {w : World} {base g cap : Nat} {l : List UInt8} (h : Buf w base g cap l) : base ≤ g ∧ g < w.heap.size := World.ownsRow.lt h g rfl
/-- bytes are put behind -/
theorem wl_app8 {ops : Array Oper} {rest : List Oper} {o : Oper} {a : Act} {w : World} {Q : Exit → Act → World → Prop} (hgd : o.guard = none) (s x : Operand)
    (ho : o.op = .call { callee := .builtin .append, args := #[s, x], argTypes := #[35, 35] }) (base g cap : Nat) (l : List UInt8) (hs : a.eval s = .slice (some ⟨g, 0, none⟩) l.length cap) (hown : Buf w base g cap l)
    (ad : Addr) (m c : Nat) (news : List UInt8) (hx : a.eval x = .slice (some ad) m c) (hm : news.length = m) (hm0 : 0 < m) (hnews : ∀ j b, news[j]? = some b → w.cell? (ad.add j) = some (bV b)) (hlen : l.length + m ≤ 1000) (hbase : base ≤ w.heap.size)
    (h : ∀ g' cap' w', Buf w' base g' cap' (l ++ news) → w.grownBy w' (some g) → (g' = g ∨ g' = w.heap.size) → wpList Tryz.prog ops Q rest (a.put o.dst (.slice (some ⟨g', 0, none⟩) (l ++ news).length cap')) w') :
    wpList Tryz.prog ops Q (o :: rest) a w := by
  obtain ⟨i0, hi, hz1, hz2, hz3⟩ := info_parts u8Info
  refine wpList_append_lies w hgd s x 35 ho base 5 i0 _ 1 1 Tryz.underlying35 hi hz1 hz2 hz3 rfl (by decide) _ _ _ hs hown ad m c (news.map bV) hx (by rw [List.length_map, hm]; omega) (fun j u hu => ?_) (bV_one _) hm0 (by unfold maxLen; omega) (by omega) hbase _ rfl ?_
  · rw [List.getElem?_map, Option.map_eq_some_iff] at hu
    obtain ⟨b, hb, rfl⟩ := hu
    exact hnews j b hb
  · intro g' cap' w' how hg hgg _
    have e : l.length + m = (l ++ news).length := by rw [List.length_append, hm]
    rw [e, ← List.map_append] at how
    rw [e]
    refine h g' cap' w' how hg ?_
    rcases hgg with h1 | h1
    · exact .inl (Option.some.inj h1).symm
    · exact .inr h1
/-- the row grows, the digits' block bb and what lies below base stay as in w0 -/
structure St (w0 : World) (base bb : Nat) (w : World) (g cap : Nat) (l : List UInt8) : Prop where
  buf : Buf w base g cap l
  ne : g ≠ bb
  blk : w.heap[bb]? = w0.heap[bb]?
  below : Below base w0 w
  le : base ≤ w0.heap.size
  lt : bb < w0.heap.size
theorem cells_new8 (W : World) (news : List UInt8) (t : TypeId) : ∀ j b, news[j]? = some b → (W.alloc (.cells (news.map bV).toArray t)).cell? ((⟨W.heap.size, 0, none⟩ : Addr).add j) = some (bV b) := by
  intro j b hb
  have hadd : (⟨W.heap.size, 0, none⟩ : Addr).add j = ⟨W.heap.size, j, none⟩ := by unfold Addr.add; split <;> simp_all
  rw [hadd, cell_of_row _ _ j _ _ _ (heap_alloc_new W _)]
  simp [hb]
/-- single bytes are put behind -/
theorem wl_put8 {ops : Array Oper} {rest : List Oper} {o : Oper} {a : Act} {W : World} {Q : Exit → Act → World → Prop} {w0 : World} {base bb g cap : Nat} {l : List UInt8} (hS : St w0 base bb W g cap l) (hgd : o.guard = none) (s x : Operand)
    (ho : o.op = .call { callee := .builtin .append, args := #[s, x], argTypes := #[35, 35] }) (news : List UInt8) (m : Nat) (vals : Array Value) (hv : vals = (news.map bV).toArray) (hm : news.length = m) (hm0 : 0 < m) (L : Nat) (hL : l.length = L) (hlen : L + m ≤ 1000)
    (hs : a.eval s = .slice (some ⟨g, 0, none⟩) L cap) (hx : a.eval x = .slice (some ⟨W.heap.size, 0, none⟩) m m)
    (h : ∀ g' cap' w', St w0 base bb w' g' cap' (l ++ news) → wpList Tryz.prog ops Q rest (a.put o.dst (.slice (some ⟨g', 0, none⟩) (L + m) cap')) w') :
    wpList Tryz.prog ops Q (o :: rest) a (W.alloc (.cells vals 5)) := by
  subst hv
  subst hL
  have hsz := hS.below.size
  have hle := hS.le
  have hlt := hS.lt
  have hg := hS.buf.lt
  refine wl_app8 hgd s x ho base g cap l hs (World.ownsRow.alloc hS.buf _) ⟨W.heap.size, 0, none⟩ m m news hx hm hm0 (cells_new8 W news _) hlen (by simp; omega) fun g' cap' w' hb hgr hgg => ?_
  have hne := hS.ne
  rw [List.length_append, hm]
  refine h g' cap' w' ⟨hb, ?_, ?_, ?_, hS.le, hS.lt⟩
  · rcases hgg with rfl | rfl
    · exact hne
    · simp; omega
  · rw [hgr.block bb (by simp; omega) (fun e => hS.ne (Option.some.inj e).symm), Below.heap_alloc _ _ _ (by omega)]
    exact hS.blk
  · exact (hS.below.alloc (by omega) _).grown hgr (by simp; omega) (fun k e => by obtain rfl := Option.some.inj e; exact hg.1)
/-- a piece of the digits is put behind -/
theorem wl_digs8 {ops : Array Oper} {rest : List Oper} {o : Oper} {a : Act} {W : World} {Q : Exit → Act → World → Prop} {w0 : World} {base bb g cap : Nat} {l : List UInt8} (hS : St w0 base bb W g cap l) (hgd : o.guard = none) (s x : Operand)
    (ho : o.op = .call { callee := .builtin .append, args := #[s, x], argTypes := #[35, 35] }) (news : List UInt8) (off m c : Nat) (hm : news.length = m) (hm0 : 0 < m) (L : Nat) (hL : l.length = L) (hlen : L + m ≤ 1000) (hd : ∀ j b, news[j]? = some b → w0.cell? ⟨bb, off + j, none⟩ = some (bV b))
    (hs : a.eval s = .slice (some ⟨g, 0, none⟩) L cap) (hx : a.eval x = .slice (some ⟨bb, off, none⟩) m c)
    (h : ∀ g' cap' w', St w0 base bb w' g' cap' (l ++ news) → wpList Tryz.prog ops Q rest (a.put o.dst (.slice (some ⟨g', 0, none⟩) (L + m) cap')) w') :
    wpList Tryz.prog ops Q (o :: rest) a W := by
  subst hL
  have hsz := hS.below.size
  have hle := hS.le
  have hlt := hS.lt
  have hg := hS.buf.lt
  refine wl_app8 hgd s x ho base g cap l hs hS.buf ⟨bb, off, none⟩ m c news hx hm hm0 (fun j b hb => ?_) hlen (by omega) fun g' cap' w' hb hgr hgg => ?_
  · have hadd : (⟨bb, off, none⟩ : Addr).add j = ⟨bb, off + j, none⟩ := by unfold Addr.add; split <;> simp_all
    rw [hadd, World.cell?_of_block (w := w0) (a := ⟨bb, off + j, none⟩) hS.blk]
    exact hd j b hb
  · have hne := hS.ne
    rw [List.length_append, hm]
    refine h g' cap' w' ⟨hb, ?_, ?_, ?_, hS.le, hS.lt⟩
    · rcases hgg with rfl | rfl
      · exact hne
      · omega
    · rw [hgr.block bb (by omega) (fun e => hS.ne (Option.some.inj e).symm)]
      exact hS.blk
    · exact hS.below.grown hgr (by omega) (fun k e => by obtain rfl := Option.some.inj e; exact hg.1)
end Go.Proofs.YtihhhglnnapkoaaGreatDoor.prnw
