/- setDigits. No conditions but those stated. -/
import Derived.Test.YtejmbbkklhpnaaaGreatDoorMp15
import Derived.Lib.ItoaLen
import Derived.Deep.AppendLies
namespace Go.Proofs.YtejmbbkklhpnaaaGreatDoor.prnw
open Go.RowKit
open Go.Shelf
open Go.Sort
open Go.Proofs.YtejmbbkklhpnaaaGreatDoor.nodew
open Go.Proofs.YtejmbbkklhpnaaaGreatDoor.chkw

/-- a byte as a value -/
def bV (b : UInt8) : Value := Value.int .u8 (b.toNat : Int)
/-- how many of the first n digits of u stay, without the noughts behind -/
def trimTo (u : Nat) : Nat → Nat
  | 0 => 0
  | n + 1 => if Lib.dg u (Lib.nDigits u - 1 - n) = 48 then trimTo u n else n + 1
theorem trim_le (u : Nat) : ∀ n, trimTo u n ≤ n
  | 0 => Nat.le_refl _
  | n + 1 => by
    unfold trimTo
    split
    · exact Nat.le_succ_of_le (trim_le u n)
    · exact Nat.le_refl _
/-- the digits of u lie in the block, and how many of them count -/
def SdPost (w : World) (bb u : Nat) (p : Int) (x : Ending) (w' : World) : Prop :=
  x = .returned (.tuple #[.int .i64 ((Lib.nDigits u : Nat) + p), .int .i64 (trimTo u (Lib.nDigits u) : Nat)]) ∧
    (∀ t, t < Lib.nDigits u → w'.cell? ⟨bb, t, none⟩ = some (bV (Lib.dg u (Lib.nDigits u - 1 - t)))) ∧ w.grownBy w' (some bb)
set_option maxRecDepth 100000 in
set_option maxHeartbeats 1000000 in
theorem setd_any (bb u : Nat) (p : Int) (_hu : 1 ≤ u) (hu2 : u < 18446744073709551616) (p0 : -400 ≤ p) (p1 : p ≤ 400) (w : World) (hb : Holds bV w bb 0 (Array.replicate 32 0)) :
    Calls Tryz.prog 134 #[.slice (some ⟨bb, 0, none⟩) 32 32, .int .u64 u, .int .i64 p, .int .i64 (Lib.nDigits u : Nat)] w (SdPost w bb u p) := by
  have hn := Lib.nDigits_le20 u hu2
  have hn1 := Lib.nDigits_pos u
  have hlt := Lib.lt_pow_nDigits u
  obtain ⟨N, hN⟩ : ∃ N, Lib.nDigits u = N := ⟨_, rfl⟩
  have hH : Holds bV w bb 0 (Array.replicate N 0) := fun j hj => by
    have h1 : j < N := by simpa using hj
    have := hb j (by simp; omega)
    rw [getElem!_pos _ j (by simp; omega), Array.getElem_replicate] at this
    rw [getElem!_pos _ j hj, Array.getElem_replicate]
    exact this
  have C := Tryz.internal_strconv_formatBase10 bb 0 32 u (Array.replicate N 0) w hH (by rw [Array.size_replicate, ← hN]; exact hlt) hu2 (by rw [Array.size_replicate]; omega)
  rw [Array.size_replicate] at C
  have C2 : Calls Tryz.prog 167 #[.slice (some ⟨bb, 0, none⟩) N 32, .int .u64 u] w fun e w' => e = .returned (.tuple #[]) ∧ (∀ t, t < N → w'.cell? ⟨bb, t, none⟩ = some (bV (Lib.dg u (N - 1 - t)))) ∧ w.grownBy w' (some bb) := C.mono fun e w' h => by
    obtain ⟨he, n, v, dk, hw, hf⟩ := h
    have hds : dk.size = (Array.replicate N (0 : UInt8)).size := by rw [hf.size, Array.size_replicate]
    refine ⟨he, fun t ht => ?_, ?_⟩
    · rw [hw]
      have h1 := cell?_putRow bV w bb 0 (Array.replicate N 0) dk hH hds t (by rw [hf.size]; exact ht)
      have h2 := hf.done t (Nat.zero_le _) ht
      rw [Nat.zero_add, h2] at h1
      exact h1
    · rw [hw]
      refine ⟨rfl, rfl, rfl, by simp [World.drewN], fun i hi hne => ?_⟩
      show (w.heap.modify bb _)[i]? = _
      rw [Array.getElem?_modify, if_neg (fun e => hne (by rw [e]))]
  have hfz : ∀ (w' : World) (t : Nat), w.grownBy w' (some bb) → True := fun _ _ _ => trivial
  unfold SdPost
  rw [hN]
  have C3 := Lib.hid C2
  have hN20 : N ≤ 20 := by omega
  have hN1 : 1 ≤ N := by omega
  have HN := Lib.hid hN
  have hNi : (N : Int) ≤ 32 := by omega
  have hN0 : (0 : Int) ≤ (N : Int) := by omega
  have hNN : N ≤ 32 := by omega
  clear hn hn1 hlt hN hH C C2 hfz hb _hu hu2
  go_enter Tryz.func134, Tryz.ntmps134
  go_wp2_with (go_at_call 167; (with_reducible refine C3.out.mono ?_); rintro e w' ⟨rfl, hc, hg⟩)
  obtain ⟨W, hW⟩ : ∃ W, W = w' := ⟨_, rfl⟩
  rw [← hW] at hc hg ⊢
  have hcn : ∀ n : Nat, n < N → W.cell? ⟨bb, n, none⟩ = some (.int .u8 ((Lib.dg u (N - 1 - n)).toNat : Int)) := hc
  have HC := Lib.hid hc
  have HG := Lib.hid hg
  have HCN := Lib.hid hcn
  clear hW hc hg hcn
  go_loopw [3] (fun i wr => ∃ n : Nat, n ≤ N ∧ i = .int .i64 n ∧ trimTo u n = trimTo u N ∧ wr = W) (fun i _ => (intOf i).toNat)
  case atStart => exact ⟨N, Nat.le_refl _, rfl, rfl, rfl⟩
  case round =>
    obtain ⟨n, hnN, rfl, hq, rfl⟩ := hrel
    obtain ⟨wx, hwx⟩ : ∃ wx, wx = wr := ⟨_, rfl⟩
    cases n with
    | zero =>
      have hq1 : trimTo u N = 0 := by rw [← hq]; rfl
      have HQ := Lib.hid hq1
      clear hq hq1 hwx
      go_wp2_with fail
      go_ret2
      exact ⟨by rw [HQ.out]; rfl, HC.out, HG.out⟩
    | succ n =>
      have c1 := HCN.out n (by omega)
      have hn0 : (0 : Int) ≤ (n : Int) := by omega
      have hn1 : (n : Int) + 1 ≤ 32 := by omega
      have hn2 : (n : Int) < 32 := by omega
      have ec : ((n + 1 : Nat) : Int) = (n : Int) + 1 := by omega
      have et : trimTo u (n + 1) = if Lib.dg u (Lib.nDigits u - 1 - n) = 48 then trimTo u n else n + 1 := rfl
      rw [HN.out] at et
      rw [ec]
      obtain ⟨b, hb⟩ : ∃ b, Lib.dg u (N - 1 - n) = b := ⟨_, rfl⟩
      rw [hb] at c1 et
      have hb0 : (0 : Int) ≤ (b.toNat : Int) := by omega
      by_cases h48 : b = 48
      · rw [if_pos h48] at et
        have hq2 : trimTo u n = trimTo u N := by rw [← et]; exact hq
        have e48 : ((b.toNat : Int) == 48) = true := by rw [h48]; rfl
        have HQ := Lib.hid hq2
        clear hq hq2 et hb ec h48 hwx
        go_wp2_with fail
        exact ⟨⟨n, by omega, rfl, HQ.out, trivial⟩, by show ((n : Int)).toNat < ((n : Int) + 1).toNat; omega⟩
      · rw [if_neg h48] at et
        have hq2 : trimTo u N = n + 1 := by rw [← hq]; exact et
        have e48 : ((b.toNat : Int) == 48) = false := by
          rw [beq_eq_false_iff_ne]
          intro h
          exact h48 (UInt8.toNat_inj.1 (by have : (48 : UInt8).toNat = 48 := rfl; omega))
        have HQ := Lib.hid hq2
        clear hq hq2 et hb ec h48 hwx
        go_wp2_with fail
        go_ret2
        exact ⟨by rw [HQ.out]; rfl, HC.out, HG.out⟩
end Go.Proofs.YtejmbbkklhpnaaaGreatDoor.prnw

/- A row of bytes that grows: what an append leaves. No conditions but those stated. -/
namespace Go.Proofs.YtejmbbkklhpnaaaGreatDoor.prnw
open Go.RowKit
open Go.Shelf
open Go.Sort
open Go.Proofs.YtejmbbkklhpnaaaGreatDoor.nodew
open Go.Proofs.YtejmbbkklhpnaaaGreatDoor.chkw

theorem u8Info : (Tryz.prog.info? 5).map (fun i => (i.zero, i.size, i.bytes)) = some (some (.int .u8 0), 1, 1) := by kernel_rfl
/-- a row of bytes of the call's own, in block g -/
def Buf (w : World) (base g cap : Nat) (l : List UInt8) : Prop := w.ownsRow base 5 1 (.slice (some ⟨g, 0, none⟩) l.length cap) l.length (l.map bV)
theorem bV_one (l : List UInt8) : ∀ u ∈ l.map bV, u.oneCell' = true := by
  intro u hu
  obtain ⟨b, _, rfl⟩ := List.mem_map.1 hu
  rfl
theorem Buf.lt {w : World} {base g cap : Nat} {l : List UInt8} (h : Buf w base g cap l) : base ≤ g ∧ g < w.heap.size := World.ownsRow.lt h g rfl
/-- bytes are put behind -/
theorem wl_app8 {ops : Array Oper} {rest : List Oper} {o : Oper} {a : Act} {w : World} {Q : Exit → Act → World → Prop} (hgd : o.guard = none) (s x : Operand)
    (ho : o.op = .call { callee := .builtin .append, args := #[s, x], argTypes := #[23, 23] }) (base g cap : Nat) (l : List UInt8) (hs : a.eval s = .slice (some ⟨g, 0, none⟩) l.length cap) (hown : Buf w base g cap l)
    (ad : Addr) (m c : Nat) (news : List UInt8) (hx : a.eval x = .slice (some ad) m c) (hm : news.length = m) (hm0 : 0 < m) (hnews : ∀ j b, news[j]? = some b → w.cell? (ad.add j) = some (bV b)) (hlen : l.length + m ≤ 1000) (hbase : base ≤ w.heap.size)
    (h : ∀ g' cap' w', Buf w' base g' cap' (l ++ news) → w.grownBy w' (some g) → (g' = g ∨ g' = w.heap.size) → wpList Tryz.prog ops Q rest (a.put o.dst (.slice (some ⟨g', 0, none⟩) (l ++ news).length cap')) w') :
    wpList Tryz.prog ops Q (o :: rest) a w := by
  obtain ⟨i0, hi, hz1, hz2, hz3⟩ := info_parts u8Info
  refine wpList_append_lies w hgd s x 23 ho base 5 i0 _ 1 1 Tryz.underlying23 hi hz1 hz2 hz3 rfl (by decide) _ _ _ hs hown ad m c (news.map bV) hx (by rw [List.length_map, hm]; omega) (fun j u hu => ?_) (bV_one _) hm0 (by unfold maxLen; omega) (by omega) hbase _ rfl ?_
  · rw [List.getElem?_map, Option.map_eq_some_iff] at hu
    obtain ⟨b, hb, rfl⟩ := hu
    exact hnews j b hb
  · intro g' cap' w' how hg hgg _
    have e : l.length + m = (l ++ news).length := by rw [List.length_append, hm]
    rw [e, ← List.map_append] at how
    rw [e]
    refine h g' cap' w' how hg ?_
    rcases hgg with h1 | h1
    · exact .inl (Option.some.inj h1).symm
    · exact .inr h1
/-- the row grows, the digits' block bb and what lies below base stay as in w0 -/
structure St (w0 : World) (base bb : Nat) (w : World) (g cap : Nat) (l : List UInt8) : Prop where
  buf : Buf w base g cap l
  ne : g ≠ bb
  blk : w.heap[bb]? = w0.heap[bb]?
  below : Below base w0 w
  le : base ≤ w0.heap.size
  lt : bb < w0.heap.size
theorem cells_new8 (W : World) (news : List UInt8) (t : TypeId) : ∀ j b, news[j]? = some b → (W.alloc (.cells (news.map bV).toArray t)).cell? ((⟨W.heap.size, 0, none⟩ : Addr).add j) = some (bV b) := by
  intro j b hb
  have hadd : (⟨W.heap.size, 0, none⟩ : Addr).add j = ⟨W.heap.size, j, none⟩ := by unfold Addr.add; split <;> simp_all
  rw [hadd, cell_of_row _ _ j _ _ _ (heap_alloc_new W _)]
  simp [hb]
/-- single bytes are put behind -/
theorem wl_put8 {ops : Array Oper} {rest : List Oper} {o : Oper} {a : Act} {W : World} {Q : Exit → Act → World → Prop} {w0 : World} {base bb g cap : Nat} {l : List UInt8} (hS : St w0 base bb W g cap l) (hgd : o.guard = none) (s x : Operand)
    (ho : o.op = .call { callee := .builtin .append, args := #[s, x], argTypes := #[23, 23] }) (news : List UInt8) (m : Nat) (vals : Array Value) (hv : vals = (news.map bV).toArray) (hm : news.length = m) (hm0 : 0 < m) (L : Nat) (hL : l.length = L) (hlen : L + m ≤ 1000)
    (hs : a.eval s = .slice (some ⟨g, 0, none⟩) L cap) (hx : a.eval x = .slice (some ⟨W.heap.size, 0, none⟩) m m)
    (h : ∀ g' cap' w', St w0 base bb w' g' cap' (l ++ news) → wpList Tryz.prog ops Q rest (a.put o.dst (.slice (some ⟨g', 0, none⟩) (L + m) cap')) w') :
    wpList Tryz.prog ops Q (o :: rest) a (W.alloc (.cells vals 5)) := by
  subst hv
  subst hL
  have hsz := hS.below.size
  have hle := hS.le
  have hlt := hS.lt
  have hg := hS.buf.lt
  refine wl_app8 hgd s x ho base g cap l hs (World.ownsRow.alloc hS.buf _) ⟨W.heap.size, 0, none⟩ m m news hx hm hm0 (cells_new8 W news _) hlen (by simp; omega) fun g' cap' w' hb hgr hgg => ?_
  have hne := hS.ne
  rw [List.length_append, hm]
  refine h g' cap' w' ⟨hb, ?_, ?_, ?_, hS.le, hS.lt⟩
  · rcases hgg with rfl | rfl
    · exact hne
    · simp; omega
  · rw [hgr.block bb (by simp; omega) (fun e => hS.ne (Option.some.inj e).symm), Below.heap_alloc _ _ _ (by omega)]
    exact hS.blk
  · exact (hS.below.alloc (by omega) _).grown hgr (by simp; omega) (fun k e => by obtain rfl := Option.some.inj e; exact hg.1)
/-- a piece of the digits is put behind -/
theorem wl_digs8 {ops : Array Oper} {rest : List Oper} {o : Oper} {a : Act} {W : World} {Q : Exit → Act → World → Prop} {w0 : World} {base bb g cap : Nat} {l : List UInt8} (hS : St w0 base bb W g cap l) (hgd : o.guard = none) (s x : Operand)
    (ho : o.op = .call { callee := .builtin .append, args := #[s, x], argTypes := #[23, 23] }) (news : List UInt8) (off m c : Nat) (hm : news.length = m) (hm0 : 0 < m) (L : Nat) (hL : l.length = L) (hlen : L + m ≤ 1000) (hd : ∀ j b, news[j]? = some b → w0.cell? ⟨bb, off + j, none⟩ = some (bV b))
    (hs : a.eval s = .slice (some ⟨g, 0, none⟩) L cap) (hx : a.eval x = .slice (some ⟨bb, off, none⟩) m c)
    (h : ∀ g' cap' w', St w0 base bb w' g' cap' (l ++ news) → wpList Tryz.prog ops Q rest (a.put o.dst (.slice (some ⟨g', 0, none⟩) (L + m) cap')) w') :
    wpList Tryz.prog ops Q (o :: rest) a W := by
  subst hL
  have hsz := hS.below.size
  have hle := hS.le
  have hlt := hS.lt
  have hg := hS.buf.lt
  refine wl_app8 hgd s x ho base g cap l hs hS.buf ⟨bb, off, none⟩ m c news hx hm hm0 (fun j b hb => ?_) hlen (by omega) fun g' cap' w' hb hgr hgg => ?_
  · have hadd : (⟨bb, off, none⟩ : Addr).add j = ⟨bb, off + j, none⟩ := by unfold Addr.add; split <;> simp_all
    rw [hadd, World.cell?_of_block (w := w0) (a := ⟨bb, off + j, none⟩) hS.blk]
    exact hd j b hb
  · have hne := hS.ne
    rw [List.length_append, hm]
    refine h g' cap' w' ⟨hb, ?_, ?_, ?_, hS.le, hS.lt⟩
    · rcases hgg with rfl | rfl
      · exact hne
      · omega
    · rw [hgr.block bb (by omega) (fun e => hS.ne (Option.some.inj e).symm)]
      exact hS.blk
    · exact hS.below.grown hgr (by omega) (fun k e => by obtain rfl := Option.some.inj e; exact hg.1)
end Go.Proofs.YtejmbbkklhpnaaaGreatDoor.prnw

/- fmtEFG on its road for 'e', shortest. No conditions but those stated. -/
namespace Go.Proofs.YtejmbbkklhpnaaaGreatDoor.prnw
open Go.RowKit
open Go.Shelf
open Go.Sort
open Go.Proofs.YtejmbbkklhpnaaaGreatDoor.nodew
open Go.Proofs.YtejmbbkklhpnaaaGreatDoor.chkw

/-- the exponent's digits -/
def expD (x : Nat) : List UInt8 :=
  if x < 10 then [48, UInt8.ofNat (48 + x)] else if x < 100 then [UInt8.ofNat (48 + x / 10), UInt8.ofNat (48 + x % 10)]
  else [UInt8.ofNat (48 + x / 100), UInt8.ofNat (48 + x / 10 % 10), UInt8.ofNat (48 + x % 10)]
theorem u8n (n : Nat) (h : n < 256) : (((UInt8.ofNat n).toNat : Nat) : Int) = (n : Int) := by
  rw [UInt8.toNat_ofNat']
  omega
theorem exp_v1 (x : Nat) (h : x < 10) : (#[.int .u8 48, .int .u8 ((x : Int) + 48)] : Array Value) = ([48, UInt8.ofNat (48 + x)].map bV).toArray := by
  have e1 := u8n (48 + x) (by omega)
  change _ = (#[.int .u8 48, .int .u8 ((UInt8.ofNat (48 + x)).toNat : Int)] : Array Value)
  rw [e1, show ((48 + x : Nat) : Int) = (x : Int) + 48 by omega]
theorem exp_v2 (x : Nat) (h : x < 100) : (#[.int .u8 ((x : Int) / 10 + 48), .int .u8 ((x : Int) % 10 + 48)] : Array Value) = ([UInt8.ofNat (48 + x / 10), UInt8.ofNat (48 + x % 10)].map bV).toArray := by
  have e1 := u8n (48 + x / 10) (by omega)
  have e2 := u8n (48 + x % 10) (by omega)
  change _ = (#[.int .u8 ((UInt8.ofNat (48 + x / 10)).toNat : Int), .int .u8 ((UInt8.ofNat (48 + x % 10)).toNat : Int)] : Array Value)
  rw [e1, e2, show ((48 + x / 10 : Nat) : Int) = (x : Int) / 10 + 48 by omega, show ((48 + x % 10 : Nat) : Int) = (x : Int) % 10 + 48 by omega]
theorem exp_v3 (x : Nat) (h : x < 1000) : (#[.int .u8 ((x : Int) / 100 + 48), .int .u8 ((x : Int) / 10 % 10 + 48), .int .u8 ((x : Int) % 10 + 48)] : Array Value) = ([UInt8.ofNat (48 + x / 100), UInt8.ofNat (48 + x / 10 % 10), UInt8.ofNat (48 + x % 10)].map bV).toArray := by
  have e0 := u8n (48 + x / 100) (by omega)
  have e1 := u8n (48 + x / 10 % 10) (by omega)
  have e2 := u8n (48 + x % 10) (by omega)
  change _ = (#[.int .u8 ((UInt8.ofNat (48 + x / 100)).toNat : Int), .int .u8 ((UInt8.ofNat (48 + x / 10 % 10)).toNat : Int), .int .u8 ((UInt8.ofNat (48 + x % 10)).toNat : Int)] : Array Value)
  rw [e0, e1, e2, show ((48 + x / 100 : Nat) : Int) = (x : Int) / 100 + 48 by omega, show ((48 + x / 10 % 10 : Nat) : Int) = (x : Int) / 10 % 10 + 48 by omega, show ((48 + x % 10 : Nat) : Int) = (x : Int) % 10 + 48 by omega]
/-- the text of digits d0 ds, of which the point stands behind dp -/
def efgT (d0 : UInt8) (ds : List UInt8) (dp : Int) : List UInt8 :=
  [d0] ++ (if ds = [] then [] else 46 :: ds) ++ [101] ++ [if dp - 1 < 0 then 45 else 43] ++ expD (dp - 1).natAbs
def EfPost (w : World) (base bb : Nat) (t : List UInt8) (x : Ending) (w' : World) : Prop :=
  ∃ g cap, x = .returned (.slice (some ⟨g, 0, none⟩) t.length cap) ∧ St w base bb w' g cap t
set_option maxRecDepth 100000 in
set_option maxHeartbeats 1000000 in
theorem efg_any (base bb g cap : Nat) (d0 : UInt8) (ds : List UInt8) (dp : Int) (p0 : -400 ≤ dp) (p1 : dp ≤ 400) (hlen : ds.length ≤ 20) (w : World) (hS : St w base bb w g cap [])
    (hd : ∀ j b, (d0 :: ds)[j]? = some b → w.cell? ⟨bb, j, none⟩ = some (bV b)) :
    Calls Tryz.prog 131 #[.slice (some ⟨g, 0, none⟩) 0 cap, .bool false, .slice (some ⟨bb, 0, none⟩) 32 32, .int .i64 dp, .int .i64 ((ds.length : Nat) + 1), .int .i64 (ds.length : Nat), .int .u8 101, .bool true] w (EfPost w base bb (efgT d0 ds dp)) := by
  have c0 : w.cell? ⟨bb, 0, none⟩ = some (.int .u8 (d0.toNat : Int)) := hd 0 d0 rfl
  have HS := Lib.hid hS
  have HD := Lib.hid hd
  obtain ⟨q, hq⟩ : ∃ q, q = ds.length := ⟨_, rfl⟩
  rw [← hq] at hlen ⊢
  have HQ := Lib.hid hq
  have q0 : (0 : Int) ≤ (q : Int) := by omega
  have q1 : (q : Int) ≤ 20 := by omega
  have q2 : ((q : Int) + 1 == 0) = false := by rw [beq_eq_false_iff_ne]; omega
  clear hS hd hq hlen
  go_enter Tryz.func131, Tryz.ntmps131
  go_upto_region 25 with (fail)
  clear c0
  go_upto_region 26 with (at_builtin; refine wl_put8 HS.out rfl (.tmp 87) (.tmp 89) rfl [d0] 1 _ rfl rfl (by decide) 0 rfl (by decide) rfl rfl ?_; intro g1 c1 w1 hS1)
  obtain ⟨l, hl⟩ : ∃ l, l = [d0] ++ (if ds = [] then [] else 46 :: ds) := ⟨_, rfl⟩
  have HL := Lib.hid hl
  have HS1 := Lib.hid hS1
  clear hl hS1
  go_upto_if 92 with (fail)
  go_cut [0] from 20 to 119 (fun s0 wx => ∃ g' c', s0 = .slice (some ⟨g', 0, none⟩) l.length c' ∧ St w base bb wx g' c' l)
  case first =>
    by_cases h0 : q = 0
    · have hds : ds = [] := List.length_eq_zero_iff.1 (by rw [← HQ.out]; exact h0)
      have hl1 : l = [d0] := by rw [HL.out, if_pos hds]; rfl
      have HL1 := Lib.hid hl1
      have hq0 : decide (0 < q) = false := decide_eq_false (by omega)
      have hq1 : ¬ 0 < q := by omega
      clear hds hl1 h0
      go_wp2_with fail
      go_meet
      exact ⟨g1, c1, by rw [HL1.out]; rfl, by rw [HL1.out]; exact HS1.out⟩
    · have hds : ¬ ds = [] := fun e => h0 (by rw [HQ.out, e]; rfl)
      have hl1 : l = [d0] ++ [46] ++ ds := by rw [HL.out, if_neg hds]; simp
      have HL1 := Lib.hid hl1
      have hq0 : 0 < q := by omega
      have hq1 : decide (0 < q) = true := decide_eq_true hq0
      clear hds hl1
      go_upto_region 28 with (at_builtin; refine wl_put8 HS1.out rfl (.tmp 93) (.tmp 94) rfl [46] 1 _ rfl rfl (by decide) 1 rfl (by decide) rfl rfl ?_; intro g2 c2 w2 hS2)
      have HS2 := Lib.hid hS2
      have q3 : (1 : Int) < (q : Int) + 1 := by omega
      clear hS2
      go_upto_region 31 with (fail)
      have s1 : ((q : Int) + 1).toNat = q + 1 := by omega
      have s2 : q + 1 - 1 = q := by omega
      have s3 : (q : Int) + 1 ≤ 32 := by omega
      have s4 : q + 1 ≤ 32 := by omega
      go_upto_region 32 with (at_builtin; refine wl_digs8 HS2.out rfl (.tmp 103) (.tmp 107) rfl ds 1 q 31 HQ.out.symm hq0 2 rfl (by omega) (fun j b hb => by have := HD.out (1 + j) b (by rw [Nat.add_comm, List.getElem?_cons_succ]; exact hb); exact this) rfl rfl ?_; intro g3 c3 w3 hS3)
      clear s1 s2 s3 s4
      have HS3 := Lib.hid hS3
      have hq5 : (q : Int) + 1 - ((q : Int) + 1) = 0 := by omega
      clear hS3
      go_wp2_with fail
      go_loopw [0, 114] (fun s0 i wr => s0 = .slice (some ⟨g3, 0, none⟩) (2 + q) c3 ∧ i = .int .i64 0 ∧ wr = w3) (fun _ _ _ => 0)
      case atStart => exact ⟨rfl, rfl, rfl⟩
      case round =>
        obtain ⟨rfl, rfl, rfl⟩ := hrel
        go_wp2_with fail
        go_meet
        exact ⟨g3, c3, by rw [HL1.out, HQ.out]; simp only [List.length_append, List.length_cons, List.length_nil], by rw [HL1.out]; exact HS3.out⟩
  case rest =>
    obtain ⟨g4, c4, rfl, hS4⟩ := hcut
    have hLb : l.length ≤ 22 := by
      rw [HL.out]
      have := HQ.out
      split <;> simp <;> omega
    have HS4 := Lib.hid hS4
    obtain ⟨L, hL⟩ : ∃ L, l.length = L := ⟨_, rfl⟩
    rw [hL] at hLb ⊢
    have HL2 := Lib.hid hL
    obtain ⟨c, hc⟩ : ∃ c : UInt8, c = if dp - 1 < 0 then 45 else 43 := ⟨_, rfl⟩
    obtain ⟨x, hx⟩ : ∃ x, x = (dp - 1).natAbs := ⟨_, rfl⟩
    have hx4 : x ≤ 401 := by omega
    have HC := Lib.hid hc
    have HX := Lib.hid hx
    clear hS4 hc hx hL
    go_upto_region 38 with (at_builtin; refine wl_put8 HS4.out rfl (.tmp 120) (.tmp 122) rfl [101] 1 _ rfl rfl (by decide) L HL2.out (by omega) rfl rfl ?_; intro g5 c5 w5 hS5)
    have HS5 := Lib.hid hS5
    clear hS5
    go_upto_if 129 with (fail)
    go_cut [19, 22] from 129 to 131 (fun s19 s22 wx => s19 = .int .u8 (c.toNat : Int) ∧ s22 = .int .i64 (x : Int) ∧ wx = w5)
    case first =>
      by_cases hneg : dp - 1 < 0
      · have hc1 : ((c.toNat : Nat) : Int) = 45 := by rw [HC.out, if_pos hneg]; rfl
        have hx1 : (x : Int) = -(dp - 1) := by have := HX.out; omega
        have HC1 := Lib.hid hc1
        have HX1 := Lib.hid hx1
        have hd1 : decide (dp - 1 < 0) = true := decide_eq_true hneg
        clear hc1 hx1
        go_wp2_with fail
        go_meet
        exact ⟨by rw [HC1.out], by rw [HX1.out], rfl⟩
      · have hc1 : ((c.toNat : Nat) : Int) = 43 := by rw [HC.out, if_neg hneg]; rfl
        have hx1 : (x : Int) = dp - 1 := by have := HX.out; omega
        have HC1 := Lib.hid hc1
        have HX1 := Lib.hid hx1
        have hd1 : decide (dp - 1 < 0) = false := decide_eq_false hneg
        clear hc1 hx1
        go_wp2_with fail
        go_meet
        exact ⟨by rw [HC1.out], by rw [HX1.out], rfl⟩
    case rest =>
      obtain ⟨rfl, rfl, rfl⟩ := hcut
      have hxi : (x : Int) ≤ 401 := by omega
      have hx0 : (0 : Int) ≤ (x : Int) := by omega
      go_upto_region 47 with (at_builtin; refine wl_put8 HS5.out rfl (.tmp 132) (.tmp 134) rfl [c] 1 _ rfl rfl (by decide) (L + 1) (by rw [List.length_append, HL2.out]; rfl) (by omega) rfl rfl ?_; intro g6 c6 w6 hS6)
      have HS6 := Lib.hid hS6
      clear hS6
      by_cases h10 : x < 10
      · have ht : efgT d0 ds dp = l ++ [101] ++ [c] ++ [48, UInt8.ofNat (48 + x)] := by
          unfold efgT expD
          rw [← HX.out, if_pos h10, ← HC.out, HL.out]
        have HTT := Lib.hid ht
        have e1 : decide (x < 10) = true := decide_eq_true h10
        clear ht
        go_wp2_with (at_builtin; refine wl_put8 HS6.out rfl (.tmp 155) (.tmp 159) rfl [48, UInt8.ofNat (48 + x)] 2 _ (exp_v1 x h10) rfl (by decide) (L + 1 + 1) (by rw [List.length_append, List.length_append, HL2.out]; rfl) (by omega) rfl rfl ?_; intro g7 c7 w7 hS7; have HS7 := Lib.hid hS7; clear hS7)
        go_ret
        exact ⟨g7, c7, by rw [HTT.out, List.length_append, List.length_append, List.length_append, HL2.out]; rfl, by rw [HTT.out]; exact HS7.out⟩
      · have e1 : decide (x < 10) = false := decide_eq_false h10
        by_cases h100 : x < 100
        · have ht : efgT d0 ds dp = l ++ [101] ++ [c] ++ [UInt8.ofNat (48 + x / 10), UInt8.ofNat (48 + x % 10)] := by
            unfold efgT expD
            rw [← HX.out, if_neg h10, if_pos h100, ← HC.out, HL.out]
          have HTT := Lib.hid ht
          have e2 : decide (x < 100) = true := decide_eq_true h100
          clear ht
          go_wp2_with (at_builtin; refine wl_put8 HS6.out rfl (.tmp 164) (.tmp 173) rfl [UInt8.ofNat (48 + x / 10), UInt8.ofNat (48 + x % 10)] 2 _ (exp_v2 x h100) rfl (by decide) (L + 1 + 1) (by rw [List.length_append, List.length_append, HL2.out]; rfl) (by omega) rfl rfl ?_; intro g7 c7 w7 hS7; have HS7 := Lib.hid hS7; clear hS7)
          go_ret
          exact ⟨g7, c7, by rw [HTT.out, List.length_append, List.length_append, List.length_append, HL2.out]; rfl, by rw [HTT.out]; exact HS7.out⟩
        · have ht : efgT d0 ds dp = l ++ [101] ++ [c] ++ [UInt8.ofNat (48 + x / 100), UInt8.ofNat (48 + x / 10 % 10), UInt8.ofNat (48 + x % 10)] := by
            unfold efgT expD
            rw [← HX.out, if_neg h10, if_neg h100, ← HC.out, HL.out]
          have HTT := Lib.hid ht
          have e2 : decide (x < 100) = false := decide_eq_false h100
          clear ht
          go_wp2_with (at_builtin; refine wl_put8 HS6.out rfl (.tmp 136) (.tmp 150) rfl [UInt8.ofNat (48 + x / 100), UInt8.ofNat (48 + x / 10 % 10), UInt8.ofNat (48 + x % 10)] 3 _ (exp_v3 x (by omega)) rfl (by decide) (L + 1 + 1) (by rw [List.length_append, List.length_append, HL2.out]; rfl) (by omega) rfl rfl ?_; intro g7 c7 w7 hS7; have HS7 := Lib.hid hS7; clear hS7)
          go_ret
          exact ⟨g7, c7, by rw [HTT.out, List.length_append, List.length_append, List.length_append, HL2.out]; rfl, by rw [HTT.out]; exact HS7.out⟩
end Go.Proofs.YtejmbbkklhpnaaaGreatDoor.prnw

/- Plain mathematics ahead of ftoa64: digits, the parts of a float. No conditions but those stated. -/
namespace Go.Proofs.YtejmbbkklhpnaaaGreatDoor.prnw
open Go.RowKit
open Go.Shelf
open Go.Sort
open Go.Proofs.YtejmbbkklhpnaaaGreatDoor.nodew
open Go.Proofs.YtejmbbkklhpnaaaGreatDoor.chkw

theorem pow_nDigits (u : Nat) (h : 1 ≤ u) : 10 ^ (Lib.nDigits u - 1) ≤ u := by
  induction u using Nat.strongRecOn with
  | _ u ih =>
    by_cases h1 : u < 10
    · rw [Lib.nDigits_small h1]; simpa using h
    · have h2 := ih (u / 10) (by omega) (by omega)
      have h3 := Lib.nDigits_pos (u / 10)
      rw [Lib.nDigits_big h1, show Lib.nDigits (u / 10) + 1 - 1 = (Lib.nDigits (u / 10) - 1) + 1 by omega, Nat.pow_succ]
      omega
theorem dg_first (u : Nat) (h : 1 ≤ u) : Lib.dg u (Lib.nDigits u - 1 - 0) ≠ 48 := by
  have h1 := pow_nDigits u h
  have h2 := Lib.lt_pow_nDigits u
  have h3 := Lib.nDigits_pos u
  obtain ⟨k, hk⟩ : ∃ k, Lib.nDigits u = k + 1 := ⟨Lib.nDigits u - 1, by omega⟩
  rw [hk] at h1 h2 ⊢
  rw [show k + 1 - 1 = k by omega] at h1
  rw [show k + 1 - 1 - 0 = k by omega]
  rw [Nat.pow_succ] at h2
  have p : 0 < 10 ^ k := Nat.pow_pos (by decide)
  have q1 : 1 ≤ u / 10 ^ k := (Nat.le_div_iff_mul_le p).2 (by omega)
  have q2 : u / 10 ^ k < 10 := Nat.div_lt_of_lt_mul h2
  unfold Lib.dg
  intro e
  have e2 := congrArg UInt8.toNat e
  rw [UInt8.toNat_ofNat', Nat.mod_eq_of_lt q2] at e2
  have : (48 : UInt8).toNat = 48 := rfl
  omega
theorem trim_pos (u : Nat) (h : 1 ≤ u) : ∀ n, 1 ≤ n → 1 ≤ trimTo u n
  | 0, h0 => by omega
  | 1, _ => by
    unfold trimTo
    rw [if_neg (dg_first u h)]
    exact Nat.le_refl _
  | n + 2, _ => by
    unfold trimTo
    split
    · exact trim_pos u h (n + 1) (by omega)
    · omega
theorem dg_digit (u j : Nat) : 48 ≤ (Lib.dg u j).toNat ∧ (Lib.dg u j).toNat ≤ 57 := by
  unfold Lib.dg
  rw [UInt8.toNat_ofNat']
  omega
/-- the first digit, and the others that count -/
def sdH (u : Nat) : UInt8 := Lib.dg u (Lib.nDigits u - 1)
def sdL (u : Nat) : List UInt8 := (List.range (trimTo u (Lib.nDigits u) - 1)).map fun t => Lib.dg u (Lib.nDigits u - 1 - (t + 1))
theorem sdL_len (u : Nat) (h : 1 ≤ u) : (sdL u).length + 1 = trimTo u (Lib.nDigits u) := by
  have := trim_pos u h _ (Lib.nDigits_pos u)
  unfold sdL
  rw [List.length_map, List.length_range]
  omega
theorem sd_at (u j : Nat) (b : UInt8) (h : (sdH u :: sdL u)[j]? = some b) (hu : 1 ≤ u) : j < Lib.nDigits u ∧ b = Lib.dg u (Lib.nDigits u - 1 - j) := by
  have ht := trim_le u (Lib.nDigits u)
  have hl := sdL_len u hu
  cases j with
  | zero =>
    rw [List.getElem?_cons_zero] at h
    exact ⟨Lib.nDigits_pos u, (Option.some.inj h).symm⟩
  | succ j =>
    rw [List.getElem?_cons_succ] at h
    obtain ⟨hj, he⟩ := List.getElem?_eq_some_iff.1 h
    refine ⟨by omega, ?_⟩
    rw [← he]
    simp [sdL]
/-- a mantissa set to the left end -/
theorem shl_bd (M : Nat) (h : 1 ≤ M) (h2 : M < 9007199254740992) : 1 ≤ Lib.bitLen M ∧ Lib.bitLen M ≤ 53 ∧ 9223372036854775808 ≤ M * 2 ^ (64 - Lib.bitLen M) ∧ M * 2 ^ (64 - Lib.bitLen M) < 18446744073709551616 := by
  obtain ⟨a, b, c, d⟩ := bl_bd 64 M (by omega) (by omega)
  change 1 ≤ Lib.bitLen M at a
  change Lib.bitLen M ≤ 64 at b
  change 2 ^ (Lib.bitLen M - 1) ≤ M at c
  change M < 2 ^ Lib.bitLen M at d
  obtain ⟨L, hL⟩ : ∃ L, Lib.bitLen M = L := ⟨_, rfl⟩
  rw [hL] at a b c d ⊢
  have h53 : L ≤ 53 := by
    apply Nat.le_of_not_lt
    intro h
    have h5 := Nat.pow_le_pow_right (show 0 < 2 by decide) (show 53 ≤ L - 1 by omega)
    have : (2 : Nat) ^ 53 = 9007199254740992 := by decide
    omega
  have p : 0 < 2 ^ (64 - L) := Nat.pow_pos (by decide)
  have e1 : 2 ^ (L - 1) * 2 ^ (64 - L) = 9223372036854775808 := by
    rw [← Nat.pow_add, show L - 1 + (64 - L) = 63 by omega]
  have e2 : 2 ^ L * 2 ^ (64 - L) = 18446744073709551616 := by
    rw [← Nat.pow_add, show L + (64 - L) = 64 by omega]
  have q1 := Nat.mul_le_mul_right (2 ^ (64 - L)) c
  have q2 := (Nat.mul_lt_mul_right p).2 d
  exact ⟨a, h53, by omega, by omega⟩
end Go.Proofs.YtejmbbkklhpnaaaGreatDoor.prnw
