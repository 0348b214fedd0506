/- burnishref17.Parse is parse.Parse. Conditions: as each theorem states. -/
import Derived.Test.YtcbgkbidgpemfaaGreatDoorMp09
import Derived.Test.YtcbgkbidgpemfaaGreatDoorProg
import Derived.Test.YtcbgkbidgpemfaaGreatDoorMp01
import Derived.Outline
import Derived.Deep.LoopGhost
import Derived.Laws.OwnMore
import Derived.Laws.FloatBits
import Derived.Laws.FloatArith
import Derived.Laws.Externs
import Derived.Lib.Hide
import Derived.WalkKit
import Derived.WalkLawsBesides
import Derived.Handy
import Derived.WalkMore
import Derived.IntWalk
import Derived.BigQuiet
import Derived.Lib.BitFns
import Derived.Below
import Derived.Deep.AppendLies
import Derived.Deep.Cut
import Derived.Deep.CutBlock
import Derived.Deep.CutRange
import Derived.Deep.Draws
import Derived.Deep.MidRow
import Derived.Deep.QuietTactic
import Derived.Deep.RegionHeld3
import Derived.Deep.DeepFit
import Derived.Laws.BitsAllLaws
import Derived.Laws.Pointers
import Derived.Laws.Tables
import Derived.OwnWalk
import Derived.RegionTactic
import Derived.StillTactics
import Derived.WalkSpells
namespace Go.Proofs.YtcbgkbidgpemfaaGreatDoor.rg
open Go.RowKit
open Go.Proofs.YtcbgkbidgpemfaaGreatDoor.parw
open Go.Proofs.YtcbgkbidgpemfaaGreatDoor.lexw
attribute [local go_sem] run_store_float

theorem refL_cons {dec : ByteArray → Nat × Nat} {en : Int} (f : Nat) (t : PTok) (r : List PTok) (out : List PStmt) : refL dec en (f + 1) (t :: r) out = if t.kind = 4 then refL dec en f r out else match lineL dec en (t :: r) 0 0 0 st0 with
    | .inl (s, rest) => refL dec en f rest (out ++ [s])
    | .inr (p, e) => ([], p, e) := rfl
theorem refL_nil {dec : ByteArray → Nat × Nat} {en : Int} (f : Nat) (out : List PStmt) : refL dec en f [] out = (out, 0, 0) := by
  cases f <;> rfl
/-- what line leaves is less -/
theorem line_more {dec : ByteArray → Nat × Nat} {en : Int} : ∀ (l : List PTok) (i nb wd : Nat) (s s' : PStmt) (rest : List PTok), ¬ 3 + nb + wd + 1 ≤ i → lineL dec en l i nb wd s = .inl (s', rest) → rest.length < l.length
  | [], i, nb, wd, s, s', rest, hi, h => by rw [line_out _ _ _ _ hi] at h; cases h
  | t :: r, i, nb, wd, s, s', rest, hi, h => by
    have key : ∀ j nb wd s, lineL dec en r j nb wd s = .inl (s', rest) → rest.length < (t :: r).length := fun j nb wd s h => by
      by_cases hj : 3 + nb + wd + 1 ≤ j
      · rw [line_done _ _ _ _ _ hj] at h
        injection h with h
        obtain ⟨-, h2⟩ := Prod.mk.inj h
        rw [← h2]
        simp
      · have := line_more r j nb wd s s' rest hj h
        rw [List.length_cons]
        omega
    rw [line_step _ _ _ _ _ _ hi] at h
    repeat' split at h
    all_goals first | exact key _ _ _ _ h | cases h
theorem prow_below {w W : World} {v : Value} {L : List PTok} (h : PRow w w.heap.size v L) (hb : Below w.heap.size w W) : PRow W W.heap.size v L := by
  obtain ⟨A, c, hv, hlc, hx⟩ := h
  refine ⟨A, c, hv, hlc, fun h0 => ?_⟩
  obtain ⟨g, off, hA, hg, hc⟩ := hx h0
  exact ⟨g, off, hA, by have := hb.size; omega, fun j u hu => (hb.cell (p := ⟨g, off + j, none⟩) hg).trans (hc j u hu)⟩
set_option maxRecDepth 100000 in
set_option maxHeartbeats 4000000 in
theorem parse17_any (dec : ByteArray → Nat × Nat) (L : List PTok) (hL : L.length ≤ 1000000) (hd : DecR dec L) (v : Value) (w : World) (hv : PRow w w.heap.size v L) :
    Calls Tryz.prog 12 #[v] w (ParsePost w (refL dec (endOf L) (L.length + 1) L [])) := by
  obtain ⟨i0, hi0, hz0, hz1, hz2⟩ := info_parts Tryz.stmtInfo
  obtain ⟨RR, hRR⟩ : ∃ r, refL dec (endOf L) (L.length + 1) L [] = r := ⟨_, rfl⟩
  rw [hRR]
  have HR := Lib.hid hRR
  have HLN := Lib.hid (fun (at_ : Nat) (hat : at_ ≤ L.length) (W : World) (h : Below w.heap.size w W) => line_any dec L hL hd v at_ hat W (prow_below hv h))
  clear hRR hd
  obtain ⟨A, c, rfl, hlc, hx⟩ := hv
  have HX := Lib.hid hx
  obtain ⟨en, hen⟩ : ∃ en, endOf L = en := ⟨_, rfl⟩
  rw [hen] at HR HLN
  obtain ⟨N, hN⟩ : ∃ N, L.length = N := ⟨_, rfl⟩
  rw [hN] at hL hlc HR HLN ⊢
  have HN := Lib.hid hN
  clear hen hN hx
  have hNi : (N : Int) ≤ 1000000 := by omega
  go_enter Tryz.func12, Tryz.ntmps12
  go_wp2_with fail
  go_loopg [5, 6] (N + 1) (fun gk o s6 wr => ∃ (k : Nat) (out : List PStmt), k ≤ N ∧ N - k + 1 ≤ gk ∧ out.length + gk ≤ N + 1 ∧ s6 = .int .i64 k ∧ SRow wr w.heap.size o out ∧ refL dec en gk (L.drop k) out = RR ∧ Below w.heap.size w wr)
  case atStart => exact ⟨0, [], Nat.zero_le _, by omega, by simp, rfl, ⟨[], rfl, World.ownsRow_nil _ _ _ _, fun i h => by simp at h⟩, HR.out, Below.refl _ _⟩
  case round =>
    obtain ⟨k, out, hkN, hgk, hol, rfl, hS, hP, hB⟩ := hrel
    obtain ⟨wo, rfl⟩ : ∃ wo : World, wo = wr := ⟨_, rfl⟩
    have HS := Lib.hid hS
    have HB := Lib.hid hB
    have HP := Lib.hid hP
    have hki : (k : Int) ≤ (N : Int) := by omega
    clear hS hB hP HR
    by_cases hke : ¬ k < N
    · have hRR : RR = (out, 0, 0) := by rw [← HP.out, List.drop_eq_nil_of_le (by rw [HN.out]; omega), refL_nil]
      subst hRR
      have e1 : ¬ (k : Int) < (N : Int) := by omega
      clear HP hgk hol hke
      go_wp2_with fail
      go_ret3
      exact ⟨_, rfl, HS.out, HB.out⟩
    have hkl : k < N := Decidable.not_not.1 hke
    have hkL : k < L.length := by rw [HN.out]; exact hkl
    obtain ⟨gj, rfl⟩ : ∃ gj, gk = gj + 1 := ⟨gk - 1, by omega⟩
    obtain ⟨g, off, rfl, hg, hcell⟩ := HX.out (by intro e; rw [e] at hkL; simp at hkL)
    obtain ⟨t, ht⟩ : ∃ t, L[k] = t := ⟨_, rfl⟩
    have hdrop : L.drop k = t :: L.drop (k + 1) := by rw [List.drop_eq_getElem_cons hkL, ht]
    have hq : wo.cell? ⟨g, off + k * 3, none⟩ = some (.int .u8 t.kind) := (HB.out.cell (p := ⟨g, off + k * 3, none⟩) hg).trans (hcell (k * 3) _ (by
      have : pcells L = pcells (L.take k) ++ (t.cells ++ pcells (L.drop (k + 1))) := by rw [← pcells_cons, ← hdrop, ← pcells_app, List.take_append_drop]
      have hlen : (pcells (L.take k)).length = k * 3 := by rw [pcells_length, List.length_take, Nat.min_eq_left (by omega)]
      rw [this, List.getElem?_append_right (by omega), hlen, Nat.sub_self]
      rfl))
    have hp := HP.out
    rw [hdrop, refL_cons, ← hdrop] at hp
    obtain ⟨tk, htk⟩ : ∃ tk, t.kind = tk := ⟨_, rfl⟩
    rw [htk] at hq hp
    have hkli : (k : Int) < (N : Int) := by omega
    have HP2 := Lib.hid hp
    have n1 : 1 ≤ c := by omega
    clear hcell hp ht hdrop htk HP hkL hke
    by_cases hk4 : tk = 4
    · have e1 : ((tk : Int) == 4) = true := by rw [beq_iff_eq]; omega
      have hp := HP2.out
      rw [if_pos hk4] at hp
      have HP3 := Lib.hid hp
      clear hp HP2 hk4
      go_wp2_with fail
      go_roundg gj
      case measure => omega
      case rel => exact ⟨k + 1, out, by omega, by omega, by omega, by go_num, HS.out, HP3.out, HB.out⟩
    · have e1 : ((tk : Int) == 4) = false := by rw [beq_eq_false_iff_ne]; omega
      have hp := HP2.out
      rw [if_neg hk4] at hp
      obtain ⟨Q, hQ⟩ : ∃ Q, lineL dec en (L.drop k) 0 0 0 st0 = Q := ⟨_, rfl⟩
      have hCL := HLN.out k hkN wo HB.out
      rw [hQ] at hp hCL
      have HCL := Lib.hid hCL
      have HP3 := Lib.hid hp
      have HQ := Lib.hid hQ
      clear hp HP2 hk4 hCL hQ
      cases Q with
      | inr r =>
        obtain ⟨p, er⟩ := r
        have her : er ≠ 0 := by
          have := stmt_line (dec := dec) (en := en) (L.drop k)
          rw [HQ.out] at this
          exact this.1
        have e2 : ((er : Int) != 0) = true := by rw [bne_iff_ne]; omega
        have hRR : RR = ([], p, er) := HP3.out.symm
        subst hRR
        clear her HP3 HQ
        go_wp2_with (go_at_call 34; (with_reducible refine HCL.out.mono ?_); rintro e wx ⟨hbx, x, y, z, aa, al, ca, rfl⟩; have HBX := Lib.hid (HB.out.trans (hbx.mono HB.out.size)); clear hbx)
        go_ret3
        exact ⟨_, rfl, ⟨[], rfl, World.ownsRow_nil _ _ _ _, fun i h => by simp at h⟩, HBX.out.alloc HBX.out.size _⟩
      | inl r =>
        obtain ⟨st, rest⟩ := r
        have hlt := line_more _ _ _ _ _ _ _ (by decide) HQ.out
        rw [List.length_drop, HN.out] at hlt
        have hol6 : out.length ≤ 1000000 := by omega
        have HLT := Lib.hid hlt
        clear hlt
        simp only at HP3
        go_upto_region 7 with (go_at_call 34; (with_reducible refine HCL.out.mono ?_); rintro e wx ⟨hbx, va, n, rfl, hown, hrest, hnL⟩; obtain ⟨aa, ca, rfl⟩ := row_form hown; have HBX := Lib.hid hbx; have HOW := Lib.hid hown; have HRS := Lib.hid (And.intro hrest hnL); clear hbx hown hrest hnL)
        obtain ⟨vs, hvl, ho, hvs⟩ := HS.out.grown (grown_below HBX.out none) (fun r e => by cases e)
        obtain ⟨W, hW⟩ : ∃ W, wx.alloc (.cells #[.string st.name, .int .i64 st.pos, .int .u8 (st.kind : Int), .slice aa st.args.length ca] 62) = W := ⟨_, rfl⟩
        obtain ⟨G, hG⟩ : ∃ G, wx.heap.size = G := ⟨_, rfl⟩
        rw [hW, hG]
        have hbxW : Below wx.heap.size wx W := by rw [← hW]; exact (Below.refl _ wx).alloc (Nat.le_refl _) _
        have hkW : W.heap[G]? = some (.cells #[.string st.name, .int .i64 st.pos, .int .u8 (st.kind : Int), .slice aa st.args.length ca] 62 (0, 0)) := by rw [← hW, ← hG]; exact heap_alloc_new wx _
        have k0 := (cell_of_row W G 0 _ _ _ hkW).trans rfl
        have k1 := (cell_of_row W G 1 _ _ _ hkW).trans rfl
        have k2 := (cell_of_row W G 2 _ _ _ hkW).trans rfl
        have k3 := (cell_of_row W G 3 _ _ _ hkW).trans rfl
        have hoW := own_grown ho (grown_below hbxW none) (fun r e => by cases e)
        have hBW := HB.out.trans ((HBX.out.trans (hbxW.mono HBX.out.size)).mono HB.out.size)
        have hvW : ∀ i (h1 : i < vs.length) (h2 : i < out.length), W.ownsRow w.heap.size 59 3 vs[i] out[i].args.length (acells out[i].args) := fun i h1 h2 => own_grown (hvs i h1 h2) (grown_below hbxW none) (fun r e => by cases e)
        have hnW := own_le (own_grown HOW.out (grown_below hbxW none) (fun r e => by cases e)) HB.out.size
        have HVS := Lib.hid (And.intro hvl (And.intro hvW hnW))
        have HBW := Lib.hid hBW
        have hzw := hBW.size
        clear hvs ho hbxW hkW hBW hvW hnW hW hG HS HOW hq
        go_wp2_with (at_builtin; refine wpList_append_lies _ rfl (.tmp 35) (.tmp 37) 28 rfl w.heap.size 62 i0 (.agg #[.string ⟨#[]⟩, .int .i64 0, .int .u8 0, .slice none 0 0]) 4 56 Tryz.underlying28 hi0 hz0 hz1 hz2 rfl (by omega) u5 out.length (scells out vs) rfl (hoW.alloc _) ⟨W.heap.size, 0, none⟩ 1 1 (stCells st (.slice aa st.args.length ca)) rfl rfl (World.news_of_block (heap_at W (.cells (stCells st (.slice aa st.args.length ca)).toArray 62) _ rfl)) (by simp [stCells, Value.oneCell']) (by omega) (by unfold maxLen; omega) (by omega) (by simp; omega) _ rfl ?_; intro gz capz wz hownz hgz hatz hltz)
        have gz' : W.grownBy wz (Value.ownBlock u5) := grown_trans (World.grownBy_alloc W _ _) hgz
        have hall : SRow wz w.heap.size (.slice (some ⟨gz, 0, none⟩) (out.length + 1) capz) (out ++ [st]) := by
          refine ⟨vs ++ [.slice aa st.args.length ca], by simp [hvl], ?_, fun i h1 h2 => ?_⟩
          · rw [scells_snoc _ _ _ _ hvl, List.length_append]; exact hownz
          · by_cases hi : i < vs.length
            · rw [List.getElem_append_left hi, List.getElem_append_left (by omega)]
              exact ((HVS.out.2.1 i hi (by omega)).alloc _).kept hgz (own_ne (HVS.out.2.1 i hi (by omega)) hoW (by decide))
            · have hi' : i = out.length := by simp at h1; omega
              subst hi'
              have e1 : (vs ++ [Value.slice aa st.args.length ca])[out.length]'h1 = .slice aa st.args.length ca := by simp [hvl]
              have e2 : (out ++ [st])[out.length]'h2 = st := by simp
              rw [e1, e2]
              exact (HVS.out.2.2.alloc _).kept hgz (own_ne HVS.out.2.2 hoW (by decide))
        have hBz := HBW.out.grown gz' hzw (fun r e => (hoW.lt r e).1)
        go_wp2_with fail
        go_roundg gj
        case measure => omega
        case rel =>
          have h1 := HLT.out
          obtain ⟨h2, h3⟩ := HRS.out
          have h4 : rest.length = N - n := by rw [h2, List.length_drop, HN.out]
          rw [HN.out] at h3
          exact ⟨n, out ++ [st], h3, by omega, by rw [List.length_append, List.length_singleton]; omega, rfl, hall, by rw [← h2]; exact HP3.out, hBz⟩
end Go.Proofs.YtcbgkbidgpemfaaGreatDoor.rg

/- Small laws of worlds and of operations. No conditions but those stated. -/
namespace Go.Proofs.YtcbgkbidgpemfaaGreatDoor.bsw
open Go.RowKit
theorem grown_trans {a b c : World} {row : Option Nat} (h : a.grownBy b row) (k : b.grownBy c row) : a.grownBy c row :=
  ⟨k.os.trans h.os, k.tape.trans h.tape, k.output.trans h.output, Nat.le_trans h.size k.size, fun i hi hr => (k.block i (Nat.lt_of_lt_of_le hi h.size) hr).trans (h.block i hi hr)⟩
theorem heap_set (w : World) (g j : Nat) (cs : Array Value) (t : TypeId) (fr : Nat × Nat) (v : Value) (h : w.heap[g]? = some (.cells cs t fr)) :
    (w.setCell ⟨g, j, none⟩ v).heap[g]? = some (.cells (cs.setIfInBounds j v) t fr) := by
  obtain ⟨hlt, hk⟩ := Array.getElem?_eq_some_iff.1 h
  show (w.heap.modify g _)[g]? = _
  rw [Array.getElem?_eq_getElem (by rw [Array.size_modify]; exact hlt), Array.getElem_modify_self, hk]
  simp
theorem heap_at (w : World) (o : Obj) (k : Nat) (h : w.heap.size = k) : (w.alloc o).heap[k]? = some o := by subst h; exact heap_alloc_new w o
/-- an operation that yields a value -/
theorem wl_val {P : Program} {ops : Array Oper} {rest : List Oper} {o : Oper} {a : Act} {w w' : World} {Q : Exit → Act → World → Prop} (hgd : o.guard = none) (v : Value) (hr : (execOp a.eval o).run P w = .ok (.value v) w')
    (h : wpList P ops Q rest (a.put o.dst v) w') : wpList P ops Q (o :: rest) a w :=
  wpList_plain hgd fun K hK => by
    unfold Oper.wp
    rw [hr]
    exact hK _ _ h
theorem not_frozen {w : World} {g : Nat} {cs : Array Value} {t : TypeId} (h : w.heap[g]? = some (.cells cs t (0, 0))) (j : Nat) : w.frozen? ⟨g, j, none⟩ = false := by
  simp [World.frozen?, h]
end Go.Proofs.YtcbgkbidgpemfaaGreatDoor.bsw

/- A float's mantissa, exponent and interval. Plain. -/
namespace Go.Proofs.YtcbgkbidgpemfaaGreatDoor.prnw
open Go.RowKit
theorem and_mask (k : IntKind) (hk : k = .i64 ∨ k = .u64) (a n : Nat) (ha : a < 9223372036854775808) (hn : n ≤ 62) : bits BinOp.and k (a : Int) ((2 ^ n - 1 : Nat) : Int) = ((a % 2 ^ n : Nat) : Int) := by
  have hp : 2 ^ n ≤ 4611686018427387904 := by
    have := Nat.pow_le_pow_right (show 0 < 2 by decide) hn
    simpa using this
  have hp0 : 0 < 2 ^ n := Nat.pow_pos (by decide)
  obtain ⟨q, hq⟩ : ∃ q, q = 2 ^ n := ⟨_, rfl⟩
  have h2 : (BitVec.ofInt 64 (a : Int)).toNat = a := by
    rw [BitVec.toNat_ofInt]
    omega
  have h3 : (BitVec.ofInt 64 ((2 ^ n - 1 : Nat) : Int)).toNat = 2 ^ n - 1 := by
    rw [BitVec.toNat_ofInt, ← hq]
    rw [← hq] at hp hp0
    omega
  have hm : a % 2 ^ n < 2 ^ n := Nat.mod_lt _ hp0
  rcases hk with rfl | rfl
  · have h : bits BinOp.and IntKind.i64 (a : Int) ((2 ^ n - 1 : Nat) : Int) = IntKind.i64.wrap (((BitVec.ofInt 64 (a : Int) &&& BitVec.ofInt 64 ((2 ^ n - 1 : Nat) : Int)).toNat : Nat) : Int) := rfl
    rw [h, BitVec.toNat_and, h2, h3, Nat.and_two_pow_sub_one_eq_mod, IntKind.wrap_i64]
    obtain ⟨r, hr⟩ : ∃ r, r = a % 2 ^ n := ⟨_, rfl⟩
    rw [← hr] at hm ⊢
    rw [← hq] at hp hm
    omega
  · have h : bits BinOp.and IntKind.u64 (a : Int) ((2 ^ n - 1 : Nat) : Int) = IntKind.u64.wrap (((BitVec.ofInt 64 (a : Int) &&& BitVec.ofInt 64 ((2 ^ n - 1 : Nat) : Int)).toNat : Nat) : Int) := rfl
    rw [h, BitVec.toNat_and, h2, h3, Nat.and_two_pow_sub_one_eq_mod, IntKind.wrap_u64]
    obtain ⟨r, hr⟩ : ∃ r, r = a % 2 ^ n := ⟨_, rfl⟩
    rw [← hr] at hm ⊢
    rw [← hq] at hp hm
    omega
/-- a float's mantissa and exponent -/
def ftM (X : Nat) : Nat := if X / 4503599627370496 = 0 then X % 4503599627370496 else X % 4503599627370496 + 4503599627370496
def ftE (X : Nat) : Int := if X / 4503599627370496 = 0 then -1022 else ((X / 4503599627370496 : Nat) : Int) - 1023
theorem ftM_pos (X : Nat) (h : 0 < X) : 1 ≤ ftM X ∧ ftM X < 9007199254740992 := by
  unfold ftM
  split
  · omega
  · omega
theorem bl_bd : ∀ (f x : Nat), x < 2 ^ f → 0 < x → 1 ≤ Lib.bitLenAux f x ∧ Lib.bitLenAux f x ≤ f ∧ 2 ^ (Lib.bitLenAux f x - 1) ≤ x ∧ x < 2 ^ Lib.bitLenAux f x
  | 0, x, h, h0 => by
    have : x < 1 := by simpa using h
    omega
  | f + 1, x, h, h0 => by
    rw [Lib.bitLenAux, if_neg (by omega)]
    by_cases h2 : x / 2 = 0
    · have e : x = 1 := by omega
      have : Lib.bitLenAux f (x / 2) = 0 := by
        rw [h2]
        cases f with
        | zero => rfl
        | succ f => rw [Lib.bitLenAux, if_pos rfl]
      rw [this, e]
      refine ⟨?_, ?_, ?_, ?_⟩
      · omega
      · omega
      · decide
      · decide
    · obtain ⟨a, b, c, d⟩ := bl_bd f (x / 2) (by rw [Nat.pow_succ] at h; omega) (by omega)
      obtain ⟨k, hk⟩ : ∃ k, Lib.bitLenAux f (x / 2) = k + 1 := ⟨Lib.bitLenAux f (x / 2) - 1, by omega⟩
      rw [hk] at a b c d ⊢
      rw [show k + 1 - 1 = k by omega] at c
      rw [Nat.pow_succ] at d
      refine ⟨by omega, by omega, ?_, ?_⟩
      · rw [show 1 + (k + 1) - 1 = k + 1 by omega, Nat.pow_succ]
        omega
      · rw [show 1 + (k + 1) = k + 1 + 1 by omega, Nat.pow_succ, Nat.pow_succ]
        omega
theorem toNat_bits63 (s : Int) (h0 : 0 ≤ s) (h1 : s ≤ 63) : bits BinOp.and IntKind.i64 s 63 = s := by
  obtain ⟨n, rfl⟩ := Int.eq_ofNat_of_zero_le h0
  have hn : n < 64 := by omega
  revert hn
  revert n
  intro n _ _ hn
  have h : bits BinOp.and IntKind.i64 (n : Int) 63 = IntKind.i64.wrap (((BitVec.ofInt 64 (n : Int) &&& BitVec.ofInt 64 63).toNat : Nat) : Int) := rfl
  have h2 : (BitVec.ofInt 64 (n : Int)).toNat = n := by
    rw [BitVec.toNat_ofInt]
    omega
  have h3 : (BitVec.ofInt 64 63).toNat = 2 ^ 6 - 1 := by decide
  rw [h, BitVec.toNat_and, h2, h3, Nat.and_two_pow_sub_one_eq_mod, IntKind.wrap_i64]
  omega
end Go.Proofs.YtcbgkbidgpemfaaGreatDoor.prnw
namespace Go.Proofs.YtcbgkbidgpemfaaGreatDoor.fpm
open Go Go.RowKit Go.Proofs.YtcbgkbidgpemfaaGreatDoor.prnw
/-- the interval's lower end, in quarters of the last place -/
def loQ (M : Nat) (E : Int) : Nat := if M = 4503599627370496 ∧ -1074 < E then 4 * M - 1 else 4 * M - 2
theorem loQ_bd (M : Nat) (E : Int) : 4 * M - 2 ≤ loQ M E ∧ loQ M E ≤ 4 * M - 1 ∧ (M % 2 = 1 → loQ M E = 4 * M - 2) := by
  unfold loQ
  by_cases h : M = 4503599627370496 ∧ -1074 < E
  · rw [if_pos h]
    have := h.1
    exact ⟨by omega, by omega, fun h2 => by omega⟩
  · rw [if_neg h]
    exact ⟨Nat.le_refl _, by omega, fun _ => rfl⟩
/-- the ends of a float's interval, in quarters of the least unit -/
def endL (X : Nat) : Nat := loQ (ftM X) (ftE X - 52) * 2 ^ (ftE X - 52 + 1074).toNat
def endU (X : Nat) : Nat := (4 * ftM X + 2) * 2 ^ (ftE X - 52 + 1074).toNat
theorem ends_meet (X : Nat) : endL (X + 1) = endU X := by
  unfold endL endU
  obtain ⟨q, hq⟩ : ∃ q, q = X / 4503599627370496 := ⟨_, rfl⟩
  obtain ⟨r, hr⟩ : ∃ r, r = X % 4503599627370496 := ⟨_, rfl⟩
  by_cases hl : r + 1 < 4503599627370496
  · have e1 : (X + 1) / 4503599627370496 = q := by omega
    have e2 : (X + 1) % 4503599627370496 = r + 1 := by omega
    have hM : ftM (X + 1) = ftM X + 1 := by
      unfold ftM
      rw [e1, e2, ← hq, ← hr]
      split <;> omega
    have hE : ftE (X + 1) = ftE X := by
      unfold ftE
      rw [e1, ← hq]
    have hM0 : ftM X + 1 ≠ 4503599627370496 ∨ ¬ -1074 < ftE X - 52 := by
      unfold ftM ftE
      rw [← hq, ← hr]
      split <;> omega
    rw [hM, hE]
    congr 1
    unfold loQ
    rw [if_neg (by omega)]
    omega
  · have e1 : (X + 1) / 4503599627370496 = q + 1 := by omega
    have e2 : (X + 1) % 4503599627370496 = 0 := by omega
    have hM : ftM (X + 1) = 4503599627370496 := by
      unfold ftM
      rw [e1, e2, if_neg (by omega)]
    have hE : ftE (X + 1) = (q : Int) - 1022 := by
      unfold ftE
      rw [e1, if_neg (by omega)]
      omega
    rw [hM, hE]
    by_cases h0 : q = 0
    · have hM2 : ftM X = 4503599627370495 := by
        unfold ftM
        rw [← hq, ← hr, if_pos h0]
        omega
      have hE2 : ftE X = -1022 := by unfold ftE; rw [← hq, if_pos h0]
      rw [hM2, hE2, h0]
      decide
    · have hM2 : ftM X = 9007199254740991 := by
        unfold ftM
        rw [← hq, ← hr, if_neg h0]
        omega
      have hE2 : ftE X = (q : Int) - 1023 := by unfold ftE; rw [← hq, if_neg h0]
      rw [hM2, hE2]
      unfold loQ
      rw [if_pos ⟨rfl, by omega⟩, show ((q : Int) - 1022 - 52 + 1074).toNat = q - 1 + 1 by omega, show ((q : Int) - 1023 - 52 + 1074).toNat = q - 1 by omega, Nat.pow_succ]
      generalize 2 ^ (q - 1) = t
      omega
theorem ends_lt (X : Nat) (h : 0 < X) : endL X < endU X := by
  unfold endL endU
  refine (Nat.mul_lt_mul_right (Nat.two_pow_pos _)).2 ?_
  have := loQ_bd (ftM X) (ftE X - 52)
  have := ftM_pos X h
  omega
theorem ends_mono (X : Nat) (h : 0 < X) : ∀ n, endL X + n ≤ endL (X + n)
  | 0 => Nat.le_refl _
  | n + 1 => by
    have h1 := ends_mono X h n
    have h2 := ends_lt (X + n) (by omega)
    rw [← Nat.add_assoc X, ends_meet (X + n)]
    omega
theorem ftM_odd (X : Nat) : ftM X % 2 = X % 2 := by
  unfold ftM
  split <;> omega
end Go.Proofs.YtcbgkbidgpemfaaGreatDoor.fpm

/- The small functions of unrounded scaling: what each answers. No conditions but those stated. -/
namespace Go.Proofs.YtcbgkbidgpemfaaGreatDoor.prnw
open Go.RowKit
open Go.Proofs.YtcbgkbidgpemfaaGreatDoor.bsw
theorem set_grown (W : World) (b j : Nat) (v : Value) : W.grownBy (W.setCell ⟨b, j, none⟩ v) (some b) := ⟨rfl, rfl, rfl, by simp, fun i _ hne => Below.heap_setCell W ⟨b, j, none⟩ v i (fun e => hne (by rw [e]))⟩
/-- returns this, and the world is as it was -/
def Same (w : World) (v : Value) (e : Ending) (w' : World) : Prop := e = .returned v ∧ w' = w
theorem l2_any (e : Int) (h0 : -3000 ≤ e) (h1 : e ≤ 3000) (w : World) : Calls Tryz.prog 220 #[.int .i64 e] w (Same w (.int .i64 (e * 108853 / 32768))) := by
  go_enter Tryz.func220, Tryz.ntmps220
  go_wp2
  go_ret
  exact ⟨rfl, rfl⟩
theorem b2u (b : Bool) (w : World) : Calls Tryz.prog 240 #[.bool b] w (Same w (.int .u64 (if b then 1 else 0))) := by
  go_enter Tryz.func240, Tryz.ntmps240
  cases b
  all_goals go_wp2
  all_goals go_ret
  all_goals exact ⟨rfl, rfl⟩
def roundI (u : Int) : Int := IntKind.u64.wrap (IntKind.u64.wrap (u + 1) + bits BinOp.and IntKind.u64 (u / 4) 1) / 4
theorem round_any (u : Int) (_h0 : 0 ≤ u) (_h1 : u < 18446744073709551616) (w : World) : Calls Tryz.prog 225 #[.int .u64 u] w (Same w (.int .u64 (roundI u))) := by
  go_enter Tryz.func225, Tryz.ntmps225
  go_wp2
  go_ret
  exact ⟨rfl, rfl⟩
theorem wl_pre {P : Program} {ops : Array Oper} {rest : List Oper} {o : Oper} {a : Act} {w : World} {Q : Exit → Act → World → Prop} (h : wpList P ops Q (o :: rest) a w) : wpList P ops Q (o :: rest) a w := h
theorem wl_set_u64 {ops : Array Oper} {rest : List Oper} {o : Oper} {a : Act} {w : World} {Q : Exit → Act → World → Prop} (hgd : o.guard = none) (x y : Operand) (ho : o.op = .store 109 x y) (b j : Nat) (v : Int) (old : Value) (hx : a.eval x = .pointer (some ⟨b, j, none⟩)) (hy : a.eval y = .int .u64 v)
    (hc : w.cell? ⟨b, j, none⟩ = some old) (hf : w.frozen? ⟨b, j, none⟩ = false)
    (h : wpList Tryz.prog ops Q rest (a.put o.dst undef) (w.setCell ⟨b, j, none⟩ (.int .u64 v))) : wpList Tryz.prog ops Q (o :: rest) a w := by
  have hr : (Instr.storeAt 109 (.pointer (some ⟨b, j, none⟩)) (.int .u64 v)).run Tryz.prog w = .ok () (w.setCell ⟨b, j, none⟩ (.int .u64 v)) := by
    simp [Instr.storeAt, Instr.sureAddr, storeVar, run_store_int, stored, hc, hf, go_sem]
  refine wpList_plain hgd fun K hK => ?_
  unfold Oper.wp execOp
  simp only [ho, hx, hy, hr, Sem.run_bind, Sem.run_pure, Result.andThen_ok]
  exact hK _ _ h
theorem wl_set_i64 {ops : Array Oper} {rest : List Oper} {o : Oper} {a : Act} {w : World} {Q : Exit → Act → World → Prop} (hgd : o.guard = none) (x y : Operand) (ho : o.op = .store 3 x y) (b j : Nat) (v : Int) (old : Value) (hx : a.eval x = .pointer (some ⟨b, j, none⟩)) (hy : a.eval y = .int .i64 v)
    (hc : w.cell? ⟨b, j, none⟩ = some old) (hf : w.frozen? ⟨b, j, none⟩ = false)
    (h : wpList Tryz.prog ops Q rest (a.put o.dst undef) (w.setCell ⟨b, j, none⟩ (.int .i64 v))) : wpList Tryz.prog ops Q (o :: rest) a w := by
  have hr : (Instr.storeAt 3 (.pointer (some ⟨b, j, none⟩)) (.int .i64 v)).run Tryz.prog w = .ok () (w.setCell ⟨b, j, none⟩ (.int .i64 v)) := by
    simp [Instr.storeAt, Instr.sureAddr, storeVar, run_store_int, stored, hc, hf, go_sem]
  refine wpList_plain hgd fun K hK => ?_
  unfold Oper.wp execOp
  simp only [ho, hx, hy, hr, Sem.run_bind, Sem.run_pure, Result.andThen_ok]
  exact hK _ _ h
/-- the table of powers of ten -/
def PT (hi lo : Nat → Nat) (w : World) : Prop := ∀ i, i < 696 → hi i < 18446744073709551616 ∧ lo i < 18446744073709551616 ∧ w.cell? ⟨8, i * 2, none⟩ = some (.int .u64 (hi i : Nat)) ∧ w.cell? ⟨8, i * 2 + 1, none⟩ = some (.int .u64 (lo i : Nat))
/-- a scaler in block pb -/
def SC (w : World) (pb : Nat) (hi lo : Nat) (s : Int) : Prop := w.heap[pb]? = some (.cells #[.int .u64 (hi : Nat), .int .u64 (lo : Nat), .int .i64 s] 258 (0, 0))
set_option maxRecDepth 100000 in
set_option maxHeartbeats 1000000 in
theorem prescale_any (hi lo : Nat → Nat) (pb : Nat) (e : Int) (i : Nat) (lp : Int) (hi6 : i < 696) (e0 : -3000 ≤ e) (e1 : e ≤ 3000) (l0 : -3000 ≤ lp) (l1 : lp ≤ 3000) (h0 l00 : Nat) (s0 : Int) (w : World) (hT : PT hi lo w) (hne : pb ≠ 8) (hb : SC w pb h0 l00 s0) :
    Calls Tryz.prog 219 #[.pointer (some ⟨pb, 0, none⟩), .int .i64 e, .int .i64 ((i : Int) - 348), .int .i64 lp] w fun x w' => x = .returned (.tuple #[]) ∧ SC w' pb (hi i) (lo i) (-(e + lp + 3)) ∧ w.grownBy w' (some pb) := by
  obtain ⟨_, _, c1, c2⟩ := hT i hi6
  have i0 : (0 : Int) ≤ (i : Int) := by omega
  have i6 : (i : Int) < 696 := by omega
  have ce : ∀ (u : World) (cs : Array Value) (j : Nat), u.heap[pb]? = some (.cells cs 258 (0, 0)) → u.frozen? ⟨pb, j, none⟩ = false := fun u cs j h => by simp [World.frozen?, h]
  have hb0 : w.heap[pb]? = some (.cells #[.int .u64 (h0 : Nat), .int .u64 (l00 : Nat), .int .i64 s0] 258 (0, 0)) := hb
  obtain ⟨W1, hW1⟩ : ∃ W1, W1 = w.setCell ⟨pb, 0, none⟩ (.int .u64 (hi i : Nat)) := ⟨_, rfl⟩
  obtain ⟨W2, hW2⟩ : ∃ W2, W2 = W1.setCell ⟨pb, 1, none⟩ (.int .u64 (lo i : Nat)) := ⟨_, rfl⟩
  obtain ⟨W3, hW3⟩ : ∃ W3, W3 = W2.setCell ⟨pb, 2, none⟩ (.int .i64 (-(e + lp + 3))) := ⟨_, rfl⟩
  have hb1 : W1.heap[pb]? = some (.cells #[.int .u64 (hi i : Nat), .int .u64 (l00 : Nat), .int .i64 s0] 258 (0, 0)) := by rw [hW1, heap_set w pb 0 _ _ _ _ hb0]; rfl
  have hb2 : W2.heap[pb]? = some (.cells #[.int .u64 (hi i : Nat), .int .u64 (lo i : Nat), .int .i64 s0] 258 (0, 0)) := by rw [hW2, heap_set W1 pb 1 _ _ _ _ hb1]; rfl
  have hb3 : W3.heap[pb]? = some (.cells #[.int .u64 (hi i : Nat), .int .u64 (lo i : Nat), .int .i64 (-(e + lp + 3))] 258 (0, 0)) := by rw [hW3, heap_set W2 pb 2 _ _ _ _ hb2]; rfl
  have hg : w.grownBy W3 (some pb) := by
    rw [hW3, hW2, hW1]
    exact grown_trans (grown_trans (set_grown _ _ _ _) (set_grown _ _ _ _)) (set_grown _ _ _ _)
  have hk : ∀ (u : World) (j : Nat) (v : Value), (∀ b, b ≠ pb → u.heap[b]? = w.heap[b]?) → w.cell? ⟨8, j, none⟩ = some v → u.cell? ⟨8, j, none⟩ = some v := fun u j v hu hv =>
    (World.cell?_of_block (a := ⟨8, j, none⟩) (hu _ (fun e => hne e.symm))).trans hv
  have u1 : ∀ b, b ≠ pb → W1.heap[b]? = w.heap[b]? := fun b hb => by rw [hW1]; exact Below.heap_setCell w ⟨pb, 0, none⟩ _ b hb
  have c21 := hk W1 _ _ u1 c2
  have C1 := Lib.hid (And.intro ((cell_of_row w pb 0 _ _ _ hb0).trans rfl : w.cell? ⟨pb, 0, none⟩ = some (.int .u64 (h0 : Nat))) (ce w _ 0 hb0))
  have C2 := Lib.hid (And.intro ((cell_of_row W1 pb 1 _ _ _ hb1).trans rfl : W1.cell? ⟨pb, 1, none⟩ = some (.int .u64 (l00 : Nat))) (ce W1 _ 1 hb1))
  have C3 := Lib.hid (And.intro ((cell_of_row W2 pb 2 _ _ _ hb2).trans rfl : W2.cell? ⟨pb, 2, none⟩ = some (.int .i64 s0)) (ce W2 _ 2 hb2))
  have Y1 := Lib.hid hW1
  have Y2 := Lib.hid hW2
  have Y3 := Lib.hid hW3
  have HR := Lib.hid (And.intro (show SC W3 pb (hi i) (lo i) (-(e + lp + 3)) from hb3) hg)
  clear hk u1 hb0 hb1 hb2 hb3 hb hT hg ce hW1 hW2 hW3 c2 hne
  go_enter Tryz.func219, Tryz.ntmps219
  go_wp2_with ((with_reducible refine wl_pre ?_); (first | (refine wl_set_u64 rfl (.tmp 15) (.tmp 13) rfl pb 0 _ _ rfl rfl C1.out.1 C1.out.2 ?_; rw [← Y1.out]) | (refine wl_set_u64 rfl (.tmp 23) (.tmp 21) rfl pb 1 _ _ rfl rfl C2.out.1 C2.out.2 ?_; rw [← Y2.out]) | (refine wl_set_i64 rfl (.tmp 31) (.tmp 29) rfl pb 2 _ _ rfl rfl C3.out.1 C3.out.2 ?_; rw [← Y3.out])); (simp only [Act.put]))
  go_end0
  exact ⟨rfl, HR.out⟩
end Go.Proofs.YtcbgkbidgpemfaaGreatDoor.prnw

/- Multiprecision decimals: plain arithmetic of their digits. No conditions but those stated. -/
namespace Go.Proofs.YtcbgkbidgpemfaaGreatDoor.dmx

/-- the number that the first r of the n digits of N spell, with noughts behind -/
def preN (N n r : Nat) : Nat := N * 10 ^ r / 10 ^ n
/-- the digit at place r -/
def dgN (N n r : Nat) : Nat := N * 10 ^ (r + 1) / 10 ^ n % 10
theorem dgN_lt (N n r : Nat) : dgN N n r < 10 := Nat.mod_lt _ (by decide)
theorem pre_zero {N n : Nat} (h : N < 10 ^ n) : preN N n 0 = 0 := by
  unfold preN
  rw [Nat.pow_zero, Nat.mul_one]
  exact Nat.div_eq_of_lt h
theorem pre_all (N n : Nat) : preN N n n = N := Nat.mul_div_cancel _ (Nat.pow_pos (by decide))
theorem pre_div (N n r : Nat) : preN N n (r + 1) / 10 = preN N n r := by
  unfold preN
  rw [Nat.div_div_eq_div_mul, Nat.pow_succ, ← Nat.mul_assoc, Nat.mul_div_mul_right _ _ (by decide)]
theorem pre_succ (N n r : Nat) : preN N n (r + 1) = 10 * preN N n r + dgN N n r := by
  have h1 := pre_div N n r
  have h2 : dgN N n r = preN N n (r + 1) % 10 := rfl
  omega
theorem dg_beyond {N n r : Nat} (h : n ≤ r) : dgN N n r = 0 := by
  unfold dgN
  obtain ⟨d, rfl⟩ := Nat.exists_eq_add_of_le h
  have e : N * 10 ^ (n + d + 1) = N * 10 ^ d * 10 * 10 ^ n := by
    rw [Nat.pow_succ, Nat.pow_add]
    ac_rfl
  rw [e, Nat.mul_div_cancel _ (Nat.pow_pos (by decide))]
  exact Nat.mul_mod_left _ _
theorem pre_beyond (N n d : Nat) : preN N n (n + d) = N * 10 ^ d := by
  unfold preN
  rw [Nat.pow_add, Nat.mul_comm (10 ^ n), ← Nat.mul_assoc]
  exact Nat.mul_div_cancel _ (Nat.pow_pos (by decide))
theorem pre_mono (N n r d : Nat) : preN N n r ≤ preN N n (r + d) := by
  induction d with
  | zero => exact Nat.le_refl _
  | succ d ih =>
    have := pre_succ N n (r + d)
    rw [← Nat.add_assoc]
    omega
/-- the digit in the usual form -/
theorem dg_usual {N n r : Nat} (h : r < n) : dgN N n r = N / 10 ^ (n - 1 - r) % 10 := by
  unfold dgN
  obtain ⟨d, hd⟩ : ∃ d, n = d + (r + 1) := ⟨n - (r + 1), by omega⟩
  have e : n - 1 - r = d := by omega
  have e2 : 10 ^ n = 10 ^ d * 10 ^ (r + 1) := by rw [hd, Nat.pow_add 10 d (r + 1)]
  rw [e, e2, Nat.mul_div_mul_right _ _ (Nat.pow_pos (by decide))]

/-- the shift to the right: what is written when r digits are read -/
def quR (N n k r : Nat) : Nat := preN N n r / (10 * 2 ^ k)
def reR (N n k r : Nat) : Nat := preN N n r % (10 * 2 ^ k)
theorem two_pos (k : Nat) : 0 < 2 ^ k := Nat.pow_pos (by decide)
theorem re_lt (N n k r : Nat) : reR N n k r < 10 * 2 ^ k := Nat.mod_lt _ (Nat.mul_pos (by decide) (two_pos k))
theorem qu_div (N n k r : Nat) : quR N n k (r + 1) / 10 = quR N n k r := by
  unfold quR
  rw [Nat.div_div_eq_div_mul, Nat.mul_comm, ← Nat.div_div_eq_div_mul, pre_div]
/-- one step: the digit that is put down, and what is left -/
theorem step_R (N n k r : Nat) : quR N n k (r + 1) % 10 = reR N n k r / 2 ^ k ∧ reR N n k (r + 1) = reR N n k r % 2 ^ k * 10 + dgN N n r := by
  have hp := two_pos k
  have h1 := pre_succ N n r
  have hd := dgN_lt N n r
  obtain ⟨T, hT⟩ : ∃ T, T = 2 ^ k := ⟨_, rfl⟩
  obtain ⟨q, hq⟩ : ∃ q, q = quR N n k r := ⟨_, rfl⟩
  obtain ⟨m, hm⟩ : ∃ m, m = reR N n k r := ⟨_, rfl⟩
  have h2 : preN N n r = 10 * T * q + m := by rw [hT, hq, hm]; exact (Nat.div_add_mod _ _).symm
  obtain ⟨g, hg⟩ : ∃ g, g = m / T := ⟨_, rfl⟩
  obtain ⟨s, hs⟩ : ∃ s, s = m % T := ⟨_, rfl⟩
  have h3 : m = T * g + s := by rw [hg, hs]; exact (Nat.div_add_mod _ _).symm
  have hs2 : s < T := by rw [hs]; exact Nat.mod_lt _ (by rw [hT]; exact hp)
  have hm2 : m < 10 * T := by rw [hm, hT]; exact re_lt N n k r
  have hg2 : g < 10 := by
    rw [hg]
    exact Nat.div_lt_of_lt_mul (by rw [Nat.mul_comm]; exact hm2)
  have h4 : preN N n (r + 1) = 10 * T * (10 * q + g) + (s * 10 + dgN N n r) := by
    rw [h1, h2, h3]
    have e1 : 10 * (10 * T * q + (T * g + s)) = 10 * T * (10 * q + g) + s * 10 := by
      simp only [Nat.mul_add]
      ac_rfl
    rw [e1, Nat.add_assoc]
  have h5 : s * 10 + dgN N n r < 10 * T := by omega
  constructor
  · unfold quR
    rw [← hm, ← hT, ← hg, h4, Nat.mul_add_div (by rw [hT]; exact Nat.mul_pos (by decide) hp), Nat.div_eq_of_lt h5]
    omega
  · rw [← hm, ← hT, ← hs]
    unfold reR
    rw [← hT, h4, Nat.mul_add_mod, Nat.mod_eq_of_lt h5]
/-- at the end nothing is left -/
theorem re_end {N n k d : Nat} (h : k < d) : reR N n k (n + d) = 0 := by
  unfold reR
  rw [pre_beyond]
  obtain ⟨c, rfl⟩ : ∃ c, d = k + 1 + c := ⟨d - (k + 1), by omega⟩
  have e : N * 10 ^ (k + 1 + c) = 10 * 2 ^ k * (N * 5 ^ k * 10 ^ c) := by
    rw [Nat.pow_add, Nat.pow_succ, show (10 : Nat) ^ k = 2 ^ k * 5 ^ k by rw [← Nat.mul_pow]]
    ac_rfl
  rw [e, Nat.mul_mod_right]
theorem qu_end {N n k r : Nat} (h : reR N n k r = 0) : preN N n r = quR N n k r * (10 * 2 ^ k) := by
  have := Nat.div_add_mod (preN N n r) (10 * 2 ^ k)
  unfold reR at h
  rw [h, Nat.add_zero, Nat.mul_comm] at this
  exact this.symm
end Go.Proofs.YtcbgkbidgpemfaaGreatDoor.dmx

/- Multiprecision decimals: the shift to the left, noughts at the end, values: plain arithmetic. No conditions but those stated. -/
namespace Go.Proofs.YtcbgkbidgpemfaaGreatDoor.dmx

/-- without noughts at the end, and how many digits stay -/
def trN : Nat → Nat → Nat × Nat
  | N, 0 => (N, 0)
  | N, n + 1 => if N % 10 = 0 then trN (N / 10) n else (N, n + 1)
theorem tr_le : ∀ (n N : Nat), (trN N n).2 ≤ n
  | 0, _ => Nat.le_refl _
  | n + 1, N => by
    unfold trN
    split
    · exact Nat.le_succ_of_le (tr_le n _)
    · exact Nat.le_refl _
theorem tr_val : ∀ (n N : Nat), (trN N n).1 * 10 ^ (n - (trN N n).2) = N
  | 0, N => by simp [trN]
  | n + 1, N => by
    unfold trN
    split
    · rename_i h
      have h1 := tr_val n (N / 10)
      have h2 := tr_le n (N / 10)
      rw [show n + 1 - (trN (N / 10) n).2 = n - (trN (N / 10) n).2 + 1 by omega, Nat.pow_succ, ← Nat.mul_assoc, h1]
      omega
    · simp
theorem tr_mod : ∀ (n N : Nat), 0 < (trN N n).2 → (trN N n).1 % 10 ≠ 0
  | 0, N, h => by simp [trN] at h
  | n + 1, N, h => by
    unfold trN at h ⊢
    split
    · rename_i h0
      rw [if_pos h0] at h
      exact tr_mod n _ h
    · rename_i h0
      exact h0
theorem tr_pos : ∀ (n N : Nat), 0 < N → N < 10 ^ n → 0 < (trN N n).2
  | 0, N, h0, h => by simp at h; omega
  | n + 1, N, h0, h => by
    unfold trN
    split
    · rw [Nat.pow_succ] at h
      exact tr_pos n _ (by omega) (by omega)
    · exact Nat.succ_pos _
theorem tr_bd (n N : Nat) (h : N < 10 ^ n) : (trN N n).1 < 10 ^ (trN N n).2 := by
  have h1 := tr_val n N
  have h2 := tr_le n N
  obtain ⟨d, hd⟩ : ∃ d, n = (trN N n).2 + d := ⟨n - (trN N n).2, by omega⟩
  have e : n - (trN N n).2 = d := by omega
  rw [e] at h1
  have h3 : (trN N n).1 * 10 ^ d < 10 ^ (trN N n).2 * 10 ^ d := by
    rw [h1, ← Nat.pow_add, ← hd]
    exact h
  exact Nat.lt_of_mul_lt_mul_right h3
/-- the digits that stay are those that were -/
theorem tr_dig : ∀ (n N j : Nat), j < (trN N n).2 → (trN N n).1 / 10 ^ ((trN N n).2 - 1 - j) % 10 = N / 10 ^ (n - 1 - j) % 10
  | 0, N, j, h => by simp [trN] at h
  | n + 1, N, j, h => by
    unfold trN at h ⊢
    split
    · rename_i h0
      rw [if_pos h0] at h
      have h1 := tr_dig n (N / 10) j h
      have h2 := tr_le n (N / 10)
      have e : 10 * 10 ^ (n - 1 - j) = 10 ^ (n + 1 - 1 - j) := by
        rw [show n + 1 - 1 - j = n - 1 - j + 1 by omega, Nat.pow_succ, Nat.mul_comm]
      rw [h1, Nat.div_div_eq_div_mul, e]
    · rfl
/-- a number that is written: digits N of so many, 0.N by ten to dp; good: it begins with no nought, and ends with none -/
structure WGood (N n : Nat) : Prop where
  n1 : 1 ≤ n
  lo : 10 ^ (n - 1) ≤ N
  hi : N < 10 ^ n
structure DGood (N n : Nat) : Prop extends WGood N n where
  md : N % 10 ≠ 0
theorem tr_lo (n N : Nat) (h1 : 1 ≤ n) (h : 10 ^ (n - 1) ≤ N) (h2 : N < 10 ^ n) : DGood (trN N n).1 (trN N n).2 := by
  have hp := tr_pos n N (Nat.lt_of_lt_of_le (Nat.pow_pos (by decide)) h) h2
  refine ⟨⟨hp, ?_, tr_bd n N h2⟩, tr_mod n N hp⟩
  have a1 := tr_val n N
  have a2 := tr_le n N
  obtain ⟨d, hd⟩ : ∃ d, n = (trN N n).2 + d := ⟨n - (trN N n).2, by omega⟩
  have e : n - (trN N n).2 = d := by omega
  rw [e] at a1
  have h3 : 10 ^ ((trN N n).2 - 1) * 10 ^ d ≤ (trN N n).1 * 10 ^ d := by
    rw [a1, ← Nat.pow_add, show (trN N n).2 - 1 + d = n - 1 by omega]
    exact h
  exact Nat.le_of_mul_le_mul_right h3 (Nat.pow_pos (by decide))
/-- its value, by ten to 2000 -/
def val (N n : Nat) (dp : Int) : Nat := N * 10 ^ (dp - n + 2000).toNat
theorem val_tr (N n : Nat) (dp : Int) (h : (n : Int) ≤ dp + 2000) : val (trN N n).1 (trN N n).2 dp = val N n dp := by
  have a1 := tr_val n N
  have a2 := tr_le n N
  unfold val
  obtain ⟨d, hd⟩ : ∃ d, n = (trN N n).2 + d := ⟨n - (trN N n).2, by omega⟩
  have e : n - (trN N n).2 = d := by omega
  rw [e] at a1
  rw [show (dp - ((trN N n).2 : Int) + 2000).toNat = d + (dp - (n : Int) + 2000).toNat by omega, Nat.pow_add, ← Nat.mul_assoc, a1]
/-- the shift to the right keeps the value -/
theorem val_R (N n k r1 T : Nat) (dp : Int) (h0 : reR N n k T = 0) (hT : n ≤ T) (h1 : r1 ≤ T) (hd : (T : Int) ≤ dp + 2000) (hd1 : (n : Int) ≤ dp + 1999) :
    val (quR N n k T) (T - r1) (dp - r1 + 1) * 2 ^ k = val N n dp := by
  have hq := qu_end h0
  obtain ⟨d, rfl⟩ := Nat.exists_eq_add_of_le hT
  rw [pre_beyond] at hq
  unfold val
  obtain ⟨a, ha⟩ : ∃ a : Nat, (dp - (n : Int) + 2000).toNat = a + d := ⟨(dp - (n : Int) + 2000).toNat - d, by omega⟩
  rw [show (dp - (r1 : Int) + 1 - ((n + d - r1 : Nat) : Int) + 2000).toNat = a + 1 by omega, ha, Nat.pow_add 10 a d, Nat.pow_succ]
  generalize quR N n k (n + d) = q at *
  generalize 2 ^ k = t at *
  generalize (10 : Nat) ^ a = b at *
  generalize (10 : Nat) ^ d = c at *
  have e1 : q * (b * 10) * t = q * (10 * t) * b := by ac_rfl
  have e2 : N * (b * c) = N * c * b := by ac_rfl
  rw [e1, e2, hq]
end Go.Proofs.YtcbgkbidgpemfaaGreatDoor.dmx

/- Multiprecision decimals: the shift to the left: plain arithmetic. No conditions but those stated. -/
namespace Go.Proofs.YtcbgkbidgpemfaaGreatDoor.dmx

/-- what is carried when e digits are shifted -/
def caL (N k e : Nat) : Nat := N % 10 ^ e * 2 ^ k / 10 ^ e
theorem ca_zero (N k : Nat) : caL N k 0 = 0 := by
  unfold caL
  rw [Nat.pow_zero, Nat.mod_one, Nat.zero_mul]
theorem mod_step (N e : Nat) : N % 10 ^ (e + 1) = N / 10 ^ e % 10 * 10 ^ e + N % 10 ^ e := by
  rw [Nat.pow_succ, Nat.mod_mul, Nat.add_comm, Nat.mul_comm]
theorem step_L (N k e : Nat) : (caL N k e + N / 10 ^ e % 10 * 2 ^ k) % 10 = N * 2 ^ k / 10 ^ e % 10 ∧ (caL N k e + N / 10 ^ e % 10 * 2 ^ k) / 10 = caL N k (e + 1) := by
  have hp : 0 < 10 ^ e := Nat.pow_pos (by decide)
  have t : caL N k e + N / 10 ^ e % 10 * 2 ^ k = N % 10 ^ (e + 1) * 2 ^ k / 10 ^ e := by
    unfold caL
    rw [mod_step, Nat.add_mul, Nat.mul_assoc, Nat.mul_comm (10 ^ e), ← Nat.mul_assoc, Nat.add_comm (N / 10 ^ e % 10 * 2 ^ k * 10 ^ e), Nat.add_mul_div_right _ _ hp]
  rw [t]
  constructor
  · have e1 : N * 2 ^ k = N % 10 ^ (e + 1) * 2 ^ k + 10 * (N / 10 ^ (e + 1) * 2 ^ k) * 10 ^ e := by
      have h := Nat.div_add_mod N (10 ^ (e + 1))
      have h2 : 10 * (N / 10 ^ (e + 1) * 2 ^ k) * 10 ^ e = 10 ^ (e + 1) * (N / 10 ^ (e + 1)) * 2 ^ k := by
        rw [Nat.pow_succ]
        ac_rfl
      rw [h2, Nat.add_comm, ← Nat.add_mul, h]
    rw [e1, Nat.add_mul_div_right _ _ hp, Nat.add_mul_mod_self_left]
  · unfold caL
    rw [Nat.div_div_eq_div_mul, Nat.pow_succ]
theorem ca_all {N n : Nat} (h : N < 10 ^ n) (k e : Nat) (he : n ≤ e) : caL N k e = N * 2 ^ k / 10 ^ e := by
  unfold caL
  rw [Nat.mod_eq_of_lt (Nat.lt_of_lt_of_le h (Nat.pow_le_pow_right (by decide) he))]
theorem ca_bd (N k e : Nat) : caL N k e < 2 ^ k := by
  unfold caL
  rw [Nat.div_lt_iff_lt_mul (Nat.pow_pos (by decide)), Nat.mul_comm (2 ^ k)]
  exact Nat.mul_lt_mul_of_pos_right (Nat.mod_lt _ (Nat.pow_pos (by decide))) (two_pos k)

theorem lt_of_div {a p b q : Nat} (hp : 0 < p) (hq : 0 < q) (h : a / p < b / q) : a * q < b * p := by
  have h1 : a < (a / p + 1) * p := by
    have := Nat.lt_mul_div_succ a hp
    rw [Nat.mul_comm]
    exact this
  have h2 : (a / p + 1) * p ≤ b / q * p := Nat.mul_le_mul_right _ h
  have h3 : b / q * q ≤ b := Nat.div_mul_le_self b q
  calc a * q < b / q * p * q := Nat.mul_lt_mul_of_pos_right (Nat.lt_of_lt_of_le h1 h2) hq
    _ = b / q * q * p := Nat.mul_right_comm _ _ _
    _ ≤ b * p := Nat.mul_le_mul_right _ h3
/-- is 0.N below 0.C? -/
def lessB (N n C c : Nat) : Bool := decide (N * 10 ^ c < C * 10 ^ n)
theorem less_lt {N n C c i : Nat} (h : preN N n i = preN C c i) (hd : dgN N n i < dgN C c i) : lessB N n C c = true := by
  unfold lessB
  have h1 := pre_succ N n i
  have h2 := pre_succ C c i
  have h3 : preN N n (i + 1) < preN C c (i + 1) := by omega
  have h4 := lt_of_div (Nat.pow_pos (by decide)) (Nat.pow_pos (by decide)) h3
  rw [Nat.mul_right_comm, Nat.mul_right_comm C] at h4
  exact decide_eq_true (Nat.lt_of_mul_lt_mul_right h4)
theorem less_gt {N n C c i : Nat} (h : preN N n i = preN C c i) (hd : dgN C c i < dgN N n i) : lessB N n C c = false := by
  unfold lessB
  have h1 := pre_succ N n i
  have h2 := pre_succ C c i
  have h3 : preN C c (i + 1) < preN N n (i + 1) := by omega
  have h4 := lt_of_div (Nat.pow_pos (by decide)) (Nat.pow_pos (by decide)) h3
  rw [Nat.mul_right_comm, Nat.mul_right_comm N] at h4
  exact decide_eq_false (Nat.not_lt_of_lt (Nat.lt_of_mul_lt_mul_right h4))
theorem less_end {N n C c : Nat} (h : preN N n c = preN C c c) : lessB N n C c = false := by
  unfold lessB
  rw [pre_all] at h
  refine decide_eq_false (Nat.not_lt_of_le ?_)
  unfold preN at h
  rw [← h]
  exact Nat.div_mul_le_self _ _
theorem less_out {N n C c : Nat} (h : preN N n n = preN C c n) (hc : n < c) (hm : C % 10 ≠ 0) : lessB N n C c = true := by
  unfold lessB
  rw [pre_all] at h
  refine decide_eq_true ?_
  unfold preN at h
  have h1 : N * 10 ^ c ≤ C * 10 ^ n := by rw [h]; exact Nat.div_mul_le_self _ _
  refine Nat.lt_of_le_of_ne h1 fun e => hm ?_
  obtain ⟨d, rfl⟩ : ∃ d, c = d + 1 + n := ⟨c - n - 1, by omega⟩
  rw [Nat.pow_add, ← Nat.mul_assoc] at e
  have e2 : N * 10 ^ (d + 1) = C := Nat.eq_of_mul_eq_mul_right (Nat.pow_pos (by decide)) e
  rw [← e2, Nat.pow_succ, ← Nat.mul_assoc]
  exact Nat.mul_mod_left _ _

/-- how many digits more the shift makes -/
theorem delta_no {N n k c : Nat} (hN : N < 10 ^ n) (h1 : 10 ^ c ≤ 10 * 5 ^ k) (hc : c ≤ k + 1) (h : lessB N n (5 ^ k) c = false) :
    10 ^ (n + k) ≤ N * 2 ^ k * 10 ^ c ∧ N * 2 ^ k < 10 ^ (n + (k + 1 - c)) := by
  have h2 : 5 ^ k * 10 ^ n ≤ N * 10 ^ c := Nat.le_of_not_lt (of_decide_eq_false h)
  have ht : (10 : Nat) ^ k = 2 ^ k * 5 ^ k := by rw [← Nat.mul_pow]
  constructor
  · have : 5 ^ k * 10 ^ n * 2 ^ k ≤ N * 10 ^ c * 2 ^ k := Nat.mul_le_mul_right _ h2
    rw [Nat.pow_add, ht]
    have e1 : 10 ^ n * (2 ^ k * 5 ^ k) = 5 ^ k * 10 ^ n * 2 ^ k := by ac_rfl
    have e2 : N * 2 ^ k * 10 ^ c = N * 10 ^ c * 2 ^ k := by ac_rfl
    rw [e1, e2]
    exact this
  · have h3 : N * 2 ^ k < 10 ^ n * 2 ^ k := Nat.mul_lt_mul_of_pos_right hN (two_pos k)
    have h4 : 2 ^ k * 10 ^ c ≤ 10 ^ (k + 1 - c) * 10 ^ c := by
      rw [← Nat.pow_add, show k + 1 - c + c = k + 1 by omega, Nat.pow_succ, ht]
      have := Nat.mul_le_mul_left (2 ^ k) h1
      rw [← Nat.mul_assoc, Nat.mul_comm (2 ^ k) 10, Nat.mul_assoc, Nat.mul_comm 10] at this
      exact this
    have h5 : 2 ^ k ≤ 10 ^ (k + 1 - c) := Nat.le_of_mul_le_mul_right h4 (Nat.pow_pos (by decide))
    rw [Nat.pow_add]
    exact Nat.lt_of_lt_of_le h3 (Nat.mul_le_mul_left _ h5)
theorem delta_yes {N n k c : Nat} (hN : 10 ^ n ≤ 10 * N) (h1 : 5 ^ k < 10 ^ c) (h : lessB N n (5 ^ k) c = true) :
    N * 2 ^ k * 10 ^ c < 10 ^ (n + k) ∧ 10 ^ (n + k) ≤ 10 * (N * 2 ^ k) * 10 ^ c := by
  have h2 : N * 10 ^ c < 5 ^ k * 10 ^ n := of_decide_eq_true h
  have ht : (10 : Nat) ^ k = 2 ^ k * 5 ^ k := by rw [← Nat.mul_pow]
  constructor
  · have : N * 10 ^ c * 2 ^ k < 5 ^ k * 10 ^ n * 2 ^ k := Nat.mul_lt_mul_of_pos_right h2 (two_pos k)
    rw [Nat.pow_add, ht]
    have e1 : 10 ^ n * (2 ^ k * 5 ^ k) = 5 ^ k * 10 ^ n * 2 ^ k := by ac_rfl
    have e2 : N * 2 ^ k * 10 ^ c = N * 10 ^ c * 2 ^ k := by ac_rfl
    rw [e1, e2]
    exact this
  · rw [Nat.pow_add, ht]
    have e1 : 10 * (N * 2 ^ k) * 10 ^ c = 10 * N * (2 ^ k * 10 ^ c) := by ac_rfl
    rw [e1]
    exact Nat.mul_le_mul hN (Nat.mul_le_mul_left _ (Nat.le_of_lt h1))
end Go.Proofs.YtcbgkbidgpemfaaGreatDoor.dmx

/- Multiprecision decimals: how many digits there can be, and rounding to a whole number: plain arithmetic. No conditions but those stated. -/
namespace Go.Proofs.YtcbgkbidgpemfaaGreatDoor.dmx

theorem five_ten (s : Nat) : 5 ^ s ≤ 10 ^ (7 * (s / 10) + 7) := by
  have h1 : (5 : Nat) ^ s ≤ 5 ^ (10 * (s / 10 + 1)) := Nat.pow_le_pow_right (by decide) (by omega)
  have h2 : (5 : Nat) ^ (10 * (s / 10 + 1)) ≤ 10 ^ (7 * (s / 10 + 1)) := by
    rw [Nat.pow_mul, Nat.pow_mul]
    exact Nat.pow_le_pow_left (by decide) _
  have e : 7 * (s / 10 + 1) = 7 * (s / 10) + 7 := by omega
  rw [e] at h2
  exact Nat.le_trans h1 h2
theorem pow_lt_inv {a b : Nat} (h : 10 ^ a < 10 ^ b) : a < b := by
  refine Nat.lt_of_not_le fun hl => ?_
  exact absurd (Nat.pow_le_pow_right (n := 10) (by decide) hl) (Nat.not_le_of_lt h)
theorem d10 : ∀ d : Nat, d ≠ 0 → 10 ∣ 10 ^ d
  | 0, h => absurd rfl h
  | d + 1, _ => Nat.dvd_mul_left 10 (10 ^ d)
/-- shifts to the right: how great the digits' number can be -/
theorem right_bd {N N0 q q0 s : Nat} (hm : N % 10 ≠ 0) (h : N * 10 ^ q * 2 ^ s = N0 * 10 ^ q0) : N ≤ N0 * 5 ^ s := by
  by_cases hq : q0 ≤ q
  · obtain ⟨d, rfl⟩ := Nat.exists_eq_add_of_le hq
    have h1 : N * 10 ^ d * 2 ^ s = N0 := by
      rw [Nat.pow_add] at h
      have e : N * (10 ^ q0 * 10 ^ d) * 2 ^ s = N * 10 ^ d * 2 ^ s * 10 ^ q0 := by ac_rfl
      rw [e] at h
      exact Nat.eq_of_mul_eq_mul_right (Nat.pow_pos (by decide)) h
    have h2 : N ≤ N0 := by
      rw [← h1, Nat.mul_assoc]
      exact Nat.le_mul_of_pos_right _ (Nat.mul_pos (Nat.pow_pos (by decide)) (two_pos s))
    exact Nat.le_trans h2 (Nat.le_mul_of_pos_right _ (Nat.pow_pos (by decide)))
  · obtain ⟨d, hd⟩ : ∃ d, q0 = q + d := ⟨q0 - q, by omega⟩
    subst hd
    have hd0 : d ≠ 0 := by omega
    have h1 : N * 2 ^ s = N0 * 10 ^ d := by
      rw [Nat.pow_add] at h
      have e : N * 10 ^ q * 2 ^ s = N * 2 ^ s * 10 ^ q := by ac_rfl
      have e2 : N0 * (10 ^ q * 10 ^ d) = N0 * 10 ^ d * 10 ^ q := by ac_rfl
      rw [e, e2] at h
      exact Nat.eq_of_mul_eq_mul_right (Nat.pow_pos (by decide)) h
    have ht : (10 : Nat) ^ d = 2 ^ d * 5 ^ d := by rw [← Nat.mul_pow]
    have c5 : Nat.Coprime 5 (2 ^ s) := Nat.Coprime.pow_right s (by decide)
    have f5 : 5 ∣ N := by
      have : 5 ∣ N * 2 ^ s := by
        rw [h1]
        exact Nat.dvd_mul_left_of_dvd (Nat.dvd_trans (by decide : 5 ∣ 10) (d10 d hd0)) _
      exact c5.dvd_of_dvd_mul_right this
    have n2 : N % 2 = 1 := by
      obtain ⟨c, rfl⟩ := f5
      omega
    have c2 : Nat.Coprime (2 ^ d) N := Nat.Coprime.pow_left d (by
      rw [Nat.coprime_comm, Nat.Coprime, Nat.gcd_comm, Nat.gcd_rec, n2]
      decide)
    have h2d : 2 ^ d ∣ 2 ^ s := by
      have : 2 ^ d ∣ N * 2 ^ s := by
        rw [h1, ht]
        exact Nat.dvd_mul_left_of_dvd (Nat.dvd_mul_right _ _) _
      exact c2.dvd_of_dvd_mul_left this
    have hds : d ≤ s := (Nat.pow_dvd_pow_iff_le_right (by decide)).1 h2d
    obtain ⟨c, rfl⟩ := Nat.exists_eq_add_of_le hds
    have h3 : N * 2 ^ c = N0 * 5 ^ d := by
      rw [Nat.pow_add, ht] at h1
      have e : N * (2 ^ d * 2 ^ c) = N * 2 ^ c * 2 ^ d := by ac_rfl
      have e2 : N0 * (2 ^ d * 5 ^ d) = N0 * 5 ^ d * 2 ^ d := by ac_rfl
      rw [e, e2] at h1
      exact Nat.eq_of_mul_eq_mul_right (two_pos d) h1
    have h4 : N ≤ N0 * 5 ^ d := by
      rw [← h3]
      exact Nat.le_mul_of_pos_right _ (two_pos c)
    exact Nat.le_trans h4 (Nat.mul_le_mul_left _ (Nat.pow_le_pow_right (by decide) (by omega)))
theorem right_n {N n N0 n0 q q0 s : Nat} (g : DGood N n) (h0 : N0 < 10 ^ n0) (h : N * 10 ^ q * 2 ^ s = N0 * 10 ^ q0) : n ≤ n0 + 7 * (s / 10) + 7 := by
  have h1 := right_bd g.md h
  have h2 := five_ten s
  have h3 : N0 * 5 ^ s < 10 ^ (n0 + (7 * (s / 10) + 7)) := by
    rw [Nat.pow_add]
    exact Nat.lt_of_lt_of_le (Nat.mul_lt_mul_of_pos_right h0 (Nat.pow_pos (by decide))) (Nat.mul_le_mul_left _ h2)
  have h4 := pow_lt_inv (Nat.lt_of_le_of_lt (Nat.le_trans g.lo h1) h3)
  have := g.n1
  omega
/-- shifts to the left: the last place does not move down -/
theorem left_q {N N1 q q1 j : Nat} (hm : N % 10 ≠ 0) (h : N * 10 ^ q = N1 * 10 ^ q1 * 2 ^ j) : q1 ≤ q := by
  refine Nat.le_of_not_lt fun hl => hm ?_
  obtain ⟨d, rfl⟩ : ∃ d, q1 = q + (d + 1) := ⟨q1 - q - 1, by omega⟩
  rw [Nat.pow_add] at h
  have e : N1 * (10 ^ q * 10 ^ (d + 1)) * 2 ^ j = N1 * 10 ^ (d + 1) * 2 ^ j * 10 ^ q := by ac_rfl
  rw [e] at h
  have h1 := Nat.eq_of_mul_eq_mul_right (Nat.pow_pos (by decide)) h
  rw [h1, Nat.pow_succ]
  have e2 : N1 * (10 ^ d * 10) * 2 ^ j = N1 * 10 ^ d * 2 ^ j * 10 := by ac_rfl
  rw [e2]
  exact Nat.mul_mod_left _ _

/-- ten to the power 2000: one -/
def oneE : Nat := 2000
theorem oneE_eq : oneE = 2000 := rfl
def one : Nat := 10 ^ oneE
theorem one_pos : 0 < one := Nat.pow_pos (by decide)
theorem val_bd {N n : Nat} (g : WGood N n) (dp : Int) (h : (n : Int) ≤ dp + 2000) : 10 ^ (dp + 1999).toNat ≤ val N n dp ∧ val N n dp < 10 ^ (dp + 2000).toNat := by
  have h1 := g.n1
  unfold val
  constructor
  · rw [show (dp + 1999).toNat = n - 1 + (dp - n + 2000).toNat by omega, Nat.pow_add]
    exact Nat.mul_le_mul_right _ g.lo
  · rw [show (dp + 2000).toNat = n + (dp - n + 2000).toNat by omega, Nat.pow_add]
    exact Nat.mul_lt_mul_of_pos_right g.hi (Nat.pow_pos (by decide))
theorem val_ge {N n : Nat} (g : WGood N n) (dp : Int) (k : Nat) (h : (n : Int) ≤ dp + 2000) (hk : (k : Int) + 1 ≤ dp) : 10 ^ k * one ≤ val N n dp := by
  refine Nat.le_trans ?_ (val_bd g dp h).1
  unfold one
  have he := oneE_eq
  rw [← Nat.pow_add]
  exact Nat.pow_le_pow_right (by decide) (by omega)
theorem val_lt {N n : Nat} (g : WGood N n) (dp : Int) (k : Nat) (h : (n : Int) ≤ dp + 2000) (hk : dp ≤ (k : Int)) : val N n dp < 10 ^ k * one := by
  refine Nat.lt_of_lt_of_le (val_bd g dp h).2 ?_
  unfold one
  have he := oneE_eq
  rw [← Nat.pow_add]
  exact Nat.pow_le_pow_right (by decide) (by omega)
theorem val_small {N n : Nat} (g : WGood N n) (dp : Int) (k : Nat) (h : (n : Int) ≤ dp + 2000) (hk : dp + (k : Int) ≤ 0) (hk2 : k ≤ 2000) : val N n dp * 10 ^ k < one := by
  have h1 := (val_bd g dp h).2
  refine Nat.lt_of_lt_of_le (Nat.mul_lt_mul_of_pos_right h1 (Nat.pow_pos (by decide))) ?_
  unfold one
  have he := oneE_eq
  rw [← Nat.pow_add]
  exact Nat.pow_le_pow_right (by decide) (by omega)
end Go.Proofs.YtcbgkbidgpemfaaGreatDoor.dmx
