/- The walk of parse.Parse. Conditions: as the theorem states. -/
import Derived.Test.YtcbgkbidgpemfaaGreatDoorMp07
import Derived.Test.YtcbgkbidgpemfaaGreatDoorMp06
import Derived.Deep.LoopGhost
namespace Go.Proofs.YtcbgkbidgpemfaaGreatDoor.parw
open Go.RowKit
open Go.Proofs.YtcbgkbidgpemfaaGreatDoor.lexw
attribute [local go_sem] run_store_float

def stCells (s : PStmt) (v : Value) : List Value := [.string s.name, .int .i64 s.pos, .int .u8 s.kind, v]
def scells : List PStmt → List Value → List Value
  | s :: r, v :: q => stCells s v ++ scells r q
  | _, _ => []
theorem scells_snoc : ∀ (l : List PStmt) (vs : List Value) (s : PStmt) (v : Value), vs.length = l.length → scells (l ++ [s]) (vs ++ [v]) = scells l vs ++ stCells s v
  | [], [], s, v, _ => by simp [scells]
  | a :: l, b :: vs, s, v, h => by
    have := scells_snoc l vs s v (by simpa using h)
    simp [scells, this]
  | [], b :: vs, s, v, h => by simp at h
  | a :: l, [], s, v, h => by simp at h

/-- the slice value o holds the statements l, in rows of the call's own -/
def SRow (W : World) (base : Nat) (o : Value) (l : List PStmt) : Prop :=
  ∃ vs : List Value, vs.length = l.length ∧ W.ownsRow base 62 4 o l.length (scells l vs) ∧
    ∀ i (h1 : i < vs.length) (h2 : i < l.length), W.ownsRow base 59 3 vs[i] l[i].args.length (acells l[i].args)

theorem own_ne {W : World} {b1 b2 e1 e2 s1 s2 n1 n2 : Nat} {v1 v2 : Value} {x1 x2 : List Value} (h1 : W.ownsRow b1 e1 s1 v1 n1 x1) (h2 : W.ownsRow b2 e2 s2 v2 n2 x2) (he : e1 ≠ e2) : v1.ownBlock = none ∨ v1.ownBlock ≠ v2.ownBlock := by
  rcases h1.2 with ⟨rfl, _⟩ | ⟨g, cap, cur, rfl, hb, hh, _⟩
  · exact .inl rfl
  · refine .inr fun e => ?_
    rcases h2.2 with ⟨rfl, _⟩ | ⟨g', cap', cur', rfl, hb', hh', _⟩
    · cases e
    · have : g = g' := by simpa [Value.ownBlock] using e
      subst this
      rw [hh] at hh'
      injection hh' with hh'
      injection hh' with _ h _
      exact he h

theorem SRow.grown {W W' : World} {base : Nat} {o : Value} {l : List PStmt} {row : Option Nat} (h : SRow W base o l) (hg : W.grownBy W' row) (hr : ∀ r, row = some r → r < base) : SRow W' base o l := by
  obtain ⟨vs, hl, ho, hv⟩ := h
  exact ⟨vs, hl, own_grown ho hg hr, fun i h1 h2 => own_grown (hv i h1 h2) hg hr⟩

theorem SRow.le {W : World} {base base' : Nat} {o : Value} {l : List PStmt} (h : SRow W base o l) (hb : base' ≤ base) : SRow W base' o l := by
  obtain ⟨vs, hl, ho, hv⟩ := h
  exact ⟨vs, hl, own_le ho hb, fun i h1 h2 => own_le (hv i h1 h2) hb⟩
theorem below_of_grown {w w' : World} (h : w.grownBy w' none) : Below w.heap.size w w' := ⟨h.os, h.tape, h.output, h.size, fun k hk => h.block k hk (by simp)⟩

/-- all lines -/
def parseL (dec : ByteArray → Nat × Nat) (en : Int) : Nat → RSt → List PStmt → List PStmt × RSt
  | 0, s, out => (out, s)
  | f + 1, s, out =>
    if s.er = 0 then
      match s.ts with
      | [] => (out, s)
      | t :: r => if t.kind = 4 then parseL dec en f { s with ts := r } out else parseL dec en f (stmtS dec en s).2 (out ++ [(stmtS dec en s).1])
    else (out, s)
def endOf (ts : List PTok) : Int := match ts.getLast? with | some t => wrap64 (t.pos + t.text.size) | none => 0
def parseRes (dec : ByteArray → Nat × Nat) (ts : List PTok) : List PStmt × Int × Nat :=
  let q := parseL dec (endOf ts) (ts.length + 1) ⟨ts, 0, 0⟩ []
  if q.2.er = 0 then (q.1, 0, 0) else ([], q.2.pl, q.2.er)

theorem parseL_end {dec : ByteArray → Nat × Nat} {en : Int} {f : Nat} {s : RSt} {out : List PStmt} (h : s.er ≠ 0 ∨ s.ts = []) : parseL dec en f s out = (out, s) := by
  cases f with
  | zero => rfl
  | succ f =>
    unfold parseL
    rcases h with h | h
    · rw [if_neg h]
    · rw [h]; simp

def left (s : RSt) : Nat := s.ts.length + if s.er = 0 then 1 else 0
theorem nextS_left (en : Int) (s : RSt) (k : Nat) : left (nextS en s k).2 ≤ left s ∧ ((nextS en s k).2.er = 0 → s.er = 0) ∧ (s.er = 0 → left (nextS en s k).2 < left s) := by
  unfold nextS left
  by_cases h0 : s.er = 0
  · rcases hts : s.ts with _ | ⟨t, r⟩
    · simp [h0]
    · by_cases hk : t.kind = k
      · simp [h0, hk]
      · simp [h0, hk]
  · simp [h0]
theorem fail_left (s : RSt) (a : Int) (e : Nat) : left (s.fail a e) ≤ left s ∧ ((s.fail a e).er = 0 → s.er = 0 ∧ e = 0) := by
  unfold RSt.fail left
  by_cases h0 : s.er = 0
  · by_cases he : e = 0
    · simp [h0, he]
    · simp [h0, he]
  · simp [h0]
theorem argS_left (dec : ByteArray → Nat × Nat) (en : Int) (b : Bool) (s : RSt) : left (argS dec en b s).2 ≤ left s := by
  cases b
  · exact (nextS_left en s 1).1
  · show left (numS dec en s).2 ≤ _
    have hn := (nextS_left en s 2).1
    unfold numS
    split
    · simp only
      split
      · exact hn
      · exact Nat.le_trans (fail_left _ _ _).1 hn
    · exact hn
theorem argsS_left (dec : ByteArray → Nat × Nat) (en : Int) : ∀ (l : List Bool) (s : RSt), left (argsS dec en l s).2 ≤ left s
  | [], _ => Nat.le_refl _
  | b :: r, s => Nat.le_trans (argsS_left dec en r _) (argS_left dec en b s)
theorem stmtS_left (dec : ByteArray → Nat × Nat) (en : Int) (s : RSt) (h : s.er = 0) : left (stmtS dec en s).2 < left s := by
  unfold stmtS
  simp only
  refine Nat.lt_of_le_of_lt (nextS_left en _ 4).1 (Nat.lt_of_le_of_lt (argsS_left dec en _ _) ?_)
  have h1 := (nextS_left en s 1).2.2 h
  have h2 := (nextS_left en (nextS en s 1).2 3).1
  have h3 := (nextS_left en (nextS en (nextS en s 1).2 3).2 1).1
  split
  · have := (fail_left (nextS en (nextS en (nextS en s 1).2 3).2 1).2 (nextS en (nextS en (nextS en s 1).2 3).2 1).1.pos 171).1
    omega
  · omega
theorem argsS_sub (dec : ByteArray → Nat × Nat) (en : Int) : ∀ (l : List Bool) (s : RSt), ∀ t ∈ (argsS dec en l s).2.ts, t ∈ s.ts
  | [], _ => fun _ h => h
  | b :: r, s => fun t h => argS_sub dec en b s t (argsS_sub dec en r _ t h)
theorem stmtS_sub (dec : ByteArray → Nat × Nat) (en : Int) (s : RSt) : ∀ t ∈ (stmtS dec en s).2.ts, t ∈ s.ts := by
  intro t h
  unfold stmtS at h
  simp only at h
  have h1 := argsS_sub _ _ _ _ _ (nextS_sub _ _ _ t h)
  refine nextS_sub en s 1 _ (nextS_sub en (nextS en s 1).2 3 _ (nextS_sub en (nextS en (nextS en s 1).2 3).2 1 t ?_))
  split at h1
  · rw [fail_ts] at h1; exact h1
  · exact h1

theorem Tryz.stmtInfo : (Tryz.prog.info? 62).map (fun i => (i.zero, i.size, i.bytes)) = some (some (.agg #[.string ⟨#[]⟩, .int .i64 0, .int .u8 0, .slice none 0 0]), 4, 56) := by kernel_rfl

/-- what Parse hands back -/
def ParsePost (w : World) (r : List PStmt × Int × Nat) (e : Ending) (w' : World) : Prop :=
  ∃ o, e = .returned (.tuple #[o, .int .i64 r.2.1, .int .i64 r.2.2]) ∧ SRow w' w.heap.size o r.1 ∧ Below w.heap.size w w'

theorem RdAt.start {w : World} {v : Value} {ts : List PTok} (h : PRow w w.heap.size v ts) (en : Int) : RdAt (w.alloc (.cells #[v, .int .i64 en, .int .i64 0, .int .i64 0] 67)) w.heap.size w.heap.size en ⟨ts, 0, 0⟩ :=
  ⟨Nat.le_refl _, v, h.keep fun _ _ hl => World.heap_alloc_lt' _ _ _ hl, heap_alloc_new w _⟩
theorem RdAt.set0 {w : World} {rb B : Nat} {en : Int} {s : RSt} {v' : Value} {r : List PTok} (h : RdAt w rb B en s) (hp : PRow w B v' r) : RdAt (w.setCell ⟨rb, 0, none⟩ v') rb B en { s with ts := r } := by
  obtain ⟨hB, v, _, hb⟩ := h
  exact ⟨hB, v', hp.keep fun g hg _ => by rw [Below.heap_setCell _ _ _ _ (by simp; omega)], heap_set w rb 0 _ _ _ _ hb⟩

theorem pcells_app (l r : List PTok) : pcells (l ++ r) = pcells l ++ pcells r := by simp [pcells]
theorem pcells_length (l : List PTok) : (pcells l).length = l.length * 3 := by
  induction l with
  | nil => rfl
  | cons a r ih => rw [pcells_cons, List.length_append, ih]; simp [PTok.cells]; omega

set_option maxRecDepth 100000 in
set_option maxHeartbeats 4000000 in
theorem parse_any (dec : ByteArray → Nat × Nat) (G : World → Prop) (ts : List PTok) (hts : ts.length ≤ 1000000000000) (v : Value) (w : World) (hG : Stable G w.heap.size) (hd : DecOk dec G ts) (hv : PRow w w.heap.size v ts) (hw : G w) :
    Calls Tryz.prog 11 #[v] w (ParsePost w (parseRes dec ts)) := by
  obtain ⟨i0, hi0, hz0, hz1, hz2⟩ := info_parts Tryz.stmtInfo
  obtain ⟨RR, hRR⟩ : ∃ r, parseRes dec ts = r := ⟨_, rfl⟩
  rw [hRR]
  have HR := Lib.hid hRR
  clear hRR
  have HD := Lib.hid hd
  clear hd
  have h0 := RdAt.start hv 0
  have hv0 := hv
  obtain ⟨A, c, rfl, hlc, hx⟩ := hv
  obtain ⟨N, hN⟩ : ∃ N, ts.length = N := ⟨_, rfl⟩
  rw [hN] at hlc hts h0 hv0 ⊢
  have HN := Lib.hid hN
  go_enter Tryz.func11, Tryz.ntmps11
  go_upto_if 14 with (fail)
  go_cut [] from 13 to 31 (fun wx => RdAt wx w.heap.size w.heap.size (endOf ts) ⟨ts, 0, 0⟩ ∧ w.grownBy wx none)
  case first =>
    by_cases hM : N = 0
    · have hts0 : ts = [] := List.eq_nil_of_length_eq_zero (by omega)
      have he : endOf ts = 0 := by rw [hts0]; rfl
      subst hM
      clear HN
      go_wp2_with fail
      go_meet
      exact ⟨by rw [he]; exact h0, World.grownBy_alloc w _ _⟩
    · obtain ⟨M, rfl⟩ : ∃ M, N = M + 1 := ⟨N - 1, by omega⟩
      obtain ⟨init, t, rfl⟩ : ∃ init t, ts = init ++ [t] := ⟨ts.dropLast, ts.getLast (by intro e; rw [e] at hN; cases hN), (List.dropLast_concat_getLast _).symm⟩
      have hil : init.length = M := by simpa using hN
      obtain ⟨g, off, rfl, hg, hcell⟩ := hx (by simp)
      have he : endOf (init ++ [t]) = wrap64 (t.pos + t.text.size) := by simp [endOf]
      have hq : ∀ j u, t.cells[j]? = some u → w.cell? ⟨g, off + (M * 3 + j), none⟩ = some u := fun j u hu => hcell (M * 3 + j) u (by
        rw [pcells_app, List.getElem?_append_right (by rw [pcells_length, hil]; omega), pcells_length, hil, Nat.add_sub_cancel_left]
        simpa [pcells] using hu)
      have q1 := hq 1 _ rfl
      have q2 := hq 2 _ rfl
      rw [← Nat.add_assoc] at q1 q2
      have HE := Lib.hid he
      have hR1 := RdAt.start hv0 (wrap64 (t.pos + t.text.size))
      clear hx hcell hq he hN hv0 HN
      go_wp2_with fail
      go_region
      all_goals go_wp2_with fail
      all_goals go_meet
      all_goals exact ⟨by rw [HE.out]; exact hR1, grown_drew (World.grownBy_alloc w _ _)⟩
  case rest =>
    obtain ⟨h1, g1⟩ := hcut
    clear h0 hx hv0
    go_wp2_with fail
    go_loopg [7] (N + 1) (fun gk o wr => ∃ (s : RSt) (out : List PStmt), left s ≤ gk ∧ out.length + gk ≤ N + 1 ∧ RdAt wr w.heap.size w.heap.size (endOf ts) s ∧ SRow wr (w.heap.size + 1) o out ∧
      parseL dec (endOf ts) (N + 1) ⟨ts, 0, 0⟩ [] = parseL dec (endOf ts) gk s out ∧ (∀ t ∈ s.ts, t ∈ ts) ∧ w.grownBy wr none ∧ G wr)
    case atStart =>
      refine ⟨⟨ts, 0, 0⟩, [], by simp [left, hN], by simp, h1, ⟨[], rfl, World.ownsRow_nil _ _ _ _, fun i h => by simp at h⟩, rfl, fun _ h => h, g1, hG w wc none hw g1 (fun r e => by cases e)⟩
    case round =>
      obtain ⟨s, out, hl, hol, hR, hS, hP, hsub, hB, hGr⟩ := hrel
      obtain ⟨_, v', ⟨A', c', rfl, hlc', hx'⟩, hb⟩ := id hR
      have c0 := (cell_of_row wr w.heap.size 0 _ _ _ hb).trans rfl
      have c2 := (cell_of_row wr w.heap.size 2 _ _ _ hb).trans rfl
      have c3 := (cell_of_row wr w.heap.size 3 _ _ _ hb).trans rfl
      have hlt := hR.lt
      by_cases h0 : s.er = 0
      · have e0 : ((s.er : Int) == 0) = true := by rw [h0]; rfl
        have e0' : ((s.er : Int) != 0) = false := by rw [h0]; rfl
        rcases hts : s.ts with _ | ⟨t, r⟩
        · have hq : parseL dec (endOf ts) gk s out = (out, s) := parseL_end (.inr hts)
          have hRR : RR = (out, 0, 0) := by
            rw [← HR.out]; unfold parseRes; rw [HN.out, hP, hq]; simp [h0]
          subst hRR
          have hl0 : s.ts.length = 0 := by rw [hts]; rfl
          rw [hl0] at c0
          clear hP hq HR hx' hl hb hol
          go_wp2_with fail
          go_ret3
          exact ⟨_, rfl, hS.le (by omega), below_of_grown hB⟩
        · have hg1 : 1 ≤ gk := by simp [left, hts, h0] at hl; omega
          obtain ⟨gj, rfl⟩ : ∃ gj, gk = gj + 1 := ⟨gk - 1, by omega⟩
          have hl0 : s.ts.length = r.length + 1 := by rw [hts]; rfl
          obtain ⟨g, off, rfl, hg, hcell⟩ := hx' (by rw [hts]; simp)
          rw [hts, pcells_cons] at hcell
          have q0 := hcell 0 _ rfl
          rw [Nat.add_zero] at q0
          have HC := Lib.hid hcell
          have n1 : 0 < s.ts.length := by omega
          have hc1 : 1 ≤ c' := by omega
          have f0 := not_frozen hb 0
          by_cases hk4 : t.kind = 4
          · have hP' : parseL dec (endOf ts) (gj + 1) s out = parseL dec (endOf ts) gj { s with ts := r } out := by
              conv => { lhs; unfold parseL }
              rw [if_pos h0, hts]; simp [hk4]
            rw [hP'] at hP
            have HP := Lib.hid hP
            have ek : ((t.kind : Int) == 4) = true := by rw [hk4]; rfl
            have hsr : ∀ x ∈ r, x ∈ ts := fun x hx => hsub x (by rw [hts]; exact List.mem_cons_of_mem _ hx)
            have hlr : left { s with ts := r } ≤ gj := by simp [left, hts, h0] at hl ⊢; omega
            have hnew : ∀ v', PRow wr w.heap.size v' r → _ := fun v' hp => And.intro (hR.set0 hp) (grown_setCell wr ⟨w.heap.size, 0, none⟩ v')
            have HNW := Lib.hid hnew
            have HS := Lib.hid hS
            clear hP hP' hx' hcell hb c2 hsub hR hl HR hnew hS
            go_wp2_with fail
            · obtain ⟨q1, q2⟩ := HNW.out (.slice (some ⟨g, off, none⟩) r.length 0) ⟨_, _, rfl, by omega, fun hr => absurd (List.eq_nil_of_length_eq_zero (by omega)) hr⟩
              go_roundg gj
              case measure => omega
              case rel => exact ⟨{ s with ts := r }, out, hlr, by omega, q1, HS.out.grown q2 (by intro r e; simp at e; omega), HP.out, hsr, grown_new hB q2 (by intro r e; simp at e; omega), hG wr _ _ hGr q2 (by intro r e; simp at e; omega)⟩
            · obtain ⟨q1, q2⟩ := HNW.out (.slice (some ⟨g, off + 3, none⟩) r.length (c' - 1)) ⟨_, _, rfl, by omega, fun hr => ⟨g, off + 3, rfl, hg, fun j u hu => by
                rw [Nat.add_assoc]
                exact HC.out (3 + j) u (by rw [List.getElem?_append_right (by simp [PTok.cells])]; simpa [PTok.cells] using hu)⟩⟩
              go_roundg gj
              case measure => omega
              case rel => exact ⟨{ s with ts := r }, out, hlr, by omega, q1, HS.out.grown q2 (by intro r e; simp at e; omega), HP.out, hsr, grown_new hB q2 (by intro r e; simp at e; omega), hG wr _ _ hGr q2 (by intro r e; simp at e; omega)⟩
          · obtain ⟨⟨st, s'⟩, hss⟩ : ∃ r, stmtS dec (endOf ts) s = r := ⟨_, rfl⟩
            have hP' : parseL dec (endOf ts) (gj + 1) s out = parseL dec (endOf ts) gj s' (out ++ [st]) := by
              conv => { lhs; unfold parseL }
              rw [if_pos h0, hts]; simp [hk4, hss]
            rw [hP'] at hP
            have hst := stmt_any dec G w.heap.size w.heap.size hG (endOf ts) s (HD.out.sub hsub) wr hR hGr
            have hlr := stmtS_left dec (endOf ts) s h0
            have hsr := stmtS_sub dec (endOf ts) s
            rw [hss] at hst hlr hsr
            simp only at hlr hsr
            have hlr' : left s' ≤ gj := by omega
            have hsr' : ∀ x ∈ s'.ts, x ∈ ts := fun x hx => hsub x (hsr x hx)
            have HP := Lib.hid hP
            have HSR := Lib.hid hsr'
            have ek : ((t.kind : Int) == 4) = false := by rw [beq_eq_false_iff_ne]; omega
            clear hP hP' hx' hcell hb c2 hsub hR hl HR hss hsr hsr' hlr
            go_wp2_with fail
            refine hst.mono ?_
            rintro e wx ⟨va, rfl, hva, hx, gx⟩
            have hsx := gx.size
            obtain ⟨vs, hvl, ho, hvs⟩ := hS.grown gx (by intro r e; simp at e; omega)
            obtain ⟨aa, ca, rfl⟩ := row_form hva
            have hva' := own_le hva (show w.heap.size + 1 ≤ wr.heap.size by omega)
            have HVS := Lib.hid hvs
            clear hS hva hst hvs c0 c3 q0 f0
            go_wp2_with (at_builtin; refine wpList_append_lies _ rfl (.tmp 61) (.tmp 64) 28 rfl (w.heap.size + 1) 62 i0 (.agg #[.string ⟨#[]⟩, .int .i64 0, .int .u8 0, .slice none 0 0]) 4 56 Tryz.underlying28 hi0 hz0 hz1 hz2 rfl (by omega) u7 out.length (scells out vs) rfl (ho.alloc _) ⟨wx.heap.size, 0, none⟩ 1 1 (stCells st (.slice aa st.args.length ca)) rfl rfl (World.news_of_block (heap_at wx (.cells (stCells st (.slice aa st.args.length ca)).toArray 62) _ rfl)) (by simp [stCells, Value.oneCell']) (by omega) (by unfold maxLen; omega) (by omega) (by simp; omega) _ rfl ?_; intro gz capz wz hownz hgz hatz hltz)
            have hall : SRow wz (w.heap.size + 1) (.slice (some ⟨gz, 0, none⟩) (out.length + 1) capz) (out ++ [st]) := by
              refine ⟨vs ++ [.slice aa st.args.length ca], by simp [hvl], ?_, fun i h1 h2 => ?_⟩
              · rw [scells_snoc _ _ _ _ hvl, List.length_append]; exact hownz
              · by_cases hi : i < vs.length
                · rw [List.getElem_append_left hi, List.getElem_append_left (by omega)]
                  exact ((HVS.out i hi (by omega)).alloc _).kept hgz (own_ne (HVS.out i hi (by omega)) ho (by decide))
                · have hi' : i = out.length := by simp at h1; omega
                  subst hi'
                  have e1 : (vs ++ [Value.slice aa st.args.length ca])[out.length]'h1 = .slice aa st.args.length ca := by simp [hvl]
                  have e2 : (out ++ [st])[out.length]'h2 = st := by simp
                  rw [e1, e2]
                  exact (hva'.alloc _).kept hgz (own_ne hva' ho (by decide))
            have gz' : wx.grownBy wz (Value.ownBlock u7) := grown_trans (World.grownBy_alloc wx _ _) hgz
            have hro : ∀ r, Value.ownBlock u7 = some r → w.heap.size + 1 ≤ r := fun r e => (ho.lt r e).1
            have hRz := hx.kept gz' (fun r e => by have := hro r e; omega)
            have hBz : w.grownBy wz none := grown_new (grown_new hB gx (by intro r e; simp at e; omega)) gz' (fun r e => by have := hro r e; omega)
            have hGz : G wz := hG w wz none hw hBz (fun r e => by cases e)
            go_wp2_with fail
            go_roundg gj
            case measure => omega
            case rel => exact ⟨s', out ++ [st], hlr', by simp; omega, hRz, hall, HP.out, HSR.out, hBz, hGz⟩
      · have e0 : ((s.er : Int) == 0) = false := by rw [beq_eq_false_iff_ne]; omega
        have e0' : ((s.er : Int) != 0) = true := by simp; omega
        have hq : parseL dec (endOf ts) gk s out = (out, s) := parseL_end (.inl h0)
        have hRR : RR = ([], s.pl, s.er) := by
          rw [← HR.out]; unfold parseRes; rw [HN.out, hP, hq]; simp [h0]
        subst hRR
        have HS : SRow wr w.heap.size (.slice none 0 0) [] := ⟨[], rfl, World.ownsRow_nil _ _ _ _, fun i h => by simp at h⟩
        clear hP hq HR hx' hl hb hol hS
        rcases hts : s.ts with _ | ⟨t, r⟩
        · have hl0 : s.ts.length = 0 := by rw [hts]; rfl
          rw [hl0] at c0
          go_wp2_with fail
          go_region
          all_goals go_wp2_with fail
          all_goals go_ret3
          all_goals exact ⟨_, rfl, HS, below_of_grown (grown_drew hB)⟩
        · have n1 : 0 < s.ts.length := by rw [hts]; simp
          go_wp2_with fail
          go_region
          all_goals go_wp2_with fail
          all_goals go_ret3
          all_goals exact ⟨_, rfl, HS, below_of_grown (grown_drew hB)⟩

end Go.Proofs.YtcbgkbidgpemfaaGreatDoor.parw

/- burnishref17: a statement from a token on, as a list function, is what the parser's reader makes of it. Plain; no condition but those stated. -/
namespace Go.Proofs.YtcbgkbidgpemfaaGreatDoor.rg
open Go.Proofs.YtcbgkbidgpemfaaGreatDoor.parw

variable {dec : ByteArray → Nat × Nat} {en : Int}
/-- how many numbers, and how many words, stand behind a kind -/
def behF (k : Nat) : Nat × Nat := if k = 1 then (3, 0) else if k = 2 then (4, 0) else if k = 3 then (2, 0) else if k = 4 then (7, 0) else if k = 5 then (1, 2) else (4, 1)
def wantF (i nb wd : Nat) : Nat := if i = 1 then 3 else if i = 3 + nb + wd then 4 else if 3 ≤ i ∧ i < 3 + nb then 2 else 1
/-- a statement from a token on, and what is left; or the first error, and that one's place -/
def lineL (dec : ByteArray → Nat × Nat) (en : Int) : List PTok → Nat → Nat → Nat → PStmt → (PStmt × List PTok) ⊕ (Int × Nat)
  | [], i, nb, wd, s => if 3 + nb + wd + 1 ≤ i then .inl (s, []) else .inr (en, 170)
  | t :: r, i, nb, wd, s =>
    if 3 + nb + wd + 1 ≤ i then .inl (s, t :: r)
    else if t.kind ≠ wantF i nb wd then .inr (t.pos, 170)
    else if i = 0 then lineL dec en r 1 nb wd { s with name := t.text, pos := t.pos }
    else if i = 2 then (if kindF t.text = 0 then .inr (t.pos, 171) else lineL dec en r 3 (behF (kindF t.text)).1 (behF (kindF t.text)).2 { s with kind := kindF t.text })
    else if wantF i nb wd = 2 then (if (dec t.text).2 = 0 then lineL dec en r (i + 1) nb wd { s with args := s.args ++ [⟨t.pos, (dec t.text).1, ⟨#[]⟩⟩] } else .inr (t.pos, (dec t.text).2))
    else if wantF i nb wd = 1 then lineL dec en r (i + 1) nb wd { s with args := s.args ++ [⟨t.pos, 0, t.text⟩] }
    else lineL dec en r (i + 1) nb wd s
/-- what is read, and what the list function tells -/
def Fits (en : Int) (s : PStmt) (a : List PArg × RSt) (r : (PStmt × List PTok) ⊕ (Int × Nat)) : Prop :=
  match r with
  | .inl (s', rest) => s' = { s with args := s.args ++ a.1 } ∧ (nextS en a.2 4).2 = ⟨rest, 0, 0⟩
  | .inr (p, e) => e ≠ 0 ∧ (nextS en a.2 4).2.pl = p ∧ (nextS en a.2 4).2.er = e
theorem arg_er (b : Bool) {s : RSt} (h : ¬ s.er = 0) : (argS dec en b s).2 = s := by
  unfold argS
  split
  · unfold numS
    rw [nextS_er h, if_neg h]
  · unfold wordS
    rw [nextS_er h]
theorem args_er : ∀ (bs : List Bool) {s : RSt}, ¬ s.er = 0 → (argsS dec en bs s).2 = s
  | [], _, _ => rfl
  | b :: r, s, h => by
    show (argsS dec en r (argS dec en b s).2).2 = s
    rw [arg_er b h]
    exact args_er r h
theorem fits_er {s : PStmt} {a : List PArg × RSt} {p : Int} {e : Nat} (he : e ≠ 0) (h1 : a.2.pl = p) (h2 : a.2.er = e) : Fits en s a (.inr (p, e)) := by
  have : ¬ a.2.er = 0 := by rw [h2]; exact he
  unfold Fits
  rw [nextS_er this]
  exact ⟨he, h1, h2⟩
theorem fits_cons {s : PStmt} {x : PArg} {a : List PArg × RSt} {r : (PStmt × List PTok) ⊕ (Int × Nat)} (h : Fits en { s with args := s.args ++ [x] } a r) : Fits en s (x :: a.1, a.2) r := by
  unfold Fits at h ⊢
  cases r with
  | inl q =>
    obtain ⟨h1, h2⟩ := h
    refine ⟨?_, h2⟩
    rw [h1]
    simp
  | inr q => exact h
theorem end_line (nb wd : Nat) (ts : List PTok) (s : PStmt) : Fits en s ([], ⟨ts, 0, 0⟩) (lineL dec en ts (3 + nb + wd) nb wd s) := by
  have hw : wantF (3 + nb + wd) nb wd = 4 := by unfold wantF; rw [if_neg (by omega), if_pos rfl]
  cases ts with
  | nil =>
    show Fits en s _ (if _ then _ else _)
    rw [if_neg (by omega)]
    exact ⟨by decide, rfl, rfl⟩
  | cons t r =>
    show Fits en s _ (if _ then _ else _)
    rw [if_neg (by omega), hw]
    by_cases hk : t.kind = 4
    · rw [if_neg (fun h => h hk), if_neg (by omega), if_neg (by omega), if_neg (by decide), if_neg (by decide)]
      have e : lineL dec en r (3 + nb + wd + 1) nb wd s = .inl (s, r) := by
        cases r with
        | nil => show (if _ then _ else _) = _; rw [if_pos (Nat.le_refl _)]
        | cons u r => show (if _ then _ else _) = _; rw [if_pos (Nat.le_refl _)]
      rw [e]
      refine ⟨by simp, ?_⟩
      rw [nextS_yes rfl rfl hk]
    · rw [if_pos hk]
      refine ⟨by decide, ?_, ?_⟩
      · rw [nextS_no rfl rfl hk]
      · rw [nextS_no rfl rfl hk]
theorem words_line (nb wd : Nat) : ∀ (q i : Nat) (ts : List PTok) (s : PStmt), i + q = 3 + nb + wd → 3 + nb ≤ i → Fits en s (argsS dec en (List.replicate q false) ⟨ts, 0, 0⟩) (lineL dec en ts i nb wd s)
  | 0, i, ts, s, h, _ => by
    obtain rfl : i = 3 + nb + wd := by omega
    exact end_line nb wd ts s
  | q + 1, i, ts, s, h, h3 => by
    have hw : wantF i nb wd = 1 := by unfold wantF; rw [if_neg (by omega), if_neg (by omega), if_neg (by omega)]
    show Fits en s ((argS dec en false ⟨ts, 0, 0⟩).1 :: (argsS dec en (List.replicate q false) (argS dec en false ⟨ts, 0, 0⟩).2).1, (argsS dec en (List.replicate q false) (argS dec en false ⟨ts, 0, 0⟩).2).2) _
    cases ts with
    | nil =>
      have e : (argS dec en false ⟨[], 0, 0⟩).2 = ⟨[], en, 170⟩ := rfl
      rw [e]
      show Fits en s _ (if _ then _ else _)
      rw [if_neg (by omega)]
      refine fits_er (by decide) ?_ ?_
      · rw [args_er _ (show ¬ (170 : Nat) = 0 by decide)]
      · rw [args_er _ (show ¬ (170 : Nat) = 0 by decide)]
    | cons t r =>
      show Fits en s _ (if _ then _ else _)
      rw [if_neg (by omega), hw]
      by_cases hk : t.kind = 1
      · rw [if_neg (fun h => h hk), if_neg (by omega), if_neg (by omega), if_neg (by decide), if_pos rfl]
        have e : argS dec en false ⟨t :: r, 0, 0⟩ = (⟨t.pos, 0, t.text⟩, ⟨r, 0, 0⟩) := by
          unfold argS wordS
          rw [if_neg (by decide), nextS_yes rfl rfl hk]
        rw [e]
        exact fits_cons (words_line nb wd q (i + 1) r _ (by omega) (by omega))
      · rw [if_pos hk]
        have e : (argS dec en false ⟨t :: r, 0, 0⟩).2 = ⟨t :: r, t.pos, 170⟩ := by
          unfold argS wordS
          rw [if_neg (by decide), nextS_no rfl rfl hk]
        rw [e]
        refine fits_er (by decide) ?_ ?_
        · rw [args_er _ (show ¬ (170 : Nat) = 0 by decide)]
        · rw [args_er _ (show ¬ (170 : Nat) = 0 by decide)]
theorem nums_line (nb wd : Nat) : ∀ (q i : Nat) (ts : List PTok) (s : PStmt), i + q = 3 + nb → 3 ≤ i → Fits en s (argsS dec en (List.replicate q true ++ List.replicate wd false) ⟨ts, 0, 0⟩) (lineL dec en ts i nb wd s)
  | 0, i, ts, s, h, _ => by
    obtain rfl : i = 3 + nb := by omega
    rw [List.replicate_zero, List.nil_append]
    exact words_line nb wd wd (3 + nb) ts s rfl (Nat.le_refl _)
  | q + 1, i, ts, s, h, h3 => by
    have hw : wantF i nb wd = 2 := by unfold wantF; rw [if_neg (by omega), if_neg (by omega), if_pos (by omega)]
    rw [List.replicate_succ, List.cons_append]
    show Fits en s ((argS dec en true ⟨ts, 0, 0⟩).1 :: (argsS dec en (List.replicate q true ++ List.replicate wd false) (argS dec en true ⟨ts, 0, 0⟩).2).1, (argsS dec en (List.replicate q true ++ List.replicate wd false) (argS dec en true ⟨ts, 0, 0⟩).2).2) _
    cases ts with
    | nil =>
      have e : (argS dec en true ⟨[], 0, 0⟩).2 = ⟨[], en, 170⟩ := rfl
      rw [e]
      show Fits en s _ (if _ then _ else _)
      rw [if_neg (by omega)]
      refine fits_er (by decide) ?_ ?_
      · rw [args_er _ (show ¬ (170 : Nat) = 0 by decide)]
      · rw [args_er _ (show ¬ (170 : Nat) = 0 by decide)]
    | cons t r =>
      show Fits en s _ (if _ then _ else _)
      rw [if_neg (by omega), hw]
      by_cases hk : t.kind = 2
      · rw [if_neg (fun h => h hk), if_neg (by omega), if_neg (by omega), if_pos rfl]
        have e : argS dec en true ⟨t :: r, 0, 0⟩ = (⟨t.pos, (dec t.text).1, ⟨#[]⟩⟩, if (dec t.text).2 = 0 then ⟨r, 0, 0⟩ else (⟨r, 0, 0⟩ : RSt).fail t.pos (dec t.text).2) := by
          unfold argS numS
          rw [if_pos rfl, nextS_yes rfl rfl hk]
          rfl
        rw [e]
        by_cases hd : (dec t.text).2 = 0
        · rw [if_pos hd, if_pos hd]
          exact fits_cons (nums_line nb wd q (i + 1) r _ (by omega) (by omega))
        · rw [if_neg hd, if_neg hd]
          have e2 : (⟨r, 0, 0⟩ : RSt).fail t.pos (dec t.text).2 = ⟨r, t.pos, (dec t.text).2⟩ := rfl
          rw [e2]
          refine fits_er hd ?_ ?_
          · rw [args_er _ (show ¬ (dec t.text).2 = 0 from hd)]
          · rw [args_er _ (show ¬ (dec t.text).2 = 0 from hd)]
      · rw [if_pos hk]
        have e : (argS dec en true ⟨t :: r, 0, 0⟩).2 = ⟨t :: r, t.pos, 170⟩ := by
          unfold argS numS
          rw [if_pos rfl, nextS_no rfl rfl hk]
          rfl
        rw [e]
        refine fits_er (by decide) ?_ ?_
        · rw [args_er _ (show ¬ (170 : Nat) = 0 by decide)]
        · rw [args_er _ (show ¬ (170 : Nat) = 0 by decide)]
theorem form_beh : ∀ k, 1 ≤ k → k ≤ 6 → formL k = List.replicate (behF k).1 true ++ List.replicate (behF k).2 false := by
  intro k h1 h2
  have : k = 1 ∨ k = 2 ∨ k = 3 ∨ k = 4 ∨ k = 5 ∨ k = 6 := by omega
  rcases this with rfl | rfl | rfl | rfl | rfl | rfl <;> rfl
def st0 : PStmt := ⟨⟨#[]⟩, 0, 0, []⟩
/-- a statement is read as the list function tells -/
theorem stmt_line (ts : List PTok) : match lineL dec en ts 0 0 0 st0 with
    | .inl (s, rest) => stmtS dec en ⟨ts, 0, 0⟩ = (s, ⟨rest, 0, 0⟩)
    | .inr (p, e) => e ≠ 0 ∧ (stmtS dec en ⟨ts, 0, 0⟩).2.pl = p ∧ (stmtS dec en ⟨ts, 0, 0⟩).2.er = e := by
  have hsn : ∀ (n t : PTok × RSt), n = nextS en ⟨ts, 0, 0⟩ 1 → t = nextS en (nextS en n.2 3).2 1 → stmtS dec en ⟨ts, 0, 0⟩ = (⟨n.1.text, n.1.pos, kindF t.1.text, (argsS dec en (formL (kindF t.1.text)) (if kindF t.1.text = 0 then t.2.fail t.1.pos 171 else t.2)).1⟩, (nextS en (argsS dec en (formL (kindF t.1.text)) (if kindF t.1.text = 0 then t.2.fail t.1.pos 171 else t.2)).2 4).2) := by
    rintro n t rfl rfl
    rfl
  have bad : ∀ (n t : PTok × RSt) (p : Int) (e : Nat), n = nextS en ⟨ts, 0, 0⟩ 1 → t = nextS en (nextS en n.2 3).2 1 → e ≠ 0 → t.2.pl = p → t.2.er = e → e ≠ 0 ∧ (stmtS dec en ⟨ts, 0, 0⟩).2.pl = p ∧ (stmtS dec en ⟨ts, 0, 0⟩).2.er = e := by
    intro n t p e h1 h2 h3 h4 h5
    rw [hsn n t h1 h2]
    have hne : ¬ t.2.er = 0 := by rw [h5]; exact h3
    have e1 : (if kindF t.1.text = 0 then t.2.fail t.1.pos 171 else t.2) = t.2 := by
      split
      · unfold RSt.fail
        rw [if_neg hne]
      · rfl
    rw [e1, args_er _ hne, nextS_er hne]
    exact ⟨h3, h4, h5⟩
  have w0 : wantF 0 0 0 = 1 := rfl
  have w1 : wantF 1 0 0 = 3 := rfl
  have w2 : wantF 2 0 0 = 1 := rfl
  cases ts with
  | nil => exact bad _ _ en 170 rfl rfl (by decide) rfl rfl
  | cons a r =>
    have e0 : lineL dec en (a :: r) 0 0 0 st0 = if a.kind ≠ 1 then .inr (a.pos, 170) else lineL dec en r 1 0 0 { st0 with name := a.text, pos := a.pos } := rfl
    rw [e0]
    by_cases ha : a.kind = 1
    · rw [if_neg (fun h => h ha)]
      have n0 : nextS en ⟨a :: r, 0, 0⟩ 1 = (a, ⟨r, 0, 0⟩) := nextS_yes rfl rfl ha
      cases r with
      | nil =>
        refine bad (a, ⟨[], 0, 0⟩) _ en 170 n0.symm rfl (by decide) rfl rfl
      | cons b r =>
        have e1 : ∀ s, lineL dec en (b :: r) 1 0 0 s = if b.kind ≠ 3 then .inr (b.pos, 170) else lineL dec en r 2 0 0 s := fun _ => rfl
        rw [e1]
        by_cases hb : b.kind = 3
        · rw [if_neg (fun h => h hb)]
          have n1 : nextS en ⟨b :: r, 0, 0⟩ 3 = (b, ⟨r, 0, 0⟩) := nextS_yes rfl rfl hb
          cases r with
          | nil =>
            refine bad (a, ⟨[b], 0, 0⟩) (PTok.no, ⟨[], en, 170⟩) en 170 n0.symm ?_ (by decide) rfl rfl
            rw [n1]
            rfl
          | cons c r =>
            have e2 : ∀ s, lineL dec en (c :: r) 2 0 0 s = if c.kind ≠ 1 then .inr (c.pos, 170) else if kindF c.text = 0 then .inr (c.pos, 171) else lineL dec en r 3 (behF (kindF c.text)).1 (behF (kindF c.text)).2 { s with kind := kindF c.text } := fun _ => rfl
            rw [e2]
            by_cases hc : c.kind = 1
            · rw [if_neg (fun h => h hc)]
              have n2 : nextS en ⟨c :: r, 0, 0⟩ 1 = (c, ⟨r, 0, 0⟩) := nextS_yes rfl rfl hc
              have hst := hsn (a, ⟨b :: c :: r, 0, 0⟩) (c, ⟨r, 0, 0⟩) n0.symm (by rw [n1, n2])
              by_cases h0 : kindF c.text = 0
              · rw [if_pos h0]
                rw [hst, if_pos h0]
                have e3 : (⟨r, 0, 0⟩ : RSt).fail c.pos 171 = ⟨r, c.pos, 171⟩ := rfl
                simp only [e3]
                rw [args_er _ (show ¬ (171 : Nat) = 0 by decide), nextS_er (show ¬ (171 : Nat) = 0 by decide)]
                exact ⟨by decide, rfl, rfl⟩
              · rw [if_neg h0]
                rw [hst, if_neg h0]
                have hk6 := kindF_le c.text
                have hF := nums_line (dec := dec) (en := en) (behF (kindF c.text)).1 (behF (kindF c.text)).2 (behF (kindF c.text)).1 3 r ⟨a.text, a.pos, kindF c.text, []⟩ rfl (Nat.le_refl _)
                rw [← form_beh _ (by omega) hk6] at hF
                have hs : ({ ({ st0 with name := a.text, pos := a.pos } : PStmt) with kind := kindF c.text } : PStmt) = ⟨a.text, a.pos, kindF c.text, []⟩ := rfl
                rw [hs]
                unfold Fits at hF
                obtain ⟨R, hR⟩ : ∃ R, lineL dec en r 3 (behF (kindF c.text)).1 (behF (kindF c.text)).2 ⟨a.text, a.pos, kindF c.text, []⟩ = R := ⟨_, rfl⟩
                rw [hR] at hF ⊢
                cases R with
                | inl q =>
                  obtain ⟨s', rest⟩ := q
                  obtain ⟨h1, h2⟩ := hF
                  simp only at h1 h2 ⊢
                  rw [h1, h2]
                  simp
                | inr q => exact hF
            · rw [if_pos hc]
              refine bad (a, ⟨b :: c :: r, 0, 0⟩) (PTok.no, ⟨c :: r, c.pos, 170⟩) _ _ n0.symm ?_ (by decide) rfl rfl
              rw [n1]
              exact (nextS_no (s := ⟨c :: r, 0, 0⟩) rfl rfl hc).symm
        · rw [if_pos hb]
          have n1 : nextS en ⟨b :: r, 0, 0⟩ 3 = (PTok.no, ⟨b :: r, b.pos, 170⟩) := nextS_no rfl rfl hb
          refine bad (a, ⟨b :: r, 0, 0⟩) (PTok.no, ⟨b :: r, b.pos, 170⟩) _ _ n0.symm ?_ (by decide) rfl rfl
          rw [n1]
          exact (nextS_er (show ¬ (170 : Nat) = 0 by decide)).symm
    · rw [if_pos ha]
      have n0 : nextS en ⟨a :: r, 0, 0⟩ 1 = (PTok.no, ⟨a :: r, a.pos, 170⟩) := nextS_no rfl rfl ha
      refine bad (PTok.no, ⟨a :: r, a.pos, 170⟩) (PTok.no, ⟨a :: r, a.pos, 170⟩) _ _ n0.symm ?_ (by decide) rfl rfl
      rw [nextS_er (show ¬ (170 : Nat) = 0 by decide), nextS_er (show ¬ (170 : Nat) = 0 by decide)]
/-- all statements, or the first error and its place -/
def refL (dec : ByteArray → Nat × Nat) (en : Int) : Nat → List PTok → List PStmt → List PStmt × Int × Nat
  | 0, _, out => (out, 0, 0)
  | _ + 1, [], out => (out, 0, 0)
  | f + 1, t :: r, out => if t.kind = 4 then refL dec en f r out else match lineL dec en (t :: r) 0 0 0 st0 with
    | .inl (s, rest) => refL dec en f rest (out ++ [s])
    | .inr (p, e) => ([], p, e)
theorem ref_parse : ∀ (f : Nat) (ts : List PTok) (out : List PStmt), refL dec en f ts out = if (parseL dec en f ⟨ts, 0, 0⟩ out).2.er = 0 then ((parseL dec en f ⟨ts, 0, 0⟩ out).1, 0, 0) else ([], (parseL dec en f ⟨ts, 0, 0⟩ out).2.pl, (parseL dec en f ⟨ts, 0, 0⟩ out).2.er)
  | 0, _, _ => rfl
  | _ + 1, [], _ => rfl
  | f + 1, t :: r, out => by
    have e1 : parseL dec en (f + 1) ⟨t :: r, 0, 0⟩ out = if t.kind = 4 then parseL dec en f ⟨r, 0, 0⟩ out else parseL dec en f (stmtS dec en ⟨t :: r, 0, 0⟩).2 (out ++ [(stmtS dec en ⟨t :: r, 0, 0⟩).1]) := rfl
    have e2 : refL dec en (f + 1) (t :: r) out = if t.kind = 4 then refL dec en f r out else match lineL dec en (t :: r) 0 0 0 st0 with
      | .inl (s, rest) => refL dec en f rest (out ++ [s])
      | .inr (p, e) => ([], p, e) := rfl
    rw [e1, e2]
    by_cases hk : t.kind = 4
    · rw [if_pos hk, if_pos hk]
      exact ref_parse f r out
    · rw [if_neg hk, if_neg hk]
      have h := stmt_line (dec := dec) (en := en) (t :: r)
      obtain ⟨R, hR⟩ : ∃ R, lineL dec en (t :: r) 0 0 0 st0 = R := ⟨_, rfl⟩
      rw [hR] at h ⊢
      cases R with
      | inl q =>
        obtain ⟨s, rest⟩ := q
        simp only at h ⊢
        rw [h]
        exact ref_parse f rest (out ++ [s])
      | inr q =>
        obtain ⟨p, e⟩ := q
        obtain ⟨h1, h2, h3⟩ := h
        have hne : (stmtS dec en ⟨t :: r, 0, 0⟩).2.er ≠ 0 := by rw [h3]; exact h1
        rw [parseL_end (.inl hne)]
        simp only
        rw [if_neg hne, h2, h3]
theorem parse_ref (ts : List PTok) : refL dec (endOf ts) (ts.length + 1) ts [] = parseRes dec ts := ref_parse _ _ _
end Go.Proofs.YtcbgkbidgpemfaaGreatDoor.rg

/- burnishref17: the walks of Word, Kind and behind. Conditions: as each theorem states. -/
namespace Go.Proofs.YtcbgkbidgpemfaaGreatDoor.rg
open Go.RowKit
open Go.Proofs.YtcbgkbidgpemfaaGreatDoor.parw
open Go.Proofs.YtcbgkbidgpemfaaGreatDoor.lexw

theorem word_no (k : Nat) (h : k = 0 ∨ 7 ≤ k) : wordF k = ⟨#[]⟩ := by
  rcases h with rfl | h
  · rfl
  · unfold wordF
    rw [List.getD_eq_getElem?_getD, List.getElem?_eq_none (by show 7 ≤ k; omega)]
    rfl
theorem rword_any (k : Nat) (w : World) : Calls Tryz.prog 9 #[.int .u8 k] w fun e w' => e = .returned (.string (wordF k)) ∧ w' = w := by
  by_cases h1 : k = 1
  case' neg => by_cases h2 : k = 2
  case' neg => by_cases h3 : k = 3
  case' neg => by_cases h4 : k = 4
  case' neg => by_cases h5 : k = 5
  case' neg => by_cases h6 : k = 6
  case neg =>
    have e1 : ((k : Int) == 1) = false := by rw [beq_eq_false_iff_ne]; omega
    have e2 : ((k : Int) == 2) = false := by rw [beq_eq_false_iff_ne]; omega
    have e3 : ((k : Int) == 3) = false := by rw [beq_eq_false_iff_ne]; omega
    have e4 : ((k : Int) == 4) = false := by rw [beq_eq_false_iff_ne]; omega
    have e5 : ((k : Int) == 5) = false := by rw [beq_eq_false_iff_ne]; omega
    have e6 : ((k : Int) == 6) = false := by rw [beq_eq_false_iff_ne]; omega
    rw [word_no k (by omega)]
    clear h1 h2 h3 h4 h5 h6
    go_enter Tryz.func9, Tryz.ntmps9
    go_wp2
    go_ret
    exact ⟨rfl, rfl⟩
  all_goals
    subst_vars
    go_enter Tryz.func9, Tryz.ntmps9
    go_wp2
    go_ret
    exact ⟨rfl, rfl⟩
theorem behind_any (k : Nat) (w : World) : Calls Tryz.prog 61 #[.int .u8 k] w fun e w' => e = .returned (.tuple #[.int .i64 (((behF k).1 : Nat) : Int), .int .i64 (((behF k).2 : Nat) : Int)]) ∧ w' = w := by
  by_cases h1 : k = 1
  case' neg => by_cases h2 : k = 2
  case' neg => by_cases h3 : k = 3
  case' neg => by_cases h4 : k = 4
  case' neg => by_cases h5 : k = 5
  case neg =>
    have e1 : ((k : Int) == 1) = false := by rw [beq_eq_false_iff_ne]; omega
    have e2 : ((k : Int) == 2) = false := by rw [beq_eq_false_iff_ne]; omega
    have e3 : ((k : Int) == 3) = false := by rw [beq_eq_false_iff_ne]; omega
    have e4 : ((k : Int) == 4) = false := by rw [beq_eq_false_iff_ne]; omega
    have e5 : ((k : Int) == 5) = false := by rw [beq_eq_false_iff_ne]; omega
    have eb : behF k = (4, 1) := by unfold behF; rw [if_neg h1, if_neg h2, if_neg h3, if_neg h4, if_neg h5]
    rw [eb]
    clear h1 h2 h3 h4 h5 eb
    go_enter Tryz.func61, Tryz.ntmps61
    go_wp2
    go_ret2
    exact ⟨rfl, rfl⟩
  all_goals
    subst_vars
    go_enter Tryz.func61, Tryz.ntmps61
    go_wp2
    go_ret2
    exact ⟨rfl, rfl⟩
theorem word_kind6 : ∀ k, 1 ≤ k → k ≤ 6 → kindF (wordF k) = k := by
  intro k h1 h2
  have : k = 1 ∨ k = 2 ∨ k = 3 ∨ k = 4 ∨ k = 5 ∨ k = 6 := by omega
  rcases this with rfl | rfl | rfl | rfl | rfl | rfl <;> decide +kernel
theorem kind_word6 (s : ByteArray) (h : kindF s ≠ 0) : wordF (kindF s) = s := by
  unfold kindF at h ⊢
  split
  · next e => rw [e]; rfl
  split
  · next e => rw [e]; rfl
  split
  · next e => rw [e]; rfl
  split
  · next e => rw [e]; rfl
  split
  · next e => rw [e]; rfl
  split
  · next e => rw [e]; rfl
  next n1 n2 n3 n4 n5 n6 =>
    rw [if_neg n1, if_neg n2, if_neg n3, if_neg n4, if_neg n5, if_neg n6] at h
    exact absurd rfl h
set_option maxHeartbeats 1000000 in
theorem rkind_any (s : ByteArray) (w : World) : Calls Tryz.prog 7 #[.string s] w fun e w' => e = .returned (.int .u8 (kindF s)) ∧ w' = w := by
  go_enter Tryz.func7, Tryz.ntmps7
  go_wp2_with fail
  go_loopw [3] (fun s3 wr => ∃ k : Nat, 1 ≤ k ∧ k ≤ 7 ∧ s3 = .int .u8 k ∧ (∀ j, 1 ≤ j → j < k → wordF j ≠ s) ∧ wr = w) (fun s3 _ => 7 - (intOf s3).toNat)
  case atStart => exact ⟨1, by omega, by omega, rfl, fun j h1 h2 => by omega, rfl⟩
  case round =>
    obtain ⟨k, hk1, hk7, rfl, hj, hwr⟩ := hrel
    obtain rfl := hwr.symm
    have HJ := Lib.hid hj
    clear hj
    by_cases hk : k ≤ 6
    · have hki : (k : Int) ≤ 6 := by omega
      have HW := Lib.hid (fun W => rword_any k W)
      by_cases he : wordF k = s
      · have hf : kindF s = k := by rw [← he]; exact word_kind6 k hk1 hk
        have hb : ((wordF k).toList == s.toList) = true := by rw [he]; simp
        obtain ⟨u, hu⟩ : ∃ u, wordF k = u := ⟨_, rfl⟩
        rw [hu] at HW hb
        have HF := Lib.hid hf
        clear he hf hu
        go_wp2_with (go_at_call 9; (with_reducible refine (HW.out _).mono ?_); rintro e w' ⟨rfl, rfl⟩)
        go_ret
        exact ⟨by rw [HF.out]; rfl, rfl⟩
      · have hb : ((wordF k).toList == s.toList) = false := sbeq he
        have HN := Lib.hid he
        obtain ⟨u, hu⟩ : ∃ u, wordF k = u := ⟨_, rfl⟩
        rw [hu] at HW hb
        have HU := Lib.hid hu
        clear he hu
        go_wp2_with (go_at_call 9; (with_reducible refine (HW.out _).mono ?_); rintro e w' ⟨rfl, rfl⟩)
        refine ⟨⟨k + 1, by omega, by omega, by go_num, fun j h1 h2 => ?_, by first | trivial | rfl⟩, by simp only [intOf]; omega⟩
        by_cases hjk : j = k
        · rw [hjk]; exact HN.out
        · exact HJ.out j h1 (by omega)
    · obtain rfl : k = 7 := by omega
      have hf : kindF s = 0 := by
        refine Decidable.byContradiction fun h => ?_
        have h6 := kindF_le s
        exact HJ.out (kindF s) (by omega) (by omega) (kind_word6 s h)
      have HF := Lib.hid hf
      clear hf hk
      go_wp2_with fail
      go_ret
      exact ⟨by rw [HF.out]; rfl, rfl⟩
end Go.Proofs.YtcbgkbidgpemfaaGreatDoor.rg
