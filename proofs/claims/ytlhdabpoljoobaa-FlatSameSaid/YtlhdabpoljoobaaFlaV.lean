/- The walk through what a root needs: one call of the walker hands on what the plain walk lists, each place once. No conditions but those stated. -/
import Derived.Test.YtlhdabpoljoobaaFlaU
namespace Go.Proofs.Ytlhdabpoljoobaa.flatw
open Go.RowKit Go.Shelf
open Go.Proofs.Ytlhdabpoljoobaa.nodew
open Go.Proofs.Ytlhdabpoljoobaa.chkw
open Go.Proofs.Ytlhdabpoljoobaa.flatm
attribute [local go_sem] Oper.semAt_some

theorem IArg.uni {W : World} {v : Value} {ks : List Int} (h : IArg W v ks) : ∃ A, v = .slice A ks.length ks.length ∧ ∀ i, i < ks.length → ∃ g, A = some ⟨g, 0, none⟩ ∧ W.heap[g]? = some (.cells (ks.map (Value.int .i64)).toArray 3 (0, 0)) := by
  rcases h with ⟨rfl, rfl⟩ | ⟨g, rfl, _, hg⟩
  · exact ⟨none, rfl, fun i hi => by simp at hi⟩
  · exact ⟨_, rfl, fun i _ => ⟨g, rfl, hg⟩⟩
theorem runK_cons (g : Nat → (Nat → Bool) → (Nat → Bool) × List Nat) (c : Nat) (r : List Nat) (m : Nat → Bool) : runK g (c :: r) m = ((runK g r (g c m).1).1, (g c m).2 ++ (runK g r (g c m).1).2) := rfl
theorem wli_load_nd {n : Nat} {ops : Array Oper} {rest : List Oper} {o : Oper} {a : Act} {w : World} {Q : Exit → Act → World → Prop} (hgd : o.guard = none) (x : Operand) (ho : o.op = .load 37 x) (ad : Value) (hx : a.eval x = ad) (nd : Nd)
    (hl : (Instr.loadAt 37 ad).run Try.prog w = .ok nd.val w) (h : wpListIn Fence.wide n Try.prog ops Q rest (a.put o.dst nd.val) w) : wpListIn Fence.wide n Try.prog ops Q (o :: rest) a w := by
  refine wpListIn_plain hgd fun K hK => ?_
  have hr : (execOp a.eval o).run Try.prog w = .ok (.value nd.val) w := by
    unfold execOp
    simp only [ho, hx, hl, Sem.run_bind, Sem.run_pure, Result.andThen_ok]
  refine ⟨fun f _ => trivial, ?_⟩
  show Oper.uponIn _ _ _ _ _ _ _ ((execOp a.eval o).run Try.prog w)
  rw [hr]
  exact hK _ _ h
def ThrPost (foot : World → Nat → Prop) (B : Nat) (J : List Nat → World → Prop) (pb mb b1 b3 b4 lp : Nat) (v : Value) (l : List Nd) (pre : List Nat) (r : (Nat → Bool) × List Nat) (W : World) (e : Ending) (W' : World) : Prop :=
  e = .returned (.bool true) ∧ TS foot B pb mb b1 b3 b4 lp v l r.1 W' ∧ J (pre ++ r.2) W' ∧ KeepP foot B (some mb) W W'

set_option maxRecDepth 100000 in
set_option maxHeartbeats 4000000 in
theorem thr_any {foot : World → Nat → Prop} {B : Nat} {J : List Nat → World → Prop} (hF : Foot foot B J) (l : List Nd) (hl : l.length ≤ 4096) (hac : ∀ x, x < l.length → ∀ c ∈ kids (nth l x), c < x) (hki : ∀ x, x < l.length → kidsI (nth l x) = (kids (nth l x)).map (fun c : Nat => (c : Int)))
    (ord : List Nat) (pb mb b1 b3 b4 lp : Nat) (v : Value)
    (hY : ∀ (m : Nat) (pre : List Nat) (x : Nat) (W1 : World), J pre W1 → x < l.length → pre ++ [x] <+: ord → YieldAt Fence.wide m Try.prog lp #[.int .i64 x] W1 fun e W' => e = .returned (.bool true) ∧ J (pre ++ [x]) W' ∧ KeepP foot B none W1 W') :
    ∀ (f x : Nat), x < f → x < l.length → ∀ (m : Nat → Bool) (pre : List Nat) (W : World), TS foot B pb mb b1 b3 b4 lp v l m W → J pre W → pre ++ (visit (nth l) f x m).2 <+: ord →
      Calls Try.prog 21 #[.int .i64 x, .pointer (some ⟨b1, 0, none⟩), .pointer (some ⟨pb, 0, none⟩), .pointer (some ⟨b3, 0, none⟩), .pointer (some ⟨b4, 0, none⟩)] W (ThrPost foot B J pb mb b1 b3 b4 lp v l pre (visit (nth l) f x m) W) := by
  intro f
  induction f with
  | zero => intro x h; omega
  | succ f ih =>
    intro x hxf hxl m pre W hT hJ hpre
    have IH := Lib.hid ih
    have HY := Lib.hid hY
    have HF := Lib.hid hF
    have HAC := Lib.hid hac
    have HKI := Lib.hid hki
    have HT := Lib.hid hT
    have HJ := Lib.hid hJ
    clear ih hY hF hac hki
    obtain ⟨q, hq⟩ : ∃ q, visit (nth l) (f + 1) x m = q := ⟨_, rfl⟩
    rw [hq] at hpre ⊢
    have c1 := hT.h1.cell
    have cm : W.cell? ⟨mb, x, none⟩ = some (.bool (m x)) := by rw [cell_of_row W mb x _ _ _ hT.hm]; exact metA_at _ _ _ hxl
    have x0 : (0 : Int) ≤ (x : Int) := by omega
    have xi : (x : Int) < (l.length : Int) := by omega
    rw [← callsIn_wide (n := 0)]
    cases hmx : m x with
    | true =>
      have hq' : q = (m, []) := by rw [← hq]; unfold visit; rw [if_pos hmx]
      rw [hmx] at cm
      clear hT hJ hq hmx hpre
      refine callsIn_of_wp Try.func21 rfl trivial ?_ rfl
      simp only [Try.ntmps21, List.size_toArray, List.length_cons, List.length_nil, Nat.reduceAdd, Nat.reduceSub, Array.replicate_succ, Array.replicate_zero, List.push_toArray, List.append_toArray, List.nil_append, List.cons_append]
      gi_wp2
      go_ret
      subst hq'
      exact ⟨rfl, HT.out, by rw [List.append_nil]; exact HJ.out, KeepP.refl _ _ _ _⟩
    | false =>
      have hq' : q = ((runK (visit (nth l) f) (kids (nth l x)) (upd m x true)).1, (runK (visit (nth l) f) (kids (nth l x)) (upd m x true)).2 ++ [x]) := by rw [← hq]; unfold visit; rw [if_neg (by rw [hmx]; simp)]
      rw [hmx] at cm
      have HQ := Lib.hid hq'
      have HPRE := Lib.hid hpre
      clear hq hmx hq' hpre
      -- the mark is set
      obtain ⟨W1, hW1⟩ : ∃ W1, W1 = W.setCell ⟨mb, x, none⟩ (.bool true) := ⟨_, rfl⟩
      have hg1 : W.grownBy W1 (some mb) := by
        rw [hW1]
        exact ⟨rfl, rfl, rfl, by simp, fun k hk hne => Below.heap_setCell W ⟨mb, x, none⟩ (.bool true) k (by intro e; exact hne (by rw [e]))⟩
      have hm1 : W1.heap[mb]? = some (.cells (metA l.length (upd m x true)) 4 (0, 0)) := by rw [hW1, heap_set W mb x _ _ _ _ hT.hm, metA_set _ _ _ hxl]
      obtain ⟨hJ1, hK1, _⟩ := HF.out.alloc hJ hg1 (fun r e => by obtain rfl := Option.some.inj e; exact ⟨hT.bm, ⟨⟨_, _, _, hT.hm⟩, hT.pm⟩, _, _, _, hm1⟩)
      have hT1 := hT.step hK1 hm1
      have fm : W.frozen? ⟨mb, x, none⟩ = false := by simp [World.frozen?, hT.hm]
      have HT1 := Lib.hid hT1
      have HJ1 := Lib.hid hJ1
      have HK1 := Lib.hid hK1
      have cp := hT1.hp.cell
      have cpW := hT.hp.cell
      have npm : pb ≠ mb := boxed_ne hT.hp hT.hm (by decide)
      have cpS := cp
      rw [hW1] at cpS
      have ca := hT1.h4.cell
      clear hT hJ hg1 hm1 hJ1 hK1
      obtain ⟨A, c, rfl, hlc, _, hcell⟩ := hT1.hn
      obtain ⟨g, off, rfl, hgB, hgl, hcl⟩ := hcell (by intro e; rw [e] at hxl; simp at hxl)
      have hld := (NRead.at (B := B) (g := g) (off := off) (W := W1) (l := l) (k := x) (fun _ => ⟨g, off, rfl, hgB, hgl, hcl⟩) hxl).2 W1 rfl
      have hnx : l[x] = nth l x := by unfold nth; simp [hxl]
      rw [hnx] at hld
      have HLD := Lib.hid hld
      have HCE := Lib.hid hcell
      clear hld hcell hcl hT1
      refine callsIn_of_wp Try.func21 rfl trivial ?_ rfl
      simp only [Try.ntmps21, List.size_toArray, List.length_cons, List.length_nil, Nat.reduceAdd, Nat.reduceSub, Array.replicate_succ, Array.replicate_zero, List.push_toArray, List.append_toArray, List.nil_append, List.cons_append]
      gi_wp2_with (first | (rw [← hW1]) | (refine wli_load_nd rfl (.tmp 18) rfl (.pointer (some ⟨g, off + x * 19, none⟩)) rfl (nth l x) HLD.out ?_))
      refine ⟨trivial, rfl, (callsIn_wide.2 (below_any (nth l x) W1)).mono ?_⟩
      rintro e W2 ⟨vb, rfl, hIA, hB2, hnew⟩
      rw [HKI.out x hxl] at hIA
      obtain ⟨ks, hks⟩ : ∃ ks, kids (nth l x) = ks := ⟨_, rfl⟩
      have hk2 : ks.length ≤ 2 := by
        rw [← hks]; unfold kids
        split
        · simp
        · split <;> simp
      have hkx : ∀ c ∈ ks, c < x := by rw [← hks]; exact HAC.out x hxl
      have hQ := HQ.out
      rw [hks] at hIA hQ
      have HQ := Lib.hid hQ
      clear hQ
      obtain ⟨A2, rfl, hA2⟩ := hIA.uni
      rw [List.length_map] at hA2 hnew ⊢
      obtain ⟨hJ2, hK2, hP2⟩ := HF.out.alloc HJ1.out (grown_below hB2 none) (fun r e => by cases e)
      have hK2' := HK1.out.trans hK2.weak
      have hT2 := HT1.out.keep hK2
      have hA3 : ∀ i, i < ks.length → ∃ gb, A2 = some ⟨gb, 0, none⟩ ∧ W2.heap[gb]? = some (.cells ((ks.map (fun c : Nat => (c : Int))).map (Value.int .i64)).toArray 3 (0, 0)) ∧ Priv foot W2 gb ∧ gb ≠ mb := by
        intro i hi
        obtain ⟨gb, rfl, hgb⟩ := hA2 i hi
        refine ⟨gb, rfl, hgb, hP2 gb _ _ _ (hnew gb 0 _ rfl) hgb, fun e => ?_⟩
        rw [e, hT2.hm] at hgb
        injection hgb with hgb
        injection hgb with _ e2 _
        exact absurd e2 (by decide)
      have HA3 := Lib.hid hA3
      have HKX := Lib.hid hkx
      have HT2 := Lib.hid hT2
      have HK2 := Lib.hid hK2'
      have HJ2 := Lib.hid hJ2
      clear hA3 hA2 hnew hP2 hIA hT2 hK2 hK2' hJ2 hB2 hks hkx
      have hkl : ks.length ≤ 4096 ∨ True := .inr trivial
      gi_wp2_with fail
      gi_loopw [22] (fun i wr => ∃ (dn rest outs : List Nat) (mi : Nat → Bool), ks = dn ++ rest ∧ i = .int .i64 dn.length ∧ runK (visit (nth l) f) ks (upd m x true) = ((runK (visit (nth l) f) rest mi).1, outs ++ (runK (visit (nth l) f) rest mi).2) ∧ TS foot B pb mb b1 b3 b4 lp (.slice (some ⟨g, off, none⟩) l.length c) l mi wr ∧ J (pre ++ outs) wr ∧ KeepP foot B (some mb) W2 wr) (fun i _ => ks.length - (intOf i).toNat)
      case atStart => exact ⟨[], ks, [], upd m x true, rfl, rfl, by simp, HT2.out, by rw [List.append_nil]; exact HJ2.out, KeepP.refl _ _ _ _⟩
      case round =>
        obtain ⟨dn, rest, outs, mi, hks, rfl, hrun, hTr, hJr, hKr⟩ := hrel
        have HRUN := Lib.hid hrun
        have HTR := Lib.hid hTr
        have HJR := Lib.hid hJr
        have HKR := Lib.hid hKr
        have c3 := hTr.h3.cell
        have c4 := hTr.h4.cell
        have hlen : ks.length = dn.length + rest.length := by rw [hks, List.length_append]
        have HKS := Lib.hid hks
        clear hrun hTr hJr hKr hks
        have hd0 : (0 : Int) ≤ (dn.length : Int) := by omega
        cases rest with
        | nil =>
          have hdl : ks.length = dn.length := by simpa using hlen
          have hnl : decide ((dn.length : Int) < (ks.length : Int)) = false := by rw [decide_eq_false_iff_not]; omega
          have hni : ¬ (dn.length : Int) < (ks.length : Int) := by omega
          have hr0 : runK (visit (nth l) f) ks (upd m x true) = (mi, outs) := by rw [HRUN.out]; simp [runK]
          have hq0 : q = (mi, outs ++ [x]) := by rw [HQ.out, hr0]
          have hpr : (pre ++ outs) ++ [x] <+: ord := by have := HPRE.out; rw [hq0] at this; rw [List.append_assoc]; exact this
          have HQ0 := Lib.hid hq0
          clear hr0 hq0
          obtain ⟨fn, tmps, assign, body, hy, hR⟩ := HY.out 0 (pre ++ outs) x wr HJR.out hxl hpr
          clear hlen
          gi_wp2_with fail
          refine ⟨rfl, hR.mono ?_⟩
          rintro e W3 ⟨rfl, hJ3, hK3⟩
          gi_wp2
          go_ret
          rw [HQ0.out]
          exact ⟨rfl, HTR.out.keep hK3, by rw [← List.append_assoc]; exact hJ3, (HK2.out.trans HKR.out).trans hK3.weak⟩
        | cons cc rest =>
          have hdl : dn.length < ks.length := by rw [hlen]; simp
          have hnl : decide ((dn.length : Int) < (ks.length : Int)) = true := by rw [decide_eq_true_iff]; omega
          have hni : (dn.length : Int) < (ks.length : Int) := by omega
          obtain ⟨gb, rfl, hgb, hpb, hnb⟩ := HA3.out dn.length hdl
          have hgw : wr.heap[gb]? = some (.cells ((ks.map (fun c : Nat => (c : Int))).map (Value.int .i64)).toArray 3 (0, 0)) := ((HKR.out.2.2 gb hpb).2 (by simpa using hnb)).trans hgb
          have cg : wr.cell? ⟨gb, dn.length, none⟩ = some (.int .i64 cc) := by
            rw [cell_of_row wr gb dn.length _ _ _ hgw, HKS.out]
            simp
          have hcx : cc < x := HKX.out cc (by rw [HKS.out]; simp)
          have hrn := HRUN.out
          rw [runK_cons] at hrn
          obtain ⟨r, hr⟩ : ∃ r, visit (nth l) f cc mi = r := ⟨_, rfl⟩
          rw [hr] at hrn
          have hih := IH.out cc (by omega) (by omega) mi (pre ++ outs) wr HTR.out HJR.out (by
            rw [hr]
            have h1 := HPRE.out
            rw [HQ.out, hrn] at h1
            refine List.IsPrefix.trans ?_ h1
            refine ⟨(runK (visit (nth l) f) rest r.1).2 ++ [x], ?_⟩
            simp only [List.append_assoc])
          rw [hr] at hih
          have HRN := Lib.hid hrn
          have HIH := Lib.hid hih
          have HLE := Lib.hid hlen
          clear hr hrn hih hgb hgw hpb hnb hdl hlen
          gi_wp2_with fail
          refine ⟨trivial, rfl, (callsIn_wide.2 HIH.out).mono ?_⟩
          rintro e W3 ⟨rfl, hT3, hJ3, hK3⟩
          have HT3 := Lib.hid hT3
          have HJ3 := Lib.hid hJ3
          have HK3 := Lib.hid hK3
          clear hT3 hJ3 hK3
          gi_wp2_with fail
          go_roundw
          case rel => exact ⟨dn ++ [cc], rest, outs ++ r.2, r.1, by rw [HKS.out]; simp, by simp, by rw [HRN.out, List.append_assoc], HT3.out, by rw [← List.append_assoc]; exact HJ3.out, HKR.out.trans HK3.out⟩
          case measure => have := HLE.out; simp at this; simp [intOf]; omega
end Go.Proofs.Ytlhdabpoljoobaa.flatw
