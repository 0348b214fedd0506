/- What a right program gives the walks, and Used. No conditions but those stated. -/
import Derived.Test.YtlhdabpoljoobaaFlaH
import Derived.Deep.Onto
namespace Go.Proofs.Ytlhdabpoljoobaa.flatw
open Go.RowKit Go.Shelf
open Go.Proofs.Ytlhdabpoljoobaa.nodew
open Go.Proofs.Ytlhdabpoljoobaa.chkw
open Go.Proofs.Ytlhdabpoljoobaa.flatm

theorem fold_snoc (L acc : List Nat) : L.foldl (fun s x => s ++ [x]) acc = acc ++ L := by
  induction L generalizing acc with
  | nil => simp
  | cons x r ih => rw [List.foldl_cons, ih]; simp
theorem nodup_lt : ∀ (n : Nat) (l : List Nat), l.Nodup → (∀ x ∈ l, x < n) → l.length ≤ n
  | 0, [], _, _ => Nat.le_refl _
  | 0, a :: r, _, h => absurd (h a (.head _)) (Nat.not_lt_zero _)
  | n + 1, l, hd, h => by
    by_cases hm : n ∈ l
    · have h1 := nodup_lt n (l.erase n) (hd.erase n) (fun x hx => by
        have := hd.mem_erase_iff.1 hx
        have := h x this.2
        omega)
      rw [List.length_erase_of_mem hm] at h1
      omega
    · have := nodup_lt n l hd (fun x hx => by
        have := h x hx
        have : x ≠ n := fun e => hm (e ▸ hx)
        omega)
      omega
theorem ord_len {l : List Nd} (hr : rightP l = true) : (ordP l).Nodup ∧ (ordP l).length ≤ l.length ∧ ∀ x ∈ ordP l, x < l.length := by
  have hac := right_ac hr
  have h0 := (right_nodes hr).2.1
  have he : ordP l = (runP l).2 := (visit_same (nth l) l.length hac l.length (l.length - 1) l.length none_ none_ (by omega) (by omega) (fun _ _ => rfl)).1
  obtain ⟨⟨h1, h2⟩, _⟩ := visitD_inv (nth l) l.length hac (fun D (s : List Nat) => s.Nodup ∧ ∀ y ∈ s, y < l.length ∧ D y = true) (fun s x => s ++ [x]) (by
    rintro D s x hx ⟨h1, h2⟩ hD _
    refine ⟨?_, fun y hy => ?_⟩
    · rw [List.nodup_append]
      refine ⟨h1, by simp, ?_⟩
      rintro a ha b hb rfl
      have : a = x := by simpa using hb
      subst this
      rw [(h2 a ha).2] at hD
      cases hD
    · rcases List.mem_append.1 hy with hy | hy
      · refine ⟨(h2 y hy).1, ?_⟩
        by_cases e : y = x
        · rw [e, upd_same]
        · rw [upd_ne _ _ _ _ e]; exact (h2 y hy).2
      · have : y = x := by simpa using hy
        subst this
        exact ⟨hx, upd_same _ _ _⟩) l.length (l.length - 1) none_ [] (by omega) (by omega) ⟨List.nodup_nil, (fun y hy => by cases hy)⟩
  rw [fold_snoc, List.nil_append] at h1 h2
  have h1' : (ordP l).Nodup := by rw [he]; exact h1
  have h2' : ∀ x ∈ ordP l, x < l.length := by rw [he]; exact fun x hx => (h2 x hx).1
  refine ⟨h1', ?_, h2'⟩
  exact nodup_lt _ _ h1' h2'
theorem kidsI_right {l : List Nd} (hr : rightP l = true) : ∀ x, x < l.length → kidsI (nth l x) = (kids (nth l x)).map (fun c : Nat => (c : Int)) := by
  intro x hx
  obtain ⟨_, ha, hb, _⟩ := nodeOk_parts ((right_nodes hr).1 x hx)
  unfold kidsI kids
  by_cases h5 : (nth l x).kind = 5
  · rw [h5] at ha hb
    have ha' : 0 ≤ (nth l x).a := by simp [placeOk, belowN] at ha; omega
    have hb' : 0 ≤ (nth l x).b := by simp [placeOk, belowN] at hb; omega
    rw [if_pos h5, if_pos h5]
    simp
    omega
  · by_cases h6 : (nth l x).kind = 6
    · rw [h6] at ha
      have ha' : 0 ≤ (nth l x).a := by simp [placeOk, belowN] at ha; omega
      rw [if_neg h5, if_pos h6, if_neg h5, if_pos h6]
      simp
      omega
    · rw [if_neg h5, if_neg h6, if_neg h5, if_neg h6]
      rfl
/-- Used: nothing of what is not right -/
def usedP (l : List Nd) : List Nat := if rightP l = true then ordP l else []
set_option maxHeartbeats 1000000 in
theorem used_any (l : List Nd) (hok : ∀ n ∈ l, n.ok) (hll : l.length ≤ 1000000000000) (v : Value) (w : World) (hn : NArg w w.heap.size v l) :
    Calls Try.prog 9 #[v] w (RowPost w (usedP l)) := by
  have hrt := right_any w.heap.size v l hok hll w hn.read (Nat.le_refl _)
  obtain ⟨A, c, rfl⟩ := hn.form
  have HRT := Lib.hid hrt
  have HN := Lib.hid hn
  have HOK := Lib.hid hok
  clear hrt hn hok
  unfold usedP
  cases hr : rightP l with
  | false =>
    rw [hr] at HRT
    rw [if_neg (by simp)]
    go_enter Try.func9, Try.ntmps9
    go_wp2_with fail
    refine HRT.out.mono ?_
    rintro e w' ⟨rfl, hB⟩
    go_wp2_with fail
    go_ret
    exact ⟨_, rfl, World.ownsRow_nil _ _ _ _, hB⟩
  | true =>
    rw [hr] at HRT
    rw [if_pos rfl]
    obtain ⟨_, h0, h4⟩ := right_nodes hr
    have HR := Lib.hid hr
    clear hr
    go_enter Try.func9, Try.ntmps9
    go_wp2_with fail
    refine HRT.out.mono ?_
    rintro e w1 ⟨rfl, hB1⟩
    have HB1 := Lib.hid hB1
    clear hB1
    go_wp2_with fail
    refine (callsIn_wide.1 (needed_in 0 A l.length c w1)).mono ?_
    rintro e w2 ⟨rfl, hw2⟩
    have hB2 : Below w.heap.size w w2 := by rw [hw2]; exact HB1.out.alloc HB1.out.size _
    have hp : Boxed w2 w1.heap.size 22 (.slice A l.length c) := by rw [hw2]; exact Boxed.new _ _ _
    have hn2 : NArg w2 w2.heap.size (.slice A l.length c) l := (HN.out.ext hB2).mono hB2.size
    have hcl := collect_any l h0 h4 (right_ac HR.out) (kidsI_right HR.out) (by have := (ord_len HR.out).2.1; omega) w1.heap.size _ w2 hp hn2
    have HB2 := Lib.hid hB2
    have HCL := Lib.hid hcl
    clear hw2 hB2 hp hn2 hcl
    go_wp2_with fail
    refine HCL.out.mono ?_
    rintro e w3 ⟨v', rfl, ho, hB3⟩
    go_wp2_with fail
    go_ret
    exact ⟨v', rfl, ho.mono HB2.out.size, HB2.out.trans (hB3.mono HB2.out.size)⟩
end Go.Proofs.Ytlhdabpoljoobaa.flatw
