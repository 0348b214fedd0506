/- The walks of burnishref18's find, beyond, three, and of burnishref17's Word and Kind. Conditions: as each theorem states. -/
import Derived.Test.YtgblgolkajdfbaaGreatDoorRfA
import Derived.Test.YtgblgolkajdfbaaGreatDoorFstA
namespace Go.Proofs.YtgblgolkajdfbaaGreatDoor.chkw
open Go.RowKit
open Go.Proofs.YtgblgolkajdfbaaGreatDoor.lexw
open Go.Proofs.YtgblgolkajdfbaaGreatDoor.parw
open Go.Proofs.YtgblgolkajdfbaaGreatDoor.nodew
open Go.Proofs.YtgblgolkajdfbaaGreatDoor.qt
open Go.BigFrame
attribute [local go_sem] parw.run_store_float

/-! the first statement of a name -/
def nameAt (l : List PStmt) (i : Nat) : ByteArray := (l[i]?.map (·.name)).getD ⟨#[]⟩
def entsOf (l : List PStmt) (k : Nat) : List (ByteArray × Nat) := (List.range k).map fun i => (nameAt l i, i)
theorem nameAt_lt (l : List PStmt) (i : Nat) (h : i < l.length) : nameAt l i = l[i].name := by simp [nameAt, h]
theorem entsOf_succ (l : List PStmt) (k : Nat) : entsOf l (k + 1) = entsOf l k ++ [(nameAt l k, k)] := by simp [entsOf, List.range_succ]
theorem lookE_none (ents : List (ByteArray × Nat)) (nm : ByteArray) (h : ∀ p ∈ ents, p.1 ≠ nm) : lookE ents nm = none := by
  unfold lookE
  rw [List.find?_eq_none.2]
  · rfl
  · intro p hp hb
    exact h p hp ((ba_beq' nm p.1).1 hb).symm
where
  ba_beq' (a b : ByteArray) : (a == b) = true ↔ a = b := by
    obtain ⟨a⟩ := a
    obtain ⟨b⟩ := b
    show (a == b) = true ↔ _
    rw [beq_iff_eq]
    simp
theorem look_none (l : List PStmt) (k : Nat) (nm : ByteArray) (h : ∀ i, i < k → nameAt l i ≠ nm) : lookE (entsOf l k) nm = none :=
  lookE_none _ _ fun p hp => by
    unfold entsOf at hp
    obtain ⟨i, hi, rfl⟩ := List.mem_map.1 hp
    exact h i (List.mem_range.1 hi)
theorem lookE_app (a b : List (ByteArray × Nat)) (nm : ByteArray) : lookE (a ++ b) nm = (lookE a nm).or (lookE b nm) := by
  unfold lookE
  rw [List.find?_append]
  cases List.find? (fun p => nm == p.1) a <;> rfl
theorem look_some (l : List PStmt) (nm : ByteArray) (j : Nat) (hj : nameAt l j = nm) (h : ∀ i, i < j → nameAt l i ≠ nm) : ∀ k, j < k → lookE (entsOf l k) nm = some j
  | 0, hk => by omega
  | k + 1, hk => by
    rw [entsOf_succ, lookE_app]
    by_cases e : j = k
    · subst e
      rw [look_none l j nm h, hj]
      unfold lookE
      rw [List.find?_cons_of_pos (by exact (lookE_none.ba_beq' nm nm).2 rfl)]
      rfl
    · rw [look_some l nm j hj h k (by omega)]
      rfl
def findI (ents : List (ByteArray × Nat)) (nm : ByteArray) : Int := match lookE ents nm with | none => -1 | some p => (p : Int)

set_option maxHeartbeats 1000000 in
theorem find_ref (B : Nat) (v : Value) (l : List PStmt) (k : Nat) (hk : k ≤ l.length) (hl : l.length ≤ 1000000000000) (nm : ByteArray) (w : World) (hr : SR w B v l) :
    Calls Tryz.prog 24 #[v, .int .i64 k, .string nm] w fun e w' => e = .returned (.int .i64 (findI (entsOf l k) nm)) ∧ w' = w := by
  obtain ⟨vs, A, c, hvl, rfl, hx, -⟩ := hr
  have HX := Lib.hid hx
  have HVL := Lib.hid hvl
  clear hx hvl
  go_enter Tryz.func24, Tryz.ntmps24
  go_wp2_with fail
  go_loop [7] (fun i => ∃ j : Nat, j ≤ k ∧ i = .int .i64 j ∧ ∀ i, i < j → nameAt l i ≠ nm) (fun i => k - (intOf i).toNat)
  case atStart => exact ⟨0, Nat.zero_le _, rfl, fun i h => by omega⟩
  case round =>
    obtain ⟨j, hj, rfl, hno⟩ := hrel
    by_cases hjk : j < k
    · have hjl : j < l.length := by omega
      obtain ⟨g, off, rfl, -, hcell⟩ := HX.out (by intro e; subst e; simp at hjl)
      have c0 : w.cell? ⟨g, off + j * 4, none⟩ = some (.string (nameAt l j)) := by
        have := hcell (j * 4 + 0) _ ((scells_get l vs j 0 (by rw [HVL.out]; exact hjl) hjl (by omega) HVL.out).trans rfl)
        rw [nameAt_lt l j hjl]
        rwa [Nat.add_zero] at this
      have hj0 : (0 : Int) ≤ (j : Int) := by omega
      have hjk' : (j : Int) < (k : Int) := by omega
      have hjl' : (j : Int) < (l.length : Int) := by omega
      obtain ⟨nj, hnj⟩ : ∃ nj, nameAt l j = nj := ⟨_, rfl⟩
      rw [hnj] at c0
      have HNO := Lib.hid hno
      clear hcell hno
      by_cases he : nj = nm
      · have hf : findI (entsOf l k) nm = j := by unfold findI; rw [look_some l nm j (hnj.trans he) HNO.out k hjk]
        have HF := Lib.hid hf
        have hb := sbeq_self nm
        subst he
        clear hf hnj
        go_wp2_with fail
        go_ret
        exact ⟨ret_int HF.out.symm, rfl⟩
      · have hb := sbeq he
        have HNE := Lib.hid (show nameAt l j ≠ nm by rw [hnj]; exact he)
        clear hnj he
        go_wp2_with fail
        go_round
        case rel => exact ⟨j + 1, by omega, by go_num, fun i hi => by
          by_cases e : i = j
          · rw [e]; exact HNE.out
          · exact HNO.out i (by omega)⟩
        case measure => simp [intOf]; omega
    · obtain rfl : j = k := by omega
      have hf : findI (entsOf l j) nm = -1 := by unfold findI; rw [look_none l j nm hno]
      have HF := Lib.hid hf
      clear hf hno
      go_wp2_with fail
      go_ret
      exact ⟨ret_int HF.out.symm, rfl⟩

/-! the words of the kinds -/
def wordR (k : Nat) : ByteArray := if k = 1 then wd1 else if k = 2 then wd2 else if k = 3 then wd3 else if k = 4 then wd4 else if k = 5 then wd5 else if k = 6 then wd6 else ⟨#[]⟩
theorem word_ref (k : Nat) (hk : 1 ≤ k ∧ k ≤ 6) (w : World) : Calls Tryz.prog 43 #[.int .u8 k] w fun e w' => e = .returned (.string (wordR k)) ∧ w' = w := by
  have : k = 1 ∨ k = 2 ∨ k = 3 ∨ k = 4 ∨ k = 5 ∨ k = 6 := by omega
  rcases this with rfl | rfl | rfl | rfl | rfl | rfl
  all_goals
    go_enter Tryz.func43, Tryz.ntmps43
    go_wp2
    go_ret
    exact ⟨rfl, rfl⟩
theorem kindF_word (s : ByteArray) (k : Nat) (h1 : 1 ≤ k) (h6 : k ≤ 6) (hs : wordR k = s) (hn : ∀ j, 1 ≤ j → j < k → wordR j ≠ s) : kindF s = k := by
  subst hs
  have : k = 1 ∨ k = 2 ∨ k = 3 ∨ k = 4 ∨ k = 5 ∨ k = 6 := by omega
  rcases this with rfl | rfl | rfl | rfl | rfl | rfl <;> decide +kernel
theorem kindF_none (s : ByteArray) (hn : ∀ j, 1 ≤ j → j ≤ 6 → wordR j ≠ s) : kindF s = 0 := by
  unfold kindF
  rw [if_neg (fun e => hn 1 (by omega) (by omega) e.symm), if_neg (fun e => hn 2 (by omega) (by omega) e.symm), if_neg (fun e => hn 3 (by omega) (by omega) e.symm), if_neg (fun e => hn 4 (by omega) (by omega) e.symm), if_neg (fun e => hn 5 (by omega) (by omega) e.symm), if_neg (fun e => hn 6 (by omega) (by omega) e.symm)]
theorem kind_ref (s : ByteArray) (w : World) : Calls Tryz.prog 23 #[.string s] w fun e w' => e = .returned (.int .u8 (kindF s)) ∧ w' = w := by
  go_enter Tryz.func23, Tryz.ntmps23
  go_wp2_with fail
  go_loop [3] (fun i => ∃ k : Nat, 1 ≤ k ∧ k ≤ 7 ∧ i = .int .u8 k ∧ ∀ j, 1 ≤ j → j < k → wordR j ≠ s) (fun i => 7 - (intOf i).toNat)
  case atStart => exact ⟨1, by omega, by omega, rfl, fun j h1 h2 => by omega⟩
  case round =>
    obtain ⟨k, hk1, hk7, rfl, hno⟩ := hrel
    by_cases h6 : k ≤ 6
    · have h6' : (k : Int) ≤ 6 := by omega
      have hw := word_ref k ⟨hk1, h6⟩
      obtain ⟨wk, hwk⟩ : ∃ wk, wordR k = wk := ⟨_, rfl⟩
      rw [hwk] at hw
      have HNO := Lib.hid hno
      have HW := Lib.hid hw
      clear hno hw
      by_cases he : wk = s
      · have hf := kindF_word s k hk1 h6 (hwk.trans he) HNO.out
        have HF := Lib.hid hf
        have hb := sbeq_self s
        subst he
        clear hf hwk
        go_wp2_with fail
        refine (HW.out _).mono ?_
        rintro e u ⟨rfl, rfl⟩
        go_wp2_with fail
        go_ret
        exact ⟨ret_int (by rw [HF.out]), rfl⟩
      · have hb := sbeq he
        have HNE := Lib.hid (show wordR k ≠ s by rw [hwk]; exact he)
        clear he hwk
        go_wp2_with fail
        refine (HW.out _).mono ?_
        rintro e u ⟨rfl, rfl⟩
        go_wp2_with fail
        go_round
        case rel => exact ⟨k + 1, by omega, by omega, by go_num, fun j h1 h2 => by
          by_cases e : j = k
          · rw [e]; exact HNE.out
          · exact HNO.out j h1 (by omega)⟩
        case measure => simp [intOf]; omega
    · have h6' : ¬ (k : Int) ≤ 6 := by omega
      have hf := kindF_none s (fun j j1 j6 => hno j j1 (by omega))
      have HF := Lib.hid hf
      clear hf hno h6
      go_wp2_with fail
      go_ret
      exact ⟨ret_int (by rw [HF.out]; rfl), rfl⟩
end Go.Proofs.YtgblgolkajdfbaaGreatDoor.chkw
