/- The plain mathematics of layer 15 (lex): what the tokens of a list of bytes are. No program in sight. No conditions. -/
import Derived.Test.YtcbgkbidgpemfaaGreatDoorProg
import Derived.WalkKit
import Derived.Shelf.Strconv.Itoa0
import Derived.Shelf.Strconv.Itoa1
import Derived.Shelf.Strconv.Itoa2
import Derived.Shelf.Strconv.Itoa3
import Derived.Shelf.LaysM
import Derived.Shelf.Bits.Mul64
import Derived.Shelf.Strings.OnBuilder
import Derived.Shelf.Strings.BuilderK
import Derived.Shelf.Strconv.Atoi
import Derived.Shelf.Strings.Cut
import Derived.Shelf.Strings.Split
import Derived.Shelf.Strings.Replace
import Derived.Shelf.Strings.Repeat
import Derived.Shelf.Small.Wraps
import Derived.Shelf.Strconv.Clone
import Derived.Shelf.Strconv.SyntaxError
import Derived.Shelf.LaysC
import Derived.Shelf.Strconv.ToError
import Derived.Shelf.Strconv.Lower
import Derived.Shelf.Strconv.RangeError
import Derived.Shelf.Strconv.ToErrorRange
import Derived.Shelf.Strings.Prefix
import Derived.Shelf.Strings.Builder1
import Derived.Shelf.Strings.Builder2
import Derived.Shelf.Small.Strs
import Derived.Shelf.Strings.BuilderF
import Derived.Shelf.Strings.Search1
import Derived.Shelf.Strings.Search2
import Derived.Shelf.Strings.Search3
import Derived.Shelf.Strings.Shaped
namespace Go.Proofs.YtcbgkbidgpemfaaGreatDoor.lexm

/-- a letter -/
def ltrI (c : Int) : Bool := (decide (65 ≤ c) && decide (c ≤ 90)) || (decide (97 ≤ c) && decide (c ≤ 122)) || c == 95
/-- a digit -/
def digI (c : Int) : Bool := decide (48 ≤ c) && decide (c ≤ 57)
/-- a byte of a word -/
def namI (c : Int) : Bool := ltrI c || digI c
/-- a byte of a number -/
def numI (c : Int) : Bool := (!(c == 95) && namI c) || c == 45 || c == 43 || c == 46
/-- a byte of a remark -/
def remI (c : Int) : Bool := !(c == 10)

/-- how many bytes a text begins with that may be -/
def runL (p : Int → Bool) : List UInt8 → Nat
  | [] => 0
  | c :: r => if p c.toNat then runL p r + 1 else 0

theorem runL_le (p : Int → Bool) (l : List UInt8) : runL p l ≤ l.length := by
  induction l with
  | nil => simp [runL]
  | cons c r ih => simp only [runL, List.length_cons]; split <;> omega

theorem runL_pos {p : Int → Bool} {c : UInt8} {r : List UInt8} (h : p c.toNat = true) : runL p (c :: r) = runL p r + 1 := by simp [runL, h]
theorem runL_neg {p : Int → Bool} {c : UInt8} {r : List UInt8} (h : p c.toNat = false) : runL p (c :: r) = 0 := by simp [runL, h]

/-- what a text begins with: a kind (0: nothing), how many bytes, and whether it may be -/
def firstL : List UInt8 → Nat × Nat × Bool
  | [] => (0, 0, false)
  | c :: r =>
    if c.toNat = 32 then (0, 1, true)
    else if c.toNat = 35 then (0, runL remI (c :: r), true)
    else if c.toNat = 10 then (4, 1, true)
    else if c.toNat = 61 then (3, 1, true)
    else if ltrI c.toNat = true then (1, runL namI (c :: r), decide (runL namI (c :: r) ≤ 32))
    else if (digI c.toNat || (c.toNat : Int) == 45 || (c.toNat : Int) == 46) = true then (2, runL numI (c :: r), decide (runL numI (c :: r) ≤ 40))
    else (0, 0, false)

theorem firstL_le (l : List UInt8) : (firstL l).2.1 ≤ l.length := by
  cases l with
  | nil => simp [firstL]
  | cons c r =>
    have h1 := runL_le remI (c :: r)
    have h2 := runL_le namI (c :: r)
    have h3 := runL_le numI (c :: r)
    simp only [List.length_cons] at *
    simp only [firstL]
    repeat' split
    all_goals simp only
    all_goals omega

theorem firstL_kind (l : List UInt8) : (firstL l).1 ≤ 4 := by
  cases l with
  | nil => simp [firstL]
  | cons c r =>
    unfold firstL
    repeat' split
    all_goals simp only
    all_goals omega

theorem ltr_nam {c : Int} (h : ltrI c = true) : namI c = true := by simp [namI, h]
theorem dig_num {c : Int} (h : (digI c || c == 45 || c == 46) = true) : numI c = true := by
  simp only [Bool.or_eq_true, beq_iff_eq] at h
  rcases h with (h | h) | h
  · have h2 := h
    simp only [digI, Bool.and_eq_true, decide_eq_true_eq] at h2
    have h3 : ¬ c = 95 := by omega
    simp [numI, namI, h, h3]
  · simp [numI, h]
  · simp [numI, h]

/-- what is there takes a byte at least -/
theorem firstL_pos {l : List UInt8} (hl : l ≠ []) (h : (firstL l).2.2 = true ∨ (firstL l).1 ≠ 0) : 1 ≤ (firstL l).2.1 := by
  cases l with
  | nil => exact absurd rfl hl
  | cons c r =>
    simp only [firstL] at h ⊢
    split at h
    · simp [*]
    · rename_i h32
      rw [if_neg h32]
      split at h
      · rename_i h35
        rw [if_pos h35, runL_pos (by simp [remI, h35])]
        simp
      · rename_i h35
        rw [if_neg h35]
        split at h
        · simp [*]
        · rename_i h10
          rw [if_neg h10]
          split at h
          · simp [*]
          · rename_i h61
            rw [if_neg h61]
            split at h
            · rename_i hlt
              rw [if_pos hlt, runL_pos (ltr_nam hlt)]
              simp
            · rename_i hlt
              rw [if_neg hlt]
              split at h
              · rename_i hd
                rw [if_pos hd, runL_pos (dig_num hd)]
                simp
              · simp at h

/-- a token -/
structure Tok where
  kind : Nat
  pos : Nat
  text : List UInt8
deriving DecidableEq

def Tok.cells (t : Tok) : List Value := [.int .u8 t.kind, .int .i64 t.pos, .string ⟨t.text.toArray⟩]
def Tok.val (t : Tok) : Value := .agg #[.int .u8 t.kind, .int .i64 t.pos, .string ⟨t.text.toArray⟩]
def cellsOf (ts : List Tok) : List Value := ts.flatMap Tok.cells

theorem cellsOf_length (ts : List Tok) : (cellsOf ts).length = ts.length * 3 := by
  induction ts with
  | nil => rfl
  | cons t r ih => simp only [cellsOf, List.flatMap_cons, List.length_append, List.length_cons] at *; rw [ih]; simp [Tok.cells]; omega

theorem cellsOf_snoc (ts : List Tok) (t : Tok) : cellsOf (ts ++ [t]) = cellsOf ts ++ t.cells := by simp [cellsOf]

/-- the tokens from place 'at' on, the last one's kind being 'last': each with true; or, at an error, with false as the last one -/
def lexG : Nat → List UInt8 → Nat → Nat → List (Tok × Bool)
  | _, [], i, last => if last = 4 then [] else [(⟨4, i, []⟩, true)]
  | 0, _ :: _, _, _ => []
  | f + 1, c :: r, i, last =>
    match firstL (c :: r) with
    | (k, n, true) => if k = 0 then lexG f ((c :: r).drop n) (i + n) last else (⟨k, i, (c :: r).take n⟩, true) :: lexG f ((c :: r).drop n) (i + n) k
    | (k, n, false) => [(⟨k, i, (c :: r).take n⟩, false)]

theorem lexG_more : ∀ (f g : Nat) (l : List UInt8) (i last : Nat), l.length ≤ f → l.length ≤ g → lexG f l i last = lexG g l i last := by
  intro f
  induction f with
  | zero =>
    intro g l i last hf hg
    obtain rfl : l = [] := List.eq_nil_of_length_eq_zero (by omega)
    cases g <;> rfl
  | succ f ih =>
    intro g l i last hf hg
    cases l with
    | nil => cases g <;> rfl
    | cons c r =>
      cases g with
      | zero => simp at hg
      | succ g =>
        have hp := firstL_pos (l := c :: r) (by simp)
        unfold lexG
        generalize firstL (c :: r) = q at *
        obtain ⟨k, n, b⟩ := q
        cases b with
        | false => rfl
        | true =>
          have hn : 1 ≤ n := hp (.inl rfl)
          have hd : ((c :: r).drop n).length ≤ f := by rw [List.length_drop]; omega
          have hd' : ((c :: r).drop n).length ≤ g := by rw [List.length_drop]; omega
          simp only
          rw [ih g _ _ last hd hd', ih g _ _ k hd hd']

def lexT (l : List UInt8) (i last : Nat) : List (Tok × Bool) := lexG l.length l i last

theorem lexT_nil (i last : Nat) : lexT [] i last = if last = 4 then [] else [(⟨4, i, []⟩, true)] := rfl
theorem lexT_skip {l : List UInt8} {n i last : Nat} (hl : l ≠ []) (h : firstL l = (0, n, true)) : lexT l i last = lexT (l.drop n) (i + n) last := by
  cases l with
  | nil => exact absurd rfl hl
  | cons c r =>
    have hn : 1 ≤ n := by have := firstL_pos (l := c :: r) (by simp) (.inl (by rw [h])); rwa [h] at this
    unfold lexT
    rw [List.length_cons]
    conv => lhs; unfold lexG
    rw [h]
    simp only [if_true]
    exact lexG_more _ _ _ _ _ (by rw [List.length_drop, List.length_cons]; omega) (Nat.le_refl _)
theorem lexT_tok {l : List UInt8} {k n i last : Nat} (hl : l ≠ []) (h : firstL l = (k, n, true)) (hk : k ≠ 0) : lexT l i last = (⟨k, i, l.take n⟩, true) :: lexT (l.drop n) (i + n) k := by
  cases l with
  | nil => exact absurd rfl hl
  | cons c r =>
    have hn : 1 ≤ n := by have := firstL_pos (l := c :: r) (by simp) (.inl (by rw [h])); rwa [h] at this
    unfold lexT
    rw [List.length_cons]
    conv => lhs; unfold lexG
    rw [h]
    simp only [if_neg hk]
    rw [lexG_more r.length _ _ _ k (by rw [List.length_drop, List.length_cons]; omega) (Nat.le_refl _)]
theorem lexT_bad {l : List UInt8} {k n i last : Nat} (hl : l ≠ []) (h : firstL l = (k, n, false)) : lexT l i last = [(⟨k, i, l.take n⟩, false)] := by
  cases l with
  | nil => exact absurd rfl hl
  | cons c r =>
    unfold lexT
    rw [List.length_cons]
    conv => lhs; unfold lexG
    rw [h]

/-- the place of the first error -/
def errOf : List (Tok × Bool) → Option Nat
  | [] => none
  | (_, true) :: r => errOf r
  | (t, false) :: _ => some t.pos
/-- the tokens ahead of the first error -/
def toksOf : List (Tok × Bool) → List Tok
  | [] => []
  | (t, true) :: r => t :: toksOf r
  | (_, false) :: _ => []

theorem errOf_app (ts : List Tok) (r : List (Tok × Bool)) : errOf (ts.map (fun t => (t, true)) ++ r) = errOf r := by
  induction ts with
  | nil => rfl
  | cons t ts ih => simpa [errOf] using ih
theorem toksOf_app (ts : List Tok) (r : List (Tok × Bool)) : toksOf (ts.map (fun t => (t, true)) ++ r) = ts ++ toksOf r := by
  induction ts with
  | nil => rfl
  | cons t ts ih => simpa [toksOf] using ih

/-- what Lex answers: the tokens, the place, the error -/
def lexRes (l : List UInt8) : List Tok × Nat × Nat :=
  if 1048576 < l.length then ([], 1048576, 151)
  else match errOf (lexT l 0 4) with
    | some i => ([], i, 150)
    | none => (toksOf (lexT l 0 4), 0, 0)

end Go.Proofs.YtcbgkbidgpemfaaGreatDoor.lexm

/- Contracts of library functions, laid by the shelf of the kit for this translation, in plain words. Conditions: as each theorem states. -/
namespace Go.Proofs
open Go.Shelf
def Tryz.lays129_ren : Go.Shelf.Ren := ⟨fun | 129 => 186 | n => n, fun | 53 => 109 | 3 => 3 | 4 => 4 | 46 => 191 | 5 => 5 | 9 => 9 | n => n, fun | n => n⟩
theorem Tryz.lays129 : Go.Proofs.Lays.n129 Tryz.prog Tryz.lays129_ren := {
  mixed := by kernel_rfl
  f129 := Tryz.func186.trans (congrArg some (by kernel_rfl))
  t3 := Tryz.underlying3
  a3 := Tryz.isAgg3
  z3 := Tryz.sizeOf3
  v3 := Tryz.zeroValue3
  t4 := Tryz.underlying4
  a4 := Tryz.isAgg4
  z4 := Tryz.sizeOf4
  v4 := Tryz.zeroValue4
  t5 := Tryz.underlying5
  a5 := Tryz.isAgg5
  z5 := Tryz.sizeOf5
  v5 := Tryz.zeroValue5
  t9 := Tryz.underlying9
  a9 := Tryz.isAgg9
  z9 := Tryz.sizeOf9
  v9 := Tryz.zeroValue9
  t46 := Tryz.underlying191
  a46 := Tryz.isAgg191
  z46 := Tryz.sizeOf191
  v46 := Tryz.zeroValue191
  t53 := Tryz.underlying109
  a53 := Tryz.isAgg109
  z53 := Tryz.sizeOf109
  v53 := Tryz.zeroValue109 }
theorem Tryz.bits_Len64 (x : Int) (w : World) (h0 : 0 ≤ x) (h1 : x ≤ 18446744073709551615) :
    Calls Tryz.prog 186 #[.int .u64 x] w fun e w' => e = .returned (.int .i64 (Lib.bitLen x.toNat)) ∧ w' = w := Any.bits_Len64 Tryz.lays129 x w h0 h1
def Tryz.lays264_ren : Go.Shelf.Ren := ⟨fun | 264 => 199 | n => n, fun | 53 => 109 | 46 => 191 | n => n, fun | n => n⟩
theorem Tryz.lays264 : Go.Proofs.Lays.n264 Tryz.prog Tryz.lays264_ren := {
  mixed := by kernel_rfl
  f264 := Tryz.func199.trans (congrArg some (by kernel_rfl))
  t46 := Tryz.underlying191
  a46 := Tryz.isAgg191
  z46 := Tryz.sizeOf191
  v46 := Tryz.zeroValue191
  t53 := Tryz.underlying109
  a53 := Tryz.isAgg109
  z53 := Tryz.sizeOf109
  v53 := Tryz.zeroValue109 }
open Go.RowKit Go.Lib in
theorem Tryz.bits_Mul64 (x y : Nat) (hx : x < 18446744073709551616) (hy : y < 18446744073709551616) (w : World) :
    Calls Tryz.prog 199 #[.int .u64 x, .int .u64 y] w fun e w' => e = .returned (.tuple #[.int .u64 ((x * y / 18446744073709551616 : Nat) : Int), .int .u64 ((x * y % 18446744073709551616 : Nat) : Int)]) ∧ w' = w := Any.bits_Mul64 Tryz.lays264 x y hx hy w
def Tryz.lays103_ren : Go.Shelf.Ren := ⟨fun | 103 => 163 | 210 => 202 | 206 => 200 | n => n, fun | 9 => 9 | 4 => 4 | 24 => 203 | 3 => 3 | n => n, fun | n => n⟩
theorem Tryz.lays103 : Go.Proofs.Lays.n103 Tryz.prog Tryz.lays103_ren := {
  mixed := by kernel_rfl
  f103 := Tryz.func163.trans (congrArg some (by kernel_rfl))
  f206 := Tryz.func200.trans (congrArg some (by kernel_rfl))
  f210 := Tryz.func202.trans (congrArg some (by kernel_rfl))
  t3 := Tryz.underlying3
  a3 := Tryz.isAgg3
  z3 := Tryz.sizeOf3
  v3 := Tryz.zeroValue3
  t4 := Tryz.underlying4
  a4 := Tryz.isAgg4
  z4 := Tryz.sizeOf4
  v4 := Tryz.zeroValue4
  t9 := Tryz.underlying9
  a9 := Tryz.isAgg9
  z9 := Tryz.sizeOf9
  v9 := Tryz.zeroValue9
  t24 := Tryz.underlying203
  a24 := Tryz.isAgg203
  z24 := Tryz.sizeOf203
  v24 := Tryz.zeroValue203 }
open Go.RowKit in
theorem Tryz.strings_CutPrefix (s p : ByteArray) (w : World) :
    Calls Tryz.prog 163 #[.string s, .string p] w fun e w' => e = .returned (.tuple #[.string ⟨(Lib.trimPrefix s.data.toList p.data.toList).toArray⟩, .bool (Lib.hasPrefix s.data.toList p.data.toList)]) ∧ w' = w := Any.strings_CutPrefix Tryz.lays103 s p w
def Tryz.laysC245_ren : Go.Shelf.Ren := ⟨fun | 245 => 117 | 279 => 146 | 280 => 147 | 281 => 148 | 282 => 149 | 316 => 196 | 171 => 79 | 205 => 197 | 243 => 109 | 246 => 141 | 283 => 174 | 284 => 175 | 285 => 176 | 286 => 177 | 129 => 186 | 317 => 189 | 318 => 211 | 319 => 212 | 320 => 213 | 337 => 238 | 338 => 239 | n => n, fun | 9 => 9 | 3 => 3 | 75 => 96 | 167 => 185 | 4 => 4 | 168 => 188 | 210 => 236 | 37 => 92 | 0 => 0 | 127 => 145 | 145 => 271 | 143 => 269 | 2 => 2 | 171 => 213 | 53 => 109 | 5 => 5 | 173 => 216 | 212 => 250 | 51 => 219 | 20 => 20 | 213 => 251 | 46 => 191 | 232 => 224 | 233 => 303 | 80 => 99 | n => n, fun | 15 => 3 | 16 => 4 | 17 => 7 | 18 => 12 | 19 => 13 | n => n⟩
theorem Tryz.laysC245 : Go.Proofs.LaysC.n245 Tryz.prog Tryz.laysC245_ren := {
  mixed := by kernel_rfl
  f129 := Tryz.func186.trans (congrArg some (by kernel_rfl))
  f171 := Tryz.func79.trans (congrArg some (by kernel_rfl))
  f205 := Tryz.func197.trans (congrArg some (by kernel_rfl))
  f243 := Tryz.func109.trans (congrArg some (by kernel_rfl))
  f245 := Tryz.func117.trans (congrArg some (by kernel_rfl))
  f246 := Tryz.func141.trans (congrArg some (by kernel_rfl))
  f279 := Tryz.func146.trans (congrArg some (by kernel_rfl))
  f280 := Tryz.func147.trans (congrArg some (by kernel_rfl))
  f281 := Tryz.func148.trans (congrArg some (by kernel_rfl))
  f282 := Tryz.func149.trans (congrArg some (by kernel_rfl))
  f283 := Tryz.func174.trans (congrArg some (by kernel_rfl))
  f284 := Tryz.func175.trans (congrArg some (by kernel_rfl))
  f285 := Tryz.func176.trans (congrArg some (by kernel_rfl))
  f286 := Tryz.func177.trans (congrArg some (by kernel_rfl))
  f316 := Tryz.func196.trans (congrArg some (by kernel_rfl))
  f317 := Tryz.func189.trans (congrArg some (by kernel_rfl))
  f318 := Tryz.func211.trans (congrArg some (by kernel_rfl))
  f319 := Tryz.func212.trans (congrArg some (by kernel_rfl))
  f320 := Tryz.func213.trans (congrArg some (by kernel_rfl))
  f337 := Tryz.func238.trans (congrArg some (by kernel_rfl))
  f338 := Tryz.func239.trans (congrArg some (by kernel_rfl))
  t0 := Tryz.underlying0
  a0 := Tryz.isAgg0
  z0 := Tryz.sizeOf0
  v0 := Tryz.zeroValue0
  t2 := Tryz.underlying2
  a2 := Tryz.isAgg2
  z2 := Tryz.sizeOf2
  v2 := Tryz.zeroValue2
  t3 := Tryz.underlying3
  a3 := Tryz.isAgg3
  z3 := Tryz.sizeOf3
  v3 := Tryz.zeroValue3
  t4 := Tryz.underlying4
  a4 := Tryz.isAgg4
  z4 := Tryz.sizeOf4
  v4 := Tryz.zeroValue4
  t5 := Tryz.underlying5
  a5 := Tryz.isAgg5
  z5 := Tryz.sizeOf5
  v5 := Tryz.zeroValue5
  t9 := Tryz.underlying9
  a9 := Tryz.isAgg9
  z9 := Tryz.sizeOf9
  v9 := Tryz.zeroValue9
  t20 := Tryz.underlying20
  a20 := Tryz.isAgg20
  z20 := Tryz.sizeOf20
  v20 := Tryz.zeroValue20
  t37 := Tryz.underlying92
  a37 := Tryz.isAgg92
  z37 := Tryz.sizeOf92
  v37 := Tryz.zeroValue92
  t46 := Tryz.underlying191
  a46 := Tryz.isAgg191
  z46 := Tryz.sizeOf191
  v46 := Tryz.zeroValue191
  t51 := Tryz.underlying219
  a51 := Tryz.isAgg219
  z51 := Tryz.sizeOf219
  v51 := Tryz.zeroValue219
  t53 := Tryz.underlying109
  a53 := Tryz.isAgg109
  z53 := Tryz.sizeOf109
  v53 := Tryz.zeroValue109
  t75 := Tryz.underlying96
  a75 := Tryz.isAgg96
  z75 := Tryz.sizeOf96
  v75 := Tryz.zeroValue96
  t127 := Tryz.underlying145
  a127 := Tryz.isAgg145
  z127 := Tryz.sizeOf145
  v127 := Tryz.zeroValue145
  t143 := Tryz.underlying269
  a143 := Tryz.isAgg269
  z143 := Tryz.sizeOf269
  v143 := Tryz.zeroValue269
  t145 := Tryz.underlying271
  a145 := Tryz.isAgg271
  z145 := Tryz.sizeOf271
  v145 := Tryz.zeroValue271
  t167 := Tryz.underlying185
  a167 := Tryz.isAgg185
  z167 := Tryz.sizeOf185
  v167 := Tryz.zeroValue185
  t168 := Tryz.underlying188
  a168 := Tryz.isAgg188
  z168 := Tryz.sizeOf188
  v168 := Tryz.zeroValue188
  t171 := Tryz.underlying213
  a171 := Tryz.isAgg213
  z171 := Tryz.sizeOf213
  v171 := Tryz.zeroValue213
  t173 := Tryz.underlying216
  a173 := Tryz.isAgg216
  z173 := Tryz.sizeOf216
  v173 := Tryz.zeroValue216
  t210 := Tryz.underlying236
  a210 := Tryz.isAgg236
  z210 := Tryz.sizeOf236
  v210 := Tryz.zeroValue236
  t212 := Tryz.underlying250
  a212 := Tryz.isAgg250
  z212 := Tryz.sizeOf250
  v212 := Tryz.zeroValue250
  t213 := Tryz.underlying251
  a213 := Tryz.isAgg251
  z213 := Tryz.sizeOf251
  t232 := Tryz.underlying224
  a232 := Tryz.isAgg224
  z232 := Tryz.sizeOf224
  v232 := Tryz.zeroValue224
  t233 := Tryz.underlying303
  a233 := Tryz.isAgg303
  z233 := Tryz.sizeOf303
  v233 := Tryz.zeroValue303
  g15 := by kernel_rfl
  g16 := by kernel_rfl
  g17 := by kernel_rfl
  g18 := by kernel_rfl
  g19 := by kernel_rfl
  t80 := Tryz.underlying99
  a80 := Tryz.isAgg99
  z80 := Tryz.sizeOf99
  v80 := Tryz.zeroValue99
  i0 := by kernel_rfl
  i2 := by kernel_rfl
  i3 := by kernel_rfl
  i4 := by kernel_rfl
  i5 := by kernel_rfl
  i9 := by kernel_rfl
  i20 := by kernel_rfl
  i37 := by kernel_rfl
  i46 := by kernel_rfl
  i51 := by kernel_rfl
  i53 := by kernel_rfl
  i75 := by kernel_rfl
  i80 := by kernel_rfl
  i127 := by kernel_rfl
  i143 := by kernel_rfl
  i145 := by kernel_rfl
  i167 := by kernel_rfl
  i168 := by kernel_rfl
  i171 := by kernel_rfl
  i173 := by kernel_rfl
  i210 := by kernel_rfl
  i212 := by kernel_rfl
  i232 := by kernel_rfl
  i233 := by kernel_rfl
  m15 := by kernel_rfl
  m16 := by kernel_rfl
  m17 := by kernel_rfl
  m18 := by kernel_rfl
  m19 := by kernel_rfl
  c0 := by kernel_rfl
  c2 := by kernel_rfl
  c3 := by kernel_rfl
  c4 := by kernel_rfl
  c5 := by kernel_rfl
  c9 := by kernel_rfl
  c20 := by kernel_rfl
  c37 := by kernel_rfl
  c46 := by kernel_rfl
  c51 := by kernel_rfl
  c53 := by kernel_rfl
  c75 := by kernel_rfl
  c80 := by kernel_rfl
  c127 := by kernel_rfl
  c143 := by kernel_rfl
  c145 := by kernel_rfl
  c167 := by kernel_rfl
  c168 := by kernel_rfl
  c171 := by kernel_rfl
  c173 := by kernel_rfl
  c210 := by kernel_rfl
  c212 := by kernel_rfl
  c213 := by kernel_rfl
  c232 := by kernel_rfl
  c233 := by kernel_rfl }
def Tryz.lays321_ren : Go.Shelf.Ren := ⟨fun | 321 => 217 | n => n, fun | 5 => 5 | n => n, fun | n => n⟩
theorem Tryz.lays321 : Go.Proofs.Lays.n321 Tryz.prog Tryz.lays321_ren := {
  mixed := by kernel_rfl
  f321 := Tryz.func217.trans (congrArg some (by kernel_rfl))
  t5 := Tryz.underlying5
  a5 := Tryz.isAgg5
  z5 := Tryz.sizeOf5
  v5 := Tryz.zeroValue5 }
open Go.RowKit in
theorem Tryz.internal_strconv_lower (c : Int) (w : World) :
    Calls Tryz.prog 217 #[.int .u8 c] w fun e w' => e = .returned (.int .u8 (bits .or .u8 c 32)) ∧ w' = w := Any.internal_strconv_lower Tryz.lays321 c w
open Go.RowKit in
theorem Tryz.strconv_toError_range (fn s : ByteArray) (base bits : Int) (ev : Value) (w : World) (hlim : s.size ≤ 281474976710656) (hv : w.cell? ⟨4, 0, none⟩ = some ev) (hev : ev = .nilIface ∨ ∃ te pe, ev = .iface te pe) :
    Calls Tryz.prog 117 #[.string fn, .string s, .int .i64 base, .int .i64 bits, .iface 185 (.int .i64 1)] w fun e w' => ∃ N, e = .returned (.iface 188 (.pointer (some ⟨N, 0, none⟩))) ∧ w.heap.size ≤ N ∧ w'.heap[N]? = some (.cells #[.string fn, .string s, ev] 236 (0, 0)) ∧ Below w.heap.size w w' := Any.strconv_toError_range Tryz.laysC245 fn s base bits ev w hlim hv hev
def Tryz.lays101_ren : Go.Shelf.Ren := ⟨fun | 101 => 162 | 208 => 201 | 206 => 200 | n => n, fun | 9 => 9 | 4 => 4 | 3 => 3 | n => n, fun | n => n⟩
theorem Tryz.lays101 : Go.Proofs.Lays.n101 Tryz.prog Tryz.lays101_ren := {
  mixed := by kernel_rfl
  f101 := Tryz.func162.trans (congrArg some (by kernel_rfl))
  f206 := Tryz.func200.trans (congrArg some (by kernel_rfl))
  f208 := Tryz.func201.trans (congrArg some (by kernel_rfl))
  t3 := Tryz.underlying3
  a3 := Tryz.isAgg3
  z3 := Tryz.sizeOf3
  v3 := Tryz.zeroValue3
  t4 := Tryz.underlying4
  a4 := Tryz.isAgg4
  z4 := Tryz.sizeOf4
  v4 := Tryz.zeroValue4
  t9 := Tryz.underlying9
  a9 := Tryz.isAgg9
  z9 := Tryz.sizeOf9
  v9 := Tryz.zeroValue9 }
open Go.RowKit Go.Lib in
theorem Tryz.strings_TrimPrefix (s p : ByteArray) (w : World) :
    Calls Tryz.prog 162 #[.string s, .string p] w fun e w' => e = .returned (.string ⟨(Lib.trimPrefix s.data.toList p.data.toList).toArray⟩) ∧ w' = w := Any.strings_TrimPrefix Tryz.lays101 s p w
end Go.Proofs

/- The contracts of library functions: in ShfP. -/

