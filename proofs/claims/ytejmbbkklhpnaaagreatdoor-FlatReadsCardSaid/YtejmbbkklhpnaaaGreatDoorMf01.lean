/- Small laws of worlds and of operations. No conditions but those stated. -/
import Derived.Test.YtejmbbkklhpnaaaGreatDoorProg
import Derived.Outline
import Derived.Deep.LoopGhost
import Derived.Laws.OwnMore
import Derived.Laws.FloatBits
import Derived.Laws.FloatArith
import Derived.Laws.Externs
import Derived.Lib.Hide
import Derived.WalkKit
import Derived.WalkLawsBesides
import Derived.Handy
import Derived.WalkMore
import Derived.IntWalk
import Derived.BigQuiet
import Derived.Lib.BitFns
import Derived.Below
import Derived.Deep.AppendLies
import Derived.Deep.Cut
import Derived.Deep.CutBlock
import Derived.Deep.CutRange
import Derived.Deep.Draws
import Derived.Deep.MidRow
import Derived.Deep.QuietTactic
import Derived.Deep.RegionHeld3
import Derived.Deep.DeepFit
import Derived.Laws.BitsAllLaws
import Derived.Laws.Pointers
import Derived.Laws.Tables
import Derived.OwnWalk
import Derived.RegionTactic
import Derived.StillTactics
import Derived.WalkSpells
import Derived.Shelf.Strconv.Itoa0
import Derived.Shelf.Strconv.Itoa1
import Derived.Shelf.Strconv.Itoa2
import Derived.Shelf.Strconv.Itoa3
import Derived.Shelf.LaysM
import Derived.Shelf.Bits.Mul64
import Derived.Shelf.Strings.OnBuilder
import Derived.Shelf.Strings.BuilderK
import Derived.Shelf.Strconv.Atoi
import Derived.Shelf.Strings.Cut
import Derived.Shelf.Strings.Split
import Derived.Shelf.Strings.Replace
import Derived.Shelf.Strings.Repeat
import Derived.Shelf.Small.Wraps
import Derived.Shelf.Strconv.Clone
import Derived.Shelf.Strconv.SyntaxError
import Derived.Shelf.LaysC
import Derived.Shelf.Strconv.ToError
import Derived.Shelf.Strconv.Lower
import Derived.Shelf.Strconv.RangeError
import Derived.Shelf.Strconv.ToErrorRange
import Derived.Shelf.Strings.Prefix
import Derived.Shelf.Strings.Builder1
import Derived.Shelf.Strings.Builder2
import Derived.Shelf.Small.Strs
import Derived.Shelf.Strings.BuilderF
import Derived.Shelf.Strings.Search1
import Derived.Shelf.Strings.Search2
import Derived.Shelf.Strings.Search3
import Derived.Shelf.Strings.Shaped
import Derived.Maps.AppendAt
import Derived.RangeFuncBox
import Derived.Shelf.Abstract
import Derived.Lib.SmallJoins
namespace Go.Proofs.YtejmbbkklhpnaaaGreatDoor.bsw
open Go.RowKit
theorem grown_trans {a b c:World} {row:Option Nat} (h:a.grownBy b row) (k:b.grownBy c row):a.grownBy c row :=
 ⟨k.os.trans h.os,k.tape.trans h.tape,k.output.trans h.output,Nat.le_trans h.size k.size,fun i hi hr=>(k.block i (Nat.lt_of_lt_of_le hi h.size) hr).trans (h.block i hi hr)⟩
theorem heap_set (w:World) (g j:Nat) (cs:Array Value) (t:TypeId) (fr:Nat × Nat) (v:Value) (h:w.heap[g]? = some (.cells cs t fr)) :
  (w.setCell ⟨g,j,none⟩ v).heap[g]? = some (.cells (cs.setIfInBounds j v) t fr):=by
 obtain ⟨hlt,hk⟩:=Array.getElem?_eq_some_iff.1 h
 show (w.heap.modify g _)[g]? = _
 rw [Array.getElem?_eq_getElem (by rw [Array.size_modify]; exact hlt),Array.getElem_modify_self,hk]
 simp
theorem heap_at (w:World) (o:Obj) (k:Nat) (h:w.heap.size=k):(w.alloc o).heap[k]? = some o:=by subst h; exact heap_alloc_new w o
theorem wl_val {P:Program} {ops:Array Oper} {rest:List Oper} {o:Oper} {a:Act} {w w':World} {Q:Exit -> Act -> World -> Prop} (hgd:o.guard=none) (v:Value) (hr:(execOp a.eval o).run P w = .ok (.value v) w')
  (h:wpList P ops Q rest (a.put o.dst v) w'):wpList P ops Q (o :: rest) a w :=
 wpList_plain hgd fun K hK=>by
  unfold Oper.wp
  rw [hr]
  exact hK _ _ h
theorem not_frozen {w:World} {g:Nat} {cs:Array Value} {t:TypeId} (h:w.heap[g]? = some (.cells cs t (0,0))) (j:Nat):w.frozen? ⟨g,j,none⟩=false:=by
 simp [World.frozen?,h]
end Go.Proofs.YtejmbbkklhpnaaaGreatDoor.bsw

/- A float's mantissa, exponent and interval. Plain. -/
namespace Go.Proofs.YtejmbbkklhpnaaaGreatDoor.prnw
open Go.RowKit
theorem and_mask (k:IntKind) (hk:k = .i64∨k = .u64) (a n:Nat) (ha:a<9223372036854775808) (hn:n <= 62):bits BinOp.and k (a:Int) ((2 ^ n-1:Nat):Int)=((a % 2 ^ n:Nat):Int):=by
 have hp:2 ^ n <= 4611686018427387904:=by
  have:=Nat.pow_le_pow_right (show 0<2 by decide) hn
  simpa using this
 have hp0:0<2 ^ n:=Nat.pow_pos (by decide)
 obtain ⟨q,hq⟩:∃ q,q=2 ^ n:=⟨_,rfl⟩
 have h2:(BitVec.ofInt 64 (a:Int)).toNat=a:=by
  rw [BitVec.toNat_ofInt]
  omega
 have h3:(BitVec.ofInt 64 ((2 ^ n-1:Nat):Int)).toNat=2 ^ n-1:=by
  rw [BitVec.toNat_ofInt,<- hq]
  rw [<- hq] at hp hp0
  omega
 have hm:a % 2 ^ n<2 ^ n:=Nat.mod_lt _ hp0
 rcases hk with rfl | rfl
 ·have h:bits BinOp.and IntKind.i64 (a:Int) ((2 ^ n-1:Nat):Int)=IntKind.i64.wrap (((BitVec.ofInt 64 (a:Int) &&& BitVec.ofInt 64 ((2 ^ n-1:Nat):Int)).toNat:Nat):Int):=rfl
  rw [h,BitVec.toNat_and,h2,h3,Nat.and_two_pow_sub_one_eq_mod,IntKind.wrap_i64]
  obtain ⟨r,hr⟩:∃ r,r=a % 2 ^ n:=⟨_,rfl⟩
  rw [<- hr] at hm ⊢
  rw [<- hq] at hp hm
  omega
 ·have h:bits BinOp.and IntKind.u64 (a:Int) ((2 ^ n-1:Nat):Int)=IntKind.u64.wrap (((BitVec.ofInt 64 (a:Int) &&& BitVec.ofInt 64 ((2 ^ n-1:Nat):Int)).toNat:Nat):Int):=rfl
  rw [h,BitVec.toNat_and,h2,h3,Nat.and_two_pow_sub_one_eq_mod,IntKind.wrap_u64]
  obtain ⟨r,hr⟩:∃ r,r=a % 2 ^ n:=⟨_,rfl⟩
  rw [<- hr] at hm ⊢
  rw [<- hq] at hp hm
  omega
theorem or_top (a:Nat) (ha:a<4503599627370496):bits BinOp.or IntKind.u64 (a:Int) 4503599627370496=((a+4503599627370496:Nat):Int):=by
 have h:bits BinOp.or IntKind.u64 (a:Int) 4503599627370496=IntKind.u64.wrap (((BitVec.ofInt 64 (a:Int) ||| BitVec.ofInt 64 4503599627370496).toNat:Nat):Int):=rfl
 have h2:(BitVec.ofInt 64 (a:Int)).toNat=a:=by
  rw [BitVec.toNat_ofInt]
  omega
 have h3:(BitVec.ofInt 64 4503599627370496).toNat=2 ^ 52*1:=by decide
 have h4:a ||| 2 ^ 52*1=2 ^ 52*1+a:=by
  rw [Nat.or_comm]
  exact (Nat.two_pow_add_eq_or_of_lt (by simpa using ha) 1).symm
 rw [h,BitVec.toNat_or,h2,h3,h4,IntKind.wrap_u64]
 omega
def ftM (X:Nat):Nat:=if X / 4503599627370496=0 then X % 4503599627370496 else X % 4503599627370496+4503599627370496
def ftE (X:Nat):Int:=if X / 4503599627370496=0 then -1022 else ((X / 4503599627370496:Nat):Int)-1023
theorem ftM_pos (X:Nat) (h:0<X):1 <= ftM X∧ftM X<9007199254740992:=by
 unfold ftM
 split
 ·omega
 ·omega
theorem bl_bd:∀ (f x:Nat),x<2 ^ f -> 0<x -> 1 <= Lib.bitLenAux f x∧Lib.bitLenAux f x <= f∧2 ^ (Lib.bitLenAux f x-1) <= x∧x<2 ^ Lib.bitLenAux f x
 | 0,x,h,h0=>by
  have:x<1:=by simpa using h
  omega
 | f+1,x,h,h0=>by
  rw [Lib.bitLenAux,if_neg (by omega)]
  by_cases h2:x / 2=0
  ·have e:x=1:=by omega
   have:Lib.bitLenAux f (x / 2)=0:=by
    rw [h2]
    cases f with
    | zero=>rfl
    | succ f=>rw [Lib.bitLenAux,if_pos rfl]
   rw [this,e]
   refine ⟨?_,?_,?_,?_⟩
   ·omega
   ·omega
   ·decide
   ·decide
  ·obtain ⟨a,b,c,d⟩:=bl_bd f (x / 2) (by rw [Nat.pow_succ] at h; omega) (by omega)
   obtain ⟨k,hk⟩:∃ k,Lib.bitLenAux f (x / 2)=k+1:=⟨Lib.bitLenAux f (x / 2)-1,by omega⟩
   rw [hk] at a b c d ⊢
   rw [show k+1-1=k by omega] at c
   rw [Nat.pow_succ] at d
   refine ⟨by omega,by omega,?_,?_⟩
   ·rw [show 1+(k+1)-1=k+1 by omega,Nat.pow_succ]
    omega
   ·rw [show 1+(k+1)=k+1+1 by omega,Nat.pow_succ,Nat.pow_succ]
    omega
theorem toNat_bits63 (s:Int) (h0:0 <= s) (h1:s <= 63):bits BinOp.and IntKind.i64 s 63=s:=by
 obtain ⟨n,rfl⟩:=Int.eq_ofNat_of_zero_le h0
 have hn:n<64:=by omega
 revert hn
 revert n
 intro n _ _ hn
 have h:bits BinOp.and IntKind.i64 (n:Int) 63=IntKind.i64.wrap (((BitVec.ofInt 64 (n:Int) &&& BitVec.ofInt 64 63).toNat:Nat):Int):=rfl
 have h2:(BitVec.ofInt 64 (n:Int)).toNat=n:=by
  rw [BitVec.toNat_ofInt]
  omega
 have h3:(BitVec.ofInt 64 63).toNat=2 ^ 6-1:=by decide
 rw [h,BitVec.toNat_and,h2,h3,Nat.and_two_pow_sub_one_eq_mod,IntKind.wrap_i64]
 omega
end Go.Proofs.YtejmbbkklhpnaaaGreatDoor.prnw
namespace Go.Proofs.YtejmbbkklhpnaaaGreatDoor.fpm
open Go Go.RowKit prnw
def loQ (M:Nat) (E:Int):Nat:=if M=4503599627370496 ∧ -1074<E then 4*M-1 else 4*M-2
theorem loQ_bd (M:Nat) (E:Int):4*M-2 <= loQ M E∧loQ M E <= 4*M-1∧(M % 2=1 -> loQ M E=4*M-2):=by
 unfold loQ
 by_cases h:M=4503599627370496 ∧ -1074<E
 ·rw [if_pos h]
  have:=h.1
  exact ⟨by omega,by omega,fun h2=>by omega⟩
 ·rw [if_neg h]
  exact ⟨Nat.le_refl _,by omega,fun _=>rfl⟩
def endL (X:Nat):Nat:=loQ (ftM X) (ftE X-52)*2 ^ (ftE X-52+1074).toNat
def endU (X:Nat):Nat:=(4*ftM X+2)*2 ^ (ftE X-52+1074).toNat
theorem ends_meet (X:Nat):endL (X+1)=endU X:=by
 unfold endL endU
 obtain ⟨q,hq⟩:∃ q,q=X / 4503599627370496:=⟨_,rfl⟩
 obtain ⟨r,hr⟩:∃ r,r=X % 4503599627370496:=⟨_,rfl⟩
 by_cases hl:r+1<4503599627370496
 ·have e1:(X+1) / 4503599627370496=q:=by omega
  have e2:(X+1) % 4503599627370496=r+1:=by omega
  have hM:ftM (X+1)=ftM X+1:=by
   unfold ftM
   rw [e1,e2,<- hq,<- hr]
   split <;> omega
  have hE:ftE (X+1)=ftE X:=by
   unfold ftE
   rw [e1,<- hq]
  have hM0:ftM X+1≠4503599627370496 ∨ ¬ -1074<ftE X-52:=by
   unfold ftM ftE
   rw [<- hq,<- hr]
   split <;> omega
  rw [hM,hE]
  congr 1
  unfold loQ
  rw [if_neg (by omega)]
  omega
 ·have e1:(X+1) / 4503599627370496=q+1:=by omega
  have e2:(X+1) % 4503599627370496=0:=by omega
  have hM:ftM (X+1)=4503599627370496:=by
   unfold ftM
   rw [e1,e2,if_neg (by omega)]
  have hE:ftE (X+1)=(q:Int)-1022:=by
   unfold ftE
   rw [e1,if_neg (by omega)]
   omega
  rw [hM,hE]
  by_cases h0:q=0
  ·have hM2:ftM X=4503599627370495:=by
    unfold ftM
    rw [<- hq,<- hr,if_pos h0]
    omega
   have hE2:ftE X = -1022:=by unfold ftE; rw [<- hq,if_pos h0]
   rw [hM2,hE2,h0]
   decide
  ·have hM2:ftM X=9007199254740991:=by
    unfold ftM
    rw [<- hq,<- hr,if_neg h0]
    omega
   have hE2:ftE X=(q:Int)-1023:=by unfold ftE; rw [<- hq,if_neg h0]
   rw [hM2,hE2]
   unfold loQ
   rw [if_pos ⟨rfl,by omega⟩,show ((q:Int)-1022-52+1074).toNat=q-1+1 by omega,show ((q:Int)-1023-52+1074).toNat=q-1 by omega,Nat.pow_succ]
   generalize 2 ^ (q-1)=t
   omega
theorem ends_lt (X:Nat) (h:0<X):endL X<endU X:=by
 unfold endL endU
 refine (Nat.mul_lt_mul_right (Nat.two_pow_pos _)).2 ?_
 have:=loQ_bd (ftM X) (ftE X-52)
 have:=ftM_pos X h
 omega
theorem ends_mono (X:Nat) (h:0<X):∀ n,endL X+n <= endL (X+n)
 | 0=>Nat.le_refl _
 | n+1=>by
  have h1:=ends_mono X h n
  have h2:=ends_lt (X+n) (by omega)
  rw [<- Nat.add_assoc X,ends_meet (X+n)]
  omega
theorem ftM_odd (X:Nat):ftM X % 2=X % 2:=by
 unfold ftM
 split <;> omega
end Go.Proofs.YtejmbbkklhpnaaaGreatDoor.fpm

/- Contracts of library functions, laid by the shelf of the kit for this translation, in plain words. Conditions: as each theorem states. -/
namespace Go.Proofs
open Go.Shelf
def Tryz.lays169_ren:Go.Shelf.Ren:=⟨fun | 169 => 27 | n=>n,fun | 70 => 69 | 9 => 9 | 0 => 0 | 72 => 71 | 37 => 23 | 127 => 109 | 3 => 3 | 5 => 5 | n=>n,fun | n=>n⟩
theorem Tryz.lays169:Go.Proofs.Lays.n169 Tryz.prog Tryz.lays169_ren:={
 mixed:=by kernel_rfl
 f169:=Tryz.func27.trans (congrArg some (by kernel_rfl))
 t0:=Tryz.underlying0
 a0:=Tryz.isAgg0
 z0:=Tryz.sizeOf0
 v0:=Tryz.zeroValue0
 t3:=Tryz.underlying3
 a3:=Tryz.isAgg3
 z3:=Tryz.sizeOf3
 v3:=Tryz.zeroValue3
 t9:=Tryz.underlying9
 a9:=Tryz.isAgg9
 z9:=Tryz.sizeOf9
 v9:=Tryz.zeroValue9
 t37:=Tryz.underlying23
 a37:=Tryz.isAgg23
 z37:=Tryz.sizeOf23
 v37:=Tryz.zeroValue23
 t70:=Tryz.underlying69
 a70:=Tryz.isAgg69
 z70:=Tryz.sizeOf69
 v70:=Tryz.zeroValue69
 t72:=Tryz.underlying71
 a72:=Tryz.isAgg71
 z72:=Tryz.sizeOf71
 v72:=Tryz.zeroValue71
 t127:=Tryz.underlying109
 a127:=Tryz.isAgg109
 z127:=Tryz.sizeOf109
 v127:=Tryz.zeroValue109 }
theorem Tryz.Builder_Extra_169:Builder.Extra Tryz.prog Tryz.lays169_ren:={
 sizeBuilder:=by kernel_rfl
 liesBuilder:=by kernel_rfl
 t5:=Tryz.underlying5
 a5:=Tryz.isAgg5
 z5:=Tryz.sizeOf5
 v5:=Tryz.zeroValue5
 infoByte:=by kernel_rfl
 cellsByte:=by kernel_rfl
 sizeByte:=by kernel_rfl
 neB5:=by decide }
def Tryz.lays156_ren:Go.Shelf.Ren:=⟨fun | 156 => 53 | 165 => 77 | 166 => 26 | 169 => 27 | 240 => 54 | 241 => 111 | 276 => 82 | 277 => 149 | n=>n,fun | 31 => 88 | 9 => 9 | 3 => 3 | 4 => 4 | 0 => 0 | 20 => 20 | 72 => 71 | 76 => 74 | 70 => 69 | 37 => 23 | 75 => 73 | 127 => 109 | 164 => 144 | 5 => 5 | 80 => 76 | n=>n,fun | n=>n⟩
theorem Tryz.lays156:Go.Proofs.Lays.n156 Tryz.prog Tryz.lays156_ren:={
 mixed:=by kernel_rfl
 f156:=Tryz.func53.trans (congrArg some (by kernel_rfl))
 f165:=Tryz.func77.trans (congrArg some (by kernel_rfl))
 f166:=Tryz.func26.trans (congrArg some (by kernel_rfl))
 f169:=Tryz.func27.trans (congrArg some (by kernel_rfl))
 f240:=Tryz.func54.trans (congrArg some (by kernel_rfl))
 f241:=Tryz.func111.trans (congrArg some (by kernel_rfl))
 f276:=Tryz.func82.trans (congrArg some (by kernel_rfl))
 f277:=Tryz.func149.trans (congrArg some (by kernel_rfl))
 t0:=Tryz.underlying0
 a0:=Tryz.isAgg0
 z0:=Tryz.sizeOf0
 v0:=Tryz.zeroValue0
 t3:=Tryz.underlying3
 a3:=Tryz.isAgg3
 z3:=Tryz.sizeOf3
 v3:=Tryz.zeroValue3
 t4:=Tryz.underlying4
 a4:=Tryz.isAgg4
 z4:=Tryz.sizeOf4
 v4:=Tryz.zeroValue4
 t9:=Tryz.underlying9
 a9:=Tryz.isAgg9
 z9:=Tryz.sizeOf9
 v9:=Tryz.zeroValue9
 t20:=Tryz.underlying20
 a20:=Tryz.isAgg20
 z20:=Tryz.sizeOf20
 v20:=Tryz.zeroValue20
 t31:=Tryz.underlying88
 a31:=Tryz.isAgg88
 z31:=Tryz.sizeOf88
 v31:=Tryz.zeroValue88
 t37:=Tryz.underlying23
 a37:=Tryz.isAgg23
 z37:=Tryz.sizeOf23
 v37:=Tryz.zeroValue23
 t70:=Tryz.underlying69
 a70:=Tryz.isAgg69
 z70:=Tryz.sizeOf69
 v70:=Tryz.zeroValue69
 t72:=Tryz.underlying71
 a72:=Tryz.isAgg71
 z72:=Tryz.sizeOf71
 v72:=Tryz.zeroValue71
 t75:=Tryz.underlying73
 a75:=Tryz.isAgg73
 z75:=Tryz.sizeOf73
 v75:=Tryz.zeroValue73
 t76:=Tryz.underlying74
 a76:=Tryz.isAgg74
 z76:=Tryz.sizeOf74
 v76:=Tryz.zeroValue74
 t127:=Tryz.underlying109
 a127:=Tryz.isAgg109
 z127:=Tryz.sizeOf109
 v127:=Tryz.zeroValue109
 t164:=Tryz.underlying144
 a164:=Tryz.isAgg144
 z164:=Tryz.sizeOf144
 v164:=Tryz.zeroValue144 }
theorem Tryz.Builder_Extra_156:Builder.Extra Tryz.prog Tryz.lays156_ren:={
 sizeBuilder:=by kernel_rfl
 liesBuilder:=by kernel_rfl
 t5:=Tryz.underlying5
 a5:=Tryz.isAgg5
 z5:=Tryz.sizeOf5
 v5:=Tryz.zeroValue5
 infoByte:=by kernel_rfl
 cellsByte:=by kernel_rfl
 sizeByte:=by kernel_rfl
 neB5:=by decide }
open Go.RowKit in
theorem Tryz.strings_Join (bk o c:Nat) (xs:List ByteArray) (sep:ByteArray) (w:World) (hcells:∀ (j:Nat) x,xs[j]? = some x -> w.cell? ⟨bk,o+j,none⟩=some (.string x)) (hbk:bk<w.heap.size) (hN:xs.length <= 140737488355328) (hcap:xs.length <= c) (hlen:(Lib.join (xs.map (·.data.toList)) sep.data.toList).length <= 140737488355328) :
  Calls Tryz.prog 53 #[.slice (some ⟨bk,o,none⟩) xs.length c,.string sep] w fun e w'=>e = .returned (.string ⟨(Lib.join (xs.map (·.data.toList)) sep.data.toList).toArray⟩)∧Below w.heap.size w w':=Any.strings_Join Tryz.lays156 Tryz.Builder_Extra_156 bk o c xs sep w hcells hbk hN hcap hlen
open Go.RowKit in
theorem Tryz.Builder_String_any_k (B b:Nat) (l:List UInt8) (w:World) (h:Lib.IsBuilderF 71 5 B b (Lib.byteCells l) w) (hBw:B <= w.heap.size) :
  Calls Tryz.prog 27 #[.pointer (some ⟨b,0,none⟩)] w fun e w'=>e = .returned (.string ⟨l.toArray⟩)∧(Lib.IsBuilderF 71 5 B b (Lib.byteCells l) w'∧Below B w w'∧Lib.OthersKept 5 (some b) w w'):=Any.Builder_String_any_k Tryz.lays169 Tryz.Builder_Extra_169 B b l w h hBw
def Tryz.lays172_ren:Go.Shelf.Ren:=⟨fun | 172 => 40 | 244 => 72 | 245 => 73 | 247 => 100 | 279 => 101 | 280 => 102 | 281 => 103 | 282 => 104 | 287 => 142 | 316 => 143 | 171 => 75 | 205 => 144 | 321 => 158 | 322 => 177 | 243 => 108 | 246 => 148 | 283 => 178 | 284 => 135 | 285 => 167 | 286 => 179 | 129 => 132 | 317 => 136 | 318 => 168 | 319 => 186 | 320 => 187 | 337 => 190 | 338 => 191 | n=>n,fun | 9 => 9 | 3 => 3 | 75 => 73 | 76 => 74 | 4 => 4 | 5 => 5 | 167 => 160 | 37 => 23 | 0 => 0 | 85 => 161 | 2 => 2 | 168 => 163 | 53 => 96 | 175 => 196 | 46 => 166 | 210 => 200 | 127 => 109 | 145 => 236 | 143 => 234 | 21 => 21 | 171 => 189 | 173 => 237 | 212 => 229 | 51 => 178 | 20 => 20 | 213 => 250 | 232 => 183 | 233 => 275 | 80 => 76 | n=>n,fun | 15 => 3 | 16 => 4 | 17 => 7 | 18 => 12 | 19 => 13 | n=>n⟩
theorem Tryz.lays172:Go.Proofs.Lays.n172 Tryz.prog Tryz.lays172_ren:={
 mixed:=by kernel_rfl
 f129:=Tryz.func132.trans (congrArg some (by kernel_rfl))
 f171:=Tryz.func75.trans (congrArg some (by kernel_rfl))
 f172:=Tryz.func40.trans (congrArg some (by kernel_rfl))
 f205:=Tryz.func144.trans (congrArg some (by kernel_rfl))
 f243:=Tryz.func108.trans (congrArg some (by kernel_rfl))
 f244:=Tryz.func72.trans (congrArg some (by kernel_rfl))
 f245:=Tryz.func73.trans (congrArg some (by kernel_rfl))
 f246:=Tryz.func148.trans (congrArg some (by kernel_rfl))
 f247:=Tryz.func100.trans (congrArg some (by kernel_rfl))
 f279:=Tryz.func101.trans (congrArg some (by kernel_rfl))
 f280:=Tryz.func102.trans (congrArg some (by kernel_rfl))
 f281:=Tryz.func103.trans (congrArg some (by kernel_rfl))
 f282:=Tryz.func104.trans (congrArg some (by kernel_rfl))
 f283:=Tryz.func178.trans (congrArg some (by kernel_rfl))
 f284:=Tryz.func135.trans (congrArg some (by kernel_rfl))
 f285:=Tryz.func167.trans (congrArg some (by kernel_rfl))
 f286:=Tryz.func179.trans (congrArg some (by kernel_rfl))
 f287:=Tryz.func142.trans (congrArg some (by kernel_rfl))
 f316:=Tryz.func143.trans (congrArg some (by kernel_rfl))
 f317:=Tryz.func136.trans (congrArg some (by kernel_rfl))
 f318:=Tryz.func168.trans (congrArg some (by kernel_rfl))
 f319:=Tryz.func186.trans (congrArg some (by kernel_rfl))
 f320:=Tryz.func187.trans (congrArg some (by kernel_rfl))
 f321:=Tryz.func158.trans (congrArg some (by kernel_rfl))
 f322:=Tryz.func177.trans (congrArg some (by kernel_rfl))
 f337:=Tryz.func190.trans (congrArg some (by kernel_rfl))
 f338:=Tryz.func191.trans (congrArg some (by kernel_rfl))
 t0:=Tryz.underlying0
 a0:=Tryz.isAgg0
 z0:=Tryz.sizeOf0
 v0:=Tryz.zeroValue0
 t2:=Tryz.underlying2
 a2:=Tryz.isAgg2
 z2:=Tryz.sizeOf2
 v2:=Tryz.zeroValue2
 t3:=Tryz.underlying3
 a3:=Tryz.isAgg3
 z3:=Tryz.sizeOf3
 v3:=Tryz.zeroValue3
 t4:=Tryz.underlying4
 a4:=Tryz.isAgg4
 z4:=Tryz.sizeOf4
 v4:=Tryz.zeroValue4
 t5:=Tryz.underlying5
 a5:=Tryz.isAgg5
 z5:=Tryz.sizeOf5
 v5:=Tryz.zeroValue5
 t9:=Tryz.underlying9
 a9:=Tryz.isAgg9
 z9:=Tryz.sizeOf9
 v9:=Tryz.zeroValue9
 t20:=Tryz.underlying20
 a20:=Tryz.isAgg20
 z20:=Tryz.sizeOf20
 v20:=Tryz.zeroValue20
 t21:=Tryz.underlying21
 a21:=Tryz.isAgg21
 z21:=Tryz.sizeOf21
 v21:=Tryz.zeroValue21
 t37:=Tryz.underlying23
 a37:=Tryz.isAgg23
 z37:=Tryz.sizeOf23
 v37:=Tryz.zeroValue23
 t46:=Tryz.underlying166
 a46:=Tryz.isAgg166
 z46:=Tryz.sizeOf166
 v46:=Tryz.zeroValue166
 t51:=Tryz.underlying178
 a51:=Tryz.isAgg178
 z51:=Tryz.sizeOf178
 v51:=Tryz.zeroValue178
 t53:=Tryz.underlying96
 a53:=Tryz.isAgg96
 z53:=Tryz.sizeOf96
 v53:=Tryz.zeroValue96
 t75:=Tryz.underlying73
 a75:=Tryz.isAgg73
 z75:=Tryz.sizeOf73
 v75:=Tryz.zeroValue73
 t76:=Tryz.underlying74
 a76:=Tryz.isAgg74
 z76:=Tryz.sizeOf74
 v76:=Tryz.zeroValue74
 t85:=Tryz.underlying161
 a85:=Tryz.isAgg161
 z85:=Tryz.sizeOf161
 v85:=Tryz.zeroValue161
 t127:=Tryz.underlying109
 a127:=Tryz.isAgg109
 z127:=Tryz.sizeOf109
 v127:=Tryz.zeroValue109
 t143:=Tryz.underlying234
 a143:=Tryz.isAgg234
 z143:=Tryz.sizeOf234
 v143:=Tryz.zeroValue234
 t145:=Tryz.underlying236
 a145:=Tryz.isAgg236
 z145:=Tryz.sizeOf236
 v145:=Tryz.zeroValue236
 t167:=Tryz.underlying160
 a167:=Tryz.isAgg160
 z167:=Tryz.sizeOf160
 v167:=Tryz.zeroValue160
 t168:=Tryz.underlying163
 a168:=Tryz.isAgg163
 z168:=Tryz.sizeOf163
 v168:=Tryz.zeroValue163
 t171:=Tryz.underlying189
 a171:=Tryz.isAgg189
 z171:=Tryz.sizeOf189
 v171:=Tryz.zeroValue189
 t173:=Tryz.underlying237
 a173:=Tryz.isAgg237
 z173:=Tryz.sizeOf237
 v173:=Tryz.zeroValue237
 t175:=Tryz.underlying196
 a175:=Tryz.isAgg196
 z175:=Tryz.sizeOf196
 v175:=Tryz.zeroValue196
 t210:=Tryz.underlying200
 a210:=Tryz.isAgg200
 z210:=Tryz.sizeOf200
 v210:=Tryz.zeroValue200
 t212:=Tryz.underlying229
 a212:=Tryz.isAgg229
 z212:=Tryz.sizeOf229
 v212:=Tryz.zeroValue229
 t213:=Tryz.underlying250
 a213:=Tryz.isAgg250
 z213:=Tryz.sizeOf250
 t232:=Tryz.underlying183
 a232:=Tryz.isAgg183
 z232:=Tryz.sizeOf183
 v232:=Tryz.zeroValue183
 t233:=Tryz.underlying275
 a233:=Tryz.isAgg275
 z233:=Tryz.sizeOf275
 v233:=Tryz.zeroValue275
 g15:=by kernel_rfl
 g16:=by kernel_rfl
 g17:=by kernel_rfl
 g18:=by kernel_rfl
 g19:=by kernel_rfl }
open Go.RowKit in
theorem Tryz.strconv_Atoi (s:ByteArray) (n:Int) (hl:s.size <= 18) (h:Lib.atoi s.data.toList=some n) (w:World) :
  Calls Tryz.prog 40 #[.string s] w fun e w'=>e = .returned (.tuple #[.int .i64 n,.nilIface]) ∧ ∃ t,w'=Lib.bytesWorld w 5 t:=Any.strconv_Atoi Tryz.lays172 s n hl h w
def Tryz.lays129_ren:Go.Shelf.Ren:=⟨fun | 129 => 132 | n=>n,fun | 53 => 96 | 3 => 3 | 4 => 4 | 46 => 166 | 5 => 5 | 9 => 9 | n=>n,fun | n=>n⟩
theorem Tryz.lays129:Go.Proofs.Lays.n129 Tryz.prog Tryz.lays129_ren:={
 mixed:=by kernel_rfl
 f129:=Tryz.func132.trans (congrArg some (by kernel_rfl))
 t3:=Tryz.underlying3
 a3:=Tryz.isAgg3
 z3:=Tryz.sizeOf3
 v3:=Tryz.zeroValue3
 t4:=Tryz.underlying4
 a4:=Tryz.isAgg4
 z4:=Tryz.sizeOf4
 v4:=Tryz.zeroValue4
 t5:=Tryz.underlying5
 a5:=Tryz.isAgg5
 z5:=Tryz.sizeOf5
 v5:=Tryz.zeroValue5
 t9:=Tryz.underlying9
 a9:=Tryz.isAgg9
 z9:=Tryz.sizeOf9
 v9:=Tryz.zeroValue9
 t46:=Tryz.underlying166
 a46:=Tryz.isAgg166
 z46:=Tryz.sizeOf166
 v46:=Tryz.zeroValue166
 t53:=Tryz.underlying96
 a53:=Tryz.isAgg96
 z53:=Tryz.sizeOf96
 v53:=Tryz.zeroValue96 }
theorem Tryz.bits_Len64 (x:Int) (w:World) (h0:0 <= x) (h1:x <= 18446744073709551615) :
  Calls Tryz.prog 132 #[.int .u64 x] w fun e w'=>e = .returned (.int .i64 (Lib.bitLen x.toNat))∧w'=w:=Any.bits_Len64 Tryz.lays129 x w h0 h1
def Tryz.laysM284_ren:Go.Shelf.Ren:=⟨fun | 284 => 135 | 129 => 132 | 317 => 136 | 318 => 168 | n=>n,fun | 53 => 96 | 3 => 3 | 212 => 229 | 0 => 0 | 4 => 4 | 46 => 166 | 5 => 5 | 9 => 9 | n=>n,fun | 17 => 7 | n=>n⟩
theorem Tryz.laysM284:Go.Proofs.LaysM.n284 Tryz.prog Tryz.laysM284_ren:={
 mixed:=by kernel_rfl
 f129:=Tryz.func132.trans (congrArg some (by kernel_rfl))
 f284:=Tryz.func135.trans (congrArg some (by kernel_rfl))
 f317:=Tryz.func136.trans (congrArg some (by kernel_rfl))
 f318:=Tryz.func168.trans (congrArg some (by kernel_rfl))
 t0:=Tryz.underlying0
 a0:=Tryz.isAgg0
 z0:=Tryz.sizeOf0
 v0:=Tryz.zeroValue0
 t3:=Tryz.underlying3
 a3:=Tryz.isAgg3
 z3:=Tryz.sizeOf3
 v3:=Tryz.zeroValue3
 t4:=Tryz.underlying4
 a4:=Tryz.isAgg4
 z4:=Tryz.sizeOf4
 v4:=Tryz.zeroValue4
 t5:=Tryz.underlying5
 a5:=Tryz.isAgg5
 z5:=Tryz.sizeOf5
 v5:=Tryz.zeroValue5
 t9:=Tryz.underlying9
 a9:=Tryz.isAgg9
 z9:=Tryz.sizeOf9
 v9:=Tryz.zeroValue9
 t46:=Tryz.underlying166
 a46:=Tryz.isAgg166
 z46:=Tryz.sizeOf166
 v46:=Tryz.zeroValue166
 t53:=Tryz.underlying96
 a53:=Tryz.isAgg96
 z53:=Tryz.sizeOf96
 v53:=Tryz.zeroValue96
 t212:=Tryz.underlying229
 a212:=Tryz.isAgg229
 z212:=Tryz.sizeOf229
 v212:=Tryz.zeroValue229
 g17:=by kernel_rfl
 i0:=by kernel_rfl
 i3:=by kernel_rfl
 i4:=by kernel_rfl
 i5:=by kernel_rfl
 i9:=by kernel_rfl
 i46:=by kernel_rfl
 i53:=by kernel_rfl
 i212:=by kernel_rfl
 m17:=by kernel_rfl }
open Go.Lib in
theorem Tryz.internal_strconv_numDigits (u:Nat) (h1:1 <= u) (h2:u<18446744073709551616) (w:World) (htab:Lib.TabIs Tryz.prog w "internal/strconv.uint64pow10" .u64 Lib.pow10Tab) :
  Calls Tryz.prog 135 #[.int .u64 u] w fun e w'=>e = .returned (.int .i64 (Lib.nDigits u))∧w'=w:=Any.internal_strconv_numDigits Tryz.laysM284 u h1 h2 w htab
def Tryz.lays285_ren:Go.Shelf.Ren:=⟨fun | 285 => 167 | n=>n,fun | 37 => 23 | 53 => 96 | 3 => 3 | 4 => 4 | 51 => 178 | 9 => 9 | 5 => 5 | 0 => 0 | n=>n,fun | n=>n⟩
theorem Tryz.lays285:Go.Proofs.Lays.n285 Tryz.prog Tryz.lays285_ren:={
 mixed:=by kernel_rfl
 f285:=Tryz.func167.trans (congrArg some (by kernel_rfl))
 t0:=Tryz.underlying0
 a0:=Tryz.isAgg0
 z0:=Tryz.sizeOf0
 v0:=Tryz.zeroValue0
 t3:=Tryz.underlying3
 a3:=Tryz.isAgg3
 z3:=Tryz.sizeOf3
 v3:=Tryz.zeroValue3
 t4:=Tryz.underlying4
 a4:=Tryz.isAgg4
 z4:=Tryz.sizeOf4
 v4:=Tryz.zeroValue4
 t5:=Tryz.underlying5
 a5:=Tryz.isAgg5
 z5:=Tryz.sizeOf5
 v5:=Tryz.zeroValue5
 t9:=Tryz.underlying9
 a9:=Tryz.isAgg9
 z9:=Tryz.sizeOf9
 v9:=Tryz.zeroValue9
 t37:=Tryz.underlying23
 a37:=Tryz.isAgg23
 z37:=Tryz.sizeOf23
 v37:=Tryz.zeroValue23
 t51:=Tryz.underlying178
 a51:=Tryz.isAgg178
 z51:=Tryz.sizeOf178
 v51:=Tryz.zeroValue178
 t53:=Tryz.underlying96
 a53:=Tryz.isAgg96
 z53:=Tryz.sizeOf96
 v53:=Tryz.zeroValue96 }
open Go.RowKit Go.Sort Go.Lib in
theorem Tryz.internal_strconv_formatBase10 (blk off cap:Nat) (u:Nat) (d:Array UInt8) (w:World) (hH:Holds (fun (b:UInt8)=>Value.int .u8 (b.toNat:Int)) w blk off d) (hu:u<10 ^ d.size) (hu64:u<18446744073709551616) (hsz:d.size<4611686018427387904) :
  Calls Tryz.prog 167 #[.slice (some ⟨blk,off,none⟩) d.size cap,.int .u64 u] w fun e w' =>
   e = .returned (.tuple #[]) ∧ ∃ (n v':Nat) (dk:Array UInt8),w'=(putRow (fun (b:UInt8)=>Value.int .u8 (b.toNat:Int)) w blk off dk).drewN n∧FmtInv d.size u 0 v' dk:=Any.internal_strconv_formatBase10 Tryz.lays285 blk off cap u d w hH hu hu64 hsz
def Tryz.laysM171_ren:Go.Shelf.Ren:=⟨fun | 171 => 75 | 243 => 108 | 246 => 148 | 283 => 178 | 284 => 135 | 285 => 167 | 286 => 179 | 129 => 132 | 317 => 136 | 318 => 168 | 319 => 186 | 320 => 187 | 337 => 190 | 338 => 191 | n=>n,fun | 3 => 3 | 9 => 9 | 2 => 2 | 4 => 4 | 171 => 189 | 0 => 0 | 53 => 96 | 37 => 23 | 5 => 5 | 173 => 237 | 212 => 229 | 51 => 178 | 20 => 20 | 213 => 250 | 46 => 166 | 232 => 183 | 233 => 275 | n=>n,fun | 17 => 7 | 18 => 12 | 19 => 13 | n=>n⟩
theorem Tryz.laysM171:Go.Proofs.LaysM.n171 Tryz.prog Tryz.laysM171_ren:={
 mixed:=by kernel_rfl
 f129:=Tryz.func132.trans (congrArg some (by kernel_rfl))
 f171:=Tryz.func75.trans (congrArg some (by kernel_rfl))
 f243:=Tryz.func108.trans (congrArg some (by kernel_rfl))
 f246:=Tryz.func148.trans (congrArg some (by kernel_rfl))
 f283:=Tryz.func178.trans (congrArg some (by kernel_rfl))
 f284:=Tryz.func135.trans (congrArg some (by kernel_rfl))
 f285:=Tryz.func167.trans (congrArg some (by kernel_rfl))
 f286:=Tryz.func179.trans (congrArg some (by kernel_rfl))
 f317:=Tryz.func136.trans (congrArg some (by kernel_rfl))
 f318:=Tryz.func168.trans (congrArg some (by kernel_rfl))
 f319:=Tryz.func186.trans (congrArg some (by kernel_rfl))
 f320:=Tryz.func187.trans (congrArg some (by kernel_rfl))
 f337:=Tryz.func190.trans (congrArg some (by kernel_rfl))
 f338:=Tryz.func191.trans (congrArg some (by kernel_rfl))
 t0:=Tryz.underlying0
 a0:=Tryz.isAgg0
 z0:=Tryz.sizeOf0
 v0:=Tryz.zeroValue0
 t2:=Tryz.underlying2
 a2:=Tryz.isAgg2
 z2:=Tryz.sizeOf2
 v2:=Tryz.zeroValue2
 t3:=Tryz.underlying3
 a3:=Tryz.isAgg3
 z3:=Tryz.sizeOf3
 v3:=Tryz.zeroValue3
 t4:=Tryz.underlying4
 a4:=Tryz.isAgg4
 z4:=Tryz.sizeOf4
 v4:=Tryz.zeroValue4
 t5:=Tryz.underlying5
 a5:=Tryz.isAgg5
 z5:=Tryz.sizeOf5
 v5:=Tryz.zeroValue5
 t9:=Tryz.underlying9
 a9:=Tryz.isAgg9
 z9:=Tryz.sizeOf9
 v9:=Tryz.zeroValue9
 t20:=Tryz.underlying20
 a20:=Tryz.isAgg20
 z20:=Tryz.sizeOf20
 v20:=Tryz.zeroValue20
 t37:=Tryz.underlying23
 a37:=Tryz.isAgg23
 z37:=Tryz.sizeOf23
 v37:=Tryz.zeroValue23
 t46:=Tryz.underlying166
 a46:=Tryz.isAgg166
 z46:=Tryz.sizeOf166
 v46:=Tryz.zeroValue166
 t51:=Tryz.underlying178
 a51:=Tryz.isAgg178
 z51:=Tryz.sizeOf178
 v51:=Tryz.zeroValue178
 t53:=Tryz.underlying96
 a53:=Tryz.isAgg96
 z53:=Tryz.sizeOf96
 v53:=Tryz.zeroValue96
 t171:=Tryz.underlying189
 a171:=Tryz.isAgg189
 z171:=Tryz.sizeOf189
 v171:=Tryz.zeroValue189
 t173:=Tryz.underlying237
 a173:=Tryz.isAgg237
 z173:=Tryz.sizeOf237
 v173:=Tryz.zeroValue237
 t212:=Tryz.underlying229
 a212:=Tryz.isAgg229
 z212:=Tryz.sizeOf229
 v212:=Tryz.zeroValue229
 t213:=Tryz.underlying250
 a213:=Tryz.isAgg250
 z213:=Tryz.sizeOf250
 t232:=Tryz.underlying183
 a232:=Tryz.isAgg183
 z232:=Tryz.sizeOf183
 v232:=Tryz.zeroValue183
 t233:=Tryz.underlying275
 a233:=Tryz.isAgg275
 z233:=Tryz.sizeOf275
 v233:=Tryz.zeroValue275
 g17:=by kernel_rfl
 g18:=by kernel_rfl
 g19:=by kernel_rfl
 i0:=by kernel_rfl
 i2:=by kernel_rfl
 i3:=by kernel_rfl
 i4:=by kernel_rfl
 i5:=by kernel_rfl
 i9:=by kernel_rfl
 i20:=by kernel_rfl
 i37:=by kernel_rfl
 i46:=by kernel_rfl
 i51:=by kernel_rfl
 i53:=by kernel_rfl
 i171:=by kernel_rfl
 i173:=by kernel_rfl
 i212:=by kernel_rfl
 i232:=by kernel_rfl
 i233:=by kernel_rfl
 m17:=by kernel_rfl
 m18:=by kernel_rfl
 m19:=by kernel_rfl }
open Go.RowKit Go.Sort Go.Lib in
theorem Tryz.strconv_Itoa (n:Int) (h0 : -9223372036854775808 <= n) (h1:n <= 9223372036854775807) (w:World) (htab:Lib.TabIs Tryz.prog w "internal/strconv.uint64pow10" .u64 Lib.pow10Tab) :
  Calls Tryz.prog 75 #[.int .i64 n] w fun e w'=>e = .returned (.string ⟨(Lib.itoa n).toArray⟩) ∧ ∃ k os,w'=grow (w.drewN k) os:=Any.strconv_Itoa Tryz.laysM171 n h0 h1 w htab
def Tryz.lays145_ren:Go.Shelf.Ren:=⟨fun | 145 => 38 | 220 => 70 | 219 => 97 | 217 => 123 | 225 => 124 | 224 => 125 | 267 => 126 | 266 => 154 | 314 => 155 | n=>n,fun | 9 => 9 | 4 => 4 | 59 => 91 | 3 => 3 | 5 => 5 | 46 => 166 | 146 => 202 | 51 => 178 | n=>n,fun | 1 => 1 | n=>n⟩
theorem Tryz.lays145:Go.Proofs.Lays.n145 Tryz.prog Tryz.lays145_ren:={
 mixed:=by kernel_rfl
 f145:=Tryz.func38.trans (congrArg some (by kernel_rfl))
 f217:=Tryz.func123.trans (congrArg some (by kernel_rfl))
 f219:=Tryz.func97.trans (congrArg some (by kernel_rfl))
 f220:=Tryz.func70.trans (congrArg some (by kernel_rfl))
 f224:=Tryz.func125.trans (congrArg some (by kernel_rfl))
 f225:=Tryz.func124.trans (congrArg some (by kernel_rfl))
 f266:=Tryz.func154.trans (congrArg some (by kernel_rfl))
 f267:=Tryz.func126.trans (congrArg some (by kernel_rfl))
 f314:=Tryz.func155.trans (congrArg some (by kernel_rfl))
 t3:=Tryz.underlying3
 a3:=Tryz.isAgg3
 z3:=Tryz.sizeOf3
 v3:=Tryz.zeroValue3
 t4:=Tryz.underlying4
 a4:=Tryz.isAgg4
 z4:=Tryz.sizeOf4
 v4:=Tryz.zeroValue4
 t5:=Tryz.underlying5
 a5:=Tryz.isAgg5
 z5:=Tryz.sizeOf5
 v5:=Tryz.zeroValue5
 t9:=Tryz.underlying9
 a9:=Tryz.isAgg9
 z9:=Tryz.sizeOf9
 v9:=Tryz.zeroValue9
 t46:=Tryz.underlying166
 a46:=Tryz.isAgg166
 z46:=Tryz.sizeOf166
 v46:=Tryz.zeroValue166
 t51:=Tryz.underlying178
 a51:=Tryz.isAgg178
 z51:=Tryz.sizeOf178
 v51:=Tryz.zeroValue178
 t59:=Tryz.underlying91
 a59:=Tryz.isAgg91
 z59:=Tryz.sizeOf91
 v59:=Tryz.zeroValue91
 t146:=Tryz.underlying202
 a146:=Tryz.isAgg202
 z146:=Tryz.sizeOf202
 v146:=Tryz.zeroValue202
 g1:=by kernel_rfl }
open Go.RowKit Go.Lib in
theorem Tryz.strings_Cut (s sep:ByteArray) (m:Int) (w:World) (hs:s.size<4294967281) (hm:w.cell? ⟨1,0,none⟩=some (.int .i64 m)) :
  Calls Tryz.prog 38 #[.string s,.string sep] w fun e w'=>e = .returned (.tuple #[.string ⟨(Lib.cut s.data.toList sep.data.toList).1.toArray⟩,.string ⟨(Lib.cut s.data.toList sep.data.toList).2.1.toArray⟩,.bool (Lib.cut s.data.toList sep.data.toList).2.2]) ∧ ∃ n,w'=w.drewN n:=Any.strings_Cut Tryz.lays145 s sep m w hs hm
def Tryz.lays154_ren:Go.Shelf.Ren:=⟨fun | 154 => 42 | 138 => 76 | 165 => 77 | 143 => 78 | 166 => 26 | 197 => 79 | 169 => 27 | 195 => 109 | 218 => 110 | 240 => 54 | 241 => 111 | 219 => 97 | 260 => 112 | 276 => 82 | 277 => 149 | 217 => 123 | 225 => 124 | 224 => 125 | 267 => 126 | 266 => 154 | 314 => 155 | n=>n,fun | 9 => 9 | 3 => 3 | 4 => 4 | 72 => 71 | 0 => 0 | 76 => 74 | 105 => 139 | 21 => 21 | 5 => 5 | 70 => 69 | 20 => 20 | 37 => 23 | 75 => 73 | 127 => 109 | 164 => 144 | 46 => 166 | 119 => 208 | 139 => 211 | 138 => 210 | 146 => 202 | 51 => 178 | 80 => 76 | n=>n,fun | 1 => 1 | 3 => 5 | 4 => 6 | n=>n⟩
theorem Tryz.lays154:Go.Proofs.Lays.n154 Tryz.prog Tryz.lays154_ren:={
 mixed:=by kernel_rfl
 f138:=Tryz.func76.trans (congrArg some (by kernel_rfl))
 f143:=Tryz.func78.trans (congrArg some (by kernel_rfl))
 f154:=Tryz.func42.trans (congrArg some (by kernel_rfl))
 f165:=Tryz.func77.trans (congrArg some (by kernel_rfl))
 f166:=Tryz.func26.trans (congrArg some (by kernel_rfl))
 f169:=Tryz.func27.trans (congrArg some (by kernel_rfl))
 f195:=Tryz.func109.trans (congrArg some (by kernel_rfl))
 f197:=Tryz.func79.trans (congrArg some (by kernel_rfl))
 f217:=Tryz.func123.trans (congrArg some (by kernel_rfl))
 f218:=Tryz.func110.trans (congrArg some (by kernel_rfl))
 f219:=Tryz.func97.trans (congrArg some (by kernel_rfl))
 f224:=Tryz.func125.trans (congrArg some (by kernel_rfl))
 f225:=Tryz.func124.trans (congrArg some (by kernel_rfl))
 f240:=Tryz.func54.trans (congrArg some (by kernel_rfl))
 f241:=Tryz.func111.trans (congrArg some (by kernel_rfl))
 f260:=Tryz.func112.trans (congrArg some (by kernel_rfl))
 f266:=Tryz.func154.trans (congrArg some (by kernel_rfl))
 f267:=Tryz.func126.trans (congrArg some (by kernel_rfl))
 f276:=Tryz.func82.trans (congrArg some (by kernel_rfl))
 f277:=Tryz.func149.trans (congrArg some (by kernel_rfl))
 f314:=Tryz.func155.trans (congrArg some (by kernel_rfl))
 t0:=Tryz.underlying0
 a0:=Tryz.isAgg0
 z0:=Tryz.sizeOf0
 v0:=Tryz.zeroValue0
 t3:=Tryz.underlying3
 a3:=Tryz.isAgg3
 z3:=Tryz.sizeOf3
 v3:=Tryz.zeroValue3
 t4:=Tryz.underlying4
 a4:=Tryz.isAgg4
 z4:=Tryz.sizeOf4
 v4:=Tryz.zeroValue4
 t5:=Tryz.underlying5
 a5:=Tryz.isAgg5
 z5:=Tryz.sizeOf5
 v5:=Tryz.zeroValue5
 t9:=Tryz.underlying9
 a9:=Tryz.isAgg9
 z9:=Tryz.sizeOf9
 v9:=Tryz.zeroValue9
 t20:=Tryz.underlying20
 a20:=Tryz.isAgg20
 z20:=Tryz.sizeOf20
 v20:=Tryz.zeroValue20
 t21:=Tryz.underlying21
 a21:=Tryz.isAgg21
 z21:=Tryz.sizeOf21
 v21:=Tryz.zeroValue21
 t37:=Tryz.underlying23
 a37:=Tryz.isAgg23
 z37:=Tryz.sizeOf23
 v37:=Tryz.zeroValue23
 t46:=Tryz.underlying166
 a46:=Tryz.isAgg166
 z46:=Tryz.sizeOf166
 v46:=Tryz.zeroValue166
 t51:=Tryz.underlying178
 a51:=Tryz.isAgg178
 z51:=Tryz.sizeOf178
 v51:=Tryz.zeroValue178
 t70:=Tryz.underlying69
 a70:=Tryz.isAgg69
 z70:=Tryz.sizeOf69
 v70:=Tryz.zeroValue69
 t72:=Tryz.underlying71
 a72:=Tryz.isAgg71
 z72:=Tryz.sizeOf71
 v72:=Tryz.zeroValue71
 t75:=Tryz.underlying73
 a75:=Tryz.isAgg73
 z75:=Tryz.sizeOf73
 v75:=Tryz.zeroValue73
 t76:=Tryz.underlying74
 a76:=Tryz.isAgg74
 z76:=Tryz.sizeOf74
 v76:=Tryz.zeroValue74
 t105:=Tryz.underlying139
 a105:=Tryz.isAgg139
 z105:=Tryz.sizeOf139
 v105:=Tryz.zeroValue139
 t119:=Tryz.underlying208
 a119:=Tryz.isAgg208
 z119:=Tryz.sizeOf208
 t127:=Tryz.underlying109
 a127:=Tryz.isAgg109
 z127:=Tryz.sizeOf109
 v127:=Tryz.zeroValue109
 t138:=Tryz.underlying210
 a138:=Tryz.isAgg210
 z138:=Tryz.sizeOf210
 v138:=Tryz.zeroValue210
 t139:=Tryz.underlying211
 a139:=Tryz.isAgg211
 z139:=Tryz.sizeOf211
 v139:=Tryz.zeroValue211
 t146:=Tryz.underlying202
 a146:=Tryz.isAgg202
 z146:=Tryz.sizeOf202
 v146:=Tryz.zeroValue202
 t164:=Tryz.underlying144
 a164:=Tryz.isAgg144
 z164:=Tryz.sizeOf144
 v164:=Tryz.zeroValue144
 g1:=by kernel_rfl
 g3:=by kernel_rfl
 g4:=by kernel_rfl }
theorem Tryz.Builder_Extra_154:Builder.Extra Tryz.prog Tryz.lays154_ren:={
 sizeBuilder:=by kernel_rfl
 liesBuilder:=by kernel_rfl
 t5:=Tryz.underlying5
 a5:=Tryz.isAgg5
 z5:=Tryz.sizeOf5
 v5:=Tryz.zeroValue5
 infoByte:=by kernel_rfl
 cellsByte:=by kernel_rfl
 sizeByte:=by kernel_rfl
 neB5:=by decide }
open Go.RowKit Go.Lib in
theorem Tryz.strings_Replace (s old new:ByteArray) (n:Int) (m:Int) (w:World) (hs:s.size<4294967281) (hm:w.cell? ⟨1,0,none⟩=some (.int .i64 m)) (h1:1 <= old.size) (hlen:s.size+Lib.countB s old*new.size <= 140737488355328) :
  Calls Tryz.prog 42 #[.string s,.string old,.string new,.int .i64 n] w fun e w' =>
   e = .returned (.string ⟨(Lib.replace s.data.toList old.data.toList new.data.toList n).toArray⟩)∧Below w.heap.size w w':=Any.strings_Replace Tryz.lays154 Tryz.Builder_Extra_154 s old new n m w hs hm h1 hlen
def Tryz.lays264_ren:Go.Shelf.Ren:=⟨fun | 264 => 146 | n=>n,fun | 53 => 96 | 46 => 166 | n=>n,fun | n=>n⟩
theorem Tryz.lays264:Go.Proofs.Lays.n264 Tryz.prog Tryz.lays264_ren:={
 mixed:=by kernel_rfl
 f264:=Tryz.func146.trans (congrArg some (by kernel_rfl))
 t46:=Tryz.underlying166
 a46:=Tryz.isAgg166
 z46:=Tryz.sizeOf166
 v46:=Tryz.zeroValue166
 t53:=Tryz.underlying96
 a53:=Tryz.isAgg96
 z53:=Tryz.sizeOf96
 v53:=Tryz.zeroValue96 }
open Go.RowKit Go.Lib in
theorem Tryz.bits_Mul64 (x y:Nat) (hx:x<18446744073709551616) (hy:y<18446744073709551616) (w:World) :
  Calls Tryz.prog 146 #[.int .u64 x,.int .u64 y] w fun e w'=>e = .returned (.tuple #[.int .u64 ((x*y / 18446744073709551616:Nat):Int),.int .u64 ((x*y % 18446744073709551616:Nat):Int)])∧w'=w:=Any.bits_Mul64 Tryz.lays264 x y hx hy w
def Tryz.lays105_ren:Go.Shelf.Ren:=⟨fun | 105 => 74 | 212 => 105 | 99 => 106 | 165 => 77 | 166 => 26 | 170 => 107 | 169 => 27 | 263 => 145 | 264 => 146 | 206 => 147 | 240 => 54 | 241 => 111 | 276 => 82 | 277 => 149 | n=>n,fun | 9 => 9 | 3 => 3 | 4 => 4 | 20 => 20 | 0 => 0 | 46 => 166 | 109 => 167 | 5 => 5 | 72 => 71 | 76 => 74 | 51 => 178 | 146 => 202 | 53 => 96 | 148 => 204 | 70 => 69 | 37 => 23 | 75 => 73 | 127 => 109 | 164 => 144 | 80 => 76 | n=>n,fun | n=>n⟩
theorem Tryz.lays105:Go.Proofs.Lays.n105 Tryz.prog Tryz.lays105_ren:={
 mixed:=by kernel_rfl
 f99:=Tryz.func106.trans (congrArg some (by kernel_rfl))
 f105:=Tryz.func74.trans (congrArg some (by kernel_rfl))
 f165:=Tryz.func77.trans (congrArg some (by kernel_rfl))
 f166:=Tryz.func26.trans (congrArg some (by kernel_rfl))
 f169:=Tryz.func27.trans (congrArg some (by kernel_rfl))
 f170:=Tryz.func107.trans (congrArg some (by kernel_rfl))
 f206:=Tryz.func147.trans (congrArg some (by kernel_rfl))
 f212:=Tryz.func105.trans (congrArg some (by kernel_rfl))
 f240:=Tryz.func54.trans (congrArg some (by kernel_rfl))
 f241:=Tryz.func111.trans (congrArg some (by kernel_rfl))
 f263:=Tryz.func145.trans (congrArg some (by kernel_rfl))
 f264:=Tryz.func146.trans (congrArg some (by kernel_rfl))
 f276:=Tryz.func82.trans (congrArg some (by kernel_rfl))
 f277:=Tryz.func149.trans (congrArg some (by kernel_rfl))
 t0:=Tryz.underlying0
 a0:=Tryz.isAgg0
 z0:=Tryz.sizeOf0
 v0:=Tryz.zeroValue0
 t3:=Tryz.underlying3
 a3:=Tryz.isAgg3
 z3:=Tryz.sizeOf3
 v3:=Tryz.zeroValue3
 t4:=Tryz.underlying4
 a4:=Tryz.isAgg4
 z4:=Tryz.sizeOf4
 v4:=Tryz.zeroValue4
 t5:=Tryz.underlying5
 a5:=Tryz.isAgg5
 z5:=Tryz.sizeOf5
 v5:=Tryz.zeroValue5
 t9:=Tryz.underlying9
 a9:=Tryz.isAgg9
 z9:=Tryz.sizeOf9
 v9:=Tryz.zeroValue9
 t20:=Tryz.underlying20
 a20:=Tryz.isAgg20
 z20:=Tryz.sizeOf20
 v20:=Tryz.zeroValue20
 t37:=Tryz.underlying23
 a37:=Tryz.isAgg23
 z37:=Tryz.sizeOf23
 v37:=Tryz.zeroValue23
 t46:=Tryz.underlying166
 a46:=Tryz.isAgg166
 z46:=Tryz.sizeOf166
 v46:=Tryz.zeroValue166
 t51:=Tryz.underlying178
 a51:=Tryz.isAgg178
 z51:=Tryz.sizeOf178
 v51:=Tryz.zeroValue178
 t53:=Tryz.underlying96
 a53:=Tryz.isAgg96
 z53:=Tryz.sizeOf96
 v53:=Tryz.zeroValue96
 t70:=Tryz.underlying69
 a70:=Tryz.isAgg69
 z70:=Tryz.sizeOf69
 v70:=Tryz.zeroValue69
 t72:=Tryz.underlying71
 a72:=Tryz.isAgg71
 z72:=Tryz.sizeOf71
 v72:=Tryz.zeroValue71
 t75:=Tryz.underlying73
 a75:=Tryz.isAgg73
 z75:=Tryz.sizeOf73
 v75:=Tryz.zeroValue73
 t76:=Tryz.underlying74
 a76:=Tryz.isAgg74
 z76:=Tryz.sizeOf74
 v76:=Tryz.zeroValue74
 t109:=Tryz.underlying167
 a109:=Tryz.isAgg167
 z109:=Tryz.sizeOf167
 v109:=Tryz.zeroValue167
 t127:=Tryz.underlying109
 a127:=Tryz.isAgg109
 z127:=Tryz.sizeOf109
 v127:=Tryz.zeroValue109
 t146:=Tryz.underlying202
 a146:=Tryz.isAgg202
 z146:=Tryz.sizeOf202
 v146:=Tryz.zeroValue202
 t148:=Tryz.underlying204
 a148:=Tryz.isAgg204
 z148:=Tryz.sizeOf204
 v148:=Tryz.zeroValue204
 t164:=Tryz.underlying144
 a164:=Tryz.isAgg144
 z164:=Tryz.sizeOf144
 v164:=Tryz.zeroValue144 }
theorem Tryz.Builder_Extra_105:Builder.Extra Tryz.prog Tryz.lays105_ren:={
 sizeBuilder:=by kernel_rfl
 liesBuilder:=by kernel_rfl
 t5:=Tryz.underlying5
 a5:=Tryz.isAgg5
 z5:=Tryz.sizeOf5
 v5:=Tryz.zeroValue5
 infoByte:=by kernel_rfl
 cellsByte:=by kernel_rfl
 sizeByte:=by kernel_rfl
 neB5:=by decide }
open Go.RowKit Go.Lib in
theorem Tryz.strings_Repeat (s:ByteArray) (c:Nat) (w:World) (hc:c <= 9223372036854775807) (hlen:s.size*c <= 140737488355328) :
  Calls Tryz.prog 74 #[.string s,.int .i64 c] w fun e w'=>e = .returned (.string ⟨(Lib.repeatL s.data.toList c).toArray⟩)∧Below w.heap.size w w':=Any.strings_Repeat Tryz.lays105 Tryz.Builder_Extra_105 s c w hc hlen
def Tryz.lays103_ren:Go.Shelf.Ren:=⟨fun | 103 => 152 | 210 => 181 | 206 => 147 | n=>n,fun | 9 => 9 | 4 => 4 | 24 => 213 | 3 => 3 | n=>n,fun | n=>n⟩
theorem Tryz.lays103:Go.Proofs.Lays.n103 Tryz.prog Tryz.lays103_ren:={
 mixed:=by kernel_rfl
 f103:=Tryz.func152.trans (congrArg some (by kernel_rfl))
 f206:=Tryz.func147.trans (congrArg some (by kernel_rfl))
 f210:=Tryz.func181.trans (congrArg some (by kernel_rfl))
 t3:=Tryz.underlying3
 a3:=Tryz.isAgg3
 z3:=Tryz.sizeOf3
 v3:=Tryz.zeroValue3
 t4:=Tryz.underlying4
 a4:=Tryz.isAgg4
 z4:=Tryz.sizeOf4
 v4:=Tryz.zeroValue4
 t9:=Tryz.underlying9
 a9:=Tryz.isAgg9
 z9:=Tryz.sizeOf9
 v9:=Tryz.zeroValue9
 t24:=Tryz.underlying213
 a24:=Tryz.isAgg213
 z24:=Tryz.sizeOf213
 v24:=Tryz.zeroValue213 }
open Go.RowKit in
theorem Tryz.strings_CutPrefix (s p:ByteArray) (w:World) :
  Calls Tryz.prog 152 #[.string s,.string p] w fun e w'=>e = .returned (.tuple #[.string ⟨(Lib.trimPrefix s.data.toList p.data.toList).toArray⟩,.bool (Lib.hasPrefix s.data.toList p.data.toList)])∧w'=w:=Any.strings_CutPrefix Tryz.lays103 s p w
def Tryz.laysC245_ren:Go.Shelf.Ren:=⟨fun | 245 => 73 | 279 => 101 | 280 => 102 | 281 => 103 | 282 => 104 | 316 => 143 | 171 => 75 | 205 => 144 | 243 => 108 | 246 => 148 | 283 => 178 | 284 => 135 | 285 => 167 | 286 => 179 | 129 => 132 | 317 => 136 | 318 => 168 | 319 => 186 | 320 => 187 | 337 => 190 | 338 => 191 | n=>n,fun | 9 => 9 | 3 => 3 | 75 => 73 | 167 => 160 | 4 => 4 | 168 => 163 | 210 => 200 | 37 => 23 | 0 => 0 | 127 => 109 | 145 => 236 | 143 => 234 | 2 => 2 | 171 => 189 | 53 => 96 | 5 => 5 | 173 => 237 | 212 => 229 | 51 => 178 | 20 => 20 | 213 => 250 | 46 => 166 | 232 => 183 | 233 => 275 | 80 => 76 | n=>n,fun | 15 => 3 | 16 => 4 | 17 => 7 | 18 => 12 | 19 => 13 | n=>n⟩
theorem Tryz.laysC245:Go.Proofs.LaysC.n245 Tryz.prog Tryz.laysC245_ren:={
 mixed:=by kernel_rfl
 f129:=Tryz.func132.trans (congrArg some (by kernel_rfl))
 f171:=Tryz.func75.trans (congrArg some (by kernel_rfl))
 f205:=Tryz.func144.trans (congrArg some (by kernel_rfl))
 f243:=Tryz.func108.trans (congrArg some (by kernel_rfl))
 f245:=Tryz.func73.trans (congrArg some (by kernel_rfl))
 f246:=Tryz.func148.trans (congrArg some (by kernel_rfl))
 f279:=Tryz.func101.trans (congrArg some (by kernel_rfl))
 f280:=Tryz.func102.trans (congrArg some (by kernel_rfl))
 f281:=Tryz.func103.trans (congrArg some (by kernel_rfl))
 f282:=Tryz.func104.trans (congrArg some (by kernel_rfl))
 f283:=Tryz.func178.trans (congrArg some (by kernel_rfl))
 f284:=Tryz.func135.trans (congrArg some (by kernel_rfl))
 f285:=Tryz.func167.trans (congrArg some (by kernel_rfl))
 f286:=Tryz.func179.trans (congrArg some (by kernel_rfl))
 f316:=Tryz.func143.trans (congrArg some (by kernel_rfl))
 f317:=Tryz.func136.trans (congrArg some (by kernel_rfl))
 f318:=Tryz.func168.trans (congrArg some (by kernel_rfl))
 f319:=Tryz.func186.trans (congrArg some (by kernel_rfl))
 f320:=Tryz.func187.trans (congrArg some (by kernel_rfl))
 f337:=Tryz.func190.trans (congrArg some (by kernel_rfl))
 f338:=Tryz.func191.trans (congrArg some (by kernel_rfl))
 t0:=Tryz.underlying0
 a0:=Tryz.isAgg0
 z0:=Tryz.sizeOf0
 v0:=Tryz.zeroValue0
 t2:=Tryz.underlying2
 a2:=Tryz.isAgg2
 z2:=Tryz.sizeOf2
 v2:=Tryz.zeroValue2
 t3:=Tryz.underlying3
 a3:=Tryz.isAgg3
 z3:=Tryz.sizeOf3
 v3:=Tryz.zeroValue3
 t4:=Tryz.underlying4
 a4:=Tryz.isAgg4
 z4:=Tryz.sizeOf4
 v4:=Tryz.zeroValue4
 t5:=Tryz.underlying5
 a5:=Tryz.isAgg5
 z5:=Tryz.sizeOf5
 v5:=Tryz.zeroValue5
 t9:=Tryz.underlying9
 a9:=Tryz.isAgg9
 z9:=Tryz.sizeOf9
 v9:=Tryz.zeroValue9
 t20:=Tryz.underlying20
 a20:=Tryz.isAgg20
 z20:=Tryz.sizeOf20
 v20:=Tryz.zeroValue20
 t37:=Tryz.underlying23
 a37:=Tryz.isAgg23
 z37:=Tryz.sizeOf23
 v37:=Tryz.zeroValue23
 t46:=Tryz.underlying166
 a46:=Tryz.isAgg166
 z46:=Tryz.sizeOf166
 v46:=Tryz.zeroValue166
 t51:=Tryz.underlying178
 a51:=Tryz.isAgg178
 z51:=Tryz.sizeOf178
 v51:=Tryz.zeroValue178
 t53:=Tryz.underlying96
 a53:=Tryz.isAgg96
 z53:=Tryz.sizeOf96
 v53:=Tryz.zeroValue96
 t75:=Tryz.underlying73
 a75:=Tryz.isAgg73
 z75:=Tryz.sizeOf73
 v75:=Tryz.zeroValue73
 t127:=Tryz.underlying109
 a127:=Tryz.isAgg109
 z127:=Tryz.sizeOf109
 v127:=Tryz.zeroValue109
 t143:=Tryz.underlying234
 a143:=Tryz.isAgg234
 z143:=Tryz.sizeOf234
 v143:=Tryz.zeroValue234
 t145:=Tryz.underlying236
 a145:=Tryz.isAgg236
 z145:=Tryz.sizeOf236
 v145:=Tryz.zeroValue236
 t167:=Tryz.underlying160
 a167:=Tryz.isAgg160
 z167:=Tryz.sizeOf160
 v167:=Tryz.zeroValue160
 t168:=Tryz.underlying163
 a168:=Tryz.isAgg163
 z168:=Tryz.sizeOf163
 v168:=Tryz.zeroValue163
 t171:=Tryz.underlying189
 a171:=Tryz.isAgg189
 z171:=Tryz.sizeOf189
 v171:=Tryz.zeroValue189
 t173:=Tryz.underlying237
 a173:=Tryz.isAgg237
 z173:=Tryz.sizeOf237
 v173:=Tryz.zeroValue237
 t210:=Tryz.underlying200
 a210:=Tryz.isAgg200
 z210:=Tryz.sizeOf200
 v210:=Tryz.zeroValue200
 t212:=Tryz.underlying229
 a212:=Tryz.isAgg229
 z212:=Tryz.sizeOf229
 v212:=Tryz.zeroValue229
 t213:=Tryz.underlying250
 a213:=Tryz.isAgg250
 z213:=Tryz.sizeOf250
 t232:=Tryz.underlying183
 a232:=Tryz.isAgg183
 z232:=Tryz.sizeOf183
 v232:=Tryz.zeroValue183
 t233:=Tryz.underlying275
 a233:=Tryz.isAgg275
 z233:=Tryz.sizeOf275
 v233:=Tryz.zeroValue275
 g15:=by kernel_rfl
 g16:=by kernel_rfl
 g17:=by kernel_rfl
 g18:=by kernel_rfl
 g19:=by kernel_rfl
 t80:=Tryz.underlying76
 a80:=Tryz.isAgg76
 z80:=Tryz.sizeOf76
 v80:=Tryz.zeroValue76
 i0:=by kernel_rfl
 i2:=by kernel_rfl
 i3:=by kernel_rfl
 i4:=by kernel_rfl
 i5:=by kernel_rfl
 i9:=by kernel_rfl
 i20:=by kernel_rfl
 i37:=by kernel_rfl
 i46:=by kernel_rfl
 i51:=by kernel_rfl
 i53:=by kernel_rfl
 i75:=by kernel_rfl
 i80:=by kernel_rfl
 i127:=by kernel_rfl
 i143:=by kernel_rfl
 i145:=by kernel_rfl
 i167:=by kernel_rfl
 i168:=by kernel_rfl
 i171:=by kernel_rfl
 i173:=by kernel_rfl
 i210:=by kernel_rfl
 i212:=by kernel_rfl
 i232:=by kernel_rfl
 i233:=by kernel_rfl
 m15:=by kernel_rfl
 m16:=by kernel_rfl
 m17:=by kernel_rfl
 m18:=by kernel_rfl
 m19:=by kernel_rfl
 c0:=by kernel_rfl
 c2:=by kernel_rfl
 c3:=by kernel_rfl
 c4:=by kernel_rfl
 c5:=by kernel_rfl
 c9:=by kernel_rfl
 c20:=by kernel_rfl
 c37:=by kernel_rfl
 c46:=by kernel_rfl
 c51:=by kernel_rfl
 c53:=by kernel_rfl
 c75:=by kernel_rfl
 c80:=by kernel_rfl
 c127:=by kernel_rfl
 c143:=by kernel_rfl
 c145:=by kernel_rfl
 c167:=by kernel_rfl
 c168:=by kernel_rfl
 c171:=by kernel_rfl
 c173:=by kernel_rfl
 c210:=by kernel_rfl
 c212:=by kernel_rfl
 c213:=by kernel_rfl
 c232:=by kernel_rfl
 c233:=by kernel_rfl }
def Tryz.lays321_ren:Go.Shelf.Ren:=⟨fun | 321 => 158 | n=>n,fun | 5 => 5 | n=>n,fun | n=>n⟩
theorem Tryz.lays321:Go.Proofs.Lays.n321 Tryz.prog Tryz.lays321_ren:={
 mixed:=by kernel_rfl
 f321:=Tryz.func158.trans (congrArg some (by kernel_rfl))
 t5:=Tryz.underlying5
 a5:=Tryz.isAgg5
 z5:=Tryz.sizeOf5
 v5:=Tryz.zeroValue5 }
open Go.RowKit in
theorem Tryz.internal_strconv_lower (c:Int) (w:World) :
  Calls Tryz.prog 158 #[.int .u8 c] w fun e w'=>e = .returned (.int .u8 (bits .or .u8 c 32))∧w'=w:=Any.internal_strconv_lower Tryz.lays321 c w
open Go.RowKit in
theorem Tryz.strconv_toError_range (fn s:ByteArray) (base bits:Int) (ev:Value) (w:World) (hlim:s.size <= 281474976710656) (hv:w.cell? ⟨4,0,none⟩=some ev) (hev:ev = .nilIface ∨ ∃ te pe,ev = .iface te pe) :
  Calls Tryz.prog 73 #[.string fn,.string s,.int .i64 base,.int .i64 bits,.iface 160 (.int .i64 1)] w fun e w'=>∃ N,e = .returned (.iface 163 (.pointer (some ⟨N,0,none⟩)))∧w.heap.size <= N∧w'.heap[N]? = some (.cells #[.string fn,.string s,ev] 200 (0,0))∧Below w.heap.size w w':=Any.strconv_toError_range Tryz.laysC245 fn s base bits ev w hlim hv hev
def Tryz.lays101_ren:Go.Shelf.Ren:=⟨fun | 101 => 151 | 208 => 180 | 206 => 147 | n=>n,fun | 9 => 9 | 4 => 4 | 3 => 3 | n=>n,fun | n=>n⟩
theorem Tryz.lays101:Go.Proofs.Lays.n101 Tryz.prog Tryz.lays101_ren:={
 mixed:=by kernel_rfl
 f101:=Tryz.func151.trans (congrArg some (by kernel_rfl))
 f206:=Tryz.func147.trans (congrArg some (by kernel_rfl))
 f208:=Tryz.func180.trans (congrArg some (by kernel_rfl))
 t3:=Tryz.underlying3
 a3:=Tryz.isAgg3
 z3:=Tryz.sizeOf3
 v3:=Tryz.zeroValue3
 t4:=Tryz.underlying4
 a4:=Tryz.isAgg4
 z4:=Tryz.sizeOf4
 v4:=Tryz.zeroValue4
 t9:=Tryz.underlying9
 a9:=Tryz.isAgg9
 z9:=Tryz.sizeOf9
 v9:=Tryz.zeroValue9 }
open Go.RowKit Go.Lib in
theorem Tryz.strings_TrimPrefix (s p:ByteArray) (w:World) :
  Calls Tryz.prog 151 #[.string s,.string p] w fun e w'=>e = .returned (.string ⟨(Lib.trimPrefix s.data.toList p.data.toList).toArray⟩)∧w'=w:=Any.strings_TrimPrefix Tryz.lays101 s p w
def Tryz.lays137_ren:Go.Shelf.Ren:=⟨fun | 137 => 120 | 217 => 123 | 266 => 154 | n=>n,fun | 9 => 9 | 5 => 5 | 3 => 3 | n=>n,fun | n=>n⟩
theorem Tryz.lays137:Go.Proofs.Lays.n137 Tryz.prog Tryz.lays137_ren:={
 mixed:=by kernel_rfl
 f137:=Tryz.func120.trans (congrArg some (by kernel_rfl))
 f217:=Tryz.func123.trans (congrArg some (by kernel_rfl))
 f266:=Tryz.func154.trans (congrArg some (by kernel_rfl))
 t3:=Tryz.underlying3
 a3:=Tryz.isAgg3
 z3:=Tryz.sizeOf3
 v3:=Tryz.zeroValue3
 t5:=Tryz.underlying5
 a5:=Tryz.isAgg5
 z5:=Tryz.sizeOf5
 v5:=Tryz.zeroValue5
 t9:=Tryz.underlying9
 a9:=Tryz.isAgg9
 z9:=Tryz.sizeOf9
 v9:=Tryz.zeroValue9 }
open Go.RowKit in
theorem Tryz.strings_IndexByte (s:ByteArray) (c:Int) (w:World) :
  Calls Tryz.prog 120 #[.string s,.int .u8 c] w fun e w'=>e = .returned (.int .i64 (Lib.indexByte s.data.toList c.toNat.toUInt8))∧w'=w:=Any.strings_IndexByte Tryz.lays137 s c w
end Go.Proofs

/- The small functions of unrounded scaling: what each answers. No conditions but those stated. -/
namespace Go.Proofs.YtejmbbkklhpnaaaGreatDoor.prnw
open Go.RowKit
open bsw
theorem set_grown (W:World) (b j:Nat) (v:Value):W.grownBy (W.setCell ⟨b,j,none⟩ v) (some b):=⟨rfl,rfl,rfl,by simp,fun i _ hne=>Below.heap_setCell W ⟨b,j,none⟩ v i (fun e=>hne (by rw [e]))⟩
def Same (w:World) (v:Value) (e:Ending) (w':World):Prop:=e = .returned v∧w'=w
theorem l2_any (e:Int) (h0 : -3000 <= e) (h1:e <= 3000) (w:World):Calls Tryz.prog 161 #[.int .i64 e] w (Same w (.int .i64 (e*108853 / 32768))):=by
 go_enter Tryz.func161,Tryz.ntmps161
 go_wp2
 go_ret
 exact ⟨rfl,rfl⟩
theorem b2u (b:Bool) (w:World):Calls Tryz.prog 183 #[.bool b] w (Same w (.int .u64 (if b then 1 else 0))):=by
 go_enter Tryz.func183,Tryz.ntmps183
 cases b
 all_goals go_wp2
 all_goals go_ret
 all_goals exact ⟨rfl,rfl⟩
def ceilI (u:Int):Int:=IntKind.u64.wrap (u+3) / 4
def nudgeI (u d:Int):Int:=IntKind.u64.wrap (u+IntKind.u64.wrap d)
def roundI (u:Int):Int:=IntKind.u64.wrap (IntKind.u64.wrap (u+1)+bits BinOp.and IntKind.u64 (u / 4) 1) / 4
theorem w64 (n:Int):0 <= IntKind.u64.wrap n∧IntKind.u64.wrap n<18446744073709551616:=by
 rw [IntKind.wrap_u64]
 omega
theorem ceil_bd (u:Int):0 <= ceilI u∧ceilI u<18446744073709551616:=by have:=w64 (u+3); unfold ceilI; omega
theorem nudge_bd (u d:Int):0 <= nudgeI u d∧nudgeI u d<18446744073709551616:=w64 _
theorem round_bd (u:Int):0 <= roundI u∧roundI u<18446744073709551616:=by have:=w64 (IntKind.u64.wrap (u+1)+bits BinOp.and IntKind.u64 (u / 4) 1); unfold roundI; omega
theorem round_any (u:Int) (_h0:0 <= u) (_h1:u<18446744073709551616) (w:World):Calls Tryz.prog 166 #[.int .u64 u] w (Same w (.int .u64 (roundI u))):=by
 go_enter Tryz.func166,Tryz.ntmps166
 go_wp2
 go_ret
 exact ⟨rfl,rfl⟩
theorem wl_pre {P:Program} {ops:Array Oper} {rest:List Oper} {o:Oper} {a:Act} {w:World} {Q:Exit -> Act -> World -> Prop} (h:wpList P ops Q (o :: rest) a w):wpList P ops Q (o :: rest) a w:=h
theorem wl_set_u64 {ops:Array Oper} {rest:List Oper} {o:Oper} {a:Act} {w:World} {Q:Exit -> Act -> World -> Prop} (hgd:o.guard=none) (x y:Operand) (ho:o.op = .store 96 x y) (b j:Nat) (v:Int) (old:Value) (hx:a.eval x = .pointer (some ⟨b,j,none⟩)) (hy:a.eval y = .int .u64 v)
  (hc:w.cell? ⟨b,j,none⟩=some old) (hf:w.frozen? ⟨b,j,none⟩=false)
  (h:wpList Tryz.prog ops Q rest (a.put o.dst undef) (w.setCell ⟨b,j,none⟩ (.int .u64 v))):wpList Tryz.prog ops Q (o :: rest) a w:=by
 have hr:(Instr.storeAt 96 (.pointer (some ⟨b,j,none⟩)) (.int .u64 v)).run Tryz.prog w = .ok () (w.setCell ⟨b,j,none⟩ (.int .u64 v)):=by
  simp [Instr.storeAt,Instr.sureAddr,storeVar,run_store_int,stored,hc,hf,go_sem]
 refine wpList_plain hgd fun K hK => ?_
 unfold Oper.wp execOp
 simp only [ho,hx,hy,hr,Sem.run_bind,Sem.run_pure,Result.andThen_ok]
 exact hK _ _ h
theorem wl_set_i64 {ops:Array Oper} {rest:List Oper} {o:Oper} {a:Act} {w:World} {Q:Exit -> Act -> World -> Prop} (hgd:o.guard=none) (x y:Operand) (ho:o.op = .store 3 x y) (b j:Nat) (v:Int) (old:Value) (hx:a.eval x = .pointer (some ⟨b,j,none⟩)) (hy:a.eval y = .int .i64 v)
  (hc:w.cell? ⟨b,j,none⟩=some old) (hf:w.frozen? ⟨b,j,none⟩=false)
  (h:wpList Tryz.prog ops Q rest (a.put o.dst undef) (w.setCell ⟨b,j,none⟩ (.int .i64 v))):wpList Tryz.prog ops Q (o :: rest) a w:=by
 have hr:(Instr.storeAt 3 (.pointer (some ⟨b,j,none⟩)) (.int .i64 v)).run Tryz.prog w = .ok () (w.setCell ⟨b,j,none⟩ (.int .i64 v)):=by
  simp [Instr.storeAt,Instr.sureAddr,storeVar,run_store_int,stored,hc,hf,go_sem]
 refine wpList_plain hgd fun K hK => ?_
 unfold Oper.wp execOp
 simp only [ho,hx,hy,hr,Sem.run_bind,Sem.run_pure,Result.andThen_ok]
 exact hK _ _ h
def PT (hi lo:Nat -> Nat) (w:World):Prop:=∀ i,i<696 -> hi i<18446744073709551616∧lo i<18446744073709551616∧w.cell? ⟨8,i*2,none⟩=some (.int .u64 (hi i:Nat))∧w.cell? ⟨8,i*2+1,none⟩=some (.int .u64 (lo i:Nat))
def SC (w:World) (pb:Nat) (hi lo:Nat) (s:Int):Prop:=w.heap[pb]? = some (.cells #[.int .u64 (hi:Nat),.int .u64 (lo:Nat),.int .i64 s] 220 (0,0))
set_option maxRecDepth 100000 in
set_option maxHeartbeats 1000000 in
theorem prescale_any (hi lo:Nat -> Nat) (pb:Nat) (e:Int) (i:Nat) (lp:Int) (hi6:i<696) (e0 : -3000 <= e) (e1:e <= 3000) (l0 : -3000 <= lp) (l1:lp <= 3000) (h0 l00:Nat) (s0:Int) (w:World) (hT:PT hi lo w) (hne:pb ≠ 8) (hb:SC w pb h0 l00 s0) :
  Calls Tryz.prog 160 #[.pointer (some ⟨pb,0,none⟩),.int .i64 e,.int .i64 ((i:Int)-348),.int .i64 lp] w fun x w'=>x = .returned (.tuple #[])∧SC w' pb (hi i) (lo i) (-(e+lp+3))∧w.grownBy w' (some pb):=by
 obtain ⟨_,_,c1,c2⟩:=hT i hi6
 have i0:(0:Int) <= (i:Int):=by omega
 have i6:(i:Int)<696:=by omega
 have ce:∀ (u:World) (cs:Array Value) (j:Nat),u.heap[pb]? = some (.cells cs 220 (0,0)) -> u.frozen? ⟨pb,j,none⟩=false:=fun u cs j h=>by simp [World.frozen?,h]
 have hb0:w.heap[pb]? = some (.cells #[.int .u64 (h0:Nat),.int .u64 (l00:Nat),.int .i64 s0] 220 (0,0)):=hb
 obtain ⟨W1,hW1⟩:∃ W1,W1=w.setCell ⟨pb,0,none⟩ (.int .u64 (hi i:Nat)):=⟨_,rfl⟩
 obtain ⟨W2,hW2⟩:∃ W2,W2=W1.setCell ⟨pb,1,none⟩ (.int .u64 (lo i:Nat)):=⟨_,rfl⟩
 obtain ⟨W3,hW3⟩:∃ W3,W3=W2.setCell ⟨pb,2,none⟩ (.int .i64 (-(e+lp+3))):=⟨_,rfl⟩
 have hb1:W1.heap[pb]? = some (.cells #[.int .u64 (hi i:Nat),.int .u64 (l00:Nat),.int .i64 s0] 220 (0,0)):=by rw [hW1,heap_set w pb 0 _ _ _ _ hb0]; rfl
 have hb2:W2.heap[pb]? = some (.cells #[.int .u64 (hi i:Nat),.int .u64 (lo i:Nat),.int .i64 s0] 220 (0,0)):=by rw [hW2,heap_set W1 pb 1 _ _ _ _ hb1]; rfl
 have hb3:W3.heap[pb]? = some (.cells #[.int .u64 (hi i:Nat),.int .u64 (lo i:Nat),.int .i64 (-(e+lp+3))] 220 (0,0)):=by rw [hW3,heap_set W2 pb 2 _ _ _ _ hb2]; rfl
 have hg:w.grownBy W3 (some pb):=by
  rw [hW3,hW2,hW1]
  exact grown_trans (grown_trans (set_grown _ _ _ _) (set_grown _ _ _ _)) (set_grown _ _ _ _)
 have hk:∀ (u:World) (j:Nat) (v:Value),(∀ b,b≠pb -> u.heap[b]? = w.heap[b]?) -> w.cell? ⟨8,j,none⟩=some v -> u.cell? ⟨8,j,none⟩=some v:=fun u j v hu hv =>
  (World.cell?_of_block (a:=⟨8,j,none⟩) (hu _ (fun e=>hne e.symm))).trans hv
 have u1:∀ b,b≠pb -> W1.heap[b]? = w.heap[b]?:=fun b hb=>by rw [hW1]; exact Below.heap_setCell w ⟨pb,0,none⟩ _ b hb
 have c21:=hk W1 _ _ u1 c2
 have C1:=Lib.hid (And.intro ((cell_of_row w pb 0 _ _ _ hb0).trans rfl:w.cell? ⟨pb,0,none⟩=some (.int .u64 (h0:Nat))) (ce w _ 0 hb0))
 have C2:=Lib.hid (And.intro ((cell_of_row W1 pb 1 _ _ _ hb1).trans rfl:W1.cell? ⟨pb,1,none⟩=some (.int .u64 (l00:Nat))) (ce W1 _ 1 hb1))
 have C3:=Lib.hid (And.intro ((cell_of_row W2 pb 2 _ _ _ hb2).trans rfl:W2.cell? ⟨pb,2,none⟩=some (.int .i64 s0)) (ce W2 _ 2 hb2))
 have Y1:=Lib.hid hW1
 have Y2:=Lib.hid hW2
 have Y3:=Lib.hid hW3
 have HR:=Lib.hid (And.intro (show SC W3 pb (hi i) (lo i) (-(e+lp+3)) from hb3) hg)
 clear hk u1 hb0 hb1 hb2 hb3 hb hT hg ce hW1 hW2 hW3 c2 hne
 go_enter Tryz.func160,Tryz.ntmps160
 go_wp2_with ((with_reducible refine wl_pre ?_); (first | (refine wl_set_u64 rfl (.tmp 15) (.tmp 13) rfl pb 0 _ _ rfl rfl C1.out.1 C1.out.2 ?_; rw [<- Y1.out]) | (refine wl_set_u64 rfl (.tmp 23) (.tmp 21) rfl pb 1 _ _ rfl rfl C2.out.1 C2.out.2 ?_; rw [<- Y2.out]) | (refine wl_set_i64 rfl (.tmp 31) (.tmp 29) rfl pb 2 _ _ rfl rfl C3.out.1 C3.out.2 ?_; rw [<- Y3.out])); (simp only [Act.put]))
 go_end0
 exact ⟨rfl,HR.out⟩
end Go.Proofs.YtejmbbkklhpnaaaGreatDoor.prnw

/- The contracts of library functions: in ShfP. -/


/- A float's size and order, by its bits. Plain. -/
namespace Go.Proofs.YtejmbbkklhpnaaaGreatDoor.nodew
open Go.RowKit
def fo (x y:Nat):Option Ordering:=FloatKind.f64.format.order x y
theorem fo_eq (x y:Nat):FloatKind.f64.format.order x y=fo x y:=rfl
end Go.Proofs.YtejmbbkklhpnaaaGreatDoor.nodew
namespace Go.Proofs.YtejmbbkklhpnaaaGreatDoor.flatm
open nodew
def valR (r:Nat):Nat:=if r<4503599627370496 then r else (4503599627370496+r % 4503599627370496)*2 ^ (r / 4503599627370496-1)
theorem val_low {r:Nat} (h:r<4503599627370496):valR r=r:=if_pos h
theorem val_high {r:Nat} (h:¬ r<4503599627370496):4503599627370496*2 ^ (r / 4503599627370496-1) <= valR r∧valR r<4503599627370496*2 ^ (r / 4503599627370496)∧1 <= r / 4503599627370496:=by
 have hq:1 <= r / 4503599627370496:=by omega
 have hp:=Nat.two_pow_pos (r / 4503599627370496-1)
 have hs:(2:Nat) ^ (r / 4503599627370496)=2*2 ^ (r / 4503599627370496-1):=by
  conv=>lhs; rw [show r / 4503599627370496=(r / 4503599627370496-1)+1 by omega]
  rw [Nat.pow_succ]; omega
 have hf:r % 4503599627370496<4503599627370496:=Nat.mod_lt _ (by decide)
 unfold valR
 rw [if_neg h]
 refine ⟨Nat.mul_le_mul_right _ (by omega),?_,hq⟩
 rw [hs,<- Nat.mul_assoc]
 exact Nat.mul_lt_mul_of_pos_right (by omega) hp
theorem val_inj {r s:Nat} (h:valR r=valR s):r=s:=by
 by_cases hr:r<4503599627370496
 ·by_cases hs:s<4503599627370496
  ·rwa [val_low hr,val_low hs] at h
  ·have h1:=val_high hs
   have hp:=Nat.two_pow_pos (s / 4503599627370496-1)
   have h2:4503599627370496*1 <= 4503599627370496*2 ^ (s / 4503599627370496-1):=Nat.mul_le_mul_left _ hp
   rw [val_low hr] at h
   omega
 ·have a1:=val_high hr
  by_cases hs:s<4503599627370496
  ·have hp:=Nat.two_pow_pos (r / 4503599627370496-1)
   have h2:4503599627370496*1 <= 4503599627370496*2 ^ (r / 4503599627370496-1):=Nat.mul_le_mul_left _ hp
   rw [val_low hs] at h
   omega
  ·have b1:=val_high hs
   have hq:r / 4503599627370496=s / 4503599627370496:=by
    rcases Nat.lt_trichotomy (r / 4503599627370496) (s / 4503599627370496) with hlt | heq | hlt
    ·exfalso
     have h2:(2:Nat) ^ (r / 4503599627370496) <= 2 ^ (s / 4503599627370496-1):=Nat.pow_le_pow_right (by decide) (by omega)
     have h3:=Nat.mul_le_mul_left 4503599627370496 h2
     omega
    ·exact heq
    ·exfalso
     have h2:(2:Nat) ^ (s / 4503599627370496) <= 2 ^ (r / 4503599627370496-1):=Nat.pow_le_pow_right (by decide) (by omega)
     have h3:=Nat.mul_le_mul_left 4503599627370496 h2
     omega
   unfold valR at h
   rw [if_neg hr,if_neg hs,hq] at h
   have:=Nat.eq_of_mul_eq_mul_right (Nat.two_pow_pos _) h
   omega
theorem signed_nat (s:Bool) (m k:Nat):Ieee.signed s m k=if s then -((m*2 ^ k:Nat):Int) else ((m*2 ^ k:Nat):Int):=by
 unfold Ieee.signed
 rw [Nat.shiftLeft_eq]
theorem signed_inj {s t:Bool} {m n a b:Nat} (h:Ieee.signed s m a=Ieee.signed t n b):m*2 ^ a=n*2 ^ b∧(s=t∨m*2 ^ a=0):=by
 rw [signed_nat,signed_nat] at h
 cases s <;> cases t <;> simp only [if_true,if_false,Bool.false_eq_true] at h
 ·exact ⟨by omega,.inl rfl⟩
 ·exact ⟨by omega,.inr (by omega)⟩
 ·exact ⟨by omega,.inr (by omega)⟩
 ·exact ⟨by omega,.inl rfl⟩
theorem order_scale {s t:Bool} {m n a b:Nat} {c:Int} (h:Ieee.Datum.order (.number s m (c+a)) (.number t n (c+b))=some .eq):m*2 ^ a=n*2 ^ b∧(s=t∨m*2 ^ a=0):=by
 unfold Ieee.Datum.order at h
 simp only [Option.some.injEq] at h
 have hc:=Std.LawfulEqOrd.eq_of_compare h
 have e1:(c+(a:Int)-min (c+(a:Int)) (c+(b:Int))).toNat=a-min a b:=by omega
 have e2:(c+(b:Int)-min (c+(a:Int)) (c+(b:Int))).toNat=b-min a b:=by omega
 rw [e1,e2] at hc
 obtain ⟨h1,h2⟩:=signed_inj hc
 have p1:(2:Nat) ^ a=2 ^ (a-min a b)*2 ^ (min a b):=by rw [<- Nat.pow_add]; congr 1; omega
 have p2:(2:Nat) ^ b=2 ^ (b-min a b)*2 ^ (min a b):=by rw [<- Nat.pow_add]; congr 1; omega
 refine ⟨by rw [p1,p2,<- Nat.mul_assoc,<- Nat.mul_assoc,h1],?_⟩
 rcases h2 with h2 | h2
 ·exact .inl h2
 ·exact .inr (by rw [p1,<- Nat.mul_assoc,h2,Nat.zero_mul])
theorem read_num (x:Nat) (h:x % 9223372036854775808<9218868437227405312):∃ m a:Nat,Ieee.Format.read Ieee.double x = .number (x / 9223372036854775808 % 2 == 1) m ((-1074:Int)+a)∧m*2 ^ a=valR (x % 9223372036854775808):=by
 have hw:Ieee.double.signWeight=9223372036854775808:=by kernel_rfl
 have hb:Ieee.double.binade=4503599627370496:=by kernel_rfl
 have hi:Ieee.double.infRung=9218868437227405312:=by kernel_rfl
 have hl:Ieee.double.leastPlace = -1074:=by kernel_rfl
 unfold Ieee.Format.read
 simp only [hw,hb,hi,hl]
 by_cases h1:x % 9223372036854775808<4503599627370496
 ·rw [if_pos h1]
  exact ⟨x % 9223372036854775808,0,rfl,by rw [val_low h1]; simp⟩
 ·rw [if_neg h1,if_pos h]
  refine ⟨_,_,rfl,?_⟩
  unfold valR
  rw [if_neg h1]
end Go.Proofs.YtejmbbkklhpnaaaGreatDoor.flatm
namespace Go.Proofs.YtejmbbkklhpnaaaGreatDoor.prnw
open Go.RowKit
open nodew
open flatm
theorem val_lt {r s:Nat} (h:r<s):valR r<valR s:=by
 by_cases hr:r<4503599627370496
 ·rw [val_low hr]
  by_cases hs:s<4503599627370496
  ·rw [val_low hs]; exact h
  ·have b:=val_high hs
   have hp:=Nat.two_pow_pos (s / 4503599627370496-1)
   have h2:4503599627370496*1 <= 4503599627370496*2 ^ (s / 4503599627370496-1):=Nat.mul_le_mul_left _ hp
   omega
 ·have hs:¬ s<4503599627370496:=by omega
  have a:=val_high hr
  have b:=val_high hs
  by_cases hq:r / 4503599627370496=s / 4503599627370496
  ·unfold valR
   rw [if_neg hr,if_neg hs,hq]
   exact (Nat.mul_lt_mul_right (Nat.two_pow_pos _)).2 (by omega)
  ·have hlt:r / 4503599627370496<s / 4503599627370496:=by omega
   have h2:(2:Nat) ^ (r / 4503599627370496) <= 2 ^ (s / 4503599627370496-1):=Nat.pow_le_pow_right (by decide) (by omega)
   have h3:=Nat.mul_le_mul_left 4503599627370496 h2
   omega
theorem val_le {r s:Nat} (h:r <= s):valR r <= valR s:=by
 rcases Nat.lt_or_ge r s with h1 | h1
 ·exact Nat.le_of_lt (val_lt h1)
 ·rw [show r=s by omega]; exact Nat.le_refl _
def sv (x:Nat):Int:=if x / 9223372036854775808 % 2=1 then -(valR (x % 9223372036854775808):Int) else (valR (x % 9223372036854775808):Int)
theorem cmp_scale (a b:Int) (k:Nat) (hk:0<k):compare (a*k) (b*k)=compare a b:=by
 have hk':(0:Int)<(k:Int):=by omega
 rcases Int.lt_trichotomy a b with h | h | h
 ·have h2:a*k<b*k:=Int.mul_lt_mul_of_pos_right h hk'
  rw [Int.compare_eq_ite_lt,Int.compare_eq_ite_lt,if_pos h,if_pos h2]
 ·subst h
  simp
 ·have h2:b*k<a*k:=Int.mul_lt_mul_of_pos_right h hk'
  rw [Int.compare_eq_ite_lt,Int.compare_eq_ite_lt,if_neg (by omega),if_pos h2,if_neg (by omega),if_pos h]
theorem fo_sv {x y:Nat} (fx:x % 9223372036854775808<9218868437227405312) (fy:y % 9223372036854775808<9218868437227405312):fo x y=some (compare (sv x) (sv y)):=by
 obtain ⟨m,a,e1,v1⟩:=read_num x fx
 obtain ⟨n,b,e2,v2⟩:=read_num y fy
 show Ieee.Datum.order (Ieee.Format.read Ieee.double x) (Ieee.Format.read Ieee.double y)=_
 rw [e1,e2]
 unfold Ieee.Datum.order
 simp only [Option.some.injEq]
 have q1:((-1074:Int)+(a:Int)-min (-1074+(a:Int)) (-1074+(b:Int))).toNat=a-min a b:=by omega
 have q2:((-1074:Int)+(b:Int)-min (-1074+(a:Int)) (-1074+(b:Int))).toNat=b-min a b:=by omega
 rw [q1,q2,<- cmp_scale _ _ (2 ^ min a b) (Nat.two_pow_pos _)]
 have p1:(2:Nat) ^ a=2 ^ (a-min a b)*2 ^ (min a b):=by rw [<- Nat.pow_add]; congr 1; omega
 have p2:(2:Nat) ^ b=2 ^ (b-min a b)*2 ^ (min a b):=by rw [<- Nat.pow_add]; congr 1; omega
 have r1:Ieee.signed (x / 9223372036854775808 % 2 == 1) m (a-min a b)*((2 ^ min a b:Nat):Int)=sv x:=by
  unfold sv
  rw [<- v1,p1,signed_nat]
  by_cases h:x / 9223372036854775808 % 2=1
  ·rw [if_pos (beq_iff_eq.2 h),if_pos h,Int.neg_mul,<- Nat.mul_assoc]; norm_cast
  ·rw [if_neg (by rw [beq_iff_eq]; exact h),if_neg h,<- Nat.mul_assoc]; norm_cast
 have r2:Ieee.signed (y / 9223372036854775808 % 2 == 1) n (b-min a b)*((2 ^ min a b:Nat):Int)=sv y:=by
  unfold sv
  rw [<- v2,p2,signed_nat]
  by_cases h:y / 9223372036854775808 % 2=1
  ·rw [if_pos (beq_iff_eq.2 h),if_pos h,Int.neg_mul,<- Nat.mul_assoc]; norm_cast
  ·rw [if_neg (by rw [beq_iff_eq]; exact h),if_neg h,<- Nat.mul_assoc]; norm_cast
 rw [r1,r2]
theorem sv_zero:sv 0=0:=by
 unfold sv
 rw [if_neg (by decide),val_low (by decide)]
 rfl
theorem val_zero {r:Nat} (h:valR r=0):r=0:=val_inj (h.trans (val_low (by decide)).symm)
end Go.Proofs.YtejmbbkklhpnaaaGreatDoor.prnw

/- The walks of math.Abs, IsNaN, IsInf, Signbit and of dir.Right. No conditions. -/
namespace Go.Proofs.YtejmbbkklhpnaaaGreatDoor.nodew
open Go.RowKit
theorem bits_run (x:Nat) (w:World):(callFunc 43 #[.float .f64 x]).run Tryz.prog w = .ok (.value (.int .u64 x)) w:=by
 rw [@run_callFunc_extern Tryz.prog 43 _ Extern.MathFloatBits.float64bits Tryz.func43 (by kernel_rfl) (by kernel_rfl) (by kernel_rfl) (by kernel_rfl)]
 rfl
theorem frombits_run (n:Int) (w:World):(callFunc 69 #[.int .u64 n]).run Tryz.prog w = .ok (.value (.float .f64 n.toNat)) w:=by
 rw [@run_callFunc_extern Tryz.prog 69 _ Extern.MathFloatBits.float64frombits Tryz.func69 (by kernel_rfl) (by kernel_rfl) (by kernel_rfl) (by kernel_rfl)]
 rfl
attribute [local go_sem] bits_run frombits_run
theorem run_store_float (P:Program) (w:World) (a:Addr) (m:Mode) (k:FloatKind) (b:Nat):(store a (.float k b) m).run P w=stored P w a (.float k b) m:=run_store P w a _ m rfl
attribute [local go_sem] fo_eq
def absF (x:Nat):Nat:=(bits BinOp.andNot IntKind.u64 (x:Int) 9223372036854775808).toNat
def nanF (x:Nat):Bool:=fo x x != some .eq
def infF (x:Nat):Bool:=fo (absF x) 9218868437227405311 == some .gt
def negF (x:Nat):Bool:=decide (wrap64 (x:Int)<0)
def rightF (x:Nat):Bool:=!nanF x && !infF x && !(fo x 0 == some .eq && negF x)
def geqF (x y:Nat):Bool:=fo x y == some .gt || fo x y == some .eq
def leqF (x y:Nat):Bool:=fo x y == some .lt || fo x y == some .eq
def withinF (lo hi x:Nat):Bool:=rightF x && geqF x lo && leqF x hi
theorem ret_bool {a b:Bool} (h:a=b):Ending.returned (.bool a) = .returned (.bool b):=by rw [h]
theorem abs_any (x:Nat) (w:World):Calls Tryz.prog 37 #[.float .f64 x] w fun e w'=>e = .returned (.float .f64 (absF x))∧w'=w:=by
 go_enter Tryz.func37,Tryz.ntmps37
 go_wp2
 go_ret
 exact ⟨rfl,rfl⟩
theorem isNaN_any (x:Nat) (w:World):Calls Tryz.prog 66 #[.float .f64 x] w fun e w'=>e = .returned (.bool (nanF x))∧w'=w:=by
 go_enter Tryz.func66,Tryz.ntmps66
 go_wp2
 go_ret
 exact ⟨rfl,rfl⟩
theorem signbit_any (x:Nat) (w:World):Calls Tryz.prog 68 #[.float .f64 x] w fun e w'=>e = .returned (.bool (negF x))∧w'=w:=by
 go_enter Tryz.func68,Tryz.ntmps68
 go_wp2
 go_ret
 exact ⟨rfl,rfl⟩
theorem isInf_any (x:Nat) (w:World):Calls Tryz.prog 67 #[.float .f64 x,.int .i64 0] w fun e w'=>e = .returned (.bool (infF x))∧w'=w:=by
 go_enter Tryz.func67,Tryz.ntmps67
 go_wp2_with (first | (go_at_call 37; refine (abs_any _ _).mono ?_; rintro e w' ⟨rfl,rfl⟩))
 go_ret
 exact ⟨rfl,rfl⟩
theorem right_num (x:Nat) (w:World):Calls Tryz.prog 36 #[.float .f64 x] w fun e w'=>e = .returned (.bool (rightF x))∧w'=w:=by
 go_enter Tryz.func36,Tryz.ntmps36
 go_wp2_with (first | (go_at_call 66; refine (isNaN_any _ _).mono ?_; rintro e w' ⟨rfl,rfl⟩) | (go_at_call 67; refine (isInf_any _ _).mono ?_; rintro e w' ⟨rfl,rfl⟩) | (go_at_call 68; refine (signbit_any _ _).mono ?_; rintro e w' ⟨rfl,rfl⟩))
 all_goals go_ret
 all_goals exact ⟨ret_bool (by simp_all [rightF]),rfl⟩
theorem within_any (F:Value) (lo hi x:Nat) (w:World):Calls Tryz.prog 56 #[.agg #[F,.float .f64 lo,.float .f64 hi],.float .f64 x] w fun e w'=>e = .returned (.bool (withinF lo hi x))∧Below w.heap.size w w':=by
 go_enter Tryz.func56,Tryz.ntmps56
 go_wp2_with (first | (go_at_call 36; refine (right_num _ _).mono ?_; rintro e w' ⟨rfl,rfl⟩))
 all_goals go_ret
 all_goals exact ⟨ret_bool (by simp_all [withinF,geqF,leqF]),(Below.refl _ _).alloc (Nat.le_refl _) _⟩
end Go.Proofs.YtejmbbkklhpnaaaGreatDoor.nodew

/- Small lemmas on slices for every law of this seat: a slice that reads as a list, an append onto a row of the call's own. The texts are the guide's (extra-words), as the guide bids to copy them. -/
namespace Go.Proofs.YtejmbbkklhpnaaaGreatDoor.words
open Go.RowKit
theorem block_of_add (a:Addr) (n:Nat):(a.add n).block=a.block:=by unfold Addr.add; split <;> rfl
theorem add_of_add (a:Addr) (i j:Nat):(a.add i).add j=a.add (i+j):=by
 unfold Addr.add
 by_cases hi:i=0 <;> by_cases hj:j=0 <;> simp [hi,hj,Nat.add_assoc]
def Reads (w:World) (B size:Nat) (A:Option Addr) (n:Nat) (xs:List Value):Prop :=
 xs.length=n*size∧(0<n -> ∃ ad,A=some ad∧ad.block<B ∧ ∀ j u,xs[j]? = some u -> w.cell? (ad.add j)=some u)
section
variable {w w':World} {B B' size n:Nat} {A:Option Addr} {xs:List Value}
theorem Reads.at_ {k:Nat} (h:Reads w B 1 A n xs) (hk:k<n):∃ ad u,A=some ad∧ad.block<B∧xs[k]? = some u∧w.cell? (ad.add k)=some u:=by
 obtain ⟨ad,e,hb,hc⟩:=h.2 (by omega)
 have hl:k<xs.length:=by have:=h.1; omega
 exact ⟨ad,xs[k],e,hb,List.getElem?_eq_getElem hl,hc k _ (List.getElem?_eq_getElem hl)⟩
theorem Reads.keep (h:Reads w B size A n xs) (hk:∀ p:Addr,p.block<B -> w'.cell? p=w.cell? p):Reads w' B size A n xs :=
 ⟨h.1,fun hn=>by
  obtain ⟨ad,e,hb,hc⟩:=h.2 hn
  exact ⟨ad,e,hb,fun j u hu=>(hk _ (by rw [block_of_add]; exact hb)).trans (hc j u hu)⟩⟩
theorem Reads.below (h:Reads w B size A n xs) (hb:Below B w w'):Reads w' B size A n xs:=h.keep fun _ hp=>hb.cell hp
theorem Reads.drew (h:Reads w B size A n xs):Reads w.drew B size A n xs:=h
theorem Reads.drewN (h:Reads w B size A n xs) (k:Nat):Reads (w.drewN k) B size A n xs:=h
theorem Reads.alloc (h:Reads w B size A n xs) (hB:B <= w.heap.size) (o:Obj):Reads (w.alloc o) B size A n xs:=h.keep fun p hp=>World.cell?_alloc_lt w o p (by omega)
theorem Reads.cut (h:Reads w B size A n xs) {k cap:Nat} (hk:k <= n) (hc:n <= cap) :
  Reads w B size (if cap=k then A else A.map (·.add (k*size))) (n-k) (xs.drop (k*size)):=by
 refine ⟨by rw [List.length_drop,h.1,Nat.sub_mul],fun hn => ?_⟩
 obtain ⟨ad,rfl,hb,hcell⟩:=h.2 (by omega)
 rw [if_neg (by omega)]
 refine ⟨ad.add (k*size),rfl,by rw [block_of_add]; exact hb,fun j u hu => ?_⟩
 rw [add_of_add]
 exact hcell _ u (by rw [<- hu,List.getElem?_drop])
end
section
variable {P:Program} (w:World)
theorem wpList_wanted {ops:Array Oper} {rest:List Oper} {o:Oper} {a:Act} {Q:Exit -> Act -> World -> Prop} (hw:Region.wanted o (yielded ops a.tmps)=true)
  (h:∀ K:Act -> World -> Prop,(∀ a w,wpList P ops Q rest a w -> K a w) -> o.wp P a w K Q):wpList P ops Q (o :: rest) a w :=
 wpList_step fun K hK=>by rw [if_pos hw]; exact h K hK
end
end Go.Proofs.YtejmbbkklhpnaaaGreatDoor.words

/- The walks of check's fields, part one: the closures that say where a number of a node lies; three. No conditions. -/
namespace Go.Proofs.YtejmbbkklhpnaaaGreatDoor.nodew
open Go.RowKit Go.Shelf
open words
abbrev pt (n off:Nat):Value:=.pointer (some ⟨n,off,none⟩)
def singleF:List (FuncId × Nat):=[(85,14),(86,15),(87,13),(90,16)]
def tripleF:List (FuncId × Nat):=[(84,1),(91,4),(88,7),(89,10)]
theorem single_any:∀ fc∈singleF,Enters Tryz.prog fc.1 ∧ ∀ n w,Calls Tryz.prog fc.1 #[pt n 0] w fun e w'=>e = .returned (pt n fc.2)∧w'=w:=by
 intro fc h
 simp only [singleF,List.mem_cons,List.not_mem_nil,or_false] at h
 rcases h with rfl | rfl | rfl | rfl
 ·refine ⟨enters_of Tryz.func85 (by kernel_rfl) rfl,fun n w => ?_⟩
  go_enter Tryz.func85,Tryz.ntmps85
  go_wp2
  go_ret
  exact ⟨rfl,rfl⟩
 ·refine ⟨enters_of Tryz.func86 (by kernel_rfl) rfl,fun n w => ?_⟩
  go_enter Tryz.func86,Tryz.ntmps86
  go_wp2
  go_ret
  exact ⟨rfl,rfl⟩
 ·refine ⟨enters_of Tryz.func87 (by kernel_rfl) rfl,fun n w => ?_⟩
  go_enter Tryz.func87,Tryz.ntmps87
  go_wp2
  go_ret
  exact ⟨rfl,rfl⟩
 ·refine ⟨enters_of Tryz.func90 (by kernel_rfl) rfl,fun n w => ?_⟩
  go_enter Tryz.func90,Tryz.ntmps90
  go_wp2
  go_ret
  exact ⟨rfl,rfl⟩
theorem triple_any:∀ fc∈tripleF,Enters Tryz.prog fc.1 ∧ ∀ n w,Calls Tryz.prog fc.1 #[pt n 0] w fun e w'=>e = .returned (pt n fc.2)∧w'=w:=by
 intro fc h
 simp only [tripleF,List.mem_cons,List.not_mem_nil,or_false] at h
 rcases h with rfl | rfl | rfl | rfl
 ·refine ⟨enters_of Tryz.func84 (by kernel_rfl) rfl,fun n w => ?_⟩
  go_enter Tryz.func84,Tryz.ntmps84
  go_wp2
  go_ret
  exact ⟨rfl,rfl⟩
 ·refine ⟨enters_of Tryz.func91 (by kernel_rfl) rfl,fun n w => ?_⟩
  go_enter Tryz.func91,Tryz.ntmps91
  go_wp2
  go_ret
  exact ⟨rfl,rfl⟩
 ·refine ⟨enters_of Tryz.func88 (by kernel_rfl) rfl,fun n w => ?_⟩
  go_enter Tryz.func88,Tryz.ntmps88
  go_wp2
  go_ret
  exact ⟨rfl,rfl⟩
 ·refine ⟨enters_of Tryz.func89 (by kernel_rfl) rfl,fun n w => ?_⟩
  go_enter Tryz.func89,Tryz.ntmps89
  go_wp2
  go_ret
  exact ⟨rfl,rfl⟩
theorem pick_any (g:FuncId) (c b1 b2 i n:Nat) (hg:(g,c)∈tripleF) (hi:i<3) (w:World) (h1:Boxed w b1 148 (.func (.func g) #[] #[])) (h2:Boxed w b2 3 (.int .i64 i)) :
  Calls Tryz.prog 115 #[pt n 0,pt b1 0,pt b2 0] w fun e w'=>e = .returned (pt n (c+i)) ∧ ∃ m,w'=w.drewN m:=by
 obtain ⟨hE,hC⟩:=triple_any _ hg
 dsimp only at hE hC
 have c1:=h1.cell
 have c2:=h2.cell
 have hE':∀ (args:Array Value) (w:World),(callFunc g args).run Tryz.prog w = .ok (.enter g args) w:=hE
 have hi0:(0:Int) <= (i:Int):=by omega
 have hi3:(i:Int)<3:=by omega
 go_enter Tryz.func115,Tryz.ntmps115
 go_wp2_with fail
 go_quiet (first | (refine Calls.quiet_of_same (hC _ _)))
 go_wp2
 go_ret
 exact ⟨rfl,nq,rfl⟩
def FieldFn (w:World) (B:Nat) (F:Value) (off:Nat):Prop :=
  (∃ f,F = .func (.func f) #[] #[]∧(f,off)∈singleF) ∨
  (∃ g b1 b2 c i,F = .func (.func 115) #[] #[pt b1 0,pt b2 0]∧(g,c)∈tripleF∧B <= b1∧B <= b2∧i<3∧off=c+i ∧
    Boxed w b1 148 (.func (.func g) #[] #[])∧Boxed w b2 3 (.int .i64 i))
theorem FieldFn.kept {w w':World} {B:Nat} {F:Value} {off:Nat} (h:FieldFn w B F off) (hk:∀ b t v,B <= b -> Boxed w b t v -> t ≠ 114 -> Boxed w' b t v):FieldFn w' B F off:=by
 rcases h with h | ⟨g,b1,b2,c,i,hF,hg,h1,h2,hi,ho,x1,x2⟩
 ·exact .inl h
 ·exact .inr ⟨g,b1,b2,c,i,hF,hg,h1,h2,hi,ho,hk _ _ _ h1 x1 (by decide),hk _ _ _ h2 x2 (by decide)⟩
theorem FieldFn.drew {w:World} {B:Nat} {F:Value} {off:Nat} (h:FieldFn w B F off):FieldFn w.drew B F off:=h
theorem FieldFn.drewN {w:World} {B:Nat} {F:Value} {off:Nat} (h:FieldFn w B F off) (n:Nat):FieldFn (w.drewN n) B F off:=h
theorem FieldFn.alloc {w:World} {B:Nat} {F:Value} {off:Nat} (h:FieldFn w B F off) (o:Obj):FieldFn (w.alloc o) B F off:=h.kept fun _ _ _ _ hb _=>hb.alloc o
theorem FieldFn.calls {w:World} {B:Nat} {F:Value} {off:Nat} (h:FieldFn w B F off):∃ f caps,F = .func (.func f) #[] caps∧Enters Tryz.prog f ∧
  ∀ w' n,FieldFn w' B F off -> Calls Tryz.prog f (#[pt n 0] ++ caps) w' fun e w''=>e = .returned (pt n off) ∧ ∃ m,w''=w'.drewN m:=by
 have key:∃ f caps,F = .func (.func f) #[] caps∧Enters Tryz.prog f:=by
  rcases h with ⟨f,hF,hf⟩ | ⟨g,b1,b2,c,i,hF,hg,h1,h2,hi,rfl,x1,x2⟩
  ·exact ⟨f,#[],hF,(single_any _ hf).1⟩
  ·exact ⟨_,_,hF,enters_of Tryz.func115 (by kernel_rfl) rfl⟩
 obtain ⟨f,caps,hF,hE⟩:=key
 refine ⟨f,caps,hF,hE,fun w' n h' => ?_⟩
 rcases h' with ⟨f',hF',hf⟩ | ⟨g,b1,b2,c,i,hF',hg,h1,h2,hi,rfl,x1,x2⟩
 ·rw [hF] at hF'
  injection hF' with e1 e2 e3
  injection e1 with e1
  subst e1 e3
  obtain ⟨hE,hC⟩:=single_any _ hf
  exact (hC n w').mono fun e w'' ⟨he,hw⟩=>⟨he,0,hw⟩
 ·rw [hF] at hF'
  injection hF' with e1 e2 e3
  injection e1 with e1
  subst e1 e3
  exact pick_any g c b1 b2 i n hg hi w' x1 x2
structure Fd where
 F:Value
 off:Nat
 lo:Nat
 hi:Nat
def Fd.cells (d:Fd):List Value:=[d.F,.float .f64 d.lo,.float .f64 d.hi]
def Fd.val (d:Fd):Value:=.agg #[d.F,.float .f64 d.lo,.float .f64 d.hi]
def Fd.tri (d:Fd):Nat × Nat × Nat:=(d.off,d.lo,d.hi)
def fcells (l:List Fd):List Value:=l.flatMap Fd.cells
def FOk (w:World) (B:Nat) (l:List Fd):Prop:=∀ d∈l,FieldFn w B d.F d.off
theorem fcells_app (l m:List Fd):fcells (l ++ m)=fcells l ++ fcells m:=by simp [fcells]
theorem fcells_get (l:List Fd) (i j:Nat) (hi:i<l.length) (hj:j<3):(fcells l)[i*3+j]? = (l[i]).cells[j]?:=by
 induction l generalizing i with
 | nil=>simp at hi
 | cons t r ih =>
  have hc:(fcells (t :: r))=t.cells ++ fcells r:=by simp [fcells]
  have hl:t.cells.length=3:=rfl
  rw [hc]
  cases i with
  | zero=>rw [List.getElem?_append_left (by omega),Nat.zero_mul,Nat.zero_add]; rfl
  | succ i =>
   rw [List.getElem?_append_right (by omega),hl,show (i+1)*3+j-3=i*3+j from by omega,ih i (by simpa using hi)]
   rfl
theorem fcells_one (l:List Fd):∀ u∈fcells l,(∀ d∈l,d.F.oneCell'=true) -> u.oneCell'=true:=by
 intro u hu hF
 simp only [fcells,List.mem_flatMap] at hu
 obtain ⟨d,hd,hu⟩:=hu
 simp only [Fd.cells,List.mem_cons,List.not_mem_nil,or_false] at hu
 rcases hu with rfl | rfl | rfl
 ·exact hF d hd
 ·rfl
 ·rfl
theorem FieldFn.one {w:World} {B:Nat} {F:Value} {off:Nat} (h:FieldFn w B F off):F.oneCell'=true:=by
 rcases h with ⟨f,rfl,_⟩ | ⟨g,b1,b2,c,i,rfl,_⟩
 ·rfl
 ·rfl
theorem FOk.one {w:World} {B:Nat} {l:List Fd} (h:FOk w B l):∀ u∈fcells l,u.oneCell'=true:=fun u hu=>fcells_one l u hu fun d hd=>(h d hd).one
theorem FOk.kept {w w':World} {B:Nat} {l:List Fd} (h:FOk w B l) (hk:∀ b t v,B <= b -> Boxed w b t v -> t ≠ 114 -> Boxed w' b t v):FOk w' B l:=fun d hd=>(h d hd).kept hk
theorem FOk.grown {w w':World} {B base n:Nat} {l:List Fd} {v:Value} {xs:List Value} (h:FOk w B l) (hr:w.ownsRow base 114 3 v n xs) (hg:w.grownBy w' v.ownBlock):FOk w' B l :=
 h.kept fun _ _ _ _ hb ht=>hb.kept hg (hb.not_row ht hr)
theorem FOk.alloc {w:World} {B:Nat} {l:List Fd} (h:FOk w B l) (o:Obj):FOk (w.alloc o) B l:=h.kept fun _ _ _ _ hb _=>hb.alloc o
theorem FOk.below {w w':World} {B B':Nat} {l:List Fd} (h:FOk w B l) (hb:Below B' w w') (hs:w.heap.size <= B'):FOk w' B l :=
 h.kept fun b _ _ _ hx _=>(hb.block b (Nat.lt_of_lt_of_le hx.lt hs)).trans hx
theorem FOk.le {w:World} {B B':Nat} {l:List Fd} (h:FOk w B l) (hB:B' <= B):FOk w B' l:=fun d hd=>by
 rcases h d hd with h | ⟨g,b1,b2,c,i,hF,hg,h1,h2,r⟩
 ·exact .inl h
 ·exact .inr ⟨g,b1,b2,c,i,hF,hg,Nat.le_trans hB h1,Nat.le_trans hB h2,r⟩
theorem FOk.app {w:World} {B:Nat} {l m:List Fd} (h:FOk w B l) (h':FOk w B m):FOk w B (l ++ m):=fun d hd=>by
 rcases List.mem_append.1 hd with hd | hd
 ·exact h d hd
 ·exact h' d hd
theorem own_base {W:World} {base:Nat} {e:TypeId} {size:Nat} {v:Value} {k:Nat} {xs:List Value} (h:W.ownsRow base e size v k xs) {r:Nat} (hr:v.ownBlock=some r):base <= r:=by
 rcases h.2 with ⟨rfl,h0⟩ | ⟨g,cap,_,rfl,hb,_⟩
 ·cases hr
 ·cases hr; exact hb
theorem cells_new (W:World) (news:List Value) (t:TypeId):∀ j u,news[j]? = some u -> (W.alloc (.cells news.toArray t)).cell? ((⟨W.heap.size,0,none⟩:Addr).add j)=some u:=by
 intro j u hu
 have hadd:(⟨W.heap.size,0,none⟩:Addr).add j=⟨W.heap.size,j,none⟩:=by unfold Addr.add; split <;> simp_all
 have hb:(W.alloc (.cells news.toArray t)).heap[W.heap.size]? = some (.cells news.toArray t (0,0)):=heap_alloc_new W _
 rw [hadd,cell_of_row _ _ j news.toArray t (0,0) hb]
 simpa using hu
theorem Tryz.fieldInfo:(Tryz.prog.info? 114).map (fun i=>(i.zero,i.size,i.bytes))=some (some (.agg #[.nilFunc,.float .f64 0,.float .f64 0]),3,24):=by kernel_rfl
set_option maxRecDepth 100000 in
set_option maxHeartbeats 2000000 in
theorem three_any (g:FuncId) (c lo hi:Nat) (hg:(g,c)∈tripleF) (w:World) :
  Calls Tryz.prog 83 #[.func (.func g) #[] #[],.float .f64 lo,.float .f64 hi] w fun e w'=>∃ v l,e = .returned v∧w'.ownsRow w.heap.size 114 3 v l.length (fcells l)∧FOk w' w.heap.size l ∧
   l.map Fd.tri=(List.range 3).map (fun j=>(c+j,lo,hi))∧Below w.heap.size w w':=by
 obtain ⟨i0,hi0,hz0,hz1,hz2⟩:=info_parts Tryz.fieldInfo
 go_enter Tryz.func83,Tryz.ntmps83
 go_wp2
 go_loopw [7,9] (fun v i wr=>∃ (k:Nat) (l:List Fd),k <= 3∧i = .int .i64 k∧l.length=k∧wr.ownsRow w.heap.size 114 3 v k (fcells l)∧FOk wr w.heap.size l∧l.map Fd.tri=(List.range k).map (fun j=>(c+j,lo,hi)) ∧
   Boxed wr w.heap.size 148 (.func (.func g) #[] #[])∧Below w.heap.size w wr)
  (fun _ i _=>3-(intOf i).toNat)
 case atStart=>exact ⟨0,[],by omega,rfl,rfl,World.ownsRow_nil _ _ _ _,by intro d hd; simp at hd,rfl,Boxed.new _ _ _,(Below.refl _ _).alloc (Nat.le_refl _) _⟩
 case round =>
  obtain ⟨k,l,hk,rfl,hl,hown,hF,htri,hbx,hB⟩:=hrel
  have hmf:∀ (fn:Fn) (first cap:Array Value) (w:World),(Instr.makeFunc fn first cap).run Tryz.prog w = .ok (.func fn first cap) w:=fun _ _ _ _=>rfl
  have hbs:=hB.size
  by_cases hk3:k<3
  ·obtain ⟨d,hd⟩:∃ d:Fd,d=⟨.func (.func 115) #[] #[pt w.heap.size 0,pt wr.heap.size 0],c+k,lo,hi⟩:=⟨_,rfl⟩
   have ho2:=(hown.alloc (.cells #[.int .i64 k] 3)).alloc (.cells d.cells.toArray 114)
   have hF2:=(hF.alloc (.cells #[.int .i64 k] 3)).alloc (.cells d.cells.toArray 114)
   have hbx2:=(hbx.alloc (.cells #[.int .i64 k] 3)).alloc (.cells d.cells.toArray 114)
   have hbi:=(Boxed.new wr 3 (.int .i64 k)).alloc (.cells d.cells.toArray 114)
   have hB2:=(hB.alloc (by omega) (.cells #[.int .i64 k] 3)).alloc (by simp; omega) (.cells d.cells.toArray 114)
   have hnews:=cells_new (wr.alloc (.cells #[.int .i64 k] 3)) d.cells 114
   subst hd
   dsimp only [Fd.cells] at ho2 hF2 hbx2 hbi hB2 hnews
   go_wp2_with (first
    | (at_builtin; refine wpList_append_own _ rfl _ _ 110 rfl w.heap.size 114 i0 (.agg #[.nilFunc,.float .f64 0,.float .f64 0]) 3 24 Tryz.underlying110 hi0 hz0 hz1 hz2 rfl (by decide) _ _ _ rfl ho2 ⟨wr.heap.size+1,0,none⟩ 1 1 [.func (.func 115) #[] #[pt w.heap.size 0,pt wr.heap.size 0],.float .f64 lo,.float .f64 hi] rfl rfl ?c1 ?c2 ?c3 ?c4 ?c5 ?_))
   case c1=>simpa using hnews
   case c2=>intro u hu; simp at hu; rcases hu with rfl | rfl | rfl <;> rfl
   case c3=>unfold maxLen; omega
   case c4=>omega
   case c5=>simp; omega
   intro v' w1 hown' hgrow _
   have hgr:=hgrow
   have hFd:FOk w1 w.heap.size (l ++ [⟨.func (.func 115) #[] #[pt w.heap.size 0,pt wr.heap.size 0],c+k,lo,hi⟩]):=by
    refine (hF2.grown ho2 hgr).app ?_
    intro d hd
    simp only [List.mem_cons,List.not_mem_nil,or_false] at hd
    subst hd
    exact .inr ⟨g,_,_,c,k,rfl,hg,Nat.le_refl _,hbs,hk3,rfl,hbx2.kept hgr (hbx2.not_row (by decide) ho2),hbi.kept hgr (hbi.not_row (by decide) ho2)⟩
   have hbx3:Boxed w1 w.heap.size 148 (.func (.func g) #[] #[]):=hbx2.kept hgr (hbx2.not_row (by decide) ho2)
   have hB3:Below w.heap.size w w1:=hB2.grown hgr (by simp; omega) (fun r e=>own_base ho2 e)
   have ho3:w1.ownsRow w.heap.size 114 3 v' (k+1) (fcells (l ++ [⟨.func (.func 115) #[] #[pt w.heap.size 0,pt wr.heap.size 0],c+k,lo,hi⟩])):=by
    rw [fcells_app]; exact hown'
   have htri':(l ++ [(⟨.func (.func 115) #[] #[pt w.heap.size 0,pt wr.heap.size 0],c+k,lo,hi⟩:Fd)]).map Fd.tri=(List.range (k+1)).map (fun j=>(c+j,lo,hi)):=by
    rw [List.map_append,htri,List.range_succ,List.map_append]; rfl
   clear hown' hgrow hgr ho2 hF2 hbx2 hbi hB2 hnews hF hown hbx
   go_wp2
   go_roundw
   case rel=>exact ⟨k+1,_,by omega,by go_num,by rw [List.length_append,hl]; rfl,ho3,hFd,htri',hbx3,hB3⟩
   case measure=>simp [intOf]; omega
  ·obtain rfl:k=3:=by omega
   go_wp2_with fail
   go_ret
   exact ⟨_,l,rfl,by rw [hl]; exact hown,hF,htri,hB⟩
end Go.Proofs.YtejmbbkklhpnaaaGreatDoor.nodew
