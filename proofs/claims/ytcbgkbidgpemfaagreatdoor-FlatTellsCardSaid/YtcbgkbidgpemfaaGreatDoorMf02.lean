/- A node as a list of numbers; the walk of check.Node, its first part. -/
import Derived.Test.YtcbgkbidgpemfaaGreatDoorMf00
import Derived.Test.YtcbgkbidgpemfaaGreatDoorMf01
import Derived.Test.YtcbgkbidgpemfaaGreatDoorProg
import Derived.Laws.BitsAllLaws
import Derived.Deep.Cut
import Derived.Deep.CutRange
import Derived.Deep.MidRow
import Derived.Laws.CopyOwn
import Derived.Laws.Tables
import Derived.RangeFuncIn
import Derived.RangeFuncRecord
import Derived.RangeFuncSeq
import Derived.RangeFuncNested
import Derived.ControlIn
import Derived.WalkKit
import Derived.Shelf.Strconv.Itoa0
import Derived.Shelf.Strconv.Itoa1
import Derived.Shelf.Strconv.Itoa2
import Derived.Shelf.Strconv.Itoa3
import Derived.Shelf.LaysM
import Derived.Shelf.Bits.Mul64
import Derived.Shelf.Strings.OnBuilder
import Derived.Shelf.Strings.BuilderK
import Derived.Shelf.Strconv.Atoi
import Derived.Shelf.Strings.Cut
import Derived.Shelf.Strings.Split
import Derived.Shelf.Strings.Replace
import Derived.Shelf.Strings.Repeat
import Derived.Shelf.Small.Wraps
import Derived.Shelf.Strconv.Clone
import Derived.Shelf.Strconv.SyntaxError
import Derived.Shelf.LaysC
import Derived.Shelf.Strconv.ToError
import Derived.Shelf.Strconv.Lower
import Derived.Shelf.Strconv.RangeError
import Derived.Shelf.Strconv.ToErrorRange
import Derived.Shelf.Strings.Prefix
import Derived.Shelf.Strings.Builder1
import Derived.Shelf.Strings.Builder2
import Derived.Shelf.Small.Strs
import Derived.Shelf.Strings.BuilderF
import Derived.Shelf.Strings.Search1
import Derived.Shelf.Strings.Search2
import Derived.Shelf.Strings.Search3
import Derived.Shelf.Strings.Shaped
set_option maxRecDepth 100000
set_option maxHeartbeats 4000000
namespace Go.Proofs.YtcbgkbidgpemfaaGreatDoor.nodew
open Go.RowKit Go.Shelf
open words
attribute [local go_sem] run_store_float
theorem idx_run (a b:Int) (w:World):(Instr.index 121 (.agg #[.int .i64 a,.int .i64 b]) (.int .i64 0)).run Tryz.prog w = .ok (.int .i64 a) w:=by
 simp [Instr.index,asIntOf,run_underlying Tryz.underlying121,go_sem,part,Tryz.sizeOf3,Tryz.isAgg3]
theorem idx_run1 (a b:Int) (w:World):(Instr.index 121 (.agg #[.int .i64 a,.int .i64 b]) (.int .i64 1)).run Tryz.prog w = .ok (.int .i64 b) w:=by
 simp [Instr.index,asIntOf,run_underlying Tryz.underlying121,go_sem,part,Tryz.sizeOf3,Tryz.isAgg3]
attribute [local go_sem] idx_run idx_run1
structure Nd where
 kind:Nat
 x:List Nat
 a:Int
 b:Int
deriving DecidableEq
def Nd.f (n:Nd) (j:Nat):Nat:=n.x.getD (j-1) 0
def Nd.cells (n:Nd):List Value :=
  [.int .u8 n.kind,.float .f64 (n.f 1),.float .f64 (n.f 2),.float .f64 (n.f 3),.float .f64 (n.f 4),.float .f64 (n.f 5),.float .f64 (n.f 6),.float .f64 (n.f 7),.float .f64 (n.f 8),.float .f64 (n.f 9),.float .f64 (n.f 10),.float .f64 (n.f 11),.float .f64 (n.f 12),
   .float .f64 (n.f 13),.float .f64 (n.f 14),.float .f64 (n.f 15),.float .f64 (n.f 16),.int .i64 n.a,.int .i64 n.b]
def Nd.val (n:Nd):Value:=.agg n.cells.toArray
def Nd.zero (n:Nd) (j:Nat):Nd:={ n with x:=n.x.set (j-1) 0 }
theorem Nd.cell_f (n:Nd) (j:Nat) (h1:1 <= j) (h2:j <= 16):n.cells[j]? = some (.float .f64 (n.f j)):=by
 have:j=1∨j=2∨j=3∨j=4∨j=5∨j=6∨j=7∨j=8∨j=9∨j=10∨j=11∨j=12∨j=13∨j=14∨j=15∨j=16:=by omega
 rcases this with rfl | rfl | rfl | rfl | rfl | rfl | rfl | rfl | rfl | rfl | rfl | rfl | rfl | rfl | rfl | rfl <;> rfl
def NBlk (w:World) (nb:Nat) (n:Nd):Prop:=w.heap[nb]? = some (.cells n.cells.toArray 49 (0,0))
theorem NBlk.cell {w:World} {nb:Nat} {n:Nd} (h:NBlk w nb n) (i:Nat):w.cell? ⟨nb,i,none⟩=n.cells[i]?:=by
 rw [cell_of_row w nb i n.cells.toArray 49 (0,0) h]; simp
theorem fieldList_range (k:Nat):∀ d∈fieldList k,1 <= d.1∧d.1 <= 16:=by
 intro d hd;unfold fieldList at hd
 repeat' split at hd
 all_goals simp only [List.mem_cons,List.not_mem_nil,or_false] at hd
 all_goals (repeat' rcases hd with rfl | hd)
 all_goals first | (subst hd; decide) | decide | (cases hd)
def ndOk (n:Nd) (l:List (Nat × Nat × Nat)):Bool:=l.all fun d=>withinF d.2.1 d.2.2 (n.f d.1)
theorem NBlk.below {w w':World} {nb:Nat} {n:Nd} {B:Nat} (h:NBlk w nb n) (hb:Below B w w') (hn:nb<B):NBlk w' nb n:=(hb.block nb hn).trans h
theorem NBlk.load {w:World} {nb:Nat} {n:Nd} (h:NBlk w nb n):(loadVar 49 ⟨nb,0,none⟩).run Tryz.prog w = .ok n.val w :=
 run_loadVar_row w nb _ _ _ _ _ h Tryz.underlying49 rfl (by kernel_rfl)
theorem NBlk.loadAt {w:World} {nb:Nat} {n:Nd} (h:NBlk w nb n):(Instr.loadAt 49 (.pointer (some ⟨nb,0,none⟩))).run Tryz.prog w = .ok n.val w:=by
 simp only [Instr.loadAt,Instr.sureAddr,Sem.run_bind,Sem.run_pure,Result.andThen_ok,h.load]
theorem wpList_load_nd_g (w:World) {ops:Array Oper} {rest:List Oper} {o:Oper} {a:Act} {Q:Exit -> Act -> World -> Prop} (hgd:Region.wanted o (yielded ops a.tmps)=true) (x:Operand)
  (ho:o.op = .load 49 x) (g:Nat) (hx:a.eval x = .pointer (some ⟨g,0,none⟩)) (n:Nd) (hg:NBlk w g n)
  (h:wpList Tryz.prog ops Q rest (a.put o.dst n.val) w):wpList Tryz.prog ops Q (o :: rest) a w :=
 wpList_wanted w hgd fun _ hK=>wp_load_row _ x ho g hx _ _ _ _ hg Tryz.underlying49 rfl (by kernel_rfl) (hK _ _ h)
theorem below_drewN' {B:Nat} {a w:World} (h:Below B a w) (n:Nat):Below B a (w.drewN n):=⟨h.os,h.tape,h.output,h.size,h.block⟩
def FRow (w:World) (B:Nat) (v:Value) (l:List Fd):Prop:=∃ A c,v = .slice A l.length c ∧ ∀ k (hk:k<l.length),∃ g,A=some ⟨g,0,none⟩∧B <= g∧g<w.heap.size ∧
 w.cell? ⟨g,k*3,none⟩=some l[k].F∧w.cell? ⟨g,k*3+1,none⟩=some (.float .f64 l[k].lo)∧w.cell? ⟨g,k*3+2,none⟩=some (.float .f64 l[k].hi)
theorem FRow.of_own {w:World} {B:Nat} {v:Value} {l:List Fd} (h:w.ownsRow B 129 3 v l.length (fcells l)):FRow w B v l:=by
 rcases Nat.eq_zero_or_pos l.length with h0 | h0
 ·rcases h.2 with ⟨rfl,_⟩ | ⟨g,cap,_,rfl,_⟩
  ·exact ⟨_,_,by rw [h0],fun k hk=>by omega⟩
  ·exact ⟨_,_,rfl,fun k hk=>by omega⟩
 ·obtain ⟨g,cap,rfl,hg,hgl,hxl,hc⟩:=row_at h h0;refine ⟨_,_,rfl,fun k hk=>⟨g,rfl,hg,hgl,?_⟩⟩;have hadd:∀ j,(⟨g,0,none⟩:Addr).add j=⟨g,j,none⟩:=fun j=>by unfold Addr.add; split <;> simp_all
  have h0:=hc (k*3+0) _ ((fcells_get l k 0 hk (by omega)).trans rfl);have h1:=hc (k*3+1) _ ((fcells_get l k 1 hk (by omega)).trans rfl);have h2:=hc (k*3+2) _ ((fcells_get l k 2 hk (by omega)).trans rfl);rw [hadd] at h0 h1 h2;exact ⟨h0,h1,h2⟩
theorem list_all_take {α:Type} (p:α -> Bool) (l:List α) (k:Nat) (hk:k<l.length) (h:(l.take k).all p=true):((l.take (k+1)).all p=true)↔p l[k]=true:=by
 rw [List.take_add_one,List.all_append,h,List.getElem?_eq_getElem hk];simp
theorem nd_zero_cells (n:Nd) (hl:n.x.length=16) (j:Nat) (h1:1 <= j) (h2:j <= 16):(n.zero j).cells=n.cells.set j (.float .f64 0):=by
 obtain ⟨k,x,a,b⟩:=n;simp only at hl
 match x,hl with
 | [x1,x2,x3,x4,x5,x6,x7,x8,x9,x10,x11,x12,x13,x14,x15,x16],_ =>
  have:j=1∨j=2∨j=3∨j=4∨j=5∨j=6∨j=7∨j=8∨j=9∨j=10∨j=11∨j=12∨j=13∨j=14∨j=15∨j=16:=by omega
  rcases this with rfl | rfl | rfl | rfl | rfl | rfl | rfl | rfl | rfl | rfl | rfl | rfl | rfl | rfl | rfl | rfl <;> rfl
theorem NBlk.frozen {w:World} {nb:Nat} {n:Nd} (h:NBlk w nb n) (i:Nat):w.frozen? ⟨nb,i,none⟩=false:=by
 simp [World.frozen?,show w.heap[nb]? = _ from h]
theorem NBlk.zero {w:World} {nb:Nat} {n:Nd} (h:NBlk w nb n) (hl:n.x.length=16) (j:Nat) (h1:1 <= j) (h2:j <= 16):NBlk (w.setCell ⟨nb,j,none⟩ (.float .f64 0)) nb (n.zero j):=by
 obtain ⟨hlt,hk⟩:=Array.getElem?_eq_some_iff.1 h;show (w.heap.modify nb _)[nb]? = _;rw [Array.getElem?_eq_getElem (by rw [Array.size_modify]; exact hlt),Array.getElem_modify_self,hk,nd_zero_cells n hl j h1 h2];simp
theorem NBlk.alloc {w:World} {nb:Nat} {n:Nd} (h:NBlk w nb n) (o:Obj):NBlk (w.alloc o) nb n:=by
 have hlt:=(Array.getElem?_eq_some_iff.1 h).1;show (w.heap.push o)[nb]? = _;rw [Array.getElem?_push_lt hlt];exact (Array.getElem?_eq_getElem hlt).symm.trans h
theorem NBlk.drewN {w:World} {nb:Nat} {n:Nd} (h:NBlk w nb n) (m:Nat):NBlk (w.drewN m) nb n:=h
def Nd.zeros (n:Nd) (l:List Nat):Nd:=l.foldl Nd.zero n
theorem Nd.zero_len (n:Nd) (j:Nat):(n.zero j).x.length=n.x.length:=by simp [Nd.zero]
theorem Nd.zeros_len (n:Nd) (l:List Nat):(n.zeros l).x.length=n.x.length:=by
 induction l generalizing n with
 | nil=>rfl
 | cons j r ih=>exact (ih (n.zero j)).trans (n.zero_len j)
theorem Nd.zeros_kind (n:Nd) (l:List Nat):(n.zeros l).kind=n.kind∧(n.zeros l).a=n.a∧(n.zeros l).b=n.b:=by
 induction l generalizing n with
 | nil=>exact ⟨rfl,rfl,rfl⟩
 | cons j r ih=>exact ih (n.zero j)
theorem Nd.zeros_snoc (n:Nd) (l:List Nat) (j:Nat):n.zeros (l ++ [j])=(n.zeros l).zero j:=by simp [Nd.zeros]
def inOk (n:Nd) (d:Fd):Bool:=withinF d.lo d.hi (n.f d.off)
def belowN (k:Nat):Nat:=if k=5 then 2 else if k=6 then 1 else 0
theorem cbelow_any (k:Nat) (w:World):Calls Tryz.prog 77 #[.int .u8 k] w fun e w'=>e = .returned (.int .i64 (belowN k))∧w'=w:=by
 by_cases h5:k=5
 ·subst h5;go_enter Tryz.func77,Tryz.ntmps77;go_wp2;go_ret;exact ⟨rfl,rfl⟩
 ·by_cases h6:k=6
  ·subst h6;go_enter Tryz.func77,Tryz.ntmps77;go_wp2;go_ret;exact ⟨rfl,rfl⟩
  ·have e5:((k:Int) == 5)=false:=Yf (by omega)
   have e6:((k:Int) == 6)=false:=Yf (by omega)
   have hb:belowN k=0:=by unfold belowN; rw [if_neg h5,if_neg h6]
   rw [hb];go_enter Tryz.func77,Tryz.ntmps77;go_wp2;go_ret;exact ⟨rfl,rfl⟩
def placeOk (used:Bool) (k at_:Int):Bool:=if used then decide (0 <= k) && decide (k<at_) else decide (k=0)
def bare (n:Nd):Bool:=(List.range 16).all fun j=>n.f (j+1) == 0
def offs (k:Nat):List Nat:=(fieldList k).map (·.1)
def nodeOk (n:Nd) (at_:Int):Bool :=
 ndOk n (fieldList n.kind) && placeOk (decide (0<belowN n.kind)) n.a at_ && placeOk (decide (1<belowN n.kind)) n.b at_ && decide (0<(fieldList n.kind).length) && bare (n.zeros (offs n.kind))
theorem nodeOk_a (n nz:Nd) (hz:nz.kind=n.kind∧nz.a=n.a∧nz.b=n.b) (at_:Int) (h:placeOk (decide (0<belowN nz.kind)) nz.a at_=false):nodeOk n at_=false:=by
 rw [hz.1,hz.2.1] at h; simp [nodeOk,h]
theorem nodeOk_b (n nz:Nd) (hz:nz.kind=n.kind∧nz.a=n.a∧nz.b=n.b) (at_:Int) (h:placeOk (decide (1<belowN nz.kind)) nz.b at_=false):nodeOk n at_=false:=by
 rw [hz.1,hz.2.2] at h; simp [nodeOk,h]
theorem place_a1 (q:Nat) (k at_:Int) (h1:0<q) (h:0 <= k∧k<at_):placeOk (decide (0<q)) k at_=true:=by simp [placeOk,h1,h.1,h.2]
theorem place_a2 (q:Nat) (k at_:Int) (h1:¬ 0<q) (h:(k != 0)=false):placeOk (decide (0<q)) k at_=true:=by simp at h; simp [placeOk,h1,h]
theorem place_b1 (q:Nat) (k at_:Int) (h1:1<(q:Int)) (h:0 <= k∧k<at_):placeOk (decide (1<q)) k at_=true:=by
 have h2:1<q:=by omega
 simp [placeOk,h2,h.1,h.2]
theorem place_b2 (q:Nat) (k at_:Int) (h1:¬ 1<(q:Int)) (h:(k != 0)=false):placeOk (decide (1<q)) k at_=true:=by
 have h2:¬ 1<q:=by omega
 simp at h;simp [placeOk,h2,h]
theorem place_a3 (q:Nat) (k at_:Int) (h1:0<q) (h:k<0∨at_ <= k):placeOk (decide (0<q)) k at_=false:=by simp [placeOk,h1]; omega
theorem place_a4 (q:Nat) (k at_:Int) (h1:¬ 0<q) (h:(k != 0)=true):placeOk (decide (0<q)) k at_=false:=by simp at h; simp [placeOk,h1,h]
theorem place_b3 (q:Nat) (k at_:Int) (h1:1<(q:Int)) (h:k<0∨at_ <= k):placeOk (decide (1<q)) k at_=false:=by
 have h2:1<q:=by omega
 simp [placeOk,h2]; omega
theorem place_b4 (q:Nat) (k at_:Int) (h1:¬ 1<(q:Int)) (h:(k != 0)=true):placeOk (decide (1<q)) k at_=false:=by
 have h2:¬ 1<q:=by omega
 simp at h;simp [placeOk,h2,h]
theorem Nd.zeros_lt (n:Nd) (hx:∀ v∈n.x,v<18446744073709551616) (l:List Nat):∀ v∈(n.zeros l).x,v<18446744073709551616:=by
 induction l generalizing n with
 | nil=>exact hx
 | cons j r ih =>
  refine ih (n.zero j) fun v hv => ?_
  rcases List.mem_or_eq_of_mem_set hv with h | h
  ·exact hx v h
  ·omega
theorem or_zero (x y:Nat) (hx:x<18446744073709551616) (hy:y<18446744073709551616):∃ z:Nat,z<18446744073709551616∧bits .or .u64 (x:Int) (y:Int)=(z:Int)∧(z=0↔x=0∧y=0) :=
 ⟨x ||| y,Nat.or_lt_two_pow (n:=64) hx hy,u64_or_nat x y hx hy,Nat.or_eq_zero_iff⟩
theorem Nd.f_lt (n:Nd) (hx:∀ v∈n.x,v<18446744073709551616) (j:Nat):n.f j<18446744073709551616:=by
 unfold Nd.f;rw [List.getD_eq_getElem?_getD]
 cases h:n.x[j-1]? with
 | none=>simp
 | some v=>exact hx v (List.mem_of_getElem? h)
theorem bare_iff (n:Nd):bare n=true ↔ ∀ j,j<16 -> n.f (j+1)=0:=by
 simp [bare]
attribute [local go_sem] bits_run
theorem bits_any (n:Nd) (hx:∀ v∈n.x,v<18446744073709551616) (_hx16:n.x.length=16) (w:World) :
  Calls Tryz.prog 78 #[n.val] w fun e w'=>e = .returned (.bool (bare n))∧Below w.heap.size w w':=by
 have hf:=n.f_lt hx;obtain ⟨z1,l1,e1,q1⟩:=or_zero (n.f 13) (n.f 14) (hf _) (hf _);obtain ⟨z2,l2,e2,q2⟩:=or_zero z1 (n.f 15) l1 (hf _);obtain ⟨z3,l3,e3,q3⟩:=or_zero z2 (n.f 16) l2 (hf _);have hb0:NBlk (w.alloc (.cells n.cells.toArray 49)) w.heap.size n:=heap_alloc_new w _;have hB0:Below w.heap.size w (w.alloc (.cells n.cells.toArray 49)):=(Below.refl _ w).alloc (Nat.le_refl _) _;have HF:=Yd hf;have Q1:=Yd (And.intro q1 (And.intro q2 q3));clear hf hx q1 q2 q3;go_enter Tryz.func78,Tryz.ntmps78;unfold Nd.val;go_upto_region 1 with (fail);have hc:∀ j,1 <= j -> j <= 16 -> (w.alloc (.cells n.cells.toArray 49)).cell? ⟨w.heap.size,j,none⟩=some (.float .f64 (n.f j)):=fun j h1 h2=>(hb0.cell j).trans (n.cell_f j h1 h2);obtain ⟨W,hW⟩:∃ W,w.alloc (.cells n.cells.toArray 49)=W:=⟨_,rfl⟩;rw [hW] at hc hB0 ⊢;clear hW hb0;have HC:=Yd hc;have c13:=hc 13 (by omega) (by omega);have c14:=hc 14 (by omega) (by omega);have c15:=hc 15 (by omega) (by omega);have c16:=hc 16 (by omega) (by omega);clear hc;go_quiet (fail);clear c13 c14 c15 c16 e1 e2 e3;go_wp2_with fail
 go_loopw [3,20] (fun u3 i wr=>∃ (j S:Nat),j <= 3∧i = .int .i64 j∧u3 = .int .u64 S∧S<18446744073709551616∧wr.heap=W.heap∧Below w.heap.size w wr∧(S=0↔(z3=0 ∧ ∀ i,i<j -> n.f (1+i)=0∧n.f (4+i)=0∧n.f (7+i)=0∧n.f (10+i)=0)))
  (fun _ i _=>3-(intOf i).toNat)
 case atStart=>exact ⟨0,z3,by omega,rfl,rfl,l3,rfl,below_drewN' hB0 _,by simp⟩
 case round =>
  obtain ⟨j,S,hj,rfl,rfl,hS,hh,hBr,hq⟩:=hrel;have hf:=HF.out;have hcr:∀ j,1 <= j -> j <= 16 -> wr.cell? ⟨w.heap.size,j,none⟩=some (.float .f64 (n.f j)):=fun j h1 h2=>by
   have:=HC.out j h1 h2;unfold World.cell? at this ⊢;rw [hh]; exact this
  by_cases h3:j=3
  ·subst h3;have hS0:(S=0)↔bare n=true:=by
    rw [hq,bare_iff,Q1.out.2.2,Q1.out.2.1,Q1.out.1]
    constructor
    ·rintro ⟨⟨⟨⟨h13,h14⟩,h15⟩,h16⟩,h⟩ j hj;have h0:=h 0 (by omega);have h1:=h 1 (by omega);have h2:=h 2 (by omega);have hj':j=0∨j=1∨j=2∨j=3∨j=4∨j=5∨j=6∨j=7∨j=8∨j=9∨j=10∨j=11∨j=12∨j=13∨j=14∨j=15:=by omega
     rcases hj' with rfl | rfl | rfl | rfl | rfl | rfl | rfl | rfl | rfl | rfl | rfl | rfl | rfl | rfl | rfl | rfl
     ·exact h0.1
     ·exact h1.1
     ·exact h2.1
     ·exact h0.2.1
     ·exact h1.2.1
     ·exact h2.2.1
     ·exact h0.2.2.1
     ·exact h1.2.2.1
     ·exact h2.2.2.1
     ·exact h0.2.2.2
     ·exact h1.2.2.2
     ·exact h2.2.2.2
     ·exact h13
     ·exact h14
     ·exact h15
     ·exact h16
    ·intro h;refine ⟨⟨⟨⟨h 12 (by omega),h 13 (by omega)⟩,h 14 (by omega)⟩,h 15 (by omega)⟩,fun i hi => ?_⟩;have hi':i=0∨i=1∨i=2:=by omega
     rcases hi' with rfl | rfl | rfl
     ·exact ⟨h 0 (by omega),h 3 (by omega),h 6 (by omega),h 9 (by omega)⟩
     ·exact ⟨h 1 (by omega),h 4 (by omega),h 7 (by omega),h 10 (by omega)⟩
     ·exact ⟨h 2 (by omega),h 5 (by omega),h 8 (by omega),h 11 (by omega)⟩
   have HS0:=Yd hS0;clear hq hS0 hcr
   by_cases h0:S=0
   ·have e0:((S:Int) == 0)=true:=by rw [h0]; rfl
    have hb:true=bare n:=(HS0.out.1 h0).symm;have HBB:=Yd hb;clear hb;go_wp2_with fail;go_ret;exact ⟨ret_bool HBB.out,hBr⟩
   ·have e0:((S:Int) == 0)=false:=Yf (by omega)
    have hb:false=bare n:=by
     cases h:bare n with
     | false=>rfl
     | true=>exact absurd (HS0.out.2 h) h0
    have HBB:=Yd hb;clear hb;go_wp2_with fail;go_ret;exact ⟨ret_bool HBB.out,hBr⟩
  ·obtain ⟨a1,k1,r1,s1⟩:=or_zero (n.f (1+j)) (n.f (4+j)) (hf _) (hf _);obtain ⟨a2,k2,r2,s2⟩:=or_zero a1 (n.f (7+j)) k1 (hf _);obtain ⟨a3,k3,r3,s3⟩:=or_zero a2 (n.f (10+j)) k2 (hf _);obtain ⟨a4,k4,r4,s4⟩:=or_zero S a3 hS k3;have d1:=hcr (1+j) (by omega) (by omega);have d2:=hcr (4+j) (by omega) (by omega);have d3:=hcr (7+j) (by omega) (by omega);have d4:=hcr (10+j) (by omega) (by omega);have hjj:j<3:=by omega
   have SS:=Yd (And.intro s1 (And.intro s2 (And.intro s3 s4)));have HQ:=Yd hq;clear s1 s2 s3 s4 hq hf h3 hcr;go_upto_region 5 with (fail);go_quiet (fail);go_wp2_with fail;go_roundw
   case rel =>
    refine ⟨j+1,a4,by omega,by go_num,rfl,k4,hh,below_drewN' hBr _,?_⟩;have hs:=SS.out;have hq:=HQ.out;rw [hs.2.2.2,hq,hs.2.2.1,hs.2.1,hs.1]
    constructor
    ·rintro ⟨⟨h0,h1⟩,⟨⟨h2,h3⟩,h4⟩,h5⟩;refine ⟨h0,fun i hi => ?_⟩
     by_cases e:i=j
     ·subst e; exact ⟨h2,h3,h4,h5⟩
     ·exact h1 i (by omega)
    ·rintro ⟨h0,h1⟩;obtain ⟨g1,g2,g3,g4⟩:=h1 j (by omega);exact ⟨⟨h0,fun i hi=>h1 i (by omega)⟩,⟨⟨g1,g2⟩,g3⟩,g4⟩
   case measure=>simp [intOf]; omega
theorem node_any (n:Nd) (hx:∀ v∈n.x,v<18446744073709551616) (hx16:n.x.length=16) (at_:Int) (w:World) :
    Calls Tryz.prog 46 #[n.val,.int .i64 at_] w fun e w'=>e = .returned (.bool (nodeOk n at_))∧Below w.heap.size w w':=by
  go_enter Tryz.func46,Tryz.ntmps46;unfold Nd.val Nd.cells;go_wp2_with fail;refine (fields_any n.kind _).mono ?_;rintro e w1 ⟨v,l,rfl,hown,hF,htri,hB⟩;have hb0:NBlk (w.alloc (.cells n.cells.toArray 49)) w.heap.size n:=heap_alloc_new w _;have hnb:NBlk w1 w.heap.size n:=hb0.below hB (by simp);have hrow:=FRow.of_own hown;have hs1:=hB.size;have hBw:Below w.heap.size w w1:=(((Below.refl _ w).alloc (Nat.le_refl _) _).trans (hB.mono (by simp)));simp only [World.size_alloc] at hrow hF hs1;obtain ⟨A,c,rfl,hcell⟩:=hrow;have hoff:∀ d∈l,1 <= d.off∧d.off <= 16:=fun d hd=>by
    have:=fieldList_range n.kind (d.off,d.lo,d.hi) (by rw [<- htri]; exact List.mem_map_of_mem (f:=Fd.tri) hd);exact this
  have hl7:l.length <= 7:=by
    rw [tri_len htri]; unfold fieldList; repeat' split
    all_goals simp
  clear hown hB hb0;go_wp2_with fail
  go_loopw [18] (fun i wr=>∃ k:Nat,k <= l.length∧i = .int .i64 k∧Below w1.heap.size w1 wr∧(l.take k).all (inOk n)=true)
    (fun i _=>l.length-(intOf i).toNat)
  case atStart=>exact ⟨0,Nat.zero_le _,rfl,Below.refl _ _,rfl⟩
  case round =>
    obtain ⟨k,hk,rfl,hBr,hall⟩:=hrel
    by_cases hkl:k<l.length
    · as_aux_lemma =>
      obtain ⟨g,rfl,hg,hgl,c0,c1,c2⟩:=hcell k hkl;obtain ⟨d,hd⟩:∃ d,d=l[k]:=⟨_,rfl⟩;have hdl:d∈l:=by rw [hd]; exact List.getElem_mem hkl
      have hFd:FieldFn wr (w.heap.size+1) d.F d.off:=(hF.below hBr (Nat.le_refl _)) d hdl;have ho:=hoff d hdl;obtain ⟨f,caps,hFf,hE,hC⟩:=hFd.calls;have hE':∀ (args:Array Value) (w:World),(callFunc f args).run Tryz.prog w = .ok (.enter f args) w:=hE;have hnr:NBlk wr w.heap.size n:=hnb.below hBr (by omega);have cx:=(hnr.cell d.off).trans (n.cell_f d.off ho.1 ho.2);rw [<- hd] at c0 c1 c2;have r0:=(hBr.cell (p:=⟨g,k*3,none⟩) hgl).trans c0;have r1:=(hBr.cell (p:=⟨g,k*3+1,none⟩) hgl).trans c1;have r2:=(hBr.cell (p:=⟨g,k*3+2,none⟩) hgl).trans c2;clear c0 c1 c2;obtain ⟨F,off,lo,hi⟩:=d;simp only at hFf hFd ho hC cx r0 r1 r2;subst hFf;have hFa:=(hFd.alloc (.cells #[.func (.func f) #[] caps,.float .f64 lo,.float .f64 hi] 129)).drew;have hwr:=hBr.size;have cxa:(wr.alloc (.cells #[.func (.func f) #[] caps,.float .f64 lo,.float .f64 hi] 129)).cell? ⟨w.heap.size,off,none⟩=some (.float .f64 (n.f off)):=by
        rw [World.cell?_alloc_lt _ _ _ (by show w.heap.size<wr.heap.size; omega)]; exact cx
      have hBa:=hBr.alloc (Nat.le_trans (Nat.le_refl _) hwr) (.cells #[.func (.func f) #[] caps,.float .f64 lo,.float .f64 hi] 129);go_wp2_with fail
      go_region_held3 (fun w'=>w'.cell? ⟨wr.heap.size,0,none⟩=some (.func (.func f) #[] caps)∧w'.cell? ⟨wr.heap.size,1,none⟩=some (.float .f64 lo)∧w'.cell? ⟨wr.heap.size,2,none⟩=some (.float .f64 hi)∧w'.cell? ⟨w.heap.size,off,none⟩=some (.float .f64 (n.f off)))
        (first
          | go_keep
          | (go_split_ands
             refine ⟨?_,?_,?_,?_⟩ <;> (first | assumption | (rw [hBz.cell (by simp; try omega)]; assumption))))
        (first
          | (go_at_call 76; refine (within_any _ _ _ _ _).mono ?_; rintro e wz ⟨rfl,hBz⟩)
          | (refine (hC _ _ hFa).mono ?_; rintro e wy ⟨rfl,m,rfl⟩))
      have hBq:Below w1.heap.size w1 wz:=(below_drewN' hBa _).trans (hBz.mono (by show w1.heap.size <= (wr.alloc _).heap.size; simp; omega));have hBq':Below w.heap.size w wz:=hBw.trans (hBq.mono (by omega));have hin:inOk n l[k]=withinF lo hi (n.f off):=by rw [<- hd]; rfl
      clear hBz hBa cxa hFa;obtain ⟨q,hq⟩:∃ q,withinF lo hi (n.f off)=q:=⟨_,rfl⟩;rw [hq];rw [hq] at hin
      cases q with
      | true =>
        go_wp2;go_roundw
        case rel=>exact ⟨k+1,by omega,by go_num,hBq,(list_all_take _ l k hkl hall).2 hin⟩
        case measure=>simp [intOf]; omega
      | false =>
        go_wp2;go_ret;refine ⟨ret_bool ?_,hBq'⟩;have hall0:ndOk n (fieldList n.kind)=false:=by
          rw [<- htri];simp only [ndOk,List.all_map];rw [List.all_eq_false];exact ⟨l[k],List.getElem_mem hkl,by rw [Bool.not_eq_true]; exact hin⟩
        simp [nodeOk,hall0]
    · obtain rfl:k=l.length:=by omega
      have hnr:NBlk wr w.heap.size n:=hnb.below hBr (by omega);have hFr:=hF.below hBr (Nat.le_refl _);have hcr:∀ k (hk:k<l.length),∃ g,A=some ⟨g,0,none⟩∧w.heap.size+1 <= g∧g<w1.heap.size∧wr.cell? ⟨g,k*3,none⟩=some l[k].F∧wr.cell? ⟨g,k*3+1,none⟩=some (.float .f64 l[k].lo)∧wr.cell? ⟨g,k*3+2,none⟩=some (.float .f64 l[k].hi):=fun k hk=>by
        obtain ⟨g,hA,hg,hgl,c0,c1,c2⟩:=hcell k hk;exact ⟨g,hA,hg,hgl,(hBr.cell (p:=⟨g,k*3,none⟩) hgl).trans c0,(hBr.cell (p:=⟨g,k*3+1,none⟩) hgl).trans c1,(hBr.cell (p:=⟨g,k*3+2,none⟩) hgl).trans c2⟩
      have hBwr:Below w.heap.size w wr:=hBw.trans (hBr.mono (by omega));have hwr:=hBr.size;clear hcell hnb hBw hBr hF;obtain ⟨wa,hwa⟩:∃ wa,wa=wr:=⟨_,rfl⟩;subst hwa;go_wp2_with fail
      go_loopw [33] (fun i wt=>∃ k:Nat,k <= l.length∧i = .int .i64 k∧Below w.heap.size w wt∧NBlk wt w.heap.size (n.zeros ((l.take k).map Fd.off))∧wa.heap.size <= wt.heap.size ∧ ∀ b,w.heap.size+1 <= b -> b<wa.heap.size -> wt.heap[b]? = wa.heap[b]?)
        (fun i _=>l.length-(intOf i).toNat)
      case atStart=>exact ⟨0,Nat.zero_le _,rfl,hBwr,hnr,Nat.le_refl _,fun _ _ _=>rfl⟩
      case round =>
        obtain ⟨k,hk,rfl,hBt,hnt,hst,hkt⟩:=hrel
        by_cases hkl:k<l.length
        · as_aux_lemma =>
          obtain ⟨g,rfl,hg,hgl,c0,c1,c2⟩:=hcr k hkl;obtain ⟨d,hd⟩:∃ d,d=l[k]:=⟨_,rfl⟩;have hdl:d∈l:=by rw [hd]; exact List.getElem_mem hkl
          have hFd:FieldFn wr (w.heap.size+1) d.F d.off:=(hFr d hdl).kept fun b t v hb hx _=>(hkt b hb hx.lt).trans hx;have ho:=hoff d hdl;obtain ⟨f,caps,hFf,hE,hC⟩:=hFd.calls;have hE':∀ (args:Array Value) (w:World),(callFunc f args).run Tryz.prog w = .ok (.enter f args) w:=hE;obtain ⟨n',hn'⟩:∃ n',n.zeros ((l.take k).map Fd.off)=n':=⟨_,rfl⟩;have hnl:n'.x.length=16:=by rw [<- hn',Nd.zeros_len]; exact hx16
          have hsn:n.zeros ((l.take (k+1)).map Fd.off)=n'.zero d.off:=by
            rw [List.take_add_one,List.getElem?_eq_getElem hkl,List.map_append,<- hn',hd]; exact Nd.zeros_snoc _ _ _
          rw [hn'] at hnt;rw [<- hd] at c0 c1 c2;have r0:=(World.cell?_of_block (a:=⟨g,k*3,none⟩) (hkt g hg (by omega))).trans c0;have r1:=(World.cell?_of_block (a:=⟨g,k*3+1,none⟩) (hkt g hg (by omega))).trans c1;have r2:=(World.cell?_of_block (a:=⟨g,k*3+2,none⟩) (hkt g hg (by omega))).trans c2;clear c0 c1 c2;obtain ⟨F,off,lo,hi⟩:=d;simp only at hFf hFd ho hC r0 r1 r2 hsn;subst hFf;have hFa:=(hFd.alloc (.cells #[.func (.func f) #[] caps,.float .f64 lo,.float .f64 hi] 129));have hna:=hnt.alloc (.cells #[.func (.func f) #[] caps,.float .f64 lo,.float .f64 hi] 129);have cx:=(hna.cell off).trans (n'.cell_f off ho.1 ho.2);have fx:=hna.frozen off;go_wp2_with (first | (refine (hC _ _ hFa).mono ?_; rintro e wy ⟨rfl,m,rfl⟩));have hnz:=(hna.drewN m).zero hnl off ho.1 ho.2;have hBz:Below w.heap.size w (((wr.alloc (.cells #[.func (.func f) #[] caps,.float .f64 lo,.float .f64 hi] 129)).drewN m).setCell ⟨w.heap.size,off,none⟩ (.float .f64 0)) :=
            (below_drewN' (hBt.alloc (Nat.le_trans (by omega) hst) _) m).setCell (by simp) _
          have hkz:wa.heap.size <= (((wr.alloc (.cells #[.func (.func f) #[] caps,.float .f64 lo,.float .f64 hi] 129)).drewN m).setCell ⟨w.heap.size,off,none⟩ (.float .f64 0)).heap.size ∧
              ∀ b,w.heap.size+1 <= b -> b<wa.heap.size -> (((wr.alloc (.cells #[.func (.func f) #[] caps,.float .f64 lo,.float .f64 hi] 129)).drewN m).setCell ⟨w.heap.size,off,none⟩ (.float .f64 0)).heap[b]? = wa.heap[b]?:=by
            refine ⟨?_,fun b h1 h2 => ?_⟩
            · show wa.heap.size <= (Array.modify _ _ _).size;rw [Array.size_modify];show wa.heap.size <= (wr.heap.push _).size;rw [Array.size_push]; omega
            · rw [Below.heap_setCell _ _ _ _ (by simp; omega)];show (wr.heap.push _)[b]? = _;rw [Array.getElem?_push_lt (by omega)];exact (Array.getElem?_eq_getElem (by omega)).symm.trans (hkt b h1 h2)
          clear hna cx fx hFa hBt hnt hkt hFd;go_roundw
          case rel=>exact ⟨k+1,by omega,by go_num,hBz,by rw [hsn]; exact hnz,hkz.1,hkz.2⟩
          case measure=>simp [intOf]; omega
        · obtain rfl:k=l.length:=by omega
          obtain ⟨nz,hnz⟩:∃ nz,n.zeros ((l.take l.length).map Fd.off)=nz:=⟨_,rfl⟩;obtain ⟨hk1,ha1,hb1⟩:=n.zeros_kind ((l.take l.length).map Fd.off);rw [hnz] at hnt hk1 ha1 hb1;have cn:∀ j u,nz.cells[j]? = some u -> wr.cell? ⟨w.heap.size,j,none⟩=some u:=fun j u hu=>(hnt.cell j).trans hu;have n0:=cn 0 _ rfl;have na:=cn 17 _ rfl;have nb:=cn 18 _ rfl;have n1:=cn 1 _ rfl;have n2:=cn 2 _ rfl;have n3:=cn 3 _ rfl;have n4:=cn 4 _ rfl;have n5:=cn 5 _ rfl;have n6:=cn 6 _ rfl;have n7:=cn 7 _ rfl;have n8:=cn 8 _ rfl;have n9:=cn 9 _ rfl;have n10:=cn 10 _ rfl;have n11:=cn 11 _ rfl;have n12:=cn 12 _ rfl;have n13:=cn 13 _ rfl;have n14:=cn 14 _ rfl;have n15:=cn 15 _ rfl;have n16:=cn 16 _ rfl;clear cn;have hlz:nz.x.length=16:=by rw [<- hnz,Nd.zeros_len]; exact hx16
          have hxz:∀ v∈nz.x,v<18446744073709551616:=by rw [<- hnz]; exact Nd.zeros_lt n hx _
          have hall1:ndOk n (fieldList n.kind)=true:=by
            rw [<- htri];simp only [ndOk,List.all_map];rw [List.take_length] at hall;exact hall
          have hlen:(fieldList n.kind).length=l.length:=by rw [<- htri,List.length_map]
          have hoz:n.zeros (offs n.kind)=nz:=by
            rw [<- hnz,List.take_length,offs,<- htri,List.map_map]; rfl
          have HK:=Yd (And.intro hk1 (And.intro ha1 hb1));have HO:=Yd (And.intro hall1 (And.intro hlen hoz));clear hk1 ha1 hb1 hall1 hlen hoz hnz hall htri;go_wp2_with fail
          go_loopw [47] (fun i wt=>∃ k:Nat,k <= 2∧i = .int .i64 k∧wt=wr∧(1 <= k -> placeOk (decide (0<belowN nz.kind)) nz.a at_=true)∧(2 <= k -> placeOk (decide (1<belowN nz.kind)) nz.b at_=true))
            (fun i _=>2-(intOf i).toNat)
          case atStart=>exact ⟨0,by omega,rfl,rfl,by omega,by omega⟩
          case round =>
            obtain ⟨k,hk,rfl,rfl,hP1,hP2⟩:=hrel;have hk3:k=0∨k=1∨k=2:=by omega
            rcases hk3 with rfl | rfl | rfl
            · as_aux_lemma =>
              go_wp2_with (first | (go_at_call 77; refine (cbelow_any _ _).mono ?_; rintro e wy ⟨rfl,rfl⟩))
              all_goals first
                | (go_ret
                   refine ⟨ret_bool ?_,hBt⟩;exact (nodeOk_a n nz HK.out at_ (by first | exact place_a3 _ _ _ (by assumption) (.inl (by assumption)) | exact place_a3 _ _ _ (by assumption) (.inr (by assumption)) | exact place_a4 _ _ _ (by assumption) (by assumption))).symm)
                | (have pa:placeOk (decide (0<belowN nz.kind)) nz.a at_=true:=by first | exact place_a1 _ _ _ (by assumption) (by assumption) | exact place_a2 _ _ _ (by assumption) (by assumption)
                   have PA:=Yd pa;clear pa;go_roundw
                   case rel=>exact ⟨1,by omega,by go_num,by first | rfl | trivial,fun _=>PA.out,by omega⟩
                   case measure=>simp [intOf])
            · as_aux_lemma =>
              have pa:=hP1 (by omega);have PA:=Yd pa;clear pa hP1 hP2;go_wp2_with (first | (go_at_call 77; refine (cbelow_any _ _).mono ?_; rintro e wy ⟨rfl,rfl⟩))
              all_goals first
                | (go_ret
                   refine ⟨ret_bool ?_,hBt⟩;exact (nodeOk_b n nz HK.out at_ (by first | exact place_b3 _ _ _ (by assumption) (.inl (by assumption)) | exact place_b3 _ _ _ (by assumption) (.inr (by assumption)) | exact place_b4 _ _ _ (by first | assumption | exact Int.not_lt.mpr (by assumption)) (by assumption))).symm)
                | (have pb:placeOk (decide (1<belowN nz.kind)) nz.b at_=true:=by first | exact place_b1 _ _ _ (by assumption) (by assumption) | exact place_b2 _ _ _ (by first | assumption | exact Int.not_lt.mpr (by assumption)) (by assumption)
                   have PB:=Yd pb;clear pb;go_roundw
                   case rel=>exact ⟨2,by omega,by go_num,by first | rfl | trivial,fun _=>PA.out,fun _=>PB.out⟩
                   case measure=>simp [intOf])
            · as_aux_lemma =>
              have PA:=hP1 (by omega);have PB:=hP2 (by omega);have ho:=HO.out
              by_cases h0:0<l.length
              · have hP:nodeOk n at_=bare nz:=by
                  unfold nodeOk;rw [ho.1,ho.2.2,ho.2.1,<- HK.out.1,<- HK.out.2.1,<- HK.out.2.2,PA,PB];simp [h0]
                clear PA PB hP1 hP2 ho;have HP:=Yd hP;clear hP HO HK hcr hFr hoff hkt hnr n0 n1 n2 n3 n4 n5 n6 n7 n8 n9 n10 n11 n12 n13 n14 n15 n16 na nb;go_wp2_with (first | (refine wpList_load_nd_g _ ?_ (.tmp 2) rfl _ rfl nz hnt ?_; rotate_right) | (go_at_call 78; refine (bits_any nz hxz hlz _).mono ?_; rintro e wy ⟨rfl,hBy⟩));go_ret;exact ⟨ret_bool HP.out.symm,hBt.trans (hBy.mono hBt.size)⟩
              · have hP:nodeOk n at_=false:=by
                  unfold nodeOk;rw [ho.2.1];simp [h0]
                clear PA PB hP1 hP2 ho;have HP:=Yd hP;clear hP;go_wp2_with fail;go_ret;exact ⟨ret_bool HP.out.symm,hBt⟩
end Go.Proofs.YtcbgkbidgpemfaaGreatDoor.nodew

/- The walk of check.Right. Condition: the nodes lie in memory, within the reach. -/
namespace Go.Proofs.YtcbgkbidgpemfaaGreatDoor.nodew
open Go.RowKit Go.Shelf
open words
attribute [local go_sem] run_store_float
def ncells (l:List Nd):List Value:=l.flatMap Nd.cells
theorem nd_cells_len (n:Nd):n.cells.length=19:=rfl
theorem ncells_get:∀ (l:List Nd) (i j:Nat) (h:i<l.length),j<19 -> (ncells l)[i*19+j]? = (l[i].cells)[j]?
 | a :: r,0,j,_,hj=>by
  show (a.cells ++ ncells r)[0*19+j]? = _;rw [Nat.zero_mul,Nat.zero_add,List.getElem?_append_left (by rw [nd_cells_len]; exact hj)]; rfl
 | a :: r,i+1,j,h,hj=>by
  show (a.cells ++ ncells r)[(i+1)*19+j]? = _;rw [List.getElem?_append_right (by rw [nd_cells_len]; omega)];have:=ncells_get r i j (by simpa using h) hj;rw [List.getElem_cons_succ,<- this,nd_cells_len];congr 1;omega
 | [],i,j,h,_=>by simp at h
def NRead (W:World) (B:Nat) (v:Value) (l:List Nd):Prop :=
 ∃ A c,v = .slice A l.length c∧(l≠[] -> ∃ g off,A=some ⟨g,off,none⟩∧g<B∧g<W.heap.size ∧ ∀ j u,(ncells l)[j]? = some u -> W.cell? ⟨g,off+j,none⟩=some u)
theorem NRead.keep {W W':World} {B:Nat} {v:Value} {l:List Nd} (h:NRead W B v l) (hz:W.heap.size <= W'.heap.size) (hg:∀ g,g<B -> g<W.heap.size -> W'.heap[g]? = W.heap[g]?):NRead W' B v l:=by
 obtain ⟨A,c,hv,hx⟩:=h;refine ⟨A,c,hv,fun h0 => ?_⟩;obtain ⟨g,off,hA,hB,hgl,hcell⟩:=hx h0;exact ⟨g,off,hA,hB,by omega,fun j u hu=>(World.cell?_of_block (a:=⟨g,off+j,none⟩) (hg g hB hgl)).trans (hcell j u hu)⟩
def Nd.ok (n:Nd):Prop:=n.x.length=16 ∧ ∀ v∈n.x,v<18446744073709551616
theorem Nd.load_at (n:Nd) (W:World) (g off:Nat) (h:∀ j u,n.cells[j]? = some u -> W.cell? ⟨g,off+j,none⟩=some u):(Instr.loadAt 49 (.pointer (some ⟨g,off,none⟩))).run Tryz.prog W = .ok n.val W :=
 run_loadAt_mid W g off 49 n.cells _ h Tryz.underlying49 rfl (by kernel_rfl)
def rightP (l:List Nd):Bool:=((List.range l.length).all fun i=>match l[i]? with | some n=>nodeOk n i | none=>true) && decide (0<l.length) && decide (l.length <= 4096)
theorem rightP_bad {l:List Nd} {k:Nat} (hk:k<l.length) (h:nodeOk l[k] k=false):rightP l=false:=by
 unfold rightP;have:((List.range l.length).all fun i=>match l[i]? with | some n=>nodeOk n i | none=>true)=false:=by
  rw [List.all_eq_false];exact ⟨k,List.mem_range.2 hk,by simp [hk,h]⟩
 rw [this]; rfl
theorem rightP_good {l:List Nd} (h:∀ k (hk:k<l.length),nodeOk l[k] k=true):rightP l=(decide (0<l.length) && decide (l.length <= 4096)):=by
 unfold rightP;have:((List.range l.length).all fun i=>match l[i]? with | some n=>nodeOk n i | none=>true)=true:=by
  rw [List.all_eq_true];intro i hi;have hi:=List.mem_range.1 hi;simp [hi,h i hi]
 rw [this]; rfl
theorem nd_info (n:Nd):(Tryz.prog.info? 49).map (·.size)=some n.cells.toArray.size:=by kernel_rfl
theorem nd_one (n:Nd):n.cells.toArray.all (·.oneCell')=true:=by simp [Nd.cells,Value.oneCell']
theorem nd_size (n:Nd):n.cells.toArray.size=19:=by rw [List.size_toArray]; rfl
theorem right_any (B:Nat) (v:Value) (l:List Nd) (hok:∀ n∈l,n.ok) (hl:l.length <= 1000000000000) (w:World) (hr:NRead w B v l) (_hB:B <= w.heap.size) :
  Calls Tryz.prog 36 #[v] w fun e w'=>e = .returned (.bool (rightP l))∧Below w.heap.size w w':=by
 obtain ⟨A,c,rfl,hx⟩:=hr;go_enter Tryz.func36,Tryz.ntmps36;go_wp2_with fail
 go_loopw [7] (fun i wr=>∃ k:Nat,k <= l.length∧i = .int .i64 k∧Below w.heap.size w wr ∧ ∀ j (hj:j<l.length),j<k -> nodeOk l[j] j=true) (fun i _=>l.length-(intOf i).toNat)
 case atStart=>exact ⟨0,Nat.zero_le _,rfl,Below.refl _ _,fun _ _ h=>by omega⟩
 case round =>
  obtain ⟨k,hk,rfl,hBr,hall⟩:=hrel;have hz:=hBr.size
  by_cases hkl:k<l.length
  ·obtain ⟨g,off,rfl,hgB,hgl,hcell⟩:=hx (by intro e; subst e; simp at hkl);obtain ⟨n,hn⟩:∃ n,l[k]=n:=⟨_,rfl⟩;have hno:n.ok:=hok n (by rw [<- hn]; exact List.getElem_mem hkl);have hrg:wr.rangeAt g (off+k*19) n.cells:=fun j u hu=>by
    have hj:j<19:=by have:=(List.getElem?_eq_some_iff.1 hu).1; rwa [nd_cells_len] at this
    rw [Nat.add_assoc];exact (World.cell?_of_block (a:=⟨g,off+(k*19+j),none⟩) (hBr.block g hgl)).trans (hcell (k*19+j) u (by rw [ncells_get l k j hkl hj,hn]; exact hu))
   have HA:=Yd hall;have HNO:=Yd hno;have HN:=Yd hn;have HR:=Yd hrg;clear hall hno hn hcell hrg;go_wp2_with (first
    | (refine wpList_load_mid rfl 49 (.tmp 10) rfl g (off+k*19) rfl n.cells _ HR.out Tryz.underlying49 rfl (by kernel_rfl) ?_)
    | (refine wpList_store_row rfl 49 (.tmp 4) (.tmp 11) rfl wr.heap.size n.cells.toArray rfl rfl _ _ (heap_alloc_new wr _) (nd_info n) (by rw [nd_size]; rfl) (nd_one n) ?_)
    | (refine wpList_load_row rfl 49 (.tmp 4) rfl wr.heap.size rfl _ n.cells.toArray _ _ (setRow_heap _ _ _ _ _ _ (heap_alloc_new wr _)) Tryz.underlying49 rfl (by kernel_rfl) ?_))
   obtain ⟨W,hW⟩:∃ W,W=(wr.alloc (.cells #[.int .u8 0,.float .f64 0,.float .f64 0,.float .f64 0,.float .f64 0,.float .f64 0,.float .f64 0,.float .f64 0,.float .f64 0,.float .f64 0,.float .f64 0,.float .f64 0,.float .f64 0,.float .f64 0,.float .f64 0,.float .f64 0,.float .f64 0,.int .i64 0,.int .i64 0] 49)).setRow wr.heap.size n.cells.toArray:=⟨_,rfl⟩;have hBW:Below w.heap.size w W:=by rw [hW]; exact below_setRow (hBr.alloc hz _) hz _
   rw [<- hW];clear hW;have hno:=HNO.out;refine (node_any n hno.2 hno.1 k W).mono ?_;rintro e wy ⟨rfl,hBy⟩;have hBz:=hBW.trans (hBy.mono hBW.size)
   cases hq:nodeOk n k with
   | true =>
    have H1:=Yd hq;clear hq hno hBW hBy;go_wp2_with fail;go_roundw
    case rel =>
     refine ⟨k+1,by omega,by go_num,hBz,fun j hj hjk => ?_⟩
     by_cases e:j=k
     ·subst e; rw [HN.out]; exact H1.out
     ·exact HA.out j hj (by omega)
    case measure=>simp [intOf]; omega
   | false =>
    have hbad:rightP l=false:=rightP_bad hkl (by rw [HN.out]; exact hq);have HB:=Yd hbad;clear hq hno hbad hBW hBy;go_wp2_with fail;go_ret;exact ⟨ret_bool HB.out.symm,hBz⟩
  ·obtain rfl:k=l.length:=by omega
   have hg:=rightP_good fun j hj=>hall j hj hj;have HG:=Yd hg;clear hg hall;go_wp2_with fail
   all_goals go_ret
   all_goals refine ⟨ret_bool ?_,hBr⟩
   all_goals rw [HG.out]
   all_goals by_cases h1:0<l.length
   all_goals by_cases h2:l.length <= 4096
   all_goals simp [h1,h2]
   all_goals omega
end Go.Proofs.YtcbgkbidgpemfaaGreatDoor.nodew

/- Flat programs in plain words: the walk through what a root needs, each node once, and what it keeps; a program that covers another one has the same flat one. No conditions but those stated. -/
namespace Go.Proofs.YtcbgkbidgpemfaaGreatDoor.flatm
open nodew
def kids (n:Nd):List Nat:=if n.kind=5 then [n.a.toNat,n.b.toNat] else if n.kind=6 then [n.a.toNat] else []
def remap (ta:Nat -> Nat) (n:Nd):Nd:=if n.kind=5 then { n with a:=ta n.a.toNat,b:=ta n.b.toNat } else if n.kind=6 then { n with a:=ta n.a.toNat } else n
theorem remap_kind (ta:Nat -> Nat) (n:Nd):(remap ta n).kind=n.kind:=by
 unfold remap
 split
 ·rfl
 ·split <;> rfl
theorem kids_remap (ta:Nat -> Nat) (n:Nd):kids (remap ta n)=(kids n).map ta:=by
 unfold kids;rw [remap_kind]
 by_cases h5:n.kind=5
 ·simp [remap,h5]
 ·by_cases h6:n.kind=6
  ·simp [remap,h6]
  ·simp [h5,h6]
def upd {α:Type} (g:Nat -> α) (x:Nat) (v:α):Nat -> α:=fun y=>if y=x then v else g y
theorem upd_same {α:Type} (g:Nat -> α) (x:Nat) (v:α):upd g x v x=v:=by simp [upd]
theorem upd_ne {α:Type} (g:Nat -> α) (x y:Nat) (v:α) (h:y≠x):upd g x v y=g y:=by simp [upd,h]
def runK (g:Nat -> (Nat -> Bool) -> (Nat -> Bool) × List Nat):List Nat -> (Nat -> Bool) -> (Nat -> Bool) × List Nat
 | [],m=>(m,[])
 | c :: r,m=>((runK g r (g c m).1).1,(g c m).2 ++ (runK g r (g c m).1).2)
def visit (p:Nat -> Nd):Nat -> Nat -> (Nat -> Bool) -> (Nat -> Bool) × List Nat
 | 0,_,m=>(m,[])
 | f+1,x,m=>if m x=true then (m,[]) else ((runK (visit p f) (kids (p x)) (upd m x true)).1,(runK (visit p f) (kids (p x)) (upd m x true)).2 ++ [x])
def visitD (p:Nat -> Nd):Nat -> Nat -> (Nat -> Bool) -> (Nat -> Bool) × List Nat
 | 0,_,m=>(m,[])
 | f+1,x,m=>if m x=true then (m,[]) else (upd (runK (visitD p f) (kids (p x)) m).1 x true,(runK (visitD p f) (kids (p x)) m).2 ++ [x])
theorem visitD_above (p:Nat -> Nd) (n:Nat) (hac:∀ x,x<n -> ∀ c∈kids (p x),c<x):∀ (f x:Nat) (D:Nat -> Bool),x<n -> ∀ y,x<y -> (visitD p f x D).1 y=D y
 | 0,_,_,_,_,_=>rfl
 | f+1,x,D,hn,y,hy=>by
  unfold visitD
  by_cases hD:D x=true
  ·rw [if_pos hD]
  ·rw [if_neg hD];show upd (runK (visitD p f) (kids (p x)) D).1 x true y=D y;rw [upd_ne _ _ _ _ (by omega)];have key:∀ (L:List Nat) (D1:Nat -> Bool),(∀ c∈L,c<x) -> (runK (visitD p f) L D1).1 y=D1 y:=by
    intro L
    induction L with
    | nil=>exact fun _ _=>rfl
    | cons c r ih =>
     intro D1 hc;show (runK (visitD p f) r (visitD p f c D1).1).1 y=D1 y;rw [ih _ (fun d hd=>hc d (.tail _ hd)),visitD_above p n hac f c D1 (by have:=hc c (.head _); omega) y (by have:=hc c (.head _); omega)]
   exact key _ D (hac x hn)
theorem runD_above (p:Nat -> Nd) (n:Nat) (hac:∀ x,x<n -> ∀ c∈kids (p x),c<x) (f x:Nat) (hn:x<n) (L:List Nat) (D:Nat -> Bool) (hc:∀ c∈L,c<x):∀ y,x <= y -> (runK (visitD p f) L D).1 y=D y:=by
 induction L generalizing D with
 | nil=>exact fun _ _=>rfl
 | cons c r ih =>
  intro y hy;show (runK (visitD p f) r (visitD p f c D).1).1 y=D y;rw [ih _ (fun d hd=>hc d (.tail _ hd)) y hy,visitD_above p n hac f c D (by have:=hc c (.head _); omega) y (by have:=hc c (.head _); omega)]
theorem visit_same (p:Nat -> Nd) (n:Nat) (hac:∀ x,x<n -> ∀ c∈kids (p x),c<x):∀ (f x b:Nat) (m D:Nat -> Bool),x<n -> x<b -> (∀ y,y<b -> m y=D y) ->
  (visit p f x m).2=(visitD p f x D).2∧(∀ y,y<b -> (visit p f x m).1 y=(visitD p f x D).1 y)∧(∀ y,x<y -> (visit p f x m).1 y=m y)
 | 0,x,b,m,D,_,_,h=>⟨rfl,h,fun _ _=>rfl⟩
 | f+1,x,b,m,D,hn,hx,h=>by
  unfold visit visitD;rw [h x hx]
  by_cases hD:D x=true
  ·rw [if_pos hD,if_pos hD];exact ⟨rfl,h,fun _ _=>rfl⟩
  ·rw [if_neg hD,if_neg hD];have key:∀ (L:List Nat) (m1 D1:Nat -> Bool),(∀ c∈L,c<x) -> (∀ y,y<x -> m1 y=D1 y) ->
     (runK (visit p f) L m1).2=(runK (visitD p f) L D1).2∧(∀ y,y<x -> (runK (visit p f) L m1).1 y=(runK (visitD p f) L D1).1 y)∧(∀ y,x <= y -> (runK (visit p f) L m1).1 y=m1 y):=by
    intro L
    induction L with
    | nil=>exact fun m1 D1 _ h1=>⟨rfl,h1,fun _ _=>rfl⟩
    | cons c r ih =>
     intro m1 D1 hc h1;have hcx:=hc c (.head _);obtain ⟨i1,i2,i3⟩:=visit_same p n hac f c x m1 D1 (by omega) hcx h1;obtain ⟨j1,j2,j3⟩:=ih (visit p f c m1).1 (visitD p f c D1).1 (fun d hd=>hc d (.tail _ hd)) i2;refine ⟨?_,j2,fun y hy => ?_⟩
     ·show _ ++ _=_ ++ _;rw [i1,j1]
     ·show (runK (visit p f) r (visit p f c m1).1).1 y=m1 y;rw [j3 y hy,i3 y (by omega)]
   obtain ⟨k1,k2,k3⟩:=key (kids (p x)) (upd m x true) D (hac x hn) (fun y hy=>by rw [upd_ne _ _ _ _ (by omega)]; exact h y (by omega));have hDk:=runD_above p n hac f x hn (kids (p x)) D (hac x hn);refine ⟨by rw [k1],fun y hy => ?_,fun y hy => ?_⟩
   ·show (runK (visit p f) (kids (p x)) (upd m x true)).1 y=upd (runK (visitD p f) (kids (p x)) D).1 x true y
    by_cases e:y=x
    ·subst e;rw [k3 y (Nat.le_refl _),upd_same,upd_same]
    ·rw [upd_ne _ _ _ _ e]
     by_cases e2:y<x
     ·exact k2 y e2
     ·rw [k3 y (by omega),upd_ne _ _ _ _ e,hDk y (by omega),h y hy]
   ·show (runK (visit p f) (kids (p x)) (upd m x true)).1 y=m y;rw [k3 y (by omega),upd_ne _ _ _ _ (by omega)]
theorem visitD_inv {σ:Type} (p:Nat -> Nd) (n:Nat) (hac:∀ x,x<n -> ∀ c∈kids (p x),c<x) (I:(Nat -> Bool) -> σ -> Prop) (st:σ -> Nat -> σ)
  (hst:∀ D s x,x<n -> I D s -> D x=false -> (∀ c∈kids (p x),D c=true) -> I (upd D x true) (st s x)) :
  ∀ (f x:Nat) (D:Nat -> Bool) (s:σ),x<n -> x<f -> I D s ->
   I (visitD p f x D).1 ((visitD p f x D).2.foldl st s)∧(visitD p f x D).1 x=true∧(∀ y,D y=true -> (visitD p f x D).1 y=true)
 | 0,x,D,s,_,hf,_=>by omega
 | f+1,x,D,s,hn,hf,h=>by
  unfold visitD
  by_cases hD:D x=true
  ·rw [if_pos hD];exact ⟨h,hD,fun _ h=>h⟩
  ·rw [if_neg hD];have key:∀ (L:List Nat) (D1:Nat -> Bool) (s1:σ),(∀ c∈L,c<x) -> I D1 s1 ->
     I (runK (visitD p f) L D1).1 ((runK (visitD p f) L D1).2.foldl st s1)∧(∀ c∈L,(runK (visitD p f) L D1).1 c=true)∧(∀ y,D1 y=true -> (runK (visitD p f) L D1).1 y=true):=by
    intro L
    induction L with
    | nil=>exact fun D1 s1 _ h1=>⟨h1,fun c hc=>(by cases hc),fun _ h=>h⟩
    | cons c r ih =>
     intro D1 s1 hc h1;have hcx:=hc c (.head _);obtain ⟨i1,i2,i3⟩:=visitD_inv p n hac I st hst f c D1 s1 (by omega) (by omega) h1;obtain ⟨j1,j2,j3⟩:=ih (visitD p f c D1).1 _ (fun d hd=>hc d (.tail _ hd)) i1;refine ⟨?_,fun d hd => ?_,fun y hy=>j3 y (i3 y hy)⟩
     ·show I (runK (visitD p f) r (visitD p f c D1).1).1 (List.foldl st s1 (_ ++ _));rw [List.foldl_append];exact j1
     ·rcases List.mem_cons.1 hd with rfl | hd
      ·exact j3 d i2
      ·exact j2 d hd
   obtain ⟨k1,k2,k3⟩:=key (kids (p x)) D s (hac x hn) h;have hx:(runK (visitD p f) (kids (p x)) D).1 x=false:=by
    rw [runD_above p n hac f x hn (kids (p x)) D (hac x hn) x (Nat.le_refl _)];simpa using hD
   refine ⟨?_,upd_same _ _ _,fun y hy => ?_⟩
   ·show I (upd _ x true) (List.foldl st s (_ ++ [x]));rw [List.foldl_append];exact hst _ _ x hn k1 hx k2
   ·show upd _ x true y=true
    by_cases e:y=x
    ·rw [e,upd_same]
    ·rw [upd_ne _ _ _ _ e]; exact k3 y hy
structure FS where
 tm:Nat -> Nat
 out:List Nd
def idxN (l:List Nd) (n:Nd):Option Nat:=if n∈l then some (l.idxOf n) else none
def stepF (p:Nat -> Nd) (s:FS) (x:Nat):FS :=
 match idxN s.out (remap s.tm (p x)) with
 | some k=>⟨upd s.tm x k,s.out⟩
 | none=>⟨upd s.tm x s.out.length,s.out ++ [remap s.tm (p x)]⟩
theorem idx_some {l:List Nd} {n:Nd} {k:Nat} (h:idxN l n=some k):l[k]? = some n:=by
 unfold idxN at h
 by_cases hm:n∈l
 ·rw [if_pos hm] at h;injection h with h;subst h;rw [List.getElem?_eq_getElem (List.idxOf_lt_length_of_mem hm)];simp
 ·rw [if_neg hm] at h; cases h
structure Good (p:Nat -> Nd) (E:Nat -> Bool) (t:FS):Prop where
 closed:∀ z,E z=true -> ∀ c∈kids (p z),E c=true
 key:∀ z,E z=true -> t.out[t.tm z]? = some (remap t.tm (p z))
 nodup:t.out.Nodup
 ord:∀ k n,t.out[k]? = some n -> ∀ c∈kids n,c<k
 surj:∀ k,k<t.out.length -> ∃ z,E z=true∧t.tm z=k
end Go.Proofs.YtcbgkbidgpemfaaGreatDoor.flatm

/- The flat program in plain words: it is a program, its root stands for the same, it is flat; a program in which each node stands twice has the same one. No conditions but those stated. -/
namespace Go.Proofs.YtcbgkbidgpemfaaGreatDoor.flatm
open nodew
def nth (l:List Nd) (x:Nat):Nd:=l.getD x ⟨0,[],0,0⟩
theorem nth_eq (l:List Nd) (x:Nat) (n:Nd) (h:l[x]? = some n):nth l x=n:=by
 obtain ⟨hk,rfl⟩:=List.getElem?_eq_some_iff.1 h;simp [nth,hk]
def none_:Nat -> Bool:=fun _=>false
def ordP (l:List Nd):List Nat:=(visit (nth l) l.length (l.length-1) none_).2
def runP (l:List Nd):(Nat -> Bool) × List Nat:=visitD (nth l) l.length (l.length-1) none_
def endP (l:List Nd):FS:=(runP l).2.foldl (stepF (nth l)) ⟨fun _=>0,[]⟩
def flatP (l:List Nd):List Nd:=(endP l).out
theorem place_lt {k at_:Int} (h:placeOk true k at_=true):0 <= k∧k<at_:=by simpa [placeOk] using h
theorem nodeOk_parts {n:Nd} {at_:Int} (h:nodeOk n at_=true):ndOk n (fieldList n.kind)=true∧placeOk (decide (0<belowN n.kind)) n.a at_=true∧placeOk (decide (1<belowN n.kind)) n.b at_=true∧0<(fieldList n.kind).length∧bare (n.zeros (offs n.kind))=true:=by
 unfold nodeOk at h;simp only [Bool.and_eq_true,decide_eq_true_eq] at h;exact ⟨h.1.1.1.1,h.1.1.1.2,h.1.1.2,h.1.2,h.2⟩
theorem below5:belowN 5=2:=rfl
theorem below6:belowN 6=1:=rfl
theorem kids_lt {n:Nd} {x:Nat} (h:nodeOk n x=true):∀ c∈kids n,c<x:=by
 obtain ⟨_,ha,hb,_⟩:=nodeOk_parts h;intro c hc;unfold kids at hc
 by_cases h5:n.kind=5
 ·rw [h5,below5] at ha hb;have ha:=place_lt ha;have hb:=place_lt hb;rw [if_pos h5] at hc;simp only [List.mem_cons,List.not_mem_nil,or_false] at hc;omega
 ·by_cases h6:n.kind=6
  ·rw [h6,below6] at ha;have ha:=place_lt ha;rw [if_neg h5,if_pos h6] at hc;simp only [List.mem_cons,List.not_mem_nil,or_false] at hc;omega
  ·rw [if_neg h5,if_neg h6] at hc
   cases hc
theorem right_nodes {l:List Nd} (h:rightP l=true):(∀ x,x<l.length -> nodeOk (nth l x) x=true)∧0<l.length∧l.length <= 4096:=by
 have h1:∀ k (hk:k<l.length),nodeOk l[k] k=true:=fun k hk=>by
  cases hq:nodeOk l[k] k with
  | true=>rfl
  | false=>rw [rightP_bad hk hq] at h; cases h
 have h2:=rightP_good h1;rw [h] at h2;have h2:0<l.length∧l.length <= 4096:=by simpa using h2.symm
 exact ⟨fun x hx=>by rw [nth_eq l x l[x] (List.getElem?_eq_getElem hx)]; exact h1 x hx,h2⟩
theorem right_ac {l:List Nd} (h:rightP l=true):∀ x,x<l.length -> ∀ c∈kids (nth l x),c<x:=fun x hx=>kids_lt ((right_nodes h).1 x hx)
theorem ordP_eq {l:List Nd} (h:rightP l=true):ordP l=(runP l).2:=by
 obtain ⟨_,h0,_⟩:=right_nodes h;exact (visit_same (nth l) l.length (right_ac h) l.length (l.length-1) l.length none_ none_ (by omega) (by omega) (fun _ _=>rfl)).1
inductive Reach (p:Nat -> Nd):Nat -> Nat -> Prop
 | refl (x:Nat):Reach p x x
 | down (x c y:Nat) (h:c∈kids (p x)) (r:Reach p c y):Reach p x y
theorem Good.le {p:Nat -> Nd} {E:Nat -> Bool} {t:FS} (h:Good p E t) {x y:Nat} (r:Reach p x y):E x=true -> t.tm y <= t.tm x:=by
 induction r with
 | refl x=>exact fun _=>Nat.le_refl _
 | down x c y hc _ ih =>
  intro hx;have h1:=ih (h.closed x hx c hc);have h2:=h.ord _ _ (h.key x hx) (t.tm c) (by rw [kids_remap]; exact List.mem_map.2 ⟨c,hc,rfl⟩);omega
theorem fold_len (p:Nat -> Nd):∀ (ys:List Nat) (s:FS),(ys.foldl (stepF p) s).out.length <= s.out.length+ys.length
 | [],s=>Nat.le_refl _
 | y :: r,s=>by
  have:=fold_len p r (stepF p s y);have h1:(stepF p s y).out.length <= s.out.length+1:=by
   unfold stepF
   cases idxN s.out (remap s.tm (p y)) with
   | some k=>exact Nat.le_succ _
   | none=>simp
  simp only [List.foldl_cons,List.length_cons];omega
def depF (p:Nat -> Nd):Nat -> Nat -> Nat
 | 0,_=>0
 | f+1,x=>(kids (p x)).foldl (fun m c=>max m (depF p f c)) 0+1
theorem foldl_congr_mem {g h:Nat -> Nat -> Nat}:∀ (L:List Nat) (a:Nat),(∀ c∈L,∀ m,g m c=h m c) -> L.foldl g a=L.foldl h a
 | [],_,_=>rfl
 | c :: r,a,e=>by
  simp only [List.foldl_cons];rw [e c (.head _),foldl_congr_mem r _ fun d hd=>e d (.tail _ hd)]
theorem dep_fuel (p:Nat -> Nd) (n:Nat) (hac:∀ x,x<n -> ∀ c∈kids (p x),c<x):∀ (f g x:Nat),x<n -> x<f -> x<g -> depF p f x=depF p g x
 | 0,_,_,_,h,_=>by omega
 | _+1,0,_,_,_,h=>by omega
 | f+1,g+1,x,hn,hf,hg=>by
  refine congrArg (· + 1) (foldl_congr_mem (h:=fun m c=>max m (depF p g c)) (kids (p x)) 0 fun c hc m => ?_);rw [dep_fuel p n hac f g c (by have:=hac x hn c hc; omega) (by have:=hac x hn c hc; omega) (by have:=hac x hn c hc; omega)]
def depP (l:List Nd) (x:Nat):Nat:=depF (nth l) (x+1) x
theorem depP_eq {l:List Nd} (hr:rightP l=true) (x:Nat) (hx:x<l.length):depP l x=(kids (nth l x)).foldl (fun m c=>max m (depP l c)) 0+1:=by
 refine congrArg (· + 1) (foldl_congr_mem (h:=fun m c=>max m (depP l c)) (kids (nth l x)) 0 fun c hc m => ?_);rw [show depP l c=depF (nth l) (c+1) c from rfl,dep_fuel (nth l) l.length (right_ac hr) x (c+1) c (by have:=right_ac hr x hx c hc; omega) (right_ac hr x hx c hc) (by omega)]
end Go.Proofs.YtcbgkbidgpemfaaGreatDoor.flatm

/- burnishref20.way: what the root needs, as the document goes through it, is what the program's walk meets. Plain; no condition but those stated. -/
namespace Go.Proofs.YtcbgkbidgpemfaaGreatDoor.rg
open nodew
open flatm
def wayF (p:Nat -> Nd):Nat -> Nat -> List Nat -> List Nat
 | 0,_,l=>l
 | f+1,x,l=>if x∈l then l else (kids (p x)).foldl (fun l c=>wayF p f c l) l ++ [x]
theorem way_visit (p:Nat -> Nd):∀ (f x:Nat) (l:List Nat) (D:Nat -> Bool),(∀ y,D y=decide (y∈l)) -> wayF p f x l=l ++ (visitD p f x D).2 ∧ ∀ y,(visitD p f x D).1 y=decide (y∈wayF p f x l)
 | 0,x,l,D,h=>⟨(List.append_nil l).symm,h⟩
 | f+1,x,l,D,h=>by
  unfold wayF visitD
  by_cases hx:x∈l
  ·rw [if_pos hx,if_pos (by rw [h x]; exact decide_eq_true hx)];exact ⟨(List.append_nil l).symm,h⟩
  ·rw [if_neg hx,if_neg (by rw [h x]; simpa using hx)];have key:∀ (L:List Nat) (l1:List Nat) (D1:Nat -> Bool),(∀ y,D1 y=decide (y∈l1)) ->
     L.foldl (fun l c=>wayF p f c l) l1=l1 ++ (runK (visitD p f) L D1).2 ∧ ∀ y,(runK (visitD p f) L D1).1 y=decide (y∈L.foldl (fun l c=>wayF p f c l) l1):=by
    intro L
    induction L with
    | nil=>exact fun l1 D1 h1=>⟨(List.append_nil l1).symm,h1⟩
    | cons c r ih =>
     intro l1 D1 h1;obtain ⟨i1,i2⟩:=way_visit p f c l1 D1 h1;obtain ⟨j1,j2⟩:=ih (wayF p f c l1) (visitD p f c D1).1 i2;refine ⟨?_,j2⟩;show List.foldl _ (wayF p f c l1) r=l1 ++ ((visitD p f c D1).2 ++ (runK (visitD p f) r (visitD p f c D1).1).2);rw [j1,i1,List.append_assoc]
   obtain ⟨k1,k2⟩:=key (kids (p x)) l D h;refine ⟨?_,fun y => ?_⟩
   ·show _ ++ [x]=l ++ ((runK (visitD p f) (kids (p x)) D).2 ++ [x]);rw [k1,List.append_assoc]
   ·show upd (runK (visitD p f) (kids (p x)) D).1 x true y=_
    by_cases e:y=x
    ·subst e;rw [upd_same];simp
    ·rw [upd_ne _ _ _ _ e,k2 y];simp [e]
theorem way_ord (l:List Nd) (hac:∀ x,x<l.length -> ∀ c∈kids (nth l x),c<x) (h:0<l.length):wayF (nth l) l.length (l.length-1) []=ordP l:=by
 obtain ⟨h1,-⟩:=way_visit (nth l) l.length (l.length-1) [] none_ (fun y=>by simp [none_]);rw [h1,List.nil_append];unfold ordP;exact (visit_same (nth l) l.length hac l.length (l.length-1) l.length none_ none_ (by omega) (by omega) (fun _ _=>rfl)).1.symm
end Go.Proofs.YtcbgkbidgpemfaaGreatDoor.rg

/- A range over a function whose iterator turns cells of its own and whose body may turn a map: the statement, out of one walk of the body and the iterator's contract. No conditions but those stated. -/
namespace Go.Proofs.YtcbgkbidgpemfaaGreatDoor.flatw
open Go Go.RowKit
def isRec:Obj -> Bool
 | .loop _=>true
 | .deferred _=>true
 | _=>false
def KeepsRec (W W':World):Prop:=∀ (k:Nat) (o:Obj),W.heap[k]? = some o -> isRec o=true -> W'.heap[k]? = some o
theorem KeepsRec.refl (W:World):KeepsRec W W:=fun _ _ h _=>h
theorem KeepsRec.trans {A B C:World} (h:KeepsRec A B) (k:KeepsRec B C):KeepsRec A C:=fun i o h1 h2=>k i o (h i o h1 h2) h2
def bodyEnd {α:Type} (I:List α -> World -> Prop) (Kp:World -> World -> Prop) (xs:List α) (W:World):Exit -> Act -> World -> Prop
 | .normal,_,W'=>I xs W'∧Kp W W'∧KeepsRec W W'
 | _,_,_=>False
def Recs (b:Nat) (r:Loop) (W:World):Prop:=W.heap[b+1]? = some (.loop r)∧W.heap[b]? = some (.deferred (some []))
theorem Recs.keep {b:Nat} {r:Loop} {W W':World} (h:Recs b r W) (hk:KeepsRec W W'):Recs b r W':=⟨hk _ _ h.1 rfl,hk _ _ h.2 rfl⟩
variable {F:Fence} {n:Nat} {P:Program}
theorem range_law {α:Type} {g:Operand} {ps:Array Tmp} {assign body:Code} {Q:Exit -> Act -> World -> Prop} {a:Act} {w:World}
    (hro:F.round=none) (h1:1 <= n) {gf:Nat} {lb:Array Value} (hg:a.eval g = .func (.func gf) #[] lb) (hFg:F.fn gf) (eg:∀ args w,(callFunc gf args).run P w = .ok (.enter gf args) w)
    (encs:α -> Array Value) (hps:∀ x,(encs x).size=ps.size) (I:List α -> World -> Prop) (Kp:World -> World -> Prop) (N:List α -> α -> Prop) (xs:List α) (m0:Nat)
    (hIr:∀ pre W l o o',I pre W -> w.heap.size <= l -> W.heap[l]? = some o -> isRec o=true -> isRec o'=true -> I pre (W.putObj l o'))
    (hKr:∀ W l o o',w.heap.size <= l -> W.heap[l]? = some o -> isRec o=true -> isRec o'=true -> Kp W (W.putObj l o'))
    (hKt:∀ {A B C:World},Kp A B -> Kp B C -> Kp A C)
    (hcall:∀ r:Loop,Recs w.heap.size r ((w.alloc (.deferred (some []))).alloc (.loop r)) ->
      (∀ (m:Nat) (pre:List α) (x:α) (W:World),m0 <= m -> I pre W -> Recs w.heap.size r W -> N pre x -> YieldAt F m P (w.heap.size+1) (encs x) W fun e W'=>e = .returned (.bool true)∧I (pre ++ [x]) W'∧Kp W W'∧Recs w.heap.size r W') ->
      CallsIn F (n-1) P gf (#[.func (.yield (w.heap.size+1)) #[] #[]] ++ lb) ((w.alloc (.deferred (some []))).alloc (.loop r)) fun e W'=>(∃ v,e = .returned v)∧I xs W'∧Recs w.heap.size r W')
    (a₁:α -> Act)
    (hassign:∀ (l m:Nat) (x:α) (W:World) (K:Act -> World -> Prop),K (a₁ x) W ->
      assign.wpIn (F.inRound l) m P (Exit.then K (fun _ _ _=>False)) { tmps:=(ps.zip (encs x)).foldl (fun t (p,v)=>t.setIfInBounds p v) a.tmps,defers:=[] } W)
    (hbody:∀ (l m:Nat) (pre:List α) (x:α) (W:World),m0 <= m -> I pre W -> N pre x -> body.wpIn (F.inRound l) m P (bodyEnd I Kp (pre ++ [x]) W) (a₁ x) W)
    (hdone:∀ W:World,I xs W -> W.heap[w.heap.size]? = some (.deferred (some [])) -> Q .normal { a with defers:={ target:=.collected w.heap.size,args:=#[] } :: a.defers } W) :
    (Code.rangeFunc g ps assign body).wpIn F n P Q a w:=by
  refine wpIn_rangeFunc ?_;intro fn hfn;rw [hro];obtain ⟨rec,hrec⟩:∃ rec:LoopState -> Option Code -> Loop,rec=fun st pe=>{ state:=st,pending:=pe,fn,tmps:=a.tmps,params:=ps,assign,body,defers:=w.heap.size }:=⟨_,rfl⟩;obtain ⟨W1,hW1⟩:∃ W1,(w.alloc (.deferred (some []))).alloc (.loop (rec .ready none))=W1:=⟨_,rfl⟩;have hR1:Recs w.heap.size (rec .ready none) W1:=by
    refine ⟨?_,?_⟩
    · rw [<- hW1];have:=World.alloc_heap_new (w.alloc (.deferred (some []))) (.loop (rec .ready none));rwa [World.size_alloc] at this
    · rw [<- hW1];exact (Below.heap_alloc _ _ _ (by simp)).trans (World.alloc_heap_new w _)
  refine ⟨w.heap.size+1,[{ target:=.collected w.heap.size,args:=#[] }],W1,{ target:=.fn (.func gf) lb,args:=#[.func (.yield (w.heap.size+1)) #[] #[]] },W1,gf,
    #[.func (.yield (w.heap.size+1)) #[] #[]] ++ lb,W1,?_,?_,?_,?_,fun _=>h1,?_⟩
  · rw [<- hW1,hrec]; exact run_enterLoop_outer _ _ _ _ _
  · simp only [resolve,hg];simp [go_sem]
  · intro f' hf';simp [Target.leads] at hf';subst hf';exact hFg
  · simp [invoke,go_sem,eg]
  · have hc:=hcall (rec .ready none) (by rw [hW1]; exact hR1) ?_
    · rw [hW1] at hc;refine hc.mono ?_;rintro e W2 ⟨⟨v,rfl⟩,hi,hl,hk⟩;have hend:=run_endLoop (P:=P) hl (by rw [hrec]; simp);rw [hrec] at hend;refine ⟨none,_,hend,?_⟩;rw [hrec] at hl;exact hdone _ (hIr _ _ _ _ _ hi (by omega) hl rfl rfl) ((World.putObj_heap_other (by omega)).trans hk)
    · intro m pre x W hm hi hr hN;obtain ⟨hl,hk⟩:=hr;have hlt:w.heap.size+1<W.heap.size:=(Array.getElem?_eq_some_iff.1 hl).1;have hy:=run_yield (P:=P) (args:=encs x) hl (by rw [hrec]; exact hps x);rw [hrec] at hy;have hbg:=run_beginRound (P:=P) hl (by rw [hrec]);obtain ⟨W',hW'⟩:∃ W',W.putObj (w.heap.size+1) (.loop { rec .ready none with state:=.busy })=W':=⟨_,rfl⟩;have hl2:W'.heap[w.heap.size+1]? = some (.loop { rec .ready none with state:=.busy }):=by rw [<- hW']; exact World.putObj_heap_same hlt
      have hk2:W'.heap[w.heap.size]? = some (.deferred (some [])):=by rw [<- hW']; exact (World.putObj_heap_other (by omega)).trans hk
      have hi2:I pre W':=by rw [<- hW']; exact hIr _ _ _ _ _ hi (by omega) hl rfl rfl
      have hK2:Kp W W':=by rw [<- hW']; exact hKr _ _ _ _ (by omega) hl rfl rfl
      refine ⟨fn,_,assign,body,hy,roundIn_of_wpIn hfn (hassign _ m x W _ ⟨_,hbg,?_⟩)⟩;rw [hW'];refine wpIn_mono (hbody _ m pre x W' hm hi2 hN) ?_;rintro e a3 W3 hp
      cases e with
      | normal =>
        obtain ⟨hi3,hK3,hR3⟩:=hp;have hl3:=hR3 _ _ hl2 rfl;have hk3:=hR3 _ _ hk2 rfl;have hend:=run_endRound (P:=P) none hl3;refine ⟨_,_,hend,rfl,hIr _ _ _ _ _ hi3 (by omega) hl3 rfl rfl,hKt (hKt hK2 hK3) (hKr _ _ _ _ (by omega) hl3 rfl rfl),?_,?_⟩
        · have:=World.putObj_heap_same (w:=W3) (o:=.loop { ({ rec .ready none with state:=.busy }:Loop) with state:=.ready,pending:=none }) (Array.getElem?_eq_some_iff.1 hl3).1;rw [hrec] at this ⊢;exact this
        · exact (World.putObj_heap_other (by omega)).trans hk3
      | ret=>exact hp.elim
      | exit id=>exact hp.elim
      | goto t=>exact hp.elim
      | panic ch=>exact hp.elim
      | outgrown=>exact hp.elim
end Go.Proofs.YtcbgkbidgpemfaaGreatDoor.flatw

/- The plain mathematics of layer 15 (lex): what the tokens of a list of bytes are. No program in sight. No conditions. -/
namespace Go.Proofs.YtcbgkbidgpemfaaGreatDoor.lexm
def ltrI (c:Int):Bool:=(decide (65 <= c) && decide (c <= 90)) || (decide (97 <= c) && decide (c <= 122)) || c == 95
def digI (c:Int):Bool:=decide (48 <= c) && decide (c <= 57)
def namI (c:Int):Bool:=ltrI c || digI c
def numI (c:Int):Bool:=(!(c == 95) && namI c) || c == 45 || c == 43 || c == 46
def remI (c:Int):Bool:=!(c == 10)
def runL (p:Int -> Bool):List UInt8 -> Nat
 | []=>0
 | c :: r=>if p c.toNat then runL p r+1 else 0
theorem runL_le (p:Int -> Bool) (l:List UInt8):runL p l <= l.length:=by
 induction l with
 | nil=>simp [runL]
 | cons c r ih=>simp only [runL,List.length_cons]; split <;> omega
theorem runL_pos {p:Int -> Bool} {c:UInt8} {r:List UInt8} (h:p c.toNat=true):runL p (c :: r)=runL p r+1:=by simp [runL,h]
theorem runL_neg {p:Int -> Bool} {c:UInt8} {r:List UInt8} (h:p c.toNat=false):runL p (c :: r)=0:=by simp [runL,h]
def firstL:List UInt8 -> Nat × Nat × Bool
 | []=>(0,0,false)
 | c :: r =>
  if c.toNat=32 then (0,1,true)
  else if c.toNat=35 then (0,runL remI (c :: r),true)
  else if c.toNat=10 then (4,1,true)
  else if c.toNat=61 then (3,1,true)
  else if ltrI c.toNat=true then (1,runL namI (c :: r),decide (runL namI (c :: r) <= 32))
  else if (digI c.toNat || (c.toNat:Int) == 45 || (c.toNat:Int) == 46)=true then (2,runL numI (c :: r),decide (runL numI (c :: r) <= 40))
  else (0,0,false)
theorem firstL_le (l:List UInt8):(firstL l).2.1 <= l.length:=by
 cases l with
 | nil=>simp [firstL]
 | cons c r =>
  have h1:=runL_le remI (c :: r);have h2:=runL_le namI (c :: r);have h3:=runL_le numI (c :: r);simp only [List.length_cons] at *;simp only [firstL]
  repeat' split
  all_goals simp only
  all_goals omega
theorem firstL_kind (l:List UInt8):(firstL l).1 <= 4:=by
 cases l with
 | nil=>simp [firstL]
 | cons c r =>
  unfold firstL
  repeat' split
  all_goals simp only
  all_goals omega
theorem ltr_nam {c:Int} (h:ltrI c=true):namI c=true:=by simp [namI,h]
theorem dig_num {c:Int} (h:(digI c || c == 45 || c == 46)=true):numI c=true:=by
 simp only [Bool.or_eq_true,beq_iff_eq] at h
 rcases h with (h | h) | h
 ·have h2:=h;simp only [digI,Bool.and_eq_true,decide_eq_true_eq] at h2;have h3:¬ c=95:=by omega
  simp [numI,namI,h,h3]
 ·simp [numI,h]
 ·simp [numI,h]
theorem firstL_pos {l:List UInt8} (hl:l≠[]) (h:(firstL l).2.2=true∨(firstL l).1≠0):1 <= (firstL l).2.1:=by
 cases l with
 | nil=>exact absurd rfl hl
 | cons c r =>
  simp only [firstL] at h ⊢
  split at h
  ·simp [*]
  ·rename_i h32;rw [if_neg h32]
   split at h
   ·rename_i h35;rw [if_pos h35,runL_pos (by simp [remI,h35])];simp
   ·rename_i h35;rw [if_neg h35]
    split at h
    ·simp [*]
    ·rename_i h10;rw [if_neg h10]
     split at h
     ·simp [*]
     ·rename_i h61;rw [if_neg h61]
      split at h
      ·rename_i hlt;rw [if_pos hlt,runL_pos (ltr_nam hlt)];simp
      ·rename_i hlt;rw [if_neg hlt]
       split at h
       ·rename_i hd;rw [if_pos hd,runL_pos (dig_num hd)];simp
       ·simp at h
structure Tok where
 kind:Nat
 pos:Nat
 text:List UInt8
deriving DecidableEq
def Tok.cells (t:Tok):List Value:=[.int .u8 t.kind,.int .i64 t.pos,.string ⟨t.text.toArray⟩]
def Tok.val (t:Tok):Value:=.agg #[.int .u8 t.kind,.int .i64 t.pos,.string ⟨t.text.toArray⟩]
def cellsOf (ts:List Tok):List Value:=ts.flatMap Tok.cells
theorem cellsOf_length (ts:List Tok):(cellsOf ts).length=ts.length*3:=by
 induction ts with
 | nil=>rfl
 | cons t r ih=>simp only [cellsOf,List.flatMap_cons,List.length_append,List.length_cons] at *; rw [ih]; simp [Tok.cells]; omega
theorem cellsOf_snoc (ts:List Tok) (t:Tok):cellsOf (ts ++ [t])=cellsOf ts ++ t.cells:=by simp [cellsOf]
def lexG:Nat -> List UInt8 -> Nat -> Nat -> List (Tok × Bool)
 | _,[],i,last=>if last=4 then [] else [(⟨4,i,[]⟩,true)]
 | 0,_ :: _,_,_=>[]
 | f+1,c :: r,i,last =>
  match firstL (c :: r) with
  | (k,n,true)=>if k=0 then lexG f ((c :: r).drop n) (i+n) last else (⟨k,i,(c :: r).take n⟩,true) :: lexG f ((c :: r).drop n) (i+n) k
  | (k,n,false)=>[(⟨k,i,(c :: r).take n⟩,false)]
theorem lexG_more:∀ (f g:Nat) (l:List UInt8) (i last:Nat),l.length <= f -> l.length <= g -> lexG f l i last=lexG g l i last:=by
 intro f
 induction f with
 | zero =>
  intro g l i last hf hg;obtain rfl:l=[]:=List.eq_nil_of_length_eq_zero (by omega)
  cases g <;> rfl
 | succ f ih =>
  intro g l i last hf hg
  cases l with
  | nil=>cases g <;> rfl
  | cons c r =>
   cases g with
   | zero=>simp at hg
   | succ g =>
    have hp:=firstL_pos (l:=c :: r) (by simp);unfold lexG;generalize firstL (c :: r)=q at *;obtain ⟨k,n,b⟩:=q
    cases b with
    | false=>rfl
    | true =>
     have hn:1 <= n:=hp (.inl rfl);have hd:((c :: r).drop n).length <= f:=by rw [List.length_drop]; omega
     have hd':((c :: r).drop n).length <= g:=by rw [List.length_drop]; omega
     simp only;rw [ih g _ _ last hd hd',ih g _ _ k hd hd']
def lexT (l:List UInt8) (i last:Nat):List (Tok × Bool):=lexG l.length l i last
theorem lexT_nil (i last:Nat):lexT [] i last=if last=4 then [] else [(⟨4,i,[]⟩,true)]:=rfl
theorem lexT_skip {l:List UInt8} {n i last:Nat} (hl:l≠[]) (h:firstL l=(0,n,true)):lexT l i last=lexT (l.drop n) (i+n) last:=by
 cases l with
 | nil=>exact absurd rfl hl
 | cons c r =>
  have hn:1 <= n:=by have:=firstL_pos (l:=c :: r) (by simp) (.inl (by rw [h])); rwa [h] at this
  unfold lexT;rw [List.length_cons]
  conv=>lhs; unfold lexG
  rw [h];simp only [if_true];exact lexG_more _ _ _ _ _ (by rw [List.length_drop,List.length_cons]; omega) (Nat.le_refl _)
theorem lexT_tok {l:List UInt8} {k n i last:Nat} (hl:l≠[]) (h:firstL l=(k,n,true)) (hk:k≠0):lexT l i last=(⟨k,i,l.take n⟩,true) :: lexT (l.drop n) (i+n) k:=by
 cases l with
 | nil=>exact absurd rfl hl
 | cons c r =>
  have hn:1 <= n:=by have:=firstL_pos (l:=c :: r) (by simp) (.inl (by rw [h])); rwa [h] at this
  unfold lexT;rw [List.length_cons]
  conv=>lhs; unfold lexG
  rw [h];simp only [if_neg hk];rw [lexG_more r.length _ _ _ k (by rw [List.length_drop,List.length_cons]; omega) (Nat.le_refl _)]
theorem lexT_bad {l:List UInt8} {k n i last:Nat} (hl:l≠[]) (h:firstL l=(k,n,false)):lexT l i last=[(⟨k,i,l.take n⟩,false)]:=by
 cases l with
 | nil=>exact absurd rfl hl
 | cons c r =>
  unfold lexT;rw [List.length_cons]
  conv=>lhs; unfold lexG
  rw [h]
def errOf:List (Tok × Bool) -> Option Nat
 | []=>none
 | (_,true) :: r=>errOf r
 | (t,false) :: _=>some t.pos
def toksOf:List (Tok × Bool) -> List Tok
 | []=>[]
 | (t,true) :: r=>t :: toksOf r
 | (_,false) :: _=>[]
theorem errOf_app (ts:List Tok) (r:List (Tok × Bool)):errOf (ts.map (fun t=>(t,true)) ++ r)=errOf r:=by
 induction ts with
 | nil=>rfl
 | cons t ts ih=>simpa [errOf] using ih
theorem toksOf_app (ts:List Tok) (r:List (Tok × Bool)):toksOf (ts.map (fun t=>(t,true)) ++ r)=ts ++ toksOf r:=by
 induction ts with
 | nil=>rfl
 | cons t ts ih=>simpa [toksOf] using ih
def lexRes (l:List UInt8):List Tok × Nat × Nat :=
 if 1048576<l.length then ([],1048576,151)
 else match errOf (lexT l 0 4) with
  | some i=>([],i,150)
  | none=>(toksOf (lexT l 0 4),0,0)
theorem lexG_len (f:Nat):∀ (l:List UInt8) (i last:Nat),l.length <= f -> (lexG f l i last).length <= l.length+1:=by
 induction f with
 | zero =>
  intro l i last hf;obtain rfl:l=[]:=List.eq_nil_of_length_eq_zero (by omega);unfold lexG; split <;> simp
 | succ f ih =>
  intro l i last hf
  cases l with
  | nil=>unfold lexG; split <;> simp
  | cons c r =>
   have hp:=firstL_pos (l:=c :: r) (by simp);unfold lexG;generalize firstL (c :: r)=q at *;obtain ⟨k,n,b⟩:=q
   cases b with
   | false=>simp
   | true =>
    have hn:1 <= n:=hp (.inl rfl);have hd:((c :: r).drop n).length <= f:=by rw [List.length_drop]; omega
    have hl:((c :: r).drop n).length+1 <= (c :: r).length:=by rw [List.length_drop]; simp only [List.length_cons] at *; omega
    simp only
    split
    ·exact Nat.le_trans (ih _ _ _ hd) (by omega)
    ·have:=ih _ (i+n) k hd;simp only [List.length_cons] at *;omega
theorem lexT_len (l:List UInt8) (i last:Nat):(lexT l i last).length <= l.length+1:=lexG_len _ _ _ _ (Nat.le_refl _)
end Go.Proofs.YtcbgkbidgpemfaaGreatDoor.lexm

/- Contracts of library functions, laid by the shelf of the kit for this translation, in plain words. Conditions: as each theorem states. -/
namespace Go.Proofs
open Go.Shelf
def Tryz.lays129_ren:Go.Shelf.Ren:=⟨fun | 129 => 186 | n=>n,fun | 53 => 109 | 3 => 3 | 4 => 4 | 46 => 191 | 5 => 5 | 9 => 9 | n=>n,fun | n=>n⟩
theorem Tryz.lays129:Go.Proofs.Lays.n129 Tryz.prog Tryz.lays129_ren:={
 mixed:=by kernel_rfl
 f129:=Tryz.func186.trans (congrArg some (by kernel_rfl))
 t3:=Tryz.underlying3
 a3:=Tryz.isAgg3
 z3:=Tryz.sizeOf3
 v3:=Tryz.zeroValue3
 t4:=Tryz.underlying4
 a4:=Tryz.isAgg4
 z4:=Tryz.sizeOf4
 v4:=Tryz.zeroValue4
 t5:=Tryz.underlying5
 a5:=Tryz.isAgg5
 z5:=Tryz.sizeOf5
 v5:=Tryz.zeroValue5
 t9:=Tryz.underlying9
 a9:=Tryz.isAgg9
 z9:=Tryz.sizeOf9
 v9:=Tryz.zeroValue9
 t46:=Tryz.underlying191
 a46:=Tryz.isAgg191
 z46:=Tryz.sizeOf191
 v46:=Tryz.zeroValue191
 t53:=Tryz.underlying109
 a53:=Tryz.isAgg109
 z53:=Tryz.sizeOf109
 v53:=Tryz.zeroValue109 }
theorem Tryz.bits_Len64 (x:Int) (w:World) (h0:0 <= x) (h1:x <= 18446744073709551615) :
  Calls Tryz.prog 186 #[.int .u64 x] w fun e w'=>e = .returned (.int .i64 (Lib.bitLen x.toNat))∧w'=w:=Any.bits_Len64 Tryz.lays129 x w h0 h1
def Tryz.lays264_ren:Go.Shelf.Ren:=⟨fun | 264 => 199 | n=>n,fun | 53 => 109 | 46 => 191 | n=>n,fun | n=>n⟩
theorem Tryz.lays264:Go.Proofs.Lays.n264 Tryz.prog Tryz.lays264_ren:={
 mixed:=by kernel_rfl
 f264:=Tryz.func199.trans (congrArg some (by kernel_rfl))
 t46:=Tryz.underlying191
 a46:=Tryz.isAgg191
 z46:=Tryz.sizeOf191
 v46:=Tryz.zeroValue191
 t53:=Tryz.underlying109
 a53:=Tryz.isAgg109
 z53:=Tryz.sizeOf109
 v53:=Tryz.zeroValue109 }
open Go.RowKit Go.Lib in
theorem Tryz.bits_Mul64 (x y:Nat) (hx:x<18446744073709551616) (hy:y<18446744073709551616) (w:World) :
  Calls Tryz.prog 199 #[.int .u64 x,.int .u64 y] w fun e w'=>e = .returned (.tuple #[.int .u64 ((x*y / 18446744073709551616:Nat):Int),.int .u64 ((x*y % 18446744073709551616:Nat):Int)])∧w'=w:=Any.bits_Mul64 Tryz.lays264 x y hx hy w
def Tryz.lays103_ren:Go.Shelf.Ren:=⟨fun | 103 => 163 | 210 => 202 | 206 => 200 | n=>n,fun | 9 => 9 | 4 => 4 | 24 => 203 | 3 => 3 | n=>n,fun | n=>n⟩
theorem Tryz.lays103:Go.Proofs.Lays.n103 Tryz.prog Tryz.lays103_ren:={
 mixed:=by kernel_rfl
 f103:=Tryz.func163.trans (congrArg some (by kernel_rfl))
 f206:=Tryz.func200.trans (congrArg some (by kernel_rfl))
 f210:=Tryz.func202.trans (congrArg some (by kernel_rfl))
 t3:=Tryz.underlying3
 a3:=Tryz.isAgg3
 z3:=Tryz.sizeOf3
 v3:=Tryz.zeroValue3
 t4:=Tryz.underlying4
 a4:=Tryz.isAgg4
 z4:=Tryz.sizeOf4
 v4:=Tryz.zeroValue4
 t9:=Tryz.underlying9
 a9:=Tryz.isAgg9
 z9:=Tryz.sizeOf9
 v9:=Tryz.zeroValue9
 t24:=Tryz.underlying203
 a24:=Tryz.isAgg203
 z24:=Tryz.sizeOf203
 v24:=Tryz.zeroValue203 }
open Go.RowKit in
theorem Tryz.strings_CutPrefix (s p:ByteArray) (w:World) :
  Calls Tryz.prog 163 #[.string s,.string p] w fun e w'=>e = .returned (.tuple #[.string ⟨(Lib.trimPrefix s.data.toList p.data.toList).toArray⟩,.bool (Lib.hasPrefix s.data.toList p.data.toList)])∧w'=w:=Any.strings_CutPrefix Tryz.lays103 s p w
def Tryz.laysC245_ren:Go.Shelf.Ren:=⟨fun | 245 => 117 | 279 => 146 | 280 => 147 | 281 => 148 | 282 => 149 | 316 => 196 | 171 => 79 | 205 => 197 | 243 => 109 | 246 => 141 | 283 => 174 | 284 => 175 | 285 => 176 | 286 => 177 | 129 => 186 | 317 => 189 | 318 => 211 | 319 => 212 | 320 => 213 | 337 => 238 | 338 => 239 | n=>n,fun | 9 => 9 | 3 => 3 | 75 => 96 | 167 => 185 | 4 => 4 | 168 => 188 | 210 => 236 | 37 => 92 | 0 => 0 | 127 => 145 | 145 => 271 | 143 => 269 | 2 => 2 | 171 => 213 | 53 => 109 | 5 => 5 | 173 => 216 | 212 => 250 | 51 => 219 | 20 => 20 | 213 => 251 | 46 => 191 | 232 => 224 | 233 => 303 | 80 => 99 | n=>n,fun | 15 => 3 | 16 => 4 | 17 => 7 | 18 => 12 | 19 => 13 | n=>n⟩
theorem Tryz.laysC245:Go.Proofs.LaysC.n245 Tryz.prog Tryz.laysC245_ren:={
 mixed:=by kernel_rfl
 f129:=Tryz.func186.trans (congrArg some (by kernel_rfl))
 f171:=Tryz.func79.trans (congrArg some (by kernel_rfl))
 f205:=Tryz.func197.trans (congrArg some (by kernel_rfl))
 f243:=Tryz.func109.trans (congrArg some (by kernel_rfl))
 f245:=Tryz.func117.trans (congrArg some (by kernel_rfl))
 f246:=Tryz.func141.trans (congrArg some (by kernel_rfl))
 f279:=Tryz.func146.trans (congrArg some (by kernel_rfl))
 f280:=Tryz.func147.trans (congrArg some (by kernel_rfl))
 f281:=Tryz.func148.trans (congrArg some (by kernel_rfl))
 f282:=Tryz.func149.trans (congrArg some (by kernel_rfl))
 f283:=Tryz.func174.trans (congrArg some (by kernel_rfl))
 f284:=Tryz.func175.trans (congrArg some (by kernel_rfl))
 f285:=Tryz.func176.trans (congrArg some (by kernel_rfl))
 f286:=Tryz.func177.trans (congrArg some (by kernel_rfl))
 f316:=Tryz.func196.trans (congrArg some (by kernel_rfl))
 f317:=Tryz.func189.trans (congrArg some (by kernel_rfl))
 f318:=Tryz.func211.trans (congrArg some (by kernel_rfl))
 f319:=Tryz.func212.trans (congrArg some (by kernel_rfl))
 f320:=Tryz.func213.trans (congrArg some (by kernel_rfl))
 f337:=Tryz.func238.trans (congrArg some (by kernel_rfl))
 f338:=Tryz.func239.trans (congrArg some (by kernel_rfl))
 t0:=Tryz.underlying0
 a0:=Tryz.isAgg0
 z0:=Tryz.sizeOf0
 v0:=Tryz.zeroValue0
 t2:=Tryz.underlying2
 a2:=Tryz.isAgg2
 z2:=Tryz.sizeOf2
 v2:=Tryz.zeroValue2
 t3:=Tryz.underlying3
 a3:=Tryz.isAgg3
 z3:=Tryz.sizeOf3
 v3:=Tryz.zeroValue3
 t4:=Tryz.underlying4
 a4:=Tryz.isAgg4
 z4:=Tryz.sizeOf4
 v4:=Tryz.zeroValue4
 t5:=Tryz.underlying5
 a5:=Tryz.isAgg5
 z5:=Tryz.sizeOf5
 v5:=Tryz.zeroValue5
 t9:=Tryz.underlying9
 a9:=Tryz.isAgg9
 z9:=Tryz.sizeOf9
 v9:=Tryz.zeroValue9
 t20:=Tryz.underlying20
 a20:=Tryz.isAgg20
 z20:=Tryz.sizeOf20
 v20:=Tryz.zeroValue20
 t37:=Tryz.underlying92
 a37:=Tryz.isAgg92
 z37:=Tryz.sizeOf92
 v37:=Tryz.zeroValue92
 t46:=Tryz.underlying191
 a46:=Tryz.isAgg191
 z46:=Tryz.sizeOf191
 v46:=Tryz.zeroValue191
 t51:=Tryz.underlying219
 a51:=Tryz.isAgg219
 z51:=Tryz.sizeOf219
 v51:=Tryz.zeroValue219
 t53:=Tryz.underlying109
 a53:=Tryz.isAgg109
 z53:=Tryz.sizeOf109
 v53:=Tryz.zeroValue109
 t75:=Tryz.underlying96
 a75:=Tryz.isAgg96
 z75:=Tryz.sizeOf96
 v75:=Tryz.zeroValue96
 t127:=Tryz.underlying145
 a127:=Tryz.isAgg145
 z127:=Tryz.sizeOf145
 v127:=Tryz.zeroValue145
 t143:=Tryz.underlying269
 a143:=Tryz.isAgg269
 z143:=Tryz.sizeOf269
 v143:=Tryz.zeroValue269
 t145:=Tryz.underlying271
 a145:=Tryz.isAgg271
 z145:=Tryz.sizeOf271
 v145:=Tryz.zeroValue271
 t167:=Tryz.underlying185
 a167:=Tryz.isAgg185
 z167:=Tryz.sizeOf185
 v167:=Tryz.zeroValue185
 t168:=Tryz.underlying188
 a168:=Tryz.isAgg188
 z168:=Tryz.sizeOf188
 v168:=Tryz.zeroValue188
 t171:=Tryz.underlying213
 a171:=Tryz.isAgg213
 z171:=Tryz.sizeOf213
 v171:=Tryz.zeroValue213
 t173:=Tryz.underlying216
 a173:=Tryz.isAgg216
 z173:=Tryz.sizeOf216
 v173:=Tryz.zeroValue216
 t210:=Tryz.underlying236
 a210:=Tryz.isAgg236
 z210:=Tryz.sizeOf236
 v210:=Tryz.zeroValue236
 t212:=Tryz.underlying250
 a212:=Tryz.isAgg250
 z212:=Tryz.sizeOf250
 v212:=Tryz.zeroValue250
 t213:=Tryz.underlying251
 a213:=Tryz.isAgg251
 z213:=Tryz.sizeOf251
 t232:=Tryz.underlying224
 a232:=Tryz.isAgg224
 z232:=Tryz.sizeOf224
 v232:=Tryz.zeroValue224
 t233:=Tryz.underlying303
 a233:=Tryz.isAgg303
 z233:=Tryz.sizeOf303
 v233:=Tryz.zeroValue303
 g15:=by kernel_rfl
 g16:=by kernel_rfl
 g17:=by kernel_rfl
 g18:=by kernel_rfl
 g19:=by kernel_rfl
 t80:=Tryz.underlying99
 a80:=Tryz.isAgg99
 z80:=Tryz.sizeOf99
 v80:=Tryz.zeroValue99
 i0:=by kernel_rfl
 i2:=by kernel_rfl
 i3:=by kernel_rfl
 i4:=by kernel_rfl
 i5:=by kernel_rfl
 i9:=by kernel_rfl
 i20:=by kernel_rfl
 i37:=by kernel_rfl
 i46:=by kernel_rfl
 i51:=by kernel_rfl
 i53:=by kernel_rfl
 i75:=by kernel_rfl
 i80:=by kernel_rfl
 i127:=by kernel_rfl
 i143:=by kernel_rfl
 i145:=by kernel_rfl
 i167:=by kernel_rfl
 i168:=by kernel_rfl
 i171:=by kernel_rfl
 i173:=by kernel_rfl
 i210:=by kernel_rfl
 i212:=by kernel_rfl
 i232:=by kernel_rfl
 i233:=by kernel_rfl
 m15:=by kernel_rfl
 m16:=by kernel_rfl
 m17:=by kernel_rfl
 m18:=by kernel_rfl
 m19:=by kernel_rfl
 c0:=by kernel_rfl
 c2:=by kernel_rfl
 c3:=by kernel_rfl
 c4:=by kernel_rfl
 c5:=by kernel_rfl
 c9:=by kernel_rfl
 c20:=by kernel_rfl
 c37:=by kernel_rfl
 c46:=by kernel_rfl
 c51:=by kernel_rfl
 c53:=by kernel_rfl
 c75:=by kernel_rfl
 c80:=by kernel_rfl
 c127:=by kernel_rfl
 c143:=by kernel_rfl
 c145:=by kernel_rfl
 c167:=by kernel_rfl
 c168:=by kernel_rfl
 c171:=by kernel_rfl
 c173:=by kernel_rfl
 c210:=by kernel_rfl
 c212:=by kernel_rfl
 c213:=by kernel_rfl
 c232:=by kernel_rfl
 c233:=by kernel_rfl }
def Tryz.lays321_ren:Go.Shelf.Ren:=⟨fun | 321 => 217 | n=>n,fun | 5 => 5 | n=>n,fun | n=>n⟩
theorem Tryz.lays321:Go.Proofs.Lays.n321 Tryz.prog Tryz.lays321_ren:={
 mixed:=by kernel_rfl
 f321:=Tryz.func217.trans (congrArg some (by kernel_rfl))
 t5:=Tryz.underlying5
 a5:=Tryz.isAgg5
 z5:=Tryz.sizeOf5
 v5:=Tryz.zeroValue5 }
open Go.RowKit in
theorem Tryz.internal_strconv_lower (c:Int) (w:World) :
  Calls Tryz.prog 217 #[.int .u8 c] w fun e w'=>e = .returned (.int .u8 (bits .or .u8 c 32))∧w'=w:=Any.internal_strconv_lower Tryz.lays321 c w
open Go.RowKit in
theorem Tryz.strconv_toError_range (fn s:ByteArray) (base bits:Int) (ev:Value) (w:World) (hlim:s.size <= 281474976710656) (hv:w.cell? ⟨4,0,none⟩=some ev) (hev:ev = .nilIface ∨ ∃ te pe,ev = .iface te pe) :
  Calls Tryz.prog 117 #[.string fn,.string s,.int .i64 base,.int .i64 bits,.iface 185 (.int .i64 1)] w fun e w'=>∃ N,e = .returned (.iface 188 (.pointer (some ⟨N,0,none⟩)))∧w.heap.size <= N∧w'.heap[N]? = some (.cells #[.string fn,.string s,ev] 236 (0,0))∧Below w.heap.size w w':=Any.strconv_toError_range Tryz.laysC245 fn s base bits ev w hlim hv hev
def Tryz.lays101_ren:Go.Shelf.Ren:=⟨fun | 101 => 162 | 208 => 201 | 206 => 200 | n=>n,fun | 9 => 9 | 4 => 4 | 3 => 3 | n=>n,fun | n=>n⟩
theorem Tryz.lays101:Go.Proofs.Lays.n101 Tryz.prog Tryz.lays101_ren:={
 mixed:=by kernel_rfl
 f101:=Tryz.func162.trans (congrArg some (by kernel_rfl))
 f206:=Tryz.func200.trans (congrArg some (by kernel_rfl))
 f208:=Tryz.func201.trans (congrArg some (by kernel_rfl))
 t3:=Tryz.underlying3
 a3:=Tryz.isAgg3
 z3:=Tryz.sizeOf3
 v3:=Tryz.zeroValue3
 t4:=Tryz.underlying4
 a4:=Tryz.isAgg4
 z4:=Tryz.sizeOf4
 v4:=Tryz.zeroValue4
 t9:=Tryz.underlying9
 a9:=Tryz.isAgg9
 z9:=Tryz.sizeOf9
 v9:=Tryz.zeroValue9 }
open Go.RowKit Go.Lib in
theorem Tryz.strings_TrimPrefix (s p:ByteArray) (w:World) :
  Calls Tryz.prog 162 #[.string s,.string p] w fun e w'=>e = .returned (.string ⟨(Lib.trimPrefix s.data.toList p.data.toList).toArray⟩)∧w'=w:=Any.strings_TrimPrefix Tryz.lays101 s p w
def Tryz.lays137_ren:Go.Shelf.Ren:=⟨fun | 137 => 137 | 217 => 173 | 266 => 210 | n=>n,fun | 9 => 9 | 5 => 5 | 3 => 3 | n=>n,fun | n=>n⟩
theorem Tryz.lays137:Go.Proofs.Lays.n137 Tryz.prog Tryz.lays137_ren:={
 mixed:=by kernel_rfl
 f137:=Tryz.func137.trans (congrArg some (by kernel_rfl))
 f217:=Tryz.func173.trans (congrArg some (by kernel_rfl))
 f266:=Tryz.func210.trans (congrArg some (by kernel_rfl))
 t3:=Tryz.underlying3
 a3:=Tryz.isAgg3
 z3:=Tryz.sizeOf3
 v3:=Tryz.zeroValue3
 t5:=Tryz.underlying5
 a5:=Tryz.isAgg5
 z5:=Tryz.sizeOf5
 v5:=Tryz.zeroValue5
 t9:=Tryz.underlying9
 a9:=Tryz.isAgg9
 z9:=Tryz.sizeOf9
 v9:=Tryz.zeroValue9 }
open Go.RowKit in
theorem Tryz.strings_IndexByte (s:ByteArray) (c:Int) (w:World) :
  Calls Tryz.prog 137 #[.string s,.int .u8 c] w fun e w'=>e = .returned (.int .i64 (Lib.indexByte s.data.toList c.toNat.toUInt8))∧w'=w:=Any.strings_IndexByte Tryz.lays137 s c w
end Go.Proofs

/- The contracts of library functions: in ShfP. -/

