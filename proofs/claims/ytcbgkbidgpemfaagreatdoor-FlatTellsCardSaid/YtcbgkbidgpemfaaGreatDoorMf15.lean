/- The small functions of unrounded scaling: what each answers. No conditions but those stated. -/
import Derived.Test.YtcbgkbidgpemfaaGreatDoorMf00
import Derived.Test.YtcbgkbidgpemfaaGreatDoorMf14
import Derived.Test.YtcbgkbidgpemfaaGreatDoorMf02
import Derived.Test.YtcbgkbidgpemfaaGreatDoorMf09
import Derived.WalkKit
import Derived.WalkLawsBesides
import Derived.Lib.Hide
import Derived.IntWalk
import Derived.BigQuiet
import Derived.Lib.ItoaLen
import Derived.Deep.AppendLies
import GoSem.PinnedTables
import Derived.KernelRfl
namespace Go.Proofs.YtcbgkbidgpemfaaGreatDoor
set_option maxRecDepth 100000
set_option maxHeartbeats 1000000
namespace prnw
open Go.RowKit
open bsw
theorem set_grown (W:World) (b j:Nat) (v:Value):W.grownBy (W.setCell ⟨b,j,none⟩ v) (some b):=⟨rfl,rfl,rfl,by simp,fun i _ hne=>Below.heap_setCell W ⟨b,j,none⟩ v i (fun e=>hne (by rw [e]))⟩
def Same (w:World) (v:Value) (e:Ending) (w':World):Prop:=e = .returned v∧w'=w
theorem l2_any (e:Int) (h0 : -3000 <= e) (h1:e <= 3000) (w:World):Calls Tryz.prog 220 #[.int .i64 e] w (Same w (.int .i64 (e*108853 / 32768))):=by
 go_enter Tryz.func220,Tryz.ntmps220;go_wp2;go_ret;exact ⟨rfl,rfl⟩
theorem b2u (b:Bool) (w:World):Calls Tryz.prog 240 #[.bool b] w (Same w (.int .u64 (if b then 1 else 0))):=by
 go_enter Tryz.func240,Tryz.ntmps240
 cases b
 all_goals go_wp2
 all_goals go_ret
 all_goals exact ⟨rfl,rfl⟩
def roundI (u:Int):Int:=IntKind.u64.wrap (IntKind.u64.wrap (u+1)+bits BinOp.and IntKind.u64 (u / 4) 1) / 4
theorem round_any (u:Int) (_h0:0 <= u) (_h1:u<18446744073709551616) (w:World):Calls Tryz.prog 225 #[.int .u64 u] w (Same w (.int .u64 (roundI u))):=by
 go_enter Tryz.func225,Tryz.ntmps225;go_wp2;go_ret;exact ⟨rfl,rfl⟩
theorem wl_pre {P:Program} {ops:Array Oper} {rest:List Oper} {o:Oper} {a:Act} {w:World} {Q:Exit -> Act -> World -> Prop} (h:wpList P ops Q (o :: rest) a w):wpList P ops Q (o :: rest) a w:=h
theorem wl_set_u64 {ops:Array Oper} {rest:List Oper} {o:Oper} {a:Act} {w:World} {Q:Exit -> Act -> World -> Prop} (hgd:o.guard=none) (x y:Operand) (ho:o.op = .store 109 x y) (b j:Nat) (v:Int) (old:Value) (hx:a.eval x = .pointer (some ⟨b,j,none⟩)) (hy:a.eval y = .int .u64 v)
  (hc:w.cell? ⟨b,j,none⟩=some old) (hf:w.frozen? ⟨b,j,none⟩=false)
  (h:wpList Tryz.prog ops Q rest (a.put o.dst undef) (w.setCell ⟨b,j,none⟩ (.int .u64 v))):wpList Tryz.prog ops Q (o :: rest) a w:=by
 have hr:(Instr.storeAt 109 (.pointer (some ⟨b,j,none⟩)) (.int .u64 v)).run Tryz.prog w = .ok () (w.setCell ⟨b,j,none⟩ (.int .u64 v)):=by
  simp [Instr.storeAt,Instr.sureAddr,storeVar,run_store_int,stored,hc,hf,go_sem]
 refine wpList_plain hgd fun K hK => ?_;unfold Oper.wp execOp;simp only [ho,hx,hy,hr,Sem.run_bind,Sem.run_pure,Result.andThen_ok];exact hK _ _ h
theorem wl_set_i64 {ops:Array Oper} {rest:List Oper} {o:Oper} {a:Act} {w:World} {Q:Exit -> Act -> World -> Prop} (hgd:o.guard=none) (x y:Operand) (ho:o.op = .store 3 x y) (b j:Nat) (v:Int) (old:Value) (hx:a.eval x = .pointer (some ⟨b,j,none⟩)) (hy:a.eval y = .int .i64 v)
  (hc:w.cell? ⟨b,j,none⟩=some old) (hf:w.frozen? ⟨b,j,none⟩=false)
  (h:wpList Tryz.prog ops Q rest (a.put o.dst undef) (w.setCell ⟨b,j,none⟩ (.int .i64 v))):wpList Tryz.prog ops Q (o :: rest) a w:=by
 have hr:(Instr.storeAt 3 (.pointer (some ⟨b,j,none⟩)) (.int .i64 v)).run Tryz.prog w = .ok () (w.setCell ⟨b,j,none⟩ (.int .i64 v)):=by
  simp [Instr.storeAt,Instr.sureAddr,storeVar,run_store_int,stored,hc,hf,go_sem]
 refine wpList_plain hgd fun K hK => ?_;unfold Oper.wp execOp;simp only [ho,hx,hy,hr,Sem.run_bind,Sem.run_pure,Result.andThen_ok];exact hK _ _ h
def PT (hi lo:Nat -> Nat) (w:World):Prop:=∀ i,i<696 -> hi i<18446744073709551616∧lo i<18446744073709551616∧w.cell? ⟨8,i*2,none⟩=some (.int .u64 (hi i:Nat))∧w.cell? ⟨8,i*2+1,none⟩=some (.int .u64 (lo i:Nat))
def SC (w:World) (pb:Nat) (hi lo:Nat) (s:Int):Prop:=w.heap[pb]? = some (.cells #[.int .u64 (hi:Nat),.int .u64 (lo:Nat),.int .i64 s] 258 (0,0))
theorem prescale_any (hi lo:Nat -> Nat) (pb:Nat) (e:Int) (i:Nat) (lp:Int) (hi6:i<696) (e0 : -3000 <= e) (e1:e <= 3000) (l0 : -3000 <= lp) (l1:lp <= 3000) (h0 l00:Nat) (s0:Int) (w:World) (hT:PT hi lo w) (hne:pb ≠ 8) (hb:SC w pb h0 l00 s0) :
  Calls Tryz.prog 219 #[.pointer (some ⟨pb,0,none⟩),.int .i64 e,.int .i64 ((i:Int)-348),.int .i64 lp] w fun x w'=>x = .returned (.tuple #[])∧SC w' pb (hi i) (lo i) (-(e+lp+3))∧w.grownBy w' (some pb):=by
 obtain ⟨_,_,c1,c2⟩:=hT i hi6;have i0:(0:Int) <= (i:Int):=by omega
 have i6:(i:Int)<696:=by omega
 have ce:∀ (u:World) (cs:Array Value) (j:Nat),u.heap[pb]? = some (.cells cs 258 (0,0)) -> u.frozen? ⟨pb,j,none⟩=false:=fun u cs j h=>by simp [World.frozen?,h]
 have hb0:w.heap[pb]? = some (.cells #[.int .u64 (h0:Nat),.int .u64 (l00:Nat),.int .i64 s0] 258 (0,0)):=hb;obtain ⟨W1,hW1⟩:∃ W1,W1=w.setCell ⟨pb,0,none⟩ (.int .u64 (hi i:Nat)):=⟨_,rfl⟩;obtain ⟨W2,hW2⟩:∃ W2,W2=W1.setCell ⟨pb,1,none⟩ (.int .u64 (lo i:Nat)):=⟨_,rfl⟩;obtain ⟨W3,hW3⟩:∃ W3,W3=W2.setCell ⟨pb,2,none⟩ (.int .i64 (-(e+lp+3))):=⟨_,rfl⟩;have hb1:W1.heap[pb]? = some (.cells #[.int .u64 (hi i:Nat),.int .u64 (l00:Nat),.int .i64 s0] 258 (0,0)):=by rw [hW1,heap_set w pb 0 _ _ _ _ hb0]; rfl
 have hb2:W2.heap[pb]? = some (.cells #[.int .u64 (hi i:Nat),.int .u64 (lo i:Nat),.int .i64 s0] 258 (0,0)):=by rw [hW2,heap_set W1 pb 1 _ _ _ _ hb1]; rfl
 have hb3:W3.heap[pb]? = some (.cells #[.int .u64 (hi i:Nat),.int .u64 (lo i:Nat),.int .i64 (-(e+lp+3))] 258 (0,0)):=by rw [hW3,heap_set W2 pb 2 _ _ _ _ hb2]; rfl
 have hg:w.grownBy W3 (some pb):=by
  rw [hW3,hW2,hW1];exact grown_trans (grown_trans (set_grown _ _ _ _) (set_grown _ _ _ _)) (set_grown _ _ _ _)
 have hk:∀ (u:World) (j:Nat) (v:Value),(∀ b,b≠pb -> u.heap[b]? = w.heap[b]?) -> w.cell? ⟨8,j,none⟩=some v -> u.cell? ⟨8,j,none⟩=some v:=fun u j v hu hv =>
  (World.cell?_of_block (a:=⟨8,j,none⟩) (hu _ (fun e=>hne e.symm))).trans hv
 have u1:∀ b,b≠pb -> W1.heap[b]? = w.heap[b]?:=fun b hb=>by rw [hW1]; exact Below.heap_setCell w ⟨pb,0,none⟩ _ b hb
 have c21:=hk W1 _ _ u1 c2;have C1:=Yd (And.intro ((cell_of_row w pb 0 _ _ _ hb0).trans rfl:w.cell? ⟨pb,0,none⟩=some (.int .u64 (h0:Nat))) (ce w _ 0 hb0));have C2:=Yd (And.intro ((cell_of_row W1 pb 1 _ _ _ hb1).trans rfl:W1.cell? ⟨pb,1,none⟩=some (.int .u64 (l00:Nat))) (ce W1 _ 1 hb1));have C3:=Yd (And.intro ((cell_of_row W2 pb 2 _ _ _ hb2).trans rfl:W2.cell? ⟨pb,2,none⟩=some (.int .i64 s0)) (ce W2 _ 2 hb2));have Y1:=Yd hW1;have Y2:=Yd hW2;have Y3:=Yd hW3;have HR:=Yd (And.intro (show SC W3 pb (hi i) (lo i) (-(e+lp+3)) from hb3) hg);clear hk u1 hb0 hb1 hb2 hb3 hb hT hg ce hW1 hW2 hW3 c2 hne;go_enter Tryz.func219,Tryz.ntmps219;go_wp2_with ((with_reducible refine wl_pre ?_); (first | (refine wl_set_u64 rfl (.tmp 15) (.tmp 13) rfl pb 0 _ _ rfl rfl C1.out.1 C1.out.2 ?_; rw [<- Y1.out]) | (refine wl_set_u64 rfl (.tmp 23) (.tmp 21) rfl pb 1 _ _ rfl rfl C2.out.1 C2.out.2 ?_; rw [<- Y2.out]) | (refine wl_set_i64 rfl (.tmp 31) (.tmp 29) rfl pb 2 _ _ rfl rfl C3.out.1 C3.out.2 ?_; rw [<- Y3.out])); (simp only [Act.put]))
 go_end0
 exact ⟨rfl,HR.out⟩
end prnw

/- The contracts of library functions: in ShfP. -/


/- The small functions of unrounded scaling: what each answers. No conditions but those stated. -/
namespace prnw
open Go.RowKit
open nodew
open chkw
end prnw

/- Unrounded scaling. No conditions but those stated. -/
namespace prnw
open Go.RowKit
theorem and63 (s:Int):0 <= bits BinOp.and IntKind.i64 s 63∧bits BinOp.and IntKind.i64 s 63 <= 63:=by
 have h:bits BinOp.and IntKind.i64 s 63=IntKind.i64.wrap (((BitVec.ofInt 64 s &&& BitVec.ofInt 64 63).toNat:Nat):Int):=rfl;have h2:(BitVec.ofInt 64 s &&& BitVec.ofInt 64 63).toNat <= 63:=by
  rw [BitVec.toNat_and];exact Nat.le_trans Nat.and_le_right (by decide)
 rw [h,IntKind.wrap_i64];omega
def usI (x hi lo:Nat) (s:Int):Int :=
 if (IntKind.u64.wrap (((x*hi / 18446744073709551616:Nat):Int) / 2 ^ (bits BinOp.and IntKind.i64 s 63).toNat*2 ^ (bits BinOp.and IntKind.i64 s 63).toNat) != ((x*hi / 18446744073709551616:Nat):Int))=true then bits BinOp.or IntKind.u64 (((x*hi / 18446744073709551616:Nat):Int) / 2 ^ (bits BinOp.and IntKind.i64 s 63).toNat) 1
 else bits BinOp.or IntKind.u64 (IntKind.u64.wrap (((x*hi / 18446744073709551616:Nat):Int)-(if x*hi % 18446744073709551616<x*lo / 18446744073709551616 then 1 else 0)) / 2 ^ (bits BinOp.and IntKind.i64 s 63).toNat)
  (if 1<IntKind.u64.wrap (((x*hi % 18446744073709551616:Nat):Int)-((x*lo / 18446744073709551616:Nat):Int)) then 1 else 0)
def UsPost (w:World) (r:Int) (e:Ending) (w':World):Prop:=e = .returned (.int .u64 r) ∧ ∃ n,w'=w.drewN n
theorem uscale_any (x hi lo:Nat) (s:Int) (hx:x<18446744073709551616) (hh:hi<18446744073709551616) (hlo:lo<18446744073709551616) (pb:Nat) (w:World) (hb:SC w pb hi lo s) :
  Calls Tryz.prog 221 #[.int .u64 x,.pointer (some ⟨pb,0,none⟩)] w (UsPost w (usI x hi lo s)):=by
 have d0:w.cell? ⟨pb,0,none⟩=some (.int .u64 (hi:Nat)):=by rw [cell_of_row _ _ _ _ _ _ hb]; rfl
 have d1:w.cell? ⟨pb,1,none⟩=some (.int .u64 (lo:Nat)):=by rw [cell_of_row _ _ _ _ _ _ hb]; rfl
 have d2:w.cell? ⟨pb,2,none⟩=some (.int .i64 s):=by rw [cell_of_row _ _ _ _ _ _ hb]; rfl
 have m1:=Tryz.bits_Mul64 x hi hx hh w;have m2:=Tryz.bits_Mul64 x lo hx hlo w;obtain ⟨R,hR⟩:∃ R,usI x hi lo s=R:=⟨_,rfl⟩;rw [hR];unfold usI at hR;obtain ⟨k,hk⟩:∃ k:Int,bits BinOp.and IntKind.i64 s 63=k:=⟨_,rfl⟩;have k0:0 <= k:=by rw [<- hk]; exact (and63 s).1
 have k1:k <= 63:=by rw [<- hk]; exact (and63 s).2
 rw [hk] at hR;have H1:((x*hi / 18446744073709551616:Nat):Int)<18446744073709551616:=by
  have h1:x*hi<18446744073709551616*18446744073709551616:=Nat.mul_lt_mul_of_lt_of_lt hx hh;have:=Nat.div_lt_of_lt_mul h1;omega
 obtain ⟨H,hH⟩:∃ H,x*hi / 18446744073709551616=H:=⟨_,rfl⟩;obtain ⟨M,hM⟩:∃ M,x*hi % 18446744073709551616=M:=⟨_,rfl⟩;obtain ⟨L,hL⟩:∃ L,x*lo / 18446744073709551616=L:=⟨_,rfl⟩;rw [hH] at H1;rw [hH,hM] at m1;rw [hL] at m2;rw [hH,hM,hL] at hR;have N1:=Yd m1;have N2:=Yd m2;have H0:(0:Int) <= (H:Int):=by omega
 have HR:=Yd hR;clear hH hM hL m1 m2 hb hR;go_enter Tryz.func221,Tryz.ntmps221;go_wp2_with fail
 (with_reducible refine N1.out.mono ?_)
 rintro e w' ⟨rfl,hw'⟩;obtain rfl:=hw'.symm;go_upto_region 3 with (fail);clear hk;go_upto_if 30 with (fail)
 cases hb1:(IntKind.u64.wrap ((H:Int) / 2 ^ k.toNat*2 ^ k.toNat) != (H:Int)) with
 | true =>
  have hR2:=HR.out;rw [if_pos hb1] at hR2;have HR2:=Yd hR2;clear hb1 hR2;go_wp2_with fail;go_ret;exact ⟨by rw [HR2.out]; rfl,0,rfl⟩
 | false =>
  have hR2:=HR.out;rw [if_neg (by rw [hb1]; decide)] at hR2;have HR2:=Yd hR2;clear hb1 hR2;go_wp2_with fail
  (with_reducible refine N2.out.mono ?_)
  rintro e w' ⟨rfl,hw'⟩;obtain rfl:=hw'.symm;go_wp2_with fail
  (with_reducible refine (b2u _ _).mono ?_)
  rintro e w' ⟨rfl,hw'⟩;obtain rfl:=hw'.symm;go_upto_region 7 with (fail);clear H1;go_quiet (exact Calls.quiet_of_same (b2u _ _))
  all_goals go_wp2_with fail
  all_goals go_ret
  all_goals refine ⟨?_,nq,rfl⟩
  all_goals rw [<- HR2.out]
  all_goals (repeat (first | rw [if_pos (by assumption)] | rw [if_neg (by assumption)] | rw [if_neg (by omega)] | rw [if_pos (by omega)]))
  all_goals rfl
end prnw

/- Unrounded scaling, and the small functions about it. No conditions but those stated. -/


/- Shortest digits: bounds of what unrounded scaling answers (plain), and the number itself. No conditions but those stated. -/
namespace prnw
open Go.RowKit
open nodew
open chkw
end prnw

/- The shortest digits of a number. No conditions but those stated. -/
namespace prnw
open Go.RowKit
open nodew
open chkw
end prnw

/- setDigits. No conditions but those stated. -/
namespace prnw
open Go.RowKit
open Go.Shelf
open Go.Sort
open nodew
open chkw
def bV (b:UInt8):Value:=Value.int .u8 (b.toNat:Int)
end prnw

/- A row of bytes that grows: what an append leaves. No conditions but those stated. -/
namespace prnw
open Go.RowKit
open Go.Shelf
open Go.Sort
open nodew
open chkw
def Buf (w:World) (base g cap:Nat) (l:List UInt8):Prop:=w.ownsRow base 5 1 (.slice (some ⟨g,0,none⟩) l.length cap) l.length (l.map bV)
theorem Buf.lt {w:World} {base g cap:Nat} {l:List UInt8} (h:Buf w base g cap l):base <= g∧g<w.heap.size:=World.ownsRow.lt h g rfl
end prnw

/- fmtEFG on its road for 'e', shortest. No conditions but those stated. -/
namespace prnw
open Go.RowKit
open Go.Shelf
open Go.Sort
open nodew
open chkw
end prnw

/- Plain mathematics ahead of ftoa64: digits, the parts of a float. No conditions but those stated. -/
namespace prnw
open Go.RowKit
open Go.Shelf
open Go.Sort
open nodew
open chkw
end prnw

/- Unrounded scaling: what it answers is right. Plain. -/
namespace fpm
def unr (A Q:Nat):Nat:=if A % Q=0 then A / Q else A / Q / 2*2+1
def usN (x hi lo s:Nat):Nat :=
 if x*hi / 18446744073709551616 % 2 ^ s≠0 then x*hi / 18446744073709551616 / 2 ^ s / 2*2+1
 else if x*hi % 18446744073709551616<x*lo / 18446744073709551616 then (x*hi / 18446744073709551616-1) / 2 ^ s / 2*2+1
 else if x*lo / 18446744073709551616+1<x*hi % 18446744073709551616 then x*hi / 18446744073709551616 / 2 ^ s / 2*2+1
 else x*hi / 18446744073709551616 / 2 ^ s
theorem unr_in {A Q F:Nat} (h1:F*Q<A) (h2:A<(F+1)*Q):unr A Q=F / 2*2+1:=by
 have hQ:0<Q:=by
  apply Nat.pos_of_ne_zero;intro e;rw [e] at h2;omega
 have hd:A / Q=F:=by
  apply Nat.le_antisymm
  ·exact Nat.le_of_lt_succ ((Nat.div_lt_iff_lt_mul hQ).2 h2)
  ·exact (Nat.le_div_iff_mul_le hQ).2 (Nat.le_of_lt h1)
 have hm:A % Q≠0:=by
  intro e;have:=Nat.div_add_mod A Q;rw [hd,e,Nat.mul_comm] at this;omega
 unfold unr;rw [if_neg hm,hd]
theorem unr_eq {F Q:Nat} (hQ:0<Q):unr (F*Q) Q=F:=by
 unfold unr;rw [if_pos (Nat.mul_mod_left F Q),Nat.mul_div_cancel _ hQ]
theorem us_spec (x hi lo s N D:Nat) (hx:x<18446744073709551616) (hlo:lo<18446744073709551616) (hD:0<D)
  (h1:N+lo*D <= hi*18446744073709551616*D) (h2:hi*18446744073709551616*D<N+lo*D+D)
  (hnm:∀ j,x*N=j*(2*(D*2 ^ (128+s)))∨x*N+36893488147419103232*D <= j*(2*(D*2 ^ (128+s)))∨j*(2*(D*2 ^ (128+s)))+36893488147419103232*D <= x*N) :
  usN x hi lo s=unr (x*N) (D*2 ^ (128+s)):=by
 by_cases hx0:x=0
 ·subst hx0;unfold usN unr;simp
 obtain ⟨P2,hP2⟩:∃ P2,P2=18446744073709551616*D:=⟨_,rfl⟩;obtain ⟨P1,hP1⟩:∃ P1,P1=18446744073709551616*P2:=⟨_,rfl⟩;have hQ:D*2 ^ (128+s)=2 ^ s*P1:=by
  rw [hP1,hP2,Nat.pow_add,show (2:Nat) ^ 128=18446744073709551616*18446744073709551616 by decide];generalize 2 ^ s=z;rw [Nat.mul_comm D,Nat.mul_comm _ z,Nat.mul_assoc z,Nat.mul_assoc]
 rw [hQ] at hnm ⊢;have p2:0<P2:=by omega
 have p1:0<P1:=by omega
 have ps:0<2 ^ s:=Nat.two_pow_pos s;obtain ⟨H,hH⟩:∃ H,H=x*hi / 18446744073709551616:=⟨_,rfl⟩;obtain ⟨M,hM⟩:∃ M,M=x*hi % 18446744073709551616:=⟨_,rfl⟩;obtain ⟨L,hL⟩:∃ L,L=x*lo / 18446744073709551616:=⟨_,rfl⟩;obtain ⟨r,hr⟩:∃ r,r=x*lo % 18446744073709551616:=⟨_,rfl⟩;have eH:x*hi=18446744073709551616*H+M:=by omega
 have eL:x*lo=18446744073709551616*L+r:=by omega
 have bM:M<18446744073709551616:=by omega
 have br:r<18446744073709551616:=by omega
 obtain ⟨A,hA⟩:∃ A,A=x*N:=⟨_,rfl⟩;have k1:A+(L*P2+r*D) <= H*P1+M*P2:=by
  have h:=Nat.mul_le_mul_left x h1;rw [Nat.mul_add,<- Nat.mul_assoc x lo,<- hA,eL,<- Nat.mul_assoc x,<- Nat.mul_assoc x,eH] at h;have e1:(18446744073709551616*L+r)*D=L*P2+r*D:=by rw [hP2,Nat.add_mul,Nat.mul_comm _ L,Nat.mul_assoc]
  have e2:(18446744073709551616*H+M)*18446744073709551616*D=H*P1+M*P2:=by
   rw [hP1,hP2,Nat.mul_assoc,Nat.add_mul,Nat.mul_comm _ H,Nat.mul_assoc]
  rw [e1,e2] at h;exact h
 have k2:H*P1+M*P2<A+(L*P2+r*D)+x*D:=by
  have h:=(Nat.mul_lt_mul_left (show 0<x by omega)).2 h2;rw [Nat.mul_add,Nat.mul_add,<- Nat.mul_assoc x lo,<- hA,eL,<- Nat.mul_assoc x,<- Nat.mul_assoc x,eH] at h;have e1:(18446744073709551616*L+r)*D=L*P2+r*D:=by rw [hP2,Nat.add_mul,Nat.mul_comm _ L,Nat.mul_assoc]
  have e2:(18446744073709551616*H+M)*18446744073709551616*D=H*P1+M*P2:=by
   rw [hP1,hP2,Nat.mul_assoc,Nat.add_mul,Nat.mul_comm _ H,Nat.mul_assoc]
  rw [e1,e2] at h;exact h
 have k3:L*P2+r*D+x*D <= x*P2:=by
  have h:x*(lo+1) <= x*18446744073709551616:=Nat.mul_le_mul_left x hlo;rw [Nat.mul_add,Nat.mul_one,eL] at h;have h:=Nat.mul_le_mul_right D h;rw [Nat.mul_assoc x,<- hP2] at h;have e1:(18446744073709551616*L+r+x)*D=L*P2+r*D+x*D:=by rw [hP2,Nat.add_mul,Nat.add_mul,Nat.mul_comm _ L,Nat.mul_assoc]
  rw [e1] at h;exact h
 have k4:x*P2+P2 <= P1:=by
  have h:=Nat.mul_le_mul_right P2 (show x+1 <= 18446744073709551616 by omega);rw [Nat.add_mul,Nat.one_mul,<- hP1] at h;exact h
 have k5:M*P2+P2 <= P1:=by
  have h:=Nat.mul_le_mul_right P2 (show M+1 <= 18446744073709551616 by omega);rw [Nat.add_mul,Nat.one_mul,<- hP1] at h;exact h
 have k6:r*D+D <= P2:=by
  have h:=Nat.mul_le_mul_right D (show r+1 <= 18446744073709551616 by omega);rw [Nat.add_mul,Nat.one_mul,<- hP2] at h;exact h
 have k7:x*D+D <= P2:=by
  have h:=Nat.mul_le_mul_right D (show x+1 <= 18446744073709551616 by omega);rw [Nat.add_mul,Nat.one_mul,<- hP2] at h;exact h
 obtain ⟨F,hF⟩:∃ F,F=H / 2 ^ s:=⟨_,rfl⟩;obtain ⟨h',hh⟩:∃ h',h'=H % 2 ^ s:=⟨_,rfl⟩;have eF:H=F*2 ^ s+h':=by
  have:=Nat.div_add_mod H (2 ^ s);rw [<- hF,<- hh,Nat.mul_comm] at this;exact this.symm
 have bh:h'<2 ^ s:=by rw [hh]; exact Nat.mod_lt _ ps
 obtain ⟨Q,hQd⟩:∃ Q,Q=2 ^ s*P1:=⟨_,rfl⟩;have eHP:H*P1=F*Q+h'*P1:=by rw [hQd,eF,Nat.add_mul,Nat.mul_assoc]
 have eF1:(F+1)*Q=F*Q+Q:=by rw [Nat.add_mul,Nat.one_mul]
 unfold usN;rw [<- hQd] at hnm ⊢;rw [<- hH,<- hM,<- hL,<- hF,<- hh,<- hA];rw [<- hA] at hnm
 by_cases c1:h'=0
 ·rw [if_neg (by omega)];rw [c1,Nat.zero_mul,Nat.add_zero] at eHP
  by_cases c2:M<L
  ·-- the part behind the point is below nothing
   rw [if_pos c2];have q1:(M+1)*P2 <= L*P2:=Nat.mul_le_mul_right P2 c2;rw [Nat.add_mul,Nat.one_mul] at q1;have hF0:F≠0:=by
    intro e;rw [e,Nat.zero_mul] at eHP;omega
   obtain ⟨F',rfl⟩:∃ F',F=F'+1:=⟨F-1,by omega⟩;have hd:(H-1) / 2 ^ s=F':=by
    rw [eF,c1,Nat.add_zero,Nat.add_mul,Nat.one_mul];apply Nat.le_antisymm
    ·exact Nat.le_of_lt_succ ((Nat.div_lt_iff_lt_mul ps).2 (by rw [Nat.succ_mul]; omega))
    ·exact (Nat.le_div_iff_mul_le ps).2 (by omega)
   rw [hd];have qq:P1 <= Q:=by rw [hQd]; exact Nat.le_mul_of_pos_left P1 ps
   have e2:(F'+1)*Q=F'*Q+Q:=by rw [Nat.add_mul,Nat.one_mul]
   exact (unr_in (by omega) (by omega)).symm
  ·rw [if_neg c2]
   by_cases c3:L+1<M
   ·rw [if_pos c3];have q1:(L+2)*P2 <= M*P2:=Nat.mul_le_mul_right P2 c3;rw [Nat.add_mul] at q1;have qq:P1 <= Q:=by rw [hQd]; exact Nat.le_mul_of_pos_left P1 ps
    exact (unr_in (by omega) (by omega)).symm
   ·rw [if_neg c3];have q1:L*P2 <= M*P2:=Nat.mul_le_mul_right P2 (by omega);have q2:M*P2 <= (L+1)*P2:=Nat.mul_le_mul_right P2 (by omega);rw [Nat.add_mul,Nat.one_mul] at q2;have qq:P1 <= Q:=by rw [hQd]; exact Nat.le_mul_of_pos_left P1 ps
    have hQ0:0<Q:=by omega
    rcases Nat.mod_two_eq_zero_or_one F with ev | od
    ·obtain ⟨j,rfl⟩:∃ j,F=2*j:=⟨F / 2,by omega⟩;have hj:2*j*Q=j*(2*Q):=by rw [Nat.mul_comm 2 j,Nat.mul_assoc]
     have he:A=2*j*Q:=by
      rcases hnm j with h | h | h
      ·rw [hj]; exact h
      ·omega
      ·omega
     rw [he,unr_eq hQ0]
    ·by_cases c4:A=F*Q
     ·rw [c4,unr_eq hQ0]
     ·by_cases c5:F*Q<A
      ·rw [unr_in c5 (by omega)];omega
      ·obtain ⟨F',rfl⟩:∃ F',F=F'+1:=⟨F-1,by omega⟩;have e2:(F'+1)*Q=F'*Q+Q:=by rw [Nat.add_mul,Nat.one_mul]
       rw [unr_in (F:=F') (by omega) (by omega)];omega
 ·rw [if_pos c1];have q1:1*P1 <= h'*P1:=Nat.mul_le_mul_right P1 (by omega);rw [Nat.one_mul] at q1;have q2:(h'+1)*P1 <= Q:=by rw [hQd]; exact Nat.mul_le_mul_right P1 bh
  rw [Nat.add_mul,Nat.one_mul] at q2;exact (unr_in (by omega) (by omega)).symm
end fpm

/- No near misses: a certificate of two neighbouring fractions. Plain. -/
namespace fpm
theorem mulI_pos {a b:Int} (ha:1 <= a) (hb:0 <= b):b <= a*b:=by
 have h:=Int.mul_le_mul_of_nonneg_right ha hb;rwa [Int.one_mul] at h
def certB (num den T q1 p1 q2 p2 X Y:Nat):Bool :=
 decide (p2*q1=p1*q2+1) && decide (p1*den <= q1*num) && decide (q2*num <= p2*den) &&
 (decide (q1*num=p1*den) || decide (p1*den+T <= q1*num)) &&
 (decide (q2*num=p2*den) || decide (q2*num+T <= p2*den) || (decide (p1*den+T <= q1*num) && decide (T+Y / q2*(q2*num) <= Y / q2*(p2*den)))) &&
 (decide (X <= q1+q2) || decide (q1*num=p1*den) || decide (q2*num=p2*den))
theorem nm_of_cert {num den T q1 p1 q2 p2 X Y:Nat} (hc:certB num den T q1 p1 q2 p2 X Y=true) (y j:Nat) (hy0:0<y) (hyX:y<X) (hyY:Y <= y) :
  y*num=j*den∨y*num+T <= j*den∨j*den+T <= y*num:=by
 unfold certB at hc;simp only [Bool.and_eq_true,Bool.or_eq_true,decide_eq_true_eq] at hc;obtain ⟨⟨⟨⟨⟨hdet,hl⟩,hu⟩,hd1⟩,hd2⟩,hX⟩:=hc;obtain ⟨a,ha⟩:∃ a:Int,a=(y:Int)*p2-(j:Int)*q2:=⟨_,rfl⟩;obtain ⟨b,hb⟩:∃ b:Int,b=(j:Int)*q1-(y:Int)*p1:=⟨_,rfl⟩;have hdetI:(p2:Int)*q1=p1*q2+1:=by exact_mod_cast hdet
 have ey:(y:Int)=a*q1+b*q2:=by
  rw [ha,hb,Int.sub_mul,Int.sub_mul,Int.mul_assoc,Int.mul_assoc (y:Int),hdetI,Int.mul_add,Int.mul_one];have:(j:Int)*q2*q1=j*q1*q2:=by rw [Int.mul_assoc,Int.mul_comm (q2:Int),<- Int.mul_assoc]
  omega
 have ej:(j:Int)=a*p1+b*p2:=by
  rw [ha,hb,Int.sub_mul,Int.sub_mul,Int.mul_assoc (j:Int) q1,Int.mul_comm (q1:Int) p2,hdetI,Int.mul_add,Int.mul_one];have e1:(y:Int)*p2*p1=y*p1*p2:=by rw [Int.mul_assoc,Int.mul_comm (p2:Int),<- Int.mul_assoc]
  have e2:(j:Int)*q2*p1=j*(p1*q2):=by rw [Int.mul_assoc,Int.mul_comm (q2:Int)]
  omega
 obtain ⟨d1,hd1e⟩:∃ d1:Int,d1=(q1:Int)*num-p1*den:=⟨_,rfl⟩;obtain ⟨d2,hd2e⟩:∃ d2:Int,d2=(p2:Int)*den-q2*num:=⟨_,rfl⟩;have hd1p:0 <= d1:=by
  have:(p1:Int)*den <= q1*num:=by exact_mod_cast hl
  omega
 have hd2p:0 <= d2:=by
  have:(q2:Int)*num <= p2*den:=by exact_mod_cast hu
  omega
 have ev:(y:Int)*num-j*den=a*d1-b*d2:=by
  rw [ey,ej,hd1e,hd2e,Int.add_mul,Int.add_mul,Int.mul_sub,Int.mul_sub,Int.mul_assoc,Int.mul_assoc,Int.mul_assoc,Int.mul_assoc];omega
 have c1:d1=0∨(T:Int) <= d1:=by
  rcases hd1 with h | h
  ·left;have:(q1:Int)*num=p1*den:=by exact_mod_cast h
   omega
  ·right;have:(p1:Int)*den+T <= q1*num:=by exact_mod_cast h
   omega
 have c2:d2=0∨(T:Int) <= d2∨((T:Int) <= d1∧(T:Int) <= ((Y / q2:Nat):Int)*d2):=by
  rcases hd2 with (h | h) | ⟨h,h'⟩
  ·left;have:(q2:Int)*num=p2*den:=by exact_mod_cast h
   omega
  ·right; left;have:(q2:Int)*num+T <= p2*den:=by exact_mod_cast h
   omega
  ·right; right;refine ⟨?_,?_⟩
   ·have:(p1:Int)*den+T <= q1*num:=by exact_mod_cast h
    omega
   ·have:(T:Int)+((Y / q2:Nat):Int)*(q2*num) <= ((Y / q2:Nat):Int)*(p2*den):=by exact_mod_cast h'
    rw [hd2e,Int.mul_sub];omega
 suffices hS:a*d1-b*d2=0∨a*d1-b*d2 <= -(T:Int)∨(T:Int) <= a*d1-b*d2 by
  rcases hS with h | h | h
  ·left;have:(y:Int)*num=j*den:=by omega
   exact_mod_cast this
  ·right; left;have:(y:Int)*num+T <= j*den:=by omega
   exact_mod_cast this
  ·right; right;have:(j:Int)*den+T <= y*num:=by omega
   exact_mod_cast this
 by_cases ha1:1 <= a
 ·have m1:d1 <= a*d1:=mulI_pos ha1 hd1p
  by_cases hb1:1 <= b
  ·have m2:d2 <= b*d2:=mulI_pos hb1 hd2p;have hz:d1=0∨d2=0:=by
    rcases hX with (h | h) | h
    ·exfalso;have n1:(q1:Int) <= a*q1:=mulI_pos ha1 (by omega);have n2:(q2:Int) <= b*q2:=mulI_pos hb1 (by omega);omega
    ·left;have:(q1:Int)*num=p1*den:=by exact_mod_cast h
     omega
    ·right;have:(q2:Int)*num=p2*den:=by exact_mod_cast h
     omega
   rcases hz with h | h
   ·rw [h,Int.mul_zero]
    rcases c2 with g | g | ⟨g,_⟩
    ·rw [g,Int.mul_zero]; omega
    ·omega
    ·have hT:(T:Int) <= 0:=by omega
     omega
   ·rw [h,Int.mul_zero]
    rcases c1 with g | g
    ·rw [g,Int.mul_zero]; omega
    ·omega
  ·-- b <= 0
   have m2:b*d2 <= 0:=by
    have:=Int.mul_le_mul_of_nonneg_right (show b <= 0 by omega) hd2p;rwa [Int.zero_mul] at this
   rcases c1 with g | g
   ·rw [g,Int.mul_zero]
    by_cases hb0:b=0
    ·left; rw [hb0]; omega
    ·have hbn:1 <= -b:=by omega
     have m3:d2 <= (-b)*d2:=mulI_pos hbn hd2p;rw [Int.neg_mul] at m3
     rcases c2 with k | k | ⟨k,_⟩
     ·left; rw [k]; omega
     ·omega
     ·have hT:(T:Int) <= 0:=by omega
      omega
   ·omega
 ·have m1:a*d1 <= 0:=by
   have:=Int.mul_le_mul_of_nonneg_right (show a <= 0 by omega) hd1p;rwa [Int.zero_mul] at this
  by_cases hb1:1 <= b
  ·have m2:d2 <= b*d2:=mulI_pos hb1 hd2p
   rcases c2 with g | g | ⟨g,g'⟩
   ·rw [g,Int.mul_zero]
    by_cases ha0:a=0
    ·left; rw [ha0]; omega
    ·have han:1 <= -a:=by omega
     have m3:d1 <= (-a)*d1:=mulI_pos han hd1p;rw [Int.neg_mul] at m3
     rcases c1 with k | k
     ·left; rw [k]; omega
     ·omega
   ·omega
   ·by_cases ha0:a=0
    ·-- y=b*q2,and y is great
     have e1:(y:Int)=b*q2:=by rw [ey,ha0]; omega
     have hq:((Y / q2:Nat):Int) <= b:=by
      obtain ⟨bn,rfl⟩:=Int.eq_ofNat_of_zero_le (show 0 <= b by omega);have e2:y=bn*q2:=by exact_mod_cast e1
      have:Y / q2 <= bn:=by
       have h3:Y <= bn*q2:=by omega
       by_cases hq0:q2=0
       ·rw [hq0]; simp
       ·calc Y / q2 <= bn*q2 / q2:=Nat.div_le_div_right h3
         _=bn:=Nat.mul_div_cancel _ (by omega)
      omega
     have:=Int.mul_le_mul_of_nonneg_right hq hd2p;omega
    ·have han:1 <= -a:=by omega
     have m3:d1 <= (-a)*d1:=mulI_pos han hd1p;rw [Int.neg_mul] at m3;omega
  ·exfalso;have n1:a*q1 <= 0:=by
    have:=Int.mul_le_mul_of_nonneg_right (show a <= 0 by omega) (show (0:Int) <= q1 by omega);rwa [Int.zero_mul] at this
   have n2:b*q2 <= 0:=by
    have:=Int.mul_le_mul_of_nonneg_right (show b <= 0 by omega) (show (0:Int) <= q2 by omega);rwa [Int.zero_mul] at this
   omega
end fpm

/- The table of powers of ten is right, and unrounded scaling has no near miss: checked by the kernel. Plain. -/
namespace fpm
def hiT (i:Nat):Nat:=(Go.Pinned.pow10Rows.getD i (0,0)).1
def loT (i:Nat):Nat:=(Go.Pinned.pow10Rows.getD i (0,0)).2
def lpT (i:Nat):Int:=((i:Int)-348)*108853 / 32768
def nT (i:Nat):Nat:=if 348 <= i then 10 ^ (i-348)*2 ^ (127-lpT i).toNat else 2 ^ (127-lpT i).toNat
def dT (i:Nat):Nat:=if 348 <= i then 2 ^ (lpT i-127).toNat else 10 ^ (348-i)
def rowB (i:Nat) (x:Nat × Nat):Bool:=decide (9223372036854775808 <= x.1) && decide (x.1<18446744073709551616) && decide (x.2<18446744073709551616) &&
 decide (nT i+x.2*dT i <= x.1*18446744073709551616*dT i) && decide (x.1*18446744073709551616*dT i<nT i+x.2*dT i+dT i)
def allB (f:Nat -> Nat × Nat -> Bool):Nat -> List (Nat × Nat) -> Bool
 | _,[]=>true
 | i,x :: r=>f i x && allB f (i+1) r
theorem all_at (f:Nat -> Nat × Nat -> Bool):∀ (l:List (Nat × Nat)) (i k:Nat),allB f i l=true -> (h:k<l.length) -> f (i+k) l[k]=true
 | x :: r,i,0,hB,_=>by
  simp only [allB,Bool.and_eq_true] at hB;exact hB.1
 | x :: r,i,k+1,hB,h=>by
  simp only [allB,Bool.and_eq_true] at hB;have:=all_at f r (i+1) k hB.2 (by simpa using h);rw [show i+(k+1)=i+1+k by omega];exact this
theorem rowsB:allB rowB 0 Go.Pinned.pow10Rows=true:=by kernel_rfl
theorem rowsLen:Go.Pinned.pow10Rows.length=696:=by kernel_rfl
theorem row_at (i:Nat) (h:i<696):rowB i (hiT i,loT i)=true:=by
 have hl:i<Go.Pinned.pow10Rows.length:=by rw [rowsLen]; exact h
 have:=all_at rowB _ 0 i rowsB hl;unfold hiT loT;rw [List.getD_eq_getElem?_getD,List.getElem?_eq_getElem hl];rw [Nat.zero_add] at this;exact this
theorem row_spec (i:Nat) (h:i<696):9223372036854775808 <= hiT i∧hiT i<18446744073709551616∧loT i<18446744073709551616∧nT i+loT i*dT i <= hiT i*18446744073709551616*dT i∧hiT i*18446744073709551616*dT i<nT i+loT i*dT i+dT i:=by
 have:=row_at i h;unfold rowB at this;simp only [Bool.and_eq_true,decide_eq_true_eq] at this;obtain ⟨⟨⟨⟨a,b⟩,c⟩,d⟩,e⟩:=this;exact ⟨a,b,c,d,e⟩
theorem dT_pos (i:Nat):0<dT i:=by
 unfold dT
 split
 ·exact Nat.two_pow_pos _
 ·exact Nat.pow_pos (by decide)
def certPa:List (Nat × Nat):=[(15046300004533642259,7908833420089329928),(14081626789031790351,17553706891325529361),(14776042809490538153,17553706891325529361),(18441429291641111474,377988336303881819),(11594041245810101431,15962706109485311000),(8401500023913039231,12770164887588248800),(5847467046395389471,14584796773745808609),(9933919810423629087,16345811056112958464),(9229514097476769145,15641405343166098522),(14767222555962830632,10103696884680037035),(16787961932898838039,8082957507744029628),(13803597696765537701,6590775389677379459),(5645848462188370837,15693451551743554945),(14430387234725452663,6277380620697421978),(1630601322805606137,16956515868761657227),(7956986877608028629,10826150050379236791),(7956986877608028629,15026509542389812336),(11317274471216489065,9193398567999136386),(18107639153946382504,11456853462242434199),(2660314276681579322,16262921232780920093),(6444961378574079205,15138588407569999532),(10311938205718526728,13849596131855183691),(17914164299604305550,6247370037969404869),(14331331439683444440,13413035757811127089),(9517094545682384015,13413035757811127089),(7613675636545907212,13413035757811127089),(362863103056137467,18117357042274954970),(17039086977319309921,10875573847471356658),(6163513129847953263,13702810278045398695),(15067588315304986265,5481124111218159478),(3013517663060997253,15897461118750643406),(14132935661314523958,4987602821586727033),(11804272211119013451,8146139075227894681),(13267525465475460959,10341018956762565943),(12955225579350684780,10341018956762565943),(18114154304372976811,7749973840892428987),(18114154304372976811,13445640794463133914),(5490236264838532521,17554254569106582034),(17352046892565107173,4608898166789022911),(15236835457246284109,9217796333578045822),(7298542007632161301,12416553543487853357),(14597084015264322602,6426329818921573603),(1983035714752784879,16818731067348716964),(12867488641063129009,11868556282076745668),(10094204441053226539,9095272082066843198),(12312831801061148515,15751154162090609126),(6411943079819458201,13288587801878379423),(5222494792303459165,16132186019149840516),(1044498958460691833,17526290945868229579),(8355991667685534664,16457045274086224645),(16966921396655914011,3291409054817244929),(13925893254746366575,13165636219268979716),(5570357301898546630,16455222414735365769),(4456285841518837304,14227079493975947117),(17825143366075349216,13540501918440398953),(12271627083592080002,9838157730118219477),(1946775482779088420,17242846106762578429),(1557420386223270736,18021556299874213797),(4538763491708805201,16464135913650943061),(15538594005378743289,6923837976097232773),(4830670006932050761,13847675952194465546),(15071543581021550393,3606802378104965914),(15071543581021550393,8785192521172255541),(17328350377520593639,8785192521172255541),(1660224638304884131,17570385042344511082),(4510211791451832695,18289685433723755817),(902042358290366539,18134157879182664389),(3608169433161466156,15172973761953224577),(5625011887196873859,17615331690897981530),(5625011887196873859,14092265352718385224),(18023826546810956810,12398814659614082951),(9229777196559065221,10378568081779400454),(9229777196559065221,15686676222670772540),(12367112441093219729,12549340978136618032),(12367112441093219729,10185255612144013068),(18186700149110190285,6547524733076249173),(13822204792720325287,13095049466152498346),(13822204792720325287,9894315311667737124),(10272185937965742597,16616482394878897031),(10272185937965742597,9184311540716820586),(16217922621295403753,15130048224046481742),(3678734283158649555,17720908109956209286),(2942987426526919644,16985161253324479375),(15168981956772574451,6794064501329791750),(16527794857038532801,5435251601063833400),(16527794857038532801,4348201280851066720),(15658154600868319457,3478561024680853376),(17398361111169641998,1738354514379530835),(18138150819044455276,347670902875906167),(18311195039071598221,695341805751812334),(18357340164412169673,7973358203475556115),(15167996883021947227,6378686562780444892),(11652272754925346293,16273097253657490718),(13500602554418204063,7393319197971431080),(12021938714823917847,17936594073201062711),(8396094300569779681,10684905244692786379),(16792188601139559362,6868705335640273167),(7938786612399428956,14807491948039702123),(1801773577831716949,17340957826943980232),(11981349148706399550,10764929411732731529),(9585079318965119640,13161199241474011439),(7668063455172095712,11244183377680987511),(2352001397567059925,16656481087602627121),(1881601118053647940,16656481087602627121),(1505280894442918352,17409121534824086297),(7696610811404988645,11047585278671619119),(6157288649123990916,17204873927795610035),(8873602512688859825,15755552083807103839),(7098882010151087860,15538619644774259993),(5679105608120870288,15538619644774259993),(16800714010491447329,1971902807330677941),(5726426170895102995,15775222458645423528),(1145285234179020599,18434765701599890751),(4581140936716082396,14223577294766967661),(18324563746864329584,1928487271610177053),(11380435702440633161,12729589859254227582),(11380435702440633161,14735846168379635330),(11380435702440633161,11788676934703708264),(18127048877452398037,408241232263075103),(14419990855509303409,14828232087772378512),(11372696191502212686,11780937423765287789),(9261453446107000190,14708662633686650491),(7409162756885600152,14708662633686650491),(17825855768559260290,5905397629491570159),(16710573970711676146,5905397629491570159),(4523194320040649261,14575201877884982114),(12866067879666424797,7639358479170252550),(14393939575500475307,12222973566672404080),(11949344862165994491,9778378853337923264),(17378566246958493107,4345544743100783551),(13903575542655722705,6953594134050181901),(18076454568174760065,6953594134050181901),(3615290913634952013,16968503795295871565),(14461163654539808052,10402692431753300639),(3703926975465263093,17101457888041338185),(17952364081612324553,10544510130681798367),(12252989239153499969,8836031022210096765),(15669947456096903173,3534412408884038706),(9095508909545992234,11616579272541073529),(16678375601294935691,2016856290396065036),(16678375601294935691,4949160152575839167),(16312196572581452053,4949160152575839167),(14221530149948309284,4949160152575839167),(5813802121535165357,13982838488768191311),(11627604243070330714,16057979214270574167),(7862637540082247119,16390683348376654096),(13886584264863180871,17563965895465807605),(13886584264863180871,14051172716372646084),(11175102792494330782,11339691244003795995),(4371288046092053185,18143505990406073592),(3497030436873642548,15520733162750841681),(8699395331547996413,12110064247149419047),(9075006831617026642,12110064247149419047),(18089682833273752138,607011483106478481),(8109821541642691187,10537867474068605111),(10868140971814584877,10537867474068605111),(6454829883539554973,14620905064597655249),(14807093601487513814,5506112966335353039),(7440784508121728620,12872422059701138233),(5952627606497382896,12872422059701138233),(9911070909078361610,12872422059701138233),(15857713454525378576,12872422059701138233),(13880287321549998998,10894995926725758655),(16299163949987264834,2178999185345151731),(8053630997756786775,17431993482761213848),(1610726199551357355,18184735545401420032),(1288580959641085884,17218299825670605619),(10308647677128687072,10917429531052419251),(17224374508114377930,13222671808047649537),(13779499606491502344,6332922004801898365),(13626570802418828285,5066337603841518692),(2725314160483765657,17540036254882309111),(10048761236137499399,9196265830339936170),(6370254904001524931,13727267568273473867),(13529916016219389066,7554364216326033737),(3901093563222548879,15108728432652067474),(10043714100331001477,14526768048102808915),(8466013762179755822,15854421319572125043),(13330100778530131995,6126247286871372697),(2666020155706026399,16506928680367411591),(17164690545744819593,13001219845841427994),(18421432628801173675,1767549829187607279),(14438772368270898586,10754485842510663851),(15175629673422945533,9280771232206569957),(15175629673422945533,4389491051080666859),(13896300159170623170,18285791210251290029),(17844589203592330213,4389491051080666859),(8015733891653065457,16794715993814399175),(16031467783306130914,14733620289178825127),(14642160718423132833,12046465730168521259),(17943396546549574044,1890154148382781937),(17000933044975553947,1890154148382781937),(7934465707019890741,15495082300551018489),(17306284910048254433,1437353496008472951),(16144793521652160268,17582147017660633219),(6170446709459169517,18090307402952230838),(7488742596436058963,17193044241400619105),(7488742596436058963,13754435393120495284),(17942893471861276889,4004025637960986321),(17557535287857810568,4004025637960986321),(14230260263472899605,8008051275921972642),(11384208210778319684,10854103328616552563),(14827280593689871287,4235620355014267601),(9742448686760802419,16942481420057070404),(6862435593442295225,12622461780079309613),(18112410254833145793,7132513305325473433),(18112410254833145793,9328492695227007905),(18112410254833145793,7462794156181606324),(11924344875639512727,6825429767687619695),(17665488524732524250,1365085953537523939),(18227648680398591217,1365085953537523939),(12382079838719871453,10920687628300191512),(3060972851911846267,15581241121704204105),(15360139631988225889,3116248224340840821),(14202080938138280847,13044022244288335805),(15360139631988225889,5217608897715334322),(11420202162742180093,9450233428119157195),(13390170897365202991,7560186742495325756),(2331993661947950894,16286370315964626959),(17700600640201809215,2790875330803335213),(7080240256080723686,14703621451253702695),(16558063863319932588,2940724290250740539),(10957495927315911919,11762897161002962156),(8282756001640499393,18176314470655099260),(8282756001640499393,14541051576524079408),(17817171118257714789,2503318229953432006),(1560779639688797353,16904986560249861342),(6814712519365326445,14201018999340789923),(1362942503873065289,17278743385044266311),(10903540030984522312,13268934704894923343),(6069045083808633181,13268934704894923343),(6069045083808633181,14256574814201118583),(10557865992727353978,14256574814201118583),(15937539635391437509,2958967057179011684),(10746110604106467179,11109363145642993698),(17339077983184958094,4516395766564502783),(11306725943223875413,8274813396430715617),(15223033811154793619,15665231471723672824),(18329851722722297021,176879064227551682),(17754691287125852465,6389907933648755307),(7101876514850340986,16330754124722681107),(15054553467709481626,8378077171863540467),(4346205952711084557,16127484876609823640),(17384823810844338228,7571702928033049285),(18111901180015968029,3028681171213219714),(6045325172973769377,18184124196731988335),(6045325172973769377,14547299357385590668),(15944250879751333490,4118524906071872009),(10496225257972405405,16474099624287488036),(4198490103188962162,18253483887413608505),(12047676983860646025,7301393554965443402),(14384425015983719443,4891858158193314197),(15421026539341626912,16457628062699534381),(5961090311065069271,13995383668845953480),(6324027154591757150,14358320512372641359),(5059221723673405720,15623125943290992789),(17646814632760355077,13599437253821630501),(14052544111792754913,9778613303868468131),(3665294983943408339,15891931623793527923),(17844958276555594013,14179663292612185674),(7871042307410919273,16282536954345941141),(18405222613160394293,216180935809641038),(6231979565185843107,13328682873610250366),(6231979565185843107,14402134037999706157),(12463959130371686214,12768103143436933547),(7539204280836061195,17997002006037805899),(3015681712334424478,16392072881901852691),(6974903245556672687,17150550453118723137),(11045162128581492867,8140517766049640360),(12673265681791420939,6512414212839712288),(16440089111940046857,2745590782691086370),(17538325425016481405,2196472626152869096),(3507665085003296281,15801220674618068946),(3507665085003296281,16162023858380339983),(7015330170006592562,12778606696358069299),(14281071068744208289,13780249611282161959),(14080742485759389757,13279428153820115629),(5952822727079465554,13279428153820115629),(14836287624855191138,10348785983123855599),(6832015378288343563,16210070324516375659),(7689210540358074569,11949640432437225114),(7689210540358074569,11097554454021395005),(17597931971520428139,8878043563217116004),(10622021244877778431,14268131763112907154),(665960041681504197,17914242281348035877),(665960041681504197,18273810999925391930),(6984562408392599371,18289847058451781325),(6984562408392599371,14631877646761425060),(6984562408392599371,16426441826425680725),(13969124816785198742,13555139138962871661),(16597355509013307658,13555139138962871661),(12669441133200558927,9627224763150122930),(10743996180570534341,15403559621040196688),(17475367748839096875,4012624612301971807),(13980294199071277500,11002771711837610557),(181463647419411443,18376270475286992254),(17894776574811235200,8765924639986206157),(15923835269910700237,17531849279972412314),(1255150241908085555,17884713048126038836),(502060096763234222,17946292661157262791),(8810683538569088467,15613126690085240046),(8810683538569088467,17932455873281113300),(17621367077138176934,15983665887881533787),(14752174137413198806,13114472948156555659),(11146658834227901786,13444585872828566385),(13835576008793615063,10755668698262853108),(1231962924212304782,18431430085994944261),(6642997035308520329,16716284747535643060),(13285994070617040658,13329510934322777553),(18434334628261281951,17406745482294758),(15913601417420547701,5350951793759635255),(18053982134924401803,4280761435007708204),(14256998428960807645,10460014722997213487),(945584020171432629,18083277385480129087),(15767003336179527123,3994889085164598869),(15095557321833928361,7989778170329197738),(14741957714304141515,15449156929363715207),(11793566171443313212,9552373843642058601),(5165664934137576207,16180275080947795606),(5165664934137576207,16043619025240782209),(7450580596923828125,1689082054221179547),(1490116119384765625,795863739345655688),(298023223876953125,203222718613091502),(59604644775390625,16456339969185141),(11920928955078125,6220715101349939),(2384185791015625,1041002495243506),(476837158203125,221788272494923),(95367431640625,28846205214067),(19073486328125,943902887518),(3814697265625,3736525834519),(762939453125,450253728701),(152587890625,122548117929),(30517578125,3822443432),(6103515625,3082742478),(1220703125,123938662),(244140625,14946796),(48828125,10959059),(9765625,4773736),(1953125,1080513),(390625,25177),(78125,22583),(15625,8789),(3125,781),(625,624),(1000,999),(800,799),(640,639),(1024,1023),(4096,819),(16384,9175),(65536,34603),(524288,295279),(2097152,1317347),(8388608,4038343),(67108864,24295771),(268435456,219607519),(1073741824,97608595),(8589934592,3240747191),(34359738368,29853927051),(137438953472,129665843535),(1099511627776,25933168707),(4398046511104,664893610407),(17592186044416,10688290348731),(140737488355328,51395778994111),(562949953421312,516934113878003),(2251799813685248,215976813459863),(18014398509481984,4096435027325419),(72057594037927936,33245204322532655),(288230376151711744,222821822978290339),(2305843009213693952,1139839793972162695),(9223372036854775808,2533810968008126491),(6365173242280570050,15264157452569266591),(10184277187648912080,8898984210288696541),(8147421750119129664,10935839647818478957),(5446136629611347657,16425542666025610257),(10892273259222695314,14229661458742757737),(14581704923007760955,14405683190875259346),(11665363938406208764,11489342206273707155),(16437122553048193235,4595736882509482862),(15766322786238243018,10499786136918809939),(6313186546839308451,16812972683758118390),(6313186546839308451,13450378147006494712),(12955975115009768026,7137191600167186261),(14119731817978284379,9464705006104218967),(17967474373362407223,1923871277692061422),(10010936112940619765,11804280815805910302),(2002187222588123953,17184314924401781913),(8008748890352495812,17051736098479599263),(11005400782938572609,9042987208127103451),(6995723184725437397,16038710392852540848),(18427546862062382596,2218050246305753901),(6483798646302651478,12114100308374341343),(14093657625019640929,16345778289848316875),(17144762604442603216,3269155657969663375),(15183269209660805191,5230649052751461400),(16229399020211097471,4184519242201169120),(15392495171770863647,3347615393760935296),(3478905753699597222,15129914451893539795),(16035760178535318321,6051965780757415918),(786365723404097297,17916937335796885296),(1572731446808194594,17950832196296355803),(4533805307344187917,16378100749488161209),(16525611975952477901,7458001361264102067),(15795864386240820348,6288322939696136407),(4416837465187391351,16319616828409762926),(11214230803019257017,15975342548308205647),(11214230803019257017,15023120199250415921),(11214230803019257017,15065607676385259860),(8201109267742205045,12052486141108207888),(6560887414193764036,13692707994656648897),(18364671962261188759,228373266507648330),(18364671962261188759,182698613206118664),(16024745179204364649,10926761603744401318),(17040826375434085463,3351107926405767861),(12848324817704016335,6702215852811535722),(10278659854163213068,9271880816352338989),(17251278996909840172,7618860460644046007),(15324795289656681339,7618860460644046007),(17414873673717865,18441764134037139313),(13931898938974292,18434211098137572445),(12241028168157729777,12185300572401832609),(17159730473723180555,7322325862592278999),(18076597819929194109,4348813440950649665),(16337072443548934243,3479050752760519732),(17789594103053047432,3963224639261890795),(17348354865501397207,3170579711409512636),(18054337645584037567,12682318845638050544),(14742561378157996859,3998523778266022813),(13094367352142039807,15994095113064091252),(18160681829687952177,579945552184410289),(18356186108167469649,579945552184410289),(18280611310077319511,1159891104368820578),(5511948029005576827,15663460475486435966),(16186890642404612675,5162994584393459021),(1311761672568386049,18028454992437063986),(1311761672568386049,18095696677141132126),(15525966679767614540,6451221667315421221),(12420773343814091632,9556415003268944129),(15477799680685939459,6499388666397096302),(495804469578349371,18064683152334795272),(6885246129684064903,11787274381054732322),(6885246129684064903,16105540557813945754),(12860452693120480015,11040373560625180433),(16184554637873372439,5896192483376988427),(9409928220272504895,11792384966753976854),(7527942576218003916,13674370610808477833),(13273993728866901049,9710210881728687483),(13862676324678472978,6538883098464855203),(9468400388950302313,13077766196929710406),(8296593472756123469,11905959280735531562),(13490121927769259007,6206130035485975862),(2913596756913313258,16782655206341921611),(18227664043162430089,2191092338503059019),(15020349702230555875,4382184677006118038),(12016279761784444700,7386254617452229213),(9613023809427555760,9789510569809118153),(15380838095084089216,7866905807923607001),(13878051637651992773,7866905807923607001),(11844745301399682710,9811438965147372647),(9140153517092119689,9811438965147372647),(5618349199866322405,14004528730428422889),(4494679359893057924,16251868410374951851),(9334728525625571817,17287977827893319758),(10649082541407556630,7953249302267747941),(8519266033126045304,16472515335393793245),(17604548797110387971,3294503067078758649),(14948626879833175946,5703698828398446623),(7120190517612959703,11407397656796893246),(15373574386597529870,6553593841927154471),(2670550790031363451,16586066648461957439),(14224521253127355985,15405293950794656712),(5689808501250942394,16586066648461957439),(17188196827258900035,2179251629442203009),(15592285248672372050,12154645883220592043),(12473828198937897640,12154645883220592043),(14649411523008171571,9340697927715706918),(13843014656523523118,8534301061231058465),(15738007827323564385,3413720424492423386),(6561321989957136263,14187119416025114562),(17945911397435644722,4149688281196450165),(16803256701367618685,1659875312478580066),(11660027902666424067,13279002499828640528),(1684415741668398229,18266808580327653447),(10338671767134178191,17308512050931559924),(5529436763613147623,16820487607963231686),(11058873527226295246,7834082395907922199),(17785355816517276561,3778591184626843489),(16182761169711334998,7022984153651706457),(2259313975693510125,16305282282996923039),(451862795138702025,18227398437562681556),(90372559027740405,18393879271387481398),(36149023611096162,18442129060143660581),(144596094444384648,18343239983967116191),(1156768755555077184,18215015097898518827),(12203091810687274927,7576016788466966191),(12203091810687274927,13382668517185937909),(17792074558861382687,13382668517185937909),(8880592240214730986,13444448674049779339),(17662336229447315684,4465008182852902065),(17962248360125018369,893001636570580413),(12879666692359039969,7144013092564643304),(17729418345005924607,15435156905088165941),(17061583038773279029,2628179093034081455),(17061583038773279029,4205086548854530328),(9299437776150998265,16820346195418121312),(7439550220920798612,14960458640187921659),(18416868034205568209,32543279338529774),(17734510396657356505,5954894504670491867),(3546902079331471301,16725773860019024866),(14187608317325885204,8818450791606492727),(8128592138429072677,10888026751138752877),(15153410431774273274,8680479060971008717),(7355950446870362221,18243977198009115098),(7355950446870362221,11652801579659147190),(9686510762802191659,9322241263727317752),(17246910816042901408,1791594352930488769),(8107527480827851081,15273904892549806157),(188230013821179201,18312858886722964249),(6900128015068875107,12294415919568316606),(17337996794951301835,3537740764813551621),(3467599358990260367,17618562418244466851),(17919290417432087902,4910752227244997517),(10114167503319833671,9821504454489995034),(15948537566247862964,5834370062928029293),(5212541013913539327,16881281139769597913),(17225176208094441739,3624987847559715569),(18130126383547212074,3624987847559715569),(9427043261954714171,16677018957074145309),(17839504898252598721,2029163251313659242),(2350403028862324199,17518265120703933764),(13801523312829614137,6067144836736643826),(14134970040700879434,5733698108865378529),(3360508772734200362,16508159376832057601),(9291670768920183330,16508159376832057601),(14866673230272293328,14649825223048020935),(15517217251945110507,2929965044609604187),(13824796016763015089,5859930089219208374),(17010742387780537775,4266956903710447031),(6804296955112215110,11936062284977001617),(5443437564089772088,17379499849066773705),(17838675067806253658,4984262345350292135),(16737153223281397203,1993704938140116854),(8531063483820583261,16505883236381050677),(222497492504046338,18438180713747066215),(14495192045628309302,6802601037806061975),(17165161955676865358,1360520207561212395),(17981474080213592795,2176832332097939832),(16657288808630357551,8707329328391759328),(18318654623828125223,151473969630632221),(12901703931938515822,7056747844491786795),(15923960881588530131,2822699137796714718),(13346509072385879011,11290796551186858872),(12321777274867919320,7185620434951919351),(17457934114783919289,2256909525004751623),(4394350632958684507,17816339365936375506),(8788701265917369014,15036366885700182315),(14570129154694701565,12029093508560145852),(14943119339499086165,18230135355242411078),(11954495471599268932,9264263751542959379),(2928945438331115697,16554436937854027637),(11715781753324462788,11511934614897929479),(9250317119603650245,18296787100780767181),(7400253695682920196,16242876538433503823),(1191576909723051353,17685245685501167254),(15176821260317216102,5205256810712505345),(18024179193426320579,2082102724285002138),(14848190549824275661,8328410897140008552),(17094376162006834216,2027408428319149999),(7648713836130393686,11933990631341796839),(14928691770543822324,3916540893494438105),(18199433611134245383,783308178698887621),(18309440911770143443,783308178698887621),(18133429230752706547,1566616357397775242),(12713060719057637713,6266465429591100968),(15111568974968816634,17510077230879995555),(12713060719057637713,7004030892351998222),(15773673289127708748,10947449214633925409),(4826224074493783339,14620184298718010651),(8715505749136142137,15557126698569435192),(16062687308385625663,2736648379773317222),(8542953033122048509,12993031034810211598),(7724378026835271425,12174456028523434514),(6179502421468217140,16809082844624597369),(4943601937174573712,15573182360330953941),(10184154493872040546,15870132979853847063),(13120620594224495461,14495376787039171262),(16844549667321135194,3723929073096639733),(11986068104618252262,13440892198502405597),(18265860903236281014,290964818776830667),(18220652475421725082,290964818776830667),(15027925169632385775,16191784444739708443),(3005585033926477155,16677777236135199292),(2404468027141181724,16076660229349903861),(5921646457266509779,13314097759862944013),(12725775821730974231,13314097759862944013),(18286743700928939749,5560967879197965518),(6523271917198991435,17003671650260905193),(1304654383439798287,18437820030331285866),(5218617533759193148,15951315210400361071),(9334419038941991341,13745683153247571161),(11098924684664223269,14627935976108687125),(16950099075107698119,11702348780886949700),(16950099075107698119,1773658974311421401),(16950099075107698119,14979006439535295616),(12771642205857197494,10800549570284794991),(17313247252746407006,4714438355228398497),(633986437412242303,18223766983501351685),(12202233064925295617,7289506793400540674),(17717647623043754491,1933257463055265281),(10180270990105926246,8956650421163493685),(14986551727513756281,3582660168465397474),(18044483053057420647,14330640673861589896),(13797763735191116989,8493438635732607316),(4881282786821627267,17832961896738979444),(12990724102881544498,9723520580679062213),(13644164807322040955,8416639171798069299),(10915331845857632764,13874305094726885681),(5957404457740729075,13874305094726885681),(2382961783096291630,16178350957818730829),(1906369426477033304,17608128027676505807),(7625477705908133216,11909651082034247699),(11532503463496609399,8191199133714590666),(15778962077768960052,4246458614272350653),(11773877939360697911,16020336553633048564),(13086262223687096553,10461493655034299269),(7326803620481698475,13596183689586900063),(2930721448192679390,16934842310499422261),(4689154317108287024,14004120862306742871),(15017962232550142117,3738655035883005979),(8998108921726461630,11976364532629242773),(14396974274762338608,6577499179593365795),(13081474438843665449,18343473782518358085),(13081474438843665449,14674779026014686468),(18381071762676231088,3890938557505549905),(17602884051175121107,3112750846004439924),(17409782291914840497,15756855989282480230),(7955668698345352359,17255300884506616009),(15911337396690704718,11675521572809857819),(8699639273238253451,14651403872381462187),(1099149869638017886,17761734113563736571),(7729116327337215281,11061633176122359018),(2425143161177857365,16365606342281716934),(485028632235571473,18414648042276434855),(3880229057884571784,15323616782109002323),(17033547964806258887,1512631733267971751),(11653840732380013158,8852183832725950081),(5782199052813630494,14813268139045084915),(14527051733436277971,5925307255618033966),(14527051733436277971,7645656151181682767),(17126757852552698540,16209035077458032037),(13701406282042158832,16209035077458032037),(18194244715096886535,501525759083174641),(16806687308619072793,2006103036332698564),(18259997134093734788,15701100886902999655),(14538453026523270059,6280440354761199862),(791028926800348134,18398015541241840309),(16101394456267332243,4312426249688646569),(14606086064889324422,4312426249688646569),(9959898352036000910,13604801675395293593),(7967918681628800728,11612822004988093411),(864603071653901609,18038025580052777168),(5855573102310699617,16505467836011585596),(11711146204621399234,17142218718563893549),(17516793243196127635,1086214502788498863),(10020645665370218705,8689716022307990904),(4008258266148087482,15375302911541938067),(16033033064592349928,10289925461374945081),(17037733085056625262,2967348663906497063),(17937746377190867521,9935713677605618591),(11536120217522668377,16670614275377137610),(8201997362447240855,13336491420301710088),(3280798944978896342,15616777813949532419),(13123195779915585368,11653432819735036973),(293952592036109679,18394282443473618708),(293952592036109679,18201862893778400195),(16574286628344505915,15398476260200067199),(3314857325668901183,15185902481435652234),(3314857325668901183,18330700784093021445),(6629714651337802366,17276852290643912127),(11652460107488281774,7433199248931463845),(16112379656847160081,11893118798290342152),(12046051553766364479,7826790695209546550),(12046051553766364479,18307484109934001719),(14550624576233419375,10018292089868219584),(11640499660986735500,7108167174621535709),(9312399728789388400,14092466971213577009),(14899839566063021440,12229987025455699329),(11919871652850417152,15209954938668303617),(11261854995686839859,13893921624341149031),(11261854995686839859,17725532600671102506),(11261854995686839859,11928055081399514033),(2119130981994833137,17498717216814528655),(8476523927979332548,13356879832710310873),(17929119036904860761,1952142361892391330),(17929119036904860761,1561713889513913064)]
def quadB (f:Nat -> Nat -> Nat -> Bool):Nat -> List (Nat × Nat) -> Bool
 | _,[]=>true
 | i,x :: r=>f i x.1 x.2 && quadB f (i+1) r
theorem quad_at (f:Nat -> Nat -> Nat -> Bool):∀ (l:List (Nat × Nat)) (i k:Nat),quadB f i l=true -> (h:k<l.length) -> ∃ a c,f (i+k) a c=true
 | x :: r,i,0,hB,_=>by
  simp only [quadB,Bool.and_eq_true] at hB;exact ⟨_,_,hB.1⟩
 | x :: r,i,k+1,hB,h=>by
  simp only [quadB,Bool.and_eq_true] at hB;have:=quad_at f r (i+1) k hB.2 (by simpa using h);rw [show i+(k+1)=i+1+k by omega];exact this
def paB (i q1 q2:Nat):Bool:=certB (nT i) (2*(dT i*2 ^ 136)) (36893488147419103232*dT i) q1 (q1*nT i / (2*(dT i*2 ^ 136))) q2 (q2*nT i / (2*(dT i*2 ^ 136))+1) 18446744073709551616 9223372036854775808
theorem paAll:quadB paB 1 certPa=true:=by kernel_rfl
theorem paLen:certPa.length=695:=by kernel_rfl
end fpm
end Go.Proofs.YtcbgkbidgpemfaaGreatDoor
