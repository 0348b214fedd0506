/- strings.Builder's copyCheck and WriteString. No conditions but those stated. -/
import Derived.Test.YtcbgkbidgpemfaaGreatDoorMf18
import Derived.Test.YtcbgkbidgpemfaaGreatDoorRows
import Derived.Test.YtcbgkbidgpemfaaGreatDoorMf16
import Derived.Test.YtcbgkbidgpemfaaGreatDoorMf09
import Derived.Lib.LaidU8
import Derived.LaidMore
import Derived.ChangeArms
import Derived.Shelf.Vars
import Derived.Lib.SplitLaws
import Derived.Deep.Slices
import Derived.ChangeSame
import Derived.OpenShut
import Derived.WideShapes
namespace Go.Proofs.YtcbgkbidgpemfaaGreatDoor
set_option maxRecDepth 100000
namespace prnw
open Go.RowKit
open Go.Shelf
open Go.Sort
open nodew
open chkw
open flatm
abbrev BlF (B b:Nat) (bs:List Value) (w:World):Prop:=Lib.IsBuilderF 94 5 B b bs w
end prnw

/- print.Text. Conditions: the nodes lie in memory, at most 4096. -/
namespace prnw
open Go.RowKit
open Go.Shelf
open Go.Sort
open nodew
open chkw
open flatm
attribute [local go_sem] nodew.run_store_float
theorem BlF.grown {B b:Nat} {bs:List Value} {w w':World} (h:BlF B b bs w) (hg:w.grownBy w' none):BlF B b bs w':=by
 have k:∀ p,Lib.BuilderAtF 94 5 B b p bs w -> Lib.BuilderAtF 94 5 B b p bs w':=fun p h=>by
  have hlt:=h.lt;obtain ⟨hB,v,hb,hown,hne⟩:=h;exact ⟨hB,v,(hg.block b hlt (by simp)).trans hb,hown.kept hg (by cases hv:v.ownBlock <;> simp),hne⟩
 rcases h with h | h
 ·exact .inl (k _ h)
 ·exact .inr (k _ h)
end prnw

/- What the library's tables hold, out of the row's condition. No condition. -/
namespace prnw
open Go.RowKit
open Go.Shelf
open nodew
end prnw

/- Two positive floats' digits are of two values. Plain. -/
namespace fpm
open Go Go.RowKit prnw
end fpm

/- Plain laws ahead of PrintLines: lines of a text, words of a line. No conditions but those stated. -/
namespace prnw
open Go.RowKit
open Go.Shelf
open nodew
def Ink (l:List UInt8):Prop:=∀ b∈l,33 <= b.toNat
theorem Ink.cons {b:UInt8} {r:List UInt8} (h:33 <= b.toNat) (k:Ink r):Ink (b :: r):=fun x hx=>by
 rcases List.mem_cons.1 hx with rfl | hx
 ·exact h
 ·exact k x hx
theorem Ink.nil:Ink []:=fun _ h=>by cases h
end prnw

/- The value of a number's text. Plain. -/
namespace fpm
open Go Go.RowKit prnw
def decA (v:Nat):List UInt8 -> Nat
 | []=>v
 | b :: r=>decA (10*v+(b.toNat-48)) r
def decV (l:List UInt8):Nat:=decA 0 l
theorem decA_app (r:List UInt8):∀ (l:List UInt8) (v:Nat),decA v (l ++ r)=decA (decA v l) r
 | [],_=>rfl
 | _ :: l,_=>decA_app r l _
theorem dg_val (u j:Nat):(Lib.dg u j).toNat-48=u / 10 ^ j % 10:=by
 unfold Lib.dg;rw [UInt8.toNat_ofNat'];omega
theorem dec_front (u N:Nat) (h:u<10 ^ N):∀ n,n <= N -> decV ((List.range n).map fun t=>Lib.dg u (N-1-t))=u / 10 ^ (N-n)
 | 0,_=>by
  rw [Nat.sub_zero,Nat.div_eq_of_lt h];rfl
 | n+1,hn=>by
  have ih:=dec_front u N h n (by omega);unfold decV at ih ⊢;rw [List.range_succ,List.map_append,decA_app,ih];show 10*(u / 10 ^ (N-n))+((Lib.dg u (N-1-n)).toNat-48)=_;rw [dg_val,show N-1-n=N-(n+1) by omega,show N-n=N-(n+1)+1 by omega,Nat.pow_succ,<- Nat.div_div_eq_div_mul];omega
theorem dec_digits (u:Nat):decV (Lib.decDigits u)=u:=by
 rw [Lib.decDigits_eq,dec_front u _ (Lib.lt_pow_nDigits u) _ (Nat.le_refl _),Nat.sub_self,Nat.pow_zero,Nat.div_one]
def exV:List UInt8 -> Int
 | []=>0
 | b :: r=>if b=45 then -(decV r:Int) else (decV (b :: r):Int)
theorem ex_itoa (k:Int):exV (Lib.itoa k)=k:=by
 unfold Lib.itoa
 split
 ·show -((decV (Lib.decDigits k.natAbs):Nat):Int)=k;rw [dec_digits];omega
 ·have hd:=dec_digits k.toNat;have hi:∀ b∈Lib.decDigits k.toNat,b≠45:=fun b hb e=>by
   rw [Lib.decDigits_eq,List.mem_map] at hb;obtain ⟨t,_,ht⟩:=hb;rw [e] at ht;have:=congrArg UInt8.toNat ht;unfold Lib.dg at this;rw [UInt8.toNat_ofNat'] at this;change _=45 at this;omega
  cases hl:Lib.decDigits k.toNat with
  | nil =>
   rw [hl] at hd;change 0=_ at hd;show (0:Int)=k;omega
  | cons b r =>
   rw [hl] at hi hd;show (if b=45 then _ else _)=k;rw [if_neg (hi b List.mem_cons_self),hd];omega
end fpm

/- (As XFlaD, with the kind's bound.) What a node, and a slice of nodes, that the row reads is. No conditions. -/
namespace prnw
open Go.RowKit
open nodew
open chkw
open Go.ChangeShapes Go.WideShapes Go.Deep
section
variable {H:Type} {enc:TypeId × Value -> H} {w:World} {base:Nat} {sp:Nat -> Bool} {held:Bool}
def okk (n:Nd):Prop:=n.ok∧n.kind<256
theorem float_gen {t:TypeId} {k:FloatKind} {fuel:Nat} {cs:List Value} {x:DataW H × List MemPlace} (ht : Tryz.prog.underlying t=some (.float k)) (h:DataW.trod enc Tryz.prog w base sp held fuel t cs=some x):∃ n,cs=[.float k n]∧(Lit.float k n).wf=true:=by
 cases fuel with
 | zero=>simp [DataW.trod] at h
 | succ n =>
  unfold DataW.trod at h;rw [ht] at h
  split at h <;> simp_all
theorem float_of {t:TypeId} {fuel:Nat} {cs:List Value} {x:DataW H × List MemPlace} (ht : Tryz.prog.underlying t=some (.float .f64)) (h:DataW.trod enc Tryz.prog w base sp held fuel t cs=some x):∃ n,cs=[.float .f64 n]∧n<18446744073709551616:=by
 obtain ⟨n,hc,hw⟩:=float_gen ht h;exact ⟨n,hc,by simpa [Lit.wf] using hw⟩
theorem cells_u8 : Tryz.prog.cellsOf 5 = 1:=by kernel_rfl
theorem cells_int : Tryz.prog.cellsOf 3 = 1:=by kernel_rfl
theorem cells_f64 : Tryz.prog.cellsOf 46 = 1:=by kernel_rfl
theorem cells_arr : Tryz.prog.cellsOf 47 = 3:=by kernel_rfl
theorem cells_node : Tryz.prog.cellsOf 49 = 19:=by kernel_rfl
theorem arr_of {fuel:Nat} {c1 c2 c3:Value} {x:DataW H × List MemPlace} (h:DataW.trod enc Tryz.prog w base sp held fuel 47 [c1,c2,c3]=some x) :
  ∃ a b c,c1 = .float .f64 a∧c2 = .float .f64 b∧c3 = .float .f64 c∧a<18446744073709551616∧b<18446744073709551616∧c<18446744073709551616:=by
 obtain ⟨xs,m,_,_,_,hlen,hf⟩:=DataW.trod_array Tryz.underlying47 h;have g:=fun i (hi:i<xs.length)=>List.getElem?_eq_getElem hi;have h0:=(hf 0 (by omega)).trans (g 0 (by omega));have h1:=(hf 1 (by omega)).trans (g 1 (by omega));have h2:=(hf 2 (by omega)).trans (g 2 (by omega));simp only [cells_f64] at h0 h1 h2;obtain ⟨a,ha,la⟩:=float_of Tryz.underlying46 h0;obtain ⟨b,hb,lb⟩:=float_of Tryz.underlying46 h1;obtain ⟨c,hc,lc⟩:=float_of Tryz.underlying46 h2;simp at ha hb hc;exact ⟨a,b,c,ha,hb,hc,la,lb,lc⟩
theorem nd_of_trod {fuel:Nat} {cs:List Value} {x:DataW H × List MemPlace} (h:DataW.trod enc Tryz.prog w base sp held fuel 49 cs=some x):∃ n:Nd,cs=n.cells∧okk n:=by
 obtain ⟨xs,m,_,_,hl,hlen,hf⟩:=DataW.trod_struct Tryz.underlying49 h;rw [cells_node] at hl
 match cs,hl with
 | [c0,c1,c2,c3,c4,c5,c6,c7,c8,c9,c10,c11,c12,c13,c14,c15,c16,c17,c18],_ =>
  have g:=fun i (hi:i<xs.length)=>List.getElem?_eq_getElem hi;have hlen':xs.length=11:=hlen;have h0:=(hf 0 _ rfl).trans (g 0 (by omega));change DataW.trod enc Tryz.prog w base sp held m 5 ((List.drop 0 [c0,c1,c2,c3,c4,c5,c6,c7,c8,c9,c10,c11,c12,c13,c14,c15,c16,c17,c18]).take (Tryz.prog.cellsOf 5))=_ at h0;rw [cells_u8] at h0;change DataW.trod enc Tryz.prog w base sp held m 5 [c0]=_ at h0;have h1:=(hf 1 _ rfl).trans (g 1 (by omega));change DataW.trod enc Tryz.prog w base sp held m 47 ((List.drop 1 [c0,c1,c2,c3,c4,c5,c6,c7,c8,c9,c10,c11,c12,c13,c14,c15,c16,c17,c18]).take (Tryz.prog.cellsOf 47))=_ at h1;rw [cells_arr] at h1;change DataW.trod enc Tryz.prog w base sp held m 47 [c1,c2,c3]=_ at h1;have h2:=(hf 2 _ rfl).trans (g 2 (by omega));change DataW.trod enc Tryz.prog w base sp held m 47 ((List.drop 4 [c0,c1,c2,c3,c4,c5,c6,c7,c8,c9,c10,c11,c12,c13,c14,c15,c16,c17,c18]).take (Tryz.prog.cellsOf 47))=_ at h2;rw [cells_arr] at h2;change DataW.trod enc Tryz.prog w base sp held m 47 [c4,c5,c6]=_ at h2;have h3:=(hf 3 _ rfl).trans (g 3 (by omega));change DataW.trod enc Tryz.prog w base sp held m 47 ((List.drop 7 [c0,c1,c2,c3,c4,c5,c6,c7,c8,c9,c10,c11,c12,c13,c14,c15,c16,c17,c18]).take (Tryz.prog.cellsOf 47))=_ at h3;rw [cells_arr] at h3;change DataW.trod enc Tryz.prog w base sp held m 47 [c7,c8,c9]=_ at h3;have h4:=(hf 4 _ rfl).trans (g 4 (by omega));change DataW.trod enc Tryz.prog w base sp held m 47 ((List.drop 10 [c0,c1,c2,c3,c4,c5,c6,c7,c8,c9,c10,c11,c12,c13,c14,c15,c16,c17,c18]).take (Tryz.prog.cellsOf 47))=_ at h4;rw [cells_arr] at h4;change DataW.trod enc Tryz.prog w base sp held m 47 [c10,c11,c12]=_ at h4;have h5:=(hf 5 _ rfl).trans (g 5 (by omega));change DataW.trod enc Tryz.prog w base sp held m 46 ((List.drop 13 [c0,c1,c2,c3,c4,c5,c6,c7,c8,c9,c10,c11,c12,c13,c14,c15,c16,c17,c18]).take (Tryz.prog.cellsOf 46))=_ at h5;rw [cells_f64] at h5;change DataW.trod enc Tryz.prog w base sp held m 46 [c13]=_ at h5;have h6:=(hf 6 _ rfl).trans (g 6 (by omega));change DataW.trod enc Tryz.prog w base sp held m 46 ((List.drop 14 [c0,c1,c2,c3,c4,c5,c6,c7,c8,c9,c10,c11,c12,c13,c14,c15,c16,c17,c18]).take (Tryz.prog.cellsOf 46))=_ at h6;rw [cells_f64] at h6;change DataW.trod enc Tryz.prog w base sp held m 46 [c14]=_ at h6;have h7:=(hf 7 _ rfl).trans (g 7 (by omega));change DataW.trod enc Tryz.prog w base sp held m 46 ((List.drop 15 [c0,c1,c2,c3,c4,c5,c6,c7,c8,c9,c10,c11,c12,c13,c14,c15,c16,c17,c18]).take (Tryz.prog.cellsOf 46))=_ at h7;rw [cells_f64] at h7;change DataW.trod enc Tryz.prog w base sp held m 46 [c15]=_ at h7;have h8:=(hf 8 _ rfl).trans (g 8 (by omega));change DataW.trod enc Tryz.prog w base sp held m 46 ((List.drop 16 [c0,c1,c2,c3,c4,c5,c6,c7,c8,c9,c10,c11,c12,c13,c14,c15,c16,c17,c18]).take (Tryz.prog.cellsOf 46))=_ at h8;rw [cells_f64] at h8;change DataW.trod enc Tryz.prog w base sp held m 46 [c16]=_ at h8;have h9:=(hf 9 _ rfl).trans (g 9 (by omega));change DataW.trod enc Tryz.prog w base sp held m 3 ((List.drop 17 [c0,c1,c2,c3,c4,c5,c6,c7,c8,c9,c10,c11,c12,c13,c14,c15,c16,c17,c18]).take (Tryz.prog.cellsOf 3))=_ at h9;rw [cells_int] at h9;change DataW.trod enc Tryz.prog w base sp held m 3 [c17]=_ at h9;have h10:=(hf 10 _ rfl).trans (g 10 (by omega));change DataW.trod enc Tryz.prog w base sp held m 3 ((List.drop 18 [c0,c1,c2,c3,c4,c5,c6,c7,c8,c9,c10,c11,c12,c13,c14,c15,c16,c17,c18]).take (Tryz.prog.cellsOf 3))=_ at h10;rw [cells_int] at h10;change DataW.trod enc Tryz.prog w base sp held m 3 [c18]=_ at h10;obtain ⟨k,ek,-,wk⟩:=DataW.trod_int Tryz.underlying5 h0;obtain ⟨f1,f2,f3,rfl,rfl,rfl,l1,l2,l3⟩:=arr_of h1;obtain ⟨f4,f5,f6,rfl,rfl,rfl,l4,l5,l6⟩:=arr_of h2;obtain ⟨f7,f8,f9,rfl,rfl,rfl,l7,l8,l9⟩:=arr_of h3;obtain ⟨f10,f11,f12,rfl,rfl,rfl,l10,l11,l12⟩:=arr_of h4;obtain ⟨f13,e13,l13⟩:=float_of Tryz.underlying46 h5;obtain ⟨f14,e14,l14⟩:=float_of Tryz.underlying46 h6;obtain ⟨f15,e15,l15⟩:=float_of Tryz.underlying46 h7;obtain ⟨f16,e16,l16⟩:=float_of Tryz.underlying46 h8;obtain ⟨a,ea,-,-⟩:=DataW.trod_int Tryz.underlying3 h9;obtain ⟨b,eb,-,-⟩:=DataW.trod_int Tryz.underlying3 h10;have ek:c0 = .int .u8 k:=by simpa using ek
  have e13:c13 = .float .f64 f13:=by simpa using e13
  have e14:c14 = .float .f64 f14:=by simpa using e14
  have e15:c15 = .float .f64 f15:=by simpa using e15
  have e16:c16 = .float .f64 f16:=by simpa using e16
  have ea:c17 = .int .i64 a:=by simpa using ea
  have eb:c18 = .int .i64 b:=by simpa using eb
  subst ek e13 e14 e15 e16 ea eb;have hk9:0 <= k∧k <= 255:=by simpa [Lit.wf,IntKind.min,IntKind.max,IntKind.signed,IntKind.bits] using wk
  have hk0:=hk9.1;refine ⟨⟨k.toNat,[f1,f2,f3,f4,f5,f6,f7,f8,f9,f10,f11,f12,f13,f14,f15,f16],a,b⟩,?_,⟨rfl,?_⟩,by show k.toNat<256; omega⟩
  ·have:((k.toNat:Nat):Int)=k:=Int.toNat_of_nonneg hk0;simp [Nd.cells,Nd.f,this]
  ·intro v hv;simp only [List.mem_cons,List.not_mem_nil,or_false] at hv;omega
theorem nodes_of {fuel:Nat} {v:Value} {x:DataW H × List MemPlace} (hv:∃ a len cap,v = .slice a len cap) (h:DataW.trod enc Tryz.prog w base (fun _=>true) held fuel 34 v.cells.toList=some x):∃ l:List Nd,NArg w w.heap.size v l ∧ ∀ y∈l,okk y:=by
 obtain ⟨va,vl,vc,rfl⟩:=hv;have h':DataW.trod enc Tryz.prog w base (fun _=>true) held fuel 34 [.slice va vl vc]=some x:=h
 rcases open_slice Tryz.underlying34 h' with ⟨hcs,_⟩ | ⟨a,len,cap,m,n,D,Pl,hcs,hb,hl,hm,hmm,hx,hi⟩
 ·simp only [List.cons.injEq,and_true] at hcs;exact ⟨[],⟨none,0,hcs,by simp,fun _=>rfl,fun h=>absurd rfl h⟩,(fun y hy=>by cases hy)⟩
 ·simp only [List.cons.injEq,and_true] at hcs;have hml:len <= m:=by rw [hmm]; simp; exact hl
  have hnd:∀ i,i<len -> ∃ y:Nd,okk y ∧ ∀ j u,y.cells[j]? = some u -> w.cell? (a.add (i*19+j))=some u:=fun i hil=>by
   obtain ⟨cs',hc,ht⟩:=hi i (by omega);rw [cells_node] at hc;obtain ⟨y,hy,hyo⟩:=nd_of_trod ht;obtain ⟨_,hcl,hat⟩:=World.cells?_some hc;refine ⟨y,hyo,fun j u hu => ?_⟩;have hj:j<19:=by have:=(List.getElem?_eq_some_iff.1 hu).1; rwa [nd_cells_len] at this
   have:=hat j hj;rw [Go.Deep.add_add] at this;rw [this,hy];exact hu
  have hall:∀ k,k <= len -> ∃ l:List Nd,l.length=k∧(∀ y∈l,okk y) ∧ ∀ j u,(ncells l)[j]? = some u -> w.cell? (a.add j)=some u:=by
   intro k
   induction k with
   | zero=>exact fun _=>⟨[],rfl,(fun y hy=>by cases hy),(fun j u hu=>by simp [ncells] at hu)⟩
   | succ k ih =>
    intro hk;obtain ⟨l,hll,hlo,hlc⟩:=ih (by omega);obtain ⟨y,hyo,hyc⟩:=hnd k (by omega);refine ⟨l ++ [y],by rw [List.length_append,hll]; rfl,fun z hz => ?_,fun j u hu => ?_⟩
    ·rcases List.mem_append.1 hz with hz | hz
     ·exact hlo z hz
     ·have:z=y:=by simpa using hz
      rw [this]; exact hyo
    ·rw [ncells_snoc] at hu
     by_cases hj:j<(ncells l).length
     ·rw [List.getElem?_append_left hj] at hu; exact hlc j u hu
     ·rw [List.getElem?_append_right (by omega)] at hu;have:=hyc _ u hu;rw [ncells_len,hll] at this hj;rwa [show k*19+(j-k*19)=j by omega] at this
  obtain ⟨l,hll,hlo,hlc⟩:=hall len (Nat.le_refl _);refine ⟨l,⟨some a,cap,by rw [hcs,hll],by omega,fun h=>by simp at h,fun h0 => ?_⟩,hlo⟩;have hpos:0<l.length:=List.length_pos_iff.2 h0;have h00:(ncells l)[0]? = some ((ncells l)[0]'(by rw [ncells_len]; omega)):=List.getElem?_eq_getElem _;have hc0:=hlc 0 _ h00;have ha0:a.add 0=a:=by unfold Addr.add; simp
  rw [ha0] at hc0;obtain ⟨g,off,spot⟩:=a;have hspot:spot=none:=by
   cases spot with
   | none=>rfl
   | some p=>unfold World.cell? at hc0; split at hc0 <;> simp at hc0
  subst hspot;have hgl:g<w.heap.size:=World.block_lt_of_cell? w _ hc0;refine ⟨g,off,rfl,hgl,hgl,fun j u hu => ?_⟩;have:=hlc j u hu;have hadd:(⟨g,off,none⟩:Addr).add j=⟨g,off+j,none⟩:=by unfold Addr.add; split <;> simp_all
  rwa [hadd] at this
end
end prnw
end Go.Proofs.YtcbgkbidgpemfaaGreatDoor
