/- The contract of lex.tokens: the tokens come one by one. Condition: the text is within the reach. -/
import Derived.Test.YtcbgkbidgpemfaaGreatDoorMf00
import Derived.Test.YtcbgkbidgpemfaaGreatDoorMf03
import Derived.Test.YtcbgkbidgpemfaaGreatDoorProg
import Derived.RangeFuncBound
import Derived.RangeFuncCalls
import Derived.RangeFuncLeaves
import Derived.Shelf.Abstract
import Derived.Shelf.RegionOpen
import Derived.OwnWalkIn
import Derived.TacticsInMore
import Derived.LoopNIn
import Derived.LoopIn
import Derived.Lib.IndexBytes
import Derived.Maps.AppendAt
import Derived.WalkKit
import Derived.WalkLawsBesides
import Derived.WalkSpells
import Derived.Lib.Hide
import Derived.Outline
import Derived.Laws.EntriesVeiled
import Derived.Deep.QuietTactic
import Derived.BigQuiet
import Derived.Laws.StructEq
namespace Go.Proofs.YtcbgkbidgpemfaaGreatDoor
set_option maxRecDepth 100000
set_option maxHeartbeats 4000000
namespace lexw
open Go.RowKit Go.Shelf
open lexm
attribute [local go_sem] Oper.semAt_some
def KeepsBox (b:Nat) (t:TypeId) (v:Value) (W W':World):Prop:=Boxed W b t v -> Boxed W' b t v
theorem tok_text (s:ByteArray) (k n:Nat):s.extract k (k+n)=⟨((s.data.toList.drop k).take n).toArray⟩:=by
 have h:=Lib.extract_data s k (k+n);rw [Nat.add_sub_cancel_left] at h;rw [<- h]
def encT (x:Tok × Bool):Array Value:=#[x.1.val,.bool x.2]
theorem toks_in (n:Nat) (hn:1 <= n) (l b:Nat) (s:ByteArray) (hs:s.size <= maxLen) (J Jx:List (Tok × Bool) -> World -> Prop) (W:World)
  (hJ:AbidesFrom W.heap.size J)
  (hY:∀ pre x W1,J pre W1 -> pre.length<(lexT s.data.toList 0 4).length -> YieldAt Fence.wide (n-1) Tryz.prog l (encT x) W1 fun e W' =>
   (e = .returned (.bool true)∧J (pre ++ [x]) W'∧KeepsBox b 9 (.string s) W1 W')∨(e = .returned (.bool false)∧Jx (pre ++ [x]) W'))
  (hb:Boxed W b 9 (.string s)) (h0:J [] W) :
  CallsIn Fence.wide n Tryz.prog 97 #[.func (.yield l) #[] #[],.pointer (some ⟨b,0,none⟩)] W fun e W'=>(∃ v,e = .returned v) ∧
   ((∃ ys,ys=lexT s.data.toList 0 4∧J ys W')∨(∃ pre,pre <+: lexT s.data.toList 0 4∧Jx pre W')):=by
 have hsL:=hs;unfold maxLen at hs;refine callsIn_of_wp Tryz.func97 rfl trivial ?_ rfl;simp only [Tryz.ntmps97,List.size_toArray,List.length_cons,List.length_nil,Nat.reduceAdd,Nat.reduceSub,Array.replicate_succ,Array.replicate_zero,List.push_toArray,List.append_toArray,List.nil_append,List.cons_append]
 gi_wp2
 gi_loopw [3,4] (fun la i wr=>∃ (pre:List (Tok × Bool)) (k kl:Nat),k <= s.size∧kl <= 4∧i = .int .i64 k∧la = .int .u8 kl∧lexT s.data.toList 0 4=pre ++ lexT (s.data.toList.drop k) k kl∧Boxed wr b 9 (.string s)∧J pre wr)
  (fun _ i _=>s.size-(intOf i).toNat)
 case atStart=>exact ⟨[],0,4,Nat.zero_le _,Nat.le_refl _,rfl,rfl,rfl,hb,h0⟩
 case round =>
  obtain ⟨pre,k,kl,hk,hkl,rfl,rfl,hpre,hbx,hJs⟩:=hrel;have hc:=hbx.cell;have HP:=Yd hpre;clear hpre
  by_cases hlt:k<s.size
  ·have hx0:0<(s.extract k s.size).size:=by rw [ByteArray.size_extract]; omega
   have hxs:(s.extract k s.size).size <= maxLen:=by rw [ByteArray.size_extract]; unfold maxLen; omega
   obtain ⟨q,hq⟩:∃ q,firstL (s.data.toList.drop k)=q:=⟨_,rfl⟩;have hqx:firstL (s.extract k s.size).data.toList=q:=by rw [Lib.extract_to_end]; exact hq
   have hle:=firstL_le (s.data.toList.drop k);have hkd:=firstL_kind (s.data.toList.drop k);have hpo:=firstL_pos (l:=s.data.toList.drop k) (by intro h; have:=congrArg List.length h; simp at this; omega);rw [hq] at hle hkd hpo;have hsl:s.data.toList.length=s.size:=by simp
   rw [List.length_drop,hsl] at hle;obtain ⟨kk,nn,ok⟩:=q;simp only at hle hkd hpo;have HQ:=Yd hq;have HX:=Yd hqx;have HL:=Yd hsl;clear hq hqx hsl
   gi_wp2_with fail
   refine ⟨trivial,?_⟩;refine (callsIn_wide.2 (first_any _ _ hxs hx0)).mono ?_;rw [HX.out];rintro e w1 ⟨rfl,hb1⟩;have hb2:=hb1.size;have hbx1:Boxed w1 b 9 (.string s):=(hb1.block b hbx.lt).trans hbx;have hc1:=hbx1.cell;have hJ1:J pre w1:=hJ pre wr w1 none hJs ⟨hb1.os,hb1.tape,hb1.output,hb1.size,fun i hi _=>hb1.block i hi⟩ (fun r e=>by cases e);have hke:k+nn <= s.size:=by omega
   cases ok with
   | true =>
    have hnn:1 <= nn:=hpo (.inl rfl);clear hpo
    by_cases h0k:kk=0
    ·subst h0k
     gi_wp2_with fail
     go_roundw
     case rel=>exact ⟨pre,k+nn,kl,by omega,hkl,by go_num,rfl,by rw [HP.out,lexT_skip (by intro h; have:=congrArg List.length h; simp at this; omega) HQ.out,List.drop_drop],hbx1.alloc _,hJ pre _ _ none hJ1 (World.grownBy_alloc _ _ _) (fun r e=>by cases e)⟩
     case measure=>simp [intOf]; omega
    ·have hkk:((kk:Int) == 0)=false:=Yf (by omega)
     have hlex:=HP.out;rw [lexT_tok (by intro h; have:=congrArg List.length h; simp at this; omega) HQ.out h0k,List.drop_drop] at hlex;have HLX:=Yd hlex;have hpl:pre.length<(lexT s.data.toList 0 4).length:=by rw [hlex]; simp
     clear hlex;have hJ2:=hJ pre _ _ none hJ1 (World.grownBy_alloc w1 (.cells #[.int .u8 kk,.int .i64 k,.string (s.extract k (k+nn))] 27) _) (fun r e=>by cases e);obtain ⟨fn,tmps,assign,body,hy,hR⟩:=hY pre (⟨kk,k,(s.data.toList.drop k).take nn⟩,true) _ hJ2 hpl;dsimp only [encT,Tok.val] at hy;rw [<- tok_text] at hy
     gi_wp2_with fail
     refine hR.mono ?_;rintro e W3 (⟨rfl,hJ3,hk3⟩ | ⟨rfl,hJx3⟩)
     ·have hbx3:=hk3 (hbx1.alloc _)
      gi_wp2
      go_roundw
      case rel=>exact ⟨_,k+nn,kk,by omega,by omega,by go_num,rfl,by rw [HLX.out]; simp,hbx3,hJ3⟩
      case measure=>simp [intOf]; omega
     ·gi_wp2
      refine bodyPost_ret (results_none rfl _ _ _) rfl ?_;exact ⟨⟨_,rfl⟩,.inr ⟨_,⟨lexT (s.data.toList.drop (k+nn)) (k+nn) kk,by rw [HLX.out]; simp⟩,hJx3⟩⟩
   | false =>
    have hlex:=HP.out;rw [lexT_bad (by intro h; have:=congrArg List.length h; simp at this; omega) HQ.out] at hlex;have HLX:=Yd hlex;have hpl:pre.length<(lexT s.data.toList 0 4).length:=by rw [hlex]; simp
    clear hlex hpo;have hJ2:=hJ pre _ _ none hJ1 (World.grownBy_alloc w1 (.cells #[.int .u8 kk,.int .i64 k,.string (s.extract k (k+nn))] 27) _) (fun r e=>by cases e);obtain ⟨fn,tmps,assign,body,hy,hR⟩:=hY pre (⟨kk,k,(s.data.toList.drop k).take nn⟩,false) _ hJ2 hpl;dsimp only [encT,Tok.val] at hy;rw [<- tok_text] at hy
    gi_wp2_with fail
    refine hR.mono ?_;rintro e W3 (⟨rfl,hJ3,hk3⟩ | ⟨rfl,hJx3⟩)
    ·gi_wp2
     refine bodyPost_ret (results_none rfl _ _ _) rfl ?_;exact ⟨⟨_,rfl⟩,.inl ⟨_,HLX.out.symm,hJ3⟩⟩
    ·gi_wp2
     refine bodyPost_ret (results_none rfl _ _ _) rfl ?_;exact ⟨⟨_,rfl⟩,.inr ⟨_,by rw [HLX.out]; exact List.prefix_refl _,hJx3⟩⟩
  ·obtain rfl:k=s.size:=by omega
   have hd:=drop_end s s.size (Nat.le_refl _);have hlex:=HP.out;rw [hd,lexT_nil] at hlex;clear hd
   by_cases h4:kl=4
   ·subst h4;rw [if_pos rfl,List.append_nil] at hlex;have HLX:=Yd hlex;clear hlex
    gi_wp2
    go_end0
    exact ⟨⟨_,rfl⟩,.inl ⟨_,HLX.out.symm,hJs⟩⟩
   ·rw [if_neg h4] at hlex;have h4':((kl:Int) == 4)=false:=Yf (by omega)
    have h4'':((kl:Int) != 4)=true:=by rw [bne_iff_ne]; omega
    have hpl:pre.length<(lexT s.data.toList 0 4).length:=by rw [hlex]; simp
    have HLX:=Yd hlex;clear hlex;obtain ⟨fn,tmps,assign,body,hy,hR⟩:=hY pre (⟨4,s.size,[]⟩,true) _ hJs hpl;replace hy:(Instr.yield l #[.agg #[.int .u8 4,.int .i64 s.size,.string ⟨#[]⟩],.bool true]).run Tryz.prog wr = .ok (.round l fn tmps assign body) wr:=hy
    gi_wp2_with fail
    refine hR.mono ?_;rintro e W3 (⟨rfl,hJ3,hk3⟩ | ⟨rfl,hJx3⟩)
    ·gi_wp2
     go_end0
     exact ⟨⟨_,rfl⟩,.inl ⟨_,HLX.out.symm,hJ3⟩⟩
    ·gi_wp2
     go_end0
     exact ⟨⟨_,rfl⟩,.inr ⟨_,by rw [HLX.out]; exact List.prefix_refl _,hJx3⟩⟩
end lexw

/- The contract of lex.Lex: its answer is lexRes of the text's bytes. Condition: the text is within the reach. -/
namespace lexw
open Go.RowKit Go.Shelf
open lexm
attribute [local go_sem] Oper.semAt_some
theorem tokens_in (n:Nat) (s:ByteArray) (w:World) :
  CallsIn Fence.wide n Tryz.prog 66 #[.string s] w fun e w'=>e = .returned (.func (.func 97) #[] #[.pointer (some ⟨w.heap.size,0,none⟩)])∧w'=w.alloc (.cells #[.string s] 9):=by
 refine callsIn_of_wp Tryz.func66 rfl trivial ?_ rfl;simp only [Tryz.ntmps66,List.size_toArray,List.length_cons,List.length_nil,Nat.reduceAdd,Nat.reduceSub,Array.replicate_succ,Array.replicate_zero,List.push_toArray,List.append_toArray,List.nil_append,List.cons_append]
 gi_wp2
 go_ret;exact ⟨rfl,rfl⟩
theorem tokens_stops (n:Nat) (hn:1 <= n) (b:Nat) (s:ByteArray) (hs:s.size <= maxLen) (w:World) (hb:Boxed w b 9 (.string s)) :
  SeqStopsK Fence.wide n Tryz.prog 97 #[.pointer (some ⟨b,0,none⟩)] encT (KeepsBox b 9 (.string s)) (fun ys=>ys=lexT s.data.toList 0 4) (fun pre=>pre <+: lexT s.data.toList 0 4) (lexT s.data.toList 0 4).length w:=fun l J Jx W hW hJ _ hY h0 =>
 toks_in n hn l b s hs J Jx W hJ hY ((hW.block b hb.lt).trans hb) h0
def Blk (w:World) (g:Nat) (t:TypeId) (cs:Array Value):Prop:=w.heap[g]? = some (.cells cs t (0,0))
theorem Blk.lt {w:World} {g:Nat} {t:TypeId} {cs:Array Value} (h:Blk w g t cs):g<w.heap.size:=(Array.getElem?_eq_some_iff.1 h).1
theorem Blk.cell {w:World} {g:Nat} {t:TypeId} {cs:Array Value} (h:Blk w g t cs) (i:Nat):w.cell? ⟨g,i,none⟩=cs[i]?:=cell_of_row w g i cs t (0,0) h
theorem Blk.kept {W W':World} {row:Option Nat} {B:Nat} {t:TypeId} {v:Array Value} (h:Blk W B t v) (hg:W.grownBy W' row) (hne:some B≠row):Blk W' B t v:=(hg.block B h.lt hne).trans h
theorem Blk.alloc {W:World} {B:Nat} {t:TypeId} {v:Array Value} (h:Blk W B t v) (o:Obj):Blk (W.alloc o) B t v:=h.kept (World.grownBy_alloc W o none) (by simp)
theorem Blk.new (w:World) (t:TypeId) (cs:Array Value):Blk (w.alloc (.cells cs t)) w.heap.size t cs:=heap_alloc_new w _
theorem blk_own {β:Type} (B:Nat) (t:TypeId) (v:β -> Array Value):Own (fun s W=>Blk W B t (v s)):=by
 rintro s X Y row h hg hrow;refine h.kept hg (fun e' => ?_);obtain ⟨o,ho,hc⟩:=hrow B e'.symm;rw [show X.heap[B]? = _ from h] at ho; cases ho; cases hc
theorem cells_new (W:World) (news:List Value) (t:TypeId):∀ j u,news[j]? = some u -> (W.alloc (.cells news.toArray t)).cell? ((⟨W.heap.size,0,none⟩:Addr).add j)=some u:=by
 intro j u hu;have hadd:(⟨W.heap.size,0,none⟩:Addr).add j=⟨W.heap.size,j,none⟩:=by unfold Addr.add; split <;> simp_all
 rw [hadd,(Blk.new W t news.toArray).cell j];simpa using hu
theorem toksOf_snoc (pre:List (Tok × Bool)) (h:errOf pre=none) (t:Tok):toksOf (pre ++ [(t,true)])=toksOf pre ++ [t]∧errOf (pre ++ [(t,true)])=none:=by
 induction pre with
 | nil=>exact ⟨rfl,rfl⟩
 | cons x r ih =>
  obtain ⟨y,b⟩:=x
  cases b with
  | true =>
   have:=ih h;exact ⟨by simpa [toksOf] using this.1,by simpa [errOf] using this.2⟩
  | false=>cases h
theorem toksOf_le (pre:List (Tok × Bool)):(toksOf pre).length <= pre.length:=by
 induction pre with
 | nil=>simp [toksOf]
 | cons x r ih =>
  obtain ⟨y,b⟩:=x
  cases b <;> simp [toksOf] <;> omega
theorem errOf_bad (pre:List (Tok × Bool)) (h:errOf pre=none) (t:Tok) (r:List (Tok × Bool)):errOf (pre ++ (t,false) :: r)=some t.pos:=by
 induction pre with
 | nil=>rfl
 | cons x q ih =>
  obtain ⟨y,b⟩:=x
  cases b with
  | true=>exact ih h
  | false=>cases h
theorem row_form {W:World} {base:Nat} {e:TypeId} {size:Nat} {v:Value} {k:Nat} {xs:List Value} (h:W.ownsRow base e size v k xs):∃ a c,v = .slice a k c:=by
 rcases h.2 with ⟨rfl,h0⟩ | ⟨g,cap,_,rfl,_⟩
 ·subst h0; exact ⟨_,_,rfl⟩
 ·exact ⟨_,_,rfl⟩
theorem Tryz.tokInfo:(Tryz.prog.info? 27).map (fun i=>(i.zero,i.size,i.bytes))=some (some (.agg #[.int .u8 0,.int .i64 0,.string ⟨#[]⟩]),3,32):=by kernel_rfl
def LexPost (w:World) (r:List Tok × Nat × Nat) (e:Ending) (w':World):Prop :=
 ∃ v,e = .returned (.tuple #[v,.int .i64 r.2.1,.int .i64 r.2.2])∧w'.ownsRow w.heap.size 27 3 v r.1.length (cellsOf r.1)∧Below w.heap.size w w'
theorem lex_in (n:Nat) (hn:3 <= n) (s:ByteArray) (hs:s.size <= maxLen) (w:World) :
  CallsIn Fence.wide n Tryz.prog 40 #[.string s] w (LexPost w (lexRes s.data.toList)):=by
 have hsL:=hs;unfold maxLen at hs;have hsz:s.data.toList.length=s.size:=by simp
 obtain ⟨r,hr⟩:∃ r,lexRes s.data.toList=r:=⟨_,rfl⟩;rw [hr];unfold lexRes at hr;rw [hsz] at hr;clear hsz
 by_cases hlong:1048576<s.size
 ·rw [if_pos hlong] at hr;subst hr;refine callsIn_of_wp Tryz.func40 rfl trivial ?_ rfl;simp only [Tryz.ntmps40,List.size_toArray,List.length_cons,List.length_nil,Nat.reduceAdd,Nat.reduceSub,Array.replicate_succ,Array.replicate_zero,List.push_toArray,List.append_toArray,List.nil_append,List.cons_append]
  gi_wp2
  refine bodyPost_ret (v:=.tuple #[.slice none 0 0,.int .i64 1048576,.int .i64 151]) (by simp [results,Tryz.results40,go_sem]) rfl ?_;refine ⟨_,rfl,⟨by simp [cellsOf],.inl ⟨rfl,rfl⟩⟩,?_⟩
  repeat (first | exact Below.refl _ _ | refine Below.alloc ?_ (by simp; try omega) _ | refine Below.setCell ?_ (by simp) _ | refine Below.drew ?_)
 ·rw [if_neg hlong] at hr;obtain ⟨i0,hi,hz0,hz1,hz2⟩:=info_parts Tryz.tokInfo;refine callsIn_of_wp_marks Tryz.func40 rfl trivial ?_ rfl;simp only [Tryz.ntmps40,List.size_toArray,List.length_cons,List.length_nil,Nat.reduceAdd,Nat.reduceSub,Array.replicate_succ,Array.replicate_zero,List.push_toArray,List.append_toArray,List.nil_append,List.cons_append];have HR:=Yd hr;clear hr;have h1:1 <= n:=by omega
  have hl:decide (1048576<(s.size:Int))=false:=by rw [decide_eq_false_iff_not]; omega
  gi_wp2_with (refine ⟨trivial,?_⟩; gi_at_call 66; refine (tokens_in (n-1) s _).mono ?_; rintro e w' ⟨rfl,rfl⟩)
  obtain ⟨W0,hW0⟩:∃ W0,((((w.alloc (.cells #[.slice none 0 0] 22)).alloc (.cells #[.int .i64 0] 3)).alloc (.cells #[.int .i64 0] 29)).alloc (.cells #[.slice none 0 0] 22)).alloc (.cells #[.string s] 9)=W0:=⟨_,rfl⟩;have hB0:Below w.heap.size w W0:=by
   rw [<- hW0];exact (((((Below.refl _ w).alloc (Nat.le_refl _) _).alloc (by simp) _).alloc (by simp; omega) _).alloc (by simp; omega) _).alloc (by simp; omega) _
  have hsz:W0.heap.size=w.heap.size+5:=by rw [<- hW0]; simp
  have b0:Boxed W0 w.heap.size 22 (.slice none 0 0):=by
   rw [<- hW0]; exact (((Boxed.new w _ _).alloc _).alloc _).alloc _ |>.alloc _
  have b1:Boxed W0 (w.heap.size+1) 3 (.int .i64 0):=by
   have h:=((Boxed.new (w.alloc (.cells #[.slice none 0 0] 22)) 3 (.int .i64 0)).alloc (.cells #[.int .i64 0] 29)).alloc (.cells #[.slice none 0 0] 22) |>.alloc (.cells #[.string s] 9);simp only [World.size_alloc] at h;rw [<- hW0]; exact h
  have b2:Boxed W0 (w.heap.size+1+1) 29 (.int .i64 0):=by
   have h:=(Boxed.new ((w.alloc (.cells #[.slice none 0 0] 22)).alloc (.cells #[.int .i64 0] 3)) 29 (.int .i64 0)).alloc (.cells #[.slice none 0 0] 22) |>.alloc (.cells #[.string s] 9);simp only [World.size_alloc] at h;rw [<- hW0]; exact h
  have b3:Boxed W0 (w.heap.size+1+1+1) 22 (.slice none 0 0):=by
   have h:=(Boxed.new (((w.alloc (.cells #[.slice none 0 0] 22)).alloc (.cells #[.int .i64 0] 3)).alloc (.cells #[.int .i64 0] 29)) 22 (.slice none 0 0)).alloc (.cells #[.string s] 9);simp only [World.size_alloc] at h;rw [<- hW0]; exact h
  have b4:Boxed W0 (w.heap.size+1+1+1+1) 9 (.string s):=by
   have h:=Boxed.new ((((w.alloc (.cells #[.slice none 0 0] 22)).alloc (.cells #[.int .i64 0] 3)).alloc (.cells #[.int .i64 0] 29)).alloc (.cells #[.slice none 0 0] 22)) 9 (.string s);simp only [World.size_alloc] at h;rw [<- hW0]; exact h
  rw [hW0];clear hW0;refine wpIn_rangeFunc_ownH rfl h1 (gf := 97) (lb:=#[.pointer (some ⟨w.heap.size+1+1+1+1,0,none⟩)]) rfl trivial (enters_of Tryz.func97 (by kernel_rfl) rfl)
   (tokens_stops (n-1) (by omega) (w.heap.size+1+1+1+1) s hsL W0 b4) (fun h k e=>k (h e)) (fun W l o o' hl hlo hno hnw e=>e.kept (grownBy_putObj' W l o') (fun e'=>by injection e'; omega)) (Below.refl _ _) (fun _=>rfl)
   (fun pre W=>((((((∃ v,Boxed W (w.heap.size+1+1+1) 22 v∧W.ownsRow w.heap.size 27 3 v (toksOf pre).length (cellsOf (toksOf pre))∧True)∧Boxed W w.heap.size 22 (.slice none 0 0))∧Boxed W (w.heap.size+1) 3 (.int .i64 0))∧Boxed W (w.heap.size+1+1) 29 (.int .i64 0))∧Boxed W (w.heap.size+1+1+1+1) 9 (.string s))∧errOf pre=none)∧Below w.heap.size w W)
   (fun c pre W=>(c = .ret ∧ ∃ ts t,pre=ts ++ [(t,false)]∧errOf ts=none∧Boxed W w.heap.size 22 (.slice none 0 0)∧Boxed W (w.heap.size+1) 3 (.int .i64 t.pos)∧Boxed W (w.heap.size+1+1) 29 (.int .i64 150))∧Below w.heap.size w W)
   (OwnFrom.and (OwnFrom.and (OwnFrom.and (OwnFrom.and (OwnFrom.and (OwnFrom.and (Own.from (holdsRow_own w.heap.size (w.heap.size+1+1+1) 22 27 3 (fun pre=>(toksOf pre).length) (fun pre=>cellsOf (toksOf pre)) (fun _ _=>True)) _) (Own.from (boxed_own _ _ _) _)) (Own.from (boxed_own _ _ _) _)) (Own.from (boxed_own _ _ _) _)) (Own.from (boxed_own _ _ _) _)) (ownFrom_pure _ _)) (ownFrom_below (Nat.le_refl _) (by omega)))
   (fun c=>OwnFrom.and (fun pre X Y row hs hg hr=>by
    obtain ⟨hc,ts,t,hp,he,h0,h1,h2⟩:=hs;have hr':∀ r,row=some r -> ∃ o:Obj,X.heap[r]? = some o∧o.isCells=false:=fun r e=>(hr r e).2;exact ⟨hc,ts,t,hp,he,boxed_own _ _ (fun (_:Unit)=>Value.slice none 0 0) () X Y row h0 hg hr',boxed_own _ _ (fun (_:Unit)=>Value.int .i64 t.pos) () X Y row h1 hg hr',boxed_own _ _ (fun (_:Unit)=>Value.int .i64 150) () X Y row h2 hg hr'⟩) (ownFrom_below (Nat.le_refl _) (by omega)))
   ⟨⟨⟨⟨⟨⟨⟨_,b3,World.ownsRow_nil _ _ _ _,trivial⟩,b0⟩,b1⟩,b2⟩,b4⟩,rfl⟩,hB0⟩
   (fun x a' W=>∃ Bx,w.heap.size+1+1+1+1<Bx∧Blk W Bx 27 x.1.cells.toArray∧a'={ tmps:=#[.string s,undef,.pointer (some ⟨w.heap.size,0,none⟩),.pointer (some ⟨w.heap.size+1,0,none⟩),.pointer (some ⟨w.heap.size+1+1,0,none⟩),.pointer (some ⟨w.heap.size+1+1+1,0,none⟩),.pointer (some ⟨Bx,0,none⟩),.bool x.2,.string s,.int .i64 s.size,.bool false,.string s,.func (.func 97) #[] #[.pointer (some ⟨w.heap.size+1+1+1+1,0,none⟩)],x.1.val,.bool x.2,undef,undef,undef,undef,undef,undef,undef,undef,undef],defers:=[] })
   (fun x a' _ X Y row hs hg hr=>by obtain ⟨Bx,h1,h2,h3⟩:=hs; exact ⟨Bx,h1,blk_own Bx _ (fun (_:Unit)=>x.1.cells.toArray) () X Y row h2 hg (fun r e=>(hr r e).2),h3⟩)
   ?assign ?body ?done ?stop
  case assign =>
   rintro l pre x W K ⟨⟨⟨⟨⟨⟨⟨v,c3,row,_⟩,c0⟩,c1⟩,c2⟩,c4⟩,he⟩,hB1⟩ hK;obtain ⟨⟨k,p,tx⟩,ok⟩:=x;dsimp only [encT,Tok.val] at *
   gi_wp2
   exact hK _ _ ((KeepsOthers.alloc _ _).from _) (fun e=>e.alloc _) ⟨⟨⟨⟨⟨⟨⟨v,c3.alloc _,row.alloc _,trivial⟩,c0.alloc _⟩,c1.alloc _⟩,c2.alloc _⟩,c4.alloc _⟩,he⟩,hB1.alloc hB1.size _⟩ ⟨W.heap.size,c4.lt,Blk.new W _ _,rfl⟩
  case body =>
   rintro l pre ⟨⟨k,p,tx⟩,ok⟩ a' W hl' ⟨r',hr'⟩ ⟨⟨⟨⟨⟨⟨⟨v,c3,row,_⟩,c0⟩,c1⟩,c2⟩,c4⟩,he⟩,hB1⟩ ⟨Bx,hBx,hblk,rfl⟩ hlt;have hpl:=Nat.lt_of_lt_of_le hlt (lexT_len _ _ _);have hs2:s.data.toList.length <= 1048576:=by simp; omega
   have htl:=toksOf_le pre;dsimp only [Tok.cells,Tok.val] at hblk ⊢;have hx0:=hblk.cell 0;have hx1:=hblk.cell 1;have hx2:=hblk.cell 2;have hc3:=c3.cell;have HE:=Yd he;clear he
   cases ok with
   | true =>
    gi_wp2_with (gi_at_builtin; go_loud (refine wpListIn_append_own _ rfl _ _ 22 rfl w.heap.size 27 i0 _ 3 32 Tryz.underlying22 hi hz0 hz1 hz2 rfl (by decide) _ _ _ rfl (row.alloc _) ⟨W.heap.size,0,none⟩ 1 1 [.int .u8 k,.int .i64 p,.string ⟨tx.toArray⟩] rfl rfl (cells_new _ _ _) (by simp [Value.oneCell']) (by unfold maxLen; omega) (by omega) (by have:=hB1.size; simp; omega) ?_); intro v' w1 hown' hgrow _; obtain ⟨g',cap',rfl⟩:=ownsRow_succ hown'; obtain ⟨hv1,hv2,hr2,hk2,hb2⟩:=c3.appended (by decide) row hB1.size (by omega) hown' hgrow; have hc1:=hv1.cell; have hf1:=hv1.frozen)
    obtain ⟨q1,q2⟩:=toksOf_snoc pre HE.out ⟨k,p,tx⟩;refine ⟨hk2.from _,fun _=>((c4.alloc _).kept hgrow (c4.not_row (by decide) row)).other (by omega) _,⟨⟨⟨⟨⟨⟨_,hv2,?_,trivial⟩,((c0.alloc _).kept hgrow (c0.not_row (by decide) row)).other (by omega) _⟩,((c1.alloc _).kept hgrow (c1.not_row (by decide) row)).other (by omega) _⟩,((c2.alloc _).kept hgrow (c2.not_row (by decide) row)).other (by omega) _⟩,((c4.alloc _).kept hgrow (c4.not_row (by decide) row)).other (by omega) _⟩,q2⟩,hB1.trans hb2⟩;rw [q1,cellsOf_snoc,List.length_append];exact hr2
   | false =>
    have hc0:=c0.cell;have hf0:=c0.frozen;have hc1:=c1.cell;have hf1:=c1.frozen;have hc2:=c2.cell;have hf2:=c2.frozen
    gi_wp2
    gi_region
    all_goals gi_wp2
    all_goals
     refine ⟨(((KeepsOthers.setCell _ _ _).trans (KeepsOthers.setCell _ _ _)).trans ((KeepsOthers.setCell _ _ _).trans (KeepsOthers.drew _))).from _,⟨rfl,pre,⟨k,p,tx⟩,rfl,HE.out,?_,?_,?_⟩,?_⟩
     ·exact ((c0.set _).other (B':=w.heap.size+1) (by omega) _).other (B':=w.heap.size+1+1) (by omega) _
     ·exact ((c1.other (B':=w.heap.size) (by omega) _).set _).other (B':=w.heap.size+1+1) (by omega) _
     ·exact ((c2.other (B':=w.heap.size) (by omega) _).other (B':=w.heap.size+1) (by omega) _).set _
     ·exact (((hB1.setCell (p:=⟨w.heap.size,0,none⟩) (Nat.le_refl _) _).setCell (p:=⟨w.heap.size+1,0,none⟩) (by simp) _).setCell (p:=⟨w.heap.size+1+1,0,none⟩) (by simp; omega) _).drew
  case done =>
   rintro D ys W hD rfl ⟨⟨⟨⟨⟨⟨⟨v,c3,row,_⟩,c0⟩,c1⟩,c2⟩,c4⟩,he⟩,hB1⟩ hK;have hc0:=c0.cell;have hf0:=c0.frozen;have hc1:=c1.cell;have hf1:=c1.frozen;have hc2:=c2.cell;have hf2:=c2.frozen;have hc3:=c3.cell;have HE:=Yd he;clear he;obtain ⟨va,vc,rfl⟩:=row_form row;have hr:=HR.out;rw [HE.out] at hr;have HR2:=Yd hr;clear hr HR
   gi_wp2
   have hK':=(((KeepsOthers.setCell W ⟨w.heap.size,0,none⟩ (.slice va (toksOf (lexT s.data.toList 0 4)).length vc)).trans (KeepsOthers.setCell _ ⟨w.heap.size+1,0,none⟩ (.int .i64 0))).trans (KeepsOthers.setCell _ ⟨w.heap.size+1+1,0,none⟩ (.int .i64 0))).same D _ hK rfl;have e0:=((c0.set (.slice va (toksOf (lexT s.data.toList 0 4)).length vc)).other (B':=w.heap.size+1) (by omega) (.int .i64 0)).other (B':=w.heap.size+1+1) (by omega) (.int .i64 0);have e1:=((c1.other (B':=w.heap.size) (by omega) (.slice va (toksOf (lexT s.data.toList 0 4)).length vc)).set (.int .i64 0)).other (B':=w.heap.size+1+1) (by omega) (.int .i64 0);have e2:=((c2.other (B':=w.heap.size) (by omega) (.slice va (toksOf (lexT s.data.toList 0 4)).length vc)).other (B':=w.heap.size+1) (by omega) (.int .i64 0)).set (.int .i64 0);have erow:=((row.kept (grownBy_setCell' _ w.heap.size (.slice va (toksOf (lexT s.data.toList 0 4)).length vc)) (.inr (c0.not_row (by decide) row).symm)).kept (grownBy_setCell' _ (w.heap.size+1) (.int .i64 0)) (.inr (c1.not_row (by decide) row).symm)).kept (grownBy_setCell' _ (w.heap.size+1+1) (.int .i64 0)) (.inr (c2.not_row (by decide) row).symm);have hB2:=((hB1.setCell (p:=⟨w.heap.size,0,none⟩) (Nat.le_refl _) (.slice va (toksOf (lexT s.data.toList 0 4)).length vc)).setCell (p:=⟨w.heap.size+1,0,none⟩) (by simp) (.int .i64 0)).setCell (p:=⟨w.heap.size+1+1,0,none⟩) (by simp; omega) (.int .i64 0);refine ⟨by simp,.inl ⟨_,_,rfl,run_takeDeferred hK',?_⟩⟩;have f0:=(e0.kept (grownBy_putObj' _ D (.deferred none)) (fun e'=>by injection e'; omega)).cell;have f1:=(e1.kept (grownBy_putObj' _ D (.deferred none)) (fun e'=>by injection e'; omega)).cell;have f2:=(e2.kept (grownBy_putObj' _ D (.deferred none)) (fun e'=>by injection e'; omega)).cell;have frow:=ownsRow_putObj erow (.deferred none) hK' rfl;have hB3:=hB2.trans (belowK_b (w:=w) (Nat.le_refl _) _ D _ (.deferred none) (by omega) hK' rfl rfl);refine ⟨.tuple #[.slice va (toksOf (lexT s.data.toList 0 4)).length vc,.int .i64 0,.int .i64 0],by simp [results,Tryz.results40,go_sem,f0,f1,f2],?_⟩;rw [<- HR2.out];exact ⟨_,rfl,frow,hB3⟩
  case stop =>
   rintro D c pre W hD hpre ⟨⟨rfl,ts,t,hp,he,c0,c1,c2⟩,hB1⟩ hK;have hc0:=c0.cell;have hc1:=c1.cell;have hc2:=c2.cell;have hr:=HR.out;obtain ⟨rest,hrest⟩:=hpre;rw [<- hrest,hp,List.append_assoc,List.singleton_append,errOf_bad ts he] at hr;have HR2:=Yd hr;clear hr HR
   gi_wp2
   refine ⟨by simp,.inl ⟨_,_,rfl,run_takeDeferred hK,?_⟩⟩;have f0:=(c0.kept (grownBy_putObj' _ D (.deferred none)) (fun e'=>by injection e'; omega)).cell;have f1:=(c1.kept (grownBy_putObj' _ D (.deferred none)) (fun e'=>by injection e'; omega)).cell;have f2:=(c2.kept (grownBy_putObj' _ D (.deferred none)) (fun e'=>by injection e'; omega)).cell;have hB3:=hB1.trans (belowK_b (w:=w) (Nat.le_refl _) _ D _ (.deferred none) (by omega) hK rfl rfl);refine ⟨.tuple #[.slice none 0 0,.int .i64 t.pos,.int .i64 150],by simp [results,Tryz.results40,go_sem,f0,f1,f2],?_⟩;rw [<- HR2.out];exact ⟨_,rfl,⟨by simp [cellsOf],.inl ⟨rfl,rfl⟩⟩,hB3⟩
theorem lex_any (s:ByteArray) (hs:s.size <= maxLen) (w:World):Calls Tryz.prog 40 #[.string s] w (LexPost w (lexRes s.data.toList)) :=
 callsIn_wide.1 (lex_in 3 (Nat.le_refl _) s hs w)
end lexw

/- What the walks of layers 15 to 17 share, where lex.Lex is walked too: rows of tokens. -/
namespace lexw
open Go.RowKit Go.Shelf
open lexm
attribute [local go_sem] Oper.semAt_some
def Toks (W:World) (B:Nat) (v:Value) (ts:List Tok):Prop :=
 ∃ A c,v = .slice A ts.length c∧(ts≠[] -> ∃ g off,A=some ⟨g,off,none⟩∧g<B ∧ ∀ j u,(cellsOf ts)[j]? = some u -> W.cell? ⟨g,off+j,none⟩=some u)
theorem Toks.below {W W':World} {B B':Nat} {v:Value} {ts:List Tok} (h:Toks W B v ts) (hb:Below B' W W') (hB:B <= B'):Toks W' B' v ts:=by
 obtain ⟨A,c,hv,hc⟩:=h;refine ⟨A,c,hv,fun h0 => ?_⟩;obtain ⟨g,off,hA,hg,hcell⟩:=hc h0;exact ⟨g,off,hA,by omega,fun j u hu=>(hb.cell (p:=⟨g,off+j,none⟩) (by simp; omega)).trans (hcell j u hu)⟩
end lexw

/- The reader of parse: what it holds; the walks of fails and next. Conditions: as each theorem states. -/
namespace parw
open Go.RowKit
open lexw
structure PTok where
 kind:Nat
 pos:Int
 text:ByteArray
def PTok.cells (t:PTok):List Value:=[.int .u8 t.kind,.int .i64 t.pos,.string t.text]
def PTok.val (t:PTok):Value:=.agg #[.int .u8 t.kind,.int .i64 t.pos,.string t.text]
def PTok.no:PTok:=⟨0,0,⟨#[]⟩⟩
def pcells (ts:List PTok):List Value:=ts.flatMap PTok.cells
theorem pcells_cons (t:PTok) (r:List PTok):pcells (t :: r)=t.cells ++ pcells r:=rfl
def PRow (W:World) (B:Nat) (v:Value) (ts:List PTok):Prop :=
 ∃ A c,v = .slice A ts.length c∧ts.length <= c∧(ts≠[] -> ∃ g off,A=some ⟨g,off,none⟩∧g<B ∧ ∀ j u,(pcells ts)[j]? = some u -> W.cell? ⟨g,off+j,none⟩=some u)
theorem PRow.keep {W W':World} {B:Nat} {v:Value} {ts:List PTok} (h:PRow W B v ts) (hk:∀ g,g<B -> g<W.heap.size -> W'.heap[g]? = W.heap[g]?):PRow W' B v ts:=by
 obtain ⟨A,c,hv,hc,hx⟩:=h;refine ⟨A,c,hv,hc,fun h0 => ?_⟩;obtain ⟨g,off,hA,hg,hcell⟩:=hx h0;exact ⟨g,off,hA,hg,fun j u hu=>(World.cell?_of_block (a:=⟨g,off+j,none⟩) (hk g hg (World.block_lt_of_cell? W _ (hcell j u hu)))).trans (hcell j u hu)⟩
structure RSt where
 ts:List PTok
 pl:Int
 er:Nat
def RdAt (w:World) (rb B:Nat) (en:Int) (s:RSt):Prop :=
 B <= rb ∧ ∃ v,PRow w B v s.ts∧w.heap[rb]? = some (.cells #[v,.int .i64 en,.int .i64 s.pl,.int .i64 s.er] 67 (0,0))
theorem RdAt.lt {w:World} {rb B:Nat} {en:Int} {s:RSt} (h:RdAt w rb B en s):rb<w.heap.size:=by
 obtain ⟨_,v,_,hb⟩:=h;exact (Array.getElem?_eq_some_iff.1 hb).1
theorem RdAt.kept {w w':World} {rb B:Nat} {en:Int} {s:RSt} {row:Option Nat} (h:RdAt w rb B en s) (hg:w.grownBy w' row) (hr:∀ r,row=some r -> B <= r∧r≠rb):RdAt w' rb B en s:=by
 have hlt:=h.lt;obtain ⟨hB,v,hp,hb⟩:=h;refine ⟨hB,v,hp.keep fun g hgB hgl=>hg.block g hgl fun e => ?_,(hg.block rb hlt fun e => ?_).trans hb⟩
 ·have:=(hr g e.symm).1; omega
 ·exact (hr rb e.symm).2 rfl
theorem RdAt.alloc {w:World} {rb B:Nat} {en:Int} {s:RSt} (h:RdAt w rb B en s) (o:Obj):RdAt (w.alloc o) rb B en s:=h.kept (World.grownBy_alloc w o none) fun r e=>by cases e
theorem grown_below {w w':World} (h:Below w.heap.size w w') (row:Option Nat):w.grownBy w' row:=⟨h.os,h.tape,h.output,h.size,fun k hk _=>h.block k hk⟩
theorem RdAt.below {w w':World} {rb B:Nat} {en:Int} {s:RSt} (h:RdAt w rb B en s) (hb:Below w.heap.size w w'):RdAt w' rb B en s:=h.kept (grown_below hb none) fun r e=>by cases e
theorem grown_trans {a b c:World} {row:Option Nat} (h:a.grownBy b row) (k:b.grownBy c row):a.grownBy c row :=
 ⟨k.os.trans h.os,k.tape.trans h.tape,k.output.trans h.output,Nat.le_trans h.size k.size,fun i hi hr=>(k.block i (Nat.lt_of_lt_of_le hi h.size) hr).trans (h.block i hi hr)⟩
theorem grown_into {a b c:World} {row:Option Nat} (h:a.grownBy b row) (k:b.grownBy c (some a.heap.size)):a.grownBy c row :=
 ⟨k.os.trans h.os,k.tape.trans h.tape,k.output.trans h.output,Nat.le_trans h.size k.size,fun i hi hr=>(k.block i (Nat.lt_of_lt_of_le hi h.size) (by intro e; injection e with e; omega)).trans (h.block i hi hr)⟩
theorem grown_setCell (w:World) (p:Addr) (v:Value):w.grownBy (w.setCell p v) (some p.block) :=
 ⟨rfl,rfl,rfl,by simp,fun k _ hk=>Below.heap_setCell _ _ _ _ (fun e=>hk (by rw [e]))⟩
theorem heap_set (w:World) (g j:Nat) (cs:Array Value) (t:TypeId) (fr:Nat × Nat) (v:Value) (h:w.heap[g]? = some (.cells cs t fr)) :
  (w.setCell ⟨g,j,none⟩ v).heap[g]? = some (.cells (cs.setIfInBounds j v) t fr):=by
 obtain ⟨hlt,hk⟩:=Array.getElem?_eq_some_iff.1 h;show (w.heap.modify g _)[g]? = _;rw [Array.getElem?_eq_getElem (by rw [Array.size_modify]; exact hlt),Array.getElem_modify_self,hk];simp
theorem not_frozen {w:World} {g:Nat} {cs:Array Value} {t:TypeId} (h:w.heap[g]? = some (.cells cs t (0,0))) (j:Nat):w.frozen? ⟨g,j,none⟩=false:=by
 simp [World.frozen?,h]
def RSt.fail (s:RSt) (at_:Int) (e:Nat):RSt:=if s.er=0 then { s with pl:=at_,er:=e } else s
theorem fails_any (rb B:Nat) (en:Int) (s:RSt) (at_:Int) (e:Nat) (w:World) (h:RdAt w rb B en s) :
  Calls Tryz.prog 57 #[.pointer (some ⟨rb,0,none⟩),.int .i64 at_,.int .i64 e] w fun x w'=>x = .returned (.tuple #[])∧RdAt w' rb B en (s.fail at_ e)∧w.grownBy w' (some rb):=by
 obtain ⟨hB,v,hp,hb⟩:=h;have c2:=(cell_of_row w rb 2 _ _ _ hb);have c3:=(cell_of_row w rb 3 _ _ _ hb);have f2:=not_frozen hb 2;have f3:=not_frozen hb 3;simp at c2 c3
 by_cases h0:s.er=0
 ·have e0:((s.er:Int) == 0)=true:=by rw [h0]; rfl
  have hs:s.fail at_ e={ s with pl:=at_,er:=e }:=by unfold RSt.fail; rw [if_pos h0]
  rw [hs];clear hs;go_enter Tryz.func57,Tryz.ntmps57;go_wp2
  go_end0
  refine ⟨rfl,?_,?_⟩
  ·have k2:=heap_set w rb 2 _ _ _ (.int .i64 at_) hb;have k3:=heap_set _ rb 3 _ _ _ (.int .i64 e) k2;refine ⟨hB,v,hp.keep fun g hgB _ => ?_,k3⟩;rw [Below.heap_setCell _ _ _ _ (by simp; omega),Below.heap_setCell _ _ _ _ (by simp; omega)]
  ·exact grown_trans (grown_setCell w ⟨rb,2,none⟩ _) (grown_setCell _ ⟨rb,3,none⟩ _)
 ·have e0:((s.er:Int) == 0)=false:=Yf (by omega)
  have hs:s.fail at_ e=s:=by unfold RSt.fail; rw [if_neg h0]
  rw [hs];clear hs;go_enter Tryz.func57,Tryz.ntmps57;go_wp2
  go_end0
  exact ⟨rfl,⟨hB,v,hp,hb⟩,World.grownBy.refl w _⟩
def nextS (en:Int) (s:RSt) (k:Nat):PTok × RSt :=
 if s.er=0 then
  match s.ts with
  | []=>(PTok.no,{ s with pl:=en,er:=170 })
  | t :: r=>if t.kind=k then (t,{ s with ts:=r }) else (PTok.no,{ s with pl:=t.pos,er:=170 })
 else (PTok.no,s)
theorem nextS_er {en:Int} {s:RSt} {k:Nat} (h:¬ s.er=0):nextS en s k=(PTok.no,s):=by unfold nextS; rw [if_neg h]
theorem nextS_nil {en:Int} {s:RSt} {k:Nat} (h:s.er=0) (h1:s.ts=[]):nextS en s k=(PTok.no,{ s with pl:=en,er:=170 }):=by unfold nextS; rw [if_pos h,h1]
theorem nextS_no {en:Int} {s:RSt} {k:Nat} {t:PTok} {r:List PTok} (h:s.er=0) (h1:s.ts=t :: r) (h2:¬ t.kind=k):nextS en s k=(PTok.no,{ s with pl:=t.pos,er:=170 }):=by unfold nextS; rw [if_pos h,h1]; simp [h2]
theorem nextS_yes {en:Int} {s:RSt} {k:Nat} {t:PTok} {r:List PTok} (h:s.er=0) (h1:s.ts=t :: r) (h2:t.kind=k):nextS en s k=(t,{ s with ts:=r }):=by unfold nextS; rw [if_pos h,h1]; simp [h2]
theorem World.heap_alloc_lt' (w:World) (o:Obj) (k:Nat) (h:k<w.heap.size):(w.alloc o).heap[k]? = w.heap[k]?:=(World.grownBy_alloc w o none).block k h (by simp)
theorem next_blk (w:World) (p:Addr) (v:Value) (o:Array Value) (t:TypeId):(((w.setCell p v).alloc (.cells o t)).alloc (.cells o t)).heap[w.heap.size]? = some (.cells o t (0,0)):=by
 have h:((w.setCell p v).alloc (.cells o t)).heap[(w.setCell p v).heap.size]? = some (.cells o t (0,0)):=heap_alloc_new _ _;rw [World.size_setCell] at h;exact (World.heap_alloc_lt' _ _ _ (by simp)).trans h
theorem next_step (rb B:Nat) (en:Int) (s:RSt) (v v':Value) (r:List PTok) (w:World) (o:Obj) (hB:B <= rb) (hb:w.heap[rb]? = some (.cells #[v,.int .i64 en,.int .i64 s.pl,.int .i64 s.er] 67 (0,0)))
  (hp:PRow w B v' r):RdAt (((w.setCell ⟨rb,0,none⟩ v').alloc o).alloc o) rb B en ⟨r,s.pl,s.er⟩∧w.grownBy (((w.setCell ⟨rb,0,none⟩ v').alloc o).alloc o) (some rb):=by
 have k0:=heap_set w rb 0 _ _ _ v' hb;have hR:RdAt (w.setCell ⟨rb,0,none⟩ v') rb B en ⟨r,s.pl,s.er⟩:=⟨hB,v',hp.keep fun g hg _=>by rw [Below.heap_setCell _ _ _ _ (by simp; omega)],k0⟩;exact ⟨(hR.alloc o).alloc o,grown_trans (grown_trans (grown_setCell w ⟨rb,0,none⟩ v') (World.grownBy_alloc _ o _)) (World.grownBy_alloc _ o _)⟩
def NextPost (rb B:Nat) (en:Int) (r:PTok × RSt) (w:World) (e:Ending) (w':World):Prop :=
 e = .returned r.1.val∧RdAt w' rb B en r.2∧w.grownBy w' (some rb)
theorem next_any (rb B:Nat) (en:Int) (s:RSt) (k:Nat) (w:World) (h:RdAt w rb B en s) :
  Calls Tryz.prog 56 #[.pointer (some ⟨rb,0,none⟩),.int .u8 k] w (NextPost rb B en (nextS en s k) w):=by
 have hR:=h;have hlt:=h.lt;obtain ⟨hB,v,hp,hb⟩:=h;have c0:=(cell_of_row w rb 0 _ _ _ hb);have c1:=(cell_of_row w rb 1 _ _ _ hb);have c2:=(cell_of_row w rb 2 _ _ _ hb);have c3:=(cell_of_row w rb 3 _ _ _ hb);simp at c0 c1 c2 c3
 by_cases h0:s.er=0
 ·have e0:((s.er:Int) != 0)=false:=by rw [h0]; rfl
  obtain ⟨A,c,rfl,hlc,hx⟩:=hp
  rcases hts:s.ts with _ | ⟨t,r⟩
  ·rw [nextS_nil h0 hts];have hl0:s.ts.length=0:=by rw [hts]; rfl
   rw [hl0] at c0 ;clear hx c2;go_enter Tryz.func56,Tryz.ntmps56;go_wp2_with fail;refine (fails_any rb B en s _ _ _ (hR.alloc _)).mono ?_;rintro e w1 ⟨rfl,h1,g1⟩;have hf:s.fail en 170={ ts:=[],pl:=en,er:=170 }:=by unfold RSt.fail; rw [if_pos h0,hts]
   rw [hf] at h1;have h1:RdAt w1 rb B en { ts:=s.ts,pl:=en,er:=170 }:=by rw [hts]; exact h1
   have hk:w1.heap[w.heap.size]? = _:=(g1.block w.heap.size (by simp) (by simp; omega)).trans (heap_alloc_new w _);have F0:=not_frozen hk 0;have F1:=not_frozen hk 1;have F2:=not_frozen hk 2;have C0:=(cell_of_row w1 w.heap.size 0 _ _ _ hk).trans rfl;have C1:=(cell_of_row w1 w.heap.size 1 _ _ _ hk).trans rfl;have C2:=(cell_of_row w1 w.heap.size 2 _ _ _ hk).trans rfl;go_wp2;have k0:=heap_set w1 w.heap.size 0 _ _ _ (.int .u8 0) hk;have k1:=heap_set _ w.heap.size 1 _ _ _ (.int .i64 0) k0;have k2:=heap_set _ w.heap.size 2 _ _ _ (.string ⟨#[]⟩) k1;refine bodyPost_ret (results_cell_row (ty := 27) (p:=4) rfl _ _ _ _ _ _ _ rfl k2 Tryz.underlying27 rfl (by kernel_rfl)) rfl ?_;have hsz:rb<w.heap.size:=hlt;have hgs:w1.grownBy _ (some w.heap.size):=grown_trans (grown_trans (grown_setCell w1 ⟨w.heap.size,0,none⟩ (.int .u8 0)) (grown_setCell _ ⟨w.heap.size,1,none⟩ (.int .i64 0))) (grown_setCell _ ⟨w.heap.size,2,none⟩ (.string ⟨#[]⟩));exact ⟨rfl,h1.kept hgs fun q e=>by injection e with e; omega,grown_into (grown_trans (World.grownBy_alloc w _ _) g1) hgs⟩
  ·have hl0:s.ts.length=r.length+1:=by rw [hts]; rfl
   obtain ⟨g,off,rfl,hg,hcell⟩:=hx (by rw [hts]; simp);rw [hts,pcells_cons] at hcell;have q0:=hcell 0 _ rfl;rw [Nat.add_zero] at q0;have hgs:g<w.heap.size:=by omega
   have q1:=hcell 1 _ rfl;have q2:=hcell 2 _ rfl;have n0:((s.ts.length:Int) == 0)=false:=Yf (by omega)
   have n1:0<s.ts.length:=by omega
   by_cases hkk:t.kind=k
   ·rw [nextS_yes h0 hts hkk];subst hkk;have ek:((t.kind:Int) != t.kind)=false:=by simp
    have hc1:1 <= c:=by omega
    have f0:=not_frozen hb 0;clear c2;have hcell:=Yd hcell;go_enter Tryz.func56,Tryz.ntmps56;go_wp2
    all_goals refine bodyPost_ret (results_cell_row (ty := 27) (p:=4) rfl _ _ w.heap.size _ #[.int .u8 t.kind,.int .i64 t.pos,.string t.text] (0,0) _ rfl (by first | exact next_blk _ _ _ _ _) Tryz.underlying27 rfl (by kernel_rfl)) rfl ?_
    ·have hr0:r=[]:=List.eq_nil_of_length_eq_zero (by omega);have hn:=fun (v':Value) (hp:PRow w B v' r)=>next_step rb B en s _ v' r w (.cells #[.int .u8 t.kind,.int .i64 t.pos,.string t.text] 27) hB hb hp;rw [h0] at hn;exact ⟨rfl,hn _ ⟨_,_,rfl,by omega,fun hr=>absurd hr0 hr⟩⟩
    ·have hn:=fun (v':Value) (hp:PRow w B v' r)=>next_step rb B en s _ v' r w (.cells #[.int .u8 t.kind,.int .i64 t.pos,.string t.text] 27) hB hb hp;rw [h0] at hn;exact ⟨rfl,hn _ ⟨_,_,rfl,by omega,fun hr=>⟨g,off+3,rfl,hg,fun j u hu=>by
      rw [Nat.add_assoc];exact hcell.out (3+j) u (by rw [List.getElem?_append_right (by simp [PTok.cells])]; simpa [PTok.cells] using hu)⟩⟩⟩
   ·rw [nextS_no h0 hts hkk];have ek:((t.kind:Int) != k)=true:=by simp; omega
    go_enter Tryz.func56,Tryz.ntmps56;go_wp2_with fail;refine (fails_any rb B en s _ _ _ (hR.alloc _)).mono ?_;rintro e w1 ⟨rfl,h1,g1⟩;have hf:s.fail t.pos 170={ ts:=s.ts,pl:=t.pos,er:=170 }:=by unfold RSt.fail; rw [if_pos h0]
    rw [hf] at h1;have hk:w1.heap[w.heap.size]? = _:=(g1.block w.heap.size (by simp) (by simp; omega)).trans (heap_alloc_new w _);have F0:=not_frozen hk 0;have F1:=not_frozen hk 1;have F2:=not_frozen hk 2;have C0:=(cell_of_row w1 w.heap.size 0 _ _ _ hk).trans rfl;have C1:=(cell_of_row w1 w.heap.size 1 _ _ _ hk).trans rfl;have C2:=(cell_of_row w1 w.heap.size 2 _ _ _ hk).trans rfl;go_wp2;have k0:=heap_set w1 w.heap.size 0 _ _ _ (.int .u8 0) hk;have k1:=heap_set _ w.heap.size 1 _ _ _ (.int .i64 0) k0;have k2:=heap_set _ w.heap.size 2 _ _ _ (.string ⟨#[]⟩) k1;refine bodyPost_ret (results_cell_row (ty := 27) (p:=4) rfl _ _ _ _ _ _ _ rfl k2 Tryz.underlying27 rfl (by kernel_rfl)) rfl ?_;have hsz:rb<w.heap.size:=hlt;have hgs:w1.grownBy _ (some w.heap.size):=grown_trans (grown_trans (grown_setCell w1 ⟨w.heap.size,0,none⟩ (.int .u8 0)) (grown_setCell _ ⟨w.heap.size,1,none⟩ (.int .i64 0))) (grown_setCell _ ⟨w.heap.size,2,none⟩ (.string ⟨#[]⟩));exact ⟨rfl,h1.kept hgs fun q e=>by injection e with e; omega,grown_into (grown_trans (World.grownBy_alloc w _ _) g1) hgs⟩
 ·have e0:((s.er:Int) != 0)=true:=by simp; omega
  rw [nextS_er h0];clear c0 c1 c2;go_enter Tryz.func56,Tryz.ntmps56;go_wp2;refine bodyPost_ret (results_cell_row (ty := 27) (p:=4) rfl _ _ _ _ _ _ _ rfl (heap_alloc_new w _) Tryz.underlying27 rfl (by kernel_rfl)) rfl ?_;exact ⟨rfl,hR.alloc _,World.grownBy_alloc w _ _⟩
end parw

/- The walks of parse's words, Kind, Word, forms, and of slices.Index. Conditions: as each theorem states. -/
namespace parw
open Go.RowKit
open lexw
def wd1:ByteArray:=⟨#[108,97,109,98,101,114,116]⟩
def wd2:ByteArray:=⟨#[111,114,101,110]⟩
def wd3:ByteArray:=⟨#[112,108,97,115,116,105,99]⟩
def wd4:ByteArray:=⟨#[109,101,116,97,108]⟩
def wd5:ByteArray:=⟨#[109,105,120]⟩
def wd6:ByteArray:=⟨#[99,111,97,116]⟩
def wordsL:List ByteArray:=[⟨#[]⟩,wd1,wd2,wd3,wd4,wd5,wd6]
def idxS:List ByteArray -> ByteArray -> Nat -> Int
 | [],_,_ => -1
 | a :: r,s,k=>if s=a then k else idxS r s (k+1)
theorem sbeq {s a:ByteArray} (h:¬ s=a):(s.toList == a.toList)=false:=by
 rw [beq_eq_false_iff_ne];intro e;apply h;rw [ByteArray.toList_eq,ByteArray.toList_eq] at e;obtain ⟨⟨s⟩⟩:=s;obtain ⟨⟨a⟩⟩:=a;simp only at e;rw [e]
theorem sbeq_self (s:ByteArray):(s.toList == s.toList)=true:=by simp
theorem words_any (w:World):Calls Tryz.prog 31 #[] w fun e w'=>e = .returned (.slice (some ⟨w.heap.size,0,none⟩) 7 7)∧w'=w.alloc (.cells (wordsL.map Value.string).toArray 9):=by
 go_enter Tryz.func31,Tryz.ntmps31;go_wp2;go_ret;exact ⟨rfl,rfl⟩
theorem index_any (l:List ByteArray) (hl:l.length <= 1000) (g c:Nat) (s:ByteArray) (w:World) (hc:∀ j (hj:j<l.length),w.cell? ⟨g,j,none⟩=some (.string l[j])) :
  Calls Tryz.prog 30 #[.slice (some ⟨g,0,none⟩) l.length c,.string s] w fun e w'=>e = .returned (.int .i64 (idxS l s 0))∧w'=w:=by
 go_enter Tryz.func30,Tryz.ntmps30;go_wp2_with fail
 go_loop [8] (fun i=>∃ k:Nat,k <= l.length∧i = .int .i64 k∧idxS l s 0=idxS (l.drop k) s k) (fun i=>l.length-(intOf i).toNat)
 case atStart=>exact ⟨0,by omega,rfl,rfl⟩
 case round =>
  obtain ⟨k,hk,rfl,hx⟩:=hrel
  by_cases hkl:k<l.length
  ·have ck:=hc k hkl;rw [List.drop_eq_getElem_cons hkl] at hx;obtain ⟨a,ha⟩:∃ a,l[k]=a:=⟨_,rfl⟩;rw [ha] at hx ck
   by_cases he:s=a
   ·have hx':idxS l s 0=k:=by rw [hx]; unfold idxS; rw [if_pos he]
    have HX:=Yd hx';subst he;clear hx hx' hc;go_wp2;go_ret;exact ⟨ret_int HX.out.symm,rfl⟩
   ·have hx':idxS l s 0=idxS (l.drop (k+1)) s (k+1):=by rw [hx]; conv=>{ lhs; unfold idxS }; rw [if_neg he]
    have HX:=Yd hx';have hb:=sbeq he;clear hx hx' hc ha;go_wp2
    go_round
    case rel=>exact ⟨k+1,by omega,by go_num,HX.out⟩
    case measure=>simp [intOf]; omega
  ·obtain rfl:k=l.length:=by omega
   have hx':idxS l s 0 = -1:=by rw [hx,List.drop_length]; rfl
   have HX:=Yd hx';clear hx hx' hc;go_wp2;go_ret;exact ⟨ret_int HX.out.symm,rfl⟩
def kindF (s:ByteArray):Nat:=if s=wd1 then 1 else if s=wd2 then 2 else if s=wd3 then 3 else if s=wd4 then 4 else if s=wd5 then 5 else if s=wd6 then 6 else 0
theorem kind_idx (s:ByteArray):IntKind.u8.wrap (max (idxS wordsL s 0) 0)=kindF s:=by
 by_cases h0:s=⟨#[]⟩
 ·subst h0; decide +kernel
 ·unfold kindF wordsL;simp only [idxS];rw [if_neg h0]
  repeat' split
  all_goals rfl
theorem kindF_le (s:ByteArray):kindF s <= 6:=by
 unfold kindF
 repeat' split
 all_goals omega
theorem words_cells (w:World):∀ j (hj:j<wordsL.length),(w.alloc (.cells (wordsL.map Value.string).toArray 9)).cell? ⟨w.heap.size,j,none⟩=some (.string wordsL[j]):=by
 intro j hj;rw [cell_of_row _ w.heap.size j _ _ _ (heap_alloc_new w _)];simp [hj]
theorem kind_any (s:ByteArray) (w:World):Calls Tryz.prog 6 #[.string s] w fun e w'=>e = .returned (.int .u8 (kindF s))∧w'=w.alloc (.cells (wordsL.map Value.string).toArray 9):=by
 have hk:=kind_idx s;have hk1:idxS wordsL s 0<0 -> ((kindF s:Nat):Int)=0:=fun h=>by rw [<- hk,Int.max_eq_right (by omega)]; rfl
 have hk2:0 <= idxS wordsL s 0 -> ((kindF s:Nat):Int)=idxS wordsL s 0 % 256:=fun h=>by rw [<- hk,Int.max_eq_left (by omega)]; rfl
 have hk3:max (idxS wordsL s 0) 0 % 256=((kindF s:Nat):Int):=by rw [<- hk]; rfl
 have H1:=Yd hk1;have H2:=Yd hk2;have H3:=Yd hk3;clear hk hk1 hk2 hk3;go_enter Tryz.func6,Tryz.ntmps6;go_wp2_with (first | (go_at_call 31; refine (words_any _).mono ?_; rintro e wx ⟨rfl,rfl⟩) | (go_at_call 30; refine (index_any wordsL (by decide) _ 7 s _ (words_cells w)).mono ?_; rintro e wy ⟨rfl,rfl⟩))
 all_goals go_ret
 all_goals first
  | exact ⟨ret_int H3.out,rfl⟩
  | exact ⟨ret_int (H1.out (by assumption)).symm,rfl⟩
  | exact ⟨ret_int (H2.out (by assumption)).symm,rfl⟩
def formsV:Value:=.agg #[.string ⟨#[]⟩,.string ⟨#[110,110,110]⟩,.string ⟨#[110,110,110,110]⟩,.string ⟨#[110,110]⟩,.string ⟨#[110,110,110,110,110,110,110]⟩,.string ⟨#[110,119,119]⟩,.string ⟨#[110,110,110,110,119]⟩]
theorem forms_any (w:World):Calls Tryz.prog 58 #[] w fun e w'=>e = .returned formsV∧Below w.heap.size w w':=by
 go_enter Tryz.func58,Tryz.ntmps58;go_wp2;refine bodyPost_ret (results_cell_row (ty := 102) (p:=0) rfl _ _ w.heap.size _ _ _ _ rfl (heap_alloc_new w _) Tryz.underlying102 rfl (by kernel_rfl)) rfl ?_;exact ⟨rfl,(Below.refl _ w).alloc (Nat.le_refl _) _⟩
end parw
end Go.Proofs.YtcbgkbidgpemfaaGreatDoor
