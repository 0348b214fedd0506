/- The walk of lex.first: what a text begins with. Condition: the text is not empty. -/
import Derived.Test.YtejmbbkklhpnaaaGreatDoorMf04
import Derived.Laws.EntriesVeiled
import Derived.RangeFuncNested
import Derived.RangeFuncBox
import Derived.RangeFuncBound
import Derived.RangeFuncCalls
import Derived.RangeFuncLeaves
import Derived.Shelf.Abstract
import Derived.Shelf.RegionOpen
import Derived.OwnWalkIn
import Derived.TacticsInMore
import Derived.LoopNIn
import Derived.LoopIn
import Derived.Lib.IndexBytes
namespace Go.Proofs.YtejmbbkklhpnaaaGreatDoor.lexw
open Go.RowKit
open lexm
theorem firstL_at (s:ByteArray) (h:0<s.size):s.data.toList=s[0] :: s.data.toList.drop 1:=by
 have:=drop_cons s 0 h
 simpa using this
theorem cellF (w:World):(w.alloc (.cells #[.func (.func 116) #[] #[]] 133)).cell? ⟨w.heap.size,0,none⟩=some (.func (.func 116) #[] #[]):=(Boxed.new w _ _).cell
def First (q:Nat × Nat × Bool) (w:World) (e:Ending) (w':World):Prop :=
 e = .returned (.tuple #[.int .u8 q.1,.int .i64 q.2.1,.bool q.2.2])∧Below w.heap.size w w'
set_option maxHeartbeats 1000000 in
theorem first_any (s:ByteArray) (w:World) (hs:s.size <= maxLen) (h0:0<s.size) :
  Calls Tryz.prog 93 #[.string s] w (First (firstL s.data.toList) w):=by
 have hsL:=hs
 unfold maxLen at hs
 have h255:=byte_le s 0 h0
 have hq:firstL s.data.toList=firstL (s[0] :: s.data.toList.drop 1):=by rw [<- firstL_at s h0]
 obtain ⟨q,hqq⟩:∃ q,firstL s.data.toList=q:=⟨_,rfl⟩
 rw [hqq]
 rw [hqq] at hq
 simp only [firstL] at hq
 rw [<- firstL_at s h0] at hq
 obtain ⟨rem,hrem⟩:∃ r,runL remI s.data.toList=r:=⟨_,rfl⟩
 obtain ⟨nam,hnam⟩:∃ r,runL namI s.data.toList=r:=⟨_,rfl⟩
 obtain ⟨num,hnum⟩:∃ r,runL numI s.data.toList=r:=⟨_,rfl⟩
 rw [hrem,hnam,hnum] at hq
 have Hrem:=Lib.hid hrem
 have Hnam:=Lib.hid hnam
 have Hnum:=Lib.hid hnum
 clear hrem hnam hnum hqq
 have hbx:Below w.heap.size w (w.alloc (.cells #[.func (.func 116) #[] #[]] 133)):=(Below.refl _ w).alloc (Nat.le_refl _) _
 by_cases c32:s[0].toNat=32
 ·rw [if_pos c32] at hq
  subst hq
  go_enter Tryz.func93,Tryz.ntmps93
  go_wp2
  go_ret3
  exact ⟨rfl,hbx⟩
 rw [if_neg c32] at hq
 by_cases c35:s[0].toNat=35
 ·rw [if_pos c35] at hq
  subst hq
  clear c32
  go_enter Tryz.func93,Tryz.ntmps93
  go_wp2_with (first | (go_at_call 121; refine (run_rem _ _ hsL).mono ?_; rw [Hrem.out]; rintro e w' ⟨rfl,rfl⟩))
  go_ret3
  exact ⟨rfl,hbx⟩
 rw [if_neg c35] at hq
 by_cases c10:s[0].toNat=10
 ·rw [if_pos c10] at hq
  subst hq
  go_enter Tryz.func93,Tryz.ntmps93
  go_wp2
  go_ret3
  exact ⟨rfl,hbx⟩
 rw [if_neg c10] at hq
 by_cases c61:s[0].toNat=61
 ·rw [if_pos c61] at hq
  subst hq
  go_enter Tryz.func93,Tryz.ntmps93
  go_wp2
  go_ret3
  exact ⟨rfl,hbx⟩
 rw [if_neg c61] at hq
 by_cases cl:ltrI s[0].toNat=true
 ·rw [if_pos cl] at hq
  subst hq
  have Hl:=Lib.hid cl
  clear cl
  go_enter Tryz.func93,Tryz.ntmps93
  go_wp2_with (first | (go_at_call 117; refine (letter_any _ (by omega) h255 _).mono ?_; rw [Hl.out]; rintro e w' ⟨rfl,rfl⟩) | (go_at_call 121; refine (run_nam _ _ hsL).mono ?_; rw [Hnam.out]; rintro e w' ⟨rfl,rfl⟩))
  go_ret3
  exact ⟨by simp; omega,hbx⟩
 rw [if_neg cl] at hq
 rw [Bool.not_eq_true] at cl
 by_cases cd:(digI s[0].toNat || (s[0].toNat:Int) == 45 || (s[0].toNat:Int) == 46)=true
 ·rw [if_pos cd] at hq
  subst hq
  have Hl:=Lib.hid cl
  clear cl
  cases hd:digI s[0].toNat
  ·rw [hd] at cd
   have Hd:=Lib.hid hd
   clear hd
   by_cases c45:s[0].toNat=45
   ·have b45:((s[0].toNat:Int) == 45)=true:=by rw [beq_iff_eq]; omega
    clear cd c45 c61 c10 c35 c32
    have c32:((s[0].toNat:Int) == 32)=false:=by have:=beq_iff_eq.1 b45; rw [beq_eq_false_iff_ne]; omega
    have c35:((s[0].toNat:Int) == 35)=false:=by have:=beq_iff_eq.1 b45; rw [beq_eq_false_iff_ne]; omega
    have c10:((s[0].toNat:Int) == 10)=false:=by have:=beq_iff_eq.1 b45; rw [beq_eq_false_iff_ne]; omega
    have c61:((s[0].toNat:Int) == 61)=false:=by have:=beq_iff_eq.1 b45; rw [beq_eq_false_iff_ne]; omega
    go_enter Tryz.func93,Tryz.ntmps93
    go_wp2_with (first | (go_at_call 117; refine (letter_any _ (by omega) h255 _).mono ?_; rw [Hl.out]; rintro e w' ⟨rfl,rfl⟩) | (go_at_call 118; refine (digit_any _ _).mono ?_; rw [Hd.out]; rintro e w' ⟨rfl,rfl⟩) | (go_at_call 121; refine (run_num _ _ hsL _ (cellF w)).mono ?_; rw [Hnum.out]; rintro e w' ⟨rfl,rfl⟩))
    go_ret3
    exact ⟨by simp; omega,hbx⟩
   ·have c46:s[0].toNat=46:=by
     simp only [Bool.false_or,Bool.or_eq_true,beq_iff_eq] at cd
     omega
    have b46:((s[0].toNat:Int) == 46)=true:=by rw [beq_iff_eq]; omega
    clear cd c45 c46 c61 c10 c35 c32
    have c32:((s[0].toNat:Int) == 32)=false:=by have:=beq_iff_eq.1 b46; rw [beq_eq_false_iff_ne]; omega
    have c35:((s[0].toNat:Int) == 35)=false:=by have:=beq_iff_eq.1 b46; rw [beq_eq_false_iff_ne]; omega
    have c10:((s[0].toNat:Int) == 10)=false:=by have:=beq_iff_eq.1 b46; rw [beq_eq_false_iff_ne]; omega
    have c61:((s[0].toNat:Int) == 61)=false:=by have:=beq_iff_eq.1 b46; rw [beq_eq_false_iff_ne]; omega
    have c45:((s[0].toNat:Int) == 45)=false:=by have:=beq_iff_eq.1 b46; rw [beq_eq_false_iff_ne]; omega
    go_enter Tryz.func93,Tryz.ntmps93
    go_wp2_with (first | (go_at_call 117; refine (letter_any _ (by omega) h255 _).mono ?_; rw [Hl.out]; rintro e w' ⟨rfl,rfl⟩) | (go_at_call 118; refine (digit_any _ _).mono ?_; rw [Hd.out]; rintro e w' ⟨rfl,rfl⟩) | (go_at_call 121; refine (run_num _ _ hsL _ (cellF w)).mono ?_; rw [Hnum.out]; rintro e w' ⟨rfl,rfl⟩))
    go_ret3
    exact ⟨by simp; omega,hbx⟩
  ·have Hd:=Lib.hid hd
   clear hd cd
   go_enter Tryz.func93,Tryz.ntmps93
   go_wp2_with (first | (go_at_call 117; refine (letter_any _ (by omega) h255 _).mono ?_; rw [Hl.out]; rintro e w' ⟨rfl,rfl⟩) | (go_at_call 118; refine (digit_any _ _).mono ?_; rw [Hd.out]; rintro e w' ⟨rfl,rfl⟩) | (go_at_call 121; refine (run_num _ _ hsL _ (cellF w)).mono ?_; rw [Hnum.out]; rintro e w' ⟨rfl,rfl⟩))
   go_ret3
   exact ⟨by simp; omega,hbx⟩
 ·rw [if_neg cd] at hq
  subst hq
  rw [Bool.not_eq_true] at cd
  simp only [Bool.or_eq_false_iff,beq_eq_false_iff_ne,ne_eq] at cd
  obtain ⟨⟨cd,c45⟩,c46⟩:=cd
  have b45:((s[0].toNat:Int) == 45)=false:=by rw [beq_eq_false_iff_ne]; exact c45
  have b46:((s[0].toNat:Int) == 46)=false:=by rw [beq_eq_false_iff_ne]; exact c46
  clear c45 c46
  have Hl:=Lib.hid cl
  have Hd:=Lib.hid cd
  clear cl cd
  go_enter Tryz.func93,Tryz.ntmps93
  go_wp2_with (first | (go_at_call 117; refine (letter_any _ (by omega) h255 _).mono ?_; rw [Hl.out]; rintro e w' ⟨rfl,rfl⟩) | (go_at_call 118; refine (digit_any _ _).mono ?_; rw [Hd.out]; rintro e w' ⟨rfl,rfl⟩))
  go_ret3
  exact ⟨rfl,hbx⟩
end Go.Proofs.YtejmbbkklhpnaaaGreatDoor.lexw

/- The contract of lex.tokens: the tokens come one by one. Condition: the text is within the reach. -/
namespace Go.Proofs.YtejmbbkklhpnaaaGreatDoor.lexw
open Go.RowKit Go.Shelf
open lexm
attribute [local go_sem] Oper.semAt_some
def KeepsBox (b:Nat) (t:TypeId) (v:Value) (W W':World):Prop:=Boxed W b t v -> Boxed W' b t v
theorem tok_text (s:ByteArray) (k n:Nat):s.extract k (k+n)=⟨((s.data.toList.drop k).take n).toArray⟩:=by
 have h:=Lib.extract_data s k (k+n)
 rw [Nat.add_sub_cancel_left] at h
 rw [<- h]
def encT (x:Tok × Bool):Array Value:=#[x.1.val,.bool x.2]
set_option maxRecDepth 100000 in
set_option maxHeartbeats 2000000 in
theorem toks_in (n:Nat) (hn:1 <= n) (l b:Nat) (s:ByteArray) (hs:s.size <= maxLen) (J Jx:List (Tok × Bool) -> World -> Prop) (W:World)
  (hJ:AbidesFrom W.heap.size J)
  (hY:∀ pre x W1,J pre W1 -> pre.length<(lexT s.data.toList 0 4).length -> YieldAt Fence.wide (n-1) Tryz.prog l (encT x) W1 fun e W' =>
   (e = .returned (.bool true)∧J (pre ++ [x]) W'∧KeepsBox b 9 (.string s) W1 W')∨(e = .returned (.bool false)∧Jx (pre ++ [x]) W'))
  (hb:Boxed W b 9 (.string s)) (h0:J [] W) :
  CallsIn Fence.wide n Tryz.prog 92 #[.func (.yield l) #[] #[],.pointer (some ⟨b,0,none⟩)] W fun e W'=>(∃ v,e = .returned v) ∧
   ((∃ ys,ys=lexT s.data.toList 0 4∧J ys W')∨(∃ pre,pre <+: lexT s.data.toList 0 4∧Jx pre W')):=by
 have hsL:=hs
 unfold maxLen at hs
 refine callsIn_of_wp Tryz.func92 rfl trivial ?_ rfl
 simp only [Tryz.ntmps92,List.size_toArray,List.length_cons,List.length_nil,Nat.reduceAdd,Nat.reduceSub,Array.replicate_succ,Array.replicate_zero,List.push_toArray,List.append_toArray,List.nil_append,List.cons_append]
 gi_wp2
 gi_loopw [3,4] (fun la i wr=>∃ (pre:List (Tok × Bool)) (k kl:Nat),k <= s.size∧kl <= 4∧i = .int .i64 k∧la = .int .u8 kl∧lexT s.data.toList 0 4=pre ++ lexT (s.data.toList.drop k) k kl∧Boxed wr b 9 (.string s)∧J pre wr)
  (fun _ i _=>s.size-(intOf i).toNat)
 case atStart=>exact ⟨[],0,4,Nat.zero_le _,Nat.le_refl _,rfl,rfl,rfl,hb,h0⟩
 case round =>
  obtain ⟨pre,k,kl,hk,hkl,rfl,rfl,hpre,hbx,hJs⟩:=hrel
  have hc:=hbx.cell
  have HP:=Lib.hid hpre
  clear hpre
  by_cases hlt:k<s.size
  ·have hx0:0<(s.extract k s.size).size:=by rw [ByteArray.size_extract]; omega
   have hxs:(s.extract k s.size).size <= maxLen:=by rw [ByteArray.size_extract]; unfold maxLen; omega
   obtain ⟨q,hq⟩:∃ q,firstL (s.data.toList.drop k)=q:=⟨_,rfl⟩
   have hqx:firstL (s.extract k s.size).data.toList=q:=by rw [Lib.extract_to_end]; exact hq
   have hle:=firstL_le (s.data.toList.drop k)
   have hkd:=firstL_kind (s.data.toList.drop k)
   have hpo:=firstL_pos (l:=s.data.toList.drop k) (by intro h; have:=congrArg List.length h; simp at this; omega)
   rw [hq] at hle hkd hpo
   have hsl:s.data.toList.length=s.size:=by simp
   rw [List.length_drop,hsl] at hle
   obtain ⟨kk,nn,ok⟩:=q
   simp only at hle hkd hpo
   have HQ:=Lib.hid hq
   have HX:=Lib.hid hqx
   have HL:=Lib.hid hsl
   clear hq hqx hsl
   gi_wp2_with fail
   refine ⟨trivial,?_⟩
   refine (callsIn_wide.2 (first_any _ _ hxs hx0)).mono ?_
   rw [HX.out]
   rintro e w1 ⟨rfl,hb1⟩
   have hb2:=hb1.size
   have hbx1:Boxed w1 b 9 (.string s):=(hb1.block b hbx.lt).trans hbx
   have hc1:=hbx1.cell
   have hJ1:J pre w1:=hJ pre wr w1 none hJs ⟨hb1.os,hb1.tape,hb1.output,hb1.size,fun i hi _=>hb1.block i hi⟩ (fun r e=>by cases e)
   have hke:k+nn <= s.size:=by omega
   cases ok with
   | true =>
    have hnn:1 <= nn:=hpo (.inl rfl)
    clear hpo
    by_cases h0k:kk=0
    ·subst h0k
     gi_wp2_with fail
     go_roundw
     case rel=>exact ⟨pre,k+nn,kl,by omega,hkl,by go_num,rfl,by rw [HP.out,lexT_skip (by intro h; have:=congrArg List.length h; simp at this; omega) HQ.out,List.drop_drop],hbx1.alloc _,hJ pre _ _ none hJ1 (World.grownBy_alloc _ _ _) (fun r e=>by cases e)⟩
     case measure=>simp [intOf]; omega
    ·have hkk:((kk:Int) == 0)=false:=by rw [beq_eq_false_iff_ne]; omega
     have hlex:=HP.out
     rw [lexT_tok (by intro h; have:=congrArg List.length h; simp at this; omega) HQ.out h0k,List.drop_drop] at hlex
     have HLX:=Lib.hid hlex
     have hpl:pre.length<(lexT s.data.toList 0 4).length:=by rw [hlex]; simp
     clear hlex
     have hJ2:=hJ pre _ _ none hJ1 (World.grownBy_alloc w1 (.cells #[.int .u8 kk,.int .i64 k,.string (s.extract k (k+nn))] 31) _) (fun r e=>by cases e)
     obtain ⟨fn,tmps,assign,body,hy,hR⟩:=hY pre (⟨kk,k,(s.data.toList.drop k).take nn⟩,true) _ hJ2 hpl
     dsimp only [encT,Tok.val] at hy
     rw [<- tok_text] at hy
     gi_wp2_with fail
     refine hR.mono ?_
     rintro e W3 (⟨rfl,hJ3,hk3⟩ | ⟨rfl,hJx3⟩)
     ·have hbx3:=hk3 (hbx1.alloc _)
      gi_wp2
      go_roundw
      case rel=>exact ⟨_,k+nn,kk,by omega,by omega,by go_num,rfl,by rw [HLX.out]; simp,hbx3,hJ3⟩
      case measure=>simp [intOf]; omega
     ·gi_wp2
      refine bodyPost_ret (results_none rfl _ _ _) rfl ?_
      exact ⟨⟨_,rfl⟩,.inr ⟨_,⟨lexT (s.data.toList.drop (k+nn)) (k+nn) kk,by rw [HLX.out]; simp⟩,hJx3⟩⟩
   | false =>
    have hlex:=HP.out
    rw [lexT_bad (by intro h; have:=congrArg List.length h; simp at this; omega) HQ.out] at hlex
    have HLX:=Lib.hid hlex
    have hpl:pre.length<(lexT s.data.toList 0 4).length:=by rw [hlex]; simp
    clear hlex hpo
    have hJ2:=hJ pre _ _ none hJ1 (World.grownBy_alloc w1 (.cells #[.int .u8 kk,.int .i64 k,.string (s.extract k (k+nn))] 31) _) (fun r e=>by cases e)
    obtain ⟨fn,tmps,assign,body,hy,hR⟩:=hY pre (⟨kk,k,(s.data.toList.drop k).take nn⟩,false) _ hJ2 hpl
    dsimp only [encT,Tok.val] at hy
    rw [<- tok_text] at hy
    gi_wp2_with fail
    refine hR.mono ?_
    rintro e W3 (⟨rfl,hJ3,hk3⟩ | ⟨rfl,hJx3⟩)
    ·gi_wp2
     refine bodyPost_ret (results_none rfl _ _ _) rfl ?_
     exact ⟨⟨_,rfl⟩,.inl ⟨_,HLX.out.symm,hJ3⟩⟩
    ·gi_wp2
     refine bodyPost_ret (results_none rfl _ _ _) rfl ?_
     exact ⟨⟨_,rfl⟩,.inr ⟨_,by rw [HLX.out]; exact List.prefix_refl _,hJx3⟩⟩
  ·obtain rfl:k=s.size:=by omega
   have hd:=drop_end s s.size (Nat.le_refl _)
   have hlex:=HP.out
   rw [hd,lexT_nil] at hlex
   clear hd
   by_cases h4:kl=4
   ·subst h4
    rw [if_pos rfl,List.append_nil] at hlex
    have HLX:=Lib.hid hlex
    clear hlex
    gi_wp2
    go_end0
    exact ⟨⟨_,rfl⟩,.inl ⟨_,HLX.out.symm,hJs⟩⟩
   ·rw [if_neg h4] at hlex
    have h4':((kl:Int) == 4)=false:=by rw [beq_eq_false_iff_ne]; omega
    have h4'':((kl:Int) != 4)=true:=by rw [bne_iff_ne]; omega
    have hpl:pre.length<(lexT s.data.toList 0 4).length:=by rw [hlex]; simp
    have HLX:=Lib.hid hlex
    clear hlex
    obtain ⟨fn,tmps,assign,body,hy,hR⟩:=hY pre (⟨4,s.size,[]⟩,true) _ hJs hpl
    replace hy:(Instr.yield l #[.agg #[.int .u8 4,.int .i64 s.size,.string ⟨#[]⟩],.bool true]).run Tryz.prog wr = .ok (.round l fn tmps assign body) wr:=hy
    gi_wp2_with fail
    refine hR.mono ?_
    rintro e W3 (⟨rfl,hJ3,hk3⟩ | ⟨rfl,hJx3⟩)
    ·gi_wp2
     go_end0
     exact ⟨⟨_,rfl⟩,.inl ⟨_,HLX.out.symm,hJ3⟩⟩
    ·gi_wp2
     go_end0
     exact ⟨⟨_,rfl⟩,.inr ⟨_,by rw [HLX.out]; exact List.prefix_refl _,hJx3⟩⟩
end Go.Proofs.YtejmbbkklhpnaaaGreatDoor.lexw
