/- The walks of the reader's word and number. Conditions: as each theorem states. -/
import Derived.Test.YtcbgkbidgpemfaaGreatDoorMf00
import Derived.Test.YtcbgkbidgpemfaaGreatDoorMf04
set_option maxHeartbeats 1000000
namespace Go.Proofs.YtcbgkbidgpemfaaGreatDoor.parw
open Go.RowKit
open lexw
theorem run_store_float (P:Program) (w:World) (a:Addr) (m:Mode) (k:FloatKind) (b:Nat):(store a (.float k b) m).run P w=stored P w a (.float k b) m:=run_store P w a _ m rfl
attribute [local go_sem] run_store_float
structure PArg where
 pos:Int
 num:Nat
 name:ByteArray
def PArg.cells (a:PArg):List Value:=[.int .i64 a.pos,.float .f64 a.num,.string a.name]
def PArg.val (a:PArg):Value:=.agg #[.int .i64 a.pos,.float .f64 a.num,.string a.name]
def PArg.no:PArg:=⟨0,0,⟨#[]⟩⟩
theorem store3 (W:World) (g:Nat) (cs:Array Value) (t:TypeId) (x y z:Value) (hk:W.heap[g]? = some (.cells cs t (0,0))) (hcs:cs.size=3) :
  (((W.setCell ⟨g,0,none⟩ x).setCell ⟨g,1,none⟩ y).setCell ⟨g,2,none⟩ z).heap[g]? = some (.cells #[x,y,z] t (0,0)) ∧
  W.grownBy (((W.setCell ⟨g,0,none⟩ x).setCell ⟨g,1,none⟩ y).setCell ⟨g,2,none⟩ z) (some g):=by
 have k0:=heap_set W g 0 _ _ _ x hk;have k1:=heap_set _ g 1 _ _ _ y k0;have k2:=heap_set _ g 2 _ _ _ z k1;refine ⟨k2.trans ?_,grown_trans (grown_trans (grown_setCell W ⟨g,0,none⟩ x) (grown_setCell _ ⟨g,1,none⟩ y)) (grown_setCell _ ⟨g,2,none⟩ z)⟩;obtain ⟨cs⟩:=cs
 match cs,hcs with
 | [_,_,_],_=>rfl
def ArgPost (rb B:Nat) (en:Int) (r:PArg × RSt) (w:World) (e:Ending) (w':World):Prop :=
 e = .returned r.1.val∧RdAt w' rb B en r.2∧w.grownBy w' (some rb)
def wordS (en:Int) (s:RSt):PArg × RSt:=(⟨(nextS en s 1).1.pos,0,(nextS en s 1).1.text⟩,(nextS en s 1).2)
theorem rword_any (rb B:Nat) (en:Int) (s:RSt) (w:World) (h:RdAt w rb B en s) :
  Calls Tryz.prog 60 #[.pointer (some ⟨rb,0,none⟩)] w (ArgPost rb B en (wordS en s) w):=by
 have hlt:=h.lt;have hB:=h.1;unfold wordS;obtain ⟨⟨t,s1⟩,hr⟩:∃ r,nextS en s 1=r:=⟨_,rfl⟩;have hn:=next_any rb B en s 1 _ (h.alloc (.cells #[.int .i64 0,.float .f64 0,.string ⟨#[]⟩] 59));rw [hr] at hn ⊢;go_enter Tryz.func60,Tryz.ntmps60;go_wp2_with fail;refine hn.mono ?_;rintro e w1 ⟨rfl,h1,g1⟩;have hk:w1.heap[w.heap.size]? = _:=(g1.block w.heap.size (by simp) (by simp; omega)).trans (heap_alloc_new w _);have hsz:w.heap.size<w1.heap.size:=by have:=g1.size; simp at this; omega
 have F0:=not_frozen hk 0;have F1:=not_frozen hk 1;have F2:=not_frozen hk 2;have C0:=(cell_of_row w1 w.heap.size 0 _ _ _ hk).trans rfl;have C1:=(cell_of_row w1 w.heap.size 1 _ _ _ hk).trans rfl;have C2:=(cell_of_row w1 w.heap.size 2 _ _ _ hk).trans rfl;unfold PTok.val;go_wp2;obtain ⟨b1,b2⟩:=store3 w1 w.heap.size _ _ (.int .i64 t.pos) (.float .f64 0) (.string t.text) hk rfl;refine bodyPost_ret (results_cell_row (ty := 59) (p:=2) rfl _ _ w.heap.size _ _ _ _ rfl ((World.heap_alloc_lt' _ _ _ (by simpa using hsz)).trans b1) Tryz.underlying59 rfl (by kernel_rfl)) rfl ?_;exact ⟨rfl,(h1.kept b2 fun q e=>by injection e with e; omega).alloc _,grown_trans (grown_into (grown_trans (World.grownBy_alloc w _ _) g1) b2) (World.grownBy_alloc _ _ _)⟩
def DecPost (r:Nat × Nat) (w:World) (e:Ending) (w':World):Prop :=
 e = .returned (.tuple #[.float .f64 r.1,.int .i64 r.2])∧Below w.heap.size w w'
def Stable (G:World -> Prop) (B:Nat):Prop:=∀ w w' row,G w -> w.grownBy w' row -> (∀ r,row=some r -> B <= r) -> G w'
def numS (dec:ByteArray -> Nat × Nat) (en:Int) (s:RSt):PArg × RSt :=
 if (nextS en s 2).2.er=0 then
  (⟨(nextS en s 2).1.pos,(dec (nextS en s 2).1.text).1,⟨#[]⟩⟩,if (dec (nextS en s 2).1.text).2=0 then (nextS en s 2).2 else (nextS en s 2).2.fail (nextS en s 2).1.pos (dec (nextS en s 2).1.text).2)
 else (PArg.no,(nextS en s 2).2)
theorem number_any (dec:ByteArray -> Nat × Nat) (G:World -> Prop) (rb B:Nat) (hG:Stable G B) (en:Int) (s:RSt)
  (hd:(nextS en s 2).2.er=0 -> ∀ w,G w -> Calls Tryz.prog 94 #[.string (nextS en s 2).1.text] w (DecPost (dec (nextS en s 2).1.text) w)) (w:World) (h:RdAt w rb B en s) (hw:G w) :
  Calls Tryz.prog 59 #[.pointer (some ⟨rb,0,none⟩)] w (ArgPost rb B en (numS dec en s) w):=by
 have hlt:=h.lt;have hB:=h.1;unfold numS;obtain ⟨⟨t,s1⟩,hr⟩:∃ r,nextS en s 2=r:=⟨_,rfl⟩;have hn:=next_any rb B en s 2 _ (h.alloc (.cells #[.int .i64 0,.float .f64 0,.string ⟨#[]⟩] 59));rw [hr] at hn hd ⊢;simp only at hd ⊢;obtain ⟨⟨x,er⟩,hx⟩:∃ r,dec t.text=r:=⟨_,rfl⟩;rw [hx] at hd ⊢;obtain ⟨R,hR⟩:∃ R,R=(if s1.er=0 then ((⟨t.pos,x,⟨#[]⟩⟩:PArg),if er=0 then s1 else s1.fail t.pos er) else (PArg.no,s1)):=⟨_,rfl⟩;have HR:=Yd hR;simp only;rw [<- hR];clear hR;go_enter Tryz.func59,Tryz.ntmps59;go_wp2_with fail;refine hn.mono ?_;rintro e w1 ⟨rfl,h1,g1⟩;have hk:w1.heap[w.heap.size]? = _:=(g1.block w.heap.size (by simp) (by simp; omega)).trans (heap_alloc_new w _);have hsz:w.heap.size<w1.heap.size:=by have:=g1.size; simp at this; omega
 have hg1:=grown_trans (World.grownBy_alloc w (.cells #[.int .i64 0,.float .f64 0,.string ⟨#[]⟩] 59) _) g1;have hG1:G w1:=hG w w1 _ hw hg1 (fun r e=>by injection e with e; omega);simp only at h1;clear g1;unfold PTok.val
 by_cases h0:s1.er=0
 ·have hD:=hd h0;clear hd;obtain ⟨_,v,_,hb⟩:=id h1;have c3:=(cell_of_row w1 rb 3 _ _ _ hb).trans rfl;have e0:((s1.er:Int) != 0)=false:=by rw [h0]; rfl
  have hlt1:=h1.lt;clear hb hr hn;go_wp2_with fail;refine (hD _ (hG _ _ none hG1 (World.grownBy_alloc w1 _ _) (fun r e=>by cases e))).mono ?_;rintro e w2 ⟨rfl,hB2⟩;have h2:RdAt w2 rb B en s1:=(h1.alloc _).below hB2;have hg2:=grown_trans hg1 (grown_trans (World.grownBy_alloc w1 _ _) (grown_below hB2 (some rb)));have ht2:w2.heap[w1.heap.size]? = _:=(hB2.block w1.heap.size (by simp)).trans (heap_alloc_new w1 _);have hk2:w2.heap[w.heap.size]? = _:=(hB2.block w.heap.size (by simp; omega)).trans ((World.heap_alloc_lt' _ _ _ hsz).trans hk);have hs2:w1.heap.size+1 <= w2.heap.size:=by have:=hB2.size; simpa using this
  simp only
  by_cases he:er=0
  ·have ee:((er:Int) != 0)=false:=by rw [he]; rfl
   have hR:R=(⟨t.pos,x,⟨#[]⟩⟩,s1):=by have:=HR.out; rw [if_pos h0,if_pos he] at this; exact this
   subst hR;have T1:=(cell_of_row w2 w1.heap.size 1 _ _ _ ht2).trans rfl;have F0:=not_frozen hk2 0;have F1:=not_frozen hk2 1;have F2:=not_frozen hk2 2;have C0:=(cell_of_row w2 w.heap.size 0 _ _ _ hk2).trans rfl;have C1:=(cell_of_row w2 w.heap.size 1 _ _ _ hk2).trans rfl;have C2:=(cell_of_row w2 w.heap.size 2 _ _ _ hk2).trans rfl;have HG:=Yd hg2;clear hg1 hg2 hB2 ht2 c3;go_wp2;obtain ⟨b1,b2⟩:=store3 w2 w.heap.size _ _ (.int .i64 t.pos) (.float .f64 x) (.string ⟨#[]⟩) hk2 rfl;refine bodyPost_ret (results_cell_row (ty := 59) (p:=2) rfl _ _ w.heap.size _ _ _ _ rfl b1 Tryz.underlying59 rfl (by kernel_rfl)) rfl ?_;exact ⟨rfl,h2.kept b2 fun q e=>by injection e with e; omega,grown_into HG.out b2⟩
  ·have ee:((er:Int) != 0)=true:=by simp; omega
   have hR:R=(⟨t.pos,x,⟨#[]⟩⟩,s1.fail t.pos er):=by have:=HR.out; rw [if_pos h0,if_neg he] at this; exact this
   subst hR;have T1:=(cell_of_row w2 w1.heap.size 1 _ _ _ ht2).trans rfl;clear c3;go_wp2_with fail;refine (fails_any rb B en s1 _ _ _ h2).mono ?_;rintro e w3 ⟨rfl,h3,g3⟩;have ht3:w3.heap[w1.heap.size]? = _:=(g3.block w1.heap.size (by omega) (by simp; omega)).trans ht2;have hk3:w3.heap[w.heap.size]? = _:=(g3.block w.heap.size (by omega) (by simp; omega)).trans hk2;have T1:=(cell_of_row w3 w1.heap.size 1 _ _ _ ht3).trans rfl;have F0:=not_frozen hk3 0;have F1:=not_frozen hk3 1;have F2:=not_frozen hk3 2;have C0:=(cell_of_row w3 w.heap.size 0 _ _ _ hk3).trans rfl;have C1:=(cell_of_row w3 w.heap.size 1 _ _ _ hk3).trans rfl;have C2:=(cell_of_row w3 w.heap.size 2 _ _ _ hk3).trans rfl;have hg3:=grown_trans hg2 g3;clear hg1 hg2 hB2 ht2 ht3 g3;go_wp2;obtain ⟨b1,b2⟩:=store3 w3 w.heap.size _ _ (.int .i64 t.pos) (.float .f64 x) (.string ⟨#[]⟩) hk3 rfl;refine bodyPost_ret (results_cell_row (ty := 59) (p:=2) rfl _ _ w.heap.size _ _ _ _ rfl b1 Tryz.underlying59 rfl (by kernel_rfl)) rfl ?_;exact ⟨rfl,h3.kept b2 fun q e=>by injection e with e; omega,grown_into hg3 b2⟩
 ·have hR:R=(PArg.no,s1):=by have:=HR.out; rw [if_neg h0] at this; exact this
  subst hR;clear hd;obtain ⟨_,v,_,hb⟩:=id h1;have c3:=(cell_of_row w1 rb 3 _ _ _ hb).trans rfl;have e0:((s1.er:Int) != 0)=true:=by simp; omega
  have hlt1:=h1.lt;have F0:=not_frozen hk 0;have F1:=not_frozen hk 1;have F2:=not_frozen hk 2;have C0:=(cell_of_row w1 w.heap.size 0 _ _ _ hk).trans rfl;have C1:=(cell_of_row w1 w.heap.size 1 _ _ _ hk).trans rfl;have C2:=(cell_of_row w1 w.heap.size 2 _ _ _ hk).trans rfl;clear hb hr hn;go_wp2;obtain ⟨b1,b2⟩:=store3 w1 w.heap.size _ _ (.int .i64 0) (.float .f64 0) (.string ⟨#[]⟩) hk rfl;refine bodyPost_ret (results_cell_row (ty := 59) (p:=2) rfl _ _ w.heap.size _ _ _ _ rfl ((World.heap_alloc_lt' _ _ _ (by simpa using hsz)).trans b1) Tryz.underlying59 rfl (by kernel_rfl)) rfl ?_;exact ⟨rfl,(h1.kept b2 fun q e=>by injection e with e; omega).alloc _,grown_trans (grown_into hg1 b2) (World.grownBy_alloc _ _ _)⟩
end Go.Proofs.YtcbgkbidgpemfaaGreatDoor.parw
