/- The chapter's examples, in plain words. No conditions. -/
import Derived.Test.YtcbgkbidgpemfaaGreatDoorMf00
import Derived.Test.YtcbgkbidgpemfaaGreatDoorMf37
import Derived.Test.YtcbgkbidgpemfaaGreatDoorMf13
import Derived.Test.YtcbgkbidgpemfaaGreatDoorMf09
import Derived.Test.YtcbgkbidgpemfaaGreatDoorMf14
import Derived.Test.YtcbgkbidgpemfaaGreatDoorMf29
import Derived.Test.YtcbgkbidgpemfaaGreatDoorRows
import Derived.Lib.LaidU8
import Derived.LaidMore
import Derived.ChangeArms
import Derived.Deep.Slices
import Derived.Below
import Derived.ChangeSame
namespace Go.Proofs.YtcbgkbidgpemfaaGreatDoor
set_option maxRecDepth 100000
set_option maxHeartbeats 4000000
namespace flatw
open Go.RowKit Go.Shelf
open nodew
open chkw
open flatm
def lamN:Nd:=⟨1,[4602678819172646912,4602678819172646912,4602678819172646912,0,0,0,0,0,0,0,0,0,0,0,0,0],0,0⟩
def mixN (b:Int):Nd:=⟨5,[0,0,0,0,0,0,0,0,0,0,0,0,0,0,0,4602678819172646912],0,b⟩
def plsN:Nd:=⟨3,[0,0,0,0,0,0,0,0,0,0,0,0,0,4607182418800017408,4609434218613702656,0],0,0⟩
def exP:List Nd:=[lamN,lamN,plsN,mixN 1]
theorem ex_right:rightP exP=true:=by kernel_rfl
theorem ex_nil:rightP []=false:=by kernel_rfl
theorem ex_one:rightP [lamN]=true:=by kernel_rfl
theorem ex_flat:flatP exP=[lamN,mixN 0]:=by kernel_rfl
theorem ex_used:usedP exP=[0,1,3]:=by kernel_rfl
theorem ex_dep:depP exP 3=2:=by kernel_rfl
theorem ex_dep1:depP [lamN] 0=1:=by kernel_rfl
theorem lam_ok:lamN.ok:=⟨rfl,by decide⟩
theorem pls_ok:plsN.ok:=⟨rfl,by decide⟩
theorem mix_ok (b:Int):(mixN b).ok:=⟨rfl,by
 intro v hv;simp only [mixN,List.mem_cons,List.not_mem_nil,or_false] at hv;omega⟩
theorem ex_ok:∀ n∈exP,n.ok:=by
 intro n hn;simp only [exP,List.mem_cons,List.not_mem_nil,or_false] at hn
 rcases hn with rfl | rfl | rfl | rfl
 ·exact lam_ok
 ·exact lam_ok
 ·exact pls_ok
 ·exact mix_ok 1
theorem bld_arr (w:World):(Instr.build 47 #[(0,.float .f64 4602678819172646912),(1,.float .f64 4602678819172646912),(2,.float .f64 4602678819172646912)]).run Tryz.prog w = .ok (.agg #[.float .f64 4602678819172646912,.float .f64 4602678819172646912,.float .f64 4602678819172646912]) w:=by kernel_rfl
theorem bld_lam (w:World):(Instr.build 49 #[(0,.int .u8 1),(1,.agg #[.float .f64 4602678819172646912,.float .f64 4602678819172646912,.float .f64 4602678819172646912])]).run Tryz.prog w = .ok lamN.val w:=by kernel_rfl
theorem bld_mix (w:World):(Instr.build 49 #[(0,.int .u8 5),(8,.float .f64 4602678819172646912),(9,.int .i64 0),(10,.int .i64 1)]).run Tryz.prog w = .ok (mixN 1).val w:=by kernel_rfl
theorem bld_pls (w:World):(Instr.build 49 #[(0,.int .u8 3),(6,.float .f64 4607182418800017408),(7,.float .f64 4609434218613702656)]).run Tryz.prog w = .ok plsN.val w:=by kernel_rfl
theorem bs4_run (w:World):(Instr.buildSlice 34 4 #[(0,lamN.val),(1,lamN.val),(2,plsN.val),(3,(mixN 1).val)]).run Tryz.prog w = .ok (.slice (some ⟨w.heap.size,0,none⟩) 4 4) (w.alloc (.cells (ncells exP).toArray 49)):=by kernel_rfl
theorem bs2_run (w:World):(Instr.buildSlice 34 2 #[(0,lamN.val),(1,(mixN 0).val)]).run Tryz.prog w = .ok (.slice (some ⟨w.heap.size,0,none⟩) 2 2) (w.alloc (.cells (ncells [lamN,mixN 0]).toArray 49)):=by kernel_rfl
theorem bs3_run (w:World):(Instr.buildSlice 42 3 #[(0,.int .i64 0),(1,.int .i64 1),(2,.int .i64 3)]).run Tryz.prog w = .ok (.slice (some ⟨w.heap.size,0,none⟩) 3 3) (w.alloc (.cells (intsV [0,1,3]).toArray 3)):=by kernel_rfl
theorem exec_bs4 {o:Oper} (x0 x1 x2 x3:Operand) (ho:o.op = .buildSlice 34 4 #[(0,x0),(1,x1),(2,x2),(3,x3)]) {a:Act} {w:World} (h0:a.eval x0=lamN.val) (h1:a.eval x1=lamN.val) (h2:a.eval x2=plsN.val) (h3:a.eval x3=(mixN 1).val) :
  (execOp a.eval o).run Tryz.prog w = .ok (.value (.slice (some ⟨w.heap.size,0,none⟩) 4 4)) (w.alloc (.cells (ncells exP).toArray 49)):=by
 unfold execOp;simp only [ho,Sem.run_bind,List.map_toArray,List.map_cons,List.map_nil,h0,h1,h2,h3,bs4_run,Result.andThen_ok,Sem.run_pure]
theorem exec_bs2 {o:Oper} (x0 x1:Operand) (ho:o.op = .buildSlice 34 2 #[(0,x0),(1,x1)]) {a:Act} {w:World} (h0:a.eval x0=lamN.val) (h1:a.eval x1=(mixN 0).val) :
  (execOp a.eval o).run Tryz.prog w = .ok (.value (.slice (some ⟨w.heap.size,0,none⟩) 2 2)) (w.alloc (.cells (ncells [lamN,mixN 0]).toArray 49)):=by
 unfold execOp;simp only [ho,Sem.run_bind,List.map_toArray,List.map_cons,List.map_nil,h0,h1,bs2_run,Result.andThen_ok,Sem.run_pure]
theorem exec_bs3 {o:Oper} (ho:o.op = .buildSlice 42 3 #[(0,.const (.int .i64 0)),(1,.const (.int .i64 1)),(2,.const (.int .i64 3))]) {a:Act} {w:World} :
  (execOp a.eval o).run Tryz.prog w = .ok (.value (.slice (some ⟨w.heap.size,0,none⟩) 3 3)) (w.alloc (.cells (intsV [0,1,3]).toArray 3)):=by
 unfold execOp;simp only [ho,Sem.run_bind,List.map_toArray,List.map_cons,List.map_nil,Act.eval,bs3_run,Result.andThen_ok,Sem.run_pure]
end flatw

/- awake: the chapter's examples hold. No conditions. -/
namespace flatw
open Go.RowKit Go.Shelf
open nodew
open chkw
open flatm
attribute [local go_sem] bld_arr bld_lam bld_mix bld_pls
theorem nil_arg (W:World):NArg W W.heap.size (.slice none 0 0) []:=⟨none,0,rfl,Nat.le_refl _,fun _=>rfl,fun h=>absurd rfl h⟩
theorem nfirst {W:World} {B:Nat} {A:Addr} (h:NArg W B (.slice (some A) 4 4) exP):NArg W B (.slice (some A) 1 4) [lamN]:=by
 obtain ⟨A',c,hv,hc,hn,hx⟩:=h;obtain ⟨g,off,hA,h1,h2,h3⟩:=hx (by unfold exP; simp);injection hv with e1 e2 e3;subst e1 e3;refine ⟨_,4,rfl,by simp,(fun e=>by cases e),fun _=>⟨g,off,hA,h1,h2,fun j u hu=>h3 j u ?_⟩⟩;have hj:j<19:=by have:=(List.getElem?_eq_some_iff.1 hu).1; rw [ncells_len] at this; simpa using this
 have he:ncells exP=ncells [lamN] ++ ncells [lamN,plsN,mixN 1]:=rfl;rw [he,List.getElem?_append_left (by rw [ncells_len]; simpa using hj)];exact hu
theorem awake20 (w:World):Calls Tryz.prog 14 #[] w (TruePost w):=by
 obtain ⟨W1,hW1⟩:∃ W1,W1=w.alloc (.cells lamN.cells.toArray 49):=⟨_,rfl⟩;obtain ⟨W2,hW2⟩:∃ W2,W2=W1.alloc (.cells (mixN 1).cells.toArray 49):=⟨_,rfl⟩;obtain ⟨W3,hW3⟩:∃ W3,W3=W2.alloc (.cells (ncells exP).toArray 49):=⟨_,rfl⟩;have z1:W1.heap.size=w.heap.size+1:=by rw [hW1]; simp
 have n1:NBlk W1 w.heap.size lamN:=by rw [hW1]; exact heap_alloc_new w _
 have n12:NBlk W2 w.heap.size lamN:=by rw [hW2]; exact (Below.heap_alloc _ _ _ (by omega)).trans n1
 have n2:NBlk W2 (w.heap.size+1) (mixN 1):=by rw [hW2]; exact heap_at _ _ _ z1
 have z2:W2.heap.size=w.heap.size+1+1:=by rw [hW2]; simp [z1]
 have z3:W3.heap.size=w.heap.size+1+1+1:=by rw [hW3]; simp [z2]
 have n13:NBlk W3 w.heap.size lamN:=by rw [hW3]; exact (Below.heap_alloc _ _ _ (by omega)).trans n12
 have n23:NBlk W3 (w.heap.size+1) (mixN 1):=by rw [hW3]; exact (Below.heap_alloc _ _ _ (by omega)).trans n2
 have hB3:Below w.heap.size w W3:=by rw [hW3,hW2,hW1]; exact (((Below.refl _ _).alloc (Nat.le_refl _) _).alloc (by simp) _).alloc (by simp; omega) _
 have hown:W3.ownsRow w.heap.size 49 19 (.slice (some ⟨w.heap.size+1+1,0,none⟩) 4 4) 4 (ncells exP):=by
  rw [hW3]; exact own_new W2 (w.heap.size+1+1) w.heap.size z2 (by omega) _ 19 4 (ncells exP) rfl (by decide)
 have N12:=Yd n12;have N2:=Yd n2;have Z:=Yd (And.intro z1 (And.intro z2 z3));have N13:=Yd n13;have N23:=Yd n23;have HB3:=Yd hB3;have HOWN:=Yd hown;clear n1 n12 n2 z1 z2 z3 n13 n23 hB3 hown;go_enter Tryz.func14,Tryz.ntmps14;go_upto_region 3 with (first | (rw [<- hW1]) | (rw [<- hW2]) | (rw [<- hW3]) | (refine wl_alloc_nd rfl rfl ?_) | (refine wl_store_new rfl (.tmp 1) (.tmp 13) rfl lamN rfl rfl ?_) | (refine wl_store_new rfl (.tmp 2) (.tmp 14) rfl (mixN 1) rfl rfl ?_) | (refine wl_load_nd rfl (.tmp 1) rfl (.pointer (some ⟨w.heap.size,0,none⟩)) rfl lamN N12.out.loadAt ?_) | (refine wl_load_nd rfl (.tmp 2) rfl (.pointer (some ⟨w.heap.size+1,0,none⟩)) rfl (mixN 1) N2.out.loadAt ?_));clear hW1 hW2;have z1:=Z.out.1;rw [z1];clear z1;simp only [Act.put,List.setIfInBounds_toArray,List.set_cons_succ,List.set_cons_zero];go_upto_region 4 with (first | (rw [<- hW3]) | (refine wl_load_nd rfl (.tmp 1) rfl (.pointer (some ⟨w.heap.size,0,none⟩)) rfl lamN N12.out.loadAt ?_) | (refine wl_load_nd rfl (.tmp 2) rfl (.pointer (some ⟨w.heap.size+1,0,none⟩)) rfl (mixN 1) N2.out.loadAt ?_) | (refine wl_val rfl _ (exec_bs4 (.tmp 15) (.tmp 16) (.tmp 17) (.tmp 18) rfl rfl rfl rfl rfl) ?_));clear hW3;have z2:=Z.out.2.1;rw [z2];clear z2;have hn3:NArg W3 W3.heap.size (.slice (some ⟨w.heap.size+1+1,0,none⟩) 4 4) exP:=NArg.of_own HOWN.out;have HN3:=Yd hn3;have hf:=flat_any exP ex_ok ex_right _ W3 hn3;rw [ex_flat] at hf;have HF:=Yd hf;clear hn3 hf;go_wp2_with fail
 (with_reducible refine HF.out.mono ?_)
 rintro e W4 ⟨v4,rfl,ho4,hB4⟩;have hd:=depth_any exP ex_ok ex_right _ W4 ((HN3.out.ext hB4).mono hB4.size);rw [show exP.length-1=3 from rfl,ex_dep] at hd;have HO4:=Yd ho4;have HB4:=Yd hB4;have HD:=Yd hd;clear ho4 hB4 hd HF;go_wp2_with fail
 (with_reducible refine HD.out.mono ?_)
 rintro e W5 ⟨rfl,hB5⟩;have hB35:=HB4.out.trans (hB5.mono HB4.out.size);have H45:=Yd hB5;have hf:=flat_no [] (fun n h=>by cases h) (by simp) ex_nil _ W5 (nil_arg W5);have HB5:=Yd hB35;have HF:=Yd hf;clear hB5 hB35 hf HD;go_wp2_with fail
 (with_reducible refine HF.out.mono ?_)
 rintro e W6 ⟨rfl,hB6⟩;have hB36:=HB5.out.trans (hB6.mono HB5.out.size);have H46:=Yd (H45.out.trans (hB6.mono H45.out.size));have hd:=depth_any [lamN] (fun n h=>by obtain rfl:=List.mem_singleton.1 h; exact lam_ok) ex_one _ W6 (nfirst ((HN3.out.ext hB36).mono hB36.size));rw [show [lamN].length-1=0 from rfl,ex_dep1] at hd;have HB6:=Yd hB36;have HD:=Yd hd;clear hB6 hB36 hd HF HB5;go_wp2_with fail
 (with_reducible refine HD.out.mono ?_)
 rintro e W7 ⟨rfl,hB7⟩;have hB37:=HB6.out.trans (hB7.mono HB6.out.size);have H47:=H46.out.trans (hB7.mono H46.out.size);have hz3:=Z.out.2.2;have n17:NBlk W7 w.heap.size lamN:=(hB37.block _ (by omega)).trans N13.out;have n27:NBlk W7 (w.heap.size+1) (mixN 1):=(hB37.block _ (by omega)).trans N23.out;obtain ⟨W8,hW8⟩:∃ W8,W8=W7.setCell ⟨w.heap.size+1,18,none⟩ (.int .i64 0):=⟨_,rfl⟩;have g8:W7.grownBy W8 (some (w.heap.size+1)):=by rw [hW8]; exact set_keep _ _ _ _ (Array.getElem?_eq_some_iff.1 n27).1
 have n28:NBlk W8 (w.heap.size+1) (mixN 0):=by rw [hW8]; exact nblk_store n27 18 _ rfl
 have n18:NBlk W8 w.heap.size lamN:=(g8.block _ (by have:=hB37.size; omega) (by intro e; injection e; omega)).trans n17;have g38:W3.grownBy W8 (some (w.heap.size+1)):=grown_trans (grown_below hB37 _) g8;have g48:W4.grownBy W8 (some (w.heap.size+1)):=grown_trans (grown_below H47 _) g8;have hn8:NArg W8 W8.heap.size (.slice (some ⟨w.heap.size+1+1,0,none⟩) 4 4) exP:=NArg.of_own (HOWN.out.kept g38 (.inr (by show some (w.heap.size+1+1)≠_; intro e; injection e with e; omega)));have ho8:=HO4.out.kept g48 (by
  cases hv:v4.ownBlock with
  | none=>exact .inl rfl
  | some g=>exact .inr fun e=>by have:=(HO4.out.lt g hv).1; injection e with e; omega)
 have hB8:Below w.heap.size w W8:=HB3.out.grown g38 (by omega) (fun r e=>by injection e with e; omega);have hu:=used_any exP ex_ok (by decide) _ W8 hn8;rw [ex_used] at hu;have c18:W7.cell? ⟨w.heap.size+1,18,none⟩=some (.int .i64 1):=(n27.cell 18).trans rfl;have f18:=nblk_frozen n27 18;have HN28:=Yd n28;have HN18:=Yd n18;have HO8:=Yd ho8;have HB8:=Yd hB8;have HU:=Yd hu;clear H47 hz3 n17 n27 g8 n28 n18 g38 g48 hn8 ho8 hB8 hu hB7 hB37 HB6 HD HN3 HOWN HO4;go_wp2_with (rw [<- hW8])
 (with_reducible refine HU.out.mono ?_)
 rintro e W9 ⟨v9,rfl,ho9,hB9⟩;obtain ⟨WX,hWX⟩:∃ WX,WX=W9.alloc (.cells (intsV [0,1,3]).toArray 3):=⟨_,rfl⟩;have hBX:Below W9.heap.size W9 WX:=by rw [hWX]; exact (Below.refl _ _).alloc (Nat.le_refl _) _
 have hr9:IRead WX v9 [0,1,3]:=(IRead.of_own ho9).ext hBX;have hrX:IRead WX (.slice (some ⟨W9.heap.size,0,none⟩) 3 3) [0,1,3]:=IRead.of_own (base:=0) (by
  rw [hWX]; exact own_new W9 W9.heap.size 0 rfl (Nat.zero_le _) _ 1 3 (intsV [0,1,3]) rfl (by decide))
 have hi:=ints_eq v9 _ [0,1,3] (by decide) WX hr9 hrX;have hB8X:=hB9.trans (hBX.mono hB9.size);have HI:=Yd hi;have HB8X:=Yd hB8X;clear ho9 hB9 hBX hr9 hrX hi hB8X HU c18 f18 hW8;go_wp2_with (first | (rw [<- hWX]) | (refine wl_val rfl _ (exec_bs3 rfl) ?_))
 (with_reducible refine HI.out.mono ?_)
 rintro e WY ⟨rfl,hBY⟩;have hB8Y:=HB8X.out.trans (hBY.mono HB8X.out.size);have n1Y:NBlk WY w.heap.size lamN:=(hB8Y.block _ (Array.getElem?_eq_some_iff.1 HN18.out).1).trans HN18.out;have n2Y:NBlk WY (w.heap.size+1) (mixN 0):=(hB8Y.block _ (Array.getElem?_eq_some_iff.1 HN28.out).1).trans HN28.out;obtain ⟨WZ,hWZ⟩:∃ WZ,WZ=WY.alloc (.cells (ncells [lamN,mixN 0]).toArray 49):=⟨_,rfl⟩;have hBZ:Below WY.heap.size WY WZ:=by rw [hWZ]; exact (Below.refl _ _).alloc (Nat.le_refl _) _
 have hB8Z:=hB8Y.trans (hBZ.mono hB8Y.size);have hrZ:NRead WZ WZ.heap.size (.slice (some ⟨WY.heap.size,0,none⟩) 2 2) [lamN,mixN 0]:=NRead.of_own (base:=0) (by
  rw [hWZ]; exact own_new WY WY.heap.size 0 rfl (Nat.zero_le _) _ 19 2 (ncells [lamN,mixN 0]) rfl (by decide))
 have hr4:NRead WZ WZ.heap.size v4 [lamN,mixN 0]:=(((NArg.of_own HO8.out).ext hB8Z).mono hB8Z.size).read;have hs:=same18_eq WZ.heap.size v4 _ [lamN,mixN 0] (by decide) WZ hr4 hrZ (Nat.le_refl _);have HS:=Yd hs;have HB8Z:=Yd hB8Z;have HN1:=Yd n1Y;have HN2:=Yd n2Y;clear hBY hB8Y n1Y n2Y hBZ hB8Z hrZ hr4 hs HI HB8X HN18 HN28 HO8 hWX;go_wp2_with (first | (rw [<- hWZ]) | (refine wpList_load_nd_g _ ?_ (.tmp 1) rfl w.heap.size rfl lamN HN1.out ?_; rotate_right) | (refine wpList_load_nd_g _ ?_ (.tmp 2) rfl (w.heap.size+1) rfl (mixN 0) HN2.out ?_; rotate_right) | (refine wl_val_g ?_ _ (exec_bs2 (.tmp 47) (.tmp 48) rfl rfl rfl) ?_; rotate_right))
 (with_reducible refine HS.out.mono ?_)
 rintro e WW ⟨rfl,hBW⟩;have hBw:=HB8.out.trans ((HB8Z.out.trans (hBW.mono HB8Z.out.size)).mono HB8.out.size);have HBW:=Yd hBw;clear hBW hBw HS HB8Z hWZ;go_wp2_with fail;go_ret;exact ⟨rfl,HBW.out⟩
end flatw

/- The walk of burnishlaw20.FlatTells. Conditions: the nodes lie in memory; three of strconv's variables hold what the program's text lays. -/
namespace tfw
open Go.RowKit
open nodew hiding pt
open chkw
open flatm
open flatw
open parw (PStmt parseRes)
open flow (Laid Laid.stable)
open bkr
def FlatPost (w:World) (q:List Nd) (er:Int) (e:Ending) (w':World):Prop :=
 ∃ v',e = .returned (.tuple #[v',.int .i64 er])∧w'.ownsRow w.heap.size 49 19 v' q.length (ncells q)∧Below w.heap.size w w'
theorem btrans {a b c:World} (h:Below a.heap.size a b) (k:Below b.heap.size b c):Below a.heap.size a c:=h.trans (k.mono h.size)
theorem nr_ext {W u:World} {base:Nat} {v:Value} {l:List Nd} (o:W.ownsRow base 49 19 v l.length (ncells l)) (h:Below W.heap.size W u):NRead u u.heap.size v l:=chkw.NRead.mono (chkw.NRead.ext (NRead.of_own o) h) h.size
theorem rflat_no (l:List Nd) (hok:∀ n∈l,n.ok) (hll:l.length <= 1000000000000) (hr:rightP l=false) (v:Value) (w:World) (hn:NArg w w.heap.size v l) :
  Calls Tryz.prog 16 #[v] w (NoPost w):=by
 have hrt:=refright_any w.heap.size v l hok hll w hn.read (Nat.le_refl _);obtain ⟨A,c,rfl⟩:=hn.form;rw [hr] at hrt;have HRT:=Yd hrt;clear hrt hn hok hr;go_enter Tryz.func16,Tryz.ntmps16;go_wp2_with (go_at_call 39; (with_reducible refine HRT.out.mono ?_); rintro e w' ⟨rfl,hB⟩; have HB:=Yd hB; clear hB);go_ret2;exact ⟨rfl,HB.out⟩
theorem rdepth_no (l:List Nd) (hok:∀ n∈l,n.ok) (hll:l.length <= 1000000000000) (hr:rightP l=false) (v:Value) (w:World) (hn:NArg w w.heap.size v l) :
  Calls Tryz.prog 18 #[v] w (DepPost w 0 190):=by
 have hrt:=refright_any w.heap.size v l hok hll w hn.read (Nat.le_refl _);obtain ⟨A,c,rfl⟩:=hn.form;rw [hr] at hrt;have HRT:=Yd hrt;clear hrt hn hok hr;go_enter Tryz.func18,Tryz.ntmps18;go_wp2_with (go_at_call 39; (with_reducible refine HRT.out.mono ?_); rintro e w' ⟨rfl,hB⟩; have HB:=Yd hB; clear hB);go_ret2;exact ⟨rfl,HB.out⟩
theorem no_flat {w:World} {x:Ending} {w':World} (h:NoPost w x w'):FlatPost w [] 190 x w':=⟨_,h.1,World.ownsRow_nil _ _ _ _,h.2⟩
theorem flats (l:List Nd) (hok:∀ n∈l,n.ok) (hll:l.length <= 1000000000000):∃ (q:List Nd) (er:Int),q.length <= 4096∧(∀ v u,NArg u u.heap.size v l -> Calls Tryz.prog 15 #[v] u (FlatPost u q er)) ∧
  (∀ v u,NArg u u.heap.size v l -> Calls Tryz.prog 16 #[v] u (FlatPost u q er)):=by
 cases hr:rightP l with
 | true =>
  have hord:=ord_len hr;have h4:=(right_nodes hr).2.2;refine ⟨flatP l,0,?_,fun v u h=>flat_any l hok hr v u h,fun v u h=>rflat_any l hok hr v u h⟩;have hfl:flatP l=((ordP l).foldl (stepF (nth l)) ⟨fun _=>0,[]⟩).out:=by unfold flatP endP; rw [ordP_eq hr]
  have:=flatm.fold_len (nth l) (ordP l) ⟨fun _=>0,[]⟩;rw [hfl];simp only [List.length_nil] at this;omega
 | false=>exact ⟨[],190,Nat.zero_le _,fun v u h=>(flat_no l hok hll hr v u h).mono fun e w' h=>no_flat h,fun v u h=>(rflat_no l hok hll hr v u h).mono fun e w' h=>no_flat h⟩
theorem depths (l:List Nd) (hok:∀ n∈l,n.ok) (hll:l.length <= 1000000000000):∃ d er:Int,(∀ v u,NArg u u.heap.size v l -> Calls Tryz.prog 17 #[v] u (DepPost u d er)) ∧
  (∀ v u,NArg u u.heap.size v l -> Calls Tryz.prog 18 #[v] u (DepPost u d er)):=by
 cases hr:rightP l with
 | true=>exact ⟨_,0,fun v u h=>depth_any l hok hr v u h,fun v u h=>rdepth_any l hok hr v u h⟩
 | false=>exact ⟨0,190,fun v u h=>depth_no l hok hll hr v u h,fun v u h=>rdepth_no l hok hll hr v u h⟩
theorem used_len (l:List Nd):(usedP l).length <= 4096:=by
 unfold usedP
 cases hr:rightP l with
 | true =>
  rw [if_pos rfl];have:=ord_len hr;have:=(right_nodes hr).2.2;omega
 | false =>
  rw [if_neg (by simp)];exact Nat.zero_le _
theorem check_len (l:List PStmt):(checkS l).1.length <= l.length:=by
 by_cases hz:(checkS l).2.2=0
 ·rw [(checkS_front l hz).2.2.1];exact Nat.le_refl _
 ·rw [checkS_bad l hz];exact Nat.zero_le _
theorem read_len (s:ByteArray) (hs:s.size <= 1000):(readL s.data.toList).1.length <= 1002:=by
 have hl:s.data.toList.length=s.size:=by simp
 have x5:=(lex_facts s.data.toList).2.2.2.2.1;unfold readL
 split
 ·split
  ·have h1:=check_len (parseRes flow.decE ((lexm.lexRes s.data.toList).1.map pt)).1;have h2:=res_short flow.decE ((lexm.lexRes s.data.toList).1.map pt);rw [List.length_map] at h2;exact Nat.le_trans h1 (by omega)
  ·exact Nat.zero_le _
 ·exact Nat.zero_le _
theorem ftells_any (B:Nat) (v:Value) (l:List Nd) (hok:∀ n∈l,n.ok) (s:ByteArray) (w:World) (hw:Laid B w) (hn:NArg w w.heap.size v l) (hB:B <= w.heap.size) :
  Calls Tryz.prog 4 #[v,.string s] w (TruePost w):=by
 obtain ⟨A,c,rfl⟩:=hn.form;have HNA:=Yd (fun (u:World) (hu:Below w.heap.size w u)=>(hn.ext hu).mono hu.size);have HST:=Yd (fun (u:World) (hu:Below w.heap.size w u)=>laid_below hw hu);have HOK:=Yd hok;have HBB:=Yd hB;clear hn hw hok hB
 by_cases hbig:60<l.length
 ·have d1:decide (60<l.length)=true:=decide_eq_true hbig;have d2:(60:Int)<(l.length:Int):=by omega
  go_enter Tryz.func4,Tryz.ntmps4;go_wp2_with (go_at_call 14; (with_reducible refine (awake20 _).mono ?_); rintro e w4 ⟨rfl,hw4⟩; have HB4:=Yd hw4; clear hw4);go_ret;exact ⟨rfl,HB4.out⟩
 have d1:decide (60<l.length)=false:=decide_eq_false hbig;have d2:¬ (60:Int)<(l.length:Int):=by omega
 by_cases hlong:1000<s.size
 ·have d3:decide (1000<s.size)=true:=decide_eq_true hlong;have d4:(1000:Int)<(s.size:Int):=by omega
  go_enter Tryz.func4,Tryz.ntmps4;go_wp2_with (go_at_call 14; (with_reducible refine (awake20 _).mono ?_); rintro e w4 ⟨rfl,hw4⟩; have HB4:=Yd hw4; clear hw4);go_ret;exact ⟨rfl,HB4.out⟩
 have d3:decide (1000<s.size)=false:=decide_eq_false hlong;have d4:¬ (1000:Int)<(s.size:Int):=by omega
 obtain ⟨q,er,hq,f1,f2⟩:=flats l HOK.out (by omega);obtain ⟨d,ed,e1,e2⟩:=depths l HOK.out (by omega);have HF1:=Yd (fun (u:World) (hu:Below w.heap.size w u)=>f1 _ u (HNA.out u hu));have HF2:=Yd (fun (u:World) (hu:Below w.heap.size w u)=>f2 _ u (HNA.out u hu));have HE1:=Yd (fun (u:World) (hu:Below w.heap.size w u)=>e1 _ u (HNA.out u hu));have HE2:=Yd (fun (u:World) (hu:Below w.heap.size w u)=>e2 _ u (HNA.out u hu));have HR1:=Yd (fun (u:World) (hu:Below w.heap.size w u)=>Read_any B s (by omega) u (HST.out u hu) (Nat.le_trans HBB.out hu.size));have HR2:=Yd (fun (u:World)=>refread_any s (by omega) u);have HU1:=Yd (fun (u:World) (hu:Below w.heap.size w u)=>used_any l HOK.out (by omega) _ u (HNA.out u hu));have HU2:=Yd (fun (u:World) (hu:Below w.heap.size w u)=>rused_any l HOK.out (by omega) _ u (HNA.out u hu));have hrl:=read_len s (by omega);have hul:=used_len l;obtain ⟨R,hR⟩:∃ R,readL s.data.toList=R:=⟨_,rfl⟩;obtain ⟨U,hU⟩:∃ U,usedP l=U:=⟨_,rfl⟩;rw [hR] at HR1 HR2 hrl;rw [hU] at HU1 HU2 hul;obtain ⟨Rl,Rp,Re⟩:=R;clear hR hU f1 f2 e1 e2;go_enter Tryz.func4,Tryz.ntmps4;go_wp2_with (first
  | (go_at_call 15; (with_reducible refine (HF1.out _ (Below.refl _ _)).mono ?_); rintro e w1 ⟨v1,rfl,o1,b1⟩; have O1:=Yd o1; have A1:=Yd b1; clear o1 b1)
  | (go_at_call 16; (with_reducible refine (HF2.out _ A1.out).mono ?_); rintro e w2 ⟨v2,rfl,o2,b2⟩; have O2:=Yd o2; have B2:=Yd b2; have A2:=Yd (btrans A1.out b2); clear o2 b2)
  | (go_at_call 17; (with_reducible refine (HE1.out _ A2.out).mono ?_); rintro e w3 ⟨rfl,b3⟩; have B3:=Yd b3; have A3:=Yd (btrans A2.out b3); clear b3)
  | (go_at_call 18; (with_reducible refine (HE2.out _ A3.out).mono ?_); rintro e w4 ⟨rfl,b4⟩; have B4:=Yd b4; have A4:=Yd (btrans A3.out b4); clear b4)
  | (go_at_call 19; (with_reducible refine (HR1.out _ A4.out).mono ?_); rintro e w5 ⟨v5,rfl,o5,b5⟩; have O5:=Yd o5; have B5:=Yd b5; have A5:=Yd (btrans A4.out b5); clear o5 b5)
  | (go_at_call 20; (with_reducible refine (HR2.out _).mono ?_); rintro e w6 ⟨v6,rfl,o6,b6⟩; have O6:=Yd o6; have B6:=Yd b6; have A6:=Yd (btrans A5.out b6); clear o6 b6)
  | (go_at_call 22; (with_reducible refine (HU1.out _ A6.out).mono ?_); rintro e w7 ⟨v7,rfl,o7,b7⟩; have O7:=Yd o7; have B7:=Yd b7; have A7:=Yd (btrans A6.out b7); clear o7 b7)
  | (go_at_call 23; (with_reducible refine (HU2.out _ A7.out).mono ?_); rintro e w8 ⟨v8,rfl,o8,b8⟩; have O8:=Yd o8; have B8:=Yd b8; have A8:=Yd (btrans A7.out b8); clear o8 b8)
  | (go_at_call 21; (with_reducible refine (ints_eq v7 v8 U (by omega) w8 ((IRead.of_own O7.out).ext B8.out) (IRead.of_own O8.out)).mono ?_); rintro e w9 ⟨rfl,b9⟩; have B9:=Yd b9; have A9:=Yd (btrans A8.out b9); clear b9)
  | (go_at_call 24; (with_reducible refine (same18_eq w9.heap.size v1 v2 q (by omega) w9 (nr_ext O1.out (btrans B2.out (btrans B3.out (btrans B4.out (btrans B5.out (btrans B6.out (btrans B7.out (btrans B8.out B9.out)))))))) (nr_ext O2.out (btrans B3.out (btrans B4.out (btrans B5.out (btrans B6.out (btrans B7.out (btrans B8.out B9.out))))))) (Nat.le_refl _)).mono ?_); rintro e wa ⟨rfl,ba⟩; have BA:=Yd ba; have AA:=Yd (btrans A9.out ba); clear ba)
  | (go_at_call 24; (with_reducible refine (same18_eq wa.heap.size v5 v6 Rl (by have h:Rl.length <= 1002:=hrl; omega) wa (nr_ext O5.out (btrans B6.out (btrans B7.out (btrans B8.out (btrans B9.out BA.out))))) (nr_ext O6.out (btrans B7.out (btrans B8.out (btrans B9.out BA.out)))) (Nat.le_refl _)).mono ?_); rintro e wb ⟨rfl,bb⟩; have BB:=Yd bb; have AB:=Yd (btrans AA.out bb); clear bb)
  | (go_at_call 14; (with_reducible refine (awake20 _).mono ?_); rintro e wc ⟨rfl,bc⟩; have AC:=Yd (btrans AB.out bc); clear bc))
 go_ret;exact ⟨rfl,AC.out⟩
end tfw

/- What the listed variables hold, out of the row's condition. No condition. -/
namespace flow
open Go.RowKit
open parw
open rdf
open dcw
open dmx
open fpm
open prnw
section
variable {H:Type} {enc:TypeId × Value -> H} {P:Program} {w:World} {base:Nat} {sp:Nat -> Bool} {held:Bool}
theorem trod_float {fuel:Nat} {t:TypeId} {cs:List Value} {k:FloatKind} {x:DataW H × List MemPlace} (ht:P.underlying t=some (.float k)) (h:DataW.trod enc P w base sp held fuel t cs=some x):∃ n,cs=[.float k n]∧x=(.lit (.float k n),[]):=by
 cases fuel with
 | zero=>simp [DataW.trod] at h
 | succ n =>
  unfold DataW.trod at h;rw [ht] at h
  split at h <;> simp_all
theorem trod_face {fuel:Nat} {t:TypeId} {ms:Array (String × TypeId)} {cs:List Value} {x:DataW H × List MemPlace} (ht:P.underlying t=some (.interface ms)) (h:DataW.trod enc P w base sp held fuel t cs=some x):∃ v,cs=[v]∧(v = .nilIface ∨ ∃ te pe,v = .iface te pe):=by
 cases fuel with
 | zero=>simp [DataW.trod] at h
 | succ n =>
  unfold DataW.trod at h;rw [ht] at h
  split at h <;> simp_all
theorem open_rows {t e:TypeId} {k fuel:Nat} {cs:List Value} {ds:List (DataW H)} {p:List MemPlace} (ht:P.underlying t=some (.slice e)) (hc:P.cellsOf e=k) (hk:0<k) (h0:0<ds.length)
  (h:DataW.trod enc P w base sp held fuel t cs=some (.slice ds [],p)) :
  ∃ g off cap,cs=[.slice (some ⟨g,off,none⟩) ds.length cap]∧g<w.heap.size ∧ ∀ i d,ds[i]? = some d -> ∃ us n q,us.length=k∧(∀ j u,us[j]? = some u -> w.cell? ⟨g,off+(i*k+j),none⟩=some u)∧DataW.trod enc P w base sp held n e us=some (d,q):=by
 rcases DataW.trod_slice ht h with ⟨_,hx⟩ | ⟨a,len,cap,elems,rest,n,_,hcs,hx,_,hl,_,hlen,hel,_⟩
 ·simp at hx
 ·simp only [Prod.mk.injEq,DataW.slice.injEq] at hx;obtain ⟨⟨rfl,_⟩,_⟩:=hx;have el:(elems.map (·.1)).length=len:=by simpa using hlen
  have key:∀ i d,(elems.map (·.1))[i]? = some d -> ∃ us q,us.length=k∧(∀ j u,us[j]? = some u -> w.cell? (a.add (i*k+j))=some u)∧DataW.trod enc P w base sp held n e us=some (d,q):=fun i d hd=>by
   rw [List.getElem?_map,Option.map_eq_some_iff] at hd;obtain ⟨⟨d',q⟩,hd,rfl⟩:=hd;have hil:i<len:=by
    have:=(List.getElem?_eq_some_iff.1 hd).1;omega
   have hi:=hel i hil;rw [hd,hc,Option.bind_eq_some_iff] at hi;obtain ⟨us,hus,htr⟩:=hi;obtain ⟨_,hcl,hat⟩:=World.cells?_some hus;refine ⟨us,q,hcl,fun j u hu => ?_,htr⟩;have hj:j<k:=by have:=(List.getElem?_eq_some_iff.1 hu).1; omega
   have:=hat j hj;rw [Go.Deep.add_add] at this;rw [this,hu]
  obtain ⟨d0,hd0⟩:∃ d0,(elems.map (·.1))[0]? = some d0:=⟨_,List.getElem?_eq_getElem h0⟩;obtain ⟨us0,q0,hu0,hat0,_⟩:=key 0 d0 hd0;have hc0:=hat0 0 _ (List.getElem?_eq_getElem (by omega));have ha0:a.add (0*k+0)=a:=by unfold Addr.add; simp
  rw [ha0] at hc0;obtain ⟨g,off,spot⟩:=a;have hspot:spot=none:=by
   cases spot with
   | none=>rfl
   | some p=>unfold World.cell? at hc0; split at hc0 <;> simp at hc0
  subst hspot;refine ⟨g,off,cap,by rw [hcs,el],World.block_lt_of_cell? w _ hc0,fun i d hd => ?_⟩;obtain ⟨us,q,h1,h2,h3⟩:=key i d hd;refine ⟨us,n,q,h1,fun j u hu => ?_,h3⟩;have:=h2 j u hu;have hadd:(⟨g,off,none⟩:Addr).add (i*k+j)=⟨g,off+(i*k+j),none⟩:=by unfold Addr.add; split <;> simp_all
  rwa [hadd] at this
end
def cheatB (k:Nat):Bool :=
 let r:=Go.Pinned.cheatRows.getD k (0,[])
 let c:=r.2.length
 decide (r.1=k+1-c) && decide (c <= k) && decide (10 ^ c <= 10*5 ^ k) && decide (5 ^ k<10 ^ c) && (List.range c).all (fun j=>decide ((r.2.getD j 0).toNat=48+5 ^ k / 10 ^ (c-1-j) % 10))
theorem cheats_ok:(List.range 60).all (fun k=>cheatB (k+1))=true:=by kernel_rfl
theorem cheats_len:Go.Pinned.cheatRows.length=61:=by kernel_rfl
theorem powtab_ok:(Rows.laid_internal_strconv_powtab (H:=Unit)) = .slice ((List.range 9).map fun k => .lit (.int .i64 (powT k:Nat))) []:=by kernel_rfl
theorem pow10_ok:(Rows.laid_internal_strconv_float64pow10 (H:=Unit)) = .slice ((List.range 23).map fun k => .lit (.float .f64 (p10 k))) []:=by kernel_rfl
theorem laid_of (L:List (String × DataW Unit)) (W:World) (h:laidMet Tryz.prog L W) (m1:("internal/strconv.optimize",Rows.laid_internal_strconv_optimize)∈L) (m2:("internal/strconv.float64info",Rows.laid_internal_strconv_float64info)∈L)
  (m3:("internal/strconv.float64pow10",Rows.laid_internal_strconv_float64pow10)∈L) (m4:("internal/strconv.powtab",Rows.laid_internal_strconv_powtab)∈L) (m5:("strconv.ErrRange",Rows.laid_strconv_ErrRange)∈L)
  (m6:("internal/strconv.leftcheats",Rows.laid_internal_strconv_leftcheats)∈L) (m7:("internal/strconv.pow10Tab",Rows.laid_internal_strconv_pow10Tab)∈L):Laid W.heap.size W:=by
 obtain ⟨g1,t1,cs1,f1,p1,hg1,ht1,hv1,hd1⟩:=Lib.laidMet.reads h m1;obtain ⟨g2,t2,cs2,f2,p2,hg2,ht2,hv2,hd2⟩:=Lib.laidMet.reads h m2;obtain ⟨g3,t3,cs3,f3,p3,hg3,ht3,hv3,hd3⟩:=Lib.laidMet.reads h m3;obtain ⟨g4,t4,cs4,f4,p4,hg4,ht4,hv4,hd4⟩:=Lib.laidMet.reads h m4;obtain ⟨g5,t5,cs5,f5,p5,hg5,ht5,hv5,hd5⟩:=Lib.laidMet.reads h m5;obtain ⟨g6,t6,cs6,f6,p6,hg6,ht6,hv6,hd6⟩:=Lib.laidMet.reads h m6;obtain ⟨g7,t7,cs7,f7,p7,hg7,ht7,hv7,hd7⟩:=Lib.laidMet.reads h m7;obtain rfl:=Option.some.inj ((show Tryz.prog.globalNamed "internal/strconv.optimize" = some 2 by kernel_rfl).symm.trans hg1);obtain rfl:=Option.some.inj ((show Tryz.prog.globalNamed "internal/strconv.float64info" = some 11 by kernel_rfl).symm.trans hg2);obtain rfl:=Option.some.inj ((show Tryz.prog.globalNamed "internal/strconv.float64pow10" = some 16 by kernel_rfl).symm.trans hg3);obtain rfl:=Option.some.inj ((show Tryz.prog.globalNamed "internal/strconv.powtab" = some 15 by kernel_rfl).symm.trans hg4);obtain rfl:=Option.some.inj ((show Tryz.prog.globalNamed "strconv.ErrRange" = some 4 by kernel_rfl).symm.trans hg5);obtain rfl:=Option.some.inj ((show Tryz.prog.globalNamed "internal/strconv.leftcheats" = some 9 by kernel_rfl).symm.trans hg6);obtain rfl:=Option.some.inj ((show Tryz.prog.globalNamed "internal/strconv.pow10Tab" = some 8 by kernel_rfl).symm.trans hg7);obtain rfl:=Option.some.inj ((show (Tryz.prog.globals[2]?).map (·.type)=some 4 by kernel_rfl).symm.trans ht1);obtain rfl:=Option.some.inj ((show (Tryz.prog.globals[11]?).map (·.type)=some 292 by kernel_rfl).symm.trans ht2);obtain rfl:=Option.some.inj ((show (Tryz.prog.globals[16]?).map (·.type)=some 86 by kernel_rfl).symm.trans ht3);obtain rfl:=Option.some.inj ((show (Tryz.prog.globals[15]?).map (·.type)=some 42 by kernel_rfl).symm.trans ht4);obtain rfl:=Option.some.inj ((show (Tryz.prog.globals[4]?).map (·.type)=some 96 by kernel_rfl).symm.trans ht5);obtain rfl:=Option.some.inj ((show (Tryz.prog.globals[9]?).map (·.type)=some 283 by kernel_rfl).symm.trans ht6);obtain rfl:=Option.some.inj ((show (Tryz.prog.globals[8]?).map (·.type)=some 278 by kernel_rfl).symm.trans ht7);have k1:W.cell? ⟨2,0,none⟩=some (.bool true):=by
  obtain ⟨b,hb,hx⟩:=DataW.trod_bool Tryz.underlying4 hd1;have:b=true:=by
   have:=congrArg Prod.fst hx;simp [Rows.laid_internal_strconv_optimize] at this;exact this
  subst this;rw [World.var?_cell hg1 hv1 0];have:cs1[0]? = cs1.toList[0]?:=by simp
  rw [this,hb]; rfl
 have k2:W.cell? ⟨11,0,none⟩=some (.int .u64 52)∧W.cell? ⟨11,1,none⟩=some (.int .u64 11)∧W.cell? ⟨11,2,none⟩=some (.int .i64 (-1023)):=by
  obtain ⟨xs,n,_,hx,hlen,hn,hf⟩:=DataW.trod_struct Tryz.underlying292 hd2;have hx1:=congrArg Prod.fst hx;simp only [Rows.laid_internal_strconv_float64info,DataW.agg.injEq] at hx1;have hc3 : Tryz.prog.cellsOf 292 = 3:=by kernel_rfl
  have hcu : Tryz.prog.cellsOf 191 = 1:=by kernel_rfl
  have hci : Tryz.prog.cellsOf 3 = 1:=by kernel_rfl
  rw [hc3] at hlen;have hl:∀ j,j<3 -> cs2[j]? = cs2.toList[j]?:=fun j _=>by simp
  obtain ⟨cl,hcl⟩:∃ cl,cs2.toList=cl:=⟨_,rfl⟩;rw [hcl] at hlen hf
  match cl,hlen,xs,hx1 with
  | [c0,c1,c2],_,[y0,y1,y2],hx1 =>
   simp only [List.map_cons,List.map_nil,List.cons.injEq,and_true] at hx1;have h0:=hf 0 _ rfl;change DataW.trod _ Tryz.prog W 0 _ false n 191 ((List.drop 0 [c0,c1,c2]).take (Tryz.prog.cellsOf 191))=some y0 at h0;rw [hcu] at h0;have h1:=hf 1 _ rfl;change DataW.trod _ Tryz.prog W 0 _ false n 191 ((List.drop 1 [c0,c1,c2]).take (Tryz.prog.cellsOf 191))=some y1 at h1;rw [hcu] at h1;have h2:=hf 2 _ rfl;change DataW.trod _ Tryz.prog W 0 _ false n 3 ((List.drop 2 [c0,c1,c2]).take (Tryz.prog.cellsOf 3))=some y2 at h2;rw [hci] at h2;obtain ⟨z0,e0,f0,_⟩:=DataW.trod_int Tryz.underlying191 h0;obtain ⟨z1,e1,f1,_⟩:=DataW.trod_int Tryz.underlying191 h1;obtain ⟨z2,e2,f2,_⟩:=DataW.trod_int Tryz.underlying3 h2;rw [f0,f1,f2] at hx1;have q0:z0=52:=by simpa using hx1.1.symm
   have q1:z1=11:=by simpa using hx1.2.1.symm
   have q2:z2 = -1023:=by simpa using hx1.2.2.symm
   have r0:c0 = .int .u64 z0:=by simpa using e0
   have r1:c1 = .int .u64 z1:=by simpa using e1
   have r2:c2 = .int .i64 z2:=by simpa using e2
   refine ⟨?_,?_,?_⟩
   ·rw [World.var?_cell hg2 hv2 0,hl 0 (by omega),hcl,r0,q0]; rfl
   ·rw [World.var?_cell hg2 hv2 1,hl 1 (by omega),hcl,r1,q1]; rfl
   ·rw [World.var?_cell hg2 hv2 2,hl 2 (by omega),hcl,r2,q2]; rfl
 have k3:FT W.heap.size W:=by
  rw [pow10_ok] at hd3;obtain ⟨g,off,cap,hcs,hg,hel⟩:=open_rows (k:=1) Tryz.underlying86 (by kernel_rfl) (by omega) (by decide) hd3;have c3:W.cell? ⟨16,0,none⟩=some (.slice (some ⟨g,off,none⟩) 23 cap):=by
   rw [World.var?_cell hg3 hv3 0];have:cs3[0]? = cs3.toList[0]?:=by simp
   rw [this,hcs];rfl
  refine ⟨World.block_lt_of_cell? W _ c3,g,off,cap,hg,c3,fun k hk => ?_⟩;obtain ⟨us,n,q,h1,h2,h3⟩:=hel k (.lit (.float .f64 (p10 k))) (by rw [List.getElem?_map,List.getElem?_range (by omega)]; rfl);obtain ⟨z,hz,hx⟩:=trod_float Tryz.underlying46 h3;have hz':z=p10 k:=by
   have:=congrArg Prod.fst hx;simpa using this.symm
  have:=h2 0 (.float .f64 z) (by rw [hz]; rfl);rw [hz'] at this;rw [<- this];congr 2;omega
 have k4:∃ bb bo cap,bb<W.heap.size∧W.cell? ⟨15,0,none⟩=some (.slice (some ⟨bb,bo,none⟩) 9 cap) ∧ ∀ d,d <= 8 -> W.cell? ⟨bb,bo+d,none⟩=some (.int .i64 (powT d:Nat)):=by
  rw [powtab_ok] at hd4;obtain ⟨g,off,cap,hcs,hg,hel⟩:=open_rows (k:=1) Tryz.underlying42 (by kernel_rfl) (by omega) (by decide) hd4;have c4:W.cell? ⟨15,0,none⟩=some (.slice (some ⟨g,off,none⟩) 9 cap):=by
   rw [World.var?_cell hg4 hv4 0];have:cs4[0]? = cs4.toList[0]?:=by simp
   rw [this,hcs];rfl
  refine ⟨g,off,cap,hg,c4,fun k hk => ?_⟩;obtain ⟨us,n,q,h1,h2,h3⟩:=hel k (.lit (.int .i64 (powT k:Nat))) (by rw [List.getElem?_map,List.getElem?_range (by omega)]; rfl);obtain ⟨z,hz,hx,_⟩:=DataW.trod_int Tryz.underlying3 h3;have hz':z=(powT k:Nat):=by
   have:=congrArg Prod.fst hx;simpa using this.symm
  have:=h2 0 (.int .i64 z) (by rw [hz]; rfl);rw [hz'] at this;rw [<- this];congr 2;omega
 have k5:∃ v,W.cell? ⟨4,0,none⟩=some v∧(v = .nilIface ∨ ∃ te pe,v = .iface te pe):=by
  obtain ⟨v,hv,hx⟩:=trod_face Tryz.underlying96 hd5;refine ⟨v,?_,hx⟩;rw [World.var?_cell hg5 hv5 0];have:cs5[0]? = cs5.toList[0]?:=by simp
  rw [this,hv];rfl
 have k6:LC W.heap.size W:=by
  have hd6':DataW.trod _ Tryz.prog W 0 _ false f6 283 cs6.toList=some (.slice (Go.Pinned.cheatRows.map fun x => .agg [.lit (.int .i64 x.1),.lit (.string x.2)]) [],p6):=hd6;have hl0:(Go.Pinned.cheatRows.map fun x=>(DataW.agg [.lit (.int .i64 x.1),.lit (.string x.2)]:DataW Unit)).length=61:=by rw [List.length_map,cheats_len]
  obtain ⟨g,off,cap,hcs,hg,hel⟩:=open_rows (k:=2) Tryz.underlying283 (by kernel_rfl) (by omega) (by rw [hl0]; decide) hd6';rw [hl0] at hcs;have c6:W.cell? ⟨9,0,none⟩=some (.slice (some ⟨g,off,none⟩) 61 cap):=by
   rw [World.var?_cell hg6 hv6 0];have:cs6[0]? = cs6.toList[0]?:=by simp
   rw [this,hcs];rfl
  refine ⟨World.block_lt_of_cell? W _ c6,g,off,cap,hg,c6,fun k hk1 hk => ?_⟩;have hb:=List.all_eq_true.1 cheats_ok (k-1) (List.mem_range.2 (by omega));rw [show k-1+1=k by omega] at hb;unfold cheatB at hb;obtain ⟨⟨x1,x2⟩,hx⟩:∃ x,Go.Pinned.cheatRows.getD k (0,[])=x:=⟨_,rfl⟩;have hk61:k<Go.Pinned.cheatRows.length:=by rw [cheats_len]; omega
  have hget:Go.Pinned.cheatRows[k]? = some (x1,x2):=by
   rw [<- hx,List.getD_eq_getElem?_getD,List.getElem?_eq_getElem hk61];rfl
  simp only [hx,Bool.and_eq_true,decide_eq_true_eq] at hb;obtain ⟨⟨⟨⟨b1,b2⟩,b3⟩,b4⟩,b5⟩:=hb;obtain ⟨us,n,q,h1,h2,h3⟩:=hel k _ (by rw [List.getElem?_map,hget]; rfl);obtain ⟨xs,m,_,hxx,hlen,hn,hf⟩:=DataW.trod_struct Tryz.underlying282 h3;have hx1:=congrArg Prod.fst hxx;simp only [DataW.agg.injEq] at hx1;have hci : Tryz.prog.cellsOf 3 = 1:=by kernel_rfl
  have hcs1 : Tryz.prog.cellsOf 9 = 1:=by kernel_rfl
  match us,h1,xs,hx1 with
  | [u0,u1],_,[y0,y1],hx1 =>
   simp only [List.map_cons,List.map_nil,List.cons.injEq,and_true] at hx1;have h30:=hf 0 _ rfl;change DataW.trod _ Tryz.prog W 0 _ false m 3 ((List.drop 0 [u0,u1]).take (Tryz.prog.cellsOf 3))=some y0 at h30;rw [hci] at h30;have h31:=hf 1 _ rfl;change DataW.trod _ Tryz.prog W 0 _ false m 9 ((List.drop 1 [u0,u1]).take (Tryz.prog.cellsOf 9))=some y1 at h31;rw [hcs1] at h31;obtain ⟨z0,e0,f0,_⟩:=DataW.trod_int Tryz.underlying3 h30;obtain ⟨s1,e1,f1,_⟩:=DataW.trod_string Tryz.underlying9 h31;rw [f0,f1] at hx1;have q0:z0=((x1:Nat):Int):=by simpa using hx1.1.symm
   have q1:s1.data.toList=x2:=by simpa using hx1.2.symm
   have r0:u0 = .int .i64 z0:=by simpa using e0
   have r1:u1 = .string s1:=by simpa using e1
   have hsz:s1.size=x2.length:=by rw [<- q1]; simp
   refine ⟨x2.length,s1,?_,?_,⟨hsz,fun j hj => ?_⟩,b3,b4,b2⟩
   ·have:=h2 0 _ rfl;rw [r0,q0,b1] at this;exact this
   ·have:=h2 1 _ rfl;rw [r1] at this;exact this
   ·have hb5:=List.all_eq_true.1 b5 j (List.mem_range.2 (by omega));have hb6:=of_decide_eq_true hb5;have e:s1[j]=x2.getD j 0:=by
     rw [<- q1,List.getD_eq_getElem?_getD,List.getElem?_eq_getElem (by simpa using hj)];rfl
    rw [e];exact hb6
 have k7:PT hiT loT W:=fun i hi=>by
  obtain ⟨f',d,q,hd,he⟩:=Lib.array_elem Tryz.underlying278 hd7 i hi;have hlen:Go.Pinned.pow10Rows.length=696:=by kernel_rfl
  have hr:Go.Pinned.pow10Rows[i]? = some (hiT i,loT i):=by
   have:i<Go.Pinned.pow10Rows.length:=by rw [hlen]; exact hi
   unfold hiT loT;rw [List.getD_eq_getElem?_getD,List.getElem?_eq_getElem this];rfl
  rw [List.getElem?_map,hr] at hd;obtain rfl:=(Option.some.inj hd).symm;obtain ⟨r1,r2,r3,_⟩:=row_spec i hi;have hz:=Lib.ints_of_struct (zs:=[(hiT i:Int),(loT i:Int)]) (k:=.u64) Tryz.underlying277 (fun j f hf => ?_) (by kernel_rfl) he
  ·have hc2 : Tryz.prog.cellsOf 277 = 2:=by kernel_rfl
   rw [hc2] at hz;have c0:cs7[i*2]? = some (.int .u64 (hiT i:Int)):=by
    have:=congrArg (·[0]?) hz;simpa [List.getElem?_take,List.getElem?_drop] using this
   have c1:cs7[i*2+1]? = some (.int .u64 (loT i:Int)):=by
    have:=congrArg (·[1]?) hz;simpa [List.getElem?_take,List.getElem?_drop] using this
   exact ⟨r2,r3,by rw [World.var?_cell hg7 hv7 (i*2)]; exact c0,by rw [World.var?_cell hg7 hv7 (i*2+1)]; exact c1⟩
  ·match j,hf with
   | 0,hf=>obtain rfl:=Option.some.inj hf; exact ⟨Tryz.underlying109,rfl,by kernel_rfl⟩
   | 1,hf=>obtain rfl:=Option.some.inj hf; exact ⟨Tryz.underlying109,rfl,by kernel_rfl⟩
   | k+2,hf=>cases hf
 obtain ⟨bb,bo,cap,n1,n2,n3⟩:=k4;obtain ⟨v5,v51,v52⟩:=k5;exact ⟨⟨⟨k6,World.block_lt_of_cell? W _ k2.1,k2.1,k2.2.1,k2.2.2,World.block_lt_of_cell? W _ n2,bb,bo,cap,n1,n2,n3⟩,k3,k7,World.block_lt_of_cell? W _ (k7 0 (by decide)).2.2.1,World.block_lt_of_cell? W _ k1,k1,Nat.le_refl _⟩,World.block_lt_of_cell? W _ v51,v5,v51,v52⟩
end flow

/- A small lemma for every law of this seat: what has only grown is as the row asks. Its text is the guide's (extra-small), as the guide bids to copy it. -/
namespace post
open Go.RowKit Go.WideShapes Go.ChangeShapes
section
variable {H:Type} {enc:TypeId × Value -> H} {P:Program}
theorem post_of_below {f:Func} {s:ChangeSpec} {apart fresh handsOn again:Bool} {W W':World} {args:Array Value} {v:Value} {ds gs:List (DataW H)} {before pa pv:List MemPlace}
  (hW:DataW.Whole enc P f.params.toList s.vars apart W args.toList ds gs before)
  (hres:∀ (b:Nat) (sp:Nat -> Bool) (hd:Bool),DataW.TrodAll enc P W' b sp hd f.resultTypes.toList (v.resultList f.resultTypes.size) (s.fn H (ds ++ gs)).results [])
  (hargs:∀ sp:Nat -> Bool,(∀ p∈before,sp p.block=true) -> DataW.TrodAll enc P W' 0 sp true f.params.toList args.toList (s.fn H (ds ++ gs)).args pa)
  (hvars:∀ sp:Nat -> Bool,(∀ p∈before,sp p.block=true) -> DataW.TrodVars enc P W' sp s.vars (s.fn H (ds ++ gs)).vars pv)
  (hps:before=pa ++ pv) (hb:Below W.heap.size W W')
  (hok:∀ (j:Nat) (t:TypeId) (r:Value),f.resultTypes[j]? = some t -> (v.resultList f.resultTypes.size)[j]? = some r -> Value.okWide P W' .any 0 t r) :
  s.post enc P f apart fresh handsOn again W args v W':=by
 have hlt:∀ p∈before,p.block<W.heap.size:=fun p hp=>hW.lt p hp;have hold:∀ p∈before,(fun b=>decide (b<W.heap.size)) p.block=true:=fun p hp=>by simpa using hlt p hp
 refine ⟨ds,gs,before,[],pa,pv,hW,hres _ _ _,hargs _ hold,hvars _ hold,World.keptBut_mono (fun p hp=>⟨hp,?_⟩) (hb.frame (· ∈ before)),fun _ => ?_⟩
 ·rw [hps,List.mem_append] at hp;exact Or.inr hp
 ·obtain ⟨_,_,_,_,_,hz,hn⟩:=hW;refine ⟨hok,_,_,([] ++ pa) ++ pv,⟨[] ++ pa,pv,trodAll_append (hargs _ (fun _ _=>rfl)) (hres _ _ _),hvars _ (fun _ _=>rfl),rfl,?_,?_⟩,?_⟩
  ·intro b off hp;have hin:MemPlace.cell b off∈before:=by rw [hps]; simpa using hp
   rw [hb.frozen (hlt _ hin)];exact hz b off hin
  ·intro ha;have:=hn ha;rw [hps] at this;simpa using this
  ·intro p hp _;rw [hps];simpa using hp
end
end post
end Go.Proofs.YtcbgkbidgpemfaaGreatDoor
