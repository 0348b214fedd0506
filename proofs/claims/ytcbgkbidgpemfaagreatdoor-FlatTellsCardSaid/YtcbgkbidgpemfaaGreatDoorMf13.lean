/- Flat: its answer is flatP. UNDER WAY. -/
import Derived.Test.YtcbgkbidgpemfaaGreatDoorMf00
import Derived.Test.YtcbgkbidgpemfaaGreatDoorMf12
import Derived.Sort.CutIn
namespace Go.Proofs.YtcbgkbidgpemfaaGreatDoor
set_option maxRecDepth 100000
set_option maxHeartbeats 4000000
namespace flatw
open Go.RowKit Go.Shelf
open nodew
open chkw
open flatm
attribute [local go_sem] Oper.semAt_some
theorem mk_map (w:World):(Instr.makeMap 73 none).run Tryz.prog w = .ok (.map (some w.heap.size)) (w.alloc (.map #[] 0)):=by
 simp [Instr.makeMap,go_sem]
theorem flat_any (l:List Nd) (hok:∀ n∈l,n.ok) (hr:rightP l=true) (v:Value) (w:World) (hn:NArg w w.heap.size v l) :
  Calls Tryz.prog 15 #[v] w fun e w'=>∃ v',e = .returned (.tuple #[v',.int .i64 0])∧w'.ownsRow w.heap.size 49 19 v' (flatP l).length (ncells (flatP l))∧Below w.heap.size w w':=by
 obtain ⟨_,h0,h4⟩:=right_nodes hr;rw [<- callsIn_wide (n:=3)];obtain ⟨A,c,rfl⟩:=hn.form;have HN:=Yd hn;have HOK:=Yd hok;have HR:=Yd hr;clear hn hok hr;obtain ⟨W1,hW1⟩:∃ W1,W1=w.alloc (.cells #[.slice A l.length c] 34):=⟨_,rfl⟩;have hb1:Boxed W1 w.heap.size 34 (.slice A l.length c):=by rw [hW1]; exact Boxed.new w _ _
 have hB1:Below w.heap.size w W1:=by rw [hW1]; exact (Below.refl _ w).alloc (Nat.le_refl _) _
 have hrt:=right_any w.heap.size _ l HOK.out (by omega) W1 ((HN.out.ext hB1).read) hB1.size;rw [HR.out] at hrt;have HRT:=Yd hrt;have cp1:=hb1.cell;have cp1r:=cp1;rw [hW1] at cp1r;clear hrt;refine callsIn_of_wp_marks Tryz.func15 rfl trivial ?_ rfl;simp only [Tryz.ntmps15,List.size_toArray,List.length_cons,List.length_nil,Nat.reduceAdd,Nat.reduceSub,Array.replicate_succ,Array.replicate_zero,List.push_toArray,List.append_toArray,List.nil_append,List.cons_append]
 gi_wp2_with (rw [<- hW1])
 refine ⟨trivial,(callsIn_wide.2 HRT.out).mono ?_⟩;rintro e W2 ⟨rfl,hBr⟩;have hB2:Below w.heap.size w W2:=hB1.trans (hBr.mono hB1.size);have hb2:Boxed W2 w.heap.size 34 (.slice A l.length c):=(hBr.block _ hb1.lt).trans hb1;obtain ⟨s,hs⟩:∃ s,s=W2.heap.size:=⟨_,rfl⟩;have hsz:w.heap.size<s:=by rw [hs]; exact hb2.lt
 obtain ⟨W3,hW3⟩:∃ W3,W3=(W2.alloc (.map #[] 0)).alloc (.cells #[.map (some s)] 73):=⟨_,rfl⟩;have z3:W3.heap.size=s+1+1:=by rw [hW3,hs]; simp
 have hb3:Boxed W3 w.heap.size 34 (.slice A l.length c):=by rw [hW3]; exact (hb2.alloc _).alloc _
 have hmm:(Instr.makeMap 73 none).run Tryz.prog W2 = .ok (.map (some s)) (W2.alloc (.map #[] 0)):=by rw [hs]; exact mk_map W2
 have hmk:(Instr.makeSlice 42 (.int .i64 l.length) (.int .i64 l.length)).run Tryz.prog W3 = .ok (.slice (some ⟨s+1+1,0,none⟩) l.length l.length) (W3.alloc (.cells (toA l.length fun _=>0) 3)):=by
  rw [<- z3]; exact mk_int l.length h4 W3
 have cp2:=hb2.cell;have cp3:=hb3.cell;have cp3r:=cp3;rw [hW3] at cp3r;have cp3s:=cp3r;rw [hs] at cp3s;have hmkr:=hmk;rw [hW3] at hmkr;have hmks:=hmkr;rw [hs] at hmks;obtain ⟨W4,hW4⟩:∃ W4,W4=((W3.alloc (.cells (toA l.length fun _=>0) 3)).alloc (.cells #[.slice (some ⟨s+1+1,0,none⟩) l.length l.length] 42)).alloc (.cells #[.slice none 0 0] 34):=⟨_,rfl⟩;have z4:W4.heap.size=s+1+1+1+1+1:=by rw [hW4]; simp; omega
 have hb4:Boxed W4 w.heap.size 34 (.slice A l.length c):=by rw [hW4]; exact ((hb3.alloc _).alloc _).alloc _
 have cp4:=hb4.cell;have cp4r:=cp4;rw [hW4] at cp4r;have cp4s:=cp4r;rw [hW3] at cp4s;have cp4t:=cp4s;rw [hs] at cp4t;clear hBr hB1 hb1 cp1 cp1r hW1 HRT
 gi_wp2_with (first | (rw [<- hs]) | (rw [<- hW4]) | (rw [<- hW3]))
 refine ⟨trivial,(needed_in _ A l.length c W4).mono ?_⟩;rintro e W5 ⟨rfl,hW5⟩;rw [z4];have m3:W3.heap[s]? = some (.map #[] 0):=by rw [hW3,Below.heap_alloc _ _ _ (by simp; omega)]; exact heap_at _ _ _ hs.symm
 have m4:Boxed W3 (s+1) 73 (.map (some s)):=by unfold Boxed; rw [hW3]; exact heap_at _ _ _ (by simp; omega)
 have t4:W4.heap[s+1+1]? = some (.cells (toA l.length fun _=>0) 3 (0,0)):=by
  rw [hW4,Below.heap_alloc _ _ _ (by simp; omega),Below.heap_alloc _ _ _ (by simp; omega)];exact heap_at _ _ _ z3
 have q4:Boxed W4 (s+1+1+1) 42 (.slice (some ⟨s+1+1,0,none⟩) l.length l.length):=by
  unfold Boxed;rw [hW4,Below.heap_alloc _ _ _ (by simp; omega)];exact heap_at _ _ _ (by simp; omega)
 have o4:Boxed W4 (s+1+1+1+1) 34 (.slice none 0 0):=by unfold Boxed; rw [hW4]; exact heap_at _ _ _ (by simp; omega)
 have g34:W3.grownBy W4 none:=by rw [hW4]; exact grown_trans (grown_trans (World.grownBy_alloc _ _ none) (World.grownBy_alloc _ _ none)) (World.grownBy_alloc _ _ none)
 have g45:W4.grownBy W5 none:=by rw [hW5]; exact World.grownBy_alloc _ _ none
 have g35:=grown_trans g34 g45;have hB3:Below w.heap.size w W3:=by rw [hW3]; exact (hB2.alloc hB2.size _).alloc (by simp; have:=hB2.size; omega) _
 have hB5:Below w.heap.size w W5:=hB3.grown g35 (by omega) (fun r e=>by cases e);have p5:Boxed W5 (s+1+1+1+1+1) 34 (.slice A l.length c):=by unfold Boxed; rw [hW5]; exact heap_at _ _ _ z4
 have z5:W5.heap.size=s+1+1+1+1+1+1:=by rw [hW5,World.size_alloc,z4]
 have hF5:FSt w.heap.size w.heap.size s (s+1) (s+1+1) (s+1+1+1) (s+1+1+1+1) l.length (.slice A l.length c) w ⟨fun _=>0,[]⟩ W5 :=
  ⟨⟨_,o4.kept g45 (by simp),World.ownsRow_nil _ _ _ _⟩,hb3.kept g35 (by simp),⟨#[],0,(g35.block s (by omega) (by simp)).trans m3,rfl⟩,m4.kept g35 (by simp),(g45.block _ (by omega) (by simp)).trans t4,q4.kept g45 (by simp),hB5⟩
 have HF5:=Yd hF5;have HB5:=Yd hB5;have HP5:=Yd p5;have HS:=Yd hs;have HO5:=Yd (o4.kept g45 (by simp));have Z5:=Yd z5;clear hF5 hB5 p5 g35 g45 g34 o4 q4 t4 m4 m3 hW5 cp4 cp4r cp4s cp4t hmks hmkr cp3 cp3r cp3s cp2 hmk hmm hW4 hW3 hb4 hb3 hb2 hB2 hB3 z3 z4 z5 hs
 gi_wp2_with fail
 have hpl:(s+1+1+1+1+1)<W5.heap.size:=HP5.out.lt;refine range_seq (by omega) (footFS w.heap.size w.heap.size s (s+1) (s+1+1) (s+1+1+1) (s+1+1+1+1) l.length (.slice A l.length c) w l ⟨fun _=>0,[]⟩ (Nat.le_refl _) (Nat.le_refl _) (by omega) (by omega) (by omega) (by omega) (by omega))
  (fun pre W k o o' h hk ho hr hr'=>h.put (Nat.le_refl _) (Nat.le_trans HB5.out.size hk) ho hr) (fun W k o o' ho hr hr' i hi=>footF_put ho hr hr' i hi) l h0 h4 (right_ac HR.out) (kidsI_right HR.out) (s+1+1+1+1+1) (.slice A l.length c) HB5.out.size HP5.out ?_ (HN.out.ext HB5.out) HF5.out rfl
  (fun x:Nat=>{ tmps:=#[.slice A l.length c,.pointer (some ⟨w.heap.size,0,none⟩),.slice none 0 0,.int .i64 0,.pointer (some ⟨s+1,0,none⟩),.pointer (some ⟨s+1+1+1,0,none⟩),.pointer (some ⟨s+1+1+1+1,0,none⟩),.int .i64 x,undef,undef,undef,undef,.slice A l.length c,.bool true,.bool false,.map (some s),.slice A l.length c,.int .i64 l.length,.slice (some ⟨s+1+1,0,none⟩) l.length l.length,.slice A l.length c,.func (.func 64) #[] #[.pointer (some ⟨s+1+1+1+1+1,0,none⟩)],.int .i64 x,undef,undef,undef,undef,undef,undef,undef,undef,undef,undef,undef,undef,undef,undef,undef,undef,undef,undef,undef,undef,undef,undef,undef,undef,undef,undef,undef,undef,undef,undef,undef,undef,undef,undef,undef,undef,undef,undef,undef,undef,undef,undef,undef,undef,undef,undef],defers:=[] }) ?_ ?_ ?_
 ·obtain ⟨u,hu,ho⟩:=HF5.out.row;have hnil:W5.cell? ⟨s+1+1+1+1,0,none⟩=some (.slice none 0 0):=HO5.out.cell;rintro ((e | ⟨u,hu,hf⟩) | e | e | e | e | e)
  ·omega
  ·rw [hnil] at hu;obtain rfl:=Option.some.inj hu
   cases hf
  all_goals omega
 ·intro lb m x W K hK
  gi_wp2
  exact hK
 ·intro lb m pre x W hI hx hpre;obtain ⟨st,hst⟩:∃ st,pre.foldl (stepF (nth l)) ⟨fun _=>0,[]⟩=st:=⟨_,rfl⟩;have hst2:(pre ++ [x]).foldl (stepF (nth l)) ⟨fun _=>0,[]⟩=stepF (nth l) st x:=by rw [List.foldl_append,hst]; rfl
  have hplen:pre.length<4096:=by
   have h1:=hpre.length_le;have h2:=(ord_len HR.out).2.1;simp at h1;omega
  have hol:st.out.length <= pre.length:=by rw [<- hst]; have:=fold_len (nth l) pre ⟨fun _=>0,[]⟩; simpa using this
  have hpx:∀ y∈pre,y<l.length:=fun y hy=>(ord_len HR.out).2.2 y (hpre.subset (List.mem_append.2 (.inl hy)));have hrt:∀ q∈st.out,Nd.rt q:=by rw [<- hst]; exact fold_rt (nth l) pre _ (fun y hy=>nth_rt HR.out HOK.out (hpx y hy)) (fun q hq=>by cases hq)
  rw [hst] at hI;have hB:=hI.below;obtain ⟨g,off,hA,hgB,hgl,hcl⟩:∃ g off,A=some ⟨g,off,none⟩∧g<w.heap.size∧g<W.heap.size ∧ ∀ j u,(ncells l)[j]? = some u -> W.cell? ⟨g,off+j,none⟩=some u:=by
   obtain ⟨A',c',hv,_,_,hc⟩:=HN.out.ext hB;injection hv with e1 _ _;subst e1;exact hc (by intro e; rw [e] at hx; simp at hx)
  subst hA;have hld:=(NRead.at (B:=w.heap.size) (g:=g) (off:=off) (W:=W) (l:=l) (k:=x) (fun _=>⟨g,off,rfl,hgB,hgl,hcl⟩) hx).2 W rfl;have hnx:l[x]=nth l x:=by unfold nth; simp [hx]
  rw [hnx] at hld;obtain ⟨nd,hnd⟩:∃ nd,nth l x=nd:=⟨_,rfl⟩;rw [hnd] at hld;have hki:=kidsI_right HR.out x hx;have hkl:=right_ac HR.out x hx;have hndrt:=nth_rt HR.out HOK.out hx;rw [hnd] at hki hkl hndrt;have c1:=hI.h1.cell;have x0:(0:Int) <= (x:Int):=by omega
  have xi:(x:Int)<(l.length:Int):=by omega
  obtain ⟨Wa,hWa⟩:∃ Wa,Wa=W.alloc (.cells nd.cells.toArray 49):=⟨_,rfl⟩;have hna:NBlk Wa W.heap.size nd:=by rw [hWa]; exact heap_alloc_new W _
  have hga:W.grownBy Wa none:=by rw [hWa]; exact World.grownBy_alloc W _ none
  have hza:Wa.heap.size=W.heap.size+1:=by rw [hWa]; simp
  have hbl:=below_any nd Wa;have HLD:=Yd hld;have HNA:=Yd hna;have HGA:=Yd hga;have HBL:=Yd hbl;have HI:=Yd hI;have HKI:=Yd hki;have HKL:=Yd hkl;have HRT:=Yd hrt;have HNR:=Yd hndrt;have HST:=Yd hst2;have HZA:=Yd hza;clear hst hst2 hpx hrt hB hgB hgl hcl hld hnx hki hkl hna hga hbl hI hndrt hpre hza
  gi_wp2_with (first | (rw [<- hWa]) | (refine wli_load rfl (.tmp 24) rfl (.pointer (some ⟨g,off+x*19,none⟩)) rfl nd HLD.out ?_) | (refine wli_alloc rfl rfl ?_) | (refine wli_store_new rfl (.tmp 8) (.tmp 25) rfl nd rfl rfl ?_) | (refine wli_load rfl (.tmp 8) rfl (.pointer (some ⟨W.heap.size,0,none⟩)) rfl nd HNA.out.loadAt ?_))
  have hbc:CallsIn (Fence.wide.inRound lb) (m-1) Tryz.prog 38 #[nd.val] Wa (BelowPost Wa nd):=(callsIn_wide (n:=m-1)).2 HBL.out;refine ⟨trivial,fun h=>(by cases h),hbc.mono ?_⟩;rintro e Wb ⟨vb,rfl,hIA,hBb,_⟩;obtain ⟨A2,rfl,_⟩:=hIA.uni;have hgb:W.grownBy Wb none:=grown_trans HGA.out (grown_below hBb none);have hnb:NBlk Wb W.heap.size nd:=(hBb.block _ (by have:=HZA.out; omega)).trans HNA.out;have HGB:=Yd hgb;have HNB:=Yd hnb;have hIb:=((footFS w.heap.size w.heap.size s (s+1) (s+1+1) (s+1+1+1) (s+1+1+1+1) l.length (.slice (some ⟨g,off,none⟩) l.length c) w l st (Nat.le_refl _) (Nat.le_refl _) (by omega) (by omega) (by omega) (by omega) (by omega)).own [] W Wb none HI.out hgb (fun r e=>by cases e)).1;have hIb:FSt w.heap.size w.heap.size s (s+1) (s+1+1) (s+1+1+1) (s+1+1+1+1) l.length (.slice (some ⟨g,off,none⟩) l.length c) w st Wb:=hIb;have c5:=hIb.h5.cell;have ct:∀ i,i<l.length -> Wb.cell? ⟨s+1+1,i,none⟩=some (.int .i64 (st.tm i:Nat)):=fun i hi=>by rw [cell_of_row _ _ _ _ _ _ hIb.ht]; exact toA_at _ _ _ hi
  have HIB:=Yd hIb;have HCT:=Yd ct;have hsl:s+1+1+1+1<W.heap.size:=by obtain ⟨u,hu,_⟩:=HI.out.row; exact hu.lt
  clear hIA hBb hgb hnb hIb ct;obtain ⟨q,hq⟩:∃ q,(kidsI nd).length=q:=⟨_,rfl⟩;rw [hq];have HQ:=Yd hq;clear hq
  gi_upto_if 30 with (fail)
  gi_cut [9] from 26 (fun _ wr=>CutR w.heap.size w.heap.size s (s+1) (s+1+1) (s+1+1+1) (s+1+1+1+1) l.length (.slice (some ⟨g,off,none⟩) l.length c) w st nd W wr)
  case first =>
   have hcm:=fun (Wd:World) (hd:Wb.grownBy Wd (some W.heap.size)) (hm:NBlk Wd W.heap.size (remap st.tm nd))=>cut_mk l nd nd HI.out (Nat.le_refl _) (Nat.le_refl _) (by omega) (by omega) (by omega) (by omega) (by omega) HGB.out HNB.out hd hm;have HCM:=Yd hcm;clear hcm
   by_cases h5:nd.kind=5
   ·have hkx:kidsI nd=[nd.a,nd.b]:=by unfold kidsI; rw [if_pos h5]
    have hk2:kids nd=[nd.a.toNat,nd.b.toNat]:=by unfold kids; rw [if_pos h5]
    obtain ⟨a0,b0⟩:0 <= nd.a∧0 <= nd.b:=by
     have h:=HKI.out;rw [hkx,hk2] at h;simp at h;omega
    have al:nd.a.toNat<x:=HKL.out _ (by rw [hk2]; simp);have bl:nd.b.toNat<x:=HKL.out _ (by rw [hk2]; simp);have an:nd.a<(l.length:Int):=by omega
    have bn:nd.b<(l.length:Int):=by omega
    have ca:=HCT.out nd.a.toNat (by omega);have cb:=HCT.out nd.b.toNat (by omega);have c17:Wb.cell? ⟨W.heap.size,17,none⟩=some (.int .i64 nd.a):=(HNB.out.cell 17).trans rfl;have f17:=nblk_frozen HNB.out 17;obtain ⟨Wc,hWc⟩:∃ Wc,Wc=Wb.setCell ⟨W.heap.size,17,none⟩ (.int .i64 (st.tm nd.a.toNat:Nat)):=⟨_,rfl⟩;have hnc:NBlk Wc W.heap.size { nd with a:=(st.tm nd.a.toNat:Nat) }:=by rw [hWc]; exact nblk_store HNB.out 17 _ rfl
    have hgc:Wb.grownBy Wc (some W.heap.size):=by rw [hWc]; exact set_keep _ _ _ _ (by have:=HGB.out.size; have:=HZA.out; exact (Array.getElem?_eq_some_iff.1 HNB.out).1)
    have d5:Wc.cell? ⟨s+1+1+1,0,none⟩=some (.slice (some ⟨s+1+1,0,none⟩) l.length l.length):=(HIB.out.h5.kept hgc (by simp; omega)).cell;have db:Wc.cell? ⟨s+1+1,nd.b.toNat,none⟩=some (.int .i64 (st.tm nd.b.toNat:Nat)):=by
     rw [World.cell?_of_block (a:=⟨s+1+1,nd.b.toNat,none⟩) (hgc.block (s+1+1) (Nat.lt_of_lt_of_le (by omega) HGB.out.size) (by intro e; injection e with e; omega))];exact cb
    have d18:Wc.cell? ⟨W.heap.size,18,none⟩=some (.int .i64 nd.b):=(hnc.cell 18).trans rfl;have g18:=nblk_frozen hnc 18;obtain ⟨Wd,hWd⟩:∃ Wd,Wd=Wc.setCell ⟨W.heap.size,18,none⟩ (.int .i64 (st.tm nd.b.toNat:Nat)):=⟨_,rfl⟩;have hnd':NBlk Wd W.heap.size (remap st.tm nd):=by
     rw [hWd];refine nblk_store hnc 18 _ ?_;unfold remap;rw [if_pos h5];rfl
    have hgd:Wb.grownBy Wd (some W.heap.size):=grown_trans hgc (by rw [hWd]; exact set_keep _ _ _ _ (Array.getElem?_eq_some_iff.1 hnc).1);have HREL:=Yd (HCM.out Wd hgd hnd');have hq2:q=2:=by rw [<- HQ.out,hkx]; rfl
    have q0:0<q:=by omega
    have q1:1<q:=by omega
    have q0b:decide (0<q)=true:=by rw [decide_eq_true_iff]; omega
    have q1b:decide (1<q)=true:=by rw [decide_eq_true_iff]; omega
    have d5r:=d5;have dbr:=db;have d18r:=d18;have g18r:=g18;rw [hWc] at d5r dbr d18r g18r;clear hk2 hkx hnc hgc hnd' hgd hq2
    gi_wp2_with (first | (rw [<- hWc]) | (rw [<- hWd]))
    gi_meet
    case rel=>exact HREL.out
   ·by_cases h6:nd.kind=6
    ·have hkx:kidsI nd=[nd.a]:=by unfold kidsI; rw [if_neg h5,if_pos h6]
     have hk2:kids nd=[nd.a.toNat]:=by unfold kids; rw [if_neg h5,if_pos h6]
     have a0:0 <= nd.a:=by
      have h:=HKI.out;rw [hkx,hk2] at h;simp at h;omega
     have al:nd.a.toNat<x:=HKL.out _ (by rw [hk2]; simp);have an:nd.a<(l.length:Int):=by omega
     have ca:=HCT.out nd.a.toNat (by omega);have c17:Wb.cell? ⟨W.heap.size,17,none⟩=some (.int .i64 nd.a):=(HNB.out.cell 17).trans rfl;have f17:=nblk_frozen HNB.out 17;obtain ⟨Wc,hWc⟩:∃ Wc,Wc=Wb.setCell ⟨W.heap.size,17,none⟩ (.int .i64 (st.tm nd.a.toNat:Nat)):=⟨_,rfl⟩;have hnc:NBlk Wc W.heap.size (remap st.tm nd):=by
      rw [hWc];refine nblk_store HNB.out 17 _ ?_;unfold remap;rw [if_neg h5,if_pos h6];rfl
     have hgc:Wb.grownBy Wc (some W.heap.size):=by rw [hWc]; exact set_keep _ _ _ _ (Array.getElem?_eq_some_iff.1 HNB.out).1
     have HREL:=Yd (HCM.out Wc hgc hnc);have hq2:q=1:=by rw [<- HQ.out,hkx]; rfl
     have q0:0<q:=by omega
     have q1:¬ 1<q:=by omega
     have q1i:¬ (1:Int)<(q:Int):=by omega
     have q0b:decide (0<q)=true:=by rw [decide_eq_true_iff]; omega
     have q1b:decide ((1:Int)<(q:Int))=false:=by rw [decide_eq_false_iff_not]; omega
     clear hk2 hkx hnc hgc hq2
     gi_wp2_with (rw [<- hWc])
     gi_meet
     case rel=>exact HREL.out
    ·have hkx:kidsI nd=[]:=by unfold kidsI; rw [if_neg h5,if_neg h6]
     have hq2:q=0:=by rw [<- HQ.out,hkx]; rfl
     have q0:¬ 0<q:=by omega
     have q0b:decide (0<q)=false:=by rw [decide_eq_false_iff_not]; omega
     have hnc:NBlk Wb W.heap.size (remap st.tm nd):=by
      unfold remap;rw [if_neg h5,if_neg h6];exact HNB.out
     have HREL:=Yd (HCM.out Wb (World.grownBy.refl _ _) hnc);clear hkx hq2 hnc
     gi_wp2_with fail
     gi_meet
     case rel=>exact HREL.out
  case rest =>
   obtain ⟨hIc,hnc,hgc,hfc⟩:=hcut;obtain ⟨m,hm⟩:∃ m,remap st.tm nd=m:=⟨_,rfl⟩;have hmx:remap st.tm (nth l x)=m:=by rw [hnd]; exact hm
   have hmr:Nd.rt m:=by rw [<- hm]; exact remap_rt _ HNR.out
   rw [hm] at hnc;have look:=hIc.hm.lookup m;rw [look_idx m hmr st.out HRT.out] at look;have c4:=hIc.h4.cell;have c5c:=hIc.h5.cell;have cx:wc.cell? ⟨s+1+1,x,none⟩=some (.int .i64 (st.tm x:Nat)):=by rw [cell_of_row _ _ _ _ _ _ hIc.ht]; exact toA_at _ _ _ hx
   have fx:wc.frozen? ⟨s+1+1,x,none⟩=false:=by simp [World.frozen?,hIc.ht]
   have HIC:=Yd hIc;have HNC:=Yd hnc;have HGC:=Yd hgc;have HFC:=Yd hfc;have HMX:=Yd hmx;have HMR:=Yd hmr;clear hIc hnc hgc hfc hmx hm hmr c5 c1 hWa hnd
   cases hq:idxN st.out m with
   | some k =>
    have look2:(Instr.lookup 73 (.map (some s)) m.val true).run Tryz.prog wc = .ok (.tuple #[.int .i64 (k:Int),.bool true]) wc:=by rw [hq] at look; exact look
    have HL:=Yd look2;have hkl:k<st.out.length:=(List.getElem?_eq_some_iff.1 (idx_some hq)).1;obtain ⟨W9,hW9⟩:∃ W9,W9=wc.setCell ⟨s+1+1,x,none⟩ (.int .i64 (k:Nat)):=⟨_,rfl⟩;clear look look2
    gi_wp2_with (first | (rw [<- hW9]) | (refine wli_load rfl (.tmp 8) rfl (.pointer (some ⟨W.heap.size,0,none⟩)) rfl m HNC.out.loadAt ?_) | (refine wli_lookup rfl (.tmp 47) (.tmp 48) rfl (.map (some s)) m.val rfl rfl _ HL.out ?_))
    obtain ⟨t1,t2⟩:=HIC.out.to (Nat.le_refl _) (by omega) hx k;rw [<- hW9] at t1 t2;have hz9:W9.heap.size=wc.heap.size:=by rw [hW9]; simp
    refine ⟨?_,keepF HI.out (Nat.le_refl _) (by omega) (by omega) (by omega) (by omega) (by omega) (by rw [hz9]; exact HGC.out.size) (fun i hi hf => ?_) (fun i hi => .inl (HFC.out i (t2 i hi)))⟩
    ·dsimp only;rw [HST.out,step_some HMX.out hq];exact t1
    ·rw [hW9,Below.heap_setCell wc ⟨s+1+1,x,none⟩ _ i (fun e=>hf (.inr (.inr (.inr (.inr (.inl e)))))),HGC.out.block i hi (by simp)]
   | none =>
    have look2:(Instr.lookup 73 (.map (some s)) m.val true).run Tryz.prog wc = .ok (.tuple #[.int .i64 0,.bool false]) wc:=by rw [hq] at look; exact look
    have HL:=Yd look2;obtain ⟨Wm,hup,hnm,hzm,hkm,hom,htm,hpm,hrow,hnbm⟩:=HIC.out.put_map (m:=m) (by rw [look_idx m HMR.out st.out HRT.out]; exact hq);obtain ⟨u,hu,ho⟩:=HIC.out.row;obtain ⟨hu1,ho1⟩:=hrow u hu ho;obtain ⟨ua,uc,rfl⟩:=row_form ho;have hcu:=hu.cell;have hcu1:=hu1.cell;have HUP:=Yd hup;have HNM:=Yd hnm;have HKM:=Yd hkm;have HZM:=Yd hzm;have HOM:=Yd (And.intro hom (And.intro htm hpm));have HU1:=Yd hu1;have HO1:=Yd ho1;have HN1:=Yd (hnbm _ _ HNC.out);obtain ⟨i0,hi0,hz0,hz1,hz2⟩:=info_parts nodeInfo;have hsm:s+1+1+1+1<Wm.heap.size:=hu1.lt;have hn0:w.heap.size <= Wm.heap.size:=by omega
    clear look look2 hup hnm hkm hzm hom htm hpm hrow hnbm hu ho hu1 ho1
    gi_wp2_with (first | (refine wli_load rfl (.tmp 8) rfl (.pointer (some ⟨W.heap.size,0,none⟩)) rfl m HNC.out.loadAt ?_) | (refine wli_load rfl (.tmp 8) rfl (.pointer (some ⟨W.heap.size,0,none⟩)) rfl m HN1.out.loadAt ?_) | (refine wli_lookup rfl (.tmp 47) (.tmp 48) rfl (.map (some s)) m.val rfl rfl _ HL.out ?_) | (refine wli_update rfl (.tmp 56) (.tmp 57) (.tmp 58) rfl (.map (some s)) m.val (.int .i64 (st.out.length:Nat)) rfl rfl rfl HUP.out ?_) | (refine wli_bs rfl (.tmp 60) rfl m rfl ?_) | (gi_at_builtin; go_loud (refine wpListIn_append_own_at _ rfl _ _ 34 rfl w.heap.size 49 i0 _ 19 152 Tryz.underlying34 hi0 hz0 hz1 hz2 rfl (by decide) _ _ _ rfl (HO1.out.alloc _) ⟨Wm.heap.size,0,none⟩ 1 1 m.cells rfl (nd_cells_len m) (cells_nd _ m) (nd_one' m) (by unfold maxLen; omega) (by omega) (by simp; omega) ?_; intro v' w1 hown' hgrow _ hvb; obtain ⟨g',cap',rfl⟩:=ownsRow_succ hown'; obtain ⟨t1,t2,t3,t4,t5⟩:=HIC.out.add (Nat.le_refl _) (by omega) (by omega) (by omega) HNM.out HZM.out HKM.out HOM.out.1 HOM.out.2.1 HOM.out.2.2 HU1.out HO1.out hgrow hown' hvb; have hc1:=t5.cell; have hf1:=t5.frozen; have hc5:=t1.h5.cell; have hx5:=toA_cell t1.ht hx; have hx6:=toA_frozen t1.ht x; have HT1:=Yd t1; have HT2:=Yd t2; have HT3:=Yd t3; have HT4:=Yd t4; clear t1 t2 t3 t4 t5)))
    obtain ⟨t1,t2⟩:=HT1.out.to (Nat.le_refl _) (by omega) hx st.out.length;obtain ⟨W3,hW3⟩:∃ W3,W3=w1.setCell ⟨s+1+1+1+1,0,none⟩ (.slice (some ⟨g',0,none⟩) (st.out.length+1) cap'):=⟨_,rfl⟩;have u2:=HT2.out;have u3:=HT3.out;have u4:=HT4.out;rw [<- hW3] at t1 t2 u2 u3 u4 ⊢;obtain ⟨W9,hW9⟩:∃ W9,W9=W3.setCell ⟨s+1+1,x,none⟩ (.int .i64 (st.out.length:Nat)):=⟨_,rfl⟩;rw [<- hW9] at t1 t2 ⊢;have hz9:W9.heap.size=W3.heap.size:=by rw [hW9]; simp
    have hfc:∀ i,footF w.heap.size s (s+1) (s+1+1) (s+1+1+1) (s+1+1+1+1) wc i -> footF w.heap.size s (s+1) (s+1+1) (s+1+1+1) (s+1+1+1+1) W i:=fun i h=>h.elim (fun h => .inl (HFC.out i h)) .inr;refine ⟨?_,keepF HI.out (Nat.le_refl _) (by omega) (by omega) (by omega) (by omega) (by omega) (by rw [hz9]; exact Nat.le_trans HGC.out.size u2) (fun i hi hf => ?_) (fun i hi => ?_)⟩
    ·dsimp only;rw [HST.out,step_none HMX.out hq];exact t1
    ·rw [hW9,Below.heap_setCell W3 ⟨s+1+1,x,none⟩ _ i (fun e=>hf (.inr (.inr (.inr (.inr (.inl e)))))),u3 i (Nat.lt_of_lt_of_le hi HGC.out.size) (fun h=>hf (hfc i h)),HGC.out.block i hi (by simp)]
    ·rcases u4 i (t2 i hi) with h | h
     ·exact .inl (HFC.out i h)
     ·exact .inr (Nat.le_trans HGC.out.size h)
 ·intro W hI hd;have hfl:flatP l=((ordP l).foldl (stepF (nth l)) ⟨fun _=>0,[]⟩).out:=by unfold flatP endP; rw [ordP_eq HR.out]
  obtain ⟨u,hu,ho⟩:=hI.row;have hB:=hI.below;rw [<- hfl] at ho;have hcu:=hu.cell;have HO:=Yd ho;have HBW:=Yd hB;obtain ⟨ua,uc,rfl⟩:=row_form ho;clear ho hu hI hB hfl
  gi_wp2
  refine ⟨by simp,.inl ⟨_,_,rfl,run_takeDeferred hd,?_⟩⟩;have hg:=grownBy_putObj' W W5.heap.size (.deferred none);have frow:=ownsRow_putObj HO.out (.deferred none) hd rfl;refine ⟨.tuple #[.slice ua (flatP l).length uc,.int .i64 0],by simp [results,Tryz.results15,go_sem],?_⟩;exact ⟨_,rfl,frow,HBW.out.grown hg HBW.out.size (fun r e=>by injection e with e; have:=HB5.out.size; omega)⟩
end flatw

/- burnishref20: the walk of Flat. Conditions: the nodes lie in memory. -/
namespace tfw
open Go.RowKit
open Go.BigFrame
open nodew
open chkw
open qt
open flatm
open flatw
open rg
open bsw (grown_setCell)
theorem quiet_at_w {C:World -> Prop} {ops:Array Oper} {o:Oper} {rest:List Oper} {a:Act} {Q:Act -> Prop} (hgd:Region.wanted o (yielded ops a.tmps)=true) (x:Operand) (ho:o.op = .load 49 x) (ad:Value) (hx:a.eval x=ad) (n:Nd)
  (hg:∀ w,C w -> (Instr.loadAt 49 ad).run Tryz.prog w = .ok n.val w) (h:wpQuiet Tryz.prog ops C Q rest (a.put o.dst n.val)):wpQuiet Tryz.prog ops C Q (o :: rest) a:=by
 refine wpQuiet_want hgd fun K hK=>⟨n.val,?_,hK _ h⟩;intro w' hw';unfold Oper.quietAt execOp;simp only [ho,hx,hg w' hw',Sem.run_bind,Sem.run_pure,Result.andThen_ok,Oper.quietUpon];exact ⟨trivial,trivial⟩
theorem quiet_neq_w {C:World -> Prop} {ops:Array Oper} {o:Oper} {rest:List Oper} {a:Act} {Q:Act -> Prop} (hgd:Region.wanted o (yielded ops a.tmps)=true) (x y:Operand) (t:TypeId) (ho:o.op = .binOp .neq 49 x y t) (n m:Nd) (hx:a.eval x=n.val) (hy:a.eval y=m.val) (b:Bool) (hb:(!eqN n m)=b)
  (h:wpQuiet Tryz.prog ops C Q rest (a.put o.dst (.bool b))):wpQuiet Tryz.prog ops C Q (o :: rest) a:=by
 subst hb;refine wpQuiet_want hgd fun K hK=>⟨.bool (!eqN n m),?_,hK _ h⟩;intro w' hw';unfold Oper.quietAt;have hg:(eqGuard .neq 49 x y n.val m.val).run Tryz.prog w' = .ok () w':=run_eqGuard_agg _ _ _ _ _ _ _ guardNode;have hb:(binOp .neq 49 n.val m.val).run Tryz.prog w' = .ok (.bool (!eqN n m)) w':=by
  show (do pure (.bool (!(<- Op.equal 49 n.val m.val))):Sem Value).run Tryz.prog w'=_;have he:(Op.equal 49 n.val m.val).run Tryz.prog w' = .ok (eqN n m) w':=eq_node n m w';simp only [Sem.run_bind,he,Result.andThen_ok,Sem.run_pure]
 unfold execOp;simp only [ho,hx,hy,hg,hb,Sem.run_bind,Sem.run_pure,Result.andThen_ok,Oper.quietUpon];exact ⟨trivial,trivial⟩
theorem own_grown' {w w':World} {base size n:Nat} {e:TypeId} {v:Value} {xs:List Value} {row:Option Nat} (h:w.ownsRow base e size v n xs) (hg:w.grownBy w' row) (hr:∀ r,row=some r -> r<base):w'.ownsRow base e size v n xs :=
 parw.own_grown h hg hr
theorem idx_first {l:List Nd} {m:Nd} {j:Nat} (hj:j<l.length) (he:l[j]=m) (hno:∀ k (h:k<l.length),k<j -> l[k]≠m):idxN l m=some j:=by
 have hm:m∈l:=he ▸ List.getElem_mem hj;unfold idxN;rw [if_pos hm];have h1:l.idxOf m<l.length:=List.idxOf_lt_length_iff.2 hm;have h2:l[l.idxOf m]=m:=List.getElem_idxOf h1;have h3:¬ l.idxOf m<j:=fun h=>hno _ h1 h h2;have h4:¬ j<l.idxOf m:=fun h=>by
  have h':j<l.findIdx (· == m):=h;have:=List.not_of_lt_findIdx h';simp [he] at this
 exact congrArg some (by omega)
theorem idx_never {l:List Nd} {m:Nd} (hno:∀ k (h:k<l.length),l[k]≠m):idxN l m=none:=by
 unfold idxN;rw [if_neg (fun h=>by
  obtain ⟨k,hk,e⟩:=List.getElem_of_mem h;exact hno k hk e)]
structure FI (w W6:World) (tb N B0:Nat) (st:FS) (o:Value) (W:World):Prop where
 tos:W.heap[tb]? = some (.cells (toA N st.tm) 3 (0,0))
 own:W.ownsRow B0 49 19 o st.out.length (ncells st.out)
 keep:∀ b,b<B0 -> b≠tb -> W.heap[b]? = W6.heap[b]?
 size:B0 <= W.heap.size
 bel:Below w.heap.size w W
 lt:tb<B0
 le:w.heap.size <= tb
theorem FI.grow {w W6 W W':World} {tb N B0:Nat} {st:FS} {o:Value} {row:Option Nat} (h:FI w W6 tb N B0 st o W) (hg:W.grownBy W' row) (hr:∀ r,row=some r -> B0 <= r∧o.ownBlock≠some r):FI w W6 tb N B0 st o W':=by
 have hlt:=h.lt;have hle:=h.le;have hsz:=h.size;refine ⟨(hg.block tb (by omega) (fun e=>by have:=(hr tb e.symm).1; omega)).trans h.tos,?_,fun b hb hne=>(hg.block b (by omega) (fun e=>by have:=(hr b e.symm).1; omega)).trans (h.keep b hb hne),Nat.le_trans hsz hg.size,h.bel.grown hg h.bel.size (fun k e=>by have:=(hr k e).1; omega),hlt,hle⟩;refine h.own.kept hg ?_
 cases row with
 | none =>
  rcases h.own.2 with ⟨e,_⟩ | ⟨g,cap,cur,e,_⟩
  ·rw [e]; exact .inl rfl
  ·exact .inr (by rw [e]; intro h; cases h)
 | some r=>exact .inr (hr r rfl).2
theorem FI.fresh {w W6 W W':World} {tb N B0:Nat} {st:FS} {o:Value} (h:FI w W6 tb N B0 st o W) {nb:Nat} (hn:W.heap.size <= nb) (hg:W.grownBy W' (some nb)):FI w W6 tb N B0 st o W' :=
 h.grow hg (fun r e=>by
  obtain rfl:=Option.some.inj e;have:=h.size;refine ⟨by omega,fun e2 => ?_⟩;have:=(h.own.lt nb e2).2;omega)
theorem FI.setTo {w W6 W:World} {tb N B0:Nat} {st:FS} {o:Value} (h:FI w W6 tb N B0 st o W) (x k:Nat) (hx:x<N):FI w W6 tb N B0 ⟨upd st.tm x k,st.out⟩ o (W.setCell ⟨tb,x,none⟩ (.int .i64 (k:Int))):=by
 have hlt:=h.lt;refine ⟨?_,own_grown' h.own (grown_setCell W ⟨tb,x,none⟩ _) (fun r e=>by obtain rfl:=Option.some.inj e; exact hlt),fun b hb hne=>(Below.heap_setCell W ⟨tb,x,none⟩ _ b hne).trans (h.keep b hb hne),by simpa using h.size,h.bel.setCell (p:=⟨tb,x,none⟩) h.le _,hlt,h.le⟩;rw [heap_set W tb x _ _ _ _ h.tos,toA_set _ _ _ _ hx]
theorem FI.app {w W6 W wz:World} {tb N B0:Nat} {st:FS} {o v':Value} {m:Nd} {ob:Obj} (h:FI w W6 tb N B0 st o W) (hg:(W.alloc ob).grownBy wz o.ownBlock) (hown:wz.ownsRow B0 49 19 v' (st.out.length+1) (ncells st.out ++ m.cells)) :
  FI w W6 tb N B0 ⟨st.tm,st.out ++ [m]⟩ v' wz:=by
 have gz:W.grownBy wz o.ownBlock:=grown_trans (World.grownBy_alloc W ob _) hg;have hlt:=h.lt;have hle:=h.le;have hsz:=h.size;have hr:∀ r,o.ownBlock=some r -> B0 <= r:=fun r e=>(h.own.lt r e).1;refine ⟨(gz.block tb (by omega) (fun e=>by have:=hr tb e.symm; omega)).trans h.tos,?_,fun b hb hne=>(gz.block b (by omega) (fun e=>by have:=hr b e.symm; omega)).trans (h.keep b hb hne),Nat.le_trans hsz gz.size,h.bel.grown gz h.bel.size (fun k e=>by have:=hr k e; omega),hlt,hle⟩;show wz.ownsRow B0 49 19 v' (st.out ++ [m]).length (ncells (st.out ++ [m]));rw [List.length_append,ncells_snoc];exact hown
end tfw
end Go.Proofs.YtcbgkbidgpemfaaGreatDoor
