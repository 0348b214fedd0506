/- The walk of burnishlaw18.Same at any two rows of nodes. Conditions: the nodes lie in memory, within the reach. -/
import Derived.Test.YtejmbbkklhpnaaaGreatDoorMf19
namespace Go.Proofs.YtejmbbkklhpnaaaGreatDoor.chkw
open Go.RowKit
open nodew
open qt
open Go.BigFrame
attribute [local go_sem] nodew.run_store_float fbits_run
theorem same01_q (x y:Nat) (q:Bool) (h:q=decide (x=y)) (w:World):Calls Tryz.prog 22 #[.float .f64 x,.float .f64 y] w fun e w'=>e = .returned (.bool q)∧w'=w:=by
 go_enter Tryz.func22,Tryz.ntmps22
 go_wp2
 go_ret
 refine ⟨?_,rfl⟩
 rw [h]
 by_cases e:x=y
 ·simp [e]
 ·simp [e,Int.ofNat_inj]
theorem nd_same (n m:Nd) (hn:n.ok) (hm:m.ok) (h0:n.kind=m.kind) (hf:∀ j,1 <= j -> j <= 16 -> n.f j=m.f j) (ha:n.a=m.a) (hb:n.b=m.b):n=m:=by
 obtain ⟨nk,nx,na,nb⟩:=n
 obtain ⟨mk,mx,ma,mb⟩:=m
 have hx:nx=mx:=by
  refine List.ext_getElem (hn.1.trans hm.1.symm) fun i h1 h2 => ?_
  have h16:nx.length=16:=hn.1
  have:=hf (i+1) (by omega) (by omega)
  unfold Nd.f at this
  simpa [List.getD_eq_getElem?_getD,h1,h2] using this
 simp only at h0 ha hb
 rw [h0,ha,hb,hx]
theorem take_next (l1 l2:List Nd) (k:Nat) (h1:k<l1.length) (h2:k<l2.length) (h:l1.take k=l2.take k) (e:l1[k]=l2[k]):l1.take (k+1)=l2.take (k+1):=by
 rw [List.take_succ_eq_append_getElem h1,List.take_succ_eq_append_getElem h2,h,e]
theorem rows_ne (l1 l2:List Nd) (k:Nat) (h1:k<l1.length) (h2:k<l2.length) (n m:Nd) (e1:l1[k]=n) (e2:l2[k]=m) (h:n≠m):decide (l1=l2)=false:=by
 refine decide_eq_false fun e=>h ?_
 subst e
 exact e1.symm.trans e2
set_option maxRecDepth 100000 in
set_option maxHeartbeats 1000000 in
theorem same18_any (B:Nat) (v1 v2:Value) (l1 l2:List Nd) (hok1:∀ n∈l1,n.ok) (hok2:∀ n∈l2,n.ok) (hl1:l1.length <= 1000000000000) (_hl2:l2.length <= 1000000000000) (w:World) (h1:NRead w B v1 l1) (h2:NRead w B v2 l2) (_hB:B <= w.heap.size) :
  Calls Tryz.prog 16 #[v1,v2] w fun e w'=>e = .returned (.bool (decide (l1=l2)))∧Below w.heap.size w w':=by
 obtain ⟨A1,c1,rfl,hx1⟩:=h1
 obtain ⟨A2,c2,rfl,hx2⟩:=h2
 have HX1:=Lib.hid hx1
 have HX2:=Lib.hid hx2
 have HOK:=Lib.hid (And.intro hok1 hok2)
 clear hx1 hx2 hok1 hok2
 by_cases hlen:l1.length=l2.length
 case neg =>
  have hd:decide (l1=l2)=false:=decide_eq_false fun e=>hlen (by rw [e])
  rw [hd]
  obtain ⟨N1,hN1⟩:∃ N,N=l1.length:=⟨_,rfl⟩
  obtain ⟨N2,hN2⟩:∃ N,N=l2.length:=⟨_,rfl⟩
  rw [<- hN1,<- hN2] at hlen
  rw [<- hN1,<- hN2]
  clear HX1 HX2 HOK hd hN1 hN2 hl1 _hl2
  have hq:decide ((N1:Int)=(N2:Int))=false:=decide_eq_false (by omega)
  have hq2:¬ (N1:Int)=(N2:Int):=by omega
  go_enter Tryz.func16,Tryz.ntmps16
  go_wp2_with fail
  go_ret
  exact ⟨rfl,Below.refl _ _⟩
 case pos =>
 obtain ⟨N,hN⟩:∃ N,N=l1.length:=⟨_,rfl⟩
 have hN2:l2.length=N:=by rw [hN,hlen]
 rw [hN2,<- hN]
 have hl:N <= 1000000000000:=by omega
 obtain ⟨D,hD⟩:∃ D,D=decide (l1=l2):=⟨_,rfl⟩
 rw [<- hD]
 have HD:=Lib.hid hD
 have HN:=Lib.hid (And.intro hN hN2)
 clear hl1 _hl2 hlen hD hN hN2
 go_enter Tryz.func16,Tryz.ntmps16
 go_wp2_with fail
 go_loopg [16] N (fun gk i wr=>∃ k:Nat,k+gk=N∧i = .int .i64 k∧Below w.heap.size w wr∧l1.take k=l2.take k)
 case atStart=>exact ⟨0,Nat.zero_add _,rfl,Below.refl _ _,rfl⟩
 case round =>
  obtain ⟨k,hkg,rfl,hBr,htk⟩:=hrel
  have HKG:=Lib.hid (And.intro hkg htk)
  have hk:k <= N:=by omega
  clear hkg htk
  have hz:=hBr.size
  by_cases hkl:k<N
  ·have k1:k<l1.length:=by have:=HN.out.1; omega
   have k2:k<l2.length:=by have:=HN.out.2; omega
   have hne1:l1≠[]:=by intro e; subst e; simp at k1
   have hne2:l2≠[]:=by intro e; subst e; simp at k2
   obtain ⟨g1,o1,rfl,-⟩:=HX1.out hne1
   obtain ⟨g2,o2,rfl,-⟩:=HX2.out hne2
   obtain ⟨hg1,hld1⟩:=NRead.at HX1.out k1
   obtain ⟨hg2,hld2⟩:=NRead.at HX2.out k2
   obtain ⟨n,hn⟩:∃ n,l1[k]=n:=⟨_,rfl⟩
   obtain ⟨m,hm⟩:∃ m,l2[k]=m:=⟨_,rfl⟩
   rw [hn] at hld1
   rw [hm] at hld2
   have HL1:=Lib.hid hld1
   have HL2:=Lib.hid hld2
   have hok1:n.ok:=hn ▸ HOK.out.1 _ (List.getElem_mem k1)
   have hok2:m.ok:=hm ▸ HOK.out.2 _ (List.getElem_mem k2)
   have HOKN:=Lib.hid (And.intro hok1 hok2)
   have HNE:n≠m -> D=false:=fun h=>HD.out.trans (rows_ne l1 l2 k k1 k2 n m hn hm h)
   have HEQ:n=m -> l1.take (k+1)=l2.take (k+1):=fun h=>take_next l1 l2 k k1 k2 HKG.out.2 (hn.trans (h.trans hm.symm))
   have HNQ:=Lib.hid (And.intro HNE HEQ)
   have hk0:(0:Int) <= (k:Int):=by omega
   have hkl':(k:Int)<(N:Int):=by omega
   clear hld1 hld2 hn hm hne1 hne2 hok1 hok2 HNE HEQ k1 k2
   go_upto_region 6 with (fail)
   go_cut [6,7] from 19 to 26 (fun s6 s7 wx=>∃ b6 b7,s6 = .pointer (some ⟨b6,0,none⟩)∧s7 = .pointer (some ⟨b7,0,none⟩)∧NBlk wx b6 n∧NBlk wx b7 m∧Below w.heap.size w wx)
   case first =>
    refine region_reads (C:=fun w'=>∃ u:Ext wr,w'=u.1) [0,1,2,3,4,5,6,7] 4 (by kernel_rfl) (by kernel_rfl) (ext_self wr) ?_
    simp only [List.filterMap_cons,List.filterMap_nil,List.getElem?_cons_zero,List.getElem?_cons_succ]
    change wpQuiet _ _ _ _ (_ :: _ :: _ :: _ :: _ :: _ :: _ :: _ :: []) _
    go_big_quiet_step (fail)
    go_big_quiet_step (fail)
    go_big_quiet_step (fail)
    refine quiet_load_at rfl (.tmp 21) rfl (.pointer (some ⟨g1,o1+k*19,none⟩)) rfl n (by rintro _ ⟨u,rfl⟩; exact HL1.out u.1 ((u.2.block g1 (by omega)).trans (hBr.block g1 hg1))) ?_
    simp only [Act.put,List.setIfInBounds_toArray,List.set_cons_succ,List.set_cons_zero]
    go_big_quiet_step (fail)
    go_big_quiet_step (fail)
    go_big_quiet_step (fail)
    refine quiet_load_at rfl (.tmp 25) rfl (.pointer (some ⟨g2,o2+k*19,none⟩)) rfl m (by rintro _ ⟨u,rfl⟩; exact HL2.out u.1 ((u.2.block g2 (by omega)).trans (hBr.block g2 hg2))) ?_
    simp only [Act.put,List.setIfInBounds_toArray,List.set_cons_succ,List.set_cons_zero]
    refine wpQuiet_nil ?_
    obtain ⟨X,hX⟩:∃ X,X=wr.drew:=⟨_,rfl⟩
    have hbx:Below wr.heap.size wr X:=by rw [hX]; exact (Below.refl _ _).drew
    rw [<- hX]
    clear hX
    have hzx:=hbx.size
    have a1:=hbx.alloc hzx (.cells zcells 67)
    have a2:=a1.alloc a1.size (.cells zcells 67)
    have n1:((X.alloc (.cells zcells 67)).alloc (.cells zcells 67)).heap[X.heap.size]? = some (.cells zcells 67 (0,0)):=(Below.heap_alloc _ _ _ (by simp)).trans (heap_alloc_new _ _)
    have n2:((X.alloc (.cells zcells 67)).alloc (.cells zcells 67)).heap[X.heap.size+1]? = some (.cells zcells 67 (0,0)):=heap_alloc2_new _ _ _
    have b1:=below_setRow a2 hzx n.cells.toArray
    have b2:=below_setRow a2 (show wr.heap.size <= X.heap.size+1 by omega) n.cells.toArray
    have c1':=below_setRow b1 (show wr.heap.size <= X.heap.size+1 by omega) m.cells.toArray
    have c2':=below_setRow b2 hzx m.cells.toArray
    have m1:=setRow_heap _ X.heap.size zcells n.cells.toArray _ _ n1
    have m2:=setRow_heap _ (X.heap.size+1) zcells n.cells.toArray _ _ n2
    have p2:(((X.alloc (.cells zcells 67)).alloc (.cells zcells 67)).setRow X.heap.size n.cells.toArray).heap[X.heap.size+1]? = some (.cells zcells 67 (0,0)):=(setRow_other _ _ _ _ (by omega)).trans n2
    have p1:(((X.alloc (.cells zcells 67)).alloc (.cells zcells 67)).setRow (X.heap.size+1) n.cells.toArray).heap[X.heap.size]? = some (.cells zcells 67 (0,0)):=(setRow_other _ _ _ _ (by omega)).trans n1
    have hsz:(X.alloc (.cells zcells 67)).heap.size=X.heap.size+1:=by simp
    have q1:=setRow_heap _ (X.heap.size+1) zcells m.cells.toArray _ _ p2
    have q2:=setRow_heap _ X.heap.size zcells m.cells.toArray _ _ p1
    have r1:=(setRow_other _ (X.heap.size+1) X.heap.size m.cells.toArray (by omega)).trans m1
    have r2:=(setRow_other _ X.heap.size (X.heap.size+1) m.cells.toArray (by omega)).trans m2
    refine anyG_two 8 9 _ _ (by kernel_rfl) rfl rfl rfl rfl ?_ ?_
    ·refine goUpon_val _ _ (exec_alloc_nd rfl _ _) ⟨⟨_,a1⟩,rfl⟩ ?_
     change anyG _ _ _ _ _ _ _ (Act.put _ (some 6) _) _
     simp only [Act.put,List.setIfInBounds_toArray,List.set_cons_succ,List.set_cons_zero]
     refine anyG_one 9 _ (by kernel_rfl) rfl rfl ?_
     refine goUpon_val _ _ (exec_alloc_nd rfl _ _) ⟨⟨_,a2⟩,rfl⟩ ?_
     rw [hsz]
     change anyG _ _ _ _ _ _ _ (Act.put _ (some 7) _) _
     simp only [Act.put,List.setIfInBounds_toArray,List.set_cons_succ,List.set_cons_zero]
     refine anyG_one 10 _ (by kernel_rfl) rfl rfl ?_
     refine goUpon_skip _ (exec_store_nd (.tmp 6) (.tmp 22) rfl X.heap.size n rfl rfl zcells n1 rfl) ⟨⟨_,b1⟩,rfl⟩ ?_
     change anyG _ _ _ _ _ _ _ (Act.put _ none _) _
     simp only [Act.put]
     refine anyG_one 11 _ (by kernel_rfl) rfl rfl ?_
     refine goUpon_skip _ (exec_store_nd (.tmp 7) (.tmp 26) rfl (X.heap.size+1) m rfl rfl zcells p2 rfl) ⟨⟨_,c1'⟩,rfl⟩ ?_
     change anyG _ _ _ _ _ _ _ (Act.put _ none _) _
     simp only [Act.put]
     refine anyG_end (by kernel_rfl) ?_
     simp only [Exit.then]
     go_wp2_with fail
     go_meet
     exact ⟨X.heap.size,X.heap.size+1,rfl,rfl,r1,q1,hBr.trans (c1'.mono hz)⟩
    ·refine goUpon_val _ _ (exec_alloc_nd rfl _ _) ⟨⟨_,a1⟩,rfl⟩ ?_
     change anyG _ _ _ _ _ _ _ (Act.put _ (some 7) _) _
     simp only [Act.put,List.setIfInBounds_toArray,List.set_cons_succ,List.set_cons_zero]
     refine anyG_one 8 _ (by kernel_rfl) rfl rfl ?_
     refine goUpon_val _ _ (exec_alloc_nd rfl _ _) ⟨⟨_,a2⟩,rfl⟩ ?_
     rw [hsz]
     change anyG _ _ _ _ _ _ _ (Act.put _ (some 6) _) _
     simp only [Act.put,List.setIfInBounds_toArray,List.set_cons_succ,List.set_cons_zero]
     refine anyG_one 10 _ (by kernel_rfl) rfl rfl ?_
     refine goUpon_skip _ (exec_store_nd (.tmp 6) (.tmp 22) rfl (X.heap.size+1) n rfl rfl zcells n2 rfl) ⟨⟨_,b2⟩,rfl⟩ ?_
     change anyG _ _ _ _ _ _ _ (Act.put _ none _) _
     simp only [Act.put]
     refine anyG_one 11 _ (by kernel_rfl) rfl rfl ?_
     refine goUpon_skip _ (exec_store_nd (.tmp 7) (.tmp 26) rfl X.heap.size m rfl rfl zcells p1 rfl) ⟨⟨_,c2'⟩,rfl⟩ ?_
     change anyG _ _ _ _ _ _ _ (Act.put _ none _) _
     simp only [Act.put]
     refine anyG_end (by kernel_rfl) ?_
     simp only [Exit.then]
     go_wp2_with fail
     go_meet
     exact ⟨X.heap.size+1,X.heap.size,rfl,rfl,r2,q2,hBr.trans (c2'.mono hz)⟩
   case rest =>
    obtain ⟨b6,b7,rfl,rfl,h6,h7,hBc⟩:=hcut
    clear HX1 HX2 HL1 HL2 hBr hz
    have H67:=Lib.hid (And.intro h6 (And.intro h7 hBc))
    clear h6 h7 hBc
    go_wp2_with fail
    go_loopw [27] (fun i wr=>∃ j:Nat,j <= 3∧i = .int .i64 j∧NBlk wr b6 n∧NBlk wr b7 m∧Below w.heap.size w wr ∧ ∀ t,t<j -> n.f (1+t)=m.f (1+t)∧n.f (4+t)=m.f (4+t)∧n.f (7+t)=m.f (7+t)∧n.f (10+t)=m.f (10+t)) (fun i _=>3-(intOf i).toNat)
    case atStart=>exact ⟨0,by omega,rfl,H67.out.1,H67.out.2.1,H67.out.2.2,fun t ht=>absurd ht (Nat.not_lt_zero _)⟩
    case round =>
     obtain ⟨j,hj,rfl,h6,h7,hBc,hfs⟩:=hrel
     have hc6:∀ j u,n.cells[j]? = some u -> wr.cell? ⟨b6,j,none⟩=some u:=fun j u hu=>(h6.cell j).trans hu
     have hc7:∀ j u,m.cells[j]? = some u -> wr.cell? ⟨b7,j,none⟩=some u:=fun j u hu=>(h7.cell j).trans hu
     have HC6:=Lib.hid hc6
     have HC7:=Lib.hid hc7
     have HFS:=Lib.hid hfs
     have HNB:=Lib.hid (And.intro h6 (And.intro h7 hBc))
     clear hc6 hc7 h6 h7 hBc H67 hfs
     by_cases hj3:j<3
     ·have hj0:(0:Int) <= (j:Int):=by omega
      have hj3':(j:Int)<3:=by omega
      have x1:=HC6.out (1+j) _ (n.cell_f (1+j) (by omega) (by omega))
      have x2:=HC6.out (4+j) _ (n.cell_f (4+j) (by omega) (by omega))
      have x3:=HC6.out (7+j) _ (n.cell_f (7+j) (by omega) (by omega))
      have x4:=HC6.out (10+j) _ (n.cell_f (10+j) (by omega) (by omega))
      have y1:=HC7.out (1+j) _ (m.cell_f (1+j) (by omega) (by omega))
      have y2:=HC7.out (4+j) _ (m.cell_f (4+j) (by omega) (by omega))
      have y3:=HC7.out (7+j) _ (m.cell_f (7+j) (by omega) (by omega))
      have y4:=HC7.out (10+j) _ (m.cell_f (10+j) (by omega) (by omega))
      obtain ⟨q1,hq1⟩:∃ q,q=decide (n.f (1+j)=m.f (1+j)):=⟨_,rfl⟩
      obtain ⟨q2,hq2⟩:∃ q,q=decide (n.f (7+j)=m.f (7+j)):=⟨_,rfl⟩
      obtain ⟨q3,hq3⟩:∃ q,q=decide (n.f (4+j)=m.f (4+j)):=⟨_,rfl⟩
      obtain ⟨q4,hq4⟩:∃ q,q=decide (n.f (10+j)=m.f (10+j)):=⟨_,rfl⟩
      have C1:=Lib.hid (same01_q (n.f (1+j)) (m.f (1+j)) q1 hq1)
      have C2:=Lib.hid (same01_q (n.f (7+j)) (m.f (7+j)) q2 hq2)
      have C3:=Lib.hid (same01_q (n.f (4+j)) (m.f (4+j)) q3 hq3)
      have C4:=Lib.hid (same01_q (n.f (10+j)) (m.f (10+j)) q4 hq4)
      have HQ:=Lib.hid (And.intro hq1 (And.intro hq2 (And.intro hq3 hq4)))
      clear hq1 hq2 hq3 hq4
      by_cases hall:q1=true∧q3=true∧q2=true∧q4=true
      ·obtain ⟨rfl,rfl,rfl,rfl⟩:=hall
       go_wp2_with fail
       go_quiet (first | with_reducible exact Calls.quiet_of_same (C1.out _) | with_reducible exact Calls.quiet_of_same (C3.out _) | with_reducible exact Calls.quiet_of_same (C2.out _) | with_reducible exact Calls.quiet_of_same (C4.out _))
       go_wp2_with fail
       go_roundw
       case rel =>
        refine ⟨j+1,by omega,by go_num,HNB.out.1.drewN nq,HNB.out.2.1.drewN nq,nodew.below_drewN' HNB.out.2.2 nq,fun t ht => ?_⟩
        by_cases htj:t=j
        ·subst htj
         exact ⟨of_decide_eq_true HQ.out.1.symm,of_decide_eq_true HQ.out.2.2.1.symm,of_decide_eq_true HQ.out.2.1.symm,of_decide_eq_true HQ.out.2.2.2.symm⟩
        ·exact HFS.out t (by omega)
       case measure=>simp [intOf]; omega
      ·have hne:n≠m:=fun e=>hall (by
        obtain ⟨a1,a2,a3,a4⟩:=HQ.out
        rw [a1,a2,a3,a4,e]
        simp)
       have hDf:=HNQ.out.1 hne
       have HDF:=Lib.hid hDf
       clear hDf hne
       have hor:q1=false∨(q1=true∧q3=false)∨(q1=true∧q3=true∧q2=false)∨(q1=true∧q3=true∧q2=true∧q4=false):=by
        revert hall; cases q1 <;> cases q3 <;> cases q2 <;> cases q4 <;> simp
       clear hall
       rcases hor with rfl | ⟨rfl,rfl⟩ | ⟨rfl,rfl,rfl⟩ | ⟨rfl,rfl,rfl,rfl⟩
       all_goals
        go_wp2_with fail
        go_quiet (first | with_reducible exact Calls.quiet_of_same (C1.out _) | with_reducible exact Calls.quiet_of_same (C3.out _) | with_reducible exact Calls.quiet_of_same (C2.out _) | with_reducible exact Calls.quiet_of_same (C4.out _))
        go_wp2_with fail
        go_ret
        rw [HDF.out]
        first | exact ⟨rfl,nodew.below_drewN' HNB.out.2.2 _⟩ | exact ⟨rfl,HNB.out.2.2⟩
     ·obtain rfl:j=3:=by omega
      have x0:=HC6.out 0 _ rfl
      have x5:=HC6.out 13 _ rfl
      have x6:=HC6.out 14 _ rfl
      have x7:=HC6.out 15 _ rfl
      have x8:=HC6.out 16 _ rfl
      have x9:=HC6.out 17 _ rfl
      have xa:=HC6.out 18 _ rfl
      have y0:=HC7.out 0 _ rfl
      have y5:=HC7.out 13 _ rfl
      have y6:=HC7.out 14 _ rfl
      have y7:=HC7.out 15 _ rfl
      have y8:=HC7.out 16 _ rfl
      have y9:=HC7.out 17 _ rfl
      have ya:=HC7.out 18 _ rfl
      obtain ⟨q1,hq1⟩:∃ q,q=decide (n.f 13=m.f 13):=⟨_,rfl⟩
      obtain ⟨q2,hq2⟩:∃ q,q=decide (n.f 14=m.f 14):=⟨_,rfl⟩
      obtain ⟨q3,hq3⟩:∃ q,q=decide (n.f 15=m.f 15):=⟨_,rfl⟩
      obtain ⟨q4,hq4⟩:∃ q,q=decide (n.f 16=m.f 16):=⟨_,rfl⟩
      have C1:=Lib.hid (same01_q (n.f 13) (m.f 13) q1 hq1)
      have C2:=Lib.hid (same01_q (n.f 14) (m.f 14) q2 hq2)
      have C3:=Lib.hid (same01_q (n.f 15) (m.f 15) q3 hq3)
      have C4:=Lib.hid (same01_q (n.f 16) (m.f 16) q4 hq4)
      have HQ:=Lib.hid (And.intro hq1 (And.intro hq2 (And.intro hq3 hq4)))
      clear hq1 hq2 hq3 hq4
      by_cases e0:n.kind=m.kind
      case neg =>
       have HDF:=Lib.hid (HNQ.out.1 fun e=>e0 (by rw [e]))
       have hd:decide ((n.kind:Int)=(m.kind:Int))=false:=decide_eq_false (by omega)
       have hd2:¬ (n.kind:Int)=(m.kind:Int):=by omega
       clear e0
       go_wp2_with fail
       go_ret
       rw [HDF.out]
       first | exact ⟨rfl,nodew.below_drewN' HNB.out.2.2 _⟩ | exact ⟨rfl,HNB.out.2.2⟩
      case pos =>
      rw [<- e0] at y0
      by_cases ea:n.a=m.a
      case neg =>
       have HDF:=Lib.hid (HNQ.out.1 fun e=>ea (by rw [e]))
       have hd:decide (n.a=m.a)=false:=decide_eq_false ea
       clear e0
       go_wp2_with fail
       go_ret
       rw [HDF.out]
       first | exact ⟨rfl,nodew.below_drewN' HNB.out.2.2 _⟩ | exact ⟨rfl,HNB.out.2.2⟩
      case pos =>
      rw [<- ea] at y9
      by_cases eb:n.b=m.b
      case neg =>
       have HDF:=Lib.hid (HNQ.out.1 fun e=>eb (by rw [e]))
       have hd:decide (n.b=m.b)=false:=decide_eq_false eb
       clear e0 ea
       go_wp2_with fail
       go_ret
       rw [HDF.out]
       first | exact ⟨rfl,nodew.below_drewN' HNB.out.2.2 _⟩ | exact ⟨rfl,HNB.out.2.2⟩
      case pos =>
      rw [<- eb] at ya
      have HE:=Lib.hid (And.intro e0 (And.intro ea eb))
      clear e0 ea eb
      by_cases hall:q1=true∧q2=true∧q3=true∧q4=true
      ·obtain ⟨rfl,rfl,rfl,rfl⟩:=hall
       go_wp2_with (first | (go_at_call 22; (first | with_reducible refine (C1.out _).mono ?_ | with_reducible refine (C2.out _).mono ?_ | with_reducible refine (C3.out _).mono ?_ | with_reducible refine (C4.out _).mono ?_); rintro e wy ⟨rfl,rfl⟩))
       have hkg:=HKG.out.1
       go_roundg (gk-1)
       case measure=>omega
       case rel =>
        refine ⟨k+1,by omega,by go_num,HNB.out.2.2,HNQ.out.2 (nd_same n m HOKN.out.1 HOKN.out.2 HE.out.1 (fun t t1 t16 => ?_) HE.out.2.1 HE.out.2.2)⟩
        have hf:=HFS.out
        have ho:t=13∨t=14∨t=15∨t=16 ∨ ∃ u,u<3∧(t=1+u∨t=4+u∨t=7+u∨t=10+u):=by
         by_cases h13:t<13
         ·right; right; right; right
          exact ⟨(t-1) % 3,by omega,by omega⟩
         ·omega
        rcases ho with rfl | rfl | rfl | rfl | ⟨u,hu,rfl | rfl | rfl | rfl⟩
        ·exact of_decide_eq_true HQ.out.1.symm
        ·exact of_decide_eq_true HQ.out.2.1.symm
        ·exact of_decide_eq_true HQ.out.2.2.1.symm
        ·exact of_decide_eq_true HQ.out.2.2.2.symm
        ·exact (hf u hu).1
        ·exact (hf u hu).2.1
        ·exact (hf u hu).2.2.1
        ·exact (hf u hu).2.2.2
      ·have hne:n≠m:=fun e=>hall (by
        obtain ⟨a1,a2,a3,a4⟩:=HQ.out
        rw [a1,a2,a3,a4,e]
        simp)
       have HDF:=Lib.hid (HNQ.out.1 hne)
       clear hne
       have hor:q1=false∨(q1=true∧q2=false)∨(q1=true∧q2=true∧q3=false)∨(q1=true∧q2=true∧q3=true∧q4=false):=by
        revert hall; cases q1 <;> cases q2 <;> cases q3 <;> cases q4 <;> simp
       clear hall
       rcases hor with rfl | ⟨rfl,rfl⟩ | ⟨rfl,rfl,rfl⟩ | ⟨rfl,rfl,rfl,rfl⟩
       all_goals
        go_wp2_with (first | (go_at_call 22; (first | with_reducible refine (C1.out _).mono ?_ | with_reducible refine (C2.out _).mono ?_ | with_reducible refine (C3.out _).mono ?_ | with_reducible refine (C4.out _).mono ?_); rintro e wy ⟨rfl,rfl⟩))
        go_ret
        rw [HDF.out]
        first | exact ⟨rfl,nodew.below_drewN' HNB.out.2.2 _⟩ | exact ⟨rfl,HNB.out.2.2⟩
  ·obtain rfl:k=N:=by omega
   go_wp2_with fail
   go_ret
   refine ⟨?_,hBr⟩
   have h1:=HKG.out.2
   rw [List.take_of_length_le (by have:=HN.out.1; omega),List.take_of_length_le (by have:=HN.out.2; omega)] at h1
   rw [HD.out,decide_eq_true h1]
   rfl
end Go.Proofs.YtejmbbkklhpnaaaGreatDoor.chkw
