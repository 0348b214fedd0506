/- The walk of check.fields: a kind's numbers. No conditions. -/
import Derived.Test.YtejmbbkklhpnaaaGreatDoorMf01
import Derived.Laws.EntriesVeiled
import Derived.Deep.RegionHeld3
import Derived.Deep.AppendLies
import Derived.Laws.Pointers
import Derived.StillTactics
namespace Go.Proofs.YtejmbbkklhpnaaaGreatDoor.nodew
open Go.RowKit Go.Shelf
open words
attribute [local go_sem] run_store_float
abbrev b1f:Nat:=4607182418800017408
abbrev bAlpha:Nat:=4584664420663164928
abbrev bIor:Nat:=4607463893776728064
abbrev bIorM:Nat:=4616189618054758400
abbrev bMet:Nat:=4589168020290535424
abbrev bMetM:Nat:=4625196817309499392
def fieldList (k:Nat):List (Nat × Nat × Nat) :=
 if k=1 then [(1,0,b1f),(2,0,b1f),(3,0,b1f)]
 else if k=2 then [(13,0,b1f),(1,0,b1f),(2,0,b1f),(3,0,b1f)]
 else if k=3 then [(14,bAlpha,b1f),(15,bIor,bIorM)]
 else if k=4 then [(14,bAlpha,b1f),(7,bMet,bMetM),(8,bMet,bMetM),(9,bMet,bMetM),(10,bMet,bMetM),(11,bMet,bMetM),(12,bMet,bMetM)]
 else if k=5 then [(16,0,b1f)]
 else if k=6 then [(15,bIor,bIorM),(4,0,b1f),(5,0,b1f),(6,0,b1f)]
 else []
theorem own_new (W:World) (B base:Nat) (hB:W.heap.size=B) (hb:base <= B) (t:TypeId) (size n:Nat) (cs:List Value) (hl:cs.length=n*size) (hn:n <= maxLen):(W.alloc (.cells cs.toArray t)).ownsRow base t size (.slice (some ⟨B,0,none⟩) n n) n cs:=by
 subst hB
 exact ⟨hl,.inr ⟨_,n,cs.toArray,rfl,hb,heap_alloc_new W _,Nat.le_refl _,hn,by simpa using hl,by simp [<- hl]⟩⟩
def FldPost (w:World) (k:Nat) (e:Ending) (w':World):Prop :=
 ∃ v l,e = .returned v∧w'.ownsRow w.heap.size 114 3 v l.length (fcells l)∧FOk w' w.heap.size l∧l.map Fd.tri=fieldList k∧Below w.heap.size w w'
theorem own_le {w:World} {base base' size n:Nat} {e:TypeId} {v:Value} {xs:List Value} (h:w.ownsRow base e size v n xs) (hb:base' <= base):w.ownsRow base' e size v n xs:=by
 refine ⟨h.1,?_⟩
 rcases h.2 with h0 | ⟨g,cap,cur,hv,hg,r⟩
 ·exact .inl h0
 ·exact .inr ⟨g,cap,cur,hv,Nat.le_trans hb hg,r⟩
theorem own_below {B:Nat} {e:TypeId} {k:Nat} {v:Value} {n:Nat} {xs:List Value} {w w':World} (h:w.ownsRow B e k v n xs) (hb:Below w.heap.size w w'):w'.ownsRow B e k v n xs:=by
 refine ⟨h.1,?_⟩
 rcases h.2 with h0 | ⟨g,cap,cur,hv,hg,hh,r⟩
 ·exact .inl h0
 ·exact .inr ⟨g,cap,cur,hv,hg,(hb.block g (Array.getElem?_eq_some_iff.1 hh).1).trans hh,r⟩
theorem row_at {W:World} {base n:Nat} {t:TypeId} {v:Value} {xs:List Value} (h:W.ownsRow base t 3 v n xs) (hn:0<n):∃ g cap,v = .slice (some ⟨g,0,none⟩) n cap∧base <= g∧g<W.heap.size∧xs.length=n*3 ∧ ∀ j u,xs[j]? = some u -> W.cell? ((⟨g,0,none⟩:Addr).add j)=some u:=by
 obtain ⟨g,cap,hv,hb,hlt⟩:=h.form hn
 subst hv
 exact ⟨g,cap,rfl,hb,hlt,h.1,h.cells (g:=g) rfl⟩
theorem single_ok (w:World) (B:Nat) (f:FuncId) (off lo hi:Nat) (h:(f,off)∈singleF):FOk w B [⟨.func (.func f) #[] #[],off,lo,hi⟩]:=by
 intro d hd
 simp only [List.mem_cons,List.not_mem_nil,or_false] at hd
 subst hd
 exact .inl ⟨f,rfl,h⟩
abbrev dA:Fd:=⟨.func (.func 85) #[] #[],14,bAlpha,b1f⟩
abbrev dI:Fd:=⟨.func (.func 86) #[] #[],15,bIor,bIorM⟩
abbrev dS:Fd:=⟨.func (.func 87) #[] #[],13,0,b1f⟩
abbrev dW:Fd:=⟨.func (.func 90) #[] #[],16,0,b1f⟩
def w2 (w1:World):World:=(w1.alloc (.cells #[.func (.func 85) #[] #[],.float .f64 bAlpha,.float .f64 b1f] 114)).alloc
 (.cells #[.func (.func 86) #[] #[],.float .f64 bIor,.float .f64 bIorM] 114)
theorem tri_len {l:List Fd} {r:List (Nat × Nat × Nat)} (h:l.map Fd.tri=r):l.length=r.length:=by rw [<- h,List.length_map]
set_option maxRecDepth 100000 in
set_option maxHeartbeats 4000000 in
theorem fields1 (w:World):Calls Tryz.prog 55 #[.int .u8 1] w (FldPost w 1):=by
 go_enter Tryz.func55,Tryz.ntmps55
 go_wp2_with fail
 refine (three_any _ 1 _ _ (by decide) w).mono ?_
 rintro e w1 ⟨v,l,rfl,hown,hF,htri,hB⟩
 have hs:=hB.size
 go_wp2_with fail
 go_ret
 exact ⟨v,l,rfl,(hown.alloc _).alloc _,(hF.alloc _).alloc _,by rw [htri]; rfl,(hB.alloc hs _).alloc (by simp; omega) _⟩
set_option maxRecDepth 100000 in
set_option maxHeartbeats 4000000 in
theorem fields2 (w:World):Calls Tryz.prog 55 #[.int .u8 2] w (FldPost w 2):=by
 obtain ⟨i0,hi0,hz0,hz1,hz2⟩:=info_parts Tryz.fieldInfo
 go_enter Tryz.func55,Tryz.ntmps55
 go_wp2_with fail
 refine (three_any _ 1 _ _ (by decide) w).mono ?_
 rintro e w1 ⟨v,l,rfl,hown,hF,htri,hB⟩
 have hs:=hB.size
 have hl:l.length=3:=tri_len htri
 rw [hl] at hown
 have ho2:=((hown.alloc (.cells (dA.cells).toArray 114)).alloc (.cells (dI.cells).toArray 114)).alloc (.cells (dS.cells).toArray 114)
 have hF2:=((hF.alloc (.cells (dA.cells).toArray 114)).alloc (.cells (dI.cells).toArray 114)).alloc (.cells (dS.cells).toArray 114)
 have hB2:=((hB.alloc hs (.cells (dA.cells).toArray 114)).alloc (by simp; omega) (.cells (dI.cells).toArray 114)).alloc (by simp; omega) (.cells (dS.cells).toArray 114)
 have hn2:=own_new ((w1.alloc (.cells (dA.cells).toArray 114)).alloc (.cells (dI.cells).toArray 114)) (w1.heap.size+1+1) w.heap.size (by simp) (by omega) 114 3 1 dS.cells rfl (by decide)
 obtain ⟨g,cap,rfl,hg,hgl,hxl,hcell⟩:=row_at ho2 (by omega)
 clear hown hF hB
 go_wp2_with (first
  | (at_builtin; refine wpList_append_own _ rfl _ _ 110 rfl w.heap.size 114 i0 (.agg #[.nilFunc,.float .f64 0,.float .f64 0]) 3 24 Tryz.underlying110 hi0 hz0 hz1 hz2 rfl (by decide) _ _ _ rfl hn2 ⟨g,0,none⟩ 3 cap (fcells l) rfl hxl hcell hF2.one (by decide) (by decide) ?c5 ?_))
 case c5=>simp; omega
 intro v' w3 ho3 hg3 _
 have hF3:=hF2.grown hn2 hg3
 have hB3:=hB2.grown hg3 (by simp; omega) (fun r e=>own_base hn2 e)
 go_wp2_with fail
 go_ret
 exact ⟨v',dS :: l,rfl,by rw [List.length_cons,hl]; exact ho3,(single_ok _ _ _ _ _ _ (by decide)).app hF3,by rw [List.map_cons,htri]; rfl,hB3⟩
set_option maxRecDepth 100000 in
set_option maxHeartbeats 4000000 in
theorem fields3 (w:World):Calls Tryz.prog 55 #[.int .u8 3] w (FldPost w 3):=by
 go_enter Tryz.func55,Tryz.ntmps55
 go_wp2_with fail
 refine (three_any _ 1 _ _ (by decide) w).mono ?_
 rintro e w1 ⟨v,l,rfl,hown,hF,htri,hB⟩
 have hs:=hB.size
 have hB2:=((hB.alloc hs (.cells (dA.cells).toArray 114)).alloc (by simp; omega) (.cells (dI.cells).toArray 114)).alloc (by simp; omega) (.cells (fcells [dA,dI]).toArray 114)
 have hn2:=own_new ((w1.alloc (.cells (dA.cells).toArray 114)).alloc (.cells (dI.cells).toArray 114)) (w1.heap.size+1+1) w.heap.size (by simp) (by omega) 114 3 2 (fcells [dA,dI]) rfl (by decide)
 clear hown hF
 go_wp2_with fail
 go_ret
 exact ⟨_,[dA,dI],rfl,hn2,(single_ok _ _ _ _ _ _ (by decide)).app (single_ok _ _ _ _ _ _ (by decide)),rfl,hB2⟩
set_option maxRecDepth 100000 in
set_option maxHeartbeats 4000000 in
theorem fields5 (w:World):Calls Tryz.prog 55 #[.int .u8 5] w (FldPost w 5):=by
 go_enter Tryz.func55,Tryz.ntmps55
 go_wp2_with fail
 refine (three_any _ 1 _ _ (by decide) w).mono ?_
 rintro e w1 ⟨v,l,rfl,hown,hF,htri,hB⟩
 have hs:=hB.size
 have hB2:=((hB.alloc hs (.cells (dA.cells).toArray 114)).alloc (by simp; omega) (.cells (dI.cells).toArray 114)).alloc (by simp; omega) (.cells (fcells [dW]).toArray 114)
 have hn2:=own_new ((w1.alloc (.cells (dA.cells).toArray 114)).alloc (.cells (dI.cells).toArray 114)) (w1.heap.size+1+1) w.heap.size (by simp) (by omega) 114 3 1 (fcells [dW]) rfl (by decide)
 clear hown hF
 go_wp2_with fail
 go_ret
 exact ⟨_,[dW],rfl,hn2,single_ok _ _ _ _ _ _ (by decide),rfl,hB2⟩
set_option maxRecDepth 100000 in
set_option maxHeartbeats 4000000 in
theorem fields0 (k:Nat) (hk:k=0∨6<k) (w:World):Calls Tryz.prog 55 #[.int .u8 k] w (FldPost w k):=by
 have h1:((k:Int) == 1)=false:=by rw [beq_eq_false_iff_ne]; omega
 have h2:((k:Int) == 2)=false:=by rw [beq_eq_false_iff_ne]; omega
 have h3:((k:Int) == 3)=false:=by rw [beq_eq_false_iff_ne]; omega
 have h4:((k:Int) == 4)=false:=by rw [beq_eq_false_iff_ne]; omega
 have h5:((k:Int) == 5)=false:=by rw [beq_eq_false_iff_ne]; omega
 have h6:((k:Int) == 6)=false:=by rw [beq_eq_false_iff_ne]; omega
 go_enter Tryz.func55,Tryz.ntmps55
 go_wp2_with fail
 refine (three_any _ 1 _ _ (by decide) w).mono ?_
 rintro e w1 ⟨v,l,rfl,hown,hF,htri,hB⟩
 have hs:=hB.size
 have hB2:=((hB.alloc hs (.cells (dA.cells).toArray 114)).alloc (by simp; omega) (.cells (dI.cells).toArray 114))
 clear hown hF
 go_wp2_with fail
 go_ret
 exact ⟨_,[],rfl,World.ownsRow_nil _ _ _ _,by intro d hd; simp at hd,by unfold fieldList; rw [if_neg (by omega),if_neg (by omega),if_neg (by omega),if_neg (by omega),if_neg (by omega),if_neg (by omega)]; rfl,hB2⟩
set_option maxRecDepth 100000 in
set_option maxHeartbeats 4000000 in
theorem fields4 (w:World):Calls Tryz.prog 55 #[.int .u8 4] w (FldPost w 4):=by
 obtain ⟨i0,hi0,hz0,hz1,hz2⟩:=info_parts Tryz.fieldInfo
 go_enter Tryz.func55,Tryz.ntmps55
 go_wp2_with fail
 refine (three_any _ 1 _ _ (by decide) w).mono ?_
 rintro e w1 ⟨v,l,rfl,hown,hF,htri,hB⟩
 have hs:=hB.size
 have hB1:=(hB.alloc hs (.cells (dA.cells).toArray 114)).alloc (by simp; omega) (.cells (dI.cells).toArray 114)
 have c0:∀ j,j<3 -> ((w1.alloc (.cells (dA.cells).toArray 114)).alloc (.cells (dI.cells).toArray 114)).cell? ⟨w1.heap.size,j,none⟩=(dA.cells)[j]?:=fun j hj=>by
  rw [World.cell?_alloc_past _ _ _ (by simp),World.cell?_alloc_at _ _ _ _ rfl]; simp
 clear hown hF htri
 go_wp2_with fail
 refine (three_any _ 7 _ _ (by decide) _).mono ?_
 rintro e w2 ⟨v2,l2,rfl,ho2,hF2,ht2,hB2⟩
 have hs2:=hB2.size
 simp only [World.size_alloc] at hs2 ho2 hF2 hB2
 have c2:∀ j,j<3 -> w2.cell? ⟨w1.heap.size,j,none⟩=(dA.cells)[j]?:=fun j hj=>(hB2.cell (p:=⟨w1.heap.size,j,none⟩) (by simp; omega)).trans (c0 j hj)
 clear c0
 go_wp2_with fail
 refine (three_any _ 10 _ _ (by decide) _).mono ?_
 rintro e w3 ⟨v3,l3,rfl,ho3,hF3,ht3,hB3⟩
 have hs3:=hB3.size
 have c3:∀ j,j<3 -> w3.cell? ⟨w1.heap.size,j,none⟩=(dA.cells)[j]?:=fun j hj=>(hB3.cell (p:=⟨w1.heap.size,j,none⟩) (by simp; omega)).trans (c2 j hj)
 have cA0:w3.cell? ⟨w1.heap.size,0,none⟩=some dA.F:=c3 0 (by omega)
 have cA1:w3.cell? ⟨w1.heap.size,1,none⟩=some (.float .f64 bAlpha):=c3 1 (by omega)
 have cA2:w3.cell? ⟨w1.heap.size,2,none⟩=some (.float .f64 b1f):=c3 2 (by omega)
 clear c2 c3
 have hl2:l2.length=3:=tri_len ht2
 have hl3:l3.length=3:=tri_len ht3
 rw [hl2] at ho2
 rw [hl3] at ho3
 have o2:=(own_below ho2 hB3).alloc (.cells dA.cells.toArray 114)
 have F2:=((hF2.below hB3 (Nat.le_refl _)).alloc (.cells dA.cells.toArray 114)).le (B':=w.heap.size) (by omega)
 have F3:=(hF3.alloc (.cells dA.cells.toArray 114)).le (B':=w.heap.size) (by omega)
 have hn:=own_new w3 w3.heap.size w.heap.size rfl (by omega) 114 3 1 dA.cells rfl (by decide)
 have hB4:=((hB1.trans (hB2.mono (by omega))).trans (hB3.mono (by omega))).alloc (by omega) (.cells dA.cells.toArray 114)
 obtain ⟨g3,cap3,rfl,hg3,hgl3,hxl3,hcell3⟩:=row_at ho3 (by omega)
 obtain ⟨g2,cap2,rfl,hg2,hgl2,hxl2,hcell2⟩:=row_at o2 (by omega)
 clear ho2 hF2 hB2 ho3 hF3 hB1 hB3 hB
 go_wp2_with (first
  | (at_builtin; refine wpList_append_own _ rfl _ _ 110 rfl w.heap.size 114 i0 (.agg #[.nilFunc,.float .f64 0,.float .f64 0]) 3 24 Tryz.underlying110 hi0 hz0 hz1 hz2 rfl (by decide) _ _ _ rfl hn ⟨g2,0,none⟩ 3 cap2 (fcells l2) rfl hxl2 hcell2 F2.one (by decide) (by decide) ?c5 ?_))
 case c5=>simp; omega
 intro v4 w4 ho4 hg4 _
 have hcell4:∀ j u,(fcells l3)[j]? = some u -> w4.cell? ((⟨g3,0,none⟩:Addr).add j)=some u:=fun j u hu=>by
  rw [World.cell?_of_block (hg4.block _ (by rw [block_of_add]; simp; omega) (by rw [block_of_add]; simp [Value.ownBlock]; omega)),World.cell?_alloc_lt _ _ _ (by rw [block_of_add]; exact hgl3)]
  exact hcell3 j u hu
 have F24:=F2.grown hn hg4
 have F34:=F3.grown hn hg4
 have hB5:=hB4.grown hg4 (by simp; omega) (fun r e=>own_base hn e)
 have hw4:=hB5.size
 clear F2 F3 hB4 hn hcell3 hcell2 hg4 o2
 go_wp2_with (first
  | (at_builtin; refine wpList_append_own _ rfl _ _ 110 rfl w.heap.size 114 i0 (.agg #[.nilFunc,.float .f64 0,.float .f64 0]) 3 24 Tryz.underlying110 hi0 hz0 hz1 hz2 rfl (by decide) _ _ _ rfl ho4 ⟨g3,0,none⟩ 3 cap3 (fcells l3) rfl hxl3 hcell4 F34.one (by decide) (by decide) ?c6 ?_))
 case c6=>omega
 intro v5 w5 ho5 hg5 _
 have F25:=F24.grown ho4 hg5
 have F35:=F34.grown ho4 hg5
 have hB6:=hB5.grown hg5 (by omega) (fun r e=>own_base ho4 e)
 go_wp2_with fail
 go_ret
 exact ⟨v5,(dA :: l2) ++ l3,rfl,by rw [List.length_append,List.length_cons,hl2,hl3,fcells_app]; exact ho5,((single_ok _ _ _ _ _ _ (by decide)).app F25).app F35,by rw [List.map_append,List.map_cons,ht2,ht3]; rfl,hB6⟩
set_option maxRecDepth 100000 in
set_option maxHeartbeats 4000000 in
theorem fields6 (w:World):Calls Tryz.prog 55 #[.int .u8 6] w (FldPost w 6):=by
  obtain ⟨i0,hi0,hz0,hz1,hz2⟩:=info_parts Tryz.fieldInfo
  go_enter Tryz.func55,Tryz.ntmps55
  go_wp2_with fail
  refine (three_any _ 1 _ _ (by decide) w).mono ?_
  rintro e w1 ⟨v,l,rfl,hown,hF,htri,hB⟩
  have hs:=hB.size
  have hB1:=(hB.alloc hs (.cells (dA.cells).toArray 114)).alloc (by simp; omega) (.cells (dI.cells).toArray 114)
  clear hown hF htri
  have hs1:((w1.alloc (.cells dA.cells.toArray 114)).alloc (.cells dI.cells.toArray 114)).heap.size=w1.heap.size+1+1:=by simp
  have c0:∀ j,j<3 -> ((w1.alloc (.cells dA.cells.toArray 114)).alloc (.cells dI.cells.toArray 114)).cell? ⟨w1.heap.size+1,j,none⟩=(dI.cells)[j]?:=fun j hj=>by
    rw [World.cell?_alloc_at _ _ _ _ (by simp)]; simp
  have cI0:=c0 0 (by omega)
  have cI1:=c0 1 (by omega)
  have cI2:=c0 2 (by omega)
  go_wp2_with fail
  go_region_held3 (fun w'=>w'.cell? ⟨w1.heap.size+1,0,none⟩=some (.func (.func 86) #[] #[])∧w'.cell? ⟨w1.heap.size+1,1,none⟩=some (.float .f64 bIor)∧w'.cell? ⟨w1.heap.size+1,2,none⟩=some (.float .f64 bIorM))
    (first
      | go_keep
      | (go_split_ands
         refine ⟨?_,?_,?_⟩
         · (rw [hB2.cell (by simp)]; assumption)
         · (rw [hB2.cell (by simp)]; assumption)
         · (rw [hB2.cell (by simp)]; assumption))
      | (go_split_ands
         refine ⟨?_,?_,?_⟩
         · (rw [hgrowz.cell_far _ (by simp; omega) (by simp [Value.ownBlock]; try omega)]; assumption)
         · (rw [hgrowz.cell_far _ (by simp; omega) (by simp [Value.ownBlock]; try omega)]; assumption)
         · (rw [hgrowz.cell_far _ (by simp; omega) (by simp [Value.ownBlock]; try omega)]; assumption)))
    (first
      | (go_at_call 83; refine (three_any _ 4 _ _ (by decide) _).mono ?_; rintro e w2 ⟨v2,l2,rfl,ho2,hF2,ht2,hB2⟩; have hl2:l2.length=3:=tri_len ht2; rw [hl2] at ho2; obtain ⟨g2,cap2,rfl,hg2,hgl2,hxl2,hcell2⟩:=row_at ho2 (by decide); have hs2:w1.heap.size+1+1 <= w2.heap.size:=(by have:=hB2.size; simp at this; omega))
      | (guard_hyp hl2; refine step_append_lies _ (by rfl) _ _ _ (by rfl) w.heap.size 114 i0 (.agg #[.nilFunc,.float .f64 0,.float .f64 0]) 3 24 Tryz.underlying110 hi0 hz0 hz1 hz2 rfl (by omega) (.slice (some ⟨w2.heap.size,0,none⟩) 1 1) 1 dI.cells (by rfl)
          (own_new w2 w2.heap.size w.heap.size rfl (by omega) 114 3 1 dI.cells rfl (by decide)) ⟨g2,0,none⟩ 3 cap2 (fcells l2) (by rfl) hxl2 (fun j u hu=>by rw [World.cell?_alloc_lt _ _ _ (by rw [block_of_add]; exact hgl2)]; exact hcell2 j u hu) hF2.one (by omega) (by decide) (by decide) (by simp; omega) (w2.heap.size+1) (by simp) ?_; intro gg cap wz hownz hgrowz hatz hltz)
      | (guard_hyp hl2; refine step_append_lies _ (by rfl) _ _ _ (by rfl) w.heap.size 114 i0 (.agg #[.nilFunc,.float .f64 0,.float .f64 0]) 3 24 Tryz.underlying110 hi0 hz0 hz1 hz2 rfl (by omega) (.slice (some ⟨w1.heap.size+1+1,0,none⟩) 1 1) 1 dI.cells (by rfl)
          (own_below (own_new ((w1.alloc (.cells dA.cells.toArray 114)).alloc (.cells dI.cells.toArray 114)) (w1.heap.size+1+1) w.heap.size (by simp) (by omega) 114 3 1 dI.cells rfl (by decide)).drew hB2) ⟨g2,0,none⟩ 3 cap2 (fcells l2) (by rfl) hxl2 hcell2 hF2.one (by omega) (by decide) (by decide) (by omega) w2.heap.size (by simp) ?_; intro gg cap wz hownz hgrowz hatz hltz))
  · have hn:=(own_below (own_new ((w1.alloc (.cells dA.cells.toArray 114)).alloc (.cells dI.cells.toArray 114)) (w1.heap.size+1+1) w.heap.size (by simp) (by omega) 114 3 1 dI.cells rfl (by decide)).drew hB2)
    have F3:=(hF2.le (B':=w.heap.size) (by simp; omega)).grown hn hgrowz
    have hb:=(((hB1.alloc (by simp; omega) (.cells dI.cells.toArray 114)).drew.trans (hB2.mono (by simp; omega))).grown hgrowz (by omega) (fun r e=>own_base hn e))
    go_wp2
    go_ret
    exact ⟨_,dI :: l2,rfl,by rw [List.length_cons,hl2]; exact hownz,(single_ok _ _ _ _ _ _ (by decide)).app F3,by rw [List.map_cons,ht2]; rfl,hb⟩
  · have hn:=(own_new w2 w2.heap.size w.heap.size rfl (by omega) 114 3 1 dI.cells rfl (by decide))
    have F3:=((hF2.le (B':=w.heap.size) (by simp; omega)).alloc (.cells dI.cells.toArray 114)).grown hn hgrowz
    have hb:=(((hB1.drew.trans (hB2.mono (by simp; omega))).alloc (by omega) (.cells dI.cells.toArray 114)).grown hgrowz (by simp; omega) (fun r e=>own_base hn e))
    go_wp2
    go_ret
    exact ⟨_,dI :: l2,rfl,by rw [List.length_cons,hl2]; exact hownz,(single_ok _ _ _ _ _ _ (by decide)).app F3,by rw [List.map_cons,ht2]; rfl,hb⟩
theorem fields_any (k:Nat) (w:World):Calls Tryz.prog 55 #[.int .u8 k] w (FldPost w k):=by
 by_cases h:k=0∨6<k
 ·exact fields0 k h w
 ·have:k=1∨k=2∨k=3∨k=4∨k=5∨k=6:=by omega
  rcases this with rfl | rfl | rfl | rfl | rfl | rfl
  ·exact fields1 w
  ·exact fields2 w
  ·exact fields3 w
  ·exact fields4 w
  ·exact fields5 w
  ·exact fields6 w
end Go.Proofs.YtejmbbkklhpnaaaGreatDoor.nodew
