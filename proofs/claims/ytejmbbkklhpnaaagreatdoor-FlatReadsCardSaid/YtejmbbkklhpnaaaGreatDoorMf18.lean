/- strings.Builder's copyCheck and WriteString. No conditions but those stated. -/
import Derived.Test.YtejmbbkklhpnaaaGreatDoorMf17
import Derived.Test.YtejmbbkklhpnaaaGreatDoorRows
import Derived.Test.YtejmbbkklhpnaaaGreatDoorMf15
import Derived.Lib.LaidU8
import Derived.LaidMore
import Derived.ChangeArms
import Derived.Shelf.Vars
import Derived.Lib.SplitLaws
namespace Go.Proofs.YtejmbbkklhpnaaaGreatDoor.prnw
open Go.RowKit
open Go.Shelf
open Go.Sort
open nodew
open chkw
open flatm
theorem bldInfo:(Tryz.prog.info? 71).map (·.size)=some 2:=by kernel_rfl
theorem bldLies:liesAt Tryz.prog Tryz.prog.depth 71 (2 / Tryz.prog.cellsOf 71) 0 71 1=true:=by kernel_rfl
set_option maxRecDepth 100000 in
set_option maxHeartbeats 1000000 in
theorem copy_fresh (b:Nat) (w:World) (h0:w.cell? ⟨b,0,none⟩=some (.pointer none)) (hsh:w.shape? b=some (71,2)) (hfz:w.frozen? ⟨b,0,none⟩=false) :
  Calls Tryz.prog 54 #[.pointer (some ⟨b,0,none⟩)] w fun e w'=>e = .returned (.tuple #[])∧w'=w.setCell ⟨b,0,none⟩ (.pointer (some ⟨b,0,none⟩)):=by
 obtain ⟨j,hj,hjs⟩:=Option.map_eq_some_iff.1 bldInfo
 go_enter Tryz.func54,Tryz.ntmps54
 go_wp2
 rw [Lib.run_to_unsafe w ⟨b,0,none⟩ Tryz.underlying69 Tryz.underlying144 hj (by rw [hjs]; decide) hsh (Nat.zero_lt_succ 1)]
 simp only [Result.andThen]
 rw [Oper.upon_value]
 go_wp2
 rw [run_callFunc_extern Tryz.func82 (by kernel_rfl) (by kernel_rfl) (by kernel_rfl) (e:=Extern.AbiNoEscape.same) (by kernel_rfl)]
 rw [Lib.run_noEscape]
 simp only [Result.andThen]
 rw [Oper.upon_value]
 go_wp2
 rw [Lib.run_from_unsafe w ⟨b,0,none⟩ Tryz.underlying144 Tryz.underlying69 hj hsh bldLies]
 simp only [Result.andThen]
 rw [Oper.upon_value]
 go_wp2
 go_end0
 exact ⟨rfl,rfl⟩
set_option maxRecDepth 100000 in
set_option maxHeartbeats 1000000 in
theorem copy_used (b:Nat) (w:World) (h0:w.cell? ⟨b,0,none⟩=some (.pointer (some ⟨b,0,none⟩))) :
  Calls Tryz.prog 54 #[.pointer (some ⟨b,0,none⟩)] w fun e w'=>e = .returned (.tuple #[])∧w'=w:=by
 obtain ⟨j,hj,hjs⟩:=Option.map_eq_some_iff.1 bldInfo
 go_enter Tryz.func54,Tryz.ntmps54
 go_wp2
 rw [Lib.run_neq_ptr_same w _ Tryz.underlying69 hj]
 go_wp2
 go_end0
 exact ⟨rfl,rfl⟩
abbrev BlF (B b:Nat) (bs:List Value) (w:World):Prop:=Lib.IsBuilderF 71 5 B b bs w
theorem copy_any (B b:Nat) (bs:List Value) (w:World) (h:BlF B b bs w) :
  Calls Tryz.prog 54 #[.pointer (some ⟨b,0,none⟩)] w fun e w'=>e = .returned (.tuple #[])∧(Lib.BuilderAtF 71 5 B b (.pointer (some ⟨b,0,none⟩)) bs w'∧Below B w w'):=by
 rcases h with h | h
 ·refine (copy_fresh b w h.cell0 h.shape h.frozen0).mono ?_
  rintro e w' ⟨rfl,rfl⟩
  exact ⟨rfl,h.used _,(Below.refl B w).setCell (p:=⟨b,0,none⟩) h.1 _⟩
 ·refine (copy_used b w h.cell0).mono ?_
  rintro e w' ⟨rfl,rfl⟩
  exact ⟨rfl,h,Below.refl B _⟩
set_option maxRecDepth 100000 in
set_option maxHeartbeats 1000000 in
theorem ws_any (B b:Nat) (bs:List Value) (s:ByteArray) (w:World) (h:BlF B b bs w) (hlen:bs.length+s.size <= 140737488355328) (hBw:B <= w.heap.size) :
  Calls Tryz.prog 26 #[.pointer (some ⟨b,0,none⟩),.string s] w fun e w'=>e = .returned (.tuple #[.int .i64 s.size,.nilIface])∧(BlF B b (bs ++ Lib.strCells s) w'∧Below B w w'):=by
 obtain ⟨i0,hi,hz0,hz1,hz2⟩:=info_parts u8Info
 have CC:=Lib.hid (copy_any B b bs w h)
 have hs9:(s.size:Int) <= 140737488355328:=by omega
 clear h
 go_enter Tryz.func26,Tryz.ntmps26
 go_upto_region 2 with (go_at_call 54; (with_reducible refine CC.out.mono ?_); rintro e w1 ⟨rfl,h1,hb1⟩; have H1:=Lib.hid (And.intro h1 hb1); clear h1 hb1)
 obtain ⟨⟨hB,v,hbk,hown,hne⟩,hb1⟩:=H1.out
 have c0:w1.cell? ⟨b,0,none⟩=some (.pointer (some ⟨b,0,none⟩)):=by rw [Lib.cell_of_heap hbk]; rfl
 have c1:w1.cell? ⟨b,1,none⟩=some v:=by rw [Lib.cell_of_heap hbk]; rfl
 have HH:=Lib.hid (And.intro hB (And.intro hbk (And.intro hown (And.intro hne hb1))))
 clear hB hbk hown hne hb1
 go_wp2_with (at_builtin; refine Lib.wpList_append_own_stringF _ rfl (.tmp 12) (.tmp 13) 23 9 rfl B 5 i0 Tryz.underlying23 Tryz.underlying9 hi hz0 hz1 hz2 _ _ _ rfl HH.out.2.2.1 s rfl ?c3 ?c4 ?c5 ?_)
 case c3=>unfold maxLen; omega
 case c4=>omega
 case c5=>have:=HH.out.2.2.2.2.size; omega
 intro v' w2 hown' hgrow _
 obtain ⟨hB,hbk,hown,hne,hb1⟩:=HH.out
 have hlt:b<w1.heap.size:=blk_lt hbk
 have hb2:w2.heap[b]? = some (.cells #[.pointer (some ⟨b,0,none⟩),v] 71 (0,0)):=by
  rw [hgrow.block b hlt (fun e=>hne e.symm)]
  exact hbk
 have d0:w2.cell? ⟨b,0,none⟩=some (.pointer (some ⟨b,0,none⟩)):=by rw [Lib.cell_of_heap hb2]; rfl
 have d1:w2.cell? ⟨b,1,none⟩=some v:=by rw [Lib.cell_of_heap hb2]; rfl
 have f1:w2.frozen? ⟨b,1,none⟩=false:=Lib.frozen_of_heap hb2 1
 obtain ⟨ao,n',cap,rfl⟩:∃ ao n' cap,v' = .slice ao n' cap:=by
  rcases hown'.2 with ⟨hv,_⟩ | ⟨g,cap,cur,fz,hv,_⟩
  ·exact ⟨_,_,_,hv⟩
  ·exact ⟨_,_,_,hv⟩
 have K2:=Lib.hid (And.intro hb2 (And.intro hown' hgrow))
 clear hB hbk hown hne hb1 hb2 hown' hgrow hlt
 go_wp2_with fail
 go_ret2
 obtain ⟨hB,hbk,hown,hne,hb1⟩:=HH.out
 obtain ⟨hb2,hown',hgrow⟩:=K2.out
 refine ⟨rfl,.inr ?_,?_⟩
 ·exact Lib.BuilderAtF.put (T := 71) (e := 5) hB hb2 (bs':=bs ++ Lib.strCells s) (by simpa [Lib.strCells_length] using hown') (by decide)
 ·exact (hb1.grown hgrow (by have:=hb1.size; omega) (fun k hk=>(hown.lt k hk).1)).setCell (p:=⟨b,1,none⟩) hB _
end Go.Proofs.YtejmbbkklhpnaaaGreatDoor.prnw

/- print.Text. Conditions: the nodes lie in memory, at most 4096. -/
namespace Go.Proofs.YtejmbbkklhpnaaaGreatDoor.prnw
open Go.RowKit
open Go.Shelf
open Go.Sort
open nodew
open chkw
open flatm
attribute [local go_sem] nodew.run_store_float
theorem BlF.grown {B b:Nat} {bs:List Value} {w w':World} (h:BlF B b bs w) (hg:w.grownBy w' none):BlF B b bs w':=by
 have k:∀ p,Lib.BuilderAtF 71 5 B b p bs w -> Lib.BuilderAtF 71 5 B b p bs w':=fun p h=>by
  have hlt:=h.lt
  obtain ⟨hB,v,hb,hown,hne⟩:=h
  exact ⟨hB,v,(hg.block b hlt (by simp)).trans hb,hown.kept hg (by cases hv:v.ownBlock <;> simp),hne⟩
 rcases h with h | h
 ·exact .inl (k _ h)
 ·exact .inr (k _ h)
def atN (l:List Nd) (k:Nat):Nd:=l.getD k ⟨0,[],0,0⟩
theorem atN_eq (l:List Nd) (k:Nat) (h:k<l.length):atN l k=l[k]:=by
 unfold atN
 rw [List.getD_eq_getElem?_getD,List.getElem?_eq_getElem h]
 rfl
def textP (hi lo:Nat -> Nat) (l:List Nd):Nat -> List UInt8
 | 0=>[]
 | k+1=>textP hi lo l k ++ (lineT hi lo (atN l k) k ++ [10])
def textT (hi lo:Nat -> Nat) (l:List Nd):List UInt8:=if rightP l=true then textP hi lo l l.length else []
def textE (l:List Nd):Int:=if rightP l=true then 0 else 190
theorem right_at {l:List Nd} (h:rightP l=true):l.length <= 4096∧0<l.length ∧ ∀ k (hk:k<l.length),nodeOk l[k] k=true:=by
 unfold rightP at h
 simp only [Bool.and_eq_true,decide_eq_true_eq] at h
 refine ⟨h.2,h.1.2,fun k hk => ?_⟩
 have:=List.all_eq_true.1 h.1.1 k (List.mem_range.2 hk)
 rw [List.getElem?_eq_getElem hk] at this
 exact this
theorem nf64 {n:Nd} (hn:n.ok) (j:Nat) (h1:1 <= j) (h2:j <= 16):n.f j<18446744073709551616:=by
 refine hn.2 _ ?_
 unfold Nd.f
 have hj:j-1<n.x.length:=by rw [hn.1]; omega
 rw [List.getD_eq_getElem?_getD,List.getElem?_eq_getElem hj]
 exact List.getElem_mem hj
theorem lineT_len {hi lo:Nat -> Nat} (hh:∀ i,i<696 -> 9223372036854775808 <= hi i∧hi i<18446744073709551616) (n:Nd) (hn:n.ok) (k:Int):(lineT hi lo n k).length <= 3000:=by
 unfold lineT
 split
 ·rename_i hok
  have h3:nodeOk n k=true∧0 <= k∧k<4096:=by
   unfold lineOk at hok
   simp only [Bool.and_eq_true,decide_eq_true_eq] at hok
   exact ⟨hok.2,hok.1.1,hok.1.2⟩
  obtain ⟨_,ha,hb⟩:=node_facts h3.1 h3.2.2
  have hs:=lineL_size (lo:=lo) hh n (fun j h1 h2=>nf64 hn j h1 h2) (by omega) (by omega) k (by omega) (by omega)
  have h12:=lineL_len hi lo n k
  have hj:=join_len [32] ((lineL hi lo n k).map (·.data.toList)) (fun x hx=>by
   obtain ⟨s,hs',rfl⟩:=List.mem_map.1 hx
   rw [bl_len]
   exact hs s hs')
  rw [List.length_map] at hj
  have hj2:(200+[(32:UInt8)].length)*(lineL hi lo n k).length <= 201*12:=Nat.mul_le_mul_left 201 h12
  omega
 ·decide
theorem textP_len {hi lo:Nat -> Nat} (hh:∀ i,i<696 -> 9223372036854775808 <= hi i∧hi i<18446744073709551616) (l:List Nd) (hl:∀ n∈l,n.ok):∀ k,k <= l.length -> (textP hi lo l k).length <= 3001*k
 | 0,_=>Nat.zero_le _
 | k+1,hk=>by
  have h1:=textP_len (lo:=lo) hh l hl k (by omega)
  have h2:=lineT_len (lo:=lo) hh (atN l k) (by rw [atN_eq l k (by omega)]; exact hl _ (List.getElem_mem _)) k
  have e:textP hi lo l (k+1)=textP hi lo l k ++ (lineT hi lo (atN l k) k ++ [10]):=rfl
  rw [e,List.length_append,List.length_append,List.length_cons,List.length_nil]
  omega
set_option maxRecDepth 100000 in
set_option maxHeartbeats 4000000 in
theorem text_any (hi lo:Nat -> Nat) (B:Nat) (v:Value) (l:List Nd) (hok:∀ n∈l,n.ok) (hkd:∀ n∈l,n.kind<256) (hl:l.length <= 1000000000000) (w:World) (hr:NRead w B v l) (hB:B <= w.heap.size) (hE:Env hi lo w) (hG:Gl w.heap.size) :
  Calls Tryz.prog 13 #[v] w (Bel w (.tuple #[.string (bA (textT hi lo l)),.int .i64 (textE l)])):=by
 have CR:=right_any B v l hok hl w hr hB
 obtain ⟨A,c,rfl,hx⟩:=hr
 have HR:=Lib.hid CR
 have HE:=Lib.hid (And.intro hE (And.intro hG hB))
 have HX:=Lib.hid hx
 have HO:=Lib.hid (And.intro hok hkd)
 cases hq:rightP l with
 | false =>
  have HQ:=Lib.hid hq
  rw [hq] at CR
  have HR2:=Lib.hid CR
  clear CR hE hG hB hok hkd hq hx
  go_enter Tryz.func13,Tryz.ntmps13
  go_wp2_with (go_at_call 14; (with_reducible refine HR2.out.mono ?_); rintro e w1 ⟨rfl,hb1⟩)
  go_ret2
  refine ⟨?_,hb1⟩
  unfold textT textE
  rw [if_neg (by rw [HQ.out]; decide),if_neg (by rw [HQ.out]; decide)]
  rfl
 | true =>
  have HQ:=Lib.hid hq
  obtain ⟨hl4,hl0,hall⟩:=right_at hq
  rw [hq] at CR
  have HR2:=Lib.hid CR
  have HA:=Lib.hid hall
  clear CR hE hG hB hok hkd hq hx hall hl
  go_enter Tryz.func13,Tryz.ntmps13
  go_upto_region 3 with (go_at_call 14; (with_reducible refine HR2.out.mono ?_); rintro e w1 ⟨rfl,hb1⟩; have B1:=Lib.hid hb1; clear hb1)
  go_wp2_with fail
  obtain ⟨hE,hG,hB⟩:=HE.out
  have b1:=B1.out
  have hz1:=b1.size
  have hE1:Env hi lo w1:=hE.later b1
  have hG1:Gl w1.heap.size:=⟨Nat.lt_of_lt_of_le hG.1 hz1,Nat.lt_of_lt_of_le hG.2.1 hz1,Nat.lt_of_lt_of_le hG.2.2 hz1⟩
  have HE1:=Lib.hid (And.intro hE1 (And.intro hG1 hz1))
  obtain ⟨wb,hwb⟩:∃ wb,wb=w1.alloc (.cells #[.pointer none,.slice none 0 0] 71):=⟨_,rfl⟩
  have hbf:BlF w1.heap.size w1.heap.size (Lib.byteCells (textP hi lo l 0)) wb:=by
   rw [hwb]
   exact .inl ⟨Nat.le_refl _,.slice none 0 0,heap_alloc_new w1 _,World.ownsRowF_nil _ _ _ _,by simp [Value.ownBlock]⟩
  have hbb:Below w1.heap.size w1 wb:=by rw [hwb]; exact (Below.refl _ _).alloc (Nat.le_refl _) _
  rw [<- hwb]
  have HBF:=Lib.hid (And.intro hbf hbb)
  clear hwb hbf hbb hE hG hB b1 hz1 hE1 hG1
  go_loopw [14] (fun i wr=>∃ k:Nat,k <= l.length∧i = .int .i64 k∧BlF w1.heap.size w1.heap.size (Lib.byteCells (textP hi lo l k)) wr∧Below w1.heap.size w1 wr) (fun i _=>l.length-(intOf i).toNat)
  case atStart=>exact ⟨0,Nat.zero_le _,rfl,HBF.out.1,HBF.out.2⟩
  case round =>
   obtain ⟨k,hk,rfl,hF,hBr⟩:=hrel
   have hz:=hBr.size
   by_cases hkl:k<l.length
   ·obtain ⟨g,off,rfl,hgB,hgl,hcell⟩:=HX.out (by intro e; subst e; simp at hkl)
    obtain ⟨n,hn⟩:∃ n,l[k]=n:=⟨_,rfl⟩
    have hno:n.ok:=HO.out.1 n (by rw [<- hn]; exact List.getElem_mem hkl)
    have hnk:n.kind<256:=HO.out.2 n (by rw [<- hn]; exact List.getElem_mem hkl)
    have hgw:g<w1.heap.size:=Nat.lt_of_lt_of_le hgl HE1.out.2.2
    have hrg:wr.rangeAt g (off+k*19) n.cells:=fun j u hu=>by
     have hj:j<19:=by have:=(List.getElem?_eq_some_iff.1 hu).1; rwa [nd_cells_len] at this
     rw [Nat.add_assoc]
     exact (World.cell?_of_block (a:=⟨g,off+(k*19+j),none⟩) (hBr.block g hgw)).trans ((World.cell?_of_block (a:=⟨g,off+(k*19+j),none⟩) (B1.out.block g hgl)).trans (hcell (k*19+j) u (by rw [ncells_get l k j hkl hj,hn]; exact hu)))
    have HNO:=Lib.hid (And.intro hno hnk)
    have HN:=Lib.hid hn
    have HR:=Lib.hid hrg
    have HF:=Lib.hid (And.intro hF hBr)
    clear hno hnk hn hcell hrg hF hBr
    go_wp2_with (first
     | (refine wpList_load_mid rfl 67 (.tmp 17) rfl g (off+k*19) rfl n.cells _ HR.out Tryz.underlying67 rfl (by kernel_rfl) ?_)
     | (refine wpList_store_row rfl 67 (.tmp 6) (.tmp 18) rfl wr.heap.size n.cells.toArray rfl rfl _ _ (heap_alloc_new wr _) (nd_info n) (by rw [nd_size]; rfl) (nd_one n) ?_)
     | (refine wpList_load_row rfl 67 (.tmp 6) rfl wr.heap.size rfl _ n.cells.toArray _ _ (setRow_heap _ _ _ _ _ _ (heap_alloc_new wr _)) Tryz.underlying67 rfl (by kernel_rfl) ?_))
    obtain ⟨W,hW⟩:∃ W,W=(wr.alloc (.cells #[.int .u8 0,.float .f64 0,.float .f64 0,.float .f64 0,.float .f64 0,.float .f64 0,.float .f64 0,.float .f64 0,.float .f64 0,.float .f64 0,.float .f64 0,.float .f64 0,.float .f64 0,.float .f64 0,.float .f64 0,.float .f64 0,.float .f64 0,.int .i64 0,.int .i64 0] 67)).setRow wr.heap.size n.cells.toArray:=⟨_,rfl⟩
    have hBW:Below wr.heap.size wr W:=by rw [hW]; exact below_setRow ((Below.refl _ _).alloc (Nat.le_refl _) _) (Nat.le_refl _) _
    rw [<- hW]
    clear hW
    obtain ⟨hF,hBr⟩:=HF.out
    obtain ⟨hE1,hG1,hz1⟩:=HE1.out
    have hWs:=hBW.size
    have hEW:Env hi lo W:=hE1.later (hBr.trans (hBW.mono hz))
    have hGW:Gl W.heap.size:=⟨Nat.lt_of_lt_of_le hG1.1 (by omega),Nat.lt_of_lt_of_le hG1.2.1 (by omega),Nat.lt_of_lt_of_le hG1.2.2 (by omega)⟩
    have hok:=HA.out k hkl
    rw [HN.out] at hok
    have hlo:lineOk n k=true:=by unfold lineOk; rw [hok,decide_eq_true (by omega),decide_eq_true (by omega)]; rfl
    have hle:lineE n k=0:=by unfold lineE; rw [if_pos hlo]
    have hll:=lineT_len (lo:=lo) hE1.tabs.2.1 n HNO.out.1 k
    have CLn:=line_any hi lo n HNO.out.1 HNO.out.2 k (by omega) (by omega) W hEW hGW
    rw [hle] at CLn
    refine CLn.mono ?_
    rintro e wy ⟨rfl,hBy⟩
    have hFy:BlF w1.heap.size w1.heap.size (Lib.byteCells (textP hi lo l k)) wy:=hF.grown (grown_below (hBW.trans (hBy.mono hWs)) none)
    have hBry:Below w1.heap.size w1 wy:=hBr.trans ((hBW.trans (hBy.mono hWs)).mono hz)
    obtain ⟨S,hS⟩:∃ S,S=bA (lineT hi lo n k):=⟨_,rfl⟩
    have hSs:S.size <= 3000:=by rw [hS,bA_size]; exact hll
    rw [<- hS]
    have hpl:=textP_len (lo:=lo) hE1.tabs.2.1 l HO.out.1 k hk
    have CW:=Lib.hid (ws_any w1.heap.size w1.heap.size _ (S ++ ⟨#[10]⟩) wy hFy (by rw [Lib.byteCells_length,ByteArray.size_append]; show _+(S.size+1) <= _; omega) hBry.size)
    have HS:=Lib.hid (And.intro hS (And.intro hFy hBry))
    clear hF hBr hE1 hG1 hz1 hWs hEW hGW hok hlo hle hll CLn hBy hFy hBry hS hpl hBW
    go_wp2_with (go_at_call 26; (with_reducible refine CW.out.mono ?_); rintro e w5 ⟨rfl,hF5,hB5⟩; have H5:=Lib.hid (And.intro hF5 hB5); clear hF5 hB5)
    go_roundw
    case rel =>
     refine ⟨k+1,by omega,by go_num,?_,HS.out.2.2.trans H5.out.2⟩
     have h5:=H5.out.1
     have e:textP hi lo l (k+1)=textP hi lo l k ++ (lineT hi lo n k ++ [10]):=by
      show _ ++ (lineT hi lo (atN l k) k ++ [10])=_
      rw [atN_eq l k hkl,HN.out]
     have e2:Lib.strCells (S ++ ⟨#[10]⟩)=Lib.byteCells (lineT hi lo n k ++ [10]):=by
      rw [Lib.strCells_eq,str_app,HS.out.1,bA_list]
     rw [e2,<- Lib.byteCells_append,<- e] at h5
     exact h5
    case measure=>simp [intOf]; omega
   ·obtain rfl:k=l.length:=by omega
    have CS:=Lib.hid (Tryz.Builder_String_any_k w1.heap.size w1.heap.size (textP hi lo l l.length) wr hF hBr.size)
    have HB:=Lib.hid hBr
    clear hF hBr
    go_wp2_with (go_at_call 27; (with_reducible refine CS.out.mono ?_); rintro e w5 ⟨rfl,hF5,hB5,_⟩; have H5:=Lib.hid hB5; clear hF5 hB5)
    go_ret2
    refine ⟨?_,B1.out.trans ((HB.out.trans H5.out).mono HE1.out.2.2)⟩
    unfold textT textE
    rw [if_pos HQ.out,if_pos HQ.out]
    rfl
end Go.Proofs.YtejmbbkklhpnaaaGreatDoor.prnw

/- What the library's tables hold, out of the row's condition. No condition. -/
namespace Go.Proofs.YtejmbbkklhpnaaaGreatDoor.prnw
open Go.RowKit
open Go.Shelf
open nodew
def hiP (i:Nat):Nat:=(Go.Pinned.pow10Rows.getD i (0,0)).1
def loP (i:Nat):Nat:=(Go.Pinned.pow10Rows.getD i (0,0)).2
theorem tabP:(List.range 696).all (fun i=>decide (9223372036854775808 <= hiP i) && decide (hiP i<18446744073709551616) && decide (loP i<18446744073709551616))=true:=by kernel_rfl
theorem tabP_bd (i:Nat) (h:i<696):9223372036854775808 <= hiP i∧hiP i<18446744073709551616∧loP i<18446744073709551616:=by
 have:=List.all_eq_true.1 tabP i (List.mem_range.2 h)
 simp only [Bool.and_eq_true,decide_eq_true_eq] at this
 exact ⟨this.1.1,this.1.2,this.2⟩
theorem rowsP_len:Go.Pinned.pow10Rows.length=696:=by kernel_rfl
theorem u64tab:Rows.laid_internal_strconv_uint64pow10 (H:=Unit)=Lib.tabData .u64 Lib.pow10Tab:=by kernel_rfl
set_option maxRecDepth 100000 in
theorem env_of (L:List (String × DataW Unit)) (W:World) (h:laidMet Tryz.prog L W) (m1:("internal/strconv.uint64pow10",Rows.laid_internal_strconv_uint64pow10)∈L) (m2:("internal/strconv.pow10Tab",Rows.laid_internal_strconv_pow10Tab)∈L) (hsh:W.ShapedOpen Tryz.prog):Env hiP loP W∧Gl W.heap.size:=by
 obtain ⟨g1,t1,cs1,f1,p1,hg1,ht1,hv1,hd1⟩:=Lib.laidMet.reads h m1
 obtain ⟨g2,t2,cs2,f2,p2,hg2,ht2,hv2,hd2⟩:=Lib.laidMet.reads h m2
 obtain rfl:=Option.some.inj ((show Tryz.prog.globalNamed "internal/strconv.uint64pow10" = some 7 by kernel_rfl).symm.trans hg1)
 obtain rfl:=Option.some.inj ((show Tryz.prog.globalNamed "internal/strconv.pow10Tab" = some 8 by kernel_rfl).symm.trans hg2)
 obtain rfl:=Option.some.inj ((show (Tryz.prog.globals[7]?).map (·.type)=some 229 by kernel_rfl).symm.trans ht1)
 obtain rfl:=Option.some.inj ((show (Tryz.prog.globals[8]?).map (·.type)=some 243 by kernel_rfl).symm.trans ht2)
 have k1:Lib.TabIs Tryz.prog W "internal/strconv.uint64pow10" .u64 Lib.pow10Tab:=by
  rw [u64tab] at hd1
  unfold Lib.TabIs
  rw [hv1,<- Lib.cells_of_tab Tryz.underlying229 Tryz.underlying96 (by kernel_rfl) (by kernel_rfl) hd1]
 have k2:∀ i,i<696 -> W.cell? ⟨8,i*2,none⟩=some (.int .u64 (hiP i:Nat))∧W.cell? ⟨8,i*2+1,none⟩=some (.int .u64 (loP i:Nat)):=fun i hi=>by
  obtain ⟨f',d,q,hd,he⟩:=Lib.array_elem Tryz.underlying243 hd2 i hi
  have hr:Go.Pinned.pow10Rows[i]? = some (hiP i,loP i):=by
   have:i<Go.Pinned.pow10Rows.length:=by rw [rowsP_len]; exact hi
   unfold hiP loP
   rw [List.getD_eq_getElem?_getD,List.getElem?_eq_getElem this]
   rfl
  rw [List.getElem?_map,hr] at hd
  obtain rfl:=(Option.some.inj hd).symm
  have hz:=Lib.ints_of_struct (zs:=[(hiP i:Int),(loP i:Int)]) (k:=.u64) Tryz.underlying242 (fun j f hf => ?_) (by kernel_rfl) he
  ·have hc2 : Tryz.prog.cellsOf 242 = 2:=by kernel_rfl
   rw [hc2] at hz
   have c0:cs2[i*2]? = some (.int .u64 (hiP i:Int)):=by
    have:=congrArg (·[0]?) hz
    simpa [List.getElem?_take,List.getElem?_drop] using this
   have c1:cs2[i*2+1]? = some (.int .u64 (loP i:Int)):=by
    have:=congrArg (·[1]?) hz
    simpa [List.getElem?_take,List.getElem?_drop] using this
   exact ⟨by rw [World.var?_cell hg2 hv2 (i*2)]; exact c0,by rw [World.var?_cell hg2 hv2 (i*2+1)]; exact c1⟩
  ·match j,hf with
   | 0,hf=>obtain rfl:=Option.some.inj hf; exact ⟨Tryz.underlying96,rfl,by kernel_rfl⟩
   | 1,hf=>obtain rfl:=Option.some.inj hf; exact ⟨Tryz.underlying96,rfl,by kernel_rfl⟩
   | k+2,hf=>cases hf
 have k3:∃ m:Int,W.cell? ⟨1,0,none⟩=some (.int .i64 m) :=
  cell_of_shapedOpen_int (t := 3) (zero:=#[.int .i64 0]) hsh (of_decide_eq_true (by kernel_rfl)) (by kernel_rfl) rfl (by kernel_rfl) (by kernel_rfl) Tryz.underlying3
 have n1:=World.block_lt_of_cell? W _ (k2 0 (by decide)).1
 have n2 : 7 < W.heap.size:=World.block_lt_of_cell? W _ (k1.cell hg1 0 (by decide))
 obtain ⟨m,hm⟩:=k3
 have n3:=World.block_lt_of_cell? W _ hm
 exact ⟨⟨⟨fun i hi=>⟨(tabP_bd i hi).2.1,(tabP_bd i hi).2.2,(k2 i hi).1,(k2 i hi).2⟩,fun i hi=>⟨(tabP_bd i hi).1,(tabP_bd i hi).2.1⟩,k1⟩,⟨m,hm⟩,n1,n2,n3⟩,n1,n2,n3⟩
end Go.Proofs.YtejmbbkklhpnaaaGreatDoor.prnw

/- Two positive floats' digits are of two values. Plain. -/
namespace Go.Proofs.YtejmbbkklhpnaaaGreatDoor.fpm
open Go Go.RowKit prnw
end Go.Proofs.YtejmbbkklhpnaaaGreatDoor.fpm

/- Plain laws ahead of PrintLines: lines of a text, words of a line. No conditions but those stated. -/
namespace Go.Proofs.YtejmbbkklhpnaaaGreatDoor.prnw
open Go.RowKit
open Go.Shelf
open nodew
def Ink (l:List UInt8):Prop:=∀ b∈l,33 <= b.toNat
theorem Ink.cons {b:UInt8} {r:List UInt8} (h:33 <= b.toNat) (k:Ink r):Ink (b :: r):=fun x hx=>by
 rcases List.mem_cons.1 hx with rfl | hx
 ·exact h
 ·exact k x hx
end Go.Proofs.YtejmbbkklhpnaaaGreatDoor.prnw

/- The value of a number's text. Plain. -/
namespace Go.Proofs.YtejmbbkklhpnaaaGreatDoor.fpm
open Go Go.RowKit prnw
def decA (v:Nat):List UInt8 -> Nat
 | []=>v
 | b :: r=>decA (10*v+(b.toNat-48)) r
def decV (l:List UInt8):Nat:=decA 0 l
theorem decA_app (r:List UInt8):∀ (l:List UInt8) (v:Nat),decA v (l ++ r)=decA (decA v l) r
 | [],_=>rfl
 | _ :: l,_=>decA_app r l _
theorem dg_val (u j:Nat):(Lib.dg u j).toNat-48=u / 10 ^ j % 10:=by
 unfold Lib.dg
 rw [UInt8.toNat_ofNat']
 omega
theorem dec_front (u N:Nat) (h:u<10 ^ N):∀ n,n <= N -> decV ((List.range n).map fun t=>Lib.dg u (N-1-t))=u / 10 ^ (N-n)
 | 0,_=>by
  rw [Nat.sub_zero,Nat.div_eq_of_lt h]
  rfl
 | n+1,hn=>by
  have ih:=dec_front u N h n (by omega)
  unfold decV at ih ⊢
  rw [List.range_succ,List.map_append,decA_app,ih]
  show 10*(u / 10 ^ (N-n))+((Lib.dg u (N-1-n)).toNat-48)=_
  rw [dg_val,show N-1-n=N-(n+1) by omega,show N-n=N-(n+1)+1 by omega,Nat.pow_succ,<- Nat.div_div_eq_div_mul]
  omega
theorem trim_val (u:Nat):∀ n,n <= Lib.nDigits u -> u / 10 ^ (Lib.nDigits u-n)=u / 10 ^ (Lib.nDigits u-trimTo u n)*10 ^ (n-trimTo u n)
 | 0,_=>by
  show _=u / 10 ^ (Lib.nDigits u-0)*10 ^ 0
  rw [Nat.pow_zero,Nat.mul_one]
 | n+1,hn=>by
  have ih:=trim_val u n (by omega)
  have hle:=trim_le u n
  by_cases hc:Lib.dg u (Lib.nDigits u-1-n)=48
  ·have e:trimTo u (n+1)=trimTo u n:=if_pos hc
   rw [e]
   have hz:=dg_val u (Lib.nDigits u-1-n)
   rw [hc] at hz
   change 0=_ at hz
   rw [show n+1-trimTo u n=(n-trimTo u n)+1 by omega,Nat.pow_succ,<- Nat.mul_assoc,<- ih,show Lib.nDigits u-n=Lib.nDigits u-(n+1)+1 by omega,Nat.pow_succ,<- Nat.div_div_eq_div_mul]
   rw [show Lib.nDigits u-1-n=Lib.nDigits u-(n+1) by omega] at hz
   omega
  ·have e:trimTo u (n+1)=n+1:=if_neg hc
   rw [e,Nat.sub_self,Nat.pow_zero,Nat.mul_one]
theorem dec_sd (u:Nat) (h:1 <= u):u=decV (sdH u :: sdL u)*10 ^ (Lib.nDigits u-(sdH u :: sdL u).length)∧(sdH u :: sdL u).length <= Lib.nDigits u:=by
 have hl:=sdL_len u h
 have ht:=trim_le u (Lib.nDigits u)
 have hv:=trim_val u (Lib.nDigits u) (Nat.le_refl _)
 rw [Nat.sub_self,Nat.pow_zero,Nat.div_one] at hv
 have e:sdH u :: sdL u=(List.range (trimTo u (Lib.nDigits u))).map fun t=>Lib.dg u (Lib.nDigits u-1-t):=by
  obtain ⟨T,hT⟩:∃ T,trimTo u (Lib.nDigits u)=T+1:=⟨(sdL u).length,hl.symm⟩
  rw [hT,List.range_succ_eq_map,List.map_cons,List.map_map]
  unfold sdH sdL
  rw [hT]
  rfl
 have hd:=dec_front u (Lib.nDigits u) (Lib.lt_pow_nDigits u) (trimTo u (Lib.nDigits u)) ht
 rw [List.length_cons,hl]
 refine ⟨?_,ht⟩
 rw [e,hd]
 exact hv
theorem dec_digits (u:Nat):decV (Lib.decDigits u)=u:=by
 rw [Lib.decDigits_eq,dec_front u _ (Lib.lt_pow_nDigits u) _ (Nat.le_refl _),Nat.sub_self,Nat.pow_zero,Nat.div_one]
def exV:List UInt8 -> Int
 | []=>0
 | b :: r=>if b=45 then -(decV r:Int) else (decV (b :: r):Int)
theorem ex_itoa (k:Int):exV (Lib.itoa k)=k:=by
 unfold Lib.itoa
 split
 ·show -((decV (Lib.decDigits k.natAbs):Nat):Int)=k
  rw [dec_digits]
  omega
 ·have hd:=dec_digits k.toNat
  have hi:∀ b∈Lib.decDigits k.toNat,b≠45:=fun b hb e=>by
   rw [Lib.decDigits_eq,List.mem_map] at hb
   obtain ⟨t,_,ht⟩:=hb
   rw [e] at ht
   have:=congrArg UInt8.toNat ht
   unfold Lib.dg at this
   rw [UInt8.toNat_ofNat'] at this
   change _=45 at this
   omega
  cases hl:Lib.decDigits k.toNat with
  | nil =>
   rw [hl] at hd
   change 0=_ at hd
   show (0:Int)=k
   omega
  | cons b r =>
   rw [hl] at hi hd
   show (if b=45 then _ else _)=k
   rw [if_neg (hi b List.mem_cons_self),hd]
   omega
theorem hh_T:∀ i,i<696 -> 9223372036854775808 <= hiP i∧hiP i<18446744073709551616:=fun i h=>by
 obtain ⟨r1,r2,_⟩:=row_spec i (by omega)
 exact ⟨r1,r2⟩
end Go.Proofs.YtejmbbkklhpnaaaGreatDoor.fpm
