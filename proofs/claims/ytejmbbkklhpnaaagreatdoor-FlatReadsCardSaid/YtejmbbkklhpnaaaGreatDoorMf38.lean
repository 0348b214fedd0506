/- awake: the chapter's examples hold. No conditions. -/
import Derived.Test.YtejmbbkklhpnaaaGreatDoorMf36
import Derived.Test.YtejmbbkklhpnaaaGreatDoorMf37
import Derived.Test.YtejmbbkklhpnaaaGreatDoorMf19
import Derived.Test.YtejmbbkklhpnaaaGreatDoorMf34
import Derived.Test.YtejmbbkklhpnaaaGreatDoorMf33
import Derived.Test.YtejmbbkklhpnaaaGreatDoorRows
import Derived.Lib.LaidU8
import Derived.LaidMore
import Derived.ChangeArms
import Derived.Deep.Slices
import Derived.Below
import Derived.ChangeSame
namespace Go.Proofs.YtejmbbkklhpnaaaGreatDoor.flatw
open Go.RowKit Go.Shelf
open nodew
open chkw
open flatm
attribute [local go_sem] bld_arr bld_lam bld_mix bld_pls
theorem nil_arg (W:World):NArg W W.heap.size (.slice none 0 0) []:=⟨none,0,rfl,Nat.le_refl _,fun _=>rfl,fun h=>absurd rfl h⟩
theorem nfirst {W:World} {B:Nat} {A:Addr} (h:NArg W B (.slice (some A) 4 4) exP):NArg W B (.slice (some A) 1 4) [lamN]:=by
 obtain ⟨A',c,hv,hc,hn,hx⟩:=h
 obtain ⟨g,off,hA,h1,h2,h3⟩:=hx (by unfold exP; simp)
 injection hv with e1 e2 e3
 subst e1 e3
 refine ⟨_,4,rfl,by simp,(fun e=>by cases e),fun _=>⟨g,off,hA,h1,h2,fun j u hu=>h3 j u ?_⟩⟩
 have hj:j<19:=by have:=(List.getElem?_eq_some_iff.1 hu).1; rw [ncells_len] at this; simpa using this
 have he:ncells exP=ncells [lamN] ++ ncells [lamN,plsN,mixN 1]:=rfl
 rw [he,List.getElem?_append_left (by rw [ncells_len]; simpa using hj)]
 exact hu
set_option maxRecDepth 100000 in
set_option maxHeartbeats 600000 in
theorem awake20 (w:World):Calls Tryz.prog 17 #[] w (TruePost w):=by
 obtain ⟨W1,hW1⟩:∃ W1,W1=w.alloc (.cells lamN.cells.toArray 67):=⟨_,rfl⟩
 obtain ⟨W2,hW2⟩:∃ W2,W2=W1.alloc (.cells (mixN 1).cells.toArray 67):=⟨_,rfl⟩
 obtain ⟨W3,hW3⟩:∃ W3,W3=W2.alloc (.cells (ncells exP).toArray 67):=⟨_,rfl⟩
 have z1:W1.heap.size=w.heap.size+1:=by rw [hW1]; simp
 have n1:NBlk W1 w.heap.size lamN:=by rw [hW1]; exact heap_alloc_new w _
 have n12:NBlk W2 w.heap.size lamN:=by rw [hW2]; exact (Below.heap_alloc _ _ _ (by omega)).trans n1
 have n2:NBlk W2 (w.heap.size+1) (mixN 1):=by rw [hW2]; exact heap_at _ _ _ z1
 have z2:W2.heap.size=w.heap.size+1+1:=by rw [hW2]; simp [z1]
 have z3:W3.heap.size=w.heap.size+1+1+1:=by rw [hW3]; simp [z2]
 have n13:NBlk W3 w.heap.size lamN:=by rw [hW3]; exact (Below.heap_alloc _ _ _ (by omega)).trans n12
 have n23:NBlk W3 (w.heap.size+1) (mixN 1):=by rw [hW3]; exact (Below.heap_alloc _ _ _ (by omega)).trans n2
 have hB3:Below w.heap.size w W3:=by rw [hW3,hW2,hW1]; exact (((Below.refl _ _).alloc (Nat.le_refl _) _).alloc (by simp) _).alloc (by simp; omega) _
 have hown:W3.ownsRow w.heap.size 67 19 (.slice (some ⟨w.heap.size+1+1,0,none⟩) 4 4) 4 (ncells exP):=by
  rw [hW3]; exact own_new W2 (w.heap.size+1+1) w.heap.size z2 (by omega) _ 19 4 (ncells exP) rfl (by decide)
 have N12:=Lib.hid n12
 have N2:=Lib.hid n2
 have Z:=Lib.hid (And.intro z1 (And.intro z2 z3))
 have N13:=Lib.hid n13
 have N23:=Lib.hid n23
 have HB3:=Lib.hid hB3
 have HOWN:=Lib.hid hown
 clear n1 n12 n2 z1 z2 z3 n13 n23 hB3 hown
 go_enter Tryz.func17,Tryz.ntmps17
 go_upto_region 3 with (first | (rw [<- hW1]) | (rw [<- hW2]) | (rw [<- hW3]) | (refine wl_alloc_nd rfl rfl ?_) | (refine wl_store_new rfl (.tmp 1) (.tmp 13) rfl lamN rfl rfl ?_) | (refine wl_store_new rfl (.tmp 2) (.tmp 14) rfl (mixN 1) rfl rfl ?_) | (refine wl_load_nd rfl (.tmp 1) rfl (.pointer (some ⟨w.heap.size,0,none⟩)) rfl lamN N12.out.loadAt ?_) | (refine wl_load_nd rfl (.tmp 2) rfl (.pointer (some ⟨w.heap.size+1,0,none⟩)) rfl (mixN 1) N2.out.loadAt ?_))
 clear hW1 hW2
 have z1:=Z.out.1
 rw [z1]
 clear z1
 simp only [Act.put,List.setIfInBounds_toArray,List.set_cons_succ,List.set_cons_zero]
 go_upto_region 4 with (first | (rw [<- hW3]) | (refine wl_load_nd rfl (.tmp 1) rfl (.pointer (some ⟨w.heap.size,0,none⟩)) rfl lamN N12.out.loadAt ?_) | (refine wl_load_nd rfl (.tmp 2) rfl (.pointer (some ⟨w.heap.size+1,0,none⟩)) rfl (mixN 1) N2.out.loadAt ?_) | (refine wl_val rfl _ (exec_bs4 (.tmp 15) (.tmp 16) (.tmp 17) (.tmp 18) rfl rfl rfl rfl rfl) ?_))
 clear hW3
 have z2:=Z.out.2.1
 rw [z2]
 clear z2
 have hn3:NArg W3 W3.heap.size (.slice (some ⟨w.heap.size+1+1,0,none⟩) 4 4) exP:=NArg.of_own HOWN.out
 have HN3:=Lib.hid hn3
 have hf:=flat_any exP ex_ok ex_right _ W3 hn3
 rw [ex_flat] at hf
 have HF:=Lib.hid hf
 clear hn3 hf
 go_wp2_with fail
 (with_reducible refine HF.out.mono ?_)
 rintro e W4 ⟨v4,rfl,ho4,hB4⟩
 have hd:=depth_any exP ex_ok ex_right _ W4 ((HN3.out.ext hB4).mono hB4.size)
 rw [show exP.length-1=3 from rfl,ex_dep] at hd
 have HO4:=Lib.hid ho4
 have HB4:=Lib.hid hB4
 have HD:=Lib.hid hd
 clear ho4 hB4 hd HF
 go_wp2_with fail
 (with_reducible refine HD.out.mono ?_)
 rintro e W5 ⟨rfl,hB5⟩
 have hB35:=HB4.out.trans (hB5.mono HB4.out.size)
 have H45:=Lib.hid hB5
 have hf:=flat_no [] (fun n h=>by cases h) (by simp) ex_nil _ W5 (nil_arg W5)
 have HB5:=Lib.hid hB35
 have HF:=Lib.hid hf
 clear hB5 hB35 hf HD
 go_wp2_with fail
 (with_reducible refine HF.out.mono ?_)
 rintro e W6 ⟨rfl,hB6⟩
 have hB36:=HB5.out.trans (hB6.mono HB5.out.size)
 have H46:=Lib.hid (H45.out.trans (hB6.mono H45.out.size))
 have hd:=depth_any [lamN] (fun n h=>by obtain rfl:=List.mem_singleton.1 h; exact lam_ok) ex_one _ W6 (nfirst ((HN3.out.ext hB36).mono hB36.size))
 rw [show [lamN].length-1=0 from rfl,ex_dep1] at hd
 have HB6:=Lib.hid hB36
 have HD:=Lib.hid hd
 clear hB6 hB36 hd HF HB5
 go_wp2_with fail
 (with_reducible refine HD.out.mono ?_)
 rintro e W7 ⟨rfl,hB7⟩
 have hB37:=HB6.out.trans (hB7.mono HB6.out.size)
 have H47:=H46.out.trans (hB7.mono H46.out.size)
 have hz3:=Z.out.2.2
 have n17:NBlk W7 w.heap.size lamN:=(hB37.block _ (by omega)).trans N13.out
 have n27:NBlk W7 (w.heap.size+1) (mixN 1):=(hB37.block _ (by omega)).trans N23.out
 obtain ⟨W8,hW8⟩:∃ W8,W8=W7.setCell ⟨w.heap.size+1,18,none⟩ (.int .i64 0):=⟨_,rfl⟩
 have g8:W7.grownBy W8 (some (w.heap.size+1)):=by rw [hW8]; exact set_keep _ _ _ _ (Array.getElem?_eq_some_iff.1 n27).1
 have n28:NBlk W8 (w.heap.size+1) (mixN 0):=by rw [hW8]; exact nblk_store n27 18 _ rfl
 have n18:NBlk W8 w.heap.size lamN:=(g8.block _ (by have:=hB37.size; omega) (by intro e; injection e; omega)).trans n17
 have g38:W3.grownBy W8 (some (w.heap.size+1)):=grown_trans (grown_below hB37 _) g8
 have g48:W4.grownBy W8 (some (w.heap.size+1)):=grown_trans (grown_below H47 _) g8
 have hn8:NArg W8 W8.heap.size (.slice (some ⟨w.heap.size+1+1,0,none⟩) 4 4) exP:=NArg.of_own (HOWN.out.kept g38 (.inr (by show some (w.heap.size+1+1)≠_; intro e; injection e with e; omega)))
 have ho8:=HO4.out.kept g48 (by
  cases hv:v4.ownBlock with
  | none=>exact .inl rfl
  | some g=>exact .inr fun e=>by have:=(HO4.out.lt g hv).1; injection e with e; omega)
 have hB8:Below w.heap.size w W8:=HB3.out.grown g38 (by omega) (fun r e=>by injection e with e; omega)
 have hu:=used_any exP ex_ok (by decide) _ W8 hn8
 rw [ex_used] at hu
 have c18:W7.cell? ⟨w.heap.size+1,18,none⟩=some (.int .i64 1):=(n27.cell 18).trans rfl
 have f18:=nblk_frozen n27 18
 have HN28:=Lib.hid n28
 have HN18:=Lib.hid n18
 have HO8:=Lib.hid ho8
 have HB8:=Lib.hid hB8
 have HU:=Lib.hid hu
 clear H47 hz3 n17 n27 g8 n28 n18 g38 g48 hn8 ho8 hB8 hu hB7 hB37 HB6 HD HN3 HOWN HO4
 go_wp2_with (rw [<- hW8])
 (with_reducible refine HU.out.mono ?_)
 rintro e W9 ⟨v9,rfl,ho9,hB9⟩
 obtain ⟨WX,hWX⟩:∃ WX,WX=W9.alloc (.cells (intsV [0,1,3]).toArray 3):=⟨_,rfl⟩
 have hBX:Below W9.heap.size W9 WX:=by rw [hWX]; exact (Below.refl _ _).alloc (Nat.le_refl _) _
 have hr9:IRead WX v9 [0,1,3]:=(IRead.of_own ho9).ext hBX
 have hrX:IRead WX (.slice (some ⟨W9.heap.size,0,none⟩) 3 3) [0,1,3]:=IRead.of_own (base:=0) (by
  rw [hWX]; exact own_new W9 W9.heap.size 0 rfl (Nat.zero_le _) _ 1 3 (intsV [0,1,3]) rfl (by decide))
 have hi:=ints_eq v9 _ [0,1,3] (by decide) WX hr9 hrX
 have hB8X:=hB9.trans (hBX.mono hB9.size)
 have HI:=Lib.hid hi
 have HB8X:=Lib.hid hB8X
 clear ho9 hB9 hBX hr9 hrX hi hB8X HU c18 f18 hW8
 go_wp2_with (first | (rw [<- hWX]) | (refine wl_val rfl _ (exec_bs3 rfl) ?_))
 (with_reducible refine HI.out.mono ?_)
 rintro e WY ⟨rfl,hBY⟩
 have hB8Y:=HB8X.out.trans (hBY.mono HB8X.out.size)
 have n1Y:NBlk WY w.heap.size lamN:=(hB8Y.block _ (Array.getElem?_eq_some_iff.1 HN18.out).1).trans HN18.out
 have n2Y:NBlk WY (w.heap.size+1) (mixN 0):=(hB8Y.block _ (Array.getElem?_eq_some_iff.1 HN28.out).1).trans HN28.out
 obtain ⟨WZ,hWZ⟩:∃ WZ,WZ=WY.alloc (.cells (ncells [lamN,mixN 0]).toArray 67):=⟨_,rfl⟩
 have hBZ:Below WY.heap.size WY WZ:=by rw [hWZ]; exact (Below.refl _ _).alloc (Nat.le_refl _) _
 have hB8Z:=hB8Y.trans (hBZ.mono hB8Y.size)
 have hrZ:NRead WZ WZ.heap.size (.slice (some ⟨WY.heap.size,0,none⟩) 2 2) [lamN,mixN 0]:=NRead.of_own (base:=0) (by
  rw [hWZ]; exact own_new WY WY.heap.size 0 rfl (Nat.zero_le _) _ 19 2 (ncells [lamN,mixN 0]) rfl (by decide))
 have hr4:NRead WZ WZ.heap.size v4 [lamN,mixN 0]:=(((NArg.of_own HO8.out).ext hB8Z).mono hB8Z.size).read
 have hs:=same18_eq WZ.heap.size v4 _ [lamN,mixN 0] (by decide) WZ hr4 hrZ (Nat.le_refl _)
 have HS:=Lib.hid hs
 have HB8Z:=Lib.hid hB8Z
 have HN1:=Lib.hid n1Y
 have HN2:=Lib.hid n2Y
 clear hBY hB8Y n1Y n2Y hBZ hB8Z hrZ hr4 hs HI HB8X HN18 HN28 HO8 hWX
 go_wp2_with (first | (rw [<- hWZ]) | (refine wpList_load_nd_g _ ?_ (.tmp 1) rfl w.heap.size rfl lamN HN1.out ?_; rotate_right) | (refine wpList_load_nd_g _ ?_ (.tmp 2) rfl (w.heap.size+1) rfl (mixN 0) HN2.out ?_; rotate_right) | (refine wl_val_g ?_ _ (exec_bs2 (.tmp 47) (.tmp 48) rfl rfl rfl) ?_; rotate_right))
 (with_reducible refine HS.out.mono ?_)
 rintro e WW ⟨rfl,hBW⟩
 have hBw:=HB8.out.trans ((HB8Z.out.trans (hBW.mono HB8Z.out.size)).mono HB8.out.size)
 have HBW:=Lib.hid hBw
 clear hBW hBw HS HB8Z hWZ
 go_wp2_with fail
 go_ret
 exact ⟨rfl,HBW.out⟩
end Go.Proofs.YtejmbbkklhpnaaaGreatDoor.flatw

/- burnishlaw20.FlatReads: the walk. Conditions: the nodes lie in memory, their numbers are numbers; the library's tables hold what the row lists. -/
namespace Go.Proofs.YtejmbbkklhpnaaaGreatDoor.bkr
open Go.RowKit
open nodew
open chkw
open prnw (Bel Env Gl hiP loP bA bA_size textT textP textE text_any)
open flow (Laid)
theorem conv_one (c:Nat) (hc:c<256) (W:World):(convert 23 9 (.slice (some ⟨W.heap.size,0,none⟩) 1 1)).run Tryz.prog (W.alloc (.cells #[.int .u8 (c:Int)] 5)).drew = .ok (.string ⟨#[c.toUInt8]⟩) (W.alloc (.cells #[.int .u8 (c:Int)] 5)).drew:=by
 have:=run_convert_bytes_back (P:=Tryz.prog) (W.alloc (.cells #[.int .u8 (c:Int)] 5)).drew 23 9 5 ⟨W.heap.size,0,none⟩ 1 [c.toUInt8] (by kernel_rfl) (by kernel_rfl) (by kernel_rfl) fun j hj=>by
  obtain rfl:j=0:=by simpa using hj
  have hh:(W.alloc (.cells #[.int .u8 (c:Int)] 5)).drew.heap[W.heap.size]? = some (.cells #[.int .u8 (c:Int)] 5 (0,0)):=heap_alloc_new W _
  have ha:(⟨W.heap.size,0,none⟩:Addr).add 0=⟨W.heap.size,0,none⟩:=rfl
  rw [ha,cell_of_row _ W.heap.size 0 _ _ _ hh]
  show some (Value.int .u8 (c:Int))=some (.int .u8 ((c.toUInt8).toNat:Int))
  have:(c.toUInt8).toNat=c:=by
   rw [Nat.toUInt8,UInt8.toNat_ofNat']
   omega
  rw [this]
 exact this
theorem text_pos (l:List Nd) (h:rightP l=true):1 <= (bA (textT hiP loP l)).size:=by
 obtain ⟨_,hl0,_⟩:=prnw.right_at h
 rw [bA_size]
 unfold textT
 rw [if_pos h]
 obtain ⟨k,hk⟩:∃ k,l.length=k+1:=⟨l.length-1,by omega⟩
 rw [hk]
 show 1 <= (textP hiP loP l k ++ (prnw.lineT hiP loP (prnw.atN l k) k ++ [10])).length
 rw [List.length_append,List.length_append,List.length_singleton]
 omega
theorem sempty {s:ByteArray} (h:1 <= s.size):s.toList.isEmpty=false:=by
 rw [ByteArray.toList_eq]
 have h3:s.data.toList.length=s.size:=by simp
 cases hs:s.data.toList with
 | nil =>
  rw [hs] at h3
  exact absurd h3 (by simp; omega)
 | cons a r=>rfl
set_option maxRecDepth 100000 in
set_option maxHeartbeats 1000000 in
theorem reads_any (B:Nat) (v:Value) (l:List Nd) (hok:∀ n∈l,n.ok) (hkd:∀ n∈l,n.kind<256) (at_ c:Nat) (ha:at_<65536) (hc:c<256) (w:World) (hr:NRead w B v l) (hB:B <= w.heap.size) (hE:Env hiP loP w) (hL:Laid B w) (hG:Gl w.heap.size) :
  Calls Tryz.prog 6 #[v,.int .u16 (at_:Nat),.int .u8 (c:Nat)] w (Bel w (.bool true)):=by
 obtain ⟨A,cap,rfl,-⟩:=id hr
 have K0:=Lib.hid (KW.mk hE hL hG (Below.refl w.heap.size w))
 have CA:=Lib.hid (fun (u:World)=>flatw.awake20 u)
 obtain ⟨N,hN⟩:∃ N,N=l.length:=⟨_,rfl⟩
 by_cases h40:40<l.length
 ·rw [<- hN] at h40 ⊢
  have h40':(40:Int)<(N:Int):=by omega
  clear hok hkd hr hB hE hL hG hN
  go_enter Tryz.func6,Tryz.ntmps6
  go_wp2_with (go_at_call 17; (with_reducible refine (CA.out _).mono ?_); rintro e w1 ⟨rfl,hb1⟩)
  go_ret
  exact ⟨rfl,hb1⟩
 have hl:l.length <= 40:=by omega
 have CR:=Lib.hid (fun (u:World) (hb:KW B w u)=>nodew.right_any B (.slice A l.length cap) l hok (by omega) u (nread_ext hr hb.lo) (Nat.le_trans hB hb.lo.size))
 have h40':¬ (40:Int)<(N:Int):=by omega
 cases hp:rightP l with
 | false =>
  rw [<- hN] at CR ⊢
  rw [hp] at CR
  clear hok hkd hr hB hE hL hG hN h40 hl hp
  go_enter Tryz.func6,Tryz.ntmps6
  go_wp2_with (first
   | (go_at_call 14; (with_reducible refine (CR.out _ K0.out).mono ?_); rintro e w1 ⟨rfl,hb1⟩)
   | (go_at_call 17; (with_reducible refine (CA.out _).mono ?_); rintro e w2 ⟨rfl,hb2⟩))
  go_ret
  exact ⟨rfl,hb1.trans (hb2.mono hb1.size)⟩
 | true =>
  have CT:=Lib.hid (fun (u:World) (hb:KW B w u)=>text_any hiP loP B (.slice A l.length cap) l hok hkd (by omega) u (nread_ext hr hb.lo) (Nat.le_trans hB hb.lo.size) hb.en hb.gl)
  have CD:=Lib.hid (fun (s:ByteArray) (hs:s.size <= 1000000) (u:World) (hb:KW B w u)=>Read_any B s (by omega) u hb.la (Nat.le_trans hB hb.lo.size))
  have CS:=Lib.hid (fun (u:World) (hb:KW B w u) (v1:Value) (B1:Nat) (hB1:B1 <= u.heap.size) (h1:NRead u B1 v1 l)=>same18_any u.heap.size (.slice A l.length cap) v1 l l hok hok (by omega) (by omega) u (nread_up (nread_ext hr hb.lo) (Nat.le_trans hB hb.lo.size)) (nread_up h1 hB1) (Nat.le_refl _))
  obtain ⟨t1,t2,-⟩:=text_of l hok hp (by omega)
  have t0:=text_pos l hp
  have hEE:textE l=0:=by
   unfold textE
   rw [if_pos hp]
  obtain ⟨S,hS⟩:∃ S,S=bA (textT hiP loP l):=⟨_,rfl⟩
  rw [<- hS,hEE] at CT
  rw [<- hS] at t0 t1 t2
  have hS0:=sempty t0
  obtain ⟨k,hk⟩:∃ k,k=at_ % S.size:=⟨_,rfl⟩
  have hks:k<S.size:=by rw [hk]; exact Nat.mod_lt _ (by omega)
  have hki:Int.tmod (at_:Int) (S.size:Int)=(k:Int):=by rw [hk]; rfl
  obtain ⟨T,hT⟩:∃ T,T=S.extract 0 k ++ ⟨#[c.toUInt8]⟩ ++ S.extract (k+1) S.size:=⟨_,rfl⟩
  have hTs:T.size=S.size:=by
   have h1:(⟨#[c.toUInt8]⟩:ByteArray).size=1:=rfl
   rw [hT,ByteArray.size_append,ByteArray.size_append,ByteArray.size_extract,ByteArray.size_extract,h1]
   omega
  have hTl:T.data.toList.length=T.size:=by simp
  obtain ⟨f1,f2,f3⟩:=readL_facts T.data.toList (by omega)
  rw [hTl] at f1
  have CDT:=Lib.hid (CD.out T (by omega))
  obtain ⟨R,hR⟩:∃ R,R=readL T.data.toList:=⟨_,rfl⟩
  rw [<- hR] at f1 f2 f3 CDT
  obtain ⟨m,pl,g⟩:=R
  simp only at f1 f2 f3
  have f3':=fun h=>(f3 h).2.1
  rw [hp] at CR
  rw [<- hN] at CT CR CS ⊢
  have HS:=Lib.hid (And.intro t1 (And.intro t2 (And.intro hks hTs)))
  have HT:=Lib.hid hT
  have HF:=Lib.hid (And.intro f2 f3)
  clear hok hkd hr hB hE hL hG hN hS hEE h40 hl hp t1 t2 hk hTs hTl hT f2 f3 f3' hR
  go_enter Tryz.func6,Tryz.ntmps6
  go_upto_region 3 with (go_at_call 14; (with_reducible refine (CR.out _ K0.out).mono ?_); rintro e w1 ⟨rfl,hb1⟩; have K1:=Lib.hid (K0.out.on hb1); clear hb1)
  go_wp2_with fail
  refine (CT.out _ K1.out).mono ?_
  rintro e w2 ⟨rfl,hb2⟩
  have K2:=Lib.hid (K1.out.on hb2)
  clear hb2
  go_wp2_with fail
  refine (CD.out S HS.out.1 _ K2.out).mono ?_
  rw [HS.out.2.1]
  rintro e w3 ⟨v3,rfl,ho3,hb3⟩
  have K3:=Lib.hid (K2.out.on hb3)
  have CS3:=Lib.hid (CS.out w3 K3.out v3 w3.heap.size (Nat.le_refl _) (NRead.of_own ho3))
  rw [decide_true] at CS3
  clear ho3 hb3
  go_upto_region 7 with (go_at_call 16; (with_reducible refine CS3.out.mono ?_); rintro e w4 ⟨rfl,hb4⟩; have K4:=Lib.hid (K3.out.on hb4); clear hb4)
  have hcv:=fun W:World=>conv_one c hc W
  have hs1:(⟨#[c.toUInt8]⟩:ByteArray).size=1:=rfl
  have hks:=HS.out.2.2.1
  have hk1:(k:Int)<(S.size:Int):=by omega
  have hz0:(0:Int) <= (at_:Int):=by omega
  have hz9:(S.size:Int) <= 1000000:=by have:=HS.out.1; omega
  go_upto_region 8 with fail
  go_region
  have hTT:S.extract 0 k ++ ({ data:=#[UInt8.ofNat c] }:ByteArray) ++ S.extract (k+1) S.size=T:=HT.out.symm
  rw [hTT]
  obtain ⟨w5,hw5⟩:∃ w5,w5=(w4.alloc (.cells #[.int .u8 (c:Int)] 5)).drew:=⟨_,rfl⟩
  have K5:=Lib.hid (K4.out.on (show Below w4.heap.size w4 w5 from hw5 ▸ ((Below.refl w4.heap.size w4).alloc (Nat.le_refl _) _).drew))
  rw [<- hw5]
  clear hw5 hTT hcv hks hk1 hz0 hz9 hki hS0 t0 HT CS CS3 CT CD K4
  go_wp2_with fail
  refine (CDT.out _ K5.out).mono ?_
  rintro e w6 ⟨v6,rfl,ho6,hb6⟩
  simp only at ho6 ⊢
  have K6:=Lib.hid (K5.out.on hb6)
  have R6:=Lib.hid (NRead.of_own ho6)
  obtain ⟨A6,c6,rfl⟩:=chkw.row_form ho6
  clear ho6 hb6 CDT
  by_cases hg:g=0
  ·obtain ⟨rfl,hr,ho⟩:=HF.out.2 hg
   have hg0:((g:Int) != 0)=false:=by rw [hg]; rfl
   have hm4:=(prnw.right_at hr).1
   have CR6:=nodew.right_any w6.heap.size (.slice A6 m.length c6) m ho (by omega) w6 R6.out (Nat.le_refl _)
   rw [hr] at CR6
   have C6:=Lib.hid CR6
   clear hr ho hm4 CR6 hg HF f1 HS
   go_wp2_with (first
    | (go_at_call 14; (with_reducible refine C6.out.mono ?_); rintro e w7 ⟨rfl,hb7⟩; have K7:=Lib.hid (K6.out.on hb7); clear hb7)
    | (go_at_call 17; (with_reducible refine (CA.out _).mono ?_); rintro e w8 ⟨rfl,hb8⟩; have K8:=Lib.hid (K7.out.on hb8); clear hb8))
   go_ret
   exact ⟨rfl,K8.out.lo⟩
  ·have hm:=HF.out.1 hg
   subst hm
   have hg0:((g:Int) != 0)=true:=by rw [bne_iff_ne]; omega
   have hp0:=f1.1
   have hp1:=f1.2
   rw [show ([]:List Nd).length=0 from rfl]
   clear R6 hg HF f1 HS
   go_wp2_with (go_at_call 17; (with_reducible refine (CA.out _).mono ?_); rintro e w8 ⟨rfl,hb8⟩; have K8:=Lib.hid (K6.out.on hb8); clear hb8)
   go_ret
   exact ⟨rfl,K8.out.lo⟩
end Go.Proofs.YtejmbbkklhpnaaaGreatDoor.bkr

/- What the listed variables hold, out of the row's condition. No condition. -/
namespace Go.Proofs.YtejmbbkklhpnaaaGreatDoor.flow
open Go.RowKit
open parw
open rdf
open dcw
open dmx
open fpm
open prnw
section
variable {H:Type} {enc:TypeId × Value -> H} {P:Program} {w:World} {base:Nat} {sp:Nat -> Bool} {held:Bool}
theorem trod_float {fuel:Nat} {t:TypeId} {cs:List Value} {k:FloatKind} {x:DataW H × List MemPlace} (ht:P.underlying t=some (.float k)) (h:DataW.trod enc P w base sp held fuel t cs=some x):∃ n,cs=[.float k n]∧x=(.lit (.float k n),[]):=by
 cases fuel with
 | zero=>simp [DataW.trod] at h
 | succ n =>
  unfold DataW.trod at h
  rw [ht] at h
  split at h <;> simp_all
theorem trod_face {fuel:Nat} {t:TypeId} {ms:Array (String × TypeId)} {cs:List Value} {x:DataW H × List MemPlace} (ht:P.underlying t=some (.interface ms)) (h:DataW.trod enc P w base sp held fuel t cs=some x):∃ v,cs=[v]∧(v = .nilIface ∨ ∃ te pe,v = .iface te pe):=by
 cases fuel with
 | zero=>simp [DataW.trod] at h
 | succ n =>
  unfold DataW.trod at h
  rw [ht] at h
  split at h <;> simp_all
theorem open_rows {t e:TypeId} {k fuel:Nat} {cs:List Value} {ds:List (DataW H)} {p:List MemPlace} (ht:P.underlying t=some (.slice e)) (hc:P.cellsOf e=k) (hk:0<k) (h0:0<ds.length)
  (h:DataW.trod enc P w base sp held fuel t cs=some (.slice ds [],p)) :
  ∃ g off cap,cs=[.slice (some ⟨g,off,none⟩) ds.length cap]∧g<w.heap.size ∧ ∀ i d,ds[i]? = some d -> ∃ us n q,us.length=k∧(∀ j u,us[j]? = some u -> w.cell? ⟨g,off+(i*k+j),none⟩=some u)∧DataW.trod enc P w base sp held n e us=some (d,q):=by
 rcases DataW.trod_slice ht h with ⟨_,hx⟩ | ⟨a,len,cap,elems,rest,n,_,hcs,hx,_,hl,_,hlen,hel,_⟩
 ·simp at hx
 ·simp only [Prod.mk.injEq,DataW.slice.injEq] at hx
  obtain ⟨⟨rfl,_⟩,_⟩:=hx
  have el:(elems.map (·.1)).length=len:=by simpa using hlen
  have key:∀ i d,(elems.map (·.1))[i]? = some d -> ∃ us q,us.length=k∧(∀ j u,us[j]? = some u -> w.cell? (a.add (i*k+j))=some u)∧DataW.trod enc P w base sp held n e us=some (d,q):=fun i d hd=>by
   rw [List.getElem?_map,Option.map_eq_some_iff] at hd
   obtain ⟨⟨d',q⟩,hd,rfl⟩:=hd
   have hil:i<len:=by
    have:=(List.getElem?_eq_some_iff.1 hd).1
    omega
   have hi:=hel i hil
   rw [hd,hc,Option.bind_eq_some_iff] at hi
   obtain ⟨us,hus,htr⟩:=hi
   obtain ⟨_,hcl,hat⟩:=World.cells?_some hus
   refine ⟨us,q,hcl,fun j u hu => ?_,htr⟩
   have hj:j<k:=by have:=(List.getElem?_eq_some_iff.1 hu).1; omega
   have:=hat j hj
   rw [Go.Deep.add_add] at this
   rw [this,hu]
  obtain ⟨d0,hd0⟩:∃ d0,(elems.map (·.1))[0]? = some d0:=⟨_,List.getElem?_eq_getElem h0⟩
  obtain ⟨us0,q0,hu0,hat0,_⟩:=key 0 d0 hd0
  have hc0:=hat0 0 _ (List.getElem?_eq_getElem (by omega))
  have ha0:a.add (0*k+0)=a:=by unfold Addr.add; simp
  rw [ha0] at hc0
  obtain ⟨g,off,spot⟩:=a
  have hspot:spot=none:=by
   cases spot with
   | none=>rfl
   | some p=>unfold World.cell? at hc0; split at hc0 <;> simp at hc0
  subst hspot
  refine ⟨g,off,cap,by rw [hcs,el],World.block_lt_of_cell? w _ hc0,fun i d hd => ?_⟩
  obtain ⟨us,q,h1,h2,h3⟩:=key i d hd
  refine ⟨us,n,q,h1,fun j u hu => ?_,h3⟩
  have:=h2 j u hu
  have hadd:(⟨g,off,none⟩:Addr).add (i*k+j)=⟨g,off+(i*k+j),none⟩:=by unfold Addr.add; split <;> simp_all
  rwa [hadd] at this
end
def cheatB (k:Nat):Bool :=
 let r:=Go.Pinned.cheatRows.getD k (0,[])
 let c:=r.2.length
 decide (r.1=k+1-c) && decide (c <= k) && decide (10 ^ c <= 10*5 ^ k) && decide (5 ^ k<10 ^ c) && (List.range c).all (fun j=>decide ((r.2.getD j 0).toNat=48+5 ^ k / 10 ^ (c-1-j) % 10))
theorem cheats_ok:(List.range 60).all (fun k=>cheatB (k+1))=true:=by kernel_rfl
theorem cheats_len:Go.Pinned.cheatRows.length=61:=by kernel_rfl
theorem powtab_ok:(Rows.laid_internal_strconv_powtab (H:=Unit)) = .slice ((List.range 9).map fun k => .lit (.int .i64 (powT k:Nat))) []:=by kernel_rfl
theorem pow10_ok:(Rows.laid_internal_strconv_float64pow10 (H:=Unit)) = .slice ((List.range 23).map fun k => .lit (.float .f64 (p10 k))) []:=by kernel_rfl
set_option maxRecDepth 100000 in
theorem laid_of (L:List (String × DataW Unit)) (W:World) (h:laidMet Tryz.prog L W) (m1:("internal/strconv.optimize",Rows.laid_internal_strconv_optimize)∈L) (m2:("internal/strconv.float64info",Rows.laid_internal_strconv_float64info)∈L)
  (m3:("internal/strconv.float64pow10",Rows.laid_internal_strconv_float64pow10)∈L) (m4:("internal/strconv.powtab",Rows.laid_internal_strconv_powtab)∈L) (m5:("strconv.ErrRange",Rows.laid_strconv_ErrRange)∈L)
  (m6:("internal/strconv.leftcheats",Rows.laid_internal_strconv_leftcheats)∈L) (m7:("internal/strconv.pow10Tab",Rows.laid_internal_strconv_pow10Tab)∈L):Laid W.heap.size W:=by
 obtain ⟨g1,t1,cs1,f1,p1,hg1,ht1,hv1,hd1⟩:=Lib.laidMet.reads h m1
 obtain ⟨g2,t2,cs2,f2,p2,hg2,ht2,hv2,hd2⟩:=Lib.laidMet.reads h m2
 obtain ⟨g3,t3,cs3,f3,p3,hg3,ht3,hv3,hd3⟩:=Lib.laidMet.reads h m3
 obtain ⟨g4,t4,cs4,f4,p4,hg4,ht4,hv4,hd4⟩:=Lib.laidMet.reads h m4
 obtain ⟨g5,t5,cs5,f5,p5,hg5,ht5,hv5,hd5⟩:=Lib.laidMet.reads h m5
 obtain ⟨g6,t6,cs6,f6,p6,hg6,ht6,hv6,hd6⟩:=Lib.laidMet.reads h m6
 obtain ⟨g7,t7,cs7,f7,p7,hg7,ht7,hv7,hd7⟩:=Lib.laidMet.reads h m7
 obtain rfl:=Option.some.inj ((show Tryz.prog.globalNamed "internal/strconv.optimize" = some 2 by kernel_rfl).symm.trans hg1)
 obtain rfl:=Option.some.inj ((show Tryz.prog.globalNamed "internal/strconv.float64info" = some 11 by kernel_rfl).symm.trans hg2)
 obtain rfl:=Option.some.inj ((show Tryz.prog.globalNamed "internal/strconv.float64pow10" = some 16 by kernel_rfl).symm.trans hg3)
 obtain rfl:=Option.some.inj ((show Tryz.prog.globalNamed "internal/strconv.powtab" = some 15 by kernel_rfl).symm.trans hg4)
 obtain rfl:=Option.some.inj ((show Tryz.prog.globalNamed "strconv.ErrRange" = some 4 by kernel_rfl).symm.trans hg5)
 obtain rfl:=Option.some.inj ((show Tryz.prog.globalNamed "internal/strconv.leftcheats" = some 9 by kernel_rfl).symm.trans hg6)
 obtain rfl:=Option.some.inj ((show Tryz.prog.globalNamed "internal/strconv.pow10Tab" = some 8 by kernel_rfl).symm.trans hg7)
 obtain rfl:=Option.some.inj ((show (Tryz.prog.globals[2]?).map (·.type)=some 4 by kernel_rfl).symm.trans ht1)
 obtain rfl:=Option.some.inj ((show (Tryz.prog.globals[11]?).map (·.type)=some 263 by kernel_rfl).symm.trans ht2)
 obtain rfl:=Option.some.inj ((show (Tryz.prog.globals[16]?).map (·.type)=some 106 by kernel_rfl).symm.trans ht3)
 obtain rfl:=Option.some.inj ((show (Tryz.prog.globals[15]?).map (·.type)=some 86 by kernel_rfl).symm.trans ht4)
 obtain rfl:=Option.some.inj ((show (Tryz.prog.globals[4]?).map (·.type)=some 73 by kernel_rfl).symm.trans ht5)
 obtain rfl:=Option.some.inj ((show (Tryz.prog.globals[9]?).map (·.type)=some 248 by kernel_rfl).symm.trans ht6)
 obtain rfl:=Option.some.inj ((show (Tryz.prog.globals[8]?).map (·.type)=some 243 by kernel_rfl).symm.trans ht7)
 have k1:W.cell? ⟨2,0,none⟩=some (.bool true):=by
  obtain ⟨b,hb,hx⟩:=DataW.trod_bool Tryz.underlying4 hd1
  have:b=true:=by
   have:=congrArg Prod.fst hx
   simp [Rows.laid_internal_strconv_optimize] at this
   exact this
  subst this
  rw [World.var?_cell hg1 hv1 0]
  have:cs1[0]? = cs1.toList[0]?:=by simp
  rw [this,hb]; rfl
 have k2:W.cell? ⟨11,0,none⟩=some (.int .u64 52)∧W.cell? ⟨11,1,none⟩=some (.int .u64 11)∧W.cell? ⟨11,2,none⟩=some (.int .i64 (-1023)):=by
  obtain ⟨xs,n,_,hx,hlen,hn,hf⟩:=DataW.trod_struct Tryz.underlying263 hd2
  have hx1:=congrArg Prod.fst hx
  simp only [Rows.laid_internal_strconv_float64info,DataW.agg.injEq] at hx1
  have hc3 : Tryz.prog.cellsOf 263 = 3:=by kernel_rfl
  have hcu : Tryz.prog.cellsOf 166 = 1:=by kernel_rfl
  have hci : Tryz.prog.cellsOf 3 = 1:=by kernel_rfl
  rw [hc3] at hlen
  have hl:∀ j,j<3 -> cs2[j]? = cs2.toList[j]?:=fun j _=>by simp
  obtain ⟨cl,hcl⟩:∃ cl,cs2.toList=cl:=⟨_,rfl⟩
  rw [hcl] at hlen hf
  match cl,hlen,xs,hx1 with
  | [c0,c1,c2],_,[y0,y1,y2],hx1 =>
   simp only [List.map_cons,List.map_nil,List.cons.injEq,and_true] at hx1
   have h0:=hf 0 _ rfl
   change DataW.trod _ Tryz.prog W 0 _ false n 166 ((List.drop 0 [c0,c1,c2]).take (Tryz.prog.cellsOf 166))=some y0 at h0
   rw [hcu] at h0
   have h1:=hf 1 _ rfl
   change DataW.trod _ Tryz.prog W 0 _ false n 166 ((List.drop 1 [c0,c1,c2]).take (Tryz.prog.cellsOf 166))=some y1 at h1
   rw [hcu] at h1
   have h2:=hf 2 _ rfl
   change DataW.trod _ Tryz.prog W 0 _ false n 3 ((List.drop 2 [c0,c1,c2]).take (Tryz.prog.cellsOf 3))=some y2 at h2
   rw [hci] at h2
   obtain ⟨z0,e0,f0,_⟩:=DataW.trod_int Tryz.underlying166 h0
   obtain ⟨z1,e1,f1,_⟩:=DataW.trod_int Tryz.underlying166 h1
   obtain ⟨z2,e2,f2,_⟩:=DataW.trod_int Tryz.underlying3 h2
   rw [f0,f1,f2] at hx1
   have q0:z0=52:=by simpa using hx1.1.symm
   have q1:z1=11:=by simpa using hx1.2.1.symm
   have q2:z2 = -1023:=by simpa using hx1.2.2.symm
   have r0:c0 = .int .u64 z0:=by simpa using e0
   have r1:c1 = .int .u64 z1:=by simpa using e1
   have r2:c2 = .int .i64 z2:=by simpa using e2
   refine ⟨?_,?_,?_⟩
   ·rw [World.var?_cell hg2 hv2 0,hl 0 (by omega),hcl,r0,q0]; rfl
   ·rw [World.var?_cell hg2 hv2 1,hl 1 (by omega),hcl,r1,q1]; rfl
   ·rw [World.var?_cell hg2 hv2 2,hl 2 (by omega),hcl,r2,q2]; rfl
 have k3:FT W.heap.size W:=by
  rw [pow10_ok] at hd3
  obtain ⟨g,off,cap,hcs,hg,hel⟩:=open_rows (k:=1) Tryz.underlying106 (by kernel_rfl) (by omega) (by decide) hd3
  have c3:W.cell? ⟨16,0,none⟩=some (.slice (some ⟨g,off,none⟩) 23 cap):=by
   rw [World.var?_cell hg3 hv3 0]
   have:cs3[0]? = cs3.toList[0]?:=by simp
   rw [this,hcs]
   rfl
  refine ⟨World.block_lt_of_cell? W _ c3,g,off,cap,hg,c3,fun k hk => ?_⟩
  obtain ⟨us,n,q,h1,h2,h3⟩:=hel k (.lit (.float .f64 (p10 k))) (by rw [List.getElem?_map,List.getElem?_range (by omega)]; rfl)
  obtain ⟨z,hz,hx⟩:=trod_float Tryz.underlying38 h3
  have hz':z=p10 k:=by
   have:=congrArg Prod.fst hx
   simpa using this.symm
  have:=h2 0 (.float .f64 z) (by rw [hz]; rfl)
  rw [hz'] at this
  rw [<- this]
  congr 2
  omega
 have k4:∃ bb bo cap,bb<W.heap.size∧W.cell? ⟨15,0,none⟩=some (.slice (some ⟨bb,bo,none⟩) 9 cap) ∧ ∀ d,d <= 8 -> W.cell? ⟨bb,bo+d,none⟩=some (.int .i64 (powT d:Nat)):=by
  rw [powtab_ok] at hd4
  obtain ⟨g,off,cap,hcs,hg,hel⟩:=open_rows (k:=1) Tryz.underlying86 (by kernel_rfl) (by omega) (by decide) hd4
  have c4:W.cell? ⟨15,0,none⟩=some (.slice (some ⟨g,off,none⟩) 9 cap):=by
   rw [World.var?_cell hg4 hv4 0]
   have:cs4[0]? = cs4.toList[0]?:=by simp
   rw [this,hcs]
   rfl
  refine ⟨g,off,cap,hg,c4,fun k hk => ?_⟩
  obtain ⟨us,n,q,h1,h2,h3⟩:=hel k (.lit (.int .i64 (powT k:Nat))) (by rw [List.getElem?_map,List.getElem?_range (by omega)]; rfl)
  obtain ⟨z,hz,hx,_⟩:=DataW.trod_int Tryz.underlying3 h3
  have hz':z=(powT k:Nat):=by
   have:=congrArg Prod.fst hx
   simpa using this.symm
  have:=h2 0 (.int .i64 z) (by rw [hz]; rfl)
  rw [hz'] at this
  rw [<- this]
  congr 2
  omega
 have k5:∃ v,W.cell? ⟨4,0,none⟩=some v∧(v = .nilIface ∨ ∃ te pe,v = .iface te pe):=by
  obtain ⟨v,hv,hx⟩:=trod_face Tryz.underlying73 hd5
  refine ⟨v,?_,hx⟩
  rw [World.var?_cell hg5 hv5 0]
  have:cs5[0]? = cs5.toList[0]?:=by simp
  rw [this,hv]
  rfl
 have k6:LC W.heap.size W:=by
  have hd6':DataW.trod _ Tryz.prog W 0 _ false f6 248 cs6.toList=some (.slice (Go.Pinned.cheatRows.map fun x => .agg [.lit (.int .i64 x.1),.lit (.string x.2)]) [],p6):=hd6
  have hl0:(Go.Pinned.cheatRows.map fun x=>(DataW.agg [.lit (.int .i64 x.1),.lit (.string x.2)]:DataW Unit)).length=61:=by rw [List.length_map,cheats_len]
  obtain ⟨g,off,cap,hcs,hg,hel⟩:=open_rows (k:=2) Tryz.underlying248 (by kernel_rfl) (by omega) (by rw [hl0]; decide) hd6'
  rw [hl0] at hcs
  have c6:W.cell? ⟨9,0,none⟩=some (.slice (some ⟨g,off,none⟩) 61 cap):=by
   rw [World.var?_cell hg6 hv6 0]
   have:cs6[0]? = cs6.toList[0]?:=by simp
   rw [this,hcs]
   rfl
  refine ⟨World.block_lt_of_cell? W _ c6,g,off,cap,hg,c6,fun k hk1 hk => ?_⟩
  have hb:=List.all_eq_true.1 cheats_ok (k-1) (List.mem_range.2 (by omega))
  rw [show k-1+1=k by omega] at hb
  unfold cheatB at hb
  obtain ⟨⟨x1,x2⟩,hx⟩:∃ x,Go.Pinned.cheatRows.getD k (0,[])=x:=⟨_,rfl⟩
  have hk61:k<Go.Pinned.cheatRows.length:=by rw [cheats_len]; omega
  have hget:Go.Pinned.cheatRows[k]? = some (x1,x2):=by
   rw [<- hx,List.getD_eq_getElem?_getD,List.getElem?_eq_getElem hk61]
   rfl
  simp only [hx,Bool.and_eq_true,decide_eq_true_eq] at hb
  obtain ⟨⟨⟨⟨b1,b2⟩,b3⟩,b4⟩,b5⟩:=hb
  obtain ⟨us,n,q,h1,h2,h3⟩:=hel k _ (by rw [List.getElem?_map,hget]; rfl)
  obtain ⟨xs,m,_,hxx,hlen,hn,hf⟩:=DataW.trod_struct Tryz.underlying247 h3
  have hx1:=congrArg Prod.fst hxx
  simp only [DataW.agg.injEq] at hx1
  have hci : Tryz.prog.cellsOf 3 = 1:=by kernel_rfl
  have hcs1 : Tryz.prog.cellsOf 9 = 1:=by kernel_rfl
  match us,h1,xs,hx1 with
  | [u0,u1],_,[y0,y1],hx1 =>
   simp only [List.map_cons,List.map_nil,List.cons.injEq,and_true] at hx1
   have h30:=hf 0 _ rfl
   change DataW.trod _ Tryz.prog W 0 _ false m 3 ((List.drop 0 [u0,u1]).take (Tryz.prog.cellsOf 3))=some y0 at h30
   rw [hci] at h30
   have h31:=hf 1 _ rfl
   change DataW.trod _ Tryz.prog W 0 _ false m 9 ((List.drop 1 [u0,u1]).take (Tryz.prog.cellsOf 9))=some y1 at h31
   rw [hcs1] at h31
   obtain ⟨z0,e0,f0,_⟩:=DataW.trod_int Tryz.underlying3 h30
   obtain ⟨s1,e1,f1,_⟩:=DataW.trod_string Tryz.underlying9 h31
   rw [f0,f1] at hx1
   have q0:z0=((x1:Nat):Int):=by simpa using hx1.1.symm
   have q1:s1.data.toList=x2:=by simpa using hx1.2.symm
   have r0:u0 = .int .i64 z0:=by simpa using e0
   have r1:u1 = .string s1:=by simpa using e1
   have hsz:s1.size=x2.length:=by rw [<- q1]; simp
   refine ⟨x2.length,s1,?_,?_,⟨hsz,fun j hj => ?_⟩,b3,b4,b2⟩
   ·have:=h2 0 _ rfl
    rw [r0,q0,b1] at this
    exact this
   ·have:=h2 1 _ rfl
    rw [r1] at this
    exact this
   ·have hb5:=List.all_eq_true.1 b5 j (List.mem_range.2 (by omega))
    have hb6:=of_decide_eq_true hb5
    have e:s1[j]=x2.getD j 0:=by
     rw [<- q1,List.getD_eq_getElem?_getD,List.getElem?_eq_getElem (by simpa using hj)]
     rfl
    rw [e]
    exact hb6
 have k7:PT hiT loT W:=fun i hi=>by
  obtain ⟨f',d,q,hd,he⟩:=Lib.array_elem Tryz.underlying243 hd7 i hi
  have hlen:Go.Pinned.pow10Rows.length=696:=by kernel_rfl
  have hr:Go.Pinned.pow10Rows[i]? = some (hiT i,loT i):=by
   have:i<Go.Pinned.pow10Rows.length:=by rw [hlen]; exact hi
   unfold hiT loT
   rw [List.getD_eq_getElem?_getD,List.getElem?_eq_getElem this]
   rfl
  rw [List.getElem?_map,hr] at hd
  obtain rfl:=(Option.some.inj hd).symm
  obtain ⟨r1,r2,r3,_⟩:=row_spec i hi
  have hz:=Lib.ints_of_struct (zs:=[(hiT i:Int),(loT i:Int)]) (k:=.u64) Tryz.underlying242 (fun j f hf => ?_) (by kernel_rfl) he
  ·have hc2 : Tryz.prog.cellsOf 242 = 2:=by kernel_rfl
   rw [hc2] at hz
   have c0:cs7[i*2]? = some (.int .u64 (hiT i:Int)):=by
    have:=congrArg (·[0]?) hz
    simpa [List.getElem?_take,List.getElem?_drop] using this
   have c1:cs7[i*2+1]? = some (.int .u64 (loT i:Int)):=by
    have:=congrArg (·[1]?) hz
    simpa [List.getElem?_take,List.getElem?_drop] using this
   exact ⟨r2,r3,by rw [World.var?_cell hg7 hv7 (i*2)]; exact c0,by rw [World.var?_cell hg7 hv7 (i*2+1)]; exact c1⟩
  ·match j,hf with
   | 0,hf=>obtain rfl:=Option.some.inj hf; exact ⟨Tryz.underlying96,rfl,by kernel_rfl⟩
   | 1,hf=>obtain rfl:=Option.some.inj hf; exact ⟨Tryz.underlying96,rfl,by kernel_rfl⟩
   | k+2,hf=>cases hf
 obtain ⟨bb,bo,cap,n1,n2,n3⟩:=k4
 obtain ⟨v5,v51,v52⟩:=k5
 exact ⟨⟨⟨k6,World.block_lt_of_cell? W _ k2.1,k2.1,k2.2.1,k2.2.2,World.block_lt_of_cell? W _ n2,bb,bo,cap,n1,n2,n3⟩,k3,k7,World.block_lt_of_cell? W _ (k7 0 (by decide)).2.2.1,World.block_lt_of_cell? W _ k1,k1,Nat.le_refl _⟩,World.block_lt_of_cell? W _ v51,v5,v51,v52⟩
end Go.Proofs.YtejmbbkklhpnaaaGreatDoor.flow

/- A small lemma for every law of this seat: what has only grown is as the row asks. Its text is the guide's (extra-small), as the guide bids to copy it. -/
namespace Go.Proofs.YtejmbbkklhpnaaaGreatDoor.post
open Go.RowKit Go.WideShapes Go.ChangeShapes
section
variable {H:Type} {enc:TypeId × Value -> H} {P:Program}
theorem post_of_below {f:Func} {s:ChangeSpec} {apart fresh handsOn again:Bool} {W W':World} {args:Array Value} {v:Value} {ds gs:List (DataW H)} {before pa pv:List MemPlace}
  (hW:DataW.Whole enc P f.params.toList s.vars apart W args.toList ds gs before)
  (hres:∀ (b:Nat) (sp:Nat -> Bool) (hd:Bool),DataW.TrodAll enc P W' b sp hd f.resultTypes.toList (v.resultList f.resultTypes.size) (s.fn H (ds ++ gs)).results [])
  (hargs:∀ sp:Nat -> Bool,(∀ p∈before,sp p.block=true) -> DataW.TrodAll enc P W' 0 sp true f.params.toList args.toList (s.fn H (ds ++ gs)).args pa)
  (hvars:∀ sp:Nat -> Bool,(∀ p∈before,sp p.block=true) -> DataW.TrodVars enc P W' sp s.vars (s.fn H (ds ++ gs)).vars pv)
  (hps:before=pa ++ pv) (hb:Below W.heap.size W W')
  (hok:∀ (j:Nat) (t:TypeId) (r:Value),f.resultTypes[j]? = some t -> (v.resultList f.resultTypes.size)[j]? = some r -> Value.okWide P W' .any 0 t r) :
  s.post enc P f apart fresh handsOn again W args v W':=by
 have hlt:∀ p∈before,p.block<W.heap.size:=fun p hp=>hW.lt p hp
 have hold:∀ p∈before,(fun b=>decide (b<W.heap.size)) p.block=true:=fun p hp=>by simpa using hlt p hp
 refine ⟨ds,gs,before,[],pa,pv,hW,hres _ _ _,hargs _ hold,hvars _ hold,World.keptBut_mono (fun p hp=>⟨hp,?_⟩) (hb.frame (· ∈ before)),fun _ => ?_⟩
 ·rw [hps,List.mem_append] at hp
  exact Or.inr hp
 ·obtain ⟨_,_,_,_,_,hz,hn⟩:=hW
  refine ⟨hok,_,_,([] ++ pa) ++ pv,⟨[] ++ pa,pv,trodAll_append (hargs _ (fun _ _=>rfl)) (hres _ _ _),hvars _ (fun _ _=>rfl),rfl,?_,?_⟩,?_⟩
  ·intro b off hp
   have hin:MemPlace.cell b off∈before:=by rw [hps]; simpa using hp
   rw [hb.frozen (hlt _ hin)]
   exact hz b off hin
  ·intro ha
   have:=hn ha
   rw [hps] at this
   simpa using this
  ·intro p hp _
   rw [hps]
   simpa using hp
end
end Go.Proofs.YtejmbbkklhpnaaaGreatDoor.post
