/- The walk of burnishref18.Check. Conditions: the statements lie in memory; their lengths are within the reach. -/
import Derived.Test.YtcbgkbidgpemfaaGreatDoorMf00
import Derived.Test.YtcbgkbidgpemfaaGreatDoorMf36
import Derived.Test.YtcbgkbidgpemfaaGreatDoorMf29
import Derived.Test.YtcbgkbidgpemfaaGreatDoorMf30
import Derived.Test.YtcbgkbidgpemfaaGreatDoorMf33
import Derived.Test.YtcbgkbidgpemfaaGreatDoorMf35
import Derived.Test.YtcbgkbidgpemfaaGreatDoorMf12
import Derived.Deep.AppendLies
import Derived.BigQuiet
namespace Go.Proofs.YtcbgkbidgpemfaaGreatDoor
set_option maxRecDepth 100000
set_option maxHeartbeats 4000000
namespace chkw
open Go.RowKit
open lexw
open parw
open nodew
open qt
open Go.BigFrame
attribute [local go_sem] parw.run_store_float
theorem list2 {α:Type} {l:List α} (h:l.length=2):∃ a b,l=[a,b]:=by
 match l,h with
 | [a,b],_=>exact ⟨a,b,rfl⟩
theorem list3 {α:Type} {l:List α} (h:l.length=3):∃ a b c,l=[a,b,c]:=by
 match l,h with
 | [a,b,c],_=>exact ⟨a,b,c,rfl⟩
theorem list4 {α:Type} {l:List α} (h:l.length=4):∃ a b c d,l=[a,b,c,d]:=by
 match l,h with
 | [a,b,c,d],_=>exact ⟨a,b,c,d,rfl⟩
theorem list5 {α:Type} {l:List α} (h:l.length=5):∃ a b c d e,l=[a,b,c,d,e]:=by
 match l,h with
 | [a,b,c,d,e],_=>exact ⟨a,b,c,d,e,rfl⟩
theorem list7 {α:Type} {l:List α} (h:l.length=7):∃ a b c d e f g,l=[a,b,c,d,e,f,g]:=by
 match l,h with
 | [a,b,c,d,e,f,g],_=>exact ⟨a,b,c,d,e,f,g,rfl⟩
theorem made_any (B:Nat) (s:PStmt) (h0:0<(fieldList s.kind).length) (hl:s.args.length=(fieldList s.kind).length+belowN s.kind) (A:Option Addr) (c:Nat) (a b:Int) (w:World) (ha:ARead w B (.slice A s.args.length c) s.args) (hB:B <= w.heap.size) :
  Calls Tryz.prog 73 #[.agg #[.string s.name,.int .i64 s.pos,.int .u8 s.kind,.slice A s.args.length c],.int .i64 a,.int .i64 b] w fun e w'=>e = .returned (madeN s a b).val∧Below w.heap.size w w':=by
 have hk:=kinds_six s.kind h0;obtain ⟨nm,pos,k,args⟩:=s;simp only at hl ha hk ⊢;have hk:k=1∨k=2∨k=3∨k=4∨k=5∨k=6:=by simpa using hk
 rcases hk with rfl | rfl | rfl | rfl | rfl | rfl
 ·obtain ⟨x0,x1,x2,rfl⟩:=list3 (show args.length=3 from hl);exact made_k1 B nm pos x0 x1 x2 A c a b w ha hB
 ·obtain ⟨x0,x1,x2,x3,rfl⟩:=list4 (show args.length=4 from hl);exact made_k2 B nm pos x0 x1 x2 x3 A c a b w ha hB
 ·obtain ⟨x0,x1,rfl⟩:=list2 (show args.length=2 from hl);exact made_k3 B nm pos x0 x1 A c a b w ha hB
 ·obtain ⟨x0,x1,x2,x3,x4,x5,x6,rfl⟩:=list7 (show args.length=7 from hl);exact made_k4 B nm pos x0 x1 x2 x3 x4 x5 x6 A c a b w ha hB
 ·obtain ⟨x0,x1,x2,rfl⟩:=list3 (show args.length=3 from hl);exact made_k5 B nm pos x0 x1 x2 A c a b w ha hB
 ·obtain ⟨x0,x1,x2,x3,x4,rfl⟩:=list5 (show args.length=5 from hl);exact made_k6 B nm pos x0 x1 x2 x3 x4 A c a b w ha hB
def NS (look:ByteArray -> Option Nat) (fl:List (Nat × Nat × Nat)) (args:List PArg) (j:Nat) (m:Nd):Nd × Int × Nat :=
 if j<fl.length then (if (numsS (fl.drop j) (args.drop j) m).2.2=0 then namesS look (args.drop fl.length) 0 (numsS (fl.drop j) (args.drop j) m).1 else numsS (fl.drop j) (args.drop j) m)
 else namesS look (args.drop j) (j-fl.length) m
theorem NS_start (look:ByteArray -> Option Nat) (s:PStmt) (h0:0<(fieldList s.kind).length) (hl:s.args.length=(fieldList s.kind).length+belowN s.kind):NS look (fieldList s.kind) s.args 0 (nodeZ s.kind)=nodeS look s:=by
 unfold NS nodeS;rw [if_pos h0,if_neg (show ¬ ((fieldList s.kind).length=0∨s.args.length≠(fieldList s.kind).length+belowN s.kind) by omega)];simp only [List.drop_zero]
theorem NS_ok (look:ByteArray -> Option Nat) (fl:List (Nat × Nat × Nat)) (args:List PArg) (j:Nat) (m:Nd) (h1:j<fl.length) (h2:j<args.length) (hw:withinF fl[j].2.1 fl[j].2.2 args[j].num=true) :
  NS look fl args j m=NS look fl args (j+1) (Nd.put m fl[j].1 args[j].num):=by
 have hs:=numsS_step fl args j m h1 h2;rw [if_pos hw] at hs;unfold NS;rw [if_pos h1,hs]
 by_cases h3:j+1<fl.length
 ·rw [if_pos h3]
 ·have e:j+1=fl.length:=by omega
  rw [if_neg h3,e,List.drop_length];have e2:numsS [] (args.drop fl.length) (Nd.put m fl[j].1 args[j].num)=(Nd.put m fl[j].1 args[j].num,0,0):=by cases args.drop fl.length <;> rfl
  rw [e2,if_pos rfl,Nat.sub_self]
theorem NS_bad (look:ByteArray -> Option Nat) (fl:List (Nat × Nat × Nat)) (args:List PArg) (j:Nat) (m:Nd) (h1:j<fl.length) (h2:j<args.length) (hw:withinF fl[j].2.1 fl[j].2.2 args[j].num=false) :
  NS look fl args j m=(Nd.put m fl[j].1 args[j].num,args[j].pos,184):=by
 have hs:=numsS_step fl args j m h1 h2;rw [hw,if_neg (by decide)] at hs;unfold NS;rw [if_pos h1,hs,if_neg (by show ¬ (184:Nat)=0; decide)]
theorem NS_name (look:ByteArray -> Option Nat) (fl:List (Nat × Nat × Nat)) (args:List PArg) (j:Nat) (m:Nd) (h1:fl.length <= j) (h2:j<args.length) :
  NS look fl args j m=match look args[j].name with | none=>(m,args[j].pos,183) | some p=>NS look fl args (j+1) (Nd.setP m (j-fl.length) p):=by
 unfold NS;rw [if_neg (by omega),namesS_step look args j (j-fl.length) m h2]
 cases look args[j].name with
 | none=>rfl
 | some p =>
  show namesS look (args.drop (j+1)) (j-fl.length+1) _=if j+1<fl.length then _ else _;rw [if_neg (by omega),show j+1-fl.length=j-fl.length+1 by omega]
theorem NS_end (look:ByteArray -> Option Nat) (fl:List (Nat × Nat × Nat)) (args:List PArg) (m:Nd) (h1:fl.length <= args.length):NS look fl args args.length m=(m,0,0):=by
 unfold NS;rw [if_neg (by omega),List.drop_length];rfl
def mN (s:PStmt):Nat -> Nd
 | 0=>nodeZ s.kind
 | j+1=>match (fieldList s.kind)[j]?,s.args[j]? with | some d,some a=>Nd.put (mN s j) d.1 a.num | _,_=>mN s j
theorem mN_nums (s:PStmt) (hl:(fieldList s.kind).length <= s.args.length):∀ j,j <= (fieldList s.kind).length -> numsP ((fieldList s.kind).drop j) (s.args.drop j) (mN s j)=numsP (fieldList s.kind) s.args (nodeZ s.kind)
 | 0,_=>rfl
 | j+1,h=>by
  rw [<- mN_nums s hl j (by omega),List.drop_eq_getElem_cons (show j<(fieldList s.kind).length by omega),List.drop_eq_getElem_cons (show j<s.args.length by omega)];show _=numsP _ _ (Nd.put (mN s j) _ _);have e:mN s (j+1)=Nd.put (mN s j) ((fieldList s.kind)[j]'(by omega)).1 (s.args[j]'(by omega)).num:=by
   show (match (fieldList s.kind)[j]?,s.args[j]? with | some d,some a=>Nd.put (mN s j) d.1 a.num | _,_=>mN s j)=_;rw [List.getElem?_eq_getElem (by omega),List.getElem?_eq_getElem (by omega)]
  rw [e]
theorem mN_put (s:PStmt) (j:Nat) (h1:j<(fieldList s.kind).length) (h2:j<s.args.length):mN s (j+1)=Nd.put (mN s j) (fieldList s.kind)[j].1 s.args[j].num:=by
 show (match (fieldList s.kind)[j]?,s.args[j]? with | some d,some a=>Nd.put (mN s j) d.1 a.num | _,_=>mN s j)=_;rw [List.getElem?_eq_getElem h1,List.getElem?_eq_getElem h2]
theorem mN_stay (s:PStmt) (j:Nat) (h1:(fieldList s.kind).length <= j):mN s (j+1)=mN s j:=by
 show (match (fieldList s.kind)[j]?,s.args[j]? with | some d,some a=>Nd.put (mN s j) d.1 a.num | _,_=>mN s j)=_;rw [List.getElem?_eq_none h1]
theorem mN_last (s:PStmt) (hl:(fieldList s.kind).length <= s.args.length):∀ j,(fieldList s.kind).length <= j -> mN s j=numsP (fieldList s.kind) s.args (nodeZ s.kind):=by
 intro j hj
 induction j with
 | zero =>
  have:=mN_nums s hl 0 (by omega);rw [<- this];have e:(fieldList s.kind)=[]:=List.eq_nil_of_length_eq_zero (by omega);rw [e]
  cases s.args <;> rfl
 | succ j ih =>
  by_cases e:(fieldList s.kind).length <= j
  ·rw [mN_stay s j e,ih e]
  ·have e:(fieldList s.kind).length=j+1:=by omega
   rw [<- mN_nums s hl (j+1) (by omega),<- e,List.drop_length]
   cases s.args.drop _ <;> rfl
theorem made_last (s:PStmt) (hl:s.args.length=(fieldList s.kind).length+belowN s.kind) (a b:Int):madeN s a b={ mN s s.args.length with a:=a,b:=b }:=by
 unfold madeN;rw [mN_last s (by omega) s.args.length (by omega)]
theorem kp_grown {B:Nat} {w W:World} {nb:Nat} {u:World} (hW:Below B w W) (h:Kp B w W nb u):W.grownBy u (some nb) :=
 ⟨h.low.os.trans hW.os.symm,h.low.tape.trans hW.tape.symm,h.low.output.trans hW.output.symm,h.size,fun b hb hne=>h.blk b hb (fun e=>hne (by rw [e]))⟩
theorem entsOf_next (l:List PStmt) (k:Nat) (h:k<l.length):entsOf l (k+1)=entsOf l k ++ [(l[k].name,k)]:=by rw [entsOf_succ,nameAt_lt l k h]
theorem findI_none {ents:List (ByteArray × Nat)} {nm:ByteArray} (h:lookE ents nm=none):findI ents nm = -1:=by unfold findI; rw [h]
theorem findI_some {ents:List (ByteArray × Nat)} {nm:ByteArray} {p:Nat} (h:lookE ents nm=some p):findI ents nm=p:=by unfold findI; rw [h]
theorem refcheck_any (B:Nat) (v:Value) (l:List PStmt) (_hkd:∀ s∈l,s.kind<256) (hl60:l.length <= 2000) (w:World) (hr:SR w B v l) (hB:B <= w.heap.size) :
  Calls Tryz.prog 43 #[v] w (CkPost w (checkS l)):=by
 obtain ⟨R,hR⟩:∃ R,R=checkS l:=⟨_,rfl⟩;rw [<- hR];have HR:=Yd hR;clear hR;obtain ⟨vs,A,c,hvl,rfl,hx,ha⟩:=id hr;have HX:=Yd hx;have HA:=Yd ha;have HVL:=Yd hvl;have HSR:=Yd hr;clear hx ha hvl hr _hkd;go_enter Tryz.func43,Tryz.ntmps43
 by_cases h0:l.length=0
 ·have hR:R=([],0,180):=by rw [HR.out]; unfold checkS; rw [if_pos h0]
  subst hR;have e0:((l.length:Int) == 0)=true:=Yt (by omega)
  clear h0;go_wp2_with fail;go_ret3;exact ⟨_,rfl,World.ownsRow_nil _ _ _ _,Below.refl _ _⟩
 ·have e0:((l.length:Int) == 0)=false:=Yf (by omega)
  have hR:R=chkA [] [] l:=by rw [HR.out]; unfold checkS; rw [if_neg h0]
  have HR:=Yd hR;clear hR;go_wp2_with fail;obtain ⟨i0,hi0,hiz0,hiz1,hiz2⟩:=info_parts nodeInfo;have hRC:=HR
  go_loopw [6,5] (fun i o wr=>∃ (k:Nat) (out:List Nd),k <= l.length∧i = .int .i64 k∧out.length=k∧wr.ownsRow w.heap.size 49 19 o out.length (ncells out)∧Below w.heap.size w wr∧chkA (entsOf l k) out (l.drop k)=chkA [] [] l)
   (fun i _ _=>l.length-(intOf i).toNat)
  case atStart=>exact ⟨0,[],Nat.zero_le _,rfl,rfl,World.ownsRow_nil _ _ _ _,Below.refl _ _,rfl⟩
  case round =>
   obtain ⟨k,out,hk,rfl,hok,hown,hlow,hch⟩:=hrel;have HOK:=Yd hok;have HCH:=Yd hch;clear hok hch;have hz:=hlow.size
   by_cases hkl:k<l.length
   ·as_aux_lemma =>
    obtain ⟨g,off,rfl,hgB,hcell⟩:=HX.out (by intro e; rw [e] at hkl; simp at hkl);have hkv:k<vs.length:=by rw [HVL.out]; exact hkl
    obtain ⟨st,hst⟩:∃ st,st=l[k]:=⟨_,rfl⟩;obtain ⟨av,hav⟩:∃ av,av=vs[k]:=⟨_,rfl⟩;obtain ⟨har,hac⟩:=HA.out k hkv hkl;have hcw:∀ j u,(stCells st av)[j]? = some u -> j<4 -> wr.cell? ⟨g,off+k*4+j,none⟩=some u:=fun j u hu hj=>by
     have:=hcell (k*4+j) u ((scells_get l vs k j hkv hkl hj HVL.out).trans (by rw [<- hst,<- hav]; exact hu));rw [<- Nat.add_assoc] at this;exact (hlow.cell (p:=⟨g,off+k*4+j,none⟩) (by show g<w.heap.size; omega)).trans this
    have r0:wr.cell? ⟨g,off+k*4,none⟩=some (.string st.name):=hcw 0 _ rfl (by omega);have r1:wr.cell? ⟨g,off+k*4+1,none⟩=some (.int .i64 st.pos):=hcw 1 _ rfl (by omega);have r2:wr.cell? ⟨g,off+k*4+2,none⟩=some (.int .u8 st.kind):=hcw 2 _ rfl (by omega);have r3:wr.cell? ⟨g,off+k*4+3,none⟩=some av:=hcw 3 _ rfl (by omega);rw [<- hst,<- hav] at har;rw [<- hav] at hac;have hch:chkA [] [] l=if 4096 <= out.length then ([],st.pos,181) else if (lookE (entsOf l k) st.name).isSome=true∨0<kindF st.name then ([],st.pos,182) else if (nodeS (lookE (entsOf l k)) st).2.2=0 then chkA (entsOf l (k+1)) (out ++ [(nodeS (lookE (entsOf l k)) st).1]) (l.drop (k+1)) else ([],(nodeS (lookE (entsOf l k)) st).2.1,(nodeS (lookE (entsOf l k)) st).2.2):=by
     rw [<- HCH.out,List.drop_eq_getElem_cons hkl,<- hst,chkA_eq,entsOf_next l k hkl,<- hst,HOK.out]
    have HC2:=Yd hch;have HAR:=Yd har;clear hcw hcell hch hst hav har hac hkv HCH HX HA HVL;have hk0:(0:Int) <= (k:Int):=by omega
    have hkli:(k:Int)<(l.length:Int):=by omega
    have hk96:¬ (4096:Int) <= (k:Int):=by omega
    obtain ⟨Ac,ac,hav,-⟩:=HAR.out;subst hav;have hbx:=heap_alloc_new wr (.cells #[.string st.name,.int .i64 st.pos,.int .u8 st.kind,.slice Ac st.args.length ac] 62);have hlx:=hlow.alloc hz (.cells #[.string st.name,.int .i64 st.pos,.int .u8 st.kind,.slice Ac st.args.length ac] 62);have hox:=hown.alloc (.cells #[.string st.name,.int .i64 st.pos,.int .u8 st.kind,.slice Ac st.args.length ac] 62);obtain ⟨oo,hoo⟩:∃ oo,oo=u5:=⟨_,rfl⟩;subst hoo;have hne:oo.ownBlock≠some wr.heap.size:=by
     intro e;have:=own_lt hown e;omega
    have HOX:=Yd hox;have HLX:=Yd hlx;have HBX:=Yd hbx;have HNE:=Yd hne;clear hbx hlx hox hown hlow hne;go_upto_region 8 with (fail);obtain ⟨X,hX⟩:∃ X,X=wr.alloc (.cells #[.string st.name,.int .i64 st.pos,.int .u8 st.kind,.slice Ac st.args.length ac] 62):=⟨_,rfl⟩;have hbx:=HBX.out;have hlx:=HLX.out;have hox:=HOX.out;have hXz:wr.heap.size<X.heap.size:=by rw [hX]; simp
    rw [<- hX] at hbx hlx hox ⊢;obtain ⟨sb,hsb⟩:∃ sb,sb=wr.heap.size:=⟨_,rfl⟩;have hne:=HNE.out;rw [<- hsb] at hbx hXz hne ⊢;have hws:w.heap.size <= sb:=by omega
    clear hX HBX HLX HOX HNE hsb r0 r1 r2 r3;have s0:X.cell? ⟨sb,0,none⟩=some (.string st.name):=(cell_of_row X sb 0 _ _ _ hbx).trans rfl;have s1:X.cell? ⟨sb,1,none⟩=some (.int .i64 st.pos):=(cell_of_row X sb 1 _ _ _ hbx).trans rfl;have s2:X.cell? ⟨sb,2,none⟩=some (.int .u8 st.kind):=(cell_of_row X sb 2 _ _ _ hbx).trans rfl;have s3:X.cell? ⟨sb,3,none⟩=some (.slice Ac st.args.length ac):=(cell_of_row X sb 3 _ _ _ hbx).trans rfl;have hsrx:SR X B (.slice (some ⟨g,off,none⟩) l.length c) l:=HSR.out.keep fun q h1 h2=>hlx.block q (by omega);have hf:=find_ref B _ l k (by omega) (by omega) st.name X hsrx;have hkd:=kind_ref st.name X;obtain ⟨lk,hlk0⟩:∃ lk,lookE (entsOf l k) st.name=lk:=⟨_,rfl⟩;have HLK:=Yd hlk0;obtain ⟨kf,hkf⟩:∃ kf,kindF st.name=kf:=⟨_,rfl⟩;have HKF:=Yd hkf;rw [hkf] at hkd;have HKD:=Yd hkd;have HLX:=Yd hlx;have HOX:=Yd hox;have HBX:=Yd hbx;clear hsrx hkf hkd hlx hox hbx
    by_cases hkz:0<kf
    ·have hR:R=([],st.pos,182):=by rw [HR.out,HC2.out,if_neg (by rw [HOK.out]; omega),if_pos (.inr (by rw [HKF.out]; exact hkz))]
     subst hR;have ek:((kf:Int) != 0)=true:=by rw [bne_iff_ne]; omega
     clear HR HC2 hf hlk0;go_wp2_with fail;refine HKD.out.mono ?_;rintro e u ⟨rfl,rfl⟩;go_wp2_with fail;go_quiet (fail);go_wp2_with fail;go_ret3;exact ⟨_,rfl,World.ownsRow_nil _ _ _ _,nodew.below_drewN' HLX.out _⟩
    ·have ek:((kf:Int) != 0)=false:=by rw [bne_eq_false_iff_eq]; omega
     cases lk with
     | some p =>
      have hR:R=([],st.pos,182):=by rw [HR.out,HC2.out,if_neg (by rw [HOK.out]; omega),if_pos (.inl (by rw [HLK.out]; rfl))]
      subst hR;rw [findI_some hlk0] at hf;have HF:=Yd hf;have hp0:(0:Int) <= (p:Int):=by omega
      clear HR HC2 hf hlk0;go_wp2_with fail;refine HKD.out.mono ?_;rintro e u ⟨rfl,rfl⟩;go_wp2_with fail;refine HF.out.mono ?_;rintro e u ⟨rfl,rfl⟩;go_wp2_with fail;go_quiet (fail);go_wp2_with fail;go_ret3;exact ⟨_,rfl,World.ownsRow_nil _ _ _ _,nodew.below_drewN' HLX.out _⟩
     | none =>
      rw [findI_none hlk0] at hf;have HF:=Yd hf;have hr1:R=if (nodeS (lookE (entsOf l k)) st).2.2=0 then chkA (entsOf l (k+1)) (out ++ [(nodeS (lookE (entsOf l k)) st).1]) (l.drop (k+1)) else ([],(nodeS (lookE (entsOf l k)) st).2.1,(nodeS (lookE (entsOf l k)) st).2.2):=by
       rw [HR.out,HC2.out,if_neg (by rw [HOK.out]; omega),if_neg (by rw [HLK.out,HKF.out]; simp; omega)]
      have HR1:=Yd hr1;have hmy:=many_ref st.kind X;obtain ⟨L,hL⟩:∃ L,(fieldList st.kind).length=L:=⟨_,rfl⟩;obtain ⟨bl,hbl⟩:∃ bl,belowN st.kind=bl:=⟨_,rfl⟩;rw [hL,hbl] at hmy;have HMY:=Yd hmy;have hL7:L <= 7:=by
       rw [<- hL]; unfold fieldList; repeat' split
       all_goals simp
      have hb2:bl <= 2:=by rw [<- hbl]; exact below_two _
      have HLL:=Yd hL;have HBL:=Yd hbl;clear HR HC2 hf hlk0 hr1 hmy hL hbl
      by_cases hbad:L=0∨st.args.length≠L+bl
      ·have hns:nodeS (lookE (entsOf l k)) st=(nodeZ st.kind,st.pos,170):=by
        unfold nodeS; rw [HLL.out,HBL.out,if_pos hbad]
       have hR:R=([],st.pos,170):=by rw [HR1.out,hns]; rfl
       subst hR;clear HR1 hns;have e1:IntKind.i64.wrap ((L:Int)+(bl:Int))=(L:Int)+(bl:Int):=IntWalk.i64_in _ (by omega)
       by_cases hL0:L=0
       case' pos =>
        have e2:((L:Int) == 0)=true:=Yt (by omega)
       case' neg =>
        have e2:((L:Int) == 0)=false:=Yf (by omega)
        have e3:((st.args.length:Int) != (L:Int)+(bl:Int))=true:=by rw [bne_iff_ne]; omega
       all_goals
        clear hbad hL0;go_wp2_with fail;refine HKD.out.mono ?_;rintro e u ⟨rfl,rfl⟩;go_wp2_with fail;refine HF.out.mono ?_;rintro e u ⟨rfl,rfl⟩;go_wp2_with fail;refine HMY.out.mono ?_;rintro e u ⟨rfl,rfl⟩;go_wp2_with fail;go_quiet (fail);go_wp2_with fail;go_ret3;exact ⟨_,rfl,World.ownsRow_nil _ _ _ _,nodew.below_drewN' HLX.out _⟩
      ·rw [not_or,Decidable.not_not] at hbad;obtain ⟨hL0,hal⟩:=hbad;have e1:IntKind.i64.wrap ((L:Int)+(bl:Int))=(L:Int)+(bl:Int):=IntWalk.i64_in _ (by omega);have e2:((L:Int) == 0)=false:=Yf (by omega)
       have e3:((st.args.length:Int) != (L:Int)+(bl:Int))=false:=by rw [bne_eq_false_iff_eq]; omega
       have HAL:=Yd (And.intro hL0 hal);clear hL0 hal;go_wp2_with fail;refine HKD.out.mono ?_;rintro e u ⟨rfl,rfl⟩;go_wp2_with fail;refine HF.out.mono ?_;rintro e u ⟨rfl,rfl⟩;go_wp2_with fail;refine HMY.out.mono ?_;rintro e u ⟨rfl,rfl⟩;go_upto_region 16 with (fail);obtain ⟨ga,offa,rfl,hga,hcs⟩:=ARead.num HAR.out (by have:=HAL.out; omega);have hb6:=(Below.refl u.heap.size u).alloc (Nat.le_refl _) (.cells #[.int .i64 0,.int .i64 0] 121);have hp6:=heap_alloc_new u (.cells #[.int .i64 0,.int .i64 0] 121);have ho6:=HOX.out.alloc (.cells #[.int .i64 0,.int .i64 0] 121);have hob:oo.ownBlock≠some u.heap.size:=by
        intro e;have:=own_lt HOX.out e;omega
       obtain ⟨PX,hPX⟩:∃ PX,PX=u.alloc (.cells #[.int .i64 0,.int .i64 0] 121):=⟨_,rfl⟩;have hPz:u.heap.size<PX.heap.size:=by rw [hPX]; simp
       rw [<- hPX] at hb6 hp6 ho6 ⊢;have hbp:=(hb6.block sb hXz).trans HBX.out;have hlp:=HLX.out.trans (hb6.mono HLX.out.size);obtain ⟨pb,hpb⟩:∃ pb,pb=u.heap.size:=⟨_,rfl⟩;rw [<- hpb] at hp6 hob ⊢;have hsp:sb≠pb:=by omega
       have hpw:w.heap.size <= pb:=by omega
       have hsz:sb<PX.heap.size:=by omega
       have hpz:pb<PX.heap.size:=by omega
       have hns0:NS (lookE (entsOf l k)) (fieldList st.kind) st.args 0 { mN st 0 with a:=0,b:=0 }=nodeS (lookE (entsOf l k)) st :=
        NS_start _ st (by rw [HLL.out]; have:=HAL.out; omega) (by rw [HLL.out,HBL.out]; exact HAL.out.2)
       have hKp:Kp w.heap.size w PX pb PX:=⟨hlp,Nat.le_refl _,fun _ _ _=>rfl⟩;have HP6:=Yd hp6;have HO6:=Yd ho6;have HBP:=Yd hbp;have HLP:=Yd hlp;have HNS0:=Yd hns0;have HKP:=Yd hKp;have HCS:=Yd hcs;have HOB:=Yd hob;have hgw:ga<w.heap.size:=by omega
       obtain ⟨wo,hwo⟩:∃ wo,wo=wr:=⟨_,rfl⟩;subst hwo;clear hPX hPz hb6 hp6 ho6 hbp hlp hpb hns0 hKp hcs hob HLX HOX HBX HKD HF HMY HKF HLK s0 s1 s2 s3 e1 e2 e3 ek hXz hws;go_wp2_with fail
       go_loopw [11] (fun i wt=>∃ (j:Nat) (p0 p1:Int),j <= st.args.length∧i = .int .i64 j∧Kp w.heap.size w PX pb wt∧wt.heap[pb]? = some (.cells #[.int .i64 p0,.int .i64 p1] 121 (0,0))∧NS (lookE (entsOf l k)) (fieldList st.kind) st.args j { mN st j with a:=p0,b:=p1 }=nodeS (lookE (entsOf l k)) st) (fun i _=>st.args.length-(intOf i).toNat)
       case atStart=>exact ⟨0,0,0,Nat.zero_le _,rfl,HKP.out,HP6.out,HNS0.out⟩
       case round =>
        obtain ⟨j,p0,p1,hj,rfl,hKj,hpj,hNS⟩:=hrel;have S0:wr.cell? ⟨sb,0,none⟩=some (.string st.name):=hKj.cell ((cell_of_row PX sb 0 _ _ _ HBP.out).trans rfl) hsp;have S1:wr.cell? ⟨sb,1,none⟩=some (.int .i64 st.pos):=hKj.cell ((cell_of_row PX sb 1 _ _ _ HBP.out).trans rfl) hsp;have S2:wr.cell? ⟨sb,2,none⟩=some (.int .u8 st.kind):=hKj.cell ((cell_of_row PX sb 2 _ _ _ HBP.out).trans rfl) hsp;have S3:wr.cell? ⟨sb,3,none⟩=some (.slice (some ⟨ga,offa,none⟩) st.args.length ac):=hKj.cell ((cell_of_row PX sb 3 _ _ _ HBP.out).trans rfl) hsp;have harj:ARead wr B (.slice (some ⟨ga,offa,none⟩) st.args.length ac) st.args:=HAR.out.keep fun q _ hq=>hKj.low.block q hq;have hzj:=hKj.size;have hzw:=hKj.low.size;have HNS:=Yd hNS;have HKJ:=Yd hKj;have HPJ:=Yd hpj;clear hNS hKj hpj HNS0 HKP
        by_cases hja:j<st.args.length
        ·have hj0:(0:Int) <= (j:Int):=by omega
         have hjai:(j:Int)<(st.args.length:Int):=by omega
         have hcj:=HCS.out j hja;obtain ⟨ag,hag⟩:∃ ag,st.args[j]=ag:=⟨_,rfl⟩;rw [hag] at hcj
         by_cases hjL:j<L
         ·have hjf:j<(fieldList st.kind).length:=by rw [HLL.out]; exact hjL
          obtain ⟨d,hd⟩:∃ d,(fieldList st.kind)[j]=d:=⟨_,rfl⟩;have hbe:=beyond_ref B st (some ⟨ga,offa,none⟩) ac j d ((List.getElem?_eq_getElem hjf).trans (congrArg some hd)) hja wr harj (by omega);rw [argN_lt st.args j hja,hag] at hbe;obtain ⟨q,hq⟩:∃ q,withinF d.2.1 d.2.2 ag.num=q:=⟨_,rfl⟩;rw [hq] at hbe;have HBE:=Yd hbe;have hjL':(j:Int)<(L:Int):=by omega
          have hwj:withinF (fieldList st.kind)[j].2.1 (fieldList st.kind)[j].2.2 st.args[j].num=q:=by rw [hd,hag]; exact hq
          have HWJ:=Yd hwj;clear hbe hwj hq harj
          cases q with
          | false =>
           have hns:nodeS (lookE (entsOf l k)) st=(Nd.put { mN st j with a:=p0,b:=p1 } (fieldList st.kind)[j].1 st.args[j].num,st.args[j].pos,184):=by
            rw [<- HNS.out,NS_bad _ _ _ j _ hjf hja HWJ.out]
           have hR:R=([],ag.pos,184):=by rw [HR1.out,hns,<- hag]; rfl
           subst hR;clear HR1 hns HNS HWJ;go_wp2_with fail;refine HBE.out.mono ?_;rintro e u2 ⟨rfl,hBu⟩;have T3:u2.cell? ⟨sb,3,none⟩=some (.slice (some ⟨ga,offa,none⟩) st.args.length ac):=(hBu.cell (p:=⟨sb,3,none⟩) (by show sb<wr.heap.size; omega)).trans S3;have T0:u2.cell? ⟨ga,offa+j*3,none⟩=some (.int .i64 ag.pos):=(hBu.cell (p:=⟨ga,offa+j*3,none⟩) (by show ga<wr.heap.size; omega)).trans ((HKJ.out.low.cell (p:=⟨ga,offa+j*3,none⟩) hgw).trans hcj.1);have HLU:=Yd (HKJ.out.low.trans (hBu.mono hzw));clear hBu S0 S1 S2 S3 hcj hag HBE;go_wp2_with fail;go_quiet (fail);go_wp2_with fail;go_ret3;exact ⟨_,rfl,World.ownsRow_nil _ _ _ _,nodew.below_drewN' HLU.out _⟩
          | true =>
           have hns2:NS (lookE (entsOf l k)) (fieldList st.kind) st.args (j+1) { mN st (j+1) with a:=p0,b:=p1 }=nodeS (lookE (entsOf l k)) st:=by
            rw [<- HNS.out,NS_ok _ _ _ j _ hjf hja HWJ.out,mN_put st j hjf hja];rfl
           have HNS2:=Yd hns2;clear hns2 HNS HWJ;go_wp2_with fail;refine HBE.out.mono ?_;rintro e u2 ⟨rfl,hBu⟩;have HKU:=Yd (HKJ.out.ext (by omega) hBu);have HPU:=Yd ((hBu.block pb (by omega)).trans HPJ.out);clear hBu S0 S1 S2 S3 hcj hag HBE HKJ HPJ;go_wp2_with fail;go_roundw
           case rel=>exact ⟨j+1,p0,p1,by omega,by go_num,HKU.out,HPU.out,HNS2.out⟩
           case measure=>simp [intOf]; omega
         ·have hLj:L <= j:=by omega
          have hjL':¬ (j:Int)<(L:Int):=by omega
          have hj9:j <= 9:=by have:=HAL.out.2; omega
          have hfj:(fieldList st.kind).length <= j:=by rw [HLL.out]; exact hLj
          have hsrj:SR wr B (.slice (some ⟨g,off,none⟩) l.length c) l:=HSR.out.keep fun q h1 h2=>HKJ.out.low.block q h2;have hfd:=find_ref B _ l k (by omega) (by omega) ag.name wr hsrj;obtain ⟨lk,hlk⟩:∃ lk,lookE (entsOf l k) ag.name=lk:=⟨_,rfl⟩;have hnm:=NS_name (lookE (entsOf l k)) (fieldList st.kind) st.args j { mN st j with a:=p0,b:=p1 } hfj hja;rw [HNS.out,hag,hlk,HLL.out] at hnm;have T2:wr.cell? ⟨ga,offa+j*3+2,none⟩=some (.string ag.name):=(HKJ.out.low.cell (p:=⟨ga,offa+j*3+2,none⟩) hgw).trans hcj.2.2;have T0:wr.cell? ⟨ga,offa+j*3,none⟩=some (.int .i64 ag.pos):=(HKJ.out.low.cell (p:=⟨ga,offa+j*3,none⟩) hgw).trans hcj.1;clear hsrj hcj HNS harj
          cases lk with
          | none =>
           have hR:R=([],ag.pos,183):=by rw [HR1.out,hnm]; rfl
           subst hR;rw [findI_none hlk] at hfd;have HFD:=Yd hfd;clear HR1 hnm hlk hfd hag;go_wp2_with fail;refine HFD.out.mono ?_;rintro e u2 ⟨rfl,rfl⟩;go_wp2_with fail;go_quiet (fail);go_wp2_with fail;go_ret3;exact ⟨_,rfl,World.ownsRow_nil _ _ _ _,nodew.below_drewN' HKJ.out.low _⟩
          | some p =>
           rw [findI_some hlk] at hfd;have HFD:=Yd hfd;have hp0':¬ (p:Int)<0:=by omega
           have hjj:j=L∨j=L+1:=by have:=HAL.out.2; omega
           have HNM:=Yd hnm;clear hnm hlk hfd hag
           rcases hjj with hjj | hjj
           ·have e5:IntKind.i64.wrap ((j:Int)-(L:Int))=0:=by rw [show (j:Int)-(L:Int)=0 by omega]; rfl
            have K0:wr.cell? ⟨pb,0,none⟩=some (.int .i64 p0):=(cell_of_row wr pb 0 _ _ _ HPJ.out).trans rfl;have F0:wr.frozen? ⟨pb,0,none⟩=false:=frozen_of_row wr pb 0 _ _ HPJ.out;have hset:=heap_set wr pb 0 _ _ _ (.int .i64 p) HPJ.out;have HSET:=Yd hset;have HKS:=Yd (HKJ.out.set hpw 0 (.int .i64 p));have hns2:NS (lookE (entsOf l k)) (fieldList st.kind) st.args (j+1) { mN st (j+1) with a:=p,b:=p1 }=nodeS (lookE (entsOf l k)) st:=by
             rw [HNM.out,mN_stay st j hfj,show j-L=0 by omega];rfl
            have HNS2:=Yd hns2;clear hset hns2 HNM hjj;go_wp2_with fail;refine HFD.out.mono ?_;rintro e u2 ⟨rfl,rfl⟩;go_wp2_with fail;go_roundw
            case rel=>exact ⟨j+1,p,p1,by omega,by go_num,HKS.out,HSET.out,HNS2.out⟩
            case measure=>simp [intOf]; omega
           ·have e5:IntKind.i64.wrap ((j:Int)-(L:Int))=1:=by rw [show (j:Int)-(L:Int)=1 by omega]; rfl
            have K1:wr.cell? ⟨pb,1,none⟩=some (.int .i64 p1):=(cell_of_row wr pb 1 _ _ _ HPJ.out).trans rfl;have F1:wr.frozen? ⟨pb,1,none⟩=false:=frozen_of_row wr pb 1 _ _ HPJ.out;have hset:=heap_set wr pb 1 _ _ _ (.int .i64 p) HPJ.out;have HSET:=Yd hset;have HKS:=Yd (HKJ.out.set hpw 1 (.int .i64 p));have hns2:NS (lookE (entsOf l k)) (fieldList st.kind) st.args (j+1) { mN st (j+1) with a:=p0,b:=p }=nodeS (lookE (entsOf l k)) st:=by
             rw [HNM.out,mN_stay st j hfj,show j-L=1 by omega];rfl
            have HNS2:=Yd hns2;clear hset hns2 HNM hjj;go_wp2_with fail;refine HFD.out.mono ?_;rintro e u2 ⟨rfl,rfl⟩;go_wp2_with fail;go_roundw
            case rel=>exact ⟨j+1,p0,p,by omega,by go_num,HKS.out,HSET.out,HNS2.out⟩
            case measure=>simp [intOf]; omega
        ·obtain rfl:j=st.args.length:=by omega
         have hend:=NS_end (lookE (entsOf l k)) (fieldList st.kind) st.args { mN st st.args.length with a:=p0,b:=p1 } (by rw [HLL.out]; have:=HAL.out; omega);rw [HNS.out,<- made_last st (by rw [HLL.out,HBL.out]; exact HAL.out.2)] at hend;obtain ⟨n,hn⟩:∃ n,madeN st p0 p1=n:=⟨_,rfl⟩;rw [hn] at hend;have hR:R=chkA (entsOf l (k+1)) (out ++ [n]) (l.drop (k+1)):=by rw [HR1.out,hend]; rfl
         have HR:=Yd hR;have hmd:=made_any B st (by rw [HLL.out]; have:=HAL.out; omega) (by rw [HLL.out,HBL.out]; exact HAL.out.2) (some ⟨ga,offa,none⟩) ac p0 p1 wr harj (by omega);rw [hn] at hmd;have HMD:=Yd hmd;have K0:wr.cell? ⟨pb,0,none⟩=some (.int .i64 p0):=(cell_of_row wr pb 0 _ _ _ HPJ.out).trans rfl;have K1:wr.cell? ⟨pb,1,none⟩=some (.int .i64 p1):=(cell_of_row wr pb 1 _ _ _ HPJ.out).trans rfl;have hoj:=HO6.out.kept (kp_grown HLP.out HKJ.out) (.inr HOB.out);have HOJ:=Yd hoj;have hk60:k<2000:=by omega
         clear hend hn hR hmd hoj harj HR1 HNS hja hj;go_wp2_with fail;refine HMD.out.mono ?_;rintro e u2 ⟨rfl,hBu⟩;have hou:=own_below HOJ.out hBu;have hlu:=HKJ.out.low.trans (hBu.mono hzw);have HLU:=Yd hlu;have hzu:=hlu.size;clear hBu hlu S0 S1 S2 S3 K0 K1 HMD HOJ;go_wp2_with (first
          | (refine wl_bs rfl (.tmp 111) rfl n rfl ?_)
          | (at_builtin; refine wpList_append_lies _ rfl (.tmp 105) (.tmp 112) 34 rfl w.heap.size 49 i0 _ 19 152 Tryz.underlying34 hi0 hiz0 hiz1 hiz2 rfl (by omega) oo out.length (ncells out) rfl (hou.alloc _) ⟨u2.heap.size,0,none⟩ 1 1 n.cells rfl rfl (World.news_of_block (heap_at u2 (.cells n.cells.toArray 49) _ rfl)) (nd_one' n) (by have:=HOK.out; omega) (by have:=HOK.out; unfold maxLen; omega) (by have:=HOK.out; omega) (by simp; omega) _ rfl ?_; intro gz capz wz hownz hgz hatz hltz))
         have hlz:Below w.heap.size w wz:=(HLU.out.alloc hzu _).grown hgz (by simp; omega) (fun r e=>nodew.own_base hou e);rw [<- ncells_snoc] at hownz;have HOZ:=Yd hownz;have HLZ:=Yd hlz;clear hlz hownz hgz hatz hltz hou;go_wp2_with fail;go_roundw
         case rel=>exact ⟨k+1,out ++ [n],by omega,by go_num,by rw [List.length_append,HOK.out]; rfl,by rw [List.length_append]; exact HOZ.out,HLZ.out,by rw [<- HR.out]; exact hRC.out⟩
         case measure=>simp [intOf]; omega
   ·obtain rfl:k=l.length:=by omega
    have hR:R=(out,0,0):=by
     rw [HR.out,<- HCH.out,List.drop_length]; rfl
    subst hR;clear HR HCH HX HA HVL;go_wp2_with fail;go_ret3;exact ⟨_,rfl,hown,hlow⟩
end chkw

/- burnishref20: the walk of Read. Condition: the text is of 1000 bytes at most. -/
namespace tfw
open Go.RowKit
open lexm (Tok lexRes cellsOf)
open lexw (reflex_any LexPost)
open parw
open nodew hiding pt
open chkw
open flow (decE)
open bkr
open rg
theorem short_l (dec:ByteArray -> Nat × Nat) (en:Int):∀ (f:Nat) (s:RSt) (out:List PStmt),(parseL dec en f s out).1.length <= out.length+f
 | 0,s,out=>Nat.le_refl _
 | f+1,s,out=>by
  unfold parseL
  by_cases h0:s.er=0
  ·rw [if_pos h0]
   cases s.ts with
   | nil=>exact Nat.le_add_right _ _
   | cons t r =>
    simp only
    by_cases hk:t.kind=4
    ·rw [if_pos hk];have:=short_l dec en f { s with ts:=r } out;omega
    ·rw [if_neg hk];have:=short_l dec en f (stmtS dec en s).2 (out ++ [(stmtS dec en s).1]);rw [List.length_append,List.length_singleton] at this;omega
  ·rw [if_neg h0];exact Nat.le_add_right _ _
theorem res_short (dec:ByteArray -> Nat × Nat) (ts:List PTok):(parseRes dec ts).1.length <= ts.length+1:=by
 unfold parseRes;simp only;have:=short_l dec (endOf ts) (ts.length+1) ⟨ts,0,0⟩ []
 split
 ·simpa using this
 ·exact Nat.zero_le _
theorem refread_any (s:ByteArray) (hs0:s.size <= 1000) (w:World):Calls Tryz.prog 20 #[.string s] w (CkPost w (readL s.data.toList)):=by
 have hlen:s.data.toList.length=s.size:=by simp
 have hs:s.size <= maxLen:=by unfold maxLen; omega
 obtain ⟨x1,x2,x3,x4,x5,x6,x7,x8⟩:=lex_facts s.data.toList;obtain ⟨y1,y2⟩:=rdP_facts s.data.toList (by omega);replace x6:(lexRes s.data.toList).1.length <= 1001:=by omega
 have hln:=Nat.le_trans (res_short decE ((lexRes s.data.toList).1.map pt)) (show _ <= 1002 by rw [List.length_map]; omega);have htx:∀ t∈(lexRes s.data.toList).1.map pt,t.text.size <= 1000:=fun t ht=>by
  have:=toks_in s.data.toList t ht;omega
 have hkd:∀ x∈(rdP s.data.toList).1,x.kind<256:=fun x hx=>by have:=(y2 x hx).kind; omega
 obtain ⟨R,hR⟩:∃ R,readL s.data.toList=R:=⟨_,rfl⟩;have hRe:readL s.data.toList=if (lexRes s.data.toList).2.2=0 then (if (rdP s.data.toList).2.2=0 then checkS (rdP s.data.toList).1 else ([],(rdP s.data.toList).2.1,(rdP s.data.toList).2.2)) else ([],(lexRes s.data.toList).2.1,(lexRes s.data.toList).2.2):=rfl;rw [hR] at hRe ⊢;have CL:=Yd (reflex_any s hs w);obtain ⟨L,hL⟩:∃ L,lexRes s.data.toList=L:=⟨_,rfl⟩;have hPe:rdP s.data.toList=parseRes decE (L.1.map pt):=by rw [<- hL]; rfl
 obtain ⟨P,hP⟩:∃ P,rdP s.data.toList=P:=⟨_,rfl⟩;rw [hL] at x6 hRe CL htx;have hln:(rdP s.data.toList).1.length <= 1002:=hln;rw [hP] at hkd hRe hPe hln;obtain ⟨Lt,Lp,Le⟩:=L;obtain ⟨Pt,Pp,Pe⟩:=P;simp only at x6 hkd hRe hPe hln htx;have HW:=Yd (And.intro hln htx);have HX:=Yd (And.intro x6 (And.intro hkd hPe));have HR:=Yd hRe;clear hln htx x1 x2 x3 x4 x5 x6 x7 x8 y1 y2 hkd hR hL hP hRe hPe hlen hs hs0;go_enter Tryz.func20,Tryz.ntmps20;go_wp2_with fail;refine CL.out.mono ?_;rintro e w1 ⟨v1,rfl,hown1,hB1⟩;simp only at hown1 ⊢;have hp1:=prow_own hown1;have hz1:=hB1.size;have hc1:=parse17_any decE (Lt.map pt) (by rw [List.length_map]; have:=HX.out.1; omega) (fun t ht u=>parse16_any t.text (HW.out.2 t ht) u) v1 w1 hp1;rw [parse_ref] at hc1;rw [<- HX.out.2.2] at hc1;have B1:=Yd (And.intro hB1 hz1);clear hown1 hp1 hB1 hz1
 by_cases e1:Le=0
 ·have HE1:=Yd e1;have q1:((Le:Int) != 0)=false:=by rw [e1]; rfl
  clear e1;go_wp2_with fail;refine hc1.mono ?_;rintro e w2 ⟨v2,rfl,hrow2,hB2⟩;simp only at hrow2 ⊢;have B2:=Yd hB2;have hc2:=refcheck_any w2.heap.size v2 Pt HX.out.2.1 (by have:=HW.out.1; omega) w2 (SR.of_row hrow2) (Nat.le_refl _);clear hc1 hrow2 hB2
  by_cases e2:Pe=0
  ·have HE2:=Yd e2;have q2:((Pe:Int) != 0)=false:=by rw [e2]; rfl
   clear e2;go_wp2_with fail;refine hc2.mono ?_;rintro e w3 ⟨v3,rfl,hown3,hB3⟩;have B3:=Yd (And.intro hown3 hB3);clear hc2 hown3 hB3;go_wp2_with fail;go_ret3;rw [HR.out,if_pos HE1.out,if_pos HE2.out];obtain ⟨b1,z1⟩:=B1.out;have b2:=B2.out;obtain ⟨o3,b3⟩:=B3.out;exact ⟨v3,rfl,parw.own_le o3 (by have:=b2.size; omega),(b1.trans (b2.mono z1)).trans (b3.mono (by have:=b2.size; omega))⟩
  ·have HE2:=Yd e2;have q2:((Pe:Int) != 0)=true:=by rw [bne_iff_ne]; omega
   clear e2 hc2;go_wp2_with fail;go_ret3;rw [HR.out,if_pos HE1.out,if_neg HE2.out];obtain ⟨b1,z1⟩:=B1.out;have b2:=B2.out;exact ⟨_,rfl,own_nil,b1.trans (b2.mono z1)⟩
 ·have HE1:=Yd e1;have q1:((Le:Int) != 0)=true:=by rw [bne_iff_ne]; omega
  clear e1 hc1;go_wp2_with fail;go_ret3;rw [HR.out,if_neg HE1.out];exact ⟨_,rfl,own_nil,B1.out.1⟩
end tfw

/- Flat of what is no program; two rows of numbers that are the same. No conditions but those stated. -/
namespace flatw
open Go.RowKit Go.Shelf
open nodew
open chkw
open flatm
def NoPost (w:World) (x:Ending) (w':World):Prop:=x = .returned (.tuple #[.slice none 0 0,.int .i64 190])∧Below w.heap.size w w'
theorem flat_no (l:List Nd) (hok:∀ n∈l,n.ok) (hll:l.length <= 1000000000000) (hr:rightP l=false) (v:Value) (w:World) (hn:NArg w w.heap.size v l) :
  Calls Tryz.prog 15 #[v] w (NoPost w):=by
 obtain ⟨A,c,rfl⟩:=hn.form;obtain ⟨W1,hW1⟩:∃ W1,W1=w.alloc (.cells #[.slice A l.length c] 34):=⟨_,rfl⟩;have hb1:Boxed W1 w.heap.size 34 (.slice A l.length c):=by rw [hW1]; exact Boxed.new w _ _
 have hB1:Below w.heap.size w W1:=by rw [hW1]; exact (Below.refl _ w).alloc (Nat.le_refl _) _
 have hrt:=right_any w.heap.size _ l hok hll W1 ((hn.ext hB1).read) hB1.size;rw [hr] at hrt;have HRT:=Yd hrt;have HB1:=Yd hB1;have cp1:=hb1.cell;have cp1r:=cp1;rw [hW1] at cp1r;clear hrt hn hok hr hB1 hb1;go_enter Tryz.func15,Tryz.ntmps15;go_wp2_with (rw [<- hW1]);refine HRT.out.mono ?_;rintro e w' ⟨rfl,hB⟩;have hB2:=HB1.out.trans (hB.mono HB1.out.size);clear hB hW1;go_wp2_with fail;go_ret2;exact ⟨rfl,hB2⟩
def IRead (W:World) (v:Value) (ks:List Nat):Prop :=
 ∃ A c,v = .slice A ks.length c∧(ks≠[] -> ∃ g off,A=some ⟨g,off,none⟩∧g<W.heap.size ∧ ∀ j (hj:j<ks.length),W.cell? ⟨g,off+j,none⟩=some (.int .i64 (ks[j]:Nat)))
theorem IRead.ext {W u:World} {v:Value} {ks:List Nat} (h:IRead W v ks) (hb:Below W.heap.size W u):IRead u v ks:=by
 obtain ⟨A,c,hv,hx⟩:=h;refine ⟨A,c,hv,fun h0 => ?_⟩;obtain ⟨g,off,hA,hl,hc⟩:=hx h0;exact ⟨g,off,hA,by have:=hb.size; omega,fun j hj=>(World.cell?_of_block (a:=⟨g,off+j,none⟩) (hb.block g hl)).trans (hc j hj)⟩
theorem IRead.of_own {W:World} {base:Nat} {v:Value} {ks:List Nat} (h:W.ownsRow base 3 1 v ks.length (intsV ks)):IRead W v ks:=by
 rcases h.2 with ⟨rfl,hn⟩ | ⟨g,cap,cur,rfl,_,hgg,_⟩
 ·exact ⟨_,_,by rw [hn],fun h0=>absurd (List.eq_nil_of_length_eq_zero hn) h0⟩
 ·refine ⟨_,_,rfl,fun _=>⟨g,0,rfl,(Array.getElem?_eq_some_iff.1 hgg).1,fun j hj => ?_⟩⟩;have hc:=h.cells (g:=g) rfl j (.int .i64 (ks[j]:Nat)) (by simp [intsV,hj]);have hadd:(⟨g,0,none⟩:Addr).add j=⟨g,j,none⟩:=by unfold Addr.add; split <;> simp_all
  rw [hadd] at hc;rw [Nat.zero_add];exact hc
def TruePost (w:World) (x:Ending) (w':World):Prop:=x = .returned (.bool true)∧Below w.heap.size w w'
theorem ints_eq (v1 v2:Value) (ks:List Nat) (hl:ks.length <= 1000000) (w:World) (h1:IRead w v1 ks) (h2:IRead w v2 ks) :
  Calls Tryz.prog 21 #[v1,v2] w (TruePost w):=by
 obtain ⟨A1,c1,rfl,hx1⟩:=h1;obtain ⟨A2,c2,rfl,hx2⟩:=h2;have HX1:=Yd hx1;have HX2:=Yd hx2;clear hx1 hx2;go_enter Tryz.func21,Tryz.ntmps21;go_wp2_with fail
 go_loopw [13] (fun i wr=>∃ k:Nat,k <= ks.length∧i = .int .i64 k∧Below w.heap.size w wr) (fun i _=>ks.length-(intOf i).toNat)
 case atStart=>exact ⟨0,Nat.zero_le _,rfl,Below.refl _ _⟩
 case round =>
  obtain ⟨k,hk,rfl,hBr⟩:=hrel
  by_cases hkl:k<ks.length
  ·have hne:ks≠[]:=by intro e; subst e; simp at hkl
   obtain ⟨g1,o1,rfl,hg1,hc1⟩:=HX1.out hne;obtain ⟨g2,o2,rfl,hg2,hc2⟩:=HX2.out hne;have d1:=(World.cell?_of_block (a:=⟨g1,o1+k,none⟩) (hBr.block g1 hg1)).trans (hc1 k hkl);have d2:=(World.cell?_of_block (a:=⟨g2,o2+k,none⟩) (hBr.block g2 hg2)).trans (hc2 k hkl);have HB:=Yd hBr;obtain ⟨cc,hcc⟩:∃ cc,ks[k]=cc:=⟨_,rfl⟩;rw [hcc] at d1 d2;have k0:(0:Int) <= (k:Int):=by omega
   have ki:(k:Int)<(ks.length:Int):=by omega
   clear hc1 hc2 hBr hcc hne;go_wp2_with fail;go_quiet (fail);go_wp2_with fail;go_roundw
   case rel=>exact ⟨k+1,by omega,by go_num,nodew.below_drewN' HB.out nq⟩
   case measure=>simp [intOf]; omega
  ·obtain rfl:k=ks.length:=by omega
   go_wp2_with fail;go_ret;exact ⟨rfl,hBr⟩
end flatw
end Go.Proofs.YtcbgkbidgpemfaaGreatDoor
