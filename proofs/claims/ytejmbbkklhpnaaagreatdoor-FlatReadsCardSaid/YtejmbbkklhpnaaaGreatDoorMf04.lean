/- The walk of check.Right. Condition: the nodes lie in memory, within the reach. -/
import Derived.Test.YtejmbbkklhpnaaaGreatDoorMf03
import Derived.Test.YtejmbbkklhpnaaaGreatDoorMf01
import Derived.Test.YtejmbbkklhpnaaaGreatDoorProg
import Derived.Deep.MidRow
import Derived.Laws.CopyOwn
import Derived.Laws.Tables
import Derived.WalkKit
import Derived.WalkLawsBesides
import Derived.WalkSpells
import Derived.Lib.Hide
import Derived.Outline
namespace Go.Proofs.YtejmbbkklhpnaaaGreatDoor.nodew
open Go.RowKit Go.Shelf
open words
attribute [local go_sem] run_store_float
def ncells (l:List Nd):List Value:=l.flatMap Nd.cells
theorem nd_cells_len (n:Nd):n.cells.length=19:=rfl
theorem ncells_get:∀ (l:List Nd) (i j:Nat) (h:i<l.length),j<19 -> (ncells l)[i*19+j]? = (l[i].cells)[j]?
 | a :: r,0,j,_,hj=>by
  show (a.cells ++ ncells r)[0*19+j]? = _
  rw [Nat.zero_mul,Nat.zero_add,List.getElem?_append_left (by rw [nd_cells_len]; exact hj)]; rfl
 | a :: r,i+1,j,h,hj=>by
  show (a.cells ++ ncells r)[(i+1)*19+j]? = _
  rw [List.getElem?_append_right (by rw [nd_cells_len]; omega)]
  have:=ncells_get r i j (by simpa using h) hj
  rw [List.getElem_cons_succ,<- this,nd_cells_len]
  congr 1
  omega
 | [],i,j,h,_=>by simp at h
def NRead (W:World) (B:Nat) (v:Value) (l:List Nd):Prop :=
 ∃ A c,v = .slice A l.length c∧(l≠[] -> ∃ g off,A=some ⟨g,off,none⟩∧g<B∧g<W.heap.size ∧ ∀ j u,(ncells l)[j]? = some u -> W.cell? ⟨g,off+j,none⟩=some u)
theorem NRead.keep {W W':World} {B:Nat} {v:Value} {l:List Nd} (h:NRead W B v l) (hz:W.heap.size <= W'.heap.size) (hg:∀ g,g<B -> g<W.heap.size -> W'.heap[g]? = W.heap[g]?):NRead W' B v l:=by
 obtain ⟨A,c,hv,hx⟩:=h
 refine ⟨A,c,hv,fun h0 => ?_⟩
 obtain ⟨g,off,hA,hB,hgl,hcell⟩:=hx h0
 exact ⟨g,off,hA,hB,by omega,fun j u hu=>(World.cell?_of_block (a:=⟨g,off+j,none⟩) (hg g hB hgl)).trans (hcell j u hu)⟩
def Nd.ok (n:Nd):Prop:=n.x.length=16 ∧ ∀ v∈n.x,v<18446744073709551616
theorem Nd.load_at (n:Nd) (W:World) (g off:Nat) (h:∀ j u,n.cells[j]? = some u -> W.cell? ⟨g,off+j,none⟩=some u):(Instr.loadAt 67 (.pointer (some ⟨g,off,none⟩))).run Tryz.prog W = .ok n.val W :=
 run_loadAt_mid W g off 67 n.cells _ h Tryz.underlying67 rfl (by kernel_rfl)
def rightP (l:List Nd):Bool:=((List.range l.length).all fun i=>match l[i]? with | some n=>nodeOk n i | none=>true) && decide (0<l.length) && decide (l.length <= 4096)
theorem rightP_bad {l:List Nd} {k:Nat} (hk:k<l.length) (h:nodeOk l[k] k=false):rightP l=false:=by
 unfold rightP
 have:((List.range l.length).all fun i=>match l[i]? with | some n=>nodeOk n i | none=>true)=false:=by
  rw [List.all_eq_false]
  exact ⟨k,List.mem_range.2 hk,by simp [hk,h]⟩
 rw [this]; rfl
theorem rightP_good {l:List Nd} (h:∀ k (hk:k<l.length),nodeOk l[k] k=true):rightP l=(decide (0<l.length) && decide (l.length <= 4096)):=by
 unfold rightP
 have:((List.range l.length).all fun i=>match l[i]? with | some n=>nodeOk n i | none=>true)=true:=by
  rw [List.all_eq_true]
  intro i hi
  have hi:=List.mem_range.1 hi
  simp [hi,h i hi]
 rw [this]; rfl
theorem nd_info (n:Nd):(Tryz.prog.info? 67).map (·.size)=some n.cells.toArray.size:=by kernel_rfl
theorem nd_one (n:Nd):n.cells.toArray.all (·.oneCell')=true:=by simp [Nd.cells,Value.oneCell']
theorem nd_size (n:Nd):n.cells.toArray.size=19:=by rw [List.size_toArray]; rfl
set_option maxRecDepth 100000 in
set_option maxHeartbeats 4000000 in
theorem right_any (B:Nat) (v:Value) (l:List Nd) (hok:∀ n∈l,n.ok) (hl:l.length <= 1000000000000) (w:World) (hr:NRead w B v l) (_hB:B <= w.heap.size) :
  Calls Tryz.prog 14 #[v] w fun e w'=>e = .returned (.bool (rightP l))∧Below w.heap.size w w':=by
 obtain ⟨A,c,rfl,hx⟩:=hr
 go_enter Tryz.func14,Tryz.ntmps14
 go_wp2_with fail
 go_loopw [7] (fun i wr=>∃ k:Nat,k <= l.length∧i = .int .i64 k∧Below w.heap.size w wr ∧ ∀ j (hj:j<l.length),j<k -> nodeOk l[j] j=true) (fun i _=>l.length-(intOf i).toNat)
 case atStart=>exact ⟨0,Nat.zero_le _,rfl,Below.refl _ _,fun _ _ h=>by omega⟩
 case round =>
  obtain ⟨k,hk,rfl,hBr,hall⟩:=hrel
  have hz:=hBr.size
  by_cases hkl:k<l.length
  ·obtain ⟨g,off,rfl,hgB,hgl,hcell⟩:=hx (by intro e; subst e; simp at hkl)
   obtain ⟨n,hn⟩:∃ n,l[k]=n:=⟨_,rfl⟩
   have hno:n.ok:=hok n (by rw [<- hn]; exact List.getElem_mem hkl)
   have hrg:wr.rangeAt g (off+k*19) n.cells:=fun j u hu=>by
    have hj:j<19:=by have:=(List.getElem?_eq_some_iff.1 hu).1; rwa [nd_cells_len] at this
    rw [Nat.add_assoc]
    exact (World.cell?_of_block (a:=⟨g,off+(k*19+j),none⟩) (hBr.block g hgl)).trans (hcell (k*19+j) u (by rw [ncells_get l k j hkl hj,hn]; exact hu))
   have HA:=Lib.hid hall
   have HNO:=Lib.hid hno
   have HN:=Lib.hid hn
   have HR:=Lib.hid hrg
   clear hall hno hn hcell hrg
   go_wp2_with (first
    | (refine wpList_load_mid rfl 67 (.tmp 10) rfl g (off+k*19) rfl n.cells _ HR.out Tryz.underlying67 rfl (by kernel_rfl) ?_)
    | (refine wpList_store_row rfl 67 (.tmp 4) (.tmp 11) rfl wr.heap.size n.cells.toArray rfl rfl _ _ (heap_alloc_new wr _) (nd_info n) (by rw [nd_size]; rfl) (nd_one n) ?_)
    | (refine wpList_load_row rfl 67 (.tmp 4) rfl wr.heap.size rfl _ n.cells.toArray _ _ (setRow_heap _ _ _ _ _ _ (heap_alloc_new wr _)) Tryz.underlying67 rfl (by kernel_rfl) ?_))
   obtain ⟨W,hW⟩:∃ W,W=(wr.alloc (.cells #[.int .u8 0,.float .f64 0,.float .f64 0,.float .f64 0,.float .f64 0,.float .f64 0,.float .f64 0,.float .f64 0,.float .f64 0,.float .f64 0,.float .f64 0,.float .f64 0,.float .f64 0,.float .f64 0,.float .f64 0,.float .f64 0,.float .f64 0,.int .i64 0,.int .i64 0] 67)).setRow wr.heap.size n.cells.toArray:=⟨_,rfl⟩
   have hBW:Below w.heap.size w W:=by rw [hW]; exact below_setRow (hBr.alloc hz _) hz _
   rw [<- hW]
   clear hW
   have hno:=HNO.out
   refine (node_any n hno.2 hno.1 k W).mono ?_
   rintro e wy ⟨rfl,hBy⟩
   have hBz:=hBW.trans (hBy.mono hBW.size)
   cases hq:nodeOk n k with
   | true =>
    have H1:=Lib.hid hq
    clear hq hno hBW hBy
    go_wp2_with fail
    go_roundw
    case rel =>
     refine ⟨k+1,by omega,by go_num,hBz,fun j hj hjk => ?_⟩
     by_cases e:j=k
     ·subst e; rw [HN.out]; exact H1.out
     ·exact HA.out j hj (by omega)
    case measure=>simp [intOf]; omega
   | false =>
    have hbad:rightP l=false:=rightP_bad hkl (by rw [HN.out]; exact hq)
    have HB:=Lib.hid hbad
    clear hq hno hbad hBW hBy
    go_wp2_with fail
    go_ret
    exact ⟨ret_bool HB.out.symm,hBz⟩
  ·obtain rfl:k=l.length:=by omega
   have hg:=rightP_good fun j hj=>hall j hj hj
   have HG:=Lib.hid hg
   clear hg hall
   go_wp2_with fail
   all_goals go_ret
   all_goals refine ⟨ret_bool ?_,hBr⟩
   all_goals rw [HG.out]
   all_goals by_cases h1:0<l.length
   all_goals by_cases h2:l.length <= 4096
   all_goals simp [h1,h2]
   all_goals omega
end Go.Proofs.YtejmbbkklhpnaaaGreatDoor.nodew

/- The plain mathematics of layer 15 (lex): what the tokens of a list of bytes are. No program in sight. No conditions. -/
namespace Go.Proofs.YtejmbbkklhpnaaaGreatDoor.lexm
def ltrI (c:Int):Bool:=(decide (65 <= c) && decide (c <= 90)) || (decide (97 <= c) && decide (c <= 122)) || c == 95
def digI (c:Int):Bool:=decide (48 <= c) && decide (c <= 57)
def namI (c:Int):Bool:=ltrI c || digI c
def numI (c:Int):Bool:=(!(c == 95) && namI c) || c == 45 || c == 43 || c == 46
def remI (c:Int):Bool:=!(c == 10)
def runL (p:Int -> Bool):List UInt8 -> Nat
 | []=>0
 | c :: r=>if p c.toNat then runL p r+1 else 0
theorem runL_le (p:Int -> Bool) (l:List UInt8):runL p l <= l.length:=by
 induction l with
 | nil=>simp [runL]
 | cons c r ih=>simp only [runL,List.length_cons]; split <;> omega
theorem runL_pos {p:Int -> Bool} {c:UInt8} {r:List UInt8} (h:p c.toNat=true):runL p (c :: r)=runL p r+1:=by simp [runL,h]
theorem runL_neg {p:Int -> Bool} {c:UInt8} {r:List UInt8} (h:p c.toNat=false):runL p (c :: r)=0:=by simp [runL,h]
def firstL:List UInt8 -> Nat × Nat × Bool
 | []=>(0,0,false)
 | c :: r =>
  if c.toNat=32 then (0,1,true)
  else if c.toNat=35 then (0,runL remI (c :: r),true)
  else if c.toNat=10 then (4,1,true)
  else if c.toNat=61 then (3,1,true)
  else if ltrI c.toNat=true then (1,runL namI (c :: r),decide (runL namI (c :: r) <= 32))
  else if (digI c.toNat || (c.toNat:Int) == 45 || (c.toNat:Int) == 46)=true then (2,runL numI (c :: r),decide (runL numI (c :: r) <= 40))
  else (0,0,false)
theorem firstL_le (l:List UInt8):(firstL l).2.1 <= l.length:=by
 cases l with
 | nil=>simp [firstL]
 | cons c r =>
  have h1:=runL_le remI (c :: r)
  have h2:=runL_le namI (c :: r)
  have h3:=runL_le numI (c :: r)
  simp only [List.length_cons] at *
  simp only [firstL]
  repeat' split
  all_goals simp only
  all_goals omega
theorem firstL_kind (l:List UInt8):(firstL l).1 <= 4:=by
 cases l with
 | nil=>simp [firstL]
 | cons c r =>
  unfold firstL
  repeat' split
  all_goals simp only
  all_goals omega
theorem ltr_nam {c:Int} (h:ltrI c=true):namI c=true:=by simp [namI,h]
theorem dig_num {c:Int} (h:(digI c || c == 45 || c == 46)=true):numI c=true:=by
 simp only [Bool.or_eq_true,beq_iff_eq] at h
 rcases h with (h | h) | h
 ·have h2:=h
  simp only [digI,Bool.and_eq_true,decide_eq_true_eq] at h2
  have h3:¬ c=95:=by omega
  simp [numI,namI,h,h3]
 ·simp [numI,h]
 ·simp [numI,h]
theorem firstL_pos {l:List UInt8} (hl:l≠[]) (h:(firstL l).2.2=true∨(firstL l).1≠0):1 <= (firstL l).2.1:=by
 cases l with
 | nil=>exact absurd rfl hl
 | cons c r =>
  simp only [firstL] at h ⊢
  split at h
  ·simp [*]
  ·rename_i h32
   rw [if_neg h32]
   split at h
   ·rename_i h35
    rw [if_pos h35,runL_pos (by simp [remI,h35])]
    simp
   ·rename_i h35
    rw [if_neg h35]
    split at h
    ·simp [*]
    ·rename_i h10
     rw [if_neg h10]
     split at h
     ·simp [*]
     ·rename_i h61
      rw [if_neg h61]
      split at h
      ·rename_i hlt
       rw [if_pos hlt,runL_pos (ltr_nam hlt)]
       simp
      ·rename_i hlt
       rw [if_neg hlt]
       split at h
       ·rename_i hd
        rw [if_pos hd,runL_pos (dig_num hd)]
        simp
       ·simp at h
structure Tok where
 kind:Nat
 pos:Nat
 text:List UInt8
deriving DecidableEq
def Tok.cells (t:Tok):List Value:=[.int .u8 t.kind,.int .i64 t.pos,.string ⟨t.text.toArray⟩]
def Tok.val (t:Tok):Value:=.agg #[.int .u8 t.kind,.int .i64 t.pos,.string ⟨t.text.toArray⟩]
def cellsOf (ts:List Tok):List Value:=ts.flatMap Tok.cells
theorem cellsOf_snoc (ts:List Tok) (t:Tok):cellsOf (ts ++ [t])=cellsOf ts ++ t.cells:=by simp [cellsOf]
def lexG:Nat -> List UInt8 -> Nat -> Nat -> List (Tok × Bool)
 | _,[],i,last=>if last=4 then [] else [(⟨4,i,[]⟩,true)]
 | 0,_ :: _,_,_=>[]
 | f+1,c :: r,i,last =>
  match firstL (c :: r) with
  | (k,n,true)=>if k=0 then lexG f ((c :: r).drop n) (i+n) last else (⟨k,i,(c :: r).take n⟩,true) :: lexG f ((c :: r).drop n) (i+n) k
  | (k,n,false)=>[(⟨k,i,(c :: r).take n⟩,false)]
theorem lexG_more:∀ (f g:Nat) (l:List UInt8) (i last:Nat),l.length <= f -> l.length <= g -> lexG f l i last=lexG g l i last:=by
 intro f
 induction f with
 | zero =>
  intro g l i last hf hg
  obtain rfl:l=[]:=List.eq_nil_of_length_eq_zero (by omega)
  cases g <;> rfl
 | succ f ih =>
  intro g l i last hf hg
  cases l with
  | nil=>cases g <;> rfl
  | cons c r =>
   cases g with
   | zero=>simp at hg
   | succ g =>
    have hp:=firstL_pos (l:=c :: r) (by simp)
    unfold lexG
    generalize firstL (c :: r)=q at *
    obtain ⟨k,n,b⟩:=q
    cases b with
    | false=>rfl
    | true =>
     have hn:1 <= n:=hp (.inl rfl)
     have hd:((c :: r).drop n).length <= f:=by rw [List.length_drop]; omega
     have hd':((c :: r).drop n).length <= g:=by rw [List.length_drop]; omega
     simp only
     rw [ih g _ _ last hd hd',ih g _ _ k hd hd']
def lexT (l:List UInt8) (i last:Nat):List (Tok × Bool):=lexG l.length l i last
theorem lexT_nil (i last:Nat):lexT [] i last=if last=4 then [] else [(⟨4,i,[]⟩,true)]:=rfl
theorem lexT_skip {l:List UInt8} {n i last:Nat} (hl:l≠[]) (h:firstL l=(0,n,true)):lexT l i last=lexT (l.drop n) (i+n) last:=by
 cases l with
 | nil=>exact absurd rfl hl
 | cons c r =>
  have hn:1 <= n:=by have:=firstL_pos (l:=c :: r) (by simp) (.inl (by rw [h])); rwa [h] at this
  unfold lexT
  rw [List.length_cons]
  conv=>lhs; unfold lexG
  rw [h]
  simp only [if_true]
  exact lexG_more _ _ _ _ _ (by rw [List.length_drop,List.length_cons]; omega) (Nat.le_refl _)
theorem lexT_tok {l:List UInt8} {k n i last:Nat} (hl:l≠[]) (h:firstL l=(k,n,true)) (hk:k≠0):lexT l i last=(⟨k,i,l.take n⟩,true) :: lexT (l.drop n) (i+n) k:=by
 cases l with
 | nil=>exact absurd rfl hl
 | cons c r =>
  have hn:1 <= n:=by have:=firstL_pos (l:=c :: r) (by simp) (.inl (by rw [h])); rwa [h] at this
  unfold lexT
  rw [List.length_cons]
  conv=>lhs; unfold lexG
  rw [h]
  simp only [if_neg hk]
  rw [lexG_more r.length _ _ _ k (by rw [List.length_drop,List.length_cons]; omega) (Nat.le_refl _)]
theorem lexT_bad {l:List UInt8} {k n i last:Nat} (hl:l≠[]) (h:firstL l=(k,n,false)):lexT l i last=[(⟨k,i,l.take n⟩,false)]:=by
 cases l with
 | nil=>exact absurd rfl hl
 | cons c r =>
  unfold lexT
  rw [List.length_cons]
  conv=>lhs; unfold lexG
  rw [h]
def errOf:List (Tok × Bool) -> Option Nat
 | []=>none
 | (_,true) :: r=>errOf r
 | (t,false) :: _=>some t.pos
def toksOf:List (Tok × Bool) -> List Tok
 | []=>[]
 | (t,true) :: r=>t :: toksOf r
 | (_,false) :: _=>[]
theorem errOf_app (ts:List Tok) (r:List (Tok × Bool)):errOf (ts.map (fun t=>(t,true)) ++ r)=errOf r:=by
 induction ts with
 | nil=>rfl
 | cons t ts ih=>simpa [errOf] using ih
theorem toksOf_app (ts:List Tok) (r:List (Tok × Bool)):toksOf (ts.map (fun t=>(t,true)) ++ r)=ts ++ toksOf r:=by
 induction ts with
 | nil=>rfl
 | cons t ts ih=>simpa [toksOf] using ih
def lexRes (l:List UInt8):List Tok × Nat × Nat :=
 if 1048576<l.length then ([],1048576,151)
 else match errOf (lexT l 0 4) with
  | some i=>([],i,150)
  | none=>(toksOf (lexT l 0 4),0,0)
theorem lexG_len (f:Nat):∀ (l:List UInt8) (i last:Nat),l.length <= f -> (lexG f l i last).length <= l.length+1:=by
 induction f with
 | zero =>
  intro l i last hf
  obtain rfl:l=[]:=List.eq_nil_of_length_eq_zero (by omega)
  unfold lexG; split <;> simp
 | succ f ih =>
  intro l i last hf
  cases l with
  | nil=>unfold lexG; split <;> simp
  | cons c r =>
   have hp:=firstL_pos (l:=c :: r) (by simp)
   unfold lexG
   generalize firstL (c :: r)=q at *
   obtain ⟨k,n,b⟩:=q
   cases b with
   | false=>simp
   | true =>
    have hn:1 <= n:=hp (.inl rfl)
    have hd:((c :: r).drop n).length <= f:=by rw [List.length_drop]; omega
    have hl:((c :: r).drop n).length+1 <= (c :: r).length:=by rw [List.length_drop]; simp only [List.length_cons] at *; omega
    simp only
    split
    ·exact Nat.le_trans (ih _ _ _ hd) (by omega)
    ·have:=ih _ (i+n) k hd
     simp only [List.length_cons] at *
     omega
theorem lexT_len (l:List UInt8) (i last:Nat):(lexT l i last).length <= l.length+1:=lexG_len _ _ _ _ (Nat.le_refl _)
end Go.Proofs.YtejmbbkklhpnaaaGreatDoor.lexm

/- The contracts of library functions: in ShfP. -/


/- The walks of lex's small functions: letter, digit, the closures, run, first. No conditions. -/
namespace Go.Proofs.YtejmbbkklhpnaaaGreatDoor.lexw
open Go.RowKit
open lexm
theorem ret_bool {a b:Bool} (h:a=b):Ending.returned (.bool a) = .returned (.bool b):=by rw [h]
theorem ret_int {k:IntKind} {a b:Int} (h:a=b):Ending.returned (.int k a) = .returned (.int k b):=by rw [h]
theorem or32:∀ n:Fin 256,(ltrI n.val=(decide ((n.val:Int)=95) || (decide (97 <= bits BinOp.or IntKind.u8 n.val 32) && decide (bits BinOp.or IntKind.u8 n.val 32 <= 122)))):=by decide +kernel
theorem or32_int (c:Int) (h0:0 <= c) (h1:c <= 255):ltrI c=(decide (c=95) || (decide (97 <= bits BinOp.or IntKind.u8 c 32) && decide (bits BinOp.or IntKind.u8 c 32 <= 122))):=by
 have:=or32 ⟨c.toNat,by omega⟩
 simp only [Int.toNat_of_nonneg h0] at this
 exact this
theorem letter_any (c:Int) (h0:0 <= c) (h1:c <= 255) (w:World):Calls Tryz.prog 117 #[.int .u8 c] w fun e w'=>e = .returned (.bool (ltrI c))∧w=w':=by
 have H:=Lib.hid (or32_int c h0 h1)
 go_enter Tryz.func117,Tryz.ntmps117
 go_wp2
 all_goals go_ret
 ·have h:c=95:=by assumption
  exact ⟨ret_bool (by rw [H.out,h]; rfl),rfl⟩
 ·have h:¬ c=95:=by assumption
  have h2:97 <= bits BinOp.or IntKind.u8 c 32:=by assumption
  exact ⟨ret_bool (by rw [H.out]; simp [h,h2]),rfl⟩
 ·have h:¬ c=95:=by assumption
  have h2:bits BinOp.or IntKind.u8 c 32<97:=by assumption
  have h3:¬ 97 <= bits BinOp.or IntKind.u8 c 32:=by omega
  exact ⟨ret_bool (by rw [H.out]; simp [h,h3]),rfl⟩
theorem digit_any (c:Int) (w:World):Calls Tryz.prog 118 #[.int .u8 c] w fun e w'=>e = .returned (.bool (digI c))∧w=w':=by
 go_enter Tryz.func118,Tryz.ntmps118
 go_wp2
 all_goals go_ret
 ·have h:48 <= c:=by assumption
  exact ⟨ret_bool (by simp [digI,h]),rfl⟩
 ·have h:¬ 48 <= c:=by omega
  exact ⟨ret_bool (by simp [digI,h]),rfl⟩
theorem name_any (c:Int) (h0:0 <= c) (h1:c <= 255) (w:World):Calls Tryz.prog 116 #[.int .u8 c] w fun e w'=>e = .returned (.bool (namI c))∧w=w':=by
 have hn:namI c=(ltrI c || digI c):=rfl
 cases hl:ltrI c
 all_goals
  have Hl:=Lib.hid hl
  have Hn:=Lib.hid hn
  clear hl hn
  go_enter Tryz.func116,Tryz.ntmps116
  go_wp2_with (first | (go_at_call 117; refine (letter_any _ h0 h1 _).mono ?_; rw [Hl.out]; rintro e w' ⟨rfl,rfl⟩) | (go_at_call 118; refine (digit_any _ _).mono ?_; rintro e w' ⟨rfl,rfl⟩))
  go_ret
  exact ⟨ret_bool (by rw [Hn.out,Hl.out]; rfl),rfl⟩
theorem rem_any (c:Int) (w:World):Calls Tryz.prog 122 #[.int .u8 c] w fun e w'=>e = .returned (.bool (remI c))∧w=w':=by
 go_enter Tryz.func122,Tryz.ntmps122
 go_wp2
 go_ret
 exact ⟨ret_bool (by simp [remI,bne]),rfl⟩
theorem idx_num (c:Int) (h0:0 <= c) (h1:c <= 255):decide (0 <= Lib.indexByte [45,43,46] c.toNat.toUInt8)=(c == 45 || c == 43 || c == 46):=by
 have h:∀ n:Fin 256,decide (0 <= Lib.indexByte [45,43,46] n.val.toUInt8)=((n.val:Int) == 45 || (n.val:Int) == 43 || (n.val:Int) == 46):=by decide +kernel
 have:=h ⟨c.toNat,by omega⟩
 simp only [Int.toNat_of_nonneg h0] at this
 exact this
theorem number_any (c:Int) (h0:0 <= c) (h1:c <= 255) (w:World) (b:Nat) (hc:w.cell? ⟨b,0,none⟩=some (.func (.func 116) #[] #[])) :
  Calls Tryz.prog 119 #[.int .u8 c,.pointer (some ⟨b,0,none⟩)] w fun e w'=>e = .returned (.bool (numI c))∧w=w':=by
 have hi:=idx_num c h0 h1
 have hn:numI c=((!(c == 95) && namI c) || (c == 45 || c == 43 || c == 46)):=by simp [numI,Bool.or_assoc]
 rw [<- hi] at hn
 clear hi
 have HN:=Lib.hid hn
 clear hn
 by_cases h95:c=95
 ·subst h95
  go_enter Tryz.func119,Tryz.ntmps119
  go_wp2_with (first | (go_at_call 120; refine (Tryz.strings_IndexByte _ _ _).mono ?_; rintro e w' ⟨rfl,rfl⟩))
  go_ret
  exact ⟨ret_bool (by decide +kernel),rfl⟩
 ·have h95':(c == 95)=false:=by simpa using h95
  have h95'':(c != 95)=true:=by simpa using h95
  cases hl:namI c
  all_goals
   have Hl:=Lib.hid hl
   clear hl
   go_enter Tryz.func119,Tryz.ntmps119
   go_wp2_with (first | (go_at_call 116; refine (name_any _ h0 h1 _).mono ?_; rw [Hl.out]; rintro e w' ⟨rfl,rfl⟩) | (go_at_call 120; refine (Tryz.strings_IndexByte _ _ _).mono ?_; rintro e w' ⟨rfl,rfl⟩))
   go_ret
   exact ⟨ret_bool (by rw [HN.out,Hl.out,h95']; rfl),rfl⟩
theorem drop_cons (s:ByteArray) (k:Nat) (h:k<s.size):s.data.toList.drop k=s[k] :: s.data.toList.drop (k+1):=by
 rw [List.drop_eq_getElem_cons (by simpa using h)]; rfl
theorem drop_end (s:ByteArray) (k:Nat) (h:s.size <= k):s.data.toList.drop k=[]:=List.drop_eq_nil_of_le (by simpa using h)
theorem byte_le (s:ByteArray) (k:Nat) (h:k<s.size):(s[k].toNat:Int) <= 255:=by have:=UInt8.toNat_lt s[k]; omega
set_option maxHeartbeats 400000 in
theorem run_nam (s:ByteArray) (w:World) (hs:s.size <= maxLen) :
  Calls Tryz.prog 121 #[.string s,.func (.func 116) #[] #[]] w fun e w'=>e = .returned (.int .i64 (runL namI s.data.toList))∧w=w':=by
 unfold maxLen at hs
 go_enter Tryz.func121,Tryz.ntmps121
 go_wp2
 go_loop [5] (fun i=>∃ k:Nat,k <= s.size∧i = .int .i64 k∧runL namI s.data.toList=runL namI (s.data.toList.drop k)+k) (fun i=>s.size-(intOf i).toNat)
 case atStart=>exact ⟨0,Nat.zero_le _,rfl,rfl⟩
 case round =>
  obtain ⟨k,hk,rfl,hr⟩:=hrel
  have HR:=Lib.hid hr
  clear hr
  by_cases hlt:k<s.size
  ·have h255:=byte_le s k hlt
   cases hp:namI s[k].toNat
   ·have h2:=runL_neg (p:=namI) (r:=s.data.toList.drop (k+1)) hp
    rw [<- drop_cons s k hlt] at h2
    have H2:=Lib.hid h2
    have HP:=Lib.hid hp
    clear h2 hp
    go_wp2_with (first | (go_at_call 116; refine (name_any _ (by omega) (by omega) _).mono ?_; rw [HP.out]; rintro e w' ⟨rfl,rfl⟩))
    go_ret
    exact ⟨ret_int (by rw [HR.out,H2.out]; simp),rfl⟩
   ·have h2:=runL_pos (p:=namI) (r:=s.data.toList.drop (k+1)) hp
    rw [<- drop_cons s k hlt] at h2
    have H2:=Lib.hid h2
    have HP:=Lib.hid hp
    clear h2 hp
    go_wp2_with (first | (go_at_call 116; refine (name_any _ (by omega) (by omega) _).mono ?_; rw [HP.out]; rintro e w' ⟨rfl,rfl⟩))
    go_round
    case rel=>exact ⟨k+1,by omega,by go_num,by rw [HR.out,H2.out]; omega⟩
    case measure=>simp [intOf]; omega
  ·have h2:=drop_end s k (by omega)
   have H2:=Lib.hid h2
   clear h2
   go_wp2
   go_ret
   exact ⟨ret_int (by rw [HR.out,H2.out]; simp [runL]),rfl⟩
set_option maxHeartbeats 400000 in
theorem run_num (s:ByteArray) (w:World) (hs:s.size <= maxLen) (b:Nat) (hc:w.cell? ⟨b,0,none⟩=some (.func (.func 116) #[] #[])) :
  Calls Tryz.prog 121 #[.string s,.func (.func 119) #[] #[.pointer (some ⟨b,0,none⟩)]] w fun e w'=>e = .returned (.int .i64 (runL numI s.data.toList))∧w=w':=by
 unfold maxLen at hs
 go_enter Tryz.func121,Tryz.ntmps121
 go_wp2
 go_loop [5] (fun i=>∃ k:Nat,k <= s.size∧i = .int .i64 k∧runL numI s.data.toList=runL numI (s.data.toList.drop k)+k) (fun i=>s.size-(intOf i).toNat)
 case atStart=>exact ⟨0,Nat.zero_le _,rfl,rfl⟩
 case round =>
  obtain ⟨k,hk,rfl,hr⟩:=hrel
  have HR:=Lib.hid hr
  clear hr
  by_cases hlt:k<s.size
  ·have h255:=byte_le s k hlt
   cases hp:numI s[k].toNat
   ·have h2:=runL_neg (p:=numI) (r:=s.data.toList.drop (k+1)) hp
    rw [<- drop_cons s k hlt] at h2
    have H2:=Lib.hid h2
    have HP:=Lib.hid hp
    clear h2 hp
    go_wp2_with (first | (go_at_call 119; refine (number_any _ (by omega) (by omega) _ b hc).mono ?_; rw [HP.out]; rintro e w' ⟨rfl,rfl⟩))
    go_ret
    exact ⟨ret_int (by rw [HR.out,H2.out]; simp),rfl⟩
   ·have h2:=runL_pos (p:=numI) (r:=s.data.toList.drop (k+1)) hp
    rw [<- drop_cons s k hlt] at h2
    have H2:=Lib.hid h2
    have HP:=Lib.hid hp
    clear h2 hp
    go_wp2_with (first | (go_at_call 119; refine (number_any _ (by omega) (by omega) _ b hc).mono ?_; rw [HP.out]; rintro e w' ⟨rfl,rfl⟩))
    go_round
    case rel=>exact ⟨k+1,by omega,by go_num,by rw [HR.out,H2.out]; omega⟩
    case measure=>simp [intOf]; omega
  ·have h2:=drop_end s k (by omega)
   have H2:=Lib.hid h2
   clear h2
   go_wp2
   go_ret
   exact ⟨ret_int (by rw [HR.out,H2.out]; simp [runL]),rfl⟩
set_option maxHeartbeats 400000 in
theorem run_rem (s:ByteArray) (w:World) (hs:s.size <= maxLen) :
  Calls Tryz.prog 121 #[.string s,.func (.func 122) #[] #[]] w fun e w'=>e = .returned (.int .i64 (runL remI s.data.toList))∧w=w':=by
 unfold maxLen at hs
 go_enter Tryz.func121,Tryz.ntmps121
 go_wp2
 go_loop [5] (fun i=>∃ k:Nat,k <= s.size∧i = .int .i64 k∧runL remI s.data.toList=runL remI (s.data.toList.drop k)+k) (fun i=>s.size-(intOf i).toNat)
 case atStart=>exact ⟨0,Nat.zero_le _,rfl,rfl⟩
 case round =>
  obtain ⟨k,hk,rfl,hr⟩:=hrel
  have HR:=Lib.hid hr
  clear hr
  by_cases hlt:k<s.size
  ·have h255:=byte_le s k hlt
   cases hp:remI s[k].toNat
   ·have h2:=runL_neg (p:=remI) (r:=s.data.toList.drop (k+1)) hp
    rw [<- drop_cons s k hlt] at h2
    have H2:=Lib.hid h2
    have HP:=Lib.hid hp
    clear h2 hp
    go_wp2_with (first | (go_at_call 122; refine (rem_any _ _).mono ?_; rw [HP.out]; rintro e w' ⟨rfl,rfl⟩))
    go_ret
    exact ⟨ret_int (by rw [HR.out,H2.out]; simp),rfl⟩
   ·have h2:=runL_pos (p:=remI) (r:=s.data.toList.drop (k+1)) hp
    rw [<- drop_cons s k hlt] at h2
    have H2:=Lib.hid h2
    have HP:=Lib.hid hp
    clear h2 hp
    go_wp2_with (first | (go_at_call 122; refine (rem_any _ _).mono ?_; rw [HP.out]; rintro e w' ⟨rfl,rfl⟩))
    go_round
    case rel=>exact ⟨k+1,by omega,by go_num,by rw [HR.out,H2.out]; omega⟩
    case measure=>simp [intOf]; omega
  ·have h2:=drop_end s k (by omega)
   have H2:=Lib.hid h2
   clear h2
   go_wp2
   go_ret
   exact ⟨ret_int (by rw [HR.out,H2.out]; simp [runL]),rfl⟩
end Go.Proofs.YtejmbbkklhpnaaaGreatDoor.lexw
