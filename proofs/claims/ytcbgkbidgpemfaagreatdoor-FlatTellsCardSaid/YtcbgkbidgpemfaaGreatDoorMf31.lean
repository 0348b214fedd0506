/- The walk of parse.Word. Condition: the kind is a byte. -/
import Derived.Test.YtcbgkbidgpemfaaGreatDoorMf00
import Derived.Test.YtcbgkbidgpemfaaGreatDoorMf04
import Derived.Test.YtcbgkbidgpemfaaGreatDoorMf07
namespace Go.Proofs.YtcbgkbidgpemfaaGreatDoor
set_option maxHeartbeats 1000000
namespace parw
open Go.RowKit
open lexw
def wordF (k:Nat):ByteArray:=wordsL.getD k ⟨#[]⟩
end parw

/- burnishref17: a statement from a token on, as a list function, is what the parser's reader makes of it. Plain; no condition but those stated. -/
namespace rg
open parw
variable {dec:ByteArray -> Nat × Nat} {en:Int}
def behF (k:Nat):Nat × Nat:=if k=1 then (3,0) else if k=2 then (4,0) else if k=3 then (2,0) else if k=4 then (7,0) else if k=5 then (1,2) else (4,1)
def wantF (i nb wd:Nat):Nat:=if i=1 then 3 else if i=3+nb+wd then 4 else if 3 <= i∧i<3+nb then 2 else 1
def lineL (dec:ByteArray -> Nat × Nat) (en:Int):List PTok -> Nat -> Nat -> Nat -> PStmt -> (PStmt × List PTok) ⊕ (Int × Nat)
 | [],i,nb,wd,s=>if 3+nb+wd+1 <= i then .inl (s,[]) else .inr (en,170)
 | t :: r,i,nb,wd,s =>
  if 3+nb+wd+1 <= i then .inl (s,t :: r)
  else if t.kind≠wantF i nb wd then .inr (t.pos,170)
  else if i=0 then lineL dec en r 1 nb wd { s with name:=t.text,pos:=t.pos }
  else if i=2 then (if kindF t.text=0 then .inr (t.pos,171) else lineL dec en r 3 (behF (kindF t.text)).1 (behF (kindF t.text)).2 { s with kind:=kindF t.text })
  else if wantF i nb wd=2 then (if (dec t.text).2=0 then lineL dec en r (i+1) nb wd { s with args:=s.args ++ [⟨t.pos,(dec t.text).1,⟨#[]⟩⟩] } else .inr (t.pos,(dec t.text).2))
  else if wantF i nb wd=1 then lineL dec en r (i+1) nb wd { s with args:=s.args ++ [⟨t.pos,0,t.text⟩] }
  else lineL dec en r (i+1) nb wd s
def Fits (en:Int) (s:PStmt) (a:List PArg × RSt) (r:(PStmt × List PTok) ⊕ (Int × Nat)):Prop :=
 match r with
 | .inl (s',rest)=>s'={ s with args:=s.args ++ a.1 }∧(nextS en a.2 4).2=⟨rest,0,0⟩
 | .inr (p,e)=>e≠0∧(nextS en a.2 4).2.pl=p∧(nextS en a.2 4).2.er=e
theorem arg_er (b:Bool) {s:RSt} (h:¬ s.er=0):(argS dec en b s).2=s:=by
 unfold argS
 split
 ·unfold numS;rw [nextS_er h,if_neg h]
 ·unfold wordS;rw [nextS_er h]
theorem args_er:∀ (bs:List Bool) {s:RSt},¬ s.er=0 -> (argsS dec en bs s).2=s
 | [],_,_=>rfl
 | b :: r,s,h=>by
  show (argsS dec en r (argS dec en b s).2).2=s;rw [arg_er b h];exact args_er r h
theorem fits_er {s:PStmt} {a:List PArg × RSt} {p:Int} {e:Nat} (he:e≠0) (h1:a.2.pl=p) (h2:a.2.er=e):Fits en s a (.inr (p,e)):=by
 have:¬ a.2.er=0:=by rw [h2]; exact he
 unfold Fits;rw [nextS_er this];exact ⟨he,h1,h2⟩
theorem fits_cons {s:PStmt} {x:PArg} {a:List PArg × RSt} {r:(PStmt × List PTok) ⊕ (Int × Nat)} (h:Fits en { s with args:=s.args ++ [x] } a r):Fits en s (x :: a.1,a.2) r:=by
 unfold Fits at h ⊢
 cases r with
 | inl q =>
  obtain ⟨h1,h2⟩:=h;refine ⟨?_,h2⟩;rw [h1];simp
 | inr q=>exact h
theorem end_line (nb wd:Nat) (ts:List PTok) (s:PStmt):Fits en s ([],⟨ts,0,0⟩) (lineL dec en ts (3+nb+wd) nb wd s):=by
 have hw:wantF (3+nb+wd) nb wd=4:=by unfold wantF; rw [if_neg (by omega),if_pos rfl]
 cases ts with
 | nil =>
  show Fits en s _ (if _ then _ else _);rw [if_neg (by omega)];exact ⟨by decide,rfl,rfl⟩
 | cons t r =>
  show Fits en s _ (if _ then _ else _);rw [if_neg (by omega),hw]
  by_cases hk:t.kind=4
  ·rw [if_neg (fun h=>h hk),if_neg (by omega),if_neg (by omega),if_neg (by decide),if_neg (by decide)];have e:lineL dec en r (3+nb+wd+1) nb wd s = .inl (s,r):=by
    cases r with
    | nil=>show (if _ then _ else _)=_; rw [if_pos (Nat.le_refl _)]
    | cons u r=>show (if _ then _ else _)=_; rw [if_pos (Nat.le_refl _)]
   rw [e];refine ⟨by simp,?_⟩;rw [nextS_yes rfl rfl hk]
  ·rw [if_pos hk];refine ⟨by decide,?_,?_⟩
   ·rw [nextS_no rfl rfl hk]
   ·rw [nextS_no rfl rfl hk]
theorem words_line (nb wd:Nat):∀ (q i:Nat) (ts:List PTok) (s:PStmt),i+q=3+nb+wd -> 3+nb <= i -> Fits en s (argsS dec en (List.replicate q false) ⟨ts,0,0⟩) (lineL dec en ts i nb wd s)
 | 0,i,ts,s,h,_=>by
  obtain rfl:i=3+nb+wd:=by omega
  exact end_line nb wd ts s
 | q+1,i,ts,s,h,h3=>by
  have hw:wantF i nb wd=1:=by unfold wantF; rw [if_neg (by omega),if_neg (by omega),if_neg (by omega)]
  show Fits en s ((argS dec en false ⟨ts,0,0⟩).1 :: (argsS dec en (List.replicate q false) (argS dec en false ⟨ts,0,0⟩).2).1,(argsS dec en (List.replicate q false) (argS dec en false ⟨ts,0,0⟩).2).2) _
  cases ts with
  | nil =>
   have e:(argS dec en false ⟨[],0,0⟩).2=⟨[],en,170⟩:=rfl;rw [e];show Fits en s _ (if _ then _ else _);rw [if_neg (by omega)];refine fits_er (by decide) ?_ ?_
   ·rw [args_er _ (show ¬ (170:Nat)=0 by decide)]
   ·rw [args_er _ (show ¬ (170:Nat)=0 by decide)]
  | cons t r =>
   show Fits en s _ (if _ then _ else _);rw [if_neg (by omega),hw]
   by_cases hk:t.kind=1
   ·rw [if_neg (fun h=>h hk),if_neg (by omega),if_neg (by omega),if_neg (by decide),if_pos rfl];have e:argS dec en false ⟨t :: r,0,0⟩=(⟨t.pos,0,t.text⟩,⟨r,0,0⟩):=by
     unfold argS wordS;rw [if_neg (by decide),nextS_yes rfl rfl hk]
    rw [e];exact fits_cons (words_line nb wd q (i+1) r _ (by omega) (by omega))
   ·rw [if_pos hk];have e:(argS dec en false ⟨t :: r,0,0⟩).2=⟨t :: r,t.pos,170⟩:=by
     unfold argS wordS;rw [if_neg (by decide),nextS_no rfl rfl hk]
    rw [e];refine fits_er (by decide) ?_ ?_
    ·rw [args_er _ (show ¬ (170:Nat)=0 by decide)]
    ·rw [args_er _ (show ¬ (170:Nat)=0 by decide)]
theorem nums_line (nb wd:Nat):∀ (q i:Nat) (ts:List PTok) (s:PStmt),i+q=3+nb -> 3 <= i -> Fits en s (argsS dec en (List.replicate q true ++ List.replicate wd false) ⟨ts,0,0⟩) (lineL dec en ts i nb wd s)
 | 0,i,ts,s,h,_=>by
  obtain rfl:i=3+nb:=by omega
  rw [List.replicate_zero,List.nil_append];exact words_line nb wd wd (3+nb) ts s rfl (Nat.le_refl _)
 | q+1,i,ts,s,h,h3=>by
  have hw:wantF i nb wd=2:=by unfold wantF; rw [if_neg (by omega),if_neg (by omega),if_pos (by omega)]
  rw [List.replicate_succ,List.cons_append];show Fits en s ((argS dec en true ⟨ts,0,0⟩).1 :: (argsS dec en (List.replicate q true ++ List.replicate wd false) (argS dec en true ⟨ts,0,0⟩).2).1,(argsS dec en (List.replicate q true ++ List.replicate wd false) (argS dec en true ⟨ts,0,0⟩).2).2) _
  cases ts with
  | nil =>
   have e:(argS dec en true ⟨[],0,0⟩).2=⟨[],en,170⟩:=rfl;rw [e];show Fits en s _ (if _ then _ else _);rw [if_neg (by omega)];refine fits_er (by decide) ?_ ?_
   ·rw [args_er _ (show ¬ (170:Nat)=0 by decide)]
   ·rw [args_er _ (show ¬ (170:Nat)=0 by decide)]
  | cons t r =>
   show Fits en s _ (if _ then _ else _);rw [if_neg (by omega),hw]
   by_cases hk:t.kind=2
   ·rw [if_neg (fun h=>h hk),if_neg (by omega),if_neg (by omega),if_pos rfl];have e:argS dec en true ⟨t :: r,0,0⟩=(⟨t.pos,(dec t.text).1,⟨#[]⟩⟩,if (dec t.text).2=0 then ⟨r,0,0⟩ else (⟨r,0,0⟩:RSt).fail t.pos (dec t.text).2):=by
     unfold argS numS;rw [if_pos rfl,nextS_yes rfl rfl hk];rfl
    rw [e]
    by_cases hd:(dec t.text).2=0
    ·rw [if_pos hd,if_pos hd];exact fits_cons (nums_line nb wd q (i+1) r _ (by omega) (by omega))
    ·rw [if_neg hd,if_neg hd];have e2:(⟨r,0,0⟩:RSt).fail t.pos (dec t.text).2=⟨r,t.pos,(dec t.text).2⟩:=rfl;rw [e2];refine fits_er hd ?_ ?_
     ·rw [args_er _ (show ¬ (dec t.text).2=0 from hd)]
     ·rw [args_er _ (show ¬ (dec t.text).2=0 from hd)]
   ·rw [if_pos hk];have e:(argS dec en true ⟨t :: r,0,0⟩).2=⟨t :: r,t.pos,170⟩:=by
     unfold argS numS;rw [if_pos rfl,nextS_no rfl rfl hk];rfl
    rw [e];refine fits_er (by decide) ?_ ?_
    ·rw [args_er _ (show ¬ (170:Nat)=0 by decide)]
    ·rw [args_er _ (show ¬ (170:Nat)=0 by decide)]
theorem form_beh:∀ k,1 <= k -> k <= 6 -> formL k=List.replicate (behF k).1 true ++ List.replicate (behF k).2 false:=by
 intro k h1 h2;have:k=1∨k=2∨k=3∨k=4∨k=5∨k=6:=by omega
 rcases this with rfl | rfl | rfl | rfl | rfl | rfl <;> rfl
def st0:PStmt:=⟨⟨#[]⟩,0,0,[]⟩
theorem stmt_line (ts:List PTok):match lineL dec en ts 0 0 0 st0 with
  | .inl (s,rest)=>stmtS dec en ⟨ts,0,0⟩=(s,⟨rest,0,0⟩)
  | .inr (p,e)=>e≠0∧(stmtS dec en ⟨ts,0,0⟩).2.pl=p∧(stmtS dec en ⟨ts,0,0⟩).2.er=e:=by
 have hsn:∀ (n t:PTok × RSt),n=nextS en ⟨ts,0,0⟩ 1 -> t=nextS en (nextS en n.2 3).2 1 -> stmtS dec en ⟨ts,0,0⟩=(⟨n.1.text,n.1.pos,kindF t.1.text,(argsS dec en (formL (kindF t.1.text)) (if kindF t.1.text=0 then t.2.fail t.1.pos 171 else t.2)).1⟩,(nextS en (argsS dec en (formL (kindF t.1.text)) (if kindF t.1.text=0 then t.2.fail t.1.pos 171 else t.2)).2 4).2):=by
  rintro n t rfl rfl;rfl
 have bad:∀ (n t:PTok × RSt) (p:Int) (e:Nat),n=nextS en ⟨ts,0,0⟩ 1 -> t=nextS en (nextS en n.2 3).2 1 -> e≠0 -> t.2.pl=p -> t.2.er=e -> e≠0∧(stmtS dec en ⟨ts,0,0⟩).2.pl=p∧(stmtS dec en ⟨ts,0,0⟩).2.er=e:=by
  intro n t p e h1 h2 h3 h4 h5;rw [hsn n t h1 h2];have hne:¬ t.2.er=0:=by rw [h5]; exact h3
  have e1:(if kindF t.1.text=0 then t.2.fail t.1.pos 171 else t.2)=t.2:=by
   split
   ·unfold RSt.fail;rw [if_neg hne]
   ·rfl
  rw [e1,args_er _ hne,nextS_er hne];exact ⟨h3,h4,h5⟩
 have w0:wantF 0 0 0=1:=rfl;have w1:wantF 1 0 0=3:=rfl;have w2:wantF 2 0 0=1:=rfl
 cases ts with
 | nil=>exact bad _ _ en 170 rfl rfl (by decide) rfl rfl
 | cons a r =>
  have e0:lineL dec en (a :: r) 0 0 0 st0=if a.kind≠1 then .inr (a.pos,170) else lineL dec en r 1 0 0 { st0 with name:=a.text,pos:=a.pos }:=rfl;rw [e0]
  by_cases ha:a.kind=1
  ·rw [if_neg (fun h=>h ha)];have n0:nextS en ⟨a :: r,0,0⟩ 1=(a,⟨r,0,0⟩):=nextS_yes rfl rfl ha
   cases r with
   | nil =>
    refine bad (a,⟨[],0,0⟩) _ en 170 n0.symm rfl (by decide) rfl rfl
   | cons b r =>
    have e1:∀ s,lineL dec en (b :: r) 1 0 0 s=if b.kind≠3 then .inr (b.pos,170) else lineL dec en r 2 0 0 s:=fun _=>rfl;rw [e1]
    by_cases hb:b.kind=3
    ·rw [if_neg (fun h=>h hb)];have n1:nextS en ⟨b :: r,0,0⟩ 3=(b,⟨r,0,0⟩):=nextS_yes rfl rfl hb
     cases r with
     | nil =>
      refine bad (a,⟨[b],0,0⟩) (PTok.no,⟨[],en,170⟩) en 170 n0.symm ?_ (by decide) rfl rfl;rw [n1];rfl
     | cons c r =>
      have e2:∀ s,lineL dec en (c :: r) 2 0 0 s=if c.kind≠1 then .inr (c.pos,170) else if kindF c.text=0 then .inr (c.pos,171) else lineL dec en r 3 (behF (kindF c.text)).1 (behF (kindF c.text)).2 { s with kind:=kindF c.text }:=fun _=>rfl;rw [e2]
      by_cases hc:c.kind=1
      ·rw [if_neg (fun h=>h hc)];have n2:nextS en ⟨c :: r,0,0⟩ 1=(c,⟨r,0,0⟩):=nextS_yes rfl rfl hc;have hst:=hsn (a,⟨b :: c :: r,0,0⟩) (c,⟨r,0,0⟩) n0.symm (by rw [n1,n2])
       by_cases h0:kindF c.text=0
       ·rw [if_pos h0];rw [hst,if_pos h0];have e3:(⟨r,0,0⟩:RSt).fail c.pos 171=⟨r,c.pos,171⟩:=rfl;simp only [e3];rw [args_er _ (show ¬ (171:Nat)=0 by decide),nextS_er (show ¬ (171:Nat)=0 by decide)];exact ⟨by decide,rfl,rfl⟩
       ·rw [if_neg h0];rw [hst,if_neg h0];have hk6:=kindF_le c.text;have hF:=nums_line (dec:=dec) (en:=en) (behF (kindF c.text)).1 (behF (kindF c.text)).2 (behF (kindF c.text)).1 3 r ⟨a.text,a.pos,kindF c.text,[]⟩ rfl (Nat.le_refl _);rw [<- form_beh _ (by omega) hk6] at hF;have hs:({ ({ st0 with name:=a.text,pos:=a.pos }:PStmt) with kind:=kindF c.text }:PStmt)=⟨a.text,a.pos,kindF c.text,[]⟩:=rfl;rw [hs];unfold Fits at hF;obtain ⟨R,hR⟩:∃ R,lineL dec en r 3 (behF (kindF c.text)).1 (behF (kindF c.text)).2 ⟨a.text,a.pos,kindF c.text,[]⟩=R:=⟨_,rfl⟩;rw [hR] at hF ⊢
        cases R with
        | inl q =>
         obtain ⟨s',rest⟩:=q;obtain ⟨h1,h2⟩:=hF;simp only at h1 h2 ⊢;rw [h1,h2];simp
        | inr q=>exact hF
      ·rw [if_pos hc];refine bad (a,⟨b :: c :: r,0,0⟩) (PTok.no,⟨c :: r,c.pos,170⟩) _ _ n0.symm ?_ (by decide) rfl rfl;rw [n1];exact (nextS_no (s:=⟨c :: r,0,0⟩) rfl rfl hc).symm
    ·rw [if_pos hb];have n1:nextS en ⟨b :: r,0,0⟩ 3=(PTok.no,⟨b :: r,b.pos,170⟩):=nextS_no rfl rfl hb;refine bad (a,⟨b :: r,0,0⟩) (PTok.no,⟨b :: r,b.pos,170⟩) _ _ n0.symm ?_ (by decide) rfl rfl;rw [n1];exact (nextS_er (show ¬ (170:Nat)=0 by decide)).symm
  ·rw [if_pos ha];have n0:nextS en ⟨a :: r,0,0⟩ 1=(PTok.no,⟨a :: r,a.pos,170⟩):=nextS_no rfl rfl ha;refine bad (PTok.no,⟨a :: r,a.pos,170⟩) (PTok.no,⟨a :: r,a.pos,170⟩) _ _ n0.symm ?_ (by decide) rfl rfl;rw [nextS_er (show ¬ (170:Nat)=0 by decide),nextS_er (show ¬ (170:Nat)=0 by decide)]
def refL (dec:ByteArray -> Nat × Nat) (en:Int):Nat -> List PTok -> List PStmt -> List PStmt × Int × Nat
 | 0,_,out=>(out,0,0)
 | _+1,[],out=>(out,0,0)
 | f+1,t :: r,out=>if t.kind=4 then refL dec en f r out else match lineL dec en (t :: r) 0 0 0 st0 with
  | .inl (s,rest)=>refL dec en f rest (out ++ [s])
  | .inr (p,e)=>([],p,e)
theorem ref_parse:∀ (f:Nat) (ts:List PTok) (out:List PStmt),refL dec en f ts out=if (parseL dec en f ⟨ts,0,0⟩ out).2.er=0 then ((parseL dec en f ⟨ts,0,0⟩ out).1,0,0) else ([],(parseL dec en f ⟨ts,0,0⟩ out).2.pl,(parseL dec en f ⟨ts,0,0⟩ out).2.er)
 | 0,_,_=>rfl
 | _+1,[],_=>rfl
 | f+1,t :: r,out=>by
  have e1:parseL dec en (f+1) ⟨t :: r,0,0⟩ out=if t.kind=4 then parseL dec en f ⟨r,0,0⟩ out else parseL dec en f (stmtS dec en ⟨t :: r,0,0⟩).2 (out ++ [(stmtS dec en ⟨t :: r,0,0⟩).1]):=rfl;have e2:refL dec en (f+1) (t :: r) out=if t.kind=4 then refL dec en f r out else match lineL dec en (t :: r) 0 0 0 st0 with
   | .inl (s,rest)=>refL dec en f rest (out ++ [s])
   | .inr (p,e)=>([],p,e):=rfl
  rw [e1,e2]
  by_cases hk:t.kind=4
  ·rw [if_pos hk,if_pos hk];exact ref_parse f r out
  ·rw [if_neg hk,if_neg hk];have h:=stmt_line (dec:=dec) (en:=en) (t :: r);obtain ⟨R,hR⟩:∃ R,lineL dec en (t :: r) 0 0 0 st0=R:=⟨_,rfl⟩;rw [hR] at h ⊢
   cases R with
   | inl q =>
    obtain ⟨s,rest⟩:=q;simp only at h ⊢;rw [h];exact ref_parse f rest (out ++ [s])
   | inr q =>
    obtain ⟨p,e⟩:=q;obtain ⟨h1,h2,h3⟩:=h;have hne:(stmtS dec en ⟨t :: r,0,0⟩).2.er≠0:=by rw [h3]; exact h1
    rw [parseL_end (.inl hne)];simp only;rw [if_neg hne,h2,h3]
theorem parse_ref (ts:List PTok):refL dec (endOf ts) (ts.length+1) ts []=parseRes dec ts:=ref_parse _ _ _
end rg

/- burnishref17: the walks of Word, Kind and behind. Conditions: as each theorem states. -/
namespace rg
open Go.RowKit
open parw
open lexw
theorem word_no (k:Nat) (h:k=0∨7 <= k):wordF k=⟨#[]⟩:=by
 rcases h with rfl | h
 ·rfl
 ·unfold wordF;rw [List.getD_eq_getElem?_getD,List.getElem?_eq_none (by show 7 <= k; omega)];rfl
theorem rword_any (k:Nat) (w:World):Calls Tryz.prog 9 #[.int .u8 k] w fun e w'=>e = .returned (.string (wordF k))∧w'=w:=by
 by_cases h1:k=1
 case' neg=>by_cases h2:k=2
 case' neg=>by_cases h3:k=3
 case' neg=>by_cases h4:k=4
 case' neg=>by_cases h5:k=5
 case' neg=>by_cases h6:k=6
 case neg =>
  have e1:((k:Int) == 1)=false:=Yf (by omega)
  have e2:((k:Int) == 2)=false:=Yf (by omega)
  have e3:((k:Int) == 3)=false:=Yf (by omega)
  have e4:((k:Int) == 4)=false:=Yf (by omega)
  have e5:((k:Int) == 5)=false:=Yf (by omega)
  have e6:((k:Int) == 6)=false:=Yf (by omega)
  rw [word_no k (by omega)];clear h1 h2 h3 h4 h5 h6;go_enter Tryz.func9,Tryz.ntmps9;go_wp2;go_ret;exact ⟨rfl,rfl⟩
 all_goals
  subst_vars;go_enter Tryz.func9,Tryz.ntmps9;go_wp2;go_ret;exact ⟨rfl,rfl⟩
theorem behind_any (k:Nat) (w:World):Calls Tryz.prog 61 #[.int .u8 k] w fun e w'=>e = .returned (.tuple #[.int .i64 (((behF k).1:Nat):Int),.int .i64 (((behF k).2:Nat):Int)])∧w'=w:=by
 by_cases h1:k=1
 case' neg=>by_cases h2:k=2
 case' neg=>by_cases h3:k=3
 case' neg=>by_cases h4:k=4
 case' neg=>by_cases h5:k=5
 case neg =>
  have e1:((k:Int) == 1)=false:=Yf (by omega)
  have e2:((k:Int) == 2)=false:=Yf (by omega)
  have e3:((k:Int) == 3)=false:=Yf (by omega)
  have e4:((k:Int) == 4)=false:=Yf (by omega)
  have e5:((k:Int) == 5)=false:=Yf (by omega)
  have eb:behF k=(4,1):=by unfold behF; rw [if_neg h1,if_neg h2,if_neg h3,if_neg h4,if_neg h5]
  rw [eb];clear h1 h2 h3 h4 h5 eb;go_enter Tryz.func61,Tryz.ntmps61;go_wp2;go_ret2;exact ⟨rfl,rfl⟩
 all_goals
  subst_vars;go_enter Tryz.func61,Tryz.ntmps61;go_wp2;go_ret2;exact ⟨rfl,rfl⟩
theorem word_kind6:∀ k,1 <= k -> k <= 6 -> kindF (wordF k)=k:=by
 intro k h1 h2;have:k=1∨k=2∨k=3∨k=4∨k=5∨k=6:=by omega
 rcases this with rfl | rfl | rfl | rfl | rfl | rfl <;> decide +kernel
theorem kind_word6 (s:ByteArray) (h:kindF s≠0):wordF (kindF s)=s:=by
 unfold kindF at h ⊢
 split
 ·next e=>rw [e]; rfl
 split
 ·next e=>rw [e]; rfl
 split
 ·next e=>rw [e]; rfl
 split
 ·next e=>rw [e]; rfl
 split
 ·next e=>rw [e]; rfl
 split
 ·next e=>rw [e]; rfl
 next n1 n2 n3 n4 n5 n6 =>
  rw [if_neg n1,if_neg n2,if_neg n3,if_neg n4,if_neg n5,if_neg n6] at h;exact absurd rfl h
theorem rkind_any (s:ByteArray) (w:World):Calls Tryz.prog 7 #[.string s] w fun e w'=>e = .returned (.int .u8 (kindF s))∧w'=w:=by
 go_enter Tryz.func7,Tryz.ntmps7;go_wp2_with fail
 go_loopw [3] (fun s3 wr=>∃ k:Nat,1 <= k∧k <= 7∧s3 = .int .u8 k∧(∀ j,1 <= j -> j<k -> wordF j≠s)∧wr=w) (fun s3 _=>7-(intOf s3).toNat)
 case atStart=>exact ⟨1,by omega,by omega,rfl,fun j h1 h2=>by omega,rfl⟩
 case round =>
  obtain ⟨k,hk1,hk7,rfl,hj,hwr⟩:=hrel;obtain rfl:=hwr.symm;have HJ:=Yd hj;clear hj
  by_cases hk:k <= 6
  ·have hki:(k:Int) <= 6:=by omega
   have HW:=Yd (fun W=>rword_any k W)
   by_cases he:wordF k=s
   ·have hf:kindF s=k:=by rw [<- he]; exact word_kind6 k hk1 hk
    have hb:((wordF k).toList == s.toList)=true:=by rw [he]; simp
    obtain ⟨u,hu⟩:∃ u,wordF k=u:=⟨_,rfl⟩;rw [hu] at HW hb;have HF:=Yd hf;clear he hf hu;go_wp2_with (go_at_call 9; (with_reducible refine (HW.out _).mono ?_); rintro e w' ⟨rfl,rfl⟩);go_ret;exact ⟨by rw [HF.out]; rfl,rfl⟩
   ·have hb:((wordF k).toList == s.toList)=false:=sbeq he;have HN:=Yd he;obtain ⟨u,hu⟩:∃ u,wordF k=u:=⟨_,rfl⟩;rw [hu] at HW hb;have HU:=Yd hu;clear he hu;go_wp2_with (go_at_call 9; (with_reducible refine (HW.out _).mono ?_); rintro e w' ⟨rfl,rfl⟩);refine ⟨⟨k+1,by omega,by omega,by go_num,fun j h1 h2 => ?_,by first | trivial | rfl⟩,by simp only [intOf]; omega⟩
    by_cases hjk:j=k
    ·rw [hjk]; exact HN.out
    ·exact HJ.out j h1 (by omega)
  ·obtain rfl:k=7:=by omega
   have hf:kindF s=0:=by
    refine Decidable.byContradiction fun h => ?_;have h6:=kindF_le s;exact HJ.out (kindF s) (by omega) (by omega) (kind_word6 s h)
   have HF:=Yd hf;clear hf hk;go_wp2_with fail;go_ret;exact ⟨by rw [HF.out]; rfl,rfl⟩
end rg
end Go.Proofs.YtcbgkbidgpemfaaGreatDoor
