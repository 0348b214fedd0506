/- A range over a function whose iterator turns cells of its own and whose body may turn a map: the statement, out of one walk of the body and the iterator's contract. No conditions but those stated. -/
import Derived.Test.YtejmbbkklhpnaaaGreatDoorMf04
import Derived.Test.YtejmbbkklhpnaaaGreatDoorMf12
import Derived.Test.YtejmbbkklhpnaaaGreatDoorMf19
import Derived.RangeFuncIn
import Derived.RangeFuncRecord
import Derived.RangeFuncSeq
import Derived.RangeFuncNested
import Derived.ControlIn
import Derived.RangeFuncBound
import Derived.RangeFuncCalls
import Derived.RangeFuncLeaves
import Derived.Shelf.Abstract
import Derived.Shelf.RegionOpen
import Derived.OwnWalkIn
import Derived.TacticsInMore
import Derived.LoopNIn
import Derived.LoopIn
import Derived.Laws.MakeOwn
import Derived.Maps.OwnIn
namespace Go.Proofs.YtejmbbkklhpnaaaGreatDoor.flatw
open Go Go.RowKit
def isRec:Obj -> Bool
 | .loop _=>true
 | .deferred _=>true
 | _=>false
def KeepsRec (W W':World):Prop:=∀ (k:Nat) (o:Obj),W.heap[k]? = some o -> isRec o=true -> W'.heap[k]? = some o
theorem KeepsRec.refl (W:World):KeepsRec W W:=fun _ _ h _=>h
theorem KeepsRec.trans {A B C:World} (h:KeepsRec A B) (k:KeepsRec B C):KeepsRec A C:=fun i o h1 h2=>k i o (h i o h1 h2) h2
def bodyEnd {α:Type} (I:List α -> World -> Prop) (Kp:World -> World -> Prop) (xs:List α) (W:World):Exit -> Act -> World -> Prop
 | .normal,_,W'=>I xs W'∧Kp W W'∧KeepsRec W W'
 | _,_,_=>False
def Recs (b:Nat) (r:Loop) (W:World):Prop:=W.heap[b+1]? = some (.loop r)∧W.heap[b]? = some (.deferred (some []))
theorem Recs.keep {b:Nat} {r:Loop} {W W':World} (h:Recs b r W) (hk:KeepsRec W W'):Recs b r W':=⟨hk _ _ h.1 rfl,hk _ _ h.2 rfl⟩
variable {F:Fence} {n:Nat} {P:Program}
theorem range_law {α:Type} {g:Operand} {ps:Array Tmp} {assign body:Code} {Q:Exit -> Act -> World -> Prop} {a:Act} {w:World}
    (hro:F.round=none) (h1:1 <= n) {gf:Nat} {lb:Array Value} (hg:a.eval g = .func (.func gf) #[] lb) (hFg:F.fn gf) (eg:∀ args w,(callFunc gf args).run P w = .ok (.enter gf args) w)
    (encs:α -> Array Value) (hps:∀ x,(encs x).size=ps.size) (I:List α -> World -> Prop) (Kp:World -> World -> Prop) (N:List α -> α -> Prop) (xs:List α) (m0:Nat)
    (hIr:∀ pre W l o o',I pre W -> w.heap.size <= l -> W.heap[l]? = some o -> isRec o=true -> isRec o'=true -> I pre (W.putObj l o'))
    (hKr:∀ W l o o',w.heap.size <= l -> W.heap[l]? = some o -> isRec o=true -> isRec o'=true -> Kp W (W.putObj l o'))
    (hKt:∀ {A B C:World},Kp A B -> Kp B C -> Kp A C)
    (hcall:∀ r:Loop,Recs w.heap.size r ((w.alloc (.deferred (some []))).alloc (.loop r)) ->
      (∀ (m:Nat) (pre:List α) (x:α) (W:World),m0 <= m -> I pre W -> Recs w.heap.size r W -> N pre x -> YieldAt F m P (w.heap.size+1) (encs x) W fun e W'=>e = .returned (.bool true)∧I (pre ++ [x]) W'∧Kp W W'∧Recs w.heap.size r W') ->
      CallsIn F (n-1) P gf (#[.func (.yield (w.heap.size+1)) #[] #[]] ++ lb) ((w.alloc (.deferred (some []))).alloc (.loop r)) fun e W'=>(∃ v,e = .returned v)∧I xs W'∧Recs w.heap.size r W')
    (a₁:α -> Act)
    (hassign:∀ (l m:Nat) (x:α) (W:World) (K:Act -> World -> Prop),K (a₁ x) W ->
      assign.wpIn (F.inRound l) m P (Exit.then K (fun _ _ _=>False)) { tmps:=(ps.zip (encs x)).foldl (fun t (p,v)=>t.setIfInBounds p v) a.tmps,defers:=[] } W)
    (hbody:∀ (l m:Nat) (pre:List α) (x:α) (W:World),m0 <= m -> I pre W -> N pre x -> body.wpIn (F.inRound l) m P (bodyEnd I Kp (pre ++ [x]) W) (a₁ x) W)
    (hdone:∀ W:World,I xs W -> W.heap[w.heap.size]? = some (.deferred (some [])) -> Q .normal { a with defers:={ target:=.collected w.heap.size,args:=#[] } :: a.defers } W) :
    (Code.rangeFunc g ps assign body).wpIn F n P Q a w:=by
  refine wpIn_rangeFunc ?_
  intro fn hfn
  rw [hro]
  obtain ⟨rec,hrec⟩:∃ rec:LoopState -> Option Code -> Loop,rec=fun st pe=>{ state:=st,pending:=pe,fn,tmps:=a.tmps,params:=ps,assign,body,defers:=w.heap.size }:=⟨_,rfl⟩
  obtain ⟨W1,hW1⟩:∃ W1,(w.alloc (.deferred (some []))).alloc (.loop (rec .ready none))=W1:=⟨_,rfl⟩
  have hR1:Recs w.heap.size (rec .ready none) W1:=by
    refine ⟨?_,?_⟩
    · rw [<- hW1]
      have:=World.alloc_heap_new (w.alloc (.deferred (some []))) (.loop (rec .ready none))
      rwa [World.size_alloc] at this
    · rw [<- hW1]
      exact (Below.heap_alloc _ _ _ (by simp)).trans (World.alloc_heap_new w _)
  refine ⟨w.heap.size+1,[{ target:=.collected w.heap.size,args:=#[] }],W1,{ target:=.fn (.func gf) lb,args:=#[.func (.yield (w.heap.size+1)) #[] #[]] },W1,gf,
    #[.func (.yield (w.heap.size+1)) #[] #[]] ++ lb,W1,?_,?_,?_,?_,fun _=>h1,?_⟩
  · rw [<- hW1,hrec]; exact run_enterLoop_outer _ _ _ _ _
  · simp only [resolve,hg]
    simp [go_sem]
  · intro f' hf'
    simp [Target.leads] at hf'
    subst hf'
    exact hFg
  · simp [invoke,go_sem,eg]
  · have hc:=hcall (rec .ready none) (by rw [hW1]; exact hR1) ?_
    · rw [hW1] at hc
      refine hc.mono ?_
      rintro e W2 ⟨⟨v,rfl⟩,hi,hl,hk⟩
      have hend:=run_endLoop (P:=P) hl (by rw [hrec]; simp)
      rw [hrec] at hend
      refine ⟨none,_,hend,?_⟩
      rw [hrec] at hl
      exact hdone _ (hIr _ _ _ _ _ hi (by omega) hl rfl rfl) ((World.putObj_heap_other (by omega)).trans hk)
    · intro m pre x W hm hi hr hN
      obtain ⟨hl,hk⟩:=hr
      have hlt:w.heap.size+1<W.heap.size:=(Array.getElem?_eq_some_iff.1 hl).1
      have hy:=run_yield (P:=P) (args:=encs x) hl (by rw [hrec]; exact hps x)
      rw [hrec] at hy
      have hbg:=run_beginRound (P:=P) hl (by rw [hrec])
      obtain ⟨W',hW'⟩:∃ W',W.putObj (w.heap.size+1) (.loop { rec .ready none with state:=.busy })=W':=⟨_,rfl⟩
      have hl2:W'.heap[w.heap.size+1]? = some (.loop { rec .ready none with state:=.busy }):=by rw [<- hW']; exact World.putObj_heap_same hlt
      have hk2:W'.heap[w.heap.size]? = some (.deferred (some [])):=by rw [<- hW']; exact (World.putObj_heap_other (by omega)).trans hk
      have hi2:I pre W':=by rw [<- hW']; exact hIr _ _ _ _ _ hi (by omega) hl rfl rfl
      have hK2:Kp W W':=by rw [<- hW']; exact hKr _ _ _ _ (by omega) hl rfl rfl
      refine ⟨fn,_,assign,body,hy,roundIn_of_wpIn hfn (hassign _ m x W _ ⟨_,hbg,?_⟩)⟩
      rw [hW']
      refine wpIn_mono (hbody _ m pre x W' hm hi2 hN) ?_
      rintro e a3 W3 hp
      cases e with
      | normal =>
        obtain ⟨hi3,hK3,hR3⟩:=hp
        have hl3:=hR3 _ _ hl2 rfl
        have hk3:=hR3 _ _ hk2 rfl
        have hend:=run_endRound (P:=P) none hl3
        refine ⟨_,_,hend,rfl,hIr _ _ _ _ _ hi3 (by omega) hl3 rfl rfl,hKt (hKt hK2 hK3) (hKr _ _ _ _ (by omega) hl3 rfl rfl),?_,?_⟩
        · have:=World.putObj_heap_same (w:=W3) (o:=.loop { ({ rec .ready none with state:=.busy }:Loop) with state:=.ready,pending:=none }) (Array.getElem?_eq_some_iff.1 hl3).1
          rw [hrec] at this ⊢
          exact this
        · exact (World.putObj_heap_other (by omega)).trans hk3
      | ret=>exact hp.elim
      | exit id=>exact hp.elim
      | goto t=>exact hp.elim
      | panic ch=>exact hp.elim
      | outgrown=>exact hp.elim
end Go.Proofs.YtejmbbkklhpnaaaGreatDoor.flatw

/- Flat programs in plain words: the walk through what a root needs, each node once, and what it keeps; a program that covers another one has the same flat one. No conditions but those stated. -/
namespace Go.Proofs.YtejmbbkklhpnaaaGreatDoor.flatm
open nodew
def kids (n:Nd):List Nat:=if n.kind=5 then [n.a.toNat,n.b.toNat] else if n.kind=6 then [n.a.toNat] else []
def remap (ta:Nat -> Nat) (n:Nd):Nd:=if n.kind=5 then { n with a:=ta n.a.toNat,b:=ta n.b.toNat } else if n.kind=6 then { n with a:=ta n.a.toNat } else n
def upd {α:Type} (g:Nat -> α) (x:Nat) (v:α):Nat -> α:=fun y=>if y=x then v else g y
theorem upd_same {α:Type} (g:Nat -> α) (x:Nat) (v:α):upd g x v x=v:=by simp [upd]
theorem upd_ne {α:Type} (g:Nat -> α) (x y:Nat) (v:α) (h:y≠x):upd g x v y=g y:=by simp [upd,h]
def runK (g:Nat -> (Nat -> Bool) -> (Nat -> Bool) × List Nat):List Nat -> (Nat -> Bool) -> (Nat -> Bool) × List Nat
 | [],m=>(m,[])
 | c :: r,m=>((runK g r (g c m).1).1,(g c m).2 ++ (runK g r (g c m).1).2)
def visit (p:Nat -> Nd):Nat -> Nat -> (Nat -> Bool) -> (Nat -> Bool) × List Nat
 | 0,_,m=>(m,[])
 | f+1,x,m=>if m x=true then (m,[]) else ((runK (visit p f) (kids (p x)) (upd m x true)).1,(runK (visit p f) (kids (p x)) (upd m x true)).2 ++ [x])
def visitD (p:Nat -> Nd):Nat -> Nat -> (Nat -> Bool) -> (Nat -> Bool) × List Nat
 | 0,_,m=>(m,[])
 | f+1,x,m=>if m x=true then (m,[]) else (upd (runK (visitD p f) (kids (p x)) m).1 x true,(runK (visitD p f) (kids (p x)) m).2 ++ [x])
theorem visitD_above (p:Nat -> Nd) (n:Nat) (hac:∀ x,x<n -> ∀ c∈kids (p x),c<x):∀ (f x:Nat) (D:Nat -> Bool),x<n -> ∀ y,x<y -> (visitD p f x D).1 y=D y
 | 0,_,_,_,_,_=>rfl
 | f+1,x,D,hn,y,hy=>by
  unfold visitD
  by_cases hD:D x=true
  ·rw [if_pos hD]
  ·rw [if_neg hD]
   show upd (runK (visitD p f) (kids (p x)) D).1 x true y=D y
   rw [upd_ne _ _ _ _ (by omega)]
   have key:∀ (L:List Nat) (D1:Nat -> Bool),(∀ c∈L,c<x) -> (runK (visitD p f) L D1).1 y=D1 y:=by
    intro L
    induction L with
    | nil=>exact fun _ _=>rfl
    | cons c r ih =>
     intro D1 hc
     show (runK (visitD p f) r (visitD p f c D1).1).1 y=D1 y
     rw [ih _ (fun d hd=>hc d (.tail _ hd)),visitD_above p n hac f c D1 (by have:=hc c (.head _); omega) y (by have:=hc c (.head _); omega)]
   exact key _ D (hac x hn)
theorem runD_above (p:Nat -> Nd) (n:Nat) (hac:∀ x,x<n -> ∀ c∈kids (p x),c<x) (f x:Nat) (hn:x<n) (L:List Nat) (D:Nat -> Bool) (hc:∀ c∈L,c<x):∀ y,x <= y -> (runK (visitD p f) L D).1 y=D y:=by
 induction L generalizing D with
 | nil=>exact fun _ _=>rfl
 | cons c r ih =>
  intro y hy
  show (runK (visitD p f) r (visitD p f c D).1).1 y=D y
  rw [ih _ (fun d hd=>hc d (.tail _ hd)) y hy,visitD_above p n hac f c D (by have:=hc c (.head _); omega) y (by have:=hc c (.head _); omega)]
theorem visit_same (p:Nat -> Nd) (n:Nat) (hac:∀ x,x<n -> ∀ c∈kids (p x),c<x):∀ (f x b:Nat) (m D:Nat -> Bool),x<n -> x<b -> (∀ y,y<b -> m y=D y) ->
  (visit p f x m).2=(visitD p f x D).2∧(∀ y,y<b -> (visit p f x m).1 y=(visitD p f x D).1 y)∧(∀ y,x<y -> (visit p f x m).1 y=m y)
 | 0,x,b,m,D,_,_,h=>⟨rfl,h,fun _ _=>rfl⟩
 | f+1,x,b,m,D,hn,hx,h=>by
  unfold visit visitD
  rw [h x hx]
  by_cases hD:D x=true
  ·rw [if_pos hD,if_pos hD]
   exact ⟨rfl,h,fun _ _=>rfl⟩
  ·rw [if_neg hD,if_neg hD]
   have key:∀ (L:List Nat) (m1 D1:Nat -> Bool),(∀ c∈L,c<x) -> (∀ y,y<x -> m1 y=D1 y) ->
     (runK (visit p f) L m1).2=(runK (visitD p f) L D1).2∧(∀ y,y<x -> (runK (visit p f) L m1).1 y=(runK (visitD p f) L D1).1 y)∧(∀ y,x <= y -> (runK (visit p f) L m1).1 y=m1 y):=by
    intro L
    induction L with
    | nil=>exact fun m1 D1 _ h1=>⟨rfl,h1,fun _ _=>rfl⟩
    | cons c r ih =>
     intro m1 D1 hc h1
     have hcx:=hc c (.head _)
     obtain ⟨i1,i2,i3⟩:=visit_same p n hac f c x m1 D1 (by omega) hcx h1
     obtain ⟨j1,j2,j3⟩:=ih (visit p f c m1).1 (visitD p f c D1).1 (fun d hd=>hc d (.tail _ hd)) i2
     refine ⟨?_,j2,fun y hy => ?_⟩
     ·show _ ++ _=_ ++ _
      rw [i1,j1]
     ·show (runK (visit p f) r (visit p f c m1).1).1 y=m1 y
      rw [j3 y hy,i3 y (by omega)]
   obtain ⟨k1,k2,k3⟩:=key (kids (p x)) (upd m x true) D (hac x hn) (fun y hy=>by rw [upd_ne _ _ _ _ (by omega)]; exact h y (by omega))
   have hDk:=runD_above p n hac f x hn (kids (p x)) D (hac x hn)
   refine ⟨by rw [k1],fun y hy => ?_,fun y hy => ?_⟩
   ·show (runK (visit p f) (kids (p x)) (upd m x true)).1 y=upd (runK (visitD p f) (kids (p x)) D).1 x true y
    by_cases e:y=x
    ·subst e
     rw [k3 y (Nat.le_refl _),upd_same,upd_same]
    ·rw [upd_ne _ _ _ _ e]
     by_cases e2:y<x
     ·exact k2 y e2
     ·rw [k3 y (by omega),upd_ne _ _ _ _ e,hDk y (by omega),h y hy]
   ·show (runK (visit p f) (kids (p x)) (upd m x true)).1 y=m y
    rw [k3 y (by omega),upd_ne _ _ _ _ (by omega)]
theorem visitD_inv {σ:Type} (p:Nat -> Nd) (n:Nat) (hac:∀ x,x<n -> ∀ c∈kids (p x),c<x) (I:(Nat -> Bool) -> σ -> Prop) (st:σ -> Nat -> σ)
  (hst:∀ D s x,x<n -> I D s -> D x=false -> (∀ c∈kids (p x),D c=true) -> I (upd D x true) (st s x)) :
  ∀ (f x:Nat) (D:Nat -> Bool) (s:σ),x<n -> x<f -> I D s ->
   I (visitD p f x D).1 ((visitD p f x D).2.foldl st s)∧(visitD p f x D).1 x=true∧(∀ y,D y=true -> (visitD p f x D).1 y=true)
 | 0,x,D,s,_,hf,_=>by omega
 | f+1,x,D,s,hn,hf,h=>by
  unfold visitD
  by_cases hD:D x=true
  ·rw [if_pos hD]
   exact ⟨h,hD,fun _ h=>h⟩
  ·rw [if_neg hD]
   have key:∀ (L:List Nat) (D1:Nat -> Bool) (s1:σ),(∀ c∈L,c<x) -> I D1 s1 ->
     I (runK (visitD p f) L D1).1 ((runK (visitD p f) L D1).2.foldl st s1)∧(∀ c∈L,(runK (visitD p f) L D1).1 c=true)∧(∀ y,D1 y=true -> (runK (visitD p f) L D1).1 y=true):=by
    intro L
    induction L with
    | nil=>exact fun D1 s1 _ h1=>⟨h1,fun c hc=>(by cases hc),fun _ h=>h⟩
    | cons c r ih =>
     intro D1 s1 hc h1
     have hcx:=hc c (.head _)
     obtain ⟨i1,i2,i3⟩:=visitD_inv p n hac I st hst f c D1 s1 (by omega) (by omega) h1
     obtain ⟨j1,j2,j3⟩:=ih (visitD p f c D1).1 _ (fun d hd=>hc d (.tail _ hd)) i1
     refine ⟨?_,fun d hd => ?_,fun y hy=>j3 y (i3 y hy)⟩
     ·show I (runK (visitD p f) r (visitD p f c D1).1).1 (List.foldl st s1 (_ ++ _))
      rw [List.foldl_append]
      exact j1
     ·rcases List.mem_cons.1 hd with rfl | hd
      ·exact j3 d i2
      ·exact j2 d hd
   obtain ⟨k1,k2,k3⟩:=key (kids (p x)) D s (hac x hn) h
   have hx:(runK (visitD p f) (kids (p x)) D).1 x=false:=by
    rw [runD_above p n hac f x hn (kids (p x)) D (hac x hn) x (Nat.le_refl _)]
    simpa using hD
   refine ⟨?_,upd_same _ _ _,fun y hy => ?_⟩
   ·show I (upd _ x true) (List.foldl st s (_ ++ [x]))
    rw [List.foldl_append]
    exact hst _ _ x hn k1 hx k2
   ·show upd _ x true y=true
    by_cases e:y=x
    ·rw [e,upd_same]
    ·rw [upd_ne _ _ _ _ e]; exact k3 y hy
structure FS where
 tm:Nat -> Nat
 out:List Nd
def idxN (l:List Nd) (n:Nd):Option Nat:=if n∈l then some (l.idxOf n) else none
def stepF (p:Nat -> Nd) (s:FS) (x:Nat):FS :=
 match idxN s.out (remap s.tm (p x)) with
 | some k=>⟨upd s.tm x k,s.out⟩
 | none=>⟨upd s.tm x s.out.length,s.out ++ [remap s.tm (p x)]⟩
theorem idx_some {l:List Nd} {n:Nd} {k:Nat} (h:idxN l n=some k):l[k]? = some n:=by
 unfold idxN at h
 by_cases hm:n∈l
 ·rw [if_pos hm] at h
  injection h with h
  subst h
  rw [List.getElem?_eq_getElem (List.idxOf_lt_length_of_mem hm)]
  simp
 ·rw [if_neg hm] at h; cases h
end Go.Proofs.YtejmbbkklhpnaaaGreatDoor.flatm

/- The flat program in plain words: it is a program, its root stands for the same, it is flat; a program in which each node stands twice has the same one. No conditions but those stated. -/
namespace Go.Proofs.YtejmbbkklhpnaaaGreatDoor.flatm
open nodew
def nth (l:List Nd) (x:Nat):Nd:=l.getD x ⟨0,[],0,0⟩
theorem nth_eq (l:List Nd) (x:Nat) (n:Nd) (h:l[x]? = some n):nth l x=n:=by
 obtain ⟨hk,rfl⟩:=List.getElem?_eq_some_iff.1 h
 simp [nth,hk]
def none_:Nat -> Bool:=fun _=>false
def ordP (l:List Nd):List Nat:=(visit (nth l) l.length (l.length-1) none_).2
def runP (l:List Nd):(Nat -> Bool) × List Nat:=visitD (nth l) l.length (l.length-1) none_
def endP (l:List Nd):FS:=(runP l).2.foldl (stepF (nth l)) ⟨fun _=>0,[]⟩
def flatP (l:List Nd):List Nd:=(endP l).out
theorem place_lt {k at_:Int} (h:placeOk true k at_=true):0 <= k∧k<at_:=by simpa [placeOk] using h
theorem nodeOk_parts {n:Nd} {at_:Int} (h:nodeOk n at_=true):ndOk n (fieldList n.kind)=true∧placeOk (decide (0<belowN n.kind)) n.a at_=true∧placeOk (decide (1<belowN n.kind)) n.b at_=true∧0<(fieldList n.kind).length∧bare (n.zeros (offs n.kind))=true:=by
 unfold nodeOk at h
 simp only [Bool.and_eq_true,decide_eq_true_eq] at h
 exact ⟨h.1.1.1.1,h.1.1.1.2,h.1.1.2,h.1.2,h.2⟩
theorem below5:belowN 5=2:=rfl
theorem below6:belowN 6=1:=rfl
theorem kids_lt {n:Nd} {x:Nat} (h:nodeOk n x=true):∀ c∈kids n,c<x:=by
 obtain ⟨_,ha,hb,_⟩:=nodeOk_parts h
 intro c hc
 unfold kids at hc
 by_cases h5:n.kind=5
 ·rw [h5,below5] at ha hb
  have ha:=place_lt ha
  have hb:=place_lt hb
  rw [if_pos h5] at hc
  simp only [List.mem_cons,List.not_mem_nil,or_false] at hc
  omega
 ·by_cases h6:n.kind=6
  ·rw [h6,below6] at ha
   have ha:=place_lt ha
   rw [if_neg h5,if_pos h6] at hc
   simp only [List.mem_cons,List.not_mem_nil,or_false] at hc
   omega
  ·rw [if_neg h5,if_neg h6] at hc
   cases hc
theorem right_nodes {l:List Nd} (h:rightP l=true):(∀ x,x<l.length -> nodeOk (nth l x) x=true)∧0<l.length∧l.length <= 4096:=by
 have h1:∀ k (hk:k<l.length),nodeOk l[k] k=true:=fun k hk=>by
  cases hq:nodeOk l[k] k with
  | true=>rfl
  | false=>rw [rightP_bad hk hq] at h; cases h
 have h2:=rightP_good h1
 rw [h] at h2
 have h2:0<l.length∧l.length <= 4096:=by simpa using h2.symm
 exact ⟨fun x hx=>by rw [nth_eq l x l[x] (List.getElem?_eq_getElem hx)]; exact h1 x hx,h2⟩
theorem right_ac {l:List Nd} (h:rightP l=true):∀ x,x<l.length -> ∀ c∈kids (nth l x),c<x:=fun x hx=>kids_lt ((right_nodes h).1 x hx)
theorem ordP_eq {l:List Nd} (h:rightP l=true):ordP l=(runP l).2:=by
 obtain ⟨_,h0,_⟩:=right_nodes h
 exact (visit_same (nth l) l.length (right_ac h) l.length (l.length-1) l.length none_ none_ (by omega) (by omega) (fun _ _=>rfl)).1
def depF (p:Nat -> Nd):Nat -> Nat -> Nat
 | 0,_=>0
 | f+1,x=>(kids (p x)).foldl (fun m c=>max m (depF p f c)) 0+1
theorem foldl_congr_mem {g h:Nat -> Nat -> Nat}:∀ (L:List Nat) (a:Nat),(∀ c∈L,∀ m,g m c=h m c) -> L.foldl g a=L.foldl h a
 | [],_,_=>rfl
 | c :: r,a,e=>by
  simp only [List.foldl_cons]
  rw [e c (.head _),foldl_congr_mem r _ fun d hd=>e d (.tail _ hd)]
theorem dep_fuel (p:Nat -> Nd) (n:Nat) (hac:∀ x,x<n -> ∀ c∈kids (p x),c<x):∀ (f g x:Nat),x<n -> x<f -> x<g -> depF p f x=depF p g x
 | 0,_,_,_,h,_=>by omega
 | _+1,0,_,_,_,h=>by omega
 | f+1,g+1,x,hn,hf,hg=>by
  refine congrArg (· + 1) (foldl_congr_mem (h:=fun m c=>max m (depF p g c)) (kids (p x)) 0 fun c hc m => ?_)
  rw [dep_fuel p n hac f g c (by have:=hac x hn c hc; omega) (by have:=hac x hn c hc; omega) (by have:=hac x hn c hc; omega)]
def depP (l:List Nd) (x:Nat):Nat:=depF (nth l) (x+1) x
theorem depP_eq {l:List Nd} (hr:rightP l=true) (x:Nat) (hx:x<l.length):depP l x=(kids (nth l x)).foldl (fun m c=>max m (depP l c)) 0+1:=by
 refine congrArg (· + 1) (foldl_congr_mem (h:=fun m c=>max m (depP l c)) (kids (nth l x)) 0 fun c hc m => ?_)
 rw [show depP l c=depF (nth l) (c+1) c from rfl,dep_fuel (nth l) l.length (right_ac hr) x (c+1) c (by have:=right_ac hr x hx c hc; omega) (right_ac hr x hx c hc) (by omega)]
end Go.Proofs.YtejmbbkklhpnaaaGreatDoor.flatm

/- What lies below a node, and the maker of the iterator. No conditions but those stated. -/
namespace Go.Proofs.YtejmbbkklhpnaaaGreatDoor.flatw
open Go.RowKit Go.Shelf
open nodew
open chkw
open flatm
attribute [local go_sem] Oper.semAt_some
def IArg (W:World) (v:Value) (ks:List Int):Prop :=
 (ks=[]∧v = .slice none 0 0)∨(∃ g,v = .slice (some ⟨g,0,none⟩) ks.length ks.length∧ks≠[]∧W.heap[g]? = some (.cells (ks.map (Value.int .i64)).toArray 3 (0,0)))
def kidsI (n:Nd):List Int:=if n.kind=5 then [n.a,n.b] else if n.kind=6 then [n.a] else []
def BelowPost (w:World) (n:Nd) (e:Ending) (w':World):Prop :=
 ∃ v,e = .returned v∧IArg w' v (kidsI n)∧Below w.heap.size w w'∧(∀ g o c,v = .slice (some ⟨g,o,none⟩) c c -> w.heap.size <= g)
theorem bi1_run (x:Int) (w:World):(Instr.buildSlice 86 1 #[(0,.int .i64 x)]).run Tryz.prog w = .ok (.slice (some ⟨w.heap.size,0,none⟩) 1 1) (w.alloc (.cells #[.int .i64 x] 3)):=by
 kernel_rfl
theorem bi2_run (x y:Int) (w:World):(Instr.buildSlice 86 2 #[(0,.int .i64 x),(1,.int .i64 y)]).run Tryz.prog w = .ok (.slice (some ⟨w.heap.size,0,none⟩) 2 2) (w.alloc (.cells #[.int .i64 x,.int .i64 y] 3)):=by
 kernel_rfl
attribute [local go_sem] bi1_run bi2_run
set_option maxRecDepth 100000 in
set_option maxHeartbeats 1000000 in
theorem below_any (nd:Nd) (w:World):Calls Tryz.prog 62 #[nd.val] w (BelowPost w nd):=by
 obtain ⟨nb,hnbe⟩:∃ nb,nb=w.heap.size:=⟨_,rfl⟩
 obtain ⟨W,hW⟩:∃ W,W=w.alloc (.cells nd.cells.toArray 67):=⟨_,rfl⟩
 have hbx:Below nb w W:=by rw [hW,hnbe]; exact (Below.refl w.heap.size w).alloc (Nat.le_refl _) _
 have hnb:NBlk W nb nd:=by rw [hW,hnbe]; exact heap_alloc_new w _
 have hWz:W.heap.size=nb+1:=by rw [hW,hnbe]; simp
 have c0:W.cell? ⟨nb,0,none⟩=some (.int .u8 nd.kind):=(hnb.cell 0).trans rfl
 have c17:W.cell? ⟨nb,17,none⟩=some (.int .i64 nd.a):=(hnb.cell 17).trans rfl
 have c18:W.cell? ⟨nb,18,none⟩=some (.int .i64 nd.b):=(hnb.cell 18).trans rfl
 unfold BelowPost
 rw [<- hnbe]
 go_enter Tryz.func62,Tryz.ntmps62
 go_upto_region 0 with (fail)
 refine wp_region_lit ?_
 refine wl_val rfl _ (exec_box (.tmp 0) rfl _ _ nd rfl) ?_
 rw [<- hW,<- hnbe]
 by_cases h5:nd.kind=5
 ·have hk:kidsI nd=[nd.a,nd.b]:=by unfold kidsI; rw [if_pos h5]
  have e5:((nd.kind:Int) == 5)=true:=by rw [beq_iff_eq]; omega
  have HK:=Lib.hid hk
  clear hW hnbe h5 hnb hk
  go_wp2
  go_ret
  rw [HK.out]
  refine ⟨_,rfl,.inr ⟨nb+1,rfl,by simp,heap_at W _ _ hWz⟩,hbx.alloc (by omega) _,?_⟩
  rintro g o c h
  injection h with h1 _ _
  injection h1 with h1
  injection h1 with h1
  omega
 ·have e5:((nd.kind:Int) == 5)=false:=by rw [beq_eq_false_iff_ne]; omega
  by_cases h6:nd.kind=6
  ·have hk:kidsI nd=[nd.a]:=by unfold kidsI; rw [if_neg h5,if_pos h6]
   have e6:((nd.kind:Int) == 6)=true:=by rw [beq_iff_eq]; omega
   have HK:=Lib.hid hk
   clear hW hnbe h5 h6 hnb hk
   go_wp2
   go_ret
   rw [HK.out]
   refine ⟨_,rfl,.inr ⟨nb+1,rfl,by simp,heap_at W _ _ hWz⟩,hbx.alloc (by omega) _,?_⟩
   rintro g o c h
   injection h with h1 _ _
   injection h1 with h1
   injection h1 with h1
   omega
  ·have hk:kidsI nd=[]:=by unfold kidsI; rw [if_neg h5,if_neg h6]
   have e6:((nd.kind:Int) == 6)=false:=by rw [beq_eq_false_iff_ne]; omega
   have HK:=Lib.hid hk
   clear hW hnbe h5 h6 hnb hk
   go_wp2
   go_ret
   rw [HK.out]
   refine ⟨_,rfl,.inl ⟨rfl,rfl⟩,hbx,?_⟩
   rintro g o c h
   injection h with h1 _ _
   cases h1
set_option maxHeartbeats 1000000 in
theorem needed_in (n:Nat) (sa:Option Addr) (sl sc:Nat) (w:World) :
  CallsIn Fence.wide n Tryz.prog 61 #[.slice sa sl sc] w fun e w'=>e = .returned (.func (.func 94) #[] #[.pointer (some ⟨w.heap.size,0,none⟩)])∧w'=w.alloc (.cells #[.slice sa sl sc] 43):=by
 refine callsIn_of_wp Tryz.func61 rfl trivial ?_ rfl
 simp only [Tryz.ntmps61,List.size_toArray,List.length_cons,List.length_nil,Nat.reduceAdd,Nat.reduceSub,Array.replicate_succ,Array.replicate_zero,List.push_toArray,List.append_toArray,List.nil_append,List.cons_append]
 gi_wp2
 go_ret
 exact ⟨rfl,rfl⟩
end Go.Proofs.YtejmbbkklhpnaaaGreatDoor.flatw

/- What an iterator keeps private from the one who takes its numbers, and the walk through what a root needs. No conditions but those stated. -/
namespace Go.Proofs.YtejmbbkklhpnaaaGreatDoor.flatw
open Go.RowKit Go.Shelf
open nodew
open chkw
open flatm
attribute [local go_sem] Oper.semAt_some
def Priv (foot:World -> Nat -> Prop) (W:World) (k:Nat):Prop:=(∃ cs t fr,W.heap[k]? = some (.cells cs t fr)) ∧ ¬ foot W k
theorem Priv.lt {foot:World -> Nat -> Prop} {W:World} {k:Nat} (h:Priv foot W k):k<W.heap.size:=by
 obtain ⟨⟨cs,t,fr,h⟩,_⟩:=h
 exact (Array.getElem?_eq_some_iff.1 h).1
def KeepP (foot:World -> Nat -> Prop) (B:Nat) (x:Option Nat) (W W':World):Prop :=
 W.heap.size <= W'.heap.size∧(∀ k,k<B -> k<W.heap.size -> W'.heap[k]? = W.heap[k]?) ∧ ∀ k,Priv foot W k -> Priv foot W' k∧(some k≠x -> W'.heap[k]? = W.heap[k]?)
theorem KeepP.refl (foot:World -> Nat -> Prop) (B:Nat) (x:Option Nat) (W:World):KeepP foot B x W W:=⟨Nat.le_refl _,fun _ _ _=>rfl,fun _ h=>⟨h,fun _=>rfl⟩⟩
theorem KeepP.trans {foot:World -> Nat -> Prop} {B:Nat} {x:Option Nat} {A C D:World} (h:KeepP foot B x A C) (k:KeepP foot B x C D):KeepP foot B x A D :=
 ⟨Nat.le_trans h.1 k.1,fun i hi hs=>(k.2.1 i hi (Nat.lt_of_lt_of_le hs h.1)).trans (h.2.1 i hi hs),fun i hi =>
  ⟨(k.2.2 i (h.2.2 i hi).1).1,fun hne=>((k.2.2 i (h.2.2 i hi).1).2 hne).trans ((h.2.2 i hi).2 hne)⟩⟩
theorem KeepP.weak {foot:World -> Nat -> Prop} {B:Nat} {x:Option Nat} {A C:World} (h:KeepP foot B none A C):KeepP foot B x A C :=
 ⟨h.1,h.2.1,fun i hi=>⟨(h.2.2 i hi).1,fun _=>(h.2.2 i hi).2 (by simp)⟩⟩
structure Foot (foot:World -> Nat -> Prop) (B:Nat) (J:List Nat -> World -> Prop):Prop where
 size:∀ pre X k,J pre X -> foot X k -> B <= k∧k<X.heap.size
 own:∀ pre X Y row,J pre X -> X.grownBy Y row -> (∀ r,row=some r -> B <= r∧Priv foot X r) -> J pre Y ∧ ∀ k,foot Y k -> foot X k
theorem Foot.alloc {foot:World -> Nat -> Prop} {B:Nat} {J:List Nat -> World -> Prop} (hF:Foot foot B J) {pre:List Nat} {X Y:World} {row:Option Nat} (hJ:J pre X) (hg:X.grownBy Y row) (hr:∀ r,row=some r -> B <= r∧Priv foot X r ∧ ∃ cs t fr,Y.heap[r]? = some (.cells cs t fr)) :
  J pre Y∧KeepP foot B row X Y ∧ ∀ k cs t fr,X.heap.size <= k -> Y.heap[k]? = some (.cells cs t fr) -> Priv foot Y k:=by
 obtain ⟨hJY,hf⟩:=hF.own pre X Y row hJ hg (fun r e=>⟨(hr r e).1,(hr r e).2.1⟩)
 refine ⟨hJY,⟨hg.size,fun k hk hs=>hg.block k hs (fun e => ?_),fun k hp=>⟨⟨?_,fun h=>hp.2 (hf k h)⟩,fun hne=>hg.block k hp.lt hne⟩⟩,fun k cs t fr hk hc=>⟨⟨cs,t,fr,hc⟩,fun h => ?_⟩⟩
 ·have:=(hr k e.symm).1; omega
 ·by_cases e:some k=row
  ·exact (hr k e.symm).2.2
  ·rw [hg.block k hp.lt e]; exact hp.1
 ·have:=(hF.size pre X k hJ (hf k h)).2; omega
def metA (n:Nat) (m:Nat -> Bool):Array Value:=((List.range n).map fun i=>Value.bool (m i)).toArray
theorem metA_size (n:Nat) (m:Nat -> Bool):(metA n m).size=n:=by simp [metA]
theorem metA_at (n:Nat) (m:Nat -> Bool) (i:Nat) (h:i<n):(metA n m)[i]? = some (.bool (m i)):=by simp [metA,h]
theorem metA_set (n:Nat) (m:Nat -> Bool) (i:Nat) (h:i<n):(metA n m).setIfInBounds i (.bool true)=metA n (upd m i true):=by
 apply Array.ext_getElem?
 intro j
 rw [Array.getElem?_setIfInBounds]
 by_cases e:i=j
 ·subst e
  rw [if_pos rfl,if_pos (by rw [metA_size]; exact h),metA_at _ _ _ h,upd_same]
 ·rw [if_neg e]
  by_cases hj:j<n
  ·rw [metA_at _ _ _ hj,metA_at _ _ _ hj,upd_ne _ _ _ _ (fun e'=>e e'.symm)]
  ·rw [Array.getElem?_eq_none (by rw [metA_size]; omega),Array.getElem?_eq_none (by rw [metA_size]; omega)]
structure TS (foot:World -> Nat -> Prop) (B pb mb b1 b3 b4 lp:Nat) (v:Value) (l:List Nd) (m:Nat -> Bool) (W:World):Prop where
 h1:Boxed W b1 155 (.slice (some ⟨mb,0,none⟩) l.length l.length)
 hp:Boxed W pb 43 v
 h3:Boxed W b3 154 (.func (.func 95) #[] #[.pointer (some ⟨b1,0,none⟩),.pointer (some ⟨pb,0,none⟩),.pointer (some ⟨b3,0,none⟩),.pointer (some ⟨b4,0,none⟩)])
 h4:Boxed W b4 154 (.func (.yield lp) #[] #[])
 hm:W.heap[mb]? = some (.cells (metA l.length m) 4 (0,0))
 hn:NArg W B v l
 p1:¬ foot W b1
 pp:¬ foot W pb
 p3:¬ foot W b3
 p4:¬ foot W b4
 pm:¬ foot W mb
 bm:B <= mb
theorem boxed_priv {foot:World -> Nat -> Prop} {W:World} {b:Nat} {t:TypeId} {v:Value} (h:Boxed W b t v) (p:¬ foot W b):Priv foot W b:=⟨⟨_,_,_,h⟩,p⟩
theorem boxed_ne {W:World} {b mb:Nat} {t t':TypeId} {v:Value} {cs:Array Value} (h:Boxed W b t v) (hm:W.heap[mb]? = some (.cells cs t' (0,0))) (hne:t≠t'):b≠mb:=by
 rintro rfl
 rw [show W.heap[b]? = _ from h] at hm
 injection hm with hm
 injection hm with _ e _
 exact hne e
theorem TS.step {foot:World -> Nat -> Prop} {B pb mb b1 b3 b4 lp:Nat} {v:Value} {l:List Nd} {m m':Nat -> Bool} {W W':World} (h:TS foot B pb mb b1 b3 b4 lp v l m W) (hk:KeepP foot B (some mb) W W')
  (hm:W'.heap[mb]? = some (.cells (metA l.length m') 4 (0,0))):TS foot B pb mb b1 b3 b4 lp v l m' W':=by
 have n1:=boxed_ne h.h1 h.hm (by decide)
 have np:=boxed_ne h.hp h.hm (by decide)
 have n3:=boxed_ne h.h3 h.hm (by decide)
 have n4:=boxed_ne h.h4 h.hm (by decide)
 have k1:=hk.2.2 b1 (boxed_priv h.h1 h.p1)
 have kp:=hk.2.2 pb (boxed_priv h.hp h.pp)
 have k3:=hk.2.2 b3 (boxed_priv h.h3 h.p3)
 have k4:=hk.2.2 b4 (boxed_priv h.h4 h.p4)
 have km:=hk.2.2 mb ⟨⟨_,_,_,h.hm⟩,h.pm⟩
 exact ⟨(k1.2 (by simpa using n1)).trans h.h1,(kp.2 (by simpa using np)).trans h.hp,(k3.2 (by simpa using n3)).trans h.h3,(k4.2 (by simpa using n4)).trans h.h4,hm,
  h.hn.keep hk.1 (fun g hg hs=>hk.2.1 g hg hs),k1.1.2,kp.1.2,k3.1.2,k4.1.2,km.1.2,h.bm⟩
theorem TS.keep {foot:World -> Nat -> Prop} {B pb mb b1 b3 b4 lp:Nat} {v:Value} {l:List Nd} {m:Nat -> Bool} {W W':World} (h:TS foot B pb mb b1 b3 b4 lp v l m W) (hk:KeepP foot B none W W'):TS foot B pb mb b1 b3 b4 lp v l m W' :=
 h.step hk.weak (((hk.2.2 mb ⟨⟨_,_,_,h.hm⟩,h.pm⟩).2 (by simp)).trans h.hm)
end Go.Proofs.YtejmbbkklhpnaaaGreatDoor.flatw

/- The walk through what a root needs: one call of the walker hands on what the plain walk lists, each place once. No conditions but those stated. -/
namespace Go.Proofs.YtejmbbkklhpnaaaGreatDoor.flatw
open Go.RowKit Go.Shelf
open nodew
open chkw
open flatm
attribute [local go_sem] Oper.semAt_some
theorem IArg.uni {W:World} {v:Value} {ks:List Int} (h:IArg W v ks):∃ A,v = .slice A ks.length ks.length ∧ ∀ i,i<ks.length -> ∃ g,A=some ⟨g,0,none⟩∧W.heap[g]? = some (.cells (ks.map (Value.int .i64)).toArray 3 (0,0)):=by
 rcases h with ⟨rfl,rfl⟩ | ⟨g,rfl,_,hg⟩
 ·exact ⟨none,rfl,fun i hi=>by simp at hi⟩
 ·exact ⟨_,rfl,fun i _=>⟨g,rfl,hg⟩⟩
theorem runK_cons (g:Nat -> (Nat -> Bool) -> (Nat -> Bool) × List Nat) (c:Nat) (r:List Nat) (m:Nat -> Bool):runK g (c :: r) m=((runK g r (g c m).1).1,(g c m).2 ++ (runK g r (g c m).1).2):=rfl
theorem wli_load_nd {n:Nat} {ops:Array Oper} {rest:List Oper} {o:Oper} {a:Act} {w:World} {Q:Exit -> Act -> World -> Prop} (hgd:o.guard=none) (x:Operand) (ho:o.op = .load 67 x) (ad:Value) (hx:a.eval x=ad) (nd:Nd)
  (hl:(Instr.loadAt 67 ad).run Tryz.prog w = .ok nd.val w) (h:wpListIn Fence.wide n Tryz.prog ops Q rest (a.put o.dst nd.val) w):wpListIn Fence.wide n Tryz.prog ops Q (o :: rest) a w:=by
 refine wpListIn_plain hgd fun K hK => ?_
 have hr:(execOp a.eval o).run Tryz.prog w = .ok (.value nd.val) w:=by
  unfold execOp
  simp only [ho,hx,hl,Sem.run_bind,Sem.run_pure,Result.andThen_ok]
 refine ⟨fun f _=>trivial,?_⟩
 show Oper.uponIn _ _ _ _ _ _ _ ((execOp a.eval o).run Tryz.prog w)
 rw [hr]
 exact hK _ _ h
def ThrPost (foot:World -> Nat -> Prop) (B:Nat) (J:List Nat -> World -> Prop) (pb mb b1 b3 b4 lp:Nat) (v:Value) (l:List Nd) (pre:List Nat) (r:(Nat -> Bool) × List Nat) (W:World) (e:Ending) (W':World):Prop :=
 e = .returned (.bool true)∧TS foot B pb mb b1 b3 b4 lp v l r.1 W'∧J (pre ++ r.2) W'∧KeepP foot B (some mb) W W'
set_option maxRecDepth 100000 in
set_option maxHeartbeats 4000000 in
theorem thr_any {foot:World -> Nat -> Prop} {B:Nat} {J:List Nat -> World -> Prop} (hF:Foot foot B J) (l:List Nd) (_hl:l.length <= 4096) (hac:∀ x,x<l.length -> ∀ c∈kids (nth l x),c<x) (hki:∀ x,x<l.length -> kidsI (nth l x)=(kids (nth l x)).map (fun c:Nat=>(c:Int)))
  (ord:List Nat) (pb mb b1 b3 b4 lp:Nat) (v:Value)
  (hY:∀ (m:Nat) (pre:List Nat) (x:Nat) (W1:World),J pre W1 -> x<l.length -> pre ++ [x] <+: ord -> YieldAt Fence.wide m Tryz.prog lp #[.int .i64 x] W1 fun e W'=>e = .returned (.bool true)∧J (pre ++ [x]) W'∧KeepP foot B none W1 W') :
  ∀ (f x:Nat),x<f -> x<l.length -> ∀ (m:Nat -> Bool) (pre:List Nat) (W:World),TS foot B pb mb b1 b3 b4 lp v l m W -> J pre W -> pre ++ (visit (nth l) f x m).2 <+: ord ->
   Calls Tryz.prog 95 #[.int .i64 x,.pointer (some ⟨b1,0,none⟩),.pointer (some ⟨pb,0,none⟩),.pointer (some ⟨b3,0,none⟩),.pointer (some ⟨b4,0,none⟩)] W (ThrPost foot B J pb mb b1 b3 b4 lp v l pre (visit (nth l) f x m) W):=by
 intro f
 induction f with
 | zero=>intro x h; omega
 | succ f ih =>
  intro x hxf hxl m pre W hT hJ hpre
  have IH:=Lib.hid ih
  have HY:=Lib.hid hY
  have HF:=Lib.hid hF
  have HAC:=Lib.hid hac
  have HKI:=Lib.hid hki
  have HT:=Lib.hid hT
  have HJ:=Lib.hid hJ
  clear ih hY hF hac hki
  obtain ⟨q,hq⟩:∃ q,visit (nth l) (f+1) x m=q:=⟨_,rfl⟩
  rw [hq] at hpre ⊢
  have c1:=hT.h1.cell
  have cm:W.cell? ⟨mb,x,none⟩=some (.bool (m x)):=by rw [cell_of_row W mb x _ _ _ hT.hm]; exact metA_at _ _ _ hxl
  have x0:(0:Int) <= (x:Int):=by omega
  have xi:(x:Int)<(l.length:Int):=by omega
  rw [<- callsIn_wide (n:=0)]
  cases hmx:m x with
  | true =>
   have hq':q=(m,[]):=by rw [<- hq]; unfold visit; rw [if_pos hmx]
   rw [hmx] at cm
   clear hT hJ hq hmx hpre
   refine callsIn_of_wp Tryz.func95 rfl trivial ?_ rfl
   simp only [Tryz.ntmps95,List.size_toArray,List.length_cons,List.length_nil,Nat.reduceAdd,Nat.reduceSub,Array.replicate_succ,Array.replicate_zero,List.push_toArray,List.append_toArray,List.nil_append,List.cons_append]
   gi_wp2
   go_ret
   subst hq'
   exact ⟨rfl,HT.out,by rw [List.append_nil]; exact HJ.out,KeepP.refl _ _ _ _⟩
  | false =>
   have hq':q=((runK (visit (nth l) f) (kids (nth l x)) (upd m x true)).1,(runK (visit (nth l) f) (kids (nth l x)) (upd m x true)).2 ++ [x]):=by rw [<- hq]; unfold visit; rw [if_neg (by rw [hmx]; simp)]
   rw [hmx] at cm
   have HQ:=Lib.hid hq'
   have HPRE:=Lib.hid hpre
   clear hq hmx hq' hpre
   obtain ⟨W1,hW1⟩:∃ W1,W1=W.setCell ⟨mb,x,none⟩ (.bool true):=⟨_,rfl⟩
   have hg1:W.grownBy W1 (some mb):=by
    rw [hW1]
    exact ⟨rfl,rfl,rfl,by simp,fun k hk hne=>Below.heap_setCell W ⟨mb,x,none⟩ (.bool true) k (by intro e; exact hne (by rw [e]))⟩
   have hm1:W1.heap[mb]? = some (.cells (metA l.length (upd m x true)) 4 (0,0)):=by rw [hW1,heap_set W mb x _ _ _ _ hT.hm,metA_set _ _ _ hxl]
   obtain ⟨hJ1,hK1,_⟩:=HF.out.alloc hJ hg1 (fun r e=>by obtain rfl:=Option.some.inj e; exact ⟨hT.bm,⟨⟨_,_,_,hT.hm⟩,hT.pm⟩,_,_,_,hm1⟩)
   have hT1:=hT.step hK1 hm1
   have fm:W.frozen? ⟨mb,x,none⟩=false:=by simp [World.frozen?,hT.hm]
   have HT1:=Lib.hid hT1
   have HJ1:=Lib.hid hJ1
   have HK1:=Lib.hid hK1
   have cp:=hT1.hp.cell
   have cpW:=hT.hp.cell
   have npm:pb≠mb:=boxed_ne hT.hp hT.hm (by decide)
   have cpS:=cp
   rw [hW1] at cpS
   have ca:=hT1.h4.cell
   clear hT hJ hg1 hm1 hJ1 hK1
   obtain ⟨A,c,rfl,hlc,_,hcell⟩:=hT1.hn
   obtain ⟨g,off,rfl,hgB,hgl,hcl⟩:=hcell (by intro e; rw [e] at hxl; simp at hxl)
   have hld:=(NRead.at (B:=B) (g:=g) (off:=off) (W:=W1) (l:=l) (k:=x) (fun _=>⟨g,off,rfl,hgB,hgl,hcl⟩) hxl).2 W1 rfl
   have hnx:l[x]=nth l x:=by unfold nth; simp [hxl]
   rw [hnx] at hld
   have HLD:=Lib.hid hld
   have HCE:=Lib.hid hcell
   clear hld hcell hcl hT1
   refine callsIn_of_wp Tryz.func95 rfl trivial ?_ rfl
   simp only [Tryz.ntmps95,List.size_toArray,List.length_cons,List.length_nil,Nat.reduceAdd,Nat.reduceSub,Array.replicate_succ,Array.replicate_zero,List.push_toArray,List.append_toArray,List.nil_append,List.cons_append]
   gi_wp2_with (first | (rw [<- hW1]) | (refine wli_load_nd rfl (.tmp 18) rfl (.pointer (some ⟨g,off+x*19,none⟩)) rfl (nth l x) HLD.out ?_))
   refine ⟨trivial,rfl,(callsIn_wide.2 (below_any (nth l x) W1)).mono ?_⟩
   rintro e W2 ⟨vb,rfl,hIA,hB2,hnew⟩
   rw [HKI.out x hxl] at hIA
   obtain ⟨ks,hks⟩:∃ ks,kids (nth l x)=ks:=⟨_,rfl⟩
   have hk2:ks.length <= 2:=by
    rw [<- hks]; unfold kids
    split
    ·simp
    ·split <;> simp
   have hkx:∀ c∈ks,c<x:=by rw [<- hks]; exact HAC.out x hxl
   have hQ:=HQ.out
   rw [hks] at hIA hQ
   have HQ:=Lib.hid hQ
   clear hQ
   obtain ⟨A2,rfl,hA2⟩:=hIA.uni
   rw [List.length_map] at hA2 hnew ⊢
   obtain ⟨hJ2,hK2,hP2⟩:=HF.out.alloc HJ1.out (grown_below hB2 none) (fun r e=>by cases e)
   have hK2':=HK1.out.trans hK2.weak
   have hT2:=HT1.out.keep hK2
   have hA3:∀ i,i<ks.length -> ∃ gb,A2=some ⟨gb,0,none⟩∧W2.heap[gb]? = some (.cells ((ks.map (fun c:Nat=>(c:Int))).map (Value.int .i64)).toArray 3 (0,0))∧Priv foot W2 gb∧gb≠mb:=by
    intro i hi
    obtain ⟨gb,rfl,hgb⟩:=hA2 i hi
    refine ⟨gb,rfl,hgb,hP2 gb _ _ _ (hnew gb 0 _ rfl) hgb,fun e => ?_⟩
    rw [e,hT2.hm] at hgb
    injection hgb with hgb
    injection hgb with _ e2 _
    exact absurd e2 (by decide)
   have HA3:=Lib.hid hA3
   have HKX:=Lib.hid hkx
   have HT2:=Lib.hid hT2
   have HK2:=Lib.hid hK2'
   have HJ2:=Lib.hid hJ2
   clear hA3 hA2 hnew hP2 hIA hT2 hK2 hK2' hJ2 hB2 hks hkx
   have hkl:ks.length <= 4096∨True:=.inr trivial
   gi_wp2_with fail
   gi_loopw [22] (fun i wr=>∃ (dn rest outs:List Nat) (mi:Nat -> Bool),ks=dn ++ rest∧i = .int .i64 dn.length∧runK (visit (nth l) f) ks (upd m x true)=((runK (visit (nth l) f) rest mi).1,outs ++ (runK (visit (nth l) f) rest mi).2)∧TS foot B pb mb b1 b3 b4 lp (.slice (some ⟨g,off,none⟩) l.length c) l mi wr∧J (pre ++ outs) wr∧KeepP foot B (some mb) W2 wr) (fun i _=>ks.length-(intOf i).toNat)
   case atStart=>exact ⟨[],ks,[],upd m x true,rfl,rfl,by simp,HT2.out,by rw [List.append_nil]; exact HJ2.out,KeepP.refl _ _ _ _⟩
   case round =>
    obtain ⟨dn,rest,outs,mi,hks,rfl,hrun,hTr,hJr,hKr⟩:=hrel
    have HRUN:=Lib.hid hrun
    have HTR:=Lib.hid hTr
    have HJR:=Lib.hid hJr
    have HKR:=Lib.hid hKr
    have c3:=hTr.h3.cell
    have c4:=hTr.h4.cell
    have hlen:ks.length=dn.length+rest.length:=by rw [hks,List.length_append]
    have HKS:=Lib.hid hks
    clear hrun hTr hJr hKr hks
    have hd0:(0:Int) <= (dn.length:Int):=by omega
    cases rest with
    | nil =>
     have hdl:ks.length=dn.length:=by simpa using hlen
     have hnl:decide ((dn.length:Int)<(ks.length:Int))=false:=by rw [decide_eq_false_iff_not]; omega
     have hni:¬ (dn.length:Int)<(ks.length:Int):=by omega
     have hr0:runK (visit (nth l) f) ks (upd m x true)=(mi,outs):=by rw [HRUN.out]; simp [runK]
     have hq0:q=(mi,outs ++ [x]):=by rw [HQ.out,hr0]
     have hpr:(pre ++ outs) ++ [x] <+: ord:=by have:=HPRE.out; rw [hq0] at this; rw [List.append_assoc]; exact this
     have HQ0:=Lib.hid hq0
     clear hr0 hq0
     obtain ⟨fn,tmps,assign,body,hy,hR⟩:=HY.out 0 (pre ++ outs) x wr HJR.out hxl hpr
     clear hlen
     gi_wp2_with fail
     refine ⟨rfl,hR.mono ?_⟩
     rintro e W3 ⟨rfl,hJ3,hK3⟩
     gi_wp2
     go_ret
     rw [HQ0.out]
     exact ⟨rfl,HTR.out.keep hK3,by rw [<- List.append_assoc]; exact hJ3,(HK2.out.trans HKR.out).trans hK3.weak⟩
    | cons cc rest =>
     have hdl:dn.length<ks.length:=by rw [hlen]; simp
     have hnl:decide ((dn.length:Int)<(ks.length:Int))=true:=by rw [decide_eq_true_iff]; omega
     have hni:(dn.length:Int)<(ks.length:Int):=by omega
     obtain ⟨gb,rfl,hgb,hpb,hnb⟩:=HA3.out dn.length hdl
     have hgw:wr.heap[gb]? = some (.cells ((ks.map (fun c:Nat=>(c:Int))).map (Value.int .i64)).toArray 3 (0,0)):=((HKR.out.2.2 gb hpb).2 (by simpa using hnb)).trans hgb
     have cg:wr.cell? ⟨gb,dn.length,none⟩=some (.int .i64 cc):=by
      rw [cell_of_row wr gb dn.length _ _ _ hgw,HKS.out]
      simp
     have hcx:cc<x:=HKX.out cc (by rw [HKS.out]; simp)
     have hrn:=HRUN.out
     rw [runK_cons] at hrn
     obtain ⟨r,hr⟩:∃ r,visit (nth l) f cc mi=r:=⟨_,rfl⟩
     rw [hr] at hrn
     have hih:=IH.out cc (by omega) (by omega) mi (pre ++ outs) wr HTR.out HJR.out (by
      rw [hr]
      have h1:=HPRE.out
      rw [HQ.out,hrn] at h1
      refine List.IsPrefix.trans ?_ h1
      refine ⟨(runK (visit (nth l) f) rest r.1).2 ++ [x],?_⟩
      simp only [List.append_assoc])
     rw [hr] at hih
     have HRN:=Lib.hid hrn
     have HIH:=Lib.hid hih
     have HLE:=Lib.hid hlen
     clear hr hrn hih hgb hgw hpb hnb hdl hlen
     gi_wp2_with fail
     refine ⟨trivial,rfl,(callsIn_wide.2 HIH.out).mono ?_⟩
     rintro e W3 ⟨rfl,hT3,hJ3,hK3⟩
     have HT3:=Lib.hid hT3
     have HJ3:=Lib.hid hJ3
     have HK3:=Lib.hid hK3
     clear hT3 hJ3 hK3
     gi_wp2_with fail
     go_roundw
     case rel=>exact ⟨dn ++ [cc],rest,outs ++ r.2,r.1,by rw [HKS.out]; simp,by simp,by rw [HRN.out,List.append_assoc],HT3.out,by rw [<- List.append_assoc]; exact HJ3.out,HKR.out.trans HK3.out⟩
     case measure=>have:=HLE.out; simp at this; simp [intOf]; omega
end Go.Proofs.YtejmbbkklhpnaaaGreatDoor.flatw

/- The iterator of what a root needs: its contract. No conditions but those stated. -/
namespace Go.Proofs.YtejmbbkklhpnaaaGreatDoor.flatw
open Go.RowKit Go.Shelf
open nodew
open chkw
open flatm
attribute [local go_sem] Oper.semAt_some
theorem boolInfo:(Tryz.prog.info? 4).map (fun i=>(i.zero,i.size,i.bytes))=some (some (.bool false),1,1):=by kernel_rfl
theorem intInfo:(Tryz.prog.info? 3).map (fun i=>(i.zero,i.size,i.bytes))=some (some (.int .i64 0),1,8):=by kernel_rfl
theorem made_one (v:Value) (n:Nat):madeCells #[v] n=((List.range n).map fun _=>v).toArray:=by
 unfold madeCells
 apply Array.ext_getElem?
 intro j
 by_cases hj:j<n
 ·simp [hj,Nat.mod_one]
 ·simp [hj]
theorem mk_bool (n:Nat) (hn:n <= 4096) (w:World):(Instr.makeSlice 155 (.int .i64 n) (.int .i64 n)).run Tryz.prog w = .ok (.slice (some ⟨w.heap.size,0,none⟩) n n) (w.alloc (.cells (metA n none_) 4)):=by
 obtain ⟨i,hi,hz,h1,h2⟩:=info_parts boolInfo
 have:=run_makeSlice (P:=Tryz.prog) w 155 4 i _ Tryz.underlying155 hi hz .i64 .i64 n n (by omega) (Int.le_refl _) (by rw [h1]; omega) (by rw [h2]; omega) (by omega)
 rw [this,h1]
 simp only [Int.toNat_natCast,Nat.mul_one]
 rw [show (Value.bool false).cells = #[Value.bool false] from rfl,made_one]
 rfl
theorem mk_int (n:Nat) (hn:n <= 4096) (w:World):(Instr.makeSlice 86 (.int .i64 n) (.int .i64 n)).run Tryz.prog w = .ok (.slice (some ⟨w.heap.size,0,none⟩) n n) (w.alloc (.cells ((List.range n).map fun _=>Value.int .i64 0).toArray 3)):=by
 obtain ⟨i,hi,hz,h1,h2⟩:=info_parts intInfo
 have:=run_makeSlice (P:=Tryz.prog) w 86 3 i _ Tryz.underlying86 hi hz .i64 .i64 n n (by omega) (Int.le_refl _) (by rw [h1]; omega) (by rw [h2]; omega) (by omega)
 rw [this,h1]
 simp only [Int.toNat_natCast,Nat.mul_one]
 rw [show (Value.int .i64 0).cells = #[Value.int .i64 0] from rfl,made_one]
set_option maxRecDepth 100000 in
set_option maxHeartbeats 4000000 in
theorem seq_any {foot:World -> Nat -> Prop} {B:Nat} {J:List Nat -> World -> Prop} (hF:Foot foot B J) (l:List Nd) (h0:0<l.length) (hl:l.length <= 4096) (hac:∀ x,x<l.length -> ∀ c∈kids (nth l x),c<x) (hki:∀ x,x<l.length -> kidsI (nth l x)=(kids (nth l x)).map (fun c:Nat=>(c:Int)))
  (pb lp:Nat) (v:Value)
  (hY:∀ (m:Nat) (pre:List Nat) (x:Nat) (W1:World),J pre W1 -> x<l.length -> pre ++ [x] <+: ordP l -> YieldAt Fence.wide m Tryz.prog lp #[.int .i64 x] W1 fun e W'=>e = .returned (.bool true)∧J (pre ++ [x]) W'∧KeepP foot B none W1 W')
  (n:Nat) (W:World) (hB:B <= W.heap.size) (hp:Boxed W pb 43 v) (hpp:¬ foot W pb) (hn:NArg W B v l) (hJ:J [] W) :
  CallsIn Fence.wide n Tryz.prog 94 #[.func (.yield lp) #[] #[],.pointer (some ⟨pb,0,none⟩)] W fun e W'=>(∃ v,e = .returned v)∧J (ordP l) W':=by
 have HF:=Lib.hid hF
 have HY:=Lib.hid hY
 have HAC:=Lib.hid hac
 have HKI:=Lib.hid hki
 have HN:=Lib.hid hn
 have HJ:=Lib.hid hJ
 clear hF hY hac hki hJ
 obtain ⟨A,c,rfl⟩:=hn.form
 clear hn
 have hpl:=hp.lt
 have hpA:=fun (X:World) (h:Boxed X pb 43 (.slice A l.length c)) (o:Obj)=>h.alloc o
 obtain ⟨W1,hW1⟩:∃ W1,W1=W.alloc (.cells #[.func (.yield lp) #[] #[]] 154):=⟨_,rfl⟩
 have e1:W1.heap.size=W.heap.size+1:=by rw [hW1]; simp
 have p1:Boxed W1 pb 43 (.slice A l.length c):=by rw [hW1]; exact hp.alloc _
 have y1:Boxed W1 W.heap.size 154 (.func (.yield lp) #[] #[]):=by rw [hW1]; exact Boxed.new W _ _
 have g1:W.grownBy W1 none:=by rw [hW1]; exact World.grownBy_alloc W _ none
 have cp1:=p1.cell
 have cp1r:=cp1
 rw [hW1] at cp1r
 obtain ⟨W2,hW2⟩:∃ W2,W2=W1.alloc (.cells (metA l.length none_) 4):=⟨_,rfl⟩
 have hmk:(Instr.makeSlice 155 (.int .i64 l.length) (.int .i64 l.length)).run Tryz.prog W1 = .ok (.slice (some ⟨W1.heap.size,0,none⟩) l.length l.length) W2:=by rw [hW2]; exact mk_bool l.length hl W1
 obtain ⟨W5,hW5⟩:∃ W5,W5=((W1.alloc (.cells (metA l.length none_) 4)).alloc (.cells #[.slice (some ⟨W.heap.size+1,0,none⟩) l.length l.length] 155)).alloc (.cells #[.func (.func 95) #[] #[.pointer (some ⟨W.heap.size+1+1,0,none⟩),.pointer (some ⟨pb,0,none⟩),.pointer (some ⟨W.heap.size+1+1+1,0,none⟩),.pointer (some ⟨W.heap.size,0,none⟩)]] 154):=⟨_,rfl⟩
 have p5:Boxed W5 pb 43 (.slice A l.length c):=by rw [hW5]; exact ((p1.alloc _).alloc _).alloc _
 have y5:Boxed W5 W.heap.size 154 (.func (.yield lp) #[] #[]):=by rw [hW5]; exact ((y1.alloc _).alloc _).alloc _
 have m5:W5.heap[W.heap.size+1]? = some (.cells (metA l.length none_) 4 (0,0)):=by
  rw [hW5,Below.heap_alloc _ _ _ (by simp; omega),Below.heap_alloc _ _ _ (by simp; omega)]
  exact heap_at W1 _ _ e1
 have b5:Boxed W5 (W.heap.size+1+1) 155 (.slice (some ⟨W.heap.size+1,0,none⟩) l.length l.length):=by
  unfold Boxed
  rw [hW5,Below.heap_alloc _ _ _ (by simp; omega)]
  exact heap_at _ _ _ (by simp; omega)
 have t5:Boxed W5 (W.heap.size+1+1+1) 154 (.func (.func 95) #[] #[.pointer (some ⟨W.heap.size+1+1,0,none⟩),.pointer (some ⟨pb,0,none⟩),.pointer (some ⟨W.heap.size+1+1+1,0,none⟩),.pointer (some ⟨W.heap.size,0,none⟩)]):=by
  unfold Boxed
  rw [hW5]
  exact heap_at _ _ _ (by simp; omega)
 have g5:W.grownBy W5 none:=by
  rw [hW5]
  exact grown_trans (grown_trans (grown_trans g1 (World.grownBy_alloc _ _ none)) (World.grownBy_alloc _ _ none)) (World.grownBy_alloc _ _ none)
 obtain ⟨hJ5,hK5,hP5⟩:=HF.out.alloc HJ.out g5 (fun r e=>by cases e)
 have hT5:TS foot B pb (W.heap.size+1) (W.heap.size+1+1) (W.heap.size+1+1+1) W.heap.size lp (.slice A l.length c) l none_ W5 :=
  ⟨b5,p5,t5,y5,m5,HN.out.keep hK5.1 (fun g hg hs=>hK5.2.1 g hg hs),(hP5 _ _ _ _ (by omega) b5).2,(hK5.2.2 pb (boxed_priv hp hpp)).1.2,(hP5 _ _ _ _ (by omega) t5).2,(hP5 _ _ _ _ (by omega) y5).2,(hP5 _ _ _ _ (by omega) m5).2,by omega⟩
 have hthr:=thr_any HF.out l hl HAC.out HKI.out (ordP l) pb (W.heap.size+1) (W.heap.size+1+1) (W.heap.size+1+1+1) W.heap.size lp (.slice A l.length c) HY.out l.length (l.length-1) (by omega) (by omega) none_ [] W5 hT5 hJ5 (by rw [List.nil_append]; exact List.prefix_refl _)
 have HTHR:=Lib.hid hthr
 have cp5:=p5.cell
 rw [hW5] at cp5
 have cp5r:=cp5
 rw [hW1] at cp5r
 have hx1:((l.length-1:Nat):Int)=(l.length:Int)-1:=by omega
 have hmkr:=hmk
 rw [hW1] at hmkr
 have HX1:=Lib.hid hx1
 clear hthr hT5 hP5 hK5 hJ5 g5 t5 b5 m5 y5 p5 hx1 p1 y1 g1 e1 hp
 refine callsIn_of_wp Tryz.func94 rfl trivial ?_ rfl
 simp only [Tryz.ntmps94,List.size_toArray,List.length_cons,List.length_nil,Nat.reduceAdd,Nat.reduceSub,Array.replicate_succ,Array.replicate_zero,List.push_toArray,List.append_toArray,List.nil_append,List.cons_append]
 gi_wp2_with (rw [<- hW1])
 rw [<- HX1.out,<- hW5]
 refine ⟨trivial,fun h=>(by cases h),(callsIn_wide.2 HTHR.out).mono ?_⟩
 rintro e W6 ⟨rfl,hT6,hJ6,hK6⟩
 gi_wp2
 go_end0
 refine ⟨⟨_,rfl⟩,?_⟩
 rw [List.nil_append] at hJ6
 exact hJ6
end Go.Proofs.YtejmbbkklhpnaaaGreatDoor.flatw

/- A range over what a root needs: the statement, out of one walk of the body. No conditions but those stated. -/
namespace Go.Proofs.YtejmbbkklhpnaaaGreatDoor.flatw
open Go.RowKit Go.Shelf
open nodew
open chkw
open flatm
theorem put_rec_priv {foot:World -> Nat -> Prop} {W:World} {k:Nat} {o o':Obj} (ho:W.heap[k]? = some o) (hr:isRec o=true) (hf:∀ i,foot (W.putObj k o') i -> foot W i) {i:Nat} (h:Priv foot W i):Priv foot (W.putObj k o') i∧(W.putObj k o').heap[i]? = W.heap[i]?:=by
 have hne:i≠k:=by
  rintro rfl
  obtain ⟨⟨cs,t,fr,hc⟩,_⟩:=h
  rw [hc] at ho
  injection ho with ho
  subst ho
  cases hr
 have he:(W.putObj k o').heap[i]? = W.heap[i]?:=World.putObj_heap_other hne
 obtain ⟨⟨cs,t,fr,hc⟩,hn⟩:=h
 exact ⟨⟨⟨cs,t,fr,he.trans hc⟩,fun h=>hn (hf i h)⟩,he⟩
theorem range_seq {n:Nat} (h1:1 <= n) {g:Operand} {p:Tmp} {assign body:Code} {Q:Exit -> Act -> World -> Prop} {a:Act} {w:World} {foot:World -> Nat -> Prop} {B:Nat} {I:List Nat -> World -> Prop} (hF:Foot foot B I)
    (hput:∀ pre W k o o',I pre W -> w.heap.size <= k -> W.heap[k]? = some o -> isRec o=true -> isRec o'=true -> I pre (W.putObj k o'))
    (hputf:∀ W k o o',W.heap[k]? = some o -> isRec o=true -> isRec o'=true -> ∀ i,foot (W.putObj k o') i -> foot W i)
    (l:List Nd) (h0:0<l.length) (hl:l.length <= 4096) (hac:∀ x,x<l.length -> ∀ c∈kids (nth l x),c<x) (hki:∀ x,x<l.length -> kidsI (nth l x)=(kids (nth l x)).map (fun c:Nat=>(c:Int)))
    (pb:Nat) (v:Value) (hB:B <= w.heap.size) (hp:Boxed w pb 43 v) (hpp:¬ foot w pb) (hn:NArg w B v l) (hI:I [] w)
    (hg:a.eval g = .func (.func 94) #[] #[.pointer (some ⟨pb,0,none⟩)])
    (a₁:Nat -> Act)
    (hassign:∀ (lb m:Nat) (x:Nat) (W:World) (K:Act -> World -> Prop),K (a₁ x) W ->
      assign.wpIn (Fence.wide.inRound lb) m Tryz.prog (Exit.then K (fun _ _ _=>False)) { tmps:=(#[p].zip #[Value.int .i64 x]).foldl (fun t (p,v)=>t.setIfInBounds p v) a.tmps,defers:=[] } W)
    (hbody:∀ (lb m:Nat) (pre:List Nat) (x:Nat) (W:World),I pre W -> x<l.length -> pre ++ [x] <+: ordP l -> body.wpIn (Fence.wide.inRound lb) m Tryz.prog (bodyEnd I (KeepP foot B none) (pre ++ [x]) W) (a₁ x) W)
    (hdone:∀ W:World,I (ordP l) W -> W.heap[w.heap.size]? = some (.deferred (some [])) -> Q .normal { a with defers:={ target:=.collected w.heap.size,args:=#[] } :: a.defers } W) :
    (Code.rangeFunc g #[p] assign body).wpIn Fence.wide n Tryz.prog Q a w:=by
  refine range_law (F:=Fence.wide) rfl h1 (gf := 94) (lb:=#[.pointer (some ⟨pb,0,none⟩)]) hg trivial (enters_of Tryz.func94 (by kernel_rfl) rfl)
    (fun x:Nat => #[Value.int .i64 x]) (fun _=>rfl) I (KeepP foot B none) (fun pre x=>pre ++ [x] <+: ordP l∧x<l.length) (ordP l) 0 hput ?_ (fun h k=>h.trans k) ?_ a₁ hassign ?_ hdone
  · intro W k o o' hk ho hr hr'
    refine ⟨?_,fun i hi hs=>World.putObj_heap_other (by omega),fun i hi => ?_⟩
    · simp [World.putObj]
    · obtain ⟨h2,h3⟩:=put_rec_priv ho hr (hputf W k o o' ho hr hr') hi
      exact ⟨h2,fun _=>h3⟩
  · intro r hr hY
    obtain ⟨W1,hW1⟩:∃ W1,(w.alloc (.deferred (some []))).alloc (.loop r)=W1:=⟨_,rfl⟩
    rw [hW1] at hr ⊢
    have hg1:w.grownBy W1 none:=by rw [<- hW1]; exact grown_trans (World.grownBy_alloc w _ none) (World.grownBy_alloc _ _ none)
    obtain ⟨hI1,hK1,_⟩:=hF.alloc hI hg1 (fun r e=>by cases e)
    have hFJ:Foot foot B (fun pre W=>I pre W∧Recs w.heap.size r W):=by
      refine ⟨fun pre X k h hf=>hF.size pre X k h.1 hf,fun pre X Y row h hg hr => ?_⟩
      obtain ⟨h2,h3⟩:=hF.own pre X Y row h.1 hg hr
      refine ⟨⟨h2,h.2.keep ?_⟩,h3⟩
      intro k o ho hro
      rw [<- ho]
      refine hg.block k (Array.getElem?_eq_some_iff.1 ho).1 (fun e => ?_)
      obtain ⟨_,⟨cs,t,fr,hc⟩,_⟩:=hr k e.symm
      rw [hc] at ho
      injection ho with ho
      subst ho
      cases hro
    refine (seq_any hFJ l h0 hl hac hki pb (w.heap.size+1) v ?_ (n-1) W1 (Nat.le_trans hB hg1.size) ?_ ?_ (hn.keep hg1.size (fun g hg hs=>hK1.2.1 g hg hs)) ⟨hI1,hr⟩).mono ?_
    · intro m pre x W hJ hx hpre
      obtain ⟨fn,tmps,asg,bd,hy,hR⟩:=hY m pre x W (Nat.zero_le _) hJ.1 hJ.2 ⟨hpre,hx⟩
      refine ⟨fn,tmps,asg,bd,hy,hR.mono ?_⟩
      rintro e W' ⟨he,hi,hk,hrec⟩
      exact ⟨he,⟨hi,hrec⟩,hk⟩
    · exact hp.kept hg1 (by simp)
    · exact (hK1.2.2 pb (boxed_priv hp hpp)).1.2
    · rintro e W' ⟨hv,hi,hrec⟩
      exact ⟨hv,hi,hrec⟩
  · intro lb m pre x W _ hi hN
    exact hbody lb m pre x W hi hN.2 hN.1
end Go.Proofs.YtejmbbkklhpnaaaGreatDoor.flatw

/- A box that holds a growing row, as the other side of an iterator. No conditions but those stated. -/
namespace Go.Proofs.YtejmbbkklhpnaaaGreatDoor.flatw
open Go.RowKit Go.Shelf
open nodew
open chkw
open flatm
def footR (bs:Nat) (W:World) (k:Nat):Prop:=k=bs ∨ ∃ v,W.cell? ⟨bs,0,none⟩=some v∧v.ownBlock=some k
def HR (n0 bs t e size:Nat) (k:Nat) (xs:List Value) (W:World):Prop:=∃ v,Boxed W bs t v∧W.ownsRow n0 e size v k xs
theorem HR.foot_lt {n0 bs t e size k:Nat} {xs:List Value} {W:World} (h:HR n0 bs t e size k xs W) (hb:n0 <= bs) {i:Nat} (hi:footR bs W i):n0 <= i∧i<W.heap.size:=by
 obtain ⟨v,hv,ho⟩:=h
 rcases hi with rfl | ⟨u,hu,hi⟩
 ·exact ⟨hb,hv.lt⟩
 ·rw [hv.cell] at hu
  obtain rfl:=Option.some.inj hu
  exact ho.lt i hi
theorem HR.own {n0 bs t e size k:Nat} {xs:List Value} {X Y:World} {row:Option Nat} (h:HR n0 bs t e size k xs X) (hg:X.grownBy Y row) (hr:∀ r,row=some r -> ¬ footR bs X r):HR n0 bs t e size k xs Y ∧ ∀ i,footR bs Y i -> footR bs X i:=by
 obtain ⟨v,hv,ho⟩:=h
 have hv':Boxed Y bs t v:=hv.kept hg (fun e=>hr bs e.symm (.inl rfl))
 refine ⟨⟨v,hv',ho.kept hg ?_⟩,?_⟩
 ·cases hvo:v.ownBlock with
  | none=>exact .inl rfl
  | some g=>exact .inr fun e=>hr g e.symm (.inr ⟨v,hv.cell,hvo⟩)
 ·rintro i (rfl | ⟨u,hu,hi⟩)
  ·exact .inl rfl
  ·rw [hv'.cell] at hu
   exact .inr ⟨u,hv.cell.trans hu,hi⟩
theorem HR.put {n0 bs t e size k:Nat} {xs:List Value} {W:World} (h:HR n0 bs t e size k xs W) {l:Nat} {o o':Obj} (hl:W.heap[l]? = some o) (ho:isRec o=true):HR n0 bs t e size k xs (W.putObj l o'):=by
 obtain ⟨v,hv,hw⟩:=h
 have hne:∀ b cs t fr,W.heap[b]? = some (.cells cs t fr) -> b≠l:=by
  rintro b cs t fr hb rfl
  rw [hb] at hl
  injection hl with hl
  subst hl
  cases ho
 refine ⟨v,(World.putObj_heap_other (hne _ _ _ _ hv)).trans hv,hw.1,?_⟩
 rcases hw.2 with h0 | ⟨g,cap,cur,hg,h2,hh,r⟩
 ·exact .inl h0
 ·exact .inr ⟨g,cap,cur,hg,h2,(World.putObj_heap_other (hne _ _ _ _ hh)).trans hh,r⟩
theorem footR_put {bs:Nat} {W:World} {k:Nat} {o o':Obj} (ho:W.heap[k]? = some o) (_hr:isRec o=true) (hr':isRec o'=true) (i:Nat) (h:footR bs (W.putObj k o') i):footR bs W i:=by
 rcases h with rfl | ⟨u,hu,hi⟩
 ·exact .inl rfl
 ·refine .inr ⟨u,?_,hi⟩
  by_cases e:bs=k
  ·subst e
   exfalso
   unfold World.cell? at hu
   rw [show (W.putObj bs o').heap[bs]? = some o' from World.putObj_heap_same (Array.getElem?_eq_some_iff.1 ho).1] at hu
   cases o' <;> simp_all [isRec]
  ·rw [<- hu]
   exact (World.cell?_of_block (a:=⟨bs,0,none⟩) (World.putObj_heap_other e)).symm
theorem HR.step {n0 bs t e size k k':Nat} {xs xs':List Value} {W w1:World} {v v':Value} {tmp:Obj} (hb:n0 <= bs) (hte:t≠e) (hv:Boxed W bs t v) (ho:W.ownsRow n0 e size v k xs)
  (hg:(W.alloc tmp).grownBy w1 v.ownBlock) (ho':w1.ownsRow n0 e size v' k' xs') (hvb:v'.ownBlock=v.ownBlock∨v'.ownBlock=some (W.alloc tmp).heap.size) :
  HR n0 bs t e size k' xs' (w1.setCell ⟨bs,0,none⟩ v')∧KeepP (footR bs) n0 none W (w1.setCell ⟨bs,0,none⟩ v')∧KeepsRec W (w1.setCell ⟨bs,0,none⟩ v')∧Boxed w1 bs t v:=by
 have hv1:Boxed w1 bs t v:=(hv.alloc tmp).kept hg (hv.not_row hte ho)
 have hbs:some bs≠v'.ownBlock:=hv1.not_row hte ho'
 have hz:(w1.setCell ⟨bs,0,none⟩ v').heap.size=w1.heap.size:=by simp
 have hW1:W.heap.size<w1.heap.size:=by have:=hg.size; rw [World.size_alloc] at this; omega
 have hblk:∀ i,i<W.heap.size -> ¬ footR bs W i -> (w1.setCell ⟨bs,0,none⟩ v').heap[i]? = W.heap[i]?:=by
  intro i hi hf
  rw [Below.heap_setCell w1 ⟨bs,0,none⟩ v' i (fun e=>hf (.inl e)),hg.block i (by rw [World.size_alloc]; omega) (fun e=>hf (.inr ⟨v,hv.cell,e.symm⟩)),Below.heap_alloc W tmp i hi]
 have hv2:Boxed (w1.setCell ⟨bs,0,none⟩ v') bs t v':=hv1.set v'
 refine ⟨⟨v',hv2,ho'.kept (grownBy_setCell' w1 bs v') ?_⟩,⟨by omega,fun i hi hs=>hblk i hs ?_,fun i hi=>⟨⟨?_,?_⟩,fun _=>hblk i hi.lt hi.2⟩⟩,?_,hv1⟩
 ·cases h:v'.ownBlock with
  | none=>exact .inl rfl
  | some g=>exact .inr fun e=>hbs (by rw [h,e])
 ·intro hf
  rcases hf with rfl | ⟨u,hu,hf⟩
  ·omega
  ·rw [hv.cell] at hu
   obtain rfl:=Option.some.inj hu
   have:=(ho.lt i hf).1
   omega
 ·rw [hblk i hi.lt hi.2]; exact hi.1
 ·rintro (rfl | ⟨u,hu,hf⟩)
  ·exact hi.2 (.inl rfl)
  ·rw [hv2.cell] at hu
   obtain rfl:=Option.some.inj hu
   rcases hvb with h | h
   ·exact hi.2 (.inr ⟨v,hv.cell,h.symm.trans hf⟩)
   ·rw [hf] at h
    have:=Option.some.inj h
    rw [World.size_alloc] at this
    have:=hi.lt
    omega
 ·intro i o hi hro
  rw [hblk i (Array.getElem?_eq_some_iff.1 hi).1 ?_]
  ·exact hi
  ·rintro (rfl | ⟨u,hu,hf⟩)
   ·rw [show W.heap[i]? = _ from hv] at hi
    injection hi with hi
    subst hi
    cases hro
   ·rw [hv.cell] at hu
    obtain rfl:=Option.some.inj hu
    rcases ho.2 with ⟨rfl,_⟩ | ⟨g,cap,cur,rfl,_,hh,_⟩
    ·cases hf
    ·have:g=i:=by simpa [Value.ownBlock] using hf
     subst this
     rw [hh] at hi
     injection hi with hi
     subst hi
     cases hro
end Go.Proofs.YtejmbbkklhpnaaaGreatDoor.flatw

/- The row of what a root needs: slices.AppendSeq, slices.Collect, Used. No conditions but those stated. -/
namespace Go.Proofs.YtejmbbkklhpnaaaGreatDoor.flatw
open Go.RowKit Go.Shelf
open nodew
open chkw
open flatm
attribute [local go_sem] Oper.semAt_some
def intsV (l:List Nat):List Value:=l.map fun x:Nat=>Value.int .i64 (x:Int)
def IU (n0:Nat) (w:World) (pre:List Nat) (W:World):Prop:=HR n0 n0 86 3 1 pre.length (intsV pre) W∧Below n0 w W
theorem footIU (n0:Nat) (w:World) (hn:n0 <= w.heap.size):Foot (footR n0) n0 (IU n0 w):=by
 refine ⟨fun pre X k h hk=>h.1.foot_lt (Nat.le_refl _) hk,fun pre X Y row h hg hr => ?_⟩
 obtain ⟨h1,h2⟩:=h.1.own hg (fun r e=>(hr r e).2.2)
 exact ⟨⟨h1,h.2.grown hg (Nat.le_trans hn h.2.size) (fun r e=>(hr r e).1)⟩,h2⟩
theorem intsV_snoc (l:List Nat) (x:Nat):intsV (l ++ [x])=intsV l ++ [.int .i64 (x:Int)]:=by simp [intsV]
theorem cells_one (W:World) (v:Value) (t:TypeId):∀ j u,[v][j]? = some u -> (W.alloc (.cells #[v] t)).cell? ((⟨W.heap.size,0,none⟩:Addr).add j)=some u:=by
 intro j u hu
 have hadd:(⟨W.heap.size,0,none⟩:Addr).add j=⟨W.heap.size,j,none⟩:=by unfold Addr.add; split <;> simp_all
 rw [hadd,cell_of_row _ _ _ _ _ _ (heap_alloc_new W _)]
 simpa using hu
set_option maxRecDepth 100000 in
set_option maxHeartbeats 4000000 in
theorem appendSeq_any (l:List Nd) (h0:0<l.length) (hl:l.length <= 4096) (hac:∀ x,x<l.length -> ∀ c∈kids (nth l x),c<x) (hki:∀ x,x<l.length -> kidsI (nth l x)=(kids (nth l x)).map (fun c:Nat=>(c:Int))) (hol:(ordP l).length <= 4096)
  (pb:Nat) (v:Value) (w:World) (hp:Boxed w pb 43 v) (hn:NArg w w.heap.size v l) :
  Calls Tryz.prog 96 #[.slice none 0 0,.func (.func 94) #[] #[.pointer (some ⟨pb,0,none⟩)]] w fun e w'=>∃ v',e = .returned v'∧w'.ownsRow w.heap.size 3 1 v' (ordP l).length (intsV (ordP l))∧Below w.heap.size w w':=by
 rw [<- callsIn_wide (n:=3)]
 have HAC:=Lib.hid hac
 have HKI:=Lib.hid hki
 clear hac hki
 refine callsIn_of_wp_marks Tryz.func96 rfl trivial ?_ rfl
 simp only [Tryz.ntmps96,List.size_toArray,List.length_cons,List.length_nil,Nat.reduceAdd,Nat.reduceSub,Array.replicate_succ,Array.replicate_zero,List.push_toArray,List.append_toArray,List.nil_append,List.cons_append]
 gi_wp2_with fail
 obtain ⟨W0,hW0⟩:∃ W0,W0=w.alloc (.cells #[.slice none 0 0] 86):=⟨_,rfl⟩
 have hz0:W0.heap.size=w.heap.size+1:=by rw [hW0]; simp
 have b0:Boxed W0 w.heap.size 86 (.slice none 0 0):=by rw [hW0]; exact Boxed.new w _ _
 have hB0:Below w.heap.size w W0:=by rw [hW0]; exact (Below.refl _ w).alloc (Nat.le_refl _) _
 rw [<- hW0]
 have hpl:=hp.lt
 obtain ⟨i0,hi,hz1,hz2,hz3⟩:=info_parts intInfo
 refine range_seq (by omega) (footIU w.heap.size w (Nat.le_refl _)) (fun pre W k o o' h hk ho hr hr'=>⟨h.1.put ho hr,h.2.grown (row:=some k) ⟨rfl,rfl,rfl,by simp [World.putObj],fun i hi hne=>World.putObj_heap_other (fun e=>hne (by rw [e]))⟩ h.2.size (fun r e=>by injection e with e; omega)⟩)
  (fun W k o o' ho hr hr' i hi=>footR_put ho hr hr' i hi) l h0 hl HAC.out HKI.out pb v (by omega) (hp.kept (grown_below hB0 none) (by simp)) ?_ (hn.ext hB0) ⟨⟨_,b0,World.ownsRow_nil _ _ _ _⟩,hB0⟩ rfl
  (fun x:Nat=>{ tmps:=#[.slice none 0 0,.func (.func 94) #[] #[.pointer (some ⟨pb,0,none⟩)],.pointer (some ⟨w.heap.size,0,none⟩),undef,.slice none 0 0,.int .i64 x,.func (.func 94) #[] #[.pointer (some ⟨pb,0,none⟩)],.int .i64 x,undef,undef,undef,undef,undef],defers:=[] }) ?_ ?_ ?_
 ·rintro (e | ⟨u,hu,hf⟩)
  ·omega
  ·rw [b0.cell] at hu
   obtain rfl:=Option.some.inj hu
   cases hf
 ·intro lb m x W K hK
  gi_wp2
  exact hK
 ·intro lb m pre x W hI hx hpre
  obtain ⟨⟨u,hu,ho⟩,hB1⟩:=hI
  have hlen:pre.length<4096:=by
   have:=hpre.length_le
   simp at this
   omega
  have hcu:=hu.cell
  have HO:=Lib.hid ho
  have HU:=Lib.hid hu
  have HB1:=Lib.hid hB1
  clear hpre
  obtain ⟨ua,uc,rfl⟩:=row_form ho
  clear ho hu
  gi_wp2_with (gi_at_builtin; go_loud (refine wpListIn_append_own_at _ rfl _ _ 86 rfl w.heap.size 3 i0 _ 1 8 Tryz.underlying86 hi hz1 hz2 hz3 rfl (by decide) _ _ _ rfl (HO.out.alloc _) ⟨W.heap.size,0,none⟩ 1 1 [.int .i64 x] rfl rfl (cells_one _ _ _) (by simp [Value.oneCell']) (by unfold maxLen; omega) (by omega) (by have:=HB1.out.size; simp; omega) ?_; intro v' w1 hown' hgrow _ hvb; obtain ⟨g',cap',rfl⟩:=ownsRow_succ hown'; obtain ⟨s1,s2,s3,hv1⟩:=HR.step (t := 86) (e := 3) (Nat.le_refl w.heap.size) (show (86 : Nat) ≠ 3 by decide) HU.out HO.out hgrow hown' hvb; have hB2:Below w.heap.size w w1:=Below.grown (HB1.out.alloc HB1.out.size _) hgrow (by rw [World.size_alloc]; exact Nat.le_succ_of_le HB1.out.size) (fun r e=>(HO.out.lt r e).1); have hc1:=hv1.cell; have hf1:=hv1.frozen))
  refine ⟨⟨?_,hB2.setCell (Nat.le_refl _) _⟩,s2,s3⟩
  rw [intsV_snoc,List.length_append]
  exact s1
 ·intro W hI hd
  obtain ⟨⟨u,hu,ho⟩,hB1⟩:=hI
  have hcu:=hu.cell
  have HO:=Lib.hid ho
  obtain ⟨ua,uc,rfl⟩:=row_form ho
  clear ho hu
  gi_wp2
  refine ⟨by simp,.inl ⟨_,_,rfl,run_takeDeferred hd,?_⟩⟩
  have hg:=grownBy_putObj' W W0.heap.size (.deferred none)
  have frow:=ownsRow_putObj HO.out (.deferred none) hd rfl
  refine ⟨.slice ua (ordP l).length uc,by simp [results,Tryz.results96,go_sem],?_⟩
  exact ⟨_,rfl,frow,hB1.grown hg hB1.size (fun r e=>by injection e with e; omega)⟩
def RowPost (w:World) (l:List Nat) (e:Ending) (w':World):Prop:=∃ v',e = .returned v'∧w'.ownsRow w.heap.size 3 1 v' l.length (intsV l)∧Below w.heap.size w w'
set_option maxHeartbeats 1000000 in
theorem collect_any (l:List Nd) (h0:0<l.length) (hl:l.length <= 4096) (hac:∀ x,x<l.length -> ∀ c∈kids (nth l x),c<x) (hki:∀ x,x<l.length -> kidsI (nth l x)=(kids (nth l x)).map (fun c:Nat=>(c:Int))) (hol:(ordP l).length <= 4096)
  (pb:Nat) (v:Value) (w:World) (hp:Boxed w pb 43 v) (hn:NArg w w.heap.size v l) :
  Calls Tryz.prog 63 #[.func (.func 94) #[] #[.pointer (some ⟨pb,0,none⟩)]] w (RowPost w (ordP l)):=by
 have h:=appendSeq_any l h0 hl hac hki hol pb v w hp hn
 have H:=Lib.hid h
 clear h hac hki hp hn
 go_enter Tryz.func63,Tryz.ntmps63
 go_wp2_with fail
 refine H.out.mono ?_
 rintro e w' ⟨v',rfl,ho,hB⟩
 go_wp2_with fail
 go_ret
 exact ⟨v',rfl,ho,hB⟩
end Go.Proofs.YtejmbbkklhpnaaaGreatDoor.flatw
