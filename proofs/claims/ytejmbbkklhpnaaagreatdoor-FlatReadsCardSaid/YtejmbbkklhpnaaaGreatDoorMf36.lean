/- What a right program gives the walks, and Used. No conditions but those stated. -/
import Derived.Test.YtejmbbkklhpnaaaGreatDoorMf35
import Derived.Test.YtejmbbkklhpnaaaGreatDoorMf16
import Derived.Deep.Onto
import Derived.Laws.StructEq
import Derived.ChangeKeysEq
import Derived.MapKept
import Derived.Carry
import Derived.StillTailTactics
import Derived.Deep.WholeRow
import Derived.Deep.DeepCutAuto
import Derived.BigQuiet
namespace Go.Proofs.YtejmbbkklhpnaaaGreatDoor.flatw
open Go.RowKit Go.Shelf
open nodew
open chkw
open flatm
theorem fold_snoc (L acc:List Nat):L.foldl (fun s x=>s ++ [x]) acc=acc ++ L:=by
 induction L generalizing acc with
 | nil=>simp
 | cons x r ih=>rw [List.foldl_cons,ih]; simp
theorem nodup_lt:∀ (n:Nat) (l:List Nat),l.Nodup -> (∀ x∈l,x<n) -> l.length <= n
 | 0,[],_,_=>Nat.le_refl _
 | 0,a :: r,_,h=>absurd (h a (.head _)) (Nat.not_lt_zero _)
 | n+1,l,hd,h=>by
  by_cases hm:n∈l
  ·have h1:=nodup_lt n (l.erase n) (hd.erase n) (fun x hx=>by
    have:=hd.mem_erase_iff.1 hx
    have:=h x this.2
    omega)
   rw [List.length_erase_of_mem hm] at h1
   omega
  ·have:=nodup_lt n l hd (fun x hx=>by
    have:=h x hx
    have:x≠n:=fun e=>hm (e ▸ hx)
    omega)
   omega
theorem ord_len {l:List Nd} (hr:rightP l=true):(ordP l).Nodup∧(ordP l).length <= l.length ∧ ∀ x∈ordP l,x<l.length:=by
 have hac:=right_ac hr
 have h0:=(right_nodes hr).2.1
 have he:ordP l=(runP l).2:=(visit_same (nth l) l.length hac l.length (l.length-1) l.length none_ none_ (by omega) (by omega) (fun _ _=>rfl)).1
 obtain ⟨⟨h1,h2⟩,_⟩:=visitD_inv (nth l) l.length hac (fun D (s:List Nat)=>s.Nodup ∧ ∀ y∈s,y<l.length∧D y=true) (fun s x=>s ++ [x]) (by
  rintro D s x hx ⟨h1,h2⟩ hD _
  refine ⟨?_,fun y hy => ?_⟩
  ·rw [List.nodup_append]
   refine ⟨h1,by simp,?_⟩
   rintro a ha b hb rfl
   have:a=x:=by simpa using hb
   subst this
   rw [(h2 a ha).2] at hD
   cases hD
  ·rcases List.mem_append.1 hy with hy | hy
   ·refine ⟨(h2 y hy).1,?_⟩
    by_cases e:y=x
    ·rw [e,upd_same]
    ·rw [upd_ne _ _ _ _ e]; exact (h2 y hy).2
   ·have:y=x:=by simpa using hy
    subst this
    exact ⟨hx,upd_same _ _ _⟩) l.length (l.length-1) none_ [] (by omega) (by omega) ⟨List.nodup_nil,(fun y hy=>by cases hy)⟩
 rw [fold_snoc,List.nil_append] at h1 h2
 have h1':(ordP l).Nodup:=by rw [he]; exact h1
 have h2':∀ x∈ordP l,x<l.length:=by rw [he]; exact fun x hx=>(h2 x hx).1
 refine ⟨h1',?_,h2'⟩
 exact nodup_lt _ _ h1' h2'
theorem kidsI_right {l:List Nd} (hr:rightP l=true):∀ x,x<l.length -> kidsI (nth l x)=(kids (nth l x)).map (fun c:Nat=>(c:Int)):=by
 intro x hx
 obtain ⟨_,ha,hb,_⟩:=nodeOk_parts ((right_nodes hr).1 x hx)
 unfold kidsI kids
 by_cases h5:(nth l x).kind=5
 ·rw [h5] at ha hb
  have ha':0 <= (nth l x).a:=by simp [placeOk,belowN] at ha; omega
  have hb':0 <= (nth l x).b:=by simp [placeOk,belowN] at hb; omega
  rw [if_pos h5,if_pos h5]
  simp
  omega
 ·by_cases h6:(nth l x).kind=6
  ·rw [h6] at ha
   have ha':0 <= (nth l x).a:=by simp [placeOk,belowN] at ha; omega
   rw [if_neg h5,if_pos h6,if_neg h5,if_pos h6]
   simp
   omega
  ·rw [if_neg h5,if_neg h6,if_neg h5,if_neg h6]
   rfl
def usedP (l:List Nd):List Nat:=if rightP l=true then ordP l else []
set_option maxHeartbeats 1000000 in
theorem used_any (l:List Nd) (hok:∀ n∈l,n.ok) (hll:l.length <= 1000000000000) (v:Value) (w:World) (hn:NArg w w.heap.size v l) :
  Calls Tryz.prog 34 #[v] w (RowPost w (usedP l)):=by
 have hrt:=right_any w.heap.size v l hok hll w hn.read (Nat.le_refl _)
 obtain ⟨A,c,rfl⟩:=hn.form
 have HRT:=Lib.hid hrt
 have HN:=Lib.hid hn
 have HOK:=Lib.hid hok
 clear hrt hn hok
 unfold usedP
 cases hr:rightP l with
 | false =>
  rw [hr] at HRT
  rw [if_neg (by simp)]
  go_enter Tryz.func34,Tryz.ntmps34
  go_wp2_with fail
  refine HRT.out.mono ?_
  rintro e w' ⟨rfl,hB⟩
  go_wp2_with fail
  go_ret
  exact ⟨_,rfl,World.ownsRow_nil _ _ _ _,hB⟩
 | true =>
  rw [hr] at HRT
  rw [if_pos rfl]
  obtain ⟨_,h0,h4⟩:=right_nodes hr
  have HR:=Lib.hid hr
  clear hr
  go_enter Tryz.func34,Tryz.ntmps34
  go_wp2_with fail
  refine HRT.out.mono ?_
  rintro e w1 ⟨rfl,hB1⟩
  have HB1:=Lib.hid hB1
  clear hB1
  go_wp2_with fail
  refine (callsIn_wide.1 (needed_in 0 A l.length c w1)).mono ?_
  rintro e w2 ⟨rfl,hw2⟩
  have hB2:Below w.heap.size w w2:=by rw [hw2]; exact HB1.out.alloc HB1.out.size _
  have hp:Boxed w2 w1.heap.size 43 (.slice A l.length c):=by rw [hw2]; exact Boxed.new _ _ _
  have hn2:NArg w2 w2.heap.size (.slice A l.length c) l:=(HN.out.ext hB2).mono hB2.size
  have hcl:=collect_any l h0 h4 (right_ac HR.out) (kidsI_right HR.out) (by have:=(ord_len HR.out).2.1; omega) w1.heap.size _ w2 hp hn2
  have HB2:=Lib.hid hB2
  have HCL:=Lib.hid hcl
  clear hw2 hB2 hp hn2 hcl
  go_wp2_with fail
  refine HCL.out.mono ?_
  rintro e w3 ⟨v',rfl,ho,hB3⟩
  go_wp2_with fail
  go_ret
  exact ⟨v',rfl,ho.mono HB2.out.size,HB2.out.trans (hB3.mono HB2.out.size)⟩
end Go.Proofs.YtejmbbkklhpnaaaGreatDoor.flatw

/- What '==' says of two nodes whose numbers are right ones. No conditions but those stated. -/
namespace Go.Proofs.YtejmbbkklhpnaaaGreatDoor.flatm
open Go.RowKit
open nodew
theorem hsNode : Tryz.prog.stoodInHeld 67 = false:=by kernel_rfl
theorem eq_float (d:Nat) (x y:Nat) (w:World):(Op.equalIn (d+1) 38 (.float .f64 x) (.float .f64 y)).run Tryz.prog w = .ok (fo x y == some .eq) w:=by
 simp only [Op.equalIn,Sem.run_bind,run_underlying Tryz.underlying38,Result.andThen_ok,if_true,Sem.run_pure]
 rfl
theorem agg_f64 (w:World):(isAgg 38).run Tryz.prog w = .ok false w:=by kernel_rfl
theorem agg_int (w:World):(isAgg 3).run Tryz.prog w = .ok false w:=by kernel_rfl
theorem agg_u8 (w:World):(isAgg 5).run Tryz.prog w = .ok false w:=by kernel_rfl
def eq3 (a b c x y z:Nat):Bool:=(fo a x == some .eq) && ((fo b y == some .eq) && (fo c z == some .eq))
theorem eq_arr (d:Nat) (a b c x y z:Nat) (w:World):(Op.equalIn (d+2) 65 (.agg #[.float .f64 a,.float .f64 b,.float .f64 c]) (.agg #[.float .f64 x,.float .f64 y,.float .f64 z])).run Tryz.prog w = .ok (eq3 a b c x y z) w:=by
 obtain ⟨i,hi⟩:∃ i,Tryz.prog.info? 38 = some i:=Option.isSome_iff_exists.1 (by kernel_rfl)
 rw [run_equalIn_array w (d+1) _ _ Tryz.underlying65 hi]
 have hc : Tryz.prog.cellsOf 38 = 1:=by kernel_rfl
 rw [hc]
 show (Op.eqItems (d+1) _ 1 _ _ [0,1,2]).run _ _=_
 have hp:∀ (cs:Array Value) (k:Nat) (v:Value) (u:World),cs[k]? = some v -> (part 38 cs k).run Tryz.prog u = .ok v u:=fun cs k v u h=>by
  simp [part,Sem.run_bind,Result.andThen_ok,h]
 unfold eq3
 simp only [Op.eqItems,Sem.run_bind]
 rw [hp _ (0*1) (.float .f64 a) w rfl]
 simp only [Result.andThen_ok]
 rw [hp _ (0*1) (.float .f64 x) w rfl]
 simp only [Result.andThen_ok,eq_float]
 cases fo a x == some .eq
 ·rfl
 ·simp only [Bool.not_true,Bool.false_eq_true,if_false,Bool.true_and]
  simp only [Sem.run_bind]
  rw [hp _ (1*1) (.float .f64 b) w rfl]
  simp only [Result.andThen_ok]
  rw [hp _ (1*1) (.float .f64 y) w rfl]
  simp only [Result.andThen_ok,eq_float]
  cases fo b y == some .eq
  ·rfl
  ·simp only [Bool.not_true,Bool.false_eq_true,if_false,Bool.true_and]
   simp only [Sem.run_bind]
   rw [hp _ (2*1) (.float .f64 c) w rfl]
   simp only [Result.andThen_ok]
   rw [hp _ (2*1) (.float .f64 z) w rfl]
   simp only [Result.andThen_ok,eq_float]
   cases fo c z == some .eq <;> rfl
theorem field_step (d:Nat) (xs ys:Array Value) (f:Field) (fs:List Field) (a b:Value) (r q:Bool) (w:World) (hn:f.name ≠ "_") (ha:(part f.type xs f.offset).run Tryz.prog w = .ok a w) (hb:(part f.type ys f.offset).run Tryz.prog w = .ok b w)
  (hr:(Op.equalIn d f.type a b).run Tryz.prog w = .ok r w) (hq:(Op.eqFields d xs ys fs).run Tryz.prog w = .ok q w):(Op.eqFields d xs ys (f :: fs)).run Tryz.prog w = .ok (r && q) w:=by
 simp only [Op.eqFields,Sem.run_bind,Sem.run_ite,if_pos hn,ha,hb,hr,Result.andThen_ok]
 cases r
 ·simp
 ·simp [hq]
theorem part_cell (t:TypeId) (ht:∀ w,(isAgg t).run Tryz.prog w = .ok false w) (cs:Array Value) (k:Nat) (v:Value) (w:World) (h:cs[k]? = some v):(part t cs k).run Tryz.prog w = .ok v w:=by
 simp [part,Sem.run_bind,ht,h]
theorem part_arr (cs:Array Value) (k:Nat) (v:Array Value) (w:World) (h:cs.extract k (k+3)=v):(part 65 cs k).run Tryz.prog w = .ok (.agg v) w:=by
 simp [part,Sem.run_bind,h]
theorem eq_int (d:Nat) (x y:Int) (w:World):(Op.equalIn (d+1) 3 (.int .i64 x) (.int .i64 y)).run Tryz.prog w = .ok (x == y) w:=run_equalIn_int w d _ _ _ _ _ Tryz.underlying3
theorem eq_u8 (d:Nat) (x y:Int) (w:World):(Op.equalIn (d+1) 5 (.int .u8 x) (.int .u8 y)).run Tryz.prog w = .ok (x == y) w:=run_equalIn_int w d _ _ _ _ _ Tryz.underlying5
def eqN (n m:Nd):Bool :=
  ((n.kind:Int) == (m.kind:Int)) && (eq3 (n.f 1) (n.f 2) (n.f 3) (m.f 1) (m.f 2) (m.f 3) && (eq3 (n.f 4) (n.f 5) (n.f 6) (m.f 4) (m.f 5) (m.f 6) && (eq3 (n.f 7) (n.f 8) (n.f 9) (m.f 7) (m.f 8) (m.f 9) && (eq3 (n.f 10) (n.f 11) (n.f 12) (m.f 10) (m.f 11) (m.f 12) &&
    ((fo (n.f 13) (m.f 13) == some .eq) && ((fo (n.f 14) (m.f 14) == some .eq) && ((fo (n.f 15) (m.f 15) == some .eq) && ((fo (n.f 16) (m.f 16) == some .eq) && ((n.a == m.a) && ((n.b == m.b) && true))))))))))
theorem eq_node (n m:Nd) (w:World):(Op.equalIn 10000 67 n.val m.val).run Tryz.prog w = .ok (eqN n m) w:=by
 show (Op.equalIn (9999+1) _ (.agg n.cells.toArray) (.agg m.cells.toArray)).run _ _=_
 rw [run_equalIn_struct w 9999 _ _ _ (by unfold Program.fieldsOf; rw [Tryz.underlying67]) hsNode]
 unfold Program.fieldsOf
 rw [Tryz.underlying67]
 unfold eqN
 refine field_step 9999 _ _ _ _ (.int .u8 n.kind) (.int .u8 m.kind) _ _ w (by decide) (part_cell _ agg_u8 _ _ _ w rfl) (part_cell _ agg_u8 _ _ _ w rfl) (eq_u8 9998 _ _ w) ?_
 refine field_step 9999 _ _ _ _ (.agg #[.float .f64 (n.f 1),.float .f64 (n.f 2),.float .f64 (n.f 3)]) (.agg #[.float .f64 (m.f 1),.float .f64 (m.f 2),.float .f64 (m.f 3)]) _ _ w (by decide) (part_arr _ _ _ w rfl) (part_arr _ _ _ w rfl) (eq_arr 9997 _ _ _ _ _ _ w) ?_
 refine field_step 9999 _ _ _ _ (.agg #[.float .f64 (n.f 4),.float .f64 (n.f 5),.float .f64 (n.f 6)]) (.agg #[.float .f64 (m.f 4),.float .f64 (m.f 5),.float .f64 (m.f 6)]) _ _ w (by decide) (part_arr _ _ _ w rfl) (part_arr _ _ _ w rfl) (eq_arr 9997 _ _ _ _ _ _ w) ?_
 refine field_step 9999 _ _ _ _ (.agg #[.float .f64 (n.f 7),.float .f64 (n.f 8),.float .f64 (n.f 9)]) (.agg #[.float .f64 (m.f 7),.float .f64 (m.f 8),.float .f64 (m.f 9)]) _ _ w (by decide) (part_arr _ _ _ w rfl) (part_arr _ _ _ w rfl) (eq_arr 9997 _ _ _ _ _ _ w) ?_
 refine field_step 9999 _ _ _ _ (.agg #[.float .f64 (n.f 10),.float .f64 (n.f 11),.float .f64 (n.f 12)]) (.agg #[.float .f64 (m.f 10),.float .f64 (m.f 11),.float .f64 (m.f 12)]) _ _ w (by decide) (part_arr _ _ _ w rfl) (part_arr _ _ _ w rfl) (eq_arr 9997 _ _ _ _ _ _ w) ?_
 refine field_step 9999 _ _ _ _ (.float .f64 (n.f 13)) (.float .f64 (m.f 13)) _ _ w (by decide) (part_cell _ agg_f64 _ _ _ w rfl) (part_cell _ agg_f64 _ _ _ w rfl) (eq_float 9998 _ _ w) ?_
 refine field_step 9999 _ _ _ _ (.float .f64 (n.f 14)) (.float .f64 (m.f 14)) _ _ w (by decide) (part_cell _ agg_f64 _ _ _ w rfl) (part_cell _ agg_f64 _ _ _ w rfl) (eq_float 9998 _ _ w) ?_
 refine field_step 9999 _ _ _ _ (.float .f64 (n.f 15)) (.float .f64 (m.f 15)) _ _ w (by decide) (part_cell _ agg_f64 _ _ _ w rfl) (part_cell _ agg_f64 _ _ _ w rfl) (eq_float 9998 _ _ w) ?_
 refine field_step 9999 _ _ _ _ (.float .f64 (n.f 16)) (.float .f64 (m.f 16)) _ _ w (by decide) (part_cell _ agg_f64 _ _ _ w rfl) (part_cell _ agg_f64 _ _ _ w rfl) (eq_float 9998 _ _ w) ?_
 refine field_step 9999 _ _ _ _ (.int .i64 n.a) (.int .i64 m.a) _ _ w (by decide) (part_cell _ agg_int _ _ _ w rfl) (part_cell _ agg_int _ _ _ w rfl) (eq_int 9998 _ _ w) ?_
 refine field_step 9999 _ _ _ _ (.int .i64 n.b) (.int .i64 m.b) _ _ w (by decide) (part_cell _ agg_int _ _ _ w rfl) (part_cell _ agg_int _ _ _ w rfl) (eq_int 9998 _ _ w) ?_
 rfl
def Nd.rt (n:Nd):Prop:=n.x.length=16 ∧ ∀ v∈n.x,v<18446744073709551616∧rightF v=true
theorem rt_f {n:Nd} (h:Nd.rt n) (j:Nat) (h1:1 <= j) (h2:j <= 16):n.f j<18446744073709551616∧rightF (n.f j)=true:=by
 unfold Nd.f
 rw [List.getD_eq_getElem?_getD,List.getElem?_eq_getElem (by rw [h.1]; omega)]
 exact h.2 _ (List.getElem_mem _)
theorem nd_ext {n m:Nd} (hn:n.x.length=16) (hm:m.x.length=16) (hk:n.kind=m.kind) (ha:n.a=m.a) (hb:n.b=m.b) (hf:∀ j,1 <= j -> j <= 16 -> n.f j=m.f j):n=m:=by
 obtain ⟨k,x,a,b⟩:=n
 obtain ⟨k',x',a',b'⟩:=m
 simp only at hn hm hk ha hb
 subst hk ha hb
 congr 1
 apply List.ext_getElem (hn.trans hm.symm)
 intro i h1 h2
 have:=hf (i+1) (by omega) (by omega)
 unfold Nd.f at this
 simpa [List.getD_eq_getElem?_getD,h1,h2] using this
theorem eqN_law {n m:Nd} (hn:Nd.rt n) (hm:Nd.rt m):eqN n m=decide (n=m):=by
 have hfo:∀ j,1 <= j -> j <= 16 -> (fo (n.f j) (m.f j) == some .eq)=decide (n.f j=m.f j):=fun j h1 h2 =>
  fo_right (rt_f hn j h1 h2).1 (rt_f hm j h1 h2).1 (rt_f hn j h1 h2).2 (rt_f hm j h1 h2).2
 rw [Bool.eq_iff_iff,decide_eq_true_eq]
 unfold eqN eq3
 rw [hfo 1 (by omega) (by omega),hfo 2 (by omega) (by omega),hfo 3 (by omega) (by omega),hfo 4 (by omega) (by omega),hfo 5 (by omega) (by omega),hfo 6 (by omega) (by omega),hfo 7 (by omega) (by omega),hfo 8 (by omega) (by omega),hfo 9 (by omega) (by omega),hfo 10 (by omega) (by omega),hfo 11 (by omega) (by omega),hfo 12 (by omega) (by omega),hfo 13 (by omega) (by omega),hfo 14 (by omega) (by omega),hfo 15 (by omega) (by omega),hfo 16 (by omega) (by omega)]
 constructor
 ·intro h
  simp only [Bool.and_eq_true,decide_eq_true_eq,beq_iff_eq,and_true] at h
  obtain ⟨hk,⟨f1,f2,f3⟩,⟨f4,f5,f6⟩,⟨f7,f8,f9⟩,⟨f10,f11,f12⟩,f13,f14,f15,f16,ha,hb⟩:=h
  refine nd_ext hn.1 hm.1 (by omega) ha hb fun j h1 h2 => ?_
  have:j=1∨j=2∨j=3∨j=4∨j=5∨j=6∨j=7∨j=8∨j=9∨j=10∨j=11∨j=12∨j=13∨j=14∨j=15∨j=16:=by omega
  rcases this with rfl | rfl | rfl | rfl | rfl | rfl | rfl | rfl | rfl | rfl | rfl | rfl | rfl | rfl | rfl | rfl <;> assumption
 ·rintro rfl
  simp
end Go.Proofs.YtejmbbkklhpnaaaGreatDoor.flatm

/- A program in which each node stands twice, in plain words: it is a program, and it has the same flat one, of the same depth. Conditions: at most 40 nodes, and they are a program. -/
namespace Go.Proofs.YtejmbbkklhpnaaaGreatDoor.flatm
open nodew
end Go.Proofs.YtejmbbkklhpnaaaGreatDoor.flatm

/- The numbers of a right node are right ones; what is read of them stays so in the flat program. No conditions but those stated. -/
namespace Go.Proofs.YtejmbbkklhpnaaaGreatDoor.flatm
open nodew
theorem f_zero (n:Nd) (hl:n.x.length=16) (o j:Nat) (h1:1 <= o) (h2:o <= 16) (j1:1 <= j):(n.zero o).f j=if j=o then 0 else n.f j:=by
 unfold Nd.zero Nd.f
 simp only [List.getD_eq_getElem?_getD]
 by_cases h:j=o
 ·subst h
  rw [List.getElem?_set_self (by omega),if_pos rfl]
  rfl
 ·rw [List.getElem?_set_ne (by omega),if_neg h]
theorem f_zeros:∀ (l:List Nat) (n:Nd),n.x.length=16 -> (∀ o∈l,1 <= o∧o <= 16) -> ∀ j,1 <= j -> (n.zeros l).f j=if j∈l then 0 else n.f j
 | [],n,_,_,j,_=>by simp [Nd.zeros]
 | o :: r,n,hl,ho,j,hj=>by
  show ((n.zero o).zeros r).f j=_
  rw [f_zeros r (n.zero o) ((n.zero_len o).trans hl) (fun p hp=>ho p (by simp [hp])) j hj,f_zero n hl o j (ho o (by simp)).1 (ho o (by simp)).2 hj]
  by_cases h:j=o
  ·subst h
   by_cases hr:j∈r <;> simp [hr]
  ·by_cases hr:j∈r <;> simp [h,hr]
theorem offs_range (k:Nat):∀ o∈offs k,1 <= o∧o <= 16:=fun o ho=>by
 unfold offs at ho
 obtain ⟨d,hd,rfl⟩:=List.mem_map.1 ho
 exact fieldList_range k d hd
theorem node_rt {n:Nd} (hn:n.ok) {x:Int} (h:nodeOk n x=true):Nd.rt n:=by
 obtain ⟨h1,_,_,_,h5⟩:=nodeOk_parts h
 refine ⟨hn.1,fun v hv=>⟨hn.2 v hv,?_⟩⟩
 obtain ⟨i,hi,rfl⟩:=List.getElem_of_mem hv
 have hf:n.f (i+1)=n.x[i]:=by
  unfold Nd.f
  simp [List.getD_eq_getElem?_getD,hi]
 rw [<- hf]
 have hi16:i<16:=by rw [<- hn.1]; exact hi
 by_cases hm:i+1∈offs n.kind
 ·unfold offs at hm
  obtain ⟨d,hd,he⟩:=List.mem_map.1 hm
  unfold ndOk at h1
  rw [List.all_eq_true] at h1
  have:=h1 d hd
  rw [he] at this
  unfold withinF at this
  simp only [Bool.and_eq_true] at this
  exact this.1.1
 ·have hb:=(bare_iff _).1 h5 i hi16
  rw [f_zeros (offs n.kind) n hn.1 (offs_range _) (i+1) (by omega),if_neg hm] at hb
  rw [hb]
  have h0:rightF 0=true:=by kernel_rfl
  exact h0
theorem remap_rt {n:Nd} (ta:Nat -> Nat) (h:Nd.rt n):Nd.rt (remap ta n):=by
 unfold remap
 split
 ·exact h
 ·split
  ·exact h
  ·exact h
theorem nth_mem {l:List Nd} {x:Nat} (h:x<l.length):nth l x∈l:=by
 rw [nth_eq l x l[x] (List.getElem?_eq_getElem h)]
 exact List.getElem_mem h
theorem nth_rt {l:List Nd} (hr:rightP l=true) (hok:∀ n∈l,n.ok) {x:Nat} (h:x<l.length):Nd.rt (nth l x):=node_rt (hok _ (nth_mem h)) ((right_nodes hr).1 x h)
end Go.Proofs.YtejmbbkklhpnaaaGreatDoor.flatm

/- A map whose keys are nodes: what a look-up and a store do. Condition: the keys' numbers are right ones. -/
namespace Go.Proofs.YtejmbbkklhpnaaaGreatDoor.flatm
open Go.RowKit
open nodew
theorem ck_node (em:Bool) (n:Nd) (w:World):(Instr.checkKey em 10000 67 n.val).run Tryz.prog w = .ok () w:=by
 unfold Nd.val Nd.cells
 kernel_rfl
def lookN (ents:List (Nd × Nat)) (k:Nd):Option Nat:=(ents.find? fun p=>eqN k p.1).map (·.2)
def kvN (p:Nd × Nat):Value × Value:=(p.1.val,.int .i64 p.2)
theorem ask_run (k:Nd) (w:World):∀ (es:List MapEntry) (ents:List (Nd × Nat)) (i:Nat),es.map (fun e=>(e.key,e.val))=ents.map kvN ->
  ∃ r,(Instr.findAsking 67 k.val es i).run Tryz.prog w = .ok r w∧r.map (·.2)=(lookN ents k).map (fun p=>Value.int .i64 p)
 | [],[],i,_=>⟨none,rfl,rfl⟩
 | [],a :: r,i,h=>by simp at h
 | e :: es,[],i,h=>by simp at h
 | e :: es,a :: r,i,h=>by
  simp only [List.map_cons,List.cons.injEq,kvN,Prod.mk.injEq] at h
  obtain ⟨⟨h1,h2⟩,h3⟩:=h
  have he:(Op.equal 67 k.val e.key).run Tryz.prog w = .ok (eqN k a.1) w:=by rw [h1]; exact eq_node k a.1 w
  unfold Instr.findAsking
  rw [Sem.run_bind,he]
  cases hq:eqN k a.1 with
  | true =>
   refine ⟨some (i,e.val),by simp,?_⟩
   unfold lookN
   rw [List.find?_cons_of_pos (by simpa using hq)]
   simp [h2]
  | false =>
   obtain ⟨r',hr,hv⟩:=ask_run k w es r (i+1) h3
   refine ⟨r',by simpa using hr,?_⟩
   unfold lookN at hv ⊢
   rw [List.find?_cons_of_neg (by simpa using hq)]
   exact hv
theorem findKeyN (k:Nd) (es:List MapEntry) (ents:List (Nd × Nat)) (h:es.map (fun e=>(e.key,e.val))=ents.map kvN) (w:World) :
  ∃ r,(Instr.findKey 67 k.val es).run Tryz.prog w = .ok r w∧r.map (·.2)=(lookN ents k).map (fun p=>Value.int .i64 p):=by
 unfold Instr.findKey
 rw [Sem.run_bind,run_underlying Tryz.underlying67]
 simp only [Result.andThen_ok]
 cases es with
 | nil =>
  refine ⟨none,rfl,?_⟩
  have:ents=[]:=by simpa using h.symm
  subst this
  rfl
 | cons e es =>
  obtain ⟨r,hr,hv⟩:=ask_run k w (e :: es) ents 0 h
  refine ⟨r,?_,hv⟩
  have hk:∃ vs,e.key = .agg vs:=by
   cases ents with
   | nil=>simp at h
   | cons a q =>
    simp only [List.map_cons,List.cons.injEq,kvN,Prod.mk.injEq] at h
    exact ⟨_,h.1.1⟩
  obtain ⟨vs,hk⟩:=hk
  have hn:∀ fs,Instr.findNow (.struct fs) k.val (e :: es) 0=none:=fun fs=>by
   unfold Instr.findNow
   rw [hk]
   rfl
  rw [hn]
  exact hr
def entsN:Nat -> List Nd -> List (Nd × Nat)
 | _,[]=>[]
 | i,n :: r=>(n,i) :: entsN (i+1) r
theorem entsN_app:∀ (l:List Nd) (i:Nat) (n:Nd),entsN i (l ++ [n])=entsN i l ++ [(n,i+l.length)]
 | [],i,n=>rfl
 | m :: r,i,n=>by
  show (m,i) :: entsN (i+1) (r ++ [n])=(m,i) :: (entsN (i+1) r ++ _)
  rw [entsN_app r (i+1) n,List.length_cons,show i+1+r.length=i+(r.length+1) by omega]
theorem look_ents (k:Nd) (hk:Nd.rt k):∀ (l:List Nd) (i:Nat),(∀ n∈l,Nd.rt n) -> lookN (entsN i l) k=if k∈l then some (i+l.idxOf k) else none
 | [],i,_=>by simp [lookN,entsN]
 | m :: r,i,h=>by
  have ih:=look_ents k hk r (i+1) (fun n hn=>h n (.tail _ hn))
  have he:=eqN_law hk (h m (.head _))
  unfold lookN at ih ⊢
  show Option.map _ (List.find? _ ((m,i) :: entsN (i+1) r))=_
  by_cases e:k=m
  ·subst e
   rw [List.find?_cons_of_pos (by show eqN k k=true; rw [he]; simp)]
   simp
  ·rw [List.find?_cons_of_neg (by show ¬ eqN k m=true; rw [he]; simp [e]),ih]
   by_cases hm:k∈r
   ·have hi:(m :: r).idxOf k=r.idxOf k+1:=by
     rw [List.idxOf_cons]
     have:(m == k)=false:=by rw [beq_eq_false_iff_ne]; exact fun e'=>e e'.symm
     rw [this]
     rfl
    rw [if_pos hm,if_pos (List.mem_cons_of_mem _ hm),hi]
    congr 1
    omega
   ·rw [if_neg hm,if_neg (by simp [e,hm])]
theorem look_idx (k:Nd) (hk:Nd.rt k) (l:List Nd) (h:∀ n∈l,Nd.rt n):lookN (entsN 0 l) k=idxN l k:=by
 rw [look_ents k hk l 0 h]
 unfold idxN
 simp
def NM (W:World) (mb:Nat) (ents:List (Nd × Nat)):Prop :=
 ∃ (es:Array MapEntry) (clock:Nat),W.heap[mb]? = some (.map es clock)∧es.toList.map (fun e=>(e.key,e.val))=ents.map kvN
theorem NM.lt {W:World} {mb:Nat} {ents:List (Nd × Nat)} (h:NM W mb ents):mb<W.heap.size:=by
 obtain ⟨es,c,hb,_⟩:=h
 exact (Array.getElem?_eq_some_iff.1 hb).1
theorem NM.keep {W W':World} {mb:Nat} {ents:List (Nd × Nat)} (h:NM W mb ents) (hk:W'.heap[mb]? = W.heap[mb]?):NM W' mb ents:=by
 obtain ⟨es,c,hb,he⟩:=h
 exact ⟨es,c,hk.trans hb,he⟩
theorem NM.lookup {W:World} {mb:Nat} {ents:List (Nd × Nat)} (h:NM W mb ents) (k:Nd) :
  (Instr.lookup 127 (.map (some mb)) k.val true).run Tryz.prog W = .ok (.tuple #[.int .i64 ((lookN ents k).getD 0:Nat),.bool (lookN ents k).isSome]) W:=by
 obtain ⟨es,c,hb,he⟩:=h
 obtain ⟨r,hr,hv⟩:=findKeyN k es.toList ents he W
 cases hl:lookN ents k with
 | none =>
  rw [hl] at hv
  cases r with
  | none=>simp [Instr.lookup,run_underlying Tryz.underlying127,run_getObj_map _ _ _ _ hb,ck_node,hr]
  | some x=>simp at hv
 | some p =>
  rw [hl] at hv
  cases r with
  | none=>simp at hv
  | some x =>
   obtain ⟨i,v⟩:=x
   simp at hv
   subst hv
   simp [Instr.lookup,run_underlying Tryz.underlying127,run_getObj_map _ _ _ _ hb,ck_node,hr]
theorem NM.store {W:World} {mb:Nat} {ents:List (Nd × Nat)} (h:NM W mb ents) (k:Nd) (p:Nat) (hk:lookN ents k=none) :
  ∃ W',(Instr.mapUpdate 127 (.map (some mb)) k.val (.int .i64 p)).run Tryz.prog W = .ok () W'∧NM W' mb (ents ++ [(k,p)])∧W'.heap.size=W.heap.size∧(∀ b,b≠mb -> W'.heap[b]? = W.heap[b]?)∧W'.os=W.os∧W'.tape=W.tape∧W'.output=W.output:=by
 obtain ⟨es,c,hb,he⟩:=h
 obtain ⟨r,hr,hv⟩:=findKeyN k es.toList ents he W
 rw [hk] at hv
 cases r with
 | some x=>simp at hv
 | none =>
  refine ⟨{ W with heap:=W.heap.setIfInBounds mb (.map (es.push { key:=k.val,val:=.int .i64 p,born:=c }) (c+1)) },?_,?_,by simp,?_,rfl,rfl,rfl⟩
  ·simp [Instr.mapUpdate,run_underlying Tryz.underlying127,run_getObj_map _ _ _ _ hb,ck_node,hr,MapKept.run_setObj_map _ hb]
  ·have hlt:=(Array.getElem?_eq_some_iff.1 hb).1
   refine ⟨es.push { key:=k.val,val:=.int .i64 p,born:=c },c+1,by simp [hlt],?_⟩
   rw [Array.toList_push,List.map_append,he,List.map_append]
   rfl
  ·intro b hbn
   show (W.heap.setIfInBounds mb _)[b]? = _
   rw [Array.getElem?_setIfInBounds_ne (fun e=>hbn e.symm)]
end Go.Proofs.YtejmbbkklhpnaaaGreatDoor.flatm

/- Flat's state beside the iterator: what it holds, and that others' turns do not reach it. No conditions but those stated. -/
namespace Go.Proofs.YtejmbbkklhpnaaaGreatDoor.flatw
open Go.RowKit Go.Shelf
open nodew
open chkw
open flatm
def toA (n:Nat) (tm:Nat -> Nat):Array Value:=((List.range n).map fun i=>Value.int .i64 (tm i:Nat)).toArray
theorem toA_at (n:Nat) (tm:Nat -> Nat) (i:Nat) (h:i<n):(toA n tm)[i]? = some (.int .i64 (tm i:Nat)):=by simp [toA,h]
theorem toA_set (n:Nat) (tm:Nat -> Nat) (i k:Nat) (h:i<n):(toA n tm).setIfInBounds i (.int .i64 k)=toA n (upd tm i k):=by
 have hs:∀ m,(toA n m).size=n:=fun m=>by simp [toA]
 apply Array.ext_getElem?
 intro j
 rw [Array.getElem?_setIfInBounds]
 by_cases e:i=j
 ·subst e
  rw [if_pos rfl,if_pos (by rw [hs]; exact h),toA_at _ _ _ h,upd_same]
 ·rw [if_neg e]
  by_cases hj:j<n
  ·rw [toA_at _ _ _ hj,toA_at _ _ _ hj,upd_ne _ _ _ _ (fun e'=>e e'.symm)]
  ·rw [Array.getElem?_eq_none (by rw [hs]; omega),Array.getElem?_eq_none (by rw [hs]; omega)]
def footF (b1 mb b4 tb b5 bo:Nat) (W:World) (k:Nat):Prop:=footR bo W k∨k=b1∨k=mb∨k=b4∨k=tb∨k=b5
structure FSt (n0 b1 mb b4 tb b5 bo n:Nat) (v:Value) (w:World) (s:FS) (W:World):Prop where
 row:HR n0 bo 43 67 19 s.out.length (ncells s.out) W
 h1:Boxed W b1 43 v
 hm:NM W mb (entsN 0 s.out)
 h4:Boxed W b4 127 (.map (some mb))
 ht:W.heap[tb]? = some (.cells (toA n s.tm) 3 (0,0))
 h5:Boxed W b5 86 (.slice (some ⟨tb,0,none⟩) n n)
 below:Below n0 w W
theorem footFS (n0 b1 mb b4 tb b5 bo n:Nat) (v:Value) (w:World) (l:List Nd) (s0:FS) (hn:n0 <= w.heap.size) (k1:n0 <= b1) (km:n0 <= mb) (k4:n0 <= b4) (kt:n0 <= tb) (k5:n0 <= b5) (ko:n0 <= bo) :
  Foot (footF b1 mb b4 tb b5 bo) n0 (fun pre W=>FSt n0 b1 mb b4 tb b5 bo n v w (pre.foldl (stepF (nth l)) s0) W):=by
 refine ⟨fun pre X k h hk => ?_,fun pre X Y row h hg hr => ?_⟩
 ·rcases hk with hk | rfl | rfl | rfl | rfl | rfl
  ·exact h.row.foot_lt ko hk
  ·exact ⟨k1,h.h1.lt⟩
  ·exact ⟨km,h.hm.lt⟩
  ·exact ⟨k4,h.h4.lt⟩
  ·exact ⟨kt,(Array.getElem?_eq_some_iff.1 h.ht).1⟩
  ·exact ⟨k5,h.h5.lt⟩
 ·have hne:∀ b,footF b1 mb b4 tb b5 bo X b -> some b≠row:=fun b hb e=>(hr b e.symm).2.2 hb
  obtain ⟨r1,r2⟩:=h.row.own hg (fun r e hf=>(hr r e).2.2 (.inl hf))
  have e1:=hne b1 (.inr (.inl rfl))
  have em:=hne mb (.inr (.inr (.inl rfl)))
  have e4:=hne b4 (.inr (.inr (.inr (.inl rfl))))
  have et:=hne tb (.inr (.inr (.inr (.inr (.inl rfl)))))
  have e5:=hne b5 (.inr (.inr (.inr (.inr (.inr rfl)))))
  refine ⟨⟨r1,h.h1.kept hg e1,h.hm.keep (hg.block mb h.hm.lt em),h.h4.kept hg e4,(hg.block tb (Array.getElem?_eq_some_iff.1 h.ht).1 et).trans h.ht,h.h5.kept hg e5,h.below.grown hg (Nat.le_trans hn h.below.size) (fun r e=>(hr r e).1)⟩,?_⟩
  rintro k (hk | hk)
  ·exact .inl (r2 k hk)
  ·exact .inr hk
theorem rec_ne {W:World} {b k:Nat} {o p:Obj} (hb:W.heap[b]? = some p) (hp:isRec p=false) (hk:W.heap[k]? = some o) (ho:isRec o=true):b≠k:=by
 rintro rfl
 rw [hb] at hk
 injection hk with hk
 subst hk
 rw [hp] at ho
 cases ho
theorem FSt.put {n0 b1 mb b4 tb b5 bo n:Nat} {v:Value} {w:World} {s:FS} {W:World} (h:FSt n0 b1 mb b4 tb b5 bo n v w s W) (hn:n0 <= w.heap.size) {k:Nat} {o o':Obj} (hk0:n0 <= k) (hk:W.heap[k]? = some o) (ho:isRec o=true) :
  FSt n0 b1 mb b4 tb b5 bo n v w s (W.putObj k o'):=by
 have hs:∀ b p,W.heap[b]? = some p -> isRec p=false -> (W.putObj k o').heap[b]? = W.heap[b]?:=fun b p hb hp=>World.putObj_heap_other (rec_ne hb hp hk ho)
 obtain ⟨es,c,hm,_⟩:=h.hm
 exact ⟨h.row.put hk ho,(hs _ _ h.h1 rfl).trans h.h1,h.hm.keep (hs _ _ hm rfl),(hs _ _ h.h4 rfl).trans h.h4,(hs _ _ h.ht rfl).trans h.ht,(hs _ _ h.h5 rfl).trans h.h5,
  h.below.grown (grownBy_putObj' W k o') (Nat.le_trans hn h.below.size) (fun r e=>by injection e with e; omega)⟩
theorem footF_put {b1 mb b4 tb b5 bo:Nat} {W:World} {k:Nat} {o o':Obj} (ho:W.heap[k]? = some o) (hr:isRec o=true) (hr':isRec o'=true) (i:Nat) (h:footF b1 mb b4 tb b5 bo (W.putObj k o') i):footF b1 mb b4 tb b5 bo W i:=by
 rcases h with h | h
 ·exact .inl (footR_put ho hr hr' i h)
 ·exact .inr h
theorem fold_len (p:Nat -> Nd) (pre:List Nat):∀ s:FS,(pre.foldl (stepF p) s).out.length <= s.out.length+pre.length:=by
 induction pre with
 | nil=>intro s; simp
 | cons x r ih =>
  intro s
  rw [List.foldl_cons]
  refine Nat.le_trans (ih _) ?_
  have:(stepF p s x).out.length <= s.out.length+1:=by
   unfold stepF
   split
   ·exact Nat.le_succ _
   ·simp
  rw [List.length_cons]
  omega
theorem fold_rt (p:Nat -> Nd) (pre:List Nat):∀ s:FS,(∀ x∈pre,Nd.rt (p x)) -> (∀ m∈s.out,Nd.rt m) -> ∀ m∈(pre.foldl (stepF p) s).out,Nd.rt m:=by
 induction pre with
 | nil=>intro s _ h; exact h
 | cons x r ih =>
  intro s hp h
  rw [List.foldl_cons]
  refine ih _ (fun y hy=>hp y (.tail _ hy)) ?_
  unfold stepF
  split
  ·exact h
  ·intro m hm
   rcases List.mem_append.1 hm with hm | hm
   ·exact h m hm
   ·have:m=remap s.tm (p x):=by simpa using hm
    rw [this]
    exact remap_rt _ (hp x (.head _))
theorem keepF {n0 b1 mb b4 tb b5 bo n:Nat} {v:Value} {w:World} {s:FS} {W W':World} (h:FSt n0 b1 mb b4 tb b5 bo n v w s W) (k1:n0 <= b1) (km:n0 <= mb) (k4:n0 <= b4) (kt:n0 <= tb) (k5:n0 <= b5) (ko:n0 <= bo)
  (hz:W.heap.size <= W'.heap.size) (hb:∀ k,k<W.heap.size -> ¬ footF b1 mb b4 tb b5 bo W k -> W'.heap[k]? = W.heap[k]?) (hf:∀ k,footR bo W' k -> footR bo W k∨W.heap.size <= k) :
  KeepP (footF b1 mb b4 tb b5 bo) n0 none W W'∧KeepsRec W W':=by
 have hlow:∀ k,footF b1 mb b4 tb b5 bo W k -> n0 <= k:=by
  rintro k (hk | rfl | rfl | rfl | rfl | rfl)
  ·exact (h.row.foot_lt ko hk).1
  all_goals assumption
 refine ⟨⟨hz,fun k hk hs=>hb k hs (fun hf=>by have:=hlow k hf; omega),fun k hk=>⟨⟨?_,?_⟩,fun _=>hb k hk.lt hk.2⟩⟩,?_⟩
 ·rw [hb k hk.lt hk.2]; exact hk.1
 ·rintro (hk2 | hk2)
  ·rcases hf k hk2 with h3 | h3
   ·exact hk.2 (.inl h3)
   ·have:=hk.lt; omega
  ·exact hk.2 (.inr hk2)
 ·intro i o hi hro
  obtain ⟨es,c,hm,_⟩:=h.hm
  have hno:∀ b p,W.heap[b]? = some p -> isRec p=false -> i≠b:=fun b p hb hp e=>rec_ne hb hp hi hro e.symm
  rw [hb i (Array.getElem?_eq_some_iff.1 hi).1]
  ·exact hi
  ·rintro ((e | ⟨u,hu,hf⟩) | e | e | e | e | e)
   ·obtain ⟨u,hu,_⟩:=h.row
    exact hno _ _ hu rfl e
   ·obtain ⟨u',hu',ho⟩:=h.row
    rw [hu'.cell] at hu
    obtain rfl:=Option.some.inj hu
    rcases ho.2 with ⟨rfl,_⟩ | ⟨g,cap,cur,rfl,_,hh,_⟩
    ·cases hf
    ·have:g=i:=by simpa [Value.ownBlock] using hf
     exact hno _ _ hh rfl this.symm
   ·exact hno _ _ h.h1 rfl e
   ·exact hno _ _ hm rfl e
   ·exact hno _ _ h.h4 rfl e
   ·exact hno _ _ h.ht rfl e
   ·exact hno _ _ h.h5 rfl e
end Go.Proofs.YtejmbbkklhpnaaaGreatDoor.flatw

/- Depth: how deep a right program is. No conditions but those stated. -/
namespace Go.Proofs.YtejmbbkklhpnaaaGreatDoor.flatw
open Go.RowKit Go.Shelf
open nodew
open chkw
open flatm
theorem toA_cell' {W:World} {tb n x:Nat} {tm:Nat -> Nat} (h:W.heap[tb]? = some (.cells (toA n tm) 3 (0,0))) (hx:x<n):W.cell? ⟨tb,x,none⟩=some (.int .i64 (tm x:Nat)):=by rw [cell_of_row _ _ _ _ _ _ h]; exact toA_at _ _ _ hx
theorem toA_frozen' {W:World} {tb n:Nat} {tm:Nat -> Nat} (h:W.heap[tb]? = some (.cells (toA n tm) 3 (0,0))) (x:Nat):W.frozen? ⟨tb,x,none⟩=false:=by simp [World.frozen?,h]
theorem max_le (g:Nat -> Nat) (f:Nat):∀ (L:List Nat) (a:Nat),a <= f -> (∀ c∈L,g c <= f) -> L.foldl (fun m c=>max m (g c)) a <= f
 | [],a,h,_=>h
 | c :: r,a,h,hc=>by
  rw [List.foldl_cons]
  exact max_le g f r _ (Nat.max_le.2 ⟨h,hc c (.head _)⟩) (fun d hd=>hc d (.tail _ hd))
theorem dep_le (p:Nat -> Nd):∀ (f x:Nat),depF p f x <= f
 | 0,_=>Nat.le_refl _
 | f+1,_=>Nat.succ_le_succ (max_le _ f _ 0 (Nat.zero_le _) (fun c _=>dep_le p f c))
def mx (l:List Nd) (ks:List Nat) (j:Nat):Nat:=(ks.take j).foldl (fun m c=>max m (depP l c)) 0
theorem mx_zero (l:List Nd) (ks:List Nat):mx l ks 0=0:=rfl
theorem mx_succ (l:List Nd) (ks:List Nat) (j c:Nat) (h:ks[j]? = some c):mx l ks (j+1)=max (mx l ks j) (depP l c):=by
 unfold mx
 rw [List.take_add_one,h]
 simp [List.foldl_append]
theorem mx_all (l:List Nd) (ks:List Nat):mx l ks ks.length=ks.foldl (fun m c=>max m (depP l c)) 0:=by
 unfold mx; rw [List.take_length]
def dk (l:List Nd) (k:Nat):Nat -> Nat:=fun i=>if i<k then depP l i else 0
theorem dk_lt (l:List Nd) {k i:Nat} (h:i<k):dk l k i=depP l i:=if_pos h
theorem dk_ge (l:List Nd) {k i:Nat} (h:k <= i):dk l k i=0:=if_neg (by omega)
theorem dk_zero (l:List Nd):dk l 0=fun _=>0:=by funext i; unfold dk; simp
theorem dk_succ {l:List Nd} (hr:rightP l=true) {k:Nat} (hk:k<l.length):upd (upd (dk l k) k (mx l (kids (nth l k)) (kids (nth l k)).length)) k (mx l (kids (nth l k)) (kids (nth l k)).length+1)=dk l (k+1):=by
 funext i
 by_cases e:i=k
 ·subst e
  rw [upd_same,dk_lt l (Nat.lt_succ_self _),depP_eq hr i hk,mx_all]
 ·rw [upd_ne _ _ _ _ e,upd_ne _ _ _ _ e]
  unfold dk
  by_cases h:i<k
  ·rw [if_pos h,if_pos (by omega)]
  ·rw [if_neg h,if_neg (by omega)]
theorem upd_upd (g:Nat -> Nat) (k a b:Nat):upd (upd g k a) k b=upd g k b:=by
 funext i
 by_cases e:i=k
 ·subst e; rw [upd_same,upd_same]
 ·rw [upd_ne _ _ _ _ e,upd_ne _ _ _ _ e,upd_ne _ _ _ _ e]
theorem upd_zero (l:List Nd) (k:Nat):upd (dk l k) k 0=dk l k:=by
 funext i
 by_cases e:i=k
 ·subst e; rw [upd_same,dk_ge l (Nat.le_refl _)]
 ·rw [upd_ne _ _ _ _ e]
def DS (tb n:Nat) (w:World) (tm:Nat -> Nat) (W:World):Prop:=W.heap[tb]? = some (.cells (toA n tm) 3 (0,0))∧Below w.heap.size w W
theorem DS.set {tb n:Nat} {w:World} {l:List Nd} {k m:Nat} {W:World} (h:DS tb n w (upd (dk l k) k m) W) (ht:w.heap.size <= tb) (hk:k<n) (m':Nat):DS tb n w (upd (dk l k) k m') (W.setCell ⟨tb,k,none⟩ (.int .i64 (m':Nat))):=by
 refine ⟨?_,h.2.setCell ht _⟩
 rw [heap_set W tb k _ _ _ _ h.1,toA_set _ _ _ _ hk,upd_upd]
def DepPost (w:World) (d e:Int) (x:Ending) (w':World):Prop:=x = .returned (.tuple #[.int .i64 d,.int .i64 e])∧Below w.heap.size w w'
theorem NRead.at' {w:World} {A:Option Addr} {c:Nat} {l:List Nd} (h:NArg w w.heap.size (.slice A l.length c) l) {k:Nat} (hk:k<l.length) :
  ∃ g off,A=some ⟨g,off,none⟩ ∧ ∀ W:World,Below w.heap.size w W -> (Instr.loadAt 67 (.pointer (some ⟨g,off+k*19,none⟩))).run Tryz.prog W = .ok (nth l k).val W:=by
 obtain ⟨A',c',hv,_,_,hx⟩:=h
 injection hv with e1 _ _
 subst e1
 obtain ⟨g,off,hA,hgB,hgl,hcl⟩:=hx (by intro e; rw [e] at hk; simp at hk)
 refine ⟨g,off,hA,fun W hB => ?_⟩
 have:=(NRead.at (B:=w.heap.size) (g:=g) (off:=off) (W:=w) (l:=l) (k:=k) (fun _=>⟨g,off,rfl,hgB,hgl,hcl⟩) hk).2 W (hB.block g hgl)
 rw [this]
 unfold nth
 simp [hk]
theorem wl_alloc_nd {ops:Array Oper} {rest:List Oper} {o:Oper} {a:Act} {w:World} {Q:Exit -> Act -> World -> Prop} (hgd:o.guard=none) (ho:o.op = .alloc 67)
  (h:wpList Tryz.prog ops Q rest (a.put o.dst (pt w.heap.size 0)) (w.alloc (.cells zcells 67))):wpList Tryz.prog ops Q (o :: rest) a w :=
 wl_val hgd _ (exec_alloc_nd ho a w) h
theorem wl_store_new {ops:Array Oper} {rest:List Oper} {o:Oper} {a:Act} {u:World} {Q:Exit -> Act -> World -> Prop} (hgd:o.guard=none) (x y:Operand) (ho:o.op = .store 67 x y) (nd:Nd) (hx:a.eval x=pt u.heap.size 0) (hy:a.eval y=nd.val)
  (h:wpList Tryz.prog ops Q rest (a.put o.dst undef) (u.alloc (.cells nd.cells.toArray 67))):wpList Tryz.prog ops Q (o :: rest) a (u.alloc (.cells zcells 67)):=by
 have hr:(Instr.storeAt 67 (.pointer (some ⟨u.heap.size,0,none⟩)) (.agg nd.cells.toArray)).run Tryz.prog (u.alloc (.cells zcells 67)) = .ok () (u.alloc (.cells nd.cells.toArray 67)) :=
  run_storeAt_new u 67 zcells nd.cells.toArray (nd_info nd) (by rw [nd_size]; rfl) (nd_one nd)
 have hx':a.eval x = .pointer (some ⟨u.heap.size,0,none⟩):=hx
 have hy':a.eval y = .agg nd.cells.toArray:=hy
 refine wpList_plain hgd fun K hK => ?_
 unfold Oper.wp execOp
 simp only [ho,hx',hy',hr,Sem.run_bind,Sem.run_pure,Result.andThen_ok]
 exact hK _ _ h
set_option maxRecDepth 100000 in
set_option maxHeartbeats 4000000 in
theorem depth_any (l:List Nd) (hok:∀ n∈l,n.ok) (hr:rightP l=true) (v:Value) (w:World) (hn:NArg w w.heap.size v l) :
  Calls Tryz.prog 32 #[v] w (DepPost w (depP l (l.length-1):Nat) 0):=by
 obtain ⟨_,h0,h4⟩:=right_nodes hr
 have hrt:=right_any w.heap.size v l hok (by omega) w hn.read (Nat.le_refl _)
 obtain ⟨A,c,rfl⟩:=hn.form
 rw [hr] at hrt
 have HRT:=Lib.hid hrt
 have HN:=Lib.hid hn
 have HR:=Lib.hid hr
 clear hrt hn hok hr
 go_enter Tryz.func32,Tryz.ntmps32
 go_wp2_with fail
 refine HRT.out.mono ?_
 rintro e W1 ⟨rfl,hB1⟩
 obtain ⟨tb,htb⟩:∃ tb,tb=W1.heap.size:=⟨_,rfl⟩
 obtain ⟨W2,hW2⟩:∃ W2,W2=W1.alloc (.cells (toA l.length fun _=>0) 3):=⟨_,rfl⟩
 have hmk:(Instr.makeSlice 86 (.int .i64 l.length) (.int .i64 l.length)).run Tryz.prog W1 = .ok (.slice (some ⟨tb,0,none⟩) l.length l.length) W2:=by
  rw [htb,hW2]; exact mk_int l.length h4 W1
 have hd2:DS tb l.length w (dk l 0) W2:=by
  rw [dk_zero,hW2,htb]
  exact ⟨heap_alloc_new W1 _,hB1.alloc hB1.size _⟩
 have htw:w.heap.size <= tb:=by rw [htb]; exact hB1.size
 have HD2:=Lib.hid hd2
 clear hW2 htb hd2 hB1
 go_wp2_with fail
 go_loopw [17] (fun i wr=>∃ k:Nat,k <= l.length∧i = .int .i64 k∧DS tb l.length w (dk l k) wr) (fun i _=>l.length-(intOf i).toNat)
 case atStart=>exact ⟨0,Nat.zero_le _,rfl,HD2.out⟩
 case round =>
  obtain ⟨k,hk,rfl,hD⟩:=hrel
  obtain ⟨wo,hwo⟩:∃ wo,wo=wr:=⟨_,rfl⟩
  subst hwo
  by_cases hkl:k<l.length
  ·have hz:=hD.2.size
   obtain ⟨g,off,rfl,hld⟩:=NRead.at' HN.out hkl
   have hld1:=hld wo hD.2
   obtain ⟨nd,hnd⟩:∃ nd,nth l k=nd:=⟨_,rfl⟩
   rw [hnd] at hld1
   obtain ⟨Wa,hWa⟩:∃ Wa,Wa=wo.alloc (.cells nd.cells.toArray 67):=⟨_,rfl⟩
   have hna:NBlk Wa wo.heap.size nd:=by rw [hWa]; exact heap_alloc_new wo _
   have hga:wo.grownBy Wa none:=by rw [hWa]; exact World.grownBy_alloc wo _ none
   have k0:(0:Int) <= (k:Int):=by omega
   have ki:(k:Int)<(l.length:Int):=by omega
   have HLD:=Lib.hid hld1
   have HNA:=Lib.hid hna
   have HGA:=Lib.hid hga
   have HD:=Lib.hid hD
   have HND:=Lib.hid hnd
   clear hld hld1 hna hga hD hnd
   go_wp2_with (first | (rw [<- hWa]) | (refine wl_load_nd rfl (.tmp 20) rfl (.pointer (some ⟨g,off+k*19,none⟩)) rfl nd HLD.out ?_) | (refine wl_alloc_nd rfl rfl ?_) | (refine wl_store_new rfl (.tmp 6) (.tmp 21) rfl nd rfl rfl ?_) | (refine wl_load_nd rfl (.tmp 6) rfl (.pointer (some ⟨wo.heap.size,0,none⟩)) rfl nd HNA.out.loadAt ?_))
   refine (below_any nd Wa).mono ?_
   rintro e Wb ⟨vb,rfl,hIA,hBb,hnew⟩
   have hki:=kidsI_right HR.out k hkl
   have hac:=right_ac HR.out k hkl
   rw [HND.out] at hki hac
   rw [hki] at hIA
   obtain ⟨ks,hks⟩:∃ ks,kids nd=ks:=⟨_,rfl⟩
   rw [hks] at hIA hac
   obtain ⟨A2,rfl,hA2⟩:=hIA.uni
   rw [List.length_map] at hA2 hnew ⊢
   have hk2:ks.length <= 2:=by
    rw [<- hks]; unfold kids
    split
    ·simp
    ·split <;> simp
   have hgb:wo.grownBy Wb none:=grown_trans HGA.out (grown_below hBb none)
   have hDb:DS tb l.length w (upd (dk l k) k (mx l ks 0)) Wb:=by
    rw [mx_zero,upd_zero]
    exact ⟨(hgb.block tb (Array.getElem?_eq_some_iff.1 HD.out.1).1 (by simp)).trans HD.out.1,HD.out.2.grown hgb hz (fun r e=>by cases e)⟩
   have hlast:=dk_succ HR.out hkl
   rw [HND.out,hks] at hlast
   have hnew2:∀ g,A2=some ⟨g,0,none⟩ -> tb<g:=fun g e=>by
    have h1:=hnew g 0 ks.length (by rw [e])
    have h2:=HGA.out.size
    have h3:=(Array.getElem?_eq_some_iff.1 HD.out.1).1
    omega
   have HNW:=Lib.hid hnew2
   have HA2:=Lib.hid hA2
   have HDB:=Lib.hid hDb
   have HAC:=Lib.hid hac
   have HLAST:=Lib.hid hlast
   have htl:tb<Wb.heap.size:=(Array.getElem?_eq_some_iff.1 hDb.1).1
   clear hA2 hnew hnew2 hDb hac hlast hki hIA hgb hBb hks hWa
   go_wp2_with fail
   go_loopw [25] (fun i wq=>∃ j:Nat,j <= ks.length∧i = .int .i64 j∧DS tb l.length w (upd (dk l k) k (mx l ks j)) wq ∧ ∀ b,b≠tb -> b<Wb.heap.size -> wq.heap[b]? = Wb.heap[b]?) (fun i _=>ks.length-(intOf i).toNat)
   case atStart=>exact ⟨0,Nat.zero_le _,rfl,HDB.out,fun _ _ _=>rfl⟩
   case round =>
    obtain ⟨j,hj,rfl,hD,hkeep⟩:=hrel
    by_cases hjl:j<ks.length
    ·obtain ⟨gb,rfl,hgb⟩:=HA2.out j hjl
     have hgt:gb≠tb:=by
      have:=HNW.out gb rfl
      omega
     have cg:wr.cell? ⟨gb,j,none⟩=some (.int .i64 (ks[j]:Nat)):=by
      rw [cell_of_row _ _ _ _ _ _ ((hkeep gb hgt (Array.getElem?_eq_some_iff.1 hgb).1).trans hgb)]
      simp [hjl]
     obtain ⟨cc,hcc⟩:∃ cc,ks[j]=cc:=⟨_,rfl⟩
     rw [hcc] at cg
     have hck:cc<k:=HAC.out cc (by rw [<- hcc]; exact List.getElem_mem hjl)
     have c1:=toA_cell' hD.1 hkl
     have c2:=toA_cell' hD.1 (x:=cc) (by omega)
     rw [upd_same] at c1
     rw [upd_ne _ _ _ _ (by omega),dk_lt l hck] at c2
     have hmx:=mx_succ l ks j cc (by rw [List.getElem?_eq_getElem hjl,hcc])
     obtain ⟨a,ha⟩:∃ a,mx l ks j=a:=⟨_,rfl⟩
     obtain ⟨b,hb⟩:∃ b,depP l cc=b:=⟨_,rfl⟩
     rw [ha] at c1
     rw [hb] at c2
     have HD:=Lib.hid hD
     have HK:=Lib.hid hkeep
     have HMX:=Lib.hid hmx
     have HA:=Lib.hid ha
     have HB:=Lib.hid hb
     clear hD hkeep hgb hcc hmx ha hb
     have j0:(0:Int) <= (j:Int):=by omega
     have ji:(j:Int)<(ks.length:Int):=by omega
     have cc0:(0:Int) <= (cc:Int):=by omega
     have cci:(cc:Int)<(l.length:Int):=by omega
     have fx:=toA_frozen' HD.out.1 k
     go_wp2_with fail
     go_still_tail 12,(by kernel_rfl)
     change wpList _ _ _ _ _ wr.drew
     obtain ⟨X,hX⟩:∃ X,X=wr.drew:=⟨_,rfl⟩
     have hDX:DS tb l.length w (upd (dk l k) k (mx l ks j)) X:=by rw [hX]; exact ⟨HD.out.1,HD.out.2.drew⟩
     have hXk:∀ b,b≠tb -> b<Wb.heap.size -> X.heap[b]? = Wb.heap[b]?:=by rw [hX]; exact HK.out
     rw [<- hX]
     have d1:=toA_cell' hDX.1 hkl
     rw [upd_same,HA.out] at d1
     have gx:=toA_frozen' hDX.1 k
     have HDX:=Lib.hid hDX
     have HXK:=Lib.hid hXk
     clear hX hDX hXk c1 c2 cg fx
     go_wp2_with fail
     go_roundw
     case rel =>
      refine ⟨j+1,by omega,by go_num,?_,fun b hb1 hb2 => ?_⟩
      ·rw [HMX.out,HA.out,HB.out]
       have hmm:(if a<b then Value.int .i64 (b:Int) else .int .i64 (a:Int)) = .int .i64 ((max a b:Nat):Int):=by
        by_cases h:a<b
        ·rw [if_pos h,Nat.max_eq_right (by omega)]
        ·rw [if_neg h,Nat.max_eq_left (by omega)]
       have hmm2:(if a<b then (b:Int) else (a:Int))=((max a b:Nat):Int):=by
        by_cases h:a<b
        ·rw [if_pos h,Nat.max_eq_right (by omega)]
        ·rw [if_neg h,Nat.max_eq_left (by omega)]
       have hmm3:max (a:Int) (b:Int)=((max a b:Nat):Int):=by omega
       first | rw [hmm2] | rw [hmm3]
       exact HDX.out.set htw hkl _
      ·rw [Below.heap_setCell X ⟨tb,k,none⟩ _ b hb1]
       exact HXK.out b hb1 hb2
     case measure=>simp [intOf]; omega
    ·obtain rfl:j=ks.length:=by omega
     obtain ⟨a,ha⟩:∃ a,mx l ks ks.length=a:=⟨_,rfl⟩
     have c1:=toA_cell' hD.1 hkl
     rw [upd_same,ha] at c1
     have fx:=toA_frozen' hD.1 k
     have hDn:=hD.set htw hkl (a+1)
     have hlast:=HLAST.out
     rw [ha,upd_upd] at hlast
     rw [hlast] at hDn
     have hal:a+1 <= k+1:=by
      have h1:=congrFun hlast k
      rw [upd_same,dk_lt l (Nat.lt_succ_self k)] at h1
      rw [h1]
      exact dep_le _ _ _
     have HDN:=Lib.hid hDn
     clear hDn hlast hD hkeep ha
     go_wp2_with fail
     go_roundw
     case rel =>
      refine ⟨k+1,by omega,by go_num,?_⟩
      exact HDN.out
     case measure=>simp [intOf]; omega
  ·obtain rfl:k=l.length:=by omega
   have hld:wo.cell? ⟨tb,l.length-1,none⟩=some (.int .i64 (depP l (l.length-1):Nat)):=by
    rw [cell_of_row _ _ _ _ _ _ hD.1,toA_at _ _ _ (by omega),dk_lt l (by omega)]
   have hx1:((l.length-1:Nat):Int)=(l.length:Int)-1:=by omega
   have hx2:((l.length:Int)-1).toNat=l.length-1:=by omega
   have hx3:(0:Int) <= (l.length:Int)-1:=by omega
   have HD:=Lib.hid hD
   clear hD
   go_wp2_with fail
   go_ret2
   exact ⟨rfl,HD.out.2⟩
end Go.Proofs.YtejmbbkklhpnaaaGreatDoor.flatw

/- Flat of what is no program; two rows of numbers that are the same. No conditions but those stated. -/
namespace Go.Proofs.YtejmbbkklhpnaaaGreatDoor.flatw
open Go.RowKit Go.Shelf
open nodew
open chkw
open flatm
def NoPost (w:World) (x:Ending) (w':World):Prop:=x = .returned (.tuple #[.slice none 0 0,.int .i64 190])∧Below w.heap.size w w'
set_option maxRecDepth 100000 in
set_option maxHeartbeats 1000000 in
theorem flat_no (l:List Nd) (hok:∀ n∈l,n.ok) (hll:l.length <= 1000000000000) (hr:rightP l=false) (v:Value) (w:World) (hn:NArg w w.heap.size v l) :
  Calls Tryz.prog 31 #[v] w (NoPost w):=by
 obtain ⟨A,c,rfl⟩:=hn.form
 obtain ⟨W1,hW1⟩:∃ W1,W1=w.alloc (.cells #[.slice A l.length c] 43):=⟨_,rfl⟩
 have hb1:Boxed W1 w.heap.size 43 (.slice A l.length c):=by rw [hW1]; exact Boxed.new w _ _
 have hB1:Below w.heap.size w W1:=by rw [hW1]; exact (Below.refl _ w).alloc (Nat.le_refl _) _
 have hrt:=right_any w.heap.size _ l hok hll W1 ((hn.ext hB1).read) hB1.size
 rw [hr] at hrt
 have HRT:=Lib.hid hrt
 have HB1:=Lib.hid hB1
 have cp1:=hb1.cell
 have cp1r:=cp1
 rw [hW1] at cp1r
 clear hrt hn hok hr hB1 hb1
 go_enter Tryz.func31,Tryz.ntmps31
 go_wp2_with (rw [<- hW1])
 refine HRT.out.mono ?_
 rintro e w' ⟨rfl,hB⟩
 have hB2:=HB1.out.trans (hB.mono HB1.out.size)
 clear hB hW1
 go_wp2_with fail
 go_ret2
 exact ⟨rfl,hB2⟩
def IRead (W:World) (v:Value) (ks:List Nat):Prop :=
 ∃ A c,v = .slice A ks.length c∧(ks≠[] -> ∃ g off,A=some ⟨g,off,none⟩∧g<W.heap.size ∧ ∀ j (hj:j<ks.length),W.cell? ⟨g,off+j,none⟩=some (.int .i64 (ks[j]:Nat)))
theorem IRead.ext {W u:World} {v:Value} {ks:List Nat} (h:IRead W v ks) (hb:Below W.heap.size W u):IRead u v ks:=by
 obtain ⟨A,c,hv,hx⟩:=h
 refine ⟨A,c,hv,fun h0 => ?_⟩
 obtain ⟨g,off,hA,hl,hc⟩:=hx h0
 exact ⟨g,off,hA,by have:=hb.size; omega,fun j hj=>(World.cell?_of_block (a:=⟨g,off+j,none⟩) (hb.block g hl)).trans (hc j hj)⟩
theorem IRead.of_own {W:World} {base:Nat} {v:Value} {ks:List Nat} (h:W.ownsRow base 3 1 v ks.length (intsV ks)):IRead W v ks:=by
 rcases h.2 with ⟨rfl,hn⟩ | ⟨g,cap,cur,rfl,_,hgg,_⟩
 ·exact ⟨_,_,by rw [hn],fun h0=>absurd (List.eq_nil_of_length_eq_zero hn) h0⟩
 ·refine ⟨_,_,rfl,fun _=>⟨g,0,rfl,(Array.getElem?_eq_some_iff.1 hgg).1,fun j hj => ?_⟩⟩
  have hc:=h.cells (g:=g) rfl j (.int .i64 (ks[j]:Nat)) (by simp [intsV,hj])
  have hadd:(⟨g,0,none⟩:Addr).add j=⟨g,j,none⟩:=by unfold Addr.add; split <;> simp_all
  rw [hadd] at hc
  rw [Nat.zero_add]
  exact hc
def TruePost (w:World) (x:Ending) (w':World):Prop:=x = .returned (.bool true)∧Below w.heap.size w w'
set_option maxHeartbeats 1000000 in
theorem ints_eq (v1 v2:Value) (ks:List Nat) (hl:ks.length <= 1000000) (w:World) (h1:IRead w v1 ks) (h2:IRead w v2 ks) :
  Calls Tryz.prog 33 #[v1,v2] w (TruePost w):=by
 obtain ⟨A1,c1,rfl,hx1⟩:=h1
 obtain ⟨A2,c2,rfl,hx2⟩:=h2
 have HX1:=Lib.hid hx1
 have HX2:=Lib.hid hx2
 clear hx1 hx2
 go_enter Tryz.func33,Tryz.ntmps33
 go_wp2_with fail
 go_loopw [13] (fun i wr=>∃ k:Nat,k <= ks.length∧i = .int .i64 k∧Below w.heap.size w wr) (fun i _=>ks.length-(intOf i).toNat)
 case atStart=>exact ⟨0,Nat.zero_le _,rfl,Below.refl _ _⟩
 case round =>
  obtain ⟨k,hk,rfl,hBr⟩:=hrel
  by_cases hkl:k<ks.length
  ·have hne:ks≠[]:=by intro e; subst e; simp at hkl
   obtain ⟨g1,o1,rfl,hg1,hc1⟩:=HX1.out hne
   obtain ⟨g2,o2,rfl,hg2,hc2⟩:=HX2.out hne
   have d1:=(World.cell?_of_block (a:=⟨g1,o1+k,none⟩) (hBr.block g1 hg1)).trans (hc1 k hkl)
   have d2:=(World.cell?_of_block (a:=⟨g2,o2+k,none⟩) (hBr.block g2 hg2)).trans (hc2 k hkl)
   have HB:=Lib.hid hBr
   obtain ⟨cc,hcc⟩:∃ cc,ks[k]=cc:=⟨_,rfl⟩
   rw [hcc] at d1 d2
   have k0:(0:Int) <= (k:Int):=by omega
   have ki:(k:Int)<(ks.length:Int):=by omega
   clear hc1 hc2 hBr hcc hne
   go_wp2_with fail
   go_quiet (fail)
   go_wp2_with fail
   go_roundw
   case rel=>exact ⟨k+1,by omega,by go_num,nodew.below_drewN' HB.out nq⟩
   case measure=>simp [intOf]; omega
  ·obtain rfl:k=ks.length:=by omega
   go_wp2_with fail
   go_ret
   exact ⟨rfl,hBr⟩
end Go.Proofs.YtejmbbkklhpnaaaGreatDoor.flatw

/- The chapter's examples, in plain words. No conditions. -/
namespace Go.Proofs.YtejmbbkklhpnaaaGreatDoor.flatw
open Go.RowKit Go.Shelf
open nodew
open chkw
open flatm
def lamN:Nd:=⟨1,[4602678819172646912,4602678819172646912,4602678819172646912,0,0,0,0,0,0,0,0,0,0,0,0,0],0,0⟩
def mixN (b:Int):Nd:=⟨5,[0,0,0,0,0,0,0,0,0,0,0,0,0,0,0,4602678819172646912],0,b⟩
def plsN:Nd:=⟨3,[0,0,0,0,0,0,0,0,0,0,0,0,0,4607182418800017408,4609434218613702656,0],0,0⟩
def exP:List Nd:=[lamN,lamN,plsN,mixN 1]
theorem ex_right:rightP exP=true:=by kernel_rfl
theorem ex_nil:rightP []=false:=by kernel_rfl
theorem ex_one:rightP [lamN]=true:=by kernel_rfl
theorem ex_flat:flatP exP=[lamN,mixN 0]:=by kernel_rfl
theorem ex_used:usedP exP=[0,1,3]:=by kernel_rfl
theorem ex_dep:depP exP 3=2:=by kernel_rfl
theorem ex_dep1:depP [lamN] 0=1:=by kernel_rfl
theorem lam_ok:lamN.ok:=⟨rfl,by decide⟩
theorem pls_ok:plsN.ok:=⟨rfl,by decide⟩
theorem mix_ok (b:Int):(mixN b).ok:=⟨rfl,by
 intro v hv
 simp only [mixN,List.mem_cons,List.not_mem_nil,or_false] at hv
 omega⟩
theorem ex_ok:∀ n∈exP,n.ok:=by
 intro n hn
 simp only [exP,List.mem_cons,List.not_mem_nil,or_false] at hn
 rcases hn with rfl | rfl | rfl | rfl
 ·exact lam_ok
 ·exact lam_ok
 ·exact pls_ok
 ·exact mix_ok 1
theorem bld_arr (w:World):(Instr.build 65 #[(0,.float .f64 4602678819172646912),(1,.float .f64 4602678819172646912),(2,.float .f64 4602678819172646912)]).run Tryz.prog w = .ok (.agg #[.float .f64 4602678819172646912,.float .f64 4602678819172646912,.float .f64 4602678819172646912]) w:=by kernel_rfl
theorem bld_lam (w:World):(Instr.build 67 #[(0,.int .u8 1),(1,.agg #[.float .f64 4602678819172646912,.float .f64 4602678819172646912,.float .f64 4602678819172646912])]).run Tryz.prog w = .ok lamN.val w:=by kernel_rfl
theorem bld_mix (w:World):(Instr.build 67 #[(0,.int .u8 5),(8,.float .f64 4602678819172646912),(9,.int .i64 0),(10,.int .i64 1)]).run Tryz.prog w = .ok (mixN 1).val w:=by kernel_rfl
theorem bld_pls (w:World):(Instr.build 67 #[(0,.int .u8 3),(6,.float .f64 4607182418800017408),(7,.float .f64 4609434218613702656)]).run Tryz.prog w = .ok plsN.val w:=by kernel_rfl
theorem bs4_run (w:World):(Instr.buildSlice 43 4 #[(0,lamN.val),(1,lamN.val),(2,plsN.val),(3,(mixN 1).val)]).run Tryz.prog w = .ok (.slice (some ⟨w.heap.size,0,none⟩) 4 4) (w.alloc (.cells (ncells exP).toArray 67)):=by kernel_rfl
theorem bs2_run (w:World):(Instr.buildSlice 43 2 #[(0,lamN.val),(1,(mixN 0).val)]).run Tryz.prog w = .ok (.slice (some ⟨w.heap.size,0,none⟩) 2 2) (w.alloc (.cells (ncells [lamN,mixN 0]).toArray 67)):=by kernel_rfl
theorem bs3_run (w:World):(Instr.buildSlice 86 3 #[(0,.int .i64 0),(1,.int .i64 1),(2,.int .i64 3)]).run Tryz.prog w = .ok (.slice (some ⟨w.heap.size,0,none⟩) 3 3) (w.alloc (.cells (intsV [0,1,3]).toArray 3)):=by kernel_rfl
theorem exec_bs4 {o:Oper} (x0 x1 x2 x3:Operand) (ho:o.op = .buildSlice 43 4 #[(0,x0),(1,x1),(2,x2),(3,x3)]) {a:Act} {w:World} (h0:a.eval x0=lamN.val) (h1:a.eval x1=lamN.val) (h2:a.eval x2=plsN.val) (h3:a.eval x3=(mixN 1).val) :
  (execOp a.eval o).run Tryz.prog w = .ok (.value (.slice (some ⟨w.heap.size,0,none⟩) 4 4)) (w.alloc (.cells (ncells exP).toArray 67)):=by
 unfold execOp
 simp only [ho,Sem.run_bind,List.map_toArray,List.map_cons,List.map_nil,h0,h1,h2,h3,bs4_run,Result.andThen_ok,Sem.run_pure]
theorem exec_bs2 {o:Oper} (x0 x1:Operand) (ho:o.op = .buildSlice 43 2 #[(0,x0),(1,x1)]) {a:Act} {w:World} (h0:a.eval x0=lamN.val) (h1:a.eval x1=(mixN 0).val) :
  (execOp a.eval o).run Tryz.prog w = .ok (.value (.slice (some ⟨w.heap.size,0,none⟩) 2 2)) (w.alloc (.cells (ncells [lamN,mixN 0]).toArray 67)):=by
 unfold execOp
 simp only [ho,Sem.run_bind,List.map_toArray,List.map_cons,List.map_nil,h0,h1,bs2_run,Result.andThen_ok,Sem.run_pure]
theorem exec_bs3 {o:Oper} (ho:o.op = .buildSlice 86 3 #[(0,.const (.int .i64 0)),(1,.const (.int .i64 1)),(2,.const (.int .i64 3))]) {a:Act} {w:World} :
  (execOp a.eval o).run Tryz.prog w = .ok (.value (.slice (some ⟨w.heap.size,0,none⟩) 3 3)) (w.alloc (.cells (intsV [0,1,3]).toArray 3)):=by
 unfold execOp
 simp only [ho,Sem.run_bind,List.map_toArray,List.map_cons,List.map_nil,Act.eval,bs3_run,Result.andThen_ok,Sem.run_pure]
end Go.Proofs.YtejmbbkklhpnaaaGreatDoor.flatw

/- Steps of a body of a range, inside its round: a node is made, stored, read. No conditions but those stated. -/
namespace Go.Proofs.YtejmbbkklhpnaaaGreatDoor.flatw
open Go.RowKit Go.Shelf
open nodew
open chkw
open flatm
section
variable {F:Fence} {n:Nat} {ops:Array Oper} {rest:List Oper} {o:Oper} {a:Act} {w w':World} {Q:Exit -> Act -> World -> Prop}
theorem wli_load (hgd:o.guard=none) (x:Operand) (ho:o.op = .load 67 x) (ad:Value) (hx:a.eval x=ad) (nd:Nd)
  (hl:(Instr.loadAt 67 ad).run Tryz.prog w = .ok nd.val w) (h:wpListIn F n Tryz.prog ops Q rest (a.put o.dst nd.val) w):wpListIn F n Tryz.prog ops Q (o :: rest) a w:=by
 refine wpListIn_plain hgd fun K hK => ?_
 have hr:(execOp a.eval o).run Tryz.prog w = .ok (.value nd.val) w:=by
  unfold execOp
  simp only [ho,hx,hl,Sem.run_bind,Sem.run_pure,Result.andThen_ok]
 unfold Oper.wpIn
 refine ⟨by simp [Oper.about,ho],?_⟩
 rw [Oper.semAt_plain F _ _ (by rw [ho]; intro c hc'; cases hc'),hr]
 exact hK _ _ h
theorem wli_alloc (hgd:o.guard=none) (ho:o.op = .alloc 67)
  (h:wpListIn F n Tryz.prog ops Q rest (a.put o.dst (pt w.heap.size 0)) (w.alloc (.cells zcells 67))):wpListIn F n Tryz.prog ops Q (o :: rest) a w:=by
 refine wpListIn_plain hgd fun K hK => ?_
 unfold Oper.wpIn
 refine ⟨by simp [Oper.about,ho],?_⟩
 rw [Oper.semAt_plain F _ _ (by rw [ho]; intro c hc'; cases hc'),exec_alloc_nd ho a w]
 exact hK _ _ h
theorem wli_store_new (hgd:o.guard=none) (x y:Operand) (ho:o.op = .store 67 x y) {u:World} (nd:Nd) (hx:a.eval x=pt u.heap.size 0) (hy:a.eval y=nd.val)
  (h:wpListIn F n Tryz.prog ops Q rest (a.put o.dst undef) (u.alloc (.cells nd.cells.toArray 67))):wpListIn F n Tryz.prog ops Q (o :: rest) a (u.alloc (.cells zcells 67)):=by
 refine wpListIn_plain hgd fun K hK => ?_
 have hr:(Instr.storeAt 67 (.pointer (some ⟨u.heap.size,0,none⟩)) (.agg nd.cells.toArray)).run Tryz.prog (u.alloc (.cells zcells 67)) = .ok () (u.alloc (.cells nd.cells.toArray 67)) :=
  run_storeAt_new u 67 zcells nd.cells.toArray (nd_info nd) (by rw [nd_size]; rfl) (nd_one nd)
 have hx':a.eval x = .pointer (some ⟨u.heap.size,0,none⟩):=hx
 have hy':a.eval y = .agg nd.cells.toArray:=hy
 unfold Oper.wpIn
 refine ⟨by simp [Oper.about,ho],?_⟩
 rw [Oper.semAt_plain F _ _ (by rw [ho]; intro c hc'; cases hc')]
 unfold execOp
 simp only [ho,hx',hy',hr,Sem.run_bind,Sem.run_pure,Result.andThen_ok]
 exact hK _ _ h
end
end Go.Proofs.YtejmbbkklhpnaaaGreatDoor.flatw
