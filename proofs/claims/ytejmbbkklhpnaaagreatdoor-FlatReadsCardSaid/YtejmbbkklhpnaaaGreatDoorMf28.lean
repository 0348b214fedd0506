/- The walks of strconv's special and commonPrefixLenIgnoreCase at a decimal. Conditions: as each theorem states. -/
import Derived.Test.YtejmbbkklhpnaaaGreatDoorMf22
import Derived.Test.YtejmbbkklhpnaaaGreatDoorMf27
import Derived.Test.YtejmbbkklhpnaaaGreatDoorMf25
import Derived.Test.YtejmbbkklhpnaaaGreatDoorMf14
namespace Go.Proofs.YtejmbbkklhpnaaaGreatDoor.rdf
open Go.RowKit
open bsw
open prnw
theorem okc_cases {c:UInt8} (h:okc c=true):c.toNat=43∨c.toNat=45∨c.toNat=46∨(48 <= c.toNat∧c.toNat <= 57)∨c.toNat=69∨c.toNat=101:=by
 unfold okc at h
 simp only [Bool.or_eq_true,decide_eq_true_eq] at h
 rcases h with ((((h | h) | h) | h) | h) | h
 ·exact .inl h
 ·exact .inr (.inl h)
 ·exact .inr (.inr (.inl h))
 ·exact .inr (.inr (.inr (.inl ((isD_iff c).1 h))))
 ·exact .inr (.inr (.inr (.inr (.inl h))))
 ·exact .inr (.inr (.inr (.inr (.inr h))))
set_option maxRecDepth 100000 in
set_option maxHeartbeats 1000000 in
theorem common_no (t:ByteArray) (h:0<t.size) (hc:okc t[0]=true) (w:World) :
  Calls Tryz.prog 204 #[.string t,.string ⟨#[105,110,102,105,110,105,116,121]⟩] w (Same w (.int .i64 0)):=by
 have HC:=Lib.hid (okc_cases hc)
 obtain ⟨m,hm⟩:∃ m:Int,min (8:Int) (t.size:Int)=m:=⟨_,rfl⟩
 have m0:0<m:=by omega
 clear hc
 go_enter Tryz.func204,Tryz.ntmps204
 go_wp2_with fail
 have h0:decide (0<m)=true:=decide_eq_true m0
 have b0:((⟨#[105,110,102,105,110,105,116,121]⟩:ByteArray)[0]'(by decide)).toNat=105:=rfl
 clear hm
 refine wp_loop_rounds 1 ?_
 rw [rounds_succ]
 rcases HC.out with z | z | z | ⟨z1,z2⟩ | z | z
 case inr.inr.inr.inl =>
  have u1:decide (65 <= t[0].toNat)=false:=decide_eq_false (by omega)
  have u2:(t[0].toNat:Int) <= 57:=by omega
  have u3:((t[0].toNat:Int) != 105)=true:=by rw [bne_iff_ne]; omega
  go_wp2_with fail
  go_ret
  exact ⟨rfl,rfl⟩
 all_goals
  go_wp2_with fail
  go_ret
  exact ⟨rfl,rfl⟩
theorem drop1 (s:ByteArray) (h:2 <= s.size):(s.extract 1 s.size).size=s.size-1 ∧ ∀ (k:Nat) (hk:k<(s.extract 1 s.size).size) (hk2:k+1<s.size),(s.extract 1 s.size)[k]=s[k+1]:=by
 constructor
 ·rw [ByteArray.size_extract]
  omega
 ·intro k hk hk2
  rw [ByteArray.getElem_extract]
  congr 1
  omega
set_option maxRecDepth 100000 in
set_option maxHeartbeats 1000000 in
theorem special_any (s:ByteArray) (neg:Bool) (x:MS) (rest:List UInt8) (ex:Int) (h:RfOk s neg x rest ex) (w:World) :
  Calls Tryz.prog 192 #[.string s] w (Same w (.tuple #[.float .f64 0,.int .i64 0,.bool false])):=by
 have h0:0<s.size:=h.pos
 have hc:=okc_cases (h.ok 0 h0)
 have hsz:((s.size:Int) == 0)=false:=by rw [beq_eq_false_iff_ne]; omega
 have hf:=h.first
 by_cases h45:(s[0]).toNat=45
 ·have hng:neg=true:=by rw [h.ng]; exact decide_eq_true h45
  have h2:=h.two hng
  obtain ⟨e1,e2⟩:=drop1 s h2
  have h3:0<(s.extract 1 s.size).size:=by omega
  have HC:=Lib.hid (common_no (s.extract 1 s.size) h3 (by rw [e2 0 h3 (by omega)]; exact h.ok 1 (by omega)) w)
  have l1:(1:Int) <= (s.size:Int):=by omega
  have l2:1 <= s.size:=by omega
  clear hc hf h e1 e2 h3 hng
  go_enter Tryz.func192,Tryz.ntmps192
  go_wp2_with (go_at_call 204; (with_reducible refine HC.out.mono ?_); rintro e w' ⟨rfl,hw'⟩; obtain rfl:=hw'.symm)
  go_ret3
  exact ⟨rfl,rfl⟩
 ·have k1:((s[0].toNat:Int) == 43)=false:=by rw [beq_eq_false_iff_ne]; omega
  have k2:((s[0].toNat:Int) == 45)=false:=by rw [beq_eq_false_iff_ne]; omega
  have k3:((s[0].toNat:Int) == 105)=false:=by rw [beq_eq_false_iff_ne]; omega
  have k4:((s[0].toNat:Int) == 73)=false:=by rw [beq_eq_false_iff_ne]; omega
  have k5:((s[0].toNat:Int) == 110)=false:=by rw [beq_eq_false_iff_ne]; omega
  have k6:((s[0].toNat:Int) == 78)=false:=by rw [beq_eq_false_iff_ne]; omega
  clear hc hf h45
  go_enter Tryz.func192,Tryz.ntmps192
  go_wp2
  go_ret3
  exact ⟨rfl,rfl⟩
end Go.Proofs.YtejmbbkklhpnaaaGreatDoor.rdf

/- The walk of strconv's pack64. Conditions: as each theorem states. -/
namespace Go.Proofs.YtejmbbkklhpnaaaGreatDoor.rdf
open Go.RowKit
open bsw
open prnw
open dcw
open dmx
theorem ifrombits_run (n:Int) (w:World):(callFunc 201 #[.int .u64 n]).run Tryz.prog w = .ok (.value (.float .f64 n.toNat)) w:=by
 rw [@run_callFunc_extern Tryz.prog 201 _ Extern.MathFloatBits.float64frombits Tryz.func201 (by kernel_rfl) (by kernel_rfl) (by kernel_rfl) (by kernel_rfl)]
 rfl
attribute [local go_sem] ifrombits_run
theorem bv_cut {n:Nat} (z y:BitVec n) (h:z &&& y=0#n):(z ||| y) &&& ~~~y=z:=by
 apply BitVec.eq_of_getElem_eq
 intro i hi
 have:=congrArg (fun v:BitVec n=>v[i]) h
 simp only [BitVec.getElem_and,BitVec.getElem_zero] at this
 simp only [BitVec.getElem_and,BitVec.getElem_or,BitVec.getElem_not]
 cases hz:z[i] <;> cases hy:y[i] <;> simp_all
theorem andn52 (a:Nat) (ha:a<4503599627370496) (neg:Bool):bits BinOp.andNot IntKind.u64 ((sgn neg (4503599627370496+a):Nat):Int) 4503599627370496=((sgn neg a:Nat):Int):=by
 have hs:sgn neg (4503599627370496+a)<18446744073709551616:=by unfold sgn; split <;> omega
 have hs2:sgn neg a<18446744073709551616:=by unfold sgn; split <;> omega
 have h1:9223372036854775808+a=2 ^ 52*2048 ||| a:=(show 9223372036854775808+a=2 ^ 52*2048+a by omega).trans (Nat.two_pow_add_eq_or_of_lt (by simpa using ha) 2048)
 have h2:9223372036854775808+(4503599627370496+a)=2 ^ 52*2049 ||| a:=(show 9223372036854775808+(4503599627370496+a)=2 ^ 52*2049+a by omega).trans (Nat.two_pow_add_eq_or_of_lt (by simpa using ha) 2049)
 have h3:4503599627370496+a=2 ^ 52*1 ||| a:=(show 4503599627370496+a=2 ^ 52*1+a by omega).trans (Nat.two_pow_add_eq_or_of_lt (by simpa using ha) 1)
 have h4:(2:Nat) ^ 52*2049=2 ^ 52*2048 ||| 2 ^ 52*1:=by decide
 have hor:sgn neg (4503599627370496+a)=sgn neg a ||| 4503599627370496:=by
  cases neg with
  | true =>
   show 9223372036854775808+(4503599627370496+a)=(9223372036854775808+a) ||| 4503599627370496
   rw [h2,h1,h4,Nat.or_assoc,Nat.or_assoc,Nat.or_comm a]
  | false =>
   show 4503599627370496+a=a ||| 4503599627370496
   rw [h3,Nat.or_comm]
 have hand:sgn neg a &&& 4503599627370496=0:=by
  apply Nat.eq_of_testBit_eq
  intro i
  rw [Nat.testBit_and,show (4503599627370496:Nat)=2 ^ 52 from rfl,Nat.testBit_two_pow,Nat.zero_testBit]
  by_cases hi:52=i
  ·subst hi
   rw [Nat.testBit_eq_decide_div_mod_eq,show sgn neg a / 2 ^ 52 % 2=0 by unfold sgn; split <;> omega]
   rfl
  ·rw [decide_eq_false hi,Bool.and_false]
 have e:bits BinOp.andNot IntKind.u64 ((sgn neg (4503599627370496+a):Nat):Int) 4503599627370496=IntKind.u64.wrap (((BitVec.ofInt 64 ((sgn neg (4503599627370496+a):Nat):Int) &&& ~~~ BitVec.ofInt 64 4503599627370496).toNat:Nat):Int):=rfl
 have hb:BitVec.ofInt 64 ((sgn neg (4503599627370496+a):Nat):Int)=BitVec.ofInt 64 ((sgn neg a:Nat):Int) ||| BitVec.ofInt 64 4503599627370496:=by
  apply BitVec.eq_of_toNat_eq
  rw [BitVec.toNat_or,bv_nat _ hs,bv_nat _ hs2,hor]
  rfl
 have hb2:BitVec.ofInt 64 ((sgn neg a:Nat):Int) &&& BitVec.ofInt 64 4503599627370496=0#64:=by
  apply BitVec.eq_of_toNat_eq
  rw [BitVec.toNat_and,bv_nat _ hs2]
  exact hand
 rw [e,hb,bv_cut _ _ hb2,bv_nat _ hs2,IntKind.wrap_u64]
 omega
def pkV (neg:Bool) (X:Nat):Value:=.tuple #[.float .f64 (sgn neg (min X infX)),if infX <= X then .iface 160 (.int .i64 1) else .nilIface]
theorem or52s (neg:Bool) (r b:Nat) (hr:r<4503599627370496) (hb:b<2048):bits BinOp.or IntKind.u64 ((sgn neg r:Nat):Int) ((b*4503599627370496:Nat):Int)=((sgn neg (b*4503599627370496+r):Nat):Int):=by
 have e:bits BinOp.or IntKind.u64 ((sgn neg r:Nat):Int) ((b*4503599627370496:Nat):Int)=IntKind.u64.wrap (((BitVec.ofInt 64 ((sgn neg r:Nat):Int) ||| BitVec.ofInt 64 ((b*4503599627370496:Nat):Int)).toNat:Nat):Int):=rfl
 have hs:sgn neg r<18446744073709551616:=by unfold sgn; split <;> omega
 have p63:(2:Nat) ^ 63=9223372036854775808:=by decide
 have h1:9223372036854775808+r=2 ^ 63*1 ||| r:=(show 9223372036854775808+r=2 ^ 63*1+r by omega).trans (Nat.two_pow_add_eq_or_of_lt (i:=63) (by rw [p63]; omega) 1)
 have h0:b*4503599627370496+r=b*4503599627370496 ||| r:=by
  rw [Nat.mul_comm b]
  exact Nat.two_pow_add_eq_or_of_lt (i:=52) (by simpa using hr) b
 have h2:9223372036854775808+(b*4503599627370496+r)=2 ^ 63*1 ||| (b*4503599627370496+r):=(show 9223372036854775808+(b*4503599627370496+r)=2 ^ 63*1+(b*4503599627370496+r) by omega).trans (Nat.two_pow_add_eq_or_of_lt (i:=63) (by rw [p63]; omega) 1)
 have h4:sgn neg r ||| b*4503599627370496=sgn neg (b*4503599627370496+r):=by
  cases neg with
  | true =>
   show (9223372036854775808+r) ||| b*4503599627370496=9223372036854775808+(b*4503599627370496+r)
   rw [h2,h1,h0,Nat.or_assoc,Nat.or_comm r]
  | false =>
   show r ||| b*4503599627370496=b*4503599627370496+r
   rw [h0,Nat.or_comm]
 have hs3:sgn neg (b*4503599627370496+r)<18446744073709551616:=by unfold sgn; split <;> omega
 rw [e,BitVec.toNat_or,bv_nat _ hs,bv_nat _ (by omega),h4,IntKind.wrap_u64]
 omega
theorem andS (a:Nat) (h:a<18446744073709551616):bits BinOp.and IntKind.u64 (a:Int) 9223372036854775808=((a / 9223372036854775808 % 2*9223372036854775808:Nat):Int):=by
 have e:bits BinOp.and IntKind.u64 (a:Int) 9223372036854775808=IntKind.u64.wrap (((BitVec.ofInt 64 (a:Int) &&& BitVec.ofInt 64 9223372036854775808).toNat:Nat):Int):=rfl
 have h3:(BitVec.ofInt 64 9223372036854775808).toNat=2 ^ 63:=by decide
 have p63:(2:Nat) ^ 63=9223372036854775808:=by decide
 have h4:a &&& 2 ^ 63=a / 9223372036854775808 % 2*9223372036854775808:=by
  apply Nat.eq_of_testBit_eq
  intro i
  rw [<- p63,Nat.testBit_and,Nat.testBit_two_pow,Nat.testBit_mul_two_pow]
  by_cases hi:63=i
  ·subst hi
   rw [Nat.testBit_eq_decide_div_mod_eq,Nat.sub_self,Nat.testBit_eq_decide_div_mod_eq]
   simp
  ·rw [decide_eq_false hi,Bool.and_false]
   by_cases hl:63 <= i
   ·obtain ⟨j,rfl⟩:∃ j,i=63+(j+1):=⟨i-64,by omega⟩
    rw [show 63+(j+1)-63=j+1 by omega,Nat.testBit_succ,show a / 2 ^ 63 % 2 / 2=0 by omega]
    simp
   ·rw [decide_eq_false hl,Bool.false_and]
 rw [e,BitVec.toNat_and,bv_nat a h,h3,h4,IntKind.wrap_u64]
 omega
set_option maxRecDepth 100000 in
set_option maxHeartbeats 1000000 in
theorem pack_any (neg:Bool) (R t:Nat) (hR:R<9007199254740992) (ht:t=0∨4503599627370496 <= R) (ht2:t <= 2200) (w:World) :
  Calls Tryz.prog 209 #[.int .u64 ((sgn neg R:Nat):Int),.int .i64 ((t:Int)-1074)] w (Same w (pkV neg (t*4503599627370496+R))):=by
 have hs:sgn neg R<18446744073709551616:=by unfold sgn; split <;> omega
 by_cases hlow:R<4503599627370496
 ·have ht0:t=0:=by omega
  subst ht0
  have b0:bits BinOp.and IntKind.u64 ((sgn neg R:Nat):Int) 4503599627370496=0:=by
   rw [andb _ hs,show sgn neg R / 4503599627370496 % 2=0 by unfold sgn; split <;> omega]
   rfl
  have hv:pkV neg (0*4503599627370496+R) = .tuple #[.float .f64 (sgn neg R),.nilIface]:=by
   unfold pkV infX
   rw [Nat.zero_mul,Nat.zero_add,Nat.min_eq_left (by omega),if_neg (by omega)]
  rw [hv]
  obtain ⟨m,hm⟩:∃ m,sgn neg R=m:=⟨_,rfl⟩
  rw [hm] at b0 ⊢
  clear hm hv hs hlow hR ht ht2
  go_enter Tryz.func209,Tryz.ntmps209
  go_wp2_with fail
  go_ret2
  exact ⟨rfl,rfl⟩
 ·obtain ⟨r,hr⟩:∃ r,R=4503599627370496+r:=⟨R-4503599627370496,by omega⟩
  subst hr
  have b0:bits BinOp.and IntKind.u64 ((sgn neg (4503599627370496+r):Nat):Int) 4503599627370496=4503599627370496:=by
   rw [andb _ hs,show sgn neg (4503599627370496+r) / 4503599627370496 % 2=1 by unfold sgn; split <;> omega]
   rfl
  have b1:=andn52 r (by omega) neg
  by_cases hbig:2046 <= t
  ·have b2:bits BinOp.and IntKind.u64 ((sgn neg (4503599627370496+r):Nat):Int) 9223372036854775808=((sgn neg 0:Nat):Int):=by
    rw [andS _ hs]
    refine congrArg (fun z:Nat=>(z:Int)) ?_
    cases neg with
    | true =>
     show (9223372036854775808+(4503599627370496+r)) / 9223372036854775808 % 2*9223372036854775808=9223372036854775808+0
     omega
    | false =>
     show (4503599627370496+r) / 9223372036854775808 % 2*9223372036854775808=0
     omega
   have b3:bits BinOp.or IntKind.u64 ((sgn neg 0:Nat):Int) 9218868437227405312=((sgn neg 9218868437227405312:Nat):Int):=by
    cases neg <;> decide +kernel
   have hv:pkV neg (t*4503599627370496+(4503599627370496+r)) = .tuple #[.float .f64 (sgn neg 9218868437227405312),.iface 160 (.int .i64 1)]:=by
    unfold pkV infX
    rw [Nat.min_eq_right (by omega),if_pos (by omega)]
   rw [hv]
   have t1:decide (972 <= (t:Int)-1074)=true:=decide_eq_true (by omega)
   obtain ⟨m,hm⟩:∃ m,sgn neg (4503599627370496+r)=m:=⟨_,rfl⟩
   obtain ⟨m0,hm0⟩:∃ m0,sgn neg 0=m0:=⟨_,rfl⟩
   obtain ⟨mi,hmi⟩:∃ mi,sgn neg 9218868437227405312=mi:=⟨_,rfl⟩
   rw [hm] at b0 b2 ⊢
   rw [hm0] at b2 b3
   rw [hmi] at b3 ⊢
   clear hm hm0 hmi hv hs hlow hR ht hbig b1
   go_enter Tryz.func209,Tryz.ntmps209
   go_wp2_with fail
   go_ret2
   exact ⟨rfl,rfl⟩
  ·obtain ⟨T,hT⟩:∃ T,t+1=T:=⟨_,rfl⟩
   obtain ⟨Y,hY⟩:∃ Y,T*4503599627370496=Y:=⟨_,rfl⟩
   have b5:IntKind.u64.wrap ((T:Int)*4503599627370496)=(Y:Int):=by
    clear b0 b1 hs ht
    rw [IntKind.wrap_u64]
    omega
   have eX:t*4503599627370496+(4503599627370496+r)=Y+r:=by
    rw [<- hY,<- hT,Nat.add_mul,Nat.one_mul,Nat.add_assoc]
   have eI:¬ 9218868437227405312 <= Y+r:=by omega
   have b3:=or52s neg r T (by omega) (by omega)
   rw [hY] at b3
   have hv:pkV neg (t*4503599627370496+(4503599627370496+r)) = .tuple #[.float .f64 (sgn neg (Y+r)),.nilIface]:=by
    unfold pkV infX
    rw [eX,Nat.min_eq_left (Nat.le_of_lt (Nat.lt_of_not_le eI)),if_neg eI]
   rw [hv]
   have t1:decide (972 <= (t:Int)-1074)=false:=decide_eq_false (by omega)
   have t2:(1075:Int)+((t:Int)-1074)=(T:Int):=by omega
   have T0:(0:Int) <= (T:Int):=by omega
   have T9:(T:Int) <= 2046:=by omega
   have tt0:(0:Int) <= (t:Int):=by omega
   have tt9:(t:Int) <= 2045:=by omega
   obtain ⟨m,hm⟩:∃ m,sgn neg (4503599627370496+r)=m:=⟨_,rfl⟩
   obtain ⟨m0,hm0⟩:∃ m0,sgn neg r=m0:=⟨_,rfl⟩
   obtain ⟨mi,hmi⟩:∃ mi,sgn neg (Y+r)=mi:=⟨_,rfl⟩
   rw [hm] at b0 b1 ⊢
   rw [hm0] at b1 b3
   rw [hmi] at b3 ⊢
   clear hm hm0 hmi hv hs hlow hR ht hbig hT hY eX eI
   go_enter Tryz.func209,Tryz.ntmps209
   go_wp2_with fail
   go_ret2
   exact ⟨rfl,rfl⟩
end Go.Proofs.YtejmbbkklhpnaaaGreatDoor.rdf

/- Unrounded scaling of a decimal's digits, rounded: the nearest float. Plain. -/
namespace Go.Proofs.YtejmbbkklhpnaaaGreatDoor.fpm
open Go Go.RowKit prnw
def ndB (i:Nat):Bool:=decide (dT i*170141183460469231731687303715884105728 <= nT i) && decide (nT i*4096 <= dT i*1393456292541243007882519017433090825912320)
theorem ndAll:(List.range 656).all (fun j=>ndB (j+3))=true:=by kernel_rfl
theorem nd_at (i:Nat) (h0:3 <= i) (h1:i<659):dT i*170141183460469231731687303715884105728 <= nT i∧nT i*4096 <= dT i*1393456292541243007882519017433090825912320:=by
 have:=List.all_eq_true.1 ndAll (i-3) (List.mem_range.2 (by omega))
 rw [show i-3+3=i by omega] at this
 unfold ndB at this
 simpa using this
theorem pq_id (P:Int) (h0 : -348 <= P) (i:Nat) (hi:i=(P+348).toNat) (lp:Int) (hlp:lp=P*108853 / 32768) (d z s t:Nat) (hs:(s:Int)=z+t-1074-lp-3) :
  d*10 ^ P.toNat*2 ^ leB*(4*(dT i*2 ^ (128+s)))=d*2 ^ z*nT i*2 ^ t*10 ^ (-P).toNat:=by
 have hid:=nd_id P h0 i hi lp hlp
 obtain ⟨u,hu⟩:∃ u,u=(lp-127).toNat:=⟨_,rfl⟩
 obtain ⟨v,hv⟩:∃ v,v=(127-lp).toNat:=⟨_,rfl⟩
 rw [<- hu,<- hv] at hid
 have e:2 ^ leB*(4*2 ^ (128+s))*2 ^ u=2 ^ z*2 ^ t*2 ^ v:=by
  rw [show (4:Nat)=2 ^ 2 by decide,<- Nat.pow_add,<- Nat.pow_add,<- Nat.pow_add,<- Nat.pow_add,<- Nat.pow_add]
  have he:=leB_eq
  exact congrArg (fun y:Nat=>2 ^ y) (by omega)
 refine Nat.eq_of_mul_eq_mul_right (Nat.two_pow_pos u) ?_
 generalize 2 ^ leB=x1 at *
 generalize 2 ^ (128+s)=x2 at *
 generalize 2 ^ u=x3 at *
 generalize 2 ^ z=x4 at *
 generalize 2 ^ t=x5 at *
 generalize 2 ^ v=x6 at *
 generalize 10 ^ P.toNat=T at *
 generalize 10 ^ (-P).toNat=T' at *
 have e1:d*T*x1*(4*(dT i*x2))*x3=d*T*dT i*(x1*(4*x2)*x3):=by ac_rfl
 have e2:d*x4*nT i*x5*T'*x3=d*x4*x5*(nT i*T'*x3):=by ac_rfl
 rw [e1,e2,e,hid]
 ac_rfl
theorem unr_half (A Q:Nat) (hQ:0<Q):(if unr A Q % 2=1 then unr A Q / 2 / 2*2+1 else unr A Q / 2)=unr A (2*Q):=by
 have h:=Nat.div_add_mod A Q
 have hm:=Nat.mod_lt A hQ
 obtain ⟨F,hF⟩:∃ F,F=A / Q:=⟨_,rfl⟩
 obtain ⟨m,hm2⟩:∃ m,m=A % Q:=⟨_,rfl⟩
 rw [<- hF,<- hm2] at h
 rw [<- hm2] at hm
 have e1:A / (2*Q)=F / 2:=by rw [Nat.mul_comm,<- Nat.div_div_eq_div_mul,<- hF]
 have e2:A % (2*Q)=0↔(m=0∧F % 2=0):=by
  have h2:=Nat.div_add_mod A (2*Q)
  rw [e1] at h2
  have hq:2*Q*(F / 2)=Q*(F / 2*2):=by rw [Nat.mul_comm 2 Q,Nat.mul_assoc,Nat.mul_comm 2]
  rcases Nat.mod_two_eq_zero_or_one F with hf | hf
  ·have hF2:F / 2*2=F:=by omega
   rw [hq,hF2] at h2
   omega
  ·have hF2:F=F / 2*2+1:=by omega
   have:Q*F=Q*(F / 2*2)+Q:=by rw [hF2,Nat.mul_add,Nat.mul_one,<- hF2]
   rw [hq] at h2
   omega
 unfold unr
 rw [<- hF,<- hm2,e1]
 by_cases h0:m=0
 ·rw [if_pos h0]
  rcases Nat.mod_two_eq_zero_or_one F with hf | hf
  ·rw [if_neg (by omega),if_pos (e2.2 ⟨h0,hf⟩)]
  ·rw [if_pos hf,if_neg (fun h=>by have:=(e2.1 h).2; omega)]
 ·rw [if_neg h0,if_pos (by omega),if_neg (fun h=>h0 (e2.1 h).1)]
  omega
theorem rnd_spec (A Q:Nat) (hQ:0<Q):2*(rnd (unr A Q)*(4*Q)) <= 2*A+4*Q∧2*A <= 2*(rnd (unr A Q)*(4*Q))+4*Q ∧
  (rnd (unr A Q) % 2=1 -> 2*(rnd (unr A Q)*(4*Q))<2*A+4*Q∧2*A<2*(rnd (unr A Q)*(4*Q))+4*Q):=by
 obtain ⟨a,b,c⟩:=r_round A Q hQ
 exact ⟨a,b,fun h=>by omega⟩
theorem rnd_big (u:Nat):36028797018963966 <= u↔9007199254740992 <= rnd u:=by
 unfold rnd
 omega
theorem pf_core (A B N Q t:Nat) (hB:0<B) (hQ:0<Q) (hq:A*2 ^ leB*(4*Q)=N*2 ^ t*B) (hn:t=0∨4503599627370496*(4*Q) <= N) (hu:N+4*Q<18014398509481984*(4*Q)) :
  (¬ 36028797018963966 <= unr N Q -> Near (t*4503599627370496+rnd (unr N Q)) A B∧rnd (unr N Q)<9007199254740992∧(t=0∨4503599627370496 <= rnd (unr N Q))) ∧
  (36028797018963966 <= unr N Q -> Near ((t+1)*4503599627370496+rnd (unr N (2*Q))) A B∧rnd (unr N (2*Q))<9007199254740992∧4503599627370496 <= rnd (unr N (2*Q))):=by
 obtain ⟨D,hD⟩:∃ D,D=4*Q:=⟨_,rfl⟩
 have hD0:0<D:=by omega
 obtain ⟨a,b,c⟩:=rnd_spec N Q hQ
 obtain ⟨a',b',c'⟩:=rnd_spec N (2*Q) (by omega)
 have hD2:4*(2*Q)=2*D:=by omega
 rw [hD2] at a' b' c'
 rw [<- hD] at a b c hq hn hu
 have hbig:=rnd_big (unr N Q)
 obtain ⟨R,hR⟩:∃ R,R=rnd (unr N Q):=⟨_,rfl⟩
 obtain ⟨R',hR'⟩:∃ R',R'=rnd (unr N (2*Q)):=⟨_,rfl⟩
 rw [<- hR] at a b c hbig
 rw [<- hR'] at a' b' c'
 rw [<- hR,<- hR']
 have le_of:∀ x y:Nat,x*D <= y*D -> x <= y:=fun x y h=>Nat.le_of_mul_le_mul_right h hD0
 have e2:R'*(2*D)=2*R'*D:=by ac_rfl
 rw [e2] at a' b' c'
 constructor
 ·intro h
  have hlt:R<9007199254740992:=by omega
  refine ⟨near_mk A B D N t R hB hD0 hq a b c (by omega) hn,hlt,hn.imp_right fun h1 => ?_⟩
  refine Nat.le_of_not_lt fun hl => ?_
  have:R*D <= 4503599627370495*D:=Nat.mul_le_mul_right _ (by omega)
  omega
 ·intro h
  have hge:9007199254740992 <= R:=hbig.1 h
  have hRD:9007199254740992*D <= R*D:=Nat.mul_le_mul_right _ hge
  have hR'lt:R'<9007199254740992:=by
   refine Nat.lt_of_not_le fun hl => ?_
   have h1:2*9007199254740992*D <= 2*R'*D:=Nat.mul_le_mul_right _ (by omega)
   omega
  have hR'ge:4503599627370496 <= R':=by
   refine Nat.le_of_not_lt fun hl => ?_
   have h1:2*R'*D <= 2*4503599627370495*D:=Nat.mul_le_mul_right _ (by omega)
   omega
  refine ⟨?_,hR'lt,hR'ge⟩
  by_cases hv:N<9007199254740992*D
  ·have hR1:R=9007199254740992:=by
    refine Nat.le_antisymm (Nat.le_of_not_lt fun hl => ?_) hge
    have h1:9007199254740993*D <= R*D:=Nat.mul_le_mul_right _ hl
    omega
   have hR2:R'=4503599627370496:=by
    refine Nat.le_antisymm (Nat.le_of_not_lt fun hl => ?_) hR'ge
    have h1:2*4503599627370497*D <= 2*R'*D:=Nat.mul_le_mul_right _ (by omega)
    omega
   have hX:(t+1)*4503599627370496+R'=t*4503599627370496+R:=by omega
   rw [hX]
   exact near_mk A B D N t R hB hD0 hq a b c (by omega) hn
  ·refine near_mk A B (2*D) N (t+1) R' hB (by omega) ?_ (by rw [e2]; exact a') (by rw [e2]; exact b') (fun h=>by rw [e2]; exact c' h) (by omega) (.inr (by omega))
   rw [Nat.pow_succ]
   generalize 2 ^ leB=y at *
   generalize 2 ^ t=y2 at *
   have e3:A*y*(2*D)=A*y*D*2:=by ac_rfl
   rw [e3,hq]
   ac_rfl
theorem pf_zero (P:Int) (h0 : -345 <= P) (h1:P <= 310) (lp:Int) (hlp:lp=P*108853 / 32768) (d z s:Nat) (hx:d*2 ^ z<18446744073709551616) (hs:(s:Int)=z-1074-lp-3) (hs2:64 <= s) :
  Near 0 (d*10 ^ P.toNat) (10 ^ (-P).toNat):=by
 obtain ⟨i,hi⟩:∃ i,i=(P+348).toNat:=⟨_,rfl⟩
 obtain ⟨n1,n2⟩:=nd_at i (by omega) (by omega)
 have hq:=pq_id P (by omega) i hi lp hlp d z s 0 (by omega)
 have hdT:=dT_pos i
 obtain ⟨g,hg⟩:∃ g,s=64+g:=⟨s-64,by omega⟩
 have hQ:0<dT i*2 ^ (128+s):=Nat.mul_pos hdT (Nat.two_pow_pos _)
 have hN:d*2 ^ z*nT i <= dT i*2 ^ (128+s):=by
  have e1:(2:Nat) ^ (128+s)=6277101735386680763835789423207666416102355444464034512896*2 ^ g:=by
   rw [hg,show 128+(64+g)=192+g by omega,Nat.pow_add]
  have k1:d*2 ^ z*nT i <= 18446744073709551616*nT i:=Nat.mul_le_mul_right _ (by omega)
  have k2:dT i*6277101735386680763835789423207666416102355444464034512896 <= dT i*2 ^ (128+s):=by
   rw [e1]
   exact Nat.mul_le_mul_left _ (Nat.le_mul_of_pos_right _ (Nat.two_pow_pos g))
  omega
 have:=near_mk (d*10 ^ P.toNat) (10 ^ (-P).toNat) (4*(dT i*2 ^ (128+s))) (d*2 ^ z*nT i) 0 0 (Nat.pow_pos (by decide)) (by omega) (by rw [hq]) (by omega) (by omega) (fun h=>by omega) (by omega) (.inl rfl)
 exact this
theorem pf_near (P:Int) (h0 : -345 <= P) (h1:P <= 310) (lp:Int) (hlp:lp=P*108853 / 32768) (d z s t:Nat) (hx0:9223372036854775808 <= d*2 ^ z) (hx:d*2 ^ z<18446744073709551616)
  (hs:(s:Int)=z+t-1074-lp-3) (hs8:8 <= s) (ht:t=0∨s=8) (u:Nat) (hu:u=usN (d*2 ^ z) (hiT (P+348).toNat) (loT (P+348).toNat) s) :
  (¬ 36028797018963966 <= u -> Near (t*4503599627370496+rnd u) (d*10 ^ P.toNat) (10 ^ (-P).toNat)∧rnd u<9007199254740992∧(t=0∨4503599627370496 <= rnd u)) ∧
  (36028797018963966 <= u -> Near ((t+1)*4503599627370496+rnd (if u % 2=1 then u / 2 / 2*2+1 else u / 2)) (d*10 ^ P.toNat) (10 ^ (-P).toNat)∧rnd (if u % 2=1 then u / 2 / 2*2+1 else u / 2)<9007199254740992∧4503599627370496 <= rnd (if u % 2=1 then u / 2 / 2*2+1 else u / 2)):=by
 obtain ⟨i,hi⟩:∃ i,i=(P+348).toNat:=⟨_,rfl⟩
 rw [<- hi] at hu
 obtain ⟨n1,n2⟩:=nd_at i (by omega) (by omega)
 have hq:=pq_id P (by omega) i hi lp hlp d z s t hs
 have hdT:=dT_pos i
 rw [us_parse i s (d*2 ^ z) (by omega) (by omega) hs8 hx0 hx] at hu
 have hQ:0<dT i*2 ^ (128+s):=Nat.mul_pos hdT (Nat.two_pow_pos _)
 obtain ⟨g,hg⟩:∃ g,s=8+g:=⟨s-8,by omega⟩
 have e1:(2:Nat) ^ (128+s)=87112285931760246646623899502532662132736*2 ^ g:=by
  rw [hg,show 128+(8+g)=136+g by omega,Nat.pow_add]
 have hn:t=0∨4503599627370496*(4*(dT i*2 ^ (128+s))) <= d*2 ^ z*nT i:=by
  refine ht.imp_right fun h => ?_
  have hg0:g=0:=by omega
  rw [e1,hg0,Nat.pow_zero,Nat.mul_one]
  have k1:9223372036854775808*nT i <= d*2 ^ z*nT i:=Nat.mul_le_mul_right _ hx0
  omega
 have hb:d*2 ^ z*nT i+4*(dT i*2 ^ (128+s))<18014398509481984*(4*(dT i*2 ^ (128+s))):=by
  have k1:d*2 ^ z*nT i <= 18446744073709551616*nT i:=Nat.mul_le_mul_right _ (by omega)
  have k2:dT i*87112285931760246646623899502532662132736 <= dT i*2 ^ (128+s):=by
   rw [e1]
   exact Nat.mul_le_mul_left _ (Nat.le_mul_of_pos_right _ (Nat.two_pow_pos g))
  omega
 rw [hu,unr_half _ _ hQ]
 exact pf_core _ _ _ _ t (Nat.pow_pos (by decide)) hQ hq hn hb
end Go.Proofs.YtejmbbkklhpnaaaGreatDoor.fpm
