/- Unlike programs have unlike texts: the plain law. -/
import Derived.Test.YtcbgkbidgpemfaaGreatDoorMf19
import Derived.Test.YtcbgkbidgpemfaaGreatDoorMf20
import Derived.WalkKit
namespace Go.Proofs.YtcbgkbidgpemfaaGreatDoor
namespace fpm
open Go Go.RowKit
open prnw
open nodew
open chkw
open flatm
theorem itoa_inj (a b:Int) (h:Lib.itoa a=Lib.itoa b):a=b:=by
 rw [<- ex_itoa a,<- ex_itoa b,h]
theorem nmB_inj (a b:Int) (h:(nmB a).data.toList=(nmB b).data.toList):a=b:=by
 unfold nmB at h;rw [bA_list,bA_list] at h;exact itoa_inj a b (List.cons.inj h).2
end fpm

/- Multiprecision decimals: plain arithmetic of their digits. No conditions but those stated. -/
namespace dmx
def preN (N n r:Nat):Nat:=N*10 ^ r / 10 ^ n
def dgN (N n r:Nat):Nat:=N*10 ^ (r+1) / 10 ^ n % 10
theorem dgN_lt (N n r:Nat):dgN N n r<10:=Nat.mod_lt _ (by decide)
theorem pre_zero {N n:Nat} (h:N<10 ^ n):preN N n 0=0:=by
 unfold preN;rw [Nat.pow_zero,Nat.mul_one];exact Nat.div_eq_of_lt h
theorem pre_all (N n:Nat):preN N n n=N:=Nat.mul_div_cancel _ (Nat.pow_pos (by decide))
theorem pre_div (N n r:Nat):preN N n (r+1) / 10=preN N n r:=by
 unfold preN;rw [Nat.div_div_eq_div_mul,Nat.pow_succ,<- Nat.mul_assoc,Nat.mul_div_mul_right _ _ (by decide)]
theorem pre_succ (N n r:Nat):preN N n (r+1)=10*preN N n r+dgN N n r:=by
 have h1:=pre_div N n r;have h2:dgN N n r=preN N n (r+1) % 10:=rfl;omega
theorem dg_beyond {N n r:Nat} (h:n <= r):dgN N n r=0:=by
 unfold dgN;obtain ⟨d,rfl⟩:=Nat.exists_eq_add_of_le h;have e:N*10 ^ (n+d+1)=N*10 ^ d*10*10 ^ n:=by
  rw [Nat.pow_succ,Nat.pow_add]
  ac_rfl
 rw [e,Nat.mul_div_cancel _ (Nat.pow_pos (by decide))];exact Nat.mul_mod_left _ _
theorem pre_beyond (N n d:Nat):preN N n (n+d)=N*10 ^ d:=by
 unfold preN;rw [Nat.pow_add,Nat.mul_comm (10 ^ n),<- Nat.mul_assoc];exact Nat.mul_div_cancel _ (Nat.pow_pos (by decide))
theorem pre_mono (N n r d:Nat):preN N n r <= preN N n (r+d):=by
 induction d with
 | zero=>exact Nat.le_refl _
 | succ d ih =>
  have:=pre_succ N n (r+d);rw [<- Nat.add_assoc];omega
theorem dg_usual {N n r:Nat} (h:r<n):dgN N n r=N / 10 ^ (n-1-r) % 10:=by
 unfold dgN;obtain ⟨d,hd⟩:∃ d,n=d+(r+1):=⟨n-(r+1),by omega⟩;have e:n-1-r=d:=by omega
 have e2:10 ^ n=10 ^ d*10 ^ (r+1):=by rw [hd,Nat.pow_add 10 d (r+1)]
 rw [e,e2,Nat.mul_div_mul_right _ _ (Nat.pow_pos (by decide))]
def quR (N n k r:Nat):Nat:=preN N n r / (10*2 ^ k)
def reR (N n k r:Nat):Nat:=preN N n r % (10*2 ^ k)
theorem two_pos (k:Nat):0<2 ^ k:=Nat.pow_pos (by decide)
theorem re_lt (N n k r:Nat):reR N n k r<10*2 ^ k:=Nat.mod_lt _ (Nat.mul_pos (by decide) (two_pos k))
theorem qu_div (N n k r:Nat):quR N n k (r+1) / 10=quR N n k r:=by
 unfold quR;rw [Nat.div_div_eq_div_mul,Nat.mul_comm,<- Nat.div_div_eq_div_mul,pre_div]
theorem step_R (N n k r:Nat):quR N n k (r+1) % 10=reR N n k r / 2 ^ k∧reR N n k (r+1)=reR N n k r % 2 ^ k*10+dgN N n r:=by
 have hp:=two_pos k;have h1:=pre_succ N n r;have hd:=dgN_lt N n r;obtain ⟨T,hT⟩:∃ T,T=2 ^ k:=⟨_,rfl⟩;obtain ⟨q,hq⟩:∃ q,q=quR N n k r:=⟨_,rfl⟩;obtain ⟨m,hm⟩:∃ m,m=reR N n k r:=⟨_,rfl⟩;have h2:preN N n r=10*T*q+m:=by rw [hT,hq,hm]; exact (Nat.div_add_mod _ _).symm
 obtain ⟨g,hg⟩:∃ g,g=m / T:=⟨_,rfl⟩;obtain ⟨s,hs⟩:∃ s,s=m % T:=⟨_,rfl⟩;have h3:m=T*g+s:=by rw [hg,hs]; exact (Nat.div_add_mod _ _).symm
 have hs2:s<T:=by rw [hs]; exact Nat.mod_lt _ (by rw [hT]; exact hp)
 have hm2:m<10*T:=by rw [hm,hT]; exact re_lt N n k r
 have hg2:g<10:=by
  rw [hg];exact Nat.div_lt_of_lt_mul (by rw [Nat.mul_comm]; exact hm2)
 have h4:preN N n (r+1)=10*T*(10*q+g)+(s*10+dgN N n r):=by
  rw [h1,h2,h3];have e1:10*(10*T*q+(T*g+s))=10*T*(10*q+g)+s*10:=by
   simp only [Nat.mul_add]
   ac_rfl
  rw [e1,Nat.add_assoc]
 have h5:s*10+dgN N n r<10*T:=by omega
 constructor
 ·unfold quR;rw [<- hm,<- hT,<- hg,h4,Nat.mul_add_div (by rw [hT]; exact Nat.mul_pos (by decide) hp),Nat.div_eq_of_lt h5];omega
 ·rw [<- hm,<- hT,<- hs];unfold reR;rw [<- hT,h4,Nat.mul_add_mod,Nat.mod_eq_of_lt h5]
theorem re_end {N n k d:Nat} (h:k<d):reR N n k (n+d)=0:=by
 unfold reR;rw [pre_beyond];obtain ⟨c,rfl⟩:∃ c,d=k+1+c:=⟨d-(k+1),by omega⟩;have e:N*10 ^ (k+1+c)=10*2 ^ k*(N*5 ^ k*10 ^ c):=by
  rw [Nat.pow_add,Nat.pow_succ,show (10:Nat) ^ k=2 ^ k*5 ^ k by rw [<- Nat.mul_pow]]
  ac_rfl
 rw [e,Nat.mul_mod_right]
theorem qu_end {N n k r:Nat} (h:reR N n k r=0):preN N n r=quR N n k r*(10*2 ^ k):=by
 have:=Nat.div_add_mod (preN N n r) (10*2 ^ k);unfold reR at h;rw [h,Nat.add_zero,Nat.mul_comm] at this;exact this.symm
end dmx

/- Multiprecision decimals: the shift to the left, noughts at the end, values: plain arithmetic. No conditions but those stated. -/
namespace dmx
def trN:Nat -> Nat -> Nat × Nat
 | N,0=>(N,0)
 | N,n+1=>if N % 10=0 then trN (N / 10) n else (N,n+1)
theorem tr_le:∀ (n N:Nat),(trN N n).2 <= n
 | 0,_=>Nat.le_refl _
 | n+1,N=>by
  unfold trN
  split
  ·exact Nat.le_succ_of_le (tr_le n _)
  ·exact Nat.le_refl _
theorem tr_val:∀ (n N:Nat),(trN N n).1*10 ^ (n-(trN N n).2)=N
 | 0,N=>by simp [trN]
 | n+1,N=>by
  unfold trN
  split
  ·rename_i h;have h1:=tr_val n (N / 10);have h2:=tr_le n (N / 10);rw [show n+1-(trN (N / 10) n).2=n-(trN (N / 10) n).2+1 by omega,Nat.pow_succ,<- Nat.mul_assoc,h1];omega
  ·simp
theorem tr_mod:∀ (n N:Nat),0<(trN N n).2 -> (trN N n).1 % 10≠0
 | 0,N,h=>by simp [trN] at h
 | n+1,N,h=>by
  unfold trN at h ⊢
  split
  ·rename_i h0;rw [if_pos h0] at h;exact tr_mod n _ h
  ·rename_i h0;exact h0
theorem tr_pos:∀ (n N:Nat),0<N -> N<10 ^ n -> 0<(trN N n).2
 | 0,N,h0,h=>by simp at h; omega
 | n+1,N,h0,h=>by
  unfold trN
  split
  ·rw [Nat.pow_succ] at h;exact tr_pos n _ (by omega) (by omega)
  ·exact Nat.succ_pos _
theorem tr_bd (n N:Nat) (h:N<10 ^ n):(trN N n).1<10 ^ (trN N n).2:=by
 have h1:=tr_val n N;have h2:=tr_le n N;obtain ⟨d,hd⟩:∃ d,n=(trN N n).2+d:=⟨n-(trN N n).2,by omega⟩;have e:n-(trN N n).2=d:=by omega
 rw [e] at h1;have h3:(trN N n).1*10 ^ d<10 ^ (trN N n).2*10 ^ d:=by
  rw [h1,<- Nat.pow_add,<- hd];exact h
 exact Nat.lt_of_mul_lt_mul_right h3
theorem tr_dig:∀ (n N j:Nat),j<(trN N n).2 -> (trN N n).1 / 10 ^ ((trN N n).2-1-j) % 10=N / 10 ^ (n-1-j) % 10
 | 0,N,j,h=>by simp [trN] at h
 | n+1,N,j,h=>by
  unfold trN at h ⊢
  split
  ·rename_i h0;rw [if_pos h0] at h;have h1:=tr_dig n (N / 10) j h;have h2:=tr_le n (N / 10);have e:10*10 ^ (n-1-j)=10 ^ (n+1-1-j):=by
    rw [show n+1-1-j=n-1-j+1 by omega,Nat.pow_succ,Nat.mul_comm]
   rw [h1,Nat.div_div_eq_div_mul,e]
  ·rfl
structure WGood (N n:Nat):Prop where
 n1:1 <= n
 lo:10 ^ (n-1) <= N
 hi:N<10 ^ n
structure DGood (N n:Nat):Prop extends WGood N n where
 md:N % 10≠0
theorem tr_lo (n N:Nat) (h1:1 <= n) (h:10 ^ (n-1) <= N) (h2:N<10 ^ n):DGood (trN N n).1 (trN N n).2:=by
 have hp:=tr_pos n N (Nat.lt_of_lt_of_le (Nat.pow_pos (by decide)) h) h2;refine ⟨⟨hp,?_,tr_bd n N h2⟩,tr_mod n N hp⟩;have a1:=tr_val n N;have a2:=tr_le n N;obtain ⟨d,hd⟩:∃ d,n=(trN N n).2+d:=⟨n-(trN N n).2,by omega⟩;have e:n-(trN N n).2=d:=by omega
 rw [e] at a1;have h3:10 ^ ((trN N n).2-1)*10 ^ d <= (trN N n).1*10 ^ d:=by
  rw [a1,<- Nat.pow_add,show (trN N n).2-1+d=n-1 by omega];exact h
 exact Nat.le_of_mul_le_mul_right h3 (Nat.pow_pos (by decide))
def val (N n:Nat) (dp:Int):Nat:=N*10 ^ (dp-n+2000).toNat
theorem val_tr (N n:Nat) (dp:Int) (h:(n:Int) <= dp+2000):val (trN N n).1 (trN N n).2 dp=val N n dp:=by
 have a1:=tr_val n N;have a2:=tr_le n N;unfold val;obtain ⟨d,hd⟩:∃ d,n=(trN N n).2+d:=⟨n-(trN N n).2,by omega⟩;have e:n-(trN N n).2=d:=by omega
 rw [e] at a1;rw [show (dp-((trN N n).2:Int)+2000).toNat=d+(dp-(n:Int)+2000).toNat by omega,Nat.pow_add,<- Nat.mul_assoc,a1]
theorem val_R (N n k r1 T:Nat) (dp:Int) (h0:reR N n k T=0) (hT:n <= T) (h1:r1 <= T) (hd:(T:Int) <= dp+2000) (hd1:(n:Int) <= dp+1999) :
  val (quR N n k T) (T-r1) (dp-r1+1)*2 ^ k=val N n dp:=by
 have hq:=qu_end h0;obtain ⟨d,rfl⟩:=Nat.exists_eq_add_of_le hT;rw [pre_beyond] at hq;unfold val;obtain ⟨a,ha⟩:∃ a:Nat,(dp-(n:Int)+2000).toNat=a+d:=⟨(dp-(n:Int)+2000).toNat-d,by omega⟩;rw [show (dp-(r1:Int)+1-((n+d-r1:Nat):Int)+2000).toNat=a+1 by omega,ha,Nat.pow_add 10 a d,Nat.pow_succ];generalize quR N n k (n+d)=q at *;generalize 2 ^ k=t at *;generalize (10:Nat) ^ a=b at *;generalize (10:Nat) ^ d=c at *;have e1:q*(b*10)*t=q*(10*t)*b:=by ac_rfl
 have e2:N*(b*c)=N*c*b:=by ac_rfl
 rw [e1,e2,hq]
end dmx

/- Multiprecision decimals: the shift to the left: plain arithmetic. No conditions but those stated. -/
namespace dmx
def caL (N k e:Nat):Nat:=N % 10 ^ e*2 ^ k / 10 ^ e
theorem ca_zero (N k:Nat):caL N k 0=0:=by
 unfold caL;rw [Nat.pow_zero,Nat.mod_one,Nat.zero_mul]
theorem mod_step (N e:Nat):N % 10 ^ (e+1)=N / 10 ^ e % 10*10 ^ e+N % 10 ^ e:=by
 rw [Nat.pow_succ,Nat.mod_mul,Nat.add_comm,Nat.mul_comm]
theorem step_L (N k e:Nat):(caL N k e+N / 10 ^ e % 10*2 ^ k) % 10=N*2 ^ k / 10 ^ e % 10∧(caL N k e+N / 10 ^ e % 10*2 ^ k) / 10=caL N k (e+1):=by
 have hp:0<10 ^ e:=Nat.pow_pos (by decide);have t:caL N k e+N / 10 ^ e % 10*2 ^ k=N % 10 ^ (e+1)*2 ^ k / 10 ^ e:=by
  unfold caL;rw [mod_step,Nat.add_mul,Nat.mul_assoc,Nat.mul_comm (10 ^ e),<- Nat.mul_assoc,Nat.add_comm (N / 10 ^ e % 10*2 ^ k*10 ^ e),Nat.add_mul_div_right _ _ hp]
 rw [t]
 constructor
 ·have e1:N*2 ^ k=N % 10 ^ (e+1)*2 ^ k+10*(N / 10 ^ (e+1)*2 ^ k)*10 ^ e:=by
   have h:=Nat.div_add_mod N (10 ^ (e+1));have h2:10*(N / 10 ^ (e+1)*2 ^ k)*10 ^ e=10 ^ (e+1)*(N / 10 ^ (e+1))*2 ^ k:=by
    rw [Nat.pow_succ]
    ac_rfl
   rw [h2,Nat.add_comm,<- Nat.add_mul,h]
  rw [e1,Nat.add_mul_div_right _ _ hp,Nat.add_mul_mod_self_left]
 ·unfold caL;rw [Nat.div_div_eq_div_mul,Nat.pow_succ]
theorem ca_all {N n:Nat} (h:N<10 ^ n) (k e:Nat) (he:n <= e):caL N k e=N*2 ^ k / 10 ^ e:=by
 unfold caL;rw [Nat.mod_eq_of_lt (Nat.lt_of_lt_of_le h (Nat.pow_le_pow_right (by decide) he))]
theorem ca_bd (N k e:Nat):caL N k e<2 ^ k:=by
 unfold caL;rw [Nat.div_lt_iff_lt_mul (Nat.pow_pos (by decide)),Nat.mul_comm (2 ^ k)];exact Nat.mul_lt_mul_of_pos_right (Nat.mod_lt _ (Nat.pow_pos (by decide))) (two_pos k)
theorem lt_of_div {a p b q:Nat} (hp:0<p) (hq:0<q) (h:a / p<b / q):a*q<b*p:=by
 have h1:a<(a / p+1)*p:=by
  have:=Nat.lt_mul_div_succ a hp;rw [Nat.mul_comm];exact this
 have h2:(a / p+1)*p <= b / q*p:=Nat.mul_le_mul_right _ h;have h3:b / q*q <= b:=Nat.div_mul_le_self b q
 calc a*q<b / q*p*q:=Nat.mul_lt_mul_of_pos_right (Nat.lt_of_lt_of_le h1 h2) hq
  _=b / q*q*p:=Nat.mul_right_comm _ _ _
  _ <= b*p:=Nat.mul_le_mul_right _ h3
def lessB (N n C c:Nat):Bool:=decide (N*10 ^ c<C*10 ^ n)
theorem less_lt {N n C c i:Nat} (h:preN N n i=preN C c i) (hd:dgN N n i<dgN C c i):lessB N n C c=true:=by
 unfold lessB;have h1:=pre_succ N n i;have h2:=pre_succ C c i;have h3:preN N n (i+1)<preN C c (i+1):=by omega
 have h4:=lt_of_div (Nat.pow_pos (by decide)) (Nat.pow_pos (by decide)) h3;rw [Nat.mul_right_comm,Nat.mul_right_comm C] at h4;exact decide_eq_true (Nat.lt_of_mul_lt_mul_right h4)
theorem less_gt {N n C c i:Nat} (h:preN N n i=preN C c i) (hd:dgN C c i<dgN N n i):lessB N n C c=false:=by
 unfold lessB;have h1:=pre_succ N n i;have h2:=pre_succ C c i;have h3:preN C c (i+1)<preN N n (i+1):=by omega
 have h4:=lt_of_div (Nat.pow_pos (by decide)) (Nat.pow_pos (by decide)) h3;rw [Nat.mul_right_comm,Nat.mul_right_comm N] at h4;exact decide_eq_false (Nat.not_lt_of_lt (Nat.lt_of_mul_lt_mul_right h4))
theorem less_end {N n C c:Nat} (h:preN N n c=preN C c c):lessB N n C c=false:=by
 unfold lessB;rw [pre_all] at h;refine decide_eq_false (Nat.not_lt_of_le ?_);unfold preN at h;rw [<- h];exact Nat.div_mul_le_self _ _
theorem less_out {N n C c:Nat} (h:preN N n n=preN C c n) (hc:n<c) (hm:C % 10≠0):lessB N n C c=true:=by
 unfold lessB;rw [pre_all] at h;refine decide_eq_true ?_;unfold preN at h;have h1:N*10 ^ c <= C*10 ^ n:=by rw [h]; exact Nat.div_mul_le_self _ _
 refine Nat.lt_of_le_of_ne h1 fun e=>hm ?_;obtain ⟨d,rfl⟩:∃ d,c=d+1+n:=⟨c-n-1,by omega⟩;rw [Nat.pow_add,<- Nat.mul_assoc] at e;have e2:N*10 ^ (d+1)=C:=Nat.eq_of_mul_eq_mul_right (Nat.pow_pos (by decide)) e;rw [<- e2,Nat.pow_succ,<- Nat.mul_assoc];exact Nat.mul_mod_left _ _
theorem delta_no {N n k c:Nat} (hN:N<10 ^ n) (h1:10 ^ c <= 10*5 ^ k) (hc:c <= k+1) (h:lessB N n (5 ^ k) c=false) :
  10 ^ (n+k) <= N*2 ^ k*10 ^ c∧N*2 ^ k<10 ^ (n+(k+1-c)):=by
 have h2:5 ^ k*10 ^ n <= N*10 ^ c:=Nat.le_of_not_lt (of_decide_eq_false h);have ht:(10:Nat) ^ k=2 ^ k*5 ^ k:=by rw [<- Nat.mul_pow]
 constructor
 ·have:5 ^ k*10 ^ n*2 ^ k <= N*10 ^ c*2 ^ k:=Nat.mul_le_mul_right _ h2;rw [Nat.pow_add,ht];have e1:10 ^ n*(2 ^ k*5 ^ k)=5 ^ k*10 ^ n*2 ^ k:=by ac_rfl
  have e2:N*2 ^ k*10 ^ c=N*10 ^ c*2 ^ k:=by ac_rfl
  rw [e1,e2];exact this
 ·have h3:N*2 ^ k<10 ^ n*2 ^ k:=Nat.mul_lt_mul_of_pos_right hN (two_pos k);have h4:2 ^ k*10 ^ c <= 10 ^ (k+1-c)*10 ^ c:=by
   rw [<- Nat.pow_add,show k+1-c+c=k+1 by omega,Nat.pow_succ,ht];have:=Nat.mul_le_mul_left (2 ^ k) h1;rw [<- Nat.mul_assoc,Nat.mul_comm (2 ^ k) 10,Nat.mul_assoc,Nat.mul_comm 10] at this;exact this
  have h5:2 ^ k <= 10 ^ (k+1-c):=Nat.le_of_mul_le_mul_right h4 (Nat.pow_pos (by decide));rw [Nat.pow_add];exact Nat.lt_of_lt_of_le h3 (Nat.mul_le_mul_left _ h5)
theorem delta_yes {N n k c:Nat} (hN:10 ^ n <= 10*N) (h1:5 ^ k<10 ^ c) (h:lessB N n (5 ^ k) c=true) :
  N*2 ^ k*10 ^ c<10 ^ (n+k)∧10 ^ (n+k) <= 10*(N*2 ^ k)*10 ^ c:=by
 have h2:N*10 ^ c<5 ^ k*10 ^ n:=of_decide_eq_true h;have ht:(10:Nat) ^ k=2 ^ k*5 ^ k:=by rw [<- Nat.mul_pow]
 constructor
 ·have:N*10 ^ c*2 ^ k<5 ^ k*10 ^ n*2 ^ k:=Nat.mul_lt_mul_of_pos_right h2 (two_pos k);rw [Nat.pow_add,ht];have e1:10 ^ n*(2 ^ k*5 ^ k)=5 ^ k*10 ^ n*2 ^ k:=by ac_rfl
  have e2:N*2 ^ k*10 ^ c=N*10 ^ c*2 ^ k:=by ac_rfl
  rw [e1,e2];exact this
 ·rw [Nat.pow_add,ht];have e1:10*(N*2 ^ k)*10 ^ c=10*N*(2 ^ k*10 ^ c):=by ac_rfl
  rw [e1];exact Nat.mul_le_mul hN (Nat.mul_le_mul_left _ (Nat.le_of_lt h1))
end dmx

/- Multiprecision decimals: how many digits there can be, and rounding to a whole number: plain arithmetic. No conditions but those stated. -/
namespace dmx
theorem five_ten (s:Nat):5 ^ s <= 10 ^ (7*(s / 10)+7):=by
 have h1:(5:Nat) ^ s <= 5 ^ (10*(s / 10+1)):=Nat.pow_le_pow_right (by decide) (by omega);have h2:(5:Nat) ^ (10*(s / 10+1)) <= 10 ^ (7*(s / 10+1)):=by
  rw [Nat.pow_mul,Nat.pow_mul];exact Nat.pow_le_pow_left (by decide) _
 have e:7*(s / 10+1)=7*(s / 10)+7:=by omega
 rw [e] at h2;exact Nat.le_trans h1 h2
theorem pow_lt_inv {a b:Nat} (h:10 ^ a<10 ^ b):a<b:=by
 refine Nat.lt_of_not_le fun hl => ?_;exact absurd (Nat.pow_le_pow_right (n:=10) (by decide) hl) (Nat.not_le_of_lt h)
theorem d10:∀ d:Nat,d≠0 -> 10 ∣ 10 ^ d
 | 0,h=>absurd rfl h
 | d+1,_=>Nat.dvd_mul_left 10 (10 ^ d)
theorem right_bd {N N0 q q0 s:Nat} (hm:N % 10≠0) (h:N*10 ^ q*2 ^ s=N0*10 ^ q0):N <= N0*5 ^ s:=by
 by_cases hq:q0 <= q
 ·obtain ⟨d,rfl⟩:=Nat.exists_eq_add_of_le hq;have h1:N*10 ^ d*2 ^ s=N0:=by
   rw [Nat.pow_add] at h;have e:N*(10 ^ q0*10 ^ d)*2 ^ s=N*10 ^ d*2 ^ s*10 ^ q0:=by ac_rfl
   rw [e] at h;exact Nat.eq_of_mul_eq_mul_right (Nat.pow_pos (by decide)) h
  have h2:N <= N0:=by
   rw [<- h1,Nat.mul_assoc];exact Nat.le_mul_of_pos_right _ (Nat.mul_pos (Nat.pow_pos (by decide)) (two_pos s))
  exact Nat.le_trans h2 (Nat.le_mul_of_pos_right _ (Nat.pow_pos (by decide)))
 ·obtain ⟨d,hd⟩:∃ d,q0=q+d:=⟨q0-q,by omega⟩;subst hd;have hd0:d≠0:=by omega
  have h1:N*2 ^ s=N0*10 ^ d:=by
   rw [Nat.pow_add] at h;have e:N*10 ^ q*2 ^ s=N*2 ^ s*10 ^ q:=by ac_rfl
   have e2:N0*(10 ^ q*10 ^ d)=N0*10 ^ d*10 ^ q:=by ac_rfl
   rw [e,e2] at h;exact Nat.eq_of_mul_eq_mul_right (Nat.pow_pos (by decide)) h
  have ht:(10:Nat) ^ d=2 ^ d*5 ^ d:=by rw [<- Nat.mul_pow]
  have c5:Nat.Coprime 5 (2 ^ s):=Nat.Coprime.pow_right s (by decide);have f5:5 ∣ N:=by
   have:5 ∣ N*2 ^ s:=by
    rw [h1];exact Nat.dvd_mul_left_of_dvd (Nat.dvd_trans (by decide:5 ∣ 10) (d10 d hd0)) _
   exact c5.dvd_of_dvd_mul_right this
  have n2:N % 2=1:=by
   obtain ⟨c,rfl⟩:=f5;omega
  have c2:Nat.Coprime (2 ^ d) N:=Nat.Coprime.pow_left d (by
   rw [Nat.coprime_comm,Nat.Coprime,Nat.gcd_comm,Nat.gcd_rec,n2];decide)
  have h2d:2 ^ d ∣ 2 ^ s:=by
   have:2 ^ d ∣ N*2 ^ s:=by
    rw [h1,ht];exact Nat.dvd_mul_left_of_dvd (Nat.dvd_mul_right _ _) _
   exact c2.dvd_of_dvd_mul_left this
  have hds:d <= s:=(Nat.pow_dvd_pow_iff_le_right (by decide)).1 h2d;obtain ⟨c,rfl⟩:=Nat.exists_eq_add_of_le hds;have h3:N*2 ^ c=N0*5 ^ d:=by
   rw [Nat.pow_add,ht] at h1;have e:N*(2 ^ d*2 ^ c)=N*2 ^ c*2 ^ d:=by ac_rfl
   have e2:N0*(2 ^ d*5 ^ d)=N0*5 ^ d*2 ^ d:=by ac_rfl
   rw [e,e2] at h1;exact Nat.eq_of_mul_eq_mul_right (two_pos d) h1
  have h4:N <= N0*5 ^ d:=by
   rw [<- h3];exact Nat.le_mul_of_pos_right _ (two_pos c)
  exact Nat.le_trans h4 (Nat.mul_le_mul_left _ (Nat.pow_le_pow_right (by decide) (by omega)))
theorem right_n {N n N0 n0 q q0 s:Nat} (g:DGood N n) (h0:N0<10 ^ n0) (h:N*10 ^ q*2 ^ s=N0*10 ^ q0):n <= n0+7*(s / 10)+7:=by
 have h1:=right_bd g.md h;have h2:=five_ten s;have h3:N0*5 ^ s<10 ^ (n0+(7*(s / 10)+7)):=by
  rw [Nat.pow_add];exact Nat.lt_of_lt_of_le (Nat.mul_lt_mul_of_pos_right h0 (Nat.pow_pos (by decide))) (Nat.mul_le_mul_left _ h2)
 have h4:=pow_lt_inv (Nat.lt_of_le_of_lt (Nat.le_trans g.lo h1) h3);have:=g.n1;omega
theorem left_q {N N1 q q1 j:Nat} (hm:N % 10≠0) (h:N*10 ^ q=N1*10 ^ q1*2 ^ j):q1 <= q:=by
 refine Nat.le_of_not_lt fun hl=>hm ?_;obtain ⟨d,rfl⟩:∃ d,q1=q+(d+1):=⟨q1-q-1,by omega⟩;rw [Nat.pow_add] at h;have e:N1*(10 ^ q*10 ^ (d+1))*2 ^ j=N1*10 ^ (d+1)*2 ^ j*10 ^ q:=by ac_rfl
 rw [e] at h;have h1:=Nat.eq_of_mul_eq_mul_right (Nat.pow_pos (by decide)) h;rw [h1,Nat.pow_succ];have e2:N1*(10 ^ d*10)*2 ^ j=N1*10 ^ d*2 ^ j*10:=by ac_rfl
 rw [e2];exact Nat.mul_mod_left _ _
def oneE:Nat:=2000
theorem oneE_eq:oneE=2000:=rfl
def one:Nat:=10 ^ oneE
theorem one_pos:0<one:=Nat.pow_pos (by decide)
theorem val_bd {N n:Nat} (g:WGood N n) (dp:Int) (h:(n:Int) <= dp+2000):10 ^ (dp+1999).toNat <= val N n dp∧val N n dp<10 ^ (dp+2000).toNat:=by
 have h1:=g.n1;unfold val
 constructor
 ·rw [show (dp+1999).toNat=n-1+(dp-n+2000).toNat by omega,Nat.pow_add];exact Nat.mul_le_mul_right _ g.lo
 ·rw [show (dp+2000).toNat=n+(dp-n+2000).toNat by omega,Nat.pow_add];exact Nat.mul_lt_mul_of_pos_right g.hi (Nat.pow_pos (by decide))
theorem val_ge {N n:Nat} (g:WGood N n) (dp:Int) (k:Nat) (h:(n:Int) <= dp+2000) (hk:(k:Int)+1 <= dp):10 ^ k*one <= val N n dp:=by
 refine Nat.le_trans ?_ (val_bd g dp h).1;unfold one;have he:=oneE_eq;rw [<- Nat.pow_add];exact Nat.pow_le_pow_right (by decide) (by omega)
theorem val_lt {N n:Nat} (g:WGood N n) (dp:Int) (k:Nat) (h:(n:Int) <= dp+2000) (hk:dp <= (k:Int)):val N n dp<10 ^ k*one:=by
 refine Nat.lt_of_lt_of_le (val_bd g dp h).2 ?_;unfold one;have he:=oneE_eq;rw [<- Nat.pow_add];exact Nat.pow_le_pow_right (by decide) (by omega)
theorem val_small {N n:Nat} (g:WGood N n) (dp:Int) (k:Nat) (h:(n:Int) <= dp+2000) (hk:dp+(k:Int) <= 0) (hk2:k <= 2000):val N n dp*10 ^ k<one:=by
 have h1:=(val_bd g dp h).2;refine Nat.lt_of_lt_of_le (Nat.mul_lt_mul_of_pos_right h1 (Nat.pow_pos (by decide))) ?_;unfold one;have he:=oneE_eq;rw [<- Nat.pow_add];exact Nat.pow_le_pow_right (by decide) (by omega)
end dmx

/- What decimal.right and strconv's readFloat read in a text: plain. -/
namespace rdf
def isD (c:UInt8):Bool:=decide (48 <= c.toNat) && decide (c.toNat <= 57)
def dgs:List UInt8 -> Nat
 | []=>0
 | c :: l=>if isD c then dgs l+1 else 0
theorem dgs_le:∀ l,dgs l <= l.length
 | []=>Nat.le_refl _
 | c :: l=>by
  unfold dgs;have:=dgs_le l
  split <;> simp <;> omega
def expB:List UInt8 -> Bool
 | []=>false
 | c :: l=>(c == 101 || c == 69) && (let r:=if l.head? = some 43∨l.head? = some 45 then l.drop 1 else l
   decide (1 <= dgs r) && decide (dgs r <= 3) && decide (dgs r=r.length))
def unsg (l:List UInt8):List UInt8:=if l.head? = some 45 then l.drop 1 else l
def cutN (l:List UInt8):Nat × List UInt8 :=
 let r:=l.drop (dgs l)
 if r.head? = some 46 then (dgs l+dgs (r.drop 1),(r.drop 1).drop (dgs (r.drop 1))) else (dgs l,r)
def rightL (l:List UInt8):Bool :=
 if 40<l.length then false
 else let q:=cutN (unsg l)
  if q.1<1∨30<q.1∨q.2=[] then decide (1 <= q.1) && decide (q.1 <= 30) else expB q.2
structure MS where
 N:Nat
 m:Nat
 dot:Bool
 sd:Bool
 nd:Nat
 nm:Nat
 dp:Int
 tr:Bool
def ms0:MS:=⟨0,0,false,false,0,0,0,false⟩
def dgS (c:UInt8) (x:MS):MS :=
 if c.toNat=48∧x.nd=0 then { x with sd:=true,dp:=x.dp-1 }
 else if x.nm<19 then { x with N:=x.N*10+(c.toNat-48),sd:=true,nd:=x.nd+1,m:=x.m*10+(c.toNat-48),nm:=x.nm+1 }
 else { x with N:=x.N*10+(c.toNat-48),sd:=true,nd:=x.nd+1,tr:=x.tr || decide (c.toNat≠48) }
def dotS (x:MS):MS:={ x with dot:=true,dp:=x.nd }
def mL:List UInt8 -> MS -> MS × List UInt8
 | [],x=>(x,[])
 | c :: l,x=>if c.toNat=46 then (if x.dot then (x,c :: l) else mL l (dotS x))
   else if isD c then mL l (dgS c x) else (x,c :: l)
theorem isD_iff (c:UInt8):isD c=true↔48 <= c.toNat∧c.toNat <= 57:=by
 unfold isD;rw [Bool.and_eq_true,decide_eq_true_eq,decide_eq_true_eq]
structure MOk (n:Nat) (x:MS):Prop where
 m:x.m<10 ^ x.nm
 nm:x.nm <= 19
 nd:x.nd <= n
 d0 : -(n:Int) <= x.dp
 d1:x.dp <= n
 mn:x.nm <= x.nd
 full:x.nm<19 -> x.nm=x.nd
 hN:x.N<10 ^ x.nd
 lo:0<x.nd -> 10 ^ (x.nd-1) <= x.N
 q:x.m=x.N / 10 ^ (x.nd-x.nm)
 t:x.tr=decide (x.N % 10 ^ (x.nd-x.nm)≠0)
theorem mok0:MOk 0 ms0:=⟨by decide,by decide,by decide,by decide,by decide,by decide,by decide,by decide,by decide,by decide,by decide⟩
theorem mok_mono {n k:Nat} {x:MS} (h:MOk n x) (hk:n <= k):MOk k x :=
 ⟨h.m,h.nm,Nat.le_trans h.nd hk,by have:=h.d0; omega,by have:=h.d1; omega,h.mn,h.full,h.hN,h.lo,h.q,h.t⟩
theorem mok_dg {n:Nat} {x:MS} (h:MOk n x) (c:UInt8) (hc:isD c=true):MOk (n+1) (dgS c x):=by
 have hc2:=(isD_iff c).1 hc;obtain ⟨a,b,d,e,f,g,i,j,k,q,t⟩:=h;obtain ⟨y,hy⟩:∃ y,c.toNat-48=y:=⟨_,rfl⟩;have hy9:y <= 9:=by omega
 unfold dgS;rw [hy];have hlow:0<x.nd -> 10 ^ (x.nd+1-1) <= x.N*10+y:=fun h0=>by
  have h1:=k h0;rw [show x.nd+1-1=x.nd-1+1 by omega,Nat.pow_succ];omega
 have hhi:x.N*10+y<10 ^ (x.nd+1):=by
  rw [Nat.pow_succ];omega
 split
 ·exact ⟨a,b,Nat.le_succ_of_le d,by show -((n+1:Nat):Int) <= x.dp-1; omega,by show x.dp-1 <= ((n+1:Nat):Int); omega,g,i,j,k,q,t⟩
 ·rename_i hns;have hlo2:0<x.nd+1 -> 10 ^ (x.nd+1-1) <= x.N*10+y:=fun _=>by
   by_cases h0:0<x.nd
   ·exact hlow h0
   ·have h1:x.nd=0:=by omega
    have h2:¬ c.toNat=48:=fun h=>hns ⟨h,h1⟩;rw [h1];show 1 <= _;omega
  split
  ·rename_i hm;have hf:=i hm;have hd0:x.nd-x.nm=0:=by omega
   rw [hd0,Nat.pow_zero,Nat.div_one] at q;rw [hd0,Nat.pow_zero,Nat.mod_one] at t;refine ⟨?_,by show x.nm+1 <= 19; omega,by show x.nd+1 <= n+1; omega,by show -((n+1:Nat):Int) <= x.dp; omega,by show x.dp <= ((n+1:Nat):Int); omega,by show x.nm+1 <= x.nd+1; omega,fun _=>by show x.nm+1=x.nd+1; omega,hhi,hlo2,?_,?_⟩
   ·show x.m*10+y<10 ^ (x.nm+1);rw [Nat.pow_succ];omega
   ·show x.m*10+y=(x.N*10+y) / 10 ^ (x.nd+1-(x.nm+1));rw [show x.nd+1-(x.nm+1)=0 by omega,Nat.pow_zero,Nat.div_one,q]
   ·show x.tr=decide ((x.N*10+y) % 10 ^ (x.nd+1-(x.nm+1))≠0);rw [show x.nd+1-(x.nm+1)=0 by omega,Nat.pow_zero,Nat.mod_one,t]
  ·rename_i hm;have hm19:x.nm=19:=by omega
   have he:x.nd+1-x.nm=x.nd-x.nm+1:=by omega
   have hp:0<10 ^ (x.nd-x.nm):=Nat.pow_pos (by decide);refine ⟨a,b,by show x.nd+1 <= n+1; omega,by show -((n+1:Nat):Int) <= x.dp; omega,by show x.dp <= ((n+1:Nat):Int); omega,Nat.le_succ_of_le g,fun h=>absurd h hm,hhi,hlo2,?_,?_⟩
   ·show x.m=(x.N*10+y) / 10 ^ (x.nd+1-x.nm);rw [he,Nat.pow_succ,Nat.mul_comm (10 ^ (x.nd-x.nm)) 10,<- Nat.div_div_eq_div_mul,show (x.N*10+y) / 10=x.N by omega,q]
   ·show (x.tr || decide (c.toNat≠48))=decide ((x.N*10+y) % 10 ^ (x.nd+1-x.nm)≠0);rw [he,Nat.pow_succ,Nat.mul_comm (10 ^ (x.nd-x.nm)) 10,Nat.mod_mul,show (x.N*10+y) % 10=y by omega,show (x.N*10+y) / 10=x.N by omega,t];have h48:decide (c.toNat≠48)=decide (y≠0):=by
     by_cases h:c.toNat=48
     ·rw [decide_eq_false (by omega),decide_eq_false (by omega)]
     ·rw [decide_eq_true (by omega),decide_eq_true (by omega)]
    rw [h48];generalize x.N % 10 ^ (x.nd-x.nm)=Z
    by_cases h1:Z=0
    ·by_cases h2:y=0
     ·rw [h1,h2]; rfl
     ·have e1:decide (y+10*Z≠0)=true:=decide_eq_true (by omega);have e2:decide (y≠0)=true:=decide_eq_true h2;rw [e1,e2,Bool.or_true]
    ·have e1:decide (y+10*Z≠0)=true:=decide_eq_true (by omega);have e2:decide (Z≠0)=true:=decide_eq_true h1;rw [e1,e2,Bool.true_or]
theorem mok_dot {n:Nat} {x:MS} (h:MOk n x):MOk (n+1) (dotS x) :=
 ⟨h.m,h.nm,Nat.le_succ_of_le h.nd,by show -((n+1:Nat):Int) <= (x.nd:Int); omega,by have:=h.nd; show (x.nd:Int) <= ((n+1:Nat):Int); omega,h.mn,h.full,h.hN,h.lo,h.q,h.t⟩
def eL:List UInt8 -> Nat -> Nat
 | [],e=>e
 | c :: l,e=>eL l (e*10+(c.toNat-48))
def exV (l:List UInt8):Int:=if l.head? = some 45 then -(eL (l.drop 1) 0:Int) else if l.head? = some 43 then (eL (l.drop 1) 0:Int) else (eL l 0:Int)
end rdf
end Go.Proofs.YtcbgkbidgpemfaaGreatDoor
