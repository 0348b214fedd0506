/- The walks of lex's small functions: letter, digit, the closures, run, first. No conditions. -/
import Derived.Test.YtcbgkbidgpemfaaGreatDoorMf00
import Derived.Test.YtcbgkbidgpemfaaGreatDoorMf02
import Derived.Test.YtcbgkbidgpemfaaGreatDoorProg
import Derived.WalkKit
import Derived.WalkLawsBesides
import Derived.WalkSpells
import Derived.Lib.Hide
import Derived.Outline
import Derived.Laws.EntriesVeiled
import Derived.RangeFuncNested
import Derived.RangeFuncBox
namespace Go.Proofs.YtcbgkbidgpemfaaGreatDoor
set_option maxHeartbeats 1000000
namespace lexw
open Go.RowKit
open lexm
theorem ret_bool {a b:Bool} (h:a=b):Ending.returned (.bool a) = .returned (.bool b):=by rw [h]
theorem ret_int {k:IntKind} {a b:Int} (h:a=b):Ending.returned (.int k a) = .returned (.int k b):=by rw [h]
theorem or32:∀ n:Fin 256,(ltrI n.val=(decide ((n.val:Int)=95) || (decide (97 <= bits BinOp.or IntKind.u8 n.val 32) && decide (bits BinOp.or IntKind.u8 n.val 32 <= 122)))):=by decide +kernel
theorem or32_int (c:Int) (h0:0 <= c) (h1:c <= 255):ltrI c=(decide (c=95) || (decide (97 <= bits BinOp.or IntKind.u8 c 32) && decide (bits BinOp.or IntKind.u8 c 32 <= 122))):=by
 have:=or32 ⟨c.toNat,by omega⟩;simp only [Int.toNat_of_nonneg h0] at this;exact this
theorem letter_any (c:Int) (h0:0 <= c) (h1:c <= 255) (w:World):Calls Tryz.prog 134 #[.int .u8 c] w fun e w'=>e = .returned (.bool (ltrI c))∧w=w':=by
 have H:=Yd (or32_int c h0 h1);go_enter Tryz.func134,Tryz.ntmps134;go_wp2
 all_goals go_ret
 ·have h:c=95:=by assumption
  exact ⟨ret_bool (by rw [H.out,h]; rfl),rfl⟩
 ·have h:¬ c=95:=by assumption
  have h2:97 <= bits BinOp.or IntKind.u8 c 32:=by assumption
  exact ⟨ret_bool (by rw [H.out]; simp [h,h2]),rfl⟩
 ·have h:¬ c=95:=by assumption
  have h2:bits BinOp.or IntKind.u8 c 32<97:=by assumption
  have h3:¬ 97 <= bits BinOp.or IntKind.u8 c 32:=by omega
  exact ⟨ret_bool (by rw [H.out]; simp [h,h3]),rfl⟩
theorem digit_any (c:Int) (w:World):Calls Tryz.prog 135 #[.int .u8 c] w fun e w'=>e = .returned (.bool (digI c))∧w=w':=by
 go_enter Tryz.func135,Tryz.ntmps135;go_wp2
 all_goals go_ret
 ·have h:48 <= c:=by assumption
  exact ⟨ret_bool (by simp [digI,h]),rfl⟩
 ·have h:¬ 48 <= c:=by omega
  exact ⟨ret_bool (by simp [digI,h]),rfl⟩
theorem name_any (c:Int) (h0:0 <= c) (h1:c <= 255) (w:World):Calls Tryz.prog 133 #[.int .u8 c] w fun e w'=>e = .returned (.bool (namI c))∧w=w':=by
 have hn:namI c=(ltrI c || digI c):=rfl
 cases hl:ltrI c
 all_goals
  have Hl:=Yd hl;have Hn:=Yd hn;clear hl hn;go_enter Tryz.func133,Tryz.ntmps133;go_wp2_with (first | (go_at_call 134; refine (letter_any _ h0 h1 _).mono ?_; rw [Hl.out]; rintro e w' ⟨rfl,rfl⟩) | (go_at_call 135; refine (digit_any _ _).mono ?_; rintro e w' ⟨rfl,rfl⟩));go_ret;exact ⟨ret_bool (by rw [Hn.out,Hl.out]; rfl),rfl⟩
theorem rem_any (c:Int) (w:World):Calls Tryz.prog 139 #[.int .u8 c] w fun e w'=>e = .returned (.bool (remI c))∧w=w':=by
 go_enter Tryz.func139,Tryz.ntmps139;go_wp2;go_ret;exact ⟨ret_bool (by simp [remI,bne]),rfl⟩
theorem idx_num (c:Int) (h0:0 <= c) (h1:c <= 255):decide (0 <= Lib.indexByte [45,43,46] c.toNat.toUInt8)=(c == 45 || c == 43 || c == 46):=by
 have h:∀ n:Fin 256,decide (0 <= Lib.indexByte [45,43,46] n.val.toUInt8)=((n.val:Int) == 45 || (n.val:Int) == 43 || (n.val:Int) == 46):=by decide +kernel
 have:=h ⟨c.toNat,by omega⟩;simp only [Int.toNat_of_nonneg h0] at this;exact this
theorem number_any (c:Int) (h0:0 <= c) (h1:c <= 255) (w:World) (b:Nat) (hc:w.cell? ⟨b,0,none⟩=some (.func (.func 133) #[] #[])) :
  Calls Tryz.prog 136 #[.int .u8 c,.pointer (some ⟨b,0,none⟩)] w fun e w'=>e = .returned (.bool (numI c))∧w=w':=by
 have hi:=idx_num c h0 h1;have hn:numI c=((!(c == 95) && namI c) || (c == 45 || c == 43 || c == 46)):=by simp [numI,Bool.or_assoc]
 rw [<- hi] at hn;clear hi;have HN:=Yd hn;clear hn
 by_cases h95:c=95
 ·subst h95;go_enter Tryz.func136,Tryz.ntmps136;go_wp2_with (first | (go_at_call 137; refine (Tryz.strings_IndexByte _ _ _).mono ?_; rintro e w' ⟨rfl,rfl⟩));go_ret;exact ⟨ret_bool (by decide +kernel),rfl⟩
 ·have h95':(c == 95)=false:=by simpa using h95
  have h95'':(c != 95)=true:=by simpa using h95
  cases hl:namI c
  all_goals
   have Hl:=Yd hl;clear hl;go_enter Tryz.func136,Tryz.ntmps136;go_wp2_with (first | (go_at_call 133; refine (name_any _ h0 h1 _).mono ?_; rw [Hl.out]; rintro e w' ⟨rfl,rfl⟩) | (go_at_call 137; refine (Tryz.strings_IndexByte _ _ _).mono ?_; rintro e w' ⟨rfl,rfl⟩));go_ret;exact ⟨ret_bool (by rw [HN.out,Hl.out,h95']; rfl),rfl⟩
theorem drop_cons (s:ByteArray) (k:Nat) (h:k<s.size):s.data.toList.drop k=s[k] :: s.data.toList.drop (k+1):=by
 rw [List.drop_eq_getElem_cons (by simpa using h)]; rfl
theorem drop_end (s:ByteArray) (k:Nat) (h:s.size <= k):s.data.toList.drop k=[]:=List.drop_eq_nil_of_le (by simpa using h)
theorem byte_le (s:ByteArray) (k:Nat) (h:k<s.size):(s[k].toNat:Int) <= 255:=by have:=UInt8.toNat_lt s[k]; omega
theorem run_nam (s:ByteArray) (w:World) (hs:s.size <= maxLen) :
  Calls Tryz.prog 138 #[.string s,.func (.func 133) #[] #[]] w fun e w'=>e = .returned (.int .i64 (runL namI s.data.toList))∧w=w':=by
 unfold maxLen at hs;go_enter Tryz.func138,Tryz.ntmps138;go_wp2
 go_loop [5] (fun i=>∃ k:Nat,k <= s.size∧i = .int .i64 k∧runL namI s.data.toList=runL namI (s.data.toList.drop k)+k) (fun i=>s.size-(intOf i).toNat)
 case atStart=>exact ⟨0,Nat.zero_le _,rfl,rfl⟩
 case round =>
  obtain ⟨k,hk,rfl,hr⟩:=hrel;have HR:=Yd hr;clear hr
  by_cases hlt:k<s.size
  ·have h255:=byte_le s k hlt
   cases hp:namI s[k].toNat
   ·have h2:=runL_neg (p:=namI) (r:=s.data.toList.drop (k+1)) hp;rw [<- drop_cons s k hlt] at h2;have H2:=Yd h2;have HP:=Yd hp;clear h2 hp;go_wp2_with (first | (go_at_call 133; refine (name_any _ (by omega) (by omega) _).mono ?_; rw [HP.out]; rintro e w' ⟨rfl,rfl⟩));go_ret;exact ⟨ret_int (by rw [HR.out,H2.out]; simp),rfl⟩
   ·have h2:=runL_pos (p:=namI) (r:=s.data.toList.drop (k+1)) hp;rw [<- drop_cons s k hlt] at h2;have H2:=Yd h2;have HP:=Yd hp;clear h2 hp;go_wp2_with (first | (go_at_call 133; refine (name_any _ (by omega) (by omega) _).mono ?_; rw [HP.out]; rintro e w' ⟨rfl,rfl⟩))
    go_round
    case rel=>exact ⟨k+1,by omega,by go_num,by rw [HR.out,H2.out]; omega⟩
    case measure=>simp [intOf]; omega
  ·have h2:=drop_end s k (by omega);have H2:=Yd h2;clear h2;go_wp2;go_ret;exact ⟨ret_int (by rw [HR.out,H2.out]; simp [runL]),rfl⟩
theorem run_num (s:ByteArray) (w:World) (hs:s.size <= maxLen) (b:Nat) (hc:w.cell? ⟨b,0,none⟩=some (.func (.func 133) #[] #[])) :
  Calls Tryz.prog 138 #[.string s,.func (.func 136) #[] #[.pointer (some ⟨b,0,none⟩)]] w fun e w'=>e = .returned (.int .i64 (runL numI s.data.toList))∧w=w':=by
 unfold maxLen at hs;go_enter Tryz.func138,Tryz.ntmps138;go_wp2
 go_loop [5] (fun i=>∃ k:Nat,k <= s.size∧i = .int .i64 k∧runL numI s.data.toList=runL numI (s.data.toList.drop k)+k) (fun i=>s.size-(intOf i).toNat)
 case atStart=>exact ⟨0,Nat.zero_le _,rfl,rfl⟩
 case round =>
  obtain ⟨k,hk,rfl,hr⟩:=hrel;have HR:=Yd hr;clear hr
  by_cases hlt:k<s.size
  ·have h255:=byte_le s k hlt
   cases hp:numI s[k].toNat
   ·have h2:=runL_neg (p:=numI) (r:=s.data.toList.drop (k+1)) hp;rw [<- drop_cons s k hlt] at h2;have H2:=Yd h2;have HP:=Yd hp;clear h2 hp;go_wp2_with (first | (go_at_call 136; refine (number_any _ (by omega) (by omega) _ b hc).mono ?_; rw [HP.out]; rintro e w' ⟨rfl,rfl⟩));go_ret;exact ⟨ret_int (by rw [HR.out,H2.out]; simp),rfl⟩
   ·have h2:=runL_pos (p:=numI) (r:=s.data.toList.drop (k+1)) hp;rw [<- drop_cons s k hlt] at h2;have H2:=Yd h2;have HP:=Yd hp;clear h2 hp;go_wp2_with (first | (go_at_call 136; refine (number_any _ (by omega) (by omega) _ b hc).mono ?_; rw [HP.out]; rintro e w' ⟨rfl,rfl⟩))
    go_round
    case rel=>exact ⟨k+1,by omega,by go_num,by rw [HR.out,H2.out]; omega⟩
    case measure=>simp [intOf]; omega
  ·have h2:=drop_end s k (by omega);have H2:=Yd h2;clear h2;go_wp2;go_ret;exact ⟨ret_int (by rw [HR.out,H2.out]; simp [runL]),rfl⟩
theorem run_rem (s:ByteArray) (w:World) (hs:s.size <= maxLen) :
  Calls Tryz.prog 138 #[.string s,.func (.func 139) #[] #[]] w fun e w'=>e = .returned (.int .i64 (runL remI s.data.toList))∧w=w':=by
 unfold maxLen at hs;go_enter Tryz.func138,Tryz.ntmps138;go_wp2
 go_loop [5] (fun i=>∃ k:Nat,k <= s.size∧i = .int .i64 k∧runL remI s.data.toList=runL remI (s.data.toList.drop k)+k) (fun i=>s.size-(intOf i).toNat)
 case atStart=>exact ⟨0,Nat.zero_le _,rfl,rfl⟩
 case round =>
  obtain ⟨k,hk,rfl,hr⟩:=hrel;have HR:=Yd hr;clear hr
  by_cases hlt:k<s.size
  ·have h255:=byte_le s k hlt
   cases hp:remI s[k].toNat
   ·have h2:=runL_neg (p:=remI) (r:=s.data.toList.drop (k+1)) hp;rw [<- drop_cons s k hlt] at h2;have H2:=Yd h2;have HP:=Yd hp;clear h2 hp;go_wp2_with (first | (go_at_call 139; refine (rem_any _ _).mono ?_; rw [HP.out]; rintro e w' ⟨rfl,rfl⟩));go_ret;exact ⟨ret_int (by rw [HR.out,H2.out]; simp),rfl⟩
   ·have h2:=runL_pos (p:=remI) (r:=s.data.toList.drop (k+1)) hp;rw [<- drop_cons s k hlt] at h2;have H2:=Yd h2;have HP:=Yd hp;clear h2 hp;go_wp2_with (first | (go_at_call 139; refine (rem_any _ _).mono ?_; rw [HP.out]; rintro e w' ⟨rfl,rfl⟩))
    go_round
    case rel=>exact ⟨k+1,by omega,by go_num,by rw [HR.out,H2.out]; omega⟩
    case measure=>simp [intOf]; omega
  ·have h2:=drop_end s k (by omega);have H2:=Yd h2;clear h2;go_wp2;go_ret;exact ⟨ret_int (by rw [HR.out,H2.out]; simp [runL]),rfl⟩
end lexw

/- The walk of lex.first: what a text begins with. Condition: the text is not empty. -/
namespace lexw
open Go.RowKit
open lexm
theorem firstL_at (s:ByteArray) (h:0<s.size):s.data.toList=s[0] :: s.data.toList.drop 1:=by
 have:=drop_cons s 0 h;simpa using this
theorem cellF (w:World):(w.alloc (.cells #[.func (.func 133) #[] #[]] 119)).cell? ⟨w.heap.size,0,none⟩=some (.func (.func 133) #[] #[]):=(Boxed.new w _ _).cell
def First (q:Nat × Nat × Bool) (w:World) (e:Ending) (w':World):Prop :=
 e = .returned (.tuple #[.int .u8 q.1,.int .i64 q.2.1,.bool q.2.2])∧Below w.heap.size w w'
theorem first_any (s:ByteArray) (w:World) (hs:s.size <= maxLen) (h0:0<s.size) :
  Calls Tryz.prog 98 #[.string s] w (First (firstL s.data.toList) w):=by
 have hsL:=hs;unfold maxLen at hs;have h255:=byte_le s 0 h0;have hq:firstL s.data.toList=firstL (s[0] :: s.data.toList.drop 1):=by rw [<- firstL_at s h0]
 obtain ⟨q,hqq⟩:∃ q,firstL s.data.toList=q:=⟨_,rfl⟩;rw [hqq];rw [hqq] at hq;simp only [firstL] at hq;rw [<- firstL_at s h0] at hq;obtain ⟨rem,hrem⟩:∃ r,runL remI s.data.toList=r:=⟨_,rfl⟩;obtain ⟨nam,hnam⟩:∃ r,runL namI s.data.toList=r:=⟨_,rfl⟩;obtain ⟨num,hnum⟩:∃ r,runL numI s.data.toList=r:=⟨_,rfl⟩;rw [hrem,hnam,hnum] at hq;have Hrem:=Yd hrem;have Hnam:=Yd hnam;have Hnum:=Yd hnum;clear hrem hnam hnum hqq;have hbx:Below w.heap.size w (w.alloc (.cells #[.func (.func 133) #[] #[]] 119)):=(Below.refl _ w).alloc (Nat.le_refl _) _
 by_cases c32:s[0].toNat=32
 ·rw [if_pos c32] at hq;subst hq;go_enter Tryz.func98,Tryz.ntmps98;go_wp2;go_ret3;exact ⟨rfl,hbx⟩
 rw [if_neg c32] at hq
 by_cases c35:s[0].toNat=35
 ·rw [if_pos c35] at hq;subst hq;clear c32;go_enter Tryz.func98,Tryz.ntmps98;go_wp2_with (first | (go_at_call 138; refine (run_rem _ _ hsL).mono ?_; rw [Hrem.out]; rintro e w' ⟨rfl,rfl⟩));go_ret3;exact ⟨rfl,hbx⟩
 rw [if_neg c35] at hq
 by_cases c10:s[0].toNat=10
 ·rw [if_pos c10] at hq;subst hq;go_enter Tryz.func98,Tryz.ntmps98;go_wp2;go_ret3;exact ⟨rfl,hbx⟩
 rw [if_neg c10] at hq
 by_cases c61:s[0].toNat=61
 ·rw [if_pos c61] at hq;subst hq;go_enter Tryz.func98,Tryz.ntmps98;go_wp2;go_ret3;exact ⟨rfl,hbx⟩
 rw [if_neg c61] at hq
 by_cases cl:ltrI s[0].toNat=true
 ·rw [if_pos cl] at hq;subst hq;have Hl:=Yd cl;clear cl;go_enter Tryz.func98,Tryz.ntmps98;go_wp2_with (first | (go_at_call 134; refine (letter_any _ (by omega) h255 _).mono ?_; rw [Hl.out]; rintro e w' ⟨rfl,rfl⟩) | (go_at_call 138; refine (run_nam _ _ hsL).mono ?_; rw [Hnam.out]; rintro e w' ⟨rfl,rfl⟩));go_ret3;exact ⟨by simp; omega,hbx⟩
 rw [if_neg cl] at hq;rw [Bool.not_eq_true] at cl
 by_cases cd:(digI s[0].toNat || (s[0].toNat:Int) == 45 || (s[0].toNat:Int) == 46)=true
 ·rw [if_pos cd] at hq;subst hq;have Hl:=Yd cl;clear cl
  cases hd:digI s[0].toNat
  ·rw [hd] at cd;have Hd:=Yd hd;clear hd
   by_cases c45:s[0].toNat=45
   ·have b45:((s[0].toNat:Int) == 45)=true:=Yt (by omega)
    clear cd c45 c61 c10 c35 c32;have c32:((s[0].toNat:Int) == 32)=false:=by have:=beq_iff_eq.1 b45; rw [beq_eq_false_iff_ne]; omega
    have c35:((s[0].toNat:Int) == 35)=false:=by have:=beq_iff_eq.1 b45; rw [beq_eq_false_iff_ne]; omega
    have c10:((s[0].toNat:Int) == 10)=false:=by have:=beq_iff_eq.1 b45; rw [beq_eq_false_iff_ne]; omega
    have c61:((s[0].toNat:Int) == 61)=false:=by have:=beq_iff_eq.1 b45; rw [beq_eq_false_iff_ne]; omega
    go_enter Tryz.func98,Tryz.ntmps98;go_wp2_with (first | (go_at_call 134; refine (letter_any _ (by omega) h255 _).mono ?_; rw [Hl.out]; rintro e w' ⟨rfl,rfl⟩) | (go_at_call 135; refine (digit_any _ _).mono ?_; rw [Hd.out]; rintro e w' ⟨rfl,rfl⟩) | (go_at_call 138; refine (run_num _ _ hsL _ (cellF w)).mono ?_; rw [Hnum.out]; rintro e w' ⟨rfl,rfl⟩));go_ret3;exact ⟨by simp; omega,hbx⟩
   ·have c46:s[0].toNat=46:=by
     simp only [Bool.false_or,Bool.or_eq_true,beq_iff_eq] at cd;omega
    have b46:((s[0].toNat:Int) == 46)=true:=Yt (by omega)
    clear cd c45 c46 c61 c10 c35 c32;have c32:((s[0].toNat:Int) == 32)=false:=by have:=beq_iff_eq.1 b46; rw [beq_eq_false_iff_ne]; omega
    have c35:((s[0].toNat:Int) == 35)=false:=by have:=beq_iff_eq.1 b46; rw [beq_eq_false_iff_ne]; omega
    have c10:((s[0].toNat:Int) == 10)=false:=by have:=beq_iff_eq.1 b46; rw [beq_eq_false_iff_ne]; omega
    have c61:((s[0].toNat:Int) == 61)=false:=by have:=beq_iff_eq.1 b46; rw [beq_eq_false_iff_ne]; omega
    have c45:((s[0].toNat:Int) == 45)=false:=by have:=beq_iff_eq.1 b46; rw [beq_eq_false_iff_ne]; omega
    go_enter Tryz.func98,Tryz.ntmps98;go_wp2_with (first | (go_at_call 134; refine (letter_any _ (by omega) h255 _).mono ?_; rw [Hl.out]; rintro e w' ⟨rfl,rfl⟩) | (go_at_call 135; refine (digit_any _ _).mono ?_; rw [Hd.out]; rintro e w' ⟨rfl,rfl⟩) | (go_at_call 138; refine (run_num _ _ hsL _ (cellF w)).mono ?_; rw [Hnum.out]; rintro e w' ⟨rfl,rfl⟩));go_ret3;exact ⟨by simp; omega,hbx⟩
  ·have Hd:=Yd hd;clear hd cd;go_enter Tryz.func98,Tryz.ntmps98;go_wp2_with (first | (go_at_call 134; refine (letter_any _ (by omega) h255 _).mono ?_; rw [Hl.out]; rintro e w' ⟨rfl,rfl⟩) | (go_at_call 135; refine (digit_any _ _).mono ?_; rw [Hd.out]; rintro e w' ⟨rfl,rfl⟩) | (go_at_call 138; refine (run_num _ _ hsL _ (cellF w)).mono ?_; rw [Hnum.out]; rintro e w' ⟨rfl,rfl⟩));go_ret3;exact ⟨by simp; omega,hbx⟩
 ·rw [if_neg cd] at hq;subst hq;rw [Bool.not_eq_true] at cd;simp only [Bool.or_eq_false_iff,beq_eq_false_iff_ne,ne_eq] at cd;obtain ⟨⟨cd,c45⟩,c46⟩:=cd;have b45:((s[0].toNat:Int) == 45)=false:=by rw [beq_eq_false_iff_ne]; exact c45
  have b46:((s[0].toNat:Int) == 46)=false:=by rw [beq_eq_false_iff_ne]; exact c46
  clear c45 c46;have Hl:=Yd cl;have Hd:=Yd cd;clear cl cd;go_enter Tryz.func98,Tryz.ntmps98;go_wp2_with (first | (go_at_call 134; refine (letter_any _ (by omega) h255 _).mono ?_; rw [Hl.out]; rintro e w' ⟨rfl,rfl⟩) | (go_at_call 135; refine (digit_any _ _).mono ?_; rw [Hd.out]; rintro e w' ⟨rfl,rfl⟩));go_ret3;exact ⟨rfl,hbx⟩
end lexw
end Go.Proofs.YtcbgkbidgpemfaaGreatDoor
