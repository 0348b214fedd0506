/- burnishlaw19.awake: the walk. Condition: the library's tables hold what the row lists. -/
import Derived.Test.YtejmbbkklhpnaaaGreatDoorMf33
import Derived.Test.YtejmbbkklhpnaaaGreatDoorMf20
namespace Go.Proofs.YtejmbbkklhpnaaaGreatDoor.prnw
open Go.RowKit
open Go.Shelf
open Go.Sort
open nodew
open chkw
open flatm
attribute [local go_sem] nodew.run_store_float
end Go.Proofs.YtejmbbkklhpnaaaGreatDoor.prnw

/- burnishlaw19.PrintBack: the walk. Conditions: the nodes lie in memory, their numbers are numbers; the library's tables hold what the row lists. -/
namespace Go.Proofs.YtejmbbkklhpnaaaGreatDoor.bkr
open Go.RowKit
open nodew
open chkw
open prnw (Bel Env Gl hiP loP bA bA_size textT textP textE text_any)
open flow (Laid)
theorem nread_ext {W u:World} {B:Nat} {v:Value} {l:List Nd} (h:NRead W B v l) (hb:Below W.heap.size W u):NRead u B v l:=h.keep hb.size fun g _ hg=>hb.block g hg
theorem nread_up {W:World} {B B':Nat} {v:Value} {l:List Nd} (h:NRead W B v l) (hb:B <= B'):NRead W B' v l:=by
 obtain ⟨A,c,hv,hx⟩:=h
 refine ⟨A,c,hv,fun h0 => ?_⟩
 obtain ⟨g,off,hA,hB,r⟩:=hx h0
 exact ⟨g,off,hA,by omega,r⟩
structure KW (B:Nat) (w u:World):Prop where
 en:Env hiP loP u
 la:Laid B u
 gl:Gl u.heap.size
 lo:Below w.heap.size w u
theorem KW.on {B:Nat} {w u u':World} (h:KW B w u) (hb:Below u.heap.size u u'):KW B w u' :=
 ⟨h.en.later hb,laid_below h.la hb,⟨Nat.lt_of_lt_of_le h.gl.1 hb.size,Nat.lt_of_lt_of_le h.gl.2.1 hb.size,Nat.lt_of_lt_of_le h.gl.2.2 hb.size⟩,h.lo.trans (hb.mono h.lo.size)⟩
theorem text_of (l:List Nd) (hok:∀ n∈l,n.ok) (h:rightP l=true) (hs:l.length <= 2000):(bA (textT hiP loP l)).size <= 1000000∧readL (bA (textT hiP loP l)).data.toList=(l,0,0)∧rdL (bA (textT hiP loP l)).data.toList=(l,true):=by
 have h1:=readL_text l hok h hs
 rw [prnw.bA_list]
 refine ⟨?_,h1,readL_rdL _ _ h1⟩
 rw [bA_size]
 have:=bkm.text_len l hok h l.length (Nat.le_refl _)
 unfold textT
 rw [if_pos h]
 omega
end Go.Proofs.YtejmbbkklhpnaaaGreatDoor.bkr
