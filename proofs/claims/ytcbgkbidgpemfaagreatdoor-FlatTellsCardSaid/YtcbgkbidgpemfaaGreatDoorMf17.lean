/- decimal.Print. No conditions but those stated. -/
import Derived.Test.YtcbgkbidgpemfaaGreatDoorMf16
import Derived.Test.YtcbgkbidgpemfaaGreatDoorMf07
namespace Go.Proofs.YtcbgkbidgpemfaaGreatDoor
namespace prnw
open Go.RowKit
open Go.Shelf
open Go.Sort
open nodew
open chkw
open flatm
attribute [local go_sem] nodew.fo_eq
end prnw

/- print: names, words, and the closure that puts numbers behind a row of strings. No conditions but those stated. -/
namespace prnw
open Go.RowKit
open Go.Shelf
open Go.Sort
open nodew
open chkw
open flatm
def bA (l:List UInt8):ByteArray:=⟨l.toArray⟩
theorem bA_list (l:List UInt8):(bA l).data.toList=l:=str_mk l
def nmB (k:Int):ByteArray:=bA (110 :: Lib.itoa k)
def wd1:ByteArray:=⟨#[108,97,109,98,101,114,116]⟩
def wd2:ByteArray:=⟨#[111,114,101,110]⟩
def wd3:ByteArray:=⟨#[112,108,97,115,116,105,99]⟩
def wd4:ByteArray:=⟨#[109,101,116,97,108]⟩
def wd5:ByteArray:=⟨#[109,105,120]⟩
def wd6:ByteArray:=⟨#[99,111,97,116]⟩
def wordsL:List ByteArray:=[⟨#[]⟩,wd1,wd2,wd3,wd4,wd5,wd6]
def wordF (k:Nat):ByteArray:=wordsL.getD k ⟨#[]⟩
def SBuf (w:World) (base g cap:Nat) (l:List ByteArray):Prop:=w.ownsRow base 9 1 (.slice (some ⟨g,0,none⟩) l.length cap) l.length (l.map Value.string)
theorem SBuf.lt {w:World} {base g cap:Nat} {l:List ByteArray} (h:SBuf w base g cap l):base <= g∧g<w.heap.size:=World.ownsRow.lt h g rfl
structure LS (w:World) (base lb g cap:Nat) (l:List ByteArray):Prop where
 blk:w.heap[lb]? = some (.cells #[.slice (some ⟨g,0,none⟩) l.length cap] 55 (0,0))
 buf:SBuf w base g cap l
 ne:g≠lb
 le:base <= lb
theorem LS.lt {w:World} {base lb g cap:Nat} {l:List ByteArray} (h:LS w base lb g cap l):lb<w.heap.size:=(Array.getElem?_eq_some_iff.1 h.blk).1
theorem LS.grown {w w':World} {base lb g cap:Nat} {l:List ByteArray} (h:LS w base lb g cap l) (hg:w.grownBy w' none):LS w' base lb g cap l :=
 ⟨(hg.block lb h.lt (by simp)).trans h.blk,World.ownsRow.kept h.buf hg (.inr (by simp [Value.ownBlock])),h.ne,h.le⟩
theorem LS.put {w w':World} {base lb g cap g' cap':Nat} {l l':List ByteArray} (h:LS w base lb g cap l) (hg:w.grownBy w' (some g)) (hb:SBuf w' base g' cap' l') (hgg:g'=g∨g'=w.heap.size) :
  LS (w'.setCell ⟨lb,0,none⟩ (.slice (some ⟨g',0,none⟩) l'.length cap')) base lb g' cap' l':=by
 have hlt:=h.lt;have hne:=h.ne;have hgl:=h.buf.lt;have hne':g'≠lb:=by omega
 have hbl:w'.heap[lb]? = some (.cells #[.slice (some ⟨g,0,none⟩) l.length cap] 55 (0,0)):=(hg.block lb hlt (fun e=>hne (Option.some.inj e).symm)).trans h.blk;refine ⟨?_,World.ownsRow.kept hb (set_grown _ _ _ _) (.inr (fun e=>hne' (Option.some.inj e))),hne',h.le⟩;rw [heap_set w' lb 0 _ _ _ _ hbl];rfl
theorem LS.below {w w':World} {base lb g cap g' cap':Nat} {l l':List ByteArray} {B:Nat} (h:LS w base lb g cap l) (hg:w.grownBy w' (some g)) (hB:B <= base) (hBw:B <= w.heap.size) :
  Below B w (w'.setCell ⟨lb,0,none⟩ (.slice (some ⟨g',0,none⟩) l'.length cap')):=by
 have hgl:=h.buf.lt;have hle:=h.le;exact ((Below.refl _ _).grown hg hBw (fun k e=>by obtain rfl:=Option.some.inj e; omega)).grown (set_grown _ lb 0 _) (Nat.le_trans hBw hg.size) (fun k e=>by obtain rfl:=Option.some.inj e; omega)
end prnw

/- print.Line's closure: numbers put behind a row of strings. Condition: the numbers lie in memory, in another block. -/
namespace prnw
open Go.RowKit
open Go.Shelf
open Go.Sort
open nodew
open chkw
open flatm
end prnw

/- A drawn region: some reads may be taken first; the other operations ahead of n in each order that the edges leave; then a forced tail that may leave the class. No conditions. -/
namespace qt
open Go.RowKit
section
variable {P:Program} {ops:Array Oper} {md:Region.Mode} {C:World -> Prop} {Q:Exit -> Act -> World -> Prop}
end
end qt
end Go.Proofs.YtcbgkbidgpemfaaGreatDoor
