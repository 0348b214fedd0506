/- decimal.Parse at any text, as the other texts ask for it. Condition: seven of the library's variables hold what the program's text lays. -/
import Derived.Test.YtdmhebibnnemnaaDoorRdK
import Derived.Test.YtdmhebibnnemnaaDoorParE
namespace Go.Proofs.YtdmhebibnnemnaaDoor.flow
open Go.RowKit
open Go.Proofs.YtdmhebibnnemnaaDoor.parw
open Go.Proofs.YtdmhebibnnemnaaDoor.rdf

/-- what the variables hold, in blocks below B -/
def Laid (B : Nat) (w : World) : Prop := DE B w
theorem Laid.stable (B : Nat) : Stable (Laid B) B := by
  intro w w' row h hg hr
  have hk : ∀ (p : Addr) (v : Value), p.block < B → w.cell? p = some v → w'.cell? p = some v := fun p v hp hv =>
    (World.cell?_of_block (hg.block p.block (World.block_lt_of_cell? w _ hv) (fun e => by have := hr _ e.symm; omega))).trans hv
  obtain ⟨v, h1, h2⟩ := h.er
  exact ⟨⟨h.ev.keep hk, h.ft.keep hk, fun i hi => by
    obtain ⟨a1, a2, a3, a4⟩ := h.pt i hi
    exact ⟨a1, a2, hk _ _ h.pb a3, hk _ _ h.pb a4⟩, h.pb, h.ob, hk _ _ h.ob h.op, Nat.le_trans h.lt hg.size⟩, h.eb, v, hk _ _ h.eb h1, h2⟩
/-- what decimal.Parse says -/
def decE (s : ByteArray) : Nat × Nat := decR s.data.toList
theorem dparse_e (B : Nat) (s : ByteArray) (w : World) (h : Laid B w) : Calls Tryd.prog 22 #[.string s] w (DecPost (decE s) w) := dparse_any B s w h
theorem dec_ok (B : Nat) (ts : List PTok) : DecOk decE (Laid B) ts := fun t _ _ w hw => dparse_e B t.text w hw
end Go.Proofs.YtdmhebibnnemnaaDoor.flow
