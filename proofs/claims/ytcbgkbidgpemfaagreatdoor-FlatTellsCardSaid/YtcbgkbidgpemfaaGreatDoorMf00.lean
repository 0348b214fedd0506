/- Short names for three laws. No conditions. -/
import Derived.Lib.Hide
namespace Go.Proofs.YtcbgkbidgpemfaaGreatDoor
theorem Yd {p : Prop} (h : p) : RowKit.Hid p := h
theorem Yf {α : Type} [BEq α] [LawfulBEq α] {a b : α} (h : ¬ a = b) : (a == b) = false := beq_eq_false_iff_ne.2 h
theorem Yt {α : Type} [BEq α] [LawfulBEq α] {a b : α} (h : a = b) : (a == b) = true := beq_iff_eq.2 h
end Go.Proofs.YtcbgkbidgpemfaaGreatDoor
