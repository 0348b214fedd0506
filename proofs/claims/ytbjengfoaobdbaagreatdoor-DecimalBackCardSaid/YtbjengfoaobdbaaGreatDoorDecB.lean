/- What the variables hold, as LaidR asks for it (seats without a parser). -/
import Derived.Test.YtbjengfoaobdbaaGreatDoorRdK
namespace Go.Proofs.YtbjengfoaobdbaaGreatDoor.parw
end Go.Proofs.YtbjengfoaobdbaaGreatDoor.parw
namespace Go.Proofs.YtbjengfoaobdbaaGreatDoor.flow
open Go.Proofs.YtbjengfoaobdbaaGreatDoor.rdf

def Laid (B : Nat) (w : World) : Prop := DE B w
end Go.Proofs.YtbjengfoaobdbaaGreatDoor.flow
