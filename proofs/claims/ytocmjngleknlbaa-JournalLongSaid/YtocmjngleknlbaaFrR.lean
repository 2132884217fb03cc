/-
  Numbers, sums, frames: the reference's.
-/
import Derived.Test.YtocmjngleknlbaaFrT
namespace Go.Proofs.Ytocmjngleknlbaa.K
open Go Go.Proofs
variable {Γ Γ' : Mem} {L L' L'' : List HP} {w w' : World} {A B : HP}
set_option maxRecDepth 100000
set_option maxHeartbeats 1000000

end Go.Proofs.Ytocmjngleknlbaa.K
