/-
  The reference's disk: all names; a crash; another disk that is the same.
-/
import Derived.Test.YtocmjngleknlbaaRdF
import Derived.Test.YtocmjngleknlbaaDkA
namespace Go.Proofs.Ytocmjngleknlbaa.K
open Go Go.Proofs
variable {Γ Γ' : Mem} {L L' L'' : List HP} {w w' : World} {A B : HP}
set_option maxRecDepth 100000
set_option maxHeartbeats 1000000

theorem mapIdx_snoc {α β : Type} {l : List α} {i : Nat} {x : α} (f : Nat → α → β) (h : l[i]? = some x) : (l.take (i + 1)).mapIdx f = (l.take i).mapIdx f ++ [f i x] := by
  have hi : i < l.length := (List.getElem?_eq_some_iff.1 h).1
  rw [List.take_add_one, h, List.mapIdx_append]
  simp [Nat.min_eq_left (Nat.le_of_lt hi)]

end Go.Proofs.Ytocmjngleknlbaa.K
