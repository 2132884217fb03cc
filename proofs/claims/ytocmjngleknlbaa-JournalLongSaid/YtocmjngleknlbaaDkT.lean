/-
  Slices of the disks' things.
-/
import Derived.Test.YtocmjngleknlbaaTrB
import Derived.Test.YtocmjngleknlbaaEngP
namespace Go.Proofs.Ytocmjngleknlbaa.K
open Go Go.Proofs
set_option maxRecDepth 100000

theorem slStr : SlT Try.prog 83 9 1 16 [.string (str [])] := .of (by kernel_rfl) (by kernel_rfl) (by decide)
theorem slChg : SlT Try.prog 59 81 3 40 [.string (str []), .string (str []), .pointer none] := .of (by kernel_rfl) (by kernel_rfl) (by decide)

end Go.Proofs.Ytocmjngleknlbaa.K
