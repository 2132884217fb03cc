/-
  Slices of the disks' things.
-/
import Derived.Test.YtohoimokfgfceaaTrB
import Derived.Test.YtohoimokfgfceaaEngP
namespace Go.Proofs.Ytohoimokfgfceaa.K
open Go Go.Proofs
set_option maxRecDepth 100000

theorem slFileR : SlT Try.prog 184 197 2 32 [.slice none 0 0, .int .i64 0] := .of (by kernel_rfl) (by kernel_rfl) (by decide)
theorem slNameR : SlT Try.prog 185 191 2 24 [.string (str []), .int .i64 0] := .of (by kernel_rfl) (by kernel_rfl) (by decide)
theorem slChgR : SlT Try.prog 186 194 3 40 [.string (str []), .string (str []), .int .i64 0] := .of (by kernel_rfl) (by kernel_rfl) (by decide)
theorem slBool : SlT Try.prog 189 4 1 1 [.bool false] := .of (by kernel_rfl) (by kernel_rfl) (by decide)
theorem slStr : SlT Try.prog 91 9 1 16 [.string (str [])] := .of (by kernel_rfl) (by kernel_rfl) (by decide)
theorem slChg : SlT Try.prog 165 179 3 40 [.string (str []), .string (str []), .pointer none] := .of (by kernel_rfl) (by kernel_rfl) (by decide)

end Go.Proofs.Ytohoimokfgfceaa.K
