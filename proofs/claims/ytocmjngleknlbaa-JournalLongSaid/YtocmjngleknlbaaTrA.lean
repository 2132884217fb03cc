/-
  Facts on the program: its types, its switches.
-/
import Derived.Test.YtocmjngleknlbaaEngN
import Derived.Test.YtocmjngleknlbaaProg
namespace Go.Proofs.Ytocmjngleknlbaa.K
open Go Go.Proofs

theorem nong : NoNG Try.prog := by unfold NoNG; kernel_rfl
theorem mixed : Try.prog.follows .mixedOrders = true := by kernel_rfl

theorem SlT.of {P : Program} {t e sz by_ : Nat} {z : List Value} (h1 : P.underlying t = some (.slice e)) (h2 : (P.info? e).map (fun i => (i.size, i.bytes, i.zero.map fun v => v.cells.toList)) = some (sz, by_, some z))
    (h3 : z.length = sz ∧ 0 < sz ∧ 0 < by_ ∧ by_ ≤ 1048576) : SlT P t e sz by_ z := by
  cases hi : P.info? e with
  | none => rw [hi] at h2; cases h2
  | some i =>
    rw [hi] at h2
    simp only [Option.map_some, Option.some.injEq, Prod.mk.injEq] at h2
    obtain ⟨e1, e2, e3⟩ := h2
    cases hz : i.zero with
    | none => rw [hz] at e3; cases e3
    | some v =>
      rw [hz] at e3
      simp only [Option.map_some, Option.some.injEq] at e3
      exact ⟨h1, ⟨i, v, hi, e1, e2, hz, by rw [← e3]⟩, h3.1, h3.2.1, h3.2.2.1, h3.2.2.2⟩

theorem slHead : SlT Try.prog 44 43 2 32 [.slice none 0 0, .bool false] := .of (by kernel_rfl) (by kernel_rfl) (by decide)
theorem slBytes : SlT Try.prog 26 5 1 1 [.int .u8 0] := .of (by kernel_rfl) (by kernel_rfl) (by decide)
theorem slInt : SlT Try.prog 54 3 1 8 [.int .i64 0] := .of (by kernel_rfl) (by kernel_rfl) (by decide)
theorem slSlice : SlT Try.prog 22 26 1 24 [.slice none 0 0] := .of (by kernel_rfl) (by kernel_rfl) (by decide)
theorem slSlice2 : SlT Try.prog 24 22 1 24 [.slice none 0 0] := .of (by kernel_rfl) (by kernel_rfl) (by decide)


end Go.Proofs.Ytocmjngleknlbaa.K
