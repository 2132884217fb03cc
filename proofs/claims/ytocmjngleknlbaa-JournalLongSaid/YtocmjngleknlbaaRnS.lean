/-
  Numbers of sixteen bits, as a statement's argument.
-/
import Derived.Test.YtocmjngleknlbaaEngZ
import Derived.Test.YtocmjngleknlbaaTrS
namespace Go.Proofs.Ytocmjngleknlbaa.K
open Go Go.Proofs

theorem rShort : Reads (eInt' .u16) 34 := .int (by kernel_rfl)
theorem short_of {Γ : Mem} {y x : Int} (h : (eInt' .u16).r Γ y x) : 0 ≤ y ∧ y < 65536 := by
  obtain ⟨h1, h2⟩ := h
  have h1 : y = x := h1
  subst h1
  simp only [Lit.wf, Bool.and_eq_true, decide_eq_true_eq] at h2
  have e1 : IntKind.u16.min = 0 := by decide
  have e2 : IntKind.u16.max = 65535 := by decide
  rw [e1, e2] at h2
  omega

end Go.Proofs.Ytocmjngleknlbaa.K
