/-
  Statements of the tree: what their arguments are read as.
-/
import Derived.Test.YtocmjngleknlbaaEngZ
import Derived.Test.YtocmjngleknlbaaTrA
namespace Go.Proofs.Ytocmjngleknlbaa.K
open Go Go.Proofs Go.ChangeShapes Go.WideShapes Go.ChangeAt Go.RowKit
set_option maxRecDepth 100000

theorem rBytes : Reads eBytes 26 := .bytes (e := 5) (by kernel_rfl) (by kernel_rfl) (by kernel_rfl)
theorem rBool : Reads eBool 4 := .bool (by kernel_rfl)
theorem rStr : Reads eStr' 9 := .str (by kernel_rfl)
theorem rInt : Reads (eInt' .i64) 3 := .int (by kernel_rfl)

theorem rHead : Reads eHead 43 := ⟨fun {H enc W n cs x} h => by
  obtain ⟨h1, m, h2⟩ := struct_reads (l := [(26, 0), (4, 1)]) (by kernel_rfl) (by simp) h
  have e : Try.prog.cellsOf 43 = 2 := by kernel_rfl
  have e1 : Try.prog.cellsOf 26 = 1 := by kernel_rfl
  have e2 : Try.prog.cellsOf 4 = 1 := by kernel_rfl
  rw [e] at h1
  match cs, h1 with
  | [c0, c1], _ =>
    obtain ⟨x0, h3⟩ := h2 0 _ _ rfl
    obtain ⟨x1, h4⟩ := h2 1 _ _ rfl
    rw [e1] at h3
    rw [e2] at h4
    obtain ⟨y0, a0, h5, h6⟩ := rBytes.out h3
    obtain ⟨y1, a1, h7, h8⟩ := rBool.out h4
    have h5 : [c0] = [Value.slice y0.p y0.len y0.cap] := h5
    have h7 : [c1] = [Value.bool y1] := h7
    cases h5
    cases h7
    exact ⟨(y0, y1), (a0, a1), rfl, h6, h8⟩⟩

theorem rHeads : Reads (eList eHead) 44 := .list (e := 43) rHead (by kernel_rfl) (by kernel_rfl)
theorem rBB : Reads (eList eBytes) 22 := .list (e := 26) rBytes (by kernel_rfl) (by kernel_rfl)
theorem rBBB : Reads (eList (eList eBytes)) 24 := .list (e := 22) rBB (by kernel_rfl) (by kernel_rfl)

end Go.Proofs.Ytocmjngleknlbaa.K
