/-
  Statements of the disk: what their arguments are read as.
-/
import Derived.Test.YtocmjngleknlbaaEngZ
import Derived.Test.YtocmjngleknlbaaTrS
import Derived.Test.YtocmjngleknlbaaDkA
namespace Go.Proofs.Ytocmjngleknlbaa.K
open Go Go.Proofs Go.ChangeShapes Go.WideShapes Go.ChangeAt Go.RowKit
set_option maxRecDepth 100000

theorem i64B_of {n : Int} (h : (Lit.int .i64 n).wf = true) : i64B n := by
  simp only [Lit.wf, Bool.and_eq_true, decide_eq_true_eq] at h
  have e1 : IntKind.i64.min = -9223372036854775808 := by decide
  have e2 : IntKind.i64.max = 9223372036854775807 := by decide
  rw [e1, e2] at h
  exact h

theorem rByte : Reads eByte 5 := .byte (by kernel_rfl)
theorem rInts : Reads (eList (eInt' .i64)) 54 := .list (e := 3) rInt (by kernel_rfl) (by kernel_rfl)

theorem ints_of {Γ : Mem} {s : Sl} {l : List Int} (h : Lst (eInt' .i64) Γ s l) : Lst eInt Γ s l ∧ ∀ x ∈ l, i64B x := by
  obtain ⟨ys, h1, h2⟩ := h
  refine ⟨⟨ys, h1, h2.imp fun _ _ hr => hr.1⟩, fun x hx => ?_⟩
  obtain ⟨i, hi⟩ := List.mem_iff_getElem?.1 hx
  obtain ⟨y, _, hr⟩ := h2.get hi
  exact i64B_of hr.2

/-- a wreck -/
def eWreck : Enc (Int × List Int) := ⟨.agg [.int .i64, .sl], fun Γ y a => (y.1 = a.1 ∧ i64B a.1 ∧ ∀ x ∈ a.2, i64B x) ∧ Lst eInt Γ y.2 a.2, fun h hl => ⟨h.1, Lst.mono h.2 hl⟩, fun _ v hv => by
  simp [Sh.cells, ScsV] at hv
  rcases hv with rfl | rfl <;> rfl⟩

theorem rWreck : Reads eWreck 56 := ⟨fun {H enc W n cs x} h => by
  obtain ⟨h1, m, h2⟩ := struct_reads (l := [(3, 0), (54, 1)]) (by kernel_rfl) (by simp) h
  have e : Try.prog.cellsOf 56 = 2 := by kernel_rfl
  have e1 : Try.prog.cellsOf 3 = 1 := by kernel_rfl
  have e2 : Try.prog.cellsOf 54 = 1 := by kernel_rfl
  rw [e] at h1
  match cs, h1 with
  | [c0, c1], _ =>
    obtain ⟨x0, h3⟩ := h2 0 _ _ rfl
    obtain ⟨x1, h4⟩ := h2 1 _ _ rfl
    rw [e1] at h3
    rw [e2] at h4
    obtain ⟨y0, a0, h5, h6⟩ := rInt.out h3
    obtain ⟨y1, a1, h7, h8⟩ := rInts.out h4
    have h5 : [c0] = [Value.int .i64 y0] := h5
    have h7 : [c1] = [Value.slice y1.p y1.len y1.cap] := h7
    cases h5
    cases h7
    obtain ⟨h9, h10⟩ := ints_of h8
    exact ⟨(y0, y1), (a0, a1), rfl, ⟨h6.1, i64B_of h6.2, h10⟩, h9⟩⟩

end Go.Proofs.Ytocmjngleknlbaa.K
