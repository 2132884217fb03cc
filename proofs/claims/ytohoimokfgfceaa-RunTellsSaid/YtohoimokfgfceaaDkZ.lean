/-
  Statements of the disk: what their arguments are read as.
-/
import Derived.Test.YtohoimokfgfceaaEngZ
import Derived.Test.YtohoimokfgfceaaTrS
import Derived.Test.YtohoimokfgfceaaDkA
namespace Go.Proofs.Ytohoimokfgfceaa.K
open Go Go.Proofs Go.ChangeShapes Go.WideShapes Go.ChangeAt Go.RowKit
set_option maxRecDepth 100000

theorem i64B_of {n : Int} (h : (Lit.int .i64 n).wf = true) : i64B n := by
  simp only [Lit.wf, Bool.and_eq_true, decide_eq_true_eq] at h
  have e1 : IntKind.i64.min = -9223372036854775808 := by decide
  have e2 : IntKind.i64.max = 9223372036854775807 := by decide
  rw [e1, e2] at h
  exact h

theorem rByte : Reads eByte 5 := .byte (by kernel_rfl)
theorem rInts : Reads (eList (eInt' .i64)) 79 := .list (e := 3) rInt (by kernel_rfl) (by kernel_rfl)

theorem ints_of {Γ : Mem} {s : Sl} {l : List Int} (h : Lst (eInt' .i64) Γ s l) : Lst eInt Γ s l ∧ ∀ x ∈ l, i64B x := by
  obtain ⟨ys, h1, h2⟩ := h
  refine ⟨⟨ys, h1, h2.imp fun _ _ hr => hr.1⟩, fun x hx => ?_⟩
  obtain ⟨i, hi⟩ := List.mem_iff_getElem?.1 hx
  obtain ⟨y, _, hr⟩ := h2.get hi
  exact i64B_of hr.2

/-- a wreck -/
def eWreck : Enc (Int × List Int) := ⟨.agg [.int .i64, .sl], fun Γ y a => (y.1 = a.1 ∧ i64B a.1 ∧ ∀ x ∈ a.2, i64B x) ∧ Lst eInt Γ y.2 a.2, fun h hl => ⟨h.1, Lst.mono h.2 hl⟩, fun _ v hv => by
  simp [Sh.cells, ScsV] at hv
  rcases hv with rfl | rfl <;> rfl⟩

theorem rWreck : Reads eWreck 81 := ⟨fun {H enc W n cs x} h => by
  obtain ⟨h1, m, h2⟩ := struct_reads (l := [(3, 0), (79, 1)]) (by kernel_rfl) (by simp) h
  have e : Try.prog.cellsOf 81 = 2 := by kernel_rfl
  have e1 : Try.prog.cellsOf 3 = 1 := by kernel_rfl
  have e2 : Try.prog.cellsOf 79 = 1 := by kernel_rfl
  rw [e] at h1
  match cs, h1 with
  | [c0, c1], _ =>
    obtain ⟨x0, h3⟩ := h2 0 _ _ rfl
    obtain ⟨x1, h4⟩ := h2 1 _ _ rfl
    rw [e1] at h3
    rw [e2] at h4
    obtain ⟨y0, a0, h5, h6⟩ := rInt.out h3
    obtain ⟨y1, a1, h7, h8⟩ := rInts.out h4
    have h5 : [c0] = [Value.int .i64 y0] := h5
    have h7 : [c1] = [Value.slice y1.p y1.len y1.cap] := h7
    cases h5
    cases h7
    obtain ⟨h9, h10⟩ := ints_of h8
    exact ⟨(y0, y1), (a0, a1), rfl, ⟨h6.1, i64B_of h6.2, h10⟩, h9⟩⟩

theorem rAct : Reads eAct 85 := ⟨fun {H enc W n cs x} h => by
  obtain ⟨h1, m, h2⟩ := struct_reads (l := [(5, 0), (9, 1), (9, 2), (32, 3), (3, 4), (81, 5)]) (by kernel_rfl) (by simp) h
  have e : Try.prog.cellsOf 85 = 7 := by kernel_rfl
  have e0 : Try.prog.cellsOf 5 = 1 := by kernel_rfl
  have e1 : Try.prog.cellsOf 9 = 1 := by kernel_rfl
  have e3 : Try.prog.cellsOf 32 = 1 := by kernel_rfl
  have e4 : Try.prog.cellsOf 3 = 1 := by kernel_rfl
  have e5 : Try.prog.cellsOf 81 = 2 := by kernel_rfl
  rw [e] at h1
  match cs, h1 with
  | [c0, c1, c2, c3, c4, c5, c6], _ =>
    obtain ⟨x0, k0⟩ := h2 0 _ _ rfl
    obtain ⟨x1, k1⟩ := h2 1 _ _ rfl
    obtain ⟨x2, k2⟩ := h2 2 _ _ rfl
    obtain ⟨x3, k3⟩ := h2 3 _ _ rfl
    obtain ⟨x4, k4⟩ := h2 4 _ _ rfl
    obtain ⟨x5, k5⟩ := h2 5 _ _ rfl
    rw [e0] at k0
    rw [e1] at k1 k2
    rw [e3] at k3
    rw [e4] at k4
    rw [e5] at k5
    obtain ⟨y0, a0, f0, g0⟩ := rByte.out k0
    obtain ⟨y1, a1, f1, g1⟩ := rStr.out k1
    obtain ⟨y2, a2, f2, g2⟩ := rStr.out k2
    obtain ⟨y3, a3, f3, g3⟩ := rBytes.out k3
    obtain ⟨y4, a4, f4, g4⟩ := rInt.out k4
    obtain ⟨y5, a5, f5, g5⟩ := rWreck.out k5
    have f0 : [c0] = [Value.int .u8 y0] := f0
    have f1 : [c1] = [Value.string y1] := f1
    have f2 : [c2] = [Value.string y2] := f2
    have f3 : [c3] = [Value.slice y3.p y3.len y3.cap] := f3
    have f4 : [c4] = [Value.int .i64 y4] := f4
    have f5 : [c5, c6] = [Value.int .i64 y5.1, Value.slice y5.2.p y5.2.len y5.2.cap] := f5
    cases f0
    cases f1
    cases f2
    cases f3
    cases f4
    cases f5
    exact ⟨(y0, y1, y2, y3, y4, y5.1, y5.2), ⟨a0, a1, a2, a3, a4, a5.1, a5.2⟩, rfl, ⟨g0, g1.1, g2.1, g4.1, g5.1.1⟩, ⟨i64B_of g4.2, g5.1.2.1, g5.1.2.2, g1.2, g2.2⟩, g3, g5.2⟩⟩

theorem rActs : Reads (eList eAct) 78 := .list (e := 85) rAct (by kernel_rfl) (by kernel_rfl)

end Go.Proofs.Ytohoimokfgfceaa.K
