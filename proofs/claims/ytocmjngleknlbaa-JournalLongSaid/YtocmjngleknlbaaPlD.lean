/-
  Acts of place's statements: what they are, the first forty, what each does.
-/
import Derived.Test.YtocmjngleknlbaaPlC
import Derived.Test.YtocmjngleknlbaaPlR
import Derived.Test.YtocmjngleknlbaaDkZ
import Derived.Test.YtocmjngleknlbaaRdS
namespace Go.Proofs.Ytocmjngleknlbaa.K
open Go Go.Proofs
variable {Γ Γ' : Mem} {L L' L'' : List HP} {w w' : World} {A B : HP}
set_option maxRecDepth 100000
set_option maxHeartbeats 1000000

structure ActP where
  kind : UInt8
  name : Str
  b : Str
  names : List Str
  wn : Int
  wb : List Int
  n : Int

/-- an act, as it lies -/
def eActP : Enc ActP := ⟨.agg [.int .u8, .str, .sl, .sl, .int .i64, .sl, .int .i64],
  fun Γ y a => (y.1 = (a.kind.toNat : Int) ∧ y.2.1 = str a.name ∧ y.2.2.2.2.1 = a.wn ∧ y.2.2.2.2.2.2 = a.n) ∧ i64B a.n ∧
    Bytes Γ y.2.2.1 a.b ∧ Lst eStr Γ y.2.2.2.1 a.names ∧ Lst eInt Γ y.2.2.2.2.2.1 a.wb, fun h hl => ⟨h.1, h.2.1, Bytes.mono h.2.2.1 hl, Lst.mono h.2.2.2.1 hl, Lst.mono h.2.2.2.2 hl⟩, fun _ v hv => by
  simp [Sh.cells, ScsV] at hv
  rcases hv with rfl | rfl | rfl | rfl | rfl | rfl | rfl <;> rfl⟩

theorem eActP_after {Γ : Mem} {y : eActP.sh.T} {a : ActP} (h : eActP.r Γ y a) : ∃ s t u : Sl, Bytes Γ s a.b ∧ Lst eStr Γ t a.names ∧ Lst eInt Γ u a.wb ∧ i64B a.n ∧ y = ((a.kind.toNat : Int), str a.name, s, t, a.wn, u, a.n) := by
  obtain ⟨y1, y2, y3, y4, y5, y6, y7⟩ := y
  obtain ⟨⟨h1, h2, h5, h7⟩, h8, h3, h4, h6⟩ := h
  refine ⟨y3, y4, y6, h3, h4, h6, h8, ?_⟩
  dsimp only at h1 h2 h5 h7 ⊢
  rw [h1, h2, h5, h7]

def smallP (a : ActP) : Prop := a.b.length ≤ 300 ∧ a.name.length ≤ 40 ∧ a.names.length ≤ 10 ∧ a.wb.length ≤ 50
instance (a : ActP) : Decidable (smallP a) := inferInstanceAs (Decidable (_ ∧ _))
def fewP (l : List ActP) : List ActP := (l.take 40).filter fun x => decide (smallP x)

theorem fewP_succ {l : List ActP} {i : Nat} {x : ActP} (h : l[i]? = some x) (hi : i < 40) : fewP (l.take (i + 1)) = fewP (l.take i) ++ if smallP x then [x] else [] := by
  unfold fewP
  rw [List.take_take, List.take_take, Nat.min_eq_right (by omega), Nat.min_eq_right (by omega), List.take_add_one, h, List.filter_append]
  by_cases hx : smallP x <;> simp [hx]

theorem fewP_over {l : List ActP} {i : Nat} (hi : 40 ≤ i) : fewP (l.take (i + 1)) = fewP (l.take i) := by
  unfold fewP
  rw [List.take_take, List.take_take, Nat.min_eq_left (by omega), Nat.min_eq_left (by omega)]

theorem fewP_len (l : List ActP) : (fewP l).length ≤ 40 := by
  unfold fewP
  exact Nat.le_trans (List.length_filter_le _ _) (by rw [List.length_take]; omega)

theorem fewP_small {l : List ActP} : ∀ x ∈ fewP l, smallP x := fun x hx => by
  unfold fewP at hx
  simpa using (List.mem_filter.1 hx).2

end Go.Proofs.Ytocmjngleknlbaa.K

/-
  place's statements: what an act does of both disks; the examples; what can be seen.
-/
namespace Go.Proofs.Ytocmjngleknlbaa.K
open Go Go.Proofs
variable {Γ Γ' : Mem} {L L' L'' : List HP} {w w' : World} {A B : HP}
set_option maxRecDepth 100000
set_option maxHeartbeats 1000000

def DiskM.actP (m : DiskM) (a : ActP) : DiskM × Int :=
  if a.kind.toNat % 5 = 0 then putP m a.name a.b
  else if a.kind.toNat % 5 = 1 then growM m a.name a.b
  else if a.kind.toNat % 5 = 2 then dropM m a.names
  else if a.kind.toNat % 5 = 3 then (m.crash a.wn a.wb, 0)
  else m.doom a.n

end Go.Proofs.Ytocmjngleknlbaa.K

/-
  place's statements: the examples, what can be seen of both disks; how acts grow.
-/
namespace Go.Proofs.Ytocmjngleknlbaa.K
open Go Go.Proofs Go.ChangeShapes Go.WideShapes Go.ChangeAt Go.RowKit
variable {Γ Γ' : Mem} {L L' L'' : List HP} {w w' : World} {A B : HP}
set_option maxRecDepth 100000
set_option maxHeartbeats 1000000

theorem stepPut (name b : Str) : StepOK (runAll (putSteps name b)) ((64 * (chunks b).length + 2) * 5) := by
  refine StepOK.runAll (fs := putSteps name b) fun f hf => ?_
  simp only [putSteps, List.mem_cons, List.not_mem_nil, or_false] at hf
  rcases hf with rfl | rfl | rfl | rfl | rfl
  · exact (stepCreate _).mono (by omega)
  · exact (stepFill _ fun c => chunks_le).mono (by omega)
  · exact (stepSync _).mono (by omega)
  · exact (stepRename _ _).mono (by omega)
  · exact stepSyncNames.mono (by omega)

theorem stepGrow (name b : Str) : StepOK (runAll (growSteps name b)) ((b.length + 2) * 3) := by
  refine StepOK.runAll (fs := growSteps name b) fun f hf => ?_
  simp only [growSteps, List.mem_cons, List.not_mem_nil, or_false] at hf
  rcases hf with rfl | rfl | rfl
  · exact (stepMade _).mono (by omega)
  · exact (stepAppend _ _).mono (by omega)
  · exact (stepSync _).mono (by omega)

theorem stepPutP (name b : Str) : StepOK (fun m => putP m name b) ((64 * (chunks b).length + 2) * 5 + 1) := by
  refine ⟨fun m h => putM_wf h name b, fun m => ?_⟩
  have h1 := remove_g m tmpS
  have h2 := (stepPut name b).g (m.remove tmpS).1
  unfold putP
  repeat' split
  all_goals (first | omega | (dsimp only; omega) | (show m.g ≤ _; omega))

theorem stepGrowP (name b : Str) : StepOK (fun m => growM m name b) ((b.length + 2) * 3) := by
  refine ⟨fun m h => ?_, fun m => ?_⟩
  · unfold growM
    split
    · exact h
    · exact (stepGrow name b).wf m h
  · have h2 := (stepGrow name b).g m
    unfold growM
    split
    · show m.g ≤ _; omega
    · exact h2

theorem stepDropF : ∀ (l : List Str) (b : Bool), StepOK (dropF l b) l.length
  | [], b => by
    refine ⟨fun m h => ?_, fun m => ?_⟩
    · unfold dropF; split
      · exact h.syncNames
      · exact h
    · unfold dropF; split
      · rw [syncNames_g]; omega
      · exact Nat.le_refl _
  | s :: l, b => by
    have h1 := stepDropF l true
    have h2 := stepDropF l b
    refine ⟨fun m h => ?_, fun m => ?_⟩
    · unfold dropF
      repeat' split
      · exact h1.wf _ (h.remove s)
      · exact h2.wf _ (h.remove s)
      · exact h.remove s
    · have h3 := remove_g m s
      have h4 := h1.g (m.remove s).1
      have h5 := h2.g (m.remove s).1
      rw [List.length_cons]
      unfold dropF
      repeat' split
      all_goals omega

theorem actP_ok {m : DiskM} {x : ActP} (hx : smallP x) (hi : i64B x.n) (hw : Wf m) : Wf (m.actP x).1 ∧ (m.actP x).1.g ≤ m.g + 2000 := by
  obtain ⟨hx1, hx2, hx3, hx4⟩ := hx
  have hc := chunks_len x.b
  unfold DiskM.actP
  split
  · have := stepPutP x.name x.b
    exact ⟨this.wf m hw, Nat.le_trans (this.g m) (by omega)⟩
  · split
    · have := stepGrowP x.name x.b
      exact ⟨this.wf m hw, Nat.le_trans (this.g m) (by omega)⟩
    · split
      · have := stepDropF x.names false
        exact ⟨this.wf m hw, Nat.le_trans (this.g m) (by omega)⟩
      · split
        · exact ⟨hw.crash x.wn x.wb, by show m.g ≤ _; omega⟩
        · exact ⟨hw.doom (by unfold i64B at hi; omega), by rw [doom_g]; omega⟩

theorem mk70_pr {K : Sl → World → Prop} (h : Sat Γ L w) (k : ∀ s Γ' w', Γ.le Γ' → Bytes Γ' s (List.replicate 70 0) → Sat Γ' L w' → K s w') :
    Prim Try.prog (Instr.makeSlice 26 (.int .i64 70) (.int .i64 70)) (.one (.s .sl)) K w := mkO (E := eByte) (n := 70) (c := 70) (0 : Int) (0 : UInt8) slBytes h (by decide) rfl (by decide) fun s w' e _ h => by
  obtain ⟨Γ', g, f, h⟩ := h.olFreeze .n0 (by omega)
  exact k s Γ' w' g f.bytes h

theorem rStrs : Reads (eList eStr') 83 := .list (e := 9) rStr (by kernel_rfl) (by kernel_rfl)
theorem strs_of {Γ : Mem} {s : Sl} {l : List Str} (h : Lst eStr' Γ s l) : Lst eStr Γ s l := by
  obtain ⟨ys, h1, h2⟩ := h
  exact ⟨ys, h1, h2.imp fun _ _ hr => hr.1⟩

end Go.Proofs.Ytocmjngleknlbaa.K
