/-
  journal's statements: acts, the first sixty; the examples.
-/
import Derived.Test.YtocmjngleknlbaaJnA
import Derived.Test.YtocmjngleknlbaaJnB
import Derived.Test.YtocmjngleknlbaaFrS
namespace Go.Proofs.Ytocmjngleknlbaa.K
open Go Go.Proofs Go.ChangeShapes Go.WideShapes Go.ChangeAt Go.RowKit
variable {Γ Γ' : Mem} {L L' L'' : List HP} {w w' : World} {A B : HP}
set_option maxRecDepth 100000
set_option maxHeartbeats 1000000

structure ActJ where
  kind : UInt8
  b : Str
  wn : Int
  wb : List Int
  n : Int

/-- an act, as it lies -/
def eActJ : Enc ActJ := ⟨.agg [.int .u8, .sl, .int .i64, .sl, .int .i64],
  fun Γ y a => (y.1 = (a.kind.toNat : Int) ∧ y.2.2.1 = a.wn ∧ y.2.2.2.2 = a.n) ∧ i64B a.n ∧
    Bytes Γ y.2.1 a.b ∧ Lst eInt Γ y.2.2.2.1 a.wb, fun h hl => ⟨h.1, h.2.1, Bytes.mono h.2.2.1 hl, Lst.mono h.2.2.2 hl⟩, fun _ v hv => by
  simp [Sh.cells, ScsV] at hv
  rcases hv with rfl | rfl | rfl | rfl | rfl <;> rfl⟩

theorem eActJ_after {Γ : Mem} {y : eActJ.sh.T} {a : ActJ} (h : eActJ.r Γ y a) : ∃ s u : Sl, Bytes Γ s a.b ∧ Lst eInt Γ u a.wb ∧ i64B a.n ∧ y = ((a.kind.toNat : Int), s, a.wn, u, a.n) := by
  obtain ⟨y1, y2, y3, y4, y5⟩ := y
  obtain ⟨⟨h1, h3, h5⟩, h6, h2, h4⟩ := h
  refine ⟨y2, y4, h2, h4, h6, ?_⟩
  dsimp only at h1 h3 h5 ⊢
  rw [h1, h3, h5]

def smallJ (a : ActJ) : Prop := a.b.length ≤ 100 ∧ a.wb.length ≤ 50
instance (a : ActJ) : Decidable (smallJ a) := inferInstanceAs (Decidable (_ ∧ _))
def fewJ (l : List ActJ) : List ActJ := (l.take 60).filter fun x => decide (smallJ x)

theorem fewJ_succ {l : List ActJ} {i : Nat} {x : ActJ} (h : l[i]? = some x) (hi : i < 60) : fewJ (l.take (i + 1)) = fewJ (l.take i) ++ if smallJ x then [x] else [] := by
  unfold fewJ
  rw [List.take_take, List.take_take, Nat.min_eq_right (by omega), Nat.min_eq_right (by omega), List.take_add_one, h, List.filter_append]
  by_cases hx : smallJ x <;> simp [hx]

theorem fewJ_over {l : List ActJ} {i : Nat} (hi : 60 ≤ i) : fewJ (l.take (i + 1)) = fewJ (l.take i) := by
  unfold fewJ
  rw [List.take_take, List.take_take, Nat.min_eq_left (by omega), Nat.min_eq_left (by omega)]

theorem fewJ_len (l : List ActJ) : (fewJ l).length ≤ 60 := by
  unfold fewJ
  exact Nat.le_trans (List.length_filter_le _ _) (by rw [List.length_take]; omega)

theorem fewJ_small {l : List ActJ} : ∀ x ∈ fewJ l, smallJ x := fun x hx => by
  unfold fewJ at hx
  simpa using (List.mem_filter.1 hx).2

theorem shownJ_ok {K : Bool → World → Prop} (h : Sat Γ L w) (k : ∀ Γ' w', Γ.le Γ' → Sat Γ' L w' → K true w') :
    CallP Try.prog 7 [] (.one (.s .bool)) K w := by
  have e1 : (addJ (.new 100) [97]).2 = 0 := by kernel_rfl
  have e2 : (addJ (addJ (.new 100) [97]).1 [98]).2 = 0 := by kernel_rfl
  have e3 : (openJ ((addJ (addJ (.new 100) [97]).1 [98]).1.crash 0 [])).2.1 = [[97], [98]] := by kernel_rfl
  have e4 : (openJ ((addJ (addJ (.new 100) [97]).1 [98]).1.crash 0 [])).2.2 = 0 := by kernel_rfl
  have g1 : (addJ (.new 100) [97]).1.g = 11 := by kernel_rfl
  have g2 : (addJ (addJ (.new 100) [97]).1 [98]).1.g = 20 := by kernel_rfl
  have g3 : ((addJ (addJ (.new 100) [97]).1 [98]).1.crash 0 []).g = 20 := by kernel_rfl
  refine callP (fn := Try.f7) [] (.p .n (.p .n (.j [1] [] .n .n))) nong mixed (by kernel_rfl) (by kernel_rfl) rfl rfl ?_
  refine dNew_ok h (fun av1 _ h => ?_)
  refine joinI ?_
  refine brF ?_
  refine new h fun ar4 _ h => ?_
  have h := h.asC (c' := #[Value.int IntKind.u8 97]) (by kernel_rfl)
  refine convA_pr h (fun aΓ6 _ ag8 af9 h => ?_)
  refine jAdd_ok h af9 (by first | omega | (dsimp only; omega) | decide) (fun aΓ12 _ ag14 h => ?_)
  have af9 := af9.mono ag14
  refine brF ?_
  refine new h fun ar16 _ h => ?_
  have h := h.asC (c' := #[Value.int IntKind.u8 98]) (by kernel_rfl)
  refine convB_pr h (fun aΓ18 _ ag20 af21 h => ?_)
  have af9 := af9.mono ag20
  refine jAdd_ok h af21 (by first | omega | (dsimp only; omega) | decide) (fun aΓ24 _ ag26 h => ?_)
  have af21 := af21.mono ag26
  have af9 := af9.mono ag26
  refine brF ?_
  refine dCrash_ok h (by first | omega | (dsimp only; omega) | decide) (.nil _ _) (fun _ h => ?_)
  refine brF ?_
  refine jOpen_ok h (by first | omega | (dsimp only; omega) | decide) (fun av32 aΓ33 _ ag35 af36 h => ?_)
  have af21 := af21.mono ag35
  have af9 := af9.mono ag35
  obtain ⟨laf36, maf36, caf36⟩ := af36.lens
  refine brT ?_
  refine new h fun ar38 _ h => ?_
  have h := h.asC (c' := #[Value.int IntKind.u8 97]) (by kernel_rfl)
  refine convA_pr h (fun aΓ40 _ ag42 af43 h => ?_)
  have af36 := af36.mono ag42
  have af21 := af21.mono ag42
  have af9 := af9.mono ag42
  refine new h fun ar45 _ h => ?_
  have h := h.asC (c' := #[Value.int IntKind.u8 98]) (by kernel_rfl)
  refine convB_pr h (fun aΓ47 _ ag49 af50 h => ?_)
  have af43 := af43.mono ag49
  have af36 := af36.mono ag49
  have af21 := af21.mono ag49
  have af9 := af9.mono ag49
  refine new h fun ar52 _ h => ?_
  have h := h.asC (c' := #[Value.slice (Sl.mk (some (Addr.mk ar38 0 none)) 1 1).p (Sl.mk (some (Addr.mk ar38 0 none)) 1 1).len (Sl.mk (some (Addr.mk ar38 0 none)) 1 1).cap, Value.slice (Sl.mk (some (Addr.mk ar45 0 none)) 1 1).p (Sl.mk (some (Addr.mk ar45 0 none)) 1 1).len (Sl.mk (some (Addr.mk ar45 0 none)) 1 1).cap]) (by kernel_rfl)
  rotate_left
  have h2 := Sat.whole (n := 2) (sz := 1) h rfl
  have h3 := Sat.toOl (E := eBytes) (ys := [(⟨some ⟨ar38, 0, none⟩, 1, 1⟩ : Sl), ⟨some ⟨ar45, 0, none⟩, 1, 1⟩]) (xs := [[97], [98]]) h2 (.cons af43 (.cons af50 .nil))
  obtain ⟨Γ2, g2, f2, h⟩ := h3.olFreeze .n0 (by show 2 ≤ _; decide)
  have af36 := af36.mono g2
  rw [e3] at af36
  have af50 := af50.mono g2
  have af43 := af43.mono g2
  have af21 := af21.mono g2
  have af9 := af9.mono g2
  refine rsame_ok h af36 f2 e3 (fun _ h => ?_)
  refine ⟨_, rfl, ?_⟩
  refine k _ _ (ag8.trans (ag14.trans (ag20.trans (ag26.trans (ag35.trans (ag42.trans (ag49.trans g2))))))) h.drop

end Go.Proofs.Ytocmjngleknlbaa.K
