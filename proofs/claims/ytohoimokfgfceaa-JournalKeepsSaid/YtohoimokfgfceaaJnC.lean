/-
  journal's statements: acts, the first sixty; the examples.
-/
import Derived.Test.YtohoimokfgfceaaJnA
import Derived.Test.YtohoimokfgfceaaJnB
import Derived.Test.YtohoimokfgfceaaFrS
namespace Go.Proofs.Ytohoimokfgfceaa.K
open Go Go.Proofs Go.ChangeShapes Go.WideShapes Go.ChangeAt Go.RowKit
variable {Γ Γ' : Mem} {L L' L'' : List HP} {w w' : World} {A B : HP}
set_option maxRecDepth 100000
set_option maxHeartbeats 1000000

structure ActJ where
  kind : UInt8
  b : Str
  wn : Int
  wb : List Int
  n : Int

/-- an act, as it lies -/
def eActJ : Enc ActJ := ⟨.agg [.int .u8, .sl, .int .i64, .sl, .int .i64],
  fun Γ y a => (y.1 = (a.kind.toNat : Int) ∧ y.2.2.1 = a.wn ∧ y.2.2.2.2 = a.n) ∧ i64B a.n ∧
    Bytes Γ y.2.1 a.b ∧ Lst eInt Γ y.2.2.2.1 a.wb, fun h hl => ⟨h.1, h.2.1, Bytes.mono h.2.2.1 hl, Lst.mono h.2.2.2 hl⟩, fun _ v hv => by
  simp [Sh.cells, ScsV] at hv
  rcases hv with rfl | rfl | rfl | rfl | rfl <;> rfl⟩

theorem eActJ_after {Γ : Mem} {y : eActJ.sh.T} {a : ActJ} (h : eActJ.r Γ y a) : ∃ s u : Sl, Bytes Γ s a.b ∧ Lst eInt Γ u a.wb ∧ i64B a.n ∧ y = ((a.kind.toNat : Int), s, a.wn, u, a.n) := by
  obtain ⟨y1, y2, y3, y4, y5⟩ := y
  obtain ⟨⟨h1, h3, h5⟩, h6, h2, h4⟩ := h
  refine ⟨y2, y4, h2, h4, h6, ?_⟩
  dsimp only at h1 h3 h5 ⊢
  rw [h1, h3, h5]

abbrev TActJ : Nat := 138
theorem slActJ : SlT Try.prog 135 TActJ 5 72 [.int .u8 0, .slice none 0 0, .int .i64 0, .slice none 0 0, .int .i64 0] := .of (by kernel_rfl) (by kernel_rfl) (by decide)

def smallJ (a : ActJ) : Prop := a.b.length ≤ 100 ∧ a.wb.length ≤ 50
instance (a : ActJ) : Decidable (smallJ a) := inferInstanceAs (Decidable (_ ∧ _))
def fewJ (l : List ActJ) : List ActJ := (l.take 60).filter fun x => decide (smallJ x)

theorem fewJ_succ {l : List ActJ} {i : Nat} {x : ActJ} (h : l[i]? = some x) (hi : i < 60) : fewJ (l.take (i + 1)) = fewJ (l.take i) ++ if smallJ x then [x] else [] := by
  unfold fewJ
  rw [List.take_take, List.take_take, Nat.min_eq_right (by omega), Nat.min_eq_right (by omega), List.take_add_one, h, List.filter_append]
  by_cases hx : smallJ x <;> simp [hx]

theorem fewJ_over {l : List ActJ} {i : Nat} (hi : 60 ≤ i) : fewJ (l.take (i + 1)) = fewJ (l.take i) := by
  unfold fewJ
  rw [List.take_take, List.take_take, Nat.min_eq_left (by omega), Nat.min_eq_left (by omega)]

theorem fewJ_len (l : List ActJ) : (fewJ l).length ≤ 60 := by
  unfold fewJ
  exact Nat.le_trans (List.length_filter_le _ _) (by rw [List.length_take]; omega)

theorem fewJ_small {l : List ActJ} : ∀ x ∈ fewJ l, smallJ x := fun x hx => by
  unfold fewJ at hx
  simpa using (List.mem_filter.1 hx).2

theorem fewJ_ok {s : Sl} {l : List ActJ} {K : Sl → World → Prop} (h : Sat Γ L w) (hl : Lst eActJ Γ s l) (k : ∀ s' Γ' w', Γ.le Γ' → Lst eActJ Γ' s' (fewJ l) → Sat Γ' L w' → K s' w') :
    CallP Try.prog 100 [.slice s.p s.len s.cap] (.one (.s .sl)) K w := by
  obtain ⟨hlen, hsm, _⟩ := hl.lens
  refine callP (fn := Try.f100) [.s (.sl s)] (.p .n (.p .n (.p (.p .n (.b (.l [7, 6] [(3, .s .sl), (8, .s (.int .i64))] (.p .n (.p .n (.p (.k [8, 7, 6] [(3, .s .sl)] .n) .n)))))) .n))) nong mixed (by kernel_rfl) (by kernel_rfl) rfl rfl ?_
  rotate_left
  refine loop (σ := Sl × Int) (fun st w' n => ∃ (out : Sl) (i : Nat), st = (out, (i : Int)) ∧ i ≤ l.length ∧ n = l.length - i ∧ Sat Γ (OL eActJ TActJ out (fewJ (l.take i)) :: L) w') l.length ⟨_, 0, rfl, by omega, by omega, by simpa [fewJ] using h.olNil⟩ ?_
  clear h
  rintro _ w n ⟨out, i, rfl, hi, hn, h⟩
  have hol := h.olLen .n0
  have hfl := fewJ_len (l.take i)
  by_cases hil : i < l.length
  · obtain ⟨x, ex⟩ := get_lt hil
    by_cases h100 : i < 60
    · have hsu := fewJ_succ ex h100
      by_cases hx : smallJ x
      · rw [if_pos hx] at hsu
        have hx' := hx
        unfold smallJ at hx'
        obtain ⟨hx1, hx2⟩ := hx'
        refine brD (fun bb0 => ?_) (fun bb0 => by exfalso; omega)
        dsimp only at bb0
        refine joinI ?_
        refine ⟨by omega, ?_⟩
        refine nnL h hl (fun ba1 bha1 => ?_)
        refine ldL h hl bha1 ex (fun by2 bhy2 => ?_)
        obtain ⟨by2s, by2t, bhy2a, bhy2b, bhy2c, bhy2e⟩ := eActJ_after bhy2
        subst bhy2e
        obtain ⟨lbhy2a, mbhy2a, cbhy2a⟩ := bhy2a.lens
        obtain ⟨lbhy2b, mbhy2b, cbhy2b⟩ := bhy2b.lens
        refine new h fun br3 _ h => ?_
        have h := h.asA (B := blk br3 (.cells #[Value.int IntKind.u8 0, Value.slice none 0 0, Value.int IntKind.i64 0, Value.slice none 0 0, Value.int IntKind.i64 0] 138 (0, 0))) (by kernel_rfl)
        refine stNs h .n0 fun _ h => ?_
        have h := h.asA (B := blk br3 (.cells #[Value.int IntKind.u8 ((↑x.kind.toNat : Int), by2s, x.wn, by2t, x.n).fst, Value.slice ((↑x.kind.toNat : Int), by2s, x.wn, by2t, x.n).snd.fst.p ((↑x.kind.toNat : Int), by2s, x.wn, by2t, x.n).snd.fst.len ((↑x.kind.toNat : Int), by2s, x.wn, by2t, x.n).snd.fst.cap, Value.int IntKind.i64 ((↑x.kind.toNat : Int), by2s, x.wn, by2t, x.n).snd.snd.fst, Value.slice ((↑x.kind.toNat : Int), by2s, x.wn, by2t, x.n).snd.snd.snd.fst.p ((↑x.kind.toNat : Int), by2s, x.wn, by2t, x.n).snd.snd.snd.fst.len ((↑x.kind.toNat : Int), by2s, x.wn, by2t, x.n).snd.snd.snd.fst.cap, Value.int IntKind.i64 ((↑x.kind.toNat : Int), by2s, x.wn, by2t, x.n).snd.snd.snd.snd] 138 (0, 0))) (by kernel_rfl)
        refine brD (fun bb4 => ?_) (fun bb4 => by exfalso; omega)
        dsimp only at bb4
        refine ld _ h .n0 ?_
        refine brD (fun bb5 => ?_) (fun bb5 => ?_)
        dsimp only at bb5
        refine ld _ h .n0 ?_
        refine brD (fun bb6 => ?_) (fun bb6 => ?_)
        dsimp only at bb6
        refine ldA5 _ _ _ _ _ h .n0 ?_
        refine new h fun br7 _ h => ?_
        have h := h.asA (B := blk br7 (.cells #[Value.int IntKind.u8 (((↑x.kind.toNat : Int), by2s, x.wn, by2t, x.n).fst, ((↑x.kind.toNat : Int), by2s, x.wn, by2t, x.n).snd.fst, ((↑x.kind.toNat : Int), by2s, x.wn, by2t, x.n).snd.snd.fst, ((↑x.kind.toNat : Int), by2s, x.wn, by2t, x.n).snd.snd.snd.fst, ((↑x.kind.toNat : Int), by2s, x.wn, by2t, x.n).snd.snd.snd.snd).fst, Value.slice (((↑x.kind.toNat : Int), by2s, x.wn, by2t, x.n).fst, ((↑x.kind.toNat : Int), by2s, x.wn, by2t, x.n).snd.fst, ((↑x.kind.toNat : Int), by2s, x.wn, by2t, x.n).snd.snd.fst, ((↑x.kind.toNat : Int), by2s, x.wn, by2t, x.n).snd.snd.snd.fst, ((↑x.kind.toNat : Int), by2s, x.wn, by2t, x.n).snd.snd.snd.snd).snd.fst.p (((↑x.kind.toNat : Int), by2s, x.wn, by2t, x.n).fst, ((↑x.kind.toNat : Int), by2s, x.wn, by2t, x.n).snd.fst, ((↑x.kind.toNat : Int), by2s, x.wn, by2t, x.n).snd.snd.fst, ((↑x.kind.toNat : Int), by2s, x.wn, by2t, x.n).snd.snd.snd.fst, ((↑x.kind.toNat : Int), by2s, x.wn, by2t, x.n).snd.snd.snd.snd).snd.fst.len (((↑x.kind.toNat : Int), by2s, x.wn, by2t, x.n).fst, ((↑x.kind.toNat : Int), by2s, x.wn, by2t, x.n).snd.fst, ((↑x.kind.toNat : Int), by2s, x.wn, by2t, x.n).snd.snd.fst, ((↑x.kind.toNat : Int), by2s, x.wn, by2t, x.n).snd.snd.snd.fst, ((↑x.kind.toNat : Int), by2s, x.wn, by2t, x.n).snd.snd.snd.snd).snd.fst.cap, Value.int IntKind.i64 (((↑x.kind.toNat : Int), by2s, x.wn, by2t, x.n).fst, ((↑x.kind.toNat : Int), by2s, x.wn, by2t, x.n).snd.fst, ((↑x.kind.toNat : Int), by2s, x.wn, by2t, x.n).snd.snd.fst, ((↑x.kind.toNat : Int), by2s, x.wn, by2t, x.n).snd.snd.snd.fst, ((↑x.kind.toNat : Int), by2s, x.wn, by2t, x.n).snd.snd.snd.snd).snd.snd.fst, Value.slice (((↑x.kind.toNat : Int), by2s, x.wn, by2t, x.n).fst, ((↑x.kind.toNat : Int), by2s, x.wn, by2t, x.n).snd.fst, ((↑x.kind.toNat : Int), by2s, x.wn, by2t, x.n).snd.snd.fst, ((↑x.kind.toNat : Int), by2s, x.wn, by2t, x.n).snd.snd.snd.fst, ((↑x.kind.toNat : Int), by2s, x.wn, by2t, x.n).snd.snd.snd.snd).snd.snd.snd.fst.p (((↑x.kind.toNat : Int), by2s, x.wn, by2t, x.n).fst, ((↑x.kind.toNat : Int), by2s, x.wn, by2t, x.n).snd.fst, ((↑x.kind.toNat : Int), by2s, x.wn, by2t, x.n).snd.snd.fst, ((↑x.kind.toNat : Int), by2s, x.wn, by2t, x.n).snd.snd.snd.fst, ((↑x.kind.toNat : Int), by2s, x.wn, by2t, x.n).snd.snd.snd.snd).snd.snd.snd.fst.len (((↑x.kind.toNat : Int), by2s, x.wn, by2t, x.n).fst, ((↑x.kind.toNat : Int), by2s, x.wn, by2t, x.n).snd.fst, ((↑x.kind.toNat : Int), by2s, x.wn, by2t, x.n).snd.snd.fst, ((↑x.kind.toNat : Int), by2s, x.wn, by2t, x.n).snd.snd.snd.fst, ((↑x.kind.toNat : Int), by2s, x.wn, by2t, x.n).snd.snd.snd.snd).snd.snd.snd.fst.cap, Value.int IntKind.i64 (((↑x.kind.toNat : Int), by2s, x.wn, by2t, x.n).fst, ((↑x.kind.toNat : Int), by2s, x.wn, by2t, x.n).snd.fst, ((↑x.kind.toNat : Int), by2s, x.wn, by2t, x.n).snd.snd.fst, ((↑x.kind.toNat : Int), by2s, x.wn, by2t, x.n).snd.snd.snd.fst, ((↑x.kind.toNat : Int), by2s, x.wn, by2t, x.n).snd.snd.snd.snd).snd.snd.snd.snd] 138 (0, 0))) (by kernel_rfl)
        refine app1 _ _ slActJ h .n1 (by assumption) (fun bs8 _ bl8 h => ?_)
        dsimp only at bl8
        refine wrN (i + 1) ?_
        refine ⟨_, (by first | omega | rfl | (dsimp only; omega)), _, _, rfl, (by first | omega | rfl | (dsimp only; omega)), rfl, (Sat.eqs (h.pick .n1).drop ?_)⟩
        rotate_left
        dsimp only at bb6
        refine wrN (i + 1) ?_
        refine ⟨_, (by first | omega | rfl | (dsimp only; omega)), _, _, rfl, (by first | omega | rfl | (dsimp only; omega)), rfl, (Sat.eqs h.drop ?_)⟩
        (exfalso; omega)
        dsimp only at bb5
        refine wrN (i + 1) ?_
        refine ⟨_, (by first | omega | rfl | (dsimp only; omega)), _, _, rfl, (by first | omega | rfl | (dsimp only; omega)), rfl, (Sat.eqs h.drop ?_)⟩
        (exfalso; omega)
        all_goals rw [hsu]
      · rw [if_neg hx, List.append_nil] at hsu
        unfold smallJ at hx
        refine brD (fun cb0 => ?_) (fun cb0 => by exfalso; omega)
        dsimp only at cb0
        refine joinI ?_
        refine ⟨by omega, ?_⟩
        refine nnL h hl (fun ca1 cha1 => ?_)
        refine ldL h hl cha1 ex (fun cy2 chy2 => ?_)
        obtain ⟨cy2s, cy2t, chy2a, chy2b, chy2c, chy2e⟩ := eActJ_after chy2
        subst chy2e
        obtain ⟨lchy2a, mchy2a, cchy2a⟩ := chy2a.lens
        obtain ⟨lchy2b, mchy2b, cchy2b⟩ := chy2b.lens
        refine new h fun cr3 _ h => ?_
        have h := h.asA (B := blk cr3 (.cells #[Value.int IntKind.u8 0, Value.slice none 0 0, Value.int IntKind.i64 0, Value.slice none 0 0, Value.int IntKind.i64 0] 138 (0, 0))) (by kernel_rfl)
        refine stNs h .n0 fun _ h => ?_
        have h := h.asA (B := blk cr3 (.cells #[Value.int IntKind.u8 ((↑x.kind.toNat : Int), cy2s, x.wn, cy2t, x.n).fst, Value.slice ((↑x.kind.toNat : Int), cy2s, x.wn, cy2t, x.n).snd.fst.p ((↑x.kind.toNat : Int), cy2s, x.wn, cy2t, x.n).snd.fst.len ((↑x.kind.toNat : Int), cy2s, x.wn, cy2t, x.n).snd.fst.cap, Value.int IntKind.i64 ((↑x.kind.toNat : Int), cy2s, x.wn, cy2t, x.n).snd.snd.fst, Value.slice ((↑x.kind.toNat : Int), cy2s, x.wn, cy2t, x.n).snd.snd.snd.fst.p ((↑x.kind.toNat : Int), cy2s, x.wn, cy2t, x.n).snd.snd.snd.fst.len ((↑x.kind.toNat : Int), cy2s, x.wn, cy2t, x.n).snd.snd.snd.fst.cap, Value.int IntKind.i64 ((↑x.kind.toNat : Int), cy2s, x.wn, cy2t, x.n).snd.snd.snd.snd] 138 (0, 0))) (by kernel_rfl)
        refine brD (fun cb4 => ?_) (fun cb4 => by exfalso; omega)
        dsimp only at cb4
        refine ld _ h .n0 ?_
        refine brD (fun cb5 => ?_) (fun cb5 => ?_)
        dsimp only at cb5
        refine ld _ h .n0 ?_
        refine brD (fun cb6 => ?_) (fun cb6 => ?_)
        dsimp only at cb6
        refine ldA5 _ _ _ _ _ h .n0 ?_
        refine new h fun cr7 _ h => ?_
        have h := h.asA (B := blk cr7 (.cells #[Value.int IntKind.u8 (((↑x.kind.toNat : Int), cy2s, x.wn, cy2t, x.n).fst, ((↑x.kind.toNat : Int), cy2s, x.wn, cy2t, x.n).snd.fst, ((↑x.kind.toNat : Int), cy2s, x.wn, cy2t, x.n).snd.snd.fst, ((↑x.kind.toNat : Int), cy2s, x.wn, cy2t, x.n).snd.snd.snd.fst, ((↑x.kind.toNat : Int), cy2s, x.wn, cy2t, x.n).snd.snd.snd.snd).fst, Value.slice (((↑x.kind.toNat : Int), cy2s, x.wn, cy2t, x.n).fst, ((↑x.kind.toNat : Int), cy2s, x.wn, cy2t, x.n).snd.fst, ((↑x.kind.toNat : Int), cy2s, x.wn, cy2t, x.n).snd.snd.fst, ((↑x.kind.toNat : Int), cy2s, x.wn, cy2t, x.n).snd.snd.snd.fst, ((↑x.kind.toNat : Int), cy2s, x.wn, cy2t, x.n).snd.snd.snd.snd).snd.fst.p (((↑x.kind.toNat : Int), cy2s, x.wn, cy2t, x.n).fst, ((↑x.kind.toNat : Int), cy2s, x.wn, cy2t, x.n).snd.fst, ((↑x.kind.toNat : Int), cy2s, x.wn, cy2t, x.n).snd.snd.fst, ((↑x.kind.toNat : Int), cy2s, x.wn, cy2t, x.n).snd.snd.snd.fst, ((↑x.kind.toNat : Int), cy2s, x.wn, cy2t, x.n).snd.snd.snd.snd).snd.fst.len (((↑x.kind.toNat : Int), cy2s, x.wn, cy2t, x.n).fst, ((↑x.kind.toNat : Int), cy2s, x.wn, cy2t, x.n).snd.fst, ((↑x.kind.toNat : Int), cy2s, x.wn, cy2t, x.n).snd.snd.fst, ((↑x.kind.toNat : Int), cy2s, x.wn, cy2t, x.n).snd.snd.snd.fst, ((↑x.kind.toNat : Int), cy2s, x.wn, cy2t, x.n).snd.snd.snd.snd).snd.fst.cap, Value.int IntKind.i64 (((↑x.kind.toNat : Int), cy2s, x.wn, cy2t, x.n).fst, ((↑x.kind.toNat : Int), cy2s, x.wn, cy2t, x.n).snd.fst, ((↑x.kind.toNat : Int), cy2s, x.wn, cy2t, x.n).snd.snd.fst, ((↑x.kind.toNat : Int), cy2s, x.wn, cy2t, x.n).snd.snd.snd.fst, ((↑x.kind.toNat : Int), cy2s, x.wn, cy2t, x.n).snd.snd.snd.snd).snd.snd.fst, Value.slice (((↑x.kind.toNat : Int), cy2s, x.wn, cy2t, x.n).fst, ((↑x.kind.toNat : Int), cy2s, x.wn, cy2t, x.n).snd.fst, ((↑x.kind.toNat : Int), cy2s, x.wn, cy2t, x.n).snd.snd.fst, ((↑x.kind.toNat : Int), cy2s, x.wn, cy2t, x.n).snd.snd.snd.fst, ((↑x.kind.toNat : Int), cy2s, x.wn, cy2t, x.n).snd.snd.snd.snd).snd.snd.snd.fst.p (((↑x.kind.toNat : Int), cy2s, x.wn, cy2t, x.n).fst, ((↑x.kind.toNat : Int), cy2s, x.wn, cy2t, x.n).snd.fst, ((↑x.kind.toNat : Int), cy2s, x.wn, cy2t, x.n).snd.snd.fst, ((↑x.kind.toNat : Int), cy2s, x.wn, cy2t, x.n).snd.snd.snd.fst, ((↑x.kind.toNat : Int), cy2s, x.wn, cy2t, x.n).snd.snd.snd.snd).snd.snd.snd.fst.len (((↑x.kind.toNat : Int), cy2s, x.wn, cy2t, x.n).fst, ((↑x.kind.toNat : Int), cy2s, x.wn, cy2t, x.n).snd.fst, ((↑x.kind.toNat : Int), cy2s, x.wn, cy2t, x.n).snd.snd.fst, ((↑x.kind.toNat : Int), cy2s, x.wn, cy2t, x.n).snd.snd.snd.fst, ((↑x.kind.toNat : Int), cy2s, x.wn, cy2t, x.n).snd.snd.snd.snd).snd.snd.snd.fst.cap, Value.int IntKind.i64 (((↑x.kind.toNat : Int), cy2s, x.wn, cy2t, x.n).fst, ((↑x.kind.toNat : Int), cy2s, x.wn, cy2t, x.n).snd.fst, ((↑x.kind.toNat : Int), cy2s, x.wn, cy2t, x.n).snd.snd.fst, ((↑x.kind.toNat : Int), cy2s, x.wn, cy2t, x.n).snd.snd.snd.fst, ((↑x.kind.toNat : Int), cy2s, x.wn, cy2t, x.n).snd.snd.snd.snd).snd.snd.snd.snd] 138 (0, 0))) (by kernel_rfl)
        refine app1 _ _ slActJ h .n1 (by assumption) (fun cs8 _ cl8 h => ?_)
        dsimp only at cl8
        refine wrN (i + 1) ?_
        refine ⟨_, (by first | omega | rfl | (dsimp only; omega)), _, _, rfl, (by first | omega | rfl | (dsimp only; omega)), rfl, (Sat.eqs (h.pick .n1).drop ?_)⟩
        (exfalso; omega)
        dsimp only at cb6
        refine wrN (i + 1) ?_
        refine ⟨_, (by first | omega | rfl | (dsimp only; omega)), _, _, rfl, (by first | omega | rfl | (dsimp only; omega)), rfl, (Sat.eqs h.drop ?_)⟩
        rotate_left
        dsimp only at cb5
        refine wrN (i + 1) ?_
        refine ⟨_, (by first | omega | rfl | (dsimp only; omega)), _, _, rfl, (by first | omega | rfl | (dsimp only; omega)), rfl, (Sat.eqs h.drop ?_)⟩
        rotate_left
        all_goals rw [hsu]
    · have hov := fewJ_over (l := l) (i := i) (by omega)
      refine brD (fun db0 => ?_) (fun db0 => by exfalso; omega)
      dsimp only at db0
      refine joinI ?_
      refine ⟨by omega, ?_⟩
      refine nnL h hl (fun da1 dha1 => ?_)
      refine ldL h hl dha1 ex (fun dy2 dhy2 => ?_)
      obtain ⟨dy2s, dy2t, dhy2a, dhy2b, dhy2c, dhy2e⟩ := eActJ_after dhy2
      subst dhy2e
      obtain ⟨ldhy2a, mdhy2a, cdhy2a⟩ := dhy2a.lens
      obtain ⟨ldhy2b, mdhy2b, cdhy2b⟩ := dhy2b.lens
      refine new h fun dr3 _ h => ?_
      have h := h.asA (B := blk dr3 (.cells #[Value.int IntKind.u8 0, Value.slice none 0 0, Value.int IntKind.i64 0, Value.slice none 0 0, Value.int IntKind.i64 0] 138 (0, 0))) (by kernel_rfl)
      refine stNs h .n0 fun _ h => ?_
      have h := h.asA (B := blk dr3 (.cells #[Value.int IntKind.u8 ((↑x.kind.toNat : Int), dy2s, x.wn, dy2t, x.n).fst, Value.slice ((↑x.kind.toNat : Int), dy2s, x.wn, dy2t, x.n).snd.fst.p ((↑x.kind.toNat : Int), dy2s, x.wn, dy2t, x.n).snd.fst.len ((↑x.kind.toNat : Int), dy2s, x.wn, dy2t, x.n).snd.fst.cap, Value.int IntKind.i64 ((↑x.kind.toNat : Int), dy2s, x.wn, dy2t, x.n).snd.snd.fst, Value.slice ((↑x.kind.toNat : Int), dy2s, x.wn, dy2t, x.n).snd.snd.snd.fst.p ((↑x.kind.toNat : Int), dy2s, x.wn, dy2t, x.n).snd.snd.snd.fst.len ((↑x.kind.toNat : Int), dy2s, x.wn, dy2t, x.n).snd.snd.snd.fst.cap, Value.int IntKind.i64 ((↑x.kind.toNat : Int), dy2s, x.wn, dy2t, x.n).snd.snd.snd.snd] 138 (0, 0))) (by kernel_rfl)
      refine brD (fun db4 => by exfalso; omega) (fun db4 => ?_)
      dsimp only at db4
      refine wrN (i + 1) ?_
      refine ⟨_, (by first | omega | rfl | (dsimp only; omega)), _, _, rfl, (by first | omega | rfl | (dsimp only; omega)), rfl, (Sat.eqs h.drop ?_)⟩
      rotate_left
      all_goals rw [hov]
  · have : i = l.length := by omega
    subst this
    rw [List.take_length] at h
    refine brD (fun eb0 => by exfalso; omega) (fun eb0 => ?_)
    dsimp only at eb0
    refine ⟨_, rfl, ?_⟩
    obtain ⟨eΓ1, eg1, ef1, h⟩ := h.olFreeze .n0 (by first | omega | (dsimp only; omega))
    have hl := hl.mono eg1
    refine k _ _ _ eg1 ef1 h

theorem rActJ : Reads eActJ 138 := ⟨fun {H enc W n cs x} h => by
  obtain ⟨h1, m, h2⟩ := struct_reads (l := [(5, 0), (32, 1), (81, 2), (3, 4)]) (by kernel_rfl) (by simp) h
  have e : Try.prog.cellsOf 138 = 5 := by kernel_rfl
  have e0 : Try.prog.cellsOf 5 = 1 := by kernel_rfl
  have e2 : Try.prog.cellsOf 32 = 1 := by kernel_rfl
  have e4 : Try.prog.cellsOf 81 = 2 := by kernel_rfl
  have e5 : Try.prog.cellsOf 3 = 1 := by kernel_rfl
  rw [e] at h1
  match cs, h1 with
  | [c0, c2, c4, c5, c6], _ =>
    obtain ⟨x0, k0⟩ := h2 0 _ _ rfl
    obtain ⟨x2, k2⟩ := h2 1 _ _ rfl
    obtain ⟨x4, k4⟩ := h2 2 _ _ rfl
    obtain ⟨x5, k5⟩ := h2 3 _ _ rfl
    rw [e0] at k0
    rw [e2] at k2
    rw [e4] at k4
    rw [e5] at k5
    obtain ⟨y0, a0, f0, g0⟩ := rByte.out k0
    obtain ⟨y2, a2, f2, g2⟩ := rBytes.out k2
    obtain ⟨y4, a4, f4, g4⟩ := rWreck.out k4
    obtain ⟨y5, a5, f5, g5⟩ := rInt.out k5
    have f0 : [c0] = [Value.int .u8 y0] := f0
    have f2 : [c2] = [Value.slice y2.p y2.len y2.cap] := f2
    have f4 : [c4, c5] = [Value.int .i64 y4.1, Value.slice y4.2.p y4.2.len y4.2.cap] := f4
    have f5 : [c6] = [Value.int .i64 y5] := f5
    cases f0
    cases f2
    cases f4
    cases f5
    exact ⟨(y0, y2, y4.1, y4.2, y5), ⟨a0, a2, a4.1, a4.2, a5⟩, rfl, ⟨g0, g4.1.1, g5.1⟩, i64B_of g5.2, g2, g4.2⟩⟩

theorem rActJs : Reads (eList eActJ) 135 := .list (e := 138) rActJ (by kernel_rfl) (by kernel_rfl)

theorem shownJ_ok {K : Bool → World → Prop} (h : Sat Γ L w) (k : ∀ Γ' w', Γ.le Γ' → Sat Γ' L w' → K true w') :
    CallP Try.prog 96 [] (.one (.s .bool)) K w := by
  have e1 : (addJ (.new 100) [97]).2 = 0 := by kernel_rfl
  have e2 : (addJ (addJ (.new 100) [97]).1 [98]).2 = 0 := by kernel_rfl
  have e3 : (openJ ((addJ (addJ (.new 100) [97]).1 [98]).1.crash 0 [])).2.1 = [[97], [98]] := by kernel_rfl
  have e4 : (openJ ((addJ (addJ (.new 100) [97]).1 [98]).1.crash 0 [])).2.2 = 0 := by kernel_rfl
  have g1 : (addJ (.new 100) [97]).1.g = 11 := by kernel_rfl
  have g2 : (addJ (addJ (.new 100) [97]).1 [98]).1.g = 20 := by kernel_rfl
  have g3 : ((addJ (addJ (.new 100) [97]).1 [98]).1.crash 0 []).g = 20 := by kernel_rfl
  refine callP (fn := Try.f96) [] (.p .n (.p .n (.j [1] [] .n .n))) nong mixed (by kernel_rfl) (by kernel_rfl) rfl rfl ?_
  refine dNew_ok h (fun av1 _ h => ?_)
  refine joinI ?_
  refine brF ?_
  refine new h fun ar4 _ h => ?_
  have h := h.asA (B := blk ar4 (.cells #[Value.int IntKind.u8 97] 5 (0, 0))) (by kernel_rfl)
  refine convA_pr h (fun aΓ6 _ ag8 af9 h => ?_)
  refine jAdd_ok h af9 (by first | omega | (dsimp only; omega) | decide) (fun aΓ12 _ ag14 h => ?_)
  have af9 := af9.mono ag14
  refine brF ?_
  refine new h fun ar16 _ h => ?_
  have h := h.asA (B := blk ar16 (.cells #[Value.int IntKind.u8 98] 5 (0, 0))) (by kernel_rfl)
  refine convB_pr h (fun aΓ18 _ ag20 af21 h => ?_)
  have af9 := af9.mono ag20
  refine jAdd_ok h af21 (by first | omega | (dsimp only; omega) | decide) (fun aΓ24 _ ag26 h => ?_)
  have af21 := af21.mono ag26
  have af9 := af9.mono ag26
  refine brF ?_
  refine dCrash_ok h (by first | omega | (dsimp only; omega) | decide) (.nil _ _) (fun _ h => ?_)
  refine brF ?_
  refine jOpen_ok h (by first | omega | (dsimp only; omega) | decide) (fun av32 aΓ33 _ ag35 af36 h => ?_)
  have af21 := af21.mono ag35
  have af9 := af9.mono ag35
  obtain ⟨laf36, maf36, caf36⟩ := af36.lens
  refine brT ?_
  refine new h fun ar38 _ h => ?_
  have h := h.asA (B := blk ar38 (.cells #[Value.int IntKind.u8 97] 5 (0, 0))) (by kernel_rfl)
  refine convA_pr h (fun aΓ40 _ ag42 af43 h => ?_)
  have af36 := af36.mono ag42
  have af21 := af21.mono ag42
  have af9 := af9.mono ag42
  refine new h fun ar45 _ h => ?_
  have h := h.asA (B := blk ar45 (.cells #[Value.int IntKind.u8 98] 5 (0, 0))) (by kernel_rfl)
  refine convB_pr h (fun aΓ47 _ ag49 af50 h => ?_)
  have af43 := af43.mono ag49
  have af36 := af36.mono ag49
  have af21 := af21.mono ag49
  have af9 := af9.mono ag49
  refine new h fun ar52 _ h => ?_
  have h := h.asA (B := blk ar52 (.cells #[Value.slice (Sl.mk (some (Addr.mk ar38 0 none)) 1 1).p (Sl.mk (some (Addr.mk ar38 0 none)) 1 1).len (Sl.mk (some (Addr.mk ar38 0 none)) 1 1).cap, Value.slice (Sl.mk (some (Addr.mk ar45 0 none)) 1 1).p (Sl.mk (some (Addr.mk ar45 0 none)) 1 1).len (Sl.mk (some (Addr.mk ar45 0 none)) 1 1).cap] 32 (0, 0))) (by kernel_rfl)
  rotate_left
  have h2 := Sat.whole (n := 2) (sz := 1) h rfl
  have h3 := Sat.toOl (E := eBytes) (ys := [(⟨some ⟨ar38, 0, none⟩, 1, 1⟩ : Sl), ⟨some ⟨ar45, 0, none⟩, 1, 1⟩]) (xs := [[97], [98]]) h2 (.cons af43 (.cons af50 .nil))
  obtain ⟨Γ2, g2, f2, h⟩ := h3.olFreeze .n0 (by show 2 ≤ _; decide)
  have af36 := af36.mono g2
  rw [e3] at af36
  have af50 := af50.mono g2
  have af43 := af43.mono g2
  have af21 := af21.mono g2
  have af9 := af9.mono g2
  refine rsame_ok h af36 f2 e3 (fun _ h => ?_)
  refine ⟨_, rfl, ?_⟩
  refine k _ _ (ag8.trans (ag14.trans (ag20.trans (ag26.trans (ag35.trans (ag42.trans (ag49.trans g2))))))) h.drop

end Go.Proofs.Ytohoimokfgfceaa.K
