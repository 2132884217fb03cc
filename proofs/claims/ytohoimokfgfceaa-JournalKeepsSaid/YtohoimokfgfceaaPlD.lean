/-
  Acts of place's statements: what they are, the first forty, what each does.
-/
import Derived.Test.YtohoimokfgfceaaPlC
import Derived.Test.YtohoimokfgfceaaPlR
import Derived.Test.YtohoimokfgfceaaDkZ
import Derived.Test.YtohoimokfgfceaaRdS
namespace Go.Proofs.Ytohoimokfgfceaa.K
open Go Go.Proofs
variable {Γ Γ' : Mem} {L L' L'' : List HP} {w w' : World} {A B : HP}
set_option maxRecDepth 100000
set_option maxHeartbeats 1000000

structure ActP where
  kind : UInt8
  name : Str
  b : Str
  names : List Str
  wn : Int
  wb : List Int
  n : Int

/-- an act, as it lies -/
def eActP : Enc ActP := ⟨.agg [.int .u8, .str, .sl, .sl, .int .i64, .sl, .int .i64],
  fun Γ y a => (y.1 = (a.kind.toNat : Int) ∧ y.2.1 = str a.name ∧ y.2.2.2.2.1 = a.wn ∧ y.2.2.2.2.2.2 = a.n) ∧ i64B a.n ∧
    Bytes Γ y.2.2.1 a.b ∧ Lst eStr Γ y.2.2.2.1 a.names ∧ Lst eInt Γ y.2.2.2.2.2.1 a.wb, fun h hl => ⟨h.1, h.2.1, Bytes.mono h.2.2.1 hl, Lst.mono h.2.2.2.1 hl, Lst.mono h.2.2.2.2 hl⟩, fun _ v hv => by
  simp [Sh.cells, ScsV] at hv
  rcases hv with rfl | rfl | rfl | rfl | rfl | rfl | rfl <;> rfl⟩

theorem eActP_after {Γ : Mem} {y : eActP.sh.T} {a : ActP} (h : eActP.r Γ y a) : ∃ s t u : Sl, Bytes Γ s a.b ∧ Lst eStr Γ t a.names ∧ Lst eInt Γ u a.wb ∧ i64B a.n ∧ y = ((a.kind.toNat : Int), str a.name, s, t, a.wn, u, a.n) := by
  obtain ⟨y1, y2, y3, y4, y5, y6, y7⟩ := y
  obtain ⟨⟨h1, h2, h5, h7⟩, h8, h3, h4, h6⟩ := h
  refine ⟨y3, y4, y6, h3, h4, h6, h8, ?_⟩
  dsimp only at h1 h2 h5 h7 ⊢
  rw [h1, h2, h5, h7]

abbrev TActP : Nat := 111
theorem slActP : SlT Try.prog 108 TActP 7 112 [.int .u8 0, .string (str []), .slice none 0 0, .slice none 0 0, .int .i64 0, .slice none 0 0, .int .i64 0] := .of (by kernel_rfl) (by kernel_rfl) (by decide)

def smallP (a : ActP) : Prop := a.b.length ≤ 300 ∧ a.name.length ≤ 40 ∧ a.names.length ≤ 10 ∧ a.wb.length ≤ 50
instance (a : ActP) : Decidable (smallP a) := inferInstanceAs (Decidable (_ ∧ _))
def fewP (l : List ActP) : List ActP := (l.take 40).filter fun x => decide (smallP x)

theorem fewP_succ {l : List ActP} {i : Nat} {x : ActP} (h : l[i]? = some x) (hi : i < 40) : fewP (l.take (i + 1)) = fewP (l.take i) ++ if smallP x then [x] else [] := by
  unfold fewP
  rw [List.take_take, List.take_take, Nat.min_eq_right (by omega), Nat.min_eq_right (by omega), List.take_add_one, h, List.filter_append]
  by_cases hx : smallP x <;> simp [hx]

theorem fewP_over {l : List ActP} {i : Nat} (hi : 40 ≤ i) : fewP (l.take (i + 1)) = fewP (l.take i) := by
  unfold fewP
  rw [List.take_take, List.take_take, Nat.min_eq_left (by omega), Nat.min_eq_left (by omega)]

theorem fewP_len (l : List ActP) : (fewP l).length ≤ 40 := by
  unfold fewP
  exact Nat.le_trans (List.length_filter_le _ _) (by rw [List.length_take]; omega)

theorem fewP_small {l : List ActP} : ∀ x ∈ fewP l, smallP x := fun x hx => by
  unfold fewP at hx
  simpa using (List.mem_filter.1 hx).2

theorem fewP_ok {s : Sl} {l : List ActP} {K : Sl → World → Prop} (h : Sat Γ L w) (hl : Lst eActP Γ s l) (k : ∀ s' Γ' w', Γ.le Γ' → Lst eActP Γ' s' (fewP l) → Sat Γ' L w' → K s' w') :
    CallP Try.prog 81 [.slice s.p s.len s.cap] (.one (.s .sl)) K w := by
  obtain ⟨hlen, hsm, _⟩ := hl.lens
  refine callP (fn := Try.f81) [.s (.sl s)] (.p .n (.p .n (.p (.p .n (.b (.l [7, 6] [(3, .s .sl), (8, .s (.int .i64))] (.p .n (.p .n (.p (.k [8, 7, 6] [(3, .s .sl)] .n) .n)))))) .n))) nong mixed (by kernel_rfl) (by kernel_rfl) rfl rfl ?_
  rotate_left
  refine loop (σ := Sl × Int) (fun st w' n => ∃ (out : Sl) (i : Nat), st = (out, (i : Int)) ∧ i ≤ l.length ∧ n = l.length - i ∧ Sat Γ (OL eActP TActP out (fewP (l.take i)) :: L) w') l.length ⟨_, 0, rfl, by omega, by omega, by simpa [fewP] using h.olNil⟩ ?_
  clear h
  rintro _ w n ⟨out, i, rfl, hi, hn, h⟩
  have hol := h.olLen .n0
  have hfl := fewP_len (l.take i)
  by_cases hil : i < l.length
  · obtain ⟨x, ex⟩ := get_lt hil
    by_cases h100 : i < 40
    · have hsu := fewP_succ ex h100
      by_cases hx : smallP x
      · rw [if_pos hx] at hsu
        have hx' := hx
        unfold smallP at hx'
        obtain ⟨hx1, hx2, hx3, hx4⟩ := hx'
        have hz1 := str_size x.name
        refine brD (fun bb0 => ?_) (fun bb0 => by exfalso; omega)
        dsimp only at bb0
        refine joinI ?_
        refine ⟨by omega, ?_⟩
        refine nnL h hl (fun ba1 bha1 => ?_)
        refine ldL h hl bha1 ex (fun by2 bhy2 => ?_)
        obtain ⟨by2s, by2t, by2u, bhy2a, bhy2b, bhy2c, bhy2d, bhy2e⟩ := eActP_after bhy2
        subst bhy2e
        obtain ⟨lbhy2a, mbhy2a, cbhy2a⟩ := bhy2a.lens
        obtain ⟨lbhy2b, mbhy2b, cbhy2b⟩ := bhy2b.lens
        obtain ⟨lbhy2c, mbhy2c, cbhy2c⟩ := bhy2c.lens
        refine new h fun br3 _ h => ?_
        have h := h.asA (B := blk br3 (.cells #[Value.int IntKind.u8 0, Value.string (ByteArray.mk #[]), Value.slice none 0 0, Value.slice none 0 0, Value.int IntKind.i64 0, Value.slice none 0 0, Value.int IntKind.i64 0] 111 (0, 0))) (by kernel_rfl)
        refine stNs h .n0 fun _ h => ?_
        have h := h.asA (B := blk br3 (.cells #[Value.int IntKind.u8 ((↑x.kind.toNat : Int), str x.name, by2s, by2t, x.wn, by2u, x.n).fst, Value.string ((↑x.kind.toNat : Int), str x.name, by2s, by2t, x.wn, by2u, x.n).snd.fst, Value.slice ((↑x.kind.toNat : Int), str x.name, by2s, by2t, x.wn, by2u, x.n).snd.snd.fst.p ((↑x.kind.toNat : Int), str x.name, by2s, by2t, x.wn, by2u, x.n).snd.snd.fst.len ((↑x.kind.toNat : Int), str x.name, by2s, by2t, x.wn, by2u, x.n).snd.snd.fst.cap, Value.slice ((↑x.kind.toNat : Int), str x.name, by2s, by2t, x.wn, by2u, x.n).snd.snd.snd.fst.p ((↑x.kind.toNat : Int), str x.name, by2s, by2t, x.wn, by2u, x.n).snd.snd.snd.fst.len ((↑x.kind.toNat : Int), str x.name, by2s, by2t, x.wn, by2u, x.n).snd.snd.snd.fst.cap, Value.int IntKind.i64 ((↑x.kind.toNat : Int), str x.name, by2s, by2t, x.wn, by2u, x.n).snd.snd.snd.snd.fst, Value.slice ((↑x.kind.toNat : Int), str x.name, by2s, by2t, x.wn, by2u, x.n).snd.snd.snd.snd.snd.fst.p ((↑x.kind.toNat : Int), str x.name, by2s, by2t, x.wn, by2u, x.n).snd.snd.snd.snd.snd.fst.len ((↑x.kind.toNat : Int), str x.name, by2s, by2t, x.wn, by2u, x.n).snd.snd.snd.snd.snd.fst.cap, Value.int IntKind.i64 ((↑x.kind.toNat : Int), str x.name, by2s, by2t, x.wn, by2u, x.n).snd.snd.snd.snd.snd.snd] 111 (0, 0))) (by kernel_rfl)
        refine brD (fun bb4 => ?_) (fun bb4 => by exfalso; omega)
        dsimp only at bb4
        refine ld _ h .n0 ?_
        refine brD (fun bb5 => ?_) (fun bb5 => ?_)
        dsimp only at bb5
        refine ld _ h .n0 ?_
        refine brD (fun bb6 => ?_) (fun bb6 => ?_)
        dsimp only at bb6
        refine ld _ h .n0 ?_
        refine brD (fun bb7 => ?_) (fun bb7 => ?_)
        dsimp only at bb7
        refine ld _ h .n0 ?_
        refine brD (fun bb8 => ?_) (fun bb8 => ?_)
        dsimp only at bb8
        refine ldA7 _ _ _ _ _ _ _ h .n0 ?_
        refine new h fun br9 _ h => ?_
        have h := h.asA (B := blk br9 (.cells #[Value.int IntKind.u8 (((↑x.kind.toNat : Int), str x.name, by2s, by2t, x.wn, by2u, x.n).fst, ((↑x.kind.toNat : Int), str x.name, by2s, by2t, x.wn, by2u, x.n).snd.fst, ((↑x.kind.toNat : Int), str x.name, by2s, by2t, x.wn, by2u, x.n).snd.snd.fst, ((↑x.kind.toNat : Int), str x.name, by2s, by2t, x.wn, by2u, x.n).snd.snd.snd.fst, ((↑x.kind.toNat : Int), str x.name, by2s, by2t, x.wn, by2u, x.n).snd.snd.snd.snd.fst, ((↑x.kind.toNat : Int), str x.name, by2s, by2t, x.wn, by2u, x.n).snd.snd.snd.snd.snd.fst, ((↑x.kind.toNat : Int), str x.name, by2s, by2t, x.wn, by2u, x.n).snd.snd.snd.snd.snd.snd).fst, Value.string (((↑x.kind.toNat : Int), str x.name, by2s, by2t, x.wn, by2u, x.n).fst, ((↑x.kind.toNat : Int), str x.name, by2s, by2t, x.wn, by2u, x.n).snd.fst, ((↑x.kind.toNat : Int), str x.name, by2s, by2t, x.wn, by2u, x.n).snd.snd.fst, ((↑x.kind.toNat : Int), str x.name, by2s, by2t, x.wn, by2u, x.n).snd.snd.snd.fst, ((↑x.kind.toNat : Int), str x.name, by2s, by2t, x.wn, by2u, x.n).snd.snd.snd.snd.fst, ((↑x.kind.toNat : Int), str x.name, by2s, by2t, x.wn, by2u, x.n).snd.snd.snd.snd.snd.fst, ((↑x.kind.toNat : Int), str x.name, by2s, by2t, x.wn, by2u, x.n).snd.snd.snd.snd.snd.snd).snd.fst, Value.slice (((↑x.kind.toNat : Int), str x.name, by2s, by2t, x.wn, by2u, x.n).fst, ((↑x.kind.toNat : Int), str x.name, by2s, by2t, x.wn, by2u, x.n).snd.fst, ((↑x.kind.toNat : Int), str x.name, by2s, by2t, x.wn, by2u, x.n).snd.snd.fst, ((↑x.kind.toNat : Int), str x.name, by2s, by2t, x.wn, by2u, x.n).snd.snd.snd.fst, ((↑x.kind.toNat : Int), str x.name, by2s, by2t, x.wn, by2u, x.n).snd.snd.snd.snd.fst, ((↑x.kind.toNat : Int), str x.name, by2s, by2t, x.wn, by2u, x.n).snd.snd.snd.snd.snd.fst, ((↑x.kind.toNat : Int), str x.name, by2s, by2t, x.wn, by2u, x.n).snd.snd.snd.snd.snd.snd).snd.snd.fst.p (((↑x.kind.toNat : Int), str x.name, by2s, by2t, x.wn, by2u, x.n).fst, ((↑x.kind.toNat : Int), str x.name, by2s, by2t, x.wn, by2u, x.n).snd.fst, ((↑x.kind.toNat : Int), str x.name, by2s, by2t, x.wn, by2u, x.n).snd.snd.fst, ((↑x.kind.toNat : Int), str x.name, by2s, by2t, x.wn, by2u, x.n).snd.snd.snd.fst, ((↑x.kind.toNat : Int), str x.name, by2s, by2t, x.wn, by2u, x.n).snd.snd.snd.snd.fst, ((↑x.kind.toNat : Int), str x.name, by2s, by2t, x.wn, by2u, x.n).snd.snd.snd.snd.snd.fst, ((↑x.kind.toNat : Int), str x.name, by2s, by2t, x.wn, by2u, x.n).snd.snd.snd.snd.snd.snd).snd.snd.fst.len (((↑x.kind.toNat : Int), str x.name, by2s, by2t, x.wn, by2u, x.n).fst, ((↑x.kind.toNat : Int), str x.name, by2s, by2t, x.wn, by2u, x.n).snd.fst, ((↑x.kind.toNat : Int), str x.name, by2s, by2t, x.wn, by2u, x.n).snd.snd.fst, ((↑x.kind.toNat : Int), str x.name, by2s, by2t, x.wn, by2u, x.n).snd.snd.snd.fst, ((↑x.kind.toNat : Int), str x.name, by2s, by2t, x.wn, by2u, x.n).snd.snd.snd.snd.fst, ((↑x.kind.toNat : Int), str x.name, by2s, by2t, x.wn, by2u, x.n).snd.snd.snd.snd.snd.fst, ((↑x.kind.toNat : Int), str x.name, by2s, by2t, x.wn, by2u, x.n).snd.snd.snd.snd.snd.snd).snd.snd.fst.cap, Value.slice (((↑x.kind.toNat : Int), str x.name, by2s, by2t, x.wn, by2u, x.n).fst, ((↑x.kind.toNat : Int), str x.name, by2s, by2t, x.wn, by2u, x.n).snd.fst, ((↑x.kind.toNat : Int), str x.name, by2s, by2t, x.wn, by2u, x.n).snd.snd.fst, ((↑x.kind.toNat : Int), str x.name, by2s, by2t, x.wn, by2u, x.n).snd.snd.snd.fst, ((↑x.kind.toNat : Int), str x.name, by2s, by2t, x.wn, by2u, x.n).snd.snd.snd.snd.fst, ((↑x.kind.toNat : Int), str x.name, by2s, by2t, x.wn, by2u, x.n).snd.snd.snd.snd.snd.fst, ((↑x.kind.toNat : Int), str x.name, by2s, by2t, x.wn, by2u, x.n).snd.snd.snd.snd.snd.snd).snd.snd.snd.fst.p (((↑x.kind.toNat : Int), str x.name, by2s, by2t, x.wn, by2u, x.n).fst, ((↑x.kind.toNat : Int), str x.name, by2s, by2t, x.wn, by2u, x.n).snd.fst, ((↑x.kind.toNat : Int), str x.name, by2s, by2t, x.wn, by2u, x.n).snd.snd.fst, ((↑x.kind.toNat : Int), str x.name, by2s, by2t, x.wn, by2u, x.n).snd.snd.snd.fst, ((↑x.kind.toNat : Int), str x.name, by2s, by2t, x.wn, by2u, x.n).snd.snd.snd.snd.fst, ((↑x.kind.toNat : Int), str x.name, by2s, by2t, x.wn, by2u, x.n).snd.snd.snd.snd.snd.fst, ((↑x.kind.toNat : Int), str x.name, by2s, by2t, x.wn, by2u, x.n).snd.snd.snd.snd.snd.snd).snd.snd.snd.fst.len (((↑x.kind.toNat : Int), str x.name, by2s, by2t, x.wn, by2u, x.n).fst, ((↑x.kind.toNat : Int), str x.name, by2s, by2t, x.wn, by2u, x.n).snd.fst, ((↑x.kind.toNat : Int), str x.name, by2s, by2t, x.wn, by2u, x.n).snd.snd.fst, ((↑x.kind.toNat : Int), str x.name, by2s, by2t, x.wn, by2u, x.n).snd.snd.snd.fst, ((↑x.kind.toNat : Int), str x.name, by2s, by2t, x.wn, by2u, x.n).snd.snd.snd.snd.fst, ((↑x.kind.toNat : Int), str x.name, by2s, by2t, x.wn, by2u, x.n).snd.snd.snd.snd.snd.fst, ((↑x.kind.toNat : Int), str x.name, by2s, by2t, x.wn, by2u, x.n).snd.snd.snd.snd.snd.snd).snd.snd.snd.fst.cap, Value.int IntKind.i64 (((↑x.kind.toNat : Int), str x.name, by2s, by2t, x.wn, by2u, x.n).fst, ((↑x.kind.toNat : Int), str x.name, by2s, by2t, x.wn, by2u, x.n).snd.fst, ((↑x.kind.toNat : Int), str x.name, by2s, by2t, x.wn, by2u, x.n).snd.snd.fst, ((↑x.kind.toNat : Int), str x.name, by2s, by2t, x.wn, by2u, x.n).snd.snd.snd.fst, ((↑x.kind.toNat : Int), str x.name, by2s, by2t, x.wn, by2u, x.n).snd.snd.snd.snd.fst, ((↑x.kind.toNat : Int), str x.name, by2s, by2t, x.wn, by2u, x.n).snd.snd.snd.snd.snd.fst, ((↑x.kind.toNat : Int), str x.name, by2s, by2t, x.wn, by2u, x.n).snd.snd.snd.snd.snd.snd).snd.snd.snd.snd.fst, Value.slice (((↑x.kind.toNat : Int), str x.name, by2s, by2t, x.wn, by2u, x.n).fst, ((↑x.kind.toNat : Int), str x.name, by2s, by2t, x.wn, by2u, x.n).snd.fst, ((↑x.kind.toNat : Int), str x.name, by2s, by2t, x.wn, by2u, x.n).snd.snd.fst, ((↑x.kind.toNat : Int), str x.name, by2s, by2t, x.wn, by2u, x.n).snd.snd.snd.fst, ((↑x.kind.toNat : Int), str x.name, by2s, by2t, x.wn, by2u, x.n).snd.snd.snd.snd.fst, ((↑x.kind.toNat : Int), str x.name, by2s, by2t, x.wn, by2u, x.n).snd.snd.snd.snd.snd.fst, ((↑x.kind.toNat : Int), str x.name, by2s, by2t, x.wn, by2u, x.n).snd.snd.snd.snd.snd.snd).snd.snd.snd.snd.snd.fst.p (((↑x.kind.toNat : Int), str x.name, by2s, by2t, x.wn, by2u, x.n).fst, ((↑x.kind.toNat : Int), str x.name, by2s, by2t, x.wn, by2u, x.n).snd.fst, ((↑x.kind.toNat : Int), str x.name, by2s, by2t, x.wn, by2u, x.n).snd.snd.fst, ((↑x.kind.toNat : Int), str x.name, by2s, by2t, x.wn, by2u, x.n).snd.snd.snd.fst, ((↑x.kind.toNat : Int), str x.name, by2s, by2t, x.wn, by2u, x.n).snd.snd.snd.snd.fst, ((↑x.kind.toNat : Int), str x.name, by2s, by2t, x.wn, by2u, x.n).snd.snd.snd.snd.snd.fst, ((↑x.kind.toNat : Int), str x.name, by2s, by2t, x.wn, by2u, x.n).snd.snd.snd.snd.snd.snd).snd.snd.snd.snd.snd.fst.len (((↑x.kind.toNat : Int), str x.name, by2s, by2t, x.wn, by2u, x.n).fst, ((↑x.kind.toNat : Int), str x.name, by2s, by2t, x.wn, by2u, x.n).snd.fst, ((↑x.kind.toNat : Int), str x.name, by2s, by2t, x.wn, by2u, x.n).snd.snd.fst, ((↑x.kind.toNat : Int), str x.name, by2s, by2t, x.wn, by2u, x.n).snd.snd.snd.fst, ((↑x.kind.toNat : Int), str x.name, by2s, by2t, x.wn, by2u, x.n).snd.snd.snd.snd.fst, ((↑x.kind.toNat : Int), str x.name, by2s, by2t, x.wn, by2u, x.n).snd.snd.snd.snd.snd.fst, ((↑x.kind.toNat : Int), str x.name, by2s, by2t, x.wn, by2u, x.n).snd.snd.snd.snd.snd.snd).snd.snd.snd.snd.snd.fst.cap, Value.int IntKind.i64 (((↑x.kind.toNat : Int), str x.name, by2s, by2t, x.wn, by2u, x.n).fst, ((↑x.kind.toNat : Int), str x.name, by2s, by2t, x.wn, by2u, x.n).snd.fst, ((↑x.kind.toNat : Int), str x.name, by2s, by2t, x.wn, by2u, x.n).snd.snd.fst, ((↑x.kind.toNat : Int), str x.name, by2s, by2t, x.wn, by2u, x.n).snd.snd.snd.fst, ((↑x.kind.toNat : Int), str x.name, by2s, by2t, x.wn, by2u, x.n).snd.snd.snd.snd.fst, ((↑x.kind.toNat : Int), str x.name, by2s, by2t, x.wn, by2u, x.n).snd.snd.snd.snd.snd.fst, ((↑x.kind.toNat : Int), str x.name, by2s, by2t, x.wn, by2u, x.n).snd.snd.snd.snd.snd.snd).snd.snd.snd.snd.snd.snd] 111 (0, 0))) (by kernel_rfl)
        refine app1 _ _ slActP h .n1 (by assumption) (fun bs10 _ bl10 h => ?_)
        dsimp only at bl10
        refine wrN (i + 1) ?_
        refine ⟨_, (by first | omega | rfl | (dsimp only; omega)), _, _, rfl, (by first | omega | rfl | (dsimp only; omega)), rfl, (Sat.eqs (h.pick .n1).drop ?_)⟩
        rotate_left
        dsimp only at bb8
        refine wrN (i + 1) ?_
        refine ⟨_, (by first | omega | rfl | (dsimp only; omega)), _, _, rfl, (by first | omega | rfl | (dsimp only; omega)), rfl, (Sat.eqs h.drop ?_)⟩
        (exfalso; omega)
        dsimp only at bb7
        refine wrN (i + 1) ?_
        refine ⟨_, (by first | omega | rfl | (dsimp only; omega)), _, _, rfl, (by first | omega | rfl | (dsimp only; omega)), rfl, (Sat.eqs h.drop ?_)⟩
        (exfalso; omega)
        dsimp only at bb6
        refine wrN (i + 1) ?_
        refine ⟨_, (by first | omega | rfl | (dsimp only; omega)), _, _, rfl, (by first | omega | rfl | (dsimp only; omega)), rfl, (Sat.eqs h.drop ?_)⟩
        (exfalso; omega)
        dsimp only at bb5
        refine wrN (i + 1) ?_
        refine ⟨_, (by first | omega | rfl | (dsimp only; omega)), _, _, rfl, (by first | omega | rfl | (dsimp only; omega)), rfl, (Sat.eqs h.drop ?_)⟩
        (exfalso; omega)
        all_goals rw [hsu]
      · rw [if_neg hx, List.append_nil] at hsu
        unfold smallP at hx
        have hz1 := str_size x.name
        refine brD (fun cb0 => ?_) (fun cb0 => by exfalso; omega)
        dsimp only at cb0
        refine joinI ?_
        refine ⟨by omega, ?_⟩
        refine nnL h hl (fun ca1 cha1 => ?_)
        refine ldL h hl cha1 ex (fun cy2 chy2 => ?_)
        obtain ⟨cy2s, cy2t, cy2u, chy2a, chy2b, chy2c, chy2d, chy2e⟩ := eActP_after chy2
        subst chy2e
        obtain ⟨lchy2a, mchy2a, cchy2a⟩ := chy2a.lens
        obtain ⟨lchy2b, mchy2b, cchy2b⟩ := chy2b.lens
        obtain ⟨lchy2c, mchy2c, cchy2c⟩ := chy2c.lens
        refine new h fun cr3 _ h => ?_
        have h := h.asA (B := blk cr3 (.cells #[Value.int IntKind.u8 0, Value.string (ByteArray.mk #[]), Value.slice none 0 0, Value.slice none 0 0, Value.int IntKind.i64 0, Value.slice none 0 0, Value.int IntKind.i64 0] 111 (0, 0))) (by kernel_rfl)
        refine stNs h .n0 fun _ h => ?_
        have h := h.asA (B := blk cr3 (.cells #[Value.int IntKind.u8 ((↑x.kind.toNat : Int), str x.name, cy2s, cy2t, x.wn, cy2u, x.n).fst, Value.string ((↑x.kind.toNat : Int), str x.name, cy2s, cy2t, x.wn, cy2u, x.n).snd.fst, Value.slice ((↑x.kind.toNat : Int), str x.name, cy2s, cy2t, x.wn, cy2u, x.n).snd.snd.fst.p ((↑x.kind.toNat : Int), str x.name, cy2s, cy2t, x.wn, cy2u, x.n).snd.snd.fst.len ((↑x.kind.toNat : Int), str x.name, cy2s, cy2t, x.wn, cy2u, x.n).snd.snd.fst.cap, Value.slice ((↑x.kind.toNat : Int), str x.name, cy2s, cy2t, x.wn, cy2u, x.n).snd.snd.snd.fst.p ((↑x.kind.toNat : Int), str x.name, cy2s, cy2t, x.wn, cy2u, x.n).snd.snd.snd.fst.len ((↑x.kind.toNat : Int), str x.name, cy2s, cy2t, x.wn, cy2u, x.n).snd.snd.snd.fst.cap, Value.int IntKind.i64 ((↑x.kind.toNat : Int), str x.name, cy2s, cy2t, x.wn, cy2u, x.n).snd.snd.snd.snd.fst, Value.slice ((↑x.kind.toNat : Int), str x.name, cy2s, cy2t, x.wn, cy2u, x.n).snd.snd.snd.snd.snd.fst.p ((↑x.kind.toNat : Int), str x.name, cy2s, cy2t, x.wn, cy2u, x.n).snd.snd.snd.snd.snd.fst.len ((↑x.kind.toNat : Int), str x.name, cy2s, cy2t, x.wn, cy2u, x.n).snd.snd.snd.snd.snd.fst.cap, Value.int IntKind.i64 ((↑x.kind.toNat : Int), str x.name, cy2s, cy2t, x.wn, cy2u, x.n).snd.snd.snd.snd.snd.snd] 111 (0, 0))) (by kernel_rfl)
        refine brD (fun cb4 => ?_) (fun cb4 => by exfalso; omega)
        dsimp only at cb4
        refine ld _ h .n0 ?_
        refine brD (fun cb5 => ?_) (fun cb5 => ?_)
        dsimp only at cb5
        refine ld _ h .n0 ?_
        refine brD (fun cb6 => ?_) (fun cb6 => ?_)
        dsimp only at cb6
        refine ld _ h .n0 ?_
        refine brD (fun cb7 => ?_) (fun cb7 => ?_)
        dsimp only at cb7
        refine ld _ h .n0 ?_
        refine brD (fun cb8 => ?_) (fun cb8 => ?_)
        dsimp only at cb8
        refine ldA7 _ _ _ _ _ _ _ h .n0 ?_
        refine new h fun cr9 _ h => ?_
        have h := h.asA (B := blk cr9 (.cells #[Value.int IntKind.u8 (((↑x.kind.toNat : Int), str x.name, cy2s, cy2t, x.wn, cy2u, x.n).fst, ((↑x.kind.toNat : Int), str x.name, cy2s, cy2t, x.wn, cy2u, x.n).snd.fst, ((↑x.kind.toNat : Int), str x.name, cy2s, cy2t, x.wn, cy2u, x.n).snd.snd.fst, ((↑x.kind.toNat : Int), str x.name, cy2s, cy2t, x.wn, cy2u, x.n).snd.snd.snd.fst, ((↑x.kind.toNat : Int), str x.name, cy2s, cy2t, x.wn, cy2u, x.n).snd.snd.snd.snd.fst, ((↑x.kind.toNat : Int), str x.name, cy2s, cy2t, x.wn, cy2u, x.n).snd.snd.snd.snd.snd.fst, ((↑x.kind.toNat : Int), str x.name, cy2s, cy2t, x.wn, cy2u, x.n).snd.snd.snd.snd.snd.snd).fst, Value.string (((↑x.kind.toNat : Int), str x.name, cy2s, cy2t, x.wn, cy2u, x.n).fst, ((↑x.kind.toNat : Int), str x.name, cy2s, cy2t, x.wn, cy2u, x.n).snd.fst, ((↑x.kind.toNat : Int), str x.name, cy2s, cy2t, x.wn, cy2u, x.n).snd.snd.fst, ((↑x.kind.toNat : Int), str x.name, cy2s, cy2t, x.wn, cy2u, x.n).snd.snd.snd.fst, ((↑x.kind.toNat : Int), str x.name, cy2s, cy2t, x.wn, cy2u, x.n).snd.snd.snd.snd.fst, ((↑x.kind.toNat : Int), str x.name, cy2s, cy2t, x.wn, cy2u, x.n).snd.snd.snd.snd.snd.fst, ((↑x.kind.toNat : Int), str x.name, cy2s, cy2t, x.wn, cy2u, x.n).snd.snd.snd.snd.snd.snd).snd.fst, Value.slice (((↑x.kind.toNat : Int), str x.name, cy2s, cy2t, x.wn, cy2u, x.n).fst, ((↑x.kind.toNat : Int), str x.name, cy2s, cy2t, x.wn, cy2u, x.n).snd.fst, ((↑x.kind.toNat : Int), str x.name, cy2s, cy2t, x.wn, cy2u, x.n).snd.snd.fst, ((↑x.kind.toNat : Int), str x.name, cy2s, cy2t, x.wn, cy2u, x.n).snd.snd.snd.fst, ((↑x.kind.toNat : Int), str x.name, cy2s, cy2t, x.wn, cy2u, x.n).snd.snd.snd.snd.fst, ((↑x.kind.toNat : Int), str x.name, cy2s, cy2t, x.wn, cy2u, x.n).snd.snd.snd.snd.snd.fst, ((↑x.kind.toNat : Int), str x.name, cy2s, cy2t, x.wn, cy2u, x.n).snd.snd.snd.snd.snd.snd).snd.snd.fst.p (((↑x.kind.toNat : Int), str x.name, cy2s, cy2t, x.wn, cy2u, x.n).fst, ((↑x.kind.toNat : Int), str x.name, cy2s, cy2t, x.wn, cy2u, x.n).snd.fst, ((↑x.kind.toNat : Int), str x.name, cy2s, cy2t, x.wn, cy2u, x.n).snd.snd.fst, ((↑x.kind.toNat : Int), str x.name, cy2s, cy2t, x.wn, cy2u, x.n).snd.snd.snd.fst, ((↑x.kind.toNat : Int), str x.name, cy2s, cy2t, x.wn, cy2u, x.n).snd.snd.snd.snd.fst, ((↑x.kind.toNat : Int), str x.name, cy2s, cy2t, x.wn, cy2u, x.n).snd.snd.snd.snd.snd.fst, ((↑x.kind.toNat : Int), str x.name, cy2s, cy2t, x.wn, cy2u, x.n).snd.snd.snd.snd.snd.snd).snd.snd.fst.len (((↑x.kind.toNat : Int), str x.name, cy2s, cy2t, x.wn, cy2u, x.n).fst, ((↑x.kind.toNat : Int), str x.name, cy2s, cy2t, x.wn, cy2u, x.n).snd.fst, ((↑x.kind.toNat : Int), str x.name, cy2s, cy2t, x.wn, cy2u, x.n).snd.snd.fst, ((↑x.kind.toNat : Int), str x.name, cy2s, cy2t, x.wn, cy2u, x.n).snd.snd.snd.fst, ((↑x.kind.toNat : Int), str x.name, cy2s, cy2t, x.wn, cy2u, x.n).snd.snd.snd.snd.fst, ((↑x.kind.toNat : Int), str x.name, cy2s, cy2t, x.wn, cy2u, x.n).snd.snd.snd.snd.snd.fst, ((↑x.kind.toNat : Int), str x.name, cy2s, cy2t, x.wn, cy2u, x.n).snd.snd.snd.snd.snd.snd).snd.snd.fst.cap, Value.slice (((↑x.kind.toNat : Int), str x.name, cy2s, cy2t, x.wn, cy2u, x.n).fst, ((↑x.kind.toNat : Int), str x.name, cy2s, cy2t, x.wn, cy2u, x.n).snd.fst, ((↑x.kind.toNat : Int), str x.name, cy2s, cy2t, x.wn, cy2u, x.n).snd.snd.fst, ((↑x.kind.toNat : Int), str x.name, cy2s, cy2t, x.wn, cy2u, x.n).snd.snd.snd.fst, ((↑x.kind.toNat : Int), str x.name, cy2s, cy2t, x.wn, cy2u, x.n).snd.snd.snd.snd.fst, ((↑x.kind.toNat : Int), str x.name, cy2s, cy2t, x.wn, cy2u, x.n).snd.snd.snd.snd.snd.fst, ((↑x.kind.toNat : Int), str x.name, cy2s, cy2t, x.wn, cy2u, x.n).snd.snd.snd.snd.snd.snd).snd.snd.snd.fst.p (((↑x.kind.toNat : Int), str x.name, cy2s, cy2t, x.wn, cy2u, x.n).fst, ((↑x.kind.toNat : Int), str x.name, cy2s, cy2t, x.wn, cy2u, x.n).snd.fst, ((↑x.kind.toNat : Int), str x.name, cy2s, cy2t, x.wn, cy2u, x.n).snd.snd.fst, ((↑x.kind.toNat : Int), str x.name, cy2s, cy2t, x.wn, cy2u, x.n).snd.snd.snd.fst, ((↑x.kind.toNat : Int), str x.name, cy2s, cy2t, x.wn, cy2u, x.n).snd.snd.snd.snd.fst, ((↑x.kind.toNat : Int), str x.name, cy2s, cy2t, x.wn, cy2u, x.n).snd.snd.snd.snd.snd.fst, ((↑x.kind.toNat : Int), str x.name, cy2s, cy2t, x.wn, cy2u, x.n).snd.snd.snd.snd.snd.snd).snd.snd.snd.fst.len (((↑x.kind.toNat : Int), str x.name, cy2s, cy2t, x.wn, cy2u, x.n).fst, ((↑x.kind.toNat : Int), str x.name, cy2s, cy2t, x.wn, cy2u, x.n).snd.fst, ((↑x.kind.toNat : Int), str x.name, cy2s, cy2t, x.wn, cy2u, x.n).snd.snd.fst, ((↑x.kind.toNat : Int), str x.name, cy2s, cy2t, x.wn, cy2u, x.n).snd.snd.snd.fst, ((↑x.kind.toNat : Int), str x.name, cy2s, cy2t, x.wn, cy2u, x.n).snd.snd.snd.snd.fst, ((↑x.kind.toNat : Int), str x.name, cy2s, cy2t, x.wn, cy2u, x.n).snd.snd.snd.snd.snd.fst, ((↑x.kind.toNat : Int), str x.name, cy2s, cy2t, x.wn, cy2u, x.n).snd.snd.snd.snd.snd.snd).snd.snd.snd.fst.cap, Value.int IntKind.i64 (((↑x.kind.toNat : Int), str x.name, cy2s, cy2t, x.wn, cy2u, x.n).fst, ((↑x.kind.toNat : Int), str x.name, cy2s, cy2t, x.wn, cy2u, x.n).snd.fst, ((↑x.kind.toNat : Int), str x.name, cy2s, cy2t, x.wn, cy2u, x.n).snd.snd.fst, ((↑x.kind.toNat : Int), str x.name, cy2s, cy2t, x.wn, cy2u, x.n).snd.snd.snd.fst, ((↑x.kind.toNat : Int), str x.name, cy2s, cy2t, x.wn, cy2u, x.n).snd.snd.snd.snd.fst, ((↑x.kind.toNat : Int), str x.name, cy2s, cy2t, x.wn, cy2u, x.n).snd.snd.snd.snd.snd.fst, ((↑x.kind.toNat : Int), str x.name, cy2s, cy2t, x.wn, cy2u, x.n).snd.snd.snd.snd.snd.snd).snd.snd.snd.snd.fst, Value.slice (((↑x.kind.toNat : Int), str x.name, cy2s, cy2t, x.wn, cy2u, x.n).fst, ((↑x.kind.toNat : Int), str x.name, cy2s, cy2t, x.wn, cy2u, x.n).snd.fst, ((↑x.kind.toNat : Int), str x.name, cy2s, cy2t, x.wn, cy2u, x.n).snd.snd.fst, ((↑x.kind.toNat : Int), str x.name, cy2s, cy2t, x.wn, cy2u, x.n).snd.snd.snd.fst, ((↑x.kind.toNat : Int), str x.name, cy2s, cy2t, x.wn, cy2u, x.n).snd.snd.snd.snd.fst, ((↑x.kind.toNat : Int), str x.name, cy2s, cy2t, x.wn, cy2u, x.n).snd.snd.snd.snd.snd.fst, ((↑x.kind.toNat : Int), str x.name, cy2s, cy2t, x.wn, cy2u, x.n).snd.snd.snd.snd.snd.snd).snd.snd.snd.snd.snd.fst.p (((↑x.kind.toNat : Int), str x.name, cy2s, cy2t, x.wn, cy2u, x.n).fst, ((↑x.kind.toNat : Int), str x.name, cy2s, cy2t, x.wn, cy2u, x.n).snd.fst, ((↑x.kind.toNat : Int), str x.name, cy2s, cy2t, x.wn, cy2u, x.n).snd.snd.fst, ((↑x.kind.toNat : Int), str x.name, cy2s, cy2t, x.wn, cy2u, x.n).snd.snd.snd.fst, ((↑x.kind.toNat : Int), str x.name, cy2s, cy2t, x.wn, cy2u, x.n).snd.snd.snd.snd.fst, ((↑x.kind.toNat : Int), str x.name, cy2s, cy2t, x.wn, cy2u, x.n).snd.snd.snd.snd.snd.fst, ((↑x.kind.toNat : Int), str x.name, cy2s, cy2t, x.wn, cy2u, x.n).snd.snd.snd.snd.snd.snd).snd.snd.snd.snd.snd.fst.len (((↑x.kind.toNat : Int), str x.name, cy2s, cy2t, x.wn, cy2u, x.n).fst, ((↑x.kind.toNat : Int), str x.name, cy2s, cy2t, x.wn, cy2u, x.n).snd.fst, ((↑x.kind.toNat : Int), str x.name, cy2s, cy2t, x.wn, cy2u, x.n).snd.snd.fst, ((↑x.kind.toNat : Int), str x.name, cy2s, cy2t, x.wn, cy2u, x.n).snd.snd.snd.fst, ((↑x.kind.toNat : Int), str x.name, cy2s, cy2t, x.wn, cy2u, x.n).snd.snd.snd.snd.fst, ((↑x.kind.toNat : Int), str x.name, cy2s, cy2t, x.wn, cy2u, x.n).snd.snd.snd.snd.snd.fst, ((↑x.kind.toNat : Int), str x.name, cy2s, cy2t, x.wn, cy2u, x.n).snd.snd.snd.snd.snd.snd).snd.snd.snd.snd.snd.fst.cap, Value.int IntKind.i64 (((↑x.kind.toNat : Int), str x.name, cy2s, cy2t, x.wn, cy2u, x.n).fst, ((↑x.kind.toNat : Int), str x.name, cy2s, cy2t, x.wn, cy2u, x.n).snd.fst, ((↑x.kind.toNat : Int), str x.name, cy2s, cy2t, x.wn, cy2u, x.n).snd.snd.fst, ((↑x.kind.toNat : Int), str x.name, cy2s, cy2t, x.wn, cy2u, x.n).snd.snd.snd.fst, ((↑x.kind.toNat : Int), str x.name, cy2s, cy2t, x.wn, cy2u, x.n).snd.snd.snd.snd.fst, ((↑x.kind.toNat : Int), str x.name, cy2s, cy2t, x.wn, cy2u, x.n).snd.snd.snd.snd.snd.fst, ((↑x.kind.toNat : Int), str x.name, cy2s, cy2t, x.wn, cy2u, x.n).snd.snd.snd.snd.snd.snd).snd.snd.snd.snd.snd.snd] 111 (0, 0))) (by kernel_rfl)
        refine app1 _ _ slActP h .n1 (by assumption) (fun cs10 _ cl10 h => ?_)
        dsimp only at cl10
        refine wrN (i + 1) ?_
        refine ⟨_, (by first | omega | rfl | (dsimp only; omega)), _, _, rfl, (by first | omega | rfl | (dsimp only; omega)), rfl, (Sat.eqs (h.pick .n1).drop ?_)⟩
        (exfalso; omega)
        dsimp only at cb8
        refine wrN (i + 1) ?_
        refine ⟨_, (by first | omega | rfl | (dsimp only; omega)), _, _, rfl, (by first | omega | rfl | (dsimp only; omega)), rfl, (Sat.eqs h.drop ?_)⟩
        rotate_left
        dsimp only at cb7
        refine wrN (i + 1) ?_
        refine ⟨_, (by first | omega | rfl | (dsimp only; omega)), _, _, rfl, (by first | omega | rfl | (dsimp only; omega)), rfl, (Sat.eqs h.drop ?_)⟩
        rotate_left
        dsimp only at cb6
        refine wrN (i + 1) ?_
        refine ⟨_, (by first | omega | rfl | (dsimp only; omega)), _, _, rfl, (by first | omega | rfl | (dsimp only; omega)), rfl, (Sat.eqs h.drop ?_)⟩
        rotate_left
        dsimp only at cb5
        refine wrN (i + 1) ?_
        refine ⟨_, (by first | omega | rfl | (dsimp only; omega)), _, _, rfl, (by first | omega | rfl | (dsimp only; omega)), rfl, (Sat.eqs h.drop ?_)⟩
        rotate_left
        all_goals rw [hsu]
    · have hov := fewP_over (l := l) (i := i) (by omega)
      refine brD (fun db0 => ?_) (fun db0 => by exfalso; omega)
      dsimp only at db0
      refine joinI ?_
      refine ⟨by omega, ?_⟩
      refine nnL h hl (fun da1 dha1 => ?_)
      refine ldL h hl dha1 ex (fun dy2 dhy2 => ?_)
      obtain ⟨dy2s, dy2t, dy2u, dhy2a, dhy2b, dhy2c, dhy2d, dhy2e⟩ := eActP_after dhy2
      subst dhy2e
      obtain ⟨ldhy2a, mdhy2a, cdhy2a⟩ := dhy2a.lens
      obtain ⟨ldhy2b, mdhy2b, cdhy2b⟩ := dhy2b.lens
      obtain ⟨ldhy2c, mdhy2c, cdhy2c⟩ := dhy2c.lens
      refine new h fun dr3 _ h => ?_
      have h := h.asA (B := blk dr3 (.cells #[Value.int IntKind.u8 0, Value.string (ByteArray.mk #[]), Value.slice none 0 0, Value.slice none 0 0, Value.int IntKind.i64 0, Value.slice none 0 0, Value.int IntKind.i64 0] 111 (0, 0))) (by kernel_rfl)
      refine stNs h .n0 fun _ h => ?_
      have h := h.asA (B := blk dr3 (.cells #[Value.int IntKind.u8 ((↑x.kind.toNat : Int), str x.name, dy2s, dy2t, x.wn, dy2u, x.n).fst, Value.string ((↑x.kind.toNat : Int), str x.name, dy2s, dy2t, x.wn, dy2u, x.n).snd.fst, Value.slice ((↑x.kind.toNat : Int), str x.name, dy2s, dy2t, x.wn, dy2u, x.n).snd.snd.fst.p ((↑x.kind.toNat : Int), str x.name, dy2s, dy2t, x.wn, dy2u, x.n).snd.snd.fst.len ((↑x.kind.toNat : Int), str x.name, dy2s, dy2t, x.wn, dy2u, x.n).snd.snd.fst.cap, Value.slice ((↑x.kind.toNat : Int), str x.name, dy2s, dy2t, x.wn, dy2u, x.n).snd.snd.snd.fst.p ((↑x.kind.toNat : Int), str x.name, dy2s, dy2t, x.wn, dy2u, x.n).snd.snd.snd.fst.len ((↑x.kind.toNat : Int), str x.name, dy2s, dy2t, x.wn, dy2u, x.n).snd.snd.snd.fst.cap, Value.int IntKind.i64 ((↑x.kind.toNat : Int), str x.name, dy2s, dy2t, x.wn, dy2u, x.n).snd.snd.snd.snd.fst, Value.slice ((↑x.kind.toNat : Int), str x.name, dy2s, dy2t, x.wn, dy2u, x.n).snd.snd.snd.snd.snd.fst.p ((↑x.kind.toNat : Int), str x.name, dy2s, dy2t, x.wn, dy2u, x.n).snd.snd.snd.snd.snd.fst.len ((↑x.kind.toNat : Int), str x.name, dy2s, dy2t, x.wn, dy2u, x.n).snd.snd.snd.snd.snd.fst.cap, Value.int IntKind.i64 ((↑x.kind.toNat : Int), str x.name, dy2s, dy2t, x.wn, dy2u, x.n).snd.snd.snd.snd.snd.snd] 111 (0, 0))) (by kernel_rfl)
      refine brD (fun db4 => by exfalso; omega) (fun db4 => ?_)
      dsimp only at db4
      refine wrN (i + 1) ?_
      refine ⟨_, (by first | omega | rfl | (dsimp only; omega)), _, _, rfl, (by first | omega | rfl | (dsimp only; omega)), rfl, (Sat.eqs h.drop ?_)⟩
      rotate_left
      all_goals rw [hov]
  · have : i = l.length := by omega
    subst this
    rw [List.take_length] at h
    refine brD (fun eb0 => by exfalso; omega) (fun eb0 => ?_)
    dsimp only at eb0
    refine ⟨_, rfl, ?_⟩
    obtain ⟨eΓ1, eg1, ef1, h⟩ := h.olFreeze .n0 (by first | omega | (dsimp only; omega))
    have hl := hl.mono eg1
    refine k _ _ _ eg1 ef1 h

end Go.Proofs.Ytohoimokfgfceaa.K

/-
  place's statements: what an act does of both disks; the examples; what can be seen.
-/
namespace Go.Proofs.Ytohoimokfgfceaa.K
open Go Go.Proofs
variable {Γ Γ' : Mem} {L L' L'' : List HP} {w w' : World} {A B : HP}
set_option maxRecDepth 100000
set_option maxHeartbeats 1000000

def DiskM.actP (m : DiskM) (a : ActP) : DiskM × Int :=
  if a.kind.toNat % 5 = 0 then putP m a.name a.b
  else if a.kind.toNat % 5 = 1 then growM m a.name a.b
  else if a.kind.toNat % 5 = 2 then dropM m a.names
  else if a.kind.toNat % 5 = 3 then (m.crash a.wn a.wb, 0)
  else m.doom a.n

theorem doesP_ok {a b : Nat} {m : DiskM} {x : ActP} {s t u : Sl} {K : Bool → World → Prop} (h : Sat Γ (PDisk a m :: RDisk b m :: L) w) (hx : smallP x) (hg : m.g < 1000000000) (hb : Bytes Γ s x.b) (hn : Lst eStr Γ t x.names) (ht : Lst eInt Γ u x.wb) (hi : i64B x.n)
    (k : ∀ Γ' w', Γ.le Γ' → Sat Γ' (PDisk a (m.actP x).1 :: RDisk b (m.actP x).1 :: L) w' → K true w') :
    CallP Try.prog 82 [.pointer (some ⟨a, 0, none⟩), .pointer (some ⟨b, 0, none⟩), .agg #[.int .u8 (x.kind.toNat : Int), .string (str x.name), .slice s.p s.len s.cap, .slice t.p t.len t.cap, .int .i64 x.wn, .slice u.p u.len u.cap, .int .i64 x.n]] (.one (.s .bool)) K w := by
  have hkl := x.kind.toNat_lt
  obtain ⟨hx1, hx2, hx3, hx4⟩ := hx
  unfold i64B at hi
  have hn2 : x.n < 9223372036854775808 := by omega
  refine callP (fn := Try.f82) [.s (.ptr (some ⟨a, 0, none⟩)), .s (.ptr (some ⟨b, 0, none⟩)), .agg [.int .u8 (x.kind.toNat : Int), .str (str x.name), .sl s, .sl t, .int .i64 x.wn, .sl u, .int .i64 x.n]] (.p .n (.p (.p .n (.b (.p .n (.p (.p (.h [0, 1, 2, 3, 4, 6, 7, 8, 9, 10, 5, 11, 12, 13] [11]) .n) (.p .n (.p (.p (.h [0, 1, 2, 3, 4, 6, 7, 8, 9, 10, 5, 11, 12, 13] [11]) .n) (.p .n (.p (.p (.h [0, 1, 2, 4, 5, 6, 3, 7, 8, 9] [7]) .n) (.p .n (.p (.p (.h [0, 1, 2, 4, 5, 6, 3, 7, 8, 9] [7]) .n) .n)))))))))) (.p (.h [0, 1, 2, 4, 5, 6, 3, 7, 8, 9] [7]) .n))) nong mixed (by kernel_rfl) (by kernel_rfl) rfl rfl ?_
  unfold DiskM.actP at k
  by_cases h0 : x.kind.toNat % 5 = 0
  · rw [if_pos h0] at k
    obtain ⟨lhb, mhb, chb⟩ := hb.lens
    obtain ⟨lhn, mhn, chn⟩ := hn.lens
    obtain ⟨lht, mht, cht⟩ := ht.lens
    refine new h fun ar0 _ h => ?_
    have h := h.asA (B := blk ar0 (.cells #[Value.int IntKind.u8 (↑x.kind.toNat : Int), Value.string (str x.name), Value.slice s.p s.len s.cap, Value.slice t.p t.len t.cap, Value.int IntKind.i64 x.wn, Value.slice u.p u.len u.cap, Value.int IntKind.i64 x.n] 111 (0, 0))) (by kernel_rfl)
    refine ld _ h .n0 ?_
    refine ⟨by omega, ?_⟩
    refine tmd ?_
    refine brE (fun ab1 => ?_) (fun ab1 => by exfalso; omega)
    refine heldS h (.cons .n0 (.cons .n1 .nil)) ?_
    refine dr h fun _ h => ?_
    refine ⟨h.sxs (.cons .n0 (.cons .n1 .nil)) (.refl _), ?_⟩
    refine ldH _ .n0 ?_
    refine ldH _ .n0 ?_
    refine ldH _ .n0 ?_
    refine ldH _ .n0 ?_
    refine dPut_ok (h.pick .n1) hb (by first | omega | (dsimp only; omega) | decide) (fun aΓ3 _ ag5 h => ?_)
    have hb := hb.mono ag5
    have hn := hn.mono ag5
    have ht := ht.mono ag5
    refine ⟨h.sxs (.cons .n1 (.cons .n1 .nil)) ag5, ?_⟩
    refine rPut_ok (h.pick .n2) hb (by first | omega | (dsimp only; omega) | decide) (fun aΓ8 _ ag10 h => ?_)
    have hb := hb.mono ag10
    have hn := hn.mono ag10
    have ht := ht.mono ag10
    refine heldS h (.cons .n0 (.cons .n0 (.cons .n0 .nil))) ?_
    refine ⟨h.sxs (.cons .n0 (.cons .n0 (.cons .n0 .nil))) (.refl _), ?_⟩
    refine ⟨_, rfl, ?_⟩
    rw [beq_self_eq_true]
    refine k _ _ (ag5.trans ag10) ((h.pick .n2).drop.pick .n1)
  rw [if_neg h0] at k
  by_cases h1 : x.kind.toNat % 5 = 1
  · rw [if_pos h1] at k
    obtain ⟨lhb, mhb, chb⟩ := hb.lens
    obtain ⟨lhn, mhn, chn⟩ := hn.lens
    obtain ⟨lht, mht, cht⟩ := ht.lens
    refine new h fun br0 _ h => ?_
    have h := h.asA (B := blk br0 (.cells #[Value.int IntKind.u8 (↑x.kind.toNat : Int), Value.string (str x.name), Value.slice s.p s.len s.cap, Value.slice t.p t.len t.cap, Value.int IntKind.i64 x.wn, Value.slice u.p u.len u.cap, Value.int IntKind.i64 x.n] 111 (0, 0))) (by kernel_rfl)
    refine ld _ h .n0 ?_
    refine ⟨by omega, ?_⟩
    refine tmd ?_
    refine brE (fun bb1 => by exfalso; omega) (fun bb1 => ?_)
    refine brE (fun bb2 => ?_) (fun bb2 => by exfalso; omega)
    refine heldS h (.cons .n0 (.cons .n1 .nil)) ?_
    refine dr h fun _ h => ?_
    refine ⟨h.sxs (.cons .n0 (.cons .n1 .nil)) (.refl _), ?_⟩
    refine ldH _ .n0 ?_
    refine ldH _ .n0 ?_
    refine ldH _ .n0 ?_
    refine ldH _ .n0 ?_
    refine dGrowP_ok (h.pick .n1) hb (by first | omega | (dsimp only; omega) | decide) (fun bΓ4 _ bg6 h => ?_)
    have hb := hb.mono bg6
    have hn := hn.mono bg6
    have ht := ht.mono bg6
    refine ⟨h.sxs (.cons .n1 (.cons .n1 .nil)) bg6, ?_⟩
    refine rGrowP_ok (h.pick .n2) hb (by first | omega | (dsimp only; omega) | decide) (fun bΓ9 _ bg11 h => ?_)
    have hb := hb.mono bg11
    have hn := hn.mono bg11
    have ht := ht.mono bg11
    refine heldS h (.cons .n0 (.cons .n0 (.cons .n0 .nil))) ?_
    refine ⟨h.sxs (.cons .n0 (.cons .n0 (.cons .n0 .nil))) (.refl _), ?_⟩
    refine ⟨_, rfl, ?_⟩
    rw [beq_self_eq_true]
    refine k _ _ (bg6.trans bg11) ((h.pick .n2).drop.pick .n1)
  rw [if_neg h1] at k
  by_cases h2 : x.kind.toNat % 5 = 2
  · rw [if_pos h2] at k
    obtain ⟨lhb, mhb, chb⟩ := hb.lens
    obtain ⟨lhn, mhn, chn⟩ := hn.lens
    obtain ⟨lht, mht, cht⟩ := ht.lens
    refine new h fun cr0 _ h => ?_
    have h := h.asA (B := blk cr0 (.cells #[Value.int IntKind.u8 (↑x.kind.toNat : Int), Value.string (str x.name), Value.slice s.p s.len s.cap, Value.slice t.p t.len t.cap, Value.int IntKind.i64 x.wn, Value.slice u.p u.len u.cap, Value.int IntKind.i64 x.n] 111 (0, 0))) (by kernel_rfl)
    refine ld _ h .n0 ?_
    refine ⟨by omega, ?_⟩
    refine tmd ?_
    refine brE (fun cb1 => by exfalso; omega) (fun cb1 => ?_)
    refine brE (fun cb2 => by exfalso; omega) (fun cb2 => ?_)
    refine brE (fun cb3 => ?_) (fun cb3 => by exfalso; omega)
    refine heldS h (.cons .n0 (.cons .n1 .nil)) ?_
    refine dr h fun _ h => ?_
    refine ⟨h.sxs (.cons .n0 (.cons .n1 .nil)) (.refl _), ?_⟩
    refine ldH _ .n0 ?_
    refine ldH _ .n0 ?_
    refine dDrop_ok (h.pick .n1) hn (by first | omega | (dsimp only; omega) | decide) (fun cΓ5 _ cg7 h => ?_)
    have hb := hb.mono cg7
    have hn := hn.mono cg7
    have ht := ht.mono cg7
    refine ⟨h.sxs (.cons .n1 (.cons .n1 .nil)) cg7, ?_⟩
    refine rDrop_ok (h.pick .n2) hn (by first | omega | (dsimp only; omega) | decide) (fun cΓ10 _ cg12 h => ?_)
    have hb := hb.mono cg12
    have hn := hn.mono cg12
    have ht := ht.mono cg12
    refine heldS h (.cons .n0 (.cons .n0 (.cons .n0 .nil))) ?_
    refine ⟨h.sxs (.cons .n0 (.cons .n0 (.cons .n0 .nil))) (.refl _), ?_⟩
    refine ⟨_, rfl, ?_⟩
    rw [beq_self_eq_true]
    refine k _ _ (cg7.trans cg12) ((h.pick .n2).drop.pick .n1)
  rw [if_neg h2] at k
  by_cases h3 : x.kind.toNat % 5 = 3
  · rw [if_pos h3] at k
    obtain ⟨lhb, mhb, chb⟩ := hb.lens
    obtain ⟨lhn, mhn, chn⟩ := hn.lens
    obtain ⟨lht, mht, cht⟩ := ht.lens
    refine new h fun dr0 _ h => ?_
    have h := h.asA (B := blk dr0 (.cells #[Value.int IntKind.u8 (↑x.kind.toNat : Int), Value.string (str x.name), Value.slice s.p s.len s.cap, Value.slice t.p t.len t.cap, Value.int IntKind.i64 x.wn, Value.slice u.p u.len u.cap, Value.int IntKind.i64 x.n] 111 (0, 0))) (by kernel_rfl)
    refine ld _ h .n0 ?_
    refine ⟨by omega, ?_⟩
    refine tmd ?_
    refine brE (fun db1 => by exfalso; omega) (fun db1 => ?_)
    refine brE (fun db2 => by exfalso; omega) (fun db2 => ?_)
    refine brE (fun db3 => by exfalso; omega) (fun db3 => ?_)
    refine brE (fun db4 => ?_) (fun db4 => by exfalso; omega)
    refine heldS h (.cons .n0 (.cons .n1 .nil)) ?_
    refine dr h fun _ h => ?_
    refine ⟨h.sxs (.cons .n0 (.cons .n1 .nil)) (.refl _), ?_⟩
    refine ldHA2 _ _ .n0 ?_
    refine ldHA2 _ _ .n0 ?_
    refine dCrash_ok (h.pick .n1) (by first | omega | (dsimp only; omega) | decide) ht (fun _ h => ?_)
    refine ⟨h.sxs (.cons .n1 (.cons .n1 .nil)) (.refl _), ?_⟩
    refine rCrash_ok (h.pick .n2) (by first | omega | (dsimp only; omega) | decide) ht (fun dΓ9 _ dg11 h => ?_)
    have hb := hb.mono dg11
    have hn := hn.mono dg11
    have ht := ht.mono dg11
    refine heldS h (.cons .n0 (.cons .n0 (.cons .n0 .nil))) ?_
    refine ⟨h.sxs (.cons .n0 (.cons .n0 (.cons .n0 .nil))) (.refl _), ?_⟩
    refine ⟨_, rfl, ?_⟩
    refine k _ _ dg11 ((h.pick .n2).drop.pick .n1)
  rw [if_neg h3] at k
  obtain ⟨lhb, mhb, chb⟩ := hb.lens
  obtain ⟨lhn, mhn, chn⟩ := hn.lens
  obtain ⟨lht, mht, cht⟩ := ht.lens
  refine new h fun er0 _ h => ?_
  have h := h.asA (B := blk er0 (.cells #[Value.int IntKind.u8 (↑x.kind.toNat : Int), Value.string (str x.name), Value.slice s.p s.len s.cap, Value.slice t.p t.len t.cap, Value.int IntKind.i64 x.wn, Value.slice u.p u.len u.cap, Value.int IntKind.i64 x.n] 111 (0, 0))) (by kernel_rfl)
  refine ld _ h .n0 ?_
  refine ⟨by omega, ?_⟩
  refine tmd ?_
  refine brE (fun eb1 => by exfalso; omega) (fun eb1 => ?_)
  refine brE (fun eb2 => by exfalso; omega) (fun eb2 => ?_)
  refine brE (fun eb3 => by exfalso; omega) (fun eb3 => ?_)
  refine brE (fun eb4 => by exfalso; omega) (fun eb4 => ?_)
  refine heldS h (.cons .n0 (.cons .n1 .nil)) ?_
  refine dr h fun _ h => ?_
  refine ⟨h.sxs (.cons .n0 (.cons .n1 .nil)) (.refl _), ?_⟩
  refine ldH _ .n0 ?_
  refine ldH _ .n0 ?_
  refine dDoom_ok (h.pick .n1) hn2 (fun _ h => ?_)
  refine ⟨h.sxs (.cons .n1 (.cons .n1 .nil)) (.refl _), ?_⟩
  refine rDoom_ok (h.pick .n2) hn2 (fun _ h => ?_)
  refine heldS h (.cons .n0 (.cons .n0 (.cons .n0 .nil))) ?_
  refine ⟨h.sxs (.cons .n0 (.cons .n0 (.cons .n0 .nil))) (.refl _), ?_⟩
  refine ⟨_, rfl, ?_⟩
  rw [beq_self_eq_true]
  refine k _ _ (.refl _) ((h.pick .n2).drop.pick .n1)

end Go.Proofs.Ytohoimokfgfceaa.K

/-
  place's statements: the examples, what can be seen of both disks; how acts grow.
-/
namespace Go.Proofs.Ytohoimokfgfceaa.K
open Go Go.Proofs Go.ChangeShapes Go.WideShapes Go.ChangeAt Go.RowKit
variable {Γ Γ' : Mem} {L L' L'' : List HP} {w w' : World} {A B : HP}
set_option maxRecDepth 100000
set_option maxHeartbeats 1000000

theorem stepPut (name b : Str) : StepOK (runAll (putSteps name b)) ((64 * (chunks b).length + 2) * 5) := by
  refine StepOK.runAll (fs := putSteps name b) fun f hf => ?_
  simp only [putSteps, List.mem_cons, List.not_mem_nil, or_false] at hf
  rcases hf with rfl | rfl | rfl | rfl | rfl
  · exact (stepCreate _).mono (by omega)
  · exact (stepFill _ fun c => chunks_le).mono (by omega)
  · exact (stepSync _).mono (by omega)
  · exact (stepRename _ _).mono (by omega)
  · exact stepSyncNames.mono (by omega)

theorem stepGrow (name b : Str) : StepOK (runAll (growSteps name b)) ((b.length + 2) * 3) := by
  refine StepOK.runAll (fs := growSteps name b) fun f hf => ?_
  simp only [growSteps, List.mem_cons, List.not_mem_nil, or_false] at hf
  rcases hf with rfl | rfl | rfl
  · exact (stepMade _).mono (by omega)
  · exact (stepAppend _ _).mono (by omega)
  · exact (stepSync _).mono (by omega)

theorem stepPutP (name b : Str) : StepOK (fun m => putP m name b) ((64 * (chunks b).length + 2) * 5 + 1) := by
  refine ⟨fun m h => putM_wf h name b, fun m => ?_⟩
  have h1 := remove_g m tmpS
  have h2 := (stepPut name b).g (m.remove tmpS).1
  unfold putP
  repeat' split
  all_goals (first | omega | (dsimp only; omega) | (show m.g ≤ _; omega))

theorem stepGrowP (name b : Str) : StepOK (fun m => growM m name b) ((b.length + 2) * 3) := by
  refine ⟨fun m h => ?_, fun m => ?_⟩
  · unfold growM
    split
    · exact h
    · exact (stepGrow name b).wf m h
  · have h2 := (stepGrow name b).g m
    unfold growM
    split
    · show m.g ≤ _; omega
    · exact h2

theorem stepDropF : ∀ (l : List Str) (b : Bool), StepOK (dropF l b) l.length
  | [], b => by
    refine ⟨fun m h => ?_, fun m => ?_⟩
    · unfold dropF; split
      · exact h.syncNames
      · exact h
    · unfold dropF; split
      · rw [syncNames_g]; omega
      · exact Nat.le_refl _
  | s :: l, b => by
    have h1 := stepDropF l true
    have h2 := stepDropF l b
    refine ⟨fun m h => ?_, fun m => ?_⟩
    · unfold dropF
      repeat' split
      · exact h1.wf _ (h.remove s)
      · exact h2.wf _ (h.remove s)
      · exact h.remove s
    · have h3 := remove_g m s
      have h4 := h1.g (m.remove s).1
      have h5 := h2.g (m.remove s).1
      rw [List.length_cons]
      unfold dropF
      repeat' split
      all_goals omega

theorem actP_ok {m : DiskM} {x : ActP} (hx : smallP x) (hi : i64B x.n) (hw : Wf m) : Wf (m.actP x).1 ∧ (m.actP x).1.g ≤ m.g + 2000 := by
  obtain ⟨hx1, hx2, hx3, hx4⟩ := hx
  have hc := chunks_len x.b
  unfold DiskM.actP
  split
  · have := stepPutP x.name x.b
    exact ⟨this.wf m hw, Nat.le_trans (this.g m) (by omega)⟩
  · split
    · have := stepGrowP x.name x.b
      exact ⟨this.wf m hw, Nat.le_trans (this.g m) (by omega)⟩
    · split
      · have := stepDropF x.names false
        exact ⟨this.wf m hw, Nat.le_trans (this.g m) (by omega)⟩
      · split
        · exact ⟨hw.crash x.wn x.wb, by show m.g ≤ _; omega⟩
        · exact ⟨hw.doom (by unfold i64B at hi; omega), by rw [doom_g]; omega⟩

theorem sameP_ok {a b : Nat} {m : DiskM} {K : Bool → World → Prop} (h : Sat Γ (PDisk a m :: RDisk b m :: L) w) (hg : m.g < 1000000000000) (k : ∀ Γ' w', Γ.le Γ' → Sat Γ' L w' → K true w') :
    CallP Try.prog 83 [.pointer (some ⟨a, 0, none⟩), .pointer (some ⟨b, 0, none⟩)] (.one (.s .bool)) K w := by
  have hw : Wf m := (h.pick .n1).rdWf
  have hgn := names_g m
  have hnl : m.names.2.1.length ≤ m.g := by
    cases hu : m.up with
    | false => rw [DiskM.names_down hu]; exact Nat.zero_le _
    | true => rw [DiskM.names_up hu, List.length_map]; exact hw.nowLen
  refine callP (fn := Try.f83) [.s (.ptr (some ⟨a, 0, none⟩)), .s (.ptr (some ⟨b, 0, none⟩))] (.p .n (.p .n (.p .n (.j [7, 5, 1, 0] [] .n (.p (.p .n (.b (.l [36, 5, 1, 0, 35] [(37, .s (.int .i64))] (.p .n (.p .n (.p (.k [37, 36, 5, 1, 0, 35] [] .n) .n)))))) .n))))) nong mixed (by kernel_rfl) (by kernel_rfl) rfl rfl ?_
  refine dNamesFrozen_ok h hg (fun av1 aΓ2 _ ag4 af5 h => ?_)
  obtain ⟨laf5, maf5, caf5⟩ := af5.lens
  refine rNames_ok (h.pick .n1) hg (fun av8 aΓ9 _ ag11 af12 h => ?_)
  have af5 := af5.mono ag11
  obtain ⟨laf12, maf12, caf12⟩ := af12.lens
  refine joinI ?_
  refine brN (fun ab14 => by exfalso; dsimp only at ab14; omega) (fun ab14 => ?_)
  dsimp only at ab14
  refine brN (fun ab15 => by exfalso; omega) (fun ab15 => ?_)
  dsimp only at ab15
  rotate_left
  refine loop (σ := Int) (fun st w' n => ∃ (i : Nat) (m' : DiskM) (Γ' : Mem), st = (i : Int) ∧ i ≤ m.names.2.1.length ∧ n = m.names.2.1.length - i ∧ m'.g = m.g ∧ aΓ9.le Γ' ∧ Sat Γ' (RDisk b m' :: PDisk a m' :: L) w') m.names.2.1.length
    ⟨0, m.names.1, aΓ9, rfl, by omega, by omega, hgn, .refl _, h⟩ ?_
  clear h
  rintro _ w n ⟨i, m', Γ3, rfl, hi, hn2, hg', g3, h⟩
  have hg3 : m'.g < 1000000000000 := by omega
  by_cases hil : i < m.names.2.1.length
  · obtain ⟨s, es⟩ := get_lt hil
    have hgr := read_g m' s
    have af12 := af12.mono g3
    have af5 := af5.mono g3
    refine brD (fun bb0 => ?_) (fun bb0 => by exfalso; dsimp only at bb0; omega)
    dsimp only at bb0
    refine joinI ?_
    refine ⟨by dsimp only; omega, ?_⟩
    refine nnL h af12 (fun ba1 bha1 => ?_)
    dsimp only at bha1
    refine ldL h af12 bha1 es (fun by2 bhy2 => ?_)
    have bhy2 : by2 = str s := bhy2
    subst bhy2
    refine dRead_ok (h.pick .n1) hg3 (fun bv4 bΓ5 _ bg7 bf8 h => ?_)
    have af12 := af12.mono bg7
    have af5 := af5.mono bg7
    obtain ⟨lbf8, mbf8, cbf8⟩ := bf8.lens
    refine rRead_ok (h.pick .n1) hg3 (fun bv11 bΓ12 _ bg14 bf15 h => ?_)
    have bf8 := bf8.mono bg14
    have af12 := af12.mono bg14
    have af5 := af5.mono bg14
    obtain ⟨lbf15, mbf15, cbf15⟩ := bf15.lens
    refine ⟨by dsimp only; omega, ?_⟩
    refine nnL h af5 (fun ba17 bha17 => ?_)
    dsimp only at bha17
    refine ldL h af5 bha17 es (fun by18 bhy18 => ?_)
    have bhy18 : by18 = str s := bhy18
    subst bhy18
    refine brSn (fun bb19 => absurd rfl bb19) (fun bb19 => ?_)
    refine btoS h bf8 ?_
    refine btoS h bf15 ?_
    refine brSn (fun bb20 => absurd rfl bb20) (fun bb20 => ?_)
    refine brN (fun bb21 => by exfalso; omega) (fun bb21 => ?_)
    dsimp only at bb21
    refine wrN (i + 1) ?_
    refine ⟨_, (by first | omega | rfl | (dsimp only; omega)), _, _, _, rfl, (by first | omega | rfl | (dsimp only; omega)), rfl, (by first | omega | rfl | (dsimp only; omega)), (g3.trans (bg7.trans bg14)), ((h.pick .n1).pick .n1)⟩
  · have af12 := af12.mono g3
    have af5 := af5.mono g3
    refine brD (fun cb0 => by exfalso; dsimp only at cb0; omega) (fun cb0 => ?_)
    dsimp only at cb0
    refine ⟨_, rfl, ?_⟩
    refine k _ _ (ag4.trans (ag11.trans g3)) h.drop.drop

theorem mk70_pr {K : Sl → World → Prop} (h : Sat Γ L w) (k : ∀ s Γ' w', Γ.le Γ' → Bytes Γ' s (List.replicate 70 0) → Sat Γ' L w' → K s w') :
    Prim Try.prog (Instr.makeSlice 32 (.int .i64 70) (.int .i64 70)) (.one (.s .sl)) K w := mkO (E := eByte) (n := 70) (c := 70) (0 : Int) (0 : UInt8) slBytes h (by decide) rfl (by decide) fun s w' e _ h => by
  obtain ⟨Γ', g, f, h⟩ := h.olFreeze .n0 (by omega)
  exact k s Γ' w' g f.bytes h

theorem shownP_ok {K : Bool → World → Prop} (h : Sat Γ L w) (k : ∀ Γ' w', Γ.le Γ' → Sat Γ' L w' → K true w') :
    CallP Try.prog 79 [] (.one (.s .bool)) K w := by
  refine callP (fn := Try.f79) [] (.p .n (.p .n (.j [1] [] .n .n))) nong mixed (by kernel_rfl) (by kernel_rfl) rfl rfl ?_
  refine dNew_ok h (fun av1 _ h => ?_)
  refine joinI ?_
  refine brF ?_
  refine dDoom_ok h (by first | omega | (dsimp only; omega) | decide) (fun _ h => ?_)
  refine brF ?_
  refine mk70_pr h (fun av8 aΓ9 _ ag11 af12 h => ?_)
  obtain ⟨laf12, maf12, caf12⟩ := af12.lens
  refine dPut_ok h af12 (by first | omega | (dsimp only; omega) | decide) (fun aΓ15 _ ag17 h => ?_)
  have af12 := af12.mono ag17
  refine brF ?_
  refine dSyncNames_ok h (by first | omega | (dsimp only; omega) | decide) (fun _ h => ?_)
  refine brF ?_
  refine dCrash_ok h (by first | omega | (dsimp only; omega) | decide) (.nil _ _) (fun _ h => ?_)
  refine brF ?_
  refine dRead_ok h (by first | omega | (dsimp only; omega) | decide) (fun av26 aΓ27 _ ag29 af30 h => ?_)
  have af12 := af12.mono ag29
  obtain ⟨laf30, maf30, caf30⟩ := af30.lens
  refine brE (fun ab32 => ?_) (fun ab32 => ?_)
  dsimp only at ab32
  refine ⟨_, rfl, ?_⟩
  refine k _ _ (ag11.trans (ag17.trans ag29)) h.drop
  dsimp only at ab32
  refine ⟨_, rfl, ?_⟩
  rotate_left
  exact absurd (by rw [af30.len]; kernel_rfl) ab32

theorem rStrs : Reads (eList eStr') 91 := .list (e := 9) rStr (by kernel_rfl) (by kernel_rfl)
theorem strs_of {Γ : Mem} {s : Sl} {l : List Str} (h : Lst eStr' Γ s l) : Lst eStr Γ s l := by
  obtain ⟨ys, h1, h2⟩ := h
  exact ⟨ys, h1, h2.imp fun _ _ hr => hr.1⟩

theorem rActP : Reads eActP 111 := ⟨fun {H enc W n cs x} h => by
  obtain ⟨h1, m, h2⟩ := struct_reads (l := [(5, 0), (9, 1), (32, 2), (91, 3), (81, 4), (3, 6)]) (by kernel_rfl) (by simp) h
  have e : Try.prog.cellsOf 111 = 7 := by kernel_rfl
  have e0 : Try.prog.cellsOf 5 = 1 := by kernel_rfl
  have e1 : Try.prog.cellsOf 9 = 1 := by kernel_rfl
  have e2 : Try.prog.cellsOf 32 = 1 := by kernel_rfl
  have e3 : Try.prog.cellsOf 91 = 1 := by kernel_rfl
  have e4 : Try.prog.cellsOf 81 = 2 := by kernel_rfl
  have e5 : Try.prog.cellsOf 3 = 1 := by kernel_rfl
  rw [e] at h1
  match cs, h1 with
  | [c0, c1, c2, c3, c4, c5, c6], _ =>
    obtain ⟨x0, k0⟩ := h2 0 _ _ rfl
    obtain ⟨x1, k1⟩ := h2 1 _ _ rfl
    obtain ⟨x2, k2⟩ := h2 2 _ _ rfl
    obtain ⟨x3, k3⟩ := h2 3 _ _ rfl
    obtain ⟨x4, k4⟩ := h2 4 _ _ rfl
    obtain ⟨x5, k5⟩ := h2 5 _ _ rfl
    rw [e0] at k0
    rw [e1] at k1
    rw [e2] at k2
    rw [e3] at k3
    rw [e4] at k4
    rw [e5] at k5
    obtain ⟨y0, a0, f0, g0⟩ := rByte.out k0
    obtain ⟨y1, a1, f1, g1⟩ := rStr.out k1
    obtain ⟨y2, a2, f2, g2⟩ := rBytes.out k2
    obtain ⟨y3, a3, f3, g3⟩ := rStrs.out k3
    obtain ⟨y4, a4, f4, g4⟩ := rWreck.out k4
    obtain ⟨y5, a5, f5, g5⟩ := rInt.out k5
    have f0 : [c0] = [Value.int .u8 y0] := f0
    have f1 : [c1] = [Value.string y1] := f1
    have f2 : [c2] = [Value.slice y2.p y2.len y2.cap] := f2
    have f3 : [c3] = [Value.slice y3.p y3.len y3.cap] := f3
    have f4 : [c4, c5] = [Value.int .i64 y4.1, Value.slice y4.2.p y4.2.len y4.2.cap] := f4
    have f5 : [c6] = [Value.int .i64 y5] := f5
    cases f0
    cases f1
    cases f2
    cases f3
    cases f4
    cases f5
    exact ⟨(y0, y1, y2, y3, y4.1, y4.2, y5), ⟨a0, a1, a2, a3, a4.1, a4.2, a5⟩, rfl, ⟨g0, g1.1, g4.1.1, g5.1⟩, i64B_of g5.2, g2, strs_of g3, g4.2⟩⟩

theorem rActPs : Reads (eList eActP) 108 := .list (e := 111) rActP (by kernel_rfl) (by kernel_rfl)

end Go.Proofs.Ytohoimokfgfceaa.K
