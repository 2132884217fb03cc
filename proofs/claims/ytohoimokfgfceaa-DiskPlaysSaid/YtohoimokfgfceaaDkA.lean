/-
  Acts of the disk's statements: what they are, the first hundred, what each does.
-/
import Derived.Test.YtohoimokfgfceaaDkY
namespace Go.Proofs.Ytohoimokfgfceaa.K
open Go Go.Proofs
variable {Γ Γ' : Mem} {L L' L'' : List HP} {w w' : World} {A B : HP}
set_option maxRecDepth 100000
set_option maxHeartbeats 4000000

structure ActM where
  kind : UInt8
  name : Str
  to : Str
  b : Str
  n : Int
  wn : Int
  wb : List Int

def i64B (n : Int) : Prop := -9223372036854775808 ≤ n ∧ n ≤ 9223372036854775807

/-- an act, as it lies -/
def eAct : Enc ActM := ⟨.agg [.int .u8, .str, .str, .sl, .int .i64, .int .i64, .sl],
  fun Γ y a => (y.1 = (a.kind.toNat : Int) ∧ y.2.1 = str a.name ∧ y.2.2.1 = str a.to ∧ y.2.2.2.2.1 = a.n ∧ y.2.2.2.2.2.1 = a.wn) ∧ (i64B a.n ∧ i64B a.wn ∧ (∀ x ∈ a.wb, i64B x) ∧ a.name.length ≤ 9223372036854775807 ∧ a.to.length ≤ 9223372036854775807) ∧
    Bytes Γ y.2.2.2.1 a.b ∧ Lst eInt Γ y.2.2.2.2.2.2 a.wb, fun h hl => ⟨h.1, h.2.1, Bytes.mono h.2.2.1 hl, Lst.mono h.2.2.2 hl⟩, fun _ v hv => by
  simp [Sh.cells, ScsV] at hv
  rcases hv with rfl | rfl | rfl | rfl | rfl | rfl | rfl <;> rfl⟩

theorem eAct_after {Γ : Mem} {y : eAct.sh.T} {a : ActM} (h : eAct.r Γ y a) : ∃ s t : Sl, Bytes Γ s a.b ∧ Lst eInt Γ t a.wb ∧ i64B a.n ∧ y = ((a.kind.toNat : Int), str a.name, str a.to, s, a.n, a.wn, t) := by
  obtain ⟨y1, y2, y3, y4, y5, y6, y7⟩ := y
  obtain ⟨⟨h1, h2, h3, h5, h6⟩, ⟨h8, _⟩, h4, h7⟩ := h
  refine ⟨y4, y7, h4, h7, h8, ?_⟩
  dsimp only at h1 h2 h3 h5 h6 ⊢
  rw [h1, h2, h3, h5, h6]

abbrev TAct : Nat := 85
theorem slAct : SlT Try.prog 78 TAct 7 104 [.int .u8 0, .string (str []), .string (str []), .slice none 0 0, .int .i64 0, .int .i64 0, .slice none 0 0] := .of (by kernel_rfl) (by kernel_rfl) (by decide)

def smallA (a : ActM) : Prop := a.b.length ≤ 50 ∧ a.name.length ≤ 40 ∧ a.to.length ≤ 40 ∧ a.wb.length ≤ 50
instance (a : ActM) : Decidable (smallA a) := inferInstanceAs (Decidable (_ ∧ _))
def fewA (l : List ActM) : List ActM := (l.take 100).filter fun x => decide (smallA x)

theorem fewA_succ {l : List ActM} {i : Nat} {x : ActM} (h : l[i]? = some x) (hi : i < 100) : fewA (l.take (i + 1)) = fewA (l.take i) ++ if smallA x then [x] else [] := by
  unfold fewA
  rw [List.take_take, List.take_take, Nat.min_eq_right (by omega), Nat.min_eq_right (by omega), List.take_add_one, h, List.filter_append]
  by_cases hx : smallA x <;> simp [hx]

theorem fewA_over {l : List ActM} {i : Nat} (hi : 100 ≤ i) : fewA (l.take (i + 1)) = fewA (l.take i) := by
  unfold fewA
  rw [List.take_take, List.take_take, Nat.min_eq_left (by omega), Nat.min_eq_left (by omega)]

theorem fewA_len (l : List ActM) : (fewA l).length ≤ 100 := by
  unfold fewA
  exact Nat.le_trans (List.length_filter_le _ _) (by rw [List.length_take]; omega)

theorem fewA_small {l : List ActM} : ∀ x ∈ fewA l, smallA x := fun x hx => by
  unfold fewA at hx
  simpa using (List.mem_filter.1 hx).2

theorem fewA_ok {s : Sl} {l : List ActM} {K : Sl → World → Prop} (h : Sat Γ L w) (hl : Lst eAct Γ s l) (k : ∀ s' Γ' w', Γ.le Γ' → Lst eAct Γ' s' (fewA l) → Sat Γ' L w' → K s' w') :
    CallP Try.prog 62 [.slice s.p s.len s.cap] (.one (.s .sl)) K w := by
  obtain ⟨hlen, hsm, _⟩ := hl.lens
  refine callP (fn := Try.f62) [.s (.sl s)] (.p .n (.p .n (.p (.p .n (.b (.l [7, 6] [(3, .s .sl), (8, .s (.int .i64))] (.p .n (.p .n (.p (.k [8, 7, 6] [(3, .s .sl)] .n) .n)))))) .n))) nong mixed (by kernel_rfl) (by kernel_rfl) rfl rfl ?_
  rotate_left
  refine loop (σ := Sl × Int) (fun st w' n => ∃ (out : Sl) (i : Nat), st = (out, (i : Int)) ∧ i ≤ l.length ∧ n = l.length - i ∧ Sat Γ (OL eAct TAct out (fewA (l.take i)) :: L) w') l.length ⟨_, 0, rfl, by omega, by omega, by simpa [fewA] using h.olNil⟩ ?_
  clear h
  rintro _ w n ⟨out, i, rfl, hi, hn, h⟩
  have hol := h.olLen .n0
  have hfl := fewA_len (l.take i)
  by_cases hil : i < l.length
  · obtain ⟨x, ex⟩ := get_lt hil
    by_cases h100 : i < 100
    · have hsu := fewA_succ ex h100
      by_cases hx : smallA x
      · rw [if_pos hx] at hsu
        have hx' := hx
        unfold smallA at hx'
        obtain ⟨hx1, hx2, hx3, hx4⟩ := hx'
        have hz1 := str_size x.name
        have hz2 := str_size x.to
        refine brD (fun bb0 => ?_) (fun bb0 => by exfalso; omega)
        dsimp only at bb0
        refine joinI ?_
        refine ⟨by omega, ?_⟩
        refine nnL h hl (fun ba1 bha1 => ?_)
        refine ldL h hl bha1 ex (fun by2 bhy2 => ?_)
        obtain ⟨by2s, by2t, bhy2a, bhy2b, bhy2c, bhy2e⟩ := eAct_after bhy2
        subst bhy2e
        obtain ⟨lbhy2a, mbhy2a, cbhy2a⟩ := bhy2a.lens
        obtain ⟨lbhy2b, mbhy2b, cbhy2b⟩ := bhy2b.lens
        refine new h fun br3 _ h => ?_
        refine stNs h .n0 fun _ h => ?_
        refine brD (fun bb4 => ?_) (fun bb4 => by exfalso; omega)
        dsimp only at bb4
        refine ld _ h .n0 ?_
        refine brD (fun bb5 => ?_) (fun bb5 => ?_)
        dsimp only at bb5
        refine ld _ h .n0 ?_
        refine brD (fun bb6 => ?_) (fun bb6 => ?_)
        dsimp only at bb6
        refine ld _ h .n0 ?_
        refine brD (fun bb7 => ?_) (fun bb7 => ?_)
        dsimp only at bb7
        refine ld _ h .n0 ?_
        refine brD (fun bb8 => ?_) (fun bb8 => ?_)
        dsimp only at bb8
        refine ldA7 _ _ _ _ _ _ _ h .n0 ?_
        refine new h fun br9 _ h => ?_
        refine app1 _ _ slAct h .n1 (by assumption) (fun bs10 _ bl10 h => ?_)
        dsimp only at bl10
        refine wrN (i + 1) ?_
        refine ⟨_, (by first | omega | rfl | (dsimp only; omega)), _, _, rfl, (by first | omega | rfl | (dsimp only; omega)), rfl, (Sat.eqs (h.pick .n1).drop ?_)⟩
        rotate_left
        dsimp only at bb8
        refine wrN (i + 1) ?_
        refine ⟨_, (by first | omega | rfl | (dsimp only; omega)), _, _, rfl, (by first | omega | rfl | (dsimp only; omega)), rfl, (Sat.eqs h.drop ?_)⟩
        (exfalso; omega)
        dsimp only at bb7
        refine wrN (i + 1) ?_
        refine ⟨_, (by first | omega | rfl | (dsimp only; omega)), _, _, rfl, (by first | omega | rfl | (dsimp only; omega)), rfl, (Sat.eqs h.drop ?_)⟩
        (exfalso; omega)
        dsimp only at bb6
        refine wrN (i + 1) ?_
        refine ⟨_, (by first | omega | rfl | (dsimp only; omega)), _, _, rfl, (by first | omega | rfl | (dsimp only; omega)), rfl, (Sat.eqs h.drop ?_)⟩
        (exfalso; omega)
        dsimp only at bb5
        refine wrN (i + 1) ?_
        refine ⟨_, (by first | omega | rfl | (dsimp only; omega)), _, _, rfl, (by first | omega | rfl | (dsimp only; omega)), rfl, (Sat.eqs h.drop ?_)⟩
        (exfalso; omega)
        all_goals rw [hsu]
      · rw [if_neg hx, List.append_nil] at hsu
        unfold smallA at hx
        have hz1 := str_size x.name
        have hz2 := str_size x.to
        refine brD (fun cb0 => ?_) (fun cb0 => by exfalso; omega)
        dsimp only at cb0
        refine joinI ?_
        refine ⟨by omega, ?_⟩
        refine nnL h hl (fun ca1 cha1 => ?_)
        refine ldL h hl cha1 ex (fun cy2 chy2 => ?_)
        obtain ⟨cy2s, cy2t, chy2a, chy2b, chy2c, chy2e⟩ := eAct_after chy2
        subst chy2e
        obtain ⟨lchy2a, mchy2a, cchy2a⟩ := chy2a.lens
        obtain ⟨lchy2b, mchy2b, cchy2b⟩ := chy2b.lens
        refine new h fun cr3 _ h => ?_
        refine stNs h .n0 fun _ h => ?_
        refine brD (fun cb4 => ?_) (fun cb4 => by exfalso; omega)
        dsimp only at cb4
        refine ld _ h .n0 ?_
        refine brD (fun cb5 => ?_) (fun cb5 => ?_)
        dsimp only at cb5
        refine ld _ h .n0 ?_
        refine brD (fun cb6 => ?_) (fun cb6 => ?_)
        dsimp only at cb6
        refine ld _ h .n0 ?_
        refine brD (fun cb7 => ?_) (fun cb7 => ?_)
        dsimp only at cb7
        refine ld _ h .n0 ?_
        refine brD (fun cb8 => ?_) (fun cb8 => ?_)
        dsimp only at cb8
        refine ldA7 _ _ _ _ _ _ _ h .n0 ?_
        refine new h fun cr9 _ h => ?_
        refine app1 _ _ slAct h .n1 (by assumption) (fun cs10 _ cl10 h => ?_)
        dsimp only at cl10
        refine wrN (i + 1) ?_
        refine ⟨_, (by first | omega | rfl | (dsimp only; omega)), _, _, rfl, (by first | omega | rfl | (dsimp only; omega)), rfl, (Sat.eqs (h.pick .n1).drop ?_)⟩
        (exfalso; omega)
        dsimp only at cb8
        refine wrN (i + 1) ?_
        refine ⟨_, (by first | omega | rfl | (dsimp only; omega)), _, _, rfl, (by first | omega | rfl | (dsimp only; omega)), rfl, (Sat.eqs h.drop ?_)⟩
        rotate_left
        dsimp only at cb7
        refine wrN (i + 1) ?_
        refine ⟨_, (by first | omega | rfl | (dsimp only; omega)), _, _, rfl, (by first | omega | rfl | (dsimp only; omega)), rfl, (Sat.eqs h.drop ?_)⟩
        rotate_left
        dsimp only at cb6
        refine wrN (i + 1) ?_
        refine ⟨_, (by first | omega | rfl | (dsimp only; omega)), _, _, rfl, (by first | omega | rfl | (dsimp only; omega)), rfl, (Sat.eqs h.drop ?_)⟩
        rotate_left
        dsimp only at cb5
        refine wrN (i + 1) ?_
        refine ⟨_, (by first | omega | rfl | (dsimp only; omega)), _, _, rfl, (by first | omega | rfl | (dsimp only; omega)), rfl, (Sat.eqs h.drop ?_)⟩
        rotate_left
        all_goals rw [hsu]
    · have hov := fewA_over (l := l) (i := i) (by omega)
      refine brD (fun db0 => ?_) (fun db0 => by exfalso; omega)
      dsimp only at db0
      refine joinI ?_
      refine ⟨by omega, ?_⟩
      refine nnL h hl (fun da1 dha1 => ?_)
      refine ldL h hl dha1 ex (fun dy2 dhy2 => ?_)
      obtain ⟨dy2s, dy2t, dhy2a, dhy2b, dhy2c, dhy2e⟩ := eAct_after dhy2
      subst dhy2e
      obtain ⟨ldhy2a, mdhy2a, cdhy2a⟩ := dhy2a.lens
      obtain ⟨ldhy2b, mdhy2b, cdhy2b⟩ := dhy2b.lens
      refine new h fun dr3 _ h => ?_
      refine stNs h .n0 fun _ h => ?_
      refine brD (fun db4 => by exfalso; omega) (fun db4 => ?_)
      dsimp only at db4
      refine wrN (i + 1) ?_
      refine ⟨_, (by first | omega | rfl | (dsimp only; omega)), _, _, rfl, (by first | omega | rfl | (dsimp only; omega)), rfl, (Sat.eqs h.drop ?_)⟩
      rotate_left
      all_goals rw [hov]
  · have : i = l.length := by omega
    subst this
    rw [List.take_length] at h
    refine brD (fun eb0 => by exfalso; omega) (fun eb0 => ?_)
    dsimp only at eb0
    refine ⟨_, rfl, ?_⟩
    obtain ⟨eΓ1, eg1, ef1, h⟩ := h.olFreeze .n0 (by first | omega | (dsimp only; omega))
    have hl := hl.mono eg1
    refine k _ _ _ eg1 ef1 h

end Go.Proofs.Ytohoimokfgfceaa.K
