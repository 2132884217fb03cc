/-
  run's statements: the first sixty; the examples; the bytes of a run; nil.
-/
import Derived.Test.YtohoimokfgfceaaRnA
import Derived.Test.YtohoimokfgfceaaRnB
import Derived.Test.YtohoimokfgfceaaFrS
import Derived.Test.YtohoimokfgfceaaDkZ
namespace Go.Proofs.Ytohoimokfgfceaa.K
open Go Go.Proofs Go.ChangeShapes Go.WideShapes Go.ChangeAt Go.RowKit
variable {Γ Γ' : Mem} {L L' L'' : List HP} {w w' : World} {A B : HP}
set_option maxRecDepth 100000
set_option maxHeartbeats 1000000

def fewB (l : List Str) : List Str := (l.take 60).filter fun x => decide (x.length ≤ 80)

theorem fewB_succ {l : List Str} {i : Nat} {x : Str} (h : l[i]? = some x) (hi : i < 60) : fewB (l.take (i + 1)) = fewB (l.take i) ++ if x.length ≤ 80 then [x] else [] := by
  unfold fewB
  rw [List.take_take, List.take_take, Nat.min_eq_right (by omega), Nat.min_eq_right (by omega), List.take_add_one, h, List.filter_append]
  by_cases hx : x.length ≤ 80 <;> simp [hx]

theorem fewB_over {l : List Str} {i : Nat} (hi : 60 ≤ i) : fewB (l.take (i + 1)) = fewB (l.take i) := by
  unfold fewB
  rw [List.take_take, List.take_take, Nat.min_eq_left (by omega), Nat.min_eq_left (by omega)]

theorem fewB_len (l : List Str) : (fewB l).length ≤ 60 := by
  unfold fewB
  exact Nat.le_trans (List.length_filter_le _ _) (by rw [List.length_take]; omega)

theorem fewB_small {l : List Str} : ∀ x ∈ fewB l, x.length ≤ 80 := fun x hx => by
  unfold fewB at hx
  simpa using (List.mem_filter.1 hx).2

theorem fewB_ok {s : Sl} {l : List Str} {K : Sl → World → Prop} (h : Sat Γ L w) (hl : Lst eBytes Γ s l) (k : ∀ s' Γ' w', Γ.le Γ' → Lst eBytes Γ' s' (fewB l) → Sat Γ' L w' → K s' w') :
    CallP Try.prog 89 [.slice s.p s.len s.cap] (.one (.s .sl)) K w := by
  obtain ⟨hlen, hsm, _⟩ := hl.lens
  refine callP (fn := Try.f89) [.s (.sl s)] (.p .n (.p .n (.p (.p .n (.b (.l [7, 6] [(3, .s .sl), (8, .s (.int .i64))] (.p .n (.p .n (.p (.k [8, 7, 6] [(3, .s .sl)] .n) .n)))))) .n))) nong mixed (by kernel_rfl) (by kernel_rfl) rfl rfl ?_
  rotate_left
  refine loop (σ := Sl × Int) (fun st w' n => ∃ (out : Sl) (i : Nat), st = (out, (i : Int)) ∧ i ≤ l.length ∧ n = l.length - i ∧ Sat Γ (OL eBytes 32 out (fewB (l.take i)) :: L) w') l.length ⟨_, 0, rfl, by omega, by omega, by simpa [fewB] using h.olNil⟩ ?_
  clear h
  rintro _ w n ⟨out, i, rfl, hi, hn, h⟩
  have hol := h.olLen .n0
  have hfl := fewB_len (l.take i)
  by_cases hil : i < l.length
  · obtain ⟨x, ex⟩ := get_lt hil
    by_cases h100 : i < 60
    · have hsu := fewB_succ ex h100
      by_cases hx : x.length ≤ 80
      · rw [if_pos hx] at hsu
        refine brD (fun bb0 => ?_) (fun bb0 => by exfalso; omega)
        dsimp only at bb0
        refine joinI ?_
        refine ⟨by omega, ?_⟩
        refine nnL h hl (fun ba1 bha1 => ?_)
        refine ldL h hl bha1 ex (fun by2 bhy2 => ?_)
        have bhy2 : Bytes _ by2 x := bhy2
        obtain ⟨lbhy2, mbhy2, cbhy2⟩ := bhy2.lens
        refine brD (fun bb3 => ?_) (fun bb3 => by exfalso; omega)
        dsimp only at bb3
        refine brD (fun bb4 => ?_) (fun bb4 => by exfalso; omega)
        refine new h fun br5 _ h => ?_
        have h := h.asA (B := blk br5 (.cells #[Value.slice by2.p by2.len by2.cap] 32 (0, 0))) (by kernel_rfl)
        refine app1 _ _ slSlice h .n0 bhy2 (fun bs6 _ bl6 h => ?_)
        dsimp only at bl6
        refine wrN (i + 1) ?_
        refine ⟨_, (by first | omega | rfl | (dsimp only; omega)), _, _, rfl, (by first | omega | rfl | (dsimp only; omega)), rfl, (Sat.eqs h ?_)⟩
        rotate_left
        all_goals rw [hsu]
      · rw [if_neg hx, List.append_nil] at hsu
        refine brD (fun cb0 => ?_) (fun cb0 => by exfalso; omega)
        dsimp only at cb0
        refine joinI ?_
        refine ⟨by omega, ?_⟩
        refine nnL h hl (fun ca1 cha1 => ?_)
        refine ldL h hl cha1 ex (fun cy2 chy2 => ?_)
        have chy2 : Bytes _ cy2 x := chy2
        obtain ⟨lchy2, mchy2, cchy2⟩ := chy2.lens
        refine brD (fun cb3 => ?_) (fun cb3 => by exfalso; omega)
        dsimp only at cb3
        refine brD (fun cb4 => by exfalso; omega) (fun cb4 => ?_)
        refine wrN (i + 1) ?_
        refine ⟨_, (by first | omega | rfl | (dsimp only; omega)), _, _, rfl, (by first | omega | rfl | (dsimp only; omega)), rfl, (Sat.eqs h ?_)⟩
        rotate_left
        all_goals rw [hsu]
    · have hov := fewB_over (l := l) (i := i) (by omega)
      refine brD (fun db0 => ?_) (fun db0 => by exfalso; omega)
      dsimp only at db0
      refine joinI ?_
      refine ⟨by omega, ?_⟩
      refine nnL h hl (fun da1 dha1 => ?_)
      refine ldL h hl dha1 ex (fun dy2 dhy2 => ?_)
      have dhy2 : Bytes _ dy2 x := dhy2
      obtain ⟨ldhy2, mdhy2, cdhy2⟩ := dhy2.lens
      refine brD (fun db3 => by exfalso; omega) (fun db3 => ?_)
      dsimp only at db3
      refine wrN (i + 1) ?_
      refine ⟨_, (by first | omega | rfl | (dsimp only; omega)), _, _, rfl, (by first | omega | rfl | (dsimp only; omega)), rfl, (Sat.eqs h ?_)⟩
      rotate_left
      all_goals rw [hov]
  · have : i = l.length := by omega
    subst this
    rw [List.take_length] at h
    refine brD (fun eb0 => by exfalso; omega) (fun eb0 => ?_)
    dsimp only at eb0
    refine ⟨_, rfl, ?_⟩
    obtain ⟨eΓ1, eg1, ef1, h⟩ := h.olFreeze .n0 (by first | omega | (dsimp only; omega))
    have hl := hl.mono eg1
    refine k _ _ _ eg1 ef1 h

/-- the bytes of a run -/
theorem rBytesR_ok {s : Sl} {l : List Str} {K : Sl → World → Prop} (h : Sat Γ L w) (hl : Lst eBytes Γ s l) (hx : ∀ x ∈ l, x.length ≤ 64) (hn : l.length ≤ 1000) (k : ∀ t Γ' w', Γ.le Γ' → Bytes Γ' t (framesB l) → Sat Γ' L w' → K t w') :
    CallP Try.prog 94 [.slice s.p s.len s.cap] (.one (.s .sl)) K w := by
  refine callP (fn := Try.f94) [.s (.sl s)] (.p .n (.p .n (.p (.p .n (.b (.l [0] [(3, .s .sl), (4, .s (.int .i64))] .n))) .n))) nong mixed (by kernel_rfl) (by kernel_rfl) rfl rfl ?_
  obtain ⟨lhl, mhl, chl⟩ := hl.lens
  rotate_left
  refine loop (σ := Sl × Int) (fun st w' n => ∃ (o : Sl) (i : Nat) (Γ' : Mem), st = (o, (i : Int)) ∧ i ≤ l.length ∧ n = l.length - i ∧ Γ.le Γ' ∧ (framesB (l.take i)).length ≤ 72 * i ∧ Bytes Γ' o (framesB (l.take i)) ∧ Sat Γ' L w') l.length ⟨_, 0, Γ, rfl, by omega, by omega, .refl _, by simp [framesB], by simpa [framesB] using Bytes.nil _ _, h⟩ ?_
  clear h
  rintro _ w n ⟨o, i, Γ3, rfl, hi, hn2, g3, hfl, hb, h⟩
  have hl3 := hl.mono g3
  by_cases hil : i < l.length
  · obtain ⟨x, ex⟩ := get_lt hil
    have hx64 := hx x (List.mem_of_getElem? ex)
    have hfr : framesB (l.take (i + 1)) = framesB (l.take i) ++ frameB x := by rw [List.take_add_one, ex]; simp [framesB]
    have hfl2 : (framesB (l.take i) ++ frameB x).length ≤ 72 * (i + 1) := by rw [List.length_append, frameB_len]; omega
    have hl := hl.mono g3
    obtain ⟨lhb, mhb, chb⟩ := hb.lens
    refine brD (fun bb0 => ?_) (fun bb0 => by exfalso; omega)
    dsimp only at bb0
    refine ⟨by omega, ?_⟩
    refine nnL h hl (fun ba1 bha1 => ?_)
    refine ldL h hl bha1 ex (fun by2 bhy2 => ?_)
    have bhy2 : Bytes _ by2 x := bhy2
    obtain ⟨lbhy2, mbhy2, cbhy2⟩ := bhy2.lens
    refine rput_ok h hb bhy2 (by first | omega | (dsimp only; omega) | decide) (fun bp4 => ?_) (fun bp5 bv6 bΓ7 _ bg9 bf10 h => ?_)
    refine wrN (i + 1) ?_
    refine ⟨_, (by first | omega | rfl | (dsimp only; omega)), _, _, _, rfl, (by first | omega | rfl | (dsimp only; omega)), rfl, g3, (by first | omega | rfl | (dsimp only; omega)), (by first | omega | rfl | (dsimp only; omega)), h⟩
    have hb := hb.mono bg9
    have hl3 := hl3.mono bg9
    have hl := hl.mono bg9
    have bhy2 := bhy2.mono bg9
    obtain ⟨lbf10, mbf10, cbf10⟩ := bf10.lens
    refine wrN (i + 1) ?_
    refine ⟨_, (by first | omega | rfl | (dsimp only; omega)), _, _, _, rfl, (by first | omega | rfl | (dsimp only; omega)), rfl, (g3.trans bg9), ?_, ?_, h⟩
    rotate_left
    rotate_left
    · rw [hfr]; exact hfl2
    · rw [hfr]; assumption
  · have : i = l.length := by omega
    subst this
    rw [List.take_length] at hb hfl
    have hl := hl.mono g3
    obtain ⟨lhb, mhb, chb⟩ := hb.lens
    refine brD (fun cb0 => by exfalso; omega) (fun cb0 => ?_)
    dsimp only at cb0
    refine ⟨_, rfl, ?_⟩
    refine k _ _ _ g3 hb h

/-- .. of two that lie in a literal -/
theorem rBytesRTwo_ok {r : Nat} {s t : Sl} {x y : Str} {T : TypeId} {K : Sl → World → Prop} (h : Sat Γ (blk r (.cells #[.slice s.p s.len s.cap, .slice t.p t.len t.cap] T (0, 0)) :: L) w) (hx : Bytes Γ s x) (hy : Bytes Γ t y) (hl : x.length ≤ 64 ∧ y.length ≤ 64)
    (k : ∀ q Γ' w', Γ.le Γ' → Bytes Γ' q (framesB [x, y]) → Sat Γ' L w' → K q w') :
    CallP Try.prog 94 [.slice (some ⟨r, 0, none⟩) 2 2] (.one (.s .sl)) K w := by
  have h2 := Sat.whole (n := 2) (sz := 1) h rfl
  have h3 := Sat.toOl (E := eBytes) (ys := [s, t]) (xs := [x, y]) h2 (.cons hx (.cons hy .nil))
  obtain ⟨Γ2, g2, f2, h⟩ := h3.olFreeze .n0 (by show 2 ≤ _; decide)
  exact rBytesR_ok h f2 (fun z hz => by simp at hz; rcases hz with rfl | rfl; exact hl.1; exact hl.2) (by simp) fun q Γ3 w' g3 f3 h => k q Γ3 w' (g2.trans g3) f3 h

theorem wAddNil_ok {s : Sl} {K : Int → World → Prop} (h : Sat Γ L w) (k : ∀ w', Sat Γ L w' → K 2 w') :
    CallP Try.prog 47 [.pointer none, .slice s.p s.len s.cap] (.one (.s (.int .i64))) K w := by
  refine callP (fn := Try.f47) [.s (.ptr none), .s (.sl s)] (.p .n (.p .n (.p .n (.p .n (.p .n (.j [5, 0] [(7, .s (.int .i64))] .n .n)))))) nong mixed (by kernel_rfl) (by kernel_rfl) rfl rfl ?_
  refine brT ?_
  refine ⟨_, rfl, ?_⟩
  refine k _ h
theorem wEndNil_ok {s : Str} {K : Int → World → Prop} (h : Sat Γ L w) (k : ∀ w', Sat Γ L w' → K 2 w') :
    CallP Try.prog 48 [.pointer none, .string (str s)] (.one (.s (.int .i64))) K w := by
  refine callP (fn := Try.f48) [.s (.ptr none), .s (.str (str s))] (.p .n (.p (.k [1, 0] [] .n) .n)) nong mixed (by kernel_rfl) (by kernel_rfl) rfl rfl ?_
  refine joinI ?_
  refine brT ?_
  refine ⟨_, rfl, ?_⟩
  refine k _ h
theorem wManyNil_ok {K : Int → World → Prop} (h : Sat Γ L w) (k : ∀ w', Sat Γ L w' → K 0 w') :
    CallP Try.prog 49 [.pointer none] (.one (.s (.int .i64))) K w := by
  refine callP (fn := Try.f49) [.s (.ptr none)] .n nong mixed (by kernel_rfl) (by kernel_rfl) rfl rfl ?_
  refine brT ?_
  refine ⟨_, rfl, ?_⟩
  refine k _ h
theorem rnNextNil_ok {K : (ScsT [.sl, .bool] × Int) → World → Prop} (h : Sat Γ L w) (k : ∀ w', Sat Γ L w' → K ((⟨none, 0, 0⟩, false), 2) w') :
    CallP Try.prog 46 [.pointer none] (.tup [.agg [.sl, .bool], .s (.int .i64)]) K w := by
  refine callP (fn := Try.f46) [.s (.ptr none)] (.p .n (.p .n (.p .n (.j [0, 5, 4, 2] [] .n .n)))) nong mixed (by kernel_rfl) (by kernel_rfl) rfl rfl ?_
  refine new h fun ar0 _ h => ?_
  have h := h.asA (B := blk ar0 (.cells #[Value.slice none 0 0, Value.bool false] 34 (0, 0))) (by kernel_rfl)
  refine brT ?_
  refine stNs h .n0 fun _ h => ?_
  have h := h.asA (B := blk ar0 (.cells #[Value.slice (Sl.mk none 0 0).p (Sl.mk none 0 0).len (Sl.mk none 0 0).cap, Value.bool false] 34 (0, 0))) (by kernel_rfl)
  refine ldA2 _ _ h .n0 ?_
  refine ret2 _ _ ?_
  refine k _ h.drop

end Go.Proofs.Ytohoimokfgfceaa.K
