/-
  What the statements of the tree begin with: few, some, rows.
-/
import Derived.Test.YtohoimokfgfceaaTrJ
import Derived.Test.YtohoimokfgfceaaTrI
namespace Go.Proofs.Ytohoimokfgfceaa.K
open Go Go.Proofs
variable {Γ Γ' : Mem} {L L' L'' : List HP} {w w' : World} {A B : HP}
set_option maxRecDepth 100000
set_option maxHeartbeats 4000000

def fewL (n : Nat) (l : List Hd) : List Hd := (l.take n).filter fun x => decide (x.1.length ≤ 50)

theorem fewL_succ {n : Nat} {l : List Hd} {i : Nat} {x : Hd} (h : l[i]? = some x) (hi : i < n) : fewL n (l.take (i + 1)) = fewL n (l.take i) ++ if x.1.length ≤ 50 then [x] else [] := by
  unfold fewL
  rw [List.take_take, List.take_take, Nat.min_eq_right (by omega), Nat.min_eq_right (by omega), List.take_add_one, h, List.filter_append]
  by_cases hx : x.1.length ≤ 50 <;> simp [hx]

theorem fewL_over {n : Nat} {l : List Hd} {i : Nat} (hi : n ≤ i) : fewL n (l.take (i + 1)) = fewL n (l.take i) := by
  unfold fewL
  rw [List.take_take, List.take_take, Nat.min_eq_left (by omega), Nat.min_eq_left (by omega)]

theorem fewL_len (n : Nat) (l : List Hd) : (fewL n l).length ≤ n := by
  unfold fewL
  exact Nat.le_trans (List.length_filter_le _ _) (by rw [List.length_take]; omega)

theorem fewL_small {n : Nat} {l : List Hd} : ∀ x ∈ fewL n l, x.1.length ≤ 50 := fun x hx => by
  unfold fewL at hx
  simpa using (List.mem_filter.1 hx).2

theorem few_ok {s : Sl} {l : List Hd} {K : Sl → World → Prop} (h : Sat Γ L w) (hl : Lst eHead Γ s l) (k : ∀ s' Γ' w', Γ.le Γ' → Lst eHead Γ' s' (fewL 20 l) → Sat Γ' L w' → K s' w') :
    CallP Try.prog 33 [.slice s.p s.len s.cap] (.one (.s .sl)) K w := by
  obtain ⟨hlen, hsm, _⟩ := hl.lens
  refine callP (fn := Try.f33) [.s (.sl s)] (.p .n (.p .n (.p (.p .n (.b (.l [7, 6] [(3, .s .sl), (8, .s (.int .i64))] (.p .n (.p .n (.p (.k [8, 7, 6] [(3, .s .sl)] .n) .n)))))) .n))) nong mixed (by kernel_rfl) (by kernel_rfl) rfl rfl ?_
  refine loop (σ := Sl × Int) (fun st w' n => ∃ (out : Sl) (i : Nat), st = (out, (i : Int)) ∧ i ≤ l.length ∧ n = l.length - i ∧ Sat Γ (OL eHead TH out (fewL 20 (l.take i)) :: L) w') l.length ⟨_, 0, rfl, by omega, by omega, by simpa [fewL] using h.olNil⟩ ?_
  rintro _ w n ⟨out, i, rfl, hi, hn, h⟩
  have hol := h.olLen .n0
  have hfl := fewL_len 20 (l.take i)
  refine brD (fun bb0 => ?_) (fun bb0 => ?_)
  dsimp only at bb0
  refine joinI ?_
  refine ⟨by omega, ?_⟩
  refine nnL h hl (fun ba1 bha1 => ?_)
  refine ldL' h hl bha1 (i := i) (fun bx2 be2 by2 bhy2 => ?_)
  obtain ⟨by2, by2b⟩ := by2
  obtain ⟨bhy2, bhy2b⟩ := bhy2
  have bhy2 : Bytes _ by2 bx2.1 := bhy2
  have bhy2b : by2b = bx2.2 := bhy2b
  subst bhy2b
  dsimp only at bhy2b
  dsimp only at bhy2
  obtain ⟨lbhy2, mbhy2⟩ := bhy2.lens
  refine new h fun br3 _ h => ?_
  refine stNs h .n0 fun _ h => ?_
  refine brD (fun bb4 => ?_) (fun bb4 => ?_)
  dsimp only at bb4
  refine ld _ h .n0 ?_
  refine brD (fun bb5 => ?_) (fun bb5 => ?_)
  dsimp only at bb5
  refine ldA (_, _) h .n0 ?_
  refine new h fun br6 _ h => ?_
  refine app1 (_, _) (_, _) slHead h .n1 ⟨by assumption, rfl⟩ (fun bs7 _ bl7 h => ?_)
  dsimp only at bl7
  refine wrN (i + 1) ?_
  rotate_left
  dsimp only at bb5
  refine wrN (i + 1) ?_
  rotate_left
  dsimp only at bb4
  refine wrN (i + 1) ?_
  rotate_left
  dsimp only at bb0
  refine ⟨_, rfl, ?_⟩
  rotate_left
  · exact ⟨l.length - (i + 1), by omega, _, i + 1, rfl, by omega, rfl, by rw [fewL_succ be2 (by omega), if_pos (by omega)]; exact (h.pick .n1).drop⟩
  · exact ⟨l.length - (i + 1), by omega, _, i + 1, rfl, by omega, rfl, by rw [fewL_succ be2 (by omega), if_neg (by omega), List.append_nil]; exact h.drop⟩
  · exact ⟨l.length - (i + 1), by omega, _, i + 1, rfl, by omega, rfl, by rw [fewL_over (by omega)]; exact h.drop⟩
  · have hie : i = l.length := by omega
    subst hie
    rw [List.take_length] at h hol hfl
    obtain ⟨Γ', g, hf, h⟩ := h.olFreeze .n0 (by omega)
    exact k out Γ' _ g hf h

theorem some_ok {s : Sl} {l : List Hd} {K : Sl → World → Prop} (h : Sat Γ L w) (hl : Lst eHead Γ s l) (k : ∀ s' w', s'.len = (fewL 100 l).length → Sat Γ (OL eHead TH s' (fewL 100 l) :: L) w' → K s' w') :
    CallP Try.prog 35 [.slice s.p s.len s.cap] (.one (.s .sl)) K w := by
  obtain ⟨hlen, hsm, _⟩ := hl.lens
  refine callP (fn := Try.f35) [.s (.sl s)] (.p .n (.p .n (.p (.p .n (.b (.l [7, 6] [(3, .s .sl), (8, .s (.int .i64))] (.p .n (.p .n (.p (.k [8, 7, 6] [(3, .s .sl)] .n) .n)))))) .n))) nong mixed (by kernel_rfl) (by kernel_rfl) rfl rfl ?_
  refine loop (σ := Sl × Int) (fun st w' n => ∃ (out : Sl) (i : Nat), st = (out, (i : Int)) ∧ i ≤ l.length ∧ n = l.length - i ∧ Sat Γ (OL eHead TH out (fewL 100 (l.take i)) :: L) w') l.length ⟨_, 0, rfl, by omega, by omega, by simpa [fewL] using h.olNil⟩ ?_
  rintro _ w n ⟨out, i, rfl, hi, hn, h⟩
  have hol := h.olLen .n0
  have hfl := fewL_len 100 (l.take i)
  refine brD (fun bb0 => ?_) (fun bb0 => ?_)
  dsimp only at bb0
  refine joinI ?_
  refine ⟨by omega, ?_⟩
  refine nnL h hl (fun ba1 bha1 => ?_)
  refine ldL' h hl bha1 (i := i) (fun bx2 be2 by2 bhy2 => ?_)
  obtain ⟨by2, by2b⟩ := by2
  obtain ⟨bhy2, bhy2b⟩ := bhy2
  have bhy2 : Bytes _ by2 bx2.1 := bhy2
  have bhy2b : by2b = bx2.2 := bhy2b
  subst bhy2b
  dsimp only at bhy2b
  dsimp only at bhy2
  obtain ⟨lbhy2, mbhy2⟩ := bhy2.lens
  refine new h fun br3 _ h => ?_
  refine stNs h .n0 fun _ h => ?_
  refine brD (fun bb4 => ?_) (fun bb4 => ?_)
  dsimp only at bb4
  refine ld _ h .n0 ?_
  refine brD (fun bb5 => ?_) (fun bb5 => ?_)
  dsimp only at bb5
  refine ldA (_, _) h .n0 ?_
  refine new h fun br6 _ h => ?_
  refine app1 (_, _) (_, _) slHead h .n1 ⟨by assumption, rfl⟩ (fun bs7 _ bl7 h => ?_)
  dsimp only at bl7
  refine wrN (i + 1) ?_
  rotate_left
  dsimp only at bb5
  refine wrN (i + 1) ?_
  rotate_left
  dsimp only at bb4
  refine wrN (i + 1) ?_
  rotate_left
  dsimp only at bb0
  refine ⟨_, rfl, ?_⟩
  rotate_left
  · exact ⟨l.length - (i + 1), by omega, _, i + 1, rfl, by omega, rfl, by rw [fewL_succ be2 (by omega), if_pos (by omega)]; exact (h.pick .n1).drop⟩
  · exact ⟨l.length - (i + 1), by omega, _, i + 1, rfl, by omega, rfl, by rw [fewL_succ be2 (by omega), if_neg (by omega), List.append_nil]; exact h.drop⟩
  · exact ⟨l.length - (i + 1), by omega, _, i + 1, rfl, by omega, rfl, by rw [fewL_over (by omega)]; exact h.drop⟩
  · have hie : i = l.length := by omega
    subst hie
    rw [List.take_length] at h hol
    exact k out _ hol h

/-- heads in a row, as the tree takes them -/
theorem Lst.heads {s : Sl} {l : List Hd} (h : Lst eHead Γ s l) (hs : ∀ x ∈ l, x.1.length ≤ 70368744177664) : HeadsS Γ s l := by
  obtain ⟨ys, h1, h2⟩ := h
  refine ⟨ys, h1, h2.len, fun i r x e1 e2 => ?_⟩
  obtain ⟨h3, h4⟩ := h2.at_ i r x e1 e2
  exact ⟨h3, h4, hs x (List.mem_of_getElem? e2)⟩

theorem Lst.first {α : Type} {E : Enc α} {s : Sl} {xs : List α} (h : Lst E Γ s xs) (n : Nat) (h0 : 0 < E.sh.sz := by decide) : Lst E Γ (s.sub E.sh.sz ((0 : Nat) : Int) ((min s.len n : Nat) : Int) s.cap) (xs.take n) := by
  have := h.sub (l := 0) (n := min s.len n) (by omega) (by omega)
  have e : xs.take (min xs.length n) = xs.take n := by rw [Nat.min_comm]; exact List.take_eq_take_min.symm
  rw [List.drop_zero, Nat.sub_zero, h.len h0, e] at this
  rw [h.len h0]
  exact this

end Go.Proofs.Ytohoimokfgfceaa.K
