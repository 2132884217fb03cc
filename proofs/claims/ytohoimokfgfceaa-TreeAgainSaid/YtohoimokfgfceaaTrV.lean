/-
  Rows of bytes, as the statements of the tree's Merge take them.
-/
import Derived.Test.YtohoimokfgfceaaTrU
namespace Go.Proofs.Ytohoimokfgfceaa.K
open Go Go.Proofs
variable {Γ Γ' : Mem} {L L' L'' : List HP} {w w' : World} {A B : HP}
set_option maxRecDepth 100000
set_option maxHeartbeats 4000000

theorem flat1 (ys : List Sl) : ys.flatMap (fun y => [slv y]) = ys.map slv := by
  induction ys with
  | nil => rfl
  | cons y ys ih => rw [List.flatMap_cons, ih]; rfl

theorem Lst.bb {s : Sl} {x : BL} (h : Lst eBytes Γ s x) : BB Γ s x := by
  obtain ⟨ys, h1, h2⟩ := h
  have h1 : Fz Γ s 1 (List.flatMap (fun y : Sl => [slv y]) ys) := h1
  have e := flat1 ys
  exact ⟨ys, by rw [← e]; exact h1, h2.len, fun i s x a b => h2.at_ i s x a b⟩

theorem BB.lst {s : Sl} {x : BL} (h : BB Γ s x) : Lst eBytes Γ s x := by
  obtain ⟨ys, h1, h2⟩ := h
  refine ⟨ys, ?_, h2.len, fun i s x a b => h2.at_ i s x a b⟩
  show Fz Γ s 1 (List.flatMap (fun y : Sl => [slv y]) ys)
  rw [flat1]; exact h1

theorem Lst.rows {s : Sl} {x : List BL} (h : Lst (eList eBytes) Γ s x) : Rows BB Γ s x := by
  obtain ⟨ys, h1, h2⟩ := h
  have h1 : Fz Γ s 1 (List.flatMap (fun y : Sl => [slv y]) ys) := h1
  have e := flat1 ys
  exact ⟨ys, by rw [← e]; exact h1, h2.len, fun i s x a b => Lst.bb (h2.at_ i s x a b)⟩

theorem sameL_ok {s t : Sl} {x y : BL} {K : Bool → World → Prop} (h : Sat Γ L w) (hx : Lst eBytes Γ s x) (hy : Lst eBytes Γ t y) (hn : x.length ≤ 1000000) (k : ∀ w', Sat Γ L w' → K (decide (x = y)) w') :
    CallP Try.prog 44 [.slice s.p s.len s.cap, .slice t.p t.len t.cap] (.one (.s .bool)) K w := same_ok h hx.bb hy.bb hn k

/-- rows of no more than 30 of up to 50 bytes -/
def someR (r : BL) : BL := (r.take 30).filter fun x => decide (x.length ≤ 50)
def rowsL (l : List BL) : List BL := (l.take 20).map someR

theorem someR_len (r : BL) : (someR r).length ≤ 30 := Nat.le_trans (List.length_filter_le _ _) (by rw [List.length_take]; omega)
theorem someR_small {r : BL} : ∀ x ∈ someR r, x.length ≤ 50 := fun x hx => by simpa using (List.mem_filter.1 hx).2
theorem someR_snoc {r : BL} {i : Nat} {x : List UInt8} (h : r[i]? = some x) : someR (r.take (i + 1)) = someR (r.take i) ++ if i < 30 ∧ x.length ≤ 50 then [x] else [] := by
  unfold someR
  rw [List.take_take, List.take_take]
  by_cases hi : i < 30
  · rw [Nat.min_eq_right (by omega), Nat.min_eq_right (by omega), List.take_add_one, h, List.filter_append]
    by_cases hx : x.length ≤ 50 <;> simp [hx, hi]
  · rw [Nat.min_eq_left (by omega), Nat.min_eq_left (by omega)]
    simp [hi]
theorem rowsL_len (l : List BL) : (rowsL l).length ≤ 20 := by unfold rowsL; rw [List.length_map, List.length_take]; omega
theorem rowsL_succ {l : List BL} {i : Nat} {x : BL} (h : l[i]? = some x) (hi : i < 20) : rowsL (l.take (i + 1)) = rowsL (l.take i) ++ [someR x] := by
  unfold rowsL
  rw [List.take_take, List.take_take, Nat.min_eq_right (by omega), Nat.min_eq_right (by omega), List.take_add_one, h]
  simp
theorem rowsL_over {l : List BL} {i : Nat} (hi : 20 ≤ i) : rowsL (l.take i) = rowsL l := by
  unfold rowsL
  rw [List.take_take, Nat.min_eq_left (by omega)]

theorem rowsL_small (l : List BL) : SmallL 70368744177664 (rowsL l) := by
  intro r hr x hx
  obtain ⟨q, _, rfl⟩ := List.mem_map.1 hr
  have := someR_small x hx
  omega
theorem total_le {n m : Nat} : ∀ {l : List BL}, l.length ≤ n → (∀ r ∈ l, r.length ≤ m) → total l ≤ n * m := by
  intro l
  induction l generalizing n with
  | nil => intro _ _; simp [total]
  | cons r l ih =>
    intro hn hm
    obtain ⟨n, rfl⟩ : ∃ k, n = k + 1 := ⟨n - 1, by simp at hn; omega⟩
    have h1 := ih (n := n) (by simpa using hn) (fun x hx => hm x (.tail _ hx))
    have h2 := hm r (.head _)
    unfold total at h1 ⊢
    rw [List.map_cons, List.sum_cons, Nat.succ_mul]
    omega
theorem rowsL_total (l : List BL) : total (rowsL l) ≤ 600 := by
  refine total_le (n := 20) (m := 30) (rowsL_len l) fun r hr => ?_
  obtain ⟨q, _, rfl⟩ := List.mem_map.1 hr
  exact someR_len q

abbrev TB : Nat := 32
abbrev TBB : Nat := 43

theorem rows_ok {s : Sl} {l : List BL} {K : Sl → World → Prop} (h : Sat Γ L w) (hl : Lst (eList eBytes) Γ s l) (k : ∀ s' Γ' w', Γ.le Γ' → Lst (eList eBytes) Γ' s' (rowsL l) → Sat Γ' L w' → K s' w') :
    CallP Try.prog 42 [.slice s.p s.len s.cap] (.one (.s .sl)) K w := by
  obtain ⟨hlen, hsm, _⟩ := hl.lens
  refine callP (fn := Try.f42) [.s (.sl s)] (.p .n (.p .n (.p (.p .n (.k [] [(3, .s .sl)] (.l [10, 9] [(3, .s .sl), (11, .s (.int .i64))] (.p .n (.p .n (.p (.b (.p .n (.p .n (.p .n (.p (.p .n (.b (.l [19, 18, 3, 11, 10, 9] [(6, .s .sl), (20, .s (.int .i64))] (.p .n (.p .n (.p (.k [20, 19, 18, 3, 11, 10, 9] [(6, .s .sl)] .n) .n)))))) .n))))) .n)))))) .n))) nong mixed (by kernel_rfl) (by kernel_rfl) rfl rfl ?_
  refine joinI ?_
  refine loop (σ := Sl × Int) (fun st w' n => ∃ (out : Sl) (i : Nat) (Γ' : Mem), st = (out, (i : Int)) ∧ i ≤ l.length ∧ i ≤ 20 ∧ n = l.length - i ∧ Γ.le Γ' ∧ Sat Γ' (OL (eList eBytes) TBB out (rowsL (l.take i)) :: L) w') l.length ⟨_, 0, Γ, rfl, by omega, by omega, by omega, .refl _, by simpa [rowsL] using h.olNil⟩ ?_
  rintro _ w n ⟨out, i, Γ1, rfl, hi, hi2, hn, g1, h⟩
  have hol := h.olLen .n0
  have hrl := rowsL_len (l.take i)
  have hl := hl.mono g1
  refine brD (fun ab0 => ?_) (fun ab0 => ?_)
  dsimp only at ab0
  refine ⟨by omega, ?_⟩
  refine nnL h hl (fun aa1 aha1 => ?_)
  refine ldL' h hl aha1 (i := i) (fun ax2 ae2 ay2 ahy2 => ?_)
  have ahy2 : Lst _ _ ay2 ax2 := ahy2
  obtain ⟨lahy2, mahy2, cahy2⟩ := ahy2.lens
  refine brD (fun ab3 => ?_) (fun ab3 => ?_)
  dsimp only at ab3
  refine ⟨_, rfl, ?_⟩
  obtain ⟨aΓ4, ag4, af4, h⟩ := h.olFreeze .n0 (by first | omega | (dsimp only; omega))
  have hl := hl.mono ag4
  have ahy2 := ahy2.mono ag4
  refine k _ _ _ (g1.trans ag4) ?_ h
  rotate_left
  dsimp only at ab3
  rotate_left
  dsimp only at ab0
  refine ⟨_, rfl, ?_⟩
  obtain ⟨aΓ6, ag6, af6, h⟩ := h.olFreeze .n0 (by first | omega | (dsimp only; omega))
  have hl := hl.mono ag6
  refine k _ _ _ (g1.trans ag6) ?_ h
  rotate_left
  · rw [rowsL_over (by omega)] at af4; exact af4
  · have hrx := someR_len ax2
    refine loop (σ := Sl × Int) (fun st w' n => ∃ (x : Sl) (j : Nat), st = (x, (j : Int)) ∧ j ≤ ax2.length ∧ n = ax2.length - j ∧ Sat Γ1 (OL eBytes TB x (someR (ax2.take j)) :: OL (eList eBytes) TBB out (rowsL (l.take i)) :: L) w') ax2.length ⟨_, 0, rfl, by omega, by omega, by simpa [someR] using h.olNil⟩ ?_
    rintro _ w n ⟨x, j, rfl, hj, hn, h⟩
    have hox := h.olLen .n0
    have hrj := someR_len (ax2.take j)
    by_cases hjl : j < ax2.length
    · obtain ⟨b, eb⟩ := get_lt hjl
      have hsn := someR_snoc eb
      refine brD (fun bb0 => ?_) (fun bb0 => by exfalso; omega)
      dsimp only at bb0
      refine joinI ?_
      refine ⟨by omega, ?_⟩
      refine nnL h ahy2 (fun ba1 bha1 => ?_)
      refine ldL h ahy2 bha1 eb (fun by2 bhy2 => ?_)
      have bhy2 : Bytes _ by2 b := bhy2
      obtain ⟨lbhy2, mbhy2, cbhy2⟩ := bhy2.lens
      refine brD (fun bb3 => ?_) (fun bb3 => ?_)
      dsimp only at bb3
      refine brD (fun bb4 => ?_) (fun bb4 => ?_)
      refine new h fun br5 _ h => ?_
      refine app1 _ _ slSlice h .n0 (by assumption) (fun bs6 _ bl6 h => ?_)
      dsimp only at bl6
      refine wrN (j + 1) ?_
      refine ⟨_, (by first | omega | rfl | (dsimp only; omega)), _, _, rfl, (by first | omega | rfl | (dsimp only; omega)), rfl, (Sat.eqs ((h.pick .n1).pick .n1) ?_)⟩
      rotate_left
      refine wrN (j + 1) ?_
      refine ⟨_, (by first | omega | rfl | (dsimp only; omega)), _, _, rfl, (by first | omega | rfl | (dsimp only; omega)), rfl, (Sat.eqs ((h.pick .n1).pick .n1) ?_)⟩
      rotate_left
      dsimp only at bb3
      refine wrN (j + 1) ?_
      refine ⟨_, (by first | omega | rfl | (dsimp only; omega)), _, _, rfl, (by first | omega | rfl | (dsimp only; omega)), rfl, (Sat.eqs ((h.pick .n1).pick .n1) ?_)⟩
      rotate_left
      · rw [hsn, if_pos ⟨by omega, by omega⟩]
      · rw [hsn, if_neg (by omega), List.append_nil]
      · rw [hsn, if_neg (by omega), List.append_nil]
    · have : j = ax2.length := by omega
      subst this
      rw [List.take_length] at h hox
      obtain ⟨Γ2, g2, f2, h⟩ := h.olFreeze .n0 (by omega)
      have hl := hl.mono g2
      have ahy2 := ahy2.mono g2
      refine brD (fun cb0 => by exfalso; omega) (fun cb0 => ?_)
      dsimp only at cb0
      refine new h fun cr1 _ h => ?_
      refine app1 _ _ slSlice2 h .n0 f2 (fun cs2 _ cl2 h => ?_)
      dsimp only at cl2
      refine wrN (i + 1) ?_
      refine ⟨_, (by first | omega | rfl | (dsimp only; omega)), _, _, _, rfl, (by first | omega | rfl | (dsimp only; omega)), (by first | omega | rfl | (dsimp only; omega)), rfl, (g1.trans g2), (Sat.eqs h ?_)⟩
      rotate_left
      rw [rowsL_succ ae2 (by omega)]
  · have : i = l.length := by omega
    subst this
    rw [List.take_length] at af6
    exact af6

end Go.Proofs.Ytohoimokfgfceaa.K
