/-
  TreeAgain: one row that rises, merged alone, or with itself, or with rows of nothing, is itself. No condition.
-/
import Derived.Test.YtohoimokfgfceaaTrS
import Derived.Test.YtohoimokfgfceaaTrMerges
namespace Go.Proofs.Ytohoimokfgfceaa.K
open Go Go.Proofs Go.ChangeShapes Go.WideShapes Go.ChangeAt Go.RowKit
variable {Γ Γ' : Mem} {L L' L'' : List HP} {w w' : World} {A B : HP}
set_option maxRecDepth 100000
set_option maxHeartbeats 4000000

/-- it rises -/
def Rises (r : BL) : Prop := r.Pairwise fun a b => cmpB a b < 0

/-- one more, if it is greater than the last -/
def addR (r : BL) (b : List UInt8) : BL := if b.length ≤ 50 ∧ (∀ x, r.getLast? = some x → cmpB x b < 0) then r ++ [b] else r
instance (r : BL) (b : List UInt8) : Decidable (∀ x, r.getLast? = some x → cmpB x b < 0) := match h : r.getLast? with
  | none => .isTrue (fun x e => by cases e)
  | some y => if hy : cmpB y b < 0 then .isTrue (fun x e => by cases e; exact hy) else .isFalse (fun hx => hy (hx y rfl))
def risL (l : BL) : BL := (l.take 30).foldl addR []

theorem rises_last {r : BL} (h : Rises r) {y : List UInt8} (hy : r.getLast? = some y) : ∀ x ∈ r, x = y ∨ cmpB x y < 0 := by
  intro x hx
  obtain ⟨q, rfl⟩ : ∃ q, r = q ++ [y] := by
    have := List.getLast?_eq_some_iff.1 hy
    obtain ⟨q, e⟩ := this
    exact ⟨q, e⟩
  rcases List.mem_append.1 hx with hx | hx
  · exact .inr ((List.pairwise_append.1 h).2.2 x hx y (by simp))
  · exact .inl (by simpa using hx)

theorem addR_rises {r : BL} (h : Rises r) (b : List UInt8) : Rises (addR r b) := by
  unfold addR
  split
  · rename_i hb
    refine List.pairwise_append.2 ⟨h, by simp, fun x hx y hy => ?_⟩
    simp at hy
    subst hy
    cases hl : r.getLast? with
    | none => rw [List.getLast?_eq_none_iff] at hl; subst hl; cases hx
    | some z =>
      have h1 := hb.2 z hl
      rcases rises_last h hl x hx with rfl | h2
      · exact h1
      · exact cmpB_trans h2 h1
  · exact h

theorem risL_rises (l : BL) : Rises (risL l) := by
  unfold risL
  have : ∀ (l : BL) (r : BL), Rises r → Rises (l.foldl addR r) := by
    intro l
    induction l with
    | nil => intro r h; exact h
    | cons b l ih => intro r h; exact ih _ (addR_rises h b)
  exact this _ _ .nil

theorem addR_len (r : BL) (b : List UInt8) : (addR r b).length ≤ r.length + 1 := by unfold addR; split <;> simp
theorem addR_small {r : BL} (h : ∀ x ∈ r, x.length ≤ 50) (b : List UInt8) : ∀ x ∈ addR r b, x.length ≤ 50 := by
  unfold addR
  split
  · rename_i hb
    intro x hx
    rcases List.mem_append.1 hx with hx | hx
    · exact h x hx
    · simp at hx; subst hx; exact hb.1
  · exact h
theorem risL_len (l : BL) : (risL l).length ≤ 30 := by
  unfold risL
  have : ∀ (l : BL) (r : BL), (l.foldl addR r).length ≤ r.length + l.length := by
    intro l
    induction l with
    | nil => intro r; simp
    | cons b l ih => intro r; have := ih (addR r b); have := addR_len r b; simp only [List.foldl_cons, List.length_cons]; omega
  have h := this (l.take 30) []
  rw [List.length_take] at h
  simp at h
  omega
theorem risL_small (l : BL) : ∀ x ∈ risL l, x.length ≤ 50 := by
  unfold risL
  have : ∀ (l : BL) (r : BL), (∀ x ∈ r, x.length ≤ 50) → ∀ x ∈ l.foldl addR r, x.length ≤ 50 := by
    intro l
    induction l with
    | nil => intro r h; exact h
    | cons b l ih => intro r h; exact ih _ (addR_small h b)
  exact this _ _ (by simp)
theorem risL_succ {l : BL} {i : Nat} {b : List UInt8} (h : l[i]? = some b) (hi : i < 30) : risL (l.take (i + 1)) = addR (risL (l.take i)) b := by
  unfold risL
  rw [List.take_take, List.take_take, Nat.min_eq_right (by omega), Nat.min_eq_right (by omega), List.take_add_one, h, List.foldl_append]
  rfl
theorem risL_over {l : BL} {i : Nat} (hi : 30 ≤ i) : risL (l.take (i + 1)) = risL (l.take i) := by
  unfold risL
  rw [List.take_take, List.take_take, Nat.min_eq_left (by omega), Nat.min_eq_left (by omega)]

theorem best1 (x : Hd) : best [x] = 0 := by unfold best; simp [List.range_succ]
theorem cmpHs (x : Hd) : cmpH x x = 0 := cmpH_zero.2 ⟨rfl, fun _ => rfl⟩
theorem best3 (x z : Hd) : best [x, ([], false), z] = if cmpH z x < 0 then 2 else 0 := by
  have h1 : cmpH ([], false) x = if x.2 then 1 else 0 := by unfold cmpH; cases x.2 <;> rfl
  have h2 : ¬ cmpH ([], false) x < 0 := by rw [h1]; split <;> omega
  unfold best
  simp [List.range_succ, hd, cmpHs, h2]

theorem merge_one : ∀ (r : BL) (out : BL), Rises r → (∀ x y, out.getLast? = some y → r.head? = some x → cmpB y x < 0) → mergeS (total [r]) [r] out = out ++ r
  | [], out, _, _ => by rw [mergeS_stop (by simp [best1, hdOf, hd]), List.append_nil]
  | x :: r, out, h, ho => by
    have hb : best ([x :: r].map hdOf) = 0 := best1 _
    rw [mergeS_step (by rw [hb]; rfl), hb]
    have e1 : pop [x :: r] 0 = [r] := rfl
    have e2 : (hd ([x :: r].map hdOf) 0).1 = x := rfl
    have hp : pushU out x = out ++ [x] := by
      unfold pushU
      rw [if_neg]
      intro e
      have := ho x x e rfl
      rw [cmpB_eq_zero.2 rfl] at this
      omega
    rw [e1, e2, hp, merge_one r (out ++ [x]) (List.pairwise_cons.1 h).2 ?_]
    · simp
    · intro z y h1 h2
      simp at h1
      subst h1
      cases r with
      | nil => cases h2
      | cons w r => cases h2; exact (List.pairwise_cons.1 h).1 _ (.head _)

theorem merge_two : ∀ (r : BL) (out : BL), Rises r → (∀ x y, out.getLast? = some y → r.head? = some x → cmpB y x < 0) → mergeS (total [r, [], r]) [r, [], r] out = out ++ r
  | [], out, _, _ => by
    rw [mergeS_stop ?_, List.append_nil]
    have hb : best ([[], [], []].map hdOf) = 0 := by rw [show ([[], [], []] : List BL).map hdOf = [([], false), ([], false), ([], false)] from rfl, best3]; rfl
    rw [hb]; rfl
  | x :: r, out, h, ho => by
    have hb : best ([x :: r, [], x :: r].map hdOf) = 0 := by
      rw [show ([x :: r, [], x :: r] : List BL).map hdOf = [(x, true), ([], false), (x, true)] from rfl, best3, if_neg (by rw [cmpHs]; omega)]
    rw [mergeS_step (by rw [hb]; rfl), hb]
    have e1 : pop [x :: r, [], x :: r] 0 = [r, [], x :: r] := rfl
    have e2 : (hd ([x :: r, [], x :: r].map hdOf) 0).1 = x := rfl
    have hp : pushU out x = out ++ [x] := by
      unfold pushU
      rw [if_neg]
      intro e
      have := ho x x e rfl
      rw [cmpB_eq_zero.2 rfl] at this
      omega
    have hb2 : best ([r, [], x :: r].map hdOf) = 2 := by
      rw [show ([r, [], x :: r] : List BL).map hdOf = [hdOf r, ([], false), (x, true)] from rfl, best3, if_pos]
      cases r with
      | nil => show (-1 : Int) < 0; omega
      | cons y r => show cmpB x y < 0; exact (List.pairwise_cons.1 h).1 _ (.head _)
    rw [e1, e2, hp, mergeS_step (by rw [hb2]; rfl), hb2]
    have e3 : pop [r, [], x :: r] 2 = [r, [], r] := rfl
    have e4 : (hd ([r, [], x :: r].map hdOf) 2).1 = x := rfl
    have hp2 : pushU (out ++ [x]) x = out ++ [x] := by unfold pushU; rw [if_pos (by simp)]
    rw [e3, e4, hp2, merge_two r (out ++ [x]) (List.pairwise_cons.1 h).2 ?_]
    · simp
    · intro z y h1 h2
      simp at h1
      subst h1
      cases r with
      | nil => cases h2
      | cons w r => cases h2; exact (List.pairwise_cons.1 h).1 _ (.head _)

theorem merge1_ok {s : Sl} {r : BL} {K : (Sl × Int) → World → Prop} (h : Sat Γ L w) (hx : Lst (eList eBytes) Γ s [r]) (hr : Rises r) (hn : r.length ≤ 30) (hs : ∀ x ∈ r, x.length ≤ 50)
    (k : ∀ s' Γ' w', Γ.le Γ' → Lst eBytes Γ' s' r → Sat Γ' L w' → K (s', 0) w') :
    CallP Try.prog 41 [.slice s.p s.len s.cap] (.tup [.s .sl, .s (.int .i64)]) K w :=
  merge_ok h hx.rows (by show 1 ≤ 1000000; decide) (fun q hq x hx => by rw [List.mem_singleton] at hq; rw [hq] at hx; have := hs x hx; omega) (by simp [total]; omega) (fun h => absurd (show 16 < 1 from h) (by decide)) fun h1 s' Γ' w' h2 h3 => k s' Γ' w' h2 (by
    rw [merge_one r [] hr (fun _ _ h => by cases h)] at h3; exact h3.lst)

theorem merge3_ok {s : Sl} {r : BL} {K : (Sl × Int) → World → Prop} (h : Sat Γ L w) (hx : Lst (eList eBytes) Γ s [r, [], r]) (hr : Rises r) (hn : r.length ≤ 30) (hs : ∀ x ∈ r, x.length ≤ 50)
    (k : ∀ s' Γ' w', Γ.le Γ' → Lst eBytes Γ' s' r → Sat Γ' L w' → K (s', 0) w') :
    CallP Try.prog 41 [.slice s.p s.len s.cap] (.tup [.s .sl, .s (.int .i64)]) K w :=
  merge_ok h hx.rows (by show 3 ≤ 1000000; decide) (fun q hq x hx => by
      have hq : q = r ∨ q = [] := by
        simp only [List.mem_cons, List.not_mem_nil, or_false] at hq
        rcases hq with h | h | h
        · exact .inl h
        · exact .inr h
        · exact .inl h
      rcases hq with hq | hq
      · rw [hq] at hx
        first | exact absurd hx List.not_mem_nil | (have := hs x hx; omega)
      · rw [hq] at hx
        first | exact absurd hx List.not_mem_nil | (have := hs x hx; omega)) (by simp [total]; omega) (fun h => absurd (show 16 < 3 from h) (by decide)) fun h1 s' Γ' w' h2 h3 => k s' Γ' w' h2 (by
    rw [merge_two r [] hr (fun _ _ h => by cases h)] at h3; exact h3.lst)

theorem law_again {s : Sl} {l : BL} {K : Bool → World → Prop} (h : Sat Γ L w) (hl : Lst eBytes Γ s l) (k : ∀ Γ' w', Γ.le Γ' → Sat Γ' L w' → K true w') :
    CallP Try.prog 9 [.slice s.p s.len s.cap] (.one (.s .bool)) K w := by
  refine callP (fn := Try.f9) [.s (.sl s)] (.p .n (.p .n (.p .n (.p (.p .n (.b (.l [13, 12, 3] [(4, .s .sl), (14, .s (.int .i64))] (.p .n (.p .n (.p (.k [14, 13, 12, 3] [(4, .s .sl)] (.p .n (.p .s .n))) .n)))))) .n)))) nong mixed (by kernel_rfl) (by kernel_rfl) rfl rfl ?_
  obtain ⟨lhl, mhl, chl⟩ := hl.lens
  refine shown12_ok h (fun aΓ1 _ ag3 h => ?_)
  have hl := hl.mono ag3
  rotate_left
  refine loop (σ := Sl × Int) (fun st w' n => ∃ (out : Sl) (i : Nat), st = (out, (i : Int)) ∧ i ≤ l.length ∧ n = l.length - i ∧ Sat aΓ1 (OL eBytes TB out (risL (l.take i)) :: L) w') l.length ⟨_, 0, rfl, by omega, by omega, by simpa [risL] using h.olNil⟩ ?_
  rintro _ w n ⟨out, i, rfl, hi, hn, h⟩
  have hol := h.olLen .n0
  have hrl := risL_len (l.take i)
  have step : ∀ b, l[i]? = some b → i < 30 → risL (l.take (i + 1)) = addR (risL (l.take i)) b := fun b => risL_succ
  refine brD (fun bb0 => ?_) (fun bb0 => ?_)
  dsimp only at bb0
  refine joinI ?_
  refine ⟨by omega, ?_⟩
  refine nnL h hl (fun ba1 bha1 => ?_)
  refine ldL' h hl bha1 (i := i) (fun bx2 be2 by2 bhy2 => ?_)
  have bhy2 : Bytes _ by2 bx2 := bhy2
  obtain ⟨lbhy2, mbhy2, cbhy2⟩ := bhy2.lens
  refine dr h fun _ h => ?_
  refine brD (fun bb3 => ?_) (fun bb3 => ?_)
  dsimp only at bb3
  refine brD (fun bb4 => ?_) (fun bb4 => ?_)
  refine brE (fun bb5 => ?_) (fun bb5 => ?_)
  dsimp only at bb5
  refine new h fun br6 _ h => ?_
  refine app1 _ _ slSlice h .n0 bhy2 (fun bs7 _ bl7 h => ?_)
  dsimp only at bl7
  refine wrN (i + 1) ?_
  refine ⟨_, (by first | omega | rfl | (dsimp only; omega)), _, _, rfl, (by first | omega | rfl | (dsimp only; omega)), rfl, (Sat.eqs h ?_)⟩
  rotate_left
  dsimp only at bb5
  refine wrN (out.len - 1) ?_
  refine ⟨by dsimp only; omega, ?_⟩
  refine nnO h .n0 (fun ba8 bha8 => ?_)
  dsimp only at bha8
  refine ldO' h .n0 bha8 (i := out.len - 1) (fun bx9 be9 by9 bhy9 => ?_)
  have bhy9 : Bytes _ by9 bx9 := bhy9
  obtain ⟨lbhy9, mbhy9, cbhy9⟩ := bhy9.lens
  refine btoS h bhy9 ?_
  refine btoS h bhy2 ?_
  refine brSl (fun bb10 => ?_) (fun bb10 => ?_)
  refine new h fun br11 _ h => ?_
  refine app1 _ _ slSlice h .n0 bhy2 (fun bs12 _ bl12 h => ?_)
  dsimp only at bl12
  refine wrN (i + 1) ?_
  refine ⟨_, (by first | omega | rfl | (dsimp only; omega)), _, _, rfl, (by first | omega | rfl | (dsimp only; omega)), rfl, (Sat.eqs h ?_)⟩
  rotate_left
  refine wrN (i + 1) ?_
  refine ⟨_, (by first | omega | rfl | (dsimp only; omega)), _, _, rfl, (by first | omega | rfl | (dsimp only; omega)), rfl, (Sat.eqs h ?_)⟩
  rotate_left
  refine wrN (i + 1) ?_
  refine ⟨_, (by first | omega | rfl | (dsimp only; omega)), _, _, rfl, (by first | omega | rfl | (dsimp only; omega)), rfl, (Sat.eqs h ?_)⟩
  rotate_left
  dsimp only at bb3
  refine wrN (i + 1) ?_
  refine ⟨_, (by first | omega | rfl | (dsimp only; omega)), _, _, rfl, (by first | omega | rfl | (dsimp only; omega)), rfl, (Sat.eqs h ?_)⟩
  rotate_left
  dsimp only at bb0
  refine new h fun br13 _ h => ?_
  rotate_left
  · have e0 : risL (l.take i) = [] := List.eq_nil_of_length_eq_zero (by omega)
    rw [step _ be2 (by omega), addR, if_pos ⟨by omega, by rw [e0]; simp⟩]
  · have hlast : ∀ x, (risL (l.take i)).getLast? = some x → cmpB x bx2 < 0 := by
      intro x hx
      rw [List.getLast?_eq_getElem?, ← hol, be9] at hx
      cases hx
      exact bb10
    rw [step _ be2 (by omega), addR, if_pos ⟨by omega, hlast⟩]
  · rw [step _ be2 (by omega), addR, if_neg fun hh => bb10 (hh.2 _ (by rw [List.getLast?_eq_getElem?, ← hol, be9]))]
  · rw [step _ be2 (by omega), addR, if_neg fun hh => by have := hh.1; omega]
  · rw [risL_over (by omega)]
  · have hi : i = l.length := by omega
    subst hi
    rw [List.take_length] at h hol
    have hrl := risL_len l
    have hri := risL_rises l
    have hrs := risL_small l
    obtain ⟨Γ2, g2, f2, h⟩ := Sat.olFreeze h .n1 (by omega)
    have h := Sat.olWhole (E := eList eBytes) (ys := [out]) (xs := [risL l]) (n := 1) h rfl (.cons f2 .nil) rfl
    obtain ⟨Γ3, g3, f3, h⟩ := h.olFreeze .n0 (by dsimp only; omega)
    have hl := hl.mono (g2.trans g3)
    have f2 := f2.mono g3
    refine merge1_ok h f3 hri hrl hrs (fun cv1 cΓ2 _ cg4 cf5 h => ?_)
    have f3 := f3.mono cg4
    have hl := hl.mono cg4
    have f2 := f2.mono cg4
    obtain ⟨lcf5, mcf5, ccf5⟩ := cf5.lens
    refine new h fun cr7 _ h => ?_
    rotate_left
    have h := Sat.olWhole (E := eList eBytes) (ys := [out, ⟨none, 0, 0⟩, out]) (xs := [risL l, [], risL l]) (n := 3) h rfl (.cons f2 (.cons (.nil _ _) (.cons f2 .nil))) rfl
    obtain ⟨Γ5, g5, f5, h⟩ := h.olFreeze .n0 (by dsimp only; omega)
    have cf5 := cf5.mono g5
    have f3 := f3.mono g5
    have hl := hl.mono g5
    have f2 := f2.mono g5
    refine merge3_ok h f5 hri hrl hrs (fun dv1 dΓ2 _ dg4 df5 h => ?_)
    have f5 := f5.mono dg4
    have cf5 := cf5.mono dg4
    have f3 := f3.mono dg4
    have hl := hl.mono dg4
    have f2 := f2.mono dg4
    obtain ⟨ldf5, mdf5, cdf5⟩ := df5.lens
    refine brT ?_
    refine brT ?_
    refine brT ?_
    refine same_eq_ok h cf5 f2 (by first | omega | decide) (fun _ h => ?_)
    refine brT ?_
    refine same_eq_ok h df5 f2 (by first | omega | decide) (fun _ h => ?_)
    refine ⟨_, rfl, ?_⟩
    refine k _ _ (ag3.trans (g2.trans (g3.trans (cg4.trans (g5.trans dg4))))) h

theorem treeAgain_walk {H : Type} {enc : TypeId × Value → H} {W : World} {base : Nat} {vs : List Value} {ds : List (DataW H)} {ps : List MemPlace} (hok : ∀ (j : Nat) (t : TypeId) (v : Value), [43][j]? = some t → vs[j]? = some v → Value.okWide Try.prog W .any base t v)
    (hA : DataW.TrodAll enc Try.prog W 0 (fun _ => true) true [43] vs ds ps) : CallP Try.prog 9 vs (.one (.s .bool)) (fun b w' => b = true ∧ Kept W w') W := by
  obtain ⟨v0, vs0, d0, ds0, p0, q0, rfl, rfl, rfl, h0, r0⟩ := trodAll_cons hA
  obtain ⟨rfl, rfl, rfl⟩ := trodAll_nil r0
  obtain ⟨s, l, e0, f0⟩ := argS rBB (hok 0 _ _ rfl rfl) h0
  cases e0
  exact law_walk fun k => law_again (Sat.start W) f0 k

theorem treeAgain_lifted (os : Os) (started : os.Started) (H : Type) (enc : TypeId × Value → H) :
    ReturnsInHanded {} Try.checked os 9 .any (Rows.treeAgainSpec.pre6 enc Try.prog Try.f9 Rows.treeAgainRow.domain false) (Rows.treeAgainSpec.post enc Try.prog Try.f9 false true false false) := by
  have e : Try.f9.params.toList = [43] := by kernel_rfl
  refine law_lifted (s := Rows.treeAgainSpec) started Try.func9 (by kernel_rfl) rfl (fun ds h => ?_) (by kernel_rfl) (fun t ht => ?_)
    (ChangeSpec.witness6 (enc := enc) (C := Try.checked) false ⟨#[], #[.slice none 0 0], []⟩ 8 (by kernel_rfl) (by kernel_rfl) (by kernel_rfl) (by kernel_rfl)) fun W base vs ds ps hok hA => ?_
  · have hl : ds.length = 1 := h
    match ds, hl with
    | [_], _ => rfl
  · rw [e] at ht
    have hall : ([43].all fun t => Try.prog.readableRec t && decide (t < Try.prog.types.size)) = true := by kernel_rfl
    simpa using List.all_eq_true.1 hall t ht
  · rw [e] at hA hok
    exact treeAgain_walk hok hA

theorem treeAgain_facts : joinedFacts Try.pinned.checked.prog 9 Try.f9 Rows.treeAgainSpec Rows.treeAgainRow = true := by
  show joinedFacts Try.prog 9 Try.f9 Rows.treeAgainSpec Rows.treeAgainRow = true
  unfold joinedFacts
  rw [make_, enter_, lifts_]
  kernel_rfl

theorem TreeAgain_holds : Rows.TreeAgainSaid :=
  OpenClaim.holds_of_wide 9 Try.f9 rfl rfl rfl rfl rfl rfl rfl ⟨rfl, rfl, rfl, rfl, rfl⟩ rfl rfl rfl rfl rfl (by kernel_rfl) Try.func9 treeAgain_facts
    (of_decide_eq_true (by kernel_rfl)) (by unfold Func.isWrapper; first | (rw [if_pos (by decide +kernel)]; kernel_rfl) | (rw [if_neg (by decide +kernel)]; exact ⟨rfl, rfl⟩))
    (fun os started H enc _ => treeAgain_lifted os started H enc)


end Go.Proofs.Ytohoimokfgfceaa.K
