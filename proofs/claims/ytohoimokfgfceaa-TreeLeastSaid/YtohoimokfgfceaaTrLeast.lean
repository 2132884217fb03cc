/-
  TreeLeast: what Least tells is not greater than any head, and stands in the first row of which it is the head. No condition.
-/
import Derived.Test.YtohoimokfgfceaaTrS
import Derived.Test.YtohoimokfgfceaaTrL
namespace Go.Proofs.Ytohoimokfgfceaa.K
open Go Go.Proofs Go.ChangeShapes Go.WideShapes Go.ChangeAt Go.RowKit
variable {Γ Γ' : Mem} {L L' L'' : List HP} {w w' : World} {A B : HP}
set_option maxRecDepth 100000
set_option maxHeartbeats 4000000

theorem hd_of {X : List Hd} {i : Nat} {x : Hd} (h : X[i]? = some x) : hd X i = x := by
  unfold hd
  rw [List.getD_eq_getElem?_getD, h]
  rfl

theorem best_none {X : List Hd} (h : (hd X (best X)).2 = false) {i : Nat} {x : Hd} (hx : X[i]? = some x) : x.2 = false := by
  have hi : i < X.length := (List.getElem?_eq_some_iff.1 hx).1
  rcases best_beats hi with h1 | h1
  · rw [← hd_of hx, h1]; exact h
  · rw [← hd_of hx]
    unfold beats cmpH at h1
    rw [h] at h1
    cases h2 : (hd X i).2 with
    | false => rfl
    | true => simp [h2] at h1

theorem best_some {X : List Hd} (h : (hd X (best X)).2 = true) {i : Nat} {x : Hd} (hx : X[i]? = some x) (h2 : x.2 = true) : ¬ cmpB x.1 (hd X (best X)).1 < 0 ∧ (x.1 = (hd X (best X)).1 → ¬ i < best X) := by
  have hi : i < X.length := (List.getElem?_eq_some_iff.1 hx).1
  have hxi := hd_of hx
  rcases best_beats hi with h1 | h1
  · rw [h1] at hxi
    rw [hxi]
    have : cmpB x.1 x.1 = 0 := cmpB_eq_zero.2 rfl
    exact ⟨by omega, fun _ => by omega⟩
  · unfold beats cmpH at h1
    rw [hxi, h, h2] at h1
    dsimp only at h1
    have hn := cmpB_neg (hd X (best X)).1 x.1
    split at h1
    · rename_i h0
      have h3 : best X < i := of_decide_eq_true h1
      exact ⟨by omega, fun _ => by omega⟩
    · rename_i h0
      have h3 : cmpB (hd X (best X)).1 x.1 < 0 := of_decide_eq_true h1
      refine ⟨by omega, fun he => ?_⟩
      rw [he] at h0
      exact absurd (cmpB_eq_zero.2 rfl) h0

theorem law_least {s : Sl} {l : List Hd} {K : Bool → World → Prop} (h : Sat Γ L w) (hl : Lst eHead Γ s l) (k : ∀ Γ' w', Γ.le Γ' → Sat Γ' L w' → K true w') :
    CallP Try.prog 8 [.slice s.p s.len s.cap] (.one (.s .bool)) K w := by
  refine callP (fn := Try.f8) [.s (.sl s)] (.p .n (.p .n (.p .n (.p .n (.p .n (.p .n (.p .n (.p (.p .n (.b (.l [44, 43, 3, 9, 4, 7, 8] [(45, .s (.int .i64))] (.p .n (.p .n (.p (.k [45, 44, 43, 3, 9, 4, 7, 8] [] .n) .n)))))) (.p .s .n))))))))) nong mixed (by kernel_rfl) (by kernel_rfl) rfl rfl ?_
  obtain ⟨lhl, mhl, chl⟩ := hl.lens
  refine shown12_ok h (fun aΓ1 _ ag3 h => ?_)
  have hl := hl.mono ag3
  refine few_ok h hl (fun av6 aΓ7 _ ag9 af10 h => ?_)
  have hl := hl.mono ag9
  obtain ⟨laf10, maf10, caf10⟩ := af10.lens
  refine mnN _ _ ?_
  refine ⟨by omega, ?_⟩
  rotate_left
  have hY := af10.first 16
  have hX := hY.heads (fun x hx => by have := fewL_small x (List.mem_of_mem_take hx); omega)
  have hXl : ((fewL 20 l).take 16).length ≤ 16 := by rw [List.length_take]; omega
  have hXm : ((fewL 20 l).take 16).length = min 16 (fewL 20 l).length := List.length_take
  generalize (fewL 20 l).take 16 = X at hX hXl hXm hY
  refine new_ok h hX (by omega) (fun p => ?_) (fun p1 p2 tb b Γ5 _ g5 ht h => ?_)
  · refine brT ?_
    refine brT ?_
    refine brE (fun bb0 => ?_) (fun bb0 => by exfalso; dsimp only [Sl.sub] at bb0; omega)
    dsimp only [Sl.sub] at bb0
    refine ⟨_, rfl, ?_⟩
    refine k _ _ (ag3.trans ag9) h
  · have af10 := af10.mono g5
    have hl := hl.mono g5
    have hX := hX.mono g5
    have hY := hY.mono g5
    refine brF ?_
    refine Least_ok h ht (by omega) p2 (fun _ cp2 h => ?_) (fun cv4 cΓ5 _ cp7 cg8 cf9 h => ?_)
    rotate_left
    have ht := ht.mono cg8
    have af10 := af10.mono cg8
    have hl := hl.mono cg8
    have hX := hX.mono cg8
    have hY := hY.mono cg8
    obtain ⟨lcf9, mcf9, ccf9⟩ := cf9.lens
    rotate_left
    · refine loop (σ := Int) (fun st w' n => ∃ i : Nat, st = (i : Int) ∧ i ≤ X.length ∧ n = X.length - i ∧ Sat Γ5 (TreeP b X ((X.length : Int) - 1) :: L) w') X.length ⟨0, rfl, by omega, by omega, h⟩ ?_
      rintro _ w n ⟨i, rfl, hi, hn, h⟩
      refine brD (fun db0 => ?_) (fun db0 => ?_)
      dsimp only [Sl.sub] at db0
      refine joinI ?_
      refine ⟨by dsimp only [Sl.sub]; omega, ?_⟩
      refine nnL h hY (fun da1 dha1 => ?_)
      refine ldL' h hY dha1 (i := i) (fun dx2 de2 dy2 dhy2 => ?_)
      obtain ⟨dy2, dy2b⟩ := dy2
      obtain ⟨dhy2, dhy2b⟩ := dhy2
      have dhy2 : Bytes _ dy2 dx2.1 := dhy2
      have dhy2b : dy2b = dx2.2 := dhy2b
      subst dhy2b
      dsimp only at dhy2b
      dsimp only at dhy2
      obtain ⟨ldhy2, mdhy2, cdhy2⟩ := dhy2.lens
      refine new h fun dr3 _ h => ?_
      refine stNs h .n0 fun _ h => ?_
      refine ld _ h .n0 ?_
      refine brB (fun db4 => ?_) (fun db4 => ?_)
      dsimp only at db4
      refine brT ?_
      refine ⟨_, rfl, ?_⟩
      rotate_left
      dsimp only at db4
      refine wrN (i + 1) ?_
      refine ⟨_, (by first | omega | rfl | (dsimp only; omega)), _, rfl, (by first | omega | rfl | (dsimp only; omega)), rfl, h.drop⟩
      dsimp only [Sl.sub] at db0
      refine dr h fun _ h => ?_
      refine brT ?_
      refine brT ?_
      refine brT ?_
      refine brT ?_
      refine ⟨_, rfl, ?_⟩
      refine k _ _ (ag3.trans (ag9.trans g5)) h.drop
      have := best_none cp2 de2
      rw [this] at db4
      cases db4
    · refine loop (σ := Int) (fun st w' n => ∃ i : Nat, st = (i : Int) ∧ i ≤ X.length ∧ n = X.length - i ∧ Sat cΓ5 (TreeP b X ((X.length : Int) - 1) :: L) w') X.length ⟨0, rfl, by omega, by omega, h⟩ ?_
      rintro _ w n ⟨i, rfl, hi, hn, h⟩
      have hbl := best_lt (hs := X) (by omega)
      obtain ⟨xb, eb⟩ := get_lt (xs := X) (i := best X) hbl
      refine brD (fun eb0 => ?_) (fun eb0 => ?_)
      dsimp only [Sl.sub] at eb0
      refine joinI ?_
      refine ⟨by dsimp only [Sl.sub]; omega, ?_⟩
      refine nnL h hY (fun ea1 eha1 => ?_)
      refine ldL' h hY eha1 (i := i) (fun ex2 ee2 ey2 ehy2 => ?_)
      obtain ⟨ey2, ey2b⟩ := ey2
      obtain ⟨ehy2, ehy2b⟩ := ehy2
      have ehy2 : Bytes _ ey2 ex2.1 := ehy2
      have ehy2b : ey2b = ex2.2 := ehy2b
      subst ehy2b
      dsimp only at ehy2b
      dsimp only at ehy2
      obtain ⟨lehy2, mehy2, cehy2⟩ := ehy2.lens
      refine new h fun er3 _ h => ?_
      refine stNs h .n0 fun _ h => ?_
      refine ld _ h .n0 ?_
      refine brB (fun eb4 => ?_) (fun eb4 => ?_)
      dsimp only at eb4
      refine brF ?_
      refine ld _ h .n0 ?_
      refine btoS h ehy2 ?_
      refine btoS h cf9 ?_
      refine brSl (fun eb5 => ?_) (fun eb5 => ?_)
      refine ⟨_, rfl, ?_⟩
      rotate_left
      refine ld _ h .n0 ?_
      refine btoS h ehy2 ?_
      refine btoS h cf9 ?_
      refine brS (fun eb6 => ?_) (fun eb6 => ?_)
      refine brD (fun eb7 => ?_) (fun eb7 => ?_)
      dsimp only at eb7
      refine ⟨_, rfl, ?_⟩
      rotate_left
      dsimp only at eb7
      refine wrN (i + 1) ?_
      refine ⟨_, (by first | omega | rfl | (dsimp only; omega)), _, rfl, (by first | omega | rfl | (dsimp only; omega)), rfl, h.drop⟩
      refine wrN (i + 1) ?_
      refine ⟨_, (by first | omega | rfl | (dsimp only; omega)), _, rfl, (by first | omega | rfl | (dsimp only; omega)), rfl, h.drop⟩
      dsimp only at eb4
      refine wrN (i + 1) ?_
      refine ⟨_, (by first | omega | rfl | (dsimp only; omega)), _, rfl, (by first | omega | rfl | (dsimp only; omega)), rfl, h.drop⟩
      dsimp only [Sl.sub] at eb0
      refine dr h fun _ h => ?_
      refine brT ?_
      refine brF ?_
      refine brT ?_
      refine brT ?_
      refine brD (fun eb8 => ?_) (fun eb8 => by exfalso; dsimp only [Sl.sub] at eb8; omega)
      dsimp only at eb8
      dsimp only [Sl.sub] at eb8
      refine ⟨by dsimp only [Sl.sub]; omega, ?_⟩
      refine nnL h hY (fun ea9 eha9 => ?_)
      refine ldLf h hY (·.2) eha9 eb (fun ey10 ehy10 => ?_)
      obtain ⟨ey10, ey10b⟩ := ey10
      obtain ⟨ehy10, ehy10b⟩ := ehy10
      have ehy10 : Bytes _ ey10 xb.1 := ehy10
      have ehy10b : ey10b = xb.2 := ehy10b
      subst ehy10b
      dsimp only at ehy10b
      dsimp only at ehy10
      obtain ⟨lehy10, mehy10, cehy10⟩ := ehy10.lens
      refine brB (fun eb11 => ?_) (fun eb11 => ?_)
      dsimp only at eb11
      refine ⟨by dsimp only [Sl.sub]; omega, ?_⟩
      refine ⟨_, eha9, ?_⟩
      refine ldLf h hY (·.1) eha9 eb (fun ey12 ehy12 => ?_)
      obtain ⟨ey12, ey12b⟩ := ey12
      obtain ⟨ehy12, ehy12b⟩ := ehy12
      have ehy12 : Bytes _ ey12 xb.1 := ehy12
      have ehy12b : ey12b = xb.2 := ehy12b
      subst ehy12b
      dsimp only at ehy12b
      dsimp only at ehy12
      obtain ⟨lehy12, mehy12, cehy12⟩ := ehy12.lens
      refine btoS h ehy12 ?_
      refine btoS h cf9 ?_
      refine ⟨_, rfl, ?_⟩
      rotate_left
      dsimp only at eb11
      refine ⟨_, rfl, ?_⟩
      rotate_left
      · exact absurd eb5 (best_some cp7 ee2 eb4).1
      · exact absurd (by omega) ((best_some cp7 ee2 eb4).2 eb6)
      · have e : ((str xb.1).toList == (str (hd X (best X)).1).toList) = true := by rw [str_toList, str_toList, hd_of eb]; simp
        have k' := k _ _ (((ag3.trans ag9).trans g5).trans cg8) h.drop
        rw [← e] at k'
        exact k'
      · rw [hd_of eb] at cp7
        rw [cp7] at eb11
        cases eb11

theorem treeLeast_walk {H : Type} {enc : TypeId × Value → H} {W : World} {base : Nat} {vs : List Value} {ds : List (DataW H)} {ps : List MemPlace} (hok : ∀ (j : Nat) (t : TypeId) (v : Value), [22][j]? = some t → vs[j]? = some v → Value.okWide Try.prog W .any base t v)
    (hA : DataW.TrodAll enc Try.prog W 0 (fun _ => true) true [22] vs ds ps) : CallP Try.prog 8 vs (.one (.s .bool)) (fun b w' => b = true ∧ Kept W w') W := by
  obtain ⟨v0, vs0, d0, ds0, p0, q0, rfl, rfl, rfl, h0, r0⟩ := trodAll_cons hA
  obtain ⟨rfl, rfl, rfl⟩ := trodAll_nil r0
  obtain ⟨s, l, e0, f0⟩ := argS rHeads (hok 0 _ _ rfl rfl) h0
  cases e0
  exact law_walk fun k => law_least (Sat.start W) f0 k

theorem treeLeast_lifted (os : Os) (started : os.Started) (H : Type) (enc : TypeId × Value → H) :
    ReturnsInHanded {} Try.checked os 8 .any (Rows.treeLeastSpec.pre6 enc Try.prog Try.f8 Rows.treeLeastRow.domain false) (Rows.treeLeastSpec.post enc Try.prog Try.f8 false true false false) := by
  have e : Try.f8.params.toList = [22] := by kernel_rfl
  refine law_lifted (s := Rows.treeLeastSpec) started Try.func8 (by kernel_rfl) rfl (fun ds h => ?_) (by kernel_rfl) (fun t ht => ?_)
    (ChangeSpec.witness6 (enc := enc) (C := Try.checked) false ⟨#[], #[.slice none 0 0], []⟩ 8 (by kernel_rfl) (by kernel_rfl) (by kernel_rfl) (by kernel_rfl)) fun W base vs ds ps hok hA => ?_
  · have hl : ds.length = 1 := h
    match ds, hl with
    | [_], _ => rfl
  · rw [e] at ht
    have hall : ([22].all fun t => Try.prog.readableRec t && decide (t < Try.prog.types.size)) = true := by kernel_rfl
    simpa using List.all_eq_true.1 hall t ht
  · rw [e] at hA hok
    exact treeLeast_walk hok hA

theorem treeLeast_facts : joinedFacts Try.pinned.checked.prog 8 Try.f8 Rows.treeLeastSpec Rows.treeLeastRow = true := by
  show joinedFacts Try.prog 8 Try.f8 Rows.treeLeastSpec Rows.treeLeastRow = true
  unfold joinedFacts
  rw [make_, enter_, lifts_]
  kernel_rfl

theorem TreeLeast_holds : Rows.TreeLeastSaid :=
  OpenClaim.holds_of_wide 8 Try.f8 rfl rfl rfl rfl rfl rfl rfl ⟨rfl, rfl, rfl, rfl, rfl⟩ rfl rfl rfl rfl rfl (by kernel_rfl) Try.func8 treeLeast_facts
    (of_decide_eq_true (by kernel_rfl)) (by unfold Func.isWrapper; first | (rw [if_pos (by decide +kernel)]; kernel_rfl) | (rw [if_neg (by decide +kernel)]; exact ⟨rfl, rfl⟩))
    (fun os started H enc _ => treeLeast_lifted os started H enc)


end Go.Proofs.Ytohoimokfgfceaa.K
