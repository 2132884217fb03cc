/-
  TreeGames: for each head that comes no more than five pairs are held against each other, of 16 rows at most. No condition.
-/
import Derived.Test.YtohoimokfgfceaaTrS
import Derived.Test.YtohoimokfgfceaaTrL
namespace Go.Proofs.Ytohoimokfgfceaa.K
open Go Go.Proofs Go.ChangeShapes Go.WideShapes Go.ChangeAt Go.RowKit
variable {Γ Γ' : Mem} {L L' L'' : List HP} {w w' : World} {A B : HP}
set_option maxRecDepth 100000
set_option maxHeartbeats 4000000

theorem law_games {s t : Sl} {l nx : List Hd} {K : Bool → World → Prop} (h : Sat Γ L w) (hl : Lst eHead Γ s l) (hx : Lst eHead Γ t nx) (k : ∀ Γ' w', Γ.le Γ' → Sat Γ' L w' → K true w') :
    CallP Try.prog 6 [.slice s.p s.len s.cap, .slice t.p t.len t.cap] (.one (.s .bool)) K w := by
  refine callP (fn := Try.f6) [.s (.sl s), .s (.sl t)] (.p .n (.p .n (.p .n (.p .n (.p .n (.p .n (.p .n (.p (.p .n (.b (.l [47, 7, 46, 5] [(48, .s (.int .i64))] (.p .n (.p .n (.p (.k [48, 47, 7, 46, 5] [] .n) .n)))))) .n)))))))) nong mixed (by kernel_rfl) (by kernel_rfl) rfl rfl ?_
  obtain ⟨lhl, mhl, chl⟩ := hl.lens
  obtain ⟨lhx, mhx, chx⟩ := hx.lens
  refine shown12_ok h (fun aΓ1 _ ag3 h => ?_)
  have hl := hl.mono ag3
  have hx := hx.mono ag3
  refine few_ok h hl (fun av6 aΓ7 _ ag9 af10 h => ?_)
  have hl := hl.mono ag9
  have hx := hx.mono ag9
  obtain ⟨laf10, maf10, caf10⟩ := af10.lens
  refine mnN _ _ ?_
  refine ⟨by omega, ?_⟩
  rotate_left
  have hX := (af10.first 16).heads (fun x hx => by have := fewL_small x (List.mem_of_mem_take hx); omega)
  have hXl : ((fewL 20 l).take 16).length ≤ 16 := by rw [List.length_take]; omega
  have hXm : ((fewL 20 l).take 16).length = min 16 (fewL 20 l).length := List.length_take
  generalize (fewL 20 l).take 16 = X at hX hXl hXm
  refine new_ok h hX (by omega) (fun p => ?_) (fun p1 p2 tb b Γ5 _ g5 ht h => ?_)
  · refine brT ?_
    refine brT ?_
    refine brE (fun bb0 => ?_) (fun bb0 => by exfalso; dsimp only [Sl.sub] at bb0; omega)
    refine ⟨_, rfl, ?_⟩
    rotate_left
    exact k _ _ (ag3.trans ag9) h
  · have af10 := af10.mono g5
    have hl := hl.mono g5
    have hx := hx.mono g5
    have hX := hX.mono g5
    refine brF ?_
    refine Games_ok h ht ?_
    refine wr ?_ (by dsimp only [Sl.sub]; omega) (by dsimp only [Sl.sub]; omega)
    refine brN (fun cb1 => by exfalso; dsimp only [Sl.sub] at cb1; omega) (fun cb1 => ?_)
    refine some_ok h hx (fun cv3 _ cp5 h => ?_)
    rotate_left
    have hfl := fewL_len 100 nx
    refine loop (σ := Int) (fun st w' n => ∃ (i : Nat) (Γ' : Mem) (hs : List Hd) (g : Int), st = (i : Int) ∧ i ≤ (fewL 100 nx).length ∧ n = (fewL 100 nx).length - i ∧ Γ5.le Γ' ∧ hs.length = X.length ∧ 0 ≤ g ∧ g ≤ 16 + 5 * (i : Int) ∧
      Sat Γ' (OL eHead TH cv3 (fewL 100 nx) :: TreeP b hs g :: L) w') (fewL 100 nx).length ⟨0, Γ5, X, _, rfl, by omega, by omega, .refl _, rfl, by omega, by omega, h⟩ ?_
    rintro _ w n ⟨i, Γ6, hs, g, rfl, hi, hn, g6, hsl, hg0, hg1, h⟩
    have ht := ht.mono g6
    have hsm : ∀ x ∈ fewL 100 nx, x.1.length ≤ 50 := fewL_small
    have hbest := best_lt (hs := hs) (by omega)
    have hst := steps_small (c := hs.length + best hs) (by omega)
    have af10 := af10.mono g6
    have hl := hl.mono g6
    have hx := hx.mono g6
    have hX := hX.mono g6
    refine brD (fun db0 => ?_) (fun db0 => ?_)
    refine joinI ?_
    refine ⟨by omega, ?_⟩
    refine nnO h .n0 (fun da1 dha1 => ?_)
    refine ldO' h .n0 dha1 (i := i) (fun dx2 de2 dy2 dhy2 => ?_)
    obtain ⟨dy2, dy2b⟩ := dy2
    obtain ⟨dhy2, dhy2b⟩ := dhy2
    have dhy2 : Bytes _ dy2 dx2.1 := dhy2
    have dhy2b : dy2b = dx2.2 := dhy2b
    subst dhy2b
    dsimp only at dhy2b
    dsimp only at dhy2
    obtain ⟨ldhy2, mdhy2, cdhy2⟩ := dhy2.lens
    refine new h fun dr3 _ h => ?_
    refine stNs h .n0 fun _ h => ?_
    refine Games_ok (h.pick .n2) ht ?_
    refine ldA (_, _) h .n0 ?_
    rotate_left
    refine ⟨_, rfl, ?_⟩
    rotate_left
    · have hb := hsm _ (List.mem_of_getElem? de2)
      refine Next_ok (h.pick .n2) ht (by omega) (by omega) hg0 (by omega) dhy2 (by omega) (fun _ ep2 h => ?_) (fun eΓ4 _ ep6 eg7 h => ?_)
      refine Games_ok h ht ?_
      refine wr ?_
      refine brD (fun eb10 => by exfalso; omega) (fun eb10 => ?_)
      refine brD (fun eb11 => by exfalso; omega) (fun eb11 => ?_)
      refine brT ?_
      refine brN (fun eb12 => by exfalso; omega) (fun eb12 => ?_)
      refine wrN (i + 1) ?_
      rotate_left
      have ht := ht.mono eg7
      have af10 := af10.mono eg7
      have hl := hl.mono eg7
      have hx := hx.mono eg7
      have hX := hX.mono eg7
      have dhy2 := dhy2.mono eg7
      refine Games_ok h ht ?_
      refine wr ?_
      refine brD (fun eb14 => by exfalso; omega) (fun eb14 => ?_)
      refine brD (fun eb15 => by exfalso; omega) (fun eb15 => ?_)
      refine brF ?_
      refine wrN (i + 1) ?_
      rotate_left
      · exact ⟨(fewL 100 nx).length - (i + 1), by omega, i + 1, Γ6, hs, g, rfl, by omega, rfl, g6, hsl, hg0, by omega, ((h.pick .n1).drop).pick .n1⟩
      · exact ⟨(fewL 100 nx).length - (i + 1), by omega, i + 1, eΓ4, _, _, rfl, by omega, rfl, g6.trans eg7, by rw [List.length_set]; exact hsl, by omega, by omega, ((h.pick .n1).drop).pick .n1⟩
    · exact k _ _ ((ag3.trans ag9).trans (g5.trans g6)) h.drop.drop

theorem treeGames_walk {H : Type} {enc : TypeId × Value → H} {W : World} {base : Nat} {vs : List Value} {ds : List (DataW H)} {ps : List MemPlace} (hok : ∀ (j : Nat) (t : TypeId) (v : Value), [22, 22][j]? = some t → vs[j]? = some v → Value.okWide Try.prog W .any base t v)
    (hA : DataW.TrodAll enc Try.prog W 0 (fun _ => true) true [22, 22] vs ds ps) : CallP Try.prog 6 vs (.one (.s .bool)) (fun b w' => b = true ∧ Kept W w') W := by
  obtain ⟨v0, vs0, d0, ds0, p0, q0, rfl, rfl, rfl, h0, r0⟩ := trodAll_cons hA
  obtain ⟨v1, vs1, d1, ds1, p1, q1, rfl, rfl, rfl, h1, r1⟩ := trodAll_cons r0
  obtain ⟨rfl, rfl, rfl⟩ := trodAll_nil r1
  obtain ⟨s, l, e0, f0⟩ := argS rHeads (hok 0 _ _ rfl rfl) h0
  obtain ⟨t, m, e1, f1⟩ := argS rHeads (hok 1 _ _ rfl rfl) h1
  cases e0
  cases e1
  exact law_walk fun k => law_games (Sat.start W) f0 f1 k

theorem treeGames_lifted (os : Os) (started : os.Started) (H : Type) (enc : TypeId × Value → H) :
    ReturnsInHanded {} Try.checked os 6 .any (Rows.treeGamesSpec.pre6 enc Try.prog Try.f6 Rows.treeGamesRow.domain false) (Rows.treeGamesSpec.post enc Try.prog Try.f6 false true false false) := by
  have e : Try.f6.params.toList = [22, 22] := by kernel_rfl
  refine law_lifted (s := Rows.treeGamesSpec) started Try.func6 (by kernel_rfl) rfl (fun ds h => ?_) (by kernel_rfl) (fun t ht => ?_)
    (ChangeSpec.witness6 (enc := enc) (C := Try.checked) false ⟨#[], #[.slice none 0 0, .slice none 0 0], []⟩ 8 (by kernel_rfl) (by kernel_rfl) (by kernel_rfl) (by kernel_rfl)) fun W base vs ds ps hok hA => ?_
  · have hl : ds.length = 2 := h
    match ds, hl with
    | [_, _], _ => rfl
  · rw [e] at ht
    have hall : ([22, 22].all fun t => Try.prog.readableRec t && decide (t < Try.prog.types.size)) = true := by kernel_rfl
    simpa using List.all_eq_true.1 hall t ht
  · rw [e] at hA hok
    exact treeGames_walk hok hA

theorem treeGames_facts : joinedFacts Try.pinned.checked.prog 6 Try.f6 Rows.treeGamesSpec Rows.treeGamesRow = true := by
  show joinedFacts Try.prog 6 Try.f6 Rows.treeGamesSpec Rows.treeGamesRow = true
  unfold joinedFacts
  rw [make_, enter_, lifts_]
  kernel_rfl

theorem TreeGames_holds : Rows.TreeGamesSaid :=
  OpenClaim.holds_of_wide 6 Try.f6 rfl rfl rfl rfl rfl rfl rfl ⟨rfl, rfl, rfl, rfl, rfl⟩ rfl rfl rfl rfl rfl (by kernel_rfl) Try.func6 treeGames_facts
    (of_decide_eq_true (by kernel_rfl)) (by unfold Func.isWrapper; first | (rw [if_pos (by decide +kernel)]; kernel_rfl) | (rw [if_neg (by decide +kernel)]; exact ⟨rfl, rfl⟩))
    (fun os started H enc _ => treeGames_lifted os started H enc)


end Go.Proofs.Ytohoimokfgfceaa.K
