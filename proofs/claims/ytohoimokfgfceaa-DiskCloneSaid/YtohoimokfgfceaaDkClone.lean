/-
  DiskClone: what is done on a Clone changes nothing of the disk, as it is, and behind a crash. No condition.
-/
import Derived.Test.YtohoimokfgfceaaDkJ
import Derived.Test.YtohoimokfgfceaaDkZ
namespace Go.Proofs.Ytohoimokfgfceaa.K
open Go Go.Proofs Go.ChangeShapes Go.WideShapes Go.ChangeAt Go.RowKit
variable {Γ Γ' : Mem} {L L' L'' : List HP} {w w' : World} {A B : HP}
set_option maxRecDepth 100000
set_option maxHeartbeats 4000000

theorem law_clone {r : Int} {s s2 t : Sl} {l l2 : List ActM} {wn : Int} {wb : List Int} {K : Bool → World → Prop} (h : Sat Γ L w) (hl : Lst eAct Γ s l) (hl2 : Lst eAct Γ s2 l2) (ht : Lst eInt Γ t wb) (k : ∀ Γ' w', Γ.le Γ' → Sat Γ' L w' → K true w') :
    CallP Try.prog 19 [.int .i64 r, .slice s.p s.len s.cap, .slice s2.p s2.len s2.cap, .agg #[.int .i64 wn, .slice t.p t.len t.cap]] (.one (.s .bool)) K w := by
  refine callP (fn := Try.f19) [.s (.int .i64 r), .s (.sl s), .s (.sl s2), .agg [.int .i64 wn, .sl t]] (.p .n (.p .n (.p .n (.j [1, 2, 7, 9, 10, 11] [] .n (.p (.p .n (.b (.l [30, 29, 2, 7, 9, 10, 11] [(31, .s (.int .i64))] .n))) (.p .n (.p (.p .n (.b (.l [46, 45, 7, 9, 14, 10, 11] [(47, .s (.int .i64))] .n))) .n))))))) nong mixed (by kernel_rfl) (by kernel_rfl) rfl rfl ?_
  have hfl := fewA_len l
  have hfl2 := fewA_len l2
  obtain ⟨lhl, mhl, chl⟩ := hl.lens
  obtain ⟨lhl2, mhl2, chl2⟩ := hl2.lens
  obtain ⟨lht, mht, cht⟩ := ht.lens
  refine new h fun ar0 _ h => ?_
  refine shown_ok h (fun aΓ2 _ ag4 h => ?_)
  have hl := hl.mono ag4
  have hl2 := hl2.mono ag4
  have ht := ht.mono ag4
  refine dNew_ok h (fun av7 _ h => ?_)
  refine dNew_ok h (fun av11 _ h => ?_)
  refine joinI ?_
  refine brF ?_
  refine brF ?_
  refine fewA_ok h hl (fun av15 aΓ16 _ ag18 af19 h => ?_)
  have hl := hl.mono ag18
  have hl2 := hl2.mono ag18
  have ht := ht.mono ag18
  obtain ⟨laf19, maf19, caf19⟩ := af19.lens
  rotate_left
  refine loop (σ := Int) (fun st w' n => ∃ (i : Nat) (m : DiskM) (Γ' : Mem), st = (i : Int) ∧ i ≤ (fewA l).length ∧ n = (fewA l).length - i ∧ Wf m ∧ m.g ≤ 100 * i ∧ aΓ16.le Γ' ∧
      Sat Γ' (PDisk av11 m :: PDisk av7 m :: blk ar0 (.cells #[.int .i64 wn, .slice t.p t.len t.cap] 81 (0, 0)) :: L) w') (fewA l).length
    ⟨0, .new r, aΓ16, rfl, by omega, by omega, .new r, Nat.zero_le _, .refl _, h⟩ ?_
  clear h
  rintro _ w n ⟨i, m, Γ3, rfl, hi, hn, hw, hg, g3, h⟩
  have af20 := af19.mono g3
  have hl3 := hl2.mono g3
  have ht3 := ht.mono g3
  by_cases hil : i < (fewA l).length
  · obtain ⟨x, ex⟩ := get_lt hil
    have hx64 := af19.acts x (List.mem_of_getElem? ex)
    have hsx := fewA_small x (List.mem_of_getElem? ex)
    unfold smallA at hsx
    have hw2 := DiskM.act_wf (x := x) hw hx64
    have hg2 := DiskM.act_g (m := m) (x := x)
    have af19 := af19.mono g3
    have hl := hl.mono g3
    have hl2 := hl2.mono g3
    have ht := ht.mono g3
    refine brD (fun bb0 => ?_) (fun bb0 => by exfalso; omega)
    refine ⟨by omega, ?_⟩
    refine nnL h af19 (fun ba1 bha1 => ?_)
    refine ldL h af19 bha1 ex (fun by2 bhy2 => ?_)
    obtain ⟨by2s, by2t, bhy2a, bhy2b, bhy2c, bhy2e⟩ := eAct_after bhy2
    subst bhy2e
    obtain ⟨lbhy2a, mbhy2a, cbhy2a⟩ := bhy2a.lens
    obtain ⟨lbhy2b, mbhy2b, cbhy2b⟩ := bhy2b.lens
    refine new h fun br3 _ h => ?_
    refine stNs h .n0 fun _ h => ?_
    refine ldA7 _ _ _ _ _ _ _ h .n0 ?_
    refine actA_ok (h.pick .n2) (by first | omega | decide) bhy2a bhy2b bhy2c (fun bΓ5 _ bg7 h => ?_)
    have af20 := af20.mono bg7
    have hl3 := hl3.mono bg7
    have ht3 := ht3.mono bg7
    have af19 := af19.mono bg7
    have hl := hl.mono bg7
    have hl2 := hl2.mono bg7
    have ht := ht.mono bg7
    have bhy2a := bhy2a.mono bg7
    have bhy2b := bhy2b.mono bg7
    refine ldA7 _ _ _ _ _ _ _ h .n1 ?_
    refine actA_ok (h.pick .n2) (by first | omega | decide) bhy2a bhy2b bhy2c (fun bΓ10 _ bg12 h => ?_)
    have af20 := af20.mono bg12
    have hl3 := hl3.mono bg12
    have ht3 := ht3.mono bg12
    have af19 := af19.mono bg12
    have hl := hl.mono bg12
    have hl2 := hl2.mono bg12
    have ht := ht.mono bg12
    have bhy2a := bhy2a.mono bg12
    have bhy2b := bhy2b.mono bg12
    refine wrN (i + 1) ?_
    refine ⟨_, (by first | omega | rfl | (dsimp only; omega)), _, _, _, rfl, (by first | omega | rfl | (dsimp only; omega)), rfl, hw2, (by first | omega | rfl | (dsimp only; omega)), (g3.trans (bg7.trans bg12)), ((((h.pick .n2).drop.pick .n2).pick .n2).pick .n2)⟩
  · have af19 := af19.mono g3
    have hl := hl.mono g3
    have hl2 := hl2.mono g3
    have ht := ht.mono g3
    refine brD (fun cb0 => by exfalso; omega) (fun cb0 => ?_)
    refine dClone_ok (h.pick .n1) (by first | omega | decide) (fun cv2 _ h => ?_)
    refine fewA_ok h hl2 (fun cv6 cΓ7 _ cg9 cf10 h => ?_)
    have af20 := af20.mono cg9
    have hl3 := hl3.mono cg9
    have ht3 := ht3.mono cg9
    have af19 := af19.mono cg9
    have hl := hl.mono cg9
    have hl2 := hl2.mono cg9
    have ht := ht.mono cg9
    obtain ⟨lcf10, mcf10, ccf10⟩ := cf10.lens
    rotate_left
    refine loop (σ := Int) (fun st w' n => ∃ (i : Nat) (my : DiskM) (Γ' : Mem), st = (i : Int) ∧ i ≤ (fewA l2).length ∧ n = (fewA l2).length - i ∧ Wf my ∧ my.g ≤ 100 * (i + 100) ∧ cΓ7.le Γ' ∧
        Sat Γ' (PDisk cv2 my :: PDisk av7 m :: PDisk av11 m :: blk ar0 (.cells #[.int .i64 wn, .slice t.p t.len t.cap] 81 (0, 0)) :: L) w') (fewA l2).length
      ⟨0, m, cΓ7, rfl, by omega, by omega, hw, by omega, .refl _, h⟩ ?_
    clear h
    rintro _ w n ⟨i, my, Γ4, rfl, hi, hn, hwy, hgy, g4, h⟩
    have cf11 := cf10.mono g4
    have ht4 := ht3.mono g4
    by_cases hil2 : i < (fewA l2).length
    · obtain ⟨x, ex⟩ := get_lt hil2
      have hx64 := cf10.acts x (List.mem_of_getElem? ex)
      have hsx := fewA_small x (List.mem_of_getElem? ex)
      unfold smallA at hsx
      have hw2 := DiskM.act_wf (x := x) hwy hx64
      have hg2 := DiskM.act_g (m := my) (x := x)
      have cf10 := cf10.mono g4
      have af20 := af20.mono g4
      have hl3 := hl3.mono g4
      have ht3 := ht3.mono g4
      have af19 := af19.mono g4
      have hl := hl.mono g4
      have hl2 := hl2.mono g4
      have ht := ht.mono g4
      refine brD (fun db0 => ?_) (fun db0 => by exfalso; omega)
      refine ⟨by omega, ?_⟩
      refine nnL h cf10 (fun da1 dha1 => ?_)
      refine ldL h cf10 dha1 ex (fun dy2 dhy2 => ?_)
      obtain ⟨dy2s, dy2t, dhy2a, dhy2b, dhy2c, dhy2e⟩ := eAct_after dhy2
      subst dhy2e
      obtain ⟨ldhy2a, mdhy2a, cdhy2a⟩ := dhy2a.lens
      obtain ⟨ldhy2b, mdhy2b, cdhy2b⟩ := dhy2b.lens
      refine new h fun dr3 _ h => ?_
      refine stNs h .n0 fun _ h => ?_
      refine ldA7 _ _ _ _ _ _ _ h .n0 ?_
      refine actA_ok (h.pick .n1) (by first | omega | decide) dhy2a dhy2b dhy2c (fun dΓ5 _ dg7 h => ?_)
      have cf11 := cf11.mono dg7
      have ht4 := ht4.mono dg7
      have cf10 := cf10.mono dg7
      have af20 := af20.mono dg7
      have hl3 := hl3.mono dg7
      have ht3 := ht3.mono dg7
      have af19 := af19.mono dg7
      have hl := hl.mono dg7
      have hl2 := hl2.mono dg7
      have ht := ht.mono dg7
      have dhy2a := dhy2a.mono dg7
      have dhy2b := dhy2b.mono dg7
      refine wrN (i + 1) ?_
      refine ⟨_, (by first | omega | rfl | (dsimp only; omega)), _, _, _, rfl, (by first | omega | rfl | (dsimp only; omega)), rfl, hw2, (by first | omega | rfl | (dsimp only; omega)), (g4.trans dg7), (((((h.pick .n1).drop.pick .n3).pick .n3).pick .n3).pick .n3)⟩
    · have hgm : m.g < 1000000000000 := by omega
      have hq2 : quiet (m.crash wn wb) := DiskM.crash_quiet
      have hg2 : (m.crash wn wb).g < 1000000000000 := by show m.g < _; omega
      have hn1 : (m.crash wn wb).now.map Prod.fst = (m.crash wn wb).now.map Prod.fst := rfl
      have hr1 : ∀ s ∈ (m.crash wn wb).now.map Prod.fst, ((m.crash wn wb).read s).2 = ((m.crash wn wb).read s).2 := fun s _ => rfl
      have cf10 := cf10.mono g4
      have af20 := af20.mono g4
      have hl3 := hl3.mono g4
      have ht3 := ht3.mono g4
      have af19 := af19.mono g4
      have hl := hl.mono g4
      have hl2 := hl2.mono g4
      have ht := ht.mono g4
      refine brD (fun eb0 => by exfalso; omega) (fun eb0 => ?_)
      refine dUsedD_ok (h.pick .n1) hg2 (fun _ h => ?_)
      refine dUsedD_ok (h.pick .n2) hg2 (fun _ h => ?_)
      refine brN (fun eb7 => by exfalso; omega) (fun eb7 => ?_)
      refine ldA2 _ _ h .n3 ?_
      refine dCrash_ok (h.pick .n1) hg2 ht (fun _ h => ?_)
      refine ldA2 _ _ h .n3 ?_
      refine dCrash_ok (h.pick .n1) hg2 ht (fun _ h => ?_)
      refine brT ?_
      refine brT ?_
      refine alike_ok (h.pick .n1) hq2 hq2 hg2 hg2 hn1 hr1 (fun eΓ15 _ eg17 h => ?_)
      have cf11 := cf11.mono eg17
      have ht4 := ht4.mono eg17
      have cf10 := cf10.mono eg17
      have af20 := af20.mono eg17
      have hl3 := hl3.mono eg17
      have ht3 := ht3.mono eg17
      have af19 := af19.mono eg17
      have hl := hl.mono eg17
      have hl2 := hl2.mono eg17
      have ht := ht.mono eg17
      refine ⟨_, rfl, ?_⟩
      refine k _ _ (ag4.trans (ag18.trans (g3.trans (cg9.trans (g4.trans eg17))))) h.drop.drop.drop.drop

theorem diskClone_walk {H : Type} {enc : TypeId × Value → H} {W : World} {base : Nat} {vs : List Value} {ds : List (DataW H)} {ps : List MemPlace} (hok : ∀ (j : Nat) (t : TypeId) (v : Value), [3, 78, 78, 81][j]? = some t → vs[j]? = some v → Value.okWide Try.prog W .any base t v)
    (hA : DataW.TrodAll enc Try.prog W 0 (fun _ => true) true [3, 78, 78, 81] vs ds ps) : CallP Try.prog 19 vs (.one (.s .bool)) (fun b w' => b = true ∧ Kept W w') W := by
  obtain ⟨v0, vs0, d0, ds0, p0, q0, rfl, rfl, rfl, h0, r0⟩ := trodAll_cons hA
  obtain ⟨v1, vs1, d1, ds1, p1, q1, rfl, rfl, rfl, h1, r1⟩ := trodAll_cons r0
  obtain ⟨v2, vs2, d2, ds2, p2, q2, rfl, rfl, rfl, h2, r2⟩ := trodAll_cons r1
  obtain ⟨v3, vs3, d3, ds3, p3, q3, rfl, rfl, rfl, h3, r3⟩ := trodAll_cons r2
  obtain ⟨rfl, rfl, rfl⟩ := trodAll_nil r3
  obtain ⟨y0, x0, e0, f0⟩ := argS rInt (hok 0 _ _ rfl rfl) h0
  obtain ⟨y1, x1, e1, f1⟩ := argS rActs (hok 1 _ _ rfl rfl) h1
  obtain ⟨y2, x2, e2, f2⟩ := argS rActs (hok 2 _ _ rfl rfl) h2
  obtain ⟨⟨n3, t3⟩, ⟨m3, x3⟩, e3, f3⟩ := argA rWreck (hok 3 _ _ rfl rfl) h3
  cases e0
  cases e1
  cases e2
  subst e3
  exact law_walk fun k => law_clone (Sat.start W) f1 f2 f3.2 k

theorem diskClone_lifted (os : Os) (started : os.Started) (H : Type) (enc : TypeId × Value → H) :
    ReturnsInHanded {} Try.checked os 19 .any (Rows.diskCloneSpec.pre6 enc Try.prog Try.f19 Rows.diskCloneRow.domain false) (Rows.diskCloneSpec.post enc Try.prog Try.f19 false true false false) := by
  have e : Try.f19.params.toList = [3, 78, 78, 81] := by kernel_rfl
  refine law_lifted (s := Rows.diskCloneSpec) started Try.func19 (by kernel_rfl) rfl (fun ds h => ?_) (by kernel_rfl) (fun t ht => ?_)
    (ChangeSpec.witness6 (enc := enc) (C := Try.checked) false ⟨#[], #[.int .i64 0, .slice none 0 0, .slice none 0 0, .agg #[.int .i64 0, .slice none 0 0]], []⟩ 8 (by kernel_rfl) (by kernel_rfl) (by kernel_rfl) (by kernel_rfl)) fun W base vs ds ps hok hA => ?_
  · have hl : ds.length = 4 := h
    match ds, hl with
    | [_, _, _, _], _ => rfl
  · rw [e] at ht
    have hall : ([3, 78, 78, 81].all fun t => Try.prog.readableRec t && decide (t < Try.prog.types.size)) = true := by kernel_rfl
    simpa using List.all_eq_true.1 hall t ht
  · rw [e] at hA hok
    exact diskClone_walk hok hA

theorem diskClone_facts : joinedFacts Try.pinned.checked.prog 19 Try.f19 Rows.diskCloneSpec Rows.diskCloneRow = true := by
  show joinedFacts Try.prog 19 Try.f19 Rows.diskCloneSpec Rows.diskCloneRow = true
  unfold joinedFacts
  rw [make_, enter_, lifts_]
  kernel_rfl

theorem DiskClone_holds : Rows.DiskCloneSaid :=
  OpenClaim.holds_of_wide 19 Try.f19 rfl rfl rfl rfl rfl rfl rfl ⟨rfl, rfl, rfl, rfl, rfl⟩ rfl rfl rfl rfl rfl (by kernel_rfl) Try.func19 diskClone_facts
    (of_decide_eq_true (by kernel_rfl)) (by unfold Func.isWrapper; first | (rw [if_pos (by decide +kernel)]; kernel_rfl) | (rw [if_neg (by decide +kernel)]; exact ⟨rfl, rfl⟩))
    (fun os started H enc _ => diskClone_lifted os started H enc)


end Go.Proofs.Ytohoimokfgfceaa.K
