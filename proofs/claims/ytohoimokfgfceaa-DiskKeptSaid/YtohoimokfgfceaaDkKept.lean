/-
  DiskKept: what is kept, and whose name is, is there behind any crash, as it was. No condition.
-/
import Derived.Test.YtohoimokfgfceaaDkJ
import Derived.Test.YtohoimokfgfceaaDkZ
namespace Go.Proofs.Ytohoimokfgfceaa.K
open Go Go.Proofs Go.ChangeShapes Go.WideShapes Go.ChangeAt Go.RowKit
variable {Γ Γ' : Mem} {L L' L'' : List HP} {w w' : World} {A B : HP}
set_option maxRecDepth 100000
set_option maxHeartbeats 4000000

theorem law_kept {r : Int} {s t : Sl} {l : List ActM} {wn : Int} {wb : List Int} {K : Bool → World → Prop} (h : Sat Γ L w) (hl : Lst eAct Γ s l) (ht : Lst eInt Γ t wb) (k : ∀ Γ' w', Γ.le Γ' → Sat Γ' L w' → K true w') :
    CallP Try.prog 17 [.int .i64 r, .slice s.p s.len s.cap, .agg #[.int .i64 wn, .slice t.p t.len t.cap]] (.one (.s .bool)) K w := by
  refine callP (fn := Try.f17) [.s (.int .i64 r), .s (.sl s), .agg [.int .i64 wn, .sl t]] (.p .n (.p .n (.p .n (.p .n (.p (.p .n (.b (.l [23, 22, 5, 7, 8] [(24, .s (.int .i64))] .n))) (.p .n (.p .n (.p .n (.p (.p .n (.b (.l [43, 42, 5, 7, 8] [(44, .s (.int .i64))] .n))) (.p .n (.p .n (.j [7, 8, 15] [] .n .n)))))))))))) nong mixed (by kernel_rfl) (by kernel_rfl) rfl rfl ?_
  have hfl := fewA_len l
  obtain ⟨lhl, mhl, chl⟩ := hl.lens
  obtain ⟨lht, mht, cht⟩ := ht.lens
  refine new h fun ar0 _ h => ?_
  refine shown_ok h (fun aΓ2 _ ag4 h => ?_)
  have hl := hl.mono ag4
  have ht := ht.mono ag4
  refine dNew_ok h (fun av7 _ h => ?_)
  refine brF ?_
  refine fewA_ok h hl (fun av11 aΓ12 _ ag14 af15 h => ?_)
  have hl := hl.mono ag14
  have ht := ht.mono ag14
  obtain ⟨laf15, maf15, caf15⟩ := af15.lens
  rotate_left
  refine loop (σ := Int) (fun st w' n => ∃ (i : Nat) (m : DiskM) (Γ' : Mem), st = (i : Int) ∧ i ≤ (fewA l).length ∧ n = (fewA l).length - i ∧ Wf m ∧ m.g ≤ 100 * i ∧ aΓ12.le Γ' ∧
      Sat Γ' (PDisk av7 m :: blk ar0 (.cells #[.int .i64 wn, .slice t.p t.len t.cap] 81 (0, 0)) :: L) w') (fewA l).length
    ⟨0, .new r, aΓ12, rfl, by omega, by omega, .new r, Nat.zero_le _, .refl _, h⟩ ?_
  clear h
  rintro _ w n ⟨i, m, Γ3, rfl, hi, hn, hw, hg, g3, h⟩
  have af16 := af15.mono g3
  have ht3 := ht.mono g3
  by_cases hil : i < (fewA l).length
  · obtain ⟨x, ex⟩ := get_lt hil
    have hx64 := af15.acts x (List.mem_of_getElem? ex)
    have hsx := fewA_small x (List.mem_of_getElem? ex)
    unfold smallA at hsx
    have hw2 := DiskM.act_wf (x := x) hw hx64
    have hg2 := DiskM.act_g (m := m) (x := x)
    have af15 := af15.mono g3
    have hl := hl.mono g3
    have ht := ht.mono g3
    refine brD (fun bb0 => ?_) (fun bb0 => by exfalso; omega)
    refine ⟨by omega, ?_⟩
    refine nnL h af15 (fun ba1 bha1 => ?_)
    refine ldL h af15 bha1 ex (fun by2 bhy2 => ?_)
    obtain ⟨by2s, by2t, bhy2a, bhy2b, bhy2c, bhy2e⟩ := eAct_after bhy2
    subst bhy2e
    obtain ⟨lbhy2a, mbhy2a, cbhy2a⟩ := bhy2a.lens
    obtain ⟨lbhy2b, mbhy2b, cbhy2b⟩ := bhy2b.lens
    refine new h fun br3 _ h => ?_
    refine stNs h .n0 fun _ h => ?_
    refine ldA7 _ _ _ _ _ _ _ h .n0 ?_
    refine actA_ok (h.pick .n1) (by first | omega | decide) bhy2a bhy2b bhy2c (fun bΓ5 _ bg7 h => ?_)
    have af16 := af16.mono bg7
    have ht3 := ht3.mono bg7
    have af15 := af15.mono bg7
    have hl := hl.mono bg7
    have ht := ht.mono bg7
    have bhy2a := bhy2a.mono bg7
    have bhy2b := bhy2b.mono bg7
    refine wrN (i + 1) ?_
    refine ⟨_, (by first | omega | rfl | (dsimp only; omega)), _, _, _, rfl, (by first | omega | rfl | (dsimp only; omega)), rfl, hw2, (by first | omega | rfl | (dsimp only; omega)), (g3.trans bg7), (((h.pick .n1).drop.pick .n1).pick .n1)⟩
  · have hq1 : quiet (m.crash 0 []) := DiskM.crash_quiet
    have hg1 : (m.crash 0 []).g < 1000000000000 := by show m.g < _; omega
    have hsn : (m.crash 0 []).syncNames = (m.crash 0 [], 0) := DiskM.crash_syncNames
    have hcr : (m.crash 0 []).crash wn wb = m.crash 0 [] := DiskM.crash_again
    have hsy : ∀ {x : Str}, x ∈ (m.crash 0 []).now.map Prod.fst → (m.crash 0 []).sync x = (m.crash 0 [], 0) := fun h => DiskM.crash_sync hw h
    have hnl : ((m.crash 0 []).now.map Prod.fst).length ≤ 1000000000000 := by
      rw [List.length_map]
      have := (hw.crash 0 []).nowLen
      omega
    have af15 := af15.mono g3
    have hl := hl.mono g3
    have ht := ht.mono g3
    refine brD (fun cb0 => by exfalso; omega) (fun cb0 => ?_)
    refine dCrash_ok h hg1 (.nil _ _) (fun _ h => ?_)
    refine dNamesQuiet_ok h hq1 hg1 (fun cv5 cΓ6 _ cg8 cf9 h => ?_)
    have af16 := af16.mono cg8
    have ht3 := ht3.mono cg8
    have af15 := af15.mono cg8
    have hl := hl.mono cg8
    have ht := ht.mono cg8
    obtain ⟨lcf9, mcf9, ccf9⟩ := cf9.lens
    refine brF ?_
    rotate_left
    refine loop (σ := Int) (fun st w' n => ∃ (i : Nat) (Γ' : Mem), st = (i : Int) ∧ i ≤ ((m.crash 0 []).now.map Prod.fst).length ∧ n = ((m.crash 0 []).now.map Prod.fst).length - i ∧ cΓ6.le Γ' ∧
      Sat Γ' (PDisk av7 (m.crash 0 []) :: blk ar0 (.cells #[.int .i64 wn, .slice t.p t.len t.cap] 81 (0, 0)) :: L) w') ((m.crash 0 []).now.map Prod.fst).length ⟨0, cΓ6, rfl, by omega, by omega, .refl _, h⟩ ?_
    clear h
    rintro _ w n ⟨i, Γ4, rfl, hi, hn, g4, h⟩
    have cf10 := cf9.mono g4
    have ht4 := ht3.mono g4
    by_cases hil : i < ((m.crash 0 []).now.map Prod.fst).length
    · obtain ⟨x, ex⟩ := get_lt hil
      have hsx := hsy (List.mem_of_getElem? ex)
      have cf9 := cf9.mono g4
      have af16 := af16.mono g4
      have ht3 := ht3.mono g4
      have af15 := af15.mono g4
      have hl := hl.mono g4
      have ht := ht.mono g4
      refine brD (fun db0 => ?_) (fun db0 => ?_)
      dsimp only at db0
      refine ⟨by dsimp only; omega, ?_⟩
      refine nnL h cf9 (fun da1 dha1 => ?_)
      dsimp only at dha1
      refine ldL h cf9 dha1 ex (fun dy2 dhy2 => ?_)
      have dhy2 : dy2 = str x := dhy2
      subst dhy2
      refine dSyncSame_ok h hsx (fun _ h => ?_)
      refine brF ?_
      refine wrN (i + 1) ?_
      refine ⟨_, (by first | omega | rfl | (dsimp only; omega)), _, _, rfl, (by first | omega | rfl | (dsimp only; omega)), rfl, g4, ((h.pick .n1).pick .n1)⟩
      dsimp only at db0
      refine dSyncNamesSame_ok h hg1 hsn (fun _ h => ?_)
      refine brF ?_
      refine dClone_ok h hg1 (fun dv10 _ h => ?_)
      refine joinI ?_
      refine brF ?_
      refine ldA2 _ _ h .n2 ?_
      refine dCrash_ok h hg1 ht (fun _ h => ?_)
      refine brF ?_
      refine brT ?_
      refine alike_ok (h.pick .n1) hq1 hq1 hg1 hg1 (by first | omega | rfl) (fun dv17 dp18 => ?_) (fun dΓ19 _ dg21 h => ?_)
      (exfalso; omega)
      have cf10 := cf10.mono dg21
      have ht4 := ht4.mono dg21
      have cf9 := cf9.mono dg21
      have af16 := af16.mono dg21
      have ht3 := ht3.mono dg21
      have af15 := af15.mono dg21
      have hl := hl.mono dg21
      have ht := ht.mono dg21
      refine brT ?_
      refine dUsedD_ok h hg1 (fun _ h => ?_)
      refine dUsedD_ok (h.pick .n1) hg1 (fun _ h => ?_)
      refine ⟨_, rfl, ?_⟩
      refine kDec (fun db29 => ?_) (fun db29 => ?_)
      dsimp only at db29
      refine k _ _ (ag4.trans (ag14.trans (g3.trans (cg8.trans (g4.trans dg21))))) h.drop.drop.drop
      dsimp only at db29
      (exfalso; omega)
    · have hq2 : quiet ((m.crash 0 []).crash wn wb) := DiskM.crash_quiet
      have hg2 : ((m.crash 0 []).crash wn wb).g < 1000000000000 := by show m.g < _; omega
      have hn1 : (m.crash 0 []).now.map Prod.fst = ((m.crash 0 []).crash wn wb).now.map Prod.fst := by rw [hcr]
      have hr1 : ∀ s ∈ ((m.crash 0 []).crash wn wb).now.map Prod.fst, ((m.crash 0 []).read s).2 = (((m.crash 0 []).crash wn wb).read s).2 := fun s _ => by rw [hcr]
      have hu1 : (m.crash 0 []).used = ((m.crash 0 []).crash wn wb).used := by rw [hcr]
      have cf9 := cf9.mono g4
      have af16 := af16.mono g4
      have ht3 := ht3.mono g4
      have af15 := af15.mono g4
      have hl := hl.mono g4
      have ht := ht.mono g4
      refine brD (fun eb0 => ?_) (fun eb0 => ?_)
      dsimp only at eb0
      refine ⟨by omega, ?_⟩
      refine nnL h cf9 (fun ea1 eha1 => ?_)
      dsimp only at eha1
      refine ldL' h cf9 eha1 (i := i) (fun ex2 ee2 ey2 ehy2 => ?_)
      have ehy2 : ey2 = str ex2 := ehy2
      subst ehy2
      refine dSyncSame_ok h (by first | omega | rfl) (fun _ h => ?_)
      refine brF ?_
      refine wrN (i + 1) ?_
      refine ⟨_, (by first | omega | rfl | (dsimp only; omega)), _, _, rfl, (by first | omega | rfl | (dsimp only; omega)), rfl, g4, ((h.pick .n1).pick .n1)⟩
      dsimp only at eb0
      refine dSyncNamesSame_ok h hg2 hsn (fun _ h => ?_)
      refine brF ?_
      refine dClone_ok h hg2 (fun ev10 _ h => ?_)
      refine joinI ?_
      refine brF ?_
      refine ldA2 _ _ h .n2 ?_
      refine dCrash_ok h hg2 ht (fun _ h => ?_)
      refine brF ?_
      refine brT ?_
      refine alike_ok (h.pick .n1) hq2 hq2 hg2 hg2 hn1 hr1 (fun eΓ17 _ eg19 h => ?_)
      have cf10 := cf10.mono eg19
      have ht4 := ht4.mono eg19
      have cf9 := cf9.mono eg19
      have af16 := af16.mono eg19
      have ht3 := ht3.mono eg19
      have af15 := af15.mono eg19
      have hl := hl.mono eg19
      have ht := ht.mono eg19
      refine brT ?_
      refine dUsedD_ok h hg2 (fun _ h => ?_)
      refine dUsedD_ok (h.pick .n1) hg2 (fun _ h => ?_)
      refine ⟨_, rfl, ?_⟩
      refine kDec (fun eb27 => ?_) (fun eb27 => ?_)
      dsimp only at eb27
      refine k _ _ (ag4.trans (ag14.trans (g3.trans (cg8.trans (g4.trans eg19))))) h.drop.drop.drop
      dsimp only at eb27
      (exfalso; omega)

theorem diskKept_walk {H : Type} {enc : TypeId × Value → H} {W : World} {base : Nat} {vs : List Value} {ds : List (DataW H)} {ps : List MemPlace} (hok : ∀ (j : Nat) (t : TypeId) (v : Value), [3, 78, 81][j]? = some t → vs[j]? = some v → Value.okWide Try.prog W .any base t v)
    (hA : DataW.TrodAll enc Try.prog W 0 (fun _ => true) true [3, 78, 81] vs ds ps) : CallP Try.prog 17 vs (.one (.s .bool)) (fun b w' => b = true ∧ Kept W w') W := by
  obtain ⟨v0, vs0, d0, ds0, p0, q0, rfl, rfl, rfl, h0, r0⟩ := trodAll_cons hA
  obtain ⟨v1, vs1, d1, ds1, p1, q1, rfl, rfl, rfl, h1, r1⟩ := trodAll_cons r0
  obtain ⟨v2, vs2, d2, ds2, p2, q2, rfl, rfl, rfl, h2, r2⟩ := trodAll_cons r1
  obtain ⟨rfl, rfl, rfl⟩ := trodAll_nil r2
  obtain ⟨y0, x0, e0, f0⟩ := argS rInt (hok 0 _ _ rfl rfl) h0
  obtain ⟨y1, x1, e1, f1⟩ := argS rActs (hok 1 _ _ rfl rfl) h1
  obtain ⟨⟨n2, t2⟩, ⟨m2, x2⟩, e2, f2⟩ := argA rWreck (hok 2 _ _ rfl rfl) h2
  cases e0
  cases e1
  subst e2
  exact law_walk fun k => law_kept (Sat.start W) f1 f2.2 k

theorem diskKept_lifted (os : Os) (started : os.Started) (H : Type) (enc : TypeId × Value → H) :
    ReturnsInHanded {} Try.checked os 17 .any (Rows.diskKeptSpec.pre6 enc Try.prog Try.f17 Rows.diskKeptRow.domain false) (Rows.diskKeptSpec.post enc Try.prog Try.f17 false true false false) := by
  have e : Try.f17.params.toList = [3, 78, 81] := by kernel_rfl
  refine law_lifted (s := Rows.diskKeptSpec) started Try.func17 (by kernel_rfl) rfl (fun ds h => ?_) (by kernel_rfl) (fun t ht => ?_)
    (ChangeSpec.witness6 (enc := enc) (C := Try.checked) false ⟨#[], #[.int .i64 0, .slice none 0 0, .agg #[.int .i64 0, .slice none 0 0]], []⟩ 8 (by kernel_rfl) (by kernel_rfl) (by kernel_rfl) (by kernel_rfl)) fun W base vs ds ps hok hA => ?_
  · have hl : ds.length = 3 := h
    match ds, hl with
    | [_, _, _], _ => rfl
  · rw [e] at ht
    have hall : ([3, 78, 81].all fun t => Try.prog.readableRec t && decide (t < Try.prog.types.size)) = true := by kernel_rfl
    simpa using List.all_eq_true.1 hall t ht
  · rw [e] at hA hok
    exact diskKept_walk hok hA

theorem diskKept_facts : joinedFacts Try.pinned.checked.prog 17 Try.f17 Rows.diskKeptSpec Rows.diskKeptRow = true := by
  show joinedFacts Try.prog 17 Try.f17 Rows.diskKeptSpec Rows.diskKeptRow = true
  unfold joinedFacts
  rw [make_, enter_, lifts_]
  kernel_rfl

theorem DiskKept_holds : Rows.DiskKeptSaid :=
  OpenClaim.holds_of_wide 17 Try.f17 rfl rfl rfl rfl rfl rfl rfl ⟨rfl, rfl, rfl, rfl, rfl⟩ rfl rfl rfl rfl rfl (by kernel_rfl) Try.func17 diskKept_facts
    (of_decide_eq_true (by kernel_rfl)) (by unfold Func.isWrapper; first | (rw [if_pos (by decide +kernel)]; kernel_rfl) | (rw [if_neg (by decide +kernel)]; exact ⟨rfl, rfl⟩))
    (fun os started H enc _ => diskKept_lifted os started H enc)


end Go.Proofs.Ytohoimokfgfceaa.K
