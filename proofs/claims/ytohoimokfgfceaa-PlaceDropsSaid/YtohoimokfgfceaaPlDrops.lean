/-
  PlaceDrops: what was let go of is no more, whatever crash comes; all else is as it was. No condition.
-/
import Derived.Test.YtohoimokfgfceaaPlK
namespace Go.Proofs.Ytohoimokfgfceaa.K
open Go Go.Proofs Go.ChangeShapes Go.WideShapes Go.ChangeAt Go.RowKit
variable {Γ Γ' : Mem} {L L' L'' : List HP} {w w' : World} {A B : HP}
set_option maxRecDepth 100000
set_option maxHeartbeats 4000000

theorem law_pdrops {r : Int} {s t u : Sl} {gone : List Str} {l : List ActP} {wn : Int} {wb : List Int} {K : Bool → World → Prop} (h : Sat Γ L w) (hl : Lst eActP Γ s l) (hb : Lst eStr Γ u gone) (ht : Lst eInt Γ t wb) (k : ∀ Γ' w', Γ.le Γ' → Sat Γ' L w' → K true w') :
    CallP Try.prog 26 [.int .i64 r, .slice s.p s.len s.cap, .slice u.p u.len u.cap, .agg #[.int .i64 wn, .slice t.p t.len t.cap]] (.one (.s .bool)) K w := by
  refine callP (fn := Try.f26) [.s (.int .i64 r), .s (.sl s), .s (.sl u), .agg [.int .i64 wn, .sl t]] (.p .n (.p .n (.p .n (.p .n (.j [7, 10, 11, 9] [] .n (.p (.p .n (.b (.l [42, 41, 7, 10, 11, 9] [(43, .s (.int .i64))] .n))) (.p .n (.j [10, 14, 11, 9] [] .n (.p (.p .n (.b (.l [69, 10, 14, 11, 68, 9] [(70, .s (.int .i64))] (.p .n (.p .n (.p (.k [70, 69, 10, 14, 11, 68, 9] [] (.p .n (.p .n (.p (.p .n (.b (.l [75, 74, 16, 70, 69, 10, 14, 11, 68, 9] [(17, .s .bool), (76, .s (.int .i64))] (.p .n (.p .n (.p (.k [76, 75, 74, 16, 70, 69, 10, 14, 11, 68, 9] [(17, .s .bool)] .n) .n)))))) .n)))) .n)))))) .n))))))))) nong mixed (by kernel_rfl) (by kernel_rfl) rfl rfl ?_
  obtain ⟨lhl, mhl, chl⟩ := hl.lens
  obtain ⟨lhb, mhb, chb⟩ := hb.lens
  obtain ⟨lht, mht, cht⟩ := ht.lens
  refine new h fun ar0 _ h => ?_
  have h := h.asA (B := blk ar0 (.cells #[Value.int IntKind.i64 wn, Value.slice t.p t.len t.cap] 81 (0, 0))) (by kernel_rfl)
  refine shownP_ok h (fun aΓ2 _ ag4 h => ?_)
  have hl := hl.mono ag4
  have hb := hb.mono ag4
  have ht := ht.mono ag4
  refine madeP_ok h hl (fun av7 av8 aΓ9 _ ag11 ap12 ap13 ap14 h => ?_)
  have hl := hl.mono ag11
  have hb := hb.mono ag11
  have ht := ht.mono ag11
  refine mnN _ _ ?_
  refine ⟨by omega, ?_⟩
  refine joinI ?_
  refine brF ?_
  refine dSyncNamesQuietG_ok h ap12 (by first | omega | (dsimp only; omega) | decide) (fun _ ap18 ap19 ap20 h => ?_)
  refine brF ?_
  refine namesP_ok h ap18 (by first | omega | (dsimp only; omega) | decide) (fun av23 aΓ24 _ ag26 af27 h => ?_)
  have hl := hl.mono ag26
  have hb := hb.mono ag26
  have ht := ht.mono ag26
  obtain ⟨laf27, maf27, caf27⟩ := af27.lens
  rotate_left
  refine loop (σ := Int) (fun st w' c => ∃ (i : Nat) (m : DiskM) (Γ' : Mem), st = (i : Int) ∧ i ≤ (av8.syncNames.1.now.map Prod.fst).length ∧ c = (av8.syncNames.1.now.map Prod.fst).length - i ∧ DiskM.Syn (av8.syncNames.1.now.map Prod.fst) i m ∧ m.g ≤ 80000 ∧ aΓ24.le Γ' ∧
      Sat Γ' (PDisk av7 m :: blk ar0 (.cells #[.int .i64 wn, .slice t.p t.len t.cap] 81 (0, 0)) :: L) w') (av8.syncNames.1.now.map Prod.fst).length
    ⟨0, av8.syncNames.1, aΓ24, rfl, by omega, by omega, ap20, by omega, .refl _, h⟩ ?_
  clear h
  rintro _ w c ⟨i, m, Γ3, rfl, hi, hc, hS, hg, g3, h⟩
  have af27 := af27.mono g3
  have hb3 := hb.mono g3
  have ht3 := ht.mono g3
  by_cases hil : i < (av8.syncNames.1.now.map Prod.fst).length
  · obtain ⟨x, ex⟩ := get_lt hil
    have hst := hS.step ex
    have hsg := sync_g m x
    have hl := hl.mono g3
    have hb := hb.mono g3
    have ht := ht.mono g3
    refine brD (fun bb0 => ?_) (fun bb0 => by exfalso; omega)
    refine ⟨by omega, ?_⟩
    refine nnL h af27 (fun ba1 bha1 => ?_)
    refine ldL h af27 bha1 ex (fun by2 bhy2 => ?_)
    have bhy2 : by2 = str x := bhy2
    subst bhy2
    refine dSync_ok h (fun _ h => ?_)
    refine wrN (i + 1) ?_
    refine ⟨_, (by first | omega | rfl | (dsimp only; omega)), _, _, _, rfl, (by first | omega | rfl | (dsimp only; omega)), rfl, hst, (by first | omega | rfl | (dsimp only; omega)), g3, ((h.pick .n1).pick .n1)⟩
  · have hin : i = (av8.syncNames.1.now.map Prod.fst).length := by omega
    rw [hin] at hS
    have hf := hS.firm
    have hq := hS.q
    have hsub := hb3.sub (l := 0) (n := min u.len 10) (Nat.zero_le _) (by omega)
    have e0 : (gone.drop 0).take (min u.len 10 - 0) = gone.take 10 := by
      rw [List.drop_zero, Nat.sub_zero, lhb]
      by_cases h3 : gone.length ≤ 10
      · rw [Nat.min_eq_left h3, List.take_of_length_le (Nat.le_refl _), List.take_of_length_le h3]
      · rw [Nat.min_eq_right (by omega)]
    rw [e0] at hsub
    have hxl : (gone.take 10).length ≤ 10 := by rw [List.length_take]; omega
    have hxn : (gone.take 10).length = min u.len 10 := by rw [List.length_take]; omega
    generalize gone.take 10 = x at hsub hxl hxn
    obtain ⟨hp0, hpq, hpf, hpc⟩ := DiskM.dropF_quiet x false m hq hf.wf hf.all (fun _ => hf.ch)
    have hp0 : (dropM m x).2 = 0 := hp0
    have hpg : (dropM m x).1.g ≤ m.g + x.length := (stepDropF x false).g m
    have hq2 : quiet ((dropM m x).1.crash wn wb) := DiskM.crash_quiet
    have hg2 : ((dropM m x).1.crash wn wb).g = (dropM m x).1.g := rfl
    have hno : ∀ s ∈ m.now.map Prod.fst, (m.read s).2.2 = 0 ∧ (((dropM m x).1.crash wn wb).read s).2 = if s ∈ x then ([], 2) else (m.read s).2 := fun s hs => by
      rw [DiskM.quiet_cont hq]
      refine ⟨DiskM.cont_there hs, ?_⟩
      have h1 : (((dropM m x).1.crash wn wb).read s).2 = DiskM.cont (dropM m x).1 s := hpf.see
      rw [h1]
      exact hpc s
    clear hpc hpf
    have hl := hl.mono g3
    have hb := hb.mono g3
    have ht := ht.mono g3
    refine brD (fun cb0 => by exfalso; omega) (fun cb0 => ?_)
    refine dClone_ok h (by first | omega | (dsimp only; omega) | decide) (fun cv2 _ h => ?_)
    refine joinI ?_
    refine brF ?_
    refine dDrop_ok (h.pick .n1) hsub (by first | omega | (dsimp only; omega) | decide) (fun cΓ6 _ cg8 h => ?_)
    have af27 := af27.mono cg8
    have hb3 := hb3.mono cg8
    have ht3 := ht3.mono cg8
    have hsub := hsub.mono cg8
    have hl := hl.mono cg8
    have hb := hb.mono cg8
    have ht := ht.mono cg8
    refine brN (fun cb10 => by exfalso; omega) (fun cb10 => ?_)
    refine ldA2 _ _ h .n2 ?_
    refine dCrash_ok h (by first | omega | (dsimp only; omega) | decide) ht (fun _ h => ?_)
    refine brF ?_
    refine namesP_ok (h.pick .n1) hq (by first | omega | (dsimp only; omega) | decide) (fun cv15 cΓ16 _ cg18 cf19 h => ?_)
    have af27 := af27.mono cg18
    have hb3 := hb3.mono cg18
    have ht3 := ht3.mono cg18
    have hsub := hsub.mono cg18
    have hl := hl.mono cg18
    have hb := hb.mono cg18
    have ht := ht.mono cg18
    obtain ⟨lcf19, mcf19, ccf19⟩ := cf19.lens
    rotate_left
    refine loop (σ := Int) (fun st w' c => ∃ (j : Nat) (Γ' : Mem), st = (j : Int) ∧ j ≤ (m.now.map Prod.fst).length ∧ c = (m.now.map Prod.fst).length - j ∧ cΓ16.le Γ' ∧ Sat Γ' (PDisk cv2 m :: PDisk av7 ((dropM m x).1.crash wn wb) :: blk ar0 (.cells #[.int .i64 wn, .slice t.p t.len t.cap] 81 (0, 0)) :: L) w') (m.now.map Prod.fst).length ⟨0, cΓ16, rfl, by omega, by omega, .refl _, h⟩ ?_
    clear h
    rintro _ w c ⟨j, Γ5, rfl, hj, hcj, g5, h⟩
    have cf19 := cf19.mono g5
    have hsub := hsub.mono g5
    by_cases hjl : j < (m.now.map Prod.fst).length
    · obtain ⟨y, ey⟩ := get_lt hjl
      obtain ⟨hy0, hy1⟩ := hno y (List.mem_of_getElem? ey)
      obtain ⟨⟨c1, d1⟩, hr1⟩ : ∃ p, (m.read y).2 = p := ⟨_, rfl⟩
      rw [hr1] at hy0 hy1
      have hy0 : d1 = 0 := hy0
      have af27 := af27.mono g5
      have hb3 := hb3.mono g5
      have ht3 := ht3.mono g5
      have hl := hl.mono g5
      have hb := hb.mono g5
      have ht := ht.mono g5
      refine brD (fun db0 => ?_) (fun db0 => by exfalso; omega)
      refine joinI ?_
      refine ⟨by omega, ?_⟩
      refine nnL h cf19 (fun da1 dha1 => ?_)
      refine ldL h cf19 dha1 ey (fun dy2 dhy2 => ?_)
      have dhy2 : dy2 = str y := dhy2
      subst dhy2
      rotate_left
      refine loop (σ := Bool × Int) (fun st w' c => ∃ (i : Nat), st = (decide (y ∈ x.take i), (i : Int)) ∧ i ≤ x.length ∧ c = x.length - i ∧ Sat Γ5 (PDisk cv2 m :: PDisk av7 ((dropM m x).1.crash wn wb) :: blk ar0 (.cells #[.int .i64 wn, .slice t.p t.len t.cap] 81 (0, 0)) :: L) w') x.length ⟨0, by simp, by omega, by omega, h⟩ ?_
      clear h
      rintro _ w c ⟨i, rfl, hi, hci, h⟩
      by_cases hil2 : i < x.length
      · obtain ⟨g, eg⟩ := get_lt hil2
        have htk : x.take (i + 1) = x.take i ++ [g] := by rw [List.take_add_one, eg]; rfl
        by_cases hd : y ∈ x.take i
        · have hd1 : decide (y ∈ x.take i) = true := decide_eq_true hd
          have hd2 : decide (y ∈ x.take (i + 1)) = true := decide_eq_true (by rw [htk]; exact List.mem_append_left _ hd)
          rw [hd1]
          refine brD (fun fb0 => ?_) (fun fb0 => by exfalso; dsimp only [Sl.sub] at fb0; omega)
          dsimp only at fb0
          dsimp only [Sl.sub] at fb0
          refine joinI ?_
          refine ⟨by dsimp only [Sl.sub]; omega, ?_⟩
          refine nnL h hsub (fun fa1 fha1 => ?_)
          refine ldL h hsub fha1 eg (fun fy2 fhy2 => ?_)
          have fhy2 : fy2 = str g := fhy2
          subst fhy2
          refine brT ?_
          refine wrN (i + 1) ?_
          rotate_left
          exact ⟨x.length - (i + 1), by omega, i + 1, by rw [hd2], by omega, rfl, h⟩
        · have hd1 : decide (y ∈ x.take i) = false := decide_eq_false hd
          rw [hd1]
          by_cases hgy : g = y
          · have hd2 : decide (y ∈ x.take (i + 1)) = true := decide_eq_true (by rw [htk, hgy]; simp)
            refine brD (fun gb0 => ?_) (fun gb0 => by exfalso; dsimp only [Sl.sub] at gb0; omega)
            dsimp only at gb0
            dsimp only [Sl.sub] at gb0
            refine joinI ?_
            refine ⟨by dsimp only [Sl.sub]; omega, ?_⟩
            refine nnL h hsub (fun ga1 gha1 => ?_)
            refine ldL h hsub gha1 eg (fun gy2 ghy2 => ?_)
            have ghy2 : gy2 = str g := ghy2
            subst ghy2
            refine brF ?_
            refine wrN (i + 1) ?_
            rotate_left
            exact ⟨x.length - (i + 1), by omega, i + 1, by rw [hd2, hgy]; simp, by omega, rfl, h⟩
          · have hd2 : decide (y ∈ x.take (i + 1)) = false := decide_eq_false (by rw [htk]; simp [hd]; exact fun e => hgy e.symm)
            refine brD (fun hb0 => ?_) (fun hb0 => by exfalso; dsimp only [Sl.sub] at hb0; omega)
            dsimp only at hb0
            dsimp only [Sl.sub] at hb0
            refine joinI ?_
            refine ⟨by dsimp only [Sl.sub]; omega, ?_⟩
            refine nnL h hsub (fun ha1 hha1 => ?_)
            refine ldL h hsub hha1 eg (fun hy2 hhy2 => ?_)
            have hhy2 : hy2 = str g := hhy2
            subst hhy2
            refine brF ?_
            refine wrN (i + 1) ?_
            rotate_left
            exact ⟨x.length - (i + 1), by omega, i + 1, by rw [hd2, str_toList, str_toList]; simp [hgy], by omega, rfl, h⟩
      · have hi2 : i = x.length := by omega
        subst hi2
        rw [List.take_length]
        by_cases hm : y ∈ x
        · have hd1 : decide (y ∈ x) = true := decide_eq_true hm
          rw [if_pos hm] at hy1
          rw [hd1]
          refine brD (fun ib0 => by exfalso; dsimp only [Sl.sub] at ib0; omega) (fun ib0 => ?_)
          dsimp only at ib0
          dsimp only [Sl.sub] at ib0
          refine dReadQuietIs_ok h hq hr1 (by first | omega | (dsimp only; omega) | decide) (fun iv2 iΓ3 _ ig5 if6 h => ?_)
          have cf19 := cf19.mono ig5
          have hsub := hsub.mono ig5
          have af27 := af27.mono ig5
          have hb3 := hb3.mono ig5
          have ht3 := ht3.mono ig5
          have hl := hl.mono ig5
          have hb := hb.mono ig5
          have ht := ht.mono ig5
          obtain ⟨lif6, mif6, cif6⟩ := if6.lens
          refine dReadQuietIs_ok (h.pick .n1) hq2 hy1 (by first | omega | (dsimp only; omega) | decide) (fun iv9 iΓ10 _ ig12 if13 h => ?_)
          have if6 := if6.mono ig12
          have cf19 := cf19.mono ig12
          have hsub := hsub.mono ig12
          have af27 := af27.mono ig12
          have hb3 := hb3.mono ig12
          have ht3 := ht3.mono ig12
          have hl := hl.mono ig12
          have hb := hb.mono ig12
          have ht := ht.mono ig12
          obtain ⟨lif13, mif13, cif13⟩ := if13.lens
          refine brT ?_
          refine brF ?_
          refine brF ?_
          refine wrN (j + 1) ?_
          refine ⟨_, (by first | omega | rfl | (dsimp only; omega)), _, _, rfl, (by first | omega | rfl | (dsimp only; omega)), rfl, (g5.trans (ig5.trans ig12)), (((h.pick .n2).pick .n1).pick .n2)⟩
        · have hd1 : decide (y ∈ x) = false := decide_eq_false hm
          rw [if_neg hm] at hy1
          rw [hd1]
          refine brD (fun jb0 => by exfalso; dsimp only [Sl.sub] at jb0; omega) (fun jb0 => ?_)
          dsimp only at jb0
          dsimp only [Sl.sub] at jb0
          refine dReadQuietIs_ok h hq hr1 (by first | omega | (dsimp only; omega) | decide) (fun jv2 jΓ3 _ jg5 jf6 h => ?_)
          have cf19 := cf19.mono jg5
          have hsub := hsub.mono jg5
          have af27 := af27.mono jg5
          have hb3 := hb3.mono jg5
          have ht3 := ht3.mono jg5
          have hl := hl.mono jg5
          have hb := hb.mono jg5
          have ht := ht.mono jg5
          obtain ⟨ljf6, mjf6, cjf6⟩ := jf6.lens
          refine dReadQuietIs_ok (h.pick .n1) hq2 hy1 (by first | omega | (dsimp only; omega) | decide) (fun jv9 jΓ10 _ jg12 jf13 h => ?_)
          have jf6 := jf6.mono jg12
          have cf19 := cf19.mono jg12
          have hsub := hsub.mono jg12
          have af27 := af27.mono jg12
          have hb3 := hb3.mono jg12
          have ht3 := ht3.mono jg12
          have hl := hl.mono jg12
          have hb := hb.mono jg12
          have ht := ht.mono jg12
          obtain ⟨ljf13, mjf13, cjf13⟩ := jf13.lens
          refine brF ?_
          refine brT ?_
          refine brN (fun jb15 => by exfalso; omega) (fun jb15 => ?_)
          dsimp only at jb15
          refine btoS h jf6 ?_
          refine btoS h jf13 ?_
          refine brSn (fun jb16 => absurd rfl jb16) (fun jb16 => ?_)
          refine wrN (j + 1) ?_
          refine ⟨_, (by first | omega | rfl | (dsimp only; omega)), _, _, rfl, (by first | omega | rfl | (dsimp only; omega)), rfl, (g5.trans (jg5.trans jg12)), (((h.pick .n2).pick .n1).pick .n2)⟩
    · have af27 := af27.mono g5
      have hb3 := hb3.mono g5
      have ht3 := ht3.mono g5
      have hl := hl.mono g5
      have hb := hb.mono g5
      have ht := ht.mono g5
      refine brD (fun eb0 => by exfalso; omega) (fun eb0 => ?_)
      refine ⟨_, rfl, ?_⟩
      refine k _ _ (ag4.trans (ag11.trans (ag26.trans (g3.trans (cg8.trans (cg18.trans g5)))))) h.drop.drop.drop

theorem placeDrops_walk {H : Type} {enc : TypeId × Value → H} {W : World} {base : Nat} {vs : List Value} {ds : List (DataW H)} {ps : List MemPlace} (hok : ∀ (j : Nat) (t : TypeId) (v : Value), [3, 108, 91, 81][j]? = some t → vs[j]? = some v → Value.okWide Try.prog W .any base t v)
    (hA : DataW.TrodAll enc Try.prog W 0 (fun _ => true) true [3, 108, 91, 81] vs ds ps) : CallP Try.prog 26 vs (.one (.s .bool)) (fun b w' => b = true ∧ Kept W w') W := by
  obtain ⟨v0, vs0, d0, ds0, p0, q0, rfl, rfl, rfl, h0, r0⟩ := trodAll_cons hA
  obtain ⟨v1, vs1, d1, ds1, p1, q1, rfl, rfl, rfl, h1, r1⟩ := trodAll_cons r0
  obtain ⟨v2, vs2, d2, ds2, p2, q2, rfl, rfl, rfl, h2, r2⟩ := trodAll_cons r1
  obtain ⟨v3, vs3, d3, ds3, p3, q3, rfl, rfl, rfl, h3, r3⟩ := trodAll_cons r2
  obtain ⟨rfl, rfl, rfl⟩ := trodAll_nil r3
  obtain ⟨y0, x0, e0, f0⟩ := argS rInt (hok 0 _ _ rfl rfl) h0
  obtain ⟨y1, x1, e1, f1⟩ := argS rActPs (hok 1 _ _ rfl rfl) h1
  obtain ⟨y2, x2, e2, f2⟩ := argS rStrs (hok 2 _ _ rfl rfl) h2
  obtain ⟨⟨n3, t3⟩, ⟨m3, x3⟩, e3, f3⟩ := argA rWreck (hok 3 _ _ rfl rfl) h3
  cases e0
  cases e1
  cases e2
  subst e3
  exact law_walk fun k => law_pdrops (Sat.start W) f1 (strs_of f2) f3.2 k

theorem placeDrops_lifted (os : Os) (started : os.Started) (H : Type) (enc : TypeId × Value → H) :
    ReturnsInHanded {} Try.checked os 26 .any (Rows.placeDropsSpec.pre6 enc Try.prog Try.f26 Rows.placeDropsRow.domain false) (Rows.placeDropsSpec.post enc Try.prog Try.f26 false true false false) := by
  have e : Try.f26.params.toList = [3, 108, 91, 81] := by kernel_rfl
  refine law_lifted (s := Rows.placeDropsSpec) started Try.func26 (by kernel_rfl) rfl (fun ds h => ?_) (by kernel_rfl) (fun t ht => ?_)
    (ChangeSpec.witness6 (enc := enc) (C := Try.checked) false ⟨#[], #[.int .i64 0, .slice none 0 0, .slice none 0 0, .agg #[.int .i64 0, .slice none 0 0]], []⟩ 8 (by kernel_rfl) (by kernel_rfl) (by kernel_rfl) (by kernel_rfl)) fun W base vs ds ps hok hA => ?_
  · have hl : ds.length = 4 := h
    match ds, hl with
    | [_, _, _, _], _ => rfl
  · rw [e] at ht
    have hall : ([3, 108, 91, 81].all fun t => Try.prog.readableRec t && decide (t < Try.prog.types.size)) = true := by kernel_rfl
    simpa using List.all_eq_true.1 hall t ht
  · rw [e] at hA hok
    exact placeDrops_walk hok hA

theorem placeDrops_facts : joinedFacts Try.pinned.checked.prog 26 Try.f26 Rows.placeDropsSpec Rows.placeDropsRow = true := by
  show joinedFacts Try.prog 26 Try.f26 Rows.placeDropsSpec Rows.placeDropsRow = true
  unfold joinedFacts
  rw [make_, enter_, lifts_]
  kernel_rfl

theorem PlaceDrops_holds : Rows.PlaceDropsSaid :=
  OpenClaim.holds_of_wide 26 Try.f26 rfl rfl rfl rfl rfl rfl rfl ⟨rfl, rfl, rfl, rfl, rfl⟩ rfl rfl rfl rfl rfl (by kernel_rfl) Try.func26 placeDrops_facts
    (of_decide_eq_true (by kernel_rfl)) (by unfold Func.isWrapper; first | (rw [if_pos (by decide +kernel)]; kernel_rfl) | (rw [if_neg (by decide +kernel)]; exact ⟨rfl, rfl⟩))
    (fun os started H enc _ => placeDrops_lifted os started H enc)


end Go.Proofs.Ytohoimokfgfceaa.K
