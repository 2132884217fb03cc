/-
  DiskCrash: of each file behind a crash there is a beginning of what it had, with at least what is kept; behind one crash another changes nothing. No condition.
-/
import Derived.Test.YtohoimokfgfceaaDkJ
import Derived.Test.YtohoimokfgfceaaDkZ
namespace Go.Proofs.Ytohoimokfgfceaa.K
open Go Go.Proofs Go.ChangeShapes Go.WideShapes Go.ChangeAt Go.RowKit
variable {Γ Γ' : Mem} {L L' L'' : List HP} {w w' : World} {A B : HP}
set_option maxRecDepth 100000
set_option maxHeartbeats 4000000

theorem law_crash {r : Int} {s t t2 : Sl} {l : List ActM} {wn vn : Int} {wb vb : List Int} {K : Bool → World → Prop} (h : Sat Γ L w) (hl : Lst eAct Γ s l) (ht : Lst eInt Γ t wb) (ht2 : Lst eInt Γ t2 vb) (k : ∀ Γ' w', Γ.le Γ' → Sat Γ' L w' → K true w') :
    CallP Try.prog 18 [.int .i64 r, .slice s.p s.len s.cap, .agg #[.int .i64 wn, .slice t.p t.len t.cap], .agg #[.int .i64 vn, .slice t2.p t2.len t2.cap]] (.one (.s .bool)) K w := by
  refine callP (fn := Try.f18) [.s (.int .i64 r), .s (.sl s), .agg [.int .i64 wn, .sl t], .agg [.int .i64 vn, .sl t2]] (.p .n (.p .n (.p .n (.p .n (.p (.p .n (.b (.l [38, 37, 10, 6, 7, 9] [(39, .s (.int .i64))] .n))) (.p .n (.j [6, 15, 14, 7, 9, 13] [] .n (.p .n (.p .n (.p .n (.p .n (.p .n (.p .n (.j [16, 15, 14, 7, 9, 13] [] .n (.p (.p .n (.b (.l [103, 15, 14, 102, 7, 9, 13] [(104, .s (.int .i64))] (.p .n (.p .n (.p (.k [104, 103, 15, 14, 102, 7, 9, 13] [] (.p .n (.p .n (.p .n (.p .n (.p .s .n)))))) .n)))))) .n))))))))))))))) nong mixed (by kernel_rfl) (by kernel_rfl) rfl rfl ?_
  have hfl := fewA_len l
  obtain ⟨lhl, mhl, chl⟩ := hl.lens
  obtain ⟨lht, mht, cht⟩ := ht.lens
  obtain ⟨lht2, mht2, cht2⟩ := ht2.lens
  refine new h fun ar0 _ h => ?_
  refine new h fun ar1 _ h => ?_
  refine shown_ok h (fun aΓ3 _ ag5 h => ?_)
  have hl := hl.mono ag5
  have ht := ht.mono ag5
  have ht2 := ht2.mono ag5
  refine dNew_ok h (fun av8 _ h => ?_)
  refine brF ?_
  refine fewA_ok h hl (fun av12 aΓ13 _ ag15 af16 h => ?_)
  have hl := hl.mono ag15
  have ht := ht.mono ag15
  have ht2 := ht2.mono ag15
  obtain ⟨laf16, maf16, caf16⟩ := af16.lens
  rotate_left
  refine loop (σ := Int) (fun st w' n => ∃ (i : Nat) (m : DiskM) (Γ' : Mem), st = (i : Int) ∧ i ≤ (fewA l).length ∧ n = (fewA l).length - i ∧ Wf m ∧ m.g ≤ 100 * i ∧ aΓ13.le Γ' ∧
      Sat Γ' (PDisk av8 m :: blk ar1 (.cells #[.int .i64 vn, .slice t2.p t2.len t2.cap] 81 (0, 0)) :: blk ar0 (.cells #[.int .i64 wn, .slice t.p t.len t.cap] 81 (0, 0)) :: L) w') (fewA l).length
    ⟨0, .new r, aΓ13, rfl, by omega, by omega, .new r, Nat.zero_le _, .refl _, h⟩ ?_
  clear h
  rintro _ w n ⟨i, m, Γ3, rfl, hi, hn, hw, hg, g3, h⟩
  have af17 := af16.mono g3
  have ht3 := ht.mono g3
  have ht4 := ht2.mono g3
  by_cases hil : i < (fewA l).length
  · obtain ⟨x, ex⟩ := get_lt hil
    have hx64 := af16.acts x (List.mem_of_getElem? ex)
    have hsx := fewA_small x (List.mem_of_getElem? ex)
    unfold smallA at hsx
    have hw2 := DiskM.act_wf (x := x) hw hx64
    have hg2 := DiskM.act_g (m := m) (x := x)
    have af16 := af16.mono g3
    have hl := hl.mono g3
    have ht := ht.mono g3
    have ht2 := ht2.mono g3
    refine brD (fun bb0 => ?_) (fun bb0 => by exfalso; omega)
    refine ⟨by omega, ?_⟩
    refine nnL h af16 (fun ba1 bha1 => ?_)
    refine ldL h af16 bha1 ex (fun by2 bhy2 => ?_)
    obtain ⟨by2s, by2t, bhy2a, bhy2b, bhy2c, bhy2e⟩ := eAct_after bhy2
    subst bhy2e
    obtain ⟨lbhy2a, mbhy2a, cbhy2a⟩ := bhy2a.lens
    obtain ⟨lbhy2b, mbhy2b, cbhy2b⟩ := bhy2b.lens
    refine new h fun br3 _ h => ?_
    refine stNs h .n0 fun _ h => ?_
    refine ldA7 _ _ _ _ _ _ _ h .n0 ?_
    refine actA_ok (h.pick .n1) (by first | omega | decide) bhy2a bhy2b bhy2c (fun bΓ5 _ bg7 h => ?_)
    have af17 := af17.mono bg7
    have ht3 := ht3.mono bg7
    have ht4 := ht4.mono bg7
    have af16 := af16.mono bg7
    have hl := hl.mono bg7
    have ht := ht.mono bg7
    have ht2 := ht2.mono bg7
    have bhy2a := bhy2a.mono bg7
    have bhy2b := bhy2b.mono bg7
    refine wrN (i + 1) ?_
    refine ⟨_, (by first | omega | rfl | (dsimp only; omega)), _, _, _, rfl, (by first | omega | rfl | (dsimp only; omega)), rfl, hw2, (by first | omega | rfl | (dsimp only; omega)), (g3.trans bg7), ((((h.pick .n1).drop.pick .n2).pick .n2).pick .n2)⟩
  · have hgm : m.g < 1000000000000 := by omega
    have af16 := af16.mono g3
    have hl := hl.mono g3
    have ht := ht.mono g3
    have ht2 := ht2.mono g3
    refine brD (fun cb0 => by exfalso; omega) (fun cb0 => ?_)
    refine dClone_ok h hgm (fun cv2 _ h => ?_)
    refine dClone_ok (h.pick .n1) hgm (fun cv6 _ h => ?_)
    refine dClone_ok (h.pick .n1) hgm (fun cv10 _ h => ?_)
    refine joinI ?_
    refine brF ?_
    refine brF ?_
    refine brF ?_
    refine ldA2 _ _ h .n5 ?_
    refine dCrash_ok (h.pick .n3) hgm ht (fun _ h => ?_)
    refine ld _ h .n5 ?_
    refine dCrash_ok (h.pick .n3) hgm (.nil _ _) (fun _ h => ?_)
    refine ld _ h .n5 ?_
    refine new h fun cr19 _ h => ?_
    rotate_left
    have h2 := Sat.whole (n := 1) (sz := 1) h rfl
    have h3 := Sat.toOl (E := eInt) (ys := [(1099511627776 : Int)]) (xs := [(1099511627776 : Int)]) h2 (.cons rfl .nil)
    obtain ⟨Γ5, g5, f5, h⟩ := h3.olFreeze .n0 (by dsimp only; omega)
    have ht5 := ht3.mono g5
    have ht6 := ht4.mono g5
    refine dCrash_ok (n := wn) (h.pick .n2) hgm f5 fun _ h => ?_
    clear h2 h3
    have hqx : quiet (m.crash wn wb) := DiskM.crash_quiet
    have hqy : quiet (m.crash wn []) := DiskM.crash_quiet
    have hqz : quiet (m.crash wn [1099511627776]) := DiskM.crash_quiet
    have hgx : (m.crash wn wb).g < 1000000000000 := by show m.g < _; omega
    have hgy : (m.crash wn []).g < 1000000000000 := by show m.g < _; omega
    have hgz : (m.crash wn [1099511627776]).g < 1000000000000 := by show m.g < _; omega
    have hn12 : (m.crash wn wb).now.map Prod.fst = (m.crash wn []).now.map Prod.fst := DiskM.crash_names.trans DiskM.crash_names.symm
    have hn13 : (m.crash wn wb).now.map Prod.fst = (m.crash wn [1099511627776]).now.map Prod.fst := DiskM.crash_names.trans DiskM.crash_names.symm
    have hnl : ((m.crash wn wb).now.map Prod.fst).length ≤ 1000000000000 := by
      rw [List.length_map]
      have := (hw.crash wn wb).nowLen
      omega
    have af17 := af17.mono g5
    have ht3 := ht3.mono g5
    have ht4 := ht4.mono g5
    have af16 := af16.mono g5
    have hl := hl.mono g5
    have ht := ht.mono g5
    have ht2 := ht2.mono g5
    refine dNamesQuiet_ok (h.pick .n2) hqz hgz (fun dv1 dΓ2 _ dg4 df5 h => ?_)
    have f5 := f5.mono dg4
    have ht5 := ht5.mono dg4
    have ht6 := ht6.mono dg4
    have af17 := af17.mono dg4
    have ht3 := ht3.mono dg4
    have ht4 := ht4.mono dg4
    have af16 := af16.mono dg4
    have hl := hl.mono dg4
    have ht := ht.mono dg4
    have ht2 := ht2.mono dg4
    dsimp only at df5
    obtain ⟨ldf5, mdf5, cdf5⟩ := df5.lens
    refine dNamesQuiet_ok (h.pick .n2) hqz hgz (fun dv8 dΓ9 _ dg11 df12 h => ?_)
    have df5 := df5.mono dg11
    have f5 := f5.mono dg11
    have ht5 := ht5.mono dg11
    have ht6 := ht6.mono dg11
    have af17 := af17.mono dg11
    have ht3 := ht3.mono dg11
    have ht4 := ht4.mono dg11
    have af16 := af16.mono dg11
    have hl := hl.mono dg11
    have ht := ht.mono dg11
    have ht2 := ht2.mono dg11
    obtain ⟨ldf12, mdf12, cdf12⟩ := df12.lens
    refine dNamesQuiet_ok (h.pick .n2) hqz hgz (fun dv15 dΓ16 _ dg18 df19 h => ?_)
    have df12 := df12.mono dg18
    have df5 := df5.mono dg18
    have f5 := f5.mono dg18
    have ht5 := ht5.mono dg18
    have ht6 := ht6.mono dg18
    have af17 := af17.mono dg18
    have ht3 := ht3.mono dg18
    have ht4 := ht4.mono dg18
    have af16 := af16.mono dg18
    have hl := hl.mono dg18
    have ht := ht.mono dg18
    have ht2 := ht2.mono dg18
    obtain ⟨ldf19, mdf19, cdf19⟩ := df19.lens
    refine joinI ?_
    refine texts_ok h df5 df12 (fun dp22 _ h => ?_) (fun dp25 _ h => ?_)
    refine brF ?_
    refine texts_ok h df5 df19 (fun dp29 _ h => ?_) (fun dp32 _ h => ?_)
    refine brF ?_
    rotate_left
    refine brT ?_
    refine ⟨_, rfl, ?_⟩
    contradiction
    refine brT ?_
    refine ⟨_, rfl, ?_⟩
    contradiction
    refine loop (σ := Int) (fun st w' n => ∃ (i : Nat) (Γ' : Mem), st = (i : Int) ∧ i ≤ ((m.crash wn wb).now.map Prod.fst).length ∧ n = ((m.crash wn wb).now.map Prod.fst).length - i ∧ dΓ16.le Γ' ∧
      Sat Γ' (PDisk cv10 (m.crash wn [1099511627776]) :: PDisk cv6 (m.crash wn []) :: PDisk cv2 (m.crash wn wb) :: PDisk av8 m :: blk ar1 (.cells #[.int .i64 vn, .slice t2.p t2.len t2.cap] 81 (0, 0)) :: blk ar0 (.cells #[.int .i64 wn, .slice t.p t.len t.cap] 81 (0, 0)) :: L) w') ((m.crash wn wb).now.map Prod.fst).length ⟨0, dΓ16, rfl, by omega, by omega, .refl _, h⟩ ?_
    clear h
    rintro _ w n ⟨i, Γ6, rfl, hi, hn, g6, h⟩
    have df6 := df5.mono g6
    have ht7 := ht6.mono g6
    by_cases hil2 : i < ((m.crash wn wb).now.map Prod.fst).length
    · obtain ⟨x, ex⟩ := get_lt hil2
      obtain ⟨hb1, hb2, hb3, hb4⟩ := DiskM.crash_between hw hgm ex
      have df19 := df19.mono g6
      have df12 := df12.mono g6
      have df5 := df5.mono g6
      have f5 := f5.mono g6
      have ht5 := ht5.mono g6
      have ht6 := ht6.mono g6
      have af17 := af17.mono g6
      have ht3 := ht3.mono g6
      have ht4 := ht4.mono g6
      have af16 := af16.mono g6
      have hl := hl.mono g6
      have ht := ht.mono g6
      have ht2 := ht2.mono g6
      refine brD (fun eb0 => ?_) (fun eb0 => ?_)
      dsimp only at eb0
      refine joinI ?_
      refine ⟨by dsimp only; omega, ?_⟩
      refine nnL h df5 (fun ea1 eha1 => ?_)
      dsimp only at eha1
      refine ldL h df5 eha1 ex (fun ey2 ehy2 => ?_)
      have ehy2 : ey2 = str x := ehy2
      subst ehy2
      refine dReadQuiet_ok (h.pick .n2) hqz hgz (fun ev4 eΓ5 _ eg7 ef8 h => ?_)
      have df6 := df6.mono eg7
      have ht7 := ht7.mono eg7
      have df19 := df19.mono eg7
      have df12 := df12.mono eg7
      have df5 := df5.mono eg7
      have f5 := f5.mono eg7
      have ht5 := ht5.mono eg7
      have ht6 := ht6.mono eg7
      have af17 := af17.mono eg7
      have ht3 := ht3.mono eg7
      have ht4 := ht4.mono eg7
      have af16 := af16.mono eg7
      have hl := hl.mono eg7
      have ht := ht.mono eg7
      have ht2 := ht2.mono eg7
      obtain ⟨lef8, mef8, cef8⟩ := ef8.lens
      refine dReadQuiet_ok (h.pick .n2) hqz hgz (fun ev11 eΓ12 _ eg14 ef15 h => ?_)
      have ef8 := ef8.mono eg14
      have df6 := df6.mono eg14
      have ht7 := ht7.mono eg14
      have df19 := df19.mono eg14
      have df12 := df12.mono eg14
      have df5 := df5.mono eg14
      have f5 := f5.mono eg14
      have ht5 := ht5.mono eg14
      have ht6 := ht6.mono eg14
      have af17 := af17.mono eg14
      have ht3 := ht3.mono eg14
      have ht4 := ht4.mono eg14
      have af16 := af16.mono eg14
      have hl := hl.mono eg14
      have ht := ht.mono eg14
      have ht2 := ht2.mono eg14
      obtain ⟨lef15, mef15, cef15⟩ := ef15.lens
      refine dReadQuiet_ok (h.pick .n2) hqz hgz (fun ev18 eΓ19 _ eg21 ef22 h => ?_)
      have ef15 := ef15.mono eg21
      have ef8 := ef8.mono eg21
      have df6 := df6.mono eg21
      have ht7 := ht7.mono eg21
      have df19 := df19.mono eg21
      have df12 := df12.mono eg21
      have df5 := df5.mono eg21
      have f5 := f5.mono eg21
      have ht5 := ht5.mono eg21
      have ht6 := ht6.mono eg21
      have af17 := af17.mono eg21
      have ht3 := ht3.mono eg21
      have ht4 := ht4.mono eg21
      have af16 := af16.mono eg21
      have hl := hl.mono eg21
      have ht := ht.mono eg21
      have ht2 := ht2.mono eg21
      obtain ⟨lef22, mef22, cef22⟩ := ef22.lens
      refine dr h fun _ h => ?_
      refine brD (fun eb24 => by exfalso; dsimp only at eb24; omega) (fun eb24 => ?_)
      dsimp only at eb24
      refine brD (fun eb25 => by exfalso; dsimp only at eb25; omega) (fun eb25 => ?_)
      dsimp only at eb25
      refine ⟨by dsimp only; omega, ?_⟩
      rotate_left
      dsimp only at eb0
      refine dClone_ok (h.pick .n2) hgz (fun ev27 _ h => ?_)
      refine brF ?_
      refine ldA2 _ _ h .n5 ?_
      refine dCrash_ok h hgz ht2 (fun _ h => ?_)
      refine brT ?_
      refine alike_ok ((h.pick .n1).pick .n1) hqz hqz hgz hgz (by first | omega | rfl) (fun ev34 ep35 => ?_) (fun eΓ36 _ eg38 h => ?_)
      (exfalso; omega)
      have df6 := df6.mono eg38
      have ht7 := ht7.mono eg38
      have df19 := df19.mono eg38
      have df12 := df12.mono eg38
      have df5 := df5.mono eg38
      have f5 := f5.mono eg38
      have ht5 := ht5.mono eg38
      have ht6 := ht6.mono eg38
      have af17 := af17.mono eg38
      have ht3 := ht3.mono eg38
      have ht4 := ht4.mono eg38
      have af16 := af16.mono eg38
      have hl := hl.mono eg38
      have ht := ht.mono eg38
      have ht2 := ht2.mono eg38
      refine ⟨_, rfl, ?_⟩
      refine k _ _ (ag5.trans (ag15.trans (g3.trans (g5.trans (dg4.trans (dg11.trans (dg18.trans (g6.trans eg38)))))))) h.drop.drop.drop.drop.drop.drop.drop
      have hs1 := ef22.sub (l := 0) (n := ev4.len) (Nat.zero_le _) (by omega)
      have e1 : (((m.crash wn [1099511627776]).read x).2.1.drop 0).take (ev4.len - 0) = ((m.crash wn wb).read x).2.1 := by rw [List.drop_zero, Nat.sub_zero, lef8]; exact hb3
      rw [e1] at hs1
      have hs2 := ef8.sub (l := 0) (n := ev11.len) (Nat.zero_le _) (by omega)
      have e2 : (((m.crash wn wb).read x).2.1.drop 0).take (ev11.len - 0) = ((m.crash wn []).read x).2.1 := by rw [List.drop_zero, Nat.sub_zero, lef15]; exact hb4
      rw [e2] at hs2
      refine btoS h hs1 ?_
      refine btoS h ef8 ?_
      refine brSn (fun gb0 => absurd rfl gb0) (fun gb0 => ?_)
      refine ⟨by dsimp only; omega, ?_⟩
      refine btoS h hs2 ?_
      refine btoS h ef15 ?_
      refine brSn (fun gb1 => absurd rfl gb1) (fun gb1 => ?_)
      refine wrN (i + 1) ?_
      refine ⟨_, (by first | omega | rfl | (dsimp only; omega)), _, _, rfl, (by first | omega | rfl | (dsimp only; omega)), rfl, (g6.trans (eg7.trans (eg14.trans eg21))), ((((((h.pick .n5).pick .n5).pick .n5).pick .n5).pick .n5).pick .n5)⟩
    · have hq2 : quiet ((m.crash wn wb).crash vn vb) := DiskM.crash_quiet
      have hg2 : ((m.crash wn wb).crash vn vb).g < 1000000000000 := by show m.g < _; omega
      have hcr : (m.crash wn wb).crash vn vb = m.crash wn wb := DiskM.crash_again
      have hn1 : ((m.crash wn wb).crash vn vb).now.map Prod.fst = (m.crash wn wb).now.map Prod.fst := by rw [hcr]
      have hr1 : ∀ s ∈ (m.crash wn wb).now.map Prod.fst, (((m.crash wn wb).crash vn vb).read s).2 = ((m.crash wn wb).read s).2 := fun s _ => by rw [hcr]
      have df19 := df19.mono g6
      have df12 := df12.mono g6
      have df5 := df5.mono g6
      have f5 := f5.mono g6
      have ht5 := ht5.mono g6
      have ht6 := ht6.mono g6
      have af17 := af17.mono g6
      have ht3 := ht3.mono g6
      have ht4 := ht4.mono g6
      have af16 := af16.mono g6
      have hl := hl.mono g6
      have ht := ht.mono g6
      have ht2 := ht2.mono g6
      refine brD (fun fb0 => ?_) (fun fb0 => ?_)
      dsimp only at fb0
      refine joinI ?_
      refine ⟨by omega, ?_⟩
      refine nnL h df5 (fun fa1 fha1 => ?_)
      dsimp only at fha1
      refine ldL' h df5 fha1 (i := i) (fun fx2 fe2 fy2 fhy2 => ?_)
      have fhy2 : fy2 = str fx2 := fhy2
      subst fhy2
      refine dReadQuiet_ok (h.pick .n2) hq2 hg2 (fun fv4 fΓ5 _ fg7 ff8 h => ?_)
      have df6 := df6.mono fg7
      have ht7 := ht7.mono fg7
      have df19 := df19.mono fg7
      have df12 := df12.mono fg7
      have df5 := df5.mono fg7
      have f5 := f5.mono fg7
      have ht5 := ht5.mono fg7
      have ht6 := ht6.mono fg7
      have af17 := af17.mono fg7
      have ht3 := ht3.mono fg7
      have ht4 := ht4.mono fg7
      have af16 := af16.mono fg7
      have hl := hl.mono fg7
      have ht := ht.mono fg7
      have ht2 := ht2.mono fg7
      obtain ⟨lff8, mff8, cff8⟩ := ff8.lens
      refine dReadQuiet_ok (h.pick .n2) hq2 hg2 (fun fv11 fΓ12 _ fg14 ff15 h => ?_)
      have ff8 := ff8.mono fg14
      have df6 := df6.mono fg14
      have ht7 := ht7.mono fg14
      have df19 := df19.mono fg14
      have df12 := df12.mono fg14
      have df5 := df5.mono fg14
      have f5 := f5.mono fg14
      have ht5 := ht5.mono fg14
      have ht6 := ht6.mono fg14
      have af17 := af17.mono fg14
      have ht3 := ht3.mono fg14
      have ht4 := ht4.mono fg14
      have af16 := af16.mono fg14
      have hl := hl.mono fg14
      have ht := ht.mono fg14
      have ht2 := ht2.mono fg14
      obtain ⟨lff15, mff15, cff15⟩ := ff15.lens
      refine dReadQuiet_ok (h.pick .n2) hq2 hg2 (fun fv18 fΓ19 _ fg21 ff22 h => ?_)
      have ff15 := ff15.mono fg21
      have ff8 := ff8.mono fg21
      have df6 := df6.mono fg21
      have ht7 := ht7.mono fg21
      have df19 := df19.mono fg21
      have df12 := df12.mono fg21
      have df5 := df5.mono fg21
      have f5 := f5.mono fg21
      have ht5 := ht5.mono fg21
      have ht6 := ht6.mono fg21
      have af17 := af17.mono fg21
      have ht3 := ht3.mono fg21
      have ht4 := ht4.mono fg21
      have af16 := af16.mono fg21
      have hl := hl.mono fg21
      have ht := ht.mono fg21
      have ht2 := ht2.mono fg21
      obtain ⟨lff22, mff22, cff22⟩ := ff22.lens
      refine dr h fun _ h => ?_
      refine brD (fun fb24 => by exfalso; omega) (fun fb24 => ?_)
      dsimp only at fb24
      refine brD (fun fb25 => by exfalso; omega) (fun fb25 => ?_)
      dsimp only at fb25
      refine ⟨by omega, ?_⟩
      (exfalso; omega)
      dsimp only at fb0
      refine dClone_ok (h.pick .n2) hg2 (fun fv27 _ h => ?_)
      refine brF ?_
      refine ldA2 _ _ h .n5 ?_
      refine dCrash_ok h hg2 ht2 (fun _ h => ?_)
      refine brT ?_
      refine alike_ok ((h.pick .n1).pick .n1) hq2 hq2 hg2 hg2 hn1 hr1 (fun fΓ34 _ fg36 h => ?_)
      have df6 := df6.mono fg36
      have ht7 := ht7.mono fg36
      have df19 := df19.mono fg36
      have df12 := df12.mono fg36
      have df5 := df5.mono fg36
      have f5 := f5.mono fg36
      have ht5 := ht5.mono fg36
      have ht6 := ht6.mono fg36
      have af17 := af17.mono fg36
      have ht3 := ht3.mono fg36
      have ht4 := ht4.mono fg36
      have af16 := af16.mono fg36
      have hl := hl.mono fg36
      have ht := ht.mono fg36
      have ht2 := ht2.mono fg36
      refine ⟨_, rfl, ?_⟩
      refine k _ _ (ag5.trans (ag15.trans (g3.trans (g5.trans (dg4.trans (dg11.trans (dg18.trans (g6.trans fg36)))))))) h.drop.drop.drop.drop.drop.drop.drop

theorem diskCrash_walk {H : Type} {enc : TypeId × Value → H} {W : World} {base : Nat} {vs : List Value} {ds : List (DataW H)} {ps : List MemPlace} (hok : ∀ (j : Nat) (t : TypeId) (v : Value), [3, 78, 81, 81][j]? = some t → vs[j]? = some v → Value.okWide Try.prog W .any base t v)
    (hA : DataW.TrodAll enc Try.prog W 0 (fun _ => true) true [3, 78, 81, 81] vs ds ps) : CallP Try.prog 18 vs (.one (.s .bool)) (fun b w' => b = true ∧ Kept W w') W := by
  obtain ⟨v0, vs0, d0, ds0, p0, q0, rfl, rfl, rfl, h0, r0⟩ := trodAll_cons hA
  obtain ⟨v1, vs1, d1, ds1, p1, q1, rfl, rfl, rfl, h1, r1⟩ := trodAll_cons r0
  obtain ⟨v2, vs2, d2, ds2, p2, q2, rfl, rfl, rfl, h2, r2⟩ := trodAll_cons r1
  obtain ⟨v3, vs3, d3, ds3, p3, q3, rfl, rfl, rfl, h3, r3⟩ := trodAll_cons r2
  obtain ⟨rfl, rfl, rfl⟩ := trodAll_nil r3
  obtain ⟨y0, x0, e0, f0⟩ := argS rInt (hok 0 _ _ rfl rfl) h0
  obtain ⟨y1, x1, e1, f1⟩ := argS rActs (hok 1 _ _ rfl rfl) h1
  obtain ⟨⟨n2, t2⟩, ⟨m2, x2⟩, e2, f2⟩ := argA rWreck (hok 2 _ _ rfl rfl) h2
  obtain ⟨⟨n3, t3⟩, ⟨m3, x3⟩, e3, f3⟩ := argA rWreck (hok 3 _ _ rfl rfl) h3
  cases e0
  cases e1
  subst e2
  subst e3
  exact law_walk fun k => law_crash (Sat.start W) f1 f2.2 f3.2 k

theorem diskCrash_lifted (os : Os) (started : os.Started) (H : Type) (enc : TypeId × Value → H) :
    ReturnsInHanded {} Try.checked os 18 .any (Rows.diskCrashSpec.pre6 enc Try.prog Try.f18 Rows.diskCrashRow.domain false) (Rows.diskCrashSpec.post enc Try.prog Try.f18 false true false false) := by
  have e : Try.f18.params.toList = [3, 78, 81, 81] := by kernel_rfl
  refine law_lifted (s := Rows.diskCrashSpec) started Try.func18 (by kernel_rfl) rfl (fun ds h => ?_) (by kernel_rfl) (fun t ht => ?_)
    (ChangeSpec.witness6 (enc := enc) (C := Try.checked) false ⟨#[], #[.int .i64 0, .slice none 0 0, .agg #[.int .i64 0, .slice none 0 0], .agg #[.int .i64 0, .slice none 0 0]], []⟩ 8 (by kernel_rfl) (by kernel_rfl) (by kernel_rfl) (by kernel_rfl)) fun W base vs ds ps hok hA => ?_
  · have hl : ds.length = 4 := h
    match ds, hl with
    | [_, _, _, _], _ => rfl
  · rw [e] at ht
    have hall : ([3, 78, 81, 81].all fun t => Try.prog.readableRec t && decide (t < Try.prog.types.size)) = true := by kernel_rfl
    simpa using List.all_eq_true.1 hall t ht
  · rw [e] at hA hok
    exact diskCrash_walk hok hA

theorem diskCrash_facts : joinedFacts Try.pinned.checked.prog 18 Try.f18 Rows.diskCrashSpec Rows.diskCrashRow = true := by
  show joinedFacts Try.prog 18 Try.f18 Rows.diskCrashSpec Rows.diskCrashRow = true
  unfold joinedFacts
  rw [make_, enter_, lifts_]
  kernel_rfl

theorem DiskCrash_holds : Rows.DiskCrashSaid :=
  OpenClaim.holds_of_wide 18 Try.f18 rfl rfl rfl rfl rfl rfl rfl ⟨rfl, rfl, rfl, rfl, rfl⟩ rfl rfl rfl rfl rfl (by kernel_rfl) Try.func18 diskCrash_facts
    (of_decide_eq_true (by kernel_rfl)) (by unfold Func.isWrapper; first | (rw [if_pos (by decide +kernel)]; kernel_rfl) | (rw [if_neg (by decide +kernel)]; exact ⟨rfl, rfl⟩))
    (fun os started H enc _ => diskCrash_lifted os started H enc)


end Go.Proofs.Ytohoimokfgfceaa.K
