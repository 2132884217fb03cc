/-
  PlaceAtOnce: whenever it crashes in a Put, the file is as it was, or as it is put; all others are as they were. No condition.
-/
import Derived.Test.YtohoimokfgfceaaPlK
namespace Go.Proofs.Ytohoimokfgfceaa.K
open Go Go.Proofs Go.ChangeShapes Go.WideShapes Go.ChangeAt Go.RowKit
variable {Γ Γ' : Mem} {L L' L'' : List HP} {w w' : World} {A B : HP}
set_option maxRecDepth 100000
set_option maxHeartbeats 4000000

theorem law_atonce {r n : Int} {s t u : Sl} {name b : Str} {l : List ActP} {wn : Int} {wb : List Int} {K : Bool → World → Prop} (h : Sat Γ L w) (hl : Lst eActP Γ s l) (hb : Bytes Γ u b) (hn : 0 ≤ n ∧ n < 256) (ht : Lst eInt Γ t wb) (k : ∀ Γ' w', Γ.le Γ' → Sat Γ' L w' → K true w') :
    CallP Try.prog 25 [.int .i64 r, .slice s.p s.len s.cap, .string (str name), .slice u.p u.len u.cap, .int .u8 n, .agg #[.int .i64 wn, .slice t.p t.len t.cap]] (.one (.s .bool)) K w := by
  refine callP (fn := Try.f25) [.s (.int .i64 r), .s (.sl s), .s (.str (str name)), .s (.sl u), .s (.int .u8 n), .agg [.int .i64 wn, .sl t]] (.p .n (.p .n (.p .n (.p .n (.j [4, 11, 15, 2, 14, 13] [] .n (.p (.p .n (.b (.l [50, 49, 4, 11, 15, 2, 14, 13] [(51, .s (.int .i64))] .n))) (.p .n (.j [11, 15, 2, 14, 18, 13] [] .n (.p .n (.p .n (.p .n (.p .n (.j [21, 23, 20, 22, 19, 2, 14, 18, 13] [(24, .s .bool)] .n (.j [19, 24, 2, 14, 18, 13] [(25, .s .bool)] .n (.j [2, 14, 18, 13] [] .n (.p (.p .n (.b (.l [124, 2, 14, 18, 123, 13] [(125, .s (.int .i64))] (.p .n (.p .n (.p (.k [125, 124, 2, 14, 18, 123, 13] [] .n) .n)))))) .n)))))))))))))))) nong mixed (by kernel_rfl) (by kernel_rfl) rfl rfl ?_
  obtain ⟨lhl, mhl, chl⟩ := hl.lens
  obtain ⟨lhb, mhb, chb⟩ := hb.lens
  obtain ⟨lht, mht, cht⟩ := ht.lens
  refine new h fun ar0 _ h => ?_
  have h := h.asA (B := blk ar0 (.cells #[Value.int IntKind.i64 wn, Value.slice t.p t.len t.cap] 81 (0, 0))) (by kernel_rfl)
  refine shownP_ok h (fun aΓ2 _ ag4 h => ?_)
  have hl := hl.mono ag4
  have hb := hb.mono ag4
  have ht := ht.mono ag4
  refine madeP_ok h hl (fun av7 av8 aΓ9 _ ag11 ap12 ap13 ap14 h => ?_)
  have hl := hl.mono ag11
  have hb := hb.mono ag11
  have ht := ht.mono ag11
  refine mnN _ _ ?_
  refine ⟨by omega, ?_⟩
  refine joinI ?_
  refine brF ?_
  refine dSyncNamesQuietG_ok h ap12 (by first | omega | (dsimp only; omega) | decide) (fun _ ap18 ap19 ap20 h => ?_)
  refine brF ?_
  refine namesP_ok h ap18 (by first | omega | (dsimp only; omega) | decide) (fun av23 aΓ24 _ ag26 af27 h => ?_)
  have hl := hl.mono ag26
  have hb := hb.mono ag26
  have ht := ht.mono ag26
  obtain ⟨laf27, maf27, caf27⟩ := af27.lens
  rotate_left
  refine loop (σ := Int) (fun st w' c => ∃ (i : Nat) (m : DiskM) (Γ' : Mem), st = (i : Int) ∧ i ≤ (av8.syncNames.1.now.map Prod.fst).length ∧ c = (av8.syncNames.1.now.map Prod.fst).length - i ∧ DiskM.Syn (av8.syncNames.1.now.map Prod.fst) i m ∧ m.g ≤ 80000 ∧ aΓ24.le Γ' ∧
      Sat Γ' (PDisk av7 m :: blk ar0 (.cells #[.int .i64 wn, .slice t.p t.len t.cap] 81 (0, 0)) :: L) w') (av8.syncNames.1.now.map Prod.fst).length
    ⟨0, av8.syncNames.1, aΓ24, rfl, by omega, by omega, ap20, by omega, .refl _, h⟩ ?_
  clear h
  rintro _ w c ⟨i, m, Γ3, rfl, hi, hc, hS, hg, g3, h⟩
  have af27 := af27.mono g3
  have hb3 := hb.mono g3
  have ht3 := ht.mono g3
  by_cases hil : i < (av8.syncNames.1.now.map Prod.fst).length
  · obtain ⟨x, ex⟩ := get_lt hil
    have hst := hS.step ex
    have hsg := sync_g m x
    have hl := hl.mono g3
    have hb := hb.mono g3
    have ht := ht.mono g3
    refine brD (fun bb0 => ?_) (fun bb0 => by exfalso; omega)
    refine ⟨by omega, ?_⟩
    refine nnL h af27 (fun ba1 bha1 => ?_)
    refine ldL h af27 bha1 ex (fun by2 bhy2 => ?_)
    have bhy2 : by2 = str x := bhy2
    subst bhy2
    refine dSync_ok h (fun _ h => ?_)
    refine wrN (i + 1) ?_
    refine ⟨_, (by first | omega | rfl | (dsimp only; omega)), _, _, _, rfl, (by first | omega | rfl | (dsimp only; omega)), rfl, hst, (by first | omega | rfl | (dsimp only; omega)), g3, ((h.pick .n1).pick .n1)⟩
  · have hin : i = (av8.syncNames.1.now.map Prod.fst).length := by omega
    rw [hin] at hS
    have hf := hS.firm
    have hq := hS.q
    have hd0 : (m.doom n).2 = 0 := by rw [DiskM.doom_at hq hn.1]
    have hgd := doom_g m n
    have hsub := hb3.sub (l := 0) (n := min u.len 300) (Nat.zero_le _) (by omega)
    have e0 : (b.drop 0).take (min u.len 300 - 0) = b.take 300 := by
      rw [List.drop_zero, Nat.sub_zero, lhb]
      by_cases h3 : b.length ≤ 300
      · rw [Nat.min_eq_left h3, List.take_of_length_le (Nat.le_refl _), List.take_of_length_le h3]
      · rw [Nat.min_eq_right (by omega)]
    rw [e0] at hsub
    have hxl : (b.take 300).length ≤ 300 := by rw [List.length_take]; omega
    generalize b.take 300 = x at hsub hxl
    have hwd : Wf (m.doom n).1 := hf.wf.doom (by omega)
    obtain ⟨hp0, hpa⟩ := DiskM.put_safe (name := name) (x := x) hf (DiskM.core_doom m n) hwd
    have hpg := (stepPutP name x).g (m.doom n).1
    have hcl := chunks_len x
    have hq2 : quiet ((putP (m.doom n).1 name x).1.crash wn wb) := DiskM.crash_quiet
    have hg2 : ((putP (m.doom n).1 name x).1.crash wn wb).g = (putP (m.doom n).1 name x).1.g := rfl
    have hgs : (putP (m.doom n).1 name x).1.g ≤ 100000 := by omega
    have hno : ∀ s ∈ m.now.map Prod.fst, s ≠ name → s ≠ [116, 109, 112] → (((putP (m.doom n).1 name x).1.crash wn wb).read s).2 = (m.read s).2 ∧ (m.read s).2.2 = 0 := fun s hs h1 h2 => by
      rw [DiskM.quiet_cont hq]
      exact ⟨hpa.others s (DiskM.right_there hf.wf hs) (by rintro (h | h); exact h2 h; exact h1 h) wn wb, DiskM.cont_there hs⟩
    have hc1 := DiskM.quiet_cont (s := name) hq
    have hc2 : (((putP (m.doom n).1 name x).1.crash wn wb).read name).2 = DiskM.see (putP (m.doom n).1 name x).1 wn wb name := rfl
    obtain ⟨⟨old, f⟩, hcn⟩ : ∃ p, DiskM.cont m name = p := ⟨_, rfl⟩
    rw [hcn] at hc1
    by_cases hA : DiskM.see (putP (m.doom n).1 name x).1 wn wb name = (x, 0)
    · rw [hA] at hc2
      clear hp0 hpa
      have hl := hl.mono g3
      have hb := hb.mono g3
      have ht := ht.mono g3
      refine brD (fun db0 => by exfalso; omega) (fun db0 => ?_)
      refine dClone_ok h (by first | omega | (dsimp only; omega) | decide) (fun dv2 _ h => ?_)
      refine joinI ?_
      refine brF ?_
      refine wr ?_
      refine dDoom_ok (h.pick .n1) (by first | omega | (dsimp only; omega) | decide) (fun _ h => ?_)
      refine brN (fun db8 => by exfalso; omega) (fun db8 => ?_)
      refine dPut_ok h hsub (by first | omega | (dsimp only; omega) | decide) (fun dΓ10 _ dg12 h => ?_)
      have af27 := af27.mono dg12
      have hb3 := hb3.mono dg12
      have ht3 := ht3.mono dg12
      have hsub := hsub.mono dg12
      have hl := hl.mono dg12
      have hb := hb.mono dg12
      have ht := ht.mono dg12
      refine ldA2 _ _ h .n2 ?_
      refine dCrash_ok h (by first | omega | (dsimp only; omega) | decide) ht (fun _ h => ?_)
      refine dReadQuietIs_ok (h.pick .n1) hq hc1 (by first | omega | (dsimp only; omega) | decide) (fun dv18 dΓ19 _ dg21 df22 h => ?_)
      have af27 := af27.mono dg21
      have hb3 := hb3.mono dg21
      have ht3 := ht3.mono dg21
      have hsub := hsub.mono dg21
      have hl := hl.mono dg21
      have hb := hb.mono dg21
      have ht := ht.mono dg21
      obtain ⟨ldf22, mdf22, cdf22⟩ := df22.lens
      refine dReadQuietIs_ok (h.pick .n1) hq2 hA (by first | omega | (dsimp only; omega) | decide) (fun dv25 dΓ26 _ dg28 df29 h => ?_)
      have df22 := df22.mono dg28
      have af27 := af27.mono dg28
      have hb3 := hb3.mono dg28
      have ht3 := ht3.mono dg28
      have hsub := hsub.mono dg28
      have hl := hl.mono dg28
      have hb := hb.mono dg28
      have ht := ht.mono dg28
      obtain ⟨ldf29, mdf29, cdf29⟩ := df29.lens
      refine joinI ?_
      refine brT ?_
      refine btoS h df29 ?_
      refine btoS h hsub ?_
      refine joinI ?_
      refine brE (fun db31 => ?_) (fun db31 => ?_)
      dsimp only at db31
      refine btoS h df22 ?_
      refine btoS h df29 ?_
      refine joinI ?_
      refine brE (fun db32 => ?_) (fun db32 => ?_)
      refine brSn (fun db33 => absurd rfl db33) (fun db33 => ?_)
      refine brSn (fun db34 => absurd rfl db34) (fun db34 => ?_)
      refine namesP_ok (h.pick .n1) hq (by first | omega | (dsimp only; omega) | decide) (fun dv36 dΓ37 _ dg39 df40 h => ?_)
      have df29 := df29.mono dg39
      have df22 := df22.mono dg39
      have af27 := af27.mono dg39
      have hb3 := hb3.mono dg39
      have ht3 := ht3.mono dg39
      have hsub := hsub.mono dg39
      have hl := hl.mono dg39
      have hb := hb.mono dg39
      have ht := ht.mono dg39
      obtain ⟨ldf40, mdf40, cdf40⟩ := df40.lens
      rotate_left
      refine brSn (fun db42 => absurd rfl db42) (fun db42 => ?_)
      refine namesP_ok (h.pick .n1) hq (by first | omega | (dsimp only; omega) | decide) (fun dv44 dΓ45 _ dg47 df48 h => ?_)
      have df29 := df29.mono dg47
      have df22 := df22.mono dg47
      have af27 := af27.mono dg47
      have hb3 := hb3.mono dg47
      have ht3 := ht3.mono dg47
      have hsub := hsub.mono dg47
      have hl := hl.mono dg47
      have hb := hb.mono dg47
      have ht := ht.mono dg47
      obtain ⟨ldf48, mdf48, cdf48⟩ := df48.lens
      rotate_left
      dsimp only at db31
      refine joinI ?_
      refine brE (fun db50 => ?_) (fun db50 => ?_)
      refine brSn (fun db51 => absurd rfl db51) (fun db51 => ?_)
      refine brSn (fun db52 => absurd rfl db52) (fun db52 => ?_)
      refine namesP_ok (h.pick .n1) hq (by first | omega | (dsimp only; omega) | decide) (fun dv54 dΓ55 _ dg57 df58 h => ?_)
      have df29 := df29.mono dg57
      have df22 := df22.mono dg57
      have af27 := af27.mono dg57
      have hb3 := hb3.mono dg57
      have ht3 := ht3.mono dg57
      have hsub := hsub.mono dg57
      have hl := hl.mono dg57
      have hb := hb.mono dg57
      have ht := ht.mono dg57
      obtain ⟨ldf58, mdf58, cdf58⟩ := df58.lens
      rotate_left
      refine brSn (fun db60 => absurd rfl db60) (fun db60 => ?_)
      refine namesP_ok (h.pick .n1) hq (by first | omega | (dsimp only; omega) | decide) (fun dv62 dΓ63 _ dg65 df66 h => ?_)
      have df29 := df29.mono dg65
      have df22 := df22.mono dg65
      have af27 := af27.mono dg65
      have hb3 := hb3.mono dg65
      have ht3 := ht3.mono dg65
      have hsub := hsub.mono dg65
      have hl := hl.mono dg65
      have hb := hb.mono dg65
      have ht := ht.mono dg65
      obtain ⟨ldf66, mdf66, cdf66⟩ := df66.lens
      rotate_left
      · refine loop (σ := Int) (fun st w' c => ∃ (j : Nat) (Γ' : Mem), st = (j : Int) ∧ j ≤ (m.now.map Prod.fst).length ∧ c = (m.now.map Prod.fst).length - j ∧ dΓ37.le Γ' ∧ Sat Γ' (PDisk dv2 m :: PDisk av7 ((putP (m.doom n).1 name x).1.crash wn wb) :: blk ar0 (.cells #[.int .i64 wn, .slice t.p t.len t.cap] 81 (0, 0)) :: L) w') (m.now.map Prod.fst).length ⟨0, dΓ37, rfl, by omega, by omega, .refl _, h⟩ ?_
        clear h
        rintro _ w c ⟨j, Γ5, rfl, hj, hcj, g5, h⟩
        have df40 := df40.mono g5
        by_cases hjl : j < (m.now.map Prod.fst).length
        · obtain ⟨y, ey⟩ := get_lt hjl
          have hy := hno y (List.mem_of_getElem? ey)
          obtain ⟨⟨c1, d1⟩, hr1⟩ : ∃ p, (m.read y).2 = p := ⟨_, rfl⟩
          by_cases hy1 : y = name
          · obtain ⟨⟨c2, d2⟩, hr2⟩ : ∃ p, (((putP (m.doom n).1 name x).1.crash wn wb).read y).2 = p := ⟨_, rfl⟩
            have df29 := df29.mono g5
            have df22 := df22.mono g5
            have af27 := af27.mono g5
            have hb3 := hb3.mono g5
            have ht3 := ht3.mono g5
            have hsub := hsub.mono g5
            have hl := hl.mono g5
            have hb := hb.mono g5
            have ht := ht.mono g5
            refine brD (fun dfb0 => ?_) (fun dfb0 => by exfalso; omega)
            refine joinI ?_
            refine ⟨by omega, ?_⟩
            refine nnL h df40 (fun dfa1 dfha1 => ?_)
            refine ldL h df40 dfha1 ey (fun dfy2 dfhy2 => ?_)
            have dfhy2 : dfy2 = str y := dfhy2
            subst dfhy2
            refine dReadQuietIs_ok h hq hr1 (by first | omega | (dsimp only; omega) | decide) (fun dfv4 dfΓ5 _ dfg7 dff8 h => ?_)
            have df40 := df40.mono dfg7
            have df29 := df29.mono dfg7
            have df22 := df22.mono dfg7
            have af27 := af27.mono dfg7
            have hb3 := hb3.mono dfg7
            have ht3 := ht3.mono dfg7
            have hsub := hsub.mono dfg7
            have hl := hl.mono dfg7
            have hb := hb.mono dfg7
            have ht := ht.mono dfg7
            obtain ⟨ldff8, mdff8, cdff8⟩ := dff8.lens
            refine dReadQuietIs_ok (h.pick .n1) hq2 hr2 (by first | omega | (dsimp only; omega) | decide) (fun dfv11 dfΓ12 _ dfg14 dff15 h => ?_)
            have dff8 := dff8.mono dfg14
            have df40 := df40.mono dfg14
            have df29 := df29.mono dfg14
            have df22 := df22.mono dfg14
            have af27 := af27.mono dfg14
            have hb3 := hb3.mono dfg14
            have ht3 := ht3.mono dfg14
            have hsub := hsub.mono dfg14
            have hl := hl.mono dfg14
            have hb := hb.mono dfg14
            have ht := ht.mono dfg14
            obtain ⟨ldff15, mdff15, cdff15⟩ := dff15.lens
            refine brSn (fun dfb17 => ?_) (fun dfb17 => ?_)
            refine brSn (fun dfb18 => ?_) (fun dfb18 => ?_)
            refine brN (fun dfb19 => ?_) (fun dfb19 => ?_)
            dsimp only at dfb19
            refine ⟨_, rfl, ?_⟩
            contradiction
            dsimp only at dfb19
            refine btoS h dff8 ?_
            refine btoS h dff15 ?_
            refine brSn (fun dfb20 => ?_) (fun dfb20 => ?_)
            refine ⟨_, rfl, ?_⟩
            contradiction
            refine wrN (j + 1) ?_
            refine ⟨_, (by first | omega | rfl | (dsimp only; omega)), _, _, rfl, (by first | omega | rfl | (dsimp only; omega)), rfl, (g5.trans (dfg7.trans dfg14)), (((h.pick .n2).pick .n1).pick .n2)⟩
            refine wrN (j + 1) ?_
            refine ⟨_, (by first | omega | rfl | (dsimp only; omega)), _, _, rfl, (by first | omega | rfl | (dsimp only; omega)), rfl, (g5.trans (dfg7.trans dfg14)), (((h.pick .n2).pick .n1).pick .n2)⟩
            refine wrN (j + 1) ?_
            refine ⟨_, (by first | omega | rfl | (dsimp only; omega)), _, _, rfl, (by first | omega | rfl | (dsimp only; omega)), rfl, (g5.trans (dfg7.trans dfg14)), (((h.pick .n2).pick .n1).pick .n2)⟩
          · by_cases hy2 : y = [116, 109, 112]
            · obtain ⟨⟨c2, d2⟩, hr2⟩ : ∃ p, (((putP (m.doom n).1 name x).1.crash wn wb).read y).2 = p := ⟨_, rfl⟩
              have df29 := df29.mono g5
              have df22 := df22.mono g5
              have af27 := af27.mono g5
              have hb3 := hb3.mono g5
              have ht3 := ht3.mono g5
              have hsub := hsub.mono g5
              have hl := hl.mono g5
              have hb := hb.mono g5
              have ht := ht.mono g5
              refine brD (fun dgb0 => ?_) (fun dgb0 => by exfalso; omega)
              refine joinI ?_
              refine ⟨by omega, ?_⟩
              refine nnL h df40 (fun dga1 dgha1 => ?_)
              refine ldL h df40 dgha1 ey (fun dgy2 dghy2 => ?_)
              have dghy2 : dgy2 = str y := dghy2
              subst dghy2
              refine dReadQuietIs_ok h hq hr1 (by first | omega | (dsimp only; omega) | decide) (fun dgv4 dgΓ5 _ dgg7 dgf8 h => ?_)
              have df40 := df40.mono dgg7
              have df29 := df29.mono dgg7
              have df22 := df22.mono dgg7
              have af27 := af27.mono dgg7
              have hb3 := hb3.mono dgg7
              have ht3 := ht3.mono dgg7
              have hsub := hsub.mono dgg7
              have hl := hl.mono dgg7
              have hb := hb.mono dgg7
              have ht := ht.mono dgg7
              obtain ⟨ldgf8, mdgf8, cdgf8⟩ := dgf8.lens
              refine dReadQuietIs_ok (h.pick .n1) hq2 hr2 (by first | omega | (dsimp only; omega) | decide) (fun dgv11 dgΓ12 _ dgg14 dgf15 h => ?_)
              have dgf8 := dgf8.mono dgg14
              have df40 := df40.mono dgg14
              have df29 := df29.mono dgg14
              have df22 := df22.mono dgg14
              have af27 := af27.mono dgg14
              have hb3 := hb3.mono dgg14
              have ht3 := ht3.mono dgg14
              have hsub := hsub.mono dgg14
              have hl := hl.mono dgg14
              have hb := hb.mono dgg14
              have ht := ht.mono dgg14
              obtain ⟨ldgf15, mdgf15, cdgf15⟩ := dgf15.lens
              refine brSn (fun dgb17 => ?_) (fun dgb17 => ?_)
              refine brSn (fun dgb18 => ?_) (fun dgb18 => ?_)
              refine brN (fun dgb19 => ?_) (fun dgb19 => ?_)
              dsimp only at dgb19
              refine ⟨_, rfl, ?_⟩
              contradiction
              dsimp only at dgb19
              refine btoS h dgf8 ?_
              refine btoS h dgf15 ?_
              refine brSn (fun dgb20 => ?_) (fun dgb20 => ?_)
              refine ⟨_, rfl, ?_⟩
              contradiction
              refine wrN (j + 1) ?_
              refine ⟨_, (by first | omega | rfl | (dsimp only; omega)), _, _, rfl, (by first | omega | rfl | (dsimp only; omega)), rfl, (g5.trans (dgg7.trans dgg14)), (((h.pick .n2).pick .n1).pick .n2)⟩
              refine wrN (j + 1) ?_
              refine ⟨_, (by first | omega | rfl | (dsimp only; omega)), _, _, rfl, (by first | omega | rfl | (dsimp only; omega)), rfl, (g5.trans (dgg7.trans dgg14)), (((h.pick .n2).pick .n1).pick .n2)⟩
              refine wrN (j + 1) ?_
              refine ⟨_, (by first | omega | rfl | (dsimp only; omega)), _, _, rfl, (by first | omega | rfl | (dsimp only; omega)), rfl, (g5.trans (dgg7.trans dgg14)), (((h.pick .n2).pick .n1).pick .n2)⟩
            · obtain ⟨hr2, hd1⟩ := hy hy1 hy2
              rw [hr1] at hr2 hd1
              have hd1 : d1 = 0 := hd1
              have df29 := df29.mono g5
              have df22 := df22.mono g5
              have af27 := af27.mono g5
              have hb3 := hb3.mono g5
              have ht3 := ht3.mono g5
              have hsub := hsub.mono g5
              have hl := hl.mono g5
              have hb := hb.mono g5
              have ht := ht.mono g5
              refine brD (fun dib0 => ?_) (fun dib0 => by exfalso; omega)
              refine joinI ?_
              refine ⟨by omega, ?_⟩
              refine nnL h df40 (fun dia1 diha1 => ?_)
              refine ldL h df40 diha1 ey (fun diy2 dihy2 => ?_)
              have dihy2 : diy2 = str y := dihy2
              subst dihy2
              refine dReadQuietIs_ok h hq hr1 (by first | omega | (dsimp only; omega) | decide) (fun div4 diΓ5 _ dig7 dif8 h => ?_)
              have df40 := df40.mono dig7
              have df29 := df29.mono dig7
              have df22 := df22.mono dig7
              have af27 := af27.mono dig7
              have hb3 := hb3.mono dig7
              have ht3 := ht3.mono dig7
              have hsub := hsub.mono dig7
              have hl := hl.mono dig7
              have hb := hb.mono dig7
              have ht := ht.mono dig7
              obtain ⟨ldif8, mdif8, cdif8⟩ := dif8.lens
              refine dReadQuietIs_ok (h.pick .n1) hq2 hr2 (by first | omega | (dsimp only; omega) | decide) (fun div11 diΓ12 _ dig14 dif15 h => ?_)
              have dif8 := dif8.mono dig14
              have df40 := df40.mono dig14
              have df29 := df29.mono dig14
              have df22 := df22.mono dig14
              have af27 := af27.mono dig14
              have hb3 := hb3.mono dig14
              have ht3 := ht3.mono dig14
              have hsub := hsub.mono dig14
              have hl := hl.mono dig14
              have hb := hb.mono dig14
              have ht := ht.mono dig14
              obtain ⟨ldif15, mdif15, cdif15⟩ := dif15.lens
              refine brSn (fun dib17 => ?_) (fun dib17 => ?_)
              refine brSn (fun dib18 => ?_) (fun dib18 => ?_)
              refine brN (fun dib19 => by exfalso; omega) (fun dib19 => ?_)
              dsimp only at dib19
              refine btoS h dif8 ?_
              refine btoS h dif15 ?_
              refine brSn (fun dib20 => absurd rfl dib20) (fun dib20 => ?_)
              refine wrN (j + 1) ?_
              refine ⟨_, (by first | omega | rfl | (dsimp only; omega)), _, _, rfl, (by first | omega | rfl | (dsimp only; omega)), rfl, (g5.trans (dig7.trans dig14)), (((h.pick .n2).pick .n1).pick .n2)⟩
              refine wrN (j + 1) ?_
              refine ⟨_, (by first | omega | rfl | (dsimp only; omega)), _, _, rfl, (by first | omega | rfl | (dsimp only; omega)), rfl, (g5.trans (dig7.trans dig14)), (((h.pick .n2).pick .n1).pick .n2)⟩
              refine wrN (j + 1) ?_
              refine ⟨_, (by first | omega | rfl | (dsimp only; omega)), _, _, rfl, (by first | omega | rfl | (dsimp only; omega)), rfl, (g5.trans (dig7.trans dig14)), (((h.pick .n2).pick .n1).pick .n2)⟩
        · have df29 := df29.mono g5
          have df22 := df22.mono g5
          have af27 := af27.mono g5
          have hb3 := hb3.mono g5
          have ht3 := ht3.mono g5
          have hsub := hsub.mono g5
          have hl := hl.mono g5
          have hb := hb.mono g5
          have ht := ht.mono g5
          refine brD (fun djb0 => by exfalso; omega) (fun djb0 => ?_)
          refine ⟨_, rfl, ?_⟩
          refine k _ _ (ag4.trans (ag11.trans (ag26.trans (g3.trans (dg12.trans (dg21.trans (dg28.trans (dg39.trans g5)))))))) h.drop.drop.drop
      · refine loop (σ := Int) (fun st w' c => ∃ (j : Nat) (Γ' : Mem), st = (j : Int) ∧ j ≤ (m.now.map Prod.fst).length ∧ c = (m.now.map Prod.fst).length - j ∧ dΓ45.le Γ' ∧ Sat Γ' (PDisk dv2 m :: PDisk av7 ((putP (m.doom n).1 name x).1.crash wn wb) :: blk ar0 (.cells #[.int .i64 wn, .slice t.p t.len t.cap] 81 (0, 0)) :: L) w') (m.now.map Prod.fst).length ⟨0, dΓ45, rfl, by omega, by omega, .refl _, h⟩ ?_
        clear h
        rintro _ w c ⟨j, Γ5, rfl, hj, hcj, g5, h⟩
        have df48 := df48.mono g5
        by_cases hjl : j < (m.now.map Prod.fst).length
        · obtain ⟨y, ey⟩ := get_lt hjl
          have hy := hno y (List.mem_of_getElem? ey)
          obtain ⟨⟨c1, d1⟩, hr1⟩ : ∃ p, (m.read y).2 = p := ⟨_, rfl⟩
          by_cases hy1 : y = name
          · obtain ⟨⟨c2, d2⟩, hr2⟩ : ∃ p, (((putP (m.doom n).1 name x).1.crash wn wb).read y).2 = p := ⟨_, rfl⟩
            have df29 := df29.mono g5
            have df22 := df22.mono g5
            have af27 := af27.mono g5
            have hb3 := hb3.mono g5
            have ht3 := ht3.mono g5
            have hsub := hsub.mono g5
            have hl := hl.mono g5
            have hb := hb.mono g5
            have ht := ht.mono g5
            refine brD (fun dfb0 => ?_) (fun dfb0 => by exfalso; omega)
            refine joinI ?_
            refine ⟨by omega, ?_⟩
            refine nnL h df48 (fun dfa1 dfha1 => ?_)
            refine ldL h df48 dfha1 ey (fun dfy2 dfhy2 => ?_)
            have dfhy2 : dfy2 = str y := dfhy2
            subst dfhy2
            refine dReadQuietIs_ok h hq hr1 (by first | omega | (dsimp only; omega) | decide) (fun dfv4 dfΓ5 _ dfg7 dff8 h => ?_)
            have df48 := df48.mono dfg7
            have df29 := df29.mono dfg7
            have df22 := df22.mono dfg7
            have af27 := af27.mono dfg7
            have hb3 := hb3.mono dfg7
            have ht3 := ht3.mono dfg7
            have hsub := hsub.mono dfg7
            have hl := hl.mono dfg7
            have hb := hb.mono dfg7
            have ht := ht.mono dfg7
            obtain ⟨ldff8, mdff8, cdff8⟩ := dff8.lens
            refine dReadQuietIs_ok (h.pick .n1) hq2 hr2 (by first | omega | (dsimp only; omega) | decide) (fun dfv11 dfΓ12 _ dfg14 dff15 h => ?_)
            have dff8 := dff8.mono dfg14
            have df48 := df48.mono dfg14
            have df29 := df29.mono dfg14
            have df22 := df22.mono dfg14
            have af27 := af27.mono dfg14
            have hb3 := hb3.mono dfg14
            have ht3 := ht3.mono dfg14
            have hsub := hsub.mono dfg14
            have hl := hl.mono dfg14
            have hb := hb.mono dfg14
            have ht := ht.mono dfg14
            obtain ⟨ldff15, mdff15, cdff15⟩ := dff15.lens
            refine brSn (fun dfb17 => ?_) (fun dfb17 => ?_)
            refine brSn (fun dfb18 => ?_) (fun dfb18 => ?_)
            refine brN (fun dfb19 => ?_) (fun dfb19 => ?_)
            dsimp only at dfb19
            refine ⟨_, rfl, ?_⟩
            contradiction
            dsimp only at dfb19
            refine btoS h dff8 ?_
            refine btoS h dff15 ?_
            refine brSn (fun dfb20 => ?_) (fun dfb20 => ?_)
            refine ⟨_, rfl, ?_⟩
            contradiction
            refine wrN (j + 1) ?_
            refine ⟨_, (by first | omega | rfl | (dsimp only; omega)), _, _, rfl, (by first | omega | rfl | (dsimp only; omega)), rfl, (g5.trans (dfg7.trans dfg14)), (((h.pick .n2).pick .n1).pick .n2)⟩
            refine wrN (j + 1) ?_
            refine ⟨_, (by first | omega | rfl | (dsimp only; omega)), _, _, rfl, (by first | omega | rfl | (dsimp only; omega)), rfl, (g5.trans (dfg7.trans dfg14)), (((h.pick .n2).pick .n1).pick .n2)⟩
            refine wrN (j + 1) ?_
            refine ⟨_, (by first | omega | rfl | (dsimp only; omega)), _, _, rfl, (by first | omega | rfl | (dsimp only; omega)), rfl, (g5.trans (dfg7.trans dfg14)), (((h.pick .n2).pick .n1).pick .n2)⟩
          · by_cases hy2 : y = [116, 109, 112]
            · obtain ⟨⟨c2, d2⟩, hr2⟩ : ∃ p, (((putP (m.doom n).1 name x).1.crash wn wb).read y).2 = p := ⟨_, rfl⟩
              have df29 := df29.mono g5
              have df22 := df22.mono g5
              have af27 := af27.mono g5
              have hb3 := hb3.mono g5
              have ht3 := ht3.mono g5
              have hsub := hsub.mono g5
              have hl := hl.mono g5
              have hb := hb.mono g5
              have ht := ht.mono g5
              refine brD (fun dgb0 => ?_) (fun dgb0 => by exfalso; omega)
              refine joinI ?_
              refine ⟨by omega, ?_⟩
              refine nnL h df48 (fun dga1 dgha1 => ?_)
              refine ldL h df48 dgha1 ey (fun dgy2 dghy2 => ?_)
              have dghy2 : dgy2 = str y := dghy2
              subst dghy2
              refine dReadQuietIs_ok h hq hr1 (by first | omega | (dsimp only; omega) | decide) (fun dgv4 dgΓ5 _ dgg7 dgf8 h => ?_)
              have df48 := df48.mono dgg7
              have df29 := df29.mono dgg7
              have df22 := df22.mono dgg7
              have af27 := af27.mono dgg7
              have hb3 := hb3.mono dgg7
              have ht3 := ht3.mono dgg7
              have hsub := hsub.mono dgg7
              have hl := hl.mono dgg7
              have hb := hb.mono dgg7
              have ht := ht.mono dgg7
              obtain ⟨ldgf8, mdgf8, cdgf8⟩ := dgf8.lens
              refine dReadQuietIs_ok (h.pick .n1) hq2 hr2 (by first | omega | (dsimp only; omega) | decide) (fun dgv11 dgΓ12 _ dgg14 dgf15 h => ?_)
              have dgf8 := dgf8.mono dgg14
              have df48 := df48.mono dgg14
              have df29 := df29.mono dgg14
              have df22 := df22.mono dgg14
              have af27 := af27.mono dgg14
              have hb3 := hb3.mono dgg14
              have ht3 := ht3.mono dgg14
              have hsub := hsub.mono dgg14
              have hl := hl.mono dgg14
              have hb := hb.mono dgg14
              have ht := ht.mono dgg14
              obtain ⟨ldgf15, mdgf15, cdgf15⟩ := dgf15.lens
              refine brSn (fun dgb17 => ?_) (fun dgb17 => ?_)
              refine brSn (fun dgb18 => ?_) (fun dgb18 => ?_)
              refine brN (fun dgb19 => ?_) (fun dgb19 => ?_)
              dsimp only at dgb19
              refine ⟨_, rfl, ?_⟩
              contradiction
              dsimp only at dgb19
              refine btoS h dgf8 ?_
              refine btoS h dgf15 ?_
              refine brSn (fun dgb20 => ?_) (fun dgb20 => ?_)
              refine ⟨_, rfl, ?_⟩
              contradiction
              refine wrN (j + 1) ?_
              refine ⟨_, (by first | omega | rfl | (dsimp only; omega)), _, _, rfl, (by first | omega | rfl | (dsimp only; omega)), rfl, (g5.trans (dgg7.trans dgg14)), (((h.pick .n2).pick .n1).pick .n2)⟩
              refine wrN (j + 1) ?_
              refine ⟨_, (by first | omega | rfl | (dsimp only; omega)), _, _, rfl, (by first | omega | rfl | (dsimp only; omega)), rfl, (g5.trans (dgg7.trans dgg14)), (((h.pick .n2).pick .n1).pick .n2)⟩
              refine wrN (j + 1) ?_
              refine ⟨_, (by first | omega | rfl | (dsimp only; omega)), _, _, rfl, (by first | omega | rfl | (dsimp only; omega)), rfl, (g5.trans (dgg7.trans dgg14)), (((h.pick .n2).pick .n1).pick .n2)⟩
            · obtain ⟨hr2, hd1⟩ := hy hy1 hy2
              rw [hr1] at hr2 hd1
              have hd1 : d1 = 0 := hd1
              have df29 := df29.mono g5
              have df22 := df22.mono g5
              have af27 := af27.mono g5
              have hb3 := hb3.mono g5
              have ht3 := ht3.mono g5
              have hsub := hsub.mono g5
              have hl := hl.mono g5
              have hb := hb.mono g5
              have ht := ht.mono g5
              refine brD (fun dib0 => ?_) (fun dib0 => by exfalso; omega)
              refine joinI ?_
              refine ⟨by omega, ?_⟩
              refine nnL h df48 (fun dia1 diha1 => ?_)
              refine ldL h df48 diha1 ey (fun diy2 dihy2 => ?_)
              have dihy2 : diy2 = str y := dihy2
              subst dihy2
              refine dReadQuietIs_ok h hq hr1 (by first | omega | (dsimp only; omega) | decide) (fun div4 diΓ5 _ dig7 dif8 h => ?_)
              have df48 := df48.mono dig7
              have df29 := df29.mono dig7
              have df22 := df22.mono dig7
              have af27 := af27.mono dig7
              have hb3 := hb3.mono dig7
              have ht3 := ht3.mono dig7
              have hsub := hsub.mono dig7
              have hl := hl.mono dig7
              have hb := hb.mono dig7
              have ht := ht.mono dig7
              obtain ⟨ldif8, mdif8, cdif8⟩ := dif8.lens
              refine dReadQuietIs_ok (h.pick .n1) hq2 hr2 (by first | omega | (dsimp only; omega) | decide) (fun div11 diΓ12 _ dig14 dif15 h => ?_)
              have dif8 := dif8.mono dig14
              have df48 := df48.mono dig14
              have df29 := df29.mono dig14
              have df22 := df22.mono dig14
              have af27 := af27.mono dig14
              have hb3 := hb3.mono dig14
              have ht3 := ht3.mono dig14
              have hsub := hsub.mono dig14
              have hl := hl.mono dig14
              have hb := hb.mono dig14
              have ht := ht.mono dig14
              obtain ⟨ldif15, mdif15, cdif15⟩ := dif15.lens
              refine brSn (fun dib17 => ?_) (fun dib17 => ?_)
              refine brSn (fun dib18 => ?_) (fun dib18 => ?_)
              refine brN (fun dib19 => by exfalso; omega) (fun dib19 => ?_)
              dsimp only at dib19
              refine btoS h dif8 ?_
              refine btoS h dif15 ?_
              refine brSn (fun dib20 => absurd rfl dib20) (fun dib20 => ?_)
              refine wrN (j + 1) ?_
              refine ⟨_, (by first | omega | rfl | (dsimp only; omega)), _, _, rfl, (by first | omega | rfl | (dsimp only; omega)), rfl, (g5.trans (dig7.trans dig14)), (((h.pick .n2).pick .n1).pick .n2)⟩
              refine wrN (j + 1) ?_
              refine ⟨_, (by first | omega | rfl | (dsimp only; omega)), _, _, rfl, (by first | omega | rfl | (dsimp only; omega)), rfl, (g5.trans (dig7.trans dig14)), (((h.pick .n2).pick .n1).pick .n2)⟩
              refine wrN (j + 1) ?_
              refine ⟨_, (by first | omega | rfl | (dsimp only; omega)), _, _, rfl, (by first | omega | rfl | (dsimp only; omega)), rfl, (g5.trans (dig7.trans dig14)), (((h.pick .n2).pick .n1).pick .n2)⟩
        · have df29 := df29.mono g5
          have df22 := df22.mono g5
          have af27 := af27.mono g5
          have hb3 := hb3.mono g5
          have ht3 := ht3.mono g5
          have hsub := hsub.mono g5
          have hl := hl.mono g5
          have hb := hb.mono g5
          have ht := ht.mono g5
          refine brD (fun djb0 => by exfalso; omega) (fun djb0 => ?_)
          refine ⟨_, rfl, ?_⟩
          refine k _ _ (ag4.trans (ag11.trans (ag26.trans (g3.trans (dg12.trans (dg21.trans (dg28.trans (dg47.trans g5)))))))) h.drop.drop.drop
      · refine loop (σ := Int) (fun st w' c => ∃ (j : Nat) (Γ' : Mem), st = (j : Int) ∧ j ≤ (m.now.map Prod.fst).length ∧ c = (m.now.map Prod.fst).length - j ∧ dΓ55.le Γ' ∧ Sat Γ' (PDisk dv2 m :: PDisk av7 ((putP (m.doom n).1 name x).1.crash wn wb) :: blk ar0 (.cells #[.int .i64 wn, .slice t.p t.len t.cap] 81 (0, 0)) :: L) w') (m.now.map Prod.fst).length ⟨0, dΓ55, rfl, by omega, by omega, .refl _, h⟩ ?_
        clear h
        rintro _ w c ⟨j, Γ5, rfl, hj, hcj, g5, h⟩
        have df58 := df58.mono g5
        by_cases hjl : j < (m.now.map Prod.fst).length
        · obtain ⟨y, ey⟩ := get_lt hjl
          have hy := hno y (List.mem_of_getElem? ey)
          obtain ⟨⟨c1, d1⟩, hr1⟩ : ∃ p, (m.read y).2 = p := ⟨_, rfl⟩
          by_cases hy1 : y = name
          · obtain ⟨⟨c2, d2⟩, hr2⟩ : ∃ p, (((putP (m.doom n).1 name x).1.crash wn wb).read y).2 = p := ⟨_, rfl⟩
            have df29 := df29.mono g5
            have df22 := df22.mono g5
            have af27 := af27.mono g5
            have hb3 := hb3.mono g5
            have ht3 := ht3.mono g5
            have hsub := hsub.mono g5
            have hl := hl.mono g5
            have hb := hb.mono g5
            have ht := ht.mono g5
            refine brD (fun dfb0 => ?_) (fun dfb0 => by exfalso; omega)
            refine joinI ?_
            refine ⟨by omega, ?_⟩
            refine nnL h df58 (fun dfa1 dfha1 => ?_)
            refine ldL h df58 dfha1 ey (fun dfy2 dfhy2 => ?_)
            have dfhy2 : dfy2 = str y := dfhy2
            subst dfhy2
            refine dReadQuietIs_ok h hq hr1 (by first | omega | (dsimp only; omega) | decide) (fun dfv4 dfΓ5 _ dfg7 dff8 h => ?_)
            have df58 := df58.mono dfg7
            have df29 := df29.mono dfg7
            have df22 := df22.mono dfg7
            have af27 := af27.mono dfg7
            have hb3 := hb3.mono dfg7
            have ht3 := ht3.mono dfg7
            have hsub := hsub.mono dfg7
            have hl := hl.mono dfg7
            have hb := hb.mono dfg7
            have ht := ht.mono dfg7
            obtain ⟨ldff8, mdff8, cdff8⟩ := dff8.lens
            refine dReadQuietIs_ok (h.pick .n1) hq2 hr2 (by first | omega | (dsimp only; omega) | decide) (fun dfv11 dfΓ12 _ dfg14 dff15 h => ?_)
            have dff8 := dff8.mono dfg14
            have df58 := df58.mono dfg14
            have df29 := df29.mono dfg14
            have df22 := df22.mono dfg14
            have af27 := af27.mono dfg14
            have hb3 := hb3.mono dfg14
            have ht3 := ht3.mono dfg14
            have hsub := hsub.mono dfg14
            have hl := hl.mono dfg14
            have hb := hb.mono dfg14
            have ht := ht.mono dfg14
            obtain ⟨ldff15, mdff15, cdff15⟩ := dff15.lens
            refine brSn (fun dfb17 => ?_) (fun dfb17 => ?_)
            refine brSn (fun dfb18 => ?_) (fun dfb18 => ?_)
            refine brN (fun dfb19 => ?_) (fun dfb19 => ?_)
            dsimp only at dfb19
            refine ⟨_, rfl, ?_⟩
            contradiction
            dsimp only at dfb19
            refine btoS h dff8 ?_
            refine btoS h dff15 ?_
            refine brSn (fun dfb20 => ?_) (fun dfb20 => ?_)
            refine ⟨_, rfl, ?_⟩
            contradiction
            refine wrN (j + 1) ?_
            refine ⟨_, (by first | omega | rfl | (dsimp only; omega)), _, _, rfl, (by first | omega | rfl | (dsimp only; omega)), rfl, (g5.trans (dfg7.trans dfg14)), (((h.pick .n2).pick .n1).pick .n2)⟩
            refine wrN (j + 1) ?_
            refine ⟨_, (by first | omega | rfl | (dsimp only; omega)), _, _, rfl, (by first | omega | rfl | (dsimp only; omega)), rfl, (g5.trans (dfg7.trans dfg14)), (((h.pick .n2).pick .n1).pick .n2)⟩
            refine wrN (j + 1) ?_
            refine ⟨_, (by first | omega | rfl | (dsimp only; omega)), _, _, rfl, (by first | omega | rfl | (dsimp only; omega)), rfl, (g5.trans (dfg7.trans dfg14)), (((h.pick .n2).pick .n1).pick .n2)⟩
          · by_cases hy2 : y = [116, 109, 112]
            · obtain ⟨⟨c2, d2⟩, hr2⟩ : ∃ p, (((putP (m.doom n).1 name x).1.crash wn wb).read y).2 = p := ⟨_, rfl⟩
              have df29 := df29.mono g5
              have df22 := df22.mono g5
              have af27 := af27.mono g5
              have hb3 := hb3.mono g5
              have ht3 := ht3.mono g5
              have hsub := hsub.mono g5
              have hl := hl.mono g5
              have hb := hb.mono g5
              have ht := ht.mono g5
              refine brD (fun dgb0 => ?_) (fun dgb0 => by exfalso; omega)
              refine joinI ?_
              refine ⟨by omega, ?_⟩
              refine nnL h df58 (fun dga1 dgha1 => ?_)
              refine ldL h df58 dgha1 ey (fun dgy2 dghy2 => ?_)
              have dghy2 : dgy2 = str y := dghy2
              subst dghy2
              refine dReadQuietIs_ok h hq hr1 (by first | omega | (dsimp only; omega) | decide) (fun dgv4 dgΓ5 _ dgg7 dgf8 h => ?_)
              have df58 := df58.mono dgg7
              have df29 := df29.mono dgg7
              have df22 := df22.mono dgg7
              have af27 := af27.mono dgg7
              have hb3 := hb3.mono dgg7
              have ht3 := ht3.mono dgg7
              have hsub := hsub.mono dgg7
              have hl := hl.mono dgg7
              have hb := hb.mono dgg7
              have ht := ht.mono dgg7
              obtain ⟨ldgf8, mdgf8, cdgf8⟩ := dgf8.lens
              refine dReadQuietIs_ok (h.pick .n1) hq2 hr2 (by first | omega | (dsimp only; omega) | decide) (fun dgv11 dgΓ12 _ dgg14 dgf15 h => ?_)
              have dgf8 := dgf8.mono dgg14
              have df58 := df58.mono dgg14
              have df29 := df29.mono dgg14
              have df22 := df22.mono dgg14
              have af27 := af27.mono dgg14
              have hb3 := hb3.mono dgg14
              have ht3 := ht3.mono dgg14
              have hsub := hsub.mono dgg14
              have hl := hl.mono dgg14
              have hb := hb.mono dgg14
              have ht := ht.mono dgg14
              obtain ⟨ldgf15, mdgf15, cdgf15⟩ := dgf15.lens
              refine brSn (fun dgb17 => ?_) (fun dgb17 => ?_)
              refine brSn (fun dgb18 => ?_) (fun dgb18 => ?_)
              refine brN (fun dgb19 => ?_) (fun dgb19 => ?_)
              dsimp only at dgb19
              refine ⟨_, rfl, ?_⟩
              contradiction
              dsimp only at dgb19
              refine btoS h dgf8 ?_
              refine btoS h dgf15 ?_
              refine brSn (fun dgb20 => ?_) (fun dgb20 => ?_)
              refine ⟨_, rfl, ?_⟩
              contradiction
              refine wrN (j + 1) ?_
              refine ⟨_, (by first | omega | rfl | (dsimp only; omega)), _, _, rfl, (by first | omega | rfl | (dsimp only; omega)), rfl, (g5.trans (dgg7.trans dgg14)), (((h.pick .n2).pick .n1).pick .n2)⟩
              refine wrN (j + 1) ?_
              refine ⟨_, (by first | omega | rfl | (dsimp only; omega)), _, _, rfl, (by first | omega | rfl | (dsimp only; omega)), rfl, (g5.trans (dgg7.trans dgg14)), (((h.pick .n2).pick .n1).pick .n2)⟩
              refine wrN (j + 1) ?_
              refine ⟨_, (by first | omega | rfl | (dsimp only; omega)), _, _, rfl, (by first | omega | rfl | (dsimp only; omega)), rfl, (g5.trans (dgg7.trans dgg14)), (((h.pick .n2).pick .n1).pick .n2)⟩
            · obtain ⟨hr2, hd1⟩ := hy hy1 hy2
              rw [hr1] at hr2 hd1
              have hd1 : d1 = 0 := hd1
              have df29 := df29.mono g5
              have df22 := df22.mono g5
              have af27 := af27.mono g5
              have hb3 := hb3.mono g5
              have ht3 := ht3.mono g5
              have hsub := hsub.mono g5
              have hl := hl.mono g5
              have hb := hb.mono g5
              have ht := ht.mono g5
              refine brD (fun dib0 => ?_) (fun dib0 => by exfalso; omega)
              refine joinI ?_
              refine ⟨by omega, ?_⟩
              refine nnL h df58 (fun dia1 diha1 => ?_)
              refine ldL h df58 diha1 ey (fun diy2 dihy2 => ?_)
              have dihy2 : diy2 = str y := dihy2
              subst dihy2
              refine dReadQuietIs_ok h hq hr1 (by first | omega | (dsimp only; omega) | decide) (fun div4 diΓ5 _ dig7 dif8 h => ?_)
              have df58 := df58.mono dig7
              have df29 := df29.mono dig7
              have df22 := df22.mono dig7
              have af27 := af27.mono dig7
              have hb3 := hb3.mono dig7
              have ht3 := ht3.mono dig7
              have hsub := hsub.mono dig7
              have hl := hl.mono dig7
              have hb := hb.mono dig7
              have ht := ht.mono dig7
              obtain ⟨ldif8, mdif8, cdif8⟩ := dif8.lens
              refine dReadQuietIs_ok (h.pick .n1) hq2 hr2 (by first | omega | (dsimp only; omega) | decide) (fun div11 diΓ12 _ dig14 dif15 h => ?_)
              have dif8 := dif8.mono dig14
              have df58 := df58.mono dig14
              have df29 := df29.mono dig14
              have df22 := df22.mono dig14
              have af27 := af27.mono dig14
              have hb3 := hb3.mono dig14
              have ht3 := ht3.mono dig14
              have hsub := hsub.mono dig14
              have hl := hl.mono dig14
              have hb := hb.mono dig14
              have ht := ht.mono dig14
              obtain ⟨ldif15, mdif15, cdif15⟩ := dif15.lens
              refine brSn (fun dib17 => ?_) (fun dib17 => ?_)
              refine brSn (fun dib18 => ?_) (fun dib18 => ?_)
              refine brN (fun dib19 => by exfalso; omega) (fun dib19 => ?_)
              dsimp only at dib19
              refine btoS h dif8 ?_
              refine btoS h dif15 ?_
              refine brSn (fun dib20 => absurd rfl dib20) (fun dib20 => ?_)
              refine wrN (j + 1) ?_
              refine ⟨_, (by first | omega | rfl | (dsimp only; omega)), _, _, rfl, (by first | omega | rfl | (dsimp only; omega)), rfl, (g5.trans (dig7.trans dig14)), (((h.pick .n2).pick .n1).pick .n2)⟩
              refine wrN (j + 1) ?_
              refine ⟨_, (by first | omega | rfl | (dsimp only; omega)), _, _, rfl, (by first | omega | rfl | (dsimp only; omega)), rfl, (g5.trans (dig7.trans dig14)), (((h.pick .n2).pick .n1).pick .n2)⟩
              refine wrN (j + 1) ?_
              refine ⟨_, (by first | omega | rfl | (dsimp only; omega)), _, _, rfl, (by first | omega | rfl | (dsimp only; omega)), rfl, (g5.trans (dig7.trans dig14)), (((h.pick .n2).pick .n1).pick .n2)⟩
        · have df29 := df29.mono g5
          have df22 := df22.mono g5
          have af27 := af27.mono g5
          have hb3 := hb3.mono g5
          have ht3 := ht3.mono g5
          have hsub := hsub.mono g5
          have hl := hl.mono g5
          have hb := hb.mono g5
          have ht := ht.mono g5
          refine brD (fun djb0 => by exfalso; omega) (fun djb0 => ?_)
          refine ⟨_, rfl, ?_⟩
          refine k _ _ (ag4.trans (ag11.trans (ag26.trans (g3.trans (dg12.trans (dg21.trans (dg28.trans (dg57.trans g5)))))))) h.drop.drop.drop
      · refine loop (σ := Int) (fun st w' c => ∃ (j : Nat) (Γ' : Mem), st = (j : Int) ∧ j ≤ (m.now.map Prod.fst).length ∧ c = (m.now.map Prod.fst).length - j ∧ dΓ63.le Γ' ∧ Sat Γ' (PDisk dv2 m :: PDisk av7 ((putP (m.doom n).1 name x).1.crash wn wb) :: blk ar0 (.cells #[.int .i64 wn, .slice t.p t.len t.cap] 81 (0, 0)) :: L) w') (m.now.map Prod.fst).length ⟨0, dΓ63, rfl, by omega, by omega, .refl _, h⟩ ?_
        clear h
        rintro _ w c ⟨j, Γ5, rfl, hj, hcj, g5, h⟩
        have df66 := df66.mono g5
        by_cases hjl : j < (m.now.map Prod.fst).length
        · obtain ⟨y, ey⟩ := get_lt hjl
          have hy := hno y (List.mem_of_getElem? ey)
          obtain ⟨⟨c1, d1⟩, hr1⟩ : ∃ p, (m.read y).2 = p := ⟨_, rfl⟩
          by_cases hy1 : y = name
          · obtain ⟨⟨c2, d2⟩, hr2⟩ : ∃ p, (((putP (m.doom n).1 name x).1.crash wn wb).read y).2 = p := ⟨_, rfl⟩
            have df29 := df29.mono g5
            have df22 := df22.mono g5
            have af27 := af27.mono g5
            have hb3 := hb3.mono g5
            have ht3 := ht3.mono g5
            have hsub := hsub.mono g5
            have hl := hl.mono g5
            have hb := hb.mono g5
            have ht := ht.mono g5
            refine brD (fun dfb0 => ?_) (fun dfb0 => by exfalso; omega)
            refine joinI ?_
            refine ⟨by omega, ?_⟩
            refine nnL h df66 (fun dfa1 dfha1 => ?_)
            refine ldL h df66 dfha1 ey (fun dfy2 dfhy2 => ?_)
            have dfhy2 : dfy2 = str y := dfhy2
            subst dfhy2
            refine dReadQuietIs_ok h hq hr1 (by first | omega | (dsimp only; omega) | decide) (fun dfv4 dfΓ5 _ dfg7 dff8 h => ?_)
            have df66 := df66.mono dfg7
            have df29 := df29.mono dfg7
            have df22 := df22.mono dfg7
            have af27 := af27.mono dfg7
            have hb3 := hb3.mono dfg7
            have ht3 := ht3.mono dfg7
            have hsub := hsub.mono dfg7
            have hl := hl.mono dfg7
            have hb := hb.mono dfg7
            have ht := ht.mono dfg7
            obtain ⟨ldff8, mdff8, cdff8⟩ := dff8.lens
            refine dReadQuietIs_ok (h.pick .n1) hq2 hr2 (by first | omega | (dsimp only; omega) | decide) (fun dfv11 dfΓ12 _ dfg14 dff15 h => ?_)
            have dff8 := dff8.mono dfg14
            have df66 := df66.mono dfg14
            have df29 := df29.mono dfg14
            have df22 := df22.mono dfg14
            have af27 := af27.mono dfg14
            have hb3 := hb3.mono dfg14
            have ht3 := ht3.mono dfg14
            have hsub := hsub.mono dfg14
            have hl := hl.mono dfg14
            have hb := hb.mono dfg14
            have ht := ht.mono dfg14
            obtain ⟨ldff15, mdff15, cdff15⟩ := dff15.lens
            refine brSn (fun dfb17 => ?_) (fun dfb17 => ?_)
            refine brSn (fun dfb18 => ?_) (fun dfb18 => ?_)
            refine brN (fun dfb19 => ?_) (fun dfb19 => ?_)
            dsimp only at dfb19
            refine ⟨_, rfl, ?_⟩
            contradiction
            dsimp only at dfb19
            refine btoS h dff8 ?_
            refine btoS h dff15 ?_
            refine brSn (fun dfb20 => ?_) (fun dfb20 => ?_)
            refine ⟨_, rfl, ?_⟩
            contradiction
            refine wrN (j + 1) ?_
            refine ⟨_, (by first | omega | rfl | (dsimp only; omega)), _, _, rfl, (by first | omega | rfl | (dsimp only; omega)), rfl, (g5.trans (dfg7.trans dfg14)), (((h.pick .n2).pick .n1).pick .n2)⟩
            refine wrN (j + 1) ?_
            refine ⟨_, (by first | omega | rfl | (dsimp only; omega)), _, _, rfl, (by first | omega | rfl | (dsimp only; omega)), rfl, (g5.trans (dfg7.trans dfg14)), (((h.pick .n2).pick .n1).pick .n2)⟩
            refine wrN (j + 1) ?_
            refine ⟨_, (by first | omega | rfl | (dsimp only; omega)), _, _, rfl, (by first | omega | rfl | (dsimp only; omega)), rfl, (g5.trans (dfg7.trans dfg14)), (((h.pick .n2).pick .n1).pick .n2)⟩
          · by_cases hy2 : y = [116, 109, 112]
            · obtain ⟨⟨c2, d2⟩, hr2⟩ : ∃ p, (((putP (m.doom n).1 name x).1.crash wn wb).read y).2 = p := ⟨_, rfl⟩
              have df29 := df29.mono g5
              have df22 := df22.mono g5
              have af27 := af27.mono g5
              have hb3 := hb3.mono g5
              have ht3 := ht3.mono g5
              have hsub := hsub.mono g5
              have hl := hl.mono g5
              have hb := hb.mono g5
              have ht := ht.mono g5
              refine brD (fun dgb0 => ?_) (fun dgb0 => by exfalso; omega)
              refine joinI ?_
              refine ⟨by omega, ?_⟩
              refine nnL h df66 (fun dga1 dgha1 => ?_)
              refine ldL h df66 dgha1 ey (fun dgy2 dghy2 => ?_)
              have dghy2 : dgy2 = str y := dghy2
              subst dghy2
              refine dReadQuietIs_ok h hq hr1 (by first | omega | (dsimp only; omega) | decide) (fun dgv4 dgΓ5 _ dgg7 dgf8 h => ?_)
              have df66 := df66.mono dgg7
              have df29 := df29.mono dgg7
              have df22 := df22.mono dgg7
              have af27 := af27.mono dgg7
              have hb3 := hb3.mono dgg7
              have ht3 := ht3.mono dgg7
              have hsub := hsub.mono dgg7
              have hl := hl.mono dgg7
              have hb := hb.mono dgg7
              have ht := ht.mono dgg7
              obtain ⟨ldgf8, mdgf8, cdgf8⟩ := dgf8.lens
              refine dReadQuietIs_ok (h.pick .n1) hq2 hr2 (by first | omega | (dsimp only; omega) | decide) (fun dgv11 dgΓ12 _ dgg14 dgf15 h => ?_)
              have dgf8 := dgf8.mono dgg14
              have df66 := df66.mono dgg14
              have df29 := df29.mono dgg14
              have df22 := df22.mono dgg14
              have af27 := af27.mono dgg14
              have hb3 := hb3.mono dgg14
              have ht3 := ht3.mono dgg14
              have hsub := hsub.mono dgg14
              have hl := hl.mono dgg14
              have hb := hb.mono dgg14
              have ht := ht.mono dgg14
              obtain ⟨ldgf15, mdgf15, cdgf15⟩ := dgf15.lens
              refine brSn (fun dgb17 => ?_) (fun dgb17 => ?_)
              refine brSn (fun dgb18 => ?_) (fun dgb18 => ?_)
              refine brN (fun dgb19 => ?_) (fun dgb19 => ?_)
              dsimp only at dgb19
              refine ⟨_, rfl, ?_⟩
              contradiction
              dsimp only at dgb19
              refine btoS h dgf8 ?_
              refine btoS h dgf15 ?_
              refine brSn (fun dgb20 => ?_) (fun dgb20 => ?_)
              refine ⟨_, rfl, ?_⟩
              contradiction
              refine wrN (j + 1) ?_
              refine ⟨_, (by first | omega | rfl | (dsimp only; omega)), _, _, rfl, (by first | omega | rfl | (dsimp only; omega)), rfl, (g5.trans (dgg7.trans dgg14)), (((h.pick .n2).pick .n1).pick .n2)⟩
              refine wrN (j + 1) ?_
              refine ⟨_, (by first | omega | rfl | (dsimp only; omega)), _, _, rfl, (by first | omega | rfl | (dsimp only; omega)), rfl, (g5.trans (dgg7.trans dgg14)), (((h.pick .n2).pick .n1).pick .n2)⟩
              refine wrN (j + 1) ?_
              refine ⟨_, (by first | omega | rfl | (dsimp only; omega)), _, _, rfl, (by first | omega | rfl | (dsimp only; omega)), rfl, (g5.trans (dgg7.trans dgg14)), (((h.pick .n2).pick .n1).pick .n2)⟩
            · obtain ⟨hr2, hd1⟩ := hy hy1 hy2
              rw [hr1] at hr2 hd1
              have hd1 : d1 = 0 := hd1
              have df29 := df29.mono g5
              have df22 := df22.mono g5
              have af27 := af27.mono g5
              have hb3 := hb3.mono g5
              have ht3 := ht3.mono g5
              have hsub := hsub.mono g5
              have hl := hl.mono g5
              have hb := hb.mono g5
              have ht := ht.mono g5
              refine brD (fun dib0 => ?_) (fun dib0 => by exfalso; omega)
              refine joinI ?_
              refine ⟨by omega, ?_⟩
              refine nnL h df66 (fun dia1 diha1 => ?_)
              refine ldL h df66 diha1 ey (fun diy2 dihy2 => ?_)
              have dihy2 : diy2 = str y := dihy2
              subst dihy2
              refine dReadQuietIs_ok h hq hr1 (by first | omega | (dsimp only; omega) | decide) (fun div4 diΓ5 _ dig7 dif8 h => ?_)
              have df66 := df66.mono dig7
              have df29 := df29.mono dig7
              have df22 := df22.mono dig7
              have af27 := af27.mono dig7
              have hb3 := hb3.mono dig7
              have ht3 := ht3.mono dig7
              have hsub := hsub.mono dig7
              have hl := hl.mono dig7
              have hb := hb.mono dig7
              have ht := ht.mono dig7
              obtain ⟨ldif8, mdif8, cdif8⟩ := dif8.lens
              refine dReadQuietIs_ok (h.pick .n1) hq2 hr2 (by first | omega | (dsimp only; omega) | decide) (fun div11 diΓ12 _ dig14 dif15 h => ?_)
              have dif8 := dif8.mono dig14
              have df66 := df66.mono dig14
              have df29 := df29.mono dig14
              have df22 := df22.mono dig14
              have af27 := af27.mono dig14
              have hb3 := hb3.mono dig14
              have ht3 := ht3.mono dig14
              have hsub := hsub.mono dig14
              have hl := hl.mono dig14
              have hb := hb.mono dig14
              have ht := ht.mono dig14
              obtain ⟨ldif15, mdif15, cdif15⟩ := dif15.lens
              refine brSn (fun dib17 => ?_) (fun dib17 => ?_)
              refine brSn (fun dib18 => ?_) (fun dib18 => ?_)
              refine brN (fun dib19 => by exfalso; omega) (fun dib19 => ?_)
              dsimp only at dib19
              refine btoS h dif8 ?_
              refine btoS h dif15 ?_
              refine brSn (fun dib20 => absurd rfl dib20) (fun dib20 => ?_)
              refine wrN (j + 1) ?_
              refine ⟨_, (by first | omega | rfl | (dsimp only; omega)), _, _, rfl, (by first | omega | rfl | (dsimp only; omega)), rfl, (g5.trans (dig7.trans dig14)), (((h.pick .n2).pick .n1).pick .n2)⟩
              refine wrN (j + 1) ?_
              refine ⟨_, (by first | omega | rfl | (dsimp only; omega)), _, _, rfl, (by first | omega | rfl | (dsimp only; omega)), rfl, (g5.trans (dig7.trans dig14)), (((h.pick .n2).pick .n1).pick .n2)⟩
              refine wrN (j + 1) ?_
              refine ⟨_, (by first | omega | rfl | (dsimp only; omega)), _, _, rfl, (by first | omega | rfl | (dsimp only; omega)), rfl, (g5.trans (dig7.trans dig14)), (((h.pick .n2).pick .n1).pick .n2)⟩
        · have df29 := df29.mono g5
          have df22 := df22.mono g5
          have af27 := af27.mono g5
          have hb3 := hb3.mono g5
          have ht3 := ht3.mono g5
          have hsub := hsub.mono g5
          have hl := hl.mono g5
          have hb := hb.mono g5
          have ht := ht.mono g5
          refine brD (fun djb0 => by exfalso; omega) (fun djb0 => ?_)
          refine ⟨_, rfl, ?_⟩
          refine k _ _ (ag4.trans (ag11.trans (ag26.trans (g3.trans (dg12.trans (dg21.trans (dg28.trans (dg65.trans g5)))))))) h.drop.drop.drop
    · have hp1 : (putP (m.doom n).1 name x).2 ≠ 0 := fun h0 => hA (by
        have h1 := hp0 h0
        rw [h1.firm.see, h1.is])
      have hB : DiskM.see (putP (m.doom n).1 name x).1 wn wb name = (old, f) := by
        rcases hpa.name wn wb with h1 | h1
        · rw [h1, hcn]
        · exact absurd h1 hA
      rw [hB] at hc2
      clear hp0 hpa hA hB
      have hl := hl.mono g3
      have hb := hb.mono g3
      have ht := ht.mono g3
      refine brD (fun eb0 => by exfalso; omega) (fun eb0 => ?_)
      refine dClone_ok h (by first | omega | (dsimp only; omega) | decide) (fun ev2 _ h => ?_)
      refine joinI ?_
      refine brF ?_
      refine wr ?_
      refine dDoom_ok (h.pick .n1) (by first | omega | (dsimp only; omega) | decide) (fun _ h => ?_)
      refine brN (fun eb8 => by exfalso; omega) (fun eb8 => ?_)
      refine dPut_ok h hsub (by first | omega | (dsimp only; omega) | decide) (fun eΓ10 _ eg12 h => ?_)
      have af27 := af27.mono eg12
      have hb3 := hb3.mono eg12
      have ht3 := ht3.mono eg12
      have hsub := hsub.mono eg12
      have hl := hl.mono eg12
      have hb := hb.mono eg12
      have ht := ht.mono eg12
      refine ldA2 _ _ h .n2 ?_
      refine dCrash_ok h (by first | omega | (dsimp only; omega) | decide) ht (fun _ h => ?_)
      refine dReadQuietIs_ok (h.pick .n1) hq hc1 (by first | omega | (dsimp only; omega) | decide) (fun ev18 eΓ19 _ eg21 ef22 h => ?_)
      have af27 := af27.mono eg21
      have hb3 := hb3.mono eg21
      have ht3 := ht3.mono eg21
      have hsub := hsub.mono eg21
      have hl := hl.mono eg21
      have hb := hb.mono eg21
      have ht := ht.mono eg21
      obtain ⟨lef22, mef22, cef22⟩ := ef22.lens
      refine dReadQuietIs_ok (h.pick .n1) hq2 hc2 (by first | omega | (dsimp only; omega) | decide) (fun ev25 eΓ26 _ eg28 ef29 h => ?_)
      have ef22 := ef22.mono eg28
      have af27 := af27.mono eg28
      have hb3 := hb3.mono eg28
      have ht3 := ht3.mono eg28
      have hsub := hsub.mono eg28
      have hl := hl.mono eg28
      have hb := hb.mono eg28
      have ht := ht.mono eg28
      obtain ⟨lef29, mef29, cef29⟩ := ef29.lens
      refine joinI ?_
      refine brE (fun eb31 => ?_) (fun eb31 => ?_)
      dsimp only at eb31
      refine btoS h ef29 ?_
      refine btoS h hsub ?_
      refine joinI ?_
      refine brE (fun eb32 => ?_) (fun eb32 => by exfalso; omega)
      dsimp only at eb32
      refine btoS h ef22 ?_
      refine btoS h ef29 ?_
      refine joinI ?_
      refine brE (fun eb33 => by exfalso; omega) (fun eb33 => ?_)
      refine brSn (fun eb34 => ?_) (fun eb34 => ?_)
      refine brSn (fun eb35 => absurd rfl eb35) (fun eb35 => ?_)
      refine namesP_ok (h.pick .n1) hq (by first | omega | (dsimp only; omega) | decide) (fun ev37 eΓ38 _ eg40 ef41 h => ?_)
      have ef29 := ef29.mono eg40
      have ef22 := ef22.mono eg40
      have af27 := af27.mono eg40
      have hb3 := hb3.mono eg40
      have ht3 := ht3.mono eg40
      have hsub := hsub.mono eg40
      have hl := hl.mono eg40
      have hb := hb.mono eg40
      have ht := ht.mono eg40
      obtain ⟨lef41, mef41, cef41⟩ := ef41.lens
      rotate_left
      refine namesP_ok (h.pick .n1) hq (by first | omega | (dsimp only; omega) | decide) (fun ev44 eΓ45 _ eg47 ef48 h => ?_)
      have ef29 := ef29.mono eg47
      have ef22 := ef22.mono eg47
      have af27 := af27.mono eg47
      have hb3 := hb3.mono eg47
      have ht3 := ht3.mono eg47
      have hsub := hsub.mono eg47
      have hl := hl.mono eg47
      have hb := hb.mono eg47
      have ht := ht.mono eg47
      obtain ⟨lef48, mef48, cef48⟩ := ef48.lens
      rotate_left
      dsimp only at eb31
      refine joinI ?_
      refine brE (fun eb50 => ?_) (fun eb50 => by exfalso; omega)
      dsimp only at eb50
      refine btoS h ef22 ?_
      refine btoS h ef29 ?_
      refine joinI ?_
      refine brE (fun eb51 => by exfalso; omega) (fun eb51 => ?_)
      refine brT ?_
      refine brSn (fun eb52 => absurd rfl eb52) (fun eb52 => ?_)
      refine namesP_ok (h.pick .n1) hq (by first | omega | (dsimp only; omega) | decide) (fun ev54 eΓ55 _ eg57 ef58 h => ?_)
      have ef29 := ef29.mono eg57
      have ef22 := ef22.mono eg57
      have af27 := af27.mono eg57
      have hb3 := hb3.mono eg57
      have ht3 := ht3.mono eg57
      have hsub := hsub.mono eg57
      have hl := hl.mono eg57
      have hb := hb.mono eg57
      have ht := ht.mono eg57
      obtain ⟨lef58, mef58, cef58⟩ := ef58.lens
      rotate_left
      · refine loop (σ := Int) (fun st w' c => ∃ (j : Nat) (Γ' : Mem), st = (j : Int) ∧ j ≤ (m.now.map Prod.fst).length ∧ c = (m.now.map Prod.fst).length - j ∧ eΓ38.le Γ' ∧ Sat Γ' (PDisk ev2 m :: PDisk av7 ((putP (m.doom n).1 name x).1.crash wn wb) :: blk ar0 (.cells #[.int .i64 wn, .slice t.p t.len t.cap] 81 (0, 0)) :: L) w') (m.now.map Prod.fst).length ⟨0, eΓ38, rfl, by omega, by omega, .refl _, h⟩ ?_
        clear h
        rintro _ w c ⟨j, Γ5, rfl, hj, hcj, g5, h⟩
        have ef41 := ef41.mono g5
        by_cases hjl : j < (m.now.map Prod.fst).length
        · obtain ⟨y, ey⟩ := get_lt hjl
          have hy := hno y (List.mem_of_getElem? ey)
          obtain ⟨⟨c1, d1⟩, hr1⟩ : ∃ p, (m.read y).2 = p := ⟨_, rfl⟩
          by_cases hy1 : y = name
          · obtain ⟨⟨c2, d2⟩, hr2⟩ : ∃ p, (((putP (m.doom n).1 name x).1.crash wn wb).read y).2 = p := ⟨_, rfl⟩
            have ef29 := ef29.mono g5
            have ef22 := ef22.mono g5
            have af27 := af27.mono g5
            have hb3 := hb3.mono g5
            have ht3 := ht3.mono g5
            have hsub := hsub.mono g5
            have hl := hl.mono g5
            have hb := hb.mono g5
            have ht := ht.mono g5
            refine brD (fun efb0 => ?_) (fun efb0 => by exfalso; omega)
            refine joinI ?_
            refine ⟨by omega, ?_⟩
            refine nnL h ef41 (fun efa1 efha1 => ?_)
            refine ldL h ef41 efha1 ey (fun efy2 efhy2 => ?_)
            have efhy2 : efy2 = str y := efhy2
            subst efhy2
            refine dReadQuietIs_ok h hq hr1 (by first | omega | (dsimp only; omega) | decide) (fun efv4 efΓ5 _ efg7 eff8 h => ?_)
            have ef41 := ef41.mono efg7
            have ef29 := ef29.mono efg7
            have ef22 := ef22.mono efg7
            have af27 := af27.mono efg7
            have hb3 := hb3.mono efg7
            have ht3 := ht3.mono efg7
            have hsub := hsub.mono efg7
            have hl := hl.mono efg7
            have hb := hb.mono efg7
            have ht := ht.mono efg7
            obtain ⟨leff8, meff8, ceff8⟩ := eff8.lens
            refine dReadQuietIs_ok (h.pick .n1) hq2 hr2 (by first | omega | (dsimp only; omega) | decide) (fun efv11 efΓ12 _ efg14 eff15 h => ?_)
            have eff8 := eff8.mono efg14
            have ef41 := ef41.mono efg14
            have ef29 := ef29.mono efg14
            have ef22 := ef22.mono efg14
            have af27 := af27.mono efg14
            have hb3 := hb3.mono efg14
            have ht3 := ht3.mono efg14
            have hsub := hsub.mono efg14
            have hl := hl.mono efg14
            have hb := hb.mono efg14
            have ht := ht.mono efg14
            obtain ⟨leff15, meff15, ceff15⟩ := eff15.lens
            refine brSn (fun efb17 => ?_) (fun efb17 => ?_)
            refine brSn (fun efb18 => ?_) (fun efb18 => ?_)
            refine brN (fun efb19 => ?_) (fun efb19 => ?_)
            dsimp only at efb19
            refine ⟨_, rfl, ?_⟩
            contradiction
            dsimp only at efb19
            refine btoS h eff8 ?_
            refine btoS h eff15 ?_
            refine brSn (fun efb20 => ?_) (fun efb20 => ?_)
            refine ⟨_, rfl, ?_⟩
            contradiction
            refine wrN (j + 1) ?_
            refine ⟨_, (by first | omega | rfl | (dsimp only; omega)), _, _, rfl, (by first | omega | rfl | (dsimp only; omega)), rfl, (g5.trans (efg7.trans efg14)), (((h.pick .n2).pick .n1).pick .n2)⟩
            refine wrN (j + 1) ?_
            refine ⟨_, (by first | omega | rfl | (dsimp only; omega)), _, _, rfl, (by first | omega | rfl | (dsimp only; omega)), rfl, (g5.trans (efg7.trans efg14)), (((h.pick .n2).pick .n1).pick .n2)⟩
            refine wrN (j + 1) ?_
            refine ⟨_, (by first | omega | rfl | (dsimp only; omega)), _, _, rfl, (by first | omega | rfl | (dsimp only; omega)), rfl, (g5.trans (efg7.trans efg14)), (((h.pick .n2).pick .n1).pick .n2)⟩
          · by_cases hy2 : y = [116, 109, 112]
            · obtain ⟨⟨c2, d2⟩, hr2⟩ : ∃ p, (((putP (m.doom n).1 name x).1.crash wn wb).read y).2 = p := ⟨_, rfl⟩
              have ef29 := ef29.mono g5
              have ef22 := ef22.mono g5
              have af27 := af27.mono g5
              have hb3 := hb3.mono g5
              have ht3 := ht3.mono g5
              have hsub := hsub.mono g5
              have hl := hl.mono g5
              have hb := hb.mono g5
              have ht := ht.mono g5
              refine brD (fun egb0 => ?_) (fun egb0 => by exfalso; omega)
              refine joinI ?_
              refine ⟨by omega, ?_⟩
              refine nnL h ef41 (fun ega1 egha1 => ?_)
              refine ldL h ef41 egha1 ey (fun egy2 eghy2 => ?_)
              have eghy2 : egy2 = str y := eghy2
              subst eghy2
              refine dReadQuietIs_ok h hq hr1 (by first | omega | (dsimp only; omega) | decide) (fun egv4 egΓ5 _ egg7 egf8 h => ?_)
              have ef41 := ef41.mono egg7
              have ef29 := ef29.mono egg7
              have ef22 := ef22.mono egg7
              have af27 := af27.mono egg7
              have hb3 := hb3.mono egg7
              have ht3 := ht3.mono egg7
              have hsub := hsub.mono egg7
              have hl := hl.mono egg7
              have hb := hb.mono egg7
              have ht := ht.mono egg7
              obtain ⟨legf8, megf8, cegf8⟩ := egf8.lens
              refine dReadQuietIs_ok (h.pick .n1) hq2 hr2 (by first | omega | (dsimp only; omega) | decide) (fun egv11 egΓ12 _ egg14 egf15 h => ?_)
              have egf8 := egf8.mono egg14
              have ef41 := ef41.mono egg14
              have ef29 := ef29.mono egg14
              have ef22 := ef22.mono egg14
              have af27 := af27.mono egg14
              have hb3 := hb3.mono egg14
              have ht3 := ht3.mono egg14
              have hsub := hsub.mono egg14
              have hl := hl.mono egg14
              have hb := hb.mono egg14
              have ht := ht.mono egg14
              obtain ⟨legf15, megf15, cegf15⟩ := egf15.lens
              refine brSn (fun egb17 => ?_) (fun egb17 => ?_)
              refine brSn (fun egb18 => ?_) (fun egb18 => ?_)
              refine brN (fun egb19 => ?_) (fun egb19 => ?_)
              dsimp only at egb19
              refine ⟨_, rfl, ?_⟩
              contradiction
              dsimp only at egb19
              refine btoS h egf8 ?_
              refine btoS h egf15 ?_
              refine brSn (fun egb20 => ?_) (fun egb20 => ?_)
              refine ⟨_, rfl, ?_⟩
              contradiction
              refine wrN (j + 1) ?_
              refine ⟨_, (by first | omega | rfl | (dsimp only; omega)), _, _, rfl, (by first | omega | rfl | (dsimp only; omega)), rfl, (g5.trans (egg7.trans egg14)), (((h.pick .n2).pick .n1).pick .n2)⟩
              refine wrN (j + 1) ?_
              refine ⟨_, (by first | omega | rfl | (dsimp only; omega)), _, _, rfl, (by first | omega | rfl | (dsimp only; omega)), rfl, (g5.trans (egg7.trans egg14)), (((h.pick .n2).pick .n1).pick .n2)⟩
              refine wrN (j + 1) ?_
              refine ⟨_, (by first | omega | rfl | (dsimp only; omega)), _, _, rfl, (by first | omega | rfl | (dsimp only; omega)), rfl, (g5.trans (egg7.trans egg14)), (((h.pick .n2).pick .n1).pick .n2)⟩
            · obtain ⟨hr2, hd1⟩ := hy hy1 hy2
              rw [hr1] at hr2 hd1
              have hd1 : d1 = 0 := hd1
              have ef29 := ef29.mono g5
              have ef22 := ef22.mono g5
              have af27 := af27.mono g5
              have hb3 := hb3.mono g5
              have ht3 := ht3.mono g5
              have hsub := hsub.mono g5
              have hl := hl.mono g5
              have hb := hb.mono g5
              have ht := ht.mono g5
              refine brD (fun eib0 => ?_) (fun eib0 => by exfalso; omega)
              refine joinI ?_
              refine ⟨by omega, ?_⟩
              refine nnL h ef41 (fun eia1 eiha1 => ?_)
              refine ldL h ef41 eiha1 ey (fun eiy2 eihy2 => ?_)
              have eihy2 : eiy2 = str y := eihy2
              subst eihy2
              refine dReadQuietIs_ok h hq hr1 (by first | omega | (dsimp only; omega) | decide) (fun eiv4 eiΓ5 _ eig7 eif8 h => ?_)
              have ef41 := ef41.mono eig7
              have ef29 := ef29.mono eig7
              have ef22 := ef22.mono eig7
              have af27 := af27.mono eig7
              have hb3 := hb3.mono eig7
              have ht3 := ht3.mono eig7
              have hsub := hsub.mono eig7
              have hl := hl.mono eig7
              have hb := hb.mono eig7
              have ht := ht.mono eig7
              obtain ⟨leif8, meif8, ceif8⟩ := eif8.lens
              refine dReadQuietIs_ok (h.pick .n1) hq2 hr2 (by first | omega | (dsimp only; omega) | decide) (fun eiv11 eiΓ12 _ eig14 eif15 h => ?_)
              have eif8 := eif8.mono eig14
              have ef41 := ef41.mono eig14
              have ef29 := ef29.mono eig14
              have ef22 := ef22.mono eig14
              have af27 := af27.mono eig14
              have hb3 := hb3.mono eig14
              have ht3 := ht3.mono eig14
              have hsub := hsub.mono eig14
              have hl := hl.mono eig14
              have hb := hb.mono eig14
              have ht := ht.mono eig14
              obtain ⟨leif15, meif15, ceif15⟩ := eif15.lens
              refine brSn (fun eib17 => ?_) (fun eib17 => ?_)
              refine brSn (fun eib18 => ?_) (fun eib18 => ?_)
              refine brN (fun eib19 => by exfalso; omega) (fun eib19 => ?_)
              dsimp only at eib19
              refine btoS h eif8 ?_
              refine btoS h eif15 ?_
              refine brSn (fun eib20 => absurd rfl eib20) (fun eib20 => ?_)
              refine wrN (j + 1) ?_
              refine ⟨_, (by first | omega | rfl | (dsimp only; omega)), _, _, rfl, (by first | omega | rfl | (dsimp only; omega)), rfl, (g5.trans (eig7.trans eig14)), (((h.pick .n2).pick .n1).pick .n2)⟩
              refine wrN (j + 1) ?_
              refine ⟨_, (by first | omega | rfl | (dsimp only; omega)), _, _, rfl, (by first | omega | rfl | (dsimp only; omega)), rfl, (g5.trans (eig7.trans eig14)), (((h.pick .n2).pick .n1).pick .n2)⟩
              refine wrN (j + 1) ?_
              refine ⟨_, (by first | omega | rfl | (dsimp only; omega)), _, _, rfl, (by first | omega | rfl | (dsimp only; omega)), rfl, (g5.trans (eig7.trans eig14)), (((h.pick .n2).pick .n1).pick .n2)⟩
        · have ef29 := ef29.mono g5
          have ef22 := ef22.mono g5
          have af27 := af27.mono g5
          have hb3 := hb3.mono g5
          have ht3 := ht3.mono g5
          have hsub := hsub.mono g5
          have hl := hl.mono g5
          have hb := hb.mono g5
          have ht := ht.mono g5
          refine brD (fun ejb0 => by exfalso; omega) (fun ejb0 => ?_)
          refine ⟨_, rfl, ?_⟩
          refine k _ _ (ag4.trans (ag11.trans (ag26.trans (g3.trans (eg12.trans (eg21.trans (eg28.trans (eg40.trans g5)))))))) h.drop.drop.drop
      · refine loop (σ := Int) (fun st w' c => ∃ (j : Nat) (Γ' : Mem), st = (j : Int) ∧ j ≤ (m.now.map Prod.fst).length ∧ c = (m.now.map Prod.fst).length - j ∧ eΓ45.le Γ' ∧ Sat Γ' (PDisk ev2 m :: PDisk av7 ((putP (m.doom n).1 name x).1.crash wn wb) :: blk ar0 (.cells #[.int .i64 wn, .slice t.p t.len t.cap] 81 (0, 0)) :: L) w') (m.now.map Prod.fst).length ⟨0, eΓ45, rfl, by omega, by omega, .refl _, h⟩ ?_
        clear h
        rintro _ w c ⟨j, Γ5, rfl, hj, hcj, g5, h⟩
        have ef48 := ef48.mono g5
        by_cases hjl : j < (m.now.map Prod.fst).length
        · obtain ⟨y, ey⟩ := get_lt hjl
          have hy := hno y (List.mem_of_getElem? ey)
          obtain ⟨⟨c1, d1⟩, hr1⟩ : ∃ p, (m.read y).2 = p := ⟨_, rfl⟩
          by_cases hy1 : y = name
          · obtain ⟨⟨c2, d2⟩, hr2⟩ : ∃ p, (((putP (m.doom n).1 name x).1.crash wn wb).read y).2 = p := ⟨_, rfl⟩
            have ef29 := ef29.mono g5
            have ef22 := ef22.mono g5
            have af27 := af27.mono g5
            have hb3 := hb3.mono g5
            have ht3 := ht3.mono g5
            have hsub := hsub.mono g5
            have hl := hl.mono g5
            have hb := hb.mono g5
            have ht := ht.mono g5
            refine brD (fun efb0 => ?_) (fun efb0 => by exfalso; omega)
            refine joinI ?_
            refine ⟨by omega, ?_⟩
            refine nnL h ef48 (fun efa1 efha1 => ?_)
            refine ldL h ef48 efha1 ey (fun efy2 efhy2 => ?_)
            have efhy2 : efy2 = str y := efhy2
            subst efhy2
            refine dReadQuietIs_ok h hq hr1 (by first | omega | (dsimp only; omega) | decide) (fun efv4 efΓ5 _ efg7 eff8 h => ?_)
            have ef48 := ef48.mono efg7
            have ef29 := ef29.mono efg7
            have ef22 := ef22.mono efg7
            have af27 := af27.mono efg7
            have hb3 := hb3.mono efg7
            have ht3 := ht3.mono efg7
            have hsub := hsub.mono efg7
            have hl := hl.mono efg7
            have hb := hb.mono efg7
            have ht := ht.mono efg7
            obtain ⟨leff8, meff8, ceff8⟩ := eff8.lens
            refine dReadQuietIs_ok (h.pick .n1) hq2 hr2 (by first | omega | (dsimp only; omega) | decide) (fun efv11 efΓ12 _ efg14 eff15 h => ?_)
            have eff8 := eff8.mono efg14
            have ef48 := ef48.mono efg14
            have ef29 := ef29.mono efg14
            have ef22 := ef22.mono efg14
            have af27 := af27.mono efg14
            have hb3 := hb3.mono efg14
            have ht3 := ht3.mono efg14
            have hsub := hsub.mono efg14
            have hl := hl.mono efg14
            have hb := hb.mono efg14
            have ht := ht.mono efg14
            obtain ⟨leff15, meff15, ceff15⟩ := eff15.lens
            refine brSn (fun efb17 => ?_) (fun efb17 => ?_)
            refine brSn (fun efb18 => ?_) (fun efb18 => ?_)
            refine brN (fun efb19 => ?_) (fun efb19 => ?_)
            dsimp only at efb19
            refine ⟨_, rfl, ?_⟩
            contradiction
            dsimp only at efb19
            refine btoS h eff8 ?_
            refine btoS h eff15 ?_
            refine brSn (fun efb20 => ?_) (fun efb20 => ?_)
            refine ⟨_, rfl, ?_⟩
            contradiction
            refine wrN (j + 1) ?_
            refine ⟨_, (by first | omega | rfl | (dsimp only; omega)), _, _, rfl, (by first | omega | rfl | (dsimp only; omega)), rfl, (g5.trans (efg7.trans efg14)), (((h.pick .n2).pick .n1).pick .n2)⟩
            refine wrN (j + 1) ?_
            refine ⟨_, (by first | omega | rfl | (dsimp only; omega)), _, _, rfl, (by first | omega | rfl | (dsimp only; omega)), rfl, (g5.trans (efg7.trans efg14)), (((h.pick .n2).pick .n1).pick .n2)⟩
            refine wrN (j + 1) ?_
            refine ⟨_, (by first | omega | rfl | (dsimp only; omega)), _, _, rfl, (by first | omega | rfl | (dsimp only; omega)), rfl, (g5.trans (efg7.trans efg14)), (((h.pick .n2).pick .n1).pick .n2)⟩
          · by_cases hy2 : y = [116, 109, 112]
            · obtain ⟨⟨c2, d2⟩, hr2⟩ : ∃ p, (((putP (m.doom n).1 name x).1.crash wn wb).read y).2 = p := ⟨_, rfl⟩
              have ef29 := ef29.mono g5
              have ef22 := ef22.mono g5
              have af27 := af27.mono g5
              have hb3 := hb3.mono g5
              have ht3 := ht3.mono g5
              have hsub := hsub.mono g5
              have hl := hl.mono g5
              have hb := hb.mono g5
              have ht := ht.mono g5
              refine brD (fun egb0 => ?_) (fun egb0 => by exfalso; omega)
              refine joinI ?_
              refine ⟨by omega, ?_⟩
              refine nnL h ef48 (fun ega1 egha1 => ?_)
              refine ldL h ef48 egha1 ey (fun egy2 eghy2 => ?_)
              have eghy2 : egy2 = str y := eghy2
              subst eghy2
              refine dReadQuietIs_ok h hq hr1 (by first | omega | (dsimp only; omega) | decide) (fun egv4 egΓ5 _ egg7 egf8 h => ?_)
              have ef48 := ef48.mono egg7
              have ef29 := ef29.mono egg7
              have ef22 := ef22.mono egg7
              have af27 := af27.mono egg7
              have hb3 := hb3.mono egg7
              have ht3 := ht3.mono egg7
              have hsub := hsub.mono egg7
              have hl := hl.mono egg7
              have hb := hb.mono egg7
              have ht := ht.mono egg7
              obtain ⟨legf8, megf8, cegf8⟩ := egf8.lens
              refine dReadQuietIs_ok (h.pick .n1) hq2 hr2 (by first | omega | (dsimp only; omega) | decide) (fun egv11 egΓ12 _ egg14 egf15 h => ?_)
              have egf8 := egf8.mono egg14
              have ef48 := ef48.mono egg14
              have ef29 := ef29.mono egg14
              have ef22 := ef22.mono egg14
              have af27 := af27.mono egg14
              have hb3 := hb3.mono egg14
              have ht3 := ht3.mono egg14
              have hsub := hsub.mono egg14
              have hl := hl.mono egg14
              have hb := hb.mono egg14
              have ht := ht.mono egg14
              obtain ⟨legf15, megf15, cegf15⟩ := egf15.lens
              refine brSn (fun egb17 => ?_) (fun egb17 => ?_)
              refine brSn (fun egb18 => ?_) (fun egb18 => ?_)
              refine brN (fun egb19 => ?_) (fun egb19 => ?_)
              dsimp only at egb19
              refine ⟨_, rfl, ?_⟩
              contradiction
              dsimp only at egb19
              refine btoS h egf8 ?_
              refine btoS h egf15 ?_
              refine brSn (fun egb20 => ?_) (fun egb20 => ?_)
              refine ⟨_, rfl, ?_⟩
              contradiction
              refine wrN (j + 1) ?_
              refine ⟨_, (by first | omega | rfl | (dsimp only; omega)), _, _, rfl, (by first | omega | rfl | (dsimp only; omega)), rfl, (g5.trans (egg7.trans egg14)), (((h.pick .n2).pick .n1).pick .n2)⟩
              refine wrN (j + 1) ?_
              refine ⟨_, (by first | omega | rfl | (dsimp only; omega)), _, _, rfl, (by first | omega | rfl | (dsimp only; omega)), rfl, (g5.trans (egg7.trans egg14)), (((h.pick .n2).pick .n1).pick .n2)⟩
              refine wrN (j + 1) ?_
              refine ⟨_, (by first | omega | rfl | (dsimp only; omega)), _, _, rfl, (by first | omega | rfl | (dsimp only; omega)), rfl, (g5.trans (egg7.trans egg14)), (((h.pick .n2).pick .n1).pick .n2)⟩
            · obtain ⟨hr2, hd1⟩ := hy hy1 hy2
              rw [hr1] at hr2 hd1
              have hd1 : d1 = 0 := hd1
              have ef29 := ef29.mono g5
              have ef22 := ef22.mono g5
              have af27 := af27.mono g5
              have hb3 := hb3.mono g5
              have ht3 := ht3.mono g5
              have hsub := hsub.mono g5
              have hl := hl.mono g5
              have hb := hb.mono g5
              have ht := ht.mono g5
              refine brD (fun eib0 => ?_) (fun eib0 => by exfalso; omega)
              refine joinI ?_
              refine ⟨by omega, ?_⟩
              refine nnL h ef48 (fun eia1 eiha1 => ?_)
              refine ldL h ef48 eiha1 ey (fun eiy2 eihy2 => ?_)
              have eihy2 : eiy2 = str y := eihy2
              subst eihy2
              refine dReadQuietIs_ok h hq hr1 (by first | omega | (dsimp only; omega) | decide) (fun eiv4 eiΓ5 _ eig7 eif8 h => ?_)
              have ef48 := ef48.mono eig7
              have ef29 := ef29.mono eig7
              have ef22 := ef22.mono eig7
              have af27 := af27.mono eig7
              have hb3 := hb3.mono eig7
              have ht3 := ht3.mono eig7
              have hsub := hsub.mono eig7
              have hl := hl.mono eig7
              have hb := hb.mono eig7
              have ht := ht.mono eig7
              obtain ⟨leif8, meif8, ceif8⟩ := eif8.lens
              refine dReadQuietIs_ok (h.pick .n1) hq2 hr2 (by first | omega | (dsimp only; omega) | decide) (fun eiv11 eiΓ12 _ eig14 eif15 h => ?_)
              have eif8 := eif8.mono eig14
              have ef48 := ef48.mono eig14
              have ef29 := ef29.mono eig14
              have ef22 := ef22.mono eig14
              have af27 := af27.mono eig14
              have hb3 := hb3.mono eig14
              have ht3 := ht3.mono eig14
              have hsub := hsub.mono eig14
              have hl := hl.mono eig14
              have hb := hb.mono eig14
              have ht := ht.mono eig14
              obtain ⟨leif15, meif15, ceif15⟩ := eif15.lens
              refine brSn (fun eib17 => ?_) (fun eib17 => ?_)
              refine brSn (fun eib18 => ?_) (fun eib18 => ?_)
              refine brN (fun eib19 => by exfalso; omega) (fun eib19 => ?_)
              dsimp only at eib19
              refine btoS h eif8 ?_
              refine btoS h eif15 ?_
              refine brSn (fun eib20 => absurd rfl eib20) (fun eib20 => ?_)
              refine wrN (j + 1) ?_
              refine ⟨_, (by first | omega | rfl | (dsimp only; omega)), _, _, rfl, (by first | omega | rfl | (dsimp only; omega)), rfl, (g5.trans (eig7.trans eig14)), (((h.pick .n2).pick .n1).pick .n2)⟩
              refine wrN (j + 1) ?_
              refine ⟨_, (by first | omega | rfl | (dsimp only; omega)), _, _, rfl, (by first | omega | rfl | (dsimp only; omega)), rfl, (g5.trans (eig7.trans eig14)), (((h.pick .n2).pick .n1).pick .n2)⟩
              refine wrN (j + 1) ?_
              refine ⟨_, (by first | omega | rfl | (dsimp only; omega)), _, _, rfl, (by first | omega | rfl | (dsimp only; omega)), rfl, (g5.trans (eig7.trans eig14)), (((h.pick .n2).pick .n1).pick .n2)⟩
        · have ef29 := ef29.mono g5
          have ef22 := ef22.mono g5
          have af27 := af27.mono g5
          have hb3 := hb3.mono g5
          have ht3 := ht3.mono g5
          have hsub := hsub.mono g5
          have hl := hl.mono g5
          have hb := hb.mono g5
          have ht := ht.mono g5
          refine brD (fun ejb0 => by exfalso; omega) (fun ejb0 => ?_)
          refine ⟨_, rfl, ?_⟩
          refine k _ _ (ag4.trans (ag11.trans (ag26.trans (g3.trans (eg12.trans (eg21.trans (eg28.trans (eg47.trans g5)))))))) h.drop.drop.drop
      · refine loop (σ := Int) (fun st w' c => ∃ (j : Nat) (Γ' : Mem), st = (j : Int) ∧ j ≤ (m.now.map Prod.fst).length ∧ c = (m.now.map Prod.fst).length - j ∧ eΓ55.le Γ' ∧ Sat Γ' (PDisk ev2 m :: PDisk av7 ((putP (m.doom n).1 name x).1.crash wn wb) :: blk ar0 (.cells #[.int .i64 wn, .slice t.p t.len t.cap] 81 (0, 0)) :: L) w') (m.now.map Prod.fst).length ⟨0, eΓ55, rfl, by omega, by omega, .refl _, h⟩ ?_
        clear h
        rintro _ w c ⟨j, Γ5, rfl, hj, hcj, g5, h⟩
        have ef58 := ef58.mono g5
        by_cases hjl : j < (m.now.map Prod.fst).length
        · obtain ⟨y, ey⟩ := get_lt hjl
          have hy := hno y (List.mem_of_getElem? ey)
          obtain ⟨⟨c1, d1⟩, hr1⟩ : ∃ p, (m.read y).2 = p := ⟨_, rfl⟩
          by_cases hy1 : y = name
          · obtain ⟨⟨c2, d2⟩, hr2⟩ : ∃ p, (((putP (m.doom n).1 name x).1.crash wn wb).read y).2 = p := ⟨_, rfl⟩
            have ef29 := ef29.mono g5
            have ef22 := ef22.mono g5
            have af27 := af27.mono g5
            have hb3 := hb3.mono g5
            have ht3 := ht3.mono g5
            have hsub := hsub.mono g5
            have hl := hl.mono g5
            have hb := hb.mono g5
            have ht := ht.mono g5
            refine brD (fun efb0 => ?_) (fun efb0 => by exfalso; omega)
            refine joinI ?_
            refine ⟨by omega, ?_⟩
            refine nnL h ef58 (fun efa1 efha1 => ?_)
            refine ldL h ef58 efha1 ey (fun efy2 efhy2 => ?_)
            have efhy2 : efy2 = str y := efhy2
            subst efhy2
            refine dReadQuietIs_ok h hq hr1 (by first | omega | (dsimp only; omega) | decide) (fun efv4 efΓ5 _ efg7 eff8 h => ?_)
            have ef58 := ef58.mono efg7
            have ef29 := ef29.mono efg7
            have ef22 := ef22.mono efg7
            have af27 := af27.mono efg7
            have hb3 := hb3.mono efg7
            have ht3 := ht3.mono efg7
            have hsub := hsub.mono efg7
            have hl := hl.mono efg7
            have hb := hb.mono efg7
            have ht := ht.mono efg7
            obtain ⟨leff8, meff8, ceff8⟩ := eff8.lens
            refine dReadQuietIs_ok (h.pick .n1) hq2 hr2 (by first | omega | (dsimp only; omega) | decide) (fun efv11 efΓ12 _ efg14 eff15 h => ?_)
            have eff8 := eff8.mono efg14
            have ef58 := ef58.mono efg14
            have ef29 := ef29.mono efg14
            have ef22 := ef22.mono efg14
            have af27 := af27.mono efg14
            have hb3 := hb3.mono efg14
            have ht3 := ht3.mono efg14
            have hsub := hsub.mono efg14
            have hl := hl.mono efg14
            have hb := hb.mono efg14
            have ht := ht.mono efg14
            obtain ⟨leff15, meff15, ceff15⟩ := eff15.lens
            refine brSn (fun efb17 => ?_) (fun efb17 => ?_)
            refine brSn (fun efb18 => ?_) (fun efb18 => ?_)
            refine brN (fun efb19 => ?_) (fun efb19 => ?_)
            dsimp only at efb19
            refine ⟨_, rfl, ?_⟩
            contradiction
            dsimp only at efb19
            refine btoS h eff8 ?_
            refine btoS h eff15 ?_
            refine brSn (fun efb20 => ?_) (fun efb20 => ?_)
            refine ⟨_, rfl, ?_⟩
            contradiction
            refine wrN (j + 1) ?_
            refine ⟨_, (by first | omega | rfl | (dsimp only; omega)), _, _, rfl, (by first | omega | rfl | (dsimp only; omega)), rfl, (g5.trans (efg7.trans efg14)), (((h.pick .n2).pick .n1).pick .n2)⟩
            refine wrN (j + 1) ?_
            refine ⟨_, (by first | omega | rfl | (dsimp only; omega)), _, _, rfl, (by first | omega | rfl | (dsimp only; omega)), rfl, (g5.trans (efg7.trans efg14)), (((h.pick .n2).pick .n1).pick .n2)⟩
            refine wrN (j + 1) ?_
            refine ⟨_, (by first | omega | rfl | (dsimp only; omega)), _, _, rfl, (by first | omega | rfl | (dsimp only; omega)), rfl, (g5.trans (efg7.trans efg14)), (((h.pick .n2).pick .n1).pick .n2)⟩
          · by_cases hy2 : y = [116, 109, 112]
            · obtain ⟨⟨c2, d2⟩, hr2⟩ : ∃ p, (((putP (m.doom n).1 name x).1.crash wn wb).read y).2 = p := ⟨_, rfl⟩
              have ef29 := ef29.mono g5
              have ef22 := ef22.mono g5
              have af27 := af27.mono g5
              have hb3 := hb3.mono g5
              have ht3 := ht3.mono g5
              have hsub := hsub.mono g5
              have hl := hl.mono g5
              have hb := hb.mono g5
              have ht := ht.mono g5
              refine brD (fun egb0 => ?_) (fun egb0 => by exfalso; omega)
              refine joinI ?_
              refine ⟨by omega, ?_⟩
              refine nnL h ef58 (fun ega1 egha1 => ?_)
              refine ldL h ef58 egha1 ey (fun egy2 eghy2 => ?_)
              have eghy2 : egy2 = str y := eghy2
              subst eghy2
              refine dReadQuietIs_ok h hq hr1 (by first | omega | (dsimp only; omega) | decide) (fun egv4 egΓ5 _ egg7 egf8 h => ?_)
              have ef58 := ef58.mono egg7
              have ef29 := ef29.mono egg7
              have ef22 := ef22.mono egg7
              have af27 := af27.mono egg7
              have hb3 := hb3.mono egg7
              have ht3 := ht3.mono egg7
              have hsub := hsub.mono egg7
              have hl := hl.mono egg7
              have hb := hb.mono egg7
              have ht := ht.mono egg7
              obtain ⟨legf8, megf8, cegf8⟩ := egf8.lens
              refine dReadQuietIs_ok (h.pick .n1) hq2 hr2 (by first | omega | (dsimp only; omega) | decide) (fun egv11 egΓ12 _ egg14 egf15 h => ?_)
              have egf8 := egf8.mono egg14
              have ef58 := ef58.mono egg14
              have ef29 := ef29.mono egg14
              have ef22 := ef22.mono egg14
              have af27 := af27.mono egg14
              have hb3 := hb3.mono egg14
              have ht3 := ht3.mono egg14
              have hsub := hsub.mono egg14
              have hl := hl.mono egg14
              have hb := hb.mono egg14
              have ht := ht.mono egg14
              obtain ⟨legf15, megf15, cegf15⟩ := egf15.lens
              refine brSn (fun egb17 => ?_) (fun egb17 => ?_)
              refine brSn (fun egb18 => ?_) (fun egb18 => ?_)
              refine brN (fun egb19 => ?_) (fun egb19 => ?_)
              dsimp only at egb19
              refine ⟨_, rfl, ?_⟩
              contradiction
              dsimp only at egb19
              refine btoS h egf8 ?_
              refine btoS h egf15 ?_
              refine brSn (fun egb20 => ?_) (fun egb20 => ?_)
              refine ⟨_, rfl, ?_⟩
              contradiction
              refine wrN (j + 1) ?_
              refine ⟨_, (by first | omega | rfl | (dsimp only; omega)), _, _, rfl, (by first | omega | rfl | (dsimp only; omega)), rfl, (g5.trans (egg7.trans egg14)), (((h.pick .n2).pick .n1).pick .n2)⟩
              refine wrN (j + 1) ?_
              refine ⟨_, (by first | omega | rfl | (dsimp only; omega)), _, _, rfl, (by first | omega | rfl | (dsimp only; omega)), rfl, (g5.trans (egg7.trans egg14)), (((h.pick .n2).pick .n1).pick .n2)⟩
              refine wrN (j + 1) ?_
              refine ⟨_, (by first | omega | rfl | (dsimp only; omega)), _, _, rfl, (by first | omega | rfl | (dsimp only; omega)), rfl, (g5.trans (egg7.trans egg14)), (((h.pick .n2).pick .n1).pick .n2)⟩
            · obtain ⟨hr2, hd1⟩ := hy hy1 hy2
              rw [hr1] at hr2 hd1
              have hd1 : d1 = 0 := hd1
              have ef29 := ef29.mono g5
              have ef22 := ef22.mono g5
              have af27 := af27.mono g5
              have hb3 := hb3.mono g5
              have ht3 := ht3.mono g5
              have hsub := hsub.mono g5
              have hl := hl.mono g5
              have hb := hb.mono g5
              have ht := ht.mono g5
              refine brD (fun eib0 => ?_) (fun eib0 => by exfalso; omega)
              refine joinI ?_
              refine ⟨by omega, ?_⟩
              refine nnL h ef58 (fun eia1 eiha1 => ?_)
              refine ldL h ef58 eiha1 ey (fun eiy2 eihy2 => ?_)
              have eihy2 : eiy2 = str y := eihy2
              subst eihy2
              refine dReadQuietIs_ok h hq hr1 (by first | omega | (dsimp only; omega) | decide) (fun eiv4 eiΓ5 _ eig7 eif8 h => ?_)
              have ef58 := ef58.mono eig7
              have ef29 := ef29.mono eig7
              have ef22 := ef22.mono eig7
              have af27 := af27.mono eig7
              have hb3 := hb3.mono eig7
              have ht3 := ht3.mono eig7
              have hsub := hsub.mono eig7
              have hl := hl.mono eig7
              have hb := hb.mono eig7
              have ht := ht.mono eig7
              obtain ⟨leif8, meif8, ceif8⟩ := eif8.lens
              refine dReadQuietIs_ok (h.pick .n1) hq2 hr2 (by first | omega | (dsimp only; omega) | decide) (fun eiv11 eiΓ12 _ eig14 eif15 h => ?_)
              have eif8 := eif8.mono eig14
              have ef58 := ef58.mono eig14
              have ef29 := ef29.mono eig14
              have ef22 := ef22.mono eig14
              have af27 := af27.mono eig14
              have hb3 := hb3.mono eig14
              have ht3 := ht3.mono eig14
              have hsub := hsub.mono eig14
              have hl := hl.mono eig14
              have hb := hb.mono eig14
              have ht := ht.mono eig14
              obtain ⟨leif15, meif15, ceif15⟩ := eif15.lens
              refine brSn (fun eib17 => ?_) (fun eib17 => ?_)
              refine brSn (fun eib18 => ?_) (fun eib18 => ?_)
              refine brN (fun eib19 => by exfalso; omega) (fun eib19 => ?_)
              dsimp only at eib19
              refine btoS h eif8 ?_
              refine btoS h eif15 ?_
              refine brSn (fun eib20 => absurd rfl eib20) (fun eib20 => ?_)
              refine wrN (j + 1) ?_
              refine ⟨_, (by first | omega | rfl | (dsimp only; omega)), _, _, rfl, (by first | omega | rfl | (dsimp only; omega)), rfl, (g5.trans (eig7.trans eig14)), (((h.pick .n2).pick .n1).pick .n2)⟩
              refine wrN (j + 1) ?_
              refine ⟨_, (by first | omega | rfl | (dsimp only; omega)), _, _, rfl, (by first | omega | rfl | (dsimp only; omega)), rfl, (g5.trans (eig7.trans eig14)), (((h.pick .n2).pick .n1).pick .n2)⟩
              refine wrN (j + 1) ?_
              refine ⟨_, (by first | omega | rfl | (dsimp only; omega)), _, _, rfl, (by first | omega | rfl | (dsimp only; omega)), rfl, (g5.trans (eig7.trans eig14)), (((h.pick .n2).pick .n1).pick .n2)⟩
        · have ef29 := ef29.mono g5
          have ef22 := ef22.mono g5
          have af27 := af27.mono g5
          have hb3 := hb3.mono g5
          have ht3 := ht3.mono g5
          have hsub := hsub.mono g5
          have hl := hl.mono g5
          have hb := hb.mono g5
          have ht := ht.mono g5
          refine brD (fun ejb0 => by exfalso; omega) (fun ejb0 => ?_)
          refine ⟨_, rfl, ?_⟩
          refine k _ _ (ag4.trans (ag11.trans (ag26.trans (g3.trans (eg12.trans (eg21.trans (eg28.trans (eg57.trans g5)))))))) h.drop.drop.drop

theorem placeAtOnce_walk {H : Type} {enc : TypeId × Value → H} {W : World} {base : Nat} {vs : List Value} {ds : List (DataW H)} {ps : List MemPlace} (hok : ∀ (j : Nat) (t : TypeId) (v : Value), [3, 108, 9, 32, 5, 81][j]? = some t → vs[j]? = some v → Value.okWide Try.prog W .any base t v)
    (hA : DataW.TrodAll enc Try.prog W 0 (fun _ => true) true [3, 108, 9, 32, 5, 81] vs ds ps) : CallP Try.prog 25 vs (.one (.s .bool)) (fun b w' => b = true ∧ Kept W w') W := by
  obtain ⟨v0, vs0, d0, ds0, p0, q0, rfl, rfl, rfl, h0, r0⟩ := trodAll_cons hA
  obtain ⟨v1, vs1, d1, ds1, p1, q1, rfl, rfl, rfl, h1, r1⟩ := trodAll_cons r0
  obtain ⟨v2, vs2, d2, ds2, p2, q2, rfl, rfl, rfl, h2, r2⟩ := trodAll_cons r1
  obtain ⟨v3, vs3, d3, ds3, p3, q3, rfl, rfl, rfl, h3, r3⟩ := trodAll_cons r2
  obtain ⟨v4, vs4, d4, ds4, p4, q4, rfl, rfl, rfl, h4, r4⟩ := trodAll_cons r3
  obtain ⟨v5, vs5, d5, ds5, p5, q5, rfl, rfl, rfl, h5, r5⟩ := trodAll_cons r4
  obtain ⟨rfl, rfl, rfl⟩ := trodAll_nil r5
  obtain ⟨y0, x0, e0, f0⟩ := argS rInt (hok 0 _ _ rfl rfl) h0
  obtain ⟨y1, x1, e1, f1⟩ := argS rActPs (hok 1 _ _ rfl rfl) h1
  obtain ⟨y2, x2, e2, f2⟩ := argS rStr (hok 2 _ _ rfl rfl) h2
  obtain ⟨y3, x3, e3, f3⟩ := argS rBytes (hok 3 _ _ rfl rfl) h3
  obtain ⟨y4, x4, e4, f4⟩ := argS rByte (hok 4 _ _ rfl rfl) h4
  obtain ⟨⟨n5, t5⟩, ⟨m5, x5⟩, e5, f5⟩ := argA rWreck (hok 5 _ _ rfl rfl) h5
  cases e0
  cases e1
  cases e2
  cases e3
  cases e4
  subst e5
  obtain ⟨rfl, g2⟩ := f2
  have f4 : y4 = (x4.toNat : Int) := f4
  subst f4
  have g4 := x4.toNat_lt
  exact law_walk fun k => law_atonce (Sat.start W) f1 f3 (by omega) f5.2 k

theorem placeAtOnce_lifted (os : Os) (started : os.Started) (H : Type) (enc : TypeId × Value → H) :
    ReturnsInHanded {} Try.checked os 25 .any (Rows.placeAtOnceSpec.pre6 enc Try.prog Try.f25 Rows.placeAtOnceRow.domain false) (Rows.placeAtOnceSpec.post enc Try.prog Try.f25 false true false false) := by
  have e : Try.f25.params.toList = [3, 108, 9, 32, 5, 81] := by kernel_rfl
  refine law_lifted (s := Rows.placeAtOnceSpec) started Try.func25 (by kernel_rfl) rfl (fun ds h => ?_) (by kernel_rfl) (fun t ht => ?_)
    (ChangeSpec.witness6 (enc := enc) (C := Try.checked) false ⟨#[], #[.int .i64 0, .slice none 0 0, .string (str []), .slice none 0 0, .int .u8 0, .agg #[.int .i64 0, .slice none 0 0]], []⟩ 8 (by kernel_rfl) (by kernel_rfl) (by kernel_rfl) (by kernel_rfl)) fun W base vs ds ps hok hA => ?_
  · have hl : ds.length = 6 := h
    match ds, hl with
    | [_, _, _, _, _, _], _ => rfl
  · rw [e] at ht
    have hall : ([3, 108, 9, 32, 5, 81].all fun t => Try.prog.readableRec t && decide (t < Try.prog.types.size)) = true := by kernel_rfl
    simpa using List.all_eq_true.1 hall t ht
  · rw [e] at hA hok
    exact placeAtOnce_walk hok hA

theorem placeAtOnce_facts : joinedFacts Try.pinned.checked.prog 25 Try.f25 Rows.placeAtOnceSpec Rows.placeAtOnceRow = true := by
  show joinedFacts Try.prog 25 Try.f25 Rows.placeAtOnceSpec Rows.placeAtOnceRow = true
  unfold joinedFacts
  rw [make_, enter_, lifts_]
  kernel_rfl

theorem PlaceAtOnce_holds : Rows.PlaceAtOnceSaid :=
  OpenClaim.holds_of_wide 25 Try.f25 rfl rfl rfl rfl rfl rfl rfl ⟨rfl, rfl, rfl, rfl, rfl⟩ rfl rfl rfl rfl rfl (by kernel_rfl) Try.func25 placeAtOnce_facts
    (of_decide_eq_true (by kernel_rfl)) (by unfold Func.isWrapper; first | (rw [if_pos (by decide +kernel)]; kernel_rfl) | (rw [if_neg (by decide +kernel)]; exact ⟨rfl, rfl⟩))
    (fun os started H enc _ => placeAtOnce_lifted os started H enc)


end Go.Proofs.Ytohoimokfgfceaa.K
