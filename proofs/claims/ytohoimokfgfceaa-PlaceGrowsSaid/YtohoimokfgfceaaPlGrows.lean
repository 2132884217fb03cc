/-
  PlaceGrows: whenever it crashes in a Grow, the file is as it was, with a beginning of the bytes behind; with all, if that told OK. No condition.
-/
import Derived.Test.YtohoimokfgfceaaPlK
namespace Go.Proofs.Ytohoimokfgfceaa.K
open Go Go.Proofs Go.ChangeShapes Go.WideShapes Go.ChangeAt Go.RowKit
variable {Γ Γ' : Mem} {L L' L'' : List HP} {w w' : World} {A B : HP}
set_option maxRecDepth 100000
set_option maxHeartbeats 4000000

theorem law_pgrows {r n : Int} {s t u : Sl} {name b : Str} {l : List ActP} {wn : Int} {wb : List Int} {K : Bool → World → Prop} (h : Sat Γ L w) (hl : Lst eActP Γ s l) (hb : Bytes Γ u b) (hn : 0 ≤ n ∧ n < 256) (ht : Lst eInt Γ t wb) (k : ∀ Γ' w', Γ.le Γ' → Sat Γ' L w' → K true w') :
    CallP Try.prog 22 [.int .i64 r, .slice s.p s.len s.cap, .string (str name), .slice u.p u.len u.cap, .int .u8 n, .agg #[.int .i64 wn, .slice t.p t.len t.cap]] (.one (.s .bool)) K w := by
  refine callP (fn := Try.f22) [.s (.int .i64 r), .s (.sl s), .s (.str (str name)), .s (.sl u), .s (.int .u8 n), .agg [.int .i64 wn, .sl t]] (.p .n (.p .n (.p .n (.p .n (.j [4, 11, 14, 2, 13, 15] [] .n (.p (.p .n (.b (.l [41, 40, 4, 11, 14, 2, 13, 15] [(42, .s (.int .i64))] .n))) (.p .n (.p .n (.p .n (.p .n (.p .n (.j [13, 20, 21, 18, 15] [] (.p .s .n) .n)))))))))))) nong mixed (by kernel_rfl) (by kernel_rfl) rfl rfl ?_
  obtain ⟨lhl, mhl, chl⟩ := hl.lens
  obtain ⟨lhb, mhb, chb⟩ := hb.lens
  obtain ⟨lht, mht, cht⟩ := ht.lens
  refine new h fun ar0 _ h => ?_
  have h := h.asA (B := blk ar0 (.cells #[Value.int IntKind.i64 wn, Value.slice t.p t.len t.cap] 81 (0, 0))) (by kernel_rfl)
  refine shownP_ok h (fun aΓ2 _ ag4 h => ?_)
  have hl := hl.mono ag4
  have hb := hb.mono ag4
  have ht := ht.mono ag4
  refine madeP_ok h hl (fun av7 av8 aΓ9 _ ag11 ap12 ap13 ap14 h => ?_)
  have hl := hl.mono ag11
  have hb := hb.mono ag11
  have ht := ht.mono ag11
  refine mnN _ _ ?_
  refine ⟨by omega, ?_⟩
  refine joinI ?_
  refine brF ?_
  refine dSyncNamesQuietG_ok h ap12 (by first | omega | (dsimp only; omega) | decide) (fun _ ap18 ap19 ap20 h => ?_)
  refine brF ?_
  refine namesP_ok h ap18 (by first | omega | (dsimp only; omega) | decide) (fun av23 aΓ24 _ ag26 af27 h => ?_)
  have hl := hl.mono ag26
  have hb := hb.mono ag26
  have ht := ht.mono ag26
  obtain ⟨laf27, maf27, caf27⟩ := af27.lens
  rotate_left
  refine loop (σ := Int) (fun st w' c => ∃ (i : Nat) (m : DiskM) (Γ' : Mem), st = (i : Int) ∧ i ≤ (av8.syncNames.1.now.map Prod.fst).length ∧ c = (av8.syncNames.1.now.map Prod.fst).length - i ∧ DiskM.Syn (av8.syncNames.1.now.map Prod.fst) i m ∧ m.g ≤ 80000 ∧ aΓ24.le Γ' ∧
      Sat Γ' (PDisk av7 m :: blk ar0 (.cells #[.int .i64 wn, .slice t.p t.len t.cap] 81 (0, 0)) :: L) w') (av8.syncNames.1.now.map Prod.fst).length
    ⟨0, av8.syncNames.1, aΓ24, rfl, by omega, by omega, ap20, by omega, .refl _, h⟩ ?_
  clear h
  rintro _ w c ⟨i, m, Γ3, rfl, hi, hc, hS, hg, g3, h⟩
  have af27 := af27.mono g3
  have hb3 := hb.mono g3
  have ht3 := ht.mono g3
  by_cases hil : i < (av8.syncNames.1.now.map Prod.fst).length
  · obtain ⟨x, ex⟩ := get_lt hil
    have hst := hS.step ex
    have hsg := sync_g m x
    have hl := hl.mono g3
    have hb := hb.mono g3
    have ht := ht.mono g3
    refine brD (fun bb0 => ?_) (fun bb0 => by exfalso; omega)
    refine ⟨by omega, ?_⟩
    refine nnL h af27 (fun ba1 bha1 => ?_)
    refine ldL h af27 bha1 ex (fun by2 bhy2 => ?_)
    have bhy2 : by2 = str x := bhy2
    subst bhy2
    refine dSync_ok h (fun _ h => ?_)
    refine wrN (i + 1) ?_
    refine ⟨_, (by first | omega | rfl | (dsimp only; omega)), _, _, _, rfl, (by first | omega | rfl | (dsimp only; omega)), rfl, hst, (by first | omega | rfl | (dsimp only; omega)), g3, ((h.pick .n1).pick .n1)⟩
  · have hin : i = (av8.syncNames.1.now.map Prod.fst).length := by omega
    rw [hin] at hS
    have hf := hS.firm
    have hq := hS.q
    have hd0 : (m.doom n).2 = 0 := by rw [DiskM.doom_at hq hn.1]
    have hgd := doom_g m n
    have hsub := hb3.sub (l := 0) (n := min u.len 300) (Nat.zero_le _) (by omega)
    have e0 : (b.drop 0).take (min u.len 300 - 0) = b.take 300 := by
      rw [List.drop_zero, Nat.sub_zero, lhb]
      by_cases h3 : b.length ≤ 300
      · rw [Nat.min_eq_left h3, List.take_of_length_le (Nat.le_refl _), List.take_of_length_le h3]
      · rw [Nat.min_eq_right (by omega)]
    rw [e0] at hsub
    have hxl : (b.take 300).length ≤ 300 := by rw [List.length_take]; omega
    generalize b.take 300 = x at hsub hxl
    have hwd : Wf (m.doom n).1 := hf.wf.doom (by omega)
    obtain ⟨hp0, hpa⟩ := DiskM.grow_safe (name := name) (x := x) hf (DiskM.core_doom m n) hwd
    have hpg := (stepGrowP name x).g (m.doom n).1
    have hq2 : quiet ((growM (m.doom n).1 name x).1.crash wn wb) := DiskM.crash_quiet
    have hg2 : ((growM (m.doom n).1 name x).1.crash wn wb).g = (growM (m.doom n).1 name x).1.g := rfl
    have hgs : (growM (m.doom n).1 name x).1.g ≤ 100000 := by omega
    have hc1 := DiskM.quiet_cont (s := name) hq
    have hcl : (DiskM.cont m name).1.length ≤ m.g := by rw [← hc1]; exact DiskM.read_len hf.wf name
    have hc2 : (((growM (m.doom n).1 name x).1.crash wn wb).read name).2 = DiskM.see (growM (m.doom n).1 name x).1 wn wb name := rfl
    obtain ⟨⟨old, f⟩, hcn⟩ : ∃ p, DiskM.cont m name = p := ⟨_, rfl⟩
    rw [hcn] at hc1 hp0 hpa hcl
    obtain ⟨k1, hk1, hk2, _⟩ := hpa wn wb
    have hfull : (growM (m.doom n).1 name x).2 = 0 → k1 = x.length := fun h0 => by
      obtain ⟨j, h1, h2, h3⟩ := (hp0 h0).see (n := wn) (wb := wb)
      rw [h3] at hk2
      have := congrArg List.length hk2
      dsimp only at h1 h2 this
      simp only [List.length_take, List.length_append] at this h1 h2
      omega
    obtain ⟨⟨now, c2⟩, hsn⟩ : ∃ p, DiskM.see (growM (m.doom n).1 name x).1 wn wb name = p := ⟨_, rfl⟩
    rw [hsn] at hc2 hk2
    have hk2 : now = old ++ x.take k1 := hk2
    have hnl : now.length = old.length + k1 := by rw [hk2, List.length_append, List.length_take]; omega
    have hcl : old.length ≤ m.g := hcl
    have hn1 : (now.drop 0).take (old.length - 0) = old := by rw [hk2, List.drop_zero, Nat.sub_zero, List.take_left]
    have hn2 : (now.drop old.length).take (now.length - old.length) = x.take k1 := by rw [hk2, List.drop_left, List.take_of_length_le (by simp)]
    have hn3 : (x.drop 0).take (now.length - old.length - 0) = x.take k1 := by rw [List.drop_zero, Nat.sub_zero, hnl, Nat.add_sub_cancel_left]
    clear hp0 hpa
    have hl := hl.mono g3
    have hb := hb.mono g3
    have ht := ht.mono g3
    refine brD (fun cb0 => by exfalso; omega) (fun cb0 => ?_)
    refine dReadQuietIs_ok h hq hc1 (by first | omega | (dsimp only; omega) | decide) (fun cv2 cΓ3 _ cg5 cf6 h => ?_)
    have af27 := af27.mono cg5
    have hb3 := hb3.mono cg5
    have ht3 := ht3.mono cg5
    have hsub := hsub.mono cg5
    have hl := hl.mono cg5
    have hb := hb.mono cg5
    have ht := ht.mono cg5
    obtain ⟨lcf6, mcf6, ccf6⟩ := cf6.lens
    refine wr ?_
    refine dDoom_ok h (by first | omega | (dsimp only; omega) | decide) (fun _ h => ?_)
    refine brN (fun cb11 => by exfalso; omega) (fun cb11 => ?_)
    refine dGrowP_ok h hsub (by first | omega | (dsimp only; omega) | decide) (fun cΓ13 _ cg15 h => ?_)
    have cf6 := cf6.mono cg15
    have af27 := af27.mono cg15
    have hb3 := hb3.mono cg15
    have ht3 := ht3.mono cg15
    have hsub := hsub.mono cg15
    have hl := hl.mono cg15
    have hb := hb.mono cg15
    have ht := ht.mono cg15
    refine ldA2 _ _ h .n1 ?_
    refine dCrash_ok h (by first | omega | (dsimp only; omega) | decide) ht (fun _ h => ?_)
    refine dReadQuietIs_ok h hq2 hsn (by first | omega | (dsimp only; omega) | decide) (fun cv21 cΓ22 _ cg24 cf25 h => ?_)
    have cf6 := cf6.mono cg24
    have af27 := af27.mono cg24
    have hb3 := hb3.mono cg24
    have ht3 := ht3.mono cg24
    have hsub := hsub.mono cg24
    have hl := hl.mono cg24
    have hb := hb.mono cg24
    have ht := ht.mono cg24
    obtain ⟨lcf25, mcf25, ccf25⟩ := cf25.lens
    refine joinI ?_
    refine dr h fun _ h => ?_
    refine brD (fun cb27 => ?_) (fun cb27 => ?_)
    dsimp only at cb27
    refine ⟨_, rfl, ?_⟩
    (exfalso; omega)
    dsimp only at cb27
    refine ⟨by dsimp only; omega, ?_⟩
    rotate_left
    have hxl2 := hsub.len
    have hs1 := cf25.sub (l := 0) (n := cv2.len) (Nat.zero_le _) (by omega)
    have e1 : (now.drop 0).take (cv2.len - 0) = old := by rw [lcf6]; exact hn1
    rw [e1] at hs1
    have hs2 := cf25.sub (l := cv2.len) (n := cv21.len) (by omega) (Nat.le_refl _)
    have e2 : (now.drop cv2.len).take (cv21.len - cv2.len) = x.take k1 := by rw [lcf6, lcf25]; exact hn2
    rw [e2] at hs2
    have hs3 := hsub.sub (l := 0) (n := cv21.len - cv2.len) (Nat.zero_le _) (by omega)
    have e3 : (x.drop 0).take (cv21.len - cv2.len - 0) = x.take k1 := by rw [lcf6, lcf25]; exact hn3
    rw [e3] at hs3
    by_cases h0 : (growM (m.doom n).1 name x).2 = 0
    · have hfu := hfull h0
      clear hfull
      dsimp only [Sl.sub] at hxl2
      refine btoS h hs1 ?_
      refine btoS h cf6 ?_
      refine brSn (fun db0 => absurd rfl db0) (fun db0 => ?_)
      refine wrN (cv2.len + ((u.sub Try.prog.types[5].size 0 (↑(min u.len 300) : Int) (↑u.cap : Int)).len)) ?_
      refine brD (fun db1 => by exfalso; dsimp only [Sl.sub] at db1; omega) (fun db1 => ?_)
      dsimp only at db1
      dsimp only [Sl.sub] at db1
      refine wrN (cv21.len - cv2.len) ?_
      refine ⟨by dsimp only [Sl.sub]; omega, ?_⟩
      refine btoS h hs3 ?_
      refine ⟨by dsimp only; omega, ?_⟩
      refine btoS h hs2 ?_
      refine brSn (fun db2 => absurd rfl db2) (fun db2 => ?_)
      refine brT ?_
      refine brN (fun db3 => by exfalso; omega) (fun db3 => ?_)
      refine wrN (cv2.len + ((u.sub Try.prog.types[5].size 0 (↑(min u.len 300) : Int) (↑u.cap : Int)).len)) ?_
      refine ⟨_, rfl, ?_⟩
      refine kDec (fun db4 => ?_) (fun db4 => ?_)
      dsimp only at db4
      dsimp only [Sl.sub] at db4
      refine k _ _ (ag4.trans (ag11.trans (ag26.trans (g3.trans (cg5.trans (cg15.trans cg24)))))) h.drop.drop
      dsimp only at db4
      dsimp only [Sl.sub] at db4
      (exfalso; omega)
    · clear hfull
      dsimp only [Sl.sub] at hxl2
      refine btoS h hs1 ?_
      refine btoS h cf6 ?_
      refine brSn (fun eb0 => absurd rfl eb0) (fun eb0 => ?_)
      refine wrN (cv2.len + ((u.sub Try.prog.types[5].size 0 (↑(min u.len 300) : Int) (↑u.cap : Int)).len)) ?_
      refine brD (fun eb1 => by exfalso; dsimp only [Sl.sub] at eb1; omega) (fun eb1 => ?_)
      dsimp only at eb1
      dsimp only [Sl.sub] at eb1
      refine wrN (cv21.len - cv2.len) ?_
      refine ⟨by dsimp only [Sl.sub]; omega, ?_⟩
      refine btoS h hs3 ?_
      refine ⟨by dsimp only; omega, ?_⟩
      refine btoS h hs2 ?_
      refine brSn (fun eb2 => absurd rfl eb2) (fun eb2 => ?_)
      refine brT ?_
      refine brN (fun eb3 => ?_) (fun eb3 => by exfalso; omega)
      refine ⟨_, rfl, ?_⟩
      refine k _ _ (ag4.trans (ag11.trans (ag26.trans (g3.trans (cg5.trans (cg15.trans cg24)))))) h.drop.drop

theorem placeGrows_walk {H : Type} {enc : TypeId × Value → H} {W : World} {base : Nat} {vs : List Value} {ds : List (DataW H)} {ps : List MemPlace} (hok : ∀ (j : Nat) (t : TypeId) (v : Value), [3, 108, 9, 32, 5, 81][j]? = some t → vs[j]? = some v → Value.okWide Try.prog W .any base t v)
    (hA : DataW.TrodAll enc Try.prog W 0 (fun _ => true) true [3, 108, 9, 32, 5, 81] vs ds ps) : CallP Try.prog 22 vs (.one (.s .bool)) (fun b w' => b = true ∧ Kept W w') W := by
  obtain ⟨v0, vs0, d0, ds0, p0, q0, rfl, rfl, rfl, h0, r0⟩ := trodAll_cons hA
  obtain ⟨v1, vs1, d1, ds1, p1, q1, rfl, rfl, rfl, h1, r1⟩ := trodAll_cons r0
  obtain ⟨v2, vs2, d2, ds2, p2, q2, rfl, rfl, rfl, h2, r2⟩ := trodAll_cons r1
  obtain ⟨v3, vs3, d3, ds3, p3, q3, rfl, rfl, rfl, h3, r3⟩ := trodAll_cons r2
  obtain ⟨v4, vs4, d4, ds4, p4, q4, rfl, rfl, rfl, h4, r4⟩ := trodAll_cons r3
  obtain ⟨v5, vs5, d5, ds5, p5, q5, rfl, rfl, rfl, h5, r5⟩ := trodAll_cons r4
  obtain ⟨rfl, rfl, rfl⟩ := trodAll_nil r5
  obtain ⟨y0, x0, e0, f0⟩ := argS rInt (hok 0 _ _ rfl rfl) h0
  obtain ⟨y1, x1, e1, f1⟩ := argS rActPs (hok 1 _ _ rfl rfl) h1
  obtain ⟨y2, x2, e2, f2⟩ := argS rStr (hok 2 _ _ rfl rfl) h2
  obtain ⟨y3, x3, e3, f3⟩ := argS rBytes (hok 3 _ _ rfl rfl) h3
  obtain ⟨y4, x4, e4, f4⟩ := argS rByte (hok 4 _ _ rfl rfl) h4
  obtain ⟨⟨n5, t5⟩, ⟨m5, x5⟩, e5, f5⟩ := argA rWreck (hok 5 _ _ rfl rfl) h5
  cases e0
  cases e1
  cases e2
  cases e3
  cases e4
  subst e5
  obtain ⟨rfl, g2⟩ := f2
  have f4 : y4 = (x4.toNat : Int) := f4
  subst f4
  have g4 := x4.toNat_lt
  exact law_walk fun k => law_pgrows (Sat.start W) f1 f3 (by omega) f5.2 k

theorem placeGrows_lifted (os : Os) (started : os.Started) (H : Type) (enc : TypeId × Value → H) :
    ReturnsInHanded {} Try.checked os 22 .any (Rows.placeGrowsSpec.pre6 enc Try.prog Try.f22 Rows.placeGrowsRow.domain false) (Rows.placeGrowsSpec.post enc Try.prog Try.f22 false true false false) := by
  have e : Try.f22.params.toList = [3, 108, 9, 32, 5, 81] := by kernel_rfl
  refine law_lifted (s := Rows.placeGrowsSpec) started Try.func22 (by kernel_rfl) rfl (fun ds h => ?_) (by kernel_rfl) (fun t ht => ?_)
    (ChangeSpec.witness6 (enc := enc) (C := Try.checked) false ⟨#[], #[.int .i64 0, .slice none 0 0, .string (str []), .slice none 0 0, .int .u8 0, .agg #[.int .i64 0, .slice none 0 0]], []⟩ 8 (by kernel_rfl) (by kernel_rfl) (by kernel_rfl) (by kernel_rfl)) fun W base vs ds ps hok hA => ?_
  · have hl : ds.length = 6 := h
    match ds, hl with
    | [_, _, _, _, _, _], _ => rfl
  · rw [e] at ht
    have hall : ([3, 108, 9, 32, 5, 81].all fun t => Try.prog.readableRec t && decide (t < Try.prog.types.size)) = true := by kernel_rfl
    simpa using List.all_eq_true.1 hall t ht
  · rw [e] at hA hok
    exact placeGrows_walk hok hA

theorem placeGrows_facts : joinedFacts Try.pinned.checked.prog 22 Try.f22 Rows.placeGrowsSpec Rows.placeGrowsRow = true := by
  show joinedFacts Try.prog 22 Try.f22 Rows.placeGrowsSpec Rows.placeGrowsRow = true
  unfold joinedFacts
  rw [make_, enter_, lifts_]
  kernel_rfl

theorem PlaceGrows_holds : Rows.PlaceGrowsSaid :=
  OpenClaim.holds_of_wide 22 Try.f22 rfl rfl rfl rfl rfl rfl rfl ⟨rfl, rfl, rfl, rfl, rfl⟩ rfl rfl rfl rfl rfl (by kernel_rfl) Try.func22 placeGrows_facts
    (of_decide_eq_true (by kernel_rfl)) (by unfold Func.isWrapper; first | (rw [if_pos (by decide +kernel)]; kernel_rfl) | (rw [if_neg (by decide +kernel)]; exact ⟨rfl, rfl⟩))
    (fun os started H enc _ => placeGrows_lifted os started H enc)


end Go.Proofs.Ytohoimokfgfceaa.K
