/-
  RunAtOnce: whenever it crashes, a file has what it had, or all that was added; and that, if End told OK. No condition.
-/
import Derived.Test.YtohoimokfgfceaaRnG
import Derived.Test.YtohoimokfgfceaaRnS
namespace Go.Proofs.Ytohoimokfgfceaa.K
open Go Go.Proofs Go.ChangeShapes Go.WideShapes Go.ChangeAt Go.RowKit
variable {Γ Γ' : Mem} {L L' L'' : List HP} {w w' : World} {A B : HP}
set_option maxRecDepth 100000
set_option maxHeartbeats 4000000

theorem law_ratonce {n : Int} {s u t : Sl} {l m : List Str} {wn : Int} {wb : List Int} {K : Bool → World → Prop} (h : Sat Γ L w) (hl : Lst eBytes Γ s l) (hm : Lst eBytes Γ u m) (hn : 0 ≤ n ∧ n < 65536) (ht : Lst eInt Γ t wb) (k : ∀ Γ' w', Γ.le Γ' → Sat Γ' L w' → K true w') :
    CallP Try.prog 24 [.slice s.p s.len s.cap, .slice u.p u.len u.cap, .int .u16 n, .agg #[.int .i64 wn, .slice t.p t.len t.cap]] (.one (.s .bool)) K w := by
  refine callP (fn := Try.f24) [.s (.sl s), .s (.sl u), .s (.int .u16 n), .agg [.int .i64 wn, .sl t]] (.p .n (.p .n (.p .n (.p .n (.p .n (.j [7, 10, 1, 9, 11] [] .n .n)))))) nong mixed (by kernel_rfl) (by kernel_rfl) rfl rfl ?_
  have hxr : rightP [120] := by decide
  have hla := riseM_asc l
  have hll := riseM_len l
  have hma := riseM_asc m
  have hml := riseM_len m
  have hlb := DiskM.Asc.bytes hla hll
  have hqn : quiet (.new 20000) := ⟨rfl, rfl⟩
  have hgn : (DiskM.new 20000).g = 0 := rfl
  have hrn : (DiskM.new 20000).room = 20000 := rfl
  have e1 := DiskM.putR_rise (m := .new 20000) hxr hla.rise
  obtain ⟨p0, pq, pg⟩ := DiskM.putCs_there (name := [120]) (cs := (riseM l).map frameB) hqn (.new 20000) hxr (by rw [hrn, hgn, DiskM.frames_flat]; omega)
  have hps := (DiskM.putCs_safe (name := [120]) (cs := (riseM l).map frameB) hxr (m := .new 20000) ⟨.new 20000, rfl, fun s i h => by cases h⟩ (.refl _) (.new 20000)).1 p0
  rw [← e1] at p0 pq pg hps
  rw [DiskM.frames_flat] at pg hps
  have p1g : (DiskM.putR (.new 20000) [120] (riseM l)).1.g ≤ 10000 := by omega
  generalize hm1 : (DiskM.putR (.new 20000) [120] (riseM l)).1 = m1 at *
  have hr1 : (m1.read [120]).2 = (framesB (riseM l), 0) := by rw [DiskM.quiet_cont pq]; exact hps.is
  have hd0 : (m1.doom n).2 = 0 := by unfold DiskM.doom; rw [if_neg (by omega)]
  have hdg := doom_g m1 n
  have hdw : Wf (m1.doom n).1 := hps.firm.wf.doom (by omega)
  have e2 := DiskM.putR_rise (m := (m1.doom n).1) hxr hma.rise
  obtain ⟨s1, s2⟩ := DiskM.putCs_safe (name := [120]) (cs := (riseM m).map frameB) hxr hps.firm (DiskM.core_doom m1 n) hdw
  rw [← e2] at s1 s2
  rw [DiskM.frames_flat] at s1 s2
  have hg2 := DiskM.putR_g (m1.doom n).1 [120] (riseM m)
  have hq2 : quiet ((DiskM.putR (m1.doom n).1 [120] (riseM m)).1.crash wn wb) := DiskM.crash_quiet
  have hgc : ((DiskM.putR (m1.doom n).1 [120] (riseM m)).1.crash wn wb).g = (DiskM.putR (m1.doom n).1 [120] (riseM m)).1.g := rfl
  have hc2 : (((DiskM.putR (m1.doom n).1 [120] (riseM m)).1.crash wn wb).read [120]).2 = DiskM.see (DiskM.putR (m1.doom n).1 [120] (riseM m)).1 wn wb [120] := rfl
  have hsn := s2.name wn wb
  rw [hps.is] at hsn
  have hmsm : ∀ x ∈ riseM m, x.length ≤ 64 := hma.small
  by_cases hA : DiskM.see (DiskM.putR (m1.doom n).1 [120] (riseM m)).1 wn wb [120] = (framesB (riseM m), 0)
  · rw [hA] at hc2
    clear s1 s2 hsn hA hps
    subst hm1
    obtain ⟨lhl, mhl, chl⟩ := hl.lens
    obtain ⟨lhm, mhm, chm⟩ := hm.lens
    obtain ⟨lht, mht, cht⟩ := ht.lens
    refine new h fun ar0 _ h => ?_
    have h := h.asA (B := blk ar0 (.cells #[Value.int IntKind.i64 wn, Value.slice t.p t.len t.cap] 81 (0, 0))) (by kernel_rfl)
    refine shownR_ok h (fun aΓ2 _ ag4 h => ?_)
    have hl := hl.mono ag4
    have hm := hm.mono ag4
    have ht := ht.mono ag4
    refine dNew_ok h (fun av7 _ h => ?_)
    refine rise_ok h hl (fun av11 aΓ12 _ ag14 af15 h => ?_)
    have hl := hl.mono ag14
    have hm := hm.mono ag14
    have ht := ht.mono ag14
    obtain ⟨laf15, maf15, caf15⟩ := af15.lens
    refine putRun_ok h af15 hll (by first | omega | (dsimp only; omega) | decide) (fun ap18 aΓ19 _ ag21 h => ?_) (fun ap23 aΓ24 _ ag26 h => ?_)
    have af15 := af15.mono ag21
    have hl := hl.mono ag21
    have hm := hm.mono ag21
    have ht := ht.mono ag21
    refine brF ?_
    refine dReadQuietIs_ok h pq hr1 (by first | omega | (dsimp only; omega) | decide) (fun av29 aΓ30 _ ag32 af33 h => ?_)
    have af15 := af15.mono ag32
    have hl := hl.mono ag32
    have hm := hm.mono ag32
    have ht := ht.mono ag32
    obtain ⟨laf33, maf33, caf33⟩ := af33.lens
    refine joinI ?_
    refine brF ?_
    refine wr ?_
    refine dDoom_ok h (by first | omega | (dsimp only; omega) | decide) (fun _ h => ?_)
    refine brN (fun ab38 => by exfalso; omega) (fun ab38 => ?_)
    refine rise_ok h hm (fun av40 aΓ41 _ ag43 af44 h => ?_)
    have af33 := af33.mono ag43
    have af15 := af15.mono ag43
    have hl := hl.mono ag43
    have hm := hm.mono ag43
    have ht := ht.mono ag43
    obtain ⟨laf44, maf44, caf44⟩ := af44.lens
    refine putRun_ok h af44 hml (by first | omega | (dsimp only; omega) | decide) (fun ap47 aΓ48 _ ag50 h => ?_) (fun ap52 aΓ53 _ ag55 h => ?_)
    have af44 := af44.mono ag50
    have af33 := af33.mono ag50
    have af15 := af15.mono ag50
    have hl := hl.mono ag50
    have hm := hm.mono ag50
    have ht := ht.mono ag50
    refine ldA2 _ _ h .n1 ?_
    refine dCrash_ok h (by first | omega | (dsimp only; omega) | decide) ht (fun _ h => ?_)
    refine dReadQuietIs_ok h hq2 hc2 (by first | omega | (dsimp only; omega) | decide) (fun av61 aΓ62 _ ag64 af65 h => ?_)
    have af44 := af44.mono ag64
    have af33 := af33.mono ag64
    have af15 := af15.mono ag64
    have hl := hl.mono ag64
    have hm := hm.mono ag64
    have ht := ht.mono ag64
    obtain ⟨laf65, maf65, caf65⟩ := af65.lens
    refine rise_ok h hm (fun av68 aΓ69 _ ag71 af72 h => ?_)
    have af65 := af65.mono ag71
    have af44 := af44.mono ag71
    have af33 := af33.mono ag71
    have af15 := af15.mono ag71
    have hl := hl.mono ag71
    have hm := hm.mono ag71
    have ht := ht.mono ag71
    obtain ⟨laf72, maf72, caf72⟩ := af72.lens
    refine rBytesR_ok h af72 hmsm (by first | omega | (dsimp only; omega) | decide) (fun av75 aΓ76 _ ag78 af79 h => ?_)
    have af72 := af72.mono ag78
    have af65 := af65.mono ag78
    have af44 := af44.mono ag78
    have af33 := af33.mono ag78
    have af15 := af15.mono ag78
    have hl := hl.mono ag78
    have hm := hm.mono ag78
    have ht := ht.mono ag78
    obtain ⟨laf79, maf79, caf79⟩ := af79.lens
    refine brT ?_
    refine brT ?_
    refine btoS h af65 ?_
    refine btoS h af79 ?_
    refine brS (fun ab81 => ?_) (fun ab81 => absurd rfl ab81)
    refine ⟨_, rfl, ?_⟩
    refine k _ _ (ag4.trans (ag14.trans (ag21.trans (ag32.trans (ag43.trans (ag50.trans (ag64.trans (ag71.trans ag78)))))))) h.drop.drop
    have af44 := af44.mono ag55
    have af33 := af33.mono ag55
    have af15 := af15.mono ag55
    have hl := hl.mono ag55
    have hm := hm.mono ag55
    have ht := ht.mono ag55
    refine ldA2 _ _ h .n1 ?_
    refine dCrash_ok h (by first | omega | (dsimp only; omega) | decide) ht (fun _ h => ?_)
    refine dReadQuietIs_ok h hq2 hc2 (by first | omega | (dsimp only; omega) | decide) (fun av87 aΓ88 _ ag90 af91 h => ?_)
    have af44 := af44.mono ag90
    have af33 := af33.mono ag90
    have af15 := af15.mono ag90
    have hl := hl.mono ag90
    have hm := hm.mono ag90
    have ht := ht.mono ag90
    obtain ⟨laf91, maf91, caf91⟩ := af91.lens
    refine rise_ok h hm (fun av94 aΓ95 _ ag97 af98 h => ?_)
    have af91 := af91.mono ag97
    have af44 := af44.mono ag97
    have af33 := af33.mono ag97
    have af15 := af15.mono ag97
    have hl := hl.mono ag97
    have hm := hm.mono ag97
    have ht := ht.mono ag97
    obtain ⟨laf98, maf98, caf98⟩ := af98.lens
    refine rBytesR_ok h af98 hmsm (by first | omega | (dsimp only; omega) | decide) (fun av101 aΓ102 _ ag104 af105 h => ?_)
    have af98 := af98.mono ag104
    have af91 := af91.mono ag104
    have af44 := af44.mono ag104
    have af33 := af33.mono ag104
    have af15 := af15.mono ag104
    have hl := hl.mono ag104
    have hm := hm.mono ag104
    have ht := ht.mono ag104
    obtain ⟨laf105, maf105, caf105⟩ := af105.lens
    refine brT ?_
    refine brT ?_
    refine btoS h af91 ?_
    refine btoS h af105 ?_
    refine brS (fun ab107 => ?_) (fun ab107 => absurd rfl ab107)
    refine ⟨_, rfl, ?_⟩
    refine k _ _ (ag4.trans (ag14.trans (ag21.trans (ag32.trans (ag43.trans (ag55.trans (ag90.trans (ag97.trans ag104)))))))) h.drop.drop
    have af15 := af15.mono ag26
    have hl := hl.mono ag26
    have hm := hm.mono ag26
    have ht := ht.mono ag26
    refine brT ?_
    refine ⟨_, rfl, ?_⟩
    (exfalso; omega)
  · have hne : (DiskM.putR (m1.doom n).1 [120] (riseM m)).2 ≠ 0 := fun h0 => hA (by
      have h1 := s1 h0
      rw [h1.firm.see, h1.is])
    rcases hsn with hB | hB
    · rw [hB] at hc2
      clear s1 s2 hB hA hps
      subst hm1
      obtain ⟨lhl, mhl, chl⟩ := hl.lens
      obtain ⟨lhm, mhm, chm⟩ := hm.lens
      obtain ⟨lht, mht, cht⟩ := ht.lens
      refine new h fun br0 _ h => ?_
      have h := h.asA (B := blk br0 (.cells #[Value.int IntKind.i64 wn, Value.slice t.p t.len t.cap] 81 (0, 0))) (by kernel_rfl)
      refine shownR_ok h (fun bΓ2 _ bg4 h => ?_)
      have hl := hl.mono bg4
      have hm := hm.mono bg4
      have ht := ht.mono bg4
      refine dNew_ok h (fun bv7 _ h => ?_)
      refine rise_ok h hl (fun bv11 bΓ12 _ bg14 bf15 h => ?_)
      have hl := hl.mono bg14
      have hm := hm.mono bg14
      have ht := ht.mono bg14
      obtain ⟨lbf15, mbf15, cbf15⟩ := bf15.lens
      refine putRun_ok h bf15 hll (by first | omega | (dsimp only; omega) | decide) (fun bp18 bΓ19 _ bg21 h => ?_) (fun bp23 bΓ24 _ bg26 h => ?_)
      have bf15 := bf15.mono bg21
      have hl := hl.mono bg21
      have hm := hm.mono bg21
      have ht := ht.mono bg21
      refine brF ?_
      refine dReadQuietIs_ok h pq hr1 (by first | omega | (dsimp only; omega) | decide) (fun bv29 bΓ30 _ bg32 bf33 h => ?_)
      have bf15 := bf15.mono bg32
      have hl := hl.mono bg32
      have hm := hm.mono bg32
      have ht := ht.mono bg32
      obtain ⟨lbf33, mbf33, cbf33⟩ := bf33.lens
      refine joinI ?_
      refine brF ?_
      refine wr ?_
      refine dDoom_ok h (by first | omega | (dsimp only; omega) | decide) (fun _ h => ?_)
      refine brN (fun bb38 => by exfalso; omega) (fun bb38 => ?_)
      refine rise_ok h hm (fun bv40 bΓ41 _ bg43 bf44 h => ?_)
      have bf33 := bf33.mono bg43
      have bf15 := bf15.mono bg43
      have hl := hl.mono bg43
      have hm := hm.mono bg43
      have ht := ht.mono bg43
      obtain ⟨lbf44, mbf44, cbf44⟩ := bf44.lens
      refine putRun_ok h bf44 hml (by first | omega | (dsimp only; omega) | decide) (fun bp47 bΓ48 _ bg50 h => ?_) (fun bp52 bΓ53 _ bg55 h => ?_)
      have bf44 := bf44.mono bg50
      have bf33 := bf33.mono bg50
      have bf15 := bf15.mono bg50
      have hl := hl.mono bg50
      have hm := hm.mono bg50
      have ht := ht.mono bg50
      refine ldA2 _ _ h .n1 ?_
      refine dCrash_ok h (by first | omega | (dsimp only; omega) | decide) ht (fun _ h => ?_)
      refine dReadQuietIs_ok h hq2 hc2 (by first | omega | (dsimp only; omega) | decide) (fun bv61 bΓ62 _ bg64 bf65 h => ?_)
      have bf44 := bf44.mono bg64
      have bf33 := bf33.mono bg64
      have bf15 := bf15.mono bg64
      have hl := hl.mono bg64
      have hm := hm.mono bg64
      have ht := ht.mono bg64
      obtain ⟨lbf65, mbf65, cbf65⟩ := bf65.lens
      refine rise_ok h hm (fun bv68 bΓ69 _ bg71 bf72 h => ?_)
      have bf65 := bf65.mono bg71
      have bf44 := bf44.mono bg71
      have bf33 := bf33.mono bg71
      have bf15 := bf15.mono bg71
      have hl := hl.mono bg71
      have hm := hm.mono bg71
      have ht := ht.mono bg71
      obtain ⟨lbf72, mbf72, cbf72⟩ := bf72.lens
      refine rBytesR_ok h bf72 hmsm (by first | omega | (dsimp only; omega) | decide) (fun bv75 bΓ76 _ bg78 bf79 h => ?_)
      have bf72 := bf72.mono bg78
      have bf65 := bf65.mono bg78
      have bf44 := bf44.mono bg78
      have bf33 := bf33.mono bg78
      have bf15 := bf15.mono bg78
      have hl := hl.mono bg78
      have hm := hm.mono bg78
      have ht := ht.mono bg78
      obtain ⟨lbf79, mbf79, cbf79⟩ := bf79.lens
      refine brT ?_
      refine brT ?_
      refine btoS h bf65 ?_
      refine btoS h bf79 ?_
      refine brS (fun bb81 => ?_) (fun bb81 => ?_)
      refine ⟨_, rfl, ?_⟩
      refine k _ _ (bg4.trans (bg14.trans (bg21.trans (bg32.trans (bg43.trans (bg50.trans (bg64.trans (bg71.trans bg78)))))))) h.drop.drop
      refine brF ?_
      refine ⟨_, rfl, ?_⟩
      (exfalso; omega)
      have bf44 := bf44.mono bg55
      have bf33 := bf33.mono bg55
      have bf15 := bf15.mono bg55
      have hl := hl.mono bg55
      have hm := hm.mono bg55
      have ht := ht.mono bg55
      refine ldA2 _ _ h .n1 ?_
      refine dCrash_ok h (by first | omega | (dsimp only; omega) | decide) ht (fun _ h => ?_)
      refine dReadQuietIs_ok h hq2 hc2 (by first | omega | (dsimp only; omega) | decide) (fun bv87 bΓ88 _ bg90 bf91 h => ?_)
      have bf44 := bf44.mono bg90
      have bf33 := bf33.mono bg90
      have bf15 := bf15.mono bg90
      have hl := hl.mono bg90
      have hm := hm.mono bg90
      have ht := ht.mono bg90
      obtain ⟨lbf91, mbf91, cbf91⟩ := bf91.lens
      refine rise_ok h hm (fun bv94 bΓ95 _ bg97 bf98 h => ?_)
      have bf91 := bf91.mono bg97
      have bf44 := bf44.mono bg97
      have bf33 := bf33.mono bg97
      have bf15 := bf15.mono bg97
      have hl := hl.mono bg97
      have hm := hm.mono bg97
      have ht := ht.mono bg97
      obtain ⟨lbf98, mbf98, cbf98⟩ := bf98.lens
      refine rBytesR_ok h bf98 hmsm (by first | omega | (dsimp only; omega) | decide) (fun bv101 bΓ102 _ bg104 bf105 h => ?_)
      have bf98 := bf98.mono bg104
      have bf91 := bf91.mono bg104
      have bf44 := bf44.mono bg104
      have bf33 := bf33.mono bg104
      have bf15 := bf15.mono bg104
      have hl := hl.mono bg104
      have hm := hm.mono bg104
      have ht := ht.mono bg104
      obtain ⟨lbf105, mbf105, cbf105⟩ := bf105.lens
      refine brT ?_
      refine brT ?_
      refine btoS h bf91 ?_
      refine btoS h bf105 ?_
      refine brS (fun bb107 => ?_) (fun bb107 => ?_)
      refine ⟨_, rfl, ?_⟩
      refine k _ _ (bg4.trans (bg14.trans (bg21.trans (bg32.trans (bg43.trans (bg55.trans (bg90.trans (bg97.trans bg104)))))))) h.drop.drop
      refine brT ?_
      refine btoS h bf91 ?_
      refine btoS h bf33 ?_
      refine ⟨_, rfl, ?_⟩
      rw [beq_self_eq_true]
      refine k _ _ (bg4.trans (bg14.trans (bg21.trans (bg32.trans (bg43.trans (bg55.trans (bg90.trans (bg97.trans bg104)))))))) h.drop.drop
      have bf15 := bf15.mono bg26
      have hl := hl.mono bg26
      have hm := hm.mono bg26
      have ht := ht.mono bg26
      refine brT ?_
      refine ⟨_, rfl, ?_⟩
      (exfalso; omega)
    · exact absurd hB hA

theorem runAtOnce_walk {H : Type} {enc : TypeId × Value → H} {W : World} {base : Nat} {vs : List Value} {ds : List (DataW H)} {ps : List MemPlace} (hok : ∀ (j : Nat) (t : TypeId) (v : Value), [43, 43, 117, 81][j]? = some t → vs[j]? = some v → Value.okWide Try.prog W .any base t v)
    (hA : DataW.TrodAll enc Try.prog W 0 (fun _ => true) true [43, 43, 117, 81] vs ds ps) : CallP Try.prog 24 vs (.one (.s .bool)) (fun b w' => b = true ∧ Kept W w') W := by
  obtain ⟨v0, vs0, d0, ds0, p0, q0, rfl, rfl, rfl, h0, r0⟩ := trodAll_cons hA
  obtain ⟨v1, vs1, d1, ds1, p1, q1, rfl, rfl, rfl, h1, r1⟩ := trodAll_cons r0
  obtain ⟨v2, vs2, d2, ds2, p2, q2, rfl, rfl, rfl, h2, r2⟩ := trodAll_cons r1
  obtain ⟨v3, vs3, d3, ds3, p3, q3, rfl, rfl, rfl, h3, r3⟩ := trodAll_cons r2
  obtain ⟨rfl, rfl, rfl⟩ := trodAll_nil r3
  obtain ⟨y0, x0, e0, f0⟩ := argS rBB (hok 0 _ _ rfl rfl) h0
  obtain ⟨y1, x1, e1, f1⟩ := argS rBB (hok 1 _ _ rfl rfl) h1
  obtain ⟨y2, x2, e2, f2⟩ := argS rShort (hok 2 _ _ rfl rfl) h2
  obtain ⟨⟨n3, t3⟩, ⟨m3, x3⟩, e3, f3⟩ := argA rWreck (hok 3 _ _ rfl rfl) h3
  cases e0
  cases e1
  cases e2
  subst e3
  exact law_walk fun k => law_ratonce (Sat.start W) f0 f1 (short_of f2) f3.2 k

theorem runAtOnce_lifted (os : Os) (started : os.Started) (H : Type) (enc : TypeId × Value → H) :
    ReturnsInHanded {} Try.checked os 24 .any (Rows.runAtOnceSpec.pre6 enc Try.prog Try.f24 Rows.runAtOnceRow.domain false) (Rows.runAtOnceSpec.post enc Try.prog Try.f24 false true false false) := by
  have e : Try.f24.params.toList = [43, 43, 117, 81] := by kernel_rfl
  refine law_lifted (s := Rows.runAtOnceSpec) started Try.func24 (by kernel_rfl) rfl (fun ds h => ?_) (by kernel_rfl) (fun t ht => ?_)
    (ChangeSpec.witness6 (enc := enc) (C := Try.checked) false ⟨#[], #[.slice none 0 0, .slice none 0 0, .int .u16 0, .agg #[.int .i64 0, .slice none 0 0]], []⟩ 8 (by kernel_rfl) (by kernel_rfl) (by kernel_rfl) (by kernel_rfl)) fun W base vs ds ps hok hA => ?_
  · have hl : ds.length = 4 := h
    match ds, hl with
    | [_, _, _, _], _ => rfl
  · rw [e] at ht
    have hall : ([43, 43, 117, 81].all fun t => Try.prog.readableRec t && decide (t < Try.prog.types.size)) = true := by kernel_rfl
    simpa using List.all_eq_true.1 hall t ht
  · rw [e] at hA hok
    exact runAtOnce_walk hok hA

theorem runAtOnce_facts : joinedFacts Try.pinned.checked.prog 24 Try.f24 Rows.runAtOnceSpec Rows.runAtOnceRow = true := by
  show joinedFacts Try.prog 24 Try.f24 Rows.runAtOnceSpec Rows.runAtOnceRow = true
  unfold joinedFacts
  rw [make_, enter_, lifts_]
  kernel_rfl

theorem RunAtOnce_holds : Rows.RunAtOnceSaid :=
  OpenClaim.holds_of_wide 24 Try.f24 rfl rfl rfl rfl rfl rfl rfl ⟨rfl, rfl, rfl, rfl, rfl⟩ rfl rfl rfl rfl rfl (by kernel_rfl) Try.func24 runAtOnce_facts
    (of_decide_eq_true (by kernel_rfl)) (by unfold Func.isWrapper; first | (rw [if_pos (by decide +kernel)]; kernel_rfl) | (rw [if_neg (by decide +kernel)]; exact ⟨rfl, rfl⟩))
    (fun os started H enc _ => runAtOnce_lifted os started H enc)


end Go.Proofs.Ytohoimokfgfceaa.K
