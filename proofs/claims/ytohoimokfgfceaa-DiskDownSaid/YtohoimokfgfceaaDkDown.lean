/-
  DiskDown: what is not done changes nothing: a disk that went down is, behind a crash, as one on which no more was done than it let be done. No condition.
-/
import Derived.Test.YtohoimokfgfceaaDkW
import Derived.Test.YtohoimokfgfceaaDkZ
namespace Go.Proofs.Ytohoimokfgfceaa.K
open Go Go.Proofs Go.ChangeShapes Go.WideShapes Go.ChangeAt Go.RowKit
variable {Γ Γ' : Mem} {L L' L'' : List HP} {w w' : World} {A B : HP}
set_option maxRecDepth 100000
set_option maxHeartbeats 4000000

open DiskM in
/-- a disk that is doomed, and one that is not, of which the same was done -/
def Doomed (N dn : Nat) (md m : DiskM) : Prop := dn ≤ N ∧ (md = doomAt m ((N : Int) - dn) ∨ (dn = N ∧ md = downAt m))

theorem Doomed.g {N dn : Nat} {md m : DiskM} (h : Doomed N dn md m) : md.g = m.g := by
  rcases h.2 with e | ⟨_, e⟩ <;> rw [e] <;> rfl

theorem Doomed.crash {N dn : Nat} {md m : DiskM} (h : Doomed N dn md m) (n : Int) (wb : List Int) : md.crash n wb = m.crash n wb := by
  rcases h.2 with e | ⟨_, e⟩ <;> rw [e] <;> rfl

theorem Doomed.on {N dn : Nat} {md m : DiskM} (h : Doomed N dn md m) (hq : quiet m) {x : ActM} (hk : x.kind.toNat % 13 ≤ 9) (hd : dn < N) : (md.act x).2 = (m.act x).2 ∧ Doomed N (dn + 1) (md.act x).1 (m.act x).1 := by
  rcases h.2 with e | ⟨e, _⟩
  · have h1 := DiskM.act_doom (x := x) hq hk (k := (N : Int) - dn) (by omega)
    rw [e, h1]
    refine ⟨rfl, by omega, .inl ?_⟩
    dsimp only
    congr 1
    omega
  · omega

theorem Doomed.over {N dn : Nat} {md m : DiskM} (h : Doomed N dn md m) {x : ActM} (hk : x.kind.toNat % 13 ≤ 9) (hd : ¬ dn < N) : (md.act x).2 = 40 ∧ Doomed N dn (md.act x).1 m := by
  have hN : dn = N := by have := h.1; omega
  rcases h.2 with e | ⟨_, e⟩
  · have e2 : md = DiskM.doomAt m 0 := by rw [e, hN]; congr 1; omega
    have h1 := DiskM.act_down (m := md) (x := x) (by rw [e2]; exact DiskM.doomAt0_up) hk
    rw [h1, e2, DiskM.doomAt0_tick]
    exact ⟨rfl, h.1, .inr ⟨hN, rfl⟩⟩
  · have h1 := DiskM.act_down (m := md) (x := x) (by rw [e]; exact DiskM.downAt_up) hk
    rw [h1, e, DiskM.downAt_tick]
    exact ⟨rfl, h.1, .inr ⟨hN, rfl⟩⟩

theorem law_down {r : Int} {s t : Sl} {l : List ActM} {n : UInt8} {wn : Int} {wb : List Int} {K : Bool → World → Prop} (h : Sat Γ L w) (hl : Lst eAct Γ s l) (ht : Lst eInt Γ t wb) (k : ∀ Γ' w', Γ.le Γ' → Sat Γ' L w' → K true w') :
    CallP Try.prog 13 [.int .i64 r, .slice s.p s.len s.cap, .int .u8 (n.toNat : Int), .agg #[.int .i64 wn, .slice t.p t.len t.cap]] (.one (.s .bool)) K w := by
  refine callP (fn := Try.f13) [.s (.int .i64 r), .s (.sl s), .s (.int .u8 (n.toNat : Int)), .agg [.int .i64 wn, .sl t]] (.p .n (.p .n (.p .n (.j [1, 2, 7, 9, 10, 11] [] .n (.p .n (.p (.p .n (.b (.l [36, 2, 35, 7, 9, 10, 11] [(12, .s (.int .i64)), (37, .s (.int .i64))] (.p .n (.p .n (.p (.k [37, 36, 2, 35, 7, 9, 10, 11] [(12, .s (.int .i64))] .n) .n)))))) .n)))))) nong mixed (by kernel_rfl) (by kernel_rfl) rfl rfl ?_
  have hfl := fewA_len l
  have hnl := n.toNat_lt
  obtain ⟨lhl, mhl, chl⟩ := hl.lens
  obtain ⟨lht, mht, cht⟩ := ht.lens
  refine new h fun ar0 _ h => ?_
  refine shown_ok h (fun aΓ2 _ ag4 h => ?_)
  have hl := hl.mono ag4
  have ht := ht.mono ag4
  refine dNew_ok h (fun av7 _ h => ?_)
  refine dNew_ok h (fun av11 _ h => ?_)
  refine joinI ?_
  refine brF ?_
  refine brF ?_
  refine wrN n.toNat ?_
  refine dDoom_ok (h.pick .n1) (by first | omega | decide) (fun _ h => ?_)
  refine brF ?_
  refine fewA_ok h hl (fun av18 aΓ19 _ ag21 af22 h => ?_)
  have hl := hl.mono ag21
  have ht := ht.mono ag21
  obtain ⟨laf22, maf22, caf22⟩ := af22.lens
  rotate_left
  refine loop (σ := Int × Int) (fun st w' u => ∃ (i dn : Nat) (m md : DiskM) (Γ' : Mem), st = ((dn : Int), (i : Int)) ∧ i ≤ (fewA l).length ∧ u = (fewA l).length - i ∧ Wf m ∧ quiet m ∧ m.g ≤ 100 * i ∧ Doomed n.toNat dn md m ∧ aΓ19.le Γ' ∧
      Sat Γ' (PDisk av7 md :: PDisk av11 m :: blk ar0 (.cells #[.int .i64 wn, .slice t.p t.len t.cap] 81 (0, 0)) :: L) w') (fewA l).length
    ⟨0, 0, .new r, .doomAt (.new r) n.toNat, aΓ19, rfl, by omega, by omega, .new r, ⟨rfl, rfl⟩, Nat.zero_le _, ⟨Nat.zero_le _, .inl (by simp)⟩, .refl _, ?_⟩ ?_
  · have e : ((DiskM.new r).doom n.toNat).1 = DiskM.doomAt (.new r) n.toNat := by unfold DiskM.doom; rw [if_neg (by omega)]; rfl
    rw [e] at h
    exact h
  clear h
  rintro _ w u ⟨i, dn, m, md, Γ3, rfl, hi, hu, hw, hq, hg, hd, g3, h⟩
  have af23 := af22.mono g3
  have ht3 := ht.mono g3
  have hdg := hd.g
  have hd1 := hd.1
  by_cases hil : i < (fewA l).length
  · obtain ⟨x, ex⟩ := get_lt hil
    have hx64 := af22.acts x (List.mem_of_getElem? ex)
    have hsx := fewA_small x (List.mem_of_getElem? ex)
    unfold smallA at hsx
    have hw2 := DiskM.act_wf (x := x) hw hx64
    have hg2 := DiskM.act_g (m := m) (x := x)
    have hg3 := DiskM.act_g (m := md) (x := x)
    have hkl := x.kind.toNat_lt
    by_cases hk : x.kind.toNat % 13 ≤ 9
    · have hq2 := DiskM.act_quiet hq (x := x) (by omega)
      by_cases hdn : dn < n.toNat
      · obtain ⟨e1, hd2⟩ := hd.on hq hk hdn
        have af22 := af22.mono g3
        have hl := hl.mono g3
        have ht := ht.mono g3
        refine brD (fun bb0 => ?_) (fun bb0 => by exfalso; omega)
        dsimp only at bb0
        refine joinI ?_
        refine ⟨by omega, ?_⟩
        refine nnL h af22 (fun ba1 bha1 => ?_)
        refine ldL h af22 bha1 ex (fun by2 bhy2 => ?_)
        obtain ⟨by2s, by2t, bhy2a, bhy2b, bhy2c, bhy2e⟩ := eAct_after bhy2
        subst bhy2e
        obtain ⟨lbhy2a, mbhy2a, cbhy2a⟩ := bhy2a.lens
        obtain ⟨lbhy2b, mbhy2b, cbhy2b⟩ := bhy2b.lens
        refine new h fun br3 _ h => ?_
        refine stNs h .n0 fun _ h => ?_
        refine ld _ h .n0 ?_
        refine ⟨by omega, ?_⟩
        refine tmd ?_
        refine brD (fun bb4 => by exfalso; omega) (fun bb4 => ?_)
        dsimp only at bb4
        refine ldA7 _ _ _ _ _ _ _ h .n0 ?_
        refine actA_ok (h.pick .n1) (by first | omega | decide) bhy2a bhy2b bhy2c (fun bΓ6 _ bg8 h => ?_)
        have af23 := af23.mono bg8
        have ht3 := ht3.mono bg8
        have af22 := af22.mono bg8
        have hl := hl.mono bg8
        have ht := ht.mono bg8
        have bhy2a := bhy2a.mono bg8
        have bhy2b := bhy2b.mono bg8
        refine wrN n.toNat ?_
        refine brD (fun bb10 => by exfalso; omega) (fun bb10 => ?_)
        dsimp only at bb10
        refine ldA7 _ _ _ _ _ _ _ h .n1 ?_
        refine actA_ok (h.pick .n2) (by first | omega | decide) bhy2a bhy2b bhy2c (fun bΓ12 _ bg14 h => ?_)
        have af23 := af23.mono bg14
        have ht3 := ht3.mono bg14
        have af22 := af22.mono bg14
        have hl := hl.mono bg14
        have ht := ht.mono bg14
        have bhy2a := bhy2a.mono bg14
        have bhy2b := bhy2b.mono bg14
        refine brN (fun bb16 => by exfalso; omega) (fun bb16 => ?_)
        refine wrN (dn + 1) ?_
        refine wrN (i + 1) ?_
        refine ⟨_, (by first | omega | rfl | (dsimp only; omega)), _, _, _, _, _, rfl, (by first | omega | rfl | (dsimp only; omega)), rfl, hw2, hq2, (by first | omega | rfl | (dsimp only; omega)), hd2, (g3.trans (bg8.trans bg14)), ((((h.pick .n2).drop.pick .n2).pick .n1).pick .n2)⟩
      · obtain ⟨e1, hd2⟩ := hd.over hk hdn
        have af22 := af22.mono g3
        have hl := hl.mono g3
        have ht := ht.mono g3
        refine brD (fun cb0 => ?_) (fun cb0 => by exfalso; omega)
        dsimp only at cb0
        refine joinI ?_
        refine ⟨by omega, ?_⟩
        refine nnL h af22 (fun ca1 cha1 => ?_)
        refine ldL h af22 cha1 ex (fun cy2 chy2 => ?_)
        obtain ⟨cy2s, cy2t, chy2a, chy2b, chy2c, chy2e⟩ := eAct_after chy2
        subst chy2e
        obtain ⟨lchy2a, mchy2a, cchy2a⟩ := chy2a.lens
        obtain ⟨lchy2b, mchy2b, cchy2b⟩ := chy2b.lens
        refine new h fun cr3 _ h => ?_
        refine stNs h .n0 fun _ h => ?_
        refine ld _ h .n0 ?_
        refine ⟨by omega, ?_⟩
        refine tmd ?_
        refine brD (fun cb4 => by exfalso; omega) (fun cb4 => ?_)
        dsimp only at cb4
        refine ldA7 _ _ _ _ _ _ _ h .n0 ?_
        refine actA_ok (h.pick .n1) (by first | omega | decide) chy2a chy2b chy2c (fun cΓ6 _ cg8 h => ?_)
        have af23 := af23.mono cg8
        have ht3 := ht3.mono cg8
        have af22 := af22.mono cg8
        have hl := hl.mono cg8
        have ht := ht.mono cg8
        have chy2a := chy2a.mono cg8
        have chy2b := chy2b.mono cg8
        refine wrN n.toNat ?_
        refine brD (fun cb10 => ?_) (fun cb10 => by exfalso; omega)
        dsimp only at cb10
        refine brN (fun cb11 => by exfalso; omega) (fun cb11 => ?_)
        refine wrN (i + 1) ?_
        refine ⟨_, (by first | omega | rfl | (dsimp only; omega)), _, _, _, _, _, rfl, (by first | omega | rfl | (dsimp only; omega)), rfl, hw, hq, (by first | omega | rfl | (dsimp only; omega)), hd2, (g3.trans cg8), ((((h.pick .n1).drop.pick .n2).pick .n2).pick .n2)⟩
    · have af22 := af22.mono g3
      have hl := hl.mono g3
      have ht := ht.mono g3
      refine brD (fun db0 => ?_) (fun db0 => by exfalso; omega)
      dsimp only at db0
      refine joinI ?_
      refine ⟨by omega, ?_⟩
      refine nnL h af22 (fun da1 dha1 => ?_)
      refine ldL h af22 dha1 ex (fun dy2 dhy2 => ?_)
      obtain ⟨dy2s, dy2t, dhy2a, dhy2b, dhy2c, dhy2e⟩ := eAct_after dhy2
      subst dhy2e
      obtain ⟨ldhy2a, mdhy2a, cdhy2a⟩ := dhy2a.lens
      obtain ⟨ldhy2b, mdhy2b, cdhy2b⟩ := dhy2b.lens
      refine new h fun dr3 _ h => ?_
      refine stNs h .n0 fun _ h => ?_
      refine ld _ h .n0 ?_
      refine ⟨by omega, ?_⟩
      refine tmd ?_
      refine brD (fun db4 => ?_) (fun db4 => by exfalso; omega)
      dsimp only at db4
      refine wrN (i + 1) ?_
      refine ⟨_, (by first | omega | rfl | (dsimp only; omega)), _, _, _, _, _, rfl, (by first | omega | rfl | (dsimp only; omega)), rfl, hw, hq, (by first | omega | rfl | (dsimp only; omega)), hd, g3, (((h.drop.pick .n2).pick .n2).pick .n2)⟩
  · have hcr := hd.crash wn wb
    have hq1 : quiet (md.crash wn wb) := DiskM.crash_quiet
    have hq2 : quiet (m.crash wn wb) := DiskM.crash_quiet
    have hg1 : (md.crash wn wb).g < 1000000000000 := by show md.g < _; omega
    have hg2 : (m.crash wn wb).g < 1000000000000 := by show m.g < _; omega
    have hn1 : (md.crash wn wb).now.map Prod.fst = (m.crash wn wb).now.map Prod.fst := by rw [hcr]
    have hr1 : ∀ s ∈ (m.crash wn wb).now.map Prod.fst, ((md.crash wn wb).read s).2 = ((m.crash wn wb).read s).2 := fun s _ => by rw [hcr]
    have hu1 : (md.crash wn wb).used = (m.crash wn wb).used := by rw [hcr]
    have af22 := af22.mono g3
    have hl := hl.mono g3
    have ht := ht.mono g3
    refine brD (fun eb0 => by exfalso; omega) (fun eb0 => ?_)
    dsimp only at eb0
    refine ldA2 _ _ h .n2 ?_
    refine dCrash_ok h hg1 ht (fun _ h => ?_)
    refine ldA2 _ _ h .n2 ?_
    refine dCrash_ok (h.pick .n1) hg2 ht (fun _ h => ?_)
    refine brT ?_
    refine alike_ok (h.pick .n1) hq2 hq2 hg1 hg2 hn1 hr1 (fun eΓ8 _ eg10 h => ?_)
    have af23 := af23.mono eg10
    have ht3 := ht3.mono eg10
    have af22 := af22.mono eg10
    have hl := hl.mono eg10
    have ht := ht.mono eg10
    refine brT ?_
    refine dUsedD_ok h hg1 (fun _ h => ?_)
    refine dUsedD_ok (h.pick .n1) hg2 (fun _ h => ?_)
    refine ⟨_, rfl, ?_⟩
    refine kDec (fun eb18 => ?_) (fun eb18 => ?_)
    dsimp only at eb18
    refine k _ _ (ag4.trans (ag21.trans (g3.trans eg10))) h.drop.drop.drop
    dsimp only at eb18
    (exfalso; omega)

theorem diskDown_walk {H : Type} {enc : TypeId × Value → H} {W : World} {base : Nat} {vs : List Value} {ds : List (DataW H)} {ps : List MemPlace} (hok : ∀ (j : Nat) (t : TypeId) (v : Value), [3, 78, 5, 81][j]? = some t → vs[j]? = some v → Value.okWide Try.prog W .any base t v)
    (hA : DataW.TrodAll enc Try.prog W 0 (fun _ => true) true [3, 78, 5, 81] vs ds ps) : CallP Try.prog 13 vs (.one (.s .bool)) (fun b w' => b = true ∧ Kept W w') W := by
  obtain ⟨v0, vs0, d0, ds0, p0, q0, rfl, rfl, rfl, h0, r0⟩ := trodAll_cons hA
  obtain ⟨v1, vs1, d1, ds1, p1, q1, rfl, rfl, rfl, h1, r1⟩ := trodAll_cons r0
  obtain ⟨v2, vs2, d2, ds2, p2, q2, rfl, rfl, rfl, h2, r2⟩ := trodAll_cons r1
  obtain ⟨v3, vs3, d3, ds3, p3, q3, rfl, rfl, rfl, h3, r3⟩ := trodAll_cons r2
  obtain ⟨rfl, rfl, rfl⟩ := trodAll_nil r3
  obtain ⟨r, a, e0, f0⟩ := argS rInt (hok 0 _ _ rfl rfl) h0
  obtain ⟨s, l, e1, f1⟩ := argS rActs (hok 1 _ _ rfl rfl) h1
  obtain ⟨y, n, e2, f2⟩ := argS rByte (hok 2 _ _ rfl rfl) h2
  obtain ⟨⟨wn, t⟩, ⟨wm, wb⟩, e3, f3⟩ := argA rWreck (hok 3 _ _ rfl rfl) h3
  cases e0
  cases e1
  cases e2
  subst e3
  have f2 : y = (n.toNat : Int) := f2
  subst f2
  exact law_walk fun k => law_down (Sat.start W) f1 f3.2 k

theorem diskDown_lifted (os : Os) (started : os.Started) (H : Type) (enc : TypeId × Value → H) :
    ReturnsInHanded {} Try.checked os 13 .any (Rows.diskDownSpec.pre6 enc Try.prog Try.f13 Rows.diskDownRow.domain false) (Rows.diskDownSpec.post enc Try.prog Try.f13 false true false false) := by
  have e : Try.f13.params.toList = [3, 78, 5, 81] := by kernel_rfl
  refine law_lifted (s := Rows.diskDownSpec) started Try.func13 (by kernel_rfl) rfl (fun ds h => ?_) (by kernel_rfl) (fun t ht => ?_)
    (ChangeSpec.witness6 (enc := enc) (C := Try.checked) false ⟨#[], #[.int .i64 0, .slice none 0 0, .int .u8 0, .agg #[.int .i64 0, .slice none 0 0]], []⟩ 8 (by kernel_rfl) (by kernel_rfl) (by kernel_rfl) (by kernel_rfl)) fun W base vs ds ps hok hA => ?_
  · have hl : ds.length = 4 := h
    match ds, hl with
    | [_, _, _, _], _ => rfl
  · rw [e] at ht
    have hall : ([3, 78, 5, 81].all fun t => Try.prog.readableRec t && decide (t < Try.prog.types.size)) = true := by kernel_rfl
    simpa using List.all_eq_true.1 hall t ht
  · rw [e] at hA hok
    exact diskDown_walk hok hA

theorem diskDown_facts : joinedFacts Try.pinned.checked.prog 13 Try.f13 Rows.diskDownSpec Rows.diskDownRow = true := by
  show joinedFacts Try.prog 13 Try.f13 Rows.diskDownSpec Rows.diskDownRow = true
  unfold joinedFacts
  rw [make_, enter_, lifts_]
  kernel_rfl

theorem DiskDown_holds : Rows.DiskDownSaid :=
  OpenClaim.holds_of_wide 13 Try.f13 rfl rfl rfl rfl rfl rfl rfl ⟨rfl, rfl, rfl, rfl, rfl⟩ rfl rfl rfl rfl rfl (by kernel_rfl) Try.func13 diskDown_facts
    (of_decide_eq_true (by kernel_rfl)) (by unfold Func.isWrapper; first | (rw [if_pos (by decide +kernel)]; kernel_rfl) | (rw [if_neg (by decide +kernel)]; exact ⟨rfl, rfl⟩))
    (fun os started H enc _ => diskDown_lifted os started H enc)


end Go.Proofs.Ytohoimokfgfceaa.K
