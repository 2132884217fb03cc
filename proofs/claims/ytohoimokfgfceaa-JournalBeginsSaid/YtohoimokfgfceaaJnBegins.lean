/-
  JournalBegins: behind Begin nothing is noted, whatever was there, and whatever crash comes. No condition.
-/
import Derived.Test.YtohoimokfgfceaaJnC
namespace Go.Proofs.Ytohoimokfgfceaa.K
open Go Go.Proofs Go.ChangeShapes Go.WideShapes Go.ChangeAt Go.RowKit
variable {Γ Γ' : Mem} {L L' L'' : List HP} {w w' : World} {A B : HP}
set_option maxRecDepth 100000
set_option maxHeartbeats 4000000

theorem law_jbegins {r : Int} {s t : Sl} {l : List ActJ} {wn : Int} {wb : List Int} {K : Bool → World → Prop} (h : Sat Γ L w) (hl : Lst eActJ Γ s l) (ht : Lst eInt Γ t wb) (k : ∀ Γ' w', Γ.le Γ' → Sat Γ' L w' → K true w') :
    CallP Try.prog 29 [.int .i64 r, .slice s.p s.len s.cap, .agg #[.int .i64 wn, .slice t.p t.len t.cap]] (.one (.s .bool)) K w := by
  refine callP (fn := Try.f29) [.s (.int .i64 r), .s (.sl s), .agg [.int .i64 wn, .sl t]] (.p .n (.p .n (.p .n (.p .n (.p (.p .n (.b (.l [20, 19, 5, 8, 7] [(21, .s (.int .i64))] (.p .n (.p .n (.p (.b (.p .n (.p .n (.k [21, 20, 19, 5, 8, 7] [] .n)))) .n)))))) (.j [8, 7] [] .n .n)))))) nong mixed (by kernel_rfl) (by kernel_rfl) rfl rfl ?_
  have hfl := fewJ_len l
  have hqn : quiet (.new r) := ⟨rfl, rfl⟩
  obtain ⟨lhl, mhl, chl⟩ := hl.lens
  obtain ⟨lht, mht, cht⟩ := ht.lens
  refine new h fun ar0 _ h => ?_
  have h := h.asA (B := blk ar0 (.cells #[Value.int IntKind.i64 wn, Value.slice t.p t.len t.cap] 81 (0, 0))) (by kernel_rfl)
  refine shownJ_ok h (fun aΓ2 _ ag4 h => ?_)
  have hl := hl.mono ag4
  have ht := ht.mono ag4
  refine dNew_ok h (fun av7 _ h => ?_)
  refine brF ?_
  refine fewJ_ok h hl (fun av11 aΓ12 _ ag14 af15 h => ?_)
  have hl := hl.mono ag14
  have ht := ht.mono ag14
  obtain ⟨laf15, maf15, caf15⟩ := af15.lens
  rotate_left
  refine loop (σ := Int) (fun st w' n => ∃ (i : Nat) (m : DiskM) (Γ' : Mem), st = (i : Int) ∧ i ≤ (fewJ l).length ∧ n = (fewJ l).length - i ∧ Wf m ∧ quiet m ∧ m.g ≤ 20000 * i ∧ aΓ12.le Γ' ∧
      Sat Γ' (PDisk av7 m :: blk ar0 (.cells #[.int .i64 wn, .slice t.p t.len t.cap] 81 (0, 0)) :: L) w') (fewJ l).length
    ⟨0, .new r, aΓ12, rfl, by omega, by omega, .new r, hqn, Nat.zero_le _, .refl _, h⟩ ?_
  clear h
  rintro _ w n ⟨i, m, Γ3, rfl, hi, hn, hw, hq, hg, g3, h⟩
  have af15 := af15.mono g3
  have ht3 := ht.mono g3
  by_cases hil : i < (fewJ l).length
  · obtain ⟨x, ex⟩ := get_lt hil
    obtain ⟨hx1, hx2⟩ := fewJ_small x (List.mem_of_getElem? ex)
    have hkl := x.kind.toNat_lt
    obtain ⟨hw2, hq2, hg2⟩ := DiskM.actV_ok (m := m) (kind := x.kind) hx1 hw hq
    unfold DiskM.actV at hw2 hq2 hg2
    by_cases h4 : x.kind.toNat % 8 = 4
    · rw [if_pos h4] at hw2 hq2 hg2
      have hl := hl.mono g3
      have ht := ht.mono g3
      refine brD (fun bb0 => ?_) (fun bb0 => by exfalso; omega)
      refine ⟨by omega, ?_⟩
      refine nnL h af15 (fun ba1 bha1 => ?_)
      refine ldL h af15 bha1 ex (fun by2 bhy2 => ?_)
      obtain ⟨by2s, by2t, bhy2a, bhy2b, bhy2c, bhy2e⟩ := eActJ_after bhy2
      subst bhy2e
      obtain ⟨lbhy2a, mbhy2a, cbhy2a⟩ := bhy2a.lens
      obtain ⟨lbhy2b, mbhy2b, cbhy2b⟩ := bhy2b.lens
      refine new h fun br3 _ h => ?_
      have h := h.asA (B := blk br3 (.cells #[Value.int IntKind.u8 0, Value.slice none 0 0, Value.int IntKind.i64 0, Value.slice none 0 0, Value.int IntKind.i64 0] 138 (0, 0))) (by kernel_rfl)
      refine stNs h .n0 fun _ h => ?_
      have h := h.asA (B := blk br3 (.cells #[Value.int IntKind.u8 ((↑x.kind.toNat : Int), by2s, x.wn, by2t, x.n).fst, Value.slice ((↑x.kind.toNat : Int), by2s, x.wn, by2t, x.n).snd.fst.p ((↑x.kind.toNat : Int), by2s, x.wn, by2t, x.n).snd.fst.len ((↑x.kind.toNat : Int), by2s, x.wn, by2t, x.n).snd.fst.cap, Value.int IntKind.i64 ((↑x.kind.toNat : Int), by2s, x.wn, by2t, x.n).snd.snd.fst, Value.slice ((↑x.kind.toNat : Int), by2s, x.wn, by2t, x.n).snd.snd.snd.fst.p ((↑x.kind.toNat : Int), by2s, x.wn, by2t, x.n).snd.snd.snd.fst.len ((↑x.kind.toNat : Int), by2s, x.wn, by2t, x.n).snd.snd.snd.fst.cap, Value.int IntKind.i64 ((↑x.kind.toNat : Int), by2s, x.wn, by2t, x.n).snd.snd.snd.snd] 138 (0, 0))) (by kernel_rfl)
      refine ld _ h .n0 ?_
      refine ⟨by omega, ?_⟩
      refine tmd ?_
      refine joinI ?_
      refine brE (fun bb4 => ?_) (fun bb4 => by exfalso; omega)
      dsimp only at bb4
      refine jBegin_ok (h.pick .n1) (by first | omega | (dsimp only; omega) | decide) (fun bΓ6 _ bg8 h => ?_)
      have af15 := af15.mono bg8
      have ht3 := ht3.mono bg8
      have hl := hl.mono bg8
      have ht := ht.mono bg8
      have bhy2a := bhy2a.mono bg8
      have bhy2b := bhy2b.mono bg8
      refine wrN (i + 1) ?_
      refine ⟨_, (by first | omega | rfl | (dsimp only; omega)), _, _, _, rfl, (by first | omega | rfl | (dsimp only; omega)), rfl, hw2, hq2, (by first | omega | rfl | (dsimp only; omega)), (g3.trans bg8), (((h.pick .n1).drop.pick .n1).pick .n1)⟩
    rw [if_neg h4] at hw2 hq2 hg2
    by_cases h7 : x.kind.toNat % 8 = 7
    · rw [if_pos h7] at hw2 hq2 hg2
      unfold jnS at *
      have hl := hl.mono g3
      have ht := ht.mono g3
      refine brD (fun cb0 => ?_) (fun cb0 => by exfalso; omega)
      refine ⟨by omega, ?_⟩
      refine nnL h af15 (fun ca1 cha1 => ?_)
      refine ldL h af15 cha1 ex (fun cy2 chy2 => ?_)
      obtain ⟨cy2s, cy2t, chy2a, chy2b, chy2c, chy2e⟩ := eActJ_after chy2
      subst chy2e
      obtain ⟨lchy2a, mchy2a, cchy2a⟩ := chy2a.lens
      obtain ⟨lchy2b, mchy2b, cchy2b⟩ := chy2b.lens
      refine new h fun cr3 _ h => ?_
      have h := h.asA (B := blk cr3 (.cells #[Value.int IntKind.u8 0, Value.slice none 0 0, Value.int IntKind.i64 0, Value.slice none 0 0, Value.int IntKind.i64 0] 138 (0, 0))) (by kernel_rfl)
      refine stNs h .n0 fun _ h => ?_
      have h := h.asA (B := blk cr3 (.cells #[Value.int IntKind.u8 ((↑x.kind.toNat : Int), cy2s, x.wn, cy2t, x.n).fst, Value.slice ((↑x.kind.toNat : Int), cy2s, x.wn, cy2t, x.n).snd.fst.p ((↑x.kind.toNat : Int), cy2s, x.wn, cy2t, x.n).snd.fst.len ((↑x.kind.toNat : Int), cy2s, x.wn, cy2t, x.n).snd.fst.cap, Value.int IntKind.i64 ((↑x.kind.toNat : Int), cy2s, x.wn, cy2t, x.n).snd.snd.fst, Value.slice ((↑x.kind.toNat : Int), cy2s, x.wn, cy2t, x.n).snd.snd.snd.fst.p ((↑x.kind.toNat : Int), cy2s, x.wn, cy2t, x.n).snd.snd.snd.fst.len ((↑x.kind.toNat : Int), cy2s, x.wn, cy2t, x.n).snd.snd.snd.fst.cap, Value.int IntKind.i64 ((↑x.kind.toNat : Int), cy2s, x.wn, cy2t, x.n).snd.snd.snd.snd] 138 (0, 0))) (by kernel_rfl)
      refine ld _ h .n0 ?_
      refine ⟨by omega, ?_⟩
      refine tmd ?_
      refine joinI ?_
      refine brE (fun cb4 => by exfalso; omega) (fun cb4 => ?_)
      dsimp only at cb4
      refine brE (fun cb5 => ?_) (fun cb5 => by exfalso; omega)
      dsimp only at cb5
      refine ld _ h .n0 ?_
      refine dAppend_ok (h.pick .n1) chy2a (by first | omega | (dsimp only; omega) | decide) (fun cΓ7 _ cg9 h => ?_)
      have af15 := af15.mono cg9
      have ht3 := ht3.mono cg9
      have hl := hl.mono cg9
      have ht := ht.mono cg9
      have chy2a := chy2a.mono cg9
      have chy2b := chy2b.mono cg9
      refine wrN (i + 1) ?_
      refine ⟨_, (by first | omega | rfl | (dsimp only; omega)), _, _, _, rfl, (by first | omega | rfl | (dsimp only; omega)), rfl, hw2, hq2, (by first | omega | rfl | (dsimp only; omega)), (g3.trans cg9), (((h.pick .n1).drop.pick .n1).pick .n1)⟩
    rw [if_neg h7] at hw2 hq2 hg2
    have hl := hl.mono g3
    have ht := ht.mono g3
    refine brD (fun db0 => ?_) (fun db0 => by exfalso; omega)
    refine ⟨by omega, ?_⟩
    refine nnL h af15 (fun da1 dha1 => ?_)
    refine ldL h af15 dha1 ex (fun dy2 dhy2 => ?_)
    obtain ⟨dy2s, dy2t, dhy2a, dhy2b, dhy2c, dhy2e⟩ := eActJ_after dhy2
    subst dhy2e
    obtain ⟨ldhy2a, mdhy2a, cdhy2a⟩ := dhy2a.lens
    obtain ⟨ldhy2b, mdhy2b, cdhy2b⟩ := dhy2b.lens
    refine new h fun dr3 _ h => ?_
    have h := h.asA (B := blk dr3 (.cells #[Value.int IntKind.u8 0, Value.slice none 0 0, Value.int IntKind.i64 0, Value.slice none 0 0, Value.int IntKind.i64 0] 138 (0, 0))) (by kernel_rfl)
    refine stNs h .n0 fun _ h => ?_
    have h := h.asA (B := blk dr3 (.cells #[Value.int IntKind.u8 ((↑x.kind.toNat : Int), dy2s, x.wn, dy2t, x.n).fst, Value.slice ((↑x.kind.toNat : Int), dy2s, x.wn, dy2t, x.n).snd.fst.p ((↑x.kind.toNat : Int), dy2s, x.wn, dy2t, x.n).snd.fst.len ((↑x.kind.toNat : Int), dy2s, x.wn, dy2t, x.n).snd.fst.cap, Value.int IntKind.i64 ((↑x.kind.toNat : Int), dy2s, x.wn, dy2t, x.n).snd.snd.fst, Value.slice ((↑x.kind.toNat : Int), dy2s, x.wn, dy2t, x.n).snd.snd.snd.fst.p ((↑x.kind.toNat : Int), dy2s, x.wn, dy2t, x.n).snd.snd.snd.fst.len ((↑x.kind.toNat : Int), dy2s, x.wn, dy2t, x.n).snd.snd.snd.fst.cap, Value.int IntKind.i64 ((↑x.kind.toNat : Int), dy2s, x.wn, dy2t, x.n).snd.snd.snd.snd] 138 (0, 0))) (by kernel_rfl)
    refine ld _ h .n0 ?_
    refine ⟨by omega, ?_⟩
    refine tmd ?_
    refine joinI ?_
    refine brE (fun db4 => by exfalso; omega) (fun db4 => ?_)
    dsimp only at db4
    refine brE (fun db5 => by exfalso; omega) (fun db5 => ?_)
    dsimp only at db5
    refine ld _ h .n0 ?_
    refine jAdd_ok (h.pick .n1) dhy2a (by first | omega | (dsimp only; omega) | decide) (fun dΓ7 _ dg9 h => ?_)
    have af15 := af15.mono dg9
    have ht3 := ht3.mono dg9
    have hl := hl.mono dg9
    have ht := ht.mono dg9
    have dhy2a := dhy2a.mono dg9
    have dhy2b := dhy2b.mono dg9
    refine wrN (i + 1) ?_
    refine ⟨_, (by first | omega | rfl | (dsimp only; omega)), _, _, _, rfl, (by first | omega | rfl | (dsimp only; omega)), rfl, hw2, hq2, (by first | omega | rfl | (dsimp only; omega)), (g3.trans dg9), (((h.pick .n1).drop.pick .n1).pick .n1)⟩
  · obtain ⟨b0, bq, bw, bg, _⟩ := DiskM.begin_quiet hq hw
    have ho := DiskM.begin_open (n := wn) (wb := wb) hq hw
    have ho1 : (openJ ((beginJ m).1.crash wn wb)).2.1 = [] := by rw [ho]
    have ho2 : (openJ ((beginJ m).1.crash wn wb)).2.2 = 0 := by rw [ho]
    have ho3 : (openJ ((beginJ m).1.crash wn wb)).2.1.length = 0 := by rw [ho1]; rfl
    have hcg : ((beginJ m).1.crash wn wb).g = (beginJ m).1.g := rfl
    have hz : ([] : List Str).length = 0 := rfl
    have hl := hl.mono g3
    have ht := ht.mono g3
    refine brD (fun eb0 => by exfalso; omega) (fun eb0 => ?_)
    refine joinI ?_
    refine jBegin_ok h (by first | omega | (dsimp only; omega) | decide) (fun eΓ2 _ eg4 h => ?_)
    have af15 := af15.mono eg4
    have ht3 := ht3.mono eg4
    have hl := hl.mono eg4
    have ht := ht.mono eg4
    refine brN (fun eb6 => by exfalso; omega) (fun eb6 => ?_)
    refine ldA2 _ _ h .n1 ?_
    refine dCrash_ok h (by first | omega | (dsimp only; omega) | decide) ht (fun _ h => ?_)
    refine brF ?_
    refine jOpen_ok h (by first | omega | (dsimp only; omega) | decide) (fun ev11 eΓ12 _ eg14 ef15 h => ?_)
    have af15 := af15.mono eg14
    have ht3 := ht3.mono eg14
    have hl := hl.mono eg14
    have ht := ht.mono eg14
    dsimp only at ef15
    obtain ⟨lef15, mef15, cef15⟩ := ef15.lens
    refine brT ?_
    refine brE (fun eb17 => ?_) (fun eb17 => by exfalso; dsimp only at eb17; omega)
    dsimp only at eb17
    refine ⟨_, rfl, ?_⟩
    refine kDec (fun eb18 => ?_) (fun eb18 => ?_)
    dsimp only at eb18
    refine k _ _ (ag4.trans (ag14.trans (g3.trans (eg4.trans eg14)))) h.drop.drop
    dsimp only at eb18
    (exfalso; omega)

theorem journalBegins_walk {H : Type} {enc : TypeId × Value → H} {W : World} {base : Nat} {vs : List Value} {ds : List (DataW H)} {ps : List MemPlace} (hok : ∀ (j : Nat) (t : TypeId) (v : Value), [3, 135, 81][j]? = some t → vs[j]? = some v → Value.okWide Try.prog W .any base t v)
    (hA : DataW.TrodAll enc Try.prog W 0 (fun _ => true) true [3, 135, 81] vs ds ps) : CallP Try.prog 29 vs (.one (.s .bool)) (fun b w' => b = true ∧ Kept W w') W := by
  obtain ⟨v0, vs0, d0, ds0, p0, q0, rfl, rfl, rfl, h0, r0⟩ := trodAll_cons hA
  obtain ⟨v1, vs1, d1, ds1, p1, q1, rfl, rfl, rfl, h1, r1⟩ := trodAll_cons r0
  obtain ⟨v2, vs2, d2, ds2, p2, q2, rfl, rfl, rfl, h2, r2⟩ := trodAll_cons r1
  obtain ⟨rfl, rfl, rfl⟩ := trodAll_nil r2
  obtain ⟨y0, x0, e0, f0⟩ := argS rInt (hok 0 _ _ rfl rfl) h0
  obtain ⟨y1, x1, e1, f1⟩ := argS rActJs (hok 1 _ _ rfl rfl) h1
  obtain ⟨⟨n2, t2⟩, ⟨m2, x2⟩, e2, f2⟩ := argA rWreck (hok 2 _ _ rfl rfl) h2
  cases e0
  cases e1
  subst e2
  exact law_walk fun k => law_jbegins (Sat.start W) f1 f2.2 k

theorem journalBegins_lifted (os : Os) (started : os.Started) (H : Type) (enc : TypeId × Value → H) :
    ReturnsInHanded {} Try.checked os 29 .any (Rows.journalBeginsSpec.pre6 enc Try.prog Try.f29 Rows.journalBeginsRow.domain false) (Rows.journalBeginsSpec.post enc Try.prog Try.f29 false true false false) := by
  have e : Try.f29.params.toList = [3, 135, 81] := by kernel_rfl
  refine law_lifted (s := Rows.journalBeginsSpec) started Try.func29 (by kernel_rfl) rfl (fun ds h => ?_) (by kernel_rfl) (fun t ht => ?_)
    (ChangeSpec.witness6 (enc := enc) (C := Try.checked) false ⟨#[], #[.int .i64 0, .slice none 0 0, .agg #[.int .i64 0, .slice none 0 0]], []⟩ 8 (by kernel_rfl) (by kernel_rfl) (by kernel_rfl) (by kernel_rfl)) fun W base vs ds ps hok hA => ?_
  · have hl : ds.length = 3 := h
    match ds, hl with
    | [_, _, _], _ => rfl
  · rw [e] at ht
    have hall : ([3, 135, 81].all fun t => Try.prog.readableRec t && decide (t < Try.prog.types.size)) = true := by kernel_rfl
    simpa using List.all_eq_true.1 hall t ht
  · rw [e] at hA hok
    exact journalBegins_walk hok hA

theorem journalBegins_facts : joinedFacts Try.pinned.checked.prog 29 Try.f29 Rows.journalBeginsSpec Rows.journalBeginsRow = true := by
  show joinedFacts Try.prog 29 Try.f29 Rows.journalBeginsSpec Rows.journalBeginsRow = true
  unfold joinedFacts
  rw [make_, enter_, lifts_]
  kernel_rfl

theorem JournalBegins_holds : Rows.JournalBeginsSaid :=
  OpenClaim.holds_of_wide 29 Try.f29 rfl rfl rfl rfl rfl rfl rfl ⟨rfl, rfl, rfl, rfl, rfl⟩ rfl rfl rfl rfl rfl (by kernel_rfl) Try.func29 journalBegins_facts
    (of_decide_eq_true (by kernel_rfl)) (by unfold Func.isWrapper; first | (rw [if_pos (by decide +kernel)]; kernel_rfl) | (rw [if_neg (by decide +kernel)]; exact ⟨rfl, rfl⟩))
    (fun os started H enc _ => journalBegins_lifted os started H enc)


end Go.Proofs.Ytohoimokfgfceaa.K
