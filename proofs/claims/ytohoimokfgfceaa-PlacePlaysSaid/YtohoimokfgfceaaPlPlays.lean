/-
  PlacePlays: whatever is put, grown and let go of, and whenever it crashes, what is told, and what there is, are the document's. No condition.
-/
import Derived.Test.YtohoimokfgfceaaPlD
namespace Go.Proofs.Ytohoimokfgfceaa.K
open Go Go.Proofs Go.ChangeShapes Go.WideShapes Go.ChangeAt Go.RowKit
variable {Γ Γ' : Mem} {L L' L'' : List HP} {w w' : World} {A B : HP}
set_option maxRecDepth 100000
set_option maxHeartbeats 4000000

theorem Lst.actsP {s : Sl} {l : List ActP} (h : Lst eActP Γ s l) : ∀ x ∈ l, i64B x.n := fun x hx => by
  obtain ⟨ys, _, h2⟩ := h
  obtain ⟨i, hi⟩ := List.mem_iff_getElem?.1 hx
  obtain ⟨y, _, hr⟩ := h2.get hi
  exact hr.2.1

theorem law_pplays {r : Int} {s t : Sl} {l : List ActP} {wn : Int} {wb : List Int} {K : Bool → World → Prop} (h : Sat Γ L w) (hl : Lst eActP Γ s l) (ht : Lst eInt Γ t wb) (k : ∀ Γ' w', Γ.le Γ' → Sat Γ' L w' → K true w') :
    CallP Try.prog 21 [.int .i64 r, .slice s.p s.len s.cap, .agg #[.int .i64 wn, .slice t.p t.len t.cap]] (.one (.s .bool)) K w := by
  refine callP (fn := Try.f21) [.s (.int .i64 r), .s (.sl s), .agg [.int .i64 wn, .sl t]] (.p .n (.p .n (.p .n (.p .n (.p (.p .n (.b (.l [21, 20, 5, 7, 8, 9] [(22, .s (.int .i64))] .n))) .n))))) nong mixed (by kernel_rfl) (by kernel_rfl) rfl rfl ?_
  have hfl := fewP_len l
  obtain ⟨lhl, mhl, chl⟩ := hl.lens
  obtain ⟨lht, mht, cht⟩ := ht.lens
  refine new h fun ar0 _ h => ?_
  have h := h.asA (B := blk ar0 (.cells #[Value.int IntKind.i64 wn, Value.slice t.p t.len t.cap] 81 (0, 0))) (by kernel_rfl)
  refine shownP_ok h (fun aΓ2 _ ag4 h => ?_)
  have hl := hl.mono ag4
  have ht := ht.mono ag4
  refine dNew_ok h (fun av7 _ h => ?_)
  refine rNew_ok h (fun av11 _ h => ?_)
  refine brF ?_
  refine fewP_ok h hl (fun av15 aΓ16 _ ag18 af19 h => ?_)
  have hl := hl.mono ag18
  have ht := ht.mono ag18
  obtain ⟨laf19, maf19, caf19⟩ := af19.lens
  rotate_left
  refine loop (σ := Int) (fun st w' n => ∃ (i : Nat) (m : DiskM) (Γ' : Mem), st = (i : Int) ∧ i ≤ (fewP l).length ∧ n = (fewP l).length - i ∧ Wf m ∧ m.g ≤ 2000 * i ∧ aΓ16.le Γ' ∧
      Sat Γ' (PDisk av7 m :: RDisk av11 m :: blk ar0 (.cells #[.int .i64 wn, .slice t.p t.len t.cap] 81 (0, 0)) :: L) w') (fewP l).length
    ⟨0, .new r, aΓ16, rfl, by omega, by omega, .new r, Nat.zero_le _, .refl _, h.pick .n1⟩ ?_
  clear h
  rintro _ w n ⟨i, m, Γ3, rfl, hi, hn, hw, hg, g3, h⟩
  have af19 := af19.mono g3
  have ht3 := ht.mono g3
  by_cases hil : i < (fewP l).length
  · obtain ⟨x, ex⟩ := get_lt hil
    have hx64 := af19.actsP x (List.mem_of_getElem? ex)
    have hsx := fewP_small x (List.mem_of_getElem? ex)
    obtain ⟨hw2, hg2⟩ := actP_ok (m := m) hsx hx64 hw
    have hl := hl.mono g3
    have ht := ht.mono g3
    refine brD (fun bb0 => ?_) (fun bb0 => by exfalso; omega)
    refine ⟨by omega, ?_⟩
    refine nnL h af19 (fun ba1 bha1 => ?_)
    refine ldL h af19 bha1 ex (fun by2 bhy2 => ?_)
    obtain ⟨by2s, by2t, by2u, bhy2a, bhy2b, bhy2c, bhy2d, bhy2e⟩ := eActP_after bhy2
    subst bhy2e
    obtain ⟨lbhy2a, mbhy2a, cbhy2a⟩ := bhy2a.lens
    obtain ⟨lbhy2b, mbhy2b, cbhy2b⟩ := bhy2b.lens
    obtain ⟨lbhy2c, mbhy2c, cbhy2c⟩ := bhy2c.lens
    refine new h fun br3 _ h => ?_
    have h := h.asA (B := blk br3 (.cells #[Value.int IntKind.u8 0, Value.string (ByteArray.mk #[]), Value.slice none 0 0, Value.slice none 0 0, Value.int IntKind.i64 0, Value.slice none 0 0, Value.int IntKind.i64 0] 111 (0, 0))) (by kernel_rfl)
    refine stNs h .n0 fun _ h => ?_
    have h := h.asA (B := blk br3 (.cells #[Value.int IntKind.u8 ((↑x.kind.toNat : Int), str x.name, by2s, by2t, x.wn, by2u, x.n).fst, Value.string ((↑x.kind.toNat : Int), str x.name, by2s, by2t, x.wn, by2u, x.n).snd.fst, Value.slice ((↑x.kind.toNat : Int), str x.name, by2s, by2t, x.wn, by2u, x.n).snd.snd.fst.p ((↑x.kind.toNat : Int), str x.name, by2s, by2t, x.wn, by2u, x.n).snd.snd.fst.len ((↑x.kind.toNat : Int), str x.name, by2s, by2t, x.wn, by2u, x.n).snd.snd.fst.cap, Value.slice ((↑x.kind.toNat : Int), str x.name, by2s, by2t, x.wn, by2u, x.n).snd.snd.snd.fst.p ((↑x.kind.toNat : Int), str x.name, by2s, by2t, x.wn, by2u, x.n).snd.snd.snd.fst.len ((↑x.kind.toNat : Int), str x.name, by2s, by2t, x.wn, by2u, x.n).snd.snd.snd.fst.cap, Value.int IntKind.i64 ((↑x.kind.toNat : Int), str x.name, by2s, by2t, x.wn, by2u, x.n).snd.snd.snd.snd.fst, Value.slice ((↑x.kind.toNat : Int), str x.name, by2s, by2t, x.wn, by2u, x.n).snd.snd.snd.snd.snd.fst.p ((↑x.kind.toNat : Int), str x.name, by2s, by2t, x.wn, by2u, x.n).snd.snd.snd.snd.snd.fst.len ((↑x.kind.toNat : Int), str x.name, by2s, by2t, x.wn, by2u, x.n).snd.snd.snd.snd.snd.fst.cap, Value.int IntKind.i64 ((↑x.kind.toNat : Int), str x.name, by2s, by2t, x.wn, by2u, x.n).snd.snd.snd.snd.snd.snd] 111 (0, 0))) (by kernel_rfl)
    refine ldA7 _ _ _ _ _ _ _ h .n0 ?_
    refine doesP_ok ((h.pick .n2).pick .n2) hsx (by first | omega | (dsimp only; omega) | decide) bhy2a bhy2b bhy2c bhy2d (fun bΓ5 _ bg7 h => ?_)
    have af19 := af19.mono bg7
    have ht3 := ht3.mono bg7
    have hl := hl.mono bg7
    have ht := ht.mono bg7
    have bhy2a := bhy2a.mono bg7
    have bhy2b := bhy2b.mono bg7
    have bhy2c := bhy2c.mono bg7
    refine brF ?_
    refine wrN (i + 1) ?_
    refine ⟨_, (by first | omega | rfl | (dsimp only; omega)), _, _, _, rfl, (by first | omega | rfl | (dsimp only; omega)), rfl, hw2, (by first | omega | rfl | (dsimp only; omega)), (g3.trans bg7), ((((h.pick .n2).drop.pick .n2).pick .n2).pick .n2)⟩
  · have hgm : m.g < 1000000000000 := by omega
    have hgc : (m.crash wn wb).g < 1000000000000 := by show m.g < _; omega
    have hl := hl.mono g3
    have ht := ht.mono g3
    refine brD (fun cb0 => by exfalso; omega) (fun cb0 => ?_)
    refine ldA2 _ _ h .n2 ?_
    refine dCrash_ok h hgc ht (fun _ h => ?_)
    refine ldA2 _ _ h .n2 ?_
    refine rCrash_ok (h.pick .n1) hgc ht (fun cΓ5 _ cg7 h => ?_)
    have af19 := af19.mono cg7
    have ht3 := ht3.mono cg7
    have hl := hl.mono cg7
    have ht := ht.mono cg7
    refine brT ?_
    refine sameP_ok (h.pick .n1) hgc (fun cΓ10 _ cg12 h => ?_)
    have af19 := af19.mono cg12
    have ht3 := ht3.mono cg12
    have hl := hl.mono cg12
    have ht := ht.mono cg12
    refine ⟨_, rfl, ?_⟩
    refine k _ _ (ag4.trans (ag18.trans (g3.trans (cg7.trans cg12)))) h.drop

theorem placePlays_walk {H : Type} {enc : TypeId × Value → H} {W : World} {base : Nat} {vs : List Value} {ds : List (DataW H)} {ps : List MemPlace} (hok : ∀ (j : Nat) (t : TypeId) (v : Value), [3, 108, 81][j]? = some t → vs[j]? = some v → Value.okWide Try.prog W .any base t v)
    (hA : DataW.TrodAll enc Try.prog W 0 (fun _ => true) true [3, 108, 81] vs ds ps) : CallP Try.prog 21 vs (.one (.s .bool)) (fun b w' => b = true ∧ Kept W w') W := by
  obtain ⟨v0, vs0, d0, ds0, p0, q0, rfl, rfl, rfl, h0, r0⟩ := trodAll_cons hA
  obtain ⟨v1, vs1, d1, ds1, p1, q1, rfl, rfl, rfl, h1, r1⟩ := trodAll_cons r0
  obtain ⟨v2, vs2, d2, ds2, p2, q2, rfl, rfl, rfl, h2, r2⟩ := trodAll_cons r1
  obtain ⟨rfl, rfl, rfl⟩ := trodAll_nil r2
  obtain ⟨y0, x0, e0, f0⟩ := argS rInt (hok 0 _ _ rfl rfl) h0
  obtain ⟨y1, x1, e1, f1⟩ := argS rActPs (hok 1 _ _ rfl rfl) h1
  obtain ⟨⟨n2, t2⟩, ⟨m2, x2⟩, e2, f2⟩ := argA rWreck (hok 2 _ _ rfl rfl) h2
  cases e0
  cases e1
  subst e2
  exact law_walk fun k => law_pplays (Sat.start W) f1 f2.2 k

theorem placePlays_lifted (os : Os) (started : os.Started) (H : Type) (enc : TypeId × Value → H) :
    ReturnsInHanded {} Try.checked os 21 .any (Rows.placePlaysSpec.pre6 enc Try.prog Try.f21 Rows.placePlaysRow.domain false) (Rows.placePlaysSpec.post enc Try.prog Try.f21 false true false false) := by
  have e : Try.f21.params.toList = [3, 108, 81] := by kernel_rfl
  refine law_lifted (s := Rows.placePlaysSpec) started Try.func21 (by kernel_rfl) rfl (fun ds h => ?_) (by kernel_rfl) (fun t ht => ?_)
    (ChangeSpec.witness6 (enc := enc) (C := Try.checked) false ⟨#[], #[.int .i64 0, .slice none 0 0, .agg #[.int .i64 0, .slice none 0 0]], []⟩ 8 (by kernel_rfl) (by kernel_rfl) (by kernel_rfl) (by kernel_rfl)) fun W base vs ds ps hok hA => ?_
  · have hl : ds.length = 3 := h
    match ds, hl with
    | [_, _, _], _ => rfl
  · rw [e] at ht
    have hall : ([3, 108, 81].all fun t => Try.prog.readableRec t && decide (t < Try.prog.types.size)) = true := by kernel_rfl
    simpa using List.all_eq_true.1 hall t ht
  · rw [e] at hA hok
    exact placePlays_walk hok hA

theorem placePlays_facts : joinedFacts Try.pinned.checked.prog 21 Try.f21 Rows.placePlaysSpec Rows.placePlaysRow = true := by
  show joinedFacts Try.prog 21 Try.f21 Rows.placePlaysSpec Rows.placePlaysRow = true
  unfold joinedFacts
  rw [make_, enter_, lifts_]
  kernel_rfl

theorem PlacePlays_holds : Rows.PlacePlaysSaid :=
  OpenClaim.holds_of_wide 21 Try.f21 rfl rfl rfl rfl rfl rfl rfl ⟨rfl, rfl, rfl, rfl, rfl⟩ rfl rfl rfl rfl rfl (by kernel_rfl) Try.func21 placePlays_facts
    (of_decide_eq_true (by kernel_rfl)) (by unfold Func.isWrapper; first | (rw [if_pos (by decide +kernel)]; kernel_rfl) | (rw [if_neg (by decide +kernel)]; exact ⟨rfl, rfl⟩))
    (fun os started H enc _ => placePlays_lifted os started H enc)


end Go.Proofs.Ytohoimokfgfceaa.K
