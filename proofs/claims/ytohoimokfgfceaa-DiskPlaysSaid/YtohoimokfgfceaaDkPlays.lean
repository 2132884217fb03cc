/-
  DiskPlays: whatever is done, and whenever it crashes, all that can be seen of a disk is the document's. No condition.
-/
import Derived.Test.YtohoimokfgfceaaRdS
import Derived.Test.YtohoimokfgfceaaDkZ
namespace Go.Proofs.Ytohoimokfgfceaa.K
open Go Go.Proofs Go.ChangeShapes Go.WideShapes Go.ChangeAt Go.RowKit
variable {Γ Γ' : Mem} {L L' L'' : List HP} {w w' : World} {A B : HP}
set_option maxRecDepth 100000
set_option maxHeartbeats 4000000

theorem law_plays {r : Int} {s t : Sl} {l : List ActM} {wn : Int} {wb : List Int} {K : Bool → World → Prop} (h : Sat Γ L w) (hl : Lst eAct Γ s l) (ht : Lst eInt Γ t wb) (k : ∀ Γ' w', Γ.le Γ' → Sat Γ' L w' → K true w') :
    CallP Try.prog 16 [.int .i64 r, .slice s.p s.len s.cap, .agg #[.int .i64 wn, .slice t.p t.len t.cap]] (.one (.s .bool)) K w := by
  refine callP (fn := Try.f16) [.s (.int .i64 r), .s (.sl s), .agg [.int .i64 wn, .sl t]] (.p .n (.p .n (.p .n (.p .n (.p (.p .n (.b (.l [22, 21, 8, 5, 7, 9] [(23, .s (.int .i64))] (.p .n (.p .n (.p (.k [23, 22, 21, 8, 5, 7, 9] [] (.p .n (.p (.h [0, 1, 3, 4, 2, 5, 6, 7, 8, 10, 9, 11, 12, 13] [5, 11]) .n))) .n)))))) (.p .n (.j [5, 7, 12, 9] [] .n .n))))))) nong mixed (by kernel_rfl) (by kernel_rfl) rfl rfl ?_
  have hfl := fewA_len l
  obtain ⟨lhl, mhl, chl⟩ := hl.lens
  obtain ⟨lht, mht, cht⟩ := ht.lens
  refine new h fun ar0 _ h => ?_
  have h := h.asA (B := blk ar0 (.cells #[Value.int IntKind.i64 wn, Value.slice t.p t.len t.cap] 81 (0, 0))) (by kernel_rfl)
  refine shown_ok h (fun aΓ2 _ ag4 h => ?_)
  have hl := hl.mono ag4
  have ht := ht.mono ag4
  refine dNew_ok h (fun av7 _ h => ?_)
  refine rNew_ok h (fun av11 _ h => ?_)
  refine brF ?_
  refine fewA_ok h hl (fun av15 aΓ16 _ ag18 af19 h => ?_)
  have hl := hl.mono ag18
  have ht := ht.mono ag18
  obtain ⟨laf19, maf19, caf19⟩ := af19.lens
  rotate_left
  refine loop (σ := Int) (fun st w' n => ∃ (i : Nat) (m : DiskM) (Γ' : Mem), st = (i : Int) ∧ i ≤ (fewA l).length ∧ n = (fewA l).length - i ∧ Wf m ∧ m.g ≤ 100 * i ∧ aΓ16.le Γ' ∧
      Sat Γ' (RDisk av11 m :: PDisk av7 m :: blk ar0 (.cells #[.int .i64 wn, .slice t.p t.len t.cap] 81 (0, 0)) :: L) w') (fewA l).length
    ⟨0, .new r, aΓ16, rfl, by omega, by omega, .new r, Nat.zero_le _, .refl _, h⟩ ?_
  clear h
  rintro _ w n ⟨i, m, Γ3, rfl, hi, hn, hw, hg, g3, h⟩
  have af19 := af19.mono g3
  have ht3 := ht.mono g3
  by_cases hil : i < (fewA l).length
  · obtain ⟨x, ex⟩ := get_lt hil
    have hx64 := af19.acts x (List.mem_of_getElem? ex)
    have hsx := fewA_small x (List.mem_of_getElem? ex)
    unfold smallA at hsx
    have hw2 := DiskM.act_wf (x := x) hw hx64
    have hg2 := DiskM.act_g (m := m) (x := x)
    have hl := hl.mono g3
    have ht := ht.mono g3
    refine brD (fun bb0 => ?_) (fun bb0 => by exfalso; omega)
    refine joinI ?_
    refine ⟨by omega, ?_⟩
    refine nnL h af19 (fun ba1 bha1 => ?_)
    refine ldL h af19 bha1 ex (fun by2 bhy2 => ?_)
    obtain ⟨by2s, by2t, bhy2a, bhy2b, bhy2c, bhy2e⟩ := eAct_after bhy2
    subst bhy2e
    obtain ⟨lbhy2a, mbhy2a, cbhy2a⟩ := bhy2a.lens
    obtain ⟨lbhy2b, mbhy2b, cbhy2b⟩ := bhy2b.lens
    refine new h fun br3 _ h => ?_
    have h := h.asA (B := blk br3 (.cells #[Value.int IntKind.u8 0, Value.string (ByteArray.mk #[]), Value.string (ByteArray.mk #[]), Value.slice none 0 0, Value.int IntKind.i64 0, Value.int IntKind.i64 0, Value.slice none 0 0] 85 (0, 0))) (by kernel_rfl)
    refine stNs h .n0 fun _ h => ?_
    have h := h.asA (B := blk br3 (.cells #[Value.int IntKind.u8 ((↑x.kind.toNat : Int), str x.name, str x.to, by2s, x.n, x.wn, by2t).fst, Value.string ((↑x.kind.toNat : Int), str x.name, str x.to, by2s, x.n, x.wn, by2t).snd.fst, Value.string ((↑x.kind.toNat : Int), str x.name, str x.to, by2s, x.n, x.wn, by2t).snd.snd.fst, Value.slice ((↑x.kind.toNat : Int), str x.name, str x.to, by2s, x.n, x.wn, by2t).snd.snd.snd.fst.p ((↑x.kind.toNat : Int), str x.name, str x.to, by2s, x.n, x.wn, by2t).snd.snd.snd.fst.len ((↑x.kind.toNat : Int), str x.name, str x.to, by2s, x.n, x.wn, by2t).snd.snd.snd.fst.cap, Value.int IntKind.i64 ((↑x.kind.toNat : Int), str x.name, str x.to, by2s, x.n, x.wn, by2t).snd.snd.snd.snd.fst, Value.int IntKind.i64 ((↑x.kind.toNat : Int), str x.name, str x.to, by2s, x.n, x.wn, by2t).snd.snd.snd.snd.snd.fst, Value.slice ((↑x.kind.toNat : Int), str x.name, str x.to, by2s, x.n, x.wn, by2t).snd.snd.snd.snd.snd.snd.p ((↑x.kind.toNat : Int), str x.name, str x.to, by2s, x.n, x.wn, by2t).snd.snd.snd.snd.snd.snd.len ((↑x.kind.toNat : Int), str x.name, str x.to, by2s, x.n, x.wn, by2t).snd.snd.snd.snd.snd.snd.cap] 85 (0, 0))) (by kernel_rfl)
    refine heldS h (.cons .n0 (.cons .n0 (.cons .n1 .nil))) ?_
    refine dr h fun _ h => ?_
    refine ⟨h.sxs (.cons .n0 (.cons .n0 (.cons .n1 .nil))) (.refl _), ?_⟩
    refine ldHA7 _ _ _ _ _ _ _ .n0 ?_
    refine ldHA7 _ _ _ _ _ _ _ .n0 ?_
    refine actA_ok (h.pick .n2) (by first | omega | (dsimp only; omega) | decide) bhy2a bhy2b bhy2c (fun bΓ5 _ bg7 h => ?_)
    have af19 := af19.mono bg7
    have ht3 := ht3.mono bg7
    have hl := hl.mono bg7
    have ht := ht.mono bg7
    have bhy2a := bhy2a.mono bg7
    have bhy2b := bhy2b.mono bg7
    refine ⟨h.sxs (.cons .n1 (.cons .n1 (.cons .n1 .nil))) bg7, ?_⟩
    refine did_ok (h.pick .n2) (by first | omega | (dsimp only; omega) | decide) bhy2a bhy2b bhy2c (fun bΓ10 _ bg12 h => ?_)
    have af19 := af19.mono bg12
    have ht3 := ht3.mono bg12
    have hl := hl.mono bg12
    have ht := ht.mono bg12
    have bhy2a := bhy2a.mono bg12
    have bhy2b := bhy2b.mono bg12
    refine heldS h (.cons .n0 (.cons .n0 (.cons .n0 (.cons .n0 .nil)))) ?_
    refine ⟨h.sxs (.cons .n0 (.cons .n0 (.cons .n0 (.cons .n0 .nil)))) (.refl _), ?_⟩
    refine brN (fun bb14 => by exfalso; omega) (fun bb14 => ?_)
    refine dUsedD_ok (h.pick .n1) (by first | omega | (dsimp only; omega) | decide) (fun _ h => ?_)
    refine ⟨h.sxs (.cons .n1 (.cons .n0 (.cons .n0 (.cons .n0 .nil)))) (.refl _), ?_⟩
    refine rUsed_ok (h.pick .n1) (by first | omega | (dsimp only; omega) | decide) (fun bΓ19 _ bg21 h => ?_)
    have af19 := af19.mono bg21
    have ht3 := ht3.mono bg21
    have hl := hl.mono bg21
    have ht := ht.mono bg21
    have bhy2a := bhy2a.mono bg21
    have bhy2b := bhy2b.mono bg21
    refine heldS h (.cons .n0 (.cons .n0 (.cons .n0 (.cons .n0 .nil)))) ?_
    refine ⟨h.sxs (.cons .n0 (.cons .n0 (.cons .n0 (.cons .n0 .nil)))) (.refl _), ?_⟩
    refine brN (fun bb23 => by exfalso; omega) (fun bb23 => ?_)
    refine wrN (i + 1) ?_
    refine ⟨_, (by first | omega | rfl | (dsimp only; omega)), _, _, _, rfl, (by first | omega | rfl | (dsimp only; omega)), rfl, hw2, (by first | omega | rfl | (dsimp only; omega)), (g3.trans (bg7.trans (bg12.trans bg21))), ((((h.pick .n2).drop.pick .n2).pick .n2).pick .n2)⟩
  · have hgm : m.g < 1000000000000 := by omega
    have hl := hl.mono g3
    have ht := ht.mono g3
    refine brD (fun cb0 => by exfalso; omega) (fun cb0 => ?_)
    refine dClone_ok (h.pick .n1) hgm (fun cv2 _ h => ?_)
    refine joinI ?_
    refine brF ?_
    refine rClone_ok (h.pick .n2) hgm (fun cv6 cΓ7 _ cg9 h => ?_)
    have af19 := af19.mono cg9
    have ht3 := ht3.mono cg9
    have hl := hl.mono cg9
    have ht := ht.mono cg9
    refine same_ok (h.pick .n3) hgm (fun cΓ12 _ cg14 h => ?_)
    have af19 := af19.mono cg14
    have ht3 := ht3.mono cg14
    have hl := hl.mono cg14
    have ht := ht.mono cg14
    refine brF ?_
    refine ldA2 _ _ h .n2 ?_
    refine dCrash_ok (h.pick .n1) hgm ht (fun _ h => ?_)
    refine ldA2 _ _ h .n2 ?_
    refine rCrash_ok (h.pick .n1) hgm ht (fun cΓ20 _ cg22 h => ?_)
    have af19 := af19.mono cg22
    have ht3 := ht3.mono cg22
    have hl := hl.mono cg22
    have ht := ht.mono cg22
    refine brT ?_
    refine same_ok (h.pick .n1) hgm (fun cΓ25 _ cg27 h => ?_)
    have af19 := af19.mono cg27
    have ht3 := ht3.mono cg27
    have hl := hl.mono cg27
    have ht := ht.mono cg27
    refine ⟨_, rfl, ?_⟩
    refine k _ _ (ag4.trans (ag18.trans (g3.trans (cg9.trans (cg14.trans (cg22.trans cg27)))))) h.drop

theorem diskPlays_walk {H : Type} {enc : TypeId × Value → H} {W : World} {base : Nat} {vs : List Value} {ds : List (DataW H)} {ps : List MemPlace} (hok : ∀ (j : Nat) (t : TypeId) (v : Value), [3, 78, 81][j]? = some t → vs[j]? = some v → Value.okWide Try.prog W .any base t v)
    (hA : DataW.TrodAll enc Try.prog W 0 (fun _ => true) true [3, 78, 81] vs ds ps) : CallP Try.prog 16 vs (.one (.s .bool)) (fun b w' => b = true ∧ Kept W w') W := by
  obtain ⟨v0, vs0, d0, ds0, p0, q0, rfl, rfl, rfl, h0, r0⟩ := trodAll_cons hA
  obtain ⟨v1, vs1, d1, ds1, p1, q1, rfl, rfl, rfl, h1, r1⟩ := trodAll_cons r0
  obtain ⟨v2, vs2, d2, ds2, p2, q2, rfl, rfl, rfl, h2, r2⟩ := trodAll_cons r1
  obtain ⟨rfl, rfl, rfl⟩ := trodAll_nil r2
  obtain ⟨y0, x0, e0, f0⟩ := argS rInt (hok 0 _ _ rfl rfl) h0
  obtain ⟨y1, x1, e1, f1⟩ := argS rActs (hok 1 _ _ rfl rfl) h1
  obtain ⟨⟨n2, t2⟩, ⟨m2, x2⟩, e2, f2⟩ := argA rWreck (hok 2 _ _ rfl rfl) h2
  cases e0
  cases e1
  subst e2
  exact law_walk fun k => law_plays (Sat.start W) f1 f2.2 k

theorem diskPlays_lifted (os : Os) (started : os.Started) (H : Type) (enc : TypeId × Value → H) :
    ReturnsInHanded {} Try.checked os 16 .any (Rows.diskPlaysSpec.pre6 enc Try.prog Try.f16 Rows.diskPlaysRow.domain false) (Rows.diskPlaysSpec.post enc Try.prog Try.f16 false true false false) := by
  have e : Try.f16.params.toList = [3, 78, 81] := by kernel_rfl
  refine law_lifted (s := Rows.diskPlaysSpec) started Try.func16 (by kernel_rfl) rfl (fun ds h => ?_) (by kernel_rfl) (fun t ht => ?_)
    (ChangeSpec.witness6 (enc := enc) (C := Try.checked) false ⟨#[], #[.int .i64 0, .slice none 0 0, .agg #[.int .i64 0, .slice none 0 0]], []⟩ 8 (by kernel_rfl) (by kernel_rfl) (by kernel_rfl) (by kernel_rfl)) fun W base vs ds ps hok hA => ?_
  · have hl : ds.length = 3 := h
    match ds, hl with
    | [_, _, _], _ => rfl
  · rw [e] at ht
    have hall : ([3, 78, 81].all fun t => Try.prog.readableRec t && decide (t < Try.prog.types.size)) = true := by kernel_rfl
    simpa using List.all_eq_true.1 hall t ht
  · rw [e] at hA hok
    exact diskPlays_walk hok hA

theorem diskPlays_facts : joinedFacts Try.pinned.checked.prog 16 Try.f16 Rows.diskPlaysSpec Rows.diskPlaysRow = true := by
  show joinedFacts Try.prog 16 Try.f16 Rows.diskPlaysSpec Rows.diskPlaysRow = true
  unfold joinedFacts
  rw [make_, enter_, lifts_]
  kernel_rfl

theorem DiskPlays_holds : Rows.DiskPlaysSaid :=
  OpenClaim.holds_of_wide 16 Try.f16 rfl rfl rfl rfl rfl rfl rfl ⟨rfl, rfl, rfl, rfl, rfl⟩ rfl rfl rfl rfl rfl (by kernel_rfl) Try.func16 diskPlays_facts
    (of_decide_eq_true (by kernel_rfl)) (by unfold Func.isWrapper; first | (rw [if_pos (by decide +kernel)]; kernel_rfl) | (rw [if_neg (by decide +kernel)]; exact ⟨rfl, rfl⟩))
    (fun os started H enc _ => diskPlays_lifted os started H enc)


end Go.Proofs.Ytohoimokfgfceaa.K
