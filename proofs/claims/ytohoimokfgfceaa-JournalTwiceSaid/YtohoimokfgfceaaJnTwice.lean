/-
  JournalTwice: what Open told is told again, and it lets go of what was noted in part for good. No condition.
-/
import Derived.Test.YtohoimokfgfceaaJnC
namespace Go.Proofs.Ytohoimokfgfceaa.K
open Go Go.Proofs Go.ChangeShapes Go.WideShapes Go.ChangeAt Go.RowKit
variable {Γ Γ' : Mem} {L L' L'' : List HP} {w w' : World} {A B : HP}
set_option maxRecDepth 100000
set_option maxHeartbeats 4000000

theorem law_jtwice {s t : Sl} {b : Str} {wn : Int} {wb : List Int} {K : Bool → World → Prop} (h : Sat Γ L w) (hb : Bytes Γ s b) (ht : Lst eInt Γ t wb) (k : ∀ Γ' w', Γ.le Γ' → Sat Γ' L w' → K true w') :
    CallP Try.prog 27 [.slice s.p s.len s.cap, .agg #[.int .i64 wn, .slice t.p t.len t.cap]] (.one (.s .bool)) K w := by
  refine callP (fn := Try.f27) [.s (.sl s), .agg [.int .i64 wn, .sl t]] (.p .n (.p .n (.p .n (.j [3, 6, 5] [] .n (.p .n (.j [6, 5, 7] [] .n (.p .n (.p .n (.p .n (.p (.p .n (.b (.l [69, 68, 5, 10, 12, 7, 9, 11] [(13, .s .sl), (70, .s (.int .i64))] .n))) .n)))))))))) nong mixed (by kernel_rfl) (by kernel_rfl) rfl rfl ?_
  obtain ⟨hsl, _, _⟩ := hb.lens
  have hsa := hb.sub (l := 0) (n := min s.len 300) (Nat.zero_le _) (by omega)
  have e0 : (b.drop 0).take (min s.len 300 - 0) = b.take 300 := by
    rw [List.drop_zero, Nat.sub_zero, hsl]
    by_cases h3 : b.length ≤ 300
    · rw [Nat.min_eq_left h3, List.take_of_length_le (Nat.le_refl _), List.take_of_length_le h3]
    · rw [Nat.min_eq_right (by omega)]
  rw [e0] at hsa
  have hx : (b.take 300).length ≤ 300 := by rw [List.length_take]; omega
  generalize b.take 300 = x at hsa hx
  obtain ⟨q1, q2, q3, q4, q5, q6, q7, q8⟩ := DiskM.twice_there hx
  have hc0 := DiskM.j1_0
  have hg1 : DiskM.J1.g = 2 := rfl
  have hga := append_g DiskM.J1 jnS x
  have hgs := sync_g (DiskM.J1.append jnS x).1 jnS
  obtain ⟨o1, o2, o3, o4, o5, o6⟩ := DiskM.twice_open (n := wn) (wb := wb) q4 q5 q6 q7 q8 hx
  have o11 := congrArg Prod.fst o1
  have o12 := congrArg Prod.snd o1
  have o3a := congrArg (fun p => p.1) o3
  have o3b := congrArg (fun p => p.2.1) o3
  have o3c := congrArg (fun p => p.2.2) o3
  dsimp only at o11 o12 o3a o3b o3c
  have hsm := DiskM.allB_small x
  have o4' : quiet (openJ ((openJ ((DiskM.J1.append jnS x).1.sync jnS).1.syncNames.1).1.crash wn wb)).1 := by rw [o3a]; exact o4
  have o5' : ((openJ ((openJ ((DiskM.J1.append jnS x).1.sync jnS).1.syncNames.1).1.crash wn wb)).1.read jnS).2 = (framesB (allB x).1, 0) := by rw [o3a]; exact o5
  have o6' : (openJ ((openJ ((DiskM.J1.append jnS x).1.sync jnS).1.syncNames.1).1.crash wn wb)).1.g ≤ 10000 := by rw [o3a]; exact o6
  have hfi : ∀ i, (framesB ((allB x).1.take i)).length ≤ 300 := fun i => by
    have h1 := DiskM.allB_is x
    have h2 := congrArg List.length h1
    have h3 : framesB (allB x).1 = framesB ((allB x).1.take i) ++ framesB ((allB x).1.drop i) := by
      rw [show framesB ((allB x).1.take i) ++ framesB ((allB x).1.drop i) = framesB ((allB x).1.take i ++ (allB x).1.drop i) by unfold framesB; rw [List.map_append, List.flatten_append], List.take_append_drop]
    rw [h3, List.length_append, List.length_take] at h2
    omega
  unfold DiskM.J1 jnS at *
  obtain ⟨lht, mht, cht⟩ := ht.lens
  refine new h fun ar0 _ h => ?_
  have h := h.asA (B := blk ar0 (.cells #[Value.int IntKind.i64 wn, Value.slice t.p t.len t.cap] 81 (0, 0))) (by kernel_rfl)
  refine shownJ_ok h (fun aΓ2 _ ag4 h => ?_)
  have hb := hb.mono ag4
  have ht := ht.mono ag4
  have hsa := hsa.mono ag4
  refine dNew_ok h (fun av7 _ h => ?_)
  refine joinI ?_
  refine brF ?_
  refine dCreate_ok h (by first | omega | (dsimp only; omega) | decide) (fun _ h => ?_)
  refine brF ?_
  refine mnN _ _ ?_
  refine ⟨by omega, ?_⟩
  refine dAppend_ok h hsa (by first | omega | (dsimp only; omega) | decide) (fun aΓ14 _ ag16 h => ?_)
  have hb := hb.mono ag16
  have ht := ht.mono ag16
  have hsa := hsa.mono ag16
  refine brN (fun ab18 => by exfalso; omega) (fun ab18 => ?_)
  refine dSync_ok h (fun _ h => ?_)
  refine brN (fun ab22 => by exfalso; omega) (fun ab22 => ?_)
  refine dSyncNames_ok h (by first | omega | (dsimp only; omega) | decide) (fun _ h => ?_)
  refine brN (fun ab26 => by exfalso; omega) (fun ab26 => ?_)
  refine jOpen_ok h (by first | omega | (dsimp only; omega) | decide) (fun av28 aΓ29 _ ag31 af32 h => ?_)
  have hb := hb.mono ag31
  have ht := ht.mono ag31
  have hsa := hsa.mono ag31
  obtain ⟨laf32, maf32, caf32⟩ := af32.lens
  refine joinI ?_
  refine brN (fun ab34 => by exfalso; omega) (fun ab34 => ?_)
  dsimp only at ab34
  refine ldA2 _ _ h .n1 ?_
  refine dCrash_ok h (by first | omega | (dsimp only; omega) | decide) ht (fun _ h => ?_)
  refine brF ?_
  refine jOpen_ok h (by first | omega | (dsimp only; omega) | decide) (fun av39 aΓ40 _ ag42 af43 h => ?_)
  have af32 := af32.mono ag42
  have hb := hb.mono ag42
  have ht := ht.mono ag42
  have hsa := hsa.mono ag42
  dsimp only at af43
  obtain ⟨laf43, maf43, caf43⟩ := af43.lens
  refine dReadQuietIs_ok h o4' o5' (by first | omega | (dsimp only; omega) | decide) (fun av46 aΓ47 _ ag49 af50 h => ?_)
  have af43 := af43.mono ag49
  have af32 := af32.mono ag49
  have hb := hb.mono ag49
  have ht := ht.mono ag49
  have hsa := hsa.mono ag49
  obtain ⟨laf50, maf50, caf50⟩ := af50.lens
  rotate_left
  rw [o3b] at af43 laf43 maf43
  rw [o11] at af32 laf32 maf32
  refine loop (σ := Sl × Int) (fun st w' n => ∃ (o : Sl) (i : Nat) (Γ' : Mem), st = (o, (i : Int)) ∧ i ≤ (allB x).1.length ∧ n = (allB x).1.length - i ∧ aΓ47.le Γ' ∧ Bytes Γ' o (framesB ((allB x).1.take i)) ∧
      Sat Γ' (PDisk av7 (openJ ((openJ (((((DiskM.new 2000).create [106, 111, 117, 114, 110, 97, 108]).1.append [106, 111, 117, 114, 110, 97, 108] x).1.sync [106, 111, 117, 114, 110, 97, 108]).1.syncNames.1)).1.crash wn wb)).1 :: blk ar0 (.cells #[.int .i64 wn, .slice t.p t.len t.cap] 81 (0, 0)) :: L) w') (allB x).1.length
    ⟨⟨none, 0, 0⟩, 0, aΓ47, rfl, by omega, by omega, .refl _, by simpa [framesB] using Bytes.nil _ _, h⟩ ?_
  clear h
  rintro _ w n ⟨o, i, Γ3, rfl, hi, hn, g3, hbo, h⟩
  have af43 := af43.mono g3
  have af32 := af32.mono g3
  have af50 := af50.mono g3
  have hfii := hfi i
  by_cases hil : i < (allB x).1.length
  · obtain ⟨y, ey⟩ := get_lt hil
    have hy := hsm y (List.mem_of_getElem? ey)
    have htk : framesB ((allB x).1.take (i + 1)) = framesB ((allB x).1.take i) ++ frameB y := by rw [List.take_add_one, ey]; simp [framesB]
    have hb := hb.mono g3
    have ht := ht.mono g3
    have hsa := hsa.mono g3
    obtain ⟨lhbo, mhbo, chbo⟩ := hbo.lens
    refine brD (fun bb0 => ?_) (fun bb0 => by exfalso; dsimp only at bb0; omega)
    dsimp only at bb0
    refine ⟨by dsimp only; omega, ?_⟩
    refine nnL h af43 (fun ba1 bha1 => ?_)
    dsimp only at bha1
    refine ldL h af43 bha1 ey (fun by2 bhy2 => ?_)
    have bhy2 : Bytes _ by2 y := bhy2
    obtain ⟨lbhy2, mbhy2, cbhy2⟩ := bhy2.lens
    refine rput_ok h hbo bhy2 (by first | omega | (dsimp only; omega) | decide) (fun bp4 => ?_) (fun bp5 bv6 bΓ7 _ bg9 bf10 h => ?_)
    refine wrN (i + 1) ?_
    refine ⟨_, (by first | omega | rfl | (dsimp only; omega)), _, _, _, rfl, (by first | omega | rfl | (dsimp only; omega)), rfl, g3, (by first | omega | rfl | (dsimp only; omega)), ((h.pick .n1).pick .n1)⟩
    have hbo := hbo.mono bg9
    have af43 := af43.mono bg9
    have af32 := af32.mono bg9
    have af50 := af50.mono bg9
    have hb := hb.mono bg9
    have ht := ht.mono bg9
    have hsa := hsa.mono bg9
    have bhy2 := bhy2.mono bg9
    obtain ⟨lbf10, mbf10, cbf10⟩ := bf10.lens
    refine wrN (i + 1) ?_
    refine ⟨_, (by first | omega | rfl | (dsimp only; omega)), _, _, _, rfl, (by first | omega | rfl | (dsimp only; omega)), rfl, (g3.trans bg9), ?_, ((h.pick .n1).pick .n1)⟩
    rotate_left
    all_goals (rw [htk]; assumption)
  · have hin : i = (allB x).1.length := by omega
    rw [hin, List.take_length] at hbo
    have hb := hb.mono g3
    have ht := ht.mono g3
    have hsa := hsa.mono g3
    obtain ⟨lhbo, mhbo, chbo⟩ := hbo.lens
    refine brD (fun cb0 => by exfalso; dsimp only at cb0; omega) (fun cb0 => ?_)
    dsimp only at cb0
    refine brT ?_
    refine brE (fun cb1 => ?_) (fun cb1 => by exfalso; dsimp only at cb1; omega)
    dsimp only at cb1
    refine brT ?_
    refine rsame_ok h af32 af43 (by first | omega | rfl | (dsimp only; omega)) (fun _ h => ?_)
    refine brT ?_
    refine btoS h hbo ?_
    refine btoS h af50 ?_
    refine ⟨_, rfl, ?_⟩
    rw [beq_self_eq_true]
    refine k _ _ (ag4.trans (ag16.trans (ag31.trans (ag42.trans (ag49.trans g3))))) h.drop.drop

theorem journalTwice_walk {H : Type} {enc : TypeId × Value → H} {W : World} {base : Nat} {vs : List Value} {ds : List (DataW H)} {ps : List MemPlace} (hok : ∀ (j : Nat) (t : TypeId) (v : Value), [32, 81][j]? = some t → vs[j]? = some v → Value.okWide Try.prog W .any base t v)
    (hA : DataW.TrodAll enc Try.prog W 0 (fun _ => true) true [32, 81] vs ds ps) : CallP Try.prog 27 vs (.one (.s .bool)) (fun b w' => b = true ∧ Kept W w') W := by
  obtain ⟨v0, vs0, d0, ds0, p0, q0, rfl, rfl, rfl, h0, r0⟩ := trodAll_cons hA
  obtain ⟨v1, vs1, d1, ds1, p1, q1, rfl, rfl, rfl, h1, r1⟩ := trodAll_cons r0
  obtain ⟨rfl, rfl, rfl⟩ := trodAll_nil r1
  obtain ⟨y0, x0, e0, f0⟩ := argS rBytes (hok 0 _ _ rfl rfl) h0
  obtain ⟨⟨n1, t1⟩, ⟨m1, x1⟩, e1, f1⟩ := argA rWreck (hok 1 _ _ rfl rfl) h1
  cases e0
  subst e1
  exact law_walk fun k => law_jtwice (Sat.start W) f0 f1.2 k

theorem journalTwice_lifted (os : Os) (started : os.Started) (H : Type) (enc : TypeId × Value → H) :
    ReturnsInHanded {} Try.checked os 27 .any (Rows.journalTwiceSpec.pre6 enc Try.prog Try.f27 Rows.journalTwiceRow.domain false) (Rows.journalTwiceSpec.post enc Try.prog Try.f27 false true false false) := by
  have e : Try.f27.params.toList = [32, 81] := by kernel_rfl
  refine law_lifted (s := Rows.journalTwiceSpec) started Try.func27 (by kernel_rfl) rfl (fun ds h => ?_) (by kernel_rfl) (fun t ht => ?_)
    (ChangeSpec.witness6 (enc := enc) (C := Try.checked) false ⟨#[], #[.slice none 0 0, .agg #[.int .i64 0, .slice none 0 0]], []⟩ 8 (by kernel_rfl) (by kernel_rfl) (by kernel_rfl) (by kernel_rfl)) fun W base vs ds ps hok hA => ?_
  · have hl : ds.length = 2 := h
    match ds, hl with
    | [_, _], _ => rfl
  · rw [e] at ht
    have hall : ([32, 81].all fun t => Try.prog.readableRec t && decide (t < Try.prog.types.size)) = true := by kernel_rfl
    simpa using List.all_eq_true.1 hall t ht
  · rw [e] at hA hok
    exact journalTwice_walk hok hA

theorem journalTwice_facts : joinedFacts Try.pinned.checked.prog 27 Try.f27 Rows.journalTwiceSpec Rows.journalTwiceRow = true := by
  show joinedFacts Try.prog 27 Try.f27 Rows.journalTwiceSpec Rows.journalTwiceRow = true
  unfold joinedFacts
  rw [make_, enter_, lifts_]
  kernel_rfl

theorem JournalTwice_holds : Rows.JournalTwiceSaid :=
  OpenClaim.holds_of_wide 27 Try.f27 rfl rfl rfl rfl rfl rfl rfl ⟨rfl, rfl, rfl, rfl, rfl⟩ rfl rfl rfl rfl rfl (by kernel_rfl) Try.func27 journalTwice_facts
    (of_decide_eq_true (by kernel_rfl)) (by unfold Func.isWrapper; first | (rw [if_pos (by decide +kernel)]; kernel_rfl) | (rw [if_neg (by decide +kernel)]; exact ⟨rfl, rfl⟩))
    (fun os started H enc _ => journalTwice_lifted os started H enc)


end Go.Proofs.Ytohoimokfgfceaa.K
