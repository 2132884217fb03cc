/-
  RunBack: what was added is read, in order. No condition.
-/
import Derived.Test.YtohoimokfgfceaaRnG
import Derived.Test.YtohoimokfgfceaaRnH
import Derived.Test.YtohoimokfgfceaaRnS
namespace Go.Proofs.Ytohoimokfgfceaa.K
open Go Go.Proofs Go.ChangeShapes Go.WideShapes Go.ChangeAt Go.RowKit
variable {Γ Γ' : Mem} {L L' L'' : List HP} {w w' : World} {A B : HP}
set_option maxRecDepth 100000
set_option maxHeartbeats 4000000

/-- what was read till now -/
def QB (r r2 : Nat) (q : Sl) (R : List Str) (i : Nat) : HP :=
  HP.ex fun out : Sl => HP.all [blk r (.cells #[.slice out.p out.len out.cap] 43 (0, 0)), OL eBytes 32 out (R.take i), blk r2 (.cells #[.slice q.p q.len q.cap] 43 (0, 0))]

theorem Sat.qb {r r2 i : Nat} {q : Sl} {R : List Str} : Sat Γ (QB r r2 q R i :: L) w ↔ ∃ out : Sl, Sat Γ (blk r (.cells #[.slice out.p out.len out.cap] 43 (0, 0)) :: OL eBytes 32 out (R.take i) :: blk r2 (.cells #[.slice q.p q.len q.cap] 43 (0, 0)) :: L) w := by
  unfold QB
  rw [Sat.ex]
  constructor
  · rintro ⟨m', h⟩
    exact ⟨m', Sat.all.1 h⟩
  · rintro ⟨m', h2⟩
    exact ⟨m', Sat.all.2 h2⟩

theorem law_rback {s : Sl} {l : List Str} {K : Bool → World → Prop} (h : Sat Γ L w) (hl : Lst eBytes Γ s l) (k : ∀ Γ' w', Γ.le Γ' → Sat Γ' L w' → K true w') :
    CallP Try.prog 11 [.slice s.p s.len s.cap] (.one (.s .bool)) K w := by
  refine callP (fn := Try.f11) [.s (.sl s)] (.p .n (.p .n (.p .n (.p .n (.p .n (.j [6, 4, 59, 58, 13, 14, 3, 5, 2] [] .n (.p (.p .n (.b (.l [31, 30, 6, 4, 59, 58, 13, 14, 3, 5, 2] [(32, .s (.int .i64))] .n))) (.j [4, 59, 58, 13, 14, 3, 5, 2] [] (.p (.h [0, 1, 2, 3, 4, 6, 7, 5, 8, 9] [1]) .n) (.p .n (.p .n (.p (.p .n (.b (.p .n (.b (.j [13, 12] [] .n .n))))) .n))))))))))) nong mixed (by kernel_rfl) (by kernel_rfl) rfl rfl ?_
  have hg0 : (startM (.new 10000)).1.g = 2 := by kernel_rfl
  have hs0 : (startM (.new 10000)).2 = 0 := by kernel_rfl
  have hxr : rightP [114, 117, 110] := by decide
  have hla := riseM_asc l
  have hll := riseM_len l
  have hlb := DiskM.Asc.bytes hla hll
  have hqn : quiet (.new 10000) := ⟨rfl, rfl⟩
  have hgn : (DiskM.new 10000).g = 0 := rfl
  have hrn : (DiskM.new 10000).room = 10000 := rfl
  have e1 := DiskM.putR_rise (m := .new 10000) hxr hla.rise
  obtain ⟨p0, pq, pg⟩ := DiskM.putCs_there (name := [114, 117, 110]) (cs := (riseM l).map frameB) hqn (.new 10000) hxr (by rw [hrn, hgn, DiskM.frames_flat]; omega)
  have hps := (DiskM.putCs_safe (name := [114, 117, 110]) (cs := (riseM l).map frameB) hxr (m := .new 10000) ⟨.new 10000, rfl, fun s i h => by cases h⟩ (.refl _) (.new 10000)).1 p0
  rw [← e1] at p0 pq pg hps
  rw [DiskM.frames_flat] at pg hps
  have hci := hps.is
  clear hps e1
  have hpr : DiskM.putR (.new 10000) [114, 117, 110] (riseM l) = if (DiskM.addsM (startM (.new 10000)).1 none (riseM l)).2 ≠ 0 then DiskM.addsM (startM (.new 10000)).1 none (riseM l) else endM (DiskM.addsM (startM (.new 10000)).1 none (riseM l)).1 [114, 117, 110] := by
    unfold DiskM.putR; rw [if_neg (by intro hh; exact hh hs0)]
  have ha0 : (DiskM.addsM (startM (.new 10000)).1 none (riseM l)).2 = 0 := by
    apply Classical.byContradiction
    intro hne
    rw [hpr, if_pos hne] at p0
    exact hne p0
  rw [if_neg (by intro hh; exact hh ha0)] at hpr
  have hal : recsB none (framesB (riseM l)) = (riseM l).map fun x => (x, (0 : Int)) := listM_frames hla.rise hla.small
  have hfl : (framesB (riseM l)).length < 1000000000 := by omega
  have hag := DiskM.addsM_g (riseM l) (startM (.new 10000)).1 none
  obtain ⟨lhl, mhl, chl⟩ := hl.lens
  refine new h fun ar0 _ h => ?_
  have h := h.asA (B := blk ar0 (.cells #[Value.bool false] 4 (0, 0))) (by kernel_rfl)
  refine shownR_ok h (fun aΓ2 _ ag4 h => ?_)
  have hl := hl.mono ag4
  refine dNew_ok h (fun av7 _ h => ?_)
  refine rise_ok h hl (fun av11 aΓ12 _ ag14 af15 h => ?_)
  have hl := hl.mono ag14
  obtain ⟨laf15, maf15, caf15⟩ := af15.lens
  refine new h fun ar17 _ h => ?_
  have h := h.asA (B := blk ar17 (.cells #[Value.slice none 0 0] 43 (0, 0))) (by kernel_rfl)
  refine st h .n0 fun _ h => ?_
  have h := h.asA (B := blk ar17 (.cells #[Value.slice av11.p av11.len av11.cap] 43 (0, 0))) (by kernel_rfl)
  refine wStart_ok (h.pick .n1) (by first | omega | (dsimp only; omega) | decide) (fun ap19 _ h => ?_) (fun ap22 av23 _ h => ?_)
  refine joinI ?_
  refine brT ?_
  refine st h .n2 fun _ h => ?_
  have h := h.asA (B := blk ar0 (.cells #[Value.bool false] 4 (0, 0))) (by kernel_rfl)
  refine ld _ h .n0 ?_
  refine ⟨_, rfl, ?_⟩
  (exfalso; omega)
  refine joinI ?_
  refine brF ?_
  refine brF ?_
  refine ld _ h .n2 ?_
  rotate_left
  refine loop (σ := Int) (fun st w' c => ∃ (i : Nat) (mi : DiskM) (s1 : Sl) (bb : Bool) (last : Option Str) (Γ' : Mem), st = (i : Int) ∧ i ≤ (riseM l).length ∧ c = (riseM l).length - i ∧ DiskM.addsM (startM (.new 10000)).1 none (riseM l) = DiskM.addsM mi last ((riseM l).drop i) ∧ mi.g ≤ 3 + 72 * i ∧ aΓ12.le Γ' ∧ LastAt Γ' s1 bb last ∧
      Sat Γ' (blk av23 (.cells #[.pointer (some ⟨av7, 0, none⟩), .slice s1.p s1.len s1.cap, .bool bb, .int .i64 (i : Int)] 161 (0, 0)) :: PDisk av7 mi :: blk ar17 (.cells #[.slice av11.p av11.len av11.cap] 43 (0, 0)) :: blk ar0 (.cells #[.bool false] 4 (0, 0)) :: L) w') (riseM l).length
    ⟨0, (startM (.new 10000)).1, ⟨none, 0, 0⟩, false, none, aΓ12, rfl, by omega, by omega, rfl, by omega, .refl _, rfl, h⟩ ?_
  clear h
  rintro _ w c ⟨i, mi, s1, bb, last, Γ3, rfl, hi, hc, heq, hgi, g3, hlat, h⟩
  have af15 := af15.mono g3
  by_cases hil : i < (riseM l).length
  · obtain ⟨y, ey⟩ := get_lt hil
    have hd : (riseM l).drop i = y :: (riseM l).drop (i + 1) := by
      rw [List.drop_eq_getElem_cons hil]
      rw [List.getElem?_eq_getElem hil] at ey
      cases ey
      rfl
    have hga := addM_g mi last y
    rw [hd, DiskM.addsM] at heq
    have ha : (addM mi last y).2 = 0 := by
      apply Classical.byContradiction
      intro hne
      rw [heq, if_neg hne] at ha0
      exact hne ha0
    rw [if_pos ha] at heq
    clear hpr ha0 hci hag
    have hl := hl.mono g3
    refine brD (fun bb0 => ?_) (fun bb0 => by exfalso; omega)
    refine ⟨by omega, ?_⟩
    refine nnL h af15 (fun ba1 bha1 => ?_)
    refine ldL h af15 bha1 ey (fun by2 bhy2 => ?_)
    have bhy2 : Bytes _ by2 y := bhy2
    obtain ⟨lbhy2, mbhy2, cbhy2⟩ := bhy2.lens
    refine wAddDone_ok ((h.pick .n1).pick .n1) hlat bhy2 ha (by first | omega | (dsimp only; omega) | decide) (by first | omega | (dsimp only; omega) | decide) (fun bv4 bΓ5 _ bg7 bp8 h => ?_)
    have hlat := hlat.mono bg7
    have af15 := af15.mono bg7
    have hl := hl.mono bg7
    have bhy2 := bhy2.mono bg7
    refine brF ?_
    refine wrN (i + 1) ?_
    rotate_left
    refine ⟨(riseM l).length - (i + 1), by omega, i + 1, (addM mi last y).1, bv4, true, some y, bΓ5, rfl, by omega, rfl, heq, by omega, g3.trans bg7, bp8, ?_⟩
    rw [show (((i + 1 : Nat)) : Int) = (i : Int) + 1 by omega]
    exact h
  · have hin : i = (riseM l).length := by omega
    rw [hin, List.drop_length, DiskM.addsM] at heq
    rw [heq] at hpr
    dsimp only at hpr
    rw [hpr] at p0 pq pg hci
    clear hpr ha0 hag
    have hrd : ((endM mi [114, 117, 110]).1.read [114, 117, 110]).2 = (framesB (riseM l), 0) := by rw [DiskM.quiet_cont pq]; exact hci
    have hl := hl.mono g3
    refine brD (fun cb0 => by exfalso; omega) (fun cb0 => ?_)
    refine joinI ?_
    refine heldS h (.cons .n0 (.cons .n0 (.cons .n0 (.cons .n0 .nil)))) ?_
    refine dr h fun _ h => ?_
    refine ⟨h.sxs (.cons .n0 (.cons .n0 (.cons .n0 (.cons .n0 .nil)))) (.refl _), ?_⟩
    refine wEnd_ok ((h.pick .n1).pick .n1) (by first | omega | (dsimp only; omega) | decide) (fun _ h => ?_)
    refine heldS h (.cons .n0 (.cons .n0 (.cons .n0 (.cons .n0 .nil)))) ?_
    refine ⟨h.sxs (.cons .n0 (.cons .n0 (.cons .n0 (.cons .n0 .nil)))) (.refl _), ?_⟩
    refine brN (fun cb4 => by exfalso; omega) (fun cb4 => ?_)
    refine ldH _ .n2 ?_
    refine wMany_ok h (fun _ h => ?_)
    refine ⟨h.sxs (.cons .n0 (.cons .n0 (.cons .n0 (.cons .n0 .nil)))) (.refl _), ?_⟩
    refine brN (fun cb8 => by exfalso; omega) (fun cb8 => ?_)
    refine dReadQuietIs_ok (h.pick .n1) pq hrd (by first | omega | (dsimp only; omega) | decide) (fun cv10 cΓ11 _ cg13 cf14 h => ?_)
    have hlat := hlat.mono cg13
    have af15 := af15.mono cg13
    have hl := hl.mono cg13
    obtain ⟨lcf14, mcf14, ccf14⟩ := cf14.lens
    refine new h fun cr16 _ h => ?_
    have h := h.asA (B := blk cr16 (.cells #[Value.slice none 0 0] 43 (0, 0))) (by kernel_rfl)
    refine allR_ok h cf14 (fun cv18 cΓ19 _ cg21 h => ?_)
    have cf14 := cf14.mono cg21
    have hlat := hlat.mono cg21
    have af15 := af15.mono cg21
    have hl := hl.mono cg21
    rotate_left
    have hs := all_seq (sb := cv18) (s := cv10) hfl
    rw [hal] at hs
    refine rangeSeq (Γ := cΓ19) hs (QB cr16 ar17 av11 (riseM l)) (fun _ _ => HP.also False HP.emp) ((Sat.qb.2 ⟨⟨none, 0, 0⟩, (((h.olNil (E := eBytes) (T := 32)).pick (A := blk ar17 _) .n5).pick (A := OL eBytes _ ⟨none, 0, 0⟩ []) .n1).pick (A := blk cr16 _) .n3⟩).pick .n1) ?_ ?_ ?_
    · clear h
      intro j x ln lo svs Γ5 M w5 K' hx hg he hq k1 k2
      obtain ⟨t, rfl, ht⟩ := he
      rw [List.getElem?_map] at hx
      obtain ⟨y, ey⟩ : ∃ y, (riseM l)[j]? = some y := by
        cases e : (riseM l)[j]? with
        | none => rw [e] at hx; cases hx
        | some y => exact ⟨y, rfl⟩
      rw [ey] at hx
      cases hx
      have ht : Bytes Γ5 t y := ht
      obtain ⟨out, h⟩ := Sat.qb.1 (hq.pick .n1)
      have hjl := (List.getElem?_eq_some_iff.1 ey).1
      have hol : out.len = j := by
        have := h.olLen .n1
        rw [List.length_take] at this
        omega
      have htk : (riseM l).take (j + 1) = (riseM l).take j ++ [y] := by rw [List.take_add_one, ey]; rfl
      have cf14 := cf14.mono hg
      have hlat := hlat.mono hg
      have af15 := af15.mono hg
      have hl := hl.mono hg
      obtain ⟨lht, mht, cht⟩ := ht.lens
      refine turn h .n3 fun _ h => ?_
      refine joinI ?_
      refine brF ?_
      refine ld _ h .n1 ?_
      refine ld _ h .n3 ?_
      refine brD (fun db0 => by exfalso; omega) (fun db0 => ?_)
      refine ld _ h .n1 ?_
      refine new h fun dr1 _ h => ?_
      have h := h.asA (B := blk dr1 (.cells #[Value.slice t.p t.len t.cap] 32 (0, 0))) (by kernel_rfl)
      refine app1 _ _ slSlice h .n2 ht (fun ds2 _ dl2 h => ?_)
      refine st h .n2 fun _ h => ?_
      have h := h.asA (B := blk cr16 (.cells #[Value.slice ds2.p ds2.len ds2.cap] 43 (0, 0))) (by kernel_rfl)
      rotate_left
      rw [← htk] at h
      exact k1 Γ5 _ (.refl _) ((Sat.qb.2 ⟨ds2, (((h.pick (A := blk ar17 _) .n3).pick (A := OL eBytes _ ds2 _) .n2).pick (A := blk cr16 _) .n2)⟩).pick .n1)
    · clear h
      intro d Γ5 w5 hg hq
      obtain ⟨out, h⟩ := Sat.qb.1 (hq.pick .n2)
      rw [List.length_map, List.take_length] at h
      have af15 := af15.mono hg
      have cf14 := cf14.mono hg
      have hlat := hlat.mono hg
      have hl := hl.mono hg
      refine brT ?_
      refine brT ?_
      refine ld _ h .n0 ?_
      refine ld _ h .n2 ?_
      obtain ⟨eΓ0, eg0, ef0, h⟩ := h.olFreeze .n1 (by have hol := h.olLen .n1; first | omega | (dsimp only; omega) | (simp at hol; omega))
      have af15 := af15.mono eg0
      have cf14 := cf14.mono eg0
      have hlat := hlat.mono eg0
      have hl := hl.mono eg0
      obtain ⟨lef0, mef0, cef0⟩ := ef0.lens
      refine rsame_ok h ef0 af15 (by first | omega | rfl | (dsimp only; omega)) (fun _ h => ?_)
      refine st h .n6 fun _ h => ?_
      have h := h.asA (B := blk ar0 (.cells #[Value.bool true] 4 (0, 0))) (by kernel_rfl)
      refine turn h .n3 fun _ h => ?_
      refine ld _ h .n1 ?_
      refine ⟨_, rfl, ?_⟩
      refine k _ _ (ag4.trans (ag14.trans (g3.trans (cg13.trans (cg21.trans (hg.trans eg0)))))) h.drop.drop.drop.drop.drop.drop.drop
    · intro d j wy Γ5 w5 hne hj hg hq
      exact ((Sat.also.1 (hq.pick .n2)).1).elim

theorem runBack_walk {H : Type} {enc : TypeId × Value → H} {W : World} {base : Nat} {vs : List Value} {ds : List (DataW H)} {ps : List MemPlace} (hok : ∀ (j : Nat) (t : TypeId) (v : Value), [43][j]? = some t → vs[j]? = some v → Value.okWide Try.prog W .any base t v)
    (hA : DataW.TrodAll enc Try.prog W 0 (fun _ => true) true [43] vs ds ps) : CallP Try.prog 11 vs (.one (.s .bool)) (fun b w' => b = true ∧ Kept W w') W := by
  obtain ⟨v0, vs0, d0, ds0, p0, q0, rfl, rfl, rfl, h0, r0⟩ := trodAll_cons hA
  obtain ⟨rfl, rfl, rfl⟩ := trodAll_nil r0
  obtain ⟨y0, x0, e0, f0⟩ := argS rBB (hok 0 _ _ rfl rfl) h0
  cases e0
  exact law_walk fun k => law_rback (Sat.start W) f0 k

theorem runBack_lifted (os : Os) (started : os.Started) (H : Type) (enc : TypeId × Value → H) :
    ReturnsInHanded {} Try.checked os 11 .any (Rows.runBackSpec.pre6 enc Try.prog Try.f11 Rows.runBackRow.domain false) (Rows.runBackSpec.post enc Try.prog Try.f11 false true false false) := by
  have e : Try.f11.params.toList = [43] := by kernel_rfl
  refine law_lifted (s := Rows.runBackSpec) started Try.func11 (by kernel_rfl) rfl (fun ds h => ?_) (by kernel_rfl) (fun t ht => ?_)
    (ChangeSpec.witness6 (enc := enc) (C := Try.checked) false ⟨#[], #[.slice none 0 0], []⟩ 8 (by kernel_rfl) (by kernel_rfl) (by kernel_rfl) (by kernel_rfl)) fun W base vs ds ps hok hA => ?_
  · have hl : ds.length = 1 := h
    match ds, hl with
    | [_], _ => rfl
  · rw [e] at ht
    have hall : ([43].all fun t => Try.prog.readableRec t && decide (t < Try.prog.types.size)) = true := by kernel_rfl
    simpa using List.all_eq_true.1 hall t ht
  · rw [e] at hA hok
    exact runBack_walk hok hA

theorem runBack_facts : joinedFacts Try.pinned.checked.prog 11 Try.f11 Rows.runBackSpec Rows.runBackRow = true := by
  show joinedFacts Try.prog 11 Try.f11 Rows.runBackSpec Rows.runBackRow = true
  unfold joinedFacts
  rw [make_, enter_, lifts_]
  kernel_rfl

theorem RunBack_holds : Rows.RunBackSaid :=
  OpenClaim.holds_of_wide 11 Try.f11 rfl rfl rfl rfl rfl rfl rfl ⟨rfl, rfl, rfl, rfl, rfl⟩ rfl rfl rfl rfl rfl (by kernel_rfl) Try.func11 runBack_facts
    (of_decide_eq_true (by kernel_rfl)) (by unfold Func.isWrapper; first | (rw [if_pos (by decide +kernel)]; kernel_rfl) | (rw [if_neg (by decide +kernel)]; exact ⟨rfl, rfl⟩))
    (fun os started H enc _ => runBack_lifted os started H enc)


end Go.Proofs.Ytohoimokfgfceaa.K
