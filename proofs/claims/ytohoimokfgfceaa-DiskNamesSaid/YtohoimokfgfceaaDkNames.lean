/-
  DiskNames: names rise, each is of a file that is there; one more is there behind Create, none behind Remove. No condition.
-/
import Derived.Test.YtohoimokfgfceaaDkG
import Derived.Test.YtohoimokfgfceaaDkZ
import Derived.Test.YtohoimokfgfceaaDkW
namespace Go.Proofs.Ytohoimokfgfceaa.K
open Go Go.Proofs Go.ChangeShapes Go.WideShapes Go.ChangeAt Go.RowKit
variable {Γ Γ' : Mem} {L L' L'' : List HP} {w w' : World} {A B : HP}
set_option maxRecDepth 100000
set_option maxHeartbeats 4000000

/-- one more of a row, or not -/
theorem take_mem {s : Str} {l : List Str} {i : Nat} {x : Str} (e : l[i]? = some x) : (s ∈ l.take (i + 1)) ↔ (s ∈ l.take i ∨ x = s) := by
  rw [List.take_add_one, e]
  simp only [List.mem_append, Option.toList_some, List.mem_singleton]
  exact or_congr .rfl eq_comm

theorem is_next {is : Bool} {s : Str} {l : List Str} {i : Nat} {x : Str} (his : is = decide (s ∈ l.take i)) (e : l[i]? = some x) :
    (is = true → true = decide (s ∈ l.take (i + 1))) ∧ (is = false → ((str x).toList == (str s).toList) = decide (s ∈ l.take (i + 1))) := by
  have ht := take_mem (s := s) e
  refine ⟨fun h => (decide_eq_true (ht.2 (.inl (of_decide_eq_true (his.symm.trans h))))).symm, fun h => ?_⟩
  have hn : s ∉ l.take i := of_decide_eq_false (his.symm.trans h)
  rw [str_toList, str_toList]
  by_cases hx : x = s
  · rw [decide_eq_true (ht.2 (.inr hx))]; simpa using hx
  · rw [decide_eq_false (fun h => (ht.1 h).elim hn hx)]; simpa using hx

theorem law_names {r : Int} {s : Sl} {l : List ActM} {t : Str} {K : Bool → World → Prop} (h : Sat Γ L w) (hl : Lst eAct Γ s l) (ht : t.length ≤ 9223372036854775807) (k : ∀ Γ' w', Γ.le Γ' → Sat Γ' L w' → K true w') :
    CallP Try.prog 15 [.int .i64 r, .slice s.p s.len s.cap, .string (str t)] (.one (.s .bool)) K w := by
  refine callP (fn := Try.f15) [.s (.int .i64 r), .s (.sl s), .s (.str (str t))] (.p .n (.p .n (.p .n (.p .n (.p (.p .n (.b (.l [32, 31, 8, 2, 7] [(33, .s (.int .i64))] (.p .n (.p .n (.p (.k [33, 32, 31, 8, 2, 7] [] .n) .n)))))) (.p .n (.p .n (.p (.p .n (.b (.l [51, 50, 12, 11, 8, 2, 7] [(13, .s .bool), (52, .s (.int .i64))] (.p .n (.p .n (.p (.k [52, 51, 50, 12, 11, 8, 2, 7] [(13, .s .bool)] (.p .n (.j [13, 15, 52, 51, 50, 12, 11, 8, 2, 7] [] .n .n))) .n)))))) (.p .n (.p .n (.j [12, 20, 13, 18, 19, 11, 8, 2, 7] [(21, .s .bool)] .n (.j [8, 2, 7, 21] [] .n .n)))))))))))) nong mixed (by kernel_rfl) (by kernel_rfl) rfl rfl ?_
  have hfl := fewA_len l
  obtain ⟨lhl, mhl, chl⟩ := hl.lens
  refine shown_ok h (fun aΓ1 _ ag3 h => ?_)
  have hl := hl.mono ag3
  refine dNew_ok h (fun av6 _ h => ?_)
  refine brF ?_
  refine fewA_ok h hl (fun av10 aΓ11 _ ag13 af14 h => ?_)
  have hl := hl.mono ag13
  obtain ⟨laf14, maf14, caf14⟩ := af14.lens
  rotate_left
  refine loop (σ := Int) (fun st w' n => ∃ (i : Nat) (m : DiskM) (Γ' : Mem), st = (i : Int) ∧ i ≤ (fewA l).length ∧ n = (fewA l).length - i ∧ Wf m ∧ quiet m ∧ m.g ≤ 100 * i ∧ aΓ11.le Γ' ∧ Sat Γ' (PDisk av6 m :: L) w') (fewA l).length
    ⟨0, .new r, aΓ11, rfl, by omega, by omega, .new r, ⟨rfl, rfl⟩, Nat.zero_le _, .refl _, h⟩ ?_
  clear h
  rintro _ w n ⟨i, m, Γ3, rfl, hi, hn, hw, hq, hg, g3, h⟩
  have af15 := af14.mono g3
  by_cases hil : i < (fewA l).length
  · obtain ⟨x, ex⟩ := get_lt hil
    have hx64 := af14.acts x (List.mem_of_getElem? ex)
    have hsx := fewA_small x (List.mem_of_getElem? ex)
    unfold smallA at hsx
    have hw2 := DiskM.act_wf (x := x) hw hx64
    have hg2 := DiskM.act_g (m := m) (x := x)
    have hkl := x.kind.toNat_lt
    by_cases hk : x.kind.toNat % 13 = 10
    · have af14 := af14.mono g3
      have hl := hl.mono g3
      refine brD (fun bb0 => ?_) (fun bb0 => by exfalso; omega)
      refine joinI ?_
      refine ⟨by omega, ?_⟩
      refine nnL h af14 (fun ba1 bha1 => ?_)
      refine ldL h af14 bha1 ex (fun by2 bhy2 => ?_)
      obtain ⟨by2s, by2t, bhy2a, bhy2b, bhy2c, bhy2e⟩ := eAct_after bhy2
      subst bhy2e
      obtain ⟨lbhy2a, mbhy2a, cbhy2a⟩ := bhy2a.lens
      obtain ⟨lbhy2b, mbhy2b, cbhy2b⟩ := bhy2b.lens
      refine new h fun br3 _ h => ?_
      refine stNs h .n0 fun _ h => ?_
      refine ld _ h .n0 ?_
      refine ⟨by omega, ?_⟩
      refine tmd ?_
      refine brN (fun bb4 => by exfalso; omega) (fun bb4 => ?_)
      dsimp only at bb4
      refine wrN (i + 1) ?_
      refine ⟨_, (by first | omega | rfl | (dsimp only; omega)), _, _, _, rfl, (by first | omega | rfl | (dsimp only; omega)), rfl, hw, hq, (by first | omega | rfl | (dsimp only; omega)), g3, h.drop⟩
    · have hq2 := DiskM.act_quiet hq hk
      have af14 := af14.mono g3
      have hl := hl.mono g3
      refine brD (fun cb0 => ?_) (fun cb0 => by exfalso; omega)
      refine joinI ?_
      refine ⟨by omega, ?_⟩
      refine nnL h af14 (fun ca1 cha1 => ?_)
      refine ldL h af14 cha1 ex (fun cy2 chy2 => ?_)
      obtain ⟨cy2s, cy2t, chy2a, chy2b, chy2c, chy2e⟩ := eAct_after chy2
      subst chy2e
      obtain ⟨lchy2a, mchy2a, cchy2a⟩ := chy2a.lens
      obtain ⟨lchy2b, mchy2b, cchy2b⟩ := chy2b.lens
      refine new h fun cr3 _ h => ?_
      refine stNs h .n0 fun _ h => ?_
      refine ld _ h .n0 ?_
      refine ⟨by omega, ?_⟩
      refine tmd ?_
      refine brN (fun cb4 => ?_) (fun cb4 => by exfalso; omega)
      dsimp only at cb4
      refine ldA7 _ _ _ _ _ _ _ h .n0 ?_
      refine actA_ok (h.pick .n1) (by first | omega | decide) chy2a chy2b chy2c (fun cΓ6 _ cg8 h => ?_)
      have af15 := af15.mono cg8
      have af14 := af14.mono cg8
      have hl := hl.mono cg8
      have chy2a := chy2a.mono cg8
      have chy2b := chy2b.mono cg8
      refine wrN (i + 1) ?_
      refine ⟨_, (by first | omega | rfl | (dsimp only; omega)), _, _, _, rfl, (by first | omega | rfl | (dsimp only; omega)), rfl, hw2, hq2, (by first | omega | rfl | (dsimp only; omega)), (g3.trans cg8), (h.pick .n1).drop⟩
  · have hil2 := hil
    have hsort : (m.now.map Prod.fst).Pairwise fun a b => cmpB a b < 0 := by rw [List.pairwise_map]; exact hw.nowOK.sorted
    have hnl := hw.nowLen
    have hnm : (m.now.map Prod.fst).length = m.now.length := List.length_map _
    have hg12 : m.g < 1000000000000 := by omega
    have af14 := af14.mono g3
    have hl := hl.mono g3
    refine brD (fun db0 => by exfalso; omega) (fun db0 => ?_)
    refine dNamesQuiet_ok h hq hg12 (fun dv2 dΓ3 _ dg5 df6 h => ?_)
    have af15 := af15.mono dg5
    have af14 := af14.mono dg5
    have hl := hl.mono dg5
    obtain ⟨ldf6, mdf6, cdf6⟩ := df6.lens
    rotate_left
    refine loop (σ := Bool × Int) (fun st w' n => ∃ (i : Nat) (is : Bool) (Γ' : Mem), st = (is, (i : Int)) ∧ i ≤ (m.now.map Prod.fst).length ∧ n = (m.now.map Prod.fst).length - i ∧ is = decide (t ∈ (m.now.map Prod.fst).take i) ∧ dΓ3.le Γ' ∧ Sat Γ' (PDisk av6 m :: L) w') (m.now.map Prod.fst).length
      ⟨0, false, dΓ3, rfl, by omega, by omega, by simp, .refl _, h⟩ ?_
    clear h
    rintro _ w n ⟨i, is, Γ4, rfl, hi, hn, his, g4, h⟩
    have df7 := df6.mono g4
    by_cases hil : i < (m.now.map Prod.fst).length
    · obtain ⟨x, ex⟩ := get_lt hil
      have hx0 := DiskM.read_there hq (List.mem_of_getElem? ex)
      have htm := take_mem (s := t) ex
      by_cases hi0 : i = 0
      · have df6 := df6.mono g4
        have af15 := af15.mono g4
        have af14 := af14.mono g4
        have hl := hl.mono g4
        refine brD (fun eb0 => ?_) (fun eb0 => ?_)
        dsimp only at eb0
        refine joinI ?_
        refine ⟨by dsimp only; omega, ?_⟩
        refine nnL h df6 (fun ea1 eha1 => ?_)
        dsimp only at eha1
        refine ldL h df6 eha1 ex (fun ey2 ehy2 => ?_)
        have ehy2 : ey2 = str x := ehy2
        subst ehy2
        refine joinI ?_
        refine dReadQuiet_ok h hq hg12 (fun ev4 eΓ5 _ eg7 ef8 h => ?_)
        have df7 := df7.mono eg7
        have df6 := df6.mono eg7
        have af15 := af15.mono eg7
        have af14 := af14.mono eg7
        have hl := hl.mono eg7
        obtain ⟨lef8, mef8, cef8⟩ := ef8.lens
        refine brN (fun eb10 => by exfalso; omega) (fun eb10 => ?_)
        dsimp only at eb10
        refine brD (fun eb11 => by exfalso; omega) (fun eb11 => ?_)
        dsimp only at eb11
        refine brB (fun eb12 => ?_) (fun eb12 => ?_)
        dsimp only at eb12
        refine wrN (i + 1) ?_
        refine ⟨_, (by first | omega | rfl | (dsimp only; omega)), _, _, _, rfl, (by first | omega | rfl | (dsimp only; omega)), rfl, ?_, (g4.trans eg7), h⟩
        rotate_left
        dsimp only at eb12
        refine wrN (i + 1) ?_
        refine ⟨_, (by first | omega | rfl | (dsimp only; omega)), _, _, _, rfl, (by first | omega | rfl | (dsimp only; omega)), rfl, ?_, (g4.trans eg7), h⟩
        rotate_left
        dsimp only at eb0
        refine dCreate_ok h hg12 (fun _ h => ?_)
        refine dNamesQuiet_ok h ?_ (by first | omega | decide) (fun ev17 eΓ18 _ eg20 ef21 h => ?_)
        (exfalso; omega)
        have df7 := df7.mono eg20
        have df6 := df6.mono eg20
        have af15 := af15.mono eg20
        have af14 := af14.mono eg20
        have hl := hl.mono eg20
        obtain ⟨lef21, mef21, cef21⟩ := ef21.lens
        refine joinI ?_
        refine brD (fun eb23 => by exfalso; omega) (fun eb23 => ?_)
        refine joinI ?_
        refine brF ?_
        refine brF ?_
        refine brF ?_
        refine brNot ?_
        refine brKT (by first | (rw [beq_iff_eq, Bool.eq_iff_iff]; simp; done) | (rw [beq_iff_eq, Bool.eq_iff_iff]; simp; omega) | (simp; omega)) ?_
        refine brNot ?_
        refine brKT (by first | (rw [beq_iff_eq, Bool.eq_iff_iff]; simp; done) | (rw [beq_iff_eq, Bool.eq_iff_iff]; simp; omega) | (simp; omega)) ?_
        refine wrN (dv2.len + 1) ?_
        refine brNot ?_
        refine brKT (by first | (rw [beq_iff_eq, Bool.eq_iff_iff]; simp; done) | (rw [beq_iff_eq, Bool.eq_iff_iff]; simp; omega) | (simp; omega)) ?_
        refine dRemove_ok h (by first | omega | decide) (fun _ h => ?_)
        refine dReadQuiet_ok h ?_ (by first | omega | decide) (fun ev34 eΓ35 _ eg37 ef38 h => ?_)
        (exfalso; omega)
        have ef21 := ef21.mono eg37
        have df7 := df7.mono eg37
        have df6 := df6.mono eg37
        have af15 := af15.mono eg37
        have af14 := af14.mono eg37
        have hl := hl.mono eg37
        obtain ⟨lef38, mef38, cef38⟩ := ef38.lens
        refine brT ?_
        refine brKT (by first | (rw [beq_iff_eq, Bool.eq_iff_iff]; simp; done) | (rw [beq_iff_eq, Bool.eq_iff_iff]; simp; omega) | (simp; omega)) ?_
        refine ⟨_, rfl, ?_⟩
        refine kDec (fun eb41 => ?_) (fun eb41 => ?_)
        dsimp only at eb41
        refine k _ _ (ag3.trans (ag13.trans (g3.trans (dg5.trans (g4.trans (eg20.trans eg37)))))) h.drop
        dsimp only at eb41
        (exfalso; omega)
        · exact (is_next his ex).1 (by assumption)
        · exact (is_next his ex).2 (by assumption)
      · obtain ⟨y, ey⟩ := get_lt (xs := m.now.map Prod.fst) (i := i - 1) (by omega)
        have hyx : cmpB y x < 0 := by
          have h1 := List.pairwise_iff_getElem.1 hsort (i - 1) i (by omega) hil (by omega)
          rw [(List.getElem?_eq_some_iff.1 ex).2, (List.getElem?_eq_some_iff.1 ey).2] at h1
          exact h1
        have df6 := df6.mono g4
        have af15 := af15.mono g4
        have af14 := af14.mono g4
        have hl := hl.mono g4
        refine brD (fun gb0 => ?_) (fun gb0 => ?_)
        dsimp only at gb0
        refine joinI ?_
        refine ⟨by dsimp only; omega, ?_⟩
        refine nnL h df6 (fun ga1 gha1 => ?_)
        dsimp only at gha1
        refine ldL h df6 gha1 ex (fun gy2 ghy2 => ?_)
        have ghy2 : gy2 = str x := ghy2
        subst ghy2
        refine joinI ?_
        refine dReadQuiet_ok h hq hg12 (fun gv4 gΓ5 _ gg7 gf8 h => ?_)
        have df7 := df7.mono gg7
        have df6 := df6.mono gg7
        have af15 := af15.mono gg7
        have af14 := af14.mono gg7
        have hl := hl.mono gg7
        obtain ⟨lgf8, mgf8, cgf8⟩ := gf8.lens
        refine brN (fun gb10 => by exfalso; omega) (fun gb10 => ?_)
        dsimp only at gb10
        refine brD (fun gb11 => ?_) (fun gb11 => by exfalso; omega)
        dsimp only at gb11
        refine wrN (i - 1) ?_
        refine ⟨by dsimp only; omega, ?_⟩
        refine ⟨_, gha1, ?_⟩
        refine ldL h df6 gha1 ey (fun gy12 ghy12 => ?_)
        have ghy12 : gy12 = str y := ghy12
        subst ghy12
        refine brNot ?_
        refine brSl (fun gb14 => ?_) (fun gb14 => ?_)
        refine brB (fun gb15 => ?_) (fun gb15 => ?_)
        dsimp only at gb15
        refine wrN (i + 1) ?_
        refine ⟨_, (by first | omega | rfl | (dsimp only; omega)), _, _, _, rfl, (by first | omega | rfl | (dsimp only; omega)), rfl, ?_, (g4.trans gg7), h⟩
        rotate_left
        dsimp only at gb15
        refine wrN (i + 1) ?_
        refine ⟨_, (by first | omega | rfl | (dsimp only; omega)), _, _, _, rfl, (by first | omega | rfl | (dsimp only; omega)), rfl, ?_, (g4.trans gg7), h⟩
        rotate_left
        refine ⟨_, rfl, ?_⟩
        (exfalso; omega)
        dsimp only at gb0
        refine dCreate_ok h hg12 (fun _ h => ?_)
        refine dNamesQuiet_ok h ?_ (by first | omega | decide) (fun gv20 gΓ21 _ gg23 gf24 h => ?_)
        (exfalso; omega)
        have df7 := df7.mono gg23
        have df6 := df6.mono gg23
        have af15 := af15.mono gg23
        have af14 := af14.mono gg23
        have hl := hl.mono gg23
        obtain ⟨lgf24, mgf24, cgf24⟩ := gf24.lens
        refine joinI ?_
        refine brD (fun gb26 => by exfalso; omega) (fun gb26 => ?_)
        refine joinI ?_
        refine brF ?_
        refine brF ?_
        refine brF ?_
        refine brNot ?_
        refine brKT (by first | (rw [beq_iff_eq, Bool.eq_iff_iff]; simp; done) | (rw [beq_iff_eq, Bool.eq_iff_iff]; simp; omega) | (simp; omega)) ?_
        refine brNot ?_
        refine brKT (by first | (rw [beq_iff_eq, Bool.eq_iff_iff]; simp; done) | (rw [beq_iff_eq, Bool.eq_iff_iff]; simp; omega) | (simp; omega)) ?_
        refine wrN (dv2.len + 1) ?_
        refine brNot ?_
        refine brKT (by first | (rw [beq_iff_eq, Bool.eq_iff_iff]; simp; done) | (rw [beq_iff_eq, Bool.eq_iff_iff]; simp; omega) | (simp; omega)) ?_
        refine dRemove_ok h (by first | omega | decide) (fun _ h => ?_)
        refine dReadQuiet_ok h ?_ (by first | omega | decide) (fun gv37 gΓ38 _ gg40 gf41 h => ?_)
        (exfalso; omega)
        have gf24 := gf24.mono gg40
        have df7 := df7.mono gg40
        have df6 := df6.mono gg40
        have af15 := af15.mono gg40
        have af14 := af14.mono gg40
        have hl := hl.mono gg40
        obtain ⟨lgf41, mgf41, cgf41⟩ := gf41.lens
        refine brT ?_
        refine brKT (by first | (rw [beq_iff_eq, Bool.eq_iff_iff]; simp; done) | (rw [beq_iff_eq, Bool.eq_iff_iff]; simp; omega) | (simp; omega)) ?_
        refine ⟨_, rfl, ?_⟩
        refine kDec (fun gb44 => ?_) (fun gb44 => ?_)
        dsimp only at gb44
        refine k _ _ (ag3.trans (ag13.trans (g3.trans (dg5.trans (g4.trans (gg23.trans gg40)))))) h.drop
        dsimp only at gb44
        (exfalso; omega)
        · exact (is_next his ex).1 (by assumption)
        · exact (is_next his ex).2 (by assumption)
    · have hil3 : i = (m.now.map Prod.fst).length := by omega
      rw [hil3, List.take_length] at his
      have hz := str_size t
      by_cases hr : rightN t
      · have hr1 := hr.1
        have hr2 := hr.2
        by_cases hm : t ∈ m.now.map Prod.fst
        · have his1 : is = true := by rw [his]; simpa using hm
          subst his1
          obtain ⟨j, hf⟩ := DiskM.mem_names.1 hm
          have e1 := DiskM.create_there hq.up hr hf
          rw [hq.tick] at e1
          have e2 := DiskM.remove_some hq.up hf
          rw [hq.tick] at e2
          have hq2 : quiet (m.does ⟨t, [], j⟩) := hq
          have e3 : (((m.create t).1.remove t).1.read t).2.2 = 2 := by
            rw [e1]
            dsimp only
            rw [e2]
            have hf2 : findN (m.does ⟨t, [], j⟩).now t = none := by
              show findN (chg m.now ⟨t, [], j⟩) t = none
              rw [findN_chg hw.nowOK.nodup]
              simp
            rw [DiskM.read_none hq2.up hf2]
          have hq1 : quiet (m.create t).1 := by rw [e1]; exact hq
          have hg1 : (m.create t).1.g < 1000000000000 := by rw [e1]; exact hg12
          have hc1 : (m.create t).2 = 4 := by rw [e1]
          have hn1 : ((m.create t).1.now.map Prod.fst).length = (m.now.map Prod.fst).length := by rw [e1]
          have hc2 : ((m.create t).1.remove t).2 = 0 := by rw [e1]; dsimp only; rw [e2]
          have hq3 : quiet ((m.create t).1.remove t).1 := by rw [e1]; dsimp only; rw [e2]; exact hq
          have hg3 : ((m.create t).1.remove t).1.g < 1000000000000 := by rw [e1]; dsimp only; rw [e2]; show m.g + 1 < _; omega
          have df6 := df6.mono g4
          have af15 := af15.mono g4
          have af14 := af14.mono g4
          have hl := hl.mono g4
          refine brD (fun hb0 => ?_) (fun hb0 => ?_)
          dsimp only at hb0
          refine joinI ?_
          refine ⟨by omega, ?_⟩
          refine nnL h df6 (fun ha1 hha1 => ?_)
          dsimp only at hha1
          refine ldL' h df6 hha1 (i := i) (fun hx2 he2 hy2 hhy2 => ?_)
          have hhy2 : hy2 = str hx2 := hhy2
          subst hhy2
          refine joinI ?_
          refine dReadQuiet_ok h hq2 hg12 (fun hv4 hΓ5 _ hg7 hf8 h => ?_)
          have df7 := df7.mono hg7
          have df6 := df6.mono hg7
          have af15 := af15.mono hg7
          have af14 := af14.mono hg7
          have hl := hl.mono hg7
          obtain ⟨lhf8, mhf8, chf8⟩ := hf8.lens
          refine brN (fun hb10 => by exfalso; omega) (fun hb10 => ?_)
          dsimp only at hb10
          refine brD (fun hb11 => by exfalso; omega) (fun hb11 => ?_)
          dsimp only at hb11
          refine brT ?_
          refine wrN (i + 1) ?_
          refine ⟨_, (by first | omega | rfl | (dsimp only; omega)), _, _, _, rfl, (by first | omega | rfl | (dsimp only; omega)), rfl, (by first | omega | rfl | (dsimp only; omega)), (g4.trans hg7), h⟩
          dsimp only at hb0
          refine dCreate_ok h hg12 (fun _ h => ?_)
          refine dNamesQuiet_ok h hq1 hg1 (fun hv16 hΓ17 _ hg19 hf20 h => ?_)
          have df7 := df7.mono hg19
          have df6 := df6.mono hg19
          have af15 := af15.mono hg19
          have af14 := af14.mono hg19
          have hl := hl.mono hg19
          obtain ⟨lhf20, mhf20, chf20⟩ := hf20.lens
          refine joinI ?_
          refine brD (fun hb22 => ?_) (fun hb22 => by exfalso; omega)
          refine joinI ?_
          refine brF ?_
          refine brF ?_
          refine brD (fun hb23 => ?_) (fun hb23 => by exfalso; omega)
          refine brNot ?_
          refine brKT (by first | (rw [beq_iff_eq, Bool.eq_iff_iff]; simp; done) | (rw [beq_iff_eq, Bool.eq_iff_iff]; simp; omega) | (simp; omega)) ?_
          refine brNot ?_
          refine brKT (by first | (rw [beq_iff_eq, Bool.eq_iff_iff]; simp; done) | (rw [beq_iff_eq, Bool.eq_iff_iff]; simp; omega) | (simp; omega)) ?_
          refine wrN (dv2.len + 1) ?_
          refine brNot ?_
          refine brKT (by first | (rw [beq_iff_eq, Bool.eq_iff_iff]; simp; done) | (rw [beq_iff_eq, Bool.eq_iff_iff]; simp; omega) | (simp; omega)) ?_
          refine dRemove_ok h hg1 (fun _ h => ?_)
          refine dReadQuiet_ok h hq3 hg3 (fun hv34 hΓ35 _ hg37 hf38 h => ?_)
          have hf20 := hf20.mono hg37
          have df7 := df7.mono hg37
          have df6 := df6.mono hg37
          have af15 := af15.mono hg37
          have af14 := af14.mono hg37
          have hl := hl.mono hg37
          obtain ⟨lhf38, mhf38, chf38⟩ := hf38.lens
          refine brT ?_
          refine brKT (by first | (rw [beq_iff_eq, Bool.eq_iff_iff]; simp; done) | (rw [beq_iff_eq, Bool.eq_iff_iff]; simp; omega) | (simp; omega)) ?_
          refine ⟨_, rfl, ?_⟩
          refine kDec (fun hb41 => ?_) (fun hb41 => ?_)
          dsimp only at hb41
          refine k _ _ (ag3.trans (ag13.trans (g3.trans (dg5.trans (g4.trans (hg19.trans hg37)))))) h.drop
          dsimp only at hb41
          (exfalso; omega)
        · have his1 : is = false := by rw [his]; simpa using hm
          subst his1
          have hf : findN m.now t = none := by
            cases hf : findN m.now t with
            | none => rfl
            | some j => exact absurd (DiskM.mem_names.2 ⟨j, hf⟩) hm
          have e1 := DiskM.create_new hq.up hr hf
          rw [hq.tick] at e1
          obtain ⟨m1, hm1⟩ : ∃ m1, m1 = (m.create t).1 := ⟨_, rfl⟩
          have hn0 : m1.now = chg m.now ⟨[], t, m.files.length⟩ := by rw [hm1, e1]; rfl
          have hq1 : quiet (m.create t).1 := by rw [e1]; exact hq
          have hg1 : (m.create t).1.g < 1000000000000 := by rw [e1]; show m.g + 1 + 1 < _; omega
          have hc1 : (m.create t).2 = 0 := by rw [e1]
          have hw1 : Wf m1 := by rw [hm1]; exact hw.create t
          have hn1 : ((m.create t).1.now.map Prod.fst).length = (m.now.map Prod.fst).length + 1 := by
            rw [← hm1, hn0, List.length_map, List.length_map]
            exact chg_new hw.nowOK.right hr hf
          have hf1 : findN m1.now t = some m.files.length := by
            rw [hn0, findN_chg hw.nowOK.nodup]
            simp [rightN_ne hr]
          have e2 := DiskM.remove_some (show m1.up = true by rw [hm1]; exact hq1.up) hf1
          rw [show m1.tick = m1 by rw [hm1]; exact hq1.tick, hm1] at e2
          have hc2 : ((m.create t).1.remove t).2 = 0 := by rw [e2]
          have hq3 : quiet ((m.create t).1.remove t).1 := by rw [e2]; exact hq1
          have hg3 : ((m.create t).1.remove t).1.g < 1000000000000 := by rw [e2, e1]; show m.g + 1 + 1 + 1 < _; omega
          have e3 : (((m.create t).1.remove t).1.read t).2.2 = 2 := by
            have hf2 : findN ((m.create t).1.remove t).1.now t = none := by
              rw [e2, ← hm1]
              show findN (chg m1.now ⟨t, [], m.files.length⟩) t = none
              rw [findN_chg hw1.nowOK.nodup]
              simp
            rw [DiskM.read_none hq3.up hf2]
          have df6 := df6.mono g4
          have af15 := af15.mono g4
          have af14 := af14.mono g4
          have hl := hl.mono g4
          refine brD (fun ib0 => ?_) (fun ib0 => ?_)
          dsimp only at ib0
          refine joinI ?_
          refine ⟨by omega, ?_⟩
          refine nnL h df6 (fun ia1 iha1 => ?_)
          dsimp only at iha1
          refine ldL' h df6 iha1 (i := i) (fun ix2 ie2 iy2 ihy2 => ?_)
          have ihy2 : iy2 = str ix2 := ihy2
          subst ihy2
          refine joinI ?_
          refine dReadQuiet_ok h hq hg12 (fun iv4 iΓ5 _ ig7 if8 h => ?_)
          have df7 := df7.mono ig7
          have df6 := df6.mono ig7
          have af15 := af15.mono ig7
          have af14 := af14.mono ig7
          have hl := hl.mono ig7
          obtain ⟨lif8, mif8, cif8⟩ := if8.lens
          refine brN (fun ib10 => by exfalso; omega) (fun ib10 => ?_)
          dsimp only at ib10
          refine brD (fun ib11 => by exfalso; omega) (fun ib11 => ?_)
          dsimp only at ib11
          refine brF ?_
          refine wrN (i + 1) ?_
          refine ⟨_, (by first | omega | rfl | (dsimp only; omega)), _, _, _, rfl, (by first | omega | rfl | (dsimp only; omega)), rfl, (by first | omega | rfl | (dsimp only; omega)), (g4.trans ig7), h⟩
          dsimp only at ib0
          refine dCreate_ok h hg12 (fun _ h => ?_)
          refine dNamesQuiet_ok h hq1 hg1 (fun iv16 iΓ17 _ ig19 if20 h => ?_)
          have df7 := df7.mono ig19
          have df6 := df6.mono ig19
          have af15 := af15.mono ig19
          have af14 := af14.mono ig19
          have hl := hl.mono ig19
          obtain ⟨lif20, mif20, cif20⟩ := if20.lens
          refine joinI ?_
          refine brD (fun ib22 => ?_) (fun ib22 => by exfalso; omega)
          refine joinI ?_
          refine brF ?_
          refine brF ?_
          refine brD (fun ib23 => ?_) (fun ib23 => by exfalso; omega)
          refine brNot ?_
          refine brKT (by first | (rw [beq_iff_eq, Bool.eq_iff_iff]; simp; done) | (rw [beq_iff_eq, Bool.eq_iff_iff]; simp; omega) | (simp; omega)) ?_
          refine brNot ?_
          refine brKT (by first | (rw [beq_iff_eq, Bool.eq_iff_iff]; simp; done) | (rw [beq_iff_eq, Bool.eq_iff_iff]; simp; omega) | (simp; omega)) ?_
          refine wrN (dv2.len + 1) ?_
          refine brNot ?_
          refine brKT (by first | (rw [beq_iff_eq, Bool.eq_iff_iff]; simp; done) | (rw [beq_iff_eq, Bool.eq_iff_iff]; simp; omega) | (simp; omega)) ?_
          refine dRemove_ok h hg1 (fun _ h => ?_)
          refine dReadQuiet_ok h hq3 hg3 (fun iv34 iΓ35 _ ig37 if38 h => ?_)
          have if20 := if20.mono ig37
          have df7 := df7.mono ig37
          have df6 := df6.mono ig37
          have af15 := af15.mono ig37
          have af14 := af14.mono ig37
          have hl := hl.mono ig37
          obtain ⟨lif38, mif38, cif38⟩ := if38.lens
          refine brT ?_
          refine brKT (by first | (rw [beq_iff_eq, Bool.eq_iff_iff]; simp; done) | (rw [beq_iff_eq, Bool.eq_iff_iff]; simp; omega) | (simp; omega)) ?_
          refine ⟨_, rfl, ?_⟩
          refine kDec (fun ib41 => ?_) (fun ib41 => ?_)
          dsimp only at ib41
          refine k _ _ (ag3.trans (ag13.trans (g3.trans (dg5.trans (g4.trans (ig19.trans ig37)))))) h.drop
          dsimp only at ib41
          (exfalso; omega)
      · have hm : t ∉ m.now.map Prod.fst := fun hm => by
          obtain ⟨p, hp, e⟩ := List.mem_map.1 hm
          exact hr (e ▸ hw.nowOK.right p hp)
        have his1 : is = false := by rw [his]; simpa using hm
        subst his1
        have hf : findN m.now t = none := by
          cases hf : findN m.now t with
          | none => rfl
          | some j => exact absurd (DiskM.mem_names.2 ⟨j, hf⟩) hm
        have e1 := DiskM.create_arg hq.up hr
        rw [hq.tick] at e1
        have e2 := DiskM.remove_none hq.up hf
        rw [hq.tick] at e2
        have e3 : (((m.create t).1.remove t).1.read t).2.2 = 2 := by
          rw [e1]; dsimp only; rw [e2]; dsimp only; rw [DiskM.read_none hq.up hf]
        have hq1 : quiet (m.create t).1 := by rw [e1]; exact hq
        have hg1 : (m.create t).1.g < 1000000000000 := by rw [e1]; exact hg12
        have hc1 : (m.create t).2 = 1 := by rw [e1]
        have hn1 : ((m.create t).1.now.map Prod.fst).length = (m.now.map Prod.fst).length := by rw [e1]
        have hc2 : ((m.create t).1.remove t).2 = 2 := by rw [e1]; dsimp only; rw [e2]
        have hq3 : quiet ((m.create t).1.remove t).1 := by rw [e1]; dsimp only; rw [e2]; exact hq
        have hg3 : ((m.create t).1.remove t).1.g < 1000000000000 := by rw [e1]; dsimp only; rw [e2]; exact hg12
        have hr0 : ¬ (1 ≤ t.length ∧ t.length ≤ 32) := hr
        have df6 := df6.mono g4
        have af15 := af15.mono g4
        have af14 := af14.mono g4
        have hl := hl.mono g4
        refine brD (fun jb0 => ?_) (fun jb0 => ?_)
        dsimp only at jb0
        refine joinI ?_
        refine ⟨by omega, ?_⟩
        refine nnL h df6 (fun ja1 jha1 => ?_)
        dsimp only at jha1
        refine ldL' h df6 jha1 (i := i) (fun jx2 je2 jy2 jhy2 => ?_)
        have jhy2 : jy2 = str jx2 := jhy2
        subst jhy2
        refine joinI ?_
        refine dReadQuiet_ok h hq hg12 (fun jv4 jΓ5 _ jg7 jf8 h => ?_)
        have df7 := df7.mono jg7
        have df6 := df6.mono jg7
        have af15 := af15.mono jg7
        have af14 := af14.mono jg7
        have hl := hl.mono jg7
        obtain ⟨ljf8, mjf8, cjf8⟩ := jf8.lens
        refine brN (fun jb10 => by exfalso; omega) (fun jb10 => ?_)
        dsimp only at jb10
        refine brD (fun jb11 => by exfalso; omega) (fun jb11 => ?_)
        dsimp only at jb11
        refine brF ?_
        refine wrN (i + 1) ?_
        refine ⟨_, (by first | omega | rfl | (dsimp only; omega)), _, _, _, rfl, (by first | omega | rfl | (dsimp only; omega)), rfl, (by first | omega | rfl | (dsimp only; omega)), (g4.trans jg7), h⟩
        dsimp only at jb0
        refine dCreate_ok h hg12 (fun _ h => ?_)
        refine dNamesQuiet_ok h hq1 hg1 (fun jv16 jΓ17 _ jg19 jf20 h => ?_)
        have df7 := df7.mono jg19
        have df6 := df6.mono jg19
        have af15 := af15.mono jg19
        have af14 := af14.mono jg19
        have hl := hl.mono jg19
        obtain ⟨ljf20, mjf20, cjf20⟩ := jf20.lens
        refine joinI ?_
        refine brD (fun jb22 => ?_) (fun jb22 => ?_)
        refine joinI ?_
        refine brF ?_
        refine brF ?_
        refine brD (fun jb23 => by exfalso; omega) (fun jb23 => ?_)
        refine brNot ?_
        refine brKT (by first | (rw [beq_iff_eq, Bool.eq_iff_iff]; simp; done) | (rw [beq_iff_eq, Bool.eq_iff_iff]; simp; omega) | (simp; omega)) ?_
        refine brNot ?_
        refine brKT (by first | (rw [beq_iff_eq, Bool.eq_iff_iff]; simp; done) | (rw [beq_iff_eq, Bool.eq_iff_iff]; simp; omega) | (simp; omega)) ?_
        refine wrN (dv2.len + 1) ?_
        refine brNot ?_
        refine brKT (by first | (rw [beq_iff_eq, Bool.eq_iff_iff]; simp; done) | (rw [beq_iff_eq, Bool.eq_iff_iff]; simp; omega) | (simp; omega)) ?_
        refine dRemove_ok h hg1 (fun _ h => ?_)
        refine dReadQuiet_ok h hq3 hg3 (fun jv34 jΓ35 _ jg37 jf38 h => ?_)
        have jf20 := jf20.mono jg37
        have df7 := df7.mono jg37
        have df6 := df6.mono jg37
        have af15 := af15.mono jg37
        have af14 := af14.mono jg37
        have hl := hl.mono jg37
        obtain ⟨ljf38, mjf38, cjf38⟩ := jf38.lens
        refine brT ?_
        refine brKT (by first | (rw [beq_iff_eq, Bool.eq_iff_iff]; simp; done) | (rw [beq_iff_eq, Bool.eq_iff_iff]; simp; omega) | (simp; omega)) ?_
        refine ⟨_, rfl, ?_⟩
        refine kDec (fun jb41 => ?_) (fun jb41 => ?_)
        dsimp only at jb41
        refine k _ _ (ag3.trans (ag13.trans (g3.trans (dg5.trans (g4.trans (jg19.trans jg37)))))) h.drop
        dsimp only at jb41
        (exfalso; omega)
        refine joinI ?_
        refine brF ?_
        refine brF ?_
        refine brF ?_
        refine brNot ?_
        refine brKT (by first | (rw [beq_iff_eq, Bool.eq_iff_iff]; simp; done) | (rw [beq_iff_eq, Bool.eq_iff_iff]; simp; omega) | (simp; omega)) ?_
        refine brNot ?_
        refine brKT (by first | (rw [beq_iff_eq, Bool.eq_iff_iff]; simp; done) | (rw [beq_iff_eq, Bool.eq_iff_iff]; simp; omega) | (simp; omega)) ?_
        refine wrN (dv2.len + 1) ?_
        refine brNot ?_
        refine brKT (by first | (rw [beq_iff_eq, Bool.eq_iff_iff]; simp; done) | (rw [beq_iff_eq, Bool.eq_iff_iff]; simp; omega) | (simp; omega)) ?_
        refine dRemove_ok h hg1 (fun _ h => ?_)
        refine dReadQuiet_ok h hq3 hg3 (fun jv53 jΓ54 _ jg56 jf57 h => ?_)
        have jf20 := jf20.mono jg56
        have df7 := df7.mono jg56
        have df6 := df6.mono jg56
        have af15 := af15.mono jg56
        have af14 := af14.mono jg56
        have hl := hl.mono jg56
        obtain ⟨ljf57, mjf57, cjf57⟩ := jf57.lens
        refine brT ?_
        refine brKT (by first | (rw [beq_iff_eq, Bool.eq_iff_iff]; simp; done) | (rw [beq_iff_eq, Bool.eq_iff_iff]; simp; omega) | (simp; omega)) ?_
        refine ⟨_, rfl, ?_⟩
        refine kDec (fun jb60 => ?_) (fun jb60 => ?_)
        dsimp only at jb60
        refine k _ _ (ag3.trans (ag13.trans (g3.trans (dg5.trans (g4.trans (jg19.trans jg56)))))) h.drop
        dsimp only at jb60
        (exfalso; omega)

theorem diskNames_walk {H : Type} {enc : TypeId × Value → H} {W : World} {base : Nat} {vs : List Value} {ds : List (DataW H)} {ps : List MemPlace} (hok : ∀ (j : Nat) (t : TypeId) (v : Value), [3, 78, 9][j]? = some t → vs[j]? = some v → Value.okWide Try.prog W .any base t v)
    (hA : DataW.TrodAll enc Try.prog W 0 (fun _ => true) true [3, 78, 9] vs ds ps) : CallP Try.prog 15 vs (.one (.s .bool)) (fun b w' => b = true ∧ Kept W w') W := by
  obtain ⟨v0, vs0, d0, ds0, p0, q0, rfl, rfl, rfl, h0, r0⟩ := trodAll_cons hA
  obtain ⟨v1, vs1, d1, ds1, p1, q1, rfl, rfl, rfl, h1, r1⟩ := trodAll_cons r0
  obtain ⟨v2, vs2, d2, ds2, p2, q2, rfl, rfl, rfl, h2, r2⟩ := trodAll_cons r1
  obtain ⟨rfl, rfl, rfl⟩ := trodAll_nil r2
  obtain ⟨r, a, e0, f0⟩ := argS rInt (hok 0 _ _ rfl rfl) h0
  obtain ⟨s, l, e1, f1⟩ := argS rActs (hok 1 _ _ rfl rfl) h1
  obtain ⟨t, b, e2, f2⟩ := argS rStr (hok 2 _ _ rfl rfl) h2
  cases e0
  cases e1
  cases e2
  obtain ⟨f2, f3⟩ := f2
  subst f2
  exact law_walk fun k => law_names (Sat.start W) f1 f3 k

theorem diskNames_lifted (os : Os) (started : os.Started) (H : Type) (enc : TypeId × Value → H) :
    ReturnsInHanded {} Try.checked os 15 .any (Rows.diskNamesSpec.pre6 enc Try.prog Try.f15 Rows.diskNamesRow.domain false) (Rows.diskNamesSpec.post enc Try.prog Try.f15 false true false false) := by
  have e : Try.f15.params.toList = [3, 78, 9] := by kernel_rfl
  refine law_lifted (s := Rows.diskNamesSpec) started Try.func15 (by kernel_rfl) rfl (fun ds h => ?_) (by kernel_rfl) (fun t ht => ?_)
    (ChangeSpec.witness6 (enc := enc) (C := Try.checked) false ⟨#[], #[.int .i64 0, .slice none 0 0, .string (str [])], []⟩ 8 (by kernel_rfl) (by kernel_rfl) (by kernel_rfl) (by kernel_rfl)) fun W base vs ds ps hok hA => ?_
  · have hl : ds.length = 3 := h
    match ds, hl with
    | [_, _, _], _ => rfl
  · rw [e] at ht
    have hall : ([3, 78, 9].all fun t => Try.prog.readableRec t && decide (t < Try.prog.types.size)) = true := by kernel_rfl
    simpa using List.all_eq_true.1 hall t ht
  · rw [e] at hA hok
    exact diskNames_walk hok hA

theorem diskNames_facts : joinedFacts Try.pinned.checked.prog 15 Try.f15 Rows.diskNamesSpec Rows.diskNamesRow = true := by
  show joinedFacts Try.prog 15 Try.f15 Rows.diskNamesSpec Rows.diskNamesRow = true
  unfold joinedFacts
  rw [make_, enter_, lifts_]
  kernel_rfl

theorem DiskNames_holds : Rows.DiskNamesSaid :=
  OpenClaim.holds_of_wide 15 Try.f15 rfl rfl rfl rfl rfl rfl rfl ⟨rfl, rfl, rfl, rfl, rfl⟩ rfl rfl rfl rfl rfl (by kernel_rfl) Try.func15 diskNames_facts
    (of_decide_eq_true (by kernel_rfl)) (by unfold Func.isWrapper; first | (rw [if_pos (by decide +kernel)]; kernel_rfl) | (rw [if_neg (by decide +kernel)]; exact ⟨rfl, rfl⟩))
    (fun os started H enc _ => diskNames_lifted os started H enc)


end Go.Proofs.Ytohoimokfgfceaa.K
