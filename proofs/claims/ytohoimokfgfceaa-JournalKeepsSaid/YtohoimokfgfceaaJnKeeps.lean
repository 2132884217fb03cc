/-
  JournalKeeps: what was noted with OK is told, in order, whatever crashes come. No condition.
-/
import Derived.Test.YtohoimokfgfceaaJnC
namespace Go.Proofs.Ytohoimokfgfceaa.K
open Go Go.Proofs Go.ChangeShapes Go.WideShapes Go.ChangeAt Go.RowKit
variable {Γ Γ' : Mem} {L L' L'' : List HP} {w w' : World} {A B : HP}
set_option maxRecDepth 100000
set_option maxHeartbeats 4000000

theorem Lst.actsJ {s : Sl} {l : List ActJ} (h : Lst eActJ Γ s l) : ∀ x ∈ l, i64B x.n := fun x hx => by
  obtain ⟨ys, _, h2⟩ := h
  obtain ⟨i, hi⟩ := List.mem_iff_getElem?.1 hx
  obtain ⟨y, _, hr⟩ := h2.get hi
  exact hr.2.1

theorem law_jkeeps {r : Int} {s : Sl} {l : List ActJ} {K : Bool → World → Prop} (h : Sat Γ L w) (hl : Lst eActJ Γ s l) (k : ∀ Γ' w', Γ.le Γ' → Sat Γ' L w' → K true w') :
    CallP Try.prog 30 [.int .i64 r, .slice s.p s.len s.cap] (.one (.s .bool)) K w := by
  refine callP (fn := Try.f30) [.s (.int .i64 r), .s (.sl s)] (.p .n (.p .n (.p .n (.p .n (.p .n (.p (.p .n (.k [5] [] (.l [21, 6, 20, 5] [(7, .s .sl), (22, .s (.int .i64))] (.p .n (.p .n (.p (.b (.p .n (.p .n (.p .n (.p .n (.p .n (.p .n (.p .n (.j [12, 10, 11, 22, 21, 7, 6, 20, 5] [(13, .s .sl)] (.t (.n 1 (.n 3 (.n 4 (.o (.n 0 (.o (.n 2 (.n 5 (.n 6 (.n 7 .e)))) (.n 5 (.n 2 (.n 6 (.n 7 .e)))))) (.n 5 (.n 0 (.n 2 (.n 6 (.n 7 .e))))))))) [6]) (.k [22, 21, 6, 20, 5] [(7, .s .sl)] .n)))))))))) .n)))))) .n)))))) nong mixed (by kernel_rfl) (by kernel_rfl) rfl rfl ?_
  have hfl := fewJ_len l
  have hqn : quiet (.new r) := ⟨rfl, rfl⟩
  obtain ⟨lhl, mhl, chl⟩ := hl.lens
  refine shownJ_ok h (fun aΓ1 _ ag3 h => ?_)
  have hl := hl.mono ag3
  refine dNew_ok h (fun av6 _ h => ?_)
  refine brF ?_
  refine fewJ_ok h hl (fun av10 aΓ11 _ ag13 af14 h => ?_)
  have hl := hl.mono ag13
  obtain ⟨laf14, maf14, caf14⟩ := af14.lens
  refine joinI ?_
  rotate_left
  refine loop (σ := Sl × Int) (fun st w' n => ∃ (o : Sl) (i : Nat) (m : DiskM) (inn : List Str) (Γ' : Mem), st = (o, (i : Int)) ∧ i ≤ (fewJ l).length ∧ n = (fewJ l).length - i ∧ DiskM.Jn inn m ∧ inn.length ≤ i ∧ i ≤ 30 ∧ m.g ≤ 1000000 * i ∧ aΓ11.le Γ' ∧ Lst eBytes Γ' o inn ∧
      Sat Γ' (PDisk av6 m :: L) w') (fewJ l).length
    ⟨⟨none, 0, 0⟩, 0, .new r, [], aΓ11, rfl, by omega, by omega, DiskM.jn_new r, Nat.le_refl _, by omega, Nat.zero_le _, .refl _, .nil _ _, h⟩ ?_
  clear h
  rintro _ w n ⟨o, i, m, inn, Γ3, rfl, hi, hn, hJ, hli, hi30, hg, g3, ho, h⟩
  have af14 := af14.mono g3
  by_cases hil : i < (fewJ l).length
  · obtain ⟨x, ex⟩ := get_lt hil
    obtain ⟨hx1, hx2⟩ := fewJ_small x (List.mem_of_getElem? ex)
    by_cases h30 : i < 30
    · have hx64 := af14.actsJ x (List.mem_of_getElem? ex)
      unfold i64B at hx64
      have hd0 : (m.doom (max x.n 0)).2 = 0 := by rw [DiskM.doom_at hJ.q (by omega)]
      have hgd := doom_g m (max x.n 0)
      have hga := (DiskM.add_step x.b (by omega)).g (m.doom (max x.n 0)).1
      have hgc : ((addJ (m.doom (max x.n 0)).1 x.b).1.crash x.wn x.wb).g = (addJ (m.doom (max x.n 0)).1 x.b).1.g := rfl
      obtain ⟨m2, out, f, e0, hg2, hcase⟩ := DiskM.jn_step (n := x.wn) (wb := x.wb) (b := x.b) (d := max x.n 0) hJ (by omega) hx1 (by omega)
      have e1 : (openJ ((addJ (m.doom (max x.n 0)).1 x.b).1.crash x.wn x.wb)).1 = m2 := by rw [e0]
      have e2 : (openJ ((addJ (m.doom (max x.n 0)).1 x.b).1.crash x.wn x.wb)).2.1 = out := by rw [e0]
      have e3 : (openJ ((addJ (m.doom (max x.n 0)).1 x.b).1.crash x.wn x.wb)).2.2 = f := by rw [e0]
      have hm2 : m2.g ≤ 1000000 * (i + 1) := by omega
      clear e0
      rcases hcase with rfl | ⟨rfl, ⟨rfl, hJ2⟩ | ⟨rfl, hne, hJ2⟩⟩
      · have hl := hl.mono g3
        obtain ⟨lho, mho, cho⟩ := ho.lens
        refine brD (fun bb0 => ?_) (fun bb0 => by exfalso; omega)
        dsimp only at bb0
        refine ⟨by omega, ?_⟩
        refine nnL h af14 (fun ba1 bha1 => ?_)
        refine ldL h af14 bha1 ex (fun by2 bhy2 => ?_)
        obtain ⟨by2s, by2t, bhy2a, bhy2b, bhy2c, bhy2e⟩ := eActJ_after bhy2
        subst bhy2e
        obtain ⟨lbhy2a, mbhy2a, cbhy2a⟩ := bhy2a.lens
        obtain ⟨lbhy2b, mbhy2b, cbhy2b⟩ := bhy2b.lens
        refine new h fun br3 _ h => ?_
        have h := h.asA (B := blk br3 (.cells #[Value.int IntKind.u8 0, Value.slice none 0 0, Value.int IntKind.i64 0, Value.slice none 0 0, Value.int IntKind.i64 0] 138 (0, 0))) (by kernel_rfl)
        refine stNs h .n0 fun _ h => ?_
        have h := h.asA (B := blk br3 (.cells #[Value.int IntKind.u8 ((↑x.kind.toNat : Int), by2s, x.wn, by2t, x.n).fst, Value.slice ((↑x.kind.toNat : Int), by2s, x.wn, by2t, x.n).snd.fst.p ((↑x.kind.toNat : Int), by2s, x.wn, by2t, x.n).snd.fst.len ((↑x.kind.toNat : Int), by2s, x.wn, by2t, x.n).snd.fst.cap, Value.int IntKind.i64 ((↑x.kind.toNat : Int), by2s, x.wn, by2t, x.n).snd.snd.fst, Value.slice ((↑x.kind.toNat : Int), by2s, x.wn, by2t, x.n).snd.snd.snd.fst.p ((↑x.kind.toNat : Int), by2s, x.wn, by2t, x.n).snd.snd.snd.fst.len ((↑x.kind.toNat : Int), by2s, x.wn, by2t, x.n).snd.snd.snd.fst.cap, Value.int IntKind.i64 ((↑x.kind.toNat : Int), by2s, x.wn, by2t, x.n).snd.snd.snd.snd] 138 (0, 0))) (by kernel_rfl)
        refine brD (fun bb4 => by exfalso; omega) (fun bb4 => ?_)
        dsimp only at bb4
        refine ld _ h .n0 ?_
        refine mxI ?_
        refine dDoom_ok (h.pick .n1) (by first | omega | (dsimp only; omega) | decide) (fun _ h => ?_)
        refine brN (fun bb8 => by exfalso; dsimp only at bb8; omega) (fun bb8 => ?_)
        dsimp only at bb8
        refine ld _ h .n1 ?_
        refine jAdd_ok h bhy2a (by first | omega | (dsimp only; omega) | decide) (fun bΓ10 _ bg12 h => ?_)
        have ho := ho.mono bg12
        have af14 := af14.mono bg12
        have hl := hl.mono bg12
        have bhy2a := bhy2a.mono bg12
        have bhy2b := bhy2b.mono bg12
        refine ldA2 _ _ h .n1 ?_
        refine dCrash_ok h (by first | omega | (dsimp only; omega) | decide) bhy2b (fun _ h => ?_)
        refine brF ?_
        refine jOpen_ok h (by first | omega | (dsimp only; omega) | decide) (fun bv18 bΓ19 _ bg21 bf22 h => ?_)
        have ho := ho.mono bg21
        have af14 := af14.mono bg21
        have hl := hl.mono bg21
        have bhy2a := bhy2a.mono bg21
        have bhy2b := bhy2b.mono bg21
        dsimp only at bf22
        obtain ⟨lbf22, mbf22, cbf22⟩ := bf22.lens
        refine brE (fun bb24 => ?_) (fun bb24 => by exfalso; dsimp only at bb24; omega)
        dsimp only at bb24
        refine ⟨_, rfl, ?_⟩
        refine k _ _ (ag3.trans (ag13.trans (g3.trans (bg12.trans bg21)))) h.drop.drop
      · have hJ3 : DiskM.Jn ([] ++ inn ++ [x.b]) (openJ ((addJ (m.doom (max x.n 0)).1 x.b).1.crash x.wn x.wb)).1 := by rw [e1]; exact hJ2
        have hm3 : (openJ ((addJ (m.doom (max x.n 0)).1 x.b).1.crash x.wn x.wb)).1.g ≤ 1000000 * (i + 1) := by rw [e1]; exact hm2
        have e4 : (openJ ((addJ (m.doom (max x.n 0)).1 x.b).1.crash x.wn x.wb)).2.1 = [] ++ inn ++ [x.b] := e2
        have e5 : ([] ++ inn ++ [x.b]).length = inn.length + 1 := by simp
        have hl := hl.mono g3
        obtain ⟨lho, mho, cho⟩ := ho.lens
        refine brD (fun eb0 => ?_) (fun eb0 => by exfalso; omega)
        dsimp only at eb0
        refine ⟨by omega, ?_⟩
        refine nnL h af14 (fun ea1 eha1 => ?_)
        refine ldL h af14 eha1 ex (fun ey2 ehy2 => ?_)
        obtain ⟨ey2s, ey2t, ehy2a, ehy2b, ehy2c, ehy2e⟩ := eActJ_after ehy2
        subst ehy2e
        obtain ⟨lehy2a, mehy2a, cehy2a⟩ := ehy2a.lens
        obtain ⟨lehy2b, mehy2b, cehy2b⟩ := ehy2b.lens
        refine new h fun er3 _ h => ?_
        have h := h.asA (B := blk er3 (.cells #[Value.int IntKind.u8 0, Value.slice none 0 0, Value.int IntKind.i64 0, Value.slice none 0 0, Value.int IntKind.i64 0] 138 (0, 0))) (by kernel_rfl)
        refine stNs h .n0 fun _ h => ?_
        have h := h.asA (B := blk er3 (.cells #[Value.int IntKind.u8 ((↑x.kind.toNat : Int), ey2s, x.wn, ey2t, x.n).fst, Value.slice ((↑x.kind.toNat : Int), ey2s, x.wn, ey2t, x.n).snd.fst.p ((↑x.kind.toNat : Int), ey2s, x.wn, ey2t, x.n).snd.fst.len ((↑x.kind.toNat : Int), ey2s, x.wn, ey2t, x.n).snd.fst.cap, Value.int IntKind.i64 ((↑x.kind.toNat : Int), ey2s, x.wn, ey2t, x.n).snd.snd.fst, Value.slice ((↑x.kind.toNat : Int), ey2s, x.wn, ey2t, x.n).snd.snd.snd.fst.p ((↑x.kind.toNat : Int), ey2s, x.wn, ey2t, x.n).snd.snd.snd.fst.len ((↑x.kind.toNat : Int), ey2s, x.wn, ey2t, x.n).snd.snd.snd.fst.cap, Value.int IntKind.i64 ((↑x.kind.toNat : Int), ey2s, x.wn, ey2t, x.n).snd.snd.snd.snd] 138 (0, 0))) (by kernel_rfl)
        refine brD (fun eb4 => by exfalso; omega) (fun eb4 => ?_)
        dsimp only at eb4
        refine ld _ h .n0 ?_
        refine mxI ?_
        refine dDoom_ok (h.pick .n1) (by first | omega | (dsimp only; omega) | decide) (fun _ h => ?_)
        refine brN (fun eb8 => by exfalso; dsimp only at eb8; omega) (fun eb8 => ?_)
        dsimp only at eb8
        refine ld _ h .n1 ?_
        refine jAdd_ok h ehy2a (by first | omega | (dsimp only; omega) | decide) (fun eΓ10 _ eg12 h => ?_)
        have ho := ho.mono eg12
        have af14 := af14.mono eg12
        have hl := hl.mono eg12
        have ehy2a := ehy2a.mono eg12
        have ehy2b := ehy2b.mono eg12
        refine ldA2 _ _ h .n1 ?_
        refine dCrash_ok h (by first | omega | (dsimp only; omega) | decide) ehy2b (fun _ h => ?_)
        refine brF ?_
        refine jOpen_ok h (by first | omega | (dsimp only; omega) | decide) (fun ev18 eΓ19 _ eg21 ef22 h => ?_)
        have ho := ho.mono eg21
        have af14 := af14.mono eg21
        have hl := hl.mono eg21
        have ehy2a := ehy2a.mono eg21
        have ehy2b := ehy2b.mono eg21
        dsimp only at ef22
        obtain ⟨lef22, mef22, cef22⟩ := ef22.lens
        refine brE (fun eb24 => by exfalso; dsimp only at eb24; omega) (fun eb24 => ?_)
        dsimp only at eb24
        refine joinI ?_
        refine heldS h (.cons .n0 (.cons .n0 .nil)) ?_
        refine dr h fun _ h => ?_
        refine ⟨h.sxs (.cons .n0 (.cons .n0 .nil)) (.refl _), ?_⟩
        refine ldH _ .n1 ?_
        refine ⟨?_, ?_⟩
        refine new h fun er25 _ h => ?_
        have h := h.asA (B := blk er25 (.cells #[] 32 (0, 0))) (by kernel_rfl)
        refine ⟨h.sxs (.cons .n1 (.cons .n1 .nil)) (.refl _), ?_⟩
        refine ⟨?_, ?_⟩
        have h := (h.pick .n0).olEmpty (E := eBytes)
        refine appL slSlice h .n0 ho (fun es26 _ el26 h => ?_)
        dsimp only at el26
        refine ⟨h.sxs (.cons .n1 (.cons .n1 .nil)) (.refl _), ?_⟩
        refine new h fun er27 _ h => ?_
        have h := h.asA (B := blk er27 (.cells #[Value.slice ((↑x.kind.toNat : Int), ey2s, x.wn, ey2t, x.n).snd.fst.p ((↑x.kind.toNat : Int), ey2s, x.wn, ey2t, x.n).snd.fst.len ((↑x.kind.toNat : Int), ey2s, x.wn, ey2t, x.n).snd.fst.cap] 32 (0, 0))) (by kernel_rfl)
        refine ⟨h.sxs (.cons .n2 (.cons .n2 .nil)) (.refl _), ?_⟩
        refine app1 _ _ slSlice h .n0 ehy2a (fun es28 _ el28 h => ?_)
        refine heldS h (.cons .n0 (.cons .n0 (.cons .n0 .nil))) ?_
        refine ⟨h.sxs (.cons .n0 (.cons .n0 (.cons .n0 .nil))) (.refl _), ?_⟩
        refine joinI ?_
        refine brN (fun eb29 => by exfalso; dsimp only at eb29; omega) (fun eb29 => ?_)
        dsimp only at eb29
        rotate_left
        refine new h fun er30 _ h => ?_
        have h := h.asA (B := blk er30 (.cells #[Value.slice ((↑x.kind.toNat : Int), ey2s, x.wn, ey2t, x.n).snd.fst.p ((↑x.kind.toNat : Int), ey2s, x.wn, ey2t, x.n).snd.fst.len ((↑x.kind.toNat : Int), ey2s, x.wn, ey2t, x.n).snd.fst.cap] 32 (0, 0))) (by kernel_rfl)
        refine ⟨h.sxs (.cons .n2 (.cons .n2 .nil)) (.refl _), ?_⟩
        have h := (h.pick .n1).olEmpty (E := eBytes)
        refine appL slSlice h .n0 ho (fun es31 _ el31 h => ?_)
        dsimp only at el31
        refine ⟨h.sxs (.cons .n2 (.cons .n2 .nil)) (.refl _), ?_⟩
        rotate_left
        refine new h fun er33 _ h => ?_
        have h := h.asA (B := blk er33 (.cells #[Value.slice ((↑x.kind.toNat : Int), ey2s, x.wn, ey2t, x.n).snd.fst.p ((↑x.kind.toNat : Int), ey2s, x.wn, ey2t, x.n).snd.fst.len ((↑x.kind.toNat : Int), ey2s, x.wn, ey2t, x.n).snd.fst.cap] 32 (0, 0))) (by kernel_rfl)
        refine ⟨h.sxs (.cons .n1 (.cons .n1 .nil)) (.refl _), ?_⟩
        refine new h fun er34 _ h => ?_
        have h := h.asA (B := blk er34 (.cells #[] 32 (0, 0))) (by kernel_rfl)
        refine ⟨h.sxs (.cons .n2 (.cons .n2 .nil)) (.refl _), ?_⟩
        have h := (h.pick .n0).olEmpty (E := eBytes)
        refine appL slSlice h .n0 ho (fun es35 _ el35 h => ?_)
        dsimp only at el35
        refine ⟨h.sxs (.cons .n2 (.cons .n2 .nil)) (.refl _), ?_⟩
        rotate_left
        · have hol2 := h.olLen .n0
          obtain ⟨Γ2, g2, f2, h⟩ := h.olFreeze .n0 (by rw [hol2, e5]; omega)
          have ef22 := ef22.mono g2
          have ho := ho.mono g2
          have af14 := af14.mono g2
          have hl := hl.mono g2
          have ehy2a := ehy2a.mono g2
          have ehy2b := ehy2b.mono g2
          refine rsame_ok h ef22 f2 e4 (fun _ h => ?_)
          refine brT ?_
          refine wrN (i + 1) ?_
          rotate_left
          exact ⟨(fewJ l).length - (i + 1), by omega, _, i + 1, _, _, Γ2, rfl, by omega, rfl, hJ3, by omega, by omega, hm3, g3.trans (eg12.trans (eg21.trans g2)), f2, (h.pick .n1).drop⟩
        · have h := h.pick .n1
          refine app1 _ _ slSlice h .n0 ehy2a (fun es0 _ el0 h => ?_)
          refine heldS h (.cons .n0 (.cons .n0 (.cons .n0 .nil))) ?_
          refine ⟨h.sxs (.cons .n0 (.cons .n0 (.cons .n0 .nil))) (.refl _), ?_⟩
          refine joinI ?_
          refine brN (fun eb1 => by exfalso; dsimp only at eb1; omega) (fun eb1 => ?_)
          dsimp only at eb1
          rotate_left
          have hol2 := h.olLen .n0
          obtain ⟨Γ2, g2, f2, h⟩ := h.olFreeze .n0 (by rw [hol2, e5]; omega)
          have ef22 := ef22.mono g2
          have ho := ho.mono g2
          have af14 := af14.mono g2
          have hl := hl.mono g2
          have ehy2a := ehy2a.mono g2
          have ehy2b := ehy2b.mono g2
          refine rsame_ok h ef22 f2 e4 (fun _ h => ?_)
          refine brT ?_
          refine wrN (i + 1) ?_
          rotate_left
          exact ⟨(fewJ l).length - (i + 1), by omega, _, i + 1, _, _, Γ2, rfl, by omega, rfl, hJ3, by omega, by omega, hm3, g3.trans (eg12.trans (eg21.trans g2)), f2, (h.pick .n1).drop⟩
        · have h := h.pick .n1
          refine app1 _ _ slSlice h .n0 ehy2a (fun es0 _ el0 h => ?_)
          refine heldS h (.cons .n0 (.cons .n0 (.cons .n0 .nil))) ?_
          refine ⟨h.sxs (.cons .n0 (.cons .n0 (.cons .n0 .nil))) (.refl _), ?_⟩
          refine joinI ?_
          refine brN (fun eb1 => by exfalso; dsimp only at eb1; omega) (fun eb1 => ?_)
          dsimp only at eb1
          rotate_left
          have hol2 := h.olLen .n0
          obtain ⟨Γ2, g2, f2, h⟩ := h.olFreeze .n0 (by rw [hol2, e5]; omega)
          have ef22 := ef22.mono g2
          have ho := ho.mono g2
          have af14 := af14.mono g2
          have hl := hl.mono g2
          have ehy2a := ehy2a.mono g2
          have ehy2b := ehy2b.mono g2
          refine rsame_ok h ef22 f2 e4 (fun _ h => ?_)
          refine brT ?_
          refine wrN (i + 1) ?_
          rotate_left
          exact ⟨(fewJ l).length - (i + 1), by omega, _, i + 1, _, _, Γ2, rfl, by omega, rfl, hJ3, by omega, by omega, hm3, g3.trans (eg12.trans (eg21.trans g2)), f2, (h.pick .n1).drop⟩
      · have hJ3 : DiskM.Jn out (openJ ((addJ (m.doom (max x.n 0)).1 x.b).1.crash x.wn x.wb)).1 := by rw [e1]; exact hJ2
        have hm3 : (openJ ((addJ (m.doom (max x.n 0)).1 x.b).1.crash x.wn x.wb)).1.g ≤ 1000000 * (i + 1) := by rw [e1]; exact hm2
        have e5 : ([] ++ out ++ [x.b]).length = out.length + 1 := by simp
        have e6 : (openJ ((addJ (m.doom (max x.n 0)).1 x.b).1.crash x.wn x.wb)).2.1.length = out.length := by rw [e2]
        have hl := hl.mono g3
        obtain ⟨lho, mho, cho⟩ := ho.lens
        refine brD (fun fb0 => ?_) (fun fb0 => by exfalso; omega)
        dsimp only at fb0
        refine ⟨by omega, ?_⟩
        refine nnL h af14 (fun fa1 fha1 => ?_)
        refine ldL h af14 fha1 ex (fun fy2 fhy2 => ?_)
        obtain ⟨fy2s, fy2t, fhy2a, fhy2b, fhy2c, fhy2e⟩ := eActJ_after fhy2
        subst fhy2e
        obtain ⟨lfhy2a, mfhy2a, cfhy2a⟩ := fhy2a.lens
        obtain ⟨lfhy2b, mfhy2b, cfhy2b⟩ := fhy2b.lens
        refine new h fun fr3 _ h => ?_
        have h := h.asA (B := blk fr3 (.cells #[Value.int IntKind.u8 0, Value.slice none 0 0, Value.int IntKind.i64 0, Value.slice none 0 0, Value.int IntKind.i64 0] 138 (0, 0))) (by kernel_rfl)
        refine stNs h .n0 fun _ h => ?_
        have h := h.asA (B := blk fr3 (.cells #[Value.int IntKind.u8 ((↑x.kind.toNat : Int), fy2s, x.wn, fy2t, x.n).fst, Value.slice ((↑x.kind.toNat : Int), fy2s, x.wn, fy2t, x.n).snd.fst.p ((↑x.kind.toNat : Int), fy2s, x.wn, fy2t, x.n).snd.fst.len ((↑x.kind.toNat : Int), fy2s, x.wn, fy2t, x.n).snd.fst.cap, Value.int IntKind.i64 ((↑x.kind.toNat : Int), fy2s, x.wn, fy2t, x.n).snd.snd.fst, Value.slice ((↑x.kind.toNat : Int), fy2s, x.wn, fy2t, x.n).snd.snd.snd.fst.p ((↑x.kind.toNat : Int), fy2s, x.wn, fy2t, x.n).snd.snd.snd.fst.len ((↑x.kind.toNat : Int), fy2s, x.wn, fy2t, x.n).snd.snd.snd.fst.cap, Value.int IntKind.i64 ((↑x.kind.toNat : Int), fy2s, x.wn, fy2t, x.n).snd.snd.snd.snd] 138 (0, 0))) (by kernel_rfl)
        refine brD (fun fb4 => by exfalso; omega) (fun fb4 => ?_)
        dsimp only at fb4
        refine ld _ h .n0 ?_
        refine mxI ?_
        refine dDoom_ok (h.pick .n1) (by first | omega | (dsimp only; omega) | decide) (fun _ h => ?_)
        refine brN (fun fb8 => by exfalso; dsimp only at fb8; omega) (fun fb8 => ?_)
        dsimp only at fb8
        refine ld _ h .n1 ?_
        refine jAdd_ok h fhy2a (by first | omega | (dsimp only; omega) | decide) (fun fΓ10 _ fg12 h => ?_)
        have af14 := af14.mono fg12
        have ho := ho.mono fg12
        have hl := hl.mono fg12
        have fhy2a := fhy2a.mono fg12
        have fhy2b := fhy2b.mono fg12
        refine ldA2 _ _ h .n1 ?_
        refine dCrash_ok h (by first | omega | (dsimp only; omega) | decide) fhy2b (fun _ h => ?_)
        refine brF ?_
        refine jOpen_ok h (by first | omega | (dsimp only; omega) | decide) (fun fv18 fΓ19 _ fg21 ff22 h => ?_)
        have af14 := af14.mono fg21
        have ho := ho.mono fg21
        have hl := hl.mono fg21
        have fhy2a := fhy2a.mono fg21
        have fhy2b := fhy2b.mono fg21
        dsimp only at ff22
        obtain ⟨lff22, mff22, cff22⟩ := ff22.lens
        refine brE (fun fb24 => by exfalso; dsimp only at fb24; omega) (fun fb24 => ?_)
        dsimp only at fb24
        refine joinI ?_
        refine heldS h (.cons .n0 (.cons .n0 .nil)) ?_
        refine dr h fun _ h => ?_
        refine ⟨h.sxs (.cons .n0 (.cons .n0 .nil)) (.refl _), ?_⟩
        refine ldH _ .n1 ?_
        refine ⟨?_, ?_⟩
        refine new h fun fr25 _ h => ?_
        have h := h.asA (B := blk fr25 (.cells #[] 32 (0, 0))) (by kernel_rfl)
        refine ⟨h.sxs (.cons .n1 (.cons .n1 .nil)) (.refl _), ?_⟩
        refine ⟨?_, ?_⟩
        have h := (h.pick .n0).olEmpty (E := eBytes)
        refine appL slSlice h .n0 ho (fun fs26 _ fl26 h => ?_)
        dsimp only at fl26
        refine ⟨h.sxs (.cons .n1 (.cons .n1 .nil)) (.refl _), ?_⟩
        refine new h fun fr27 _ h => ?_
        have h := h.asA (B := blk fr27 (.cells #[Value.slice ((↑x.kind.toNat : Int), fy2s, x.wn, fy2t, x.n).snd.fst.p ((↑x.kind.toNat : Int), fy2s, x.wn, fy2t, x.n).snd.fst.len ((↑x.kind.toNat : Int), fy2s, x.wn, fy2t, x.n).snd.fst.cap] 32 (0, 0))) (by kernel_rfl)
        refine ⟨h.sxs (.cons .n2 (.cons .n2 .nil)) (.refl _), ?_⟩
        refine app1 _ _ slSlice h .n0 fhy2a (fun fs28 _ fl28 h => ?_)
        refine heldS h (.cons .n0 (.cons .n0 (.cons .n0 .nil))) ?_
        refine ⟨h.sxs (.cons .n0 (.cons .n0 (.cons .n0 .nil))) (.refl _), ?_⟩
        refine joinI ?_
        refine brN (fun fb29 => by exfalso; dsimp only at fb29; omega) (fun fb29 => ?_)
        dsimp only at fb29
        rotate_left
        refine new h fun fr30 _ h => ?_
        have h := h.asA (B := blk fr30 (.cells #[Value.slice ((↑x.kind.toNat : Int), fy2s, x.wn, fy2t, x.n).snd.fst.p ((↑x.kind.toNat : Int), fy2s, x.wn, fy2t, x.n).snd.fst.len ((↑x.kind.toNat : Int), fy2s, x.wn, fy2t, x.n).snd.fst.cap] 32 (0, 0))) (by kernel_rfl)
        refine ⟨h.sxs (.cons .n2 (.cons .n2 .nil)) (.refl _), ?_⟩
        have h := (h.pick .n1).olEmpty (E := eBytes)
        refine appL slSlice h .n0 ho (fun fs31 _ fl31 h => ?_)
        dsimp only at fl31
        refine ⟨h.sxs (.cons .n2 (.cons .n2 .nil)) (.refl _), ?_⟩
        rotate_left
        refine new h fun fr33 _ h => ?_
        have h := h.asA (B := blk fr33 (.cells #[Value.slice ((↑x.kind.toNat : Int), fy2s, x.wn, fy2t, x.n).snd.fst.p ((↑x.kind.toNat : Int), fy2s, x.wn, fy2t, x.n).snd.fst.len ((↑x.kind.toNat : Int), fy2s, x.wn, fy2t, x.n).snd.fst.cap] 32 (0, 0))) (by kernel_rfl)
        refine ⟨h.sxs (.cons .n1 (.cons .n1 .nil)) (.refl _), ?_⟩
        refine new h fun fr34 _ h => ?_
        have h := h.asA (B := blk fr34 (.cells #[] 32 (0, 0))) (by kernel_rfl)
        refine ⟨h.sxs (.cons .n2 (.cons .n2 .nil)) (.refl _), ?_⟩
        have h := (h.pick .n0).olEmpty (E := eBytes)
        refine appL slSlice h .n0 ho (fun fs35 _ fl35 h => ?_)
        dsimp only at fl35
        refine ⟨h.sxs (.cons .n2 (.cons .n2 .nil)) (.refl _), ?_⟩
        rotate_left
        · have hol2 := h.olLen .n0
          obtain ⟨Γ2, g2, f2, h⟩ := h.olFreeze .n0 (by rw [hol2, e5]; omega)
          have ff22 := ff22.mono g2
          have af14 := af14.mono g2
          have ho := ho.mono g2
          have hl := hl.mono g2
          have fhy2a := fhy2a.mono g2
          have fhy2b := fhy2b.mono g2
          refine rsameLen_ok h ff22 f2 (by first | omega | (dsimp only; omega) | decide) (fun _ h => ?_)
          refine brF ?_
          refine brE (fun fb3 => by exfalso; dsimp only at fb3; omega) (fun fb3 => ?_)
          dsimp only at fb3
          refine rsame_ok h ff22 ho e2 (fun _ h => ?_)
          refine brF ?_
          refine wrN (i + 1) ?_
          rotate_left
          exact ⟨(fewJ l).length - (i + 1), by omega, _, i + 1, _, _, Γ2, rfl, by omega, rfl, hJ3, by omega, by omega, hm3, g3.trans (fg12.trans (fg21.trans g2)), ho, (h.pick .n1).drop⟩
        · have h := h.pick .n1
          refine app1 _ _ slSlice h .n0 fhy2a (fun fs0 _ fl0 h => ?_)
          refine heldS h (.cons .n0 (.cons .n0 (.cons .n0 .nil))) ?_
          refine ⟨h.sxs (.cons .n0 (.cons .n0 (.cons .n0 .nil))) (.refl _), ?_⟩
          refine joinI ?_
          refine brN (fun fb1 => by exfalso; dsimp only at fb1; omega) (fun fb1 => ?_)
          dsimp only at fb1
          rotate_left
          have hol2 := h.olLen .n0
          obtain ⟨Γ2, g2, f2, h⟩ := h.olFreeze .n0 (by rw [hol2, e5]; omega)
          have ff22 := ff22.mono g2
          have af14 := af14.mono g2
          have ho := ho.mono g2
          have hl := hl.mono g2
          have fhy2a := fhy2a.mono g2
          have fhy2b := fhy2b.mono g2
          refine rsameLen_ok h ff22 f2 (by first | omega | (dsimp only; omega) | decide) (fun _ h => ?_)
          refine brF ?_
          refine brE (fun fxb3 => by exfalso; dsimp only at fxb3; omega) (fun fxb3 => ?_)
          dsimp only at fxb3
          refine rsame_ok h ff22 ho e2 (fun _ h => ?_)
          refine brF ?_
          refine wrN (i + 1) ?_
          rotate_left
          exact ⟨(fewJ l).length - (i + 1), by omega, _, i + 1, _, _, Γ2, rfl, by omega, rfl, hJ3, by omega, by omega, hm3, g3.trans (fg12.trans (fg21.trans g2)), ho, (h.pick .n1).drop⟩
        · have h := h.pick .n1
          refine app1 _ _ slSlice h .n0 fhy2a (fun fs0 _ fl0 h => ?_)
          refine heldS h (.cons .n0 (.cons .n0 (.cons .n0 .nil))) ?_
          refine ⟨h.sxs (.cons .n0 (.cons .n0 (.cons .n0 .nil))) (.refl _), ?_⟩
          refine joinI ?_
          refine brN (fun fb1 => by exfalso; dsimp only at fb1; omega) (fun fb1 => ?_)
          dsimp only at fb1
          rotate_left
          have hol2 := h.olLen .n0
          obtain ⟨Γ2, g2, f2, h⟩ := h.olFreeze .n0 (by rw [hol2, e5]; omega)
          have ff22 := ff22.mono g2
          have af14 := af14.mono g2
          have ho := ho.mono g2
          have hl := hl.mono g2
          have fhy2a := fhy2a.mono g2
          have fhy2b := fhy2b.mono g2
          refine rsameLen_ok h ff22 f2 (by first | omega | (dsimp only; omega) | decide) (fun _ h => ?_)
          refine brF ?_
          refine brE (fun fxb3 => by exfalso; dsimp only at fxb3; omega) (fun fxb3 => ?_)
          dsimp only at fxb3
          refine rsame_ok h ff22 ho e2 (fun _ h => ?_)
          refine brF ?_
          refine wrN (i + 1) ?_
          rotate_left
          exact ⟨(fewJ l).length - (i + 1), by omega, _, i + 1, _, _, Γ2, rfl, by omega, rfl, hJ3, by omega, by omega, hm3, g3.trans (fg12.trans (fg21.trans g2)), ho, (h.pick .n1).drop⟩
    · have hl := hl.mono g3
      obtain ⟨lho, mho, cho⟩ := ho.lens
      refine brD (fun cb0 => ?_) (fun cb0 => by exfalso; omega)
      dsimp only at cb0
      refine ⟨by omega, ?_⟩
      refine nnL h af14 (fun ca1 cha1 => ?_)
      refine ldL h af14 cha1 ex (fun cy2 chy2 => ?_)
      obtain ⟨cy2s, cy2t, chy2a, chy2b, chy2c, chy2e⟩ := eActJ_after chy2
      subst chy2e
      obtain ⟨lchy2a, mchy2a, cchy2a⟩ := chy2a.lens
      obtain ⟨lchy2b, mchy2b, cchy2b⟩ := chy2b.lens
      refine new h fun cr3 _ h => ?_
      have h := h.asA (B := blk cr3 (.cells #[Value.int IntKind.u8 0, Value.slice none 0 0, Value.int IntKind.i64 0, Value.slice none 0 0, Value.int IntKind.i64 0] 138 (0, 0))) (by kernel_rfl)
      refine stNs h .n0 fun _ h => ?_
      have h := h.asA (B := blk cr3 (.cells #[Value.int IntKind.u8 ((↑x.kind.toNat : Int), cy2s, x.wn, cy2t, x.n).fst, Value.slice ((↑x.kind.toNat : Int), cy2s, x.wn, cy2t, x.n).snd.fst.p ((↑x.kind.toNat : Int), cy2s, x.wn, cy2t, x.n).snd.fst.len ((↑x.kind.toNat : Int), cy2s, x.wn, cy2t, x.n).snd.fst.cap, Value.int IntKind.i64 ((↑x.kind.toNat : Int), cy2s, x.wn, cy2t, x.n).snd.snd.fst, Value.slice ((↑x.kind.toNat : Int), cy2s, x.wn, cy2t, x.n).snd.snd.snd.fst.p ((↑x.kind.toNat : Int), cy2s, x.wn, cy2t, x.n).snd.snd.snd.fst.len ((↑x.kind.toNat : Int), cy2s, x.wn, cy2t, x.n).snd.snd.snd.fst.cap, Value.int IntKind.i64 ((↑x.kind.toNat : Int), cy2s, x.wn, cy2t, x.n).snd.snd.snd.snd] 138 (0, 0))) (by kernel_rfl)
      refine brD (fun cb4 => ?_) (fun cb4 => by exfalso; omega)
      dsimp only at cb4
      refine ⟨_, rfl, ?_⟩
      refine k _ _ (ag3.trans (ag13.trans g3)) h.drop.drop
  · have hl := hl.mono g3
    obtain ⟨lho, mho, cho⟩ := ho.lens
    refine brD (fun db0 => by exfalso; omega) (fun db0 => ?_)
    dsimp only at db0
    refine ⟨_, rfl, ?_⟩
    refine k _ _ (ag3.trans (ag13.trans g3)) h.drop

theorem journalKeeps_walk {H : Type} {enc : TypeId × Value → H} {W : World} {base : Nat} {vs : List Value} {ds : List (DataW H)} {ps : List MemPlace} (hok : ∀ (j : Nat) (t : TypeId) (v : Value), [3, 135][j]? = some t → vs[j]? = some v → Value.okWide Try.prog W .any base t v)
    (hA : DataW.TrodAll enc Try.prog W 0 (fun _ => true) true [3, 135] vs ds ps) : CallP Try.prog 30 vs (.one (.s .bool)) (fun b w' => b = true ∧ Kept W w') W := by
  obtain ⟨v0, vs0, d0, ds0, p0, q0, rfl, rfl, rfl, h0, r0⟩ := trodAll_cons hA
  obtain ⟨v1, vs1, d1, ds1, p1, q1, rfl, rfl, rfl, h1, r1⟩ := trodAll_cons r0
  obtain ⟨rfl, rfl, rfl⟩ := trodAll_nil r1
  obtain ⟨y0, x0, e0, f0⟩ := argS rInt (hok 0 _ _ rfl rfl) h0
  obtain ⟨y1, x1, e1, f1⟩ := argS rActJs (hok 1 _ _ rfl rfl) h1
  cases e0
  cases e1
  exact law_walk fun k => law_jkeeps (Sat.start W) f1 k

theorem journalKeeps_lifted (os : Os) (started : os.Started) (H : Type) (enc : TypeId × Value → H) :
    ReturnsInHanded {} Try.checked os 30 .any (Rows.journalKeepsSpec.pre6 enc Try.prog Try.f30 Rows.journalKeepsRow.domain false) (Rows.journalKeepsSpec.post enc Try.prog Try.f30 false true false false) := by
  have e : Try.f30.params.toList = [3, 135] := by kernel_rfl
  refine law_lifted (s := Rows.journalKeepsSpec) started Try.func30 (by kernel_rfl) rfl (fun ds h => ?_) (by kernel_rfl) (fun t ht => ?_)
    (ChangeSpec.witness6 (enc := enc) (C := Try.checked) false ⟨#[], #[.int .i64 0, .slice none 0 0], []⟩ 8 (by kernel_rfl) (by kernel_rfl) (by kernel_rfl) (by kernel_rfl)) fun W base vs ds ps hok hA => ?_
  · have hl : ds.length = 2 := h
    match ds, hl with
    | [_, _], _ => rfl
  · rw [e] at ht
    have hall : ([3, 135].all fun t => Try.prog.readableRec t && decide (t < Try.prog.types.size)) = true := by kernel_rfl
    simpa using List.all_eq_true.1 hall t ht
  · rw [e] at hA hok
    exact journalKeeps_walk hok hA

theorem journalKeeps_facts : joinedFacts Try.pinned.checked.prog 30 Try.f30 Rows.journalKeepsSpec Rows.journalKeepsRow = true := by
  show joinedFacts Try.prog 30 Try.f30 Rows.journalKeepsSpec Rows.journalKeepsRow = true
  unfold joinedFacts
  rw [make_, enter_, lifts_]
  kernel_rfl

theorem JournalKeeps_holds : Rows.JournalKeepsSaid :=
  OpenClaim.holds_of_wide 30 Try.f30 rfl rfl rfl rfl rfl rfl rfl ⟨rfl, rfl, rfl, rfl, rfl⟩ rfl rfl rfl rfl rfl (by kernel_rfl) Try.func30 journalKeeps_facts
    (of_decide_eq_true (by kernel_rfl)) (by unfold Func.isWrapper; first | (rw [if_pos (by decide +kernel)]; kernel_rfl) | (rw [if_neg (by decide +kernel)]; exact ⟨rfl, rfl⟩))
    (fun os started H enc _ => journalKeeps_lifted os started H enc)


end Go.Proofs.Ytohoimokfgfceaa.K
