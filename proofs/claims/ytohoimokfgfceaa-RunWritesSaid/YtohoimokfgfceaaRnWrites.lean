/-
  RunWrites: what is told when records are put to a file, and the file, whenever it goes down, is the document's. No condition.
-/
import Derived.Test.YtohoimokfgfceaaRnE
import Derived.Test.YtohoimokfgfceaaRnD
import Derived.Test.YtohoimokfgfceaaRnS
namespace Go.Proofs.Ytohoimokfgfceaa.K
open Go Go.Proofs Go.ChangeShapes Go.WideShapes Go.ChangeAt Go.RowKit
variable {Γ Γ' : Mem} {L L' L'' : List HP} {w w' : World} {A B : HP}
set_option maxRecDepth 100000
set_option maxHeartbeats 4000000

theorem law_rwrites {r n : Int} {s t : Sl} {name : Str} {l : List Str} {wn : Int} {wb : List Int} {K : Bool → World → Prop} (h : Sat Γ L w) (hl : Lst eBytes Γ s l) (hn : 0 ≤ n ∧ n < 65536) (ht : Lst eInt Γ t wb) (k : ∀ Γ' w', Γ.le Γ' → Sat Γ' L w' → K true w') :
    CallP Try.prog 23 [.int .i64 r, .slice s.p s.len s.cap, .string (str name), .int .u16 n, .agg #[.int .i64 wn, .slice t.p t.len t.cap]] (.one (.s .bool)) K w := by
  refine callP (fn := Try.f23) [.s (.int .i64 r), .s (.sl s), .s (.str (str name)), .s (.int .u16 n), .agg [.int .i64 wn, .sl t]] (.p .n (.p .n (.p .n (.j [1, 9, 2, 11, 12, 13] [] .n (.p .n (.p .n (.j [1, 14, 16, 9, 2, 11, 12, 13] [] .n (.p (.p .n (.k [14, 16, 9, 2, 11, 12, 13] [] (.l [64, 63, 14, 16, 9, 2, 11, 12, 13] [(65, .s (.int .i64))] (.p .n (.p .n (.p (.k [65, 64, 63, 14, 16, 9, 2, 11, 12, 13] [] (.p .n (.p .n (.p (.h [0, 1, 3, 4, 2, 5, 6, 7, 8, 10, 11, 12, 13, 14, 9, 15, 16] [5]) .n)))) .n)))))) (.j [9, 2, 11, 12, 13] [] .n .n))))))))) nong mixed (by kernel_rfl) (by kernel_rfl) rfl rfl ?_
  have hfl := fewB_len l
  have hg0 := doom_g (.new r) n
  have hg1 := startM_g ((DiskM.new r).doom n).1
  have hgn : (DiskM.new r).g = 0 := rfl
  by_cases hs : (startM ((DiskM.new r).doom n).1).2 = 0
  · obtain ⟨lhl, mhl, chl⟩ := hl.lens
    obtain ⟨lht, mht, cht⟩ := ht.lens
    refine new h fun ar0 _ h => ?_
    have h := h.asA (B := blk ar0 (.cells #[Value.int IntKind.i64 wn, Value.slice t.p t.len t.cap] 81 (0, 0))) (by kernel_rfl)
    refine shownR_ok h (fun aΓ2 _ ag4 h => ?_)
    have hl := hl.mono ag4
    have ht := ht.mono ag4
    refine dNew_ok h (fun av7 _ h => ?_)
    refine rNew_ok h (fun av11 _ h => ?_)
    refine joinI ?_
    refine brF ?_
    refine wr ?_
    refine dDoom_ok (h.pick .n1) (by first | omega | (dsimp only; omega) | decide) (fun _ h => ?_)
    refine wr ?_
    refine rDoom_ok (h.pick .n1) (by first | omega | (dsimp only; omega) | decide) (fun _ h => ?_)
    refine brN (fun ab20 => by exfalso; omega) (fun ab20 => ?_)
    refine wStart_ok (h.pick .n1) (by first | omega | (dsimp only; omega) | decide) (fun ap22 _ h => ?_) (fun ap25 av26 _ h => ?_)
    refine rwStart_ok (h.pick .n1) (by first | omega | (dsimp only; omega) | decide) (fun ap30 aΓ31 _ ag33 h => ?_) (fun ap35 av36 aΓ37 _ ag39 h => ?_)
    have hl := hl.mono ag33
    have ht := ht.mono ag33
    refine joinI ?_
    refine brN (fun ab41 => by exfalso; omega) (fun ab41 => ?_)
    dsimp only at ab41
    refine brF ?_
    refine fewB_ok h hl (fun av43 aΓ44 _ ag46 af47 h => ?_)
    have hl := hl.mono ag46
    have ht := ht.mono ag46
    obtain ⟨laf47, maf47, caf47⟩ := af47.lens
    refine joinI ?_
    (exfalso; omega)
    have hl := hl.mono ag39
    have ht := ht.mono ag39
    refine joinI ?_
    refine brN (fun ab49 => by exfalso; omega) (fun ab49 => ?_)
    dsimp only at ab49
    refine brT ?_
    refine ⟨_, rfl, ?_⟩
    (exfalso; omega)
    refine rwStart_ok (h.pick .n2) (by first | omega | (dsimp only; omega) | decide) (fun ap51 aΓ52 _ ag54 h => ?_) (fun ap56 av57 aΓ58 _ ag60 h => ?_)
    have hl := hl.mono ag54
    have ht := ht.mono ag54
    refine joinI ?_
    refine brN (fun ab62 => by exfalso; omega) (fun ab62 => ?_)
    dsimp only at ab62
    refine brT ?_
    refine ⟨_, rfl, ?_⟩
    (exfalso; omega)
    have hl := hl.mono ag60
    have ht := ht.mono ag60
    refine joinI ?_
    refine brF ?_
    refine brF ?_
    refine fewB_ok h hl (fun av64 aΓ65 _ ag67 af68 h => ?_)
    have hl := hl.mono ag67
    have ht := ht.mono ag67
    obtain ⟨laf68, maf68, caf68⟩ := af68.lens
    refine joinI ?_
    rotate_left
    refine loop (σ := Int) (fun st w' c => ∃ (i : Nat) (m : DiskM) (s1 s2 : Sl) (bb : Bool) (l' : List Str) (Γ' : Mem), st = (i : Int) ∧ i ≤ (fewB l).length ∧ c = (fewB l).length - i ∧ l'.length ≤ i ∧ m.g ≤ 3 + 72 * i ∧ aΓ65.le Γ' ∧ LastAt Γ' s1 bb l'.getLast? ∧
        Sat Γ' (blk av57 (.cells #[.pointer (some ⟨av11, 0, none⟩), .slice s2.p s2.len s2.cap] 122 (0, 0)) :: OL eBytes 32 s2 l' :: RDisk av11 m :: blk av26 (.cells #[.pointer (some ⟨av7, 0, none⟩), .slice s1.p s1.len s1.cap, .bool bb, .int .i64 (l'.length : Nat)] 161 (0, 0)) :: PDisk av7 m :: blk ar0 (.cells #[.int .i64 wn, .slice t.p t.len t.cap] 81 (0, 0)) :: L) w') (fewB l).length
      ⟨0, (startM ((DiskM.new r).doom n).1).1, ⟨none, 0, 0⟩, ⟨none, 0, 0⟩, false, [], aΓ65, rfl, by omega, by omega, by simp, by omega, .refl _, rfl, ?_⟩ ?_
    · have h2 : Sat aΓ65 (OL eBytes 32 ⟨none, 0, 0⟩ [] :: _) _ := h.olNil
      exact h2.pick .n1
    clear h
    rintro _ w c ⟨i, m, s1, s2, bb, l', Γ3, rfl, hi, hc, hll, hg, g3, hla, h⟩
    have af68 := af68.mono g3
    have hol : s2.len = l'.length := h.olLen .n1
    have ht3 := ht.mono g3
    by_cases hil : i < (fewB l).length
    · obtain ⟨x, ex⟩ := get_lt hil
      have hga := addM_g m l'.getLast? x
      by_cases ha : (addM m l'.getLast? x).2 = 0
      · have hla2 : (l' ++ [x]).getLast? = some x := by simp
        have hl2 : (l' ++ [x]).length = l'.length + 1 := by simp
        have hl := hl.mono g3
        have ht := ht.mono g3
        refine brD (fun cb0 => ?_) (fun cb0 => by exfalso; omega)
        refine joinI ?_
        refine ⟨by omega, ?_⟩
        refine nnL h af68 (fun ca1 cha1 => ?_)
        refine ldL h af68 cha1 ex (fun cy2 chy2 => ?_)
        have chy2 : Bytes _ cy2 x := chy2
        obtain ⟨lchy2, mchy2, cchy2⟩ := chy2.lens
        refine brF ?_
        refine heldS h (.cons .n0 (.cons .n0 (.cons .n0 (.cons .n2 .nil)))) ?_
        refine dr h fun _ h => ?_
        refine ⟨h.sxs (.cons .n0 (.cons .n0 (.cons .n0 (.cons .n2 .nil)))) (.refl _), ?_⟩
        refine wAddDone_ok ((h.pick .n4).pick .n4) hla chy2 ha (by first | omega | (dsimp only; omega) | decide) (by first | omega | (dsimp only; omega) | decide) (fun cv4 cΓ5 _ cg7 cp8 h => ?_)
        have hla := hla.mono cg7
        have af68 := af68.mono cg7
        have ht3 := ht3.mono cg7
        have hl := hl.mono cg7
        have ht := ht.mono cg7
        have chy2 := chy2.mono cg7
        refine ⟨h.sxs (.cons .n2 (.cons .n2 (.cons .n2 (.cons .n2 .nil)))) cg7, ?_⟩
        refine rwAddDone_ok (((h.pick .n4).pick .n4).pick .n4) chy2 ha (by first | omega | (dsimp only; omega) | decide) (by first | omega | (dsimp only; omega) | decide) (fun cv11 cΓ12 _ cg14 cp15 h => ?_)
        have cp8 := cp8.mono cg14
        have hla := hla.mono cg14
        have af68 := af68.mono cg14
        have ht3 := ht3.mono cg14
        have hl := hl.mono cg14
        have ht := ht.mono cg14
        have chy2 := chy2.mono cg14
        refine heldS h (.cons .n0 (.cons .n0 (.cons .n0 (.cons .n0 (.cons .n0 (.cons .n0 .nil)))))) ?_
        refine ⟨h.sxs (.cons .n0 (.cons .n0 (.cons .n0 (.cons .n0 (.cons .n0 (.cons .n0 .nil)))))) (.refl _), ?_⟩
        refine brF ?_
        refine ⟨_, rfl, ?_⟩
        refine ldH _ .n0 ?_
        refine wMany_ok (h.pick .n3) (fun _ h => ?_)
        refine ⟨h.sxs (.cons .n1 (.cons .n1 (.cons .n1 (.cons .n0 (.cons .n0 (.cons .n0 .nil)))))) (.refl _), ?_⟩
        refine brN (fun cb20 => by exfalso; omega) (fun cb20 => ?_)
        refine wrN (i + 1) ?_
        rotate_left
        have e7 : (((l' ++ [x]).length : Nat) : Int) = (l'.length : Int) + 1 := by rw [hl2]; omega
        refine ⟨(fewB l).length - (i + 1), by omega, i + 1, (addM m l'.getLast? x).1, cv4, cv11, true, l' ++ [x], cΓ12, rfl, by omega, rfl, by omega, by omega, g3.trans (cg7.trans cg14), by rw [hla2]; exact cp8, ?_⟩
        rw [e7]
        exact ((h.pick (A := RDisk av11 _) .n3).pick (A := OL eBytes _ cv11 _) .n3).pick (A := blk av57 _) .n3
      · have hl := hl.mono g3
        have ht := ht.mono g3
        refine brD (fun db0 => ?_) (fun db0 => by exfalso; omega)
        refine joinI ?_
        refine ⟨by omega, ?_⟩
        refine nnL h af68 (fun da1 dha1 => ?_)
        refine ldL h af68 dha1 ex (fun dy2 dhy2 => ?_)
        have dhy2 : Bytes _ dy2 x := dhy2
        obtain ⟨ldhy2, mdhy2, cdhy2⟩ := dhy2.lens
        refine brF ?_
        refine heldS h (.cons .n0 (.cons .n0 (.cons .n0 (.cons .n0 (.cons .n1 .nil))))) ?_
        refine dr h fun _ h => ?_
        refine ⟨h.sxs (.cons .n0 (.cons .n0 (.cons .n0 (.cons .n0 (.cons .n1 .nil))))) (.refl _), ?_⟩
        refine wAddFail_ok ((h.pick .n4).pick .n4) hla dhy2 (by first | omega | (dsimp only; omega) | decide) (by first | omega | (dsimp only; omega) | decide) (by first | omega | (dsimp only; omega) | decide) (fun dΓ4 _ dg6 h => ?_)
        have hla := hla.mono dg6
        have af68 := af68.mono dg6
        have ht3 := ht3.mono dg6
        have hl := hl.mono dg6
        have ht := ht.mono dg6
        have dhy2 := dhy2.mono dg6
        refine ⟨h.sxs (.cons .n2 (.cons .n2 (.cons .n2 (.cons .n0 (.cons .n1 .nil))))) dg6, ?_⟩
        refine rwAddFail_ok (((h.pick .n4).pick .n4).pick .n4) dhy2 (by first | omega | (dsimp only; omega) | decide) (by first | omega | (dsimp only; omega) | decide) (by first | omega | (dsimp only; omega) | decide) (fun dΓ9 _ dg11 h => ?_)
        have hla := hla.mono dg11
        have af68 := af68.mono dg11
        have ht3 := ht3.mono dg11
        have hl := hl.mono dg11
        have ht := ht.mono dg11
        have dhy2 := dhy2.mono dg11
        refine heldS h (.cons .n0 (.cons .n0 (.cons .n0 (.cons .n0 (.cons .n0 (.cons .n0 .nil)))))) ?_
        refine ⟨h.sxs (.cons .n0 (.cons .n0 (.cons .n0 (.cons .n0 (.cons .n0 (.cons .n0 .nil)))))) (.refl _), ?_⟩
        refine brN (fun db13 => by exfalso; omega) (fun db13 => ?_)
        refine ⟨_, rfl, ?_⟩
        refine ldH _ .n0 ?_
        refine wMany_ok (h.pick .n3) (fun _ h => ?_)
        refine ⟨h.sxs (.cons .n1 (.cons .n1 (.cons .n1 (.cons .n0 (.cons .n0 (.cons .n0 .nil)))))) (.refl _), ?_⟩
        refine brN (fun db17 => by exfalso; omega) (fun db17 => ?_)
        refine wrN (i + 1) ?_
        refine ⟨_, (by first | omega | rfl | (dsimp only; omega)), _, _, _, _, _, _, _, rfl, (by first | omega | rfl | (dsimp only; omega)), rfl, (by first | omega | rfl | (dsimp only; omega)), (by first | omega | rfl | (dsimp only; omega)), (g3.trans (dg6.trans dg11)), hla, ((((((h.pick .n5).pick .n5).pick .n2).pick .n5).pick .n5).pick .n5)⟩
    · have hge := endM_g m name
      have hrg := read_g ((endM m name).1.crash wn wb) name
      have hcg2 : (((endM m name).1.crash wn wb).read name).1.g = (endM m name).1.g := hrg
      have hcg : ((endM m name).1.crash wn wb).g = (endM m name).1.g := rfl
      have hl := hl.mono g3
      have ht := ht.mono g3
      refine brD (fun eb0 => by exfalso; omega) (fun eb0 => ?_)
      refine joinI ?_
      refine brT ?_
      refine wEnd_ok ((h.pick .n4).pick .n4) (by first | omega | (dsimp only; omega) | decide) (fun _ h => ?_)
      refine rwEnd_ok ((h.pick .n4).pick .n3) (by first | omega | (dsimp only; omega) | decide) (fun eΓ5 _ eg7 h => ?_)
      have hla := hla.mono eg7
      have af68 := af68.mono eg7
      have ht3 := ht3.mono eg7
      have hl := hl.mono eg7
      have ht := ht.mono eg7
      refine brN (fun eb9 => by exfalso; omega) (fun eb9 => ?_)
      refine ldA2 _ _ h .n5 ?_
      refine dCrash_ok (h.pick .n3) (by first | omega | (dsimp only; omega) | decide) ht (fun _ h => ?_)
      refine ldA2 _ _ h .n5 ?_
      refine rCrash_ok (h.pick .n2) (by first | omega | (dsimp only; omega) | decide) ht (fun eΓ14 _ eg16 h => ?_)
      have hla := hla.mono eg16
      have af68 := af68.mono eg16
      have ht3 := ht3.mono eg16
      have hl := hl.mono eg16
      have ht := ht.mono eg16
      refine dRead_ok (h.pick .n1) (by first | omega | (dsimp only; omega) | decide) (fun ev19 eΓ20 _ eg22 ef23 h => ?_)
      have hla := hla.mono eg22
      have af68 := af68.mono eg22
      have ht3 := ht3.mono eg22
      have hl := hl.mono eg22
      have ht := ht.mono eg22
      dsimp only at ef23
      obtain ⟨lef23, mef23, cef23⟩ := ef23.lens
      refine rRead_ok (h.pick .n1) (by first | omega | (dsimp only; omega) | decide) (fun ev26 eΓ27 _ eg29 ef30 h => ?_)
      have ef23 := ef23.mono eg29
      have hla := hla.mono eg29
      have af68 := af68.mono eg29
      have ht3 := ht3.mono eg29
      have hl := hl.mono eg29
      have ht := ht.mono eg29
      dsimp only at ef30
      obtain ⟨lef30, mef30, cef30⟩ := ef30.lens
      refine brT ?_
      refine btoS h ef23 ?_
      refine btoS h ef30 ?_
      refine brS (fun eb32 => ?_) (fun eb32 => absurd rfl eb32)
      refine brE (fun eb33 => ?_) (fun eb33 => by exfalso; omega)
      dsimp only at eb33
      refine dUsedD_ok (h.pick .n1) (by first | omega | (dsimp only; omega) | decide) (fun _ h => ?_)
      refine rUsed_ok (h.pick .n1) (by first | omega | (dsimp only; omega) | decide) (fun eΓ38 _ eg40 h => ?_)
      have ef30 := ef30.mono eg40
      have ef23 := ef23.mono eg40
      have hla := hla.mono eg40
      have af68 := af68.mono eg40
      have ht3 := ht3.mono eg40
      have hl := hl.mono eg40
      have ht := ht.mono eg40
      refine ⟨_, rfl, ?_⟩
      rw [beq_self_eq_true]
      refine k _ _ (ag4.trans (ag60.trans (ag67.trans (g3.trans (eg7.trans (eg16.trans (eg22.trans (eg29.trans eg40)))))))) h.drop.drop.drop.drop.drop.drop
  · obtain ⟨lhl, mhl, chl⟩ := hl.lens
    obtain ⟨lht, mht, cht⟩ := ht.lens
    refine new h fun br0 _ h => ?_
    have h := h.asA (B := blk br0 (.cells #[Value.int IntKind.i64 wn, Value.slice t.p t.len t.cap] 81 (0, 0))) (by kernel_rfl)
    refine shownR_ok h (fun bΓ2 _ bg4 h => ?_)
    have hl := hl.mono bg4
    have ht := ht.mono bg4
    refine dNew_ok h (fun bv7 _ h => ?_)
    refine rNew_ok h (fun bv11 _ h => ?_)
    refine joinI ?_
    refine brF ?_
    refine wr ?_
    refine dDoom_ok (h.pick .n1) (by first | omega | (dsimp only; omega) | decide) (fun _ h => ?_)
    refine wr ?_
    refine rDoom_ok (h.pick .n1) (by first | omega | (dsimp only; omega) | decide) (fun _ h => ?_)
    refine brN (fun bb20 => by exfalso; omega) (fun bb20 => ?_)
    refine wStart_ok (h.pick .n1) (by first | omega | (dsimp only; omega) | decide) (fun bp22 _ h => ?_) (fun bp25 bv26 _ h => ?_)
    refine rwStart_ok (h.pick .n1) (by first | omega | (dsimp only; omega) | decide) (fun bp30 bΓ31 _ bg33 h => ?_) (fun bp35 bv36 bΓ37 _ bg39 h => ?_)
    have hl := hl.mono bg33
    have ht := ht.mono bg33
    refine joinI ?_
    refine brN (fun bb41 => by exfalso; omega) (fun bb41 => ?_)
    dsimp only at bb41
    refine brF ?_
    refine fewB_ok h hl (fun bv43 bΓ44 _ bg46 bf47 h => ?_)
    have hl := hl.mono bg46
    have ht := ht.mono bg46
    obtain ⟨lbf47, mbf47, cbf47⟩ := bf47.lens
    refine joinI ?_
    rotate_left
    have hl := hl.mono bg39
    have ht := ht.mono bg39
    refine joinI ?_
    refine brN (fun bb49 => by exfalso; omega) (fun bb49 => ?_)
    dsimp only at bb49
    refine brT ?_
    refine ⟨_, rfl, ?_⟩
    (exfalso; omega)
    refine rwStart_ok (h.pick .n2) (by first | omega | (dsimp only; omega) | decide) (fun bp51 bΓ52 _ bg54 h => ?_) (fun bp56 bv57 bΓ58 _ bg60 h => ?_)
    have hl := hl.mono bg54
    have ht := ht.mono bg54
    refine joinI ?_
    refine brN (fun bb62 => by exfalso; omega) (fun bb62 => ?_)
    dsimp only at bb62
    refine brT ?_
    refine ⟨_, rfl, ?_⟩
    (exfalso; omega)
    have hl := hl.mono bg60
    have ht := ht.mono bg60
    refine joinI ?_
    refine brF ?_
    refine brF ?_
    refine fewB_ok h hl (fun bv64 bΓ65 _ bg67 bf68 h => ?_)
    have hl := hl.mono bg67
    have ht := ht.mono bg67
    obtain ⟨lbf68, mbf68, cbf68⟩ := bf68.lens
    refine joinI ?_
    (exfalso; omega)
    refine loop (σ := Int) (fun st w' c => ∃ (i : Nat) (Γ' : Mem), st = (i : Int) ∧ i ≤ (fewB l).length ∧ c = (fewB l).length - i ∧ bΓ44.le Γ' ∧
        Sat Γ' (RDisk bv11 (startM ((DiskM.new r).doom n).1).1 :: PDisk bv7 (startM ((DiskM.new r).doom n).1).1 :: blk br0 (.cells #[.int .i64 wn, .slice t.p t.len t.cap] 81 (0, 0)) :: L) w') (fewB l).length
      ⟨0, bΓ44, rfl, by omega, by omega, .refl _, h⟩ ?_
    clear h
    rintro _ w c ⟨i, Γ3, rfl, hi, hc, g3, h⟩
    have bf47 := bf47.mono g3
    have ht3 := ht.mono g3
    have hcg : ((startM ((DiskM.new r).doom n).1).1.crash wn wb).g = (startM ((DiskM.new r).doom n).1).1.g := rfl
    have hrg := read_g ((startM ((DiskM.new r).doom n).1).1.crash wn wb) name
    have hcg2 : (((startM ((DiskM.new r).doom n).1).1.crash wn wb).read name).1.g = (startM ((DiskM.new r).doom n).1).1.g := hrg
    by_cases hil : i < (fewB l).length
    · obtain ⟨x, ex⟩ := get_lt hil
      have hl := hl.mono g3
      have ht := ht.mono g3
      refine brD (fun fb0 => ?_) (fun fb0 => by exfalso; omega)
      refine joinI ?_
      refine ⟨by omega, ?_⟩
      refine nnL h bf47 (fun fa1 fha1 => ?_)
      refine ldL h bf47 fha1 ex (fun fy2 fhy2 => ?_)
      have fhy2 : Bytes _ fy2 x := fhy2
      obtain ⟨lfhy2, mfhy2, cfhy2⟩ := fhy2.lens
      refine brT ?_
      refine joinI ?_
      refine brF ?_
      refine ldA2 _ _ h .n2 ?_
      refine dCrash_ok (h.pick .n1) (by first | omega | (dsimp only; omega) | decide) ht (fun _ h => ?_)
      refine ldA2 _ _ h .n2 ?_
      refine rCrash_ok (h.pick .n1) (by first | omega | (dsimp only; omega) | decide) ht (fun fΓ7 _ fg9 h => ?_)
      have bf47 := bf47.mono fg9
      have ht3 := ht3.mono fg9
      have hl := hl.mono fg9
      have ht := ht.mono fg9
      have fhy2 := fhy2.mono fg9
      refine dRead_ok (h.pick .n1) (by first | omega | (dsimp only; omega) | decide) (fun fv12 fΓ13 _ fg15 ff16 h => ?_)
      have bf47 := bf47.mono fg15
      have ht3 := ht3.mono fg15
      have hl := hl.mono fg15
      have ht := ht.mono fg15
      have fhy2 := fhy2.mono fg15
      dsimp only at ff16
      obtain ⟨lff16, mff16, cff16⟩ := ff16.lens
      refine rRead_ok (h.pick .n1) (by first | omega | (dsimp only; omega) | decide) (fun fv19 fΓ20 _ fg22 ff23 h => ?_)
      have ff16 := ff16.mono fg22
      have bf47 := bf47.mono fg22
      have ht3 := ht3.mono fg22
      have hl := hl.mono fg22
      have ht := ht.mono fg22
      have fhy2 := fhy2.mono fg22
      dsimp only at ff23
      obtain ⟨lff23, mff23, cff23⟩ := ff23.lens
      refine brT ?_
      refine btoS h ff16 ?_
      refine btoS h ff23 ?_
      refine brS (fun fb25 => ?_) (fun fb25 => absurd rfl fb25)
      refine brE (fun fb26 => ?_) (fun fb26 => by exfalso; omega)
      dsimp only at fb26
      refine dUsedD_ok (h.pick .n1) (by first | omega | (dsimp only; omega) | decide) (fun _ h => ?_)
      refine rUsed_ok (h.pick .n1) (by first | omega | (dsimp only; omega) | decide) (fun fΓ31 _ fg33 h => ?_)
      have ff23 := ff23.mono fg33
      have ff16 := ff16.mono fg33
      have bf47 := bf47.mono fg33
      have ht3 := ht3.mono fg33
      have hl := hl.mono fg33
      have ht := ht.mono fg33
      have fhy2 := fhy2.mono fg33
      refine ⟨_, rfl, ?_⟩
      rw [beq_self_eq_true]
      refine k _ _ (bg4.trans (bg33.trans (bg46.trans (g3.trans (fg9.trans (fg15.trans (fg22.trans fg33))))))) h.drop.drop.drop
    · have hl := hl.mono g3
      have ht := ht.mono g3
      refine brD (fun gb0 => by exfalso; omega) (fun gb0 => ?_)
      refine joinI ?_
      refine brF ?_
      refine ldA2 _ _ h .n2 ?_
      refine dCrash_ok (h.pick .n1) (by first | omega | (dsimp only; omega) | decide) ht (fun _ h => ?_)
      refine ldA2 _ _ h .n2 ?_
      refine rCrash_ok (h.pick .n1) (by first | omega | (dsimp only; omega) | decide) ht (fun gΓ5 _ gg7 h => ?_)
      have bf47 := bf47.mono gg7
      have ht3 := ht3.mono gg7
      have hl := hl.mono gg7
      have ht := ht.mono gg7
      refine dRead_ok (h.pick .n1) (by first | omega | (dsimp only; omega) | decide) (fun gv10 gΓ11 _ gg13 gf14 h => ?_)
      have bf47 := bf47.mono gg13
      have ht3 := ht3.mono gg13
      have hl := hl.mono gg13
      have ht := ht.mono gg13
      dsimp only at gf14
      obtain ⟨lgf14, mgf14, cgf14⟩ := gf14.lens
      refine rRead_ok (h.pick .n1) (by first | omega | (dsimp only; omega) | decide) (fun gv17 gΓ18 _ gg20 gf21 h => ?_)
      have gf14 := gf14.mono gg20
      have bf47 := bf47.mono gg20
      have ht3 := ht3.mono gg20
      have hl := hl.mono gg20
      have ht := ht.mono gg20
      dsimp only at gf21
      obtain ⟨lgf21, mgf21, cgf21⟩ := gf21.lens
      refine brT ?_
      refine btoS h gf14 ?_
      refine btoS h gf21 ?_
      refine brS (fun gb23 => ?_) (fun gb23 => absurd rfl gb23)
      refine brE (fun gb24 => ?_) (fun gb24 => by exfalso; omega)
      dsimp only at gb24
      refine dUsedD_ok (h.pick .n1) (by first | omega | (dsimp only; omega) | decide) (fun _ h => ?_)
      refine rUsed_ok (h.pick .n1) (by first | omega | (dsimp only; omega) | decide) (fun gΓ29 _ gg31 h => ?_)
      have gf21 := gf21.mono gg31
      have gf14 := gf14.mono gg31
      have bf47 := bf47.mono gg31
      have ht3 := ht3.mono gg31
      have hl := hl.mono gg31
      have ht := ht.mono gg31
      refine ⟨_, rfl, ?_⟩
      rw [beq_self_eq_true]
      refine k _ _ (bg4.trans (bg33.trans (bg46.trans (g3.trans (gg7.trans (gg13.trans (gg20.trans gg31))))))) h.drop.drop.drop

theorem runWrites_walk {H : Type} {enc : TypeId × Value → H} {W : World} {base : Nat} {vs : List Value} {ds : List (DataW H)} {ps : List MemPlace} (hok : ∀ (j : Nat) (t : TypeId) (v : Value), [3, 43, 9, 117, 81][j]? = some t → vs[j]? = some v → Value.okWide Try.prog W .any base t v)
    (hA : DataW.TrodAll enc Try.prog W 0 (fun _ => true) true [3, 43, 9, 117, 81] vs ds ps) : CallP Try.prog 23 vs (.one (.s .bool)) (fun b w' => b = true ∧ Kept W w') W := by
  obtain ⟨v0, vs0, d0, ds0, p0, q0, rfl, rfl, rfl, h0, r0⟩ := trodAll_cons hA
  obtain ⟨v1, vs1, d1, ds1, p1, q1, rfl, rfl, rfl, h1, r1⟩ := trodAll_cons r0
  obtain ⟨v2, vs2, d2, ds2, p2, q2, rfl, rfl, rfl, h2, r2⟩ := trodAll_cons r1
  obtain ⟨v3, vs3, d3, ds3, p3, q3, rfl, rfl, rfl, h3, r3⟩ := trodAll_cons r2
  obtain ⟨v4, vs4, d4, ds4, p4, q4, rfl, rfl, rfl, h4, r4⟩ := trodAll_cons r3
  obtain ⟨rfl, rfl, rfl⟩ := trodAll_nil r4
  obtain ⟨y0, x0, e0, f0⟩ := argS rInt (hok 0 _ _ rfl rfl) h0
  obtain ⟨y1, x1, e1, f1⟩ := argS rBB (hok 1 _ _ rfl rfl) h1
  obtain ⟨y2, x2, e2, f2⟩ := argS rStr (hok 2 _ _ rfl rfl) h2
  obtain ⟨y3, x3, e3, f3⟩ := argS rShort (hok 3 _ _ rfl rfl) h3
  obtain ⟨⟨n4, t4⟩, ⟨m4, x4⟩, e4, f4⟩ := argA rWreck (hok 4 _ _ rfl rfl) h4
  cases e0
  cases e1
  cases e2
  cases e3
  subst e4
  obtain ⟨rfl, g2⟩ := f2
  exact law_walk fun k => law_rwrites (Sat.start W) f1 (short_of f3) f4.2 k

theorem runWrites_lifted (os : Os) (started : os.Started) (H : Type) (enc : TypeId × Value → H) :
    ReturnsInHanded {} Try.checked os 23 .any (Rows.runWritesSpec.pre6 enc Try.prog Try.f23 Rows.runWritesRow.domain false) (Rows.runWritesSpec.post enc Try.prog Try.f23 false true false false) := by
  have e : Try.f23.params.toList = [3, 43, 9, 117, 81] := by kernel_rfl
  refine law_lifted (s := Rows.runWritesSpec) started Try.func23 (by kernel_rfl) rfl (fun ds h => ?_) (by kernel_rfl) (fun t ht => ?_)
    (ChangeSpec.witness6 (enc := enc) (C := Try.checked) false ⟨#[], #[.int .i64 0, .slice none 0 0, .string (str []), .int .u16 0, .agg #[.int .i64 0, .slice none 0 0]], []⟩ 8 (by kernel_rfl) (by kernel_rfl) (by kernel_rfl) (by kernel_rfl)) fun W base vs ds ps hok hA => ?_
  · have hl : ds.length = 5 := h
    match ds, hl with
    | [_, _, _, _, _], _ => rfl
  · rw [e] at ht
    have hall : ([3, 43, 9, 117, 81].all fun t => Try.prog.readableRec t && decide (t < Try.prog.types.size)) = true := by kernel_rfl
    simpa using List.all_eq_true.1 hall t ht
  · rw [e] at hA hok
    exact runWrites_walk hok hA

theorem runWrites_facts : joinedFacts Try.pinned.checked.prog 23 Try.f23 Rows.runWritesSpec Rows.runWritesRow = true := by
  show joinedFacts Try.prog 23 Try.f23 Rows.runWritesSpec Rows.runWritesRow = true
  unfold joinedFacts
  rw [make_, enter_, lifts_]
  kernel_rfl

theorem RunWrites_holds : Rows.RunWritesSaid :=
  OpenClaim.holds_of_wide 23 Try.f23 rfl rfl rfl rfl rfl rfl rfl ⟨rfl, rfl, rfl, rfl, rfl⟩ rfl rfl rfl rfl rfl (by kernel_rfl) Try.func23 runWrites_facts
    (of_decide_eq_true (by kernel_rfl)) (by unfold Func.isWrapper; first | (rw [if_pos (by decide +kernel)]; kernel_rfl) | (rw [if_neg (by decide +kernel)]; exact ⟨rfl, rfl⟩))
    (fun os started H enc _ => runWrites_lifted os started H enc)


end Go.Proofs.Ytohoimokfgfceaa.K
