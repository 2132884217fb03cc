/-
  What the disk's statements hold against each other, and the document's examples.
-/
import Derived.Test.YtohoimokfgfceaaDkB
namespace Go.Proofs.Ytohoimokfgfceaa.K
open Go Go.Proofs
variable {Γ Γ' : Mem} {L L' L'' : List HP} {w w' : World} {A B : HP}
set_option maxRecDepth 100000
set_option maxHeartbeats 4000000

theorem texts_ok {s t : Sl} {l m : List Str} {K : Bool → World → Prop} (h : Sat Γ L w) (hl : Lst eStr Γ s l) (hm : Lst eStr Γ t m) (k1 : l = m → ∀ w', Sat Γ L w' → K true w') (k2 : l ≠ m → ∀ w', Sat Γ L w' → K false w') :
    CallP Try.prog 78 [.slice s.p s.len s.cap, .slice t.p t.len t.cap] (.one (.s .bool)) K w := by
  obtain ⟨hlen, hsm, _⟩ := hl.lens
  obtain ⟨hlen2, hsm2, _⟩ := hm.lens
  refine callP (fn := Try.f78) [.s (.sl s), .s (.sl t)] (.p .n (.p .n (.p (.p .n (.b (.l [12, 1, 0] [(13, .s (.int .i64))] (.p .n (.p .n (.p (.b (.p .n (.p .s .n))) .n)))))) .n))) nong mixed (by kernel_rfl) (by kernel_rfl) rfl rfl ?_
  by_cases hne : l.length = m.length
  · refine brN (fun ab0 => by exfalso; omega) (fun ab0 => ?_)
    rotate_left
    refine loop (σ := Int) (fun st w' n => ∃ i : Nat, st = (i : Int) ∧ i ≤ l.length ∧ n = l.length - i ∧ l.take i = m.take i ∧ Sat Γ L w') l.length ⟨0, rfl, by omega, by omega, rfl, h⟩ ?_
    clear h
    rintro _ w n ⟨i, rfl, hi, hn, he, h⟩
    by_cases hil : i < l.length
    · obtain ⟨x, ex⟩ := get_lt hil
      obtain ⟨y, ey⟩ := get_lt (xs := m) (i := i) (by omega)
      have htl : l.take (i + 1) = l.take i ++ [x] := by rw [List.take_add_one, ex]; rfl
      have htm : m.take (i + 1) = m.take i ++ [y] := by rw [List.take_add_one, ey]; rfl
      by_cases hxy : x = y
      · have he2 : l.take (i + 1) = m.take (i + 1) := by rw [htl, htm, he, hxy]
        refine brD (fun bb0 => ?_) (fun bb0 => by exfalso; omega)
        refine dr h fun _ h => ?_
        refine ⟨by omega, ?_⟩
        refine nnL h hl (fun ba1 bha1 => ?_)
        refine ldL' h hl bha1 (i := i) (fun bx2 be2 by2 bhy2 => ?_)
        have bhy2 : by2 = str bx2 := bhy2
        subst bhy2
        refine ⟨by omega, ?_⟩
        refine nnL h hm (fun ba3 bha3 => ?_)
        refine ldL' h hm bha3 (i := i) (fun bx4 be4 by4 bhy4 => ?_)
        have bhy4 : by4 = str bx4 := bhy4
        subst bhy4
        refine brSn (fun bb5 => ?_) (fun bb5 => ?_)
        refine ⟨_, rfl, ?_⟩
        refine k2 ?_ _ h
        rotate_left
        refine wrN (i + 1) ?_
        refine ⟨_, (by first | omega | rfl | (dsimp only; omega)), _, rfl, (by first | omega | rfl | (dsimp only; omega)), rfl, he2, h⟩
        exact fun _ => bb5 (by rw [← Option.some.inj (ex.symm.trans be2), ← Option.some.inj (ey.symm.trans be4), hxy])
      · have hlm : l ≠ m := fun e => by rw [e, ey] at ex; exact hxy (Option.some.inj ex).symm
        refine brD (fun cb0 => ?_) (fun cb0 => by exfalso; omega)
        refine dr h fun _ h => ?_
        refine ⟨by omega, ?_⟩
        refine nnL h hl (fun ca1 cha1 => ?_)
        refine ldL' h hl cha1 (i := i) (fun cx2 ce2 cy2 chy2 => ?_)
        have chy2 : cy2 = str cx2 := chy2
        subst chy2
        refine ⟨by omega, ?_⟩
        refine nnL h hm (fun ca3 cha3 => ?_)
        refine ldL' h hm cha3 (i := i) (fun cx4 ce4 cy4 chy4 => ?_)
        have chy4 : cy4 = str cx4 := chy4
        subst chy4
        refine brSn (fun cb5 => ?_) (fun cb5 => ?_)
        refine ⟨_, rfl, ?_⟩
        refine k2 hlm _ h
        refine wrN (i + 1) ?_
        refine ⟨_, (by first | omega | rfl | (dsimp only; omega)), _, rfl, (by first | omega | rfl | (dsimp only; omega)), rfl, ?_, h⟩
        rotate_left
        exact absurd ((Option.some.inj (ex.symm.trans ce2)).trans (cb5.trans (Option.some.inj (ce4.symm.trans ey)))) hxy
    · have : i = l.length := by omega
      subst this
      have hlm : l = m := by rw [List.take_length, hne, List.take_length] at he; exact he
      refine brD (fun db0 => by exfalso; omega) (fun db0 => ?_)
      refine ⟨_, rfl, ?_⟩
      refine k1 hlm _ h
  · have hlm : l ≠ m := fun e => hne (by rw [e])
    refine brN (fun eb0 => ?_) (fun eb0 => by exfalso; omega)
    refine ⟨_, rfl, ?_⟩
    refine k2 hlm _ h

def quiet (m : DiskM) : Prop := m.down = false ∧ m.doomed = false
theorem quiet.up {m : DiskM} (h : quiet m) : m.up = true := by simp [DiskM.up, h.1, h.2]
theorem quiet.tick {m : DiskM} (h : quiet m) : m.tick = m := by simp [DiskM.tick, h.1, h.2]

theorem mk5_pr {K : Sl → World → Prop} (h : Sat Γ L w) (k : ∀ s Γ' w', Γ.le Γ' → Bytes Γ' s [0, 0, 0, 0, 0] → Sat Γ' L w' → K s w') :
    Prim Try.prog (Instr.makeSlice 32 (.int .i64 5) (.int .i64 5)) (.one (.s .sl)) K w := mkO (E := eByte) (n := 5) (c := 5) (0 : Int) (0 : UInt8) slBytes h (by decide) rfl (by decide) fun s w' e _ h => by
    obtain ⟨Γ', g, f, h⟩ := h.olFreeze .n0 (by omega)
    exact k s Γ' w' g f.bytes h

theorem mk8_pr {K : Sl → World → Prop} (h : Sat Γ L w) (k : ∀ s Γ' w', Γ.le Γ' → Bytes Γ' s [0, 0, 0, 0, 0, 0, 0, 0] → Sat Γ' L w' → K s w') :
    Prim Try.prog (Instr.makeSlice 32 (.int .i64 8) (.int .i64 8)) (.one (.s .sl)) K w := mkO (E := eByte) (n := 8) (c := 8) (0 : Int) (0 : UInt8) slBytes h (by decide) rfl (by decide) fun s w' e _ h => by
    obtain ⟨Γ', g, f, h⟩ := h.olFreeze .n0 (by omega)
    exact k s Γ' w' g f.bytes h

theorem shown_ok {K : Bool → World → Prop} (h : Sat Γ L w) (k : ∀ Γ' w', Γ.le Γ' → Sat Γ' L w' → K true w') :
    CallP Try.prog 60 [] (.one (.s .bool)) K w := by
  refine callP (fn := Try.f60) [] (.p .n (.p .n (.j [1] [] .n (.p .n (.j [1] [] .n .n))))) nong mixed (by kernel_rfl) (by kernel_rfl) rfl rfl ?_
  refine dNew_ok h (fun av1 _ h => ?_)
  refine joinI ?_
  refine brF ?_
  refine dCreate_ok h (by first | omega | decide) (fun _ h => ?_)
  refine brF ?_
  refine mk5_pr h (fun av8 aΓ9 _ ag11 af12 h => ?_)
  obtain ⟨laf12, maf12, caf12⟩ := af12.lens
  refine dAppend_ok h af12 (by first | omega | decide) (fun aΓ15 _ ag17 h => ?_)
  have af12 := af12.mono ag17
  refine brF ?_
  refine dCrash_ok h (by first | omega | decide) (.nil _ _) (fun _ h => ?_)
  refine brF ?_
  refine dNamesE_ok h (by first | omega | decide) (fun av23 _ h => ?_)
  refine joinI ?_
  refine brN (fun ab26 => ?_) (fun ab26 => ?_)
  dsimp only at ab26
  refine ⟨_, rfl, ?_⟩
  rotate_left
  dsimp only at ab26
  refine brF ?_
  refine dCreate_ok (h.pick .n1) (by first | omega | decide) (fun _ h => ?_)
  refine brF ?_
  refine dSyncNames_ok h (by first | omega | decide) (fun _ h => ?_)
  refine brF ?_
  refine mk5_pr h (fun av34 aΓ35 _ ag37 af38 h => ?_)
  have af12 := af12.mono ag37
  obtain ⟨laf38, maf38, caf38⟩ := af38.lens
  refine dAppend_ok h af38 (by first | omega | decide) (fun aΓ41 _ ag43 h => ?_)
  have af38 := af38.mono ag43
  have af12 := af12.mono ag43
  refine brF ?_
  refine new h fun ar45 _ h => ?_
  rotate_left
  · have e := h.olLen .n0
    exact absurd (by rw [e]; rfl) ab26
  · have h2 := Sat.whole (n := 1) (sz := 1) h rfl
    have h3 := Sat.toOl (E := eInt) (ys := [(2 : Int)]) (xs := [(2 : Int)]) h2 (.cons rfl .nil)
    obtain ⟨Γ2, g2, f2, h⟩ := h3.olFreeze .n0 (by dsimp only; omega)
    have e0 := h.olLen .n1
    refine dCrash_ok (n := 0) (h.pick .n0) (by decide) f2 fun _ h => ?_
    have af38 := af38.mono g2
    have af12 := af12.mono g2
    refine brF ?_
    refine dRead_ok h (by first | omega | decide) (fun bv1 bΓ2 _ bg4 bf5 h => ?_)
    have f2 := f2.mono bg4
    have af38 := af38.mono bg4
    have af12 := af12.mono bg4
    obtain ⟨lbf5, mbf5, cbf5⟩ := bf5.lens
    refine brE (fun bb7 => ?_) (fun bb7 => ?_)
    dsimp only at bb7
    refine brT ?_
    refine mk8_pr h (fun bv9 bΓ10 _ bg12 bf13 h => ?_)
    have bf5 := bf5.mono bg12
    have f2 := f2.mono bg12
    have af38 := af38.mono bg12
    have af12 := af12.mono bg12
    obtain ⟨lbf13, mbf13, cbf13⟩ := bf13.lens
    refine dAppend_ok h bf13 (by first | omega | decide) (fun bΓ16 _ bg18 h => ?_)
    have bf13 := bf13.mono bg18
    have bf5 := bf5.mono bg18
    have f2 := f2.mono bg18
    have af38 := af38.mono bg18
    have af12 := af12.mono bg18
    refine ⟨_, rfl, ?_⟩
    refine k _ _ (ag11.trans (ag17.trans (ag37.trans (ag43.trans (g2.trans (bg4.trans (bg12.trans bg18))))))) h.drop.drop
    dsimp only at bb7
    refine ⟨_, rfl, ?_⟩
    rotate_left
    exact absurd (by rw [bf5.len]; rfl) bb7

theorem dNamesQuiet_ok {a : Nat} {m : DiskM} {K : (Sl × Int) → World → Prop} (h : Sat Γ (PDisk a m :: L) w) (hq : quiet m) (hg : m.g < 1000000000000)
    (k : ∀ s Γ' w', Γ.le Γ' → Lst eStr Γ' s (m.now.map Prod.fst) → Sat Γ' (PDisk a m :: L) w' → K (s, 0) w') :
    CallP Try.prog 67 [.pointer (some ⟨a, 0, none⟩)] (.tup [.s .sl, .s (.int .i64)]) K w := by
  obtain ⟨ps, h0⟩ := h.pd
  have hw := (Sat.pdOK (M := filesL ps m.files) h0).wf
  have hl := hw.nowLen
  refine dNames_ok h hg (fun hu _ _ => ?_) fun hu s w' h => ?_
  · rw [hq.up] at hu; cases hu
  · rw [hq.tick] at h
    have e := h.olLen .n0
    rw [List.length_map] at e
    obtain ⟨Γ', g, f, h⟩ := h.olFreeze .n0 (by omega)
    exact k s Γ' w' g f h

theorem dReadQuiet_ok {a : Nat} {m : DiskM} {s : Str} {K : (Sl × Int) → World → Prop} (h : Sat Γ (PDisk a m :: L) w) (hq : quiet m) (hg : m.g < 1000000000000)
    (k : ∀ t Γ' w', Γ.le Γ' → Bytes Γ' t (m.read s).2.1 → Sat Γ' (PDisk a m :: L) w' → K (t, (m.read s).2.2) w') :
    CallP Try.prog 53 [.pointer (some ⟨a, 0, none⟩), .string (str s)] (.tup [.s .sl, .s (.int .i64)]) K w :=
  dRead_ok h hg fun t Γ' w' g f h => k t Γ' w' g f (by
    have e : (m.read s).1 = m := by
      unfold DiskM.read
      rw [hq.up, hq.tick]
      dsimp only
      split
      · rfl
      · split <;> rfl
    rw [e] at h
    exact h)

theorem alike_ok {a b : Nat} {m1 m2 : DiskM} {K : Bool → World → Prop} (h : Sat Γ (PDisk a m1 :: PDisk b m2 :: L) w) (hq1 : quiet m1) (hq2 : quiet m2) (hg1 : m1.g < 1000000000000) (hg2 : m2.g < 1000000000000)
    (hn : m1.now.map Prod.fst = m2.now.map Prod.fst) (hr : ∀ s ∈ m2.now.map Prod.fst, (m1.read s).2 = (m2.read s).2) (k : ∀ Γ' w', Γ.le Γ' → Sat Γ' (PDisk a m1 :: PDisk b m2 :: L) w' → K true w') :
    CallP Try.prog 65 [.pointer (some ⟨a, 0, none⟩), .pointer (some ⟨b, 0, none⟩)] (.one (.s .bool)) K w := by
  refine callP (fn := Try.f65) [.s (.ptr (some ⟨a, 0, none⟩)), .s (.ptr (some ⟨b, 0, none⟩))] (.p .n (.p .n (.p .n (.j [7, 1, 0] [] .n (.p (.p .n (.b (.l [35, 1, 0, 34] [(36, .s (.int .i64))] (.p .n (.p .n (.p (.k [36, 35, 1, 0, 34] [] .n) .n)))))) .n))))) nong mixed (by kernel_rfl) (by kernel_rfl) rfl rfl ?_
  refine dNamesQuiet_ok h hq1 hg1 (fun av1 aΓ2 _ ag4 af5 h => ?_)
  obtain ⟨laf5, maf5, caf5⟩ := af5.lens
  refine dNamesQuiet_ok (h.pick .n1) hq2 hg2 (fun av8 aΓ9 _ ag11 af12 h => ?_)
  have af5 := af5.mono ag11
  obtain ⟨laf12, maf12, caf12⟩ := af12.lens
  refine joinI ?_
  refine texts_ok h af5 af12 (fun ap15 _ h => ?_) (fun ap18 _ h => ?_)
  refine brF ?_
  refine brF ?_
  rotate_left
  refine brT ?_
  refine ⟨_, rfl, ?_⟩
  contradiction
  refine loop (σ := Int) (fun st w' n => ∃ (i : Nat) (Γ' : Mem), st = (i : Int) ∧ i ≤ (m2.now.map Prod.fst).length ∧ n = (m2.now.map Prod.fst).length - i ∧ aΓ9.le Γ' ∧ Sat Γ' (PDisk a m1 :: PDisk b m2 :: L) w') (m2.now.map Prod.fst).length ⟨0, aΓ9, rfl, by omega, by omega, .refl _, h.pick .n1⟩ ?_
  clear h
  rintro _ w n ⟨i, Γ3, rfl, hi, hn2, g3, h⟩
  have af13 := af12.mono g3
  by_cases hil : i < (m2.now.map Prod.fst).length
  · obtain ⟨s, es⟩ := get_lt hil
    have hrs := hr s (List.mem_of_getElem? es)
    have hr1 : (m1.read s).2.1 = (m2.read s).2.1 := congrArg Prod.fst hrs
    have hr2 : (m1.read s).2.2 = (m2.read s).2.2 := congrArg Prod.snd hrs
    have af12 := af12.mono g3
    have af5 := af5.mono g3
    refine brD (fun bb0 => ?_) (fun bb0 => ?_)
    dsimp only at bb0
    refine joinI ?_
    refine ⟨by dsimp only; omega, ?_⟩
    refine nnL h af12 (fun ba1 bha1 => ?_)
    dsimp only at bha1
    refine ldL h af12 bha1 es (fun by2 bhy2 => ?_)
    have bhy2 : by2 = str s := bhy2
    subst bhy2
    refine dReadQuiet_ok h hq1 hg1 (fun bv4 bΓ5 _ bg7 bf8 h => ?_)
    have af13 := af13.mono bg7
    have af12 := af12.mono bg7
    have af5 := af5.mono bg7
    obtain ⟨lbf8, mbf8, cbf8⟩ := bf8.lens
    refine dReadQuiet_ok (h.pick .n1) hq2 hg2 (fun bv11 bΓ12 _ bg14 bf15 h => ?_)
    have bf8 := bf8.mono bg14
    have af13 := af13.mono bg14
    have af12 := af12.mono bg14
    have af5 := af5.mono bg14
    obtain ⟨lbf15, mbf15, cbf15⟩ := bf15.lens
    refine btoS h bf8 ?_
    refine btoS h bf15 ?_
    refine brSn (fun bb17 => ?_) (fun bb17 => ?_)
    refine ⟨_, rfl, ?_⟩
    contradiction
    refine brN (fun bb18 => by exfalso; omega) (fun bb18 => ?_)
    dsimp only at bb18
    refine wrN (i + 1) ?_
    refine ⟨_, (by first | omega | rfl | (dsimp only; omega)), _, _, rfl, (by first | omega | rfl | (dsimp only; omega)), rfl, (g3.trans (bg7.trans bg14)), (h.pick .n1)⟩
    dsimp only at bb0
    refine ⟨_, rfl, ?_⟩
    refine k _ _ (ag4.trans (ag11.trans g3)) ((h.pick .n1).pick .n1)
  · have af12 := af12.mono g3
    have af5 := af5.mono g3
    refine brD (fun cb0 => ?_) (fun cb0 => ?_)
    dsimp only at cb0
    refine joinI ?_
    refine ⟨by omega, ?_⟩
    refine nnL h af12 (fun ca1 cha1 => ?_)
    dsimp only at cha1
    refine ldL' h af12 cha1 (i := i) (fun cx2 ce2 cy2 chy2 => ?_)
    have chy2 : cy2 = str cx2 := chy2
    subst chy2
    refine dReadQuiet_ok h hq1 hg1 (fun cv4 cΓ5 _ cg7 cf8 h => ?_)
    have af13 := af13.mono cg7
    have af12 := af12.mono cg7
    have af5 := af5.mono cg7
    obtain ⟨lcf8, mcf8, ccf8⟩ := cf8.lens
    refine dReadQuiet_ok (h.pick .n1) hq2 hg2 (fun cv11 cΓ12 _ cg14 cf15 h => ?_)
    have cf8 := cf8.mono cg14
    have af13 := af13.mono cg14
    have af12 := af12.mono cg14
    have af5 := af5.mono cg14
    obtain ⟨lcf15, mcf15, ccf15⟩ := cf15.lens
    refine btoS h cf8 ?_
    refine btoS h cf15 ?_
    refine brSn (fun cb17 => ?_) (fun cb17 => ?_)
    refine ⟨_, rfl, ?_⟩
    (exfalso; omega)
    refine brN (fun cb18 => by exfalso; omega) (fun cb18 => ?_)
    dsimp only at cb18
    refine wrN (i + 1) ?_
    refine ⟨_, (by first | omega | rfl | (dsimp only; omega)), _, _, rfl, (by first | omega | rfl | (dsimp only; omega)), rfl, (g3.trans (cg7.trans cg14)), (h.pick .n1)⟩
    dsimp only at cb0
    refine ⟨_, rfl, ?_⟩
    refine k _ _ (ag4.trans (ag11.trans g3)) ((h.pick .n1).pick .n1)

end Go.Proofs.Ytohoimokfgfceaa.K
