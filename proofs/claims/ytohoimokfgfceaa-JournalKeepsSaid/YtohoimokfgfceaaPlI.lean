/-
  place's statements: a disk that is made; its names; reads of which is known what they tell.
-/
import Derived.Test.YtohoimokfgfceaaPlH
namespace Go.Proofs.Ytohoimokfgfceaa.K
open Go Go.Proofs Go.ChangeShapes Go.WideShapes Go.ChangeAt Go.RowKit
variable {Γ Γ' : Mem} {L L' L'' : List HP} {w w' : World} {A B : HP}
set_option maxRecDepth 100000
set_option maxHeartbeats 1000000

theorem dNamesFrozenQuiet_ok {a : Nat} {m : DiskM} {K : (Sl × Int) → World → Prop} (h : Sat Γ (PDisk a m :: L) w) (hq : quiet m) (hg : m.g < 1000000000000)
    (k : ∀ s Γ' w', Γ.le Γ' → Lst eStr Γ' s (m.now.map Prod.fst) → Sat Γ' (PDisk a m :: L) w' → K (s, 0) w') :
    CallP Try.prog 67 [.pointer (some ⟨a, 0, none⟩)] (.tup [.s .sl, .s (.int .i64)]) K w := dNamesQuiet_ok h hq hg k

theorem dSyncNamesQuietG_ok {a : Nat} {m : DiskM} {K : Int → World → Prop} (h : Sat Γ (PDisk a m :: L) w) (hq : quiet m) (hg : m.g < 1000000000000) (k : ∀ w', quiet m.syncNames.1 → m.syncNames.1.g = m.g → DiskM.Syn (m.syncNames.1.now.map Prod.fst) 0 m.syncNames.1 → Sat Γ (PDisk a m.syncNames.1 :: L) w' → K 0 w') :
    CallP Try.prog 77 [.pointer (some ⟨a, 0, none⟩)] (.one (.s (.int .i64))) K w :=
  dSyncNamesQuiet_ok h hq hg fun w' h2 => k w' (DiskM.quiet_syncNames hq) (syncNames_g m) (by have := DiskM.syn_start (pd_wf h) hq; rwa [← this.nm] at this) h2

theorem namesP_ok {a : Nat} {m : DiskM} {K : Sl → World → Prop} (h : Sat Γ (PDisk a m :: L) w) (hq : quiet m) (hg : m.g < 1000000000000)
    (k : ∀ s Γ' w', Γ.le Γ' → Lst eStr Γ' s (m.now.map Prod.fst) → Sat Γ' (PDisk a m :: L) w' → K s w') :
    CallP Try.prog 85 [.pointer (some ⟨a, 0, none⟩)] (.one (.s .sl)) K w := by
  refine callP (fn := Try.f85) [.s (.ptr (some ⟨a, 0, none⟩))] .n nong mixed (by kernel_rfl) (by kernel_rfl) rfl rfl ?_
  refine dNamesFrozenQuiet_ok h hq hg (fun av1 aΓ2 _ ag4 af5 h => ?_)
  obtain ⟨laf5, maf5, caf5⟩ := af5.lens
  refine ⟨_, rfl, ?_⟩
  refine k _ _ _ ag4 af5 h

theorem madeP_ok {r : Int} {s : Sl} {l : List ActP} {K : Option Addr → World → Prop} (h : Sat Γ L w) (hl : Lst eActP Γ s l)
    (k : ∀ a m Γ' w', Γ.le Γ' → quiet m → Wf m → m.g ≤ 80000 → Sat Γ' (PDisk a m :: L) w' → K (some ⟨a, 0, none⟩) w') :
    CallP Try.prog 84 [.int .i64 r, .slice s.p s.len s.cap] (.one (.s .ptr)) K w := by
  refine callP (fn := Try.f84) [.s (.int .i64 r), .s (.sl s)] (.p .n (.p .n (.p (.p .n (.b (.l [12, 11, 5] [(13, .s (.int .i64))] (.p .n (.p .n (.p (.b (.p .n (.p .n (.k [13, 12, 11, 5] [] .n)))) .n)))))) .n))) nong mixed (by kernel_rfl) (by kernel_rfl) rfl rfl ?_
  have hfl := fewP_len l
  have hqn : quiet (.new r) := ⟨rfl, rfl⟩
  obtain ⟨lhl, mhl, chl⟩ := hl.lens
  refine dNew_ok h (fun av1 _ h => ?_)
  refine fewP_ok h hl (fun av5 aΓ6 _ ag8 af9 h => ?_)
  have hl := hl.mono ag8
  obtain ⟨laf9, maf9, caf9⟩ := af9.lens
  rotate_left
  refine loop (σ := Int) (fun st w' n => ∃ (i : Nat) (m : DiskM) (Γ' : Mem), st = (i : Int) ∧ i ≤ (fewP l).length ∧ n = (fewP l).length - i ∧ Wf m ∧ quiet m ∧ m.g ≤ 2000 * i ∧ aΓ6.le Γ' ∧
      Sat Γ' (PDisk av1 m :: L) w') (fewP l).length
    ⟨0, .new r, aΓ6, rfl, by omega, by omega, .new r, hqn, Nat.zero_le _, .refl _, h⟩ ?_
  clear h
  rintro _ w n ⟨i, m, Γ3, rfl, hi, hn, hw, hq, hg, g3, h⟩
  have af9 := af9.mono g3
  by_cases hil : i < (fewP l).length
  · obtain ⟨x, ex⟩ := get_lt hil
    have hsx := fewP_small x (List.mem_of_getElem? ex)
    obtain ⟨hw2, hq2, hg2⟩ := DiskM.actW_ok (m := m) hsx hw hq
    obtain ⟨hx1, hx2, hx3, hx4⟩ := hsx
    have hkl := x.kind.toNat_lt
    unfold DiskM.actW at hw2 hq2 hg2
    by_cases h0 : x.kind.toNat % 3 = 0
    · rw [if_pos h0] at hw2 hq2 hg2
      have hl := hl.mono g3
      refine brD (fun bb0 => ?_) (fun bb0 => by exfalso; omega)
      refine ⟨by omega, ?_⟩
      refine nnL h af9 (fun ba1 bha1 => ?_)
      refine ldL h af9 bha1 ex (fun by2 bhy2 => ?_)
      obtain ⟨by2s, by2t, by2u, bhy2a, bhy2b, bhy2c, bhy2d, bhy2e⟩ := eActP_after bhy2
      subst bhy2e
      obtain ⟨lbhy2a, mbhy2a, cbhy2a⟩ := bhy2a.lens
      obtain ⟨lbhy2b, mbhy2b, cbhy2b⟩ := bhy2b.lens
      obtain ⟨lbhy2c, mbhy2c, cbhy2c⟩ := bhy2c.lens
      refine new h fun br3 _ h => ?_
      have h := h.asA (B := blk br3 (.cells #[Value.int IntKind.u8 0, Value.string (ByteArray.mk #[]), Value.slice none 0 0, Value.slice none 0 0, Value.int IntKind.i64 0, Value.slice none 0 0, Value.int IntKind.i64 0] 111 (0, 0))) (by kernel_rfl)
      refine stNs h .n0 fun _ h => ?_
      have h := h.asA (B := blk br3 (.cells #[Value.int IntKind.u8 ((↑x.kind.toNat : Int), str x.name, by2s, by2t, x.wn, by2u, x.n).fst, Value.string ((↑x.kind.toNat : Int), str x.name, by2s, by2t, x.wn, by2u, x.n).snd.fst, Value.slice ((↑x.kind.toNat : Int), str x.name, by2s, by2t, x.wn, by2u, x.n).snd.snd.fst.p ((↑x.kind.toNat : Int), str x.name, by2s, by2t, x.wn, by2u, x.n).snd.snd.fst.len ((↑x.kind.toNat : Int), str x.name, by2s, by2t, x.wn, by2u, x.n).snd.snd.fst.cap, Value.slice ((↑x.kind.toNat : Int), str x.name, by2s, by2t, x.wn, by2u, x.n).snd.snd.snd.fst.p ((↑x.kind.toNat : Int), str x.name, by2s, by2t, x.wn, by2u, x.n).snd.snd.snd.fst.len ((↑x.kind.toNat : Int), str x.name, by2s, by2t, x.wn, by2u, x.n).snd.snd.snd.fst.cap, Value.int IntKind.i64 ((↑x.kind.toNat : Int), str x.name, by2s, by2t, x.wn, by2u, x.n).snd.snd.snd.snd.fst, Value.slice ((↑x.kind.toNat : Int), str x.name, by2s, by2t, x.wn, by2u, x.n).snd.snd.snd.snd.snd.fst.p ((↑x.kind.toNat : Int), str x.name, by2s, by2t, x.wn, by2u, x.n).snd.snd.snd.snd.snd.fst.len ((↑x.kind.toNat : Int), str x.name, by2s, by2t, x.wn, by2u, x.n).snd.snd.snd.snd.snd.fst.cap, Value.int IntKind.i64 ((↑x.kind.toNat : Int), str x.name, by2s, by2t, x.wn, by2u, x.n).snd.snd.snd.snd.snd.snd] 111 (0, 0))) (by kernel_rfl)
      refine ld _ h .n0 ?_
      refine ⟨by omega, ?_⟩
      refine tmd ?_
      refine joinI ?_
      refine brE (fun bb4 => ?_) (fun bb4 => by exfalso; omega)
      dsimp only at bb4
      refine ld _ h .n0 ?_
      refine ld _ h .n0 ?_
      refine dPut_ok (h.pick .n1) bhy2a (by first | omega | (dsimp only; omega) | decide) (fun bΓ6 _ bg8 h => ?_)
      have af9 := af9.mono bg8
      have hl := hl.mono bg8
      have bhy2a := bhy2a.mono bg8
      have bhy2b := bhy2b.mono bg8
      have bhy2c := bhy2c.mono bg8
      refine wrN (i + 1) ?_
      refine ⟨_, (by first | omega | rfl | (dsimp only; omega)), _, _, _, rfl, (by first | omega | rfl | (dsimp only; omega)), rfl, hw2, hq2, (by first | omega | rfl | (dsimp only; omega)), (g3.trans bg8), (h.pick .n1).drop⟩
    rw [if_neg h0] at hw2 hq2 hg2
    by_cases h1 : x.kind.toNat % 3 = 1
    · rw [if_pos h1] at hw2 hq2 hg2
      have hl := hl.mono g3
      refine brD (fun cb0 => ?_) (fun cb0 => by exfalso; omega)
      refine ⟨by omega, ?_⟩
      refine nnL h af9 (fun ca1 cha1 => ?_)
      refine ldL h af9 cha1 ex (fun cy2 chy2 => ?_)
      obtain ⟨cy2s, cy2t, cy2u, chy2a, chy2b, chy2c, chy2d, chy2e⟩ := eActP_after chy2
      subst chy2e
      obtain ⟨lchy2a, mchy2a, cchy2a⟩ := chy2a.lens
      obtain ⟨lchy2b, mchy2b, cchy2b⟩ := chy2b.lens
      obtain ⟨lchy2c, mchy2c, cchy2c⟩ := chy2c.lens
      refine new h fun cr3 _ h => ?_
      have h := h.asA (B := blk cr3 (.cells #[Value.int IntKind.u8 0, Value.string (ByteArray.mk #[]), Value.slice none 0 0, Value.slice none 0 0, Value.int IntKind.i64 0, Value.slice none 0 0, Value.int IntKind.i64 0] 111 (0, 0))) (by kernel_rfl)
      refine stNs h .n0 fun _ h => ?_
      have h := h.asA (B := blk cr3 (.cells #[Value.int IntKind.u8 ((↑x.kind.toNat : Int), str x.name, cy2s, cy2t, x.wn, cy2u, x.n).fst, Value.string ((↑x.kind.toNat : Int), str x.name, cy2s, cy2t, x.wn, cy2u, x.n).snd.fst, Value.slice ((↑x.kind.toNat : Int), str x.name, cy2s, cy2t, x.wn, cy2u, x.n).snd.snd.fst.p ((↑x.kind.toNat : Int), str x.name, cy2s, cy2t, x.wn, cy2u, x.n).snd.snd.fst.len ((↑x.kind.toNat : Int), str x.name, cy2s, cy2t, x.wn, cy2u, x.n).snd.snd.fst.cap, Value.slice ((↑x.kind.toNat : Int), str x.name, cy2s, cy2t, x.wn, cy2u, x.n).snd.snd.snd.fst.p ((↑x.kind.toNat : Int), str x.name, cy2s, cy2t, x.wn, cy2u, x.n).snd.snd.snd.fst.len ((↑x.kind.toNat : Int), str x.name, cy2s, cy2t, x.wn, cy2u, x.n).snd.snd.snd.fst.cap, Value.int IntKind.i64 ((↑x.kind.toNat : Int), str x.name, cy2s, cy2t, x.wn, cy2u, x.n).snd.snd.snd.snd.fst, Value.slice ((↑x.kind.toNat : Int), str x.name, cy2s, cy2t, x.wn, cy2u, x.n).snd.snd.snd.snd.snd.fst.p ((↑x.kind.toNat : Int), str x.name, cy2s, cy2t, x.wn, cy2u, x.n).snd.snd.snd.snd.snd.fst.len ((↑x.kind.toNat : Int), str x.name, cy2s, cy2t, x.wn, cy2u, x.n).snd.snd.snd.snd.snd.fst.cap, Value.int IntKind.i64 ((↑x.kind.toNat : Int), str x.name, cy2s, cy2t, x.wn, cy2u, x.n).snd.snd.snd.snd.snd.snd] 111 (0, 0))) (by kernel_rfl)
      refine ld _ h .n0 ?_
      refine ⟨by omega, ?_⟩
      refine tmd ?_
      refine joinI ?_
      refine brE (fun cb4 => by exfalso; omega) (fun cb4 => ?_)
      dsimp only at cb4
      refine brE (fun cb5 => ?_) (fun cb5 => by exfalso; omega)
      dsimp only at cb5
      refine ld _ h .n0 ?_
      refine ld _ h .n0 ?_
      refine dGrowP_ok (h.pick .n1) chy2a (by first | omega | (dsimp only; omega) | decide) (fun cΓ7 _ cg9 h => ?_)
      have af9 := af9.mono cg9
      have hl := hl.mono cg9
      have chy2a := chy2a.mono cg9
      have chy2b := chy2b.mono cg9
      have chy2c := chy2c.mono cg9
      refine wrN (i + 1) ?_
      refine ⟨_, (by first | omega | rfl | (dsimp only; omega)), _, _, _, rfl, (by first | omega | rfl | (dsimp only; omega)), rfl, hw2, hq2, (by first | omega | rfl | (dsimp only; omega)), (g3.trans cg9), (h.pick .n1).drop⟩
    rw [if_neg h1] at hw2 hq2 hg2
    have hl := hl.mono g3
    refine brD (fun db0 => ?_) (fun db0 => by exfalso; omega)
    refine ⟨by omega, ?_⟩
    refine nnL h af9 (fun da1 dha1 => ?_)
    refine ldL h af9 dha1 ex (fun dy2 dhy2 => ?_)
    obtain ⟨dy2s, dy2t, dy2u, dhy2a, dhy2b, dhy2c, dhy2d, dhy2e⟩ := eActP_after dhy2
    subst dhy2e
    obtain ⟨ldhy2a, mdhy2a, cdhy2a⟩ := dhy2a.lens
    obtain ⟨ldhy2b, mdhy2b, cdhy2b⟩ := dhy2b.lens
    obtain ⟨ldhy2c, mdhy2c, cdhy2c⟩ := dhy2c.lens
    refine new h fun dr3 _ h => ?_
    have h := h.asA (B := blk dr3 (.cells #[Value.int IntKind.u8 0, Value.string (ByteArray.mk #[]), Value.slice none 0 0, Value.slice none 0 0, Value.int IntKind.i64 0, Value.slice none 0 0, Value.int IntKind.i64 0] 111 (0, 0))) (by kernel_rfl)
    refine stNs h .n0 fun _ h => ?_
    have h := h.asA (B := blk dr3 (.cells #[Value.int IntKind.u8 ((↑x.kind.toNat : Int), str x.name, dy2s, dy2t, x.wn, dy2u, x.n).fst, Value.string ((↑x.kind.toNat : Int), str x.name, dy2s, dy2t, x.wn, dy2u, x.n).snd.fst, Value.slice ((↑x.kind.toNat : Int), str x.name, dy2s, dy2t, x.wn, dy2u, x.n).snd.snd.fst.p ((↑x.kind.toNat : Int), str x.name, dy2s, dy2t, x.wn, dy2u, x.n).snd.snd.fst.len ((↑x.kind.toNat : Int), str x.name, dy2s, dy2t, x.wn, dy2u, x.n).snd.snd.fst.cap, Value.slice ((↑x.kind.toNat : Int), str x.name, dy2s, dy2t, x.wn, dy2u, x.n).snd.snd.snd.fst.p ((↑x.kind.toNat : Int), str x.name, dy2s, dy2t, x.wn, dy2u, x.n).snd.snd.snd.fst.len ((↑x.kind.toNat : Int), str x.name, dy2s, dy2t, x.wn, dy2u, x.n).snd.snd.snd.fst.cap, Value.int IntKind.i64 ((↑x.kind.toNat : Int), str x.name, dy2s, dy2t, x.wn, dy2u, x.n).snd.snd.snd.snd.fst, Value.slice ((↑x.kind.toNat : Int), str x.name, dy2s, dy2t, x.wn, dy2u, x.n).snd.snd.snd.snd.snd.fst.p ((↑x.kind.toNat : Int), str x.name, dy2s, dy2t, x.wn, dy2u, x.n).snd.snd.snd.snd.snd.fst.len ((↑x.kind.toNat : Int), str x.name, dy2s, dy2t, x.wn, dy2u, x.n).snd.snd.snd.snd.snd.fst.cap, Value.int IntKind.i64 ((↑x.kind.toNat : Int), str x.name, dy2s, dy2t, x.wn, dy2u, x.n).snd.snd.snd.snd.snd.snd] 111 (0, 0))) (by kernel_rfl)
    refine ld _ h .n0 ?_
    refine ⟨by omega, ?_⟩
    refine tmd ?_
    refine joinI ?_
    refine brE (fun db4 => by exfalso; omega) (fun db4 => ?_)
    dsimp only at db4
    refine brE (fun db5 => by exfalso; omega) (fun db5 => ?_)
    dsimp only at db5
    refine ld _ h .n0 ?_
    refine dDrop_ok (h.pick .n1) dhy2b (by first | omega | (dsimp only; omega) | decide) (fun dΓ7 _ dg9 h => ?_)
    have af9 := af9.mono dg9
    have hl := hl.mono dg9
    have dhy2a := dhy2a.mono dg9
    have dhy2b := dhy2b.mono dg9
    have dhy2c := dhy2c.mono dg9
    refine wrN (i + 1) ?_
    refine ⟨_, (by first | omega | rfl | (dsimp only; omega)), _, _, _, rfl, (by first | omega | rfl | (dsimp only; omega)), rfl, hw2, hq2, (by first | omega | rfl | (dsimp only; omega)), (g3.trans dg9), (h.pick .n1).drop⟩
  · have hl := hl.mono g3
    refine brD (fun eb0 => by exfalso; omega) (fun eb0 => ?_)
    refine ⟨_, rfl, ?_⟩
    refine k _ _ _ _ (ag8.trans g3) hq hw (by first | omega | (dsimp only; omega) | decide) h

end Go.Proofs.Ytohoimokfgfceaa.K
