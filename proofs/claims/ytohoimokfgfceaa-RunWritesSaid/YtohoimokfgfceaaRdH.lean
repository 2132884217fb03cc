/-
  The reference's disk: all names; a crash; another disk that is the same.
-/
import Derived.Test.YtohoimokfgfceaaRdF
import Derived.Test.YtohoimokfgfceaaDkA
namespace Go.Proofs.Ytohoimokfgfceaa.K
open Go Go.Proofs
variable {Γ Γ' : Mem} {L L' L'' : List HP} {w w' : World} {A B : HP}
set_option maxRecDepth 100000
set_option maxHeartbeats 1000000

theorem rSyncNames_ok {a : Nat} {m : DiskM} {K : Int → World → Prop} (h : Sat Γ (RDisk a m :: L) w) (hg : m.g < 1000000000000) (k : ∀ Γ' w', Γ.le Γ' → Sat Γ' (RDisk a m.syncNames.1 :: L) w' → K m.syncNames.2 w') :
    CallP Try.prog 131 [.pointer (some ⟨a, 0, none⟩)] (.one (.s (.int .i64))) K w := by
  have hw := h.rdWf
  have hnl := hw.nowLen
  refine callP (fn := Try.f131) [.s (.ptr (some ⟨a, 0, none⟩))] .n nong mixed (by kernel_rfl) (by kernel_rfl) rfl rfl ?_
  cases hu : m.up with
  | false =>
    rw [DiskM.syncNames_down hu] at k
    refine rdDownNo_ok h hu (fun _ h => ?_)
    refine brT ?_
    refine ⟨_, rfl, ?_⟩
    refine k _ _ (.refl _) h
  | true =>
    refine rdDownUp_ok h hu fun _ h => ?_
    obtain ⟨fl, nl, kl, cl, left, rn, rk, rc, rl, rw5, h⟩ := h.rdO
    rw [DiskM.syncNames_up hu] at k
    have hwf : Wf { m.tick with kept := m.now, changes := [] } := by
      rw [← tick_now (d := m)]
      exact rw5.synced
    have k2 : ∀ Γ' w' kl', Γ.le Γ' → Lst eNameR Γ' nl m.now → Lst eNameR Γ' kl' m.now → Sat Γ' (blk a (.cells #[slv fl, slv nl, slv kl', .slice none 0 0, .int .i64 m.room, .bool m.tick.down, .bool m.tick.doomed, .int .i64 left] TRDisk (0, 0)) :: OL eFileR TRFile fl m.files :: L) w' → K 0 w' :=
      fun Γ' w' kl' g a1 a2 h => k Γ' w' g (by
        rw [← tick_room (d := m), ← tick_files (d := m)] at h
        exact Sat.toRd (m := { m.tick with kept := m.now, changes := [] }) (left := left) (cl := ⟨none, 0, 0⟩) h ⟨by rw [← tick_now (d := m)] at a1; exact a1, a2, .nil _ _, rl, hwf⟩)
    clear k
    obtain ⟨lrn, mrn, crn⟩ := rn.lens
    obtain ⟨lrk, mrk, crk⟩ := rk.lens
    obtain ⟨lrc, mrc, crc⟩ := rc.lens
    refine brF ?_
    refine new h fun br0 _ h => ?_
    have h := h.asA (B := blk br0 (.cells #[] 191 (0, 0))) (by kernel_rfl)
    refine ⟨_, rfl, ?_⟩
    refine ld _ h .n1 ?_
    have h := (h.pick .n0).olEmpty (E := eNameR)
    refine appL slNameR h .n0 rn (fun bs1 _ bl1 h => ?_)
    dsimp only at bl1
    refine ⟨_, rfl, ?_⟩
    refine st h .n1 fun _ h => ?_
    have h := h.asA (B := blk a (.cells #[Value.slice fl.p fl.len fl.cap, Value.slice nl.p nl.len nl.cap, Value.slice bs1.p bs1.len bs1.cap, Value.slice cl.p cl.len cl.cap, Value.int IntKind.i64 m.room, Value.bool m.tick.down, Value.bool m.tick.doomed, Value.int IntKind.i64 left] 188 (0, 0))) (by kernel_rfl)
    refine ⟨_, rfl, ?_⟩
    refine st h .n0 fun _ h => ?_
    have h := h.asA (B := blk a (.cells #[Value.slice fl.p fl.len fl.cap, Value.slice nl.p nl.len nl.cap, Value.slice bs1.p bs1.len bs1.cap, Value.slice (Sl.mk none 0 0).p (Sl.mk none 0 0).len (Sl.mk none 0 0).cap, Value.int IntKind.i64 m.room, Value.bool m.tick.down, Value.bool m.tick.doomed, Value.int IntKind.i64 left] 188 (0, 0))) (by kernel_rfl)
    refine ⟨_, rfl, ?_⟩
    rotate_left
    obtain ⟨Γ9, g9, f9, h⟩ := h.olFreeze (E := eNameR) (T := TRName) (by repeat (first | with_reducible exact Pick.here | apply Pick.there)) (by omega)
    rw [List.nil_append] at f9
    have rn := rn.mono g9
    have rk := rk.mono g9
    have rc := rc.mono g9
    refine k2 _ _ _ g9 rn f9 ((h.pick .n1).pick .n1)

theorem rNames_ok {a : Nat} {m : DiskM} {K : (Sl × Int) → World → Prop} (h : Sat Γ (RDisk a m :: L) w) (hg : m.g < 1000000000000) (k : ∀ s Γ' w', Γ.le Γ' → Lst eStr Γ' s m.names.2.1 → Sat Γ' (RDisk a m.names.1 :: L) w' → K (s, m.names.2.2) w') :
    CallP Try.prog 132 [.pointer (some ⟨a, 0, none⟩)] (.tup [.s .sl, .s (.int .i64)]) K w := by
  have hw := h.rdWf
  have hnl := hw.nowLen
  refine callP (fn := Try.f132) [.s (.ptr (some ⟨a, 0, none⟩))] (.p .n (.p .n (.p .n (.p (.p .n (.b (.l [0] [(4, .s .sl), (5, .s (.int .i64))] .n))) .n)))) nong mixed (by kernel_rfl) (by kernel_rfl) rfl rfl ?_
  cases hu : m.up with
  | false =>
    rw [DiskM.names_down hu] at k
    have k2 : ∀ w', Sat Γ (RDisk a m.tick :: L) w' → K (⟨none, 0, 0⟩, 40) w' := fun w' h => k ⟨none, 0, 0⟩ Γ w' (.refl _) (.nil _ _) h
    clear k
    refine rdDownNo_ok h hu (fun _ h => ?_)
    refine brT ?_
    refine ret2 _ _ ?_
    refine k2 _ h
  | true =>
    refine rdDownUp_ok h hu fun _ h => ?_
    obtain ⟨fl, nl, kl, cl, left, rn, rk, rc, rl, rw5, h⟩ := h.rdO
    rw [DiskM.names_up hu] at k
    have k2 : ∀ s Γ' w', Γ.le Γ' → Lst eStr Γ' s (m.now.map Prod.fst) → Lst eNameR Γ' nl m.now → Lst eNameR Γ' kl m.kept → Lst eChgR Γ' cl m.changes →
        Sat Γ' (blk a (.cells #[slv fl, slv nl, slv kl, slv cl, .int .i64 m.room, .bool m.tick.down, .bool m.tick.doomed, .int .i64 left] TRDisk (0, 0)) :: OL eFileR TRFile fl m.files :: L) w' → K (s, 0) w' :=
      fun s Γ' w' g f a1 a2 a3 h => k s Γ' w' g f (h.rdI a1 a2 a3 rl rw5)
    clear k
    obtain ⟨lrn, mrn, crn⟩ := rn.lens
    obtain ⟨lrk, mrk, crk⟩ := rk.lens
    obtain ⟨lrc, mrc, crc⟩ := rc.lens
    refine brF ?_
    rotate_left
    refine loop (σ := Sl × Int) (fun st w' u => ∃ (o : Sl) (i : Nat), st = (o, (i : Int)) ∧ i ≤ m.now.length ∧ u = m.now.length - i ∧
      Sat Γ (OL eStr 9 o ((m.now.take i).map Prod.fst) :: blk a (.cells #[slv fl, slv nl, slv kl, slv cl, .int .i64 m.room, .bool m.tick.down, .bool m.tick.doomed, .int .i64 left] TRDisk (0, 0)) :: OL eFileR TRFile fl m.files :: L) w') m.now.length ⟨⟨none, 0, 0⟩, 0, rfl, by omega, by omega, h.olNil⟩ ?_
    clear h
    rintro _ w u ⟨o, i, rfl, hi, hu2, h⟩
    have hol := h.olLen .n0
    rw [List.length_map, List.length_take] at hol
    by_cases hil : i < m.now.length
    · obtain ⟨p, ep⟩ := get_lt hil
      have htk : (m.now.take (i + 1)).map Prod.fst = (m.now.take i).map Prod.fst ++ [p.1] := by rw [List.take_add_one, ep, List.map_append]; rfl
      refine ⟨_, rfl, ?_⟩
      refine ld _ h .n1 ?_
      refine brD (fun cb0 => ?_) (fun cb0 => by exfalso; omega)
      dsimp only at cb0
      refine ⟨_, rfl, ?_⟩
      refine ld _ h .n1 ?_
      refine ⟨by omega, ?_⟩
      refine nnL h rn (fun ca1 cha1 => ?_)
      refine ldLf h rn (·.1) cha1 ep (fun cy2 chy2 => ?_)
      have chy2 := eNameR_after chy2
      subst chy2
      refine new h fun cr3 _ h => ?_
      have h := h.asA (B := blk cr3 (.cells #[Value.string (str p.fst, (↑p.snd : Int)).fst] 9 (0, 0))) (by kernel_rfl)
      refine app1 _ _ slStr h .n0 rfl (fun cs4 _ cl4 h => ?_)
      dsimp only at cl4
      refine wrN (i + 1) ?_
      refine ⟨_, (by first | omega | rfl | (dsimp only; omega)), _, _, rfl, (by first | omega | rfl | (dsimp only; omega)), rfl, (Sat.eqs (((h.pick .n2).pick .n2).pick .n2) ?_)⟩
      rotate_left
      rw [htk]
    · have e : m.now.take i = m.now := List.take_of_length_le (by omega)
      rw [e] at h
      refine ⟨_, rfl, ?_⟩
      refine ld _ h .n1 ?_
      refine brD (fun db0 => by exfalso; omega) (fun db0 => ?_)
      dsimp only at db0
      refine ret2 _ _ ?_
      obtain ⟨dΓ1, dg1, df1, h⟩ := h.olFreeze .n0 (by first | omega | (dsimp only; omega))
      have rn := rn.mono dg1
      have rk := rk.mono dg1
      have rc := rc.mono dg1
      refine k2 _ _ _ dg1 df1 rn rk rc ((h.pick .n1).pick .n1)

theorem rleft_ok {i most : Nat} {wn : Int} {t : Sl} {wb : List Int} {K : Int → World → Prop} (h : Sat Γ L w) (hb : Lst eInt Γ t wb) (hi : i < 1000000000000) (k : ∀ w', Sat Γ L w' → K ((DiskM.leftOf wb i most : Nat) : Int) w') :
    CallP Try.prog 138 [.agg #[.int .i64 wn, .slice t.p t.len t.cap], .int .i64 (i : Int), .int .i64 (most : Int)] (.one (.s (.int .i64))) K w := by
  obtain ⟨hbl, hbs, _⟩ := hb.lens
  refine callP (fn := Try.f138) [.agg [.int .i64 wn, .sl t], .s (.int .i64 (i : Int)), .s (.int .i64 (most : Int))] (.p .n (.p .n (.p .s .n))) nong mixed (by kernel_rfl) (by kernel_rfl) rfl rfl ?_
  by_cases h0 : wb.length = 0
  · have e : DiskM.leftOf wb i most = 0 := by unfold DiskM.leftOf; rw [if_pos h0]
    rw [e] at k
    have k : ∀ w', Sat Γ L w' → K 0 w' := k
    refine new h fun ar0 _ h => ?_
    have h := h.asA (B := blk ar0 (.cells #[Value.int IntKind.i64 wn, Value.slice t.p t.len t.cap] 81 (0, 0))) (by kernel_rfl)
    refine ld _ h .n0 ?_
    refine brE (fun ab1 => ?_) (fun ab1 => by exfalso; omega)
    refine ⟨_, rfl, ?_⟩
    refine k _ h.drop
  · have hm1 : 0 ≤ (i : Int) % (t.len : Int) := Int.emod_nonneg _ (by omega)
    have hm2 : (i : Int) % (t.len : Int) < (t.len : Int) := Int.emod_lt_of_pos _ (by omega)
    have hm3 : ((i : Int) % (t.len : Int)).toNat = i % wb.length := by rw [← Int.natCast_emod, Int.toNat_natCast]; congr 1
    obtain ⟨v0, hev⟩ := get_lt (xs := wb) (i := ((i : Int) % (t.len : Int)).toNat) (by omega)
    have e : DiskM.leftOf wb i most = min v0.toNat most := by
      unfold DiskM.leftOf
      rw [if_neg h0, List.getD_eq_getElem?_getD, ← hm3, hev]
      rfl
    rw [e] at k
    refine new h fun br0 _ h => ?_
    have h := h.asA (B := blk br0 (.cells #[Value.int IntKind.i64 wn, Value.slice t.p t.len t.cap] 81 (0, 0))) (by kernel_rfl)
    refine ld _ h .n0 ?_
    refine brE (fun bb1 => by exfalso; omega) (fun bb1 => ?_)
    refine dr h fun _ h => ?_
    refine ld _ h .n0 ?_
    refine ld _ h .n0 ?_
    refine ⟨by omega, ?_⟩
    refine tmd ?_
    refine ⟨by omega, ?_⟩
    refine nnL h hb (fun ba2 bha2 => ?_)
    refine ldL h hb bha2 hev (fun by3 bhy3 => ?_)
    have bhy3 : by3 = v0 := bhy3
    subst bhy3
    refine mxI ?_
    refine mnI ?_
    refine ⟨_, rfl, ?_⟩
    rotate_left
    have e2 : ∀ v : Int, min (max v 0) (most : Int) = ((min v.toNat most : Nat) : Int) := fun v => by omega
    have k9 := k _ h.drop
    rw [← e2 by3] at k9
    exact k9

theorem mapIdx_snoc {α β : Type} {l : List α} {i : Nat} {x : α} (f : Nat → α → β) (h : l[i]? = some x) : (l.take (i + 1)).mapIdx f = (l.take i).mapIdx f ++ [f i x] := by
  have hi : i < l.length := (List.getElem?_eq_some_iff.1 h).1
  rw [List.take_add_one, h, List.mapIdx_append]
  simp [Nat.min_eq_left (Nat.le_of_lt hi)]

theorem rCrash_ok {a : Nat} {m : DiskM} {n : Int} {t : Sl} {wb : List Int} {K : Int → World → Prop} (h : Sat Γ (RDisk a m :: L) w) (hg : m.g < 1000000000000) (hb : Lst eInt Γ t wb) (k : ∀ Γ' w', Γ.le Γ' → Sat Γ' (RDisk a (m.crash n wb) :: L) w' → K 0 w') :
    CallP Try.prog 75 [.pointer (some ⟨a, 0, none⟩), .agg #[.int .i64 n, .slice t.p t.len t.cap]] (.one (.s (.int .i64))) K w := by
  obtain ⟨fl, nl, kl, cl, left, ⟨rn, rk, rc, rl, hw⟩, h⟩ := h.rd
  have hgn := hw.gn
  have hgl := hw.gl
  have hfl := h.olLen .n1
  have hkok := hw.kept
  refine callP (fn := Try.f75) [.s (.ptr (some ⟨a, 0, none⟩)), .agg [.int .i64 n, .sl t]] (.p .n (.p .n (.p (.p .n (.b (.l [3, 0] [(5, .s .sl), (6, .s (.int .i64))] (.j [5, 6, 3, 0] [] .n .n)))) (.p .n (.p .n (.p (.p .n (.b (.l [5, 3, 0] [(8, .s .sl), (7, .s .sl), (9, .s (.int .i64))] (.p .n (.p (.b (.p (.h [0, 1, 2, 3, 4, 5, 6, 7, 8, 9, 10, 11, 12] [12]) (.p (.h [0, 1, 2, 3, 4, 5, 6, 7, 8, 9, 10, 11, 12] []) .n))) .n))))) .n)))))) nong mixed (by kernel_rfl) (by kernel_rfl) rfl rfl ?_
  obtain ⟨lhb, mhb, chb⟩ := hb.lens
  obtain ⟨lrn, mrn, crn⟩ := rn.lens
  obtain ⟨lrk, mrk, crk⟩ := rk.lens
  obtain ⟨lrc, mrc, crc⟩ := rc.lens
  refine new h fun har0 _ h => ?_
  have h := h.asA (B := blk har0 (.cells #[Value.int IntKind.i64 n, Value.slice t.p t.len t.cap] 81 (0, 0))) (by kernel_rfl)
  refine ⟨_, rfl, ?_⟩
  refine ld _ h .n1 ?_
  rotate_left
  have k2 : ∀ Γ' w' fl' nl' kl', Γ.le Γ' → Lst eNameR Γ' nl' ((m.atN n).mapIdx fun i p => (p.1, i)) → Lst eNameR Γ' kl' ((m.atN n).mapIdx fun i p => (p.1, i)) →
      Sat Γ' (blk a (.cells #[slv fl', slv nl', slv kl', .slice none 0 0, .int .i64 m.room, .bool false, .bool false, .int .i64 left] TRDisk (0, 0)) :: OL eFileR TRFile fl' ((m.atN n).mapIdx (m.fileLeft wb)) :: L) w' → K 0 w' :=
    fun Γ' w' fl' nl' kl' g a1 a2 h => k Γ' w' g (Sat.toRd (m := m.crash n wb) (left := left) (cl := ⟨none, 0, 0⟩) h ⟨a1, a2, .nil _ _, fun _ e => (by cases e), hw.crash n wb⟩)
  clear k
  refine loop (σ := Sl × Int) (fun st w' u => ∃ (s : Sl) (i : Nat) (Γ2 : Mem), st = (s, (i : Int)) ∧ i ≤ m.changes.length ∧ i ≤ n.toNat ∧ u = m.changes.length - i ∧ Γ.le Γ2 ∧ Lst eNameR Γ2 s ((m.changes.take i).foldl chg m.kept) ∧
    Sat Γ2 (blk har0 (.cells #[.int .i64 n, .slice t.p t.len t.cap] 81 (0, 0)) :: blk a (.cells #[slv fl, slv nl, slv kl, slv cl, .int .i64 m.room, .bool m.down, .bool m.doomed, .int .i64 left] TRDisk (0, 0)) :: OL eFileR TRFile fl m.files :: L) w') m.changes.length
    ⟨kl, 0, Γ, rfl, by omega, by omega, by omega, .refl _, rk, h⟩ ?_
  clear h
  rintro _ w u ⟨s, i, Γ2, rfl, hi, hin, hu, g2, hs, h⟩
  have rn2 := rn.mono g2
  have rc2 := rc.mono g2
  have hb2 := hb.mono g2
  have k3 : ∀ Γ' w' fl' nl' kl', Γ2.le Γ' → _ := fun Γ' w' fl' nl' kl' g => k2 Γ' w' fl' nl' kl' (g2.trans g)
  clear k2 rn rk rc hb
  have hend : ¬ (i < m.changes.length ∧ (i : Int) < n) → (m.changes.take i).foldl chg m.kept = m.atN n := fun hne => by
    unfold DiskM.atN
    by_cases hil : i < m.changes.length
    · have : i = n.toNat := by omega
      rw [this]
    · rw [List.take_of_length_le (by omega), List.take_of_length_le (by omega)]
  have hlen : ((m.changes.take i).foldl chg m.kept).length ≤ m.g := by
    have := fold_len (m.changes.take i) m.kept
    rw [List.length_take] at this
    omega
  by_cases hil : i < m.changes.length ∧ (i : Int) < n
  · obtain ⟨hil, hin2⟩ := hil
    obtain ⟨c, ec⟩ := get_lt hil
    obtain ⟨hfit, hfl2⟩ := hw.chs.at_ ec
    have hno : NamesOK m.files.length ((m.changes.take i).foldl chg m.kept) := (hw.chs.take i).names hkok
    have hstep : (m.changes.take (i + 1)).foldl chg m.kept = chg ((m.changes.take i).foldl chg m.kept) c := by
      rw [List.take_add_one, ec, List.foldl_append]; rfl
    clear hend
    obtain ⟨lhs, mhs, chs⟩ := hs.lens
    refine joinI ?_
    refine ⟨_, rfl, ?_⟩
    refine ld _ h .n1 ?_
    refine brD (fun bb0 => ?_) (fun bb0 => by exfalso; omega)
    dsimp only at bb0
    refine ld _ h .n0 ?_
    refine brD (fun bb1 => ?_) (fun bb1 => by exfalso; omega)
    dsimp only at bb1
    refine ⟨_, rfl, ?_⟩
    refine ld _ h .n1 ?_
    refine ⟨by omega, ?_⟩
    refine nnL h rc2 (fun ba2 bha2 => ?_)
    refine ldL h rc2 bha2 ec (fun by3 bhy3 => ?_)
    obtain ⟨by3s, bhy3a, bhy3e⟩ := eChgR_after bhy3
    subst bhy3e
    refine rchange_ok h hs hno (by first | omega | (dsimp only; omega) | decide) (by first | omega | (dsimp only; omega) | decide) hfit hfl2 bhy3a (fun bv5 bΓ6 _ bg8 bf9 h => ?_)
    have hs := hs.mono bg8
    have rn2 := rn2.mono bg8
    have rc2 := rc2.mono bg8
    have hb2 := hb2.mono bg8
    obtain ⟨lbf9, mbf9, cbf9⟩ := bf9.lens
    refine wrN (i + 1) ?_
    refine ⟨_, (by first | omega | rfl | (dsimp only; omega)), _, _, _, rfl, (by first | omega | rfl | (dsimp only; omega)), (by first | omega | rfl | (dsimp only; omega)), rfl, (g2.trans bg8), ?_, (((h.pick .n2).pick .n2).pick .n2)⟩
    rotate_left
    rw [hstep]; assumption
  · have hat := hend hil
    have hno : NamesOK m.files.length (m.atN n) := hw.atOK n
    rw [hat] at hs hlen
    clear hend hat
    generalize hatN : m.atN n = l at *
    obtain ⟨lhs, mhs, chs⟩ := hs.lens
    refine joinI ?_
    refine ⟨_, rfl, ?_⟩
    refine ld _ h .n1 ?_
    refine brD (fun cb0 => ?_) (fun cb0 => ?_)
    dsimp only at cb0
    refine ld _ h .n0 ?_
    refine brD (fun cb1 => by exfalso; omega) (fun cb1 => ?_)
    dsimp only at cb1
    rotate_left
    dsimp only at cb0
    rotate_left
    all_goals
      refine loop (σ := Sl × Sl × Int) (fun st w' u => ∃ (no fo : Sl) (i : Nat) (Γ3 : Mem), st = (no, fo, (i : Int)) ∧ i ≤ l.length ∧ u = l.length - i ∧ Γ2.le Γ3 ∧
        Sat Γ3 (OL eFileR TRFile fo ((l.take i).mapIdx (m.fileLeft wb)) :: OL eNameR TRName no ((l.take i).mapIdx fun i p => (p.1, i)) :: blk har0 (.cells #[.int .i64 n, .slice t.p t.len t.cap] 81 (0, 0)) ::
          blk a (.cells #[slv fl, slv nl, slv kl, slv cl, .int .i64 m.room, .bool m.down, .bool m.doomed, .int .i64 left] TRDisk (0, 0)) :: OL eFileR TRFile fl m.files :: L) w') l.length ⟨⟨none, 0, 0⟩, ⟨none, 0, 0⟩, 0, Γ2, rfl, by omega, by omega, .refl _, h.olNil.olNil⟩ ?_
      clear h
      rintro _ w u ⟨no, fo, j, Γ3, rfl, hj, hu3, g3, h⟩
      have hs3 := hs.mono g3
      have hb3 := hb2.mono g3
      have k4 : ∀ Γ' w' fl' nl' kl', Γ3.le Γ' → _ := fun Γ' w' fl' nl' kl' g => k3 Γ' w' fl' nl' kl' (g3.trans g)
      have hol1 := h.olLen .n0
      have hol2 := h.olLen .n1
      have hol3 := h.olLen .n4
      rw [List.length_mapIdx, List.length_take] at hol1 hol2
      by_cases hjl : j < l.length
      · obtain ⟨p, ep⟩ := get_lt hjl
        have hp2 := hno.lt p (List.mem_of_getElem? ep)
        obtain ⟨x, ex⟩ := get_lt hp2
        have hx : m.fileAt p.2 = x := by unfold DiskM.fileAt; rw [List.getD_eq_getElem?_getD, ex]; rfl
        have hxl := hw.fileAt_len p.2
        have hxk := hw.fileAt_kept p.2
        have hlf := Wf.leftOf_le wb j (x.b.length - x.kept)
        have hs1 := mapIdx_snoc (m.fileLeft wb) ep
        have hs2 := mapIdx_snoc (fun i (p : Str × Nat) => (p.1, i)) ep
        have hfx : m.fileLeft wb j p = ⟨x.b.take (x.kept + DiskM.leftOf wb j (x.b.length - x.kept)), x.kept + DiskM.leftOf wb j (x.b.length - x.kept)⟩ := by
          unfold DiskM.fileLeft
          rw [hx]
        rw [hfx] at hs1
        rw [hx] at hxl hxk
        clear k3 hs hb2 hfx hx
        obtain ⟨ys, hys, h⟩ := (h.pick .n4).ol
        obtain ⟨y, ey, hy⟩ := hys.get ex
        have rn2 := rn2.mono g3
        have rc2 := rc2.mono g3
        refine brD (fun hdb0 => ?_) (fun hdb0 => ?_)
        dsimp only at hdb0
        rotate_left
        dsimp only at hdb0
        refine ⟨_, rfl, ?_⟩
        refine st h .n4 fun _ h => ?_
        have h := h.asA (B := blk a (.cells #[Value.slice (no, fo, (↑j : Int)).snd.fst.p (no, fo, (↑j : Int)).snd.fst.len (no, fo, (↑j : Int)).snd.fst.cap, Value.slice nl.p nl.len nl.cap, Value.slice kl.p kl.len kl.cap, Value.slice cl.p cl.len cl.cap, Value.int IntKind.i64 m.room, Value.bool m.down, Value.bool m.doomed, Value.int IntKind.i64 left] 188 (0, 0))) (by kernel_rfl)
        refine ⟨_, rfl, ?_⟩
        refine st h .n0 fun _ h => ?_
        have h := h.asA (B := blk a (.cells #[Value.slice (no, fo, (↑j : Int)).snd.fst.p (no, fo, (↑j : Int)).snd.fst.len (no, fo, (↑j : Int)).snd.fst.cap, Value.slice (no, fo, (↑j : Int)).fst.p (no, fo, (↑j : Int)).fst.len (no, fo, (↑j : Int)).fst.cap, Value.slice kl.p kl.len kl.cap, Value.slice cl.p cl.len cl.cap, Value.int IntKind.i64 m.room, Value.bool m.down, Value.bool m.doomed, Value.int IntKind.i64 left] 188 (0, 0))) (by kernel_rfl)
        refine new h fun hdr1 _ h => ?_
        have h := h.asA (B := blk hdr1 (.cells #[] 191 (0, 0))) (by kernel_rfl)
        have h := (h.pick .n0).olEmpty (E := eNameR)
        refine appO slNameR h .n0 .n3 (fun hds2 _ hdl2 h => ?_)
        dsimp only at hdl2
        refine ⟨_, rfl, ?_⟩
        refine st h .n1 fun _ h => ?_
        have h := h.asA (B := blk a (.cells #[Value.slice (no, fo, (↑j : Int)).snd.fst.p (no, fo, (↑j : Int)).snd.fst.len (no, fo, (↑j : Int)).snd.fst.cap, Value.slice (no, fo, (↑j : Int)).fst.p (no, fo, (↑j : Int)).fst.len (no, fo, (↑j : Int)).fst.cap, Value.slice hds2.p hds2.len hds2.cap, Value.slice cl.p cl.len cl.cap, Value.int IntKind.i64 m.room, Value.bool m.down, Value.bool m.doomed, Value.int IntKind.i64 left] 188 (0, 0))) (by kernel_rfl)
        refine ⟨_, rfl, ?_⟩
        refine st h .n0 fun _ h => ?_
        have h := h.asA (B := blk a (.cells #[Value.slice (no, fo, (↑j : Int)).snd.fst.p (no, fo, (↑j : Int)).snd.fst.len (no, fo, (↑j : Int)).snd.fst.cap, Value.slice (no, fo, (↑j : Int)).fst.p (no, fo, (↑j : Int)).fst.len (no, fo, (↑j : Int)).fst.cap, Value.slice hds2.p hds2.len hds2.cap, Value.slice (Sl.mk none 0 0).p (Sl.mk none 0 0).len (Sl.mk none 0 0).cap, Value.int IntKind.i64 m.room, Value.bool m.down, Value.bool m.doomed, Value.int IntKind.i64 left] 188 (0, 0))) (by kernel_rfl)
        refine ⟨_, rfl, ?_⟩
        refine st h .n0 fun _ h => ?_
        have h := h.asA (B := blk a (.cells #[Value.slice (no, fo, (↑j : Int)).snd.fst.p (no, fo, (↑j : Int)).snd.fst.len (no, fo, (↑j : Int)).snd.fst.cap, Value.slice (no, fo, (↑j : Int)).fst.p (no, fo, (↑j : Int)).fst.len (no, fo, (↑j : Int)).fst.cap, Value.slice hds2.p hds2.len hds2.cap, Value.slice (Sl.mk none 0 0).p (Sl.mk none 0 0).len (Sl.mk none 0 0).cap, Value.int IntKind.i64 m.room, Value.bool false, Value.bool m.doomed, Value.int IntKind.i64 left] 188 (0, 0))) (by kernel_rfl)
        refine ⟨_, rfl, ?_⟩
        refine st h .n0 fun _ h => ?_
        have h := h.asA (B := blk a (.cells #[Value.slice (no, fo, (↑j : Int)).snd.fst.p (no, fo, (↑j : Int)).snd.fst.len (no, fo, (↑j : Int)).snd.fst.cap, Value.slice (no, fo, (↑j : Int)).fst.p (no, fo, (↑j : Int)).fst.len (no, fo, (↑j : Int)).fst.cap, Value.slice hds2.p hds2.len hds2.cap, Value.slice (Sl.mk none 0 0).p (Sl.mk none 0 0).len (Sl.mk none 0 0).cap, Value.int IntKind.i64 m.room, Value.bool false, Value.bool false, Value.int IntKind.i64 left] 188 (0, 0))) (by kernel_rfl)
        refine ⟨_, rfl, ?_⟩
        (exfalso; omega)
        refine heldS h (.cons .n0 (.cons .n3 .nil)) ?_
        refine dr h fun _ h => ?_
        refine ⟨h.sxs (.cons .n0 (.cons .n3 .nil)) (.refl _), ?_⟩
        refine ⟨_, rfl, ?_⟩
        refine ldH _ .n1 ?_
        refine ⟨by dsimp only; omega, ?_⟩
        refine nnL h hs3 (fun hga0 hgha0 => ?_)
        dsimp only at hgha0
        refine ldLfH hs3 (·.2) hgha0 ep (fun hgy1 hghy1 => ?_)
        have hghy1 := eNameR_after hghy1
        subst hghy1
        refine ⟨by omega, ?_⟩
        rotate_left
        have hne : fl.len ≠ 0 := by omega
        refine nnOwn h .n0 hne fun fa hfa _ => ?_
        refine ldOH .n0 hfa hne ey ?_
        have hy2 := eFileR_after hy
        obtain ⟨ysl, hyb, hye⟩ := hy2
        subst hye
        obtain ⟨lhyb, mhyb, chyb⟩ := hyb.lens
        refine new h fun hhr0 _ h => ?_
        have h := h.asA (B := blk hhr0 (.cells #[Value.slice none 0 0, Value.int IntKind.i64 0] 197 (0, 0))) (by kernel_rfl)
        refine ⟨h.sxs (.cons .n1 (.cons .n4 .nil)) (.refl _), ?_⟩
        refine stNs h .n0 fun _ h => ?_
        have h := h.asA (B := blk hhr0 (.cells #[Value.slice (ysl, (↑x.kept : Int)).fst.p (ysl, (↑x.kept : Int)).fst.len (ysl, (↑x.kept : Int)).fst.cap, Value.int IntKind.i64 (ysl, (↑x.kept : Int)).snd] 197 (0, 0))) (by kernel_rfl)
        rotate_left
        refine heldS h .nil ?_
        refine ⟨h.sxs .nil (.refl _), ?_⟩
        have h := (h.pick .n1).toOl hys
        rotate_left
        refine heldS h (.cons .n1 (.cons .n3 .nil)) ?_
        refine dr h fun _ h => ?_
        refine ⟨h.sxs (.cons .n1 (.cons .n3 .nil)) (.refl _), ?_⟩
        refine ldH _ .n0 ?_
        refine ldHA2 _ _ .n1 ?_
        refine ldH _ .n0 ?_
        refine ldH _ .n0 ?_
        refine wrN (ysl.len - x.kept) ?_
        rotate_left
        have hyl := hyb.len
        rw [← hyl] at hlf
        refine rleft_ok (i := j) (most := ysl.len - x.kept) (wn := n) h hb3 (by omega) fun _ h => ?_
        have hsub := hyb.sub (l := 0) (n := x.kept + DiskM.leftOf wb j (ysl.len - x.kept)) (Nat.zero_le _) (by omega)
        have e0 : (x.b.drop 0).take (x.kept + DiskM.leftOf wb j (ysl.len - x.kept) - 0) = x.b.take (x.kept + DiskM.leftOf wb j (ysl.len - x.kept)) := by rw [List.drop_zero, Nat.sub_zero]
        rw [e0] at hsub
        have htl : (x.b.take (x.kept + DiskM.leftOf wb j (ysl.len - x.kept))).length ≤ x.b.length := by rw [List.length_take]; omega
        refine ⟨h.sxs (.cons .n1 (.cons .n3 .nil)) (.refl _), ?_⟩
        refine wrN (x.kept + (DiskM.leftOf wb j (ysl.len - x.kept))) ?_
        refine new h fun hkr0 _ h => ?_
        have h := h.asA (B := blk hkr0 (.cells #[] 5 (0, 0))) (by kernel_rfl)
        refine ld _ h .n2 ?_
        refine ⟨by dsimp only; omega, ?_⟩
        have h := (h.pick .n0).olEmpty (E := eByte)
        refine appL slBytes h .n0 hsub.lst (fun hks1 _ hkl1 h => ?_)
        dsimp only at hkl1
        refine new h fun hkr2 _ h => ?_
        have h := h.asA (B := blk hkr2 (.cells #[Value.slice hks1.p hks1.len hks1.cap, Value.int IntKind.i64 (↑(x.kept + DiskM.leftOf wb j (ysl.len - x.kept)) : Int)] 197 (0, 0))) (by kernel_rfl)
        rotate_left
        obtain ⟨Γ6, g6, f6, h⟩ := h.olFreeze .n1 (by omega)
        have f6 : Bytes Γ6 hks1 (x.b.take (x.kept + DiskM.leftOf wb j (ysl.len - x.kept))) := f6.bytes
        refine app1 (E := eFileR) (hks1, ((x.kept + DiskM.leftOf wb j (ysl.len - x.kept) : Nat) : Int)) ⟨x.b.take (x.kept + DiskM.leftOf wb j (ysl.len - x.kept)), x.kept + DiskM.leftOf wb j (ysl.len - x.kept)⟩ slFileR h .n2 ⟨f6, rfl⟩ (fun fo2 _ hfo2 h => ?_) (by dsimp only; omega)
        rw [← hyl] at hs1
        have hs3 := hs3.mono g6
        have hb3 := hb3.mono g6
        have rn2 := rn2.mono g6
        have rc2 := rc2.mono g6
        have hyb := hyb.mono g6
        have hsub := hsub.mono g6
        dsimp only at hfo2
        refine ⟨by dsimp only; omega, ?_⟩
        refine ⟨_, hgha0, ?_⟩
        refine ldLf h hs3 (·.1) hgha0 ep (fun hly0 hlhy0 => ?_)
        have hlhy0 := eNameR_after hlhy0
        subst hlhy0
        refine new h fun hlr1 _ h => ?_
        have h := h.asA (B := blk hlr1 (.cells #[Value.string (str p.fst, (↑p.snd : Int)).fst, Value.int IntKind.i64 (no, fo, (↑j : Int)).snd.snd] 191 (0, 0))) (by kernel_rfl)
        refine appNameR_pr h .n3 (by first | omega | (dsimp only; omega) | decide) (fun hlv3 _ hlp5 h => ?_)
        dsimp only at hlp5
        refine wrN (j + 1) ?_
        refine ⟨_, (by first | omega | rfl | (dsimp only; omega)), _, _, _, _, rfl, (by first | omega | rfl | (dsimp only; omega)), rfl, (g3.trans g6), (Sat.eqs ((((((h.pick .n3).drop.pick .n2).pick .n4).pick .n4).pick .n3).pick .n4) ?_)⟩
        rotate_left
        rw [hs1, hs2]
      · have e : l.take j = l := List.take_of_length_le (by omega)
        rw [e] at h
        obtain ⟨Γ4, g4, f4, h⟩ := h.olFreeze .n1 (by omega)
        have hml : (l.mapIdx fun i (p : Str × Nat) => (p.1, i)).length = l.length := List.length_mapIdx
        have rn2 := rn2.mono (g3.trans g4)
        have rc2 := rc2.mono (g3.trans g4)
        have hb2 := hb2.mono (g3.trans g4)
        have hs := hs.mono (g3.trans g4)
        have hs3 := hs3.mono g4
        have hb3 := hb3.mono g4
        refine brD (fun eb0 => ?_) (fun eb0 => ?_)
        dsimp only at eb0
        refine heldS h (.cons .n0 (.cons .n0 (.cons .n0 (.cons .n0 .nil)))) ?_
        refine dr h fun _ h => ?_
        refine ⟨h.sxs (.cons .n0 (.cons .n0 (.cons .n0 (.cons .n0 .nil)))) (.refl _), ?_⟩
        refine ⟨_, rfl, ?_⟩
        refine ldH _ .n2 ?_
        refine ⟨by omega, ?_⟩
        refine nnL h hs3 (fun ea1 eha1 => ?_)
        dsimp only at eha1
        (exfalso; omega)
        dsimp only at eb0
        refine ⟨_, rfl, ?_⟩
        refine st h .n2 fun _ h => ?_
        have h := h.asA (B := blk a (.cells #[Value.slice (no, fo, (↑j : Int)).snd.fst.p (no, fo, (↑j : Int)).snd.fst.len (no, fo, (↑j : Int)).snd.fst.cap, Value.slice nl.p nl.len nl.cap, Value.slice kl.p kl.len kl.cap, Value.slice cl.p cl.len cl.cap, Value.int IntKind.i64 m.room, Value.bool m.down, Value.bool m.doomed, Value.int IntKind.i64 left] 188 (0, 0))) (by kernel_rfl)
        refine ⟨_, rfl, ?_⟩
        refine st h .n0 fun _ h => ?_
        have h := h.asA (B := blk a (.cells #[Value.slice (no, fo, (↑j : Int)).snd.fst.p (no, fo, (↑j : Int)).snd.fst.len (no, fo, (↑j : Int)).snd.fst.cap, Value.slice (no, fo, (↑j : Int)).fst.p (no, fo, (↑j : Int)).fst.len (no, fo, (↑j : Int)).fst.cap, Value.slice kl.p kl.len kl.cap, Value.slice cl.p cl.len cl.cap, Value.int IntKind.i64 m.room, Value.bool m.down, Value.bool m.doomed, Value.int IntKind.i64 left] 188 (0, 0))) (by kernel_rfl)
        refine new h fun er3 _ h => ?_
        have h := h.asA (B := blk er3 (.cells #[] 191 (0, 0))) (by kernel_rfl)
        have h := (h.pick .n0).olEmpty (E := eNameR)
        refine appL slNameR h .n0 f4 (fun es4 _ el4 h => ?_)
        dsimp only at el4
        refine ⟨_, rfl, ?_⟩
        refine st h .n1 fun _ h => ?_
        have h := h.asA (B := blk a (.cells #[Value.slice (no, fo, (↑j : Int)).snd.fst.p (no, fo, (↑j : Int)).snd.fst.len (no, fo, (↑j : Int)).snd.fst.cap, Value.slice (no, fo, (↑j : Int)).fst.p (no, fo, (↑j : Int)).fst.len (no, fo, (↑j : Int)).fst.cap, Value.slice es4.p es4.len es4.cap, Value.slice cl.p cl.len cl.cap, Value.int IntKind.i64 m.room, Value.bool m.down, Value.bool m.doomed, Value.int IntKind.i64 left] 188 (0, 0))) (by kernel_rfl)
        refine ⟨_, rfl, ?_⟩
        refine st h .n0 fun _ h => ?_
        have h := h.asA (B := blk a (.cells #[Value.slice (no, fo, (↑j : Int)).snd.fst.p (no, fo, (↑j : Int)).snd.fst.len (no, fo, (↑j : Int)).snd.fst.cap, Value.slice (no, fo, (↑j : Int)).fst.p (no, fo, (↑j : Int)).fst.len (no, fo, (↑j : Int)).fst.cap, Value.slice es4.p es4.len es4.cap, Value.slice (Sl.mk none 0 0).p (Sl.mk none 0 0).len (Sl.mk none 0 0).cap, Value.int IntKind.i64 m.room, Value.bool m.down, Value.bool m.doomed, Value.int IntKind.i64 left] 188 (0, 0))) (by kernel_rfl)
        refine ⟨_, rfl, ?_⟩
        refine st h .n0 fun _ h => ?_
        have h := h.asA (B := blk a (.cells #[Value.slice (no, fo, (↑j : Int)).snd.fst.p (no, fo, (↑j : Int)).snd.fst.len (no, fo, (↑j : Int)).snd.fst.cap, Value.slice (no, fo, (↑j : Int)).fst.p (no, fo, (↑j : Int)).fst.len (no, fo, (↑j : Int)).fst.cap, Value.slice es4.p es4.len es4.cap, Value.slice (Sl.mk none 0 0).p (Sl.mk none 0 0).len (Sl.mk none 0 0).cap, Value.int IntKind.i64 m.room, Value.bool false, Value.bool m.doomed, Value.int IntKind.i64 left] 188 (0, 0))) (by kernel_rfl)
        refine ⟨_, rfl, ?_⟩
        refine st h .n0 fun _ h => ?_
        have h := h.asA (B := blk a (.cells #[Value.slice (no, fo, (↑j : Int)).snd.fst.p (no, fo, (↑j : Int)).snd.fst.len (no, fo, (↑j : Int)).snd.fst.cap, Value.slice (no, fo, (↑j : Int)).fst.p (no, fo, (↑j : Int)).fst.len (no, fo, (↑j : Int)).fst.cap, Value.slice es4.p es4.len es4.cap, Value.slice (Sl.mk none 0 0).p (Sl.mk none 0 0).len (Sl.mk none 0 0).cap, Value.int IntKind.i64 m.room, Value.bool false, Value.bool false, Value.int IntKind.i64 left] 188 (0, 0))) (by kernel_rfl)
        refine ⟨_, rfl, ?_⟩
        rotate_left
        obtain ⟨Γ5, g5, f5, h⟩ := h.olFreeze (E := eNameR) (T := TRName) (xs := [] ++ l.mapIdx fun i p => (p.1, i)) (by repeat (first | with_reducible exact Pick.here | apply Pick.there)) (by omega)
        rw [List.nil_append] at f5
        have f4 := f4.mono g5
        have rn2 := rn2.mono g5
        have rc2 := rc2.mono g5
        have hb2 := hb2.mono g5
        have hs := hs.mono g5
        have hs3 := hs3.mono g5
        have hb3 := hb3.mono g5
        refine k4 _ _ _ _ _ (g4.trans g5) f4 f5 ((((h.pick .n2).drop.pick .n2).drop.pick .n1).pick .n1)

theorem rClone_ok {a : Nat} {m : DiskM} {K : Option Addr → World → Prop} (h : Sat Γ (RDisk a m :: L) w) (hg : m.g < 1000000000000) (k : ∀ x Γ' w', Γ.le Γ' → Sat Γ' (RDisk x m :: RDisk a m :: L) w' → K (some ⟨x, 0, none⟩) w') :
    CallP Try.prog 74 [.pointer (some ⟨a, 0, none⟩)] (.one (.s .ptr)) K w := by
  obtain ⟨fl, nl, kl, cl, left, ⟨rn, rk, rc, rl, hw⟩, h⟩ := h.rd
  have hgl := hw.gl
  have hfl := h.olLen .n1
  refine callP (fn := Try.f74) [.s (.ptr (some ⟨a, 0, none⟩))] .n nong mixed (by kernel_rfl) (by kernel_rfl) rfl rfl ?_
  obtain ⟨lrn, mrn, crn⟩ := rn.lens
  obtain ⟨lrk, mrk, crk⟩ := rk.lens
  obtain ⟨lrc, mrc, crc⟩ := rc.lens
  refine ⟨_, rfl, ?_⟩
  refine ldA8 _ _ _ _ _ _ _ _ h .n0 ?_
  refine new h fun har0 _ h => ?_
  have h := h.asA (B := blk har0 (.cells #[Value.slice none 0 0, Value.slice none 0 0, Value.slice none 0 0, Value.slice none 0 0, Value.int IntKind.i64 0, Value.bool false, Value.bool false, Value.int IntKind.i64 0] 188 (0, 0))) (by kernel_rfl)
  refine stNs h .n0 fun _ h => ?_
  have h := h.asA (B := blk har0 (.cells #[Value.slice (fl, nl, kl, cl, m.room, m.down, m.doomed, left).fst.p (fl, nl, kl, cl, m.room, m.down, m.doomed, left).fst.len (fl, nl, kl, cl, m.room, m.down, m.doomed, left).fst.cap, Value.slice (fl, nl, kl, cl, m.room, m.down, m.doomed, left).snd.fst.p (fl, nl, kl, cl, m.room, m.down, m.doomed, left).snd.fst.len (fl, nl, kl, cl, m.room, m.down, m.doomed, left).snd.fst.cap, Value.slice (fl, nl, kl, cl, m.room, m.down, m.doomed, left).snd.snd.fst.p (fl, nl, kl, cl, m.room, m.down, m.doomed, left).snd.snd.fst.len (fl, nl, kl, cl, m.room, m.down, m.doomed, left).snd.snd.fst.cap, Value.slice (fl, nl, kl, cl, m.room, m.down, m.doomed, left).snd.snd.snd.fst.p (fl, nl, kl, cl, m.room, m.down, m.doomed, left).snd.snd.snd.fst.len (fl, nl, kl, cl, m.room, m.down, m.doomed, left).snd.snd.snd.fst.cap, Value.int IntKind.i64 (fl, nl, kl, cl, m.room, m.down, m.doomed, left).snd.snd.snd.snd.fst, Value.bool (fl, nl, kl, cl, m.room, m.down, m.doomed, left).snd.snd.snd.snd.snd.fst, Value.bool (fl, nl, kl, cl, m.room, m.down, m.doomed, left).snd.snd.snd.snd.snd.snd.fst, Value.int IntKind.i64 (fl, nl, kl, cl, m.room, m.down, m.doomed, left).snd.snd.snd.snd.snd.snd.snd] 188 (0, 0))) (by kernel_rfl)
  refine new h fun har1 _ h => ?_
  have h := h.asA (B := blk har1 (.cells #[] 197 (0, 0))) (by kernel_rfl)
  refine ⟨_, rfl, ?_⟩
  refine ld _ h .n2 ?_
  have h := (h.pick .n0).olEmpty (E := eFileR)
  refine appO slFileR h .n0 .n2 (fun has2 _ hal2 h => ?_)
  dsimp only at hal2
  refine st h .n1 fun _ h => ?_
  have h := h.asA (B := blk har0 (.cells #[Value.slice has2.p has2.len has2.cap, Value.slice (fl, nl, kl, cl, m.room, m.down, m.doomed, left).snd.fst.p (fl, nl, kl, cl, m.room, m.down, m.doomed, left).snd.fst.len (fl, nl, kl, cl, m.room, m.down, m.doomed, left).snd.fst.cap, Value.slice (fl, nl, kl, cl, m.room, m.down, m.doomed, left).snd.snd.fst.p (fl, nl, kl, cl, m.room, m.down, m.doomed, left).snd.snd.fst.len (fl, nl, kl, cl, m.room, m.down, m.doomed, left).snd.snd.fst.cap, Value.slice (fl, nl, kl, cl, m.room, m.down, m.doomed, left).snd.snd.snd.fst.p (fl, nl, kl, cl, m.room, m.down, m.doomed, left).snd.snd.snd.fst.len (fl, nl, kl, cl, m.room, m.down, m.doomed, left).snd.snd.snd.fst.cap, Value.int IntKind.i64 (fl, nl, kl, cl, m.room, m.down, m.doomed, left).snd.snd.snd.snd.fst, Value.bool (fl, nl, kl, cl, m.room, m.down, m.doomed, left).snd.snd.snd.snd.snd.fst, Value.bool (fl, nl, kl, cl, m.room, m.down, m.doomed, left).snd.snd.snd.snd.snd.snd.fst, Value.int IntKind.i64 (fl, nl, kl, cl, m.room, m.down, m.doomed, left).snd.snd.snd.snd.snd.snd.snd] 188 (0, 0))) (by kernel_rfl)
  refine ⟨_, rfl, ?_⟩
  rotate_left
  refine k har0 Γ _ (.refl _) ?_
  rw [List.nil_append] at h
  have h1 : Sat Γ (RDisk har0 m :: rdlay a fl nl kl cl m left L) _ := Sat.toRd (m := m) (left := left) (fl := has2) (nl := nl) (kl := kl) (cl := cl) h ⟨rn, rk, rc, rl, hw⟩
  have h2 : Sat Γ (RDisk a m :: RDisk har0 m :: L) _ := Sat.toRd (m := m) (left := left) (fl := fl) (nl := nl) (kl := kl) (cl := cl) ((h1.pick (A := OL eFileR TRFile fl m.files) .n2).pick .n2) ⟨rn, rk, rc, rl, hw⟩
  exact h2.pick .n1

end Go.Proofs.Ytohoimokfgfceaa.K
