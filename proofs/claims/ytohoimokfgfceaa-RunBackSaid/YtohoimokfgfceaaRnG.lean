/-
  run's statements: records put to a file.
-/
import Derived.Test.YtohoimokfgfceaaRnP
import Derived.Test.YtohoimokfgfceaaRnE
namespace Go.Proofs.Ytohoimokfgfceaa.K
open Go Go.Proofs Go.ChangeShapes Go.WideShapes Go.ChangeAt Go.RowKit
variable {Γ Γ' : Mem} {L L' L'' : List HP} {w w' : World} {A B : HP}
set_option maxRecDepth 100000
set_option maxHeartbeats 4000000

theorem putRun_ok {a : Nat} {m : DiskM} {s : Sl} {l : List Str} {K : Bool → World → Prop} (h : Sat Γ (PDisk a m :: L) w) (hl : Lst eBytes Γ s l) (hn : l.length ≤ 60) (hg : m.g ≤ 1000000000)
    (k0 : (DiskM.putR m [120] l).2 = 0 → ∀ Γ' w', Γ.le Γ' → Sat Γ' (PDisk a (DiskM.putR m [120] l).1 :: L) w' → K true w')
    (k1 : (DiskM.putR m [120] l).2 ≠ 0 → ∀ Γ' w', Γ.le Γ' → Sat Γ' (PDisk a (DiskM.putR m [120] l).1 :: L) w' → K false w') :
    CallP Try.prog 93 [.pointer (some ⟨a, 0, none⟩), .slice s.p s.len s.cap] (.one (.s .bool)) K w := by
  have hsg := startM_g m
  refine callP (fn := Try.f93) [.s (.ptr (some ⟨a, 0, none⟩)), .s (.sl s)] (.p .n (.p .n (.j [1, 5] [] .n (.p (.p .n (.b (.l [21, 20, 5] [(22, .s (.int .i64))] .n))) .n)))) nong mixed (by kernel_rfl) (by kernel_rfl) rfl rfl ?_
  by_cases hs : (startM m).2 = 0
  · have hpr : DiskM.putR m [120] l = if (DiskM.addsM (startM m).1 none l).2 ≠ 0 then DiskM.addsM (startM m).1 none l else endM (DiskM.addsM (startM m).1 none l).1 [120] := by
      unfold DiskM.putR; rw [if_neg (by intro hh; exact hh hs)]
    obtain ⟨lhl, mhl, chl⟩ := hl.lens
    refine wStart_ok h (by first | omega | (dsimp only; omega) | decide) (fun ap1 _ h => ?_) (fun ap4 av5 _ h => ?_)
    refine joinI ?_
    refine brT ?_
    refine ⟨_, rfl, ?_⟩
    refine k1 (by first | omega | (dsimp only; omega) | decide) _ _ (.refl _) (Sat.eqs h ?_)
    (exfalso; omega)
    refine joinI ?_
    refine brF ?_
    refine brF ?_
    rotate_left
    refine loop (σ := Int) (fun st w' c => ∃ (i : Nat) (mi : DiskM) (s1 : Sl) (bb : Bool) (last : Option Str) (Γ' : Mem), st = (i : Int) ∧ i ≤ l.length ∧ c = l.length - i ∧ DiskM.addsM (startM m).1 none l = DiskM.addsM mi last (l.drop i) ∧ mi.g ≤ m.g + 3 + 72 * i ∧ Γ.le Γ' ∧ LastAt Γ' s1 bb last ∧
        Sat Γ' (blk av5 (.cells #[.pointer (some ⟨a, 0, none⟩), .slice s1.p s1.len s1.cap, .bool bb, .int .i64 (i : Int)] 161 (0, 0)) :: PDisk a mi :: L) w') l.length
      ⟨0, (startM m).1, ⟨none, 0, 0⟩, false, none, Γ, rfl, by omega, by omega, rfl, by omega, .refl _, rfl, h⟩ ?_
    clear h
    rintro _ w c ⟨i, mi, s1, bb, last, Γ3, rfl, hi, hc, heq, hgi, g3, hla, h⟩
    have hl3 := hl.mono g3
    by_cases hil : i < l.length
    · obtain ⟨y, ey⟩ := get_lt hil
      have hd : l.drop i = y :: l.drop (i + 1) := by
        rw [List.drop_eq_getElem_cons hil]
        rw [List.getElem?_eq_getElem hil] at ey
        cases ey
        rfl
      have hga := addM_g mi last y
      rw [hd, DiskM.addsM] at heq
      by_cases ha : (addM mi last y).2 = 0
      · rw [if_pos ha] at heq
        clear k0 k1
        have hl := hl.mono g3
        refine brD (fun cb0 => ?_) (fun cb0 => by exfalso; omega)
        refine ⟨by omega, ?_⟩
        refine nnL h hl (fun ca1 cha1 => ?_)
        refine ldL h hl cha1 ey (fun cy2 chy2 => ?_)
        have chy2 : Bytes _ cy2 y := chy2
        obtain ⟨lchy2, mchy2, cchy2⟩ := chy2.lens
        refine wAddDone_ok ((h.pick .n1).pick .n1) hla chy2 ha (by first | omega | (dsimp only; omega) | decide) (by first | omega | (dsimp only; omega) | decide) (fun cv4 cΓ5 _ cg7 cp8 h => ?_)
        have hla := hla.mono cg7
        have hl3 := hl3.mono cg7
        have hl := hl.mono cg7
        have chy2 := chy2.mono cg7
        refine brF ?_
        refine wrN (i + 1) ?_
        rotate_left
        refine ⟨l.length - (i + 1), by omega, i + 1, (addM mi last y).1, cv4, true, some y, cΓ5, rfl, by omega, rfl, heq, by omega, g3.trans cg7, cp8, ?_⟩
        rw [show (((i + 1 : Nat)) : Int) = (i : Int) + 1 by omega]
        exact h
      · rw [if_neg ha] at heq
        rw [heq, if_pos ha] at hpr
        rw [hpr] at k1
        have k : ∀ Γ' w', Γ.le Γ' → Sat Γ' (PDisk a (addM mi last y).1 :: L) w' → K false w' := k1 ha
        clear k0 k1
        have hl := hl.mono g3
        refine brD (fun db0 => ?_) (fun db0 => by exfalso; omega)
        refine ⟨by omega, ?_⟩
        refine nnL h hl (fun da1 dha1 => ?_)
        refine ldL h hl dha1 ey (fun dy2 dhy2 => ?_)
        have dhy2 : Bytes _ dy2 y := dhy2
        obtain ⟨ldhy2, mdhy2, cdhy2⟩ := dhy2.lens
        refine wAddFail_ok ((h.pick .n1).pick .n1) hla dhy2 (by first | omega | (dsimp only; omega) | decide) (by first | omega | (dsimp only; omega) | decide) (by first | omega | (dsimp only; omega) | decide) (fun dΓ4 _ dg6 h => ?_)
        have hla := hla.mono dg6
        have hl3 := hl3.mono dg6
        have hl := hl.mono dg6
        have dhy2 := dhy2.mono dg6
        refine brN (fun db8 => ?_) (fun db8 => by exfalso; omega)
        refine ⟨_, rfl, ?_⟩
        refine k _ _ (g3.trans dg6) h.drop
    · have hin : i = l.length := by omega
      rw [hin, List.drop_length, DiskM.addsM] at heq
      rw [heq, if_neg (by simp)] at hpr
      rw [hpr] at k0 k1
      by_cases he : (endM mi [120]).2 = 0
      · have k : ∀ Γ' w', Γ.le Γ' → Sat Γ' (PDisk a (endM mi [120]).1 :: L) w' → K true w' := k0 he
        clear k0 k1
        have hl := hl.mono g3
        dsimp only at hpr
        refine brD (fun eb0 => by exfalso; omega) (fun eb0 => ?_)
        refine wEnd_ok ((h.pick .n1).pick .n1) (by first | omega | (dsimp only; omega) | decide) (fun _ h => ?_)
        refine ⟨_, rfl, ?_⟩
        refine kDec (fun eb4 => ?_) (fun eb4 => ?_)
        refine k _ _ g3 h.drop
        (exfalso; omega)
      · have k : ∀ Γ' w', Γ.le Γ' → Sat Γ' (PDisk a (endM mi [120]).1 :: L) w' → K false w' := k1 he
        clear k0 k1
        have hl := hl.mono g3
        dsimp only at hpr
        refine brD (fun fb0 => by exfalso; omega) (fun fb0 => ?_)
        refine wEnd_ok ((h.pick .n1).pick .n1) (by first | omega | (dsimp only; omega) | decide) (fun _ h => ?_)
        refine ⟨_, rfl, ?_⟩
        refine kDec (fun fb4 => ?_) (fun fb4 => ?_)
        (exfalso; omega)
        refine k _ _ g3 h.drop
  · have hpr : DiskM.putR m [120] l = startM m := by unfold DiskM.putR; rw [if_pos hs]
    rw [hpr] at k1
    have k : ∀ Γ' w', Γ.le Γ' → Sat Γ' (PDisk a (startM m).1 :: L) w' → K false w' := k1 hs
    clear k0 k1
    obtain ⟨lhl, mhl, chl⟩ := hl.lens
    refine wStart_ok h (by first | omega | (dsimp only; omega) | decide) (fun bp1 _ h => ?_) (fun bp4 bv5 _ h => ?_)
    refine joinI ?_
    refine brT ?_
    refine ⟨_, rfl, ?_⟩
    refine k _ _ (.refl _) h
    refine joinI ?_
    refine brF ?_
    refine brF ?_
    (exfalso; omega)

end Go.Proofs.Ytohoimokfgfceaa.K
