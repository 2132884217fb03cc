/-
  journal: the program's Open, Add, Begin.
-/
import Derived.Test.YtocmjngleknlbaaJnM
import Derived.Test.YtocmjngleknlbaaFrT
import Derived.Test.YtocmjngleknlbaaPlI
namespace Go.Proofs.Ytocmjngleknlbaa.K
open Go Go.Proofs
variable {Γ Γ' : Mem} {L L' L'' : List HP} {w w' : World} {A B : HP}
set_option maxRecDepth 100000
set_option maxHeartbeats 1000000

theorem jOpen_ok {a : Nat} {m : DiskM} {K : (Sl × Int) → World → Prop} (h : Sat Γ (PDisk a m :: L) w) (hg : m.g < 10000000000)
    (k : ∀ t Γ' w', Γ.le Γ' → Lst eBytes Γ' t (openJ m).2.1 → Sat Γ' (PDisk a (openJ m).1 :: L) w' → K (t, (openJ m).2.2) w') :
    CallP Try.prog 10 [.pointer (some ⟨a, 0, none⟩)] (.tup [.s .sl, .s (.int .i64)]) K w := by
  have hw := pd_wf h
  have hrl := DiskM.read_len hw jnS
  have hrg := read_g m jnS
  refine callP (fn := Try.f10) [.s (.ptr (some ⟨a, 0, none⟩))] .n nong mixed (by kernel_rfl) (by kernel_rfl) rfl rfl ?_
  unfold openJ at k
  by_cases h0 : (m.read jnS).2.2 = 0
  · rw [if_pos h0] at k
    have hle := allB_le (m.read jnS).2.1
    by_cases h1 : (allB (m.read jnS).2.1).2 = (m.read jnS).2.1.length
    · rw [if_pos h1] at k
      unfold jnS at *
      refine dRead_ok h (by first | omega | (dsimp only; omega) | decide) (fun av1 aΓ2 _ ag4 af5 h => ?_)
      obtain ⟨laf5, maf5, caf5⟩ := af5.lens
      refine brE (fun ab7 => ?_) (fun ab7 => by exfalso; omega)
      dsimp only at ab7
      refine allP_ok h af5 (by first | omega | (dsimp only; omega) | decide) (fun av9 aΓ10 _ ag12 af13 h => ?_)
      have af5 := af5.mono ag12
      obtain ⟨laf13, maf13, caf13⟩ := af13.lens
      refine brE (fun ab15 => ?_) (fun ab15 => by exfalso; dsimp only at ab15; omega)
      dsimp only at ab15
      refine ret2 _ _ ?_
      refine k _ _ _ (ag4.trans ag12) af13 h
    · rw [if_neg h1] at k
      have htl : ((m.read jnS).2.1.take (allB (m.read jnS).2.1).2).length = (allB (m.read jnS).2.1).2 := by rw [List.length_take]; omega
      by_cases h2 : (putP (m.read jnS).1 jnS ((m.read jnS).2.1.take (allB (m.read jnS).2.1).2)).2 = 0
      · rw [if_pos h2] at k
        unfold jnS at *
        refine dRead_ok h (by first | omega | (dsimp only; omega) | decide) (fun bv1 bΓ2 _ bg4 bf5 h => ?_)
        obtain ⟨lbf5, mbf5, cbf5⟩ := bf5.lens
        refine brE (fun bb7 => ?_) (fun bb7 => by exfalso; omega)
        dsimp only at bb7
        refine allP_ok h bf5 (by first | omega | (dsimp only; omega) | decide) (fun bv9 bΓ10 _ bg12 bf13 h => ?_)
        have bf5 := bf5.mono bg12
        obtain ⟨lbf13, mbf13, cbf13⟩ := bf13.lens
        refine brE (fun bb15 => by exfalso; dsimp only at bb15; omega) (fun bb15 => ?_)
        dsimp only at bb15
        refine ⟨by dsimp only; omega, ?_⟩
        rotate_left
        have hs2 := bf5.sub (l := 0) (n := (allB (m.read [106, 111, 117, 114, 110, 97, 108]).2.1).2) (Nat.zero_le _) (by omega)
        rw [List.drop_zero, Nat.sub_zero] at hs2
        refine dPut_ok h hs2 (by first | omega | (dsimp only; omega) | decide) (fun bΓ1 _ bg3 h => ?_)
        have bf13 := bf13.mono bg3
        have bf5 := bf5.mono bg3
        have hs2 := hs2.mono bg3
        refine brN (fun bb5 => by exfalso; omega) (fun bb5 => ?_)
        refine ret2 _ _ ?_
        refine k _ _ _ (bg4.trans (bg12.trans bg3)) bf13 h
      · rw [if_neg h2] at k
        unfold jnS at *
        refine dRead_ok h (by first | omega | (dsimp only; omega) | decide) (fun cv1 cΓ2 _ cg4 cf5 h => ?_)
        obtain ⟨lcf5, mcf5, ccf5⟩ := cf5.lens
        refine brE (fun cb7 => ?_) (fun cb7 => by exfalso; omega)
        dsimp only at cb7
        refine allP_ok h cf5 (by first | omega | (dsimp only; omega) | decide) (fun cv9 cΓ10 _ cg12 cf13 h => ?_)
        have cf5 := cf5.mono cg12
        obtain ⟨lcf13, mcf13, ccf13⟩ := cf13.lens
        refine brE (fun cb15 => by exfalso; dsimp only at cb15; omega) (fun cb15 => ?_)
        dsimp only at cb15
        refine ⟨by dsimp only; omega, ?_⟩
        rotate_left
        have hs2 := cf5.sub (l := 0) (n := (allB (m.read [106, 111, 117, 114, 110, 97, 108]).2.1).2) (Nat.zero_le _) (by omega)
        rw [List.drop_zero, Nat.sub_zero] at hs2
        refine dPut_ok h hs2 (by first | omega | (dsimp only; omega) | decide) (fun cΓ1 _ cg3 h => ?_)
        have cf13 := cf13.mono cg3
        have cf5 := cf5.mono cg3
        have hs2 := hs2.mono cg3
        refine brN (fun cb5 => ?_) (fun cb5 => by exfalso; omega)
        refine ret2 _ _ ?_
        refine k _ _ _ (cg4.trans (cg12.trans cg3)) (.nil _ _) h
  · rw [if_neg h0] at k
    by_cases h2 : (m.read jnS).2.2 = 2
    · rw [if_pos h2] at k
      unfold jnS at *
      refine dRead_ok h (by first | omega | (dsimp only; omega) | decide) (fun dv1 dΓ2 _ dg4 df5 h => ?_)
      obtain ⟨ldf5, mdf5, cdf5⟩ := df5.lens
      refine brE (fun db7 => by exfalso; omega) (fun db7 => ?_)
      dsimp only at db7
      refine brE (fun db8 => ?_) (fun db8 => by exfalso; omega)
      dsimp only at db8
      refine ret2 _ _ ?_
      refine k _ _ _ dg4 (.nil _ _) h
    · rw [if_neg h2] at k
      unfold jnS at *
      refine dRead_ok h (by first | omega | (dsimp only; omega) | decide) (fun ev1 eΓ2 _ eg4 ef5 h => ?_)
      obtain ⟨lef5, mef5, cef5⟩ := ef5.lens
      refine brE (fun eb7 => by exfalso; omega) (fun eb7 => ?_)
      dsimp only at eb7
      refine brE (fun eb8 => by exfalso; omega) (fun eb8 => ?_)
      dsimp only at eb8
      refine ret2 _ _ ?_
      refine k _ _ _ eg4 (.nil _ _) h

theorem jAdd_ok {a : Nat} {m : DiskM} {t : Sl} {x : Str} {K : Int → World → Prop} (h : Sat Γ (PDisk a m :: L) w) (hx : Bytes Γ t x) (hg : m.g < 10000000000)
    (k : ∀ Γ' w', Γ.le Γ' → Sat Γ' (PDisk a (addJ m x).1 :: L) w' → K (addJ m x).2 w') :
    CallP Try.prog 9 [.pointer (some ⟨a, 0, none⟩), .slice t.p t.len t.cap] (.one (.s (.int .i64))) K w := by
  refine callP (fn := Try.f9) [.s (.ptr (some ⟨a, 0, none⟩)), .s (.sl t)] .n nong mixed (by kernel_rfl) (by kernel_rfl) rfl rfl ?_
  unfold addJ at k
  by_cases hx4 : 4096 < x.length
  · rw [if_pos hx4] at k
    obtain ⟨lhx, mhx, chx⟩ := hx.lens
    refine putF_ok h (.nil _ _) hx (by first | omega | (dsimp only; omega) | decide) (fun ap1 => ?_) (fun ap2 av3 aΓ4 _ ag6 af7 h => ?_)
    refine brT ?_
    refine ⟨_, rfl, ?_⟩
    refine k _ _ (.refl _) h
    have hx := hx.mono ag6
    obtain ⟨laf7, maf7, caf7⟩ := af7.lens
    refine brF ?_
    refine dGrowP_ok h af7 (by first | omega | (dsimp only; omega) | decide) (fun aΓ11 _ ag13 h => ?_)
    have af7 := af7.mono ag13
    have hx := hx.mono ag13
    refine ⟨_, rfl, ?_⟩
    (exfalso; omega)
  · rw [if_neg hx4] at k
    have e : frameB x = [] ++ frameB x := rfl
    rw [e] at k
    have hfl : ([] ++ frameB x : Str).length = x.length + 8 := frameB_len x
    unfold jnS at *
    obtain ⟨lhx, mhx, chx⟩ := hx.lens
    refine putF_ok h (.nil _ _) hx (by first | omega | (dsimp only; omega) | decide) (fun bp1 => ?_) (fun bp2 bv3 bΓ4 _ bg6 bf7 h => ?_)
    refine brT ?_
    refine ⟨_, rfl, ?_⟩
    (exfalso; omega)
    have hx := hx.mono bg6
    obtain ⟨lbf7, mbf7, cbf7⟩ := bf7.lens
    refine brF ?_
    refine dGrowP_ok h bf7 (by first | omega | (dsimp only; omega) | decide) (fun bΓ10 _ bg12 h => ?_)
    have bf7 := bf7.mono bg12
    have hx := hx.mono bg12
    refine ⟨_, rfl, ?_⟩
    refine k _ _ (bg6.trans bg12) h

end Go.Proofs.Ytocmjngleknlbaa.K
