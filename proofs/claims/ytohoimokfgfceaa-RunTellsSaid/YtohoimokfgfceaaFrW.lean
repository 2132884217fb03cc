/-
  Frames: the reference's Unfix, Unseal, Take, All.
-/
import Derived.Test.YtohoimokfgfceaaFrU
namespace Go.Proofs.Ytohoimokfgfceaa.K
open Go Go.Proofs
variable {Γ Γ' : Mem} {L L' L'' : List HP} {w w' : World} {A B : HP}
set_option maxRecDepth 100000
set_option maxHeartbeats 4000000

theorem runfixShort_ok {s : Sl} {bs : Str} {K : (Int × Sl × Int) → World → Prop} (h : Sat Γ L w) (hs : Bytes Γ s bs) (h4 : bs.length < 4) (k : ∀ w', Sat Γ L w' → K (0, ⟨none, 0, 0⟩, 5) w') :
    CallP Try.prog 182 [.slice s.p s.len s.cap, .int .i64 4] (.tup [.s (.int .u64), .s .sl, .s (.int .i64)]) K w := by
  refine callP (fn := Try.f182) [.s (.sl s), .s (.int .i64 4)] (.p .n (.j [0, 1] [] .n (.p .n (.p .n (.p (.p .n (.b (.l [0, 1] [(7, .s (.int .u64)), (8, .s (.int .i64))] .n))) .n))))) nong mixed (by kernel_rfl) (by kernel_rfl) rfl rfl ?_
  obtain ⟨lhs, mhs, chs⟩ := hs.lens
  refine joinI ?_
  refine brF ?_
  refine brF ?_
  refine brD (fun ab0 => ?_) (fun ab0 => by exfalso; omega)
  refine ret3 _ _ _ ?_
  refine k _ h

theorem runfixFour_ok {s : Sl} {bs : Str} {K : (Int × Sl × Int) → World → Prop} (h : Sat Γ L w) (hs : Bytes Γ s bs) (h4 : 4 ≤ bs.length) (hl : bs.length < 1000000000000)
    (k : ∀ t Γ' w', Γ.le Γ' → Bytes Γ' t (bs.drop 4) → Sat Γ' L w' → K ((unfix (bs.take 4) : Int), t, 0) w') :
    CallP Try.prog 182 [.slice s.p s.len s.cap, .int .i64 4] (.tup [.s (.int .u64), .s .sl, .s (.int .i64)]) K w := by
  refine callP (fn := Try.f182) [.s (.sl s), .s (.int .i64 4)] (.p .n (.j [0, 1] [] .n (.p .n (.p .n (.p (.p .n (.b (.l [0, 1] [(7, .s (.int .u64)), (8, .s (.int .i64))] .n))) .n))))) nong mixed (by kernel_rfl) (by kernel_rfl) rfl rfl ?_
  obtain ⟨lhs, mhs, chs⟩ := hs.lens
  refine joinI ?_
  refine brF ?_
  refine brF ?_
  refine brD (fun bb0 => by exfalso; omega) (fun bb0 => ?_)
  rotate_left
  refine loop (σ := Int × Int) (fun st w' u => ∃ i : Nat, st = ((unfix (bs.take i) : Int), (i : Int)) ∧ i ≤ 4 ∧ u = 4 - i ∧ Sat Γ L w') 4 ⟨0, rfl, by omega, by omega, h⟩ ?_
  clear h
  rintro _ w u ⟨i, rfl, hi, hu, h⟩
  have hlt := unfix_lt (bs.take i)
  have hle : 256 ^ (bs.take i).length ≤ 256 ^ 4 := Nat.pow_le_pow_right (by decide) (by rw [List.length_take]; omega)
  have hlt4 : unfix (bs.take i) < 4294967296 := by omega
  clear hlt hle
  by_cases his : i < 4
  · obtain ⟨c, ec⟩ := get_lt (xs := bs) (i := i) (by omega)
    have hun : unfix (bs.take (i + 1)) = unfix (bs.take i) * 256 + c.toNat := by
      rw [List.take_add_one, ec]
      unfold unfix
      simp
    have hc := c.toNat_lt
    refine brD (fun cb0 => ?_) (fun cb0 => by exfalso; omega)
    dsimp only at cb0
    refine wrU ?_
    refine ⟨by omega, ?_⟩
    refine nnL h hs.lst (fun ca1 cha1 => ?_)
    refine ldL h hs.lst cha1 ec (fun cy2 chy2 => ?_)
    have chy2 : cy2 = (c.toNat : Int) := chy2
    subst chy2
    refine wrU ?_
    refine wrU ?_
    refine wrN (i + 1) ?_
    rotate_left
    exact ⟨4 - (i + 1), by omega, i + 1, Prod.ext (by rw [hun]; show (unfix (bs.take i) : Int) * 256 + (c.toNat : Int) = _; omega) rfl, by omega, rfl, h⟩
  · have hi2 : i = 4 := by omega
    subst hi2
    have hd := hs.sub (l := 4) (n := s.len) (by omega) (Nat.le_refl _)
    have hsl := hs.len
    have e1 : (bs.drop 4).take (s.len - 4) = bs.drop 4 := List.take_of_length_le (by rw [List.length_drop]; omega)
    rw [e1] at hd
    have hdl : (bs.drop 4).length = bs.length - 4 := List.length_drop
    refine brF ?_
    refine new h fun dr0 _ h => ?_
    have h := h.asA (B := blk dr0 (.cells #[] 5 (0, 0))) (by kernel_rfl)
    refine ⟨by omega, ?_⟩
    have h := (h.pick .n0).olEmpty (E := eByte)
    refine appL slBytes h .n0 hd.lst (fun ds1 _ dl1 h => ?_)
    dsimp only at dl1
    refine ret3 _ _ _ ?_
    obtain ⟨dΓ2, dg2, df2, h⟩ := h.olFreeze .n0 (by first | omega | (dsimp only; omega))
    have df2 := df2.bytes
    have hs := hs.mono dg2
    have hd := hd.mono dg2
    refine k _ _ _ dg2 df2 h

theorem runsealYes_ok {s : Sl} {b : Str} {K : (Sl × Int) → World → Prop} (h : Sat Γ L w) (hb : Bytes Γ s b) (h4 : 4 ≤ b.length) (hl : b.length < 1000000000) (he : sealB (b.take (b.length - 4)) = b)
    (k : ∀ t Γ' w', Γ.le Γ' → Bytes Γ' t (b.take (b.length - 4)) → Sat Γ' L w' → K (t, 0) w') :
    CallP Try.prog 183 [.slice s.p s.len s.cap] (.tup [.s .sl, .s (.int .i64)]) K w := by
  obtain ⟨hlb, _, hcb⟩ := hb.lens
  have hsub := hb.sub (l := 0) (n := s.len - 4) (Nat.zero_le _) (by omega)
  have e0 : (b.drop 0).take (s.len - 4 - 0) = b.take (b.length - 4) := by rw [List.drop_zero, Nat.sub_zero, hlb]
  rw [e0] at hsub
  have hsl : (b.take (b.length - 4)).length = b.length - 4 := by rw [List.length_take]; omega
  have hsb := sealB_len (b.take (b.length - 4))
  refine callP (fn := Try.f183) [.s (.sl s)] (.p .n (.p .n (.p .n (.p (.p (.hz [0, 3, 4, 1, 2, 5] [] [1]) .n) .n)))) nong mixed (by kernel_rfl) (by kernel_rfl) rfl rfl ?_
  refine brD (fun hab0 => by exfalso; omega) (fun hab0 => ?_)
  refine new h fun har1 _ h => ?_
  have h := h.asA (B := blk har1 (.cells #[] 5 (0, 0))) (by kernel_rfl)
  refine wrN (s.len - 4) ?_
  refine ⟨by omega, ?_⟩
  have h := (h.pick .n0).olEmpty (E := eByte)
  refine appL slBytes h .n0 hsub.lst (fun has2 _ hal2 h => ?_)
  dsimp only at hal2
  rotate_left
  have hol := h.olLen .n0
  obtain ⟨Γ2, g2, f2, h⟩ := h.olFreeze .n0 (by rw [hol, List.nil_append]; omega)
  have f2 := f2.bytes
  rw [List.nil_append] at f2
  have hb2 := hb.mono g2
  refine heldS h .nil ?_
  have hb := hb.mono g2
  have hsub := hsub.mono g2
  refine dr h fun _ h => ?_
  refine ⟨h.sxs .nil (.refl _), ?_⟩
  refine btoSH hb ?_
  refine rseal_ok h f2 (by first | omega | (dsimp only; omega) | decide) (fun av1 aΓ2 _ ag4 af5 h => ?_)
  have f2 := f2.mono ag4
  have hb2 := hb2.mono ag4
  have hb := hb.mono ag4
  have hsub := hsub.mono ag4
  obtain ⟨laf5, maf5, caf5⟩ := af5.lens
  refine heldS h .nil ?_
  refine ⟨fun _ hs => hs.weaken .nil ag4, ?_⟩
  refine ⟨h.sxs .nil (.refl _), ?_⟩
  refine btoSH af5 ?_
  refine brSn (fun ab7 => ?_) (fun ab7 => ?_)
  refine ret2 _ _ ?_
  contradiction
  refine ret2 _ _ ?_
  refine k _ _ _ (g2.trans ag4) f2 h

theorem runsealNot_ok {s : Sl} {b : Str} {K : (Sl × Int) → World → Prop} (h : Sat Γ L w) (hb : Bytes Γ s b) (h4 : 4 ≤ b.length) (hl : b.length < 1000000000) (he : ¬ sealB (b.take (b.length - 4)) = b)
    (k : ∀ Γ' w', Γ.le Γ' → Sat Γ' L w' → K (⟨none, 0, 0⟩, 6) w') :
    CallP Try.prog 183 [.slice s.p s.len s.cap] (.tup [.s .sl, .s (.int .i64)]) K w := by
  obtain ⟨hlb, _, hcb⟩ := hb.lens
  have hsub := hb.sub (l := 0) (n := s.len - 4) (Nat.zero_le _) (by omega)
  have e0 : (b.drop 0).take (s.len - 4 - 0) = b.take (b.length - 4) := by rw [List.drop_zero, Nat.sub_zero, hlb]
  rw [e0] at hsub
  have hsl : (b.take (b.length - 4)).length = b.length - 4 := by rw [List.length_take]; omega
  have hsb := sealB_len (b.take (b.length - 4))
  refine callP (fn := Try.f183) [.s (.sl s)] (.p .n (.p .n (.p .n (.p (.p (.hz [0, 3, 4, 1, 2, 5] [] [1]) .n) .n)))) nong mixed (by kernel_rfl) (by kernel_rfl) rfl rfl ?_
  refine brD (fun hbb0 => by exfalso; omega) (fun hbb0 => ?_)
  refine new h fun hbr1 _ h => ?_
  have h := h.asA (B := blk hbr1 (.cells #[] 5 (0, 0))) (by kernel_rfl)
  refine wrN (s.len - 4) ?_
  refine ⟨by omega, ?_⟩
  have h := (h.pick .n0).olEmpty (E := eByte)
  refine appL slBytes h .n0 hsub.lst (fun hbs2 _ hbl2 h => ?_)
  dsimp only at hbl2
  rotate_left
  have hol := h.olLen .n0
  obtain ⟨Γ2, g2, f2, h⟩ := h.olFreeze .n0 (by rw [hol, List.nil_append]; omega)
  have f2 := f2.bytes
  rw [List.nil_append] at f2
  have hb2 := hb.mono g2
  refine heldS h .nil ?_
  have hb := hb.mono g2
  have hsub := hsub.mono g2
  refine dr h fun _ h => ?_
  refine ⟨h.sxs .nil (.refl _), ?_⟩
  refine btoSH hb ?_
  refine rseal_ok h f2 (by first | omega | (dsimp only; omega) | decide) (fun bv1 bΓ2 _ bg4 bf5 h => ?_)
  have f2 := f2.mono bg4
  have hb2 := hb2.mono bg4
  have hb := hb.mono bg4
  have hsub := hsub.mono bg4
  obtain ⟨lbf5, mbf5, cbf5⟩ := bf5.lens
  refine heldS h .nil ?_
  refine ⟨fun _ hs => hs.weaken .nil bg4, ?_⟩
  refine ⟨h.sxs .nil (.refl _), ?_⟩
  refine btoSH bf5 ?_
  refine brSn (fun bb7 => ?_) (fun bb7 => ?_)
  refine ret2 _ _ ?_
  refine k _ _ (g2.trans bg4) h
  refine ret2 _ _ ?_
  contradiction

theorem rtakeErr_ok {s : Sl} {b : Str} {e : Int} {K : (Sl × Sl × Int) → World → Prop} (h : Sat Γ L w) (hb : Bytes Γ s b) (hl : b.length < 1000000000) (ht : takeF b = .error e)
    (k : ∀ Γ' w', Γ.le Γ' → Sat Γ' L w' → K (⟨none, 0, 0⟩, ⟨none, 0, 0⟩, e) w') :
    CallP Try.prog 164 [.slice s.p s.len s.cap] (.tup [.s .sl, .s .sl, .s (.int .i64)]) K w := by
  obtain ⟨hlb, _, hcb⟩ := hb.lens
  refine callP (fn := Try.f164) [.s (.sl s)] (.p .n (.p .n (.p .n (.p .n (.p .n (.p .n (.p .n (.p .n (.p (.t (.n 1 (.n 2 (.n 3 (.n 6 (.n 7 (.n 8 (.n 9 (.o (.n 0 (.o (.n 4 (.n 5 (.n 10 (.n 11 (.n 12 (.n 13 .e)))))) (.n 5 (.n 4 (.n 10 (.n 11 (.n 12 (.n 13 .e)))))))) (.n 5 (.n 0 (.n 4 (.n 10 (.n 11 (.n 12 (.n 13 .e))))))))))))))) [10]) .n))))))))) nong mixed (by kernel_rfl) (by kernel_rfl) rfl rfl ?_
  unfold takeF at ht
  by_cases h4 : b.length < 4
  · rw [if_pos h4] at ht
    cases ht
    refine runfixShort_ok h hb h4 (fun _ h => ?_)
    refine brT ?_
    refine ret3 _ _ _ ?_
    refine k _ _ (.refl _) h
  rw [if_neg h4] at ht
  by_cases hu : unfix (b.take 4) > 4096
  · rw [if_pos hu] at ht
    cases ht
    refine runfixFour_ok h hb (by first | omega | (dsimp only; omega) | decide) (by first | omega | (dsimp only; omega) | decide) (fun bv1 bΓ2 _ bg4 bf5 h => ?_)
    have hb := hb.mono bg4
    obtain ⟨lbf5, mbf5, cbf5⟩ := bf5.lens
    refine brF ?_
    refine brD (fun bb7 => ?_) (fun bb7 => by exfalso; omega)
    dsimp only at bb7
    refine ret3 _ _ _ ?_
    refine k _ _ bg4 h
  rw [if_neg hu] at ht
  by_cases h8 : b.length < 8 + unfix (b.take 4)
  · rw [if_pos h8] at ht
    cases ht
    refine runfixFour_ok h hb (by first | omega | (dsimp only; omega) | decide) (by first | omega | (dsimp only; omega) | decide) (fun cv1 cΓ2 _ cg4 cf5 h => ?_)
    have hb := hb.mono cg4
    obtain ⟨lcf5, mcf5, ccf5⟩ := cf5.lens
    refine brF ?_
    refine brD (fun cb7 => by exfalso; omega) (fun cb7 => ?_)
    dsimp only at cb7
    refine wrN (unfix (List.take 4 b)) ?_
    refine wrN ((unfix (List.take 4 b)) + 4) ?_
    refine wrN ((unfix (List.take 4 b) + 4) + 4) ?_
    refine brD (fun cb8 => ?_) (fun cb8 => by exfalso; omega)
    refine ret3 _ _ _ ?_
    refine k _ _ cg4 h
  rw [if_neg h8] at ht
  by_cases hs : sealB (b.take (4 + unfix (b.take 4))) ≠ b.take (8 + unfix (b.take 4))
  · rw [if_pos hs] at ht
    cases ht
    have hsub := hb.sub (l := 0) (n := (unfix (b.take 4)) + 8) (Nat.zero_le _) (by omega)
    have e0 : (b.drop 0).take ((unfix (b.take 4)) + 8 - 0) = b.take (8 + (unfix (b.take 4))) := by rw [List.drop_zero, Nat.sub_zero, Nat.add_comm]
    rw [e0] at hsub
    have hsl : (b.take (8 + (unfix (b.take 4)))).length = 8 + (unfix (b.take 4)) := by rw [List.length_take]; omega
    have hne : ¬ sealB ((b.take (8 + (unfix (b.take 4)))).take ((b.take (8 + (unfix (b.take 4)))).length - 4)) = b.take (8 + (unfix (b.take 4))) := by
      rw [hsl, List.take_take, Nat.min_eq_left (by omega), show 8 + (unfix (b.take 4)) - 4 = 4 + (unfix (b.take 4)) by omega]
      exact hs
    refine runfixFour_ok h hb (by first | omega | (dsimp only; omega) | decide) (by first | omega | (dsimp only; omega) | decide) (fun dv1 dΓ2 _ dg4 df5 h => ?_)
    have hb := hb.mono dg4
    have hsub := hsub.mono dg4
    obtain ⟨ldf5, mdf5, cdf5⟩ := df5.lens
    refine brF ?_
    refine brD (fun db7 => by exfalso; omega) (fun db7 => ?_)
    dsimp only at db7
    refine wrN (unfix (List.take 4 b)) ?_
    refine wrN ((unfix (List.take 4 b)) + 4) ?_
    refine wrN ((unfix (List.take 4 b) + 4) + 4) ?_
    refine brD (fun db8 => by exfalso; omega) (fun db8 => ?_)
    refine wrN ((unfix (List.take 4 b) + 4) + 4) ?_
    refine ⟨by omega, ?_⟩
    refine runsealNot_ok h hsub (by first | omega | (dsimp only; omega) | decide) (by first | omega | (dsimp only; omega) | decide) hne (fun dΓ10 _ dg12 h => ?_)
    have df5 := df5.mono dg12
    have hb := hb.mono dg12
    have hsub := hsub.mono dg12
    refine brT ?_
    refine ret3 _ _ _ ?_
    refine k _ _ (dg4.trans dg12) h
  · rw [if_neg hs] at ht
    cases ht

theorem rtakeFirst_ok {s : Sl} {b x : Str} {n : Nat} {K : (Sl × Sl × Int) → World → Prop} (h : Sat Γ L w) (hb : Bytes Γ s b) (hl : b.length < 1000000000) (ht : takeF b = .ok (x, n))
    (k : ∀ t r Γ' w', Γ.le Γ' → Bytes Γ' t x → Bytes Γ' r (b.drop n) → Sat Γ' L w' → K (t, r, 0) w') :
    CallP Try.prog 164 [.slice s.p s.len s.cap] (.tup [.s .sl, .s .sl, .s (.int .i64)]) K w := by
  obtain ⟨hlb, _, hcb⟩ := hb.lens
  refine callP (fn := Try.f164) [.s (.sl s)] (.p .n (.p .n (.p .n (.p .n (.p .n (.p .n (.p .n (.p .n (.p (.t (.n 1 (.n 2 (.n 3 (.n 6 (.n 7 (.n 8 (.n 9 (.o (.n 0 (.o (.n 4 (.n 5 (.n 10 (.n 11 (.n 12 (.n 13 .e)))))) (.n 5 (.n 4 (.n 10 (.n 11 (.n 12 (.n 13 .e)))))))) (.n 5 (.n 0 (.n 4 (.n 10 (.n 11 (.n 12 (.n 13 .e))))))))))))))) [10]) .n))))))))) nong mixed (by kernel_rfl) (by kernel_rfl) rfl rfl ?_
  unfold takeF at ht
  by_cases h4 : b.length < 4
  · rw [if_pos h4] at ht; cases ht
  rw [if_neg h4] at ht
  by_cases hu : unfix (b.take 4) > 4096
  · rw [if_pos hu] at ht; cases ht
  rw [if_neg hu] at ht
  by_cases h8 : b.length < 8 + unfix (b.take 4)
  · rw [if_pos h8] at ht; cases ht
  rw [if_neg h8] at ht
  by_cases hs : sealB (b.take (4 + unfix (b.take 4))) ≠ b.take (8 + unfix (b.take 4))
  · rw [if_pos hs] at ht; cases ht
  rw [if_neg hs] at ht
  cases ht
  have hs := Decidable.not_not.1 hs
  have hsub := hb.sub (l := 0) (n := (unfix (b.take 4)) + 8) (Nat.zero_le _) (by omega)
  have e0 : (b.drop 0).take ((unfix (b.take 4)) + 8 - 0) = b.take (8 + (unfix (b.take 4))) := by rw [List.drop_zero, Nat.sub_zero, Nat.add_comm]
  rw [e0] at hsub
  have hsl : (b.take (8 + (unfix (b.take 4)))).length = 8 + (unfix (b.take 4)) := by rw [List.length_take]; omega
  have hse : sealB ((b.take (8 + (unfix (b.take 4)))).take ((b.take (8 + (unfix (b.take 4)))).length - 4)) = b.take (8 + (unfix (b.take 4))) := by
    rw [hsl, List.take_take, Nat.min_eq_left (by omega), show 8 + (unfix (b.take 4)) - 4 = 4 + (unfix (b.take 4)) by omega]
    exact hs
  have hsub4 := hb.sub (l := 4) (n := (unfix (b.take 4)) + 4) (by omega) (by omega)
  have e4 : (b.drop 4).take ((unfix (b.take 4)) + 4 - 4) = (b.drop 4).take (unfix (b.take 4)) := by rw [Nat.add_sub_cancel]
  rw [e4] at hsub4
  have hsub8 := hb.sub (l := (unfix (b.take 4)) + 8) (n := s.len) (by omega) (Nat.le_refl _)
  have e8 : (b.drop ((unfix (b.take 4)) + 8)).take (s.len - ((unfix (b.take 4)) + 8)) = b.drop ((unfix (b.take 4)) + 8) := List.take_of_length_le (by rw [List.length_drop]; omega)
  rw [e8] at hsub8
  have hl4 : ((b.drop 4).take (unfix (b.take 4))).length = (unfix (b.take 4)) := by rw [List.length_take, List.length_drop]; omega
  have hl8 : (b.drop ((unfix (b.take 4)) + 8)).length = b.length - ((unfix (b.take 4)) + 8) := List.length_drop
  refine runfixFour_ok h hb (by first | omega | (dsimp only; omega) | decide) (by first | omega | (dsimp only; omega) | decide) (fun ev1 eΓ2 _ eg4 ef5 h => ?_)
  have hb := hb.mono eg4
  have hsub := hsub.mono eg4
  have hsub4 := hsub4.mono eg4
  have hsub8 := hsub8.mono eg4
  obtain ⟨lef5, mef5, cef5⟩ := ef5.lens
  refine brF ?_
  refine brD (fun eb7 => by exfalso; omega) (fun eb7 => ?_)
  dsimp only at eb7
  refine wrN (unfix (List.take 4 b)) ?_
  refine wrN ((unfix (List.take 4 b)) + 4) ?_
  refine wrN ((unfix (List.take 4 b) + 4) + 4) ?_
  refine brD (fun eb8 => by exfalso; omega) (fun eb8 => ?_)
  refine wrN ((unfix (List.take 4 b) + 4) + 4) ?_
  refine ⟨by omega, ?_⟩
  refine runsealYes_ok h hsub (by first | omega | (dsimp only; omega) | decide) (by first | omega | (dsimp only; omega) | decide) hse (fun ev10 eΓ11 _ eg13 ef14 h => ?_)
  have ef5 := ef5.mono eg13
  have hb := hb.mono eg13
  have hsub := hsub.mono eg13
  have hsub4 := hsub4.mono eg13
  have hsub8 := hsub8.mono eg13
  obtain ⟨lef14, mef14, cef14⟩ := ef14.lens
  refine brF ?_
  refine heldS h .nil ?_
  refine dr h fun _ h => ?_
  refine ⟨h.sxs .nil (.refl _), ?_⟩
  refine ⟨by omega, ?_⟩
  refine wrN ((unfix (List.take 4 b) + 4) + 4) ?_
  refine ⟨by omega, ?_⟩
  refine ⟨?_, ?_⟩
  refine new h fun er16 _ h => ?_
  have h := h.asA (B := blk er16 (.cells #[] 5 (0, 0))) (by kernel_rfl)
  refine ⟨h.sxs .nil (.refl _), ?_⟩
  refine ⟨?_, ?_⟩
  have h := (h.pick .n0).olEmpty (E := eByte)
  refine appL slBytes h .n0 hsub4.lst (fun es17 _ el17 h => ?_)
  dsimp only at el17
  refine ⟨h.sxs .nil (.refl _), ?_⟩
  refine new h fun er18 _ h => ?_
  have h := h.asA (B := blk er18 (.cells #[] 5 (0, 0))) (by kernel_rfl)
  refine ⟨h.sxs .nil (.refl _), ?_⟩
  have h := (h.pick .n0).olEmpty (E := eByte)
  refine appL slBytes h .n0 hsub8.lst (fun es19 _ el19 h => ?_)
  dsimp only at el19
  refine heldS h (.cons .n0 (.cons .n0 .nil)) ?_
  refine ⟨h.sxs (.cons .n0 (.cons .n0 .nil)) (.refl _), ?_⟩
  refine ret3 _ _ _ ?_
  obtain ⟨eΓ20, eg20, ef20, h⟩ := h.olFreeze .n0 (by first | omega | (dsimp only; omega))
  have ef20 := ef20.bytes
  have ef14 := ef14.mono eg20
  have ef5 := ef5.mono eg20
  have hb := hb.mono eg20
  have hsub := hsub.mono eg20
  have hsub4 := hsub4.mono eg20
  have hsub8 := hsub8.mono eg20
  obtain ⟨eΓ21, eg21, ef21, h⟩ := h.olFreeze .n0 (by first | omega | (dsimp only; omega))
  have ef21 := ef21.bytes
  have ef20 := ef20.mono eg21
  have ef14 := ef14.mono eg21
  have ef5 := ef5.mono eg21
  have hb := hb.mono eg21
  have hsub := hsub.mono eg21
  have hsub4 := hsub4.mono eg21
  have hsub8 := hsub8.mono eg21
  refine k _ _ _ _ (eg4.trans (eg13.trans (eg20.trans eg21))) ef21 ef20 h
  refine new h fun er23 _ h => ?_
  have h := h.asA (B := blk er23 (.cells #[] 5 (0, 0))) (by kernel_rfl)
  refine ⟨h.sxs .nil (.refl _), ?_⟩
  have h := (h.pick .n1).olEmpty (E := eByte)
  refine appL slBytes h .n0 hsub4.lst (fun es24 _ el24 h => ?_)
  dsimp only at el24
  refine ⟨h.sxs .nil (.refl _), ?_⟩
  have h := (h.pick .n1).olEmpty (E := eByte)
  refine appL slBytes h .n0 hsub8.lst (fun es25 _ el25 h => ?_)
  dsimp only at el25
  refine heldS h (.cons .n0 (.cons .n0 .nil)) ?_
  refine ⟨h.sxs (.cons .n0 (.cons .n0 .nil)) (.refl _), ?_⟩
  refine ret3 _ _ _ ?_
  obtain ⟨eΓ26, eg26, ef26, h⟩ := h.olFreeze .n0 (by first | omega | (dsimp only; omega))
  have ef26 := ef26.bytes
  have ef14 := ef14.mono eg26
  have ef5 := ef5.mono eg26
  have hb := hb.mono eg26
  have hsub := hsub.mono eg26
  have hsub4 := hsub4.mono eg26
  have hsub8 := hsub8.mono eg26
  obtain ⟨eΓ27, eg27, ef27, h⟩ := h.olFreeze .n0 (by first | omega | (dsimp only; omega))
  have ef27 := ef27.bytes
  have ef26 := ef26.mono eg27
  have ef14 := ef14.mono eg27
  have ef5 := ef5.mono eg27
  have hb := hb.mono eg27
  have hsub := hsub.mono eg27
  have hsub4 := hsub4.mono eg27
  have hsub8 := hsub8.mono eg27
  refine k _ _ _ _ (eg4.trans (eg13.trans (eg26.trans eg27))) ef27 ef26 h
  refine new h fun er29 _ h => ?_
  have h := h.asA (B := blk er29 (.cells #[] 5 (0, 0))) (by kernel_rfl)
  refine ⟨h.sxs .nil (.refl _), ?_⟩
  refine new h fun er30 _ h => ?_
  have h := h.asA (B := blk er30 (.cells #[] 5 (0, 0))) (by kernel_rfl)
  refine ⟨h.sxs .nil (.refl _), ?_⟩
  have h := (h.pick .n0).olEmpty (E := eByte)
  refine appL slBytes h .n0 hsub4.lst (fun es31 _ el31 h => ?_)
  dsimp only at el31
  refine ⟨h.sxs .nil (.refl _), ?_⟩
  have h := (h.pick .n1).olEmpty (E := eByte)
  refine appL slBytes h .n0 hsub8.lst (fun es32 _ el32 h => ?_)
  dsimp only at el32
  refine heldS h (.cons .n0 (.cons .n0 .nil)) ?_
  refine ⟨h.sxs (.cons .n0 (.cons .n0 .nil)) (.refl _), ?_⟩
  refine ret3 _ _ _ ?_
  obtain ⟨eΓ33, eg33, ef33, h⟩ := h.olFreeze .n0 (by first | omega | (dsimp only; omega))
  have ef33 := ef33.bytes
  have ef14 := ef14.mono eg33
  have ef5 := ef5.mono eg33
  have hb := hb.mono eg33
  have hsub := hsub.mono eg33
  have hsub4 := hsub4.mono eg33
  have hsub8 := hsub8.mono eg33
  obtain ⟨eΓ34, eg34, ef34, h⟩ := h.olFreeze .n0 (by first | omega | (dsimp only; omega))
  have ef34 := ef34.bytes
  have ef33 := ef33.mono eg34
  have ef14 := ef14.mono eg34
  have ef5 := ef5.mono eg34
  have hb := hb.mono eg34
  have hsub := hsub.mono eg34
  have hsub4 := hsub4.mono eg34
  have hsub8 := hsub8.mono eg34
  refine k _ _ _ _ (eg4.trans (eg13.trans (eg33.trans eg34))) ef34 ef33 h

end Go.Proofs.Ytohoimokfgfceaa.K
