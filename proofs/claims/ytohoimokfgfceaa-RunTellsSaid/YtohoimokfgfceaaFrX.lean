/-
  Frames: the reference's All.
-/
import Derived.Test.YtohoimokfgfceaaFrW
namespace Go.Proofs.Ytohoimokfgfceaa.K
open Go Go.Proofs
variable {Γ Γ' : Mem} {L L' L'' : List HP} {w w' : World} {A B : HP}
set_option maxRecDepth 100000
set_option maxHeartbeats 4000000

theorem rall_ok {s : Sl} {b : Str} {K : (Sl × Int) → World → Prop} (h : Sat Γ L w) (hb : Bytes Γ s b) (hl : b.length < 1000000000)
    (k : ∀ t Γ' w', Γ.le Γ' → Lst eBytes Γ' t (allB b).1 → Sat Γ' L w' → K (t, ((allB b).2 : Int)) w') :
    CallP Try.prog 118 [.slice s.p s.len s.cap] (.tup [.s .sl, .s (.int .i64)]) K w := by
  obtain ⟨hlb, _, hcb⟩ := hb.lens
  refine callP (fn := Try.f118) [.s (.sl s)] (.p .n (.p .n (.p .n (.b (.l [] [(4, .s .sl), (5, .s (.int .i64)), (0, .s .sl)] .n))))) nong mixed (by kernel_rfl) (by kernel_rfl) rfl rfl ?_
  rotate_left
  refine loop (σ := Sl × Int × Sl) (fun st w' u => ∃ (o : Sl) (acc : List Str) (a : Nat) (t : Sl) (Γ' : Mem), st = (o, (a : Int), t) ∧ a ≤ b.length ∧ u = b.length - a ∧ Γ.le Γ' ∧ acc ++ (allB (b.drop a)).1 = (allB b).1 ∧ a + (allB (b.drop a)).2 = (allB b).2 ∧ acc.length ≤ a ∧ Bytes Γ' t (b.drop a) ∧
    Sat Γ' (OL eBytes 32 o acc :: L) w') b.length ⟨⟨none, 0, 0⟩, [], 0, s, Γ, rfl, by omega, by omega, .refl _, by simp, by simp, by simp, by simpa using hb, h.olNil⟩ ?_
  clear h
  rintro _ w u ⟨o, acc, a, t, Γ3, rfl, ha, hu, g3, he1, he2, hal, hb3, h⟩
  have hdl : (b.drop a).length = b.length - a := List.length_drop
  have hol := h.olLen .n0
  cases ht : takeF (b.drop a) with
  | error e =>
    have he := takeF_ne ht
    rw [allB_error ht, List.append_nil] at he1
    rw [allB_error ht, Nat.add_zero] at he2
    subst he1
    subst he2
    have hb := hb.mono g3
    obtain ⟨lhb3, mhb3, chb3⟩ := hb3.lens
    refine rtakeErr_ok h hb3 (by first | omega | (dsimp only; omega) | decide) ht (fun bΓ1 _ bg3 h => ?_)
    have hb3 := hb3.mono bg3
    have hb := hb.mono bg3
    refine brN (fun bb5 => ?_) (fun bb5 => ?_)
    dsimp only at bb5
    refine ret2 _ _ ?_
    obtain ⟨bΓ6, bg6, bf6, h⟩ := h.olFreeze .n0 (by first | omega | (dsimp only; omega))
    have hb3 := hb3.mono bg6
    have hb := hb.mono bg6
    refine k _ _ _ (g3.trans (bg3.trans bg6)) bf6 h
    dsimp only at bb5
    refine new h fun br8 _ h => ?_
    have h := h.asA (B := blk br8 (.cells #[Value.slice (Sl.mk none 0 0, Sl.mk none 0 0, e).fst.p (Sl.mk none 0 0, Sl.mk none 0 0, e).fst.len (Sl.mk none 0 0, Sl.mk none 0 0, e).fst.cap] 32 (0, 0))) (by kernel_rfl)
    (exfalso; omega)
  | ok p =>
    obtain ⟨x, n⟩ := p
    obtain ⟨hn, hx4, hnb, _⟩ := takeF_ok ht
    rw [allB_ok ht] at he1 he2
    have hdd : (b.drop a).drop n = b.drop (a + n) := by rw [List.drop_drop]
    rw [hdd] at he1 he2
    have hb := hb.mono g3
    dsimp only at he1
    dsimp only at he2
    obtain ⟨lhb3, mhb3, chb3⟩ := hb3.lens
    refine rtakeFirst_ok h hb3 (by first | omega | (dsimp only; omega) | decide) ht (fun cv1 cv2 cΓ3 _ cg5 cf6 cf7 h => ?_)
    have hb3 := hb3.mono cg5
    have hb := hb.mono cg5
    obtain ⟨lcf6, mcf6, ccf6⟩ := cf6.lens
    obtain ⟨lcf7, mcf7, ccf7⟩ := cf7.lens
    refine brF ?_
    refine new h fun cr9 _ h => ?_
    have h := h.asA (B := blk cr9 (.cells #[Value.slice (cv1, cv2, 0).fst.p (cv1, cv2, 0).fst.len (cv1, cv2, 0).fst.cap] 32 (0, 0))) (by kernel_rfl)
    refine app1 _ _ slSlice h .n0 cf6 (fun cs10 _ cl10 h => ?_)
    dsimp only at cl10
    refine wrN (a + cv1.len) ?_
    refine wrN ((a + cv1.len) + 8) ?_
    refine ⟨_, (by first | omega | rfl | (dsimp only; omega)), _, _, _, _, _, rfl, (by first | omega | rfl | (dsimp only; omega)), rfl, (g3.trans cg5), ?_, ?_, ?_, ?_, h⟩
    rotate_left
    rotate_left
    rotate_left
    rotate_left
    · rw [show a + cv1.len + 8 = a + n by omega, List.append_assoc]; exact he1
    · rw [show a + cv1.len + 8 = a + n by omega]; omega
    · show (acc ++ [x]).length ≤ a + cv1.len + 8
      rw [List.length_append, List.length_singleton]; omega
    · show Bytes _ cv2 _
      rw [show a + cv1.len + 8 = a + n by omega, ← hdd]; assumption

end Go.Proofs.Ytohoimokfgfceaa.K
