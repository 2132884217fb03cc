/-
  Frames: the program's, taken one by one.
-/
import Derived.Test.YtocmjngleknlbaaFrD
namespace Go.Proofs.Ytocmjngleknlbaa.K
open Go Go.Proofs
variable {Γ Γ' : Mem} {L L' L'' : List HP} {w w' : World} {A B : HP}
set_option maxRecDepth 100000
set_option maxHeartbeats 4000000

theorem spanIs_ok {s : Sl} {b : Str} {p : Int × Int} {K : (Int × Int) → World → Prop} (h : Sat Γ L w) (hb : Bytes Γ s b) (hl : b.length < 1000000000000) (hp : spanF b = p) (k : ∀ Γ' w', Γ.le Γ' → Sat Γ' L w' → K p w') :
    CallP Try.prog 66 [.slice s.p s.len s.cap] (.tup [.s (.int .i64), .s (.int .i64)]) K w :=
  span_ok h hb hl fun Γ' w' g h => by rw [hp]; exact k Γ' w' g h

theorem sealedIs_ok {s : Sl} {x : Str} {r : Bool} {K : Bool → World → Prop} (h : Sat Γ L w) (hx : Bytes Γ s x) (hl : x.length < 1000000000000) (h4 : 4 ≤ x.length) (hr : decide (sealB (x.take (x.length - 4)) = x) = r) (k : ∀ Γ' w', Γ.le Γ' → Sat Γ' L w' → K r w') :
    CallP Try.prog 67 [.slice s.p s.len s.cap] (.one (.s .bool)) K w :=
  sealed_ok h hx hl h4 fun Γ' w' g h => by rw [hr]; exact k Γ' w' g h

theorem cloneF_ok {s : Sl} {bs : List UInt8} {K : Sl → World → Prop} (h : Sat Γ L w) (hb : Bytes Γ s bs) (hs : bs.length < 1000000000000)
    (k : ∀ s' Γ' w', Γ.le Γ' → Bytes Γ' s' bs → Sat Γ' L w' → K s' w') : CallP Try.prog 27 [.slice s.p s.len s.cap] (.one (.s .sl)) K w := by
  refine cloneOwn h hb (by omega) fun s' w' h => ?_
  have hl := h.olLen .n0
  obtain ⟨Γ', g, f, h⟩ := h.olFreeze .n0 (by omega)
  exact k s' Γ' w' g f.bytes h

theorem take_ok {s : Sl} {b : Str} {K : (Sl × Int × Int) → World → Prop} (h : Sat Γ L w) (hb : Bytes Γ s b) (hl : b.length < 1000000000000)
    (k0 : ∀ e, takeF b = .error e → ∀ Γ' w', Γ.le Γ' → Sat Γ' L w' → K (⟨none, 0, 0⟩, 0, e) w')
    (k1 : ∀ x n, takeF b = .ok (x, n) → ∀ t Γ' w', Γ.le Γ' → Bytes Γ' t x → Sat Γ' L w' → K (t, (n : Int), 0) w') :
    CallP Try.prog 47 [.slice s.p s.len s.cap] (.tup [.s .sl, .s (.int .i64), .s (.int .i64)]) K w := by
  obtain ⟨hlb, _, hcb⟩ := hb.lens
  refine callP (fn := Try.f47) [.s (.sl s)] .n nong mixed (by kernel_rfl) (by kernel_rfl) rfl rfl ?_
  by_cases h4 : b.length < 4
  · have hs : spanF b = (0, 5) := by unfold spanF; rw [if_pos h4]
    have ht : takeF b = .error 5 := by unfold takeF; rw [if_pos h4]
    have k : ∀ Γ' w', Γ.le Γ' → Sat Γ' L w' → K (⟨none, 0, 0⟩, 0, 5) w' := k0 5 ht
    clear k0 k1
    refine spanIs_ok h hb hl hs (fun aΓ1 _ ag3 h => ?_)
    have hb := hb.mono ag3
    refine brT ?_
    refine ret3 _ _ _ ?_
    refine k _ _ ag3 h
  · by_cases hu : unfix (b.take 4) > 4096
    · have hs : spanF b = (0, 6) := by unfold spanF; rw [if_neg h4, if_pos hu]
      have ht : takeF b = .error 6 := by unfold takeF; rw [if_neg h4, if_pos hu]
      have k : ∀ Γ' w', Γ.le Γ' → Sat Γ' L w' → K (⟨none, 0, 0⟩, 0, 6) w' := k0 6 ht
      clear k0 k1
      refine spanIs_ok h hb hl hs (fun bΓ1 _ bg3 h => ?_)
      have hb := hb.mono bg3
      refine brT ?_
      refine ret3 _ _ _ ?_
      refine k _ _ bg3 h
    · by_cases h8 : b.length < 8 + unfix (b.take 4)
      · have hs : spanF b = (0, 5) := by unfold spanF; rw [if_neg h4, if_neg hu, if_pos h8]
        have ht : takeF b = .error 5 := by unfold takeF; rw [if_neg h4, if_neg hu, if_pos h8]
        have k : ∀ Γ' w', Γ.le Γ' → Sat Γ' L w' → K (⟨none, 0, 0⟩, 0, 5) w' := k0 5 ht
        clear k0 k1
        refine spanIs_ok h hb hl hs (fun cΓ1 _ cg3 h => ?_)
        have hb := hb.mono cg3
        refine brT ?_
        refine ret3 _ _ _ ?_
        refine k _ _ cg3 h
      · have hs : spanF b = (((4 + unfix (b.take 4) : Nat) : Int), 0) := by unfold spanF; rw [if_neg h4, if_neg hu, if_neg h8]
        have ht : takeF b = if sealB (b.take (4 + unfix (b.take 4))) ≠ b.take (8 + unfix (b.take 4)) then .error 6 else .ok ((b.drop 4).take (unfix (b.take 4)), unfix (b.take 4) + 8) := by
          unfold takeF; rw [if_neg h4, if_neg hu, if_neg h8]
        generalize unfix (b.take 4) = u at *
        rw [show 8 + u = 4 + u + 4 by omega] at ht h8
        rw [show u + 8 = 4 + u + 4 by omega] at ht
        have hsub := hb.sub (l := 0) (n := 4 + u + 4) (Nat.zero_le _) (by omega)
        have e0 : (b.drop 0).take (4 + u + 4 - 0) = b.take (4 + u + 4) := by rw [List.drop_zero, Nat.sub_zero]
        rw [e0] at hsub
        have hsub4 := hb.sub (l := 4) (n := 4 + u) (by omega) (by omega)
        have e4 : (b.drop 4).take (4 + u - 4) = (b.drop 4).take u := by rw [Nat.add_sub_cancel_left]
        rw [e4] at hsub4
        have htl : (b.take (4 + u + 4)).length = 4 + u + 4 := by rw [List.length_take]; omega
        have htt : (b.take (4 + u + 4)).take ((b.take (4 + u + 4)).length - 4) = b.take (4 + u) := by rw [htl, List.take_take]; congr 1; omega
        by_cases hse : sealB (b.take (4 + u)) = b.take (4 + u + 4)
        · rw [if_neg (by intro hn; exact hn hse)] at ht
          have k : ∀ t Γ' w', Γ.le Γ' → Bytes Γ' t ((b.drop 4).take u) → Sat Γ' L w' → K (t, ((4 + u + 4 : Nat) : Int), 0) w' := k1 _ _ ht
          have hd : decide (sealB ((b.take (4 + u + 4)).take ((b.take (4 + u + 4)).length - 4)) = b.take (4 + u + 4)) = true := by rw [htt]; exact decide_eq_true hse
          clear k0 k1
          refine spanIs_ok h hb hl hs (fun dΓ1 _ dg3 h => ?_)
          have hb := hb.mono dg3
          have hsub := hsub.mono dg3
          have hsub4 := hsub4.mono dg3
          refine brF ?_
          refine wrN ((4 + u) + 4) ?_
          refine ⟨by omega, ?_⟩
          refine sealedIs_ok h hsub (by first | omega | decide) (by first | omega | decide) hd (fun dΓ6 _ dg8 h => ?_)
          have hb := hb.mono dg8
          have hsub := hsub.mono dg8
          have hsub4 := hsub4.mono dg8
          refine brF ?_
          refine ⟨by omega, ?_⟩
          refine wrN ((4 + u) + 4) ?_
          refine ret3 _ _ _ ?_
          refine k _ _ _ (dg3.trans dg8) hsub4 h
        · rw [if_pos hse] at ht
          have k : ∀ Γ' w', Γ.le Γ' → Sat Γ' L w' → K (⟨none, 0, 0⟩, 0, 6) w' := k0 _ ht
          have hd : decide (sealB ((b.take (4 + u + 4)).take ((b.take (4 + u + 4)).length - 4)) = b.take (4 + u + 4)) = false := by rw [htt]; exact decide_eq_false hse
          clear k0 k1
          refine spanIs_ok h hb hl hs (fun eΓ1 _ eg3 h => ?_)
          have hb := hb.mono eg3
          have hsub := hsub.mono eg3
          have hsub4 := hsub4.mono eg3
          refine brF ?_
          refine wrN ((4 + u) + 4) ?_
          refine ⟨by omega, ?_⟩
          refine sealedIs_ok h hsub (by first | omega | decide) (by first | omega | decide) hd (fun eΓ6 _ eg8 h => ?_)
          have hb := hb.mono eg8
          have hsub := hsub.mono eg8
          have hsub4 := hsub4.mono eg8
          refine brT ?_
          refine ret3 _ _ _ ?_
          refine k _ _ (eg3.trans eg8) h

theorem takeF_ne {b : Str} {e : Int} (ht : takeF b = .error e) : e ≠ 0 := by
  unfold takeF at ht
  repeat' split at ht
  all_goals cases ht
  all_goals decide

theorem takeErr_ok {s : Sl} {b : Str} {e : Int} {K : (Sl × Int × Int) → World → Prop} (h : Sat Γ L w) (hb : Bytes Γ s b) (hl : b.length < 1000000000000) (ht : takeF b = .error e) (k : ∀ Γ' w', Γ.le Γ' → Sat Γ' L w' → K (⟨none, 0, 0⟩, 0, e) w') :
    CallP Try.prog 47 [.slice s.p s.len s.cap] (.tup [.s .sl, .s (.int .i64), .s (.int .i64)]) K w :=
  take_ok h hb hl (fun e' h' Γ' w' g h => by rw [ht] at h'; cases h'; exact k Γ' w' g h) (fun x n h' => by rw [ht] at h'; cases h')

theorem takeFirst_ok {s : Sl} {b x : Str} {n : Nat} {K : (Sl × Int × Int) → World → Prop} (h : Sat Γ L w) (hb : Bytes Γ s b) (hl : b.length < 1000000000000) (ht : takeF b = .ok (x, n)) (k : ∀ t Γ' w', Γ.le Γ' → Bytes Γ' t x → Sat Γ' L w' → K (t, (n : Int), 0) w') :
    CallP Try.prog 47 [.slice s.p s.len s.cap] (.tup [.s .sl, .s (.int .i64), .s (.int .i64)]) K w :=
  take_ok h hb hl (fun e h' => by rw [ht] at h'; cases h') (fun x' n' h' t Γ' w' g f h => by rw [ht] at h'; cases h'; exact k t Γ' w' g f h)

/-- frame.All -/
theorem allP_ok {s : Sl} {b : Str} {K : (Sl × Int) → World → Prop} (h : Sat Γ L w) (hb : Bytes Γ s b) (hl : b.length < 1000000000000)
    (k : ∀ t Γ' w', Γ.le Γ' → Lst eBytes Γ' t (allB b).1 → Sat Γ' L w' → K (t, ((allB b).2 : Int)) w') :
    CallP Try.prog 24 [.slice s.p s.len s.cap] (.tup [.s .sl, .s (.int .i64)]) K w := by
  obtain ⟨hlb, _, hcb⟩ := hb.lens
  refine callP (fn := Try.f24) [.s (.sl s)] (.p .n (.p .n (.p .n (.b (.l [0] [(4, .s .sl), (5, .s (.int .i64))] .n))))) nong mixed (by kernel_rfl) (by kernel_rfl) rfl rfl ?_
  rotate_left
  refine loop (σ := Sl × Int) (fun st w' u => ∃ (o : Sl) (acc : List Str) (a : Nat) (Γ' : Mem), st = (o, (a : Int)) ∧ a ≤ b.length ∧ u = b.length - a ∧ Γ.le Γ' ∧ acc ++ (allB (b.drop a)).1 = (allB b).1 ∧ a + (allB (b.drop a)).2 = (allB b).2 ∧ acc.length ≤ a ∧
    Sat Γ' (OL eBytes 26 o acc :: L) w') b.length ⟨⟨none, 0, 0⟩, [], 0, Γ, rfl, by omega, by omega, .refl _, by simp, by simp, by simp, h.olNil⟩ ?_
  clear h
  rintro _ w u ⟨o, acc, a, Γ3, rfl, ha, hu, g3, he1, he2, hal, h⟩
  have hb3 := hb.mono g3
  have hsub := hb3.sub (l := a) (n := s.len) (by omega) (Nat.le_refl _)
  have e0 : (b.drop a).take (s.len - a) = b.drop a := List.take_of_length_le (by rw [List.length_drop]; omega)
  rw [e0] at hsub
  have hdl : (b.drop a).length = b.length - a := List.length_drop
  have hol := h.olLen .n0
  cases ht : takeF (b.drop a) with
  | error e =>
    have he := takeF_ne ht
    rw [allB_error ht, List.append_nil] at he1
    rw [allB_error ht, Nat.add_zero] at he2
    subst he1
    subst he2
    have hb := hb.mono g3
    refine ⟨by omega, ?_⟩
    refine takeErr_ok h hsub (by first | omega | decide) ht (fun bΓ1 _ bg3 h => ?_)
    have hb3 := hb3.mono bg3
    have hsub := hsub.mono bg3
    have hb := hb.mono bg3
    refine brN (fun bb5 => ?_) (fun bb5 => ?_)
    dsimp only at bb5
    refine ⟨_, rfl, ?_⟩
    obtain ⟨bΓ6, bg6, bf6, h⟩ := h.olFreeze .n0 (by first | omega | (dsimp only; omega))
    have hb3 := hb3.mono bg6
    have hsub := hsub.mono bg6
    have hb := hb.mono bg6
    refine k _ _ _ (g3.trans (bg3.trans bg6)) bf6 h
    dsimp only at bb5
    refine cloneF_ok h (.nil _ _) (by first | omega | decide) (fun bv9 bΓ10 _ bg12 bf13 h => ?_)
    have hb3 := hb3.mono bg12
    have hsub := hsub.mono bg12
    have hb := hb.mono bg12
    obtain ⟨lbf13, mbf13, cbf13⟩ := bf13.lens
    refine new h fun br15 _ h => ?_
    refine app1 _ _ slSlice h .n0 bf13 (fun bs16 _ bl16 h => ?_)
    dsimp only at bl16
    refine wrN (((allB b).snd) + 0) ?_
    refine ⟨_, (by first | omega | rfl | (dsimp only; omega)), _, _, _, _, rfl, ha, rfl, (g3.trans (bg3.trans bg12)), (by first | omega | rfl | (dsimp only; omega)), (by first | omega | rfl | (dsimp only; omega)), (by first | omega | rfl | (dsimp only; omega)), h⟩
  | ok p =>
    obtain ⟨x, n⟩ := p
    obtain ⟨hn, hx4, hnb, _⟩ := takeF_ok ht
    rw [allB_ok ht] at he1 he2
    have hdd : (b.drop a).drop n = b.drop (a + n) := by rw [List.drop_drop]
    rw [hdd] at he1 he2
    have hb := hb.mono g3
    dsimp only at he1
    dsimp only at he2
    refine ⟨by omega, ?_⟩
    refine takeFirst_ok h hsub (by first | omega | decide) ht (fun cv1 cΓ2 _ cg4 cf5 h => ?_)
    have hb3 := hb3.mono cg4
    have hsub := hsub.mono cg4
    have hb := hb.mono cg4
    obtain ⟨lcf5, mcf5, ccf5⟩ := cf5.lens
    refine brF ?_
    refine cloneF_ok h cf5 (by first | omega | decide) (fun cv8 cΓ9 _ cg11 cf12 h => ?_)
    have cf5 := cf5.mono cg11
    have hb3 := hb3.mono cg11
    have hsub := hsub.mono cg11
    have hb := hb.mono cg11
    obtain ⟨lcf12, mcf12, ccf12⟩ := cf12.lens
    refine new h fun cr14 _ h => ?_
    refine app1 _ _ slSlice h .n0 cf12 (fun cs15 _ cl15 h => ?_)
    dsimp only at cl15
    refine wrN (a + n) ?_
    refine ⟨_, (by first | omega | rfl | (dsimp only; omega)), _, _, _, _, rfl, (by first | omega | rfl | (dsimp only; omega)), rfl, (g3.trans (cg4.trans cg11)), ?_, (by first | omega | rfl | (dsimp only; omega)), ?_, h⟩
    rotate_left
    rotate_left
    · rw [List.append_assoc]; exact he1
    · rw [List.length_append, List.length_singleton]; omega

end Go.Proofs.Ytocmjngleknlbaa.K
