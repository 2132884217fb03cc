/-
  The reference's disk: what is shared by its calls.
-/
import Derived.Test.YtohoimokfgfceaaRdA
namespace Go.Proofs.Ytohoimokfgfceaa.K
open Go Go.Proofs
variable {Γ Γ' : Mem} {L L' L'' : List HP} {w w' : World} {A B : HP}
set_option maxRecDepth 100000
set_option maxHeartbeats 4000000

theorem rdDown_ok {a : Nat} {m : DiskM} {K : Bool → World → Prop} (h : Sat Γ (RDisk a m :: L) w) (k : ∀ w', Sat Γ (RDisk a m.tick :: L) w' → K (!m.up) w') :
    CallP Try.prog 153 [.pointer (some ⟨a, 0, none⟩)] (.one (.s .bool)) K w := by
  obtain ⟨fl, nl, kl, cl, left, hr, h⟩ := h.rd
  have hlo := hr.left
  have hll := hr.wf.left
  have hlu := hr.wf.leftU
  have hwt := hr.wf.tick
  have hr2 : ∀ left', LeftOK m.tick left' → RdOK Γ nl kl cl m.tick left' := fun left' hl => ⟨tick_now (d := m) ▸ hr.now, tick_kept (d := m) ▸ hr.kept, tick_changes (d := m) ▸ hr.chs, hl, hwt⟩
  refine callP (fn := Try.f153) [.s (.ptr (some ⟨a, 0, none⟩))] (.p .n (.j [0] [] .n .n)) nong mixed (by kernel_rfl) (by kernel_rfl) rfl rfl ?_
  obtain ⟨fs, nw, kp, ch, room, down, doomed, leftm, g⟩ := m
  dsimp only at hll hlu
  cases down
  · cases doomed
    · have k : ∀ w', Sat Γ (rdlay a fl nl kl cl ⟨fs, nw, kp, ch, room, false, false, leftm, g⟩ left L) w' → K false w' := fun w' h => k w' (Sat.toRd h (hr2 left fun _ e => by cases e))
      refine joinI ?_
      refine ⟨_, rfl, ?_⟩
      refine ld _ h .n0 ?_
      refine brT ?_
      refine ⟨_, rfl, ?_⟩
      refine ld _ h .n0 ?_
      refine brF ?_
      refine ⟨_, rfl, ?_⟩
      refine ld _ h .n0 ?_
      refine ⟨_, rfl, ?_⟩
      refine k _ ((h.pick .n1).pick .n1)
    · have hleft : left = leftm := hlo rfl rfl
      subst hleft
      by_cases h0 : left = 0
      · subst h0
        have k : ∀ w', Sat Γ (rdlay a fl nl kl cl ⟨fs, nw, kp, ch, room, true, true, 0, g⟩ (-1) L) w' → K true w' := fun w' h => k w' (Sat.toRd h (hr2 (-1) fun e => by cases e))
        refine joinI ?_
        refine ⟨_, rfl, ?_⟩
        refine ld _ h .n0 ?_
        refine brT ?_
        refine ⟨_, rfl, ?_⟩
        refine ld _ h .n0 ?_
        refine brT ?_
        refine ⟨_, rfl, ?_⟩
        refine ld _ h .n0 ?_
        refine ⟨_, rfl, ?_⟩
        refine st h .n0 fun _ h => ?_
        refine ⟨_, rfl, ?_⟩
        refine ld _ h .n0 ?_
        refine wr ?_
        refine ⟨_, rfl, ?_⟩
        refine st h .n0 fun _ h => ?_
        refine ⟨_, rfl, ?_⟩
        refine ld _ h .n0 ?_
        refine ⟨_, rfl, ?_⟩
        refine k _ ((h.pick .n1).pick .n1)
      · have ht : DiskM.tick ⟨fs, nw, kp, ch, room, false, true, left, g⟩ = ⟨fs, nw, kp, ch, room, false, true, left - 1, g⟩ := by simp [DiskM.tick, h0]
        have hup : DiskM.up ⟨fs, nw, kp, ch, room, false, true, left, g⟩ = true := by simp [DiskM.up, h0]
        rw [ht] at k hr2
        rw [hup] at k
        have k : ∀ w', Sat Γ (rdlay a fl nl kl cl ⟨fs, nw, kp, ch, room, false, true, left - 1, g⟩ (left - 1) L) w' → K false w' := fun w' h => k w' (Sat.toRd h (hr2 (left - 1) fun _ _ => rfl))
        have e0 : (left == (0 : Int)) = false := by simpa using h0
        refine joinI ?_
        refine ⟨_, rfl, ?_⟩
        refine ld _ h .n0 ?_
        refine brT ?_
        refine ⟨_, rfl, ?_⟩
        refine ld _ h .n0 ?_
        refine brT ?_
        refine ⟨_, rfl, ?_⟩
        refine ld _ h .n0 ?_
        refine ⟨_, rfl, ?_⟩
        refine st h .n0 fun _ h => ?_
        refine ⟨_, rfl, ?_⟩
        refine ld _ h .n0 ?_
        refine wr ?_
        refine ⟨_, rfl, ?_⟩
        refine st h .n0 fun _ h => ?_
        refine ⟨_, rfl, ?_⟩
        refine ld _ h .n0 ?_
        refine ⟨_, rfl, ?_⟩
        refine kDec (fun cb0 => ?_) (fun cb0 => ?_)
        (exfalso; omega)
        refine k _ ?_
        rotate_left
        rw [e0] at h
        exact h
  · have k : ∀ w', Sat Γ (rdlay a fl nl kl cl ⟨fs, nw, kp, ch, room, true, doomed, leftm, g⟩ left L) w' → K true w' := fun w' h => k w' (Sat.toRd h (hr2 left fun e => by cases e))
    refine joinI ?_
    refine ⟨_, rfl, ?_⟩
    refine ld _ h .n0 ?_
    refine brF ?_
    refine ⟨_, rfl, ?_⟩
    refine ld _ h .n0 ?_
    refine ⟨_, rfl, ?_⟩
    refine k _ ((h.pick .n1).pick .n1)

end Go.Proofs.Ytohoimokfgfceaa.K
