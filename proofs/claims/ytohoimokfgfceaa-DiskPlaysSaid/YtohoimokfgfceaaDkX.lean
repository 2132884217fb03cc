/-
  The program's disk: names in order, names kept, the crash.
-/
import Derived.Test.YtohoimokfgfceaaDkV
import Derived.Test.YtohoimokfgfceaaDkL
namespace Go.Proofs.Ytohoimokfgfceaa.K
open Go Go.Proofs
variable {Γ Γ' : Mem} {L L' L'' : List HP} {w w' : World} {A B : HP}
set_option maxRecDepth 100000
set_option maxHeartbeats 4000000

abbrev TStr : Nat := 9

theorem sorted_ok {r : Nat} {ln : List (Str × Option Nat)} {nl : List Str} {K : Sl → World → Prop} (h : Sat Γ (MapR ekS ekP r ln :: L) w) (hs : nl.Pairwise fun a b => cmpB a b < 0) (hp : (ln.map (·.1)).Perm nl) (hn : nl.length ≤ 1000000000000)
    (k : ∀ s w', Sat Γ (OL eStr TStr s nl :: MapR ekS ekP r ln :: L) w' → K s w') :
    CallP Try.prog 126 [.map (some r)] (.one (.s .sl)) K w := by
  have hlen : ln.length = nl.length := by simpa using hp.length_eq
  refine callP (fn := Try.f126) [.s (.mp (some r))] (.p .n (.p .n (.p (.p .n (.b (.l [6] [(3, .s .sl)] .n))) .n))) nong mixed (by kernel_rfl) (by kernel_rfl) rfl rfl ?_
  refine rangeNames_pr h .n0 (fun av1 _ h => ?_)
  rotate_left
  refine loop (σ := Sl) (fun st w' n => ∃ left acc, n = left.length ∧ (acc ++ left.map (·.1)).Perm nl ∧ Sat Γ (OL eStr TStr st acc :: MapIt ekS ekP r av1 ln left :: L) w') ln.length ⟨ln, [], rfl, by simpa using hp, h.olNil⟩ ?_
  clear h
  rintro st w n ⟨left, acc, hn2, hpm, h⟩
  have hal := hpm.length_eq
  rw [List.length_append, List.length_map] at hal
  have hol := h.olLen .n0
  refine nextNames_pr h .n1 (fun bp1 _ h => ?_) (fun bv4 bv5 bv6 bv7 bp8 _ h => ?_)
  refine ⟨_, rfl, ?_⟩
  refine brF ?_
  refine sortS_ok (h.pick .n1) (by first | omega | decide) (fun _ h => ?_)
  refine ⟨_, rfl, ?_⟩
  refine k _ _ ?_
  rotate_left
  refine ⟨_, rfl, ?_⟩
  refine brT ?_
  refine entryNames_pr h .n0 (fun _ h => ?_)
  refine ⟨_, rfl, ?_⟩
  refine new h fun br18 _ h => ?_
  refine app1 _ _ slStr h .n1 rfl (fun bs19 _ bl19 h => ?_)
  refine ⟨_, ?_, _, _, rfl, ?_, ((h.pick .n1).pick .n1)⟩
  rotate_left
  rotate_left
  · rw [sorted_unique hs (by simpa [bp1] using hpm)] at h
    exact (h.itMap .n1).pick .n1
  · have : left.length = (bv4 ++ bv7).length + 1 := by rw [bp8]; simp; omega
    omega
  · refine List.Perm.trans ?_ hpm
    rw [bp8, List.map_append, List.map_append, List.map_cons, List.append_assoc]
    refine List.Perm.append_left _ ?_
    exact (List.perm_middle (a := bv5) (l₁ := bv4.map (·.1)) (l₂ := bv7.map (·.1))).symm

theorem dNames_ok {a : Nat} {m : DiskM} {K : (Sl × Int) → World → Prop} (h : Sat Γ (PDisk a m :: L) w) (hg : m.g < 1000000000000)
    (k0 : m.up = false → ∀ w', Sat Γ (PDisk a m.tick :: L) w' → K (⟨none, 0, 0⟩, 40) w') (k1 : m.up = true → ∀ s w', Sat Γ (OL eStr TStr s (m.now.map Prod.fst) :: PDisk a m.tick :: L) w' → K (s, 0) w') :
    CallP Try.prog 67 [.pointer (some ⟨a, 0, none⟩)] (.tup [.s .sl, .s (.int .i64)]) K w := by
  obtain ⟨ps, h⟩ := h.pd
  refine callP (fn := Try.f67) [.s (.ptr (some ⟨a, 0, none⟩))] .n nong mixed (by kernel_rfl) (by kernel_rfl) rfl rfl ?_
  refine readyP_ok h (fun _ hu h => ?_) (fun _ hu h => ?_)
  · obtain ⟨rn, rk, cs, ln, lk, hp, hn, hk, h⟩ := Sat.pdg h
    have hnl := hp.wf.nowLen
    rw [tick_now, tick_g] at hnl
    have hso := hp.wf.nowOK.sorted
    have hn' := hn
    rw [tick_now] at hso hn
    have hpm : (ln.map (·.1)).Perm (m.now.map Prod.fst) := by rw [← namesP_keys ps]; exact hn.map _
    refine brF ?_
    refine ⟨_, rfl, ?_⟩
    refine ld _ h .n0 ?_
    refine sorted_ok (h.pick .n1) ?_ hpm ?_ (fun av1 _ h => ?_)
    rotate_left
    rotate_left
    refine ret2 _ _ ?_
    refine k1 hu _ _ ?_
    rotate_left
    · rw [List.pairwise_map]; exact hso
    · rw [List.length_map]; omega
    · exact (Sat.toPd (Sat.toPdg (M := filesL ps m.tick.files) (h.pick .n5 |>.pick .n5 |>.pick .n5 |>.pick .n4 |>.pick .n5) hp hn' hk)).pick .n1
  · have h := h.toPd
    refine brT ?_
    refine ret2 _ _ ?_
    refine k0 hu _ h

theorem dSyncNames_ok {a : Nat} {m : DiskM} {K : Int → World → Prop} (h : Sat Γ (PDisk a m :: L) w) (hg : m.g < 1000000000000) (k : ∀ w', Sat Γ (PDisk a m.syncNames.1 :: L) w' → K m.syncNames.2 w') :
    CallP Try.prog 77 [.pointer (some ⟨a, 0, none⟩)] (.one (.s (.int .i64))) K w := by
  obtain ⟨ps, h⟩ := h.pd
  refine callP (fn := Try.f77) [.s (.ptr (some ⟨a, 0, none⟩))] .n nong mixed (by kernel_rfl) (by kernel_rfl) rfl rfl ?_
  refine readyP_ok h (fun _ hu h => ?_) (fun _ hu h => ?_)
  · rw [DiskM.syncNames_up hu] at k
    obtain ⟨rn, rk, cs, ln, lk, hp, hn, hk, h⟩ := Sat.pdg h
    have hw : Wf { m.tick with kept := m.now, changes := [] } := by rw [← tick_now (d := m)]; exact hp.wf.synced
    have hn' := hn
    rw [tick_now] at hn
    refine brF ?_
    refine ⟨_, rfl, ?_⟩
    refine ld _ h .n0 ?_
    refine cloneN_ok (h.pick .n1) (fun av1 _ h => ?_)
    refine ⟨_, rfl, ?_⟩
    refine st h .n2 fun _ h => ?_
    refine ⟨_, rfl, ?_⟩
    refine st h .n0 fun _ h => ?_
    refine ⟨_, rfl, ?_⟩
    refine k _ ?_
    rotate_left
    have h := h.olNil (E := eChg) (T := TChg)
    refine Sat.toPd (m := { m.tick with kept := m.now, changes := [] }) (ps := ps) (Sat.toPdg (m := { m.tick with kept := m.now, changes := [] }) (rn := rn) (rk := av1) (cs := ⟨none, 0, 0⟩) (ln := ln) (lk := ln) (M := filesL ps m.tick.files) ?_ ⟨hp.len, hp.now, by rw [← tick_now (d := m)]; exact hp.now, fun _ h => (by cases h), hw⟩ hn' hn)
    refine (((((((h.pick .n4).drop.pick .n4).drop.pick .n4).pick .n1).pick .n3).pick .n4).pick .n4)
  · rw [DiskM.syncNames_down hu] at k
    have h := h.toPd
    refine brT ?_
    refine ⟨_, rfl, ?_⟩
    refine k _ h

end Go.Proofs.Ytohoimokfgfceaa.K
