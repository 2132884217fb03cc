/-
  The program's disk: its calls.
-/
import Derived.Test.YtocmjngleknlbaaDkQ0
namespace Go.Proofs.Ytocmjngleknlbaa.K
open Go Go.Proofs
variable {Γ Γ' : Mem} {L L' L'' : List HP} {w w' : World} {A B : HP}
set_option maxRecDepth 100000
set_option maxHeartbeats 4000000

theorem tick_up (m : DiskM) (h : m.up = true) : m.tick.up = true ∨ m.doomed = true := by
  unfold DiskM.up at h
  cases hd : m.doomed
  · left
    unfold DiskM.tick DiskM.up
    simp_all
  · right; rfl

theorem dNew_ok {r : Int} {K : Option Addr → World → Prop} (h : Sat Γ L w) (k : ∀ a w', Sat Γ (PDisk a (.new r) :: L) w' → K (some ⟨a, 0, none⟩) w') :
    CallP Try.prog 8 [.int .i64 r] (.one (.s .ptr)) K w := by
  refine callP (fn := Try.f8) [.s (.int .i64 r)] .n nong mixed (by kernel_rfl) (by kernel_rfl) rfl rfl ?_
  refine new h fun ar0 _ h => ?_
  refine new h fun ar1 _ h => ?_
  refine mxI ?_
  refine new h fun ar2 _ h => ?_
  refine ⟨_, rfl, ?_⟩
  refine k _ _ ?_
  rotate_left
  have h1 : Sat Γ (blk ar0 (.map #[] 0) :: blk ar1 (.map #[] 0) :: blk ar2 (.cells (dcells ar0 ar1 ⟨none, 0, 0⟩ (.new r)) TDisk (0, 0)) :: L) _ := h.pick .n1 |>.pick .n2
  have h2 := (h1.mapNew (ek := ekS) (ev := ekP)).pick .n1 |>.mapNew (ek := ekS) (ev := ekP)
  have h3 := h2.emp
  have h4 := h3.olNil (E := eChg) (T := TChg)
  have h5 : Sat Γ (dlay ar2 ar0 ar1 ⟨none, 0, 0⟩ [] [] [] (.new r) (filesL [] []) L) _ := h4.pick .n2 |>.pick .n3 |>.pick .n4
  exact Sat.toPd (h5.toPdg ⟨rfl, fun _ h => (by cases h), fun _ h => (by cases h), fun _ h => (by cases h), .new r⟩ (.refl _) (.refl _))

theorem dCreate_ok {a : Nat} {m : DiskM} {s : Str} {K : Int → World → Prop} (h : Sat Γ (PDisk a m :: L) w) (hg : m.g < 1000000000000) (k : ∀ w', Sat Γ (PDisk a (m.create s).1 :: L) w' → K (m.create s).2 w') :
    CallP Try.prog 50 [.pointer (some ⟨a, 0, none⟩), .string (str s)] (.one (.s (.int .i64))) K w := by
  obtain ⟨ps, h⟩ := h.pd
  have hp : PtrsOK ps m := Sat.pdOK (M := filesL ps m.files) h
  have hg' : m.tick.g < 1000000000000 := by rw [tick_g]; exact hg
  refine callP (fn := Try.f50) [.s (.ptr (some ⟨a, 0, none⟩)), .s (.str (str s))] .n nong mixed (by kernel_rfl) (by kernel_rfl) rfl rfl ?_
  refine readyP_ok h (fun _ hu h => ?_) (fun _ hu h => ?_)
  · obtain ⟨rn, rk, cs, ln, lk, hp', hn, hk, h⟩ := Sat.pdg h
    have hl := look_names hp'.wf.nowOK hn s
    rw [tick_now] at hl
    by_cases hs : rightN s
    · cases hf : findN m.now s with
      | none =>
        rw [hf] at hl
        have hl : atK ln s = none := hl
        rw [DiskM.create_new hu hs hf] at k
        refine brF ?_
        refine right_ok (fun ap1 => ?_) (fun ap2 => ?_)
        refine brF ?_
        refine ⟨_, rfl, ?_⟩
        refine ld _ h .n0 ?_
        refine lookNamesN_pr h .n1 hl ?_
        refine brF ?_
        refine new h fun ar4 _ h => ?_
        rotate_left
        refine brT ?_
        refine ⟨_, rfl, ?_⟩
        contradiction
        have hq := Sat.newFile (s := ⟨none, 0, 0⟩) ((Sat.toPdg (M := filesL ps m.tick.files) (h.pick .n5 |>.pick .n5 |>.pick .n5 |>.pick .n5 |>.pick .n5) hp' hn hk).pick .n1) (.nil _ _)
        rw [tick_files, tick_g] at hq
        refine changedP_ok (c := ⟨[], s, m.files.length⟩) hq (p := some ⟨ar4, 0, none⟩) (by unfold chgP; rw [if_neg (rightN_ne hs)]; show addrO (at_ (ps ++ [some ar4]) m.files.length) = _; rw [← hp.len, at_last]; rfl) (show m.g + 1 < 1000000000001 by omega) ?_ (by simp) (fun _ => by show (at_ (ps ++ [some ar4]) m.files.length).isSome = true; rw [← hp.len, at_last]; rfl) fun _ h => ?_
        · have hw0 := rightN_fitNew hp'.wf hs (by rw [tick_now, hf]; rfl)
          rw [tick_files] at hw0
          exact hw0
        refine ⟨_, rfl, ?_⟩
        refine k _ h
      | some i =>
        obtain ⟨b, hb⟩ := Option.isSome_iff_exists.1 (hp.now _ (findN_mem hf))
        have hb : at_ ps i = some b := hb
        rw [hf, Option.map_some, hb] at hl
        rw [DiskM.create_there hu hs hf] at k
        refine brF ?_
        refine right_ok (fun bp1 => ?_) (fun bp2 => ?_)
        refine brF ?_
        refine ⟨_, rfl, ?_⟩
        refine ld _ h .n0 ?_
        refine lookNamesS_pr h .n1 hl ?_
        refine brT ?_
        refine ⟨_, rfl, ?_⟩
        refine k _ ?_
        rotate_left
        refine brT ?_
        refine ⟨_, rfl, ?_⟩
        contradiction
        exact (Sat.toPdg (M := filesL ps m.tick.files) h hp' hn hk).toPd
    · rw [DiskM.create_arg hu hs] at k
      refine brF ?_
      refine right_ok (fun cp1 => ?_) (fun cp2 => ?_)
      refine brF ?_
      refine ⟨_, rfl, ?_⟩
      refine ld _ h .n0 ?_
      refine lookNames_pr h .n1 ?_
      refine brNot ?_
      refine brB (fun cb5 => ?_) (fun cb5 => ?_)
      refine new h fun cr6 _ h => ?_
      contradiction
      refine ⟨_, rfl, ?_⟩
      contradiction
      refine brT ?_
      refine ⟨_, rfl, ?_⟩
      refine k _ ?_
      rotate_left
      exact (Sat.toPdg (M := filesL ps m.tick.files) h hp' hn hk).toPd
  · rw [DiskM.create_down hu] at k
    have h := h.toPd
    refine brT ?_
    refine ⟨_, rfl, ?_⟩
    refine k _ h

theorem dRead_ok {a : Nat} {m : DiskM} {s : Str} {K : (Sl × Int) → World → Prop} (h : Sat Γ (PDisk a m :: L) w) (hg : m.g < 1000000000000) (k : ∀ t Γ' w', Γ.le Γ' → Bytes Γ' t (m.read s).2.1 → Sat Γ' (PDisk a (m.read s).1 :: L) w' → K (t, (m.read s).2.2) w') :
    CallP Try.prog 23 [.pointer (some ⟨a, 0, none⟩), .string (str s)] (.tup [.s .sl, .s (.int .i64)]) K w := by
  obtain ⟨ps, h⟩ := h.pd
  refine callP (fn := Try.f23) [.s (.ptr (some ⟨a, 0, none⟩)), .s (.str (str s))] .n nong mixed (by kernel_rfl) (by kernel_rfl) rfl rfl ?_
  refine find_ok h (fun _ hu h => ?_) (fun _ hu hf h => ?_) (fun i b' _ hu hf hi hil h => ?_)
  · rw [DiskM.read_down hu] at k
    have h := h.toPd
    refine brT ?_
    refine ret2 _ _ ?_
    refine k _ _ _ (.refl _) (.nil _ _) h
  · rw [DiskM.read_none hu hf] at k
    have h := h.toPd
    refine brT ?_
    refine ret2 _ _ ?_
    refine k _ _ _ (.refl _) (.nil _ _) h
  · rw [DiskM.read_some hu hf] at k
    have hw : Wf m.tick := (Sat.pdOK (M := filesL ps m.tick.files) h).wf
    have hfl := hw.fileAt_len i
    rw [tick_g, DiskM.tick_fileAt] at hfl
    have hil' : i < m.tick.files.length := by rw [tick_files]; exact hil
    obtain ⟨sl, hs, h⟩ := Sat.fileOut h hi hil'
    have hs' : Bytes Γ sl (m.fileAt i).b := by rw [← DiskM.tick_fileAt]; exact hs
    obtain ⟨lhs, mhs, chs⟩ := hs.lens
    obtain ⟨lhs', mhs', chs'⟩ := hs'.lens
    refine brF ?_
    refine ⟨_, rfl, ?_⟩
    refine ld _ h .n0 ?_
    refine clone_ok h hs' (by first | omega | decide) (fun cv1 cΓ2 _ cg4 cf5 h => ?_)
    have hs := hs.mono cg4
    have hs' := hs'.mono cg4
    obtain ⟨lcf5, mcf5, ccf5⟩ := cf5.lens
    refine ret2 _ _ ?_
    rotate_left
    exact k _ _ _ cg4 cf5 (Sat.fileBack h hs hi hil').toPd

theorem dSync_ok {a : Nat} {m : DiskM} {s : Str} {K : Int → World → Prop} (h : Sat Γ (PDisk a m :: L) w) (k : ∀ w', Sat Γ (PDisk a (m.sync s).1 :: L) w' → K (m.sync s).2 w') :
    CallP Try.prog 45 [.pointer (some ⟨a, 0, none⟩), .string (str s)] (.one (.s (.int .i64))) K w := by
  obtain ⟨ps, h⟩ := h.pd
  refine callP (fn := Try.f45) [.s (.ptr (some ⟨a, 0, none⟩)), .s (.str (str s))] .n nong mixed (by kernel_rfl) (by kernel_rfl) rfl rfl ?_
  refine find_ok h (fun _ hu h => ?_) (fun _ hu hf h => ?_) (fun i b' _ hu hf hi hil h => ?_)
  · rw [DiskM.sync_down hu] at k
    have h := h.toPd
    refine brT ?_
    refine ⟨_, rfl, ?_⟩
    refine k _ h
  · rw [DiskM.sync_none hu hf] at k
    have h := h.toPd
    refine brT ?_
    refine ⟨_, rfl, ?_⟩
    refine k _ h
  · rw [DiskM.sync_some hu hf] at k
    have hw : Wf m.tick := (Sat.pdOK (M := filesL ps m.tick.files) h).wf
    have hil' : i < m.tick.files.length := by rw [tick_files]; exact hil
    obtain ⟨sl, hs, h⟩ := Sat.fileOut h hi hil'
    have hs' : Bytes Γ sl (m.fileAt i).b := by rw [← DiskM.tick_fileAt]; exact hs
    obtain ⟨lhs, mhs, chs⟩ := hs.lens
    obtain ⟨lhs', mhs', chs'⟩ := hs'.lens
    refine brF ?_
    refine ⟨_, rfl, ?_⟩
    refine ld _ h .n0 ?_
    refine ⟨_, rfl, ?_⟩
    refine st h .n0 fun _ h => ?_
    refine ⟨_, rfl, ?_⟩
    refine k _ ?_
    rotate_left
    rw [← tick_files (d := m), ← DiskM.tick_fileAt (m := m) (i := i)]
    have hk' := hw.fileAt_kept i
    exact Sat.toPd (Sat.fileIn (g := m.tick.g) (f := ⟨(m.tick.fileAt i).b, (m.tick.fileAt i).b.length⟩) (by rw [DiskM.tick_fileAt, ← hs'.len]; exact h) hs hi hil' (hw.setF (n := 0) hil' (Nat.le_refl _) (Nat.le_refl _)))

theorem dRename_ok {a : Nat} {m : DiskM} {s t : Str} {K : Int → World → Prop} (h : Sat Γ (PDisk a m :: L) w) (hg : m.g < 1000000000000) (k : ∀ w', Sat Γ (PDisk a (m.rename s t).1 :: L) w' → K (m.rename s t).2 w') :
    CallP Try.prog 55 [.pointer (some ⟨a, 0, none⟩), .string (str s), .string (str t)] (.one (.s (.int .i64))) K w := by
  obtain ⟨ps, h⟩ := h.pd
  have hg' : m.tick.g < 1000000000000 := by rw [tick_g]; exact hg
  refine callP (fn := Try.f55) [.s (.ptr (some ⟨a, 0, none⟩)), .s (.str (str s)), .s (.str (str t))] .n nong mixed (by kernel_rfl) (by kernel_rfl) rfl rfl ?_
  refine find_ok h (fun _ hu h => ?_) (fun _ hu hf h => ?_) (fun i b' _ hu hf hi hil h => ?_)
  · rw [DiskM.rename_down hu] at k
    have h := h.toPd
    refine brT ?_
    refine ⟨_, rfl, ?_⟩
    refine k _ h
  · rw [DiskM.rename_none hu hf] at k
    have h := h.toPd
    refine brT ?_
    refine ⟨_, rfl, ?_⟩
    refine k _ h
  · by_cases ht : rightN t
    · rw [DiskM.rename_some hu hf ht] at k
      have hp : PtrsOK ps m.tick := Sat.pdOK (M := filesL ps m.tick.files) h
      have hf' : findN m.tick.now s = some i := by rw [tick_now]; exact hf
      have hr := hp.wf.right_of hf'
      refine brF ?_
      refine right_ok (fun cp1 => ?_) (fun cp2 => ?_)
      refine brF ?_
      rotate_left
      refine brT ?_
      refine ⟨_, rfl, ?_⟩
      contradiction
      have ht' := rightN_ne ht
      refine changedP_ok (c := ⟨s, t, i⟩) h (p := some ⟨b', 0, none⟩) (by unfold chgP; rw [if_neg ht', hi]; rfl) (by omega) (.inr ⟨hr, hf', .inr ht⟩) (by rw [tick_files]; exact hil) (fun e => absurd e (rightN_ne hr)) fun _ h => ?_
      refine ⟨_, rfl, ?_⟩
      refine k _ h
    · rw [DiskM.rename_arg hu hf ht] at k
      have h := h.toPd
      refine brF ?_
      refine right_ok (fun dp1 => ?_) (fun dp2 => ?_)
      refine brF ?_
      contradiction
      refine brT ?_
      refine ⟨_, rfl, ?_⟩
      refine k _ h

theorem dRemove_ok {a : Nat} {m : DiskM} {s : Str} {K : Int → World → Prop} (h : Sat Γ (PDisk a m :: L) w) (hg : m.g < 1000000000000) (k : ∀ w', Sat Γ (PDisk a (m.remove s).1 :: L) w' → K (m.remove s).2 w') :
    CallP Try.prog 48 [.pointer (some ⟨a, 0, none⟩), .string (str s)] (.one (.s (.int .i64))) K w := by
  obtain ⟨ps, h⟩ := h.pd
  have hg' : m.tick.g < 1000000000000 := by rw [tick_g]; exact hg
  refine callP (fn := Try.f48) [.s (.ptr (some ⟨a, 0, none⟩)), .s (.str (str s))] .n nong mixed (by kernel_rfl) (by kernel_rfl) rfl rfl ?_
  refine find_ok h (fun _ hu h => ?_) (fun _ hu hf h => ?_) (fun i b' _ hu hf hi hil h => ?_)
  · rw [DiskM.remove_down hu] at k
    have h := h.toPd
    refine brT ?_
    refine ⟨_, rfl, ?_⟩
    refine k _ h
  · rw [DiskM.remove_none hu hf] at k
    have h := h.toPd
    refine brT ?_
    refine ⟨_, rfl, ?_⟩
    refine k _ h
  · rw [DiskM.remove_some hu hf] at k
    have hp : PtrsOK ps m.tick := Sat.pdOK (M := filesL ps m.tick.files) h
    have hf' : findN m.tick.now s = some i := by rw [tick_now]; exact hf
    have hr := hp.wf.right_of hf'
    refine brF ?_
    rotate_left
    refine changedP_ok (c := ⟨s, [], i⟩) h rfl (by omega) (.inr ⟨hr, hf', .inl rfl⟩) (by rw [tick_files]; exact hil) (fun e => absurd e (rightN_ne hr)) fun _ h => ?_
    refine ⟨_, rfl, ?_⟩
    refine k _ h

end Go.Proofs.Ytocmjngleknlbaa.K
