/-
  journal: plain laws: of what is told, of what is noted.
-/
import Derived.Test.YtocmjngleknlbaaJnM
import Derived.Test.YtocmjngleknlbaaPlK
namespace Go.Proofs.Ytocmjngleknlbaa.K
namespace DiskM
variable {m m' : DiskM} {n k : Int} {wb : List Int} {s t b name x y : Str} {i : Nat}

theorem allB_all : ∀ (n : Nat) (b : Str), b.length ≤ n → b.take (allB b).2 = framesB (allB b).1 ∧ ∀ x ∈ (allB b).1, x.length ≤ 4096
  | 0, b, h => by
    have : b = [] := List.eq_nil_of_length_eq_zero (by omega)
    subst this
    rw [allB_error (b := []) (e := 5) rfl]
    exact ⟨rfl, fun x hx => by cases hx⟩
  | n + 1, b, h => by
    cases ht : takeF b with
    | error e =>
      rw [allB_error ht]
      exact ⟨rfl, fun x hx => by cases hx⟩
    | ok p =>
      obtain ⟨x, j⟩ := p
      obtain ⟨h1, h2, h3, h4⟩ := takeF_ok ht
      obtain ⟨h5, h6⟩ := allB_all n (b.drop j) (by rw [List.length_drop]; omega)
      rw [allB_ok ht]
      refine ⟨?_, fun y hy => ?_⟩
      · dsimp only
        rw [List.take_add, h4, h5]
        simp [framesB]
      · rcases List.mem_cons.1 hy with rfl | hy
        · exact h2
        · exact h6 y hy

theorem allB_is (b : Str) : b.take (allB b).2 = framesB (allB b).1 := (allB_all b.length b (Nat.le_refl _)).1
theorem allB_small (b : Str) : ∀ x ∈ (allB b).1, x.length ≤ 4096 := (allB_all b.length b (Nat.le_refl _)).2

theorem allB_framesB {l : List Str} (h : ∀ x ∈ l, x.length ≤ 4096) : allB (framesB l) = (l, (framesB l).length) := by
  have := allB_frames l [] h
  rw [List.append_nil, allB_error (b := []) (e := 5) rfl] at this
  simpa using this

theorem framesB_nil {l : List Str} (h : framesB l = []) : l = [] := by
  cases l with
  | nil => rfl
  | cons x r =>
    have h2 := congrArg List.length h
    simp [framesB, frameB_len] at h2

theorem framesB_more (l : List Str) (x : Str) : framesB (l ++ [x]) = framesB l ++ frameB x := by simp [framesB]

/-! ### a file that is put, of a disk that is up -/

theorem fill_quiet : ∀ (cs : List Str) {m : DiskM} {i : Nat}, quiet m → Wf m → findN m.now tmpS = some i →
    ((fillM cs m).2 = 0 ∧ quiet (fillM cs m).1 ∧ Wf (fillM cs m).1 ∧ (fillM cs m).1.now = m.now ∧ (fillM cs m).1.fileAt i = ⟨(m.fileAt i).b ++ cs.flatten, (m.fileAt i).kept⟩) ∨ ((fillM cs m).2 = 41 ∧ cs ≠ [])
  | [], m, i, hq, hw, _ => .inl ⟨rfl, hq, hw, rfl, by rw [List.flatten_nil, List.append_nil]; rfl⟩
  | c :: cs, m, i, hq, hw, hf => by
    by_cases hr : (m.used : Int) + c.length > m.room
    · have e := append_full (b := c) hq.up hf hr
      right
      have e2 : fillM (c :: cs) m = m.append tmpS c := by
        unfold fillM
        rw [List.map_cons, runAll_no (by rw [e]; simp)]
      rw [e2, e]
      exact ⟨rfl, by simp⟩
    · have e := append_some (b := c) hq.up hf hr
      rw [hq.tick] at e
      have e0 : (m.append tmpS c).2 = 0 := by rw [e]
      have e2 : fillM (c :: cs) m = fillM cs (m.append tmpS c).1 := by
        unfold fillM
        rw [List.map_cons, runAll_ok e0]
      rw [e2]
      have hw2 := hw.append tmpS c
      have hq2 := quiet_append (s := tmpS) (b := c) hq
      have hil := hw.find_lt hf
      have hfa : (m.append tmpS c).1.fileAt i = ⟨(m.fileAt i).b ++ c, (m.fileAt i).kept⟩ := by
        rw [e]
        unfold DiskM.fileAt
        show (m.files.set i _).getD i _ = _
        rw [List.getD_eq_getElem?_getD, List.getElem?_set, if_pos rfl, if_pos hil]
        rfl
      have hno : (m.append tmpS c).1.now = m.now := by rw [e]
      rcases fill_quiet cs hq2 hw2 (i := i) (by rw [hno]; exact hf) with h | h
      · left
        rw [hno, hfa] at h
        rw [List.flatten_cons, ← List.append_assoc]
        exact h
      · exact .inr ⟨h.1, by simp⟩

theorem put_quiet (hq : quiet m) (hw : Wf m) (hn : rightP name) : ((putP m name x).2 = 0 ∧ Solid (putP m name x).1 name ⟨x, x.length⟩) ∨ ((putP m name x).2 = 41 ∧ x ≠ []) := by
  have h1 : ((m.remove tmpS).2 = 0 ∨ (m.remove tmpS).2 = 2) ∧ findN (m.remove tmpS).1.now tmpS = none := by
    cases hf : findN m.now tmpS with
    | none =>
      rw [remove_none hq.up hf, hq.tick]
      exact ⟨.inr rfl, hf⟩
    | some i =>
      rw [remove_some hq.up hf, hq.tick]
      refine ⟨.inl rfl, ?_⟩
      show findN (chg m.now ⟨tmpS, [], i⟩) tmpS = none
      rw [findN_chg hw.nowOK.nodup]
      simp
  have hq1 := quiet_remove (s := tmpS) hq
  have hw1 := hw.remove tmpS
  unfold putP
  rw [if_neg (by intro h; exact h hn), if_neg (by omega)]
  obtain ⟨_, hf1⟩ := h1
  generalize (m.remove tmpS).1 = m1 at hq1 hw1 hf1 ⊢
  have e2 := create_new hq1.up tmp_right hf1
  rw [hq1.tick] at e2
  have e20 : (m1.create tmpS).2 = 0 := by rw [e2]
  have hq2 := quiet_create (s := tmpS) hq1
  have hw2 := hw1.create tmpS
  have hf2 : findN (m1.create tmpS).1.now tmpS = some m1.files.length := by
    rw [e2]
    show findN (chg m1.now ⟨[], tmpS, m1.files.length⟩) tmpS = _
    rw [findN_chg hw1.nowOK.nodup, if_pos ⟨(by show tmpS ≠ []; decide), rfl⟩]
  have ha2 : (m1.create tmpS).1.fileAt m1.files.length = ⟨[], 0⟩ := by
    rw [e2]
    unfold DiskM.fileAt
    show (m1.files ++ [(⟨[], 0⟩ : FileM)]).getD _ _ = _
    rw [List.getD_eq_getElem?_getD, List.getElem?_append_right (Nat.le_refl _)]
    simp
  unfold putSteps
  rw [runAll_ok e20]
  generalize (m1.create tmpS).1 = m2 at hq2 hw2 hf2 ha2 ⊢
  rcases fill_quiet (chunks x) hq2 hw2 hf2 with ⟨h30, hq3, hw3, hn3, ha3⟩ | ⟨h30, hc⟩
  · left
    rw [runAll_ok h30]
    generalize (fillM (chunks x) m2).1 = m3 at hq3 hw3 hn3 ha3 ⊢
    rw [ha2, chunks_flat x.length x (Nat.le_refl _)] at ha3
    have hf3 : findN m3.now tmpS = some m1.files.length := by rw [hn3]; exact hf2
    have e4 := sync_some hq3.up hf3
    rw [hq3.tick] at e4
    have e40 : (m3.sync tmpS).2 = 0 := by rw [e4]
    have hq4 := quiet_sync (s := tmpS) hq3
    have hw4 := hw3.sync tmpS
    have hf4 : findN (m3.sync tmpS).1.now tmpS = some m1.files.length := by rw [e4]; exact hf3
    have hil := hw3.find_lt hf3
    have ha4 : (m3.sync tmpS).1.fileAt m1.files.length = ⟨x, x.length⟩ := by
      rw [e4]
      unfold DiskM.fileAt
      show (m3.files.set m1.files.length ⟨(m3.fileAt m1.files.length).b, (m3.fileAt m1.files.length).b.length⟩).getD m1.files.length _ = _
      rw [List.getD_eq_getElem?_getD, List.getElem?_set, if_pos rfl, if_pos hil, ha3]
      rfl
    rw [runAll_ok e40]
    generalize (m3.sync tmpS).1 = m4 at hq4 hw4 hf4 ha4 ⊢
    have e5 := rename_some hq4.up hf4 hn.2
    rw [hq4.tick] at e5
    have e50 : (m4.rename tmpS name).2 = 0 := by rw [e5]
    have hq5 := quiet_rename (s := tmpS) (t := name) hq4
    have hw5 := hw4.rename tmpS name
    have hf5 : findN (m4.rename tmpS name).1.now name = some m1.files.length := by
      rw [e5]
      show findN (chg m4.now ⟨tmpS, name, m1.files.length⟩) name = _
      rw [findN_chg hw4.nowOK.nodup, if_pos ⟨rightN_ne hn.2, rfl⟩]
    have ha5 : (m4.rename tmpS name).1.fileAt m1.files.length = ⟨x, x.length⟩ := by
      rw [e5]
      exact ha4
    rw [runAll_ok e50, runAll_one]
    generalize (m4.rename tmpS name).1 = m5 at hq5 hw5 hf5 ha5 ⊢
    have hw6 := hw5.syncNames
    have e6 : m5.syncNames = ({ m5 with kept := m5.now, changes := [] }, 0) := by rw [syncNames_up hq5.up, hq5.tick]
    refine ⟨by show m5.syncNames.2 = 0; rw [e6], hw6, by show m5.syncNames.1.changes = []; rw [e6], m1.files.length, ?_, ?_⟩
    · show findN m5.syncNames.1.now name = _
      rw [e6]; exact hf5
    · show m5.syncNames.1.fileAt _ = _
      rw [e6]; exact ha5
  · right
    rw [runAll_no (by rw [h30]; decide)]
    refine ⟨h30, fun hx => ?_⟩
    subst hx
    exact hc chunks_nil

/-! ### bytes put behind a file's, of a disk that is up -/

theorem grow_quiet (hq : quiet m) (hw : Wf m) (hn : rightP name) (hr : (m.g : Int) + x.length ≤ m.room) : (growM m name x).2 = 0 ∧ cont (growM m name x).1 name = ((cont m name).1 ++ x, 0) ∧ (growM m name x).1.room = m.room := by
  have hus := hw.used_le
  have h1 : (madeM name m).2 = 0 ∧ quiet (madeM name m).1 ∧ Wf (madeM name m).1 ∧ (madeM name m).1.room = m.room ∧ (madeM name m).1.used ≤ m.g ∧ ∃ i, findN (madeM name m).1.now name = some i ∧ ((madeM name m).1.fileAt i).b = (cont m name).1 := by
    cases hf : findN m.now name with
    | none =>
      have e := create_new hq.up hn.2 hf
      rw [hq.tick] at e
      have e0 : (m.create name).2 = 0 := by rw [e]
      have hq1 := quiet_create (s := name) hq
      have hw1 := hw.create name
      have e1 : (m.create name).1.syncNames = ({ (m.create name).1 with kept := (m.create name).1.now, changes := [] }, 0) := by rw [syncNames_up hq1.up, hq1.tick]
      have em : madeM name m = (m.create name).1.syncNames := by unfold madeM; rw [if_pos e0]
      have hw2 := hw1.syncNames
      have hq2 := quiet_syncNames hq1
      have hsum : (((m.create name).1.syncNames.1.files.map fun f => f.b.length).sum) ≤ m.g := by
        rw [e1, e]
        show ((m.files ++ [(⟨[], 0⟩ : FileM)]).map fun f => f.b.length).sum ≤ m.g
        rw [List.map_append, List.sum_append]
        have := hw.gf
        simpa using this
      rw [em]
      refine ⟨by rw [e1], hq2, hw2, by rw [e1, e]; rfl, Nat.le_trans usedOf_le hsum, m.files.length, ?_, ?_⟩
      · rw [e1, e]
        show findN (chg m.now ⟨[], name, m.files.length⟩) name = _
        rw [findN_chg hw.nowOK.nodup, if_pos ⟨rightN_ne hn.2, rfl⟩]
      · rw [cont_none hf, e1, e]
        unfold DiskM.fileAt
        show ((m.files ++ [(⟨[], 0⟩ : FileM)]).getD m.files.length ⟨[], 0⟩).b = _
        rw [List.getD_eq_getElem?_getD, List.getElem?_append_right (Nat.le_refl _)]
        simp
    | some i =>
      have e := create_there hq.up hn.2 hf
      rw [hq.tick] at e
      have em : madeM name m = (m, 0) := by
        unfold madeM
        rw [e, if_neg (by simp), if_pos rfl]
      rw [em]
      exact ⟨rfl, hq, hw, rfl, hus, i, hf, by rw [cont_some hf]⟩
  unfold growM
  rw [if_neg (by intro h; exact h hn)]
  unfold growSteps
  obtain ⟨h10, hq1, hw1, hr1, hu1, i, hf1, ha1⟩ := h1
  rw [runAll_ok h10]
  generalize (madeM name m).1 = m1 at hq1 hw1 hr1 hu1 hf1 ha1 ⊢
  have e2 := append_some (b := x) hq1.up hf1 (by omega)
  rw [hq1.tick] at e2
  have e20 : (m1.append name x).2 = 0 := by rw [e2]
  have hq2 := quiet_append (s := name) (b := x) hq1
  have hf2 : findN (m1.append name x).1.now name = some i := by rw [e2]; exact hf1
  have hil := hw1.find_lt hf1
  have ha2 : ((m1.append name x).1.fileAt i).b = (cont m name).1 ++ x := by
    rw [e2]
    unfold DiskM.fileAt
    show ((m1.files.set i ⟨(m1.fileAt i).b ++ x, (m1.fileAt i).kept⟩).getD i _).b = _
    rw [List.getD_eq_getElem?_getD, List.getElem?_set, if_pos rfl, if_pos hil, ← ha1]
    rfl
  have hil2 : i < (m1.append name x).1.files.length := by rw [e2]; simpa using hil
  have hr2 : (m1.append name x).1.room = m1.room := by rw [e2]
  rw [runAll_ok e20, runAll_one]
  generalize (m1.append name x).1 = m2 at hq2 hf2 ha2 hil2 hr2 ⊢
  have e3 := sync_some hq2.up hf2
  rw [hq2.tick] at e3
  show (m2.sync name).2 = 0 ∧ cont (m2.sync name).1 name = _ ∧ (m2.sync name).1.room = m.room
  have h30 : (m2.sync name).2 = 0 := by rw [e3]
  have hn3 : (m2.sync name).1.now = m2.now := by rw [e3]
  have hr3 : (m2.sync name).1.room = m2.room := by rw [e3]
  have ha3 : ((m2.sync name).1.fileAt i).b = (m2.fileAt i).b := by
    rw [e3]
    unfold DiskM.fileAt
    show ((m2.files.set i (⟨(m2.fileAt i).b, (m2.fileAt i).b.length⟩ : FileM)).getD i _).b = _
    rw [List.getD_eq_getElem?_getD, List.getElem?_set, if_pos rfl, if_pos hil2]
    rfl
  exact ⟨h30, by rw [cont_some (i := i) (by rw [hn3]; exact hf2), ha3, ha2], hr3.trans (hr2.trans hr1)⟩

/-! ### what Open tells -/

theorem open_whole (hq : quiet m) {l : List Str} (hl : ∀ x ∈ l, x.length ≤ 4096) (hc : cont m jnS = (framesB l, 0)) : openJ m = (m, l, 0) := by
  have hr := quiet_cont (s := jnS) hq
  have hm : (m.read jnS).1 = m := quiet_read hq
  unfold openJ
  rw [hr, hc, hm]
  dsimp only
  rw [allB_framesB hl, if_pos rfl, if_pos rfl]

theorem open_none (hq : quiet m) (hc : cont m jnS = ([], 2)) : openJ m = (m, [], 0) := by
  have hr := quiet_cont (s := jnS) hq
  have hm : (m.read jnS).1 = m := quiet_read hq
  unfold openJ
  rw [hr, hc, hm]
  rfl

/-- what Open tells, and leaves, of any bytes -/
theorem open_any (hq : quiet m) (hm : Firm m) (hc : cont m jnS = (b, 0)) :
    (∃ m2, openJ m = (m2, (allB b).1, 0) ∧ quiet m2 ∧ Firm m2 ∧ cont m2 jnS = (framesB (allB b).1, 0) ∧ m2.g ≤ m.g + (64 * ((b.length + 63) / 64) + 2) * 5 + 1) ∨ (∃ m2, openJ m = (m2, [], 41) ∧ (allB b).2 ≠ b.length ∧ (putP m jnS (b.take (allB b).2)).2 = 41) := by
  have hr := quiet_cont (s := jnS) hq
  have hmr : (m.read jnS).1 = m := quiet_read hq
  unfold openJ
  rw [hr, hc, hmr]
  dsimp only
  rw [if_pos rfl]
  by_cases h1 : (allB b).2 = b.length
  · rw [if_pos h1]
    left
    have := allB_is b
    rw [h1, List.take_length] at this
    exact ⟨m, rfl, hq, hm, by rw [hc]; exact congrArg (·, (0 : Int)) this, by omega⟩
  · rw [if_neg h1]
    have hp := put_safe (name := jnS) (x := b.take (allB b).2) hm (.refl _) hm.wf
    rcases put_quiet (x := b.take (allB b).2) hq hm.wf jn_right with ⟨h0, _⟩ | ⟨h0, _⟩
    · rw [if_pos h0]
      left
      have hg := (stepPutP jnS (b.take (allB b).2)).g m
      have hcl := chunks_len (b.take (allB b).2)
      have htl : (b.take (allB b).2).length ≤ b.length := by rw [List.length_take]; omega
      exact ⟨_, rfl, quiet_put _ _ _ hq, (hp.1 h0).firm, by rw [(hp.1 h0).is, allB_is], by omega⟩
    · rw [if_neg (by rw [h0]; decide), h0]
      exact .inr ⟨_, rfl, h1, rfl⟩

theorem open_g2 (hq : quiet m) (_ : Firm m) (hc : cont m jnS = (b, 0)) : (openJ m).1.g ≤ m.g + (64 * ((b.length + 63) / 64) + 2) * 5 + 1 := by
  have hr := quiet_cont (s := jnS) hq
  have hmr : (m.read jnS).1 = m := quiet_read hq
  have hg := (stepPutP jnS (b.take (allB b).2)).g m
  have hcl := chunks_len (b.take (allB b).2)
  have htl : (b.take (allB b).2).length ≤ b.length := by rw [List.length_take]; omega
  unfold openJ
  rw [hr, hc, hmr]
  dsimp only
  repeat' split
  all_goals (dsimp only; omega)

/-! ### acts, one behind the other, of a disk that is up -/

theorem open_g (m : DiskM) (h : Wf m) : (openJ m).1.g ≤ m.g + (64 * ((m.g + 63) / 64) + 2) * 5 + 1 := by
  have h1 := read_g m jnS
  have h2 := read_len h jnS
  have h3 := (stepPutP jnS ((m.read jnS).2.1.take (allB (m.read jnS).2.1).2)).g (m.read jnS).1
  have h4 := chunks_len ((m.read jnS).2.1.take (allB (m.read jnS).2.1).2)
  have h5 : ((m.read jnS).2.1.take (allB (m.read jnS).2.1).2).length ≤ (m.read jnS).2.1.length := by rw [List.length_take]; omega
  try dsimp only at h3
  unfold openJ
  repeat' split
  all_goals (dsimp only; omega)

theorem begin_quiet (hq : quiet m) (hw : Wf m) : (beginJ m).2 = 0 ∧ quiet (beginJ m).1 ∧ Wf (beginJ m).1 ∧ (beginJ m).1.g ≤ m.g + 20 ∧ Solid (beginJ m).1 jnS ⟨[], 0⟩ := by
  have hs := (stepPutP jnS []).g m
  have hw2 := putM_wf hw jnS []
  have hq2 := quiet_put jnS [] m hq
  unfold beginJ
  rcases put_quiet (x := []) hq hw jn_right with ⟨h0, h1⟩ | ⟨_, h1⟩
  · refine ⟨h0, hq2, hw2, ?_, h1⟩
    have : chunks ([] : Str) = [] := chunks_nil
    try dsimp only at hs
    rw [this] at hs
    simp only [List.length_nil] at hs
    omega
  · exact absurd rfl h1

/-- what is told behind Begin, and a crash -/
theorem begin_open (hq : quiet m) (hw : Wf m) : openJ ((beginJ m).1.crash n wb) = ((beginJ m).1.crash n wb, [], 0) := by
  obtain ⟨_, _, _, _, hs⟩ := begin_quiet hq hw
  have hq2 : quiet ((beginJ m).1.crash n wb) := crash_quiet
  obtain ⟨k, _, _, h3⟩ := hs.see (n := n) (wb := wb)
  have hc : cont ((beginJ m).1.crash n wb) jnS = (framesB [], 0) := by
    rw [← quiet_cont hq2]
    exact h3.trans (by simp [framesB])
  exact open_whole hq2 (fun x hx => by cases hx) hc

def actV (m : DiskM) (kind : UInt8) (b : Str) : DiskM :=
  if kind.toNat % 8 = 4 then (beginJ m).1 else if kind.toNat % 8 = 7 then (m.append jnS b).1 else (addJ m b).1

theorem add_step (b : Str) (hb : b.length ≤ 5000) : StepOK (fun m => addJ m b) 20000 := by
  by_cases h : 4096 < b.length
  · refine ⟨fun m hm => ?_, fun m => ?_⟩
    · unfold addJ; rw [if_pos h]; exact hm
    · unfold addJ; rw [if_pos h]; show m.g ≤ _; omega
  · have hs := stepGrowP jnS (frameB b)
    rw [frameB_len] at hs
    refine ⟨fun m hm => ?_, fun m => ?_⟩
    · unfold addJ; rw [if_neg h]; exact hs.wf m hm
    · have := hs.g m
      unfold addJ; rw [if_neg h]; try dsimp only at this
      omega

theorem add_quiet (hq : quiet m) : quiet (addJ m b).1 := by
  unfold addJ
  split
  · exact hq
  · exact quiet_grow _ _ _ hq

theorem actV_ok {kind : UInt8} (hb : b.length ≤ 100) (hw : Wf m) (hq : quiet m) : Wf (m.actV kind b) ∧ quiet (m.actV kind b) ∧ (m.actV kind b).g ≤ m.g + 20000 := by
  unfold actV
  split
  · obtain ⟨_, h1, h2, h3, _⟩ := begin_quiet hq hw
    exact ⟨h2, h1, by omega⟩
  · split
    · exact ⟨hw.append _ _, quiet_append hq, by have := append_g m jnS b; omega⟩
    · have hs := add_step b (by omega)
      exact ⟨hs.wf m hw, add_quiet hq, hs.g m⟩

/-! ### bytes that somebody put there -/

abbrev J1 : DiskM := ((DiskM.new 2000).create jnS).1
theorem j1_0 : ((DiskM.new 2000).create jnS).2 = 0 := by decide
theorem j1_find : findN J1.now jnS = some 0 := by decide
theorem j1_used : J1.used = 0 := by decide
theorem j1_q : quiet J1 := ⟨rfl, rfl⟩

theorem twice_there (hx : x.length ≤ 300) : (J1.append jnS x).2 = 0 ∧ ((J1.append jnS x).1.sync jnS).2 = 0 ∧ ((J1.append jnS x).1.sync jnS).1.syncNames.2 = 0 ∧
    quiet ((J1.append jnS x).1.sync jnS).1.syncNames.1 ∧ Firm ((J1.append jnS x).1.sync jnS).1.syncNames.1 ∧ cont ((J1.append jnS x).1.sync jnS).1.syncNames.1 jnS = (x, 0) ∧ ((J1.append jnS x).1.sync jnS).1.syncNames.1.g ≤ 302 ∧ ((J1.append jnS x).1.sync jnS).1.syncNames.1.room = 2000 := by
  have hw1 : Wf J1 := (Wf.new 2000).create jnS
  have e1 := append_some (b := x) j1_q.up j1_find (by rw [j1_used]; show ¬ ((0 : Nat) : Int) + x.length > 2000; omega)
  rw [j1_q.tick] at e1
  have hq2 := quiet_append (s := jnS) (b := x) j1_q
  have hw2 := hw1.append jnS x
  have hg2 := append_g J1 jnS x
  have hj : J1.g = 2 := rfl
  have hf2 : findN (J1.append jnS x).1.now jnS = some 0 := by rw [e1]; exact j1_find
  have hn2 : (J1.append jnS x).1.now = [(jnS, 0)] := by rw [e1]; rfl
  have ha2 : ((J1.append jnS x).1.fileAt 0).b = x := by rw [e1]; rfl
  have hr2 : (J1.append jnS x).1.room = 2000 := by rw [e1]; rfl
  have h0 : (J1.append jnS x).2 = 0 := by rw [e1]
  have hl2 := hw2.find_lt hf2
  generalize (J1.append jnS x).1 = m2 at hq2 hw2 hg2 hf2 hn2 ha2 hr2 hl2 ⊢
  have e3 := sync_some hq2.up hf2
  rw [hq2.tick, ha2] at e3
  have hq3 := quiet_sync (s := jnS) hq2
  have hw3 := hw2.sync jnS
  have hg3 := sync_g m2 jnS
  have h30 : (m2.sync jnS).2 = 0 := by rw [e3]
  have hn3 : (m2.sync jnS).1.now = [(jnS, 0)] := by rw [e3]; exact hn2
  have ha3 : (m2.sync jnS).1.fileAt 0 = ⟨x, x.length⟩ := by
    rw [e3]
    unfold DiskM.fileAt
    show (m2.files.set 0 _).getD 0 _ = _
    rw [List.getD_eq_getElem?_getD, List.getElem?_set, if_pos rfl, if_pos hl2]
    rfl
  have hr3 : (m2.sync jnS).1.room = 2000 := by rw [e3]; exact hr2
  generalize (m2.sync jnS).1 = m3 at hq3 hw3 hg3 hn3 ha3 hr3 ⊢
  have e4 : m3.syncNames = ({ m3 with kept := m3.now, changes := [] }, 0) := by rw [syncNames_up hq3.up, hq3.tick]
  have hw4 := hw3.syncNames
  have hq4 := quiet_syncNames hq3
  rw [e4] at hw4 hq4 ⊢
  have hfi : ∀ s i, findN m3.now s = some i → i = 0 := fun s i h => by
    rw [hn3] at h
    have := findN_mem h
    simp at this
    exact this.2
  refine ⟨h0, h30, rfl, hq4, ⟨hw4, rfl, fun s i h => ?_⟩, ?_, by show m3.g ≤ _; omega, hr3⟩
  · have := hfi s i h
    subst this
    show (m3.fileAt 0).kept = (m3.fileAt 0).b.length
    rw [ha3]
  · rw [cont_some (i := 0) (by show findN m3.now jnS = some 0; rw [hn3]; rfl)]
    show ((m3.fileAt 0).b, (0 : Int)) = _
    rw [ha3]

/-- what Open tells of them, and again behind a crash -/
theorem twice_open {m4 : DiskM} (hq : quiet m4) (hm : Firm m4) (hc : cont m4 jnS = (x, 0)) (hg : m4.g ≤ 302) (hr : m4.room = 2000) (hx : x.length ≤ 300) :
    (openJ m4).2 = ((allB x).1, 0) ∧ (openJ m4).1.g ≤ 10000 ∧ openJ ((openJ m4).1.crash n wb) = ((openJ m4).1.crash n wb, (allB x).1, 0) ∧
      quiet ((openJ m4).1.crash n wb) ∧ (((openJ m4).1.crash n wb).read jnS).2 = (framesB (allB x).1, 0) ∧ ((openJ m4).1.crash n wb).g ≤ 10000 := by
  rcases open_any hq hm hc with ⟨m2, e, hq2, hm2, hc2, hg2⟩ | ⟨m2, e, h1, h2⟩
  · rw [e]
    have hq3 : quiet (m2.crash n wb) := crash_quiet
    have hc3 : (((m2.crash n wb)).read jnS).2 = (framesB (allB x).1, 0) := by
      have : see m2 n wb jnS = cont m2 jnS := hm2.see
      rw [← hc2]; exact this
    have hc4 : cont (m2.crash n wb) jnS = (framesB (allB x).1, 0) := by rw [← quiet_cont hq3]; exact hc3
    exact ⟨rfl, by dsimp only; omega, open_whole hq3 (allB_small x) hc4, hq3, hc3, by show m2.g ≤ _; omega⟩
  · exfalso
    have htl : (x.take (allB x).2).length ≤ x.length := by rw [List.length_take]; omega
    have := (put_there (name := jnS) (x := x.take (allB x).2) hq hm.wf jn_right (by rw [hr]; omega)).1
    rw [this] at h2
    exact absurd h2 (by decide)

/-! ### what is kept -/

theorem framesB_len {c : Nat} : ∀ {l : List Str}, (∀ x ∈ l, x.length ≤ c) → (framesB l).length ≤ (c + 8) * l.length
  | [], _ => by simp [framesB]
  | x :: l, h => by
    have h1 := framesB_len (c := c) (l := l) fun y hy => h y (.tail _ hy)
    have h2 := h x (.head _)
    have e : framesB (x :: l) = frameB x ++ framesB l := by simp [framesB]
    rw [e, List.length_append, frameB_len, List.length_cons, Nat.mul_succ]
    omega

theorem cont_two (h : (cont m s).2 = 2) : cont m s = ([], 2) := by
  cases hf : findN m.now s with
  | none => exact cont_none hf
  | some i => rw [cont_some hf] at h; exact absurd h (by simp)

/-- a journal's disk between acts -/
structure Jn (l : List Str) (m : DiskM) : Prop where
  q : quiet m
  firm : Firm m
  is : (cont m jnS).1 = framesB l
  small : ∀ x ∈ l, x.length ≤ 100

theorem jn_new (r : Int) : Jn [] (.new r) := ⟨⟨rfl, rfl⟩, new_firm r, rfl, fun x hx => by cases hx⟩

theorem jn_step {l : List Str} {d : Int} (h : Jn l m) (hd : 0 ≤ d ∧ d < 9223372036854775808) (hb : b.length ≤ 100) (hl : l.length ≤ 100) : ∃ m2 out f, openJ ((addJ (m.doom d).1 b).1.crash n wb) = (m2, out, f) ∧
    m2.g ≤ m.g + 1000000 ∧ (f = 41 ∨ (f = 0 ∧ ((out = l ++ [b] ∧ Jn (l ++ [b]) m2) ∨ (out = l ∧ (addJ (m.doom d).1 b).2 ≠ 0 ∧ Jn l m2)))) := by
  obtain ⟨hq, hm, hi, hs⟩ := h
  have hs4 : ∀ x ∈ l, x.length ≤ 4096 := fun x hx => by have := hs x hx; omega
  have hs5 : ∀ x ∈ l ++ [b], x.length ≤ 100 := fun x hx => by
    rcases List.mem_append.1 hx with hx | hx
    · exact hs x hx
    · rw [List.mem_singleton] at hx; subst hx; exact hb
  have hcd := core_doom m d
  have hwd : Wf (m.doom d).1 := hm.wf.doom hd.2
  have hgd := doom_g m d
  generalize (m.doom d).1 = md at hcd hwd hgd ⊢
  have hga := (add_step b (by omega)).g md
  have hwa := (add_step b (by omega)).wf md hwd
  have ea : addJ md b = growM md jnS (frameB b) := by unfold addJ; rw [if_neg (by omega)]
  try dsimp only at hga hwa
  rw [ea] at hga hwa ⊢
  have hgs := grow_safe (name := jnS) (x := frameB b) hm hcd hwd
  generalize hgm : growM md jnS (frameB b) = p at hga hwa hgs ⊢
  obtain ⟨m1, e1⟩ := p
  try dsimp only at hga hwa hgs ⊢
  have hfull : e1 = 0 → (see m1 n wb jnS) = (framesB l ++ frameB b, 0) := fun h0 => by
    obtain ⟨j, h1, h2, h3⟩ := (hgs.1 h0).see (n := n) (wb := wb)
    rw [hi] at h1 h2 h3
    dsimp only at h1 h2 h3
    rw [h3, List.take_of_length_le (by omega)]
  obtain ⟨k, hk, hk1, hk2⟩ := hgs.2 n wb
  rw [hi] at hk1
  have hq2 : quiet (m1.crash n wb) := crash_quiet
  have hf2 : Firm (m1.crash n wb) := firm_crash hwa
  have hce : cont (m1.crash n wb) jnS = see m1 n wb jnS := (quiet_cont hq2).symm
  have hgc : (m1.crash n wb).g = m1.g := rfl
  have hlb := framesB_len hs
  have hflb := frameB_len b
  generalize m1.crash n wb = mc at hq2 hf2 hce hgc ⊢
  rw [← hce] at hk1 hk2 hfull
  rcases hk2 with h0 | h2
  · have hc0 : cont mc jnS = (framesB l ++ (frameB b).take k, 0) := Prod.ext hk1 h0
    have hmore := allB_more hs4 (by omega : b.length ≤ 4096) hk
    rcases open_any hq2 hf2 hc0 with ⟨m2, e, hq3, hm3, hc3, hg3⟩ | ⟨m2, e, h1, h2⟩
    · rw [hmore] at e hc3
      rw [List.length_append, List.length_take] at hg3
      refine ⟨m2, _, 0, e, by omega, .inr ⟨rfl, ?_⟩⟩
      by_cases hkf : k = (frameB b).length
      · rw [if_pos hkf] at hc3 ⊢
        exact .inl ⟨rfl, hq3, hm3, by rw [hc3], hs5⟩
      · rw [if_neg hkf] at hc3 ⊢
        refine .inr ⟨rfl, fun h0 => ?_, hq3, hm3, by rw [hc3], hs⟩
        have := hfull h0
        rw [hc0] at this
        have := congrArg (fun p => p.1.length) this
        simp only [List.length_append, List.length_take] at this
        omega
    · obtain ⟨m3, hm3⟩ : ∃ m3, m3 = m2 := ⟨_, rfl⟩
      have hgo := open_g2 hq2 hf2 hc0
      rw [e] at hgo
      rw [List.length_append, List.length_take] at hgo
      exact ⟨m2, [], 41, e, by have hgo : m2.g ≤ _ := hgo; omega, .inl rfl⟩
  · have hc2 := cont_two h2
    have e := open_none hq2 hc2
    rw [hc2] at hk1
    have hln : l = [] := framesB_nil (by
      have := congrArg List.length hk1
      simp only [List.length_nil, List.length_append] at this
      exact List.eq_nil_of_length_eq_zero (by omega))
    subst hln
    refine ⟨mc, [], 0, e, by omega, .inr ⟨rfl, .inr ⟨rfl, fun h0 => ?_, hq2, hf2, by rw [hc2]; rfl, hs⟩⟩⟩
    have := hfull h0
    rw [hc2] at this
    exact absurd (congrArg Prod.snd this) (by simp)

end DiskM
end Go.Proofs.Ytocmjngleknlbaa.K
