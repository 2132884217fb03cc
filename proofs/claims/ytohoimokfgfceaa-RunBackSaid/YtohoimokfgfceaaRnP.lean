/-
  run: a run that is put to a file: plain laws.
-/
import Derived.Test.YtohoimokfgfceaaRnM
import Derived.Test.YtohoimokfgfceaaPlL
import Derived.Test.YtohoimokfgfceaaRnF
namespace Go.Proofs.Ytohoimokfgfceaa.K
namespace DiskM
variable {m m' : DiskM} {n k : Int} {wb : List Int} {s t b name x y : Str} {i : Nat} {cs : List Str} {l : List Str}

def stepsCs (name : Str) (cs : List Str) : List (DiskM → DiskM × Int) :=
  [fun m => m.create tmpS, fillM cs, fun m => m.sync tmpS, fun m => m.rename tmpS name, fun m => m.syncNames]

/-- a file put, of such parts -/
def putCs (m : DiskM) (name : Str) (cs : List Str) : DiskM × Int :=
  if (m.remove tmpS).2 ≠ 0 ∧ (m.remove tmpS).2 ≠ 2 then m.remove tmpS else K.runAll (stepsCs name cs) (m.remove tmpS).1

theorem putCs_tri (hm : Firm m) (hn : rightP name) : Tri (fun m' => ∃ rm, More m m' [] tt rm) (K.runAll (stepsCs name cs)) (Put m name cs.flatten) (AtOnce m name cs.flatten) := by
  have hf : Tri (fun m' => OnWay m m' ⟨[], 0⟩) (fillM cs) (fun m' => OnWay m m' ⟨cs.flatten, 0⟩) (fun m' => ∃ g, OnWay m m' g) := fill_tri hm cs ⟨[], 0⟩
  unfold stepsCs
  refine Tri.cons ((create_tri hm).weaken fun m' ⟨rm, h⟩ => h.atOnce hm hn) ?_
  refine Tri.cons (hf.weaken fun m' ⟨g, h⟩ => h.atOnce hm hn) ?_
  refine Tri.cons ((sync_tri hm ⟨cs.flatten, 0⟩).weaken fun m' h => h.atOnce hm hn) ?_
  refine Tri.cons ((rename_tri (x := cs.flatten) hm hn).weaken fun m' h => h.atOnce hm hn) ?_
  refine Tri.cons ((syncNames_tri (x := cs.flatten) hm hn).weaken fun m' h => h.atOnce hm hn) ?_
  exact Tri.nil

theorem putCs_safe (hn : rightP name) (hm : Firm m) (hc : Core m m') (hw : Wf m') : ((putCs m' name cs).2 = 0 → Put m name cs.flatten (putCs m' name cs).1) ∧ AtOnce m name cs.flatten (putCs m' name cs).1 := by
  have h0 : AtOnce m name cs.flatten m' := by
    refine AtOnce.core ⟨fun s hs ht n wb => hm.see, fun n wb => .inl hm.see⟩ hc
  unfold putCs
  by_cases hr : (m'.remove tmpS).2 ≠ 0 ∧ (m'.remove tmpS).2 ≠ 2
  · rw [if_pos hr]
    exact ⟨fun h => absurd h hr.1, h0.core (remove_core hr.1)⟩
  · rw [if_neg hr]
    have h1 : ∃ rm, More m (m'.remove tmpS).1 [] tt rm := by
      by_cases hr0 : (m'.remove tmpS).2 = 0
      · exact (remove_tri hm m' ⟨hw, hc⟩).1 hr0
      · exact ⟨[], ((firm_more hm).core (hc.trans (remove_core hr0)) (hw.remove _)).mono fun s h => h.elim⟩
    have h2 := putCs_tri (cs := cs) hm hn _ h1
    refine ⟨h2.1, ?_⟩
    by_cases h3 : (K.runAll (stepsCs name cs) (m'.remove tmpS).1).2 = 0
    · exact (h2.1 h3).atOnce
    · exact h2.2 h3

/-! ### of a disk that is up -/

theorem qr_create (hq : quiet m) : quiet (m.create s).1 := by
  have hu := hq.up
  have ht := hq.tick
  unfold create; rw [hu, ht]; dsimp only; repeat' split
  all_goals first | exact hq | contradiction
theorem qr_append (hq : quiet m) : quiet (m.append s b).1 := by
  have hu := hq.up
  have ht := hq.tick
  unfold append; rw [hu, ht]; dsimp only; repeat' split
  all_goals first | exact hq | contradiction
theorem qr_sync (hq : quiet m) : quiet (m.sync s).1 := by
  have hu := hq.up
  have ht := hq.tick
  unfold sync; rw [hu, ht]; dsimp only; repeat' split
  all_goals first | exact hq | contradiction
theorem qr_rename (hq : quiet m) : quiet (m.rename s t).1 := by
  have hu := hq.up
  have ht := hq.tick
  unfold rename; rw [hu, ht]; dsimp only; repeat' split
  all_goals first | exact hq | contradiction

theorem fillCs_there : ∀ (cs : List Str) {m : DiskM} {i : Nat}, quiet m → Wf m → findN m.now tmpS = some i → (m.g : Int) + cs.flatten.length ≤ m.room →
    (fillM cs m).2 = 0 ∧ quiet (fillM cs m).1 ∧ (fillM cs m).1.now = m.now ∧ (fillM cs m).1.room = m.room ∧ (fillM cs m).1.g ≤ m.g + cs.flatten.length
  | [], m, i, hq, _, _, _ => ⟨rfl, hq, rfl, rfl, by simp [fillM, runAll]⟩
  | c :: cs, m, i, hq, hw, hf, hr => by
    rw [List.flatten_cons, List.length_append] at hr
    push_cast at hr
    have hu := hw.used_le
    have e := append_some (b := c) hq.up hf (by omega)
    rw [hq.tick] at e
    have e0 : (m.append tmpS c).2 = 0 := by rw [e]
    have e2 : fillM (c :: cs) m = fillM cs (m.append tmpS c).1 := by
      unfold fillM
      rw [List.map_cons, runAll_ok e0]
    rw [e2]
    have hw2 := hw.append tmpS c
    have hq2 := qr_append (s := tmpS) (b := c) hq
    have hg2 := append_g m tmpS c
    rw [e] at hw2 hq2 hg2 ⊢
    have := fillCs_there cs hq2 hw2 (i := i) hf (by push_cast; omega)
    refine ⟨this.1, this.2.1, this.2.2.1, this.2.2.2.1, ?_⟩
    have h5 := this.2.2.2.2
    rw [List.flatten_cons, List.length_append]
    dsimp only at h5
    omega

theorem putCs_there (hq : quiet m) (hw : Wf m) (hn : rightP name) (hr : (m.g : Int) + cs.flatten.length + 10 ≤ m.room) : (putCs m name cs).2 = 0 ∧ quiet (putCs m name cs).1 ∧ (putCs m name cs).1.g ≤ m.g + cs.flatten.length + 10 := by
  have h1 : ((m.remove tmpS).2 = 0 ∨ (m.remove tmpS).2 = 2) ∧ (m.remove tmpS).1.room = m.room ∧ findN (m.remove tmpS).1.now tmpS = none ∧ quiet (m.remove tmpS).1 := by
    cases hf : findN m.now tmpS with
    | none =>
      rw [remove_none hq.up hf, hq.tick]
      exact ⟨.inr rfl, rfl, hf, hq⟩
    | some i =>
      rw [remove_some hq.up hf, hq.tick]
      refine ⟨.inl rfl, rfl, ?_, hq⟩
      show findN (chg m.now ⟨tmpS, [], i⟩) tmpS = none
      rw [findN_chg hw.nowOK.nodup]
      simp
  have hw1 := hw.remove tmpS
  have hg1 := remove_g m tmpS
  unfold putCs
  rw [if_neg (by omega)]
  obtain ⟨_, hr1, hf1, hq1⟩ := h1
  generalize (m.remove tmpS).1 = m1 at hq1 hw1 hg1 hr1 hf1 ⊢
  have e2 := create_new hq1.up tmp_right hf1
  rw [hq1.tick] at e2
  have e20 : (m1.create tmpS).2 = 0 := by rw [e2]
  have hq2 := qr_create (s := tmpS) hq1
  have hw2 := hw1.create tmpS
  have hg2 := create_g m1 tmpS
  have hr2 : (m1.create tmpS).1.room = m1.room := by rw [e2]; rfl
  have hf2 : findN (m1.create tmpS).1.now tmpS = some m1.files.length := by
    rw [e2]
    show findN (chg m1.now ⟨[], tmpS, m1.files.length⟩) tmpS = _
    rw [findN_chg hw1.nowOK.nodup, if_pos ⟨(by show tmpS ≠ []; decide), rfl⟩]
  unfold stepsCs
  rw [runAll_ok e20]
  generalize (m1.create tmpS).1 = m2 at hq2 hw2 hg2 hr2 hf2 ⊢
  obtain ⟨h30, hq3, hn3, hr3, hg3⟩ := fillCs_there cs hq2 hw2 hf2 (by omega)
  rw [runAll_ok h30]
  generalize (fillM cs m2).1 = m3 at hq3 hn3 hr3 hg3 ⊢
  have hf3 : findN m3.now tmpS = some m1.files.length := by rw [hn3]; exact hf2
  have e4 := sync_some hq3.up hf3
  rw [hq3.tick] at e4
  have e40 : (m3.sync tmpS).2 = 0 := by rw [e4]
  have hq4 := qr_sync (s := tmpS) hq3
  have hg4 := sync_g m3 tmpS
  have hf4 : findN (m3.sync tmpS).1.now tmpS = some m1.files.length := by rw [e4]; exact hf3
  rw [runAll_ok e40]
  generalize (m3.sync tmpS).1 = m4 at hq4 hf4 hg4 ⊢
  have e5 := rename_some hq4.up hf4 hn.2
  rw [hq4.tick] at e5
  have e50 : (m4.rename tmpS name).2 = 0 := by rw [e5]
  have hq5 := qr_rename (s := tmpS) (t := name) hq4
  have hg5 := rename_g m4 tmpS name
  rw [runAll_ok e50, runAll_one]
  generalize (m4.rename tmpS name).1 = m5 at hq5 hg5 ⊢
  show m5.syncNames.2 = 0 ∧ quiet m5.syncNames.1 ∧ m5.syncNames.1.g ≤ _
  rw [syncNames_up hq5.up, hq5.tick]
  exact ⟨rfl, hq5, by show m5.g ≤ _; omega⟩

/-! ### what the statements' put does -/

def addsM (m : DiskM) (last : Option Str) : List Str → DiskM × Int
  | [] => (m, 0)
  | y :: r => if (addM m last y).2 = 0 then addsM (addM m last y).1 (some y) r else addM m last y

def putR (m : DiskM) (name : Str) (l : List Str) : DiskM × Int :=
  if (startM m).2 ≠ 0 then startM m
  else if (addsM (startM m).1 none l).2 ≠ 0 then addsM (startM m).1 none l
  else endM (addsM (startM m).1 none l).1 name

theorem addsM_rise : ∀ (l : List Str) (m : DiskM) (last : Option Str), RiseL last l → addsM m last l = fillM (l.map frameB) m
  | [], m, last, _ => rfl
  | y :: r, m, last, h => by
    have e : addM m last y = m.append tmpS (frameB y) := by
      unfold addM
      rw [if_neg (by have := h.1.1; omega), if_neg (by intro hh; exact hh h.1.2)]
    have e2 : fillM ((y :: r).map frameB) m = if (m.append tmpS (frameB y)).2 = 0 then fillM (r.map frameB) (m.append tmpS (frameB y)).1 else m.append tmpS (frameB y) := by
      unfold fillM
      rw [List.map_cons, List.map_cons]
      by_cases h0 : (m.append tmpS (frameB y)).2 = 0
      · rw [if_pos h0, runAll_ok h0]
      · rw [if_neg h0, runAll_no h0]
    rw [e2, addsM, e, addsM_rise r _ (some y) h.2]

theorem putR_rise (hn : rightP name) (h : RiseL none l) : putR m name l = putCs m name (l.map frameB) := by
  unfold putR putCs startM
  by_cases hr : (m.remove tmpS).2 ≠ 0 ∧ (m.remove tmpS).2 ≠ 2
  · rw [if_pos hr, if_pos hr, if_pos hr.1]
  · rw [if_neg hr, if_neg hr]
    unfold stepsCs
    by_cases h0 : ((m.remove tmpS).1.create tmpS).2 = 0
    · rw [if_neg (by intro hh; exact hh h0), runAll_ok h0, addsM_rise l _ none h]
      by_cases h1 : (fillM (l.map frameB) ((m.remove tmpS).1.create tmpS).1).2 = 0
      · rw [if_neg (by intro hh; exact hh h1), runAll_ok h1]
        unfold endM
        rw [if_neg (by intro hh; exact hh hn)]
      · rw [if_pos h1, runAll_no h1]
    · rw [if_pos h0, runAll_no h0]

theorem addsM_g : ∀ (l : List Str) (m : DiskM) (last : Option Str), (addsM m last l).1.g ≤ m.g + 72 * l.length
  | [], m, last => by simp [addsM]
  | y :: r, m, last => by
    have h1 := addM_g m last y
    have h2 := addsM_g r (addM m last y).1 (some y)
    unfold addsM
    rw [List.length_cons]
    split <;> omega

theorem putR_g (m : DiskM) (name : Str) (l : List Str) : (putR m name l).1.g ≤ m.g + 72 * l.length + 6 := by
  have h1 := startM_g m
  have h2 := addsM_g l (startM m).1 none
  have h3 := endM_g (addsM (startM m).1 none l).1 name
  unfold putR
  repeat' split
  all_goals omega

theorem frames_flat (l : List Str) : (l.map frameB).flatten = framesB l := rfl

theorem Asc.bytes {l : List Str} (h : Asc l) (hl : l.length ≤ 60) : (framesB l).length ≤ 4320 := by
  have key : ∀ (l : List Str), (∀ x ∈ l, x.length ≤ 64) → (framesB l).length ≤ 72 * l.length := by
    intro l
    induction l with
    | nil => intro _; simp [framesB]
    | cons x r ih =>
      intro h
      have e : framesB (x :: r) = frameB x ++ framesB r := by simp [framesB]
      have h1 := ih fun y hy => h y (.tail _ hy)
      have h2 := h x (.head _)
      rw [e, List.length_append, frameB_len, List.length_cons]
      omega
  have := key l h.small
  omega

end DiskM
end Go.Proofs.Ytohoimokfgfceaa.K
