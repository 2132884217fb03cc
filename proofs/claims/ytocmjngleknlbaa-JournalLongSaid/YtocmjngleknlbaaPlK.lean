/-
  A file put twice: how many things are done.
-/
import Derived.Test.YtocmjngleknlbaaPlI
namespace Go.Proofs.Ytocmjngleknlbaa.K
namespace DiskM
variable {m m' : DiskM} {n k : Int} {wb : List Int} {s t b name x y : Str} {i : Nat}

theorem runAll_flat : ∀ (fs r : List (DiskM → DiskM × Int)) (m : DiskM), K.runAll (K.runAll fs :: r) m = K.runAll (fs ++ r) m
  | [], r, m => runAll_ok rfl
  | f :: fs, r, m => by
    by_cases hf : (f m).2 = 0
    · have e : K.runAll (f :: fs) m = K.runAll fs (f m).1 := runAll_ok hf
      rw [List.cons_append, runAll_ok hf, ← runAll_flat fs r (f m).1, K.runAll, e, K.runAll]
    · have e : K.runAll (f :: fs) m = f m := runAll_no hf
      rw [List.cons_append, runAll_no hf, K.runAll, e, if_neg hf]

theorem runAll_congr {f : DiskM → DiskM × Int} {r r' : List (DiskM → DiskM × Int)} (h : ∀ m, K.runAll r m = K.runAll r' m) (m : DiskM) : K.runAll (f :: r) m = K.runAll (f :: r') m := by
  rw [K.runAll, K.runAll, h]

def putFlat (name x : Str) : List (DiskM → DiskM × Int) :=
  (fun m => m.create tmpS) :: ((chunks x).map (fun c m => m.append tmpS c) ++ [fun m => m.sync tmpS, fun m => m.rename tmpS name, fun m => m.syncNames])

theorem putFlat_eq (m : DiskM) : K.runAll (putSteps name x) m = K.runAll (putFlat name x) m := by
  unfold putSteps putFlat
  refine runAll_congr (fun m => ?_) m
  unfold fillM
  exact runAll_flat _ _ m

theorem putFlat_len : (putFlat name x).length = 4 + (chunks x).length := by
  unfold putFlat
  simp
  omega

structure Basic (f : DiskM → DiskM × Int) : Prop where
  on : ∀ (m : DiskM) (k : Int), quiet m → 0 < k → f (doomAt m k) = (doomAt (f m).1 (k - 1), (f m).2)
  off : ∀ m : DiskM, (f (doomAt m 0)).2 = 40
  q : QuietOK f

theorem basic_create (s : Str) : Basic (fun m => m.create s) := ⟨fun _ _ hq h => doom_create hq h, fun m => by show ((doomAt m 0).create s).2 = 40; rw [create_down doomAt0_up], fun _ h => quiet_create h⟩
theorem basic_append (s b : Str) : Basic (fun m => m.append s b) := ⟨fun _ _ hq h => doom_append hq h, fun m => by show ((doomAt m 0).append s b).2 = 40; rw [append_down doomAt0_up], fun _ h => quiet_append h⟩
theorem basic_sync (s : Str) : Basic (fun m => m.sync s) := ⟨fun _ _ hq h => doom_sync hq h, fun m => by show ((doomAt m 0).sync s).2 = 40; rw [sync_down doomAt0_up], fun _ h => quiet_sync h⟩
theorem basic_rename (s t : Str) : Basic (fun m => m.rename s t) := ⟨fun _ _ hq h => doom_rename hq h, fun m => by show ((doomAt m 0).rename s t).2 = 40; rw [rename_down doomAt0_up], fun _ h => quiet_rename h⟩
theorem basic_syncNames : Basic (fun m => m.syncNames) := ⟨fun _ _ hq h => doom_syncNames hq h, fun m => by show ((doomAt m 0).syncNames).2 = 40; rw [syncNames_down doomAt0_up], fun _ h => quiet_syncNames h⟩

theorem runAll_doom : ∀ {fs : List (DiskM → DiskM × Int)} (_ : ∀ f ∈ fs, Basic f) {m : DiskM} {k : Int}, quiet m → (K.runAll fs m).2 = 0 → 0 ≤ k →
    ((fs.length : Int) ≤ k → (K.runAll fs (doomAt m k)).2 = 0) ∧ (k < fs.length → (K.runAll fs (doomAt m k)).2 = 40)
  | [], _, m, k, _, _, hk => ⟨fun _ => rfl, fun h => by simp at h; omega⟩
  | f :: r, hf, m, k, hq, h0, hk => by
    have hb := hf f (.head _)
    have h1 : (f m).2 = 0 := by
      apply Classical.byContradiction
      intro h
      rw [runAll_no h] at h0
      exact h h0
    rw [runAll_ok h1] at h0
    rw [List.length_cons]
    by_cases hk0 : 0 < k
    · have e := hb.on m k hq hk0
      have e2 : (f (doomAt m k)).2 = 0 := by rw [e]; exact h1
      rw [runAll_ok e2, e]
      have := runAll_doom (fun g hg => hf g (.tail _ hg)) (k := k - 1) (hb.q m hq) h0 (by omega)
      exact ⟨fun h => this.1 (by push_cast at h; omega), fun h => this.2 (by push_cast at h; omega)⟩
    · have : k = 0 := by omega
      subst this
      have e := hb.off m
      rw [runAll_no (by rw [e]; decide)]
      exact ⟨fun h => by push_cast at h; omega, fun _ => e⟩

theorem put_doom (hq : quiet m) (hn : rightP name) (h0 : (putP m name x).2 = 0) (hk : 0 ≤ k) :
    (5 + ((chunks x).length : Int) ≤ k → (putP (doomAt m k) name x).2 = 0) ∧ (k < 5 + ((chunks x).length : Int) → (putP (doomAt m k) name x).2 = 40) := by
  unfold putP at h0 ⊢
  rw [if_neg (by intro h; exact h hn)] at h0 ⊢
  by_cases hk0 : 0 < k
  · rw [doom_remove hq hk0]
    by_cases hr : (m.remove tmpS).2 ≠ 0 ∧ (m.remove tmpS).2 ≠ 2
    · rw [if_pos hr] at h0
      exact absurd h0 hr.1
    · rw [if_neg hr] at h0 ⊢
      rw [putFlat_eq] at h0 ⊢
      have := runAll_doom (fs := putFlat name x) (fun f hf => by
        unfold putFlat at hf
        simp only [List.mem_cons, List.mem_append, List.mem_map, List.not_mem_nil, or_false] at hf
        rcases hf with rfl | ⟨c, _, rfl⟩ | rfl | rfl | rfl
        · exact basic_create _
        · exact basic_append _ _
        · exact basic_sync _
        · exact basic_rename _ _
        · exact basic_syncNames) (k := k - 1) (quiet_remove hq) h0 (by omega)
      rw [putFlat_len] at this
      exact ⟨fun h => this.1 (by push_cast; omega), fun h => this.2 (by push_cast; omega)⟩
  · have : k = 0 := by omega
    subst this
    have e : ((doomAt m 0).remove tmpS).2 = 40 := by rw [remove_down doomAt0_up]
    rw [if_pos (by rw [e]; decide)]
    exact ⟨fun h => by omega, fun _ => e⟩

theorem fill_there : ∀ (cs : List Str) {m : DiskM} {i : Nat}, quiet m → Wf m → findN m.now tmpS = some i → (m.g : Int) + cs.flatten.length ≤ m.room →
    (fillM cs m).2 = 0 ∧ quiet (fillM cs m).1 ∧ (fillM cs m).1.now = m.now ∧ (fillM cs m).1.room = m.room
  | [], m, i, hq, _, _, _ => ⟨rfl, hq, rfl, rfl⟩
  | c :: cs, m, i, hq, hw, hf, hr => by
    rw [List.flatten_cons, List.length_append] at hr
    push_cast at hr
    have hu := hw.used_le
    have e := append_some (b := c) hq.up hf (by omega)
    rw [hq.tick] at e
    have e0 : (m.append tmpS c).2 = 0 := by rw [e]
    have e2 : fillM (c :: cs) m = fillM cs (m.append tmpS c).1 := by
      unfold fillM
      rw [List.map_cons, runAll_ok e0]
    rw [e2]
    have hw2 := hw.append tmpS c
    have hq2 := quiet_append (s := tmpS) (b := c) hq
    rw [e] at hw2 hq2 ⊢
    have := fill_there cs hq2 hw2 (i := i) hf (by push_cast; omega)
    exact this

theorem put_there (hq : quiet m) (hw : Wf m) (hn : rightP name) (hr : (m.g : Int) + x.length + 10 ≤ m.room) : (putP m name x).2 = 0 ∧ (putP m name x).1.room = m.room := by
  have h1 : ((m.remove tmpS).2 = 0 ∨ (m.remove tmpS).2 = 2) ∧ (m.remove tmpS).1.room = m.room ∧ findN (m.remove tmpS).1.now tmpS = none := by
    cases hf : findN m.now tmpS with
    | none =>
      rw [remove_none hq.up hf, hq.tick]
      exact ⟨.inr rfl, rfl, hf⟩
    | some i =>
      rw [remove_some hq.up hf, hq.tick]
      refine ⟨.inl rfl, rfl, ?_⟩
      show findN (chg m.now ⟨tmpS, [], i⟩) tmpS = none
      rw [findN_chg hw.nowOK.nodup]
      simp
  have hq1 := quiet_remove (s := tmpS) hq
  have hw1 := hw.remove tmpS
  have hg1 := remove_g m tmpS
  unfold putP
  rw [if_neg (by intro h; exact h hn), if_neg (by omega)]
  obtain ⟨_, hr1, hf1⟩ := h1
  generalize (m.remove tmpS).1 = m1 at hq1 hw1 hg1 hr1 hf1 ⊢
  have e2 := create_new hq1.up tmp_right hf1
  rw [hq1.tick] at e2
  have e20 : (m1.create tmpS).2 = 0 := by rw [e2]
  have hq2 := quiet_create (s := tmpS) hq1
  have hw2 := hw1.create tmpS
  have hg2 := create_g m1 tmpS
  have hr2 : (m1.create tmpS).1.room = m1.room := by rw [e2]; rfl
  have hf2 : findN (m1.create tmpS).1.now tmpS = some m1.files.length := by
    rw [e2]
    show findN (chg m1.now ⟨[], tmpS, m1.files.length⟩) tmpS = _
    rw [findN_chg hw1.nowOK.nodup, if_pos ⟨(by show tmpS ≠ []; decide), rfl⟩]
  unfold putSteps
  rw [runAll_ok e20]
  generalize (m1.create tmpS).1 = m2 at hq2 hw2 hg2 hr2 hf2 ⊢
  obtain ⟨h30, hq3, hn3, hr3⟩ := fill_there (chunks x) hq2 hw2 hf2 (by rw [chunks_flat x.length x (Nat.le_refl _)]; omega)
  rw [runAll_ok h30]
  generalize (fillM (chunks x) m2).1 = m3 at hq3 hn3 hr3 ⊢
  have hf3 : findN m3.now tmpS = some m1.files.length := by rw [hn3]; exact hf2
  have e4 := sync_some hq3.up hf3
  rw [hq3.tick] at e4
  have e40 : (m3.sync tmpS).2 = 0 := by rw [e4]
  have hq4 := quiet_sync (s := tmpS) hq3
  have hf4 : findN (m3.sync tmpS).1.now tmpS = some m1.files.length := by rw [e4]; exact hf3
  have hr4 : (m3.sync tmpS).1.room = m3.room := by rw [e4]
  rw [runAll_ok e40]
  generalize (m3.sync tmpS).1 = m4 at hq4 hf4 hr4 ⊢
  have e5 := rename_some hq4.up hf4 hn.2
  rw [hq4.tick] at e5
  have e50 : (m4.rename tmpS name).2 = 0 := by rw [e5]
  have hq5 := quiet_rename (s := tmpS) (t := name) hq4
  have hr5 : (m4.rename tmpS name).1.room = m4.room := by rw [e5]; rfl
  rw [runAll_ok e50, runAll_one]
  generalize (m4.rename tmpS name).1 = m5 at hq5 hr5 ⊢
  show m5.syncNames.2 = 0 ∧ m5.syncNames.1.room = m.room
  rw [syncNames_up hq5.up, hq5.tick]
  exact ⟨rfl, by show m5.room = _; rw [hr5, hr4, hr3, hr2, hr1]⟩

theorem cont_is_none (h : cont m s = ([], 2)) : findN m.now s = none := by
  cases hf : findN m.now s with
  | none => rfl
  | some i => rw [cont_some hf] at h; exact absurd (congrArg Prod.snd h) (by simp)
theorem cont_is_some (h : cont m s = (b, 0)) : ∃ i, findN m.now s = some i := by
  cases hf : findN m.now s with
  | none => rw [cont_none hf] at h; exact absurd (congrArg Prod.snd h) (by simp)
  | some i => exact ⟨i, rfl⟩

theorem one_name (hw : Wf m) (ht : findN m.now tmpS = none) (hc : findN m.now name = some i) (ho : ∀ s, rightN s → ¬ tn name s → findN m.now s = none) : m.now.map Prod.fst = [name] := by
  have hnd := hw.nowOK.nodup
  have hall : ∀ s ∈ m.now.map Prod.fst, s = name := by
    intro s hs
    have hr := right_there hw hs
    obtain ⟨p, hp, rfl⟩ := List.mem_map.1 hs
    have hf : findN m.now p.1 = some p.2 := (findN_iff hnd).2 hp
    apply Classical.byContradiction
    intro hne
    by_cases h : p.1 = tmpS
    · rw [h, ht] at hf; cases hf
    · rw [ho p.1 hr (by rintro (h1 | h1); exact h h1; exact hne h1)] at hf; cases hf
  have hmem : name ∈ m.now.map Prod.fst := List.mem_map_of_mem (findN_mem hc)
  generalize m.now.map Prod.fst = l at hnd hall hmem
  cases l with
  | nil => cases hmem
  | cons a r =>
    have ha := hall a (.head _)
    subst ha
    cases r with
    | nil => rfl
    | cons c r =>
      have := hall c (.tail _ (.head _))
      subst this
      simp at hnd

theorem new_firm (r : Int) : Firm (.new r) := ⟨.new r, rfl, fun s i h => by cases h⟩

theorem twice_put (hn : rightP name) (hx : x.length ≤ 300) : (putP (.new 5000) name x).2 = 0 ∧ quiet (putP (.new 5000) name x).1 ∧ Wf (putP (.new 5000) name x).1 ∧ (putP (.new 5000) name x).1.g ≤ 2000 ∧ (putP (.new 5000) name x).1.room = 5000 := by
  have hq : quiet (.new 5000) := ⟨rfl, rfl⟩
  have hr : (DiskM.new 5000).room = 5000 := rfl
  have hg : (DiskM.new 5000).g = 0 := rfl
  obtain ⟨h1, h2⟩ := put_there (name := name) (x := x) hq (.new 5000) hn (by rw [hr, hg]; omega)
  have hs := stepPutP name x
  have hc := chunks_len x
  have h3 := hs.g (.new 5000)
  exact ⟨h1, quiet_put _ _ _ hq, hs.wf _ (.new 5000), by rw [hg] at h3; omega, by rw [h2, hr]⟩

theorem doom_at (hq : quiet m) (hk : 0 ≤ k) : m.doom k = (doomAt m k, 0) := by
  obtain ⟨fs, nw, kp, ch, room, down, doomed, left, g⟩ := m
  have : down = false := hq.1
  subst this
  unfold doom
  rw [if_neg (by omega)]
  rfl

/-- what is told of the second -/
theorem twice_again (hn : rightP name) (hx : x.length ≤ 300) (hy : y.length ≤ 300) {m1 : DiskM} (em : m1 = (putP (.new 5000) name x).1) {n : Int} (en : n = 5 + (((y.length + 63) / 64 : Nat) : Int)) :
    (putP (m1.doom (n - 1)).1 name y).2 = 40 ∧ (putP (m1.doom n).1 name y).2 = 0 ∧ (((putP (m1.doom n).1 name y).1.crash 0 []).read name).2 = (y, 0) ∧
      ((putP (m1.doom n).1 name y).1.crash 0 []).now.map Prod.fst = [name] ∧ (putP (m1.doom n).1 name y).1.g ≤ 10000 := by
  obtain ⟨h0, hq, hw, hg, hr⟩ := twice_put (x := x) hn hx
  have hp := (put_safe (x := x) (name := name) (new_firm 5000) (.refl _) (.new 5000)).1 h0
  rw [← em] at hq hw hg hr hp
  have hc := chunks_len y
  have h1 := (put_there (x := y) hq hw hn (by rw [hr]; omega)).1
  have h2 := (put_doom (k := n - 1) hq hn h1 (by omega)).2 (by omega)
  have h3 := (put_doom (k := n) hq hn h1 (by omega)).1 (by omega)
  have e1 := doom_at (k := n - 1) hq (by omega)
  have e2 := doom_at (k := n) hq (by omega)
  have hwd : Wf (m1.doom n).1 := hw.doom (by omega)
  have hcd := core_doom m1 n
  rw [e1, e2]
  rw [e2] at hwd hcd
  have hp2 := (put_safe (x := y) (name := name) hp.firm hcd hwd).1 h3
  refine ⟨h2, h3, ?_, ?_, ?_⟩
  · have := hp2.firm.see (n := 0) (wb := []) (s := name)
    rw [hp2.is] at this
    exact this
  · rw [crash_names, hp2.firm.atN]
    obtain ⟨i, hi⟩ := cont_is_some hp2.is
    refine one_name hp2.firm.wf hp2.tmp hi fun s hs ht => cont_is_none ?_
    rw [hp2.others s hs ht, hp.others s hs ht]
    rfl
  · have h5 := (stepPutP name y).g (doomAt m1 n)
    have h6 : (doomAt m1 n).g = m1.g := rfl
    show (putP (doomAt m1 n) name y).1.g ≤ 10000
    omega

end DiskM
end Go.Proofs.Ytocmjngleknlbaa.K
