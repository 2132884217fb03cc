/-
  How many bytes a disk has, behind acts.
-/
import Derived.Test.YtocmjngleknlbaaDkA
import Derived.Test.YtocmjngleknlbaaDkU
namespace Go.Proofs.Ytocmjngleknlbaa.K

theorem fold_mem : ∀ (cs : List ChM) (l : List (Str × Nat)) {p : Str × Nat}, p ∈ cs.foldl chg l → p.2 ∈ l.map Prod.snd ∨ ∃ c ∈ cs, c.new ≠ [] ∧ c.file = p.2
  | [], l, p, h => .inl (List.mem_map_of_mem h)
  | c :: cs, l, p, h => by
    rcases fold_mem cs (chg l c) h with h | ⟨c', h1, h2⟩
    · obtain ⟨q, hq, e⟩ := List.mem_map.1 h
      unfold chg at hq
      split at hq
      · exact .inl (by rw [← e]; exact List.mem_map_of_mem (mem_without.1 hq).1)
      · rename_i hne
        rcases mem_insN.1 hq with rfl | hq
        · exact .inr ⟨c, .head _, hne, e⟩
        · exact .inl (by rw [← e]; exact List.mem_map_of_mem (mem_without.1 (mem_without.1 hq).1).1)
    · exact .inr ⟨c', .tail _ h1, h2⟩

namespace DiskM
variable {m : DiskM} {x : ActM}

theorem has_iff {i : Nat} : m.has i = true ↔ i ∈ m.kept.map Prod.snd ∨ ∃ c ∈ m.changes, c.new ≠ [] ∧ c.file = i := by
  unfold has
  rw [Bool.or_eq_true, List.any_eq_true, List.any_eq_true]
  refine or_congr ⟨?_, ?_⟩ ⟨?_, ?_⟩
  · rintro ⟨p, h1, h2⟩
    have : p.2 = i := by simpa using h2
    exact this ▸ List.mem_map_of_mem h1
  · intro h
    obtain ⟨p, h1, rfl⟩ := List.mem_map.1 h
    exact ⟨p, h1, by simp⟩
  · rintro ⟨c, h1, h2⟩
    simp only [Bool.and_eq_true, Bool.not_eq_true', decide_eq_false_iff_not, beq_iff_eq] at h2
    exact ⟨c, h1, h2⟩
  · rintro ⟨c, h1, h2, h3⟩
    exact ⟨c, h1, by simp [h2, h3]⟩

theorem atN_has {n : Int} {p : Str × Nat} (h : p ∈ m.atN n) : m.has p.2 = true := by
  rw [has_iff]
  rcases fold_mem _ _ h with h | ⟨c, h1, h2⟩
  · exact .inl h
  · exact .inr ⟨c, List.mem_of_mem_take h1, h2⟩

theorem now_has (hw : Wf m) {p : Str × Nat} (h : p ∈ m.now) : m.has p.2 = true := by
  rw [hw.now] at h
  rw [has_iff]
  rcases fold_mem _ _ h with h | ⟨c, h1, h2⟩
  · exact .inl h
  · exact .inr ⟨c, h1, h2⟩

theorem usedOf_mono {h h' : Nat → Bool} : ∀ {fs fs' : List FileM} {k : Nat}, (∀ i f', fs'[i]? = some f' → h' (k + i) = true → f'.b.length = 0 ∨ (h (k + i) = true ∧ ∃ f, fs[i]? = some f ∧ f'.b.length ≤ f.b.length)) → usedOf h' k fs' ≤ usedOf h k fs
  | fs, [], k, _ => Nat.zero_le _
  | [], f' :: r', k, hh => by
    have h0 := hh 0 f' rfl
    have hr := usedOf_mono (h := h) (h' := h') (fs := []) (fs' := r') (k := k + 1) fun i g hg hi => by
      have := hh (i + 1) g (by simpa using hg) (by rw [show k + (i + 1) = k + 1 + i by omega]; exact hi)
      rcases this with h1 | ⟨_, f, h2, _⟩
      · exact .inl h1
      · simp at h2
    have hr : usedOf h' (k + 1) r' ≤ 0 := hr
    show (if h' k = true then f'.b.length else 0) + usedOf h' (k + 1) r' ≤ 0
    by_cases hk : h' k = true
    · rcases h0 hk with h1 | ⟨_, f, h2, _⟩
      · rw [if_pos hk, h1]; omega
      · simp at h2
    · rw [if_neg hk]; omega
  | f :: r, f' :: r', k, hh => by
    have h0 := hh 0 f' rfl
    have hr := usedOf_mono (h := h) (h' := h') (fs := r) (fs' := r') (k := k + 1) fun i g hg hi => by
      have := hh (i + 1) g (by simpa using hg) (by rw [show k + (i + 1) = k + 1 + i by omega]; exact hi)
      rw [show k + (i + 1) = k + 1 + i by omega] at this
      rcases this with h1 | ⟨h2, f, h3, h4⟩
      · exact .inl h1
      · exact .inr ⟨h2, f, by simpa using h3, h4⟩
    unfold usedOf
    by_cases hk : h' k = true
    · rcases h0 hk with h1 | ⟨h2, g, h3, h4⟩
      · rw [if_pos hk, h1]; omega
      · have h2 : h k = true := h2
        simp at h3
        subst h3
        rw [if_pos hk, if_pos h2]; omega
    · rw [if_neg hk]; omega

theorem used_same {m' : DiskM} (hf : m'.files = m.files) (hh : ∀ i, m'.has i = true → m.has i = true) : m'.used ≤ m.used := by
  unfold used
  rw [hf]
  exact usedOf_mono fun i f' h1 h2 => .inr ⟨hh _ h2, f', h1, Nat.le_refl _⟩

theorem does_used (hw : Wf m) {c : ChM} (hc : c.new ≠ [] → c.file ∈ m.now.map Prod.snd) : (m.does c).used ≤ m.used := by
  refine used_same rfl fun i hi => ?_
  rw [has_iff] at hi
  rcases hi with h | ⟨d, h1, h2, h3⟩
  · exact has_iff.2 (.inl h)
  · rcases List.mem_append.1 h1 with h1 | h1
    · exact has_iff.2 (.inr ⟨d, h1, h2, h3⟩)
    · rw [List.mem_singleton] at h1
      subst h1
      obtain ⟨p, hp, e⟩ := List.mem_map.1 (hc h2)
      rw [← h3, ← e]
      exact now_has hw hp

theorem tick_has {i : Nat} : m.tick.has i = m.has i := by unfold has; rw [tick_kept, tick_changes]

theorem crash_used (hw : Wf m) (n : Int) (wb : List Int) : (m.crash n wb).used ≤ m.used := by
  have hok := hw.atOK n
  have h1 : (m.crash n wb).used ≤ ((m.crash n wb).files.map fun f => f.b.length).sum := usedOf_le
  have h2 : ((m.crash n wb).files.map fun f => f.b.length).sum ≤ (((m.atN n).map Prod.snd).map fun i => (m.files.getD i ⟨[], 0⟩).b.length).sum := by
    show (((m.atN n).mapIdx (m.fileLeft wb)).map fun f => f.b.length).sum ≤ _
    have : ∀ (l : List (Str × Nat)) (g : Nat → Str × Nat → FileM), (∀ i p, (g i p).b.length ≤ (m.files.getD p.2 ⟨[], 0⟩).b.length) → ((l.mapIdx g).map fun f => f.b.length).sum ≤ ((l.map Prod.snd).map fun i => (m.files.getD i ⟨[], 0⟩).b.length).sum := by
      intro l
      induction l with
      | nil => intro g _; exact Nat.le_refl _
      | cons p l ih =>
        intro g hg
        have := ih (fun i => g (i + 1)) fun i q => hg (i + 1) q
        simp only [List.mapIdx_cons, List.map_cons, List.sum_cons]
        have := hg 0 p
        omega
    refine this _ _ fun i p => ?_
    unfold fileLeft fileAt
    simp only [List.length_take]
    omega
  have h3 : (((m.atN n).map Prod.snd).map fun i => (m.files.getD i ⟨[], 0⟩).b.length).sum ≤ m.used := by
    unfold used
    rw [usedOf_range]
    refine sum_sub hok.inj fun i hi => ?_
    obtain ⟨p, hp, rfl⟩ := List.mem_map.1 hi
    rw [List.mem_filter, List.mem_range'_1]
    exact ⟨⟨Nat.zero_le _, by rw [Nat.zero_add]; exact hok.lt p hp⟩, atN_has hp⟩
  omega

theorem tick_usedLe : m.tick.used ≤ m.used := by rw [tick_used]; exact Nat.le_refl _

theorem set_used {i : Nat} {f : FileM} {m : DiskM} (hf : f.b.length ≤ (m.fileAt i).b.length) (hi : i < m.files.length) : ({ m with files := m.files.set i f } : DiskM).used ≤ m.used := by
  refine usedOf_mono fun j f' h1 h2 => .inr ⟨h2, ?_⟩
  have h3 : (m.files.set i f)[j]? = some f' := h1
  rw [List.getElem?_set] at h3
  by_cases e : i = j
  · subst e
    rw [if_pos rfl, if_pos hi] at h3
    cases h3
    exact ⟨m.fileAt i, by unfold fileAt; rw [List.getD_eq_getElem?_getD, List.getElem?_eq_getElem hi]; rfl, hf⟩
  · rw [if_neg e] at h3
    exact ⟨f', h3, Nat.le_refl _⟩

theorem usedOf_set {h : Nat → Bool} {f : FileM} : ∀ {fs : List FileM} {k i : Nat}, i < fs.length → usedOf h k (fs.set i f) ≤ usedOf h k fs + (f.b.length - (fs.getD i ⟨[], 0⟩).b.length)
  | [], _, _, hi => by simp at hi
  | g :: r, k, 0, _ => by
    simp only [List.set_cons_zero, usedOf, List.getD_cons_zero]
    split <;> omega
  | g :: r, k, i + 1, hi => by
    have := usedOf_set (h := h) (f := f) (fs := r) (k := k + 1) (i := i) (by simpa using hi)
    simp only [List.set_cons_succ, usedOf, List.getD_cons_succ]
    omega

theorem act_used (hw : Wf m) (hk : x.kind.toNat % 13 ≠ 12) (hr : (m.used : Int) ≤ m.room) : ((m.act x).1.used : Int) ≤ m.room := by
  have ht : (m.tick.used : Int) ≤ m.room := by rw [tick_used]; exact hr
  have hwt := hw.tick
  have key : ∀ {m' : DiskM}, m'.used ≤ m.tick.used → (m'.used : Int) ≤ m.room := fun h => by omega
  unfold act
  rw [if_neg hk]
  split
  · unfold create
    dsimp only
    split
    · exact ht
    · split
      · exact ht
      · rename_i hs
        split
        · exact ht
        · refine key (Nat.le_trans (usedOf_mono (h := m.tick.has) (fs := m.tick.files) fun i f' h1 h2 => ?_) (Nat.le_refl _))
          have h1 : (m.tick.files ++ [(⟨[], 0⟩ : FileM)])[i]? = some f' := h1
          by_cases hi : i < m.tick.files.length
          · rw [List.getElem?_append_left hi] at h1
            refine .inr ⟨?_, f', h1, Nat.le_refl _⟩
            rw [has_iff] at h2 ⊢
            rcases h2 with h | ⟨d, h3, h4, h5⟩
            · exact .inl h
            · rcases List.mem_append.1 h3 with h3 | h3
              · exact .inr ⟨d, h3, h4, h5⟩
              · rw [List.mem_singleton] at h3
                subst h3
                simp only at h5
                omega
          · rw [List.getElem?_append_right (by omega)] at h1
            have : i - m.tick.files.length = 0 := by
              have := (List.getElem?_eq_some_iff.1 h1).1
              simp at this
              omega
            rw [this] at h1
            simp at h1
            subst h1
            exact .inl rfl
  split
  · unfold read; dsimp only; repeat' split
    all_goals exact ht
  split
  · unfold sync; dsimp only
    split
    · exact ht
    · split
      · exact ht
      · rename_i i hf
        exact key (set_used (m := m.tick) (Nat.le_refl _) (hwt.find_lt hf))
  split
  · unfold rename; dsimp only
    split
    · exact ht
    · split
      · exact ht
      · rename_i i hf
        split
        · exact ht
        · exact key (does_used hwt fun _ => List.mem_map_of_mem (f := Prod.snd) (findN_mem hf))
  split
  · unfold remove; dsimp only
    split
    · exact ht
    · split
      · exact ht
      · exact key (does_used hwt fun h => absurd rfl h)
  split
  · unfold syncNames; dsimp only
    split
    · exact ht
    · refine key (used_same rfl fun i hi => ?_)
      rw [has_iff] at hi
      rcases hi with h | ⟨d, h3, _⟩
      · obtain ⟨p, hp, rfl⟩ := List.mem_map.1 h
        exact now_has hwt hp
      · cases h3
  split
  · unfold names; dsimp only; repeat' split
    all_goals exact ht
  split
  · unfold doom; split <;> exact hr
  split
  · have := crash_used hw x.wn x.wb
    dsimp only
    omega
  · unfold append; dsimp only
    split
    · exact ht
    · split
      · exact ht
      · rename_i i hf
        split
        · exact ht
        · rename_i hfit
          have := usedOf_set (h := m.tick.has) (f := ⟨(m.tick.fileAt i).b ++ x.b, (m.tick.fileAt i).kept⟩) (k := 0) (hwt.find_lt hf)
          have e : ((m.tick.fileAt i).b ++ x.b).length - (m.tick.files.getD i ⟨[], 0⟩).b.length = x.b.length := by
            unfold fileAt; simp
          dsimp only at this
          rw [e] at this
          have h2 : usedOf m.tick.has 0 (m.tick.files.set i ⟨(m.tick.fileAt i).b ++ x.b, (m.tick.fileAt i).kept⟩) ≤ m.tick.used + x.b.length := this
          show ((usedOf m.tick.has 0 (m.tick.files.set i ⟨(m.tick.fileAt i).b ++ x.b, (m.tick.fileAt i).kept⟩) : Nat) : Int) ≤ m.room
          rw [tick_room] at hfit
          omega

theorem act_full (h : (m.act x).2 = 41) : (m.act x).1.used = m.used ∧ m.room < (m.used : Int) + x.b.length := by
  unfold act at h ⊢
  split at h
  · unfold create at h; dsimp only at h; repeat' split at h
    all_goals cases h
  split at h
  · unfold read at h; dsimp only at h; repeat' split at h
    all_goals cases h
  split at h
  · unfold sync at h; dsimp only at h; repeat' split at h
    all_goals cases h
  split at h
  · unfold rename at h; dsimp only at h; repeat' split at h
    all_goals cases h
  split at h
  · unfold remove at h; dsimp only at h; repeat' split at h
    all_goals cases h
  split at h
  · unfold syncNames at h; dsimp only at h; repeat' split at h
    all_goals cases h
  split at h
  · unfold names at h; dsimp only at h; repeat' split at h
    all_goals cases h
  split at h
  · unfold doom at h; repeat' split at h
    all_goals cases h
  split at h
  · cases h
  split at h
  · unfold grow at h; repeat' split at h
    all_goals cases h
  rename_i h0 h4 h5 h6 h7 h8 h9 h10 h11 h12
  rw [if_neg h0, if_neg h4, if_neg h5, if_neg h6, if_neg h7, if_neg h8, if_neg h9, if_neg h10, if_neg h11, if_neg h12]
  unfold append at h ⊢
  dsimp only at h ⊢
  split at h
  · cases h
  · rename_i hu
    rw [if_neg hu]
    split at h
    · cases h
    · rename_i i hf
      split at h
      · rename_i hr
        rw [if_pos hr]
        rw [tick_used, tick_room] at hr
        exact ⟨tick_used, by omega⟩
      · cases h

end DiskM

end Go.Proofs.Ytocmjngleknlbaa.K

/-
  More plain laws of acts: of a disk that is up and not doomed; of one that is doomed, held against one that is not.
-/
namespace Go.Proofs.Ytocmjngleknlbaa.K

namespace DiskM
variable {m : DiskM} {x : ActM} {s t b : Str} {i : Nat} {k : Int}

theorem act_quiet (hq : quiet m) (hk : x.kind.toNat % 13 ≠ 10) : quiet (m.act x).1 := by
  have hu := hq.up
  have ht := hq.tick
  unfold act
  split
  · unfold create; rw [hu, ht]; dsimp only; repeat' split
    all_goals first | exact hq | contradiction
  split
  · unfold read; rw [hu, ht]; dsimp only; repeat' split
    all_goals first | exact hq | contradiction
  split
  · unfold sync; rw [hu, ht]; dsimp only; repeat' split
    all_goals first | exact hq | contradiction
  split
  · unfold rename; rw [hu, ht]; dsimp only; repeat' split
    all_goals first | exact hq | contradiction
  split
  · unfold remove; rw [hu, ht]; dsimp only; repeat' split
    all_goals first | exact hq | contradiction
  split
  · unfold syncNames; rw [hu, ht]; dsimp only; repeat' split
    all_goals first | exact hq | contradiction
  split
  · unfold names; rw [hu, ht]; dsimp only; repeat' split
    all_goals first | exact hq | contradiction
  split
  · exact ⟨rfl, rfl⟩
  split
  · unfold grow; split
    · exact hq
    · exact hq
  · unfold append; rw [hu, ht]; dsimp only; repeat' split
    all_goals first | exact hq | contradiction

/-- a disk that is doomed, of which so much is left; one that is down -/
def doomAt (m : DiskM) (k : Int) : DiskM := { m with down := false, doomed := true, left := k }
def downAt (m : DiskM) : DiskM := { m with down := true, doomed := true, left := 0 }

theorem doomAt_up (h : 0 < k) : (doomAt m k).up = true := by
  have : ¬ k = 0 := by omega
  simp [up, doomAt, this]
theorem doomAt_tick (h : 0 < k) : (doomAt m k).tick = doomAt m (k - 1) := by
  have : ¬ k = 0 := by omega
  simp [tick, doomAt, this]
theorem doomAt0_up : (doomAt m 0).up = false := by simp [up, doomAt]
theorem doomAt0_tick : (doomAt m 0).tick = downAt m := by simp [tick, doomAt, downAt]
theorem downAt_up : (downAt m).up = false := by simp [up, downAt]
theorem downAt_tick : (downAt m).tick = downAt m := by simp [tick, downAt]

theorem doom_create (hq : quiet m) (h : 0 < k) : (doomAt m k).create s = (doomAt (m.create s).1 (k - 1), (m.create s).2) := by
  have hu := doomAt_up (m := m) h
  by_cases hs : rightN s
  · cases hf : findN m.now s with
    | none => rw [create_new hu hs hf, create_new hq.up hs hf, doomAt_tick h, hq.tick]; rfl
    | some i => rw [create_there hu hs hf, create_there hq.up hs hf, doomAt_tick h, hq.tick]
  · rw [create_arg hu hs, create_arg hq.up hs, doomAt_tick h, hq.tick]

theorem doom_read (hq : quiet m) (h : 0 < k) : (doomAt m k).read s = (doomAt (m.read s).1 (k - 1), (m.read s).2) := by
  have hu := doomAt_up (m := m) h
  cases hf : findN m.now s with
  | none => rw [read_none hu hf, read_none hq.up hf, doomAt_tick h, hq.tick]
  | some i => rw [read_some hu hf, read_some hq.up hf, doomAt_tick h, hq.tick]; rfl

theorem doom_sync (hq : quiet m) (h : 0 < k) : (doomAt m k).sync s = (doomAt (m.sync s).1 (k - 1), (m.sync s).2) := by
  have hu := doomAt_up (m := m) h
  cases hf : findN m.now s with
  | none => rw [sync_none hu hf, sync_none hq.up hf, doomAt_tick h, hq.tick]
  | some i => rw [sync_some hu hf, sync_some hq.up hf, doomAt_tick h, hq.tick]; rfl

theorem doom_rename (hq : quiet m) (h : 0 < k) : (doomAt m k).rename s t = (doomAt (m.rename s t).1 (k - 1), (m.rename s t).2) := by
  have hu := doomAt_up (m := m) h
  cases hf : findN m.now s with
  | none => rw [rename_none hu hf, rename_none hq.up hf, doomAt_tick h, hq.tick]
  | some i =>
    by_cases ht : rightN t
    · rw [rename_some hu hf ht, rename_some hq.up hf ht, doomAt_tick h, hq.tick]; rfl
    · rw [rename_arg hu hf ht, rename_arg hq.up hf ht, doomAt_tick h, hq.tick]

theorem doom_remove (hq : quiet m) (h : 0 < k) : (doomAt m k).remove s = (doomAt (m.remove s).1 (k - 1), (m.remove s).2) := by
  have hu := doomAt_up (m := m) h
  cases hf : findN m.now s with
  | none => rw [remove_none hu hf, remove_none hq.up hf, doomAt_tick h, hq.tick]
  | some i => rw [remove_some hu hf, remove_some hq.up hf, doomAt_tick h, hq.tick]; rfl

theorem doom_syncNames (hq : quiet m) (h : 0 < k) : (doomAt m k).syncNames = (doomAt m.syncNames.1 (k - 1), m.syncNames.2) := by
  rw [syncNames_up (doomAt_up (m := m) h), syncNames_up hq.up, doomAt_tick h, hq.tick]; rfl

theorem doom_names (hq : quiet m) (h : 0 < k) : (doomAt m k).names = (doomAt m.names.1 (k - 1), m.names.2) := by
  rw [names_up (doomAt_up (m := m) h), names_up hq.up, doomAt_tick h, hq.tick]; rfl

theorem doom_append (hq : quiet m) (h : 0 < k) : (doomAt m k).append s b = (doomAt (m.append s b).1 (k - 1), (m.append s b).2) := by
  have hu := doomAt_up (m := m) h
  cases hf : findN m.now s with
  | none => rw [append_none hu hf, append_none hq.up hf, doomAt_tick h, hq.tick]
  | some i =>
    by_cases hr : (m.used : Int) + b.length > m.room
    · rw [append_full hu hf hr, append_full hq.up hf hr, doomAt_tick h, hq.tick]
    · rw [append_some hu hf hr, append_some hq.up hf hr, doomAt_tick h, hq.tick]; rfl

/-- an act that is let be done -/
theorem act_doom (hq : quiet m) (hk : x.kind.toNat % 13 ≤ 9) (h : 0 < k) : (doomAt m k).act x = (doomAt (m.act x).1 (k - 1), (m.act x).2) := by
  unfold act
  split
  · exact doom_create hq h
  split
  · rw [doom_read hq h]
  split
  · exact doom_sync hq h
  split
  · exact doom_rename hq h
  split
  · exact doom_remove hq h
  split
  · exact doom_syncNames hq h
  split
  · rw [doom_names hq h]
  split
  · omega
  split
  · omega
  split
  · omega
  · exact doom_append hq h

/-- one that is not -/
theorem act_down (hu : m.up = false) (hk : x.kind.toNat % 13 ≤ 9) : m.act x = (m.tick, 40) := by
  unfold act
  split
  · exact create_down hu
  split
  · rw [read_down hu]
  split
  · exact sync_down hu
  split
  · exact rename_down hu
  split
  · exact remove_down hu
  split
  · exact syncNames_down hu
  split
  · rw [names_down hu]
  split
  · omega
  split
  · omega
  split
  · omega
  · exact append_down hu

theorem crash_doomAt {n : Int} {wb : List Int} : (doomAt m k).crash n wb = m.crash n wb := rfl
theorem crash_downAt {n : Int} {wb : List Int} : (downAt m).crash n wb = m.crash n wb := rfl
theorem crash_quiet {n : Int} {wb : List Int} : quiet (m.crash n wb) := ⟨rfl, rfl⟩

/-! ### a disk that is up: what its calls tell -/

theorem quiet_read (hq : quiet m) : (m.read s).1 = m := by
  cases hf : findN m.now s with
  | none => rw [read_none hq.up hf]; exact hq.tick
  | some i => rw [read_some hq.up hf]; exact hq.tick

theorem read_there (hq : quiet m) (hs : s ∈ m.now.map Prod.fst) : (m.read s).2.2 = 0 := by
  cases hf : findN m.now s with
  | none =>
    obtain ⟨p, hp, e⟩ := List.mem_map.1 hs
    exact absurd e (findN_none.1 hf p hp)
  | some i => rw [read_some hq.up hf]

theorem mem_names {s : Str} : s ∈ m.now.map Prod.fst ↔ ∃ i, findN m.now s = some i := by
  constructor
  · intro hs
    cases hf : findN m.now s with
    | none =>
      obtain ⟨p, hp, e⟩ := List.mem_map.1 hs
      exact absurd e (findN_none.1 hf p hp)
    | some i => exact ⟨i, rfl⟩
  · rintro ⟨i, hf⟩
    exact List.mem_map_of_mem (f := Prod.fst) (findN_mem hf)

end DiskM

theorem insN_len (l : List (Str × Nat)) (s : Str) (f : Nat) : (insN l s f).length = l.length + 1 := (insN_perm l s f).length_eq

theorem without_none {l : List (Str × Nat)} {s : Str} (h : findN l s = none) : without l s = l := by
  unfold without
  rw [List.filter_eq_self]
  intro p hp
  have := findN_none.1 h p hp
  simpa using this

theorem chg_new {l : List (Str × Nat)} {s : Str} {f : Nat} (hr : ∀ p ∈ l, rightN p.1) (hs : rightN s) (h : findN l s = none) : (chg l ⟨[], s, f⟩).length = l.length + 1 := by
  have e0 : findN l [] = none := findN_none.2 fun p hp e => rightN_ne (hr p hp) e
  unfold chg
  dsimp only
  rw [if_neg (rightN_ne hs), without_none e0]
  unfold withN
  rw [without_none h]
  exact insN_len l s f

end Go.Proofs.Ytocmjngleknlbaa.K

/-
  What the disk's statements share: how many bytes, what acts are.
-/
namespace Go.Proofs.Ytocmjngleknlbaa.K
open Go Go.Proofs
variable {Γ Γ' : Mem} {L L' L'' : List HP} {w w' : World} {A B : HP}
set_option maxRecDepth 100000
set_option maxHeartbeats 4000000

theorem dUsedD_ok {a : Nat} {m : DiskM} {K : Int → World → Prop} (h : Sat Γ (PDisk a m :: L) w) (hg : m.g < 1000000000000) (k : ∀ w', Sat Γ (PDisk a m :: L) w' → K (m.used : Int) w') :
    CallP Try.prog 64 [.pointer (some ⟨a, 0, none⟩)] (.one (.s (.int .i64))) K w := by
  obtain ⟨ps, h⟩ := h.pd
  exact dUsed_ok h hg fun w' h => k w' h.toPd

theorem Lst.acts {s : Sl} {l : List ActM} (h : Lst eAct Γ s l) : ∀ x ∈ l, i64B x.n := fun x hx => by
  obtain ⟨ys, _, h2⟩ := h
  obtain ⟨i, hi⟩ := List.mem_iff_getElem?.1 hx
  obtain ⟨y, _, hr⟩ := h2.get hi
  exact hr.2.1.1

end Go.Proofs.Ytocmjngleknlbaa.K
