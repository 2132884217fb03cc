/-
  More plain laws of acts: of a disk that is up and not doomed; of one that is doomed, held against one that is not.
-/
import Derived.Test.YtohoimokfgfceaaDkF
import Derived.Test.YtohoimokfgfceaaDkD
namespace Go.Proofs.Ytohoimokfgfceaa.K

namespace DiskM
variable {m : DiskM} {x : ActM} {s t b : Str} {i : Nat} {k : Int}

theorem act_quiet (hq : quiet m) (hk : x.kind.toNat % 13 ≠ 10) : quiet (m.act x).1 := by
  have hu := hq.up
  have ht := hq.tick
  unfold act
  split
  · unfold create; rw [hu, ht]; dsimp only; repeat' split
    all_goals first | exact hq | contradiction
  split
  · unfold read; rw [hu, ht]; dsimp only; repeat' split
    all_goals first | exact hq | contradiction
  split
  · unfold sync; rw [hu, ht]; dsimp only; repeat' split
    all_goals first | exact hq | contradiction
  split
  · unfold rename; rw [hu, ht]; dsimp only; repeat' split
    all_goals first | exact hq | contradiction
  split
  · unfold remove; rw [hu, ht]; dsimp only; repeat' split
    all_goals first | exact hq | contradiction
  split
  · unfold syncNames; rw [hu, ht]; dsimp only; repeat' split
    all_goals first | exact hq | contradiction
  split
  · unfold names; rw [hu, ht]; dsimp only; repeat' split
    all_goals first | exact hq | contradiction
  split
  · exact ⟨rfl, rfl⟩
  split
  · unfold grow; split
    · exact hq
    · exact hq
  · unfold append; rw [hu, ht]; dsimp only; repeat' split
    all_goals first | exact hq | contradiction

/-- a disk that is doomed, of which so much is left; one that is down -/
def doomAt (m : DiskM) (k : Int) : DiskM := { m with down := false, doomed := true, left := k }
def downAt (m : DiskM) : DiskM := { m with down := true, doomed := true, left := 0 }

theorem doomAt_up (h : 0 < k) : (doomAt m k).up = true := by
  have : ¬ k = 0 := by omega
  simp [up, doomAt, this]
theorem doomAt_tick (h : 0 < k) : (doomAt m k).tick = doomAt m (k - 1) := by
  have : ¬ k = 0 := by omega
  simp [tick, doomAt, this]
theorem doomAt0_up : (doomAt m 0).up = false := by simp [up, doomAt]
theorem doomAt0_tick : (doomAt m 0).tick = downAt m := by simp [tick, doomAt, downAt]
theorem downAt_up : (downAt m).up = false := by simp [up, downAt]
theorem downAt_tick : (downAt m).tick = downAt m := by simp [tick, downAt]

theorem doom_create (hq : quiet m) (h : 0 < k) : (doomAt m k).create s = (doomAt (m.create s).1 (k - 1), (m.create s).2) := by
  have hu := doomAt_up (m := m) h
  by_cases hs : rightN s
  · cases hf : findN m.now s with
    | none => rw [create_new hu hs hf, create_new hq.up hs hf, doomAt_tick h, hq.tick]; rfl
    | some i => rw [create_there hu hs hf, create_there hq.up hs hf, doomAt_tick h, hq.tick]
  · rw [create_arg hu hs, create_arg hq.up hs, doomAt_tick h, hq.tick]

theorem doom_read (hq : quiet m) (h : 0 < k) : (doomAt m k).read s = (doomAt (m.read s).1 (k - 1), (m.read s).2) := by
  have hu := doomAt_up (m := m) h
  cases hf : findN m.now s with
  | none => rw [read_none hu hf, read_none hq.up hf, doomAt_tick h, hq.tick]
  | some i => rw [read_some hu hf, read_some hq.up hf, doomAt_tick h, hq.tick]; rfl

theorem doom_sync (hq : quiet m) (h : 0 < k) : (doomAt m k).sync s = (doomAt (m.sync s).1 (k - 1), (m.sync s).2) := by
  have hu := doomAt_up (m := m) h
  cases hf : findN m.now s with
  | none => rw [sync_none hu hf, sync_none hq.up hf, doomAt_tick h, hq.tick]
  | some i => rw [sync_some hu hf, sync_some hq.up hf, doomAt_tick h, hq.tick]; rfl

theorem doom_rename (hq : quiet m) (h : 0 < k) : (doomAt m k).rename s t = (doomAt (m.rename s t).1 (k - 1), (m.rename s t).2) := by
  have hu := doomAt_up (m := m) h
  cases hf : findN m.now s with
  | none => rw [rename_none hu hf, rename_none hq.up hf, doomAt_tick h, hq.tick]
  | some i =>
    by_cases ht : rightN t
    · rw [rename_some hu hf ht, rename_some hq.up hf ht, doomAt_tick h, hq.tick]; rfl
    · rw [rename_arg hu hf ht, rename_arg hq.up hf ht, doomAt_tick h, hq.tick]

theorem doom_remove (hq : quiet m) (h : 0 < k) : (doomAt m k).remove s = (doomAt (m.remove s).1 (k - 1), (m.remove s).2) := by
  have hu := doomAt_up (m := m) h
  cases hf : findN m.now s with
  | none => rw [remove_none hu hf, remove_none hq.up hf, doomAt_tick h, hq.tick]
  | some i => rw [remove_some hu hf, remove_some hq.up hf, doomAt_tick h, hq.tick]; rfl

theorem doom_syncNames (hq : quiet m) (h : 0 < k) : (doomAt m k).syncNames = (doomAt m.syncNames.1 (k - 1), m.syncNames.2) := by
  rw [syncNames_up (doomAt_up (m := m) h), syncNames_up hq.up, doomAt_tick h, hq.tick]; rfl

theorem doom_names (hq : quiet m) (h : 0 < k) : (doomAt m k).names = (doomAt m.names.1 (k - 1), m.names.2) := by
  rw [names_up (doomAt_up (m := m) h), names_up hq.up, doomAt_tick h, hq.tick]; rfl

theorem doom_append (hq : quiet m) (h : 0 < k) : (doomAt m k).append s b = (doomAt (m.append s b).1 (k - 1), (m.append s b).2) := by
  have hu := doomAt_up (m := m) h
  cases hf : findN m.now s with
  | none => rw [append_none hu hf, append_none hq.up hf, doomAt_tick h, hq.tick]
  | some i =>
    by_cases hr : (m.used : Int) + b.length > m.room
    · rw [append_full hu hf hr, append_full hq.up hf hr, doomAt_tick h, hq.tick]
    · rw [append_some hu hf hr, append_some hq.up hf hr, doomAt_tick h, hq.tick]; rfl

/-- an act that is let be done -/
theorem act_doom (hq : quiet m) (hk : x.kind.toNat % 13 ≤ 9) (h : 0 < k) : (doomAt m k).act x = (doomAt (m.act x).1 (k - 1), (m.act x).2) := by
  unfold act
  split
  · exact doom_create hq h
  split
  · rw [doom_read hq h]
  split
  · exact doom_sync hq h
  split
  · exact doom_rename hq h
  split
  · exact doom_remove hq h
  split
  · exact doom_syncNames hq h
  split
  · rw [doom_names hq h]
  split
  · omega
  split
  · omega
  split
  · omega
  · exact doom_append hq h

/-- one that is not -/
theorem act_down (hu : m.up = false) (hk : x.kind.toNat % 13 ≤ 9) : m.act x = (m.tick, 40) := by
  unfold act
  split
  · exact create_down hu
  split
  · rw [read_down hu]
  split
  · exact sync_down hu
  split
  · exact rename_down hu
  split
  · exact remove_down hu
  split
  · exact syncNames_down hu
  split
  · rw [names_down hu]
  split
  · omega
  split
  · omega
  split
  · omega
  · exact append_down hu

theorem crash_doomAt {n : Int} {wb : List Int} : (doomAt m k).crash n wb = m.crash n wb := rfl
theorem crash_downAt {n : Int} {wb : List Int} : (downAt m).crash n wb = m.crash n wb := rfl
theorem crash_quiet {n : Int} {wb : List Int} : quiet (m.crash n wb) := ⟨rfl, rfl⟩

/-! ### a disk that is up: what its calls tell -/

theorem quiet_read (hq : quiet m) : (m.read s).1 = m := by
  cases hf : findN m.now s with
  | none => rw [read_none hq.up hf]; exact hq.tick
  | some i => rw [read_some hq.up hf]; exact hq.tick

theorem read_there (hq : quiet m) (hs : s ∈ m.now.map Prod.fst) : (m.read s).2.2 = 0 := by
  cases hf : findN m.now s with
  | none =>
    obtain ⟨p, hp, e⟩ := List.mem_map.1 hs
    exact absurd e (findN_none.1 hf p hp)
  | some i => rw [read_some hq.up hf]

theorem mem_names {s : Str} : s ∈ m.now.map Prod.fst ↔ ∃ i, findN m.now s = some i := by
  constructor
  · intro hs
    cases hf : findN m.now s with
    | none =>
      obtain ⟨p, hp, e⟩ := List.mem_map.1 hs
      exact absurd e (findN_none.1 hf p hp)
    | some i => exact ⟨i, rfl⟩
  · rintro ⟨i, hf⟩
    exact List.mem_map_of_mem (f := Prod.fst) (findN_mem hf)

end DiskM

theorem insN_len (l : List (Str × Nat)) (s : Str) (f : Nat) : (insN l s f).length = l.length + 1 := (insN_perm l s f).length_eq

theorem without_none {l : List (Str × Nat)} {s : Str} (h : findN l s = none) : without l s = l := by
  unfold without
  rw [List.filter_eq_self]
  intro p hp
  have := findN_none.1 h p hp
  simpa using this

theorem chg_new {l : List (Str × Nat)} {s : Str} {f : Nat} (hr : ∀ p ∈ l, rightN p.1) (hs : rightN s) (h : findN l s = none) : (chg l ⟨[], s, f⟩).length = l.length + 1 := by
  have e0 : findN l [] = none := findN_none.2 fun p hp e => rightN_ne (hr p hp) e
  unfold chg
  dsimp only
  rw [if_neg (rightN_ne hs), without_none e0]
  unfold withN
  rw [without_none h]
  exact insN_len l s f

end Go.Proofs.Ytohoimokfgfceaa.K
