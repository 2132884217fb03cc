/-
  place: what it does of a disk, as plain lists.
-/
import Derived.Test.YtocmjngleknlbaaDkA
namespace Go.Proofs.Ytocmjngleknlbaa.K

abbrev tmpS : Str := [116, 109, 112]

/-- one thing behind the other, till one tells an error -/
def runAll : List (DiskM → DiskM × Int) → DiskM → DiskM × Int
  | [], m => (m, 0)
  | f :: r, m => if (f m).2 = 0 then runAll r (f m).1 else f m

theorem runAll_nil (m : DiskM) : runAll [] m = (m, 0) := rfl
theorem runAll_ok {f : DiskM → DiskM × Int} {r : List (DiskM → DiskM × Int)} {m : DiskM} (h : (f m).2 = 0) : runAll (f :: r) m = runAll r (f m).1 := by
  rw [runAll, if_pos h]
theorem runAll_no {f : DiskM → DiskM × Int} {r : List (DiskM → DiskM × Int)} {m : DiskM} (h : (f m).2 ≠ 0) : runAll (f :: r) m = f m := by
  rw [runAll, if_neg h]

theorem runAll_one (f : DiskM → DiskM × Int) (m : DiskM) : runAll [f] m = f m := by
  unfold runAll
  split
  · rename_i h
    rw [runAll_nil]
    exact Prod.ext rfl h.symm
  · rfl

/-- bytes in parts of 64 -/
def chunksF : Nat → Str → List Str
  | 0, _ => []
  | k + 1, b => if b = [] then [] else b.take 64 :: chunksF k (b.drop 64)
def chunks (b : Str) : List Str := chunksF b.length b

theorem chunksF_fuel : ∀ (k j : Nat) (b : Str), b.length ≤ k → b.length ≤ j → chunksF k b = chunksF j b
  | 0, 0, _, _, _ => rfl
  | 0, j + 1, b, h, _ => by
    have : b = [] := List.eq_nil_of_length_eq_zero (by omega)
    subst this
    rfl
  | k + 1, 0, b, _, h => by
    have : b = [] := List.eq_nil_of_length_eq_zero (by omega)
    subst this
    rfl
  | k + 1, j + 1, b, hk, hj => by
    unfold chunksF
    by_cases hb : b = []
    · rw [if_pos hb, if_pos hb]
    · rw [if_neg hb, if_neg hb, chunksF_fuel k j (b.drop 64) (by rw [List.length_drop]; omega) (by rw [List.length_drop]; omega)]

theorem chunks_nil : chunks [] = [] := rfl
theorem chunks_cons {b : Str} (h : b ≠ []) : chunks b = b.take 64 :: chunks (b.drop 64) := by
  unfold chunks
  have hl : 1 ≤ b.length := Nat.pos_of_ne_zero fun e => h (List.eq_nil_of_length_eq_zero e)
  obtain ⟨k, hk⟩ : ∃ k, b.length = k + 1 := ⟨b.length - 1, by omega⟩
  conv => lhs; rw [hk, chunksF, if_neg h]
  rw [chunksF_fuel k (b.drop 64).length (b.drop 64) (by rw [List.length_drop]; omega) (Nat.le_refl _)]

/-- the parts are what stands at each 64th place -/
theorem chunks_get (b : Str) : ∀ (i : Nat), (chunks b)[i]? = if 64 * i < b.length then some ((b.drop (64 * i)).take 64) else none := by
  have key : ∀ (n : Nat) (b : Str), b.length ≤ n → ∀ i, (chunks b)[i]? = if 64 * i < b.length then some ((b.drop (64 * i)).take 64) else none := by
    intro n
    induction n with
    | zero =>
      intro b hb i
      have : b = [] := List.eq_nil_of_length_eq_zero (by omega)
      subst this
      simp [chunks_nil]
    | succ n ih =>
      intro b hb i
      by_cases h0 : b = []
      · subst h0; simp [chunks_nil]
      · rw [chunks_cons h0]
        have hl : 1 ≤ b.length := Nat.pos_of_ne_zero fun e => h0 (List.eq_nil_of_length_eq_zero e)
        cases i with
        | zero => rw [List.getElem?_cons_zero, if_pos (by omega)]; simp
        | succ i =>
          rw [List.getElem?_cons_succ, ih (b.drop 64) (by rw [List.length_drop]; omega) i, List.length_drop, List.drop_drop]
          by_cases hi : 64 * (i + 1) < b.length
          · rw [if_pos hi, if_pos (by omega), show 64 + 64 * i = 64 * (i + 1) by omega]
          · rw [if_neg hi, if_neg (by omega)]
  exact key b.length b (Nat.le_refl _)

theorem chunks_len (b : Str) : (chunks b).length = (b.length + 63) / 64 := by
  have h1 := chunks_get b (chunks b).length
  rw [List.getElem?_eq_none (Nat.le_refl _)] at h1
  have h2 : ¬ 64 * (chunks b).length < b.length := by
    intro h; rw [if_pos h] at h1; cases h1
  by_cases h0 : (chunks b).length = 0
  · omega
  · have h3 := chunks_get b ((chunks b).length - 1)
    rw [List.getElem?_eq_getElem (by omega)] at h3
    have h4 : 64 * ((chunks b).length - 1) < b.length := by
      apply Classical.byContradiction
      intro h; rw [if_neg h] at h3; cases h3
    omega

theorem chunks_flat : ∀ (n : Nat) (b : Str), b.length ≤ n → (chunks b).flatten = b
  | 0, b, h => by
    have : b = [] := List.eq_nil_of_length_eq_zero (by omega)
    subst this; rfl
  | n + 1, b, h => by
    by_cases h0 : b = []
    · subst h0; rfl
    · have hl : 1 ≤ b.length := Nat.pos_of_ne_zero fun e => h0 (List.eq_nil_of_length_eq_zero e)
      rw [chunks_cons h0, List.flatten_cons, chunks_flat n (b.drop 64) (by rw [List.length_drop]; omega), List.take_append_drop]

theorem chunks_le {b c : Str} (h : c ∈ chunks b) : c.length ≤ 64 := by
  obtain ⟨i, hi⟩ := List.getElem?_of_mem h
  rw [chunks_get] at hi
  split at hi
  · cases hi; rw [List.length_take]; omega
  · cases hi

/-- parts are put to the file on the way -/
def fillM (cs : List Str) : DiskM → DiskM × Int := runAll (cs.map fun c m => m.append tmpS c)

theorem fill_step {c : Str} {cs : List Str} {r : List (DiskM → DiskM × Int)} {m : DiskM} (h : (m.append tmpS c).2 = 0) : runAll (fillM (c :: cs) :: r) m = runAll (fillM cs :: r) (m.append tmpS c).1 := by
  have e : fillM (c :: cs) m = fillM cs (m.append tmpS c).1 := by
    unfold fillM
    rw [List.map_cons, runAll_ok h]
  rw [runAll, runAll, e]
theorem fill_stop {c : Str} {cs : List Str} {r : List (DiskM → DiskM × Int)} {m : DiskM} (h : (m.append tmpS c).2 ≠ 0) : runAll (fillM (c :: cs) :: r) m = m.append tmpS c := by
  have e : fillM (c :: cs) m = m.append tmpS c := by
    unfold fillM
    rw [List.map_cons, runAll_no h]
  rw [runAll, e, if_neg h]
theorem fill_end {r : List (DiskM → DiskM × Int)} {m : DiskM} : runAll (fillM [] :: r) m = runAll r m := by
  rw [runAll_ok (by rfl)]
  rfl

/-- may a file be put there? -/
def rightP (s : Str) : Prop := s ≠ tmpS ∧ rightN s
instance (s : Str) : Decidable (rightP s) := inferInstanceAs (Decidable (_ ∧ _))

def putSteps (name b : Str) : List (DiskM → DiskM × Int) :=
  [fun m => m.create tmpS, fillM (chunks b), fun m => m.sync tmpS, fun m => m.rename tmpS name, fun m => m.syncNames]

def putP (m : DiskM) (name b : Str) : DiskM × Int :=
  if ¬ rightP name then (m, 1)
  else if (m.remove tmpS).2 ≠ 0 ∧ (m.remove tmpS).2 ≠ 2 then m.remove tmpS
  else runAll (putSteps name b) (m.remove tmpS).1

def madeM (name : Str) (m : DiskM) : DiskM × Int :=
  if (m.create name).2 = 0 then (m.create name).1.syncNames
  else if (m.create name).2 = 4 then ((m.create name).1, 0)
  else m.create name

def growSteps (name b : Str) : List (DiskM → DiskM × Int) := [madeM name, fun m => m.append name b, fun m => m.sync name]

def growM (m : DiskM) (name b : Str) : DiskM × Int := if ¬ rightP name then (m, 1) else runAll (growSteps name b) m

/-- files are let go of: was there one? -/
def dropF : List Str → Bool → DiskM → DiskM × Int
  | [], b, m => if b = true then m.syncNames else (m, 0)
  | s :: r, b, m => if (m.remove s).2 = 0 then dropF r true (m.remove s).1 else if (m.remove s).2 = 2 then dropF r b (m.remove s).1 else m.remove s

def dropM (m : DiskM) (names : List Str) : DiskM × Int := dropF names false m

/-! ### what is so of all that is done -/

/-- what is done of a disk: it stays a disk, and grows by no more than so much -/
structure StepOK (f : DiskM → DiskM × Int) (c : Nat) : Prop where
  wf : ∀ m, Wf m → Wf (f m).1
  g : ∀ m, (f m).1.g ≤ m.g + c

theorem StepOK.runAll : ∀ {fs : List (DiskM → DiskM × Int)} {c : Nat}, (∀ f ∈ fs, StepOK f c) → StepOK (runAll fs) (c * fs.length)
  | [], c, _ => ⟨fun m h => h, fun m => by simp [K.runAll]⟩
  | f :: r, c, h => by
    have h1 := h f (.head _)
    have h2 := StepOK.runAll (fs := r) (c := c) fun x hx => h x (.tail _ hx)
    refine ⟨fun m hm => ?_, fun m => ?_⟩
    · by_cases hf : (f m).2 = 0
      · rw [runAll_ok hf]; exact h2.wf _ (h1.wf m hm)
      · rw [runAll_no hf]; exact h1.wf m hm
    · rw [List.length_cons, Nat.mul_succ]
      by_cases hf : (f m).2 = 0
      · rw [runAll_ok hf]
        have := h2.g (f m).1
        have := h1.g m
        omega
      · rw [runAll_no hf]
        have := h1.g m
        omega

theorem StepOK.mono {f : DiskM → DiskM × Int} {c d : Nat} (h : StepOK f c) (hcd : c ≤ d) : StepOK f d := ⟨h.wf, fun m => Nat.le_trans (h.g m) (by omega)⟩

theorem create_g (m : DiskM) (s : Str) : (m.create s).1.g ≤ m.g + 2 := by
  unfold DiskM.create
  dsimp only
  repeat' split
  all_goals simp only [DiskM.does_g, tick_g]
  all_goals omega
theorem append_g (m : DiskM) (s b : Str) : (m.append s b).1.g ≤ m.g + b.length := by
  unfold DiskM.append
  dsimp only
  repeat' split
  all_goals simp only [tick_g]
  all_goals omega
theorem read_g (m : DiskM) (s : Str) : (m.read s).1.g = m.g := by
  unfold DiskM.read
  dsimp only
  repeat' split
  all_goals simp only [tick_g]
theorem sync_g (m : DiskM) (s : Str) : (m.sync s).1.g = m.g := by
  unfold DiskM.sync
  dsimp only
  repeat' split
  all_goals simp only [tick_g]
theorem rename_g (m : DiskM) (s t : Str) : (m.rename s t).1.g ≤ m.g + 1 := by
  unfold DiskM.rename
  dsimp only
  repeat' split
  all_goals simp only [DiskM.does_g, tick_g]
  all_goals omega
theorem remove_g (m : DiskM) (s : Str) : (m.remove s).1.g ≤ m.g + 1 := by
  unfold DiskM.remove
  dsimp only
  repeat' split
  all_goals simp only [DiskM.does_g, tick_g]
  all_goals omega
theorem syncNames_g (m : DiskM) : m.syncNames.1.g = m.g := by
  unfold DiskM.syncNames
  dsimp only
  split
  all_goals simp only [tick_g]
theorem names_g (m : DiskM) : m.names.1.g = m.g := by
  unfold DiskM.names
  dsimp only
  split
  all_goals simp only [tick_g]
theorem doom_g (m : DiskM) (n : Int) : (m.doom n).1.g = m.g := by
  unfold DiskM.doom
  split <;> rfl

theorem stepCreate (s : Str) : StepOK (fun m => m.create s) 2 := ⟨fun m h => h.create s, fun m => create_g m s⟩
theorem stepAppend (s b : Str) : StepOK (fun m => m.append s b) b.length := ⟨fun m h => h.append s b, fun m => append_g m s b⟩
theorem stepSync (s : Str) : StepOK (fun m => m.sync s) 0 := ⟨fun m h => h.sync s, fun m => by rw [sync_g]; omega⟩
theorem stepRename (s t : Str) : StepOK (fun m => m.rename s t) 1 := ⟨fun m h => h.rename s t, fun m => rename_g m s t⟩
theorem stepSyncNames : StepOK (fun m => m.syncNames) 0 := ⟨fun m h => h.syncNames, fun m => by rw [syncNames_g]; omega⟩

theorem stepFill (cs : List Str) (h : ∀ c ∈ cs, c.length ≤ 64) : StepOK (fillM cs) (64 * cs.length) := by
  have := StepOK.runAll (fs := cs.map fun c m => m.append tmpS c) (c := 64) fun f hf => by
    obtain ⟨c, hc, rfl⟩ := List.mem_map.1 hf
    exact (stepAppend tmpS c).mono (h c hc)
  rwa [List.length_map] at this

theorem stepMade (s : Str) : StepOK (madeM s) 2 := by
  refine ⟨fun m h => ?_, fun m => ?_⟩
  · unfold madeM
    split
    · exact (h.create s).syncNames
    · split <;> exact h.create s
  · unfold madeM
    have := create_g m s
    split
    · rw [syncNames_g]; exact this
    · split <;> exact this

theorem putM_wf {m : DiskM} (h : Wf m) (name b : Str) : Wf (putP m name b).1 := by
  unfold putP
  split
  · exact h
  · split
    · exact h.remove _
    · have hs : StepOK (runAll (putSteps name b)) ((64 * (chunks b).length + 2) * 5) := by
        refine StepOK.runAll (fs := putSteps name b) fun f hf => ?_
        simp only [putSteps, List.mem_cons, List.not_mem_nil, or_false] at hf
        rcases hf with rfl | rfl | rfl | rfl | rfl
        · exact (stepCreate _).mono (by omega)
        · exact (stepFill _ fun c => chunks_le).mono (by omega)
        · exact (stepSync _).mono (by omega)
        · exact (stepRename _ _).mono (by omega)
        · exact stepSyncNames.mono (by omega)
      exact hs.wf _ (h.remove _)

end Go.Proofs.Ytocmjngleknlbaa.K
