/-
  What is there behind a crash: of disks of which all is kept, and of what is done to them.
-/
import Derived.Test.YtocmjngleknlbaaPlM
import Derived.Test.YtocmjngleknlbaaDkJ
namespace Go.Proofs.Ytocmjngleknlbaa.K

namespace DiskM

/-- the same, but for what tells whether it is up -/
structure Core (m m' : DiskM) : Prop where
  files : m'.files = m.files
  now : m'.now = m.now
  kept : m'.kept = m.kept
  changes : m'.changes = m.changes
  room : m'.room = m.room

theorem Core.refl (m : DiskM) : Core m m := ⟨rfl, rfl, rfl, rfl, rfl⟩
theorem Core.trans {a b c : DiskM} (h : Core a b) (k : Core b c) : Core a c := ⟨k.files.trans h.files, k.now.trans h.now, k.kept.trans h.kept, k.changes.trans h.changes, k.room.trans h.room⟩
theorem Core.symm {a b : DiskM} (h : Core a b) : Core b a := ⟨h.files.symm, h.now.symm, h.kept.symm, h.changes.symm, h.room.symm⟩
theorem core_tick (m : DiskM) : Core m m.tick := ⟨tick_files _, tick_now _, tick_kept _, tick_changes _, tick_room _⟩
theorem core_doom (m : DiskM) (n : Int) : Core m (m.doom n).1 := by unfold doom; split <;> exact ⟨rfl, rfl, rfl, rfl, rfl⟩

variable {m m' : DiskM} {n : Int} {wb : List Int} {s t b : Str} {i : Nat}

theorem Core.fileAt (h : Core m m') (i : Nat) : m'.fileAt i = m.fileAt i := by unfold DiskM.fileAt; rw [h.files]
theorem Core.atN (h : Core m m') (n : Int) : m'.atN n = m.atN n := by unfold DiskM.atN; rw [h.changes, h.kept]

/-- what is read behind a crash -/
def see (m : DiskM) (n : Int) (wb : List Int) (s : Str) : Str × Int := ((m.crash n wb).read s).2

theorem Core.crash (h : Core m m') : (m'.crash n wb) = { m.crash n wb with g := m'.g } := by
  unfold DiskM.crash
  have e : m'.fileLeft wb = m.fileLeft wb := by funext i p; unfold DiskM.fileLeft; rw [h.fileAt]
  rw [h.atN, e, h.room]

theorem read_g2 (k : Nat) : (({ m with g := k } : DiskM).read s).2 = (m.read s).2 := by
  obtain ⟨fs, nw, kp, ch, room, down, doomed, left, g⟩ := m
  unfold DiskM.read DiskM.tick DiskM.up DiskM.fileAt
  cases hf : findN nw s <;> cases down <;> cases doomed <;> by_cases h : left = 0 <;> simp [h, hf]

theorem Core.see (h : Core m m') : see m' n wb s = see m n wb s := by
  unfold DiskM.see
  rw [h.crash, read_g2]

/-- what there is of a name, now -/
def cont (m : DiskM) (s : Str) : Str × Int := match findN m.now s with
  | none => ([], 2)
  | some i => ((m.fileAt i).b, 0)

theorem cont_none (h : findN m.now s = none) : cont m s = ([], 2) := by unfold cont; rw [h]
theorem cont_some (h : findN m.now s = some i) : cont m s = ((m.fileAt i).b, 0) := by unfold cont; rw [h]
theorem Core.cont (h : Core m m') : cont m' s = cont m s := by
  unfold DiskM.cont
  rw [h.now]
  cases findN m.now s with
  | none => rfl
  | some i => simp only [h.fileAt]

theorem quiet_cont (hq : quiet m) : (m.read s).2 = cont m s := by
  cases hf : findN m.now s with
  | none => rw [read_none hq.up hf, cont_none hf]
  | some i => rw [read_some hq.up hf, cont_some hf]

/-! ### what is not done changes nothing -/

theorem create_core (h : (m.create s).2 ≠ 0) : Core m (m.create s).1 := by
  unfold create at h ⊢
  dsimp only at h ⊢
  split
  · exact core_tick m
  · split
    · exact core_tick m
    · split
      · exact core_tick m
      · rename_i h1 h2 h3
        rw [if_neg h1, if_neg h2, if_neg h3] at h
        exact absurd rfl h

theorem append_core (h : (m.append s b).2 ≠ 0) : Core m (m.append s b).1 := by
  cases hu : m.up with
  | false => rw [append_down hu]; exact core_tick m
  | true =>
    cases hf : findN m.now s with
    | none => rw [append_none hu hf]; exact core_tick m
    | some i =>
      by_cases hr : (m.used : Int) + b.length > m.room
      · rw [append_full hu hf hr]; exact core_tick m
      · rw [append_some hu hf hr] at h; exact absurd rfl h

theorem sync_core (h : (m.sync s).2 ≠ 0) : Core m (m.sync s).1 := by
  cases hu : m.up with
  | false => rw [sync_down hu]; exact core_tick m
  | true =>
    cases hf : findN m.now s with
    | none => rw [sync_none hu hf]; exact core_tick m
    | some i => rw [sync_some hu hf] at h; exact absurd rfl h

theorem rename_core (h : (m.rename s t).2 ≠ 0) : Core m (m.rename s t).1 := by
  cases hu : m.up with
  | false => rw [rename_down hu]; exact core_tick m
  | true =>
    cases hf : findN m.now s with
    | none => rw [rename_none hu hf]; exact core_tick m
    | some i =>
      by_cases ht : rightN t
      · rw [rename_some hu hf ht] at h; exact absurd rfl h
      · rw [rename_arg hu hf ht]; exact core_tick m

theorem remove_core (h : (m.remove s).2 ≠ 0) : Core m (m.remove s).1 := by
  cases hu : m.up with
  | false => rw [remove_down hu]; exact core_tick m
  | true =>
    cases hf : findN m.now s with
    | none => rw [remove_none hu hf]; exact core_tick m
    | some i => rw [remove_some hu hf] at h; exact absurd rfl h

theorem syncNames_core (h : m.syncNames.2 ≠ 0) : Core m m.syncNames.1 := by
  cases hu : m.up with
  | false => rw [syncNames_down hu]; exact core_tick m
  | true => rw [syncNames_up hu] at h; exact absurd rfl h

theorem read_core : Core m (m.read s).1 := by
  cases hu : m.up with
  | false => rw [read_down hu]; exact core_tick m
  | true =>
    cases hf : findN m.now s with
    | none => rw [read_none hu hf]; exact core_tick m
    | some i => rw [read_some hu hf]; exact core_tick m

theorem names_core : Core m m.names.1 := by
  cases hu : m.up with
  | false => rw [names_down hu]; exact core_tick m
  | true => rw [names_up hu]; exact core_tick m

/-! ### what is done -/

theorem create_done (h : (m.create s).2 = 0) : rightN s ∧ findN m.now s = none ∧ (m.create s).1 = (({ m.tick with files := m.files ++ [⟨[], 0⟩], g := m.g + 1 } : DiskM).does ⟨[], s, m.files.length⟩) := by
  cases hu : m.up with
  | false => rw [create_down hu] at h; exact absurd h (by simp)
  | true =>
    by_cases hs : rightN s
    · cases hf : findN m.now s with
      | none => exact ⟨hs, rfl, by rw [create_new hu hs hf]⟩
      | some i => rw [create_there hu hs hf] at h; exact absurd h (by simp)
    · rw [create_arg hu hs] at h; exact absurd h (by simp)

theorem append_done (h : (m.append s b).2 = 0) : ∃ i, findN m.now s = some i ∧ (m.append s b).1 = { m.tick with files := m.files.set i ⟨(m.fileAt i).b ++ b, (m.fileAt i).kept⟩, g := m.g + b.length } := by
  cases hu : m.up with
  | false => rw [append_down hu] at h; exact absurd h (by simp)
  | true =>
    cases hf : findN m.now s with
    | none => rw [append_none hu hf] at h; exact absurd h (by simp)
    | some i =>
      by_cases hr : (m.used : Int) + b.length > m.room
      · rw [append_full hu hf hr] at h; exact absurd h (by simp)
      · exact ⟨i, rfl, by rw [append_some hu hf hr]⟩

theorem sync_done (h : (m.sync s).2 = 0) : ∃ i, findN m.now s = some i ∧ (m.sync s).1 = { m.tick with files := m.files.set i ⟨(m.fileAt i).b, (m.fileAt i).b.length⟩ } := by
  cases hu : m.up with
  | false => rw [sync_down hu] at h; exact absurd h (by simp)
  | true =>
    cases hf : findN m.now s with
    | none => rw [sync_none hu hf] at h; exact absurd h (by simp)
    | some i => exact ⟨i, rfl, by rw [sync_some hu hf]⟩

theorem rename_done (h : (m.rename s t).2 = 0) : ∃ i, findN m.now s = some i ∧ rightN t ∧ (m.rename s t).1 = m.tick.does ⟨s, t, i⟩ := by
  cases hu : m.up with
  | false => rw [rename_down hu] at h; exact absurd h (by simp)
  | true =>
    cases hf : findN m.now s with
    | none => rw [rename_none hu hf] at h; exact absurd h (by simp)
    | some i =>
      by_cases ht : rightN t
      · exact ⟨i, rfl, ht, by rw [rename_some hu hf ht]⟩
      · rw [rename_arg hu hf ht] at h; exact absurd h (by simp)

theorem remove_done (h : (m.remove s).2 = 0) : ∃ i, findN m.now s = some i ∧ (m.remove s).1 = m.tick.does ⟨s, [], i⟩ := by
  cases hu : m.up with
  | false => rw [remove_down hu] at h; exact absurd h (by simp)
  | true =>
    cases hf : findN m.now s with
    | none => rw [remove_none hu hf] at h; exact absurd h (by simp)
    | some i => exact ⟨i, rfl, by rw [remove_some hu hf]⟩

theorem syncNames_done (h : m.syncNames.2 = 0) : m.syncNames.1 = { m.tick with kept := m.now, changes := [] } := by
  cases hu : m.up with
  | false => rw [syncNames_down hu] at h; exact absurd h (by simp)
  | true => rw [syncNames_up hu]

/-! ### what is seen behind a crash -/

theorem see_none (hw : Wf m) (h : findN (m.atN n) s = none) : see m n wb s = ([], 2) := by
  have hq : quiet (m.crash n wb) := crash_quiet
  unfold see
  rw [quiet_cont hq]
  refine cont_none (findN_none.2 fun p hp e => ?_)
  have h1 : p.1 ∈ (m.crash n wb).now.map Prod.fst := List.mem_map_of_mem hp
  rw [crash_names] at h1
  obtain ⟨q, hq2, e2⟩ := List.mem_map.1 h1
  exact findN_none.1 h q hq2 (e2.trans e)

theorem see_some (hw : Wf m) (h : findN (m.atN n) s = some i) : ∃ k, (m.fileAt i).kept ≤ k ∧ k ≤ (m.fileAt i).b.length ∧ see m n wb s = ((m.fileAt i).b.take k, 0) := by
  obtain ⟨j, hj⟩ := List.mem_iff_getElem?.1 (findN_mem h)
  have h1 := crash_read (wb := wb) hw hj
  have hk := hw.fileAt_kept i
  have hl := leftOf_le (wb := wb) j ((m.fileAt i).b.length - (m.fileAt i).kept)
  refine ⟨(m.fileAt i).kept + leftOf wb j ((m.fileAt i).b.length - (m.fileAt i).kept), by omega, by omega, ?_⟩
  unfold see
  rw [h1]
  rfl

/-- .. all of it, of what is kept -/
theorem see_kept (hw : Wf m) (h : findN (m.atN n) s = some i) (hk : (m.fileAt i).kept = (m.fileAt i).b.length) : see m n wb s = ((m.fileAt i).b, 0) := by
  obtain ⟨k, h1, h2, h3⟩ := see_some (wb := wb) hw h
  rw [h3, List.take_of_length_le (by omega)]

/-- all is kept -/
structure Firm (m : DiskM) : Prop where
  wf : Wf m
  ch : m.changes = []
  all : ∀ s i, findN m.now s = some i → (m.fileAt i).kept = (m.fileAt i).b.length

theorem Firm.kept (h : Firm m) : m.kept = m.now := by
  have := h.wf.now
  rw [h.ch] at this
  exact this.symm

theorem Firm.atN (h : Firm m) : m.atN n = m.now := by
  unfold DiskM.atN
  rw [h.ch, h.kept]
  simp

theorem Firm.see (h : Firm m) : see m n wb s = cont m s := by
  cases hf : findN m.now s with
  | none => rw [cont_none hf]; exact see_none h.wf (by rw [h.atN]; exact hf)
  | some i => rw [cont_some hf]; exact see_kept h.wf (by rw [h.atN]; exact hf) (h.all s i hf)

theorem Firm.core (h : Firm m) (hc : Core m m') (hw : Wf m') : Firm m' :=
  ⟨hw, by rw [hc.changes]; exact h.ch, fun s i hf => by rw [hc.now] at hf; rw [hc.fileAt]; exact h.all s i hf⟩

theorem firm_crash (hw : Wf m) : Firm (m.crash n wb) := by
  refine ⟨hw.crash n wb, rfl, fun s i hf => ?_⟩
  have hm := findN_mem hf
  have hm : (s, i) ∈ (m.atN n).mapIdx fun i p => (p.1, i) := hm
  obtain ⟨j, hj⟩ := List.mem_iff_getElem?.1 hm
  rw [List.getElem?_mapIdx] at hj
  cases ep : (m.atN n)[j]? with
  | none => rw [ep] at hj; cases hj
  | some p =>
    rw [ep] at hj
    simp only [Option.map_some, Option.some.injEq, Prod.mk.injEq] at hj
    obtain ⟨e1, e2⟩ := hj
    subst e2
    have hfa : (m.crash n wb).fileAt j = m.fileLeft wb j p := by
      unfold DiskM.fileAt
      show ((m.atN n).mapIdx (m.fileLeft wb)).getD j _ = _
      rw [List.getD_eq_getElem?_getD, List.getElem?_mapIdx, ep]
      rfl
    rw [hfa]
    have hk := hw.fileAt_kept p.2
    have hl := leftOf_le (wb := wb) j ((m.fileAt p.2).b.length - (m.fileAt p.2).kept)
    show _ = ((m.fileAt p.2).b.take _).length
    rw [List.length_take]
    unfold fileLeft
    dsimp only
    omega

/-! ### changes of names that touch few -/

/-- changes that touch no name but these -/
def Tch (t : Str → Prop) (cs : List ChM) : Prop := ∀ c ∈ cs, (c.gone = [] ∨ t c.gone) ∧ (c.new = [] ∨ t c.new)

theorem Tch.take {t : Str → Prop} {cs : List ChM} (h : Tch t cs) (k : Nat) : Tch t (cs.take k) := fun c hc => h c (List.mem_of_mem_take hc)

theorem fold_find {t : Str → Prop} {k : Nat} {s : Str} (hs : s ≠ []) (ht : ¬ t s) : ∀ {l : List (Str × Nat)} {cs : List ChM}, NamesOK k l → ChOK k l cs → Tch t cs → findN (cs.foldl chg l) s = findN l s
  | _, [], _, _, _ => rfl
  | l, c :: cs, hl, hc, h => by
    cases hc with
    | cons h1 h2 h3 =>
      rw [List.foldl_cons, fold_find hs ht (hl.chg h1 h2) h3 fun x hx => h x (.tail _ hx), findN_chg hl.nodup]
      obtain ⟨ha, hb⟩ := h c (.head _)
      have e1 : ¬ (c.new ≠ [] ∧ s = c.new) := by
        rintro ⟨h4, rfl⟩
        rcases hb with hb | hb
        · exact h4 hb
        · exact ht hb
      have e2 : ¬ s = c.gone := by
        rintro rfl
        rcases ha with ha | ha
        · exact hs ha
        · exact ht ha
      rw [if_neg e1, if_neg e2]

end DiskM

end Go.Proofs.Ytocmjngleknlbaa.K

/-
  A file put at once: whenever it goes down, it is as it was, or as it is put.
-/
namespace Go.Proofs.Ytocmjngleknlbaa.K
namespace DiskM
variable {m m' : DiskM} {n : Int} {wb : List Int} {s t b name x : Str} {i : Nat}

/-! ### what is done, one behind the other -/

/-- what holds ahead, behind, and where an error is told -/
def Tri (A : DiskM → Prop) (f : DiskM → DiskM × Int) (B : DiskM → Prop) (E : DiskM → Prop) : Prop := ∀ m, A m → ((f m).2 = 0 → B (f m).1) ∧ ((f m).2 ≠ 0 → E (f m).1)

theorem Tri.nil {A E : DiskM → Prop} : Tri A (runAll []) A E := fun m h => ⟨fun _ => h, fun h => absurd rfl h⟩
theorem Tri.cons {A B C E : DiskM → Prop} {f : DiskM → DiskM × Int} {r : List (DiskM → DiskM × Int)} (h1 : Tri A f B E) (h2 : Tri B (runAll r) C E) : Tri A (runAll (f :: r)) C E := by
  intro m hm
  by_cases h0 : (f m).2 = 0
  · rw [runAll_ok h0]
    exact h2 _ ((h1 m hm).1 h0)
  · rw [runAll_no h0]
    exact ⟨fun h => absurd h h0, fun _ => (h1 m hm).2 h0⟩

theorem tmp_right : rightN tmpS := by decide

/-! ### a file on the way -/

/-- names but those that are put are as they were -/
def Others (m m' : DiskM) (t : Str → Prop) : Prop := ∀ s, rightN s → ¬ t s → ∀ n wb, see m' n wb s = cont m s

/-- a disk on which there are files more, and changes of few names -/
structure More (m m' : DiskM) (fs : List FileM) (t : Str → Prop) (cs : List ChM) : Prop where
  wf : Wf m'
  files : m'.files = m.files ++ fs
  kept : m'.kept = m.now
  changes : m'.changes = cs
  tch : Tch t cs

theorem More.fileAt {fs : List FileM} {t : Str → Prop} {cs : List ChM} (h : More m m' fs t cs) (hi : i < m.files.length) : m'.fileAt i = m.fileAt i := by
  unfold DiskM.fileAt
  rw [h.files, List.getD_eq_getElem?_getD, List.getD_eq_getElem?_getD, List.getElem?_append_left hi]

theorem More.fileNew {f : FileM} {t : Str → Prop} {cs : List ChM} (h : More m m' [f] t cs) : m'.fileAt m.files.length = f := by
  unfold DiskM.fileAt
  rw [h.files, List.getD_eq_getElem?_getD, List.getElem?_append_right (Nat.le_refl _)]
  simp

theorem More.core {m'' : DiskM} {fs : List FileM} {t : Str → Prop} {cs : List ChM} (h : More m m' fs t cs) (hc : Core m' m'') (hw : Wf m'') : More m m'' fs t cs :=
  ⟨hw, by rw [hc.files, h.files], by rw [hc.kept, h.kept], by rw [hc.changes, h.changes], h.tch⟩

theorem More.others {fs : List FileM} {t : Str → Prop} {cs : List ChM} (hm : Firm m) (h : More m m' fs t cs) : Others m m' t := by
  intro s hs ht n wb
  have hf : findN (m'.atN n) s = findN m.now s := by
    unfold DiskM.atN
    rw [h.changes, h.kept]
    have h1 := h.wf.kept
    have h2 := h.wf.chs
    rw [h.kept] at h1 h2
    rw [h.changes] at h2
    exact fold_find (rightN_ne hs) ht h1 (h2.take _) (h.tch.take _)
  cases e : findN m.now s with
  | none => rw [cont_none e]; exact see_none h.wf (hf.trans e)
  | some i =>
    have hi := hm.wf.find_lt e
    rw [cont_some e, see_kept h.wf (hf.trans e) (by rw [h.fileAt hi]; exact hm.all s i e), h.fileAt hi]

theorem firm_more (hm : Firm m) : More m m [] (fun _ => False) [] := ⟨hm.wf, by simp, hm.kept, hm.ch, fun c hc => by cases hc⟩

theorem More.mono {fs : List FileM} {t t' : Str → Prop} {cs : List ChM} (h : More m m' fs t cs) (ht : ∀ s, t s → t' s) : More m m' fs t' cs :=
  ⟨h.wf, h.files, h.kept, h.changes, fun c hc => ⟨(h.tch c hc).1.imp id (ht _), (h.tch c hc).2.imp id (ht _)⟩⟩

/-- names as they are put: the file that was on the way -/
def tn (name : Str) (s : Str) : Prop := s = tmpS ∨ s = name
def tt (s : Str) : Prop := s = tmpS

/-- the name is as it was, or as it is put; all others are as they were -/
structure AtOnce (m : DiskM) (name x : Str) (m' : DiskM) : Prop where
  others : Others m m' (tn name)
  name : ∀ n wb, see m' n wb name = cont m name ∨ see m' n wb name = (x, 0)

theorem AtOnce.core {m'' : DiskM} (h : AtOnce m name x m') (hc : Core m' m'') : AtOnce m name x m'' :=
  ⟨fun s hs ht n wb => by rw [hc.see]; exact h.others s hs ht n wb, fun n wb => by rw [hc.see]; exact h.name n wb⟩

theorem More.atOnce {fs : List FileM} {cs : List ChM} (hm : Firm m) (hn : rightP name) (h : More m m' fs tt cs) : AtOnce m name x m' := by
  have ho := h.others hm
  refine ⟨fun s hs ht n wb => ho s hs (fun e => ht (.inl e)) n wb, fun n wb => .inl (ho name hn.2 hn.1 n wb)⟩

/-- the file on the way -/
structure OnWay (m m' : DiskM) (f : FileM) : Prop where
  cs : ∃ rm, More m m' [f] tt (rm ++ [⟨[], tmpS, m.files.length⟩])
  now : findN m'.now tmpS = some m.files.length

theorem OnWay.core {m'' : DiskM} {f : FileM} (h : OnWay m m' f) (hc : Core m' m'') (hw : Wf m'') : OnWay m m'' f := by
  obtain ⟨rm, h1⟩ := h.cs
  exact ⟨⟨rm, h1.core hc hw⟩, by rw [hc.now]; exact h.now⟩

theorem remove_tri (hm : Firm m) : Tri (fun m' => Wf m' ∧ Core m m') (fun m => m.remove tmpS) (fun m' => ∃ rm, More m m' [] tt rm) (fun m' => Wf m' ∧ Core m m') := by
  intro m' ⟨hw, hc⟩
  refine ⟨fun h0 => ?_, fun h0 => ⟨hw.remove _, hc.trans (remove_core h0)⟩⟩
  have hw2 := hw.remove tmpS
  obtain ⟨i, hi, e⟩ := remove_done h0
  refine ⟨[⟨tmpS, [], i⟩], hw2, ?_, ?_, ?_, ?_⟩
  · rw [e]
    show m'.tick.files = _
    rw [tick_files, hc.files]; simp
  · rw [e]
    show m'.tick.kept = _
    rw [tick_kept, hc.kept, hm.kept]
  · rw [e]
    show m'.tick.changes ++ _ = _
    rw [tick_changes, hc.changes, hm.ch]; rfl
  · intro c hc
    rw [List.mem_singleton] at hc
    subst hc
    exact ⟨.inr rfl, .inl rfl⟩

theorem create_tri (hm : Firm m) : Tri (fun m' => ∃ rm, More m m' [] tt rm) (fun m => m.create tmpS) (fun m' => OnWay m m' ⟨[], 0⟩) (fun m' => ∃ rm, More m m' [] tt rm) := by
  rintro m' ⟨rm, h⟩
  refine ⟨fun h0 => ?_, fun h0 => ⟨rm, h.core (create_core h0) (h.wf.create _)⟩⟩
  have hw2 := h.wf.create tmpS
  obtain ⟨hr, hf, e⟩ := create_done h0
  have hfl : m'.files.length = m.files.length := by rw [h.files]; simp
  refine ⟨⟨rm, hw2, ?_, ?_, ?_, ?_⟩, ?_⟩
  · rw [e]
    show m'.files ++ _ = _
    rw [h.files]; simp
  · rw [e]
    show m'.tick.kept = _
    rw [tick_kept, h.kept]
  · rw [e]
    show m'.tick.changes ++ [⟨[], tmpS, m'.files.length⟩] = _
    rw [tick_changes, h.changes, hfl]
  · intro c hc
    rcases List.mem_append.1 hc with hc | hc
    · exact h.tch c hc
    · rw [List.mem_singleton] at hc
      subst hc
      exact ⟨.inl rfl, .inr rfl⟩
  · rw [e]
    show findN (chg m'.tick.now ⟨[], tmpS, m'.files.length⟩) tmpS = _
    rw [tick_now, findN_chg h.wf.nowOK.nodup, if_pos ⟨(by show tmpS ≠ []; decide), rfl⟩, hfl]

theorem append_tri (hm : Firm m) (f : FileM) (c : Str) : Tri (fun m' => OnWay m m' f) (fun m => m.append tmpS c) (fun m' => OnWay m m' ⟨f.b ++ c, f.kept⟩) (fun m' => OnWay m m' f) := by
  intro m' h
  obtain ⟨rm, h1⟩ := h.cs
  refine ⟨fun h0 => ?_, fun h0 => h.core (append_core h0) (h1.wf.append _ _)⟩
  have hw2 := h1.wf.append tmpS c
  obtain ⟨i, hi, e⟩ := append_done h0
  rw [h.now] at hi
  cases hi
  refine ⟨⟨rm, hw2, ?_, ?_, ?_, h1.tch⟩, ?_⟩
  · rw [e]
    show m'.files.set m.files.length _ = _
    rw [h1.fileNew, h1.files, List.set_append, if_neg (Nat.lt_irrefl _), Nat.sub_self]
    rfl
  · rw [e]
    show m'.tick.kept = _
    rw [tick_kept, h1.kept]
  · rw [e]
    show m'.tick.changes = _
    rw [tick_changes, h1.changes]
  · rw [e]
    show findN m'.tick.now tmpS = _
    rw [tick_now, h.now]

theorem fill_tri (hm : Firm m) : ∀ (cs : List Str) (f : FileM), Tri (fun m' => OnWay m m' f) (fillM cs) (fun m' => OnWay m m' ⟨f.b ++ cs.flatten, f.kept⟩) (fun m' => ∃ g, OnWay m m' g)
  | [], f => fun m' h => ⟨fun _ => by rw [List.flatten_nil, List.append_nil]; exact h, fun h => absurd rfl h⟩
  | c :: cs, f => by
    have h1 := append_tri hm f c
    have h2 := fill_tri hm cs ⟨f.b ++ c, f.kept⟩
    rw [List.flatten_cons, ← List.append_assoc]
    exact Tri.cons (f := fun m => m.append tmpS c) (r := cs.map fun c m => m.append tmpS c) (fun m' h => ⟨(h1 m' h).1, fun he => ⟨f, (h1 m' h).2 he⟩⟩) h2

theorem sync_tri (hm : Firm m) (f : FileM) : Tri (fun m' => OnWay m m' f) (fun m => m.sync tmpS) (fun m' => OnWay m m' ⟨f.b, f.b.length⟩) (fun m' => OnWay m m' f) := by
  intro m' h
  obtain ⟨rm, h1⟩ := h.cs
  refine ⟨fun h0 => ?_, fun h0 => h.core (sync_core h0) (h1.wf.sync _)⟩
  have hw2 := h1.wf.sync tmpS
  obtain ⟨i, hi, e⟩ := sync_done h0
  rw [h.now] at hi
  cases hi
  refine ⟨⟨rm, hw2, ?_, ?_, ?_, h1.tch⟩, ?_⟩
  · rw [e]
    show m'.files.set m.files.length _ = _
    rw [h1.fileNew, h1.files, List.set_append, if_neg (Nat.lt_irrefl _), Nat.sub_self]
    rfl
  · rw [e]
    show m'.tick.kept = _
    rw [tick_kept, h1.kept]
  · rw [e]
    show m'.tick.changes = _
    rw [tick_changes, h1.changes]
  · rw [e]
    show findN m'.tick.now tmpS = _
    rw [tick_now, h.now]

/-- the file has its name: not for good yet -/
structure Named (m : DiskM) (name x : Str) (m' : DiskM) : Prop where
  cs : ∃ cs0, More m m' [⟨x, x.length⟩] (tn name) (cs0 ++ [⟨tmpS, name, m.files.length⟩]) ∧ Tch tt cs0
  now : findN m'.now name = some m.files.length
  oth : ∀ s, rightN s → ¬ tn name s → findN m'.now s = findN m.now s

theorem Named.core {m'' : DiskM} (h : Named m name x m') (hc : Core m' m'') (hw : Wf m'') : Named m name x m'' := by
  obtain ⟨cs0, h1, h2⟩ := h.cs
  exact ⟨⟨cs0, h1.core hc hw, h2⟩, by rw [hc.now]; exact h.now, fun s hs ht => by rw [hc.now]; exact h.oth s hs ht⟩

theorem Named.atOnce (hm : Firm m) (hn : rightP name) (h : Named m name x m') : AtOnce m name x m' := by
  obtain ⟨cs0, h1, h2⟩ := h.cs
  refine ⟨h1.others hm, fun n wb => ?_⟩
  have hk := h1.wf.kept
  have hch := h1.wf.chs
  rw [h1.kept] at hk hch
  rw [h1.changes] at hch
  by_cases hle : n.toNat ≤ cs0.length
  · have hf : findN (m'.atN n) name = findN m.now name := by
      unfold DiskM.atN
      rw [h1.changes, h1.kept, List.take_append_of_le_length hle]
      have hc2 := hch.take n.toNat
      rw [List.take_append_of_le_length hle] at hc2
      exact fold_find (t := tt) (rightN_ne hn.2) hn.1 hk hc2 (h2.take _)
    left
    cases e : findN m.now name with
    | none => rw [cont_none e]; exact see_none h1.wf (hf.trans e)
    | some i =>
      have hi := hm.wf.find_lt e
      rw [cont_some e, see_kept h1.wf (hf.trans e) (by rw [h1.fileAt hi]; exact hm.all name i e), h1.fileAt hi]
  · have hf : findN (m'.atN n) name = some m.files.length := by
      have e2 : m'.atN n = m'.now := by
        rw [h1.wf.now]
        unfold DiskM.atN
        rw [h1.changes, List.take_of_length_le (by simp; omega)]
      rw [e2]
      exact h.now
    right
    rw [see_kept h1.wf hf (by rw [h1.fileNew]), h1.fileNew]

theorem rename_tri (hm : Firm m) (hn : rightP name) : Tri (fun m' => OnWay m m' ⟨x, x.length⟩) (fun m => m.rename tmpS name) (Named m name x) (fun m' => OnWay m m' ⟨x, x.length⟩) := by
  intro m' h
  obtain ⟨rm, h1⟩ := h.cs
  refine ⟨fun h0 => ?_, fun h0 => h.core (rename_core h0) (h1.wf.rename _ _)⟩
  have hw2 := h1.wf.rename tmpS name
  obtain ⟨i, hi, hr, e⟩ := rename_done h0
  rw [h.now] at hi
  cases hi
  have hk := h1.wf.kept
  have hch := h1.wf.chs
  rw [h1.kept] at hk hch
  rw [h1.changes] at hch
  have hne : name ≠ [] := rightN_ne hn.2
  refine ⟨⟨rm ++ [⟨[], tmpS, m.files.length⟩], ⟨hw2, ?_, ?_, ?_, ?_⟩, h1.tch⟩, ?_, fun s hs ht => ?_⟩
  · rw [e]
    show m'.tick.files = _
    rw [tick_files, h1.files]
  · rw [e]
    show m'.tick.kept = _
    rw [tick_kept, h1.kept]
  · rw [e]
    show m'.tick.changes ++ _ = _
    rw [tick_changes, h1.changes]
  · intro c hc
    rcases List.mem_append.1 hc with hc | hc
    · exact ⟨(h1.tch c hc).1.imp id .inl, (h1.tch c hc).2.imp id .inl⟩
    · rw [List.mem_singleton] at hc
      subst hc
      exact ⟨.inr (.inl rfl), .inr (.inr rfl)⟩
  · rw [e]
    show findN (chg m'.tick.now ⟨tmpS, name, m.files.length⟩) name = _
    rw [tick_now, findN_chg h1.wf.nowOK.nodup, if_pos ⟨hne, rfl⟩]
  · rw [e]
    show findN (chg m'.tick.now ⟨tmpS, name, m.files.length⟩) s = _
    have hs1 : ¬ s = tmpS := fun e => ht (.inl e)
    have hs2 : ¬ s = name := fun e => ht (.inr e)
    rw [tick_now, findN_chg h1.wf.nowOK.nodup, if_neg (fun h => hs2 h.2), if_neg hs1, h1.wf.now, h1.changes, h1.kept]
    exact fold_find (t := tt) (rightN_ne hs) hs1 hk hch h1.tch

/-- it has its name for good -/
structure Put (m : DiskM) (name x : Str) (m' : DiskM) : Prop where
  firm : Firm m'
  is : cont m' name = (x, 0)
  others : ∀ s, rightN s → ¬ tn name s → cont m' s = cont m s
  tmp : findN m'.now tmpS = none

theorem Put.atOnce (h : Put m name x m') : AtOnce m name x m' :=
  ⟨fun s hs ht n wb => by rw [h.firm.see]; exact h.others s hs ht, fun n wb => .inr (by rw [h.firm.see]; exact h.is)⟩

/-- all files that there were, and the new one, are kept -/
theorem syncNames_tri (hm : Firm m) (hn : rightP name) : Tri (Named m name x) (fun m => m.syncNames) (Put m name x) (Named m name x) := by
  intro m' h
  obtain ⟨cs0, h1, h2⟩ := h.cs
  refine ⟨fun h0 => ?_, fun h0 => h.core (syncNames_core h0) h1.wf.syncNames⟩
  have hw2 := h1.wf.syncNames
  have e := syncNames_done h0
  have hfa : ∀ i, (m'.syncNames).1.fileAt i = m'.fileAt i := fun i => by rw [e]; unfold DiskM.fileAt; show m'.tick.files.getD _ _ = _; rw [tick_files]
  have hno : (m'.syncNames).1.now = m'.now := by rw [e]; show m'.tick.now = _; rw [tick_now]
  have hnt : findN m'.now tmpS = none := by
    have hk := h1.wf.kept
    have e2 : m'.now = chg ((cs0).foldl chg m'.kept) ⟨tmpS, name, m.files.length⟩ := by
      rw [h1.wf.now, h1.changes, List.foldl_append]; rfl
    have hch := h1.wf.chs
    rw [h1.changes] at hch
    have hch2 := hch.take cs0.length
    rw [List.take_left] at hch2
    rw [e2, findN_chg (hch2.names h1.wf.kept).nodup, if_neg (fun h => hn.1 h.2.symm), if_pos rfl]
  have hsee : ∀ s, rightN s → ¬ tn name s → findN m'.now s = findN m.now s := h.oth
  refine ⟨⟨hw2, by rw [e], fun s i hi => ?_⟩, ?_, fun s hs ht => ?_, by rw [hno]; exact hnt⟩
  · rw [hno] at hi
    rw [hfa]
    by_cases hs : tn name s
    · rcases hs with rfl | rfl
      · rw [hnt] at hi; cases hi
      · rw [h.now] at hi
        cases hi
        rw [h1.fileNew]
    · have hsr : rightN s := h1.wf.right_of hi
      rw [hsee s hsr hs] at hi
      rw [h1.fileAt (hm.wf.find_lt hi)]
      exact hm.all s i hi
  · have : findN (m'.syncNames).1.now name = some m.files.length := by rw [hno]; exact h.now
    rw [cont_some this, hfa, h1.fileNew]
  · have h3 := hsee s hs ht
    cases e4 : findN m.now s with
    | none => rw [cont_none e4, cont_none (by rw [hno, h3, e4])]
    | some i => rw [cont_some e4, cont_some (i := i) (by rw [hno, h3, e4]), hfa, h1.fileAt (hm.wf.find_lt e4)]

theorem OnWay.atOnce {f : FileM} (hm : Firm m) (hn : rightP name) (h : OnWay m m' f) : AtOnce m name x m' := by
  obtain ⟨rm, h1⟩ := h.cs
  exact h1.atOnce hm hn

theorem Tri.weaken {A B E E' : DiskM → Prop} {f : DiskM → DiskM × Int} (h : Tri A f B E) (hi : ∀ m, E m → E' m) : Tri A f B E' := fun m hm => ⟨(h m hm).1, fun h0 => hi _ ((h m hm).2 h0)⟩

/-- a file is put: for good where that is told; else it is as it was, or as it is put, whatever crash comes -/
theorem put_tri (hm : Firm m) (hn : rightP name) : Tri (fun m' => ∃ rm, More m m' [] tt rm) (runAll (putSteps name x)) (Put m name x) (AtOnce m name x) := by
  have hfl : (⟨([] : Str) ++ (chunks x).flatten, 0⟩ : FileM) = ⟨x, 0⟩ := by rw [chunks_flat x.length x (Nat.le_refl _)]; rfl
  have hf := fill_tri hm (chunks x) ⟨[], 0⟩
  rw [hfl] at hf
  unfold putSteps
  refine Tri.cons ((create_tri hm).weaken fun m' ⟨rm, h⟩ => h.atOnce hm hn) ?_
  refine Tri.cons (hf.weaken fun m' ⟨g, h⟩ => h.atOnce hm hn) ?_
  refine Tri.cons ((sync_tri hm ⟨x, 0⟩).weaken fun m' h => h.atOnce hm hn) ?_
  refine Tri.cons ((rename_tri (x := x) hm hn).weaken fun m' h => h.atOnce hm hn) ?_
  refine Tri.cons ((syncNames_tri (x := x) hm hn).weaken fun m' h => h.atOnce hm hn) ?_
  exact Tri.nil

theorem put_safe (hm : Firm m) (hc : Core m m') (hw : Wf m') : ((putP m' name x).2 = 0 → Put m name x (putP m' name x).1) ∧ AtOnce m name x (putP m' name x).1 := by
  have h0 : AtOnce m name x m' := by
    refine AtOnce.core ⟨fun s hs ht n wb => hm.see, fun n wb => .inl hm.see⟩ hc
  unfold putP
  by_cases hn : rightP name
  · rw [if_neg (by intro h; exact h hn)]
    by_cases hr : (m'.remove tmpS).2 ≠ 0 ∧ (m'.remove tmpS).2 ≠ 2
    · rw [if_pos hr]
      exact ⟨fun h => absurd h hr.1, h0.core (remove_core hr.1)⟩
    · rw [if_neg hr]
      have h1 : ∃ rm, More m (m'.remove tmpS).1 [] tt rm := by
        by_cases hr0 : (m'.remove tmpS).2 = 0
        · exact (remove_tri hm m' ⟨hw, hc⟩).1 hr0
        · exact ⟨[], ((firm_more hm).core (hc.trans (remove_core hr0)) (hw.remove _)).mono fun s h => h.elim⟩
      have h2 := put_tri (x := x) hm hn _ h1
      refine ⟨h2.1, ?_⟩
      by_cases h3 : (runAll (putSteps name x) (m'.remove tmpS).1).2 = 0
      · exact (h2.1 h3).atOnce
      · exact h2.2 h3
  · rw [if_pos hn]
    exact ⟨fun h => absurd h (by simp), h0⟩

end DiskM
end Go.Proofs.Ytocmjngleknlbaa.K

/-
  Bytes put behind a file's, files let go of: what is there behind a crash.
-/
namespace Go.Proofs.Ytocmjngleknlbaa.K
namespace DiskM
variable {m m' : DiskM} {n : Int} {wb : List Int} {s t b name x old : Str} {i : Nat}

/-- all names are kept; a name's file -/
structure Solid (m' : DiskM) (name : Str) (f : FileM) : Prop where
  wf : Wf m'
  ch : m'.changes = []
  at_ : ∃ i, findN m'.now name = some i ∧ m'.fileAt i = f

theorem Solid.see {f : FileM} (h : Solid m' name f) : ∃ k, f.kept ≤ k ∧ k ≤ f.b.length ∧ see m' n wb name = (f.b.take k, 0) := by
  obtain ⟨i, h1, h2⟩ := h.at_
  have e : m'.atN n = m'.now := by
    rw [h.wf.now]
    unfold DiskM.atN
    rw [h.ch]
    simp
  have := see_some (n := n) (wb := wb) h.wf (by rw [e]; exact h1)
  rwa [h2] at this

theorem Solid.core {m'' : DiskM} {f : FileM} (h : Solid m' name f) (hc : Core m' m'') (hw : Wf m'') : Solid m'' name f := by
  obtain ⟨i, h1, h2⟩ := h.at_
  exact ⟨hw, by rw [hc.changes]; exact h.ch, i, by rw [hc.now]; exact h1, by rw [hc.fileAt]; exact h2⟩

/-- what it had, and a beginning of what is put behind it -/
def GrowSafe (old : Str) (name x : Str) (m' : DiskM) : Prop := ∀ n wb, ∃ k, k ≤ x.length ∧ (see m' n wb name).1 = old ++ x.take k ∧ ((see m' n wb name).2 = 0 ∨ (see m' n wb name).2 = 2)

theorem Solid.safe {f : FileM} (h : Solid m' name f) (hb : f.b = old ++ x) (hk : old.length ≤ f.kept) : GrowSafe old name x m' := by
  intro n wb
  obtain ⟨k, h1, h2, h3⟩ := h.see (n := n) (wb := wb)
  rw [hb, List.length_append] at h2
  refine ⟨k - old.length, by omega, ?_, .inl (by rw [h3])⟩
  rw [h3, hb]
  dsimp only
  rw [List.take_append, List.take_of_length_le (by omega)]

theorem Solid.safe0 {f : FileM} (h : Solid m' name f) (hb : f.b = old) (hk : old.length ≤ f.kept) : GrowSafe old name x m' := by
  intro n wb
  obtain ⟨k, h1, h2, h3⟩ := h.see (n := n) (wb := wb)
  rw [hb] at h2
  refine ⟨0, by omega, ?_, .inl (by rw [h3])⟩
  rw [h3, hb]
  dsimp only
  rw [List.take_of_length_le (by omega), List.take_zero, List.append_nil]

theorem firm_safe (hm : Firm m) (hc : Core m m') : GrowSafe (cont m name).1 name x m' := by
  intro n wb
  refine ⟨0, by omega, ?_, ?_⟩
  · rw [hc.see, hm.see, List.take_zero, List.append_nil]
  · rw [hc.see, hm.see]
    unfold cont
    cases findN m.now name <;> simp

theorem made_tri (hm : Firm m) : Tri (fun m' => Wf m' ∧ Core m m') (madeM name) (fun m' => Solid m' name ⟨(cont m name).1, (cont m name).1.length⟩) (GrowSafe (cont m name).1 name x) := by
  rintro m' ⟨hw, hc⟩
  have hw1 := hw.create name
  unfold madeM
  by_cases h0 : (m'.create name).2 = 0
  · rw [if_pos h0]
    obtain ⟨hr, hf, e⟩ := create_done h0
    have hfm : findN m.now name = none := by rw [← hc.now]; exact hf
    have hold : (cont m name).1 = [] := by rw [cont_none hfm]
    have hfl : m'.files.length = m.files.length := by rw [hc.files]
    have hnow : (m'.create name).1.now = chg m.now ⟨[], name, m.files.length⟩ := by
      rw [e]
      show chg m'.tick.now ⟨[], name, m'.files.length⟩ = _
      rw [tick_now, hc.now, hfl]
    have hch : (m'.create name).1.changes = [⟨[], name, m.files.length⟩] := by
      rw [e]
      show m'.tick.changes ++ [⟨[], name, m'.files.length⟩] = _
      rw [tick_changes, hc.changes, hm.ch, hfl]; rfl
    have hkp : (m'.create name).1.kept = m.now := by
      rw [e]
      show m'.tick.kept = _
      rw [tick_kept, hc.kept, hm.kept]
    have hfi : findN (m'.create name).1.now name = some m.files.length := by
      rw [hnow, findN_chg hm.wf.nowOK.nodup, if_pos ⟨rightN_ne hr, rfl⟩]
    have hfa : (m'.create name).1.fileAt m.files.length = ⟨[], 0⟩ := by
      rw [e]
      unfold DiskM.fileAt
      show (m'.files ++ [(⟨[], 0⟩ : FileM)]).getD _ _ = _
      rw [List.getD_eq_getElem?_getD, List.getElem?_append_right (by omega), hfl]
      simp
    by_cases h1 : (m'.create name).1.syncNames.2 = 0
    · refine ⟨fun _ => ?_, fun h => absurd h1 h⟩
      have e1 := syncNames_done h1
      refine ⟨hw1.syncNames, by rw [e1], m.files.length, ?_, ?_⟩
      · rw [e1]
        show findN (m'.create name).1.tick.now name = _
        rw [tick_now]; exact hfi
      · rw [e1, hold]
        unfold DiskM.fileAt
        show (m'.create name).1.tick.files.getD _ _ = _
        rw [tick_files]
        exact hfa
    · refine ⟨fun h => absurd h h1, fun _ => ?_⟩
      intro n wb
      refine ⟨0, by omega, ?_⟩
      rw [(syncNames_core h1).see, hold, List.take_zero, List.append_nil]
      by_cases hn : n.toNat = 0
      · have ea : findN ((m'.create name).1.atN n) name = none := by
          unfold DiskM.atN
          rw [hch, hkp, hn]
          exact hfm
        rw [see_none hw1 ea]
        exact ⟨rfl, .inr rfl⟩
      · have ea : findN ((m'.create name).1.atN n) name = some m.files.length := by
          rw [← hfi, hw1.now]
          unfold DiskM.atN
          rw [hch, List.take_of_length_le (by simp; omega)]
        obtain ⟨k, h2, h3, h4⟩ := see_some (wb := wb) hw1 ea
        rw [h4, hfa]
        exact ⟨by simp, .inl rfl⟩
  · rw [if_neg h0]
    have hc1 := hc.trans (create_core h0)
    by_cases h4 : (m'.create name).2 = 4
    · rw [if_pos h4]
      refine ⟨fun _ => ?_, fun h => absurd rfl h⟩
      have hf : ∃ i, findN m.now name = some i := by
        cases hu : m'.up with
        | false => rw [create_down hu] at h4; exact absurd h4 (by simp)
        | true =>
          by_cases hs : rightN name
          · cases hf : findN m'.now name with
            | none => rw [create_new hu hs hf] at h4; exact absurd h4 (by simp)
            | some i => exact ⟨i, by rw [← hc.now]; exact hf⟩
          · rw [create_arg hu hs] at h4; exact absurd h4 (by simp)
      obtain ⟨i, hf⟩ := hf
      have hk := hm.all name i hf
      refine Solid.core ⟨hm.wf, hm.ch, i, hf, ?_⟩ hc1 hw1
      rw [cont_some hf]
      show m.fileAt i = ⟨(m.fileAt i).b, (m.fileAt i).b.length⟩
      rw [← hk]
    · rw [if_neg h4]
      exact ⟨fun h => absurd h h0, fun _ => firm_safe hm hc1⟩

theorem appendS_tri (f : FileM) (c : Str) : Tri (fun m' => Solid m' name f) (fun m => m.append name c) (fun m' => Solid m' name ⟨f.b ++ c, f.kept⟩) (fun m' => Solid m' name f) := by
  intro m' h
  obtain ⟨i, h1, h2⟩ := h.at_
  refine ⟨fun h0 => ?_, fun h0 => h.core (append_core h0) (h.wf.append _ _)⟩
  have hw2 := h.wf.append name c
  obtain ⟨j, hj, e⟩ := append_done h0
  rw [h1] at hj
  cases hj
  have hil := h.wf.find_lt h1
  refine ⟨hw2, ?_, i, ?_, ?_⟩
  · rw [e]
    show m'.tick.changes = _
    rw [tick_changes, h.ch]
  · rw [e]
    show findN m'.tick.now name = _
    rw [tick_now, h1]
  · rw [e]
    unfold DiskM.fileAt
    show (m'.files.set i _).getD i _ = _
    rw [List.getD_eq_getElem?_getD, List.getElem?_set, if_pos rfl, if_pos hil, ← h2]
    rfl

theorem syncS_tri (f : FileM) : Tri (fun m' => Solid m' name f) (fun m => m.sync name) (fun m' => Solid m' name ⟨f.b, f.b.length⟩) (fun m' => Solid m' name f) := by
  intro m' h
  obtain ⟨i, h1, h2⟩ := h.at_
  refine ⟨fun h0 => ?_, fun h0 => h.core (sync_core h0) (h.wf.sync _)⟩
  have hw2 := h.wf.sync name
  obtain ⟨j, hj, e⟩ := sync_done h0
  rw [h1] at hj
  cases hj
  have hil := h.wf.find_lt h1
  refine ⟨hw2, ?_, i, ?_, ?_⟩
  · rw [e]
    show m'.tick.changes = _
    rw [tick_changes, h.ch]
  · rw [e]
    show findN m'.tick.now name = _
    rw [tick_now, h1]
  · rw [e]
    unfold DiskM.fileAt
    show (m'.files.set i _).getD i _ = _
    rw [List.getD_eq_getElem?_getD, List.getElem?_set, if_pos rfl, if_pos hil, ← h2]
    rfl

/-- bytes are put behind a file's: for good where that is told -/
theorem grow_safe (hm : Firm m) (hc : Core m m') (hw : Wf m') :
    ((growM m' name x).2 = 0 → Solid (growM m' name x).1 name ⟨(cont m name).1 ++ x, ((cont m name).1 ++ x).length⟩) ∧ GrowSafe (cont m name).1 name x (growM m' name x).1 := by
  unfold growM
  by_cases hn : rightP name
  · rw [if_neg (by intro h; exact h hn)]
    have ht : Tri (fun m' => Wf m' ∧ Core m m') (runAll (growSteps name x)) (fun m' => Solid m' name ⟨(cont m name).1 ++ x, ((cont m name).1 ++ x).length⟩) (GrowSafe (cont m name).1 name x) := by
      unfold growSteps
      refine Tri.cons (made_tri hm) ?_
      refine Tri.cons ((appendS_tri ⟨(cont m name).1, (cont m name).1.length⟩ x).weaken fun m' h => h.safe0 rfl (Nat.le_refl _)) ?_
      refine Tri.cons ((syncS_tri ⟨(cont m name).1 ++ x, (cont m name).1.length⟩).weaken fun m' h => h.safe rfl (Nat.le_refl _)) ?_
      exact Tri.nil
    have h := ht m' ⟨hw, hc⟩
    refine ⟨h.1, ?_⟩
    by_cases h0 : (runAll (growSteps name x) m').2 = 0
    · exact (h.1 h0).safe rfl (by simp)
    · exact h.2 h0
  · rw [if_pos hn]
    exact ⟨fun h => absurd h (by simp), firm_safe hm hc⟩

/-! ### files let go of -/

theorem quiet_remove (hq : quiet m) : quiet (m.remove s).1 := by
  cases hf : findN m.now s with
  | none => rw [remove_none hq.up hf, hq.tick]; exact hq
  | some i => rw [remove_some hq.up hf, hq.tick]; exact hq

theorem dropF_quiet : ∀ (l : List Str) (b : Bool) (m' : DiskM), quiet m' → Wf m' → (∀ s i, findN m'.now s = some i → (m'.fileAt i).kept = (m'.fileAt i).b.length) → (b = false → m'.changes = []) →
    (dropF l b m').2 = 0 ∧ quiet (dropF l b m').1 ∧ Firm (dropF l b m').1 ∧ ∀ s, cont (dropF l b m').1 s = if s ∈ l then ([], 2) else cont m' s
  | [], b, m', hq, hw, ha, hb => by
    rw [dropF]
    cases b with
    | true =>
      rw [if_pos rfl, syncNames_up hq.up, hq.tick]
      refine ⟨rfl, hq, ⟨?_, rfl, ha⟩, fun s => ?_⟩
      · have := hw.synced; exact this
      · rw [if_neg (by simp)]; rfl
    | false =>
      rw [if_neg (by decide)]
      exact ⟨rfl, hq, ⟨hw, hb rfl, ha⟩, fun s => by rw [if_neg (by simp)]⟩
  | x :: l, b, m', hq, hw, ha, hb => by
    rw [dropF]
    cases hf : findN m'.now x with
    | none =>
      have e : m'.remove x = (m', 2) := by rw [remove_none hq.up hf, hq.tick]
      rw [e, if_neg (by simp), if_pos rfl]
      obtain ⟨h1, h2, h3, h4⟩ := dropF_quiet l b m' hq hw ha hb
      refine ⟨h1, h2, h3, fun s => ?_⟩
      rw [h4]
      by_cases hs : s = x
      · subst hs
        rw [cont_none hf]
        simp
      · simp [hs]
    | some i =>
      have e : m'.remove x = (m'.does ⟨x, [], i⟩, 0) := by rw [remove_some hq.up hf, hq.tick]
      have hw2 := hw.remove x
      rw [e] at hw2 ⊢
      rw [if_pos rfl]
      have hno : ∀ s, findN (m'.does ⟨x, [], i⟩).now s = if s = x then none else findN m'.now s := fun s => by
        show findN (chg m'.now ⟨x, [], i⟩) s = _
        rw [findN_chg hw.nowOK.nodup]
        simp
      obtain ⟨h1, h2, h3, h4⟩ := dropF_quiet l true (m'.does ⟨x, [], i⟩) hq hw2 (fun s j hj => by
        rw [hno] at hj
        split at hj
        · cases hj
        · exact ha s j hj) (fun h => by cases h)
      refine ⟨h1, h2, h3, fun s => ?_⟩
      rw [h4]
      by_cases hs : s = x
      · subst hs
        rw [cont_none (by rw [hno, if_pos rfl])]
        simp
      · have : cont (m'.does ⟨x, [], i⟩) s = cont m' s := by
          unfold cont
          rw [hno, if_neg hs]
          rfl
        rw [this]
        simp [hs]

end DiskM
end Go.Proofs.Ytocmjngleknlbaa.K
