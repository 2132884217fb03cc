/-
  The program's disk: how it lies in memory.
-/
import Derived.Test.YtocmjngleknlbaaDkM
import Derived.Test.YtocmjngleknlbaaEngP
import Derived.Test.YtocmjngleknlbaaDkT
namespace Go.Proofs.Ytocmjngleknlbaa.K
open Go Go.Proofs
variable {Γ Γ' : Mem} {L L' L'' : List HP} {w w' : World} {A B : HP}
set_option maxRecDepth 100000

/-! ### parts in a row -/

theorem Sat.consAll {M : List HP} : Sat Γ (HP.all (B :: M) :: L) w ↔ Sat Γ (B :: HP.all M :: L) w := by
  constructor
  · intro h
    have h1 : Sat Γ (B :: (M ++ L)) w := Sat.all.1 h
    obtain ⟨m, hs, h2, h3⟩ := h1
    exact ⟨m, hs.tail (L' := HP.all M :: L) (fun _ hm => hm.split), h2, h3⟩
  · rintro ⟨m, hs, h2, h3⟩
    have : Sat Γ ((B :: M) ++ L) w := ⟨m, Stars.tail (L := HP.all M :: L) (L' := M ++ L) (fun _ hm => Stars.append hm) hs, h2, h3⟩
    exact Sat.all.2 this

theorem Sat.allPick {M : List HP} {i : Nat} (h : Sat Γ (HP.all M :: L) w) (hi : M[i]? = some A) : Sat Γ (A :: HP.all (M.set i HP.emp) :: L) w := by
  induction M generalizing i L with
  | nil => simp at hi
  | cons B M ih =>
    have h1 := Sat.consAll.1 h
    cases i with
    | zero =>
      simp at hi
      subst hi
      have h2 := (h1.pick (.there .here)).emp
      have h3 : Sat Γ (HP.all (HP.emp :: M) :: B :: L) w := Sat.consAll.2 h2
      exact h3.pick (.there .here)
    | succ i =>
      have h2 := ih (L := B :: L) (h1.pick (.there .here)) (by simpa using hi)
      have h3 : Sat Γ (B :: HP.all (M.set i HP.emp) :: A :: L) w := by
        have h2' : Sat Γ (HP.all (M.set i HP.emp) :: A :: B :: L) w := h2.pick (.there .here)
        exact h2'.pick (.there (.there .here))
      have h4 : Sat Γ (HP.all (B :: M.set i HP.emp) :: A :: L) w := Sat.consAll.2 h3
      exact h4.pick (.there .here)

theorem Sat.allPut {M : List HP} {i : Nat} (h : Sat Γ (A :: HP.all (M.set i HP.emp) :: L) w) (hi : i < M.length) : Sat Γ (HP.all (M.set i A) :: L) w := by
  induction M generalizing i L with
  | nil => simp at hi
  | cons B M ih =>
    cases i with
    | zero =>
      have h1 : Sat Γ (HP.all (HP.emp :: M) :: A :: L) w := h.pick (.there .here)
      have h2 := (Sat.consAll.1 h1).drop
      have h3 := h2.pick (A := A) (.there .here)
      exact Sat.consAll.2 h3
    | succ i =>
      have h1 : Sat Γ (HP.all (B :: M.set i HP.emp) :: A :: L) w := h.pick (.there .here)
      have h2 := Sat.consAll.1 h1
      have h3 : Sat Γ (A :: HP.all (M.set i HP.emp) :: B :: L) w := by
        have a1 := h2.pick (A := HP.all (M.set i HP.emp)) (.there .here)
        exact a1.pick (A := A) (.there (.there .here))
      have h4 := ih (L := B :: L) h3 (by simpa using hi)
      exact Sat.consAll.2 (h4.pick (.there .here))

theorem Sat.allSnoc {M : List HP} (h : Sat Γ (A :: HP.all M :: L) w) : Sat Γ (HP.all (M ++ [A]) :: L) w := by
  induction M generalizing L with
  | nil =>
    have h1 : Sat Γ (A :: HP.all [] :: L) w := h
    exact Sat.consAll.2 h1
  | cons B M ih =>
    have h1 := Sat.consAll.1 (h.pick (.there .here))
    have h2 : Sat Γ (A :: HP.all M :: B :: L) w := by
      have a1 := h1.pick (A := HP.all M) (.there .here)
      exact a1.pick (A := A) (.there (.there .here))
    have h3 := ih (L := B :: L) h2
    exact Sat.consAll.2 (h3.pick (.there .here))

/-! ### the disk -/

abbrev TDisk : Nat := 61
abbrev TFile : Nat := 86
abbrev TChg : Nat := 81

def addrO (o : Option Nat) : Option Addr := o.map fun b => ⟨b, 0, none⟩

/-- a change, as it lies: names, the file -/
def eChg : Enc (Str × Str × Option Nat) := ⟨.agg [.str, .str, .ptr], fun _ y x => y.1 = str x.1 ∧ y.2.1 = str x.2.1 ∧ y.2.2 = addrO x.2.2, fun h _ => h, fun _ v hv => by
  simp [Sh.cells, ScsV] at hv
  rcases hv with rfl | rfl | rfl <;> rfl⟩

theorem eChg_after {Γ : Mem} {y : eChg.sh.T} {x : Str × Str × Option Nat} (h : eChg.r Γ y x) : y = (str x.1, str x.2.1, addrO x.2.2) := by
  obtain ⟨y1, y2, y3⟩ := y
  obtain ⟨h1, h2, h3⟩ := h
  exact Prod.ext h1 (Prod.ext h2 h3)

def fcells (s : Sl) (k : Nat) : Array Value := #[slv s, .int .i64 (k : Int)]
def fileHP (o : Option Nat) (f : FileM) : HP := match o with
  | none => HP.emp
  | some b => ⟨fun Γ m => ∃ s, Bytes Γ s f.b ∧ (blk b (.cells (fcells s f.kept) TFile (0, 0))).p Γ m, fun _ _ _ hl ⟨s, h1, h2⟩ => ⟨s, h1.mono hl, h2⟩⟩
def filesL (ps : List (Option Nat)) (fs : List FileM) : List HP := List.zipWith fileHP ps fs

/-- the file of a number -/
def at_ (ps : List (Option Nat)) (i : Nat) : Option Nat := ps.getD i none
def namesP (ps : List (Option Nat)) (l : List (Str × Nat)) : List (Str × Option Nat) := l.map fun p => (p.1, at_ ps p.2)
def chgP (ps : List (Option Nat)) (c : ChM) : Str × Str × Option Nat := (c.gone, c.new, if c.new = [] then none else at_ ps c.file)

def dcells (rn rk : Nat) (cs : Sl) (m : DiskM) : Array Value := #[.map (some rn), .map (some rk), slv cs, .int .i64 m.room, .bool m.down, .bool m.doomed, .int .i64 m.left]

/-- what is so of the places of files -/
structure PtrsOK (ps : List (Option Nat)) (m : DiskM) : Prop where
  len : ps.length = m.files.length
  now : ∀ p ∈ m.now, (at_ ps p.2).isSome = true
  kept : ∀ p ∈ m.kept, (at_ ps p.2).isSome = true
  chs : ∀ c ∈ m.changes, c.new ≠ [] → (at_ ps c.file).isSome = true
  wf : Wf m

/-- the disk's parts -/
abbrev dlay (a rn rk : Nat) (cs : Sl) (ln lk : List (Str × Option Nat)) (ps : List (Option Nat)) (m : DiskM) (M : List HP) (L : List HP) : List HP :=
  blk a (.cells (dcells rn rk cs m) TDisk (0, 0)) :: MapR ekS ekP rn ln :: MapR ekS ekP rk lk :: OL eChg TChg cs (m.changes.map (chgP ps)) :: HP.all M :: L

/-- the disk, its files at these places; the files' parts M -/
def PDg (a : Nat) (ps : List (Option Nat)) (m : DiskM) (M : List HP) : HP :=
  ⟨fun Γ h => ∃ (rn rk : Nat) (cs : Sl) (ln lk : List (Str × Option Nat)), (PtrsOK ps m ∧ ln.Perm (namesP ps m.now) ∧ lk.Perm (namesP ps m.kept)) ∧ (HP.all (dlay a rn rk cs ln lk ps m M [])).p Γ h,
    fun _ _ _ hl ⟨rn, rk, cs, ln, lk, h1, h2⟩ => ⟨rn, rk, cs, ln, lk, h1, HP.mono _ _ _ _ hl h2⟩⟩
def PDp (a : Nat) (ps : List (Option Nat)) (m : DiskM) : HP := PDg a ps m (filesL ps m.files)
def PDisk (a : Nat) (m : DiskM) : HP := HP.ex fun ps => PDp a ps m

theorem Sat.pdg {a : Nat} {ps : List (Option Nat)} {m : DiskM} {M : List HP} (h : Sat Γ (PDg a ps m M :: L) w) : ∃ rn rk cs ln lk, PtrsOK ps m ∧ ln.Perm (namesP ps m.now) ∧ lk.Perm (namesP ps m.kept) ∧ Sat Γ (dlay a rn rk cs ln lk ps m M L) w := by
  obtain ⟨m, ⟨m1, m2, ha, he, ⟨rn, rk, cs, ln, lk, ⟨h1, h2, h3⟩, h5⟩, hL⟩, hm, hw⟩ := h
  exact ⟨rn, rk, cs, ln, lk, h1, h2, h3, Sat.all.1 ⟨m, ⟨m1, m2, ha, he, h5, hL⟩, hm, hw⟩⟩

theorem Sat.toPdg {a rn rk : Nat} {cs : Sl} {ln lk : List (Str × Option Nat)} {ps : List (Option Nat)} {m : DiskM} {M : List HP} (h : Sat Γ (dlay a rn rk cs ln lk ps m M L) w) (h1 : PtrsOK ps m) (h2 : ln.Perm (namesP ps m.now)) (h3 : lk.Perm (namesP ps m.kept)) :
    Sat Γ (PDg a ps m M :: L) w := by
  have h5 : Sat Γ (HP.all (dlay a rn rk cs ln lk ps m M []) :: L) w := Sat.all.2 h
  exact h5.weaken fun _ hm => ⟨rn, rk, cs, ln, lk, ⟨h1, h2, h3⟩, hm⟩

theorem Sat.pd {a : Nat} {m : DiskM} (h : Sat Γ (PDisk a m :: L) w) : ∃ ps, Sat Γ (PDp a ps m :: L) w := Sat.ex.1 h
theorem Sat.toPd {a : Nat} {ps : List (Option Nat)} {m : DiskM} (h : Sat Γ (PDp a ps m :: L) w) : Sat Γ (PDisk a m :: L) w := Sat.ex.2 ⟨ps, h⟩

theorem Sat.pdOK {a : Nat} {ps : List (Option Nat)} {m : DiskM} {M : List HP} (h : Sat Γ (PDg a ps m M :: L) w) : PtrsOK ps m := by
  obtain ⟨_, _, _, _, _, h1, _⟩ := h.pdg
  exact h1

theorem filesL_at {ps : List (Option Nat)} {fs : List FileM} {i b : Nat} {f : FileM} (hp : at_ ps i = some b) (hf : fs[i]? = some f) : (filesL ps fs)[i]? = some (fileHP (some b) f) := by
  unfold at_ at hp
  rw [List.getD_eq_getElem?_getD] at hp
  unfold filesL
  rw [List.getElem?_zipWith, hf]
  cases hq : ps[i]? with
  | none => rw [hq] at hp; cases hp
  | some o => rw [hq] at hp; cases hp; rfl

theorem fileHP_open {b : Nat} {f : FileM} (h : Sat Γ (fileHP (some b) f :: L) w) : ∃ s, Bytes Γ s f.b ∧ Sat Γ (blk b (.cells (fcells s f.kept) TFile (0, 0)) :: L) w := by
  obtain ⟨m, ⟨m1, m2, ha, he, ⟨s, h1, h2⟩, hL⟩, hm, hw⟩ := h
  exact ⟨s, h1, m, ⟨m1, m2, ha, he, h2, hL⟩, hm, hw⟩

theorem fileHP_shut {b : Nat} {f : FileM} {s : Sl} (h : Sat Γ (blk b (.cells (fcells s f.kept) TFile (0, 0)) :: L) w) (hs : Bytes Γ s f.b) : Sat Γ (fileHP (some b) f :: L) w :=
  h.weaken fun _ hm => ⟨s, hs, hm⟩

theorem filesL_set (ps : List (Option Nat)) (fs : List FileM) (i b : Nat) (f : FileM) (hp : at_ ps i = some b) : filesL ps (fs.set i f) = (filesL ps fs).set i (fileHP (some b) f) := by
  unfold at_ at hp
  rw [List.getD_eq_getElem?_getD] at hp
  unfold filesL
  apply List.ext_getElem?
  intro j
  simp only [List.getElem?_zipWith, List.getElem?_set]
  by_cases hij : i = j
  · subst hij
    simp only [if_true]
    cases hq : ps[i]? with
    | none => rw [hq] at hp; cases hp
    | some o =>
      rw [hq] at hp
      cases hp
      have hl := (List.getElem?_eq_some_iff.1 hq).1
      by_cases hi : i < fs.length
      · simp [hi, hl, List.length_zipWith]; omega
      · simp [hi, List.length_zipWith]; omega
  · simp only [if_neg hij]

/-- a file of the disk, taken out -/
theorem Sat.fileOut {a b i : Nat} {ps : List (Option Nat)} {m : DiskM} (h : Sat Γ (PDp a ps m :: L) w) (hp : at_ ps i = some b) (hi : i < m.files.length) :
    ∃ s, Bytes Γ s (m.fileAt i).b ∧ Sat Γ (blk b (.cells (fcells s (m.fileAt i).kept) TFile (0, 0)) :: PDg a ps m ((filesL ps m.files).set i HP.emp) :: L) w := by
  obtain ⟨rn, rk, cs, ln, lk, h1, h2, h3, h4⟩ := Sat.pdg h
  have hf : m.files[i]? = some (m.fileAt i) := by
    unfold DiskM.fileAt
    rw [List.getD_eq_getElem?_getD, List.getElem?_eq_getElem hi]
    rfl
  have h5 : Sat Γ (HP.all (filesL ps m.files) :: blk a (.cells (dcells rn rk cs m) TDisk (0, 0)) :: MapR ekS ekP rn ln :: MapR ekS ekP rk lk :: OL eChg TChg cs (m.changes.map (chgP ps)) :: L) w := h4.pick .n4
  obtain ⟨s, h6, h7⟩ := fileHP_open (h5.allPick (filesL_at hp hf))
  refine ⟨s, h6, ?_⟩
  have h8 : Sat Γ (dlay a rn rk cs ln lk ps m ((filesL ps m.files).set i HP.emp) (blk b (.cells (fcells s (m.fileAt i).kept) TFile (0, 0)) :: L)) w := by
    have a0 := h7.pick (A := OL eChg TChg cs (m.changes.map (chgP ps))) .n5
    have a1 := (h7.pick (A := HP.all ((filesL ps m.files).set i HP.emp)) .n1).pick (A := OL eChg TChg cs (m.changes.map (chgP ps))) .n5 |>.pick (A := MapR ekS ekP rk lk) .n5 |>.pick (A := MapR ekS ekP rn ln) .n5 |>.pick (A := blk a (.cells (dcells rn rk cs m) TDisk (0, 0))) .n5
    exact a1
  exact (h8.toPdg h1 h2 h3).pick .n1

/-- .. and put back, with other bytes -/
theorem Sat.fileIn {a b i : Nat} {ps : List (Option Nat)} {m : DiskM} {s : Sl} {f : FileM} {g : Nat} (h : Sat Γ (blk b (.cells (fcells s f.kept) TFile (0, 0)) :: PDg a ps m ((filesL ps m.files).set i HP.emp) :: L) w) (hs : Bytes Γ s f.b) (hp : at_ ps i = some b) (hi : i < m.files.length)
    (hw : Wf { m with files := m.files.set i f, g := g }) : Sat Γ (PDp a ps { m with files := m.files.set i f, g := g } :: L) w := by
  obtain ⟨rn, rk, cs, ln, lk, h1, h2, h3, h4⟩ := Sat.pdg (h.pick .n1)
  have h5 := (h4.pick (A := blk b (.cells (fcells s f.kept) TFile (0, 0))) .n5)
  have h6 := (fileHP_shut h5 hs).pick (A := HP.all ((filesL ps m.files).set i HP.emp)) .n5
  have h7 : Sat Γ (fileHP (some b) f :: HP.all ((filesL ps m.files).set i HP.emp) :: blk a (.cells (dcells rn rk cs m) TDisk (0, 0)) :: MapR ekS ekP rn ln :: MapR ekS ekP rk lk :: OL eChg TChg cs (m.changes.map (chgP ps)) :: L) w := h6.pick .n1
  have hl : i < (filesL ps m.files).length := by unfold filesL; rw [List.length_zipWith, h1.len]; omega
  have h8 := h7.allPut hl
  rw [← filesL_set ps m.files i b f hp] at h8
  have h9 : Sat Γ (dlay a rn rk cs ln lk ps { m with files := m.files.set i f, g := g } (filesL ps (m.files.set i f)) L) w := by
    exact h8.pick (A := OL eChg TChg cs (m.changes.map (chgP ps))) .n4 |>.pick (A := MapR ekS ekP rk lk) .n4 |>.pick (A := MapR ekS ekP rn ln) .n4 |>.pick (A := blk a (.cells (dcells rn rk cs m) TDisk (0, 0))) .n4
  exact h9.toPdg ⟨by simpa using h1.len, h1.now, h1.kept, h1.chs, hw⟩ h2 h3

/-- nothing of it was turned -/
theorem Sat.fileBack {a b i : Nat} {ps : List (Option Nat)} {m : DiskM} {s : Sl} (h : Sat Γ (blk b (.cells (fcells s (m.fileAt i).kept) TFile (0, 0)) :: PDg a ps m ((filesL ps m.files).set i HP.emp) :: L) w) (hs : Bytes Γ s (m.fileAt i).b) (hp : at_ ps i = some b) (hi : i < m.files.length) :
    Sat Γ (PDp a ps m :: L) w := by
  have e : m.files.set i (m.fileAt i) = m.files := by
    unfold DiskM.fileAt
    apply List.ext_getElem?
    intro j
    rw [List.getElem?_set]
    by_cases hij : i = j
    · subst hij; simp [hi]
    · rw [if_neg hij]
  have hw := (h.pick .n1).pdOK.wf
  have := Sat.fileIn (g := m.g) h hs hp hi (by rw [e]; exact hw)
  rw [e] at this
  exact this

theorem filesL_snoc (ps : List (Option Nat)) (fs : List FileM) (o : Option Nat) (f : FileM) (hl : ps.length = fs.length) : filesL (ps ++ [o]) (fs ++ [f]) = filesL ps fs ++ [fileHP o f] := by
  unfold filesL
  rw [List.zipWith_append hl]
  rfl

theorem at_snoc (ps : List (Option Nat)) (o : Option Nat) {i : Nat} (hi : i < ps.length) : at_ (ps ++ [o]) i = at_ ps i := by
  unfold at_
  rw [List.getD_eq_getElem?_getD, List.getD_eq_getElem?_getD, List.getElem?_append_left hi]

theorem at_last (ps : List (Option Nat)) (o : Option Nat) : at_ (ps ++ [o]) ps.length = o := by
  unfold at_
  simp

theorem namesP_snoc (ps : List (Option Nat)) (o : Option Nat) {l : List (Str × Nat)} (h : ∀ p ∈ l, p.2 < ps.length) : namesP (ps ++ [o]) l = namesP ps l := by
  unfold namesP
  exact List.map_congr_left fun p hp => by rw [at_snoc ps o (h p hp)]

theorem ChOK.files {n : Nat} {l : List (Str × Nat)} {cs : List ChM} (h : ChOK n l cs) : ∀ c ∈ cs, c.file < n := by
  induction h with
  | nil => intro _ h; cases h
  | cons _ h2 _ ih =>
    intro c hc
    rcases List.mem_cons.1 hc with rfl | hc
    · exact h2
    · exact ih c hc

/-- a new file -/
theorem Sat.newFile {a b : Nat} {ps : List (Option Nat)} {m : DiskM} {s : Sl} (h : Sat Γ (blk b (.cells (fcells s 0) TFile (0, 0)) :: PDp a ps m :: L) w) (hs : Bytes Γ s []) :
    Sat Γ (PDp a (ps ++ [some b]) { m with files := m.files ++ [⟨[], 0⟩], g := m.g + 1 } :: L) w := by
  obtain ⟨rn, rk, cs, ln, lk, h1, h2, h3, h4⟩ := Sat.pdg (h.pick .n1)
  have h5 := h4.pick (A := blk b (.cells (fcells s 0) TFile (0, 0))) .n5
  have h6 := (fileHP_shut (f := ⟨[], 0⟩) h5 hs).pick (A := HP.all (filesL ps m.files)) .n5
  have h7 : Sat Γ (fileHP (some b) ⟨[], 0⟩ :: HP.all (filesL ps m.files) :: blk a (.cells (dcells rn rk cs m) TDisk (0, 0)) :: MapR ekS ekP rn ln :: MapR ekS ekP rk lk :: OL eChg TChg cs (m.changes.map (chgP ps)) :: L) w := h6.pick .n1
  have h8 := h7.allSnoc
  rw [← filesL_snoc ps m.files _ _ h1.len] at h8
  have e : m.changes.map (chgP ps) = m.changes.map (chgP (ps ++ [some b])) := List.map_congr_left fun c hc => by
    unfold chgP
    rw [at_snoc ps _ (by rw [h1.len]; exact h1.wf.chs.files c hc)]
  rw [e] at h8
  have h9 : Sat Γ (dlay a rn rk cs ln lk (ps ++ [some b]) { m with files := m.files ++ [⟨[], 0⟩], g := m.g + 1 } (filesL (ps ++ [some b]) (m.files ++ [⟨[], 0⟩])) L) w :=
    h8.pick (A := OL eChg TChg cs (m.changes.map (chgP (ps ++ [some b])))) .n4 |>.pick (A := MapR ekS ekP rk lk) .n4 |>.pick (A := MapR ekS ekP rn ln) .n4 |>.pick (A := blk a (.cells (dcells rn rk cs m) TDisk (0, 0))) .n4
  have lt : ∀ {i : Nat}, (at_ ps i).isSome = true → (at_ (ps ++ [some b]) i).isSome = true := fun {i} hi => by
    by_cases hl : i < ps.length
    · rw [at_snoc ps _ hl]; exact hi
    · unfold at_ at hi; rw [List.getD_eq_getElem?_getD, List.getElem?_eq_none (by omega)] at hi; simp at hi
  refine h9.toPdg ⟨by simp [h1.len], fun p hp => lt (h1.now p hp), fun p hp => lt (h1.kept p hp), fun c hc hn => lt (h1.chs c hc hn), h1.wf.newFile⟩ ?_ ?_
  · show ln.Perm (namesP (ps ++ [some b]) m.now)
    rw [namesP_snoc ps _ fun p hp => by rw [h1.len]; exact h1.wf.nowOK.lt p hp]
    exact h2
  · show lk.Perm (namesP (ps ++ [some b]) m.kept)
    rw [namesP_snoc ps _ fun p hp => by rw [h1.len]; exact h1.wf.kept.lt p hp]
    exact h3

end Go.Proofs.Ytocmjngleknlbaa.K

/-
  Names as a map holds them.
-/
namespace Go.Proofs.Ytocmjngleknlbaa.K
open Go Go.Proofs

section
variable {κ ν : Type} [DecidableEq κ]

theorem perm_of_atK {l l' : List (κ × ν)} (h : (l.map (·.1)).Nodup) (h' : (l'.map (·.1)).Nodup) (he : ∀ k, atK l k = atK l' k) : l.Perm l' := by
  have nd : ∀ {l : List (κ × ν)}, (l.map (·.1)).Nodup → l.Nodup := fun {l} h => by
    rw [List.Nodup, List.pairwise_map] at h
    exact h.imp fun hab e => hab (by rw [e])
  induction l generalizing l' with
  | nil =>
    cases l' with
    | nil => exact .refl _
    | cons p r => have := he p.1; simp [atK] at this
  | cons p l ih =>
    have hp : (p.1, p.2) ∈ l' := by rw [← atK_mem h', ← he]; simp [atK]
    have hsub := List.append_of_mem hp
    obtain ⟨a, b, e⟩ := hsub
    have hperm : l'.Perm (p :: (a ++ b)) := by rw [e]; exact List.perm_middle
    have hn2 : ((p :: (a ++ b)).map (·.1)).Nodup := ((hperm.map _).nodup_iff).1 h'
    have key : ∀ k, atK l' k = atK (p :: (a ++ b)) k := by
      intro k
      cases h1 : atK l' k with
      | none =>
        rw [atK_none] at h1
        exact (atK_none.2 fun hm => h1 ((hperm.map _).mem_iff.2 hm)).symm
      | some v => exact ((atK_mem hn2).2 (hperm.mem_iff.1 ((atK_mem h').1 h1))).symm
    refine (List.Perm.cons p (ih (l' := a ++ b) (List.nodup_cons.1 h).2 (List.nodup_cons.1 hn2).2 fun k => ?_)).trans hperm.symm
    have h1 := he k
    rw [key k] at h1
    simp only [atK] at h1
    by_cases hk : k = p.1
    · subst hk
      rw [atK_none.2 (List.nodup_cons.1 h).1, atK_none.2 (List.nodup_cons.1 hn2).1]
    · rw [if_neg hk, if_neg hk] at h1
      exact h1

theorem atK_perm {l l' : List (κ × ν)} (h : l.Perm l') (hn : (l.map (·.1)).Nodup) (k : κ) : atK l k = atK l' k := by
  have hn' : (l'.map (·.1)).Nodup := ((h.map _).nodup_iff).1 hn
  cases h1 : atK l k with
  | none =>
    rw [atK_none] at h1
    exact (atK_none.2 fun hm => h1 ((h.map _).mem_iff.2 hm)).symm
  | some v => exact ((atK_mem hn').2 (h.mem_iff.1 ((atK_mem hn).1 h1))).symm
end

variable {ps : List (Option Nat)} {n : Nat} {l : List (Str × Nat)} {ln : List (Str × Option Nat)}

theorem atK_namesP (ps : List (Option Nat)) (l : List (Str × Nat)) (s : Str) : atK (namesP ps l) s = (findN l s).map (at_ ps) := by
  induction l with
  | nil => rfl
  | cons p r ih =>
    simp only [namesP, List.map_cons, atK, findN] at ih ⊢
    by_cases h : p.1 = s
    · rw [if_pos h.symm, if_pos h]; rfl
    · rw [if_neg (fun e => h e.symm), if_neg h]; exact ih

theorem namesP_keys (ps : List (Option Nat)) (l : List (Str × Nat)) : (namesP ps l).map (·.1) = l.map Prod.fst := by simp [namesP]

theorem namesP_nodup (h : NamesOK n l) : ((namesP ps l).map (·.1)).Nodup := by rw [namesP_keys]; exact h.nodup

theorem look_names (h : NamesOK n l) (hp : ln.Perm (namesP ps l)) (s : Str) : atK ln s = (findN l s).map (at_ ps) := by
  rw [← atK_namesP]
  exact atK_perm hp (((hp.map _).nodup_iff).2 (namesP_nodup h)) s

theorem names_nodup (h : NamesOK n l) (hp : ln.Perm (namesP ps l)) : (ln.map (·.1)).Nodup := ((hp.map _).nodup_iff).2 (namesP_nodup h)

/-- a change of names, on a map -/
def doK (ln : List (Str × Option Nat)) (c : Str × Str × Option Nat) : List (Str × Option Nat) := if c.2.1 = [] then delK ln c.1 else putK (delK ln c.1) c.2.1 c.2.2

theorem do_names {c : ChM} (h : NamesOK n l) (h' : NamesOK n (chg l c)) (hp : ln.Perm (namesP ps l)) : (doK ln (chgP ps c)).Perm (namesP ps (chg l c)) := by
  have hn := names_nodup h hp
  have hd : ((doK ln (chgP ps c)).map (·.1)).Nodup := by
    unfold doK
    split
    · exact delK_nodup hn _
    · exact putK_nodup (delK_nodup hn _) _ _
  refine perm_of_atK hd (namesP_nodup h') fun k => ?_
  rw [atK_namesP, findN_chg h.nodup]
  unfold doK chgP
  simp only
  by_cases hc : c.new = []
  · rw [if_pos hc, atK_del hn, look_names h hp]
    simp only [hc, ne_eq, not_true, false_and, if_false]
    split <;> rfl
  · rw [if_neg hc, atK_put, atK_del hn, look_names h hp, if_neg hc]
    simp only [hc, ne_eq, not_false_eq_true, true_and]
    split
    · rfl
    · split <;> rfl

/-! ### names in order -/

theorem cmpB_lt : ∀ {x y : Str}, cmpB x y < 0 ↔ x < y
  | [], [] => by simp [cmpB]
  | [], b :: y => by simp [cmpB]
  | a :: x, [] => by simp [cmpB]
  | a :: x, b :: y => by
    unfold cmpB
    rw [List.cons_lt_cons_iff]
    split
    · rename_i h; simp [h]
    · rename_i h
      split
      · rename_i h2
        have : ¬ a = b := fun e => by subst e; exact h h2
        simp [h, this]
      · rename_i h2
        have := u8_eq h h2
        subst this
        rw [cmpB_lt]
        simp [h]

theorem sorted_unique {l l' : List Str} (h : l.Pairwise fun a b => cmpB a b < 0) (hp : l'.Perm l) : (l'.mergeSort fun x y => decide (x ≤ y)) = l := by
  have tr : ∀ a b c : Str, decide (a ≤ b) = true → decide (b ≤ c) = true → decide (a ≤ c) = true := fun a b c h1 h2 => by
    simp only [decide_eq_true_eq] at *
    exact List.le_trans h1 h2
  have tot : ∀ a b : Str, (decide (a ≤ b) || decide (b ≤ a)) = true := fun a b => by
    simp only [Bool.or_eq_true, decide_eq_true_eq]
    exact List.le_total a b
  refine List.Perm.eq_of_pairwise (le := fun a b => decide (a ≤ b) = true) (fun a b _ _ h1 h2 => ?_) (List.pairwise_mergeSort tr tot _) ?_ ((List.mergeSort_perm _ _).trans hp)
  · simp only [decide_eq_true_eq] at h1 h2
    exact List.le_antisymm h1 h2
  · refine h.imp fun hab => ?_
    simp only [decide_eq_true_eq]
    exact List.le_of_lt (cmpB_lt.1 hab)

end Go.Proofs.Ytocmjngleknlbaa.K
