/-
  The disk, as plain lists: files, names, changes; what each call does.
-/
import Derived.Test.YtocmjngleknlbaaEngS
namespace Go.Proofs.Ytocmjngleknlbaa.K

abbrev Str := List UInt8

structure FileM where
  b : Str
  kept : Nat
  deriving DecidableEq

/-- a change of names: one that goes (or none), one that is given to a file (or none); the file -/
structure ChM where
  gone : Str
  new : Str
  file : Nat
  deriving DecidableEq

/-- 'g' bounds all that there is: it grows with what is done -/
structure DiskM where
  files : List FileM
  now : List (Str × Nat)
  kept : List (Str × Nat)
  changes : List ChM
  room : Int
  down : Bool
  doomed : Bool
  left : Int
  g : Nat

def findN : List (Str × Nat) → Str → Option Nat
  | [], _ => none
  | p :: r, s => if p.1 = s then some p.2 else findN r s

def without (l : List (Str × Nat)) (s : Str) : List (Str × Nat) := l.filter fun p => !decide (p.1 = s)

def insN : List (Str × Nat) → Str → Nat → List (Str × Nat)
  | [], s, f => [(s, f)]
  | p :: r, s, f => if cmpB s p.1 < 0 then (s, f) :: p :: r else p :: insN r s f

def withN (l : List (Str × Nat)) (s : Str) (f : Nat) : List (Str × Nat) := insN (without l s) s f

def chg (l : List (Str × Nat)) (c : ChM) : List (Str × Nat) := if c.new = [] then without l c.gone else withN (without l c.gone) c.new c.file

def rightN (s : Str) : Prop := 1 ≤ s.length ∧ s.length ≤ 32
instance (s : Str) : Decidable (rightN s) := inferInstanceAs (Decidable (_ ∧ _))

namespace DiskM

def new (room : Int) : DiskM := ⟨[], [], [], [], max room 0, false, false, 0, 0⟩

/-- is it up for what is to be done? -/
def up (d : DiskM) : Bool := !d.down && !(d.doomed && decide (d.left = 0))

def tick (d : DiskM) : DiskM :=
  if d.down then d
  else if d.doomed then (if d.left = 0 then { d with down := true } else { d with left := d.left - 1 })
  else d

def has (d : DiskM) (i : Nat) : Bool := d.kept.any (fun p => p.2 == i) || d.changes.any fun c => !decide (c.new = []) && c.file == i

def usedOf (h : Nat → Bool) : Nat → List FileM → Nat
  | _, [] => 0
  | i, f :: r => (if h i then f.b.length else 0) + usedOf h (i + 1) r

def used (d : DiskM) : Nat := usedOf d.has 0 d.files

def fileAt (d : DiskM) (i : Nat) : FileM := d.files.getD i ⟨[], 0⟩

def does (d : DiskM) (c : ChM) : DiskM := { d with now := chg d.now c, changes := d.changes ++ [c], g := d.g + 1 }

def create (d0 : DiskM) (s : Str) : DiskM × Int :=
  let d := d0.tick
  if d0.up = false then (d, 40) else if ¬ rightN s then (d, 1) else if (findN d.now s).isSome then (d, 4)
  else (({ d with files := d.files ++ [⟨[], 0⟩], g := d.g + 1 } : DiskM).does ⟨[], s, d.files.length⟩, 0)

def append (d0 : DiskM) (s b : Str) : DiskM × Int :=
  let d := d0.tick
  if d0.up = false then (d, 40) else match findN d.now s with
    | none => (d, 2)
    | some i => if (d.used : Int) + b.length > d.room then (d, 41) else ({ d with files := d.files.set i ⟨(d.fileAt i).b ++ b, (d.fileAt i).kept⟩, g := d.g + b.length }, 0)

def read (d0 : DiskM) (s : Str) : DiskM × Str × Int :=
  let d := d0.tick
  if d0.up = false then (d, [], 40) else match findN d.now s with
    | none => (d, [], 2)
    | some i => (d, (d.fileAt i).b, 0)

def sync (d0 : DiskM) (s : Str) : DiskM × Int :=
  let d := d0.tick
  if d0.up = false then (d, 40) else match findN d.now s with
    | none => (d, 2)
    | some i => ({ d with files := d.files.set i ⟨(d.fileAt i).b, (d.fileAt i).b.length⟩ }, 0)

def rename (d0 : DiskM) (s t : Str) : DiskM × Int :=
  let d := d0.tick
  if d0.up = false then (d, 40) else match findN d.now s with
    | none => (d, 2)
    | some i => if ¬ rightN t then (d, 1) else (d.does ⟨s, t, i⟩, 0)

def remove (d0 : DiskM) (s : Str) : DiskM × Int :=
  let d := d0.tick
  if d0.up = false then (d, 40) else match findN d.now s with
    | none => (d, 2)
    | some i => (d.does ⟨s, [], i⟩, 0)

def syncNames (d0 : DiskM) : DiskM × Int :=
  let d := d0.tick
  if d0.up = false then (d, 40) else ({ d with kept := d.now, changes := [] }, 0)

def names (d0 : DiskM) : DiskM × List Str × Int :=
  let d := d0.tick
  if d0.up = false then (d, [], 40) else (d, d.now.map Prod.fst, 0)

def doom (d : DiskM) (n : Int) : DiskM × Int := if n < 0 then (d, 1) else ({ d with doomed := true, left := n }, 0)

def grow (d : DiskM) (n : Int) : DiskM × Int := if n < 0 then (d, 1) else ({ d with room := n }, 0)

/-- how many bytes are left of those that are not kept -/
def leftOf (wb : List Int) (i : Nat) (most : Nat) : Nat := if wb.length = 0 then 0 else min (wb.getD (i % wb.length) 0).toNat most

def atN (d : DiskM) (n : Int) : List (Str × Nat) := (d.changes.take n.toNat).foldl chg d.kept

def fileLeft (d : DiskM) (wb : List Int) (i : Nat) (p : Str × Nat) : FileM :=
  let f := d.fileAt p.2
  let n := f.kept + leftOf wb i (f.b.length - f.kept)
  ⟨f.b.take n, n⟩

def crash (d : DiskM) (wn : Int) (wb : List Int) : DiskM :=
  let at_ := d.atN wn
  let nm := at_.mapIdx fun i p => (p.1, i)
  { files := at_.mapIdx (d.fileLeft wb), now := nm, kept := nm, changes := [], room := d.room, down := false, doomed := false, left := 0, g := d.g }

end DiskM

/-! ### what is so of all disks -/

structure NamesOK (n : Nat) (l : List (Str × Nat)) : Prop where
  sorted : l.Pairwise fun a b => cmpB a.1 b.1 < 0
  right : ∀ p ∈ l, rightN p.1
  lt : ∀ p ∈ l, p.2 < n
  inj : (l.map Prod.snd).Nodup

/-- a change that fits -/
def FitC (l : List (Str × Nat)) (c : ChM) : Prop :=
  (c.gone = [] ∧ rightN c.new ∧ findN l c.new = none ∧ c.file ∉ l.map Prod.snd) ∨ (rightN c.gone ∧ findN l c.gone = some c.file ∧ (c.new = [] ∨ rightN c.new))

inductive ChOK (n : Nat) : List (Str × Nat) → List ChM → Prop
  | nil {l : List (Str × Nat)} : ChOK n l []
  | cons {l : List (Str × Nat)} {c : ChM} {cs : List ChM} : FitC l c → c.file < n → ChOK n (chg l c) cs → ChOK n l (c :: cs)

structure Wf (d : DiskM) : Prop where
  kept : NamesOK d.files.length d.kept
  chs : ChOK d.files.length d.kept d.changes
  now : d.now = d.changes.foldl chg d.kept
  fk : ∀ f ∈ d.files, f.kept ≤ f.b.length
  room : 0 ≤ d.room
  left : 0 ≤ d.left
  leftU : d.left < 9223372036854775808
  gf : (d.files.map fun f => f.b.length).sum ≤ d.g
  gn : d.kept.length + d.changes.length ≤ d.g
  gl : d.files.length ≤ d.g

end Go.Proofs.Ytocmjngleknlbaa.K

/-
  The disk as lists: names, changes, and what is so of all disks.
-/
namespace Go.Proofs.Ytocmjngleknlbaa.K

theorem findN_mem {l : List (Str × Nat)} {s : Str} {i : Nat} (h : findN l s = some i) : (s, i) ∈ l := by
  induction l with
  | nil => cases h
  | cons p r ih =>
    unfold findN at h
    split at h
    · rename_i e; cases h; rw [← e]; exact .head _
    · exact .tail _ (ih h)

theorem findN_none {l : List (Str × Nat)} {s : Str} : findN l s = none ↔ ∀ p ∈ l, p.1 ≠ s := by
  induction l with
  | nil => simp [findN]
  | cons p r ih =>
    unfold findN
    split
    · rename_i e; simp [e]
    · rename_i e; rw [ih]; simp [e]

theorem Sorted.nodup {l : List (Str × Nat)} (h : l.Pairwise fun a b => cmpB a.1 b.1 < 0) : (l.map Prod.fst).Nodup := by
  rw [List.Nodup, List.pairwise_map]
  exact h.imp fun {a b} hab e => by rw [e, cmpB_eq_zero.2 rfl] at hab; omega

theorem findN_iff {l : List (Str × Nat)} (h : (l.map Prod.fst).Nodup) {s : Str} {i : Nat} : findN l s = some i ↔ (s, i) ∈ l := by
  refine ⟨findN_mem, fun hm => ?_⟩
  induction l with
  | nil => cases hm
  | cons p r ih =>
    simp only [List.map_cons, List.nodup_cons] at h
    unfold findN
    rcases List.mem_cons.1 hm with rfl | hm
    · simp
    · split
      · rename_i e; exact absurd (List.mem_map_of_mem (f := Prod.fst) hm) (by rw [← e] at *; exact h.1)
      · exact ih h.2 hm

theorem without_sub (l : List (Str × Nat)) (s : Str) : (without l s).Sublist l := List.filter_sublist

theorem mem_without {l : List (Str × Nat)} {s : Str} {p : Str × Nat} : p ∈ without l s ↔ p ∈ l ∧ p.1 ≠ s := by
  unfold without; simp

theorem findN_without (l : List (Str × Nat)) (s t : Str) : findN (without l s) t = if t = s then none else findN l t := by
  induction l with
  | nil => simp [without, findN]
  | cons p r ih =>
    unfold without at ih ⊢
    rw [List.filter_cons]
    by_cases e : p.1 = s
    · simp only [e, decide_true, Bool.not_true, Bool.false_eq_true, if_false, ih]
      split
      · rfl
      · rename_i h; rw [findN, if_neg (by rw [e]; exact fun x => h x.symm)]
    · simp only [e, decide_false, Bool.not_false, if_true]
      unfold findN
      rw [ih]
      by_cases h : p.1 = t
      · rw [if_pos h, if_neg (by rw [← h]; exact e), if_pos h]
      · rw [if_neg h, if_neg h]

theorem mem_insN {l : List (Str × Nat)} {s : Str} {f : Nat} {p : Str × Nat} : p ∈ insN l s f ↔ p = (s, f) ∨ p ∈ l := by
  induction l with
  | nil => simp [insN]
  | cons q r ih =>
    unfold insN
    split
    · simp
    · simp [ih]; constructor
      · rintro (h | h | h); exact .inr (.inl h); exact .inl h; exact .inr (.inr h)
      · rintro (h | h | h); exact .inr (.inl h); exact .inl h; exact .inr (.inr h)

theorem insN_perm (l : List (Str × Nat)) (s : Str) (f : Nat) : (insN l s f).Perm ((s, f) :: l) := by
  induction l with
  | nil => exact .refl _
  | cons q r ih =>
    unfold insN
    split
    · exact .refl _
    · exact (ih.cons q).trans (.swap _ _ _)

theorem cmpB_gt {x y : Str} (h : ¬ cmpB x y < 0) (hn : x ≠ y) : cmpB y x < 0 := by
  have h1 := cmpB_neg x y
  have h2 : cmpB x y ≠ 0 := fun e => hn (cmpB_eq_zero.1 e)
  omega

theorem insN_sorted {l : List (Str × Nat)} (h : l.Pairwise fun a b => cmpB a.1 b.1 < 0) {s : Str} (hs : ∀ p ∈ l, p.1 ≠ s) (f : Nat) : (insN l s f).Pairwise fun a b => cmpB a.1 b.1 < 0 := by
  induction l with
  | nil => simp [insN]
  | cons q r ih =>
    obtain ⟨h1, h2⟩ := List.pairwise_cons.1 h
    unfold insN
    split
    · rename_i hlt
      refine List.pairwise_cons.2 ⟨fun p hp => ?_, h⟩
      rcases List.mem_cons.1 hp with rfl | hp
      · exact hlt
      · exact cmpB_trans hlt (h1 p hp)
    · rename_i hge
      refine List.pairwise_cons.2 ⟨fun p hp => ?_, ih h2 fun p hp => hs p (.tail _ hp)⟩
      rcases mem_insN.1 hp with rfl | hp
      · exact cmpB_gt hge fun e => hs q (.head _) e.symm
      · exact h1 p hp

theorem findN_perm {l l' : List (Str × Nat)} (h : l.Perm l') (hn : (l.map Prod.fst).Nodup) (s : Str) : findN l s = findN l' s := by
  have hn' : (l'.map Prod.fst).Nodup := (h.map _).nodup_iff.1 hn
  cases h1 : findN l s with
  | none =>
    rw [findN_none] at h1
    exact (findN_none.2 fun p hp => h1 p (h.mem_iff.2 hp)).symm
  | some i => exact ((findN_iff hn').2 (h.mem_iff.1 (findN_mem h1))).symm

theorem NamesOK.nodup {n : Nat} {l : List (Str × Nat)} (h : NamesOK n l) : (l.map Prod.fst).Nodup := Sorted.nodup h.sorted

theorem NamesOK.mono {n m : Nat} {l : List (Str × Nat)} (h : NamesOK n l) (hm : n ≤ m) : NamesOK m l := ⟨h.sorted, h.right, fun p hp => Nat.lt_of_lt_of_le (h.lt p hp) hm, h.inj⟩

theorem NamesOK.sub {n : Nat} {l l' : List (Str × Nat)} (h : NamesOK n l) (hs : l'.Sublist l) : NamesOK n l' :=
  ⟨h.sorted.sublist hs, fun p hp => h.right p (hs.subset hp), fun p hp => h.lt p (hs.subset hp), (hs.map _).nodup h.inj⟩

theorem NamesOK.without {n : Nat} {l : List (Str × Nat)} (h : NamesOK n l) (s : Str) : NamesOK n (without l s) := h.sub (without_sub l s)

theorem withN_perm (l : List (Str × Nat)) (s : Str) (f : Nat) : (withN l s f).Perm ((s, f) :: K.without l s) := insN_perm _ _ _

theorem NamesOK.with {n : Nat} {l : List (Str × Nat)} (h : NamesOK n l) {s : Str} {f : Nat} (hs : rightN s) (hf : f < n) (hi : f ∉ (K.without l s).map Prod.snd) : NamesOK n (withN l s f) := by
  have hw := h.without s
  refine ⟨insN_sorted hw.sorted (fun p hp => (mem_without.1 hp).2) f, fun p hp => ?_, fun p hp => ?_, ?_⟩
  · rcases mem_insN.1 hp with rfl | hp
    · exact hs
    · exact hw.right p hp
  · rcases mem_insN.1 hp with rfl | hp
    · exact hf
    · exact hw.lt p hp
  · exact ((withN_perm l s f).map _).nodup_iff.2 (List.nodup_cons.2 ⟨hi, hw.inj⟩)

theorem findN_with {l : List (Str × Nat)} (h : (l.map Prod.fst).Nodup) (s : Str) (f : Nat) (t : Str) : findN (withN l s f) t = if t = s then some f else findN l t := by
  have hn : (((s, f) :: K.without l s).map Prod.fst).Nodup := by
    refine List.nodup_cons.2 ⟨fun hm => ?_, ((without_sub l s).map _).nodup h⟩
    obtain ⟨p, hp, e⟩ := List.mem_map.1 hm
    exact (mem_without.1 hp).2 e
  rw [findN_perm (withN_perm l s f) (((withN_perm l s f).map _).nodup_iff.2 hn), findN]
  by_cases e : t = s
  · rw [if_pos e.symm, if_pos e]
  · rw [if_neg (fun x => e x.symm), if_neg e, findN_without, if_neg e]

/-- what a change does to names -/
theorem findN_chg {l : List (Str × Nat)} (h : (l.map Prod.fst).Nodup) (c : ChM) (t : Str) : findN (chg l c) t = if c.new ≠ [] ∧ t = c.new then some c.file else if t = c.gone then none else findN l t := by
  unfold chg
  split
  · rename_i e; rw [findN_without]; simp [e]
  · rename_i e
    rw [findN_with (((without_sub l c.gone).map _).nodup h), findN_without]
    simp [e]

theorem rightN_ne {s : Str} (h : rightN s) : s ≠ [] := by rintro rfl; exact absurd h.1 (by simp)

theorem NamesOK.snd_inj {n : Nat} {l : List (Str × Nat)} (h : NamesOK n l) {p q : Str × Nat} (hp : p ∈ l) (hq : q ∈ l) (e : p.2 = q.2) : p = q := by
  have := h.inj
  rw [List.Nodup, List.pairwise_map] at this
  obtain ⟨i, hi⟩ := List.getElem?_of_mem hp
  obtain ⟨j, hj⟩ := List.getElem?_of_mem hq
  obtain ⟨hi', ei⟩ := List.getElem?_eq_some_iff.1 hi
  obtain ⟨hj', ej⟩ := List.getElem?_eq_some_iff.1 hj
  rcases Nat.lt_trichotomy i j with hij | hij | hij
  · have := List.pairwise_iff_getElem.1 this i j hi' hj' hij
    rw [ei, ej] at this; exact absurd e this
  · subst hij; rw [hi] at hj; exact Option.some.inj hj
  · have := List.pairwise_iff_getElem.1 this j i hj' hi' hij
    rw [ei, ej] at this; exact absurd e.symm this

theorem NamesOK.chg {n : Nat} {l : List (Str × Nat)} (h : NamesOK n l) {c : ChM} (hc : FitC l c) (hf : c.file < n) : NamesOK n (chg l c) := by
  unfold K.chg
  split
  · exact h.without _
  · rename_i hne
    refine (h.without c.gone).with ?_ hf ?_
    · rcases hc with ⟨_, h1, _⟩ | ⟨_, _, h1 | h1⟩
      · exact h1
      · exact absurd h1 hne
      · exact h1
    · intro hm
      obtain ⟨p, hp, e⟩ := List.mem_map.1 hm
      have hp1 := (mem_without.1 (mem_without.1 hp).1)
      rcases hc with ⟨_, _, _, h1⟩ | ⟨_, h1, _⟩
      · exact h1 (List.mem_map.2 ⟨p, hp1.1, e⟩)
      · have := h.snd_inj hp1.1 (findN_mem h1) e
        exact hp1.2 (by rw [this])

theorem ChOK.mono {n m : Nat} {l : List (Str × Nat)} {cs : List ChM} (h : ChOK n l cs) (hm : n ≤ m) : ChOK m l cs := by
  induction h with
  | nil => exact .nil
  | cons h1 h2 _ ih => exact .cons h1 (Nat.lt_of_lt_of_le h2 hm) ih

theorem ChOK.names {n : Nat} {l : List (Str × Nat)} {cs : List ChM} (h : ChOK n l cs) (hl : NamesOK n l) : NamesOK n (cs.foldl K.chg l) := by
  induction h with
  | nil => exact hl
  | cons h1 h2 _ ih => exact ih (hl.chg h1 h2)

theorem ChOK.take {n : Nat} {l : List (Str × Nat)} {cs : List ChM} (h : ChOK n l cs) (k : Nat) : ChOK n l (cs.take k) := by
  induction h generalizing k with
  | nil => rw [List.take_nil]; exact .nil
  | cons h1 h2 _ ih =>
    cases k with
    | zero => exact .nil
    | succ k => exact .cons h1 h2 (ih k)

theorem ChOK.snoc {n : Nat} {l : List (Str × Nat)} {cs : List ChM} {c : ChM} (h : ChOK n l cs) (hc : FitC (cs.foldl K.chg l) c) (hf : c.file < n) : ChOK n l (cs ++ [c]) := by
  induction h with
  | nil => exact .cons hc hf .nil
  | cons h1 h2 _ ih => exact .cons h1 h2 (ih hc)

theorem chg_len {l : List (Str × Nat)} (c : ChM) : (chg l c).length ≤ l.length + 1 := by
  unfold chg
  have h1 : ∀ l s, (without l s).length ≤ l.length := fun l s => (without_sub l s).length_le
  split
  · exact Nat.le_succ_of_le (h1 _ _)
  · rw [(withN_perm _ _ _).length_eq, List.length_cons]
    have := h1 (without l c.gone) c.new
    have := h1 l c.gone
    omega

theorem fold_len (cs : List ChM) : ∀ (l : List (Str × Nat)), (cs.foldl chg l).length ≤ l.length + cs.length := by
  induction cs with
  | nil => intro l; simp
  | cons c cs ih =>
    intro l
    have := ih (chg l c)
    have := chg_len (l := l) c
    simp only [List.foldl_cons, List.length_cons]
    omega

section
variable (d : DiskM)
theorem tick_now : d.tick.now = d.now := by unfold DiskM.tick; split; rfl; split; split <;> rfl; rfl
theorem tick_kept : d.tick.kept = d.kept := by unfold DiskM.tick; split; rfl; split; split <;> rfl; rfl
theorem tick_files : d.tick.files = d.files := by unfold DiskM.tick; split; rfl; split; split <;> rfl; rfl
theorem tick_changes : d.tick.changes = d.changes := by unfold DiskM.tick; split; rfl; split; split <;> rfl; rfl
theorem tick_room : d.tick.room = d.room := by unfold DiskM.tick; split; rfl; split; split <;> rfl; rfl
theorem tick_g : d.tick.g = d.g := by unfold DiskM.tick; split; rfl; split; split <;> rfl; rfl
end

namespace Wf
variable {d : DiskM}

theorem nowOK (h : Wf d) : NamesOK d.files.length d.now := by rw [h.now]; exact h.chs.names h.kept

theorem nowLen (h : Wf d) : d.now.length ≤ d.g := by
  have h1 := fold_len d.changes d.kept
  have h2 := h.gn
  rw [h.now]; omega

theorem atOK (h : Wf d) (n : Int) : NamesOK d.files.length (d.atN n) := (h.chs.take _).names h.kept

theorem atLen (h : Wf d) (n : Int) : (d.atN n).length ≤ d.g := by
  have h1 := fold_len (d.changes.take n.toNat) d.kept
  have h2 := h.gn
  have h3 : (d.changes.take n.toNat).length ≤ d.changes.length := List.length_take_le' _ _
  unfold DiskM.atN
  omega

theorem find_lt (h : Wf d) {s : Str} {i : Nat} (hf : findN d.now s = some i) : i < d.files.length := h.nowOK.lt _ (findN_mem hf)

theorem tick (h : Wf d) : Wf d.tick := by
  unfold DiskM.tick
  split
  · exact h
  · split
    · split
      · exact { h with }
      · rename_i h1
        have := h.left
        have h2 := h.leftU
        exact { h with left := by show 0 ≤ d.left - 1; omega, leftU := by show d.left - 1 < 9223372036854775808; omega }
    · exact h

theorem new (r : Int) : Wf (DiskM.new r) where
  kept := ⟨.nil, by simp [DiskM.new], by simp [DiskM.new], by simp [DiskM.new]⟩
  chs := .nil
  now := rfl
  fk := by simp [DiskM.new]
  room := by simp [DiskM.new]; omega
  left := by simp [DiskM.new]
  leftU := by simp [DiskM.new]
  gf := by simp [DiskM.new]
  gn := by simp [DiskM.new]
  gl := by simp [DiskM.new]

theorem does (h : Wf d) {c : ChM} (hc : FitC d.now c) (hf : c.file < d.files.length) : Wf (d.does c) where
  kept := h.kept
  chs := h.chs.snoc (by rw [← h.now]; exact hc) hf
  now := by show chg d.now c = _; rw [h.now]; simp [DiskM.does]
  fk := h.fk
  room := h.room
  left := h.left
  leftU := h.leftU
  gf := Nat.le_succ_of_le h.gf
  gn := by have := h.gn; show d.kept.length + (d.changes ++ [c]).length ≤ d.g + 1; simp; omega
  gl := Nat.le_succ_of_le h.gl

theorem newFile (h : Wf d) : Wf { d with files := d.files ++ [⟨[], 0⟩], g := d.g + 1 } where
  kept := h.kept.mono (by simp)
  chs := h.chs.mono (by simp)
  now := h.now
  fk := by
    intro f hf
    rcases List.mem_append.1 hf with hf | hf
    · exact h.fk f hf
    · simp at hf; subst hf; exact Nat.le_refl _
  room := h.room
  left := h.left
  leftU := h.leftU
  gf := by have := h.gf; simp; omega
  gn := by have := h.gn; show d.kept.length + d.changes.length ≤ d.g + 1; omega
  gl := by have := h.gl; simp; omega

theorem made (h : Wf d) {c : ChM} (hc : FitC d.now c) (hf : c.file = d.files.length) : Wf (({ d with files := d.files ++ [⟨[], 0⟩], g := d.g + 1 } : DiskM).does c) :=
  h.newFile.does hc (by simp [hf])

theorem sum_set {l : List FileM} {i : Nat} {f : FileM} (hi : i < l.length) : ((l.set i f).map fun f => f.b.length).sum + (l.getD i ⟨[], 0⟩).b.length = (l.map fun f => f.b.length).sum + f.b.length := by
  induction l generalizing i with
  | nil => simp at hi
  | cons x l ih =>
    cases i with
    | zero => simp; omega
    | succ i =>
      have := ih (i := i) (by simpa using hi)
      simp at this ⊢
      omega

theorem setF (h : Wf d) {i : Nat} {f : FileM} {n : Nat} (hi : i < d.files.length) (hk : f.kept ≤ f.b.length) (hn : f.b.length ≤ (d.fileAt i).b.length + n) : Wf { d with files := d.files.set i f, g := d.g + n } where
  kept := h.kept.mono (by simp)
  chs := h.chs.mono (by simp)
  now := h.now
  fk := by
    intro x hx
    rcases List.mem_or_eq_of_mem_set hx with hx | rfl
    · exact h.fk x hx
    · exact hk
  room := h.room
  left := h.left
  leftU := h.leftU
  gf := by
    have h1 := h.gf
    have h2 := sum_set (f := f) hi
    have h3 : (d.files.getD i ⟨[], 0⟩).b.length = (d.fileAt i).b.length := rfl
    show ((d.files.set i f).map fun f => f.b.length).sum ≤ d.g + n
    omega
  gn := Nat.le_add_right_of_le h.gn
  gl := by have := h.gl; simp; omega

theorem synced (h : Wf d) : Wf { d with kept := d.now, changes := [] } where
  kept := h.nowOK
  chs := .nil
  now := rfl
  fk := h.fk
  room := h.room
  left := h.left
  leftU := h.leftU
  gf := h.gf
  gn := by simpa using h.nowLen
  gl := h.gl

theorem doomed (h : Wf d) {n : Int} (hn : 0 ≤ n) (hu : n < 9223372036854775808) : Wf { d with doomed := true, left := n } := { h with left := hn, leftU := hu }
theorem grown (h : Wf d) {n : Int} (hn : 0 ≤ n) : Wf { d with room := n } := { h with room := hn }

theorem fileAt_kept (h : Wf d) (i : Nat) : (d.fileAt i).kept ≤ (d.fileAt i).b.length := by
  unfold DiskM.fileAt
  rw [List.getD_eq_getElem?_getD]
  cases e : d.files[i]? with
  | none => simp
  | some f => exact h.fk f (List.mem_of_getElem? e)

theorem fileAt_len (h : Wf d) (i : Nat) : (d.fileAt i).b.length ≤ d.g := by
  refine Nat.le_trans ?_ h.gf
  unfold DiskM.fileAt
  rw [List.getD_eq_getElem?_getD]
  cases e : d.files[i]? with
  | none => simp
  | some f =>
    have : ∀ (l : List Nat) (x : Nat), x ∈ l → x ≤ l.sum := by
      intro l
      induction l with
      | nil => intro x h; cases h
      | cons y l ih =>
        intro x h
        rcases List.mem_cons.1 h with rfl | h
        · simp
        · have := ih x h; simp; omega
    exact this _ _ (List.mem_map_of_mem (f := fun f : FileM => f.b.length) (List.mem_of_getElem? e))

theorem leftOf_le (wb : List Int) (i most : Nat) : DiskM.leftOf wb i most ≤ most := by
  unfold DiskM.leftOf
  split
  · exact Nat.zero_le _
  · exact Nat.min_le_right _ _

/-- files that are not the same have together no more bytes than all -/
theorem sum_inj {l : List FileM} : ∀ {is : List Nat}, is.Nodup → (∀ i ∈ is, i < l.length) → (is.map fun i => (l.getD i ⟨[], 0⟩).b.length).sum ≤ (l.map fun f => f.b.length).sum := by
  induction l with
  | nil =>
    intro is _ h
    cases is with
    | nil => simp
    | cons i r => exact absurd (h i (.head _)) (by simp)
  | cons f l ih =>
    intro is hn hl
    -- the first apart
    have key : ∀ is : List Nat, is.Nodup → (is.map fun i => ((f :: l).getD i ⟨[], 0⟩).b.length).sum = (if 0 ∈ is then f.b.length else 0) + (((is.filter fun i => !decide (i = 0)).map fun i => i - 1).map fun i => (l.getD i ⟨[], 0⟩).b.length).sum := by
      intro is
      induction is with
      | nil => simp
      | cons i r ihr =>
        intro hn
        obtain ⟨h1, h2⟩ := List.nodup_cons.1 hn
        cases i with
        | zero =>
          simp only [List.map_cons, List.sum_cons, ihr h2]
          simp [h1]
        | succ i =>
          simp only [List.map_cons, List.sum_cons, ihr h2]
          simp
          omega
    rw [key is hn]
    have h1 := @ih ((is.filter fun i => !decide (i = 0)).map fun i => i - 1) (by
      rw [List.Nodup, List.pairwise_map]
      refine (hn.filter _).imp_of_mem fun {a b} ha hb hab e => ?_
      have := (List.mem_filter.1 ha).2
      have := (List.mem_filter.1 hb).2
      simp at *
      omega) (by
      intro i hi
      obtain ⟨j, hj, rfl⟩ := List.mem_map.1 hi
      obtain ⟨h1, h2⟩ := List.mem_filter.1 hj
      have := hl j h1
      simp at h2 this
      omega)
    simp only [List.map_cons, List.sum_cons]
    split <;> omega

theorem crash (h : Wf d) (wn : Int) (wb : List Int) : Wf (d.crash wn wb) := by
  have hat := h.atOK wn
  have hfst : ((d.atN wn).mapIdx fun i (p : Str × Nat) => (p.1, i)).map Prod.fst = (d.atN wn).map Prod.fst := by
    apply List.ext_getElem? ; intro i; simp [List.getElem?_mapIdx]; cases (d.atN wn)[i]? <;> rfl
  have hsnd : ((d.atN wn).mapIdx fun i (p : Str × Nat) => (p.1, i)).map Prod.snd = List.range (d.atN wn).length := by
    apply List.ext_getElem?
    intro i
    simp only [List.getElem?_map, List.getElem?_mapIdx, List.getElem?_range]
    cases e : (d.atN wn)[i]? with
    | none => have := List.getElem?_eq_none_iff.1 e; simp; omega
    | some p => have := (List.getElem?_eq_some_iff.1 e).1; simp [this]
  have hok : NamesOK (d.atN wn).length ((d.atN wn).mapIdx fun i (p : Str × Nat) => (p.1, i)) := by
    refine ⟨?_, fun p hp => ?_, fun p hp => ?_, ?_⟩
    · have := hat.sorted
      rw [← List.pairwise_map (f := Prod.fst) (R := fun a b => cmpB a b < 0)] at this ⊢
      rw [hfst]; exact this
    · have : p.1 ∈ (d.atN wn).map Prod.fst := by rw [← hfst]; exact List.mem_map_of_mem hp
      obtain ⟨q, hq, e⟩ := List.mem_map.1 this
      rw [← e]; exact hat.right q hq
    · have : p.2 ∈ List.range (d.atN wn).length := by rw [← hsnd]; exact List.mem_map_of_mem hp
      exact List.mem_range.1 this
    · rw [hsnd]; exact List.nodup_range
  exact {
    kept := by show NamesOK ((d.atN wn).mapIdx _).length _; rw [List.length_mapIdx]; exact hok
    chs := .nil
    now := rfl
    fk := by
      intro f hf
      obtain ⟨i, hi, rfl⟩ := List.mem_mapIdx.1 hf
      have h1 := leftOf_le wb i ((d.fileAt (d.atN wn)[i].2).b.length - (d.fileAt (d.atN wn)[i].2).kept)
      have h2 := h.fileAt_kept (d.atN wn)[i].2
      simp only [DiskM.fileLeft, List.length_take]
      omega
    room := h.room
    left := Int.le_refl _
    leftU := by show (0 : Int) < 9223372036854775808; omega
    gf := by
      refine Nat.le_trans ?_ h.gf
      refine Nat.le_trans ?_ (sum_inj hat.inj (fun i hi => by obtain ⟨p, hp, e⟩ := List.mem_map.1 hi; rw [← e]; exact hat.lt p hp))
      show (((d.atN wn).mapIdx (d.fileLeft wb)).map fun f => f.b.length).sum ≤ _
      have hm : ((d.atN wn).mapIdx (d.fileLeft wb)).map (fun f => f.b.length) = (d.atN wn).mapIdx fun i p => (d.fileLeft wb (i + 0) p).b.length := by
        apply List.ext_getElem?; intro i; simp [Function.comp_def]
      rw [hm, List.map_map]
      have : ∀ (l : List (Str × Nat)) (k : Nat), (l.mapIdx fun i p => (d.fileLeft wb (i + k) p).b.length).sum ≤ (l.map ((fun i => (d.files.getD i ⟨[], 0⟩).b.length) ∘ Prod.snd)).sum := by
        intro l
        induction l with
        | nil => intro k; simp
        | cons p l ih =>
          intro k
          have h1 := ih (k + 1)
          simp only [List.mapIdx_cons, List.sum_cons, List.map_cons]
          have h2 : (d.fileLeft wb (0 + k) p).b.length ≤ (d.files.getD p.2 ⟨[], 0⟩).b.length := by simp only [DiskM.fileLeft, DiskM.fileAt, List.length_take]; omega
          have h3 : (fun i (p : Str × Nat) => (d.fileLeft wb (i + 1 + k) p).b.length) = fun i p => (d.fileLeft wb (i + (k + 1)) p).b.length := by funext i p; rw [Nat.add_right_comm, Nat.add_assoc]
          rw [h3]
          simp only [Function.comp]
          omega
      exact this (d.atN wn) 0
    gn := by have := h.atLen wn; show ((d.atN wn).mapIdx _).length + 0 ≤ d.g; rw [List.length_mapIdx]; omega
    gl := by have := h.atLen wn; show ((d.atN wn).mapIdx _).length ≤ d.g; rw [List.length_mapIdx]; omega }

end Wf

/-! ### the calls keep it -/

theorem rightN_fitNew {d : DiskM} (h : Wf d) {s : Str} (hs : rightN s) (hn : (findN d.now s).isSome = false) : FitC d.now ⟨[], s, d.files.length⟩ := by
  refine .inl ⟨rfl, hs, by simpa using hn, fun hm => ?_⟩
  obtain ⟨p, hp, e⟩ := List.mem_map.1 hm
  have h1 := h.nowOK.lt p hp
  rw [e] at h1
  exact Nat.lt_irrefl _ h1

namespace Wf
variable {d : DiskM}
theorem right_of (h : Wf d) {s : Str} {i : Nat} (hf : findN d.now s = some i) : rightN s := h.nowOK.right _ (findN_mem hf)

theorem create (h : Wf d) (s : Str) : Wf (d.create s).1 := by
  have ht := h.tick
  unfold DiskM.create
  dsimp only
  split
  · exact ht
  · split
    · exact ht
    · rename_i hs
      split
      · exact ht
      · rename_i hn
        exact ht.made (rightN_fitNew ht (by simpa using hs) (by simpa using hn)) rfl

theorem append (h : Wf d) (s b : Str) : Wf (d.append s b).1 := by
  have ht := h.tick
  unfold DiskM.append
  dsimp only
  split
  · exact ht
  · split
    · exact ht
    · rename_i i hi
      split
      · exact ht
      · exact ht.setF (ht.find_lt hi) (by have := ht.fileAt_kept i; simp; omega) (by simp)

theorem read (h : Wf d) (s : Str) : Wf (d.read s).1 := by
  have ht := h.tick
  unfold DiskM.read
  dsimp only
  split
  · exact ht
  · split <;> exact ht

theorem sync (h : Wf d) (s : Str) : Wf (d.sync s).1 := by
  have ht := h.tick
  unfold DiskM.sync
  dsimp only
  split
  · exact ht
  · split
    · exact ht
    · rename_i i hi
      exact ht.setF (n := 0) (ht.find_lt hi) (Nat.le_refl _) (Nat.le_refl _)

theorem rename (h : Wf d) (s t : Str) : Wf (d.rename s t).1 := by
  have ht := h.tick
  unfold DiskM.rename
  dsimp only
  split
  · exact ht
  · split
    · exact ht
    · rename_i i hi
      split
      · exact ht
      · rename_i hr
        exact ht.does (.inr ⟨ht.right_of hi, hi, .inr (by simpa using hr)⟩) (ht.find_lt hi)

theorem remove (h : Wf d) (s : Str) : Wf (d.remove s).1 := by
  have ht := h.tick
  unfold DiskM.remove
  dsimp only
  split
  · exact ht
  · split
    · exact ht
    · rename_i i hi
      exact ht.does (.inr ⟨ht.right_of hi, hi, .inl rfl⟩) (ht.find_lt hi)

theorem syncNames (h : Wf d) : Wf d.syncNames.1 := by
  have ht := h.tick
  unfold DiskM.syncNames
  dsimp only
  split
  · exact ht
  · exact ht.synced

theorem names (h : Wf d) : Wf d.names.1 := by
  have ht := h.tick
  unfold DiskM.names
  dsimp only
  split <;> exact ht

theorem doom (h : Wf d) {n : Int} (hu : n < 9223372036854775808) : Wf (d.doom n).1 := by
  unfold DiskM.doom
  split
  · exact h
  · exact h.doomed (by omega) hu

theorem grow (h : Wf d) (n : Int) : Wf (d.grow n).1 := by
  unfold DiskM.grow
  split
  · exact h
  · exact h.grown (by omega)
end Wf

/-! ### the calls, case by case -/

namespace DiskM
variable {m : DiskM} {s t b : Str} {i : Nat}
theorem create_down (h : m.up = false) : m.create s = (m.tick, 40) := by simp [create, h]
theorem create_arg (h : m.up = true) (hs : ¬ rightN s) : m.create s = (m.tick, 1) := by simp [create, h, hs]
theorem create_there (h : m.up = true) (hs : rightN s) (hf : findN m.now s = some i) : m.create s = (m.tick, 4) := by simp [create, h, hs, tick_now, hf]
theorem create_new (h : m.up = true) (hs : rightN s) (hf : findN m.now s = none) : m.create s = ((({ m.tick with files := m.files ++ [⟨[], 0⟩], g := m.g + 1 } : DiskM).does ⟨[], s, m.files.length⟩), 0) := by simp [create, h, hs, tick_now, tick_files, tick_g, hf]
theorem append_down (h : m.up = false) : m.append s b = (m.tick, 40) := by simp [append, h]
theorem append_none (h : m.up = true) (hf : findN m.now s = none) : m.append s b = (m.tick, 2) := by simp [append, h, tick_now, hf]
theorem tick_used : m.tick.used = m.used := by
  have : m.tick.has = m.has := by funext i; simp [has, tick_kept, tick_changes]
  simp [used, this, tick_files]
theorem tick_fileAt : m.tick.fileAt i = m.fileAt i := by simp [fileAt, tick_files]
theorem append_full (h : m.up = true) (hf : findN m.now s = some i) (hr : (m.used : Int) + b.length > m.room) : m.append s b = (m.tick, 41) := by simp [append, h, tick_now, hf, tick_used, tick_room, hr]
theorem append_some (h : m.up = true) (hf : findN m.now s = some i) (hr : ¬ (m.used : Int) + b.length > m.room) : m.append s b = ({ m.tick with files := m.files.set i ⟨(m.fileAt i).b ++ b, (m.fileAt i).kept⟩, g := m.g + b.length }, 0) := by
  simp only [append, h, tick_now, hf, tick_used, tick_room, hr, tick_files, tick_fileAt, tick_g]; rfl
theorem read_down (h : m.up = false) : m.read s = (m.tick, [], 40) := by simp [read, h]
theorem read_none (h : m.up = true) (hf : findN m.now s = none) : m.read s = (m.tick, [], 2) := by simp [read, h, tick_now, hf]
theorem read_some (h : m.up = true) (hf : findN m.now s = some i) : m.read s = (m.tick, (m.fileAt i).b, 0) := by simp [read, h, tick_now, hf, tick_fileAt]
theorem sync_down (h : m.up = false) : m.sync s = (m.tick, 40) := by simp [sync, h]
theorem sync_none (h : m.up = true) (hf : findN m.now s = none) : m.sync s = (m.tick, 2) := by simp [sync, h, tick_now, hf]
theorem sync_some (h : m.up = true) (hf : findN m.now s = some i) : m.sync s = ({ m.tick with files := m.files.set i ⟨(m.fileAt i).b, (m.fileAt i).b.length⟩ }, 0) := by simp [sync, h, tick_now, hf, tick_files, tick_fileAt]
theorem rename_down (h : m.up = false) : m.rename s t = (m.tick, 40) := by simp [rename, h]
theorem rename_none (h : m.up = true) (hf : findN m.now s = none) : m.rename s t = (m.tick, 2) := by simp [rename, h, tick_now, hf]
theorem rename_arg (h : m.up = true) (hf : findN m.now s = some i) (ht : ¬ rightN t) : m.rename s t = (m.tick, 1) := by simp [rename, h, tick_now, hf, ht]
theorem rename_some (h : m.up = true) (hf : findN m.now s = some i) (ht : rightN t) : m.rename s t = (m.tick.does ⟨s, t, i⟩, 0) := by simp [rename, h, tick_now, hf, ht]
theorem remove_down (h : m.up = false) : m.remove s = (m.tick, 40) := by simp [remove, h]
theorem remove_none (h : m.up = true) (hf : findN m.now s = none) : m.remove s = (m.tick, 2) := by simp [remove, h, tick_now, hf]
theorem remove_some (h : m.up = true) (hf : findN m.now s = some i) : m.remove s = (m.tick.does ⟨s, [], i⟩, 0) := by simp [remove, h, tick_now, hf]
theorem syncNames_down (h : m.up = false) : m.syncNames = (m.tick, 40) := by simp [syncNames, h]
theorem syncNames_up (h : m.up = true) : m.syncNames = ({ m.tick with kept := m.now, changes := [] }, 0) := by simp [syncNames, h, tick_now]
theorem names_down (h : m.up = false) : m.names = (m.tick, [], 40) := by simp [names, h]
theorem names_up (h : m.up = true) : m.names = (m.tick, m.now.map Prod.fst, 0) := by simp [names, h, tick_now]
end DiskM

/-! ### how many bytes there are -/

theorem usedOf_le {h : Nat → Bool} : ∀ {l : List FileM} {i : Nat}, DiskM.usedOf h i l ≤ (l.map fun f => f.b.length).sum
  | [], _ => Nat.le_refl _
  | f :: l, i => by
    have := usedOf_le (h := h) (l := l) (i := i + 1)
    simp only [DiskM.usedOf, List.map_cons, List.sum_cons]
    split <;> omega

theorem Wf.used_le {d : DiskM} (h : Wf d) : d.used ≤ d.g := Nat.le_trans usedOf_le h.gf

end Go.Proofs.Ytocmjngleknlbaa.K
