/-
  The disk, as plain lists: files, names, changes; what each call does.
-/
import Derived.Test.YtohoimokfgfceaaEngM
namespace Go.Proofs.Ytohoimokfgfceaa.K

abbrev Str := List UInt8

structure FileM where
  b : Str
  kept : Nat
  deriving DecidableEq

/-- a change of names: one that goes (or none), one that is given to a file (or none); the file -/
structure ChM where
  gone : Str
  new : Str
  file : Nat
  deriving DecidableEq

/-- 'g' bounds all that there is: it grows with what is done -/
structure DiskM where
  files : List FileM
  now : List (Str × Nat)
  kept : List (Str × Nat)
  changes : List ChM
  room : Int
  down : Bool
  doomed : Bool
  left : Int
  g : Nat

def findN : List (Str × Nat) → Str → Option Nat
  | [], _ => none
  | p :: r, s => if p.1 = s then some p.2 else findN r s

def without (l : List (Str × Nat)) (s : Str) : List (Str × Nat) := l.filter fun p => !decide (p.1 = s)

def insN : List (Str × Nat) → Str → Nat → List (Str × Nat)
  | [], s, f => [(s, f)]
  | p :: r, s, f => if cmpB s p.1 < 0 then (s, f) :: p :: r else p :: insN r s f

def withN (l : List (Str × Nat)) (s : Str) (f : Nat) : List (Str × Nat) := insN (without l s) s f

def chg (l : List (Str × Nat)) (c : ChM) : List (Str × Nat) := if c.new = [] then without l c.gone else withN (without l c.gone) c.new c.file

def rightN (s : Str) : Prop := 1 ≤ s.length ∧ s.length ≤ 32
instance (s : Str) : Decidable (rightN s) := inferInstanceAs (Decidable (_ ∧ _))

namespace DiskM

def new (room : Int) : DiskM := ⟨[], [], [], [], max room 0, false, false, 0, 0⟩

/-- is it up for what is to be done? -/
def up (d : DiskM) : Bool := !d.down && !(d.doomed && decide (d.left = 0))

def tick (d : DiskM) : DiskM :=
  if d.down then d
  else if d.doomed then (if d.left = 0 then { d with down := true } else { d with left := d.left - 1 })
  else d

def has (d : DiskM) (i : Nat) : Bool := d.kept.any (fun p => p.2 == i) || d.changes.any fun c => !decide (c.new = []) && c.file == i

def usedOf (h : Nat → Bool) : Nat → List FileM → Nat
  | _, [] => 0
  | i, f :: r => (if h i then f.b.length else 0) + usedOf h (i + 1) r

def used (d : DiskM) : Nat := usedOf d.has 0 d.files

def fileAt (d : DiskM) (i : Nat) : FileM := d.files.getD i ⟨[], 0⟩

def does (d : DiskM) (c : ChM) : DiskM := { d with now := chg d.now c, changes := d.changes ++ [c], g := d.g + 1 }

def create (d0 : DiskM) (s : Str) : DiskM × Int :=
  let d := d0.tick
  if d0.up = false then (d, 40) else if ¬ rightN s then (d, 1) else if (findN d.now s).isSome then (d, 4)
  else (({ d with files := d.files ++ [⟨[], 0⟩], g := d.g + 1 } : DiskM).does ⟨[], s, d.files.length⟩, 0)

def append (d0 : DiskM) (s b : Str) : DiskM × Int :=
  let d := d0.tick
  if d0.up = false then (d, 40) else match findN d.now s with
    | none => (d, 2)
    | some i => if (d.used : Int) + b.length > d.room then (d, 41) else ({ d with files := d.files.set i ⟨(d.fileAt i).b ++ b, (d.fileAt i).kept⟩, g := d.g + b.length }, 0)

def read (d0 : DiskM) (s : Str) : DiskM × Str × Int :=
  let d := d0.tick
  if d0.up = false then (d, [], 40) else match findN d.now s with
    | none => (d, [], 2)
    | some i => (d, (d.fileAt i).b, 0)

def sync (d0 : DiskM) (s : Str) : DiskM × Int :=
  let d := d0.tick
  if d0.up = false then (d, 40) else match findN d.now s with
    | none => (d, 2)
    | some i => ({ d with files := d.files.set i ⟨(d.fileAt i).b, (d.fileAt i).b.length⟩ }, 0)

def rename (d0 : DiskM) (s t : Str) : DiskM × Int :=
  let d := d0.tick
  if d0.up = false then (d, 40) else match findN d.now s with
    | none => (d, 2)
    | some i => if ¬ rightN t then (d, 1) else (d.does ⟨s, t, i⟩, 0)

def remove (d0 : DiskM) (s : Str) : DiskM × Int :=
  let d := d0.tick
  if d0.up = false then (d, 40) else match findN d.now s with
    | none => (d, 2)
    | some i => (d.does ⟨s, [], i⟩, 0)

def syncNames (d0 : DiskM) : DiskM × Int :=
  let d := d0.tick
  if d0.up = false then (d, 40) else ({ d with kept := d.now, changes := [] }, 0)

def names (d0 : DiskM) : DiskM × List Str × Int :=
  let d := d0.tick
  if d0.up = false then (d, [], 40) else (d, d.now.map Prod.fst, 0)

def doom (d : DiskM) (n : Int) : DiskM × Int := if n < 0 then (d, 1) else ({ d with doomed := true, left := n }, 0)

def grow (d : DiskM) (n : Int) : DiskM × Int := if n < 0 then (d, 1) else ({ d with room := n }, 0)

/-- how many bytes are left of those that are not kept -/
def leftOf (wb : List Int) (i : Nat) (most : Nat) : Nat := if wb.length = 0 then 0 else min (wb.getD (i % wb.length) 0).toNat most

def atN (d : DiskM) (n : Int) : List (Str × Nat) := (d.changes.take n.toNat).foldl chg d.kept

def fileLeft (d : DiskM) (wb : List Int) (i : Nat) (p : Str × Nat) : FileM :=
  let f := d.fileAt p.2
  let n := f.kept + leftOf wb i (f.b.length - f.kept)
  ⟨f.b.take n, n⟩

def crash (d : DiskM) (wn : Int) (wb : List Int) : DiskM :=
  let at_ := d.atN wn
  let nm := at_.mapIdx fun i p => (p.1, i)
  { files := at_.mapIdx (d.fileLeft wb), now := nm, kept := nm, changes := [], room := d.room, down := false, doomed := false, left := 0, g := d.g }

end DiskM

/-! ### what is so of all disks -/

structure NamesOK (n : Nat) (l : List (Str × Nat)) : Prop where
  sorted : l.Pairwise fun a b => cmpB a.1 b.1 < 0
  right : ∀ p ∈ l, rightN p.1
  lt : ∀ p ∈ l, p.2 < n
  inj : (l.map Prod.snd).Nodup

/-- a change that fits -/
def FitC (l : List (Str × Nat)) (c : ChM) : Prop :=
  (c.gone = [] ∧ rightN c.new ∧ findN l c.new = none ∧ c.file ∉ l.map Prod.snd) ∨ (rightN c.gone ∧ findN l c.gone = some c.file ∧ (c.new = [] ∨ rightN c.new))

inductive ChOK (n : Nat) : List (Str × Nat) → List ChM → Prop
  | nil {l : List (Str × Nat)} : ChOK n l []
  | cons {l : List (Str × Nat)} {c : ChM} {cs : List ChM} : FitC l c → c.file < n → ChOK n (chg l c) cs → ChOK n l (c :: cs)

structure Wf (d : DiskM) : Prop where
  kept : NamesOK d.files.length d.kept
  chs : ChOK d.files.length d.kept d.changes
  now : d.now = d.changes.foldl chg d.kept
  fk : ∀ f ∈ d.files, f.kept ≤ f.b.length
  room : 0 ≤ d.room
  left : 0 ≤ d.left
  leftU : d.left < 9223372036854775808
  gf : (d.files.map fun f => f.b.length).sum ≤ d.g
  gn : d.kept.length + d.changes.length ≤ d.g
  gl : d.files.length ≤ d.g

end Go.Proofs.Ytohoimokfgfceaa.K
