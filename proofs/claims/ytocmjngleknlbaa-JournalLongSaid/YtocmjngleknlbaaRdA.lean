/-
  The reference's disk: names as lists: find, without, with, change.
-/
import Derived.Test.YtocmjngleknlbaaDkR
import Derived.Test.YtocmjngleknlbaaEngP
namespace Go.Proofs.Ytocmjngleknlbaa.K
open Go Go.Proofs
variable {Γ Γ' : Mem} {L L' L'' : List HP} {w w' : World} {A B : HP}
set_option maxRecDepth 100000
set_option maxHeartbeats 4000000

theorem eNameR_after {Γ : Mem} {y : eNameR.sh.T} {x : Str × Nat} (h : eNameR.r Γ y x) : y = (str x.1, (x.2 : Int)) := by
  obtain ⟨y1, y2⟩ := y
  obtain ⟨h1, h2⟩ := h
  exact Prod.ext h1 h2

def foundI (o : Option Nat) : Int := match o with
  | some i => (i : Int)
  | none => -1

end Go.Proofs.Ytocmjngleknlbaa.K

/-
  The reference's disk: what is shared by its calls.
-/
namespace Go.Proofs.Ytocmjngleknlbaa.K
open Go Go.Proofs
variable {Γ Γ' : Mem} {L L' L'' : List HP} {w w' : World} {A B : HP}
set_option maxRecDepth 100000
set_option maxHeartbeats 4000000

end Go.Proofs.Ytocmjngleknlbaa.K

/-
  The reference's disk: a change of names.
-/
namespace Go.Proofs.Ytocmjngleknlbaa.K
open Go Go.Proofs
variable {Γ Γ' : Mem} {L L' L'' : List HP} {w w' : World} {A B : HP}
set_option maxRecDepth 100000
set_option maxHeartbeats 4000000

theorem eChgR_after {Γ : Mem} {y : eChgR.sh.T} {x : ChM} (h : eChgR.r Γ y x) : ∃ s : Int, (x.gone = [] → s = (x.file : Int)) ∧ y = (str x.gone, str x.new, s) := by
  obtain ⟨y1, y2, y3⟩ := y
  obtain ⟨h1, h2, h3⟩ := h
  exact ⟨y3, h3, by rw [show y1 = str x.gone from h1, show y2 = str x.new from h2]⟩

theorem NamesOK.find_nil {n : Nat} {l : List (Str × Nat)} (h : NamesOK n l) : findN l [] = none :=
  findN_none.2 fun p hp e => rightN_ne (h.right p hp) e

theorem NamesOK.without_nil {n : Nat} {l : List (Str × Nat)} (h : NamesOK n l) : K.without l [] = l := by
  unfold K.without
  rw [List.filter_eq_self]
  intro p hp
  have := rightN_ne (h.right p hp)
  simp [this]

/-- a change's file is told where it is a new one -/
def chI (c : ChM) (f : Int) : Prop := c.gone = [] → f = (c.file : Int)

end Go.Proofs.Ytocmjngleknlbaa.K
