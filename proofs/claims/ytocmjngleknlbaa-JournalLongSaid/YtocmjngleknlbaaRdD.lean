/-
  The reference's disk: how many bytes there are.
-/
import Derived.Test.YtocmjngleknlbaaRdA
namespace Go.Proofs.Ytocmjngleknlbaa.K
open Go Go.Proofs
variable {Γ Γ' : Mem} {L L' L'' : List HP} {w w' : World} {A B : HP}
set_option maxRecDepth 100000
set_option maxHeartbeats 4000000

def hasT (n : Nat) (P : Nat → Bool) : List Bool := (List.range n).map P
theorem hasT_len (n : Nat) (P : Nat → Bool) : (hasT n P).length = n := by simp [hasT]
theorem hasT_no (n : Nat) : List.replicate n false = hasT n fun _ => false := by
  unfold hasT
  rw [List.map_const', List.length_range]
theorem hasT_get {n i : Nat} {P : Nat → Bool} (h : i < n) : (hasT n P)[i]? = some (P i) := by simp [hasT, h]
theorem hasT_set {n i : Nat} {P : Nat → Bool} : (hasT n P).set i true = hasT n fun j => P j || i == j := by
  apply List.ext_getElem?
  intro j
  rw [List.getElem?_set, hasT_len]
  by_cases hij : i = j
  · subst hij
    rw [if_pos rfl]
    by_cases hi : i < n
    · rw [if_pos hi, hasT_get hi]; simp
    · rw [if_neg hi, List.getElem?_eq_none (by rw [hasT_len]; omega)]
  · rw [if_neg hij]
    by_cases hj : j < n
    · rw [hasT_get hj, hasT_get hj]; simp [hij]
    · rw [List.getElem?_eq_none (by rw [hasT_len]; omega), List.getElem?_eq_none (by rw [hasT_len]; omega)]
theorem eFileR_after {Γ : Mem} {y : eFileR.sh.T} {x : FileM} (h : eFileR.r Γ y x) : ∃ s : Sl, Bytes Γ s x.b ∧ y = (s, (x.kept : Int)) := by
  obtain ⟨y1, y2⟩ := y
  obtain ⟨h1, h2⟩ := h
  exact ⟨y1, h1, by rw [show y2 = (x.kept : Int) from h2]⟩
theorem hasT_congr {n : Nat} {P Q : Nat → Bool} (h : ∀ j, P j = Q j) : hasT n P = hasT n Q := by rw [show P = Q from funext h]

theorem any_snoc {α : Type} {l : List α} {i : Nat} {x : α} {p : α → Bool} (h : l[i]? = some x) : (l.take (i + 1)).any p = ((l.take i).any p || p x) := by
  rw [List.take_add_one, h, List.any_append]
  simp

theorem ChOK.at_ {n : Nat} {l : List (Str × Nat)} {cs : List ChM} (h : ChOK n l cs) : ∀ {i : Nat} {c : ChM}, cs[i]? = some c → FitC ((cs.take i).foldl K.chg l) c ∧ c.file < n := by
  induction h with
  | nil => intro i c e; simp at e
  | cons h1 h2 h3 ih =>
    intro i c e
    cases i with
    | zero =>
      simp only [List.getElem?_cons_zero, Option.some.injEq] at e
      subst e
      exact ⟨h1, h2⟩
    | succ i =>
      simp only [List.getElem?_cons_succ] at e
      have := ih e
      rwa [List.take_succ_cons, List.foldl_cons]

theorem usedOf_snoc (h : Nat → Bool) : ∀ (l : List FileM) (k : Nat) (f : FileM), DiskM.usedOf h k (l ++ [f]) = DiskM.usedOf h k l + (if h (k + l.length) then f.b.length else 0)
  | [], k, f => by simp [DiskM.usedOf]
  | x :: l, k, f => by
    rw [List.cons_append, DiskM.usedOf, usedOf_snoc h l (k + 1) f, DiskM.usedOf, List.length_cons, show k + 1 + l.length = k + (l.length + 1) by omega, Nat.add_assoc]

end Go.Proofs.Ytocmjngleknlbaa.K

/-
  The reference's disk: its calls.
-/
namespace Go.Proofs.Ytocmjngleknlbaa.K
open Go Go.Proofs
variable {Γ Γ' : Mem} {L L' L'' : List HP} {w w' : World} {A B : HP}
set_option maxRecDepth 100000
set_option maxHeartbeats 1000000

end Go.Proofs.Ytocmjngleknlbaa.K
