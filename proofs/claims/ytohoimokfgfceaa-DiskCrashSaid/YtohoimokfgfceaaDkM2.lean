/-
  Names as a map holds them.
-/
import Derived.Test.YtohoimokfgfceaaDkP
namespace Go.Proofs.Ytohoimokfgfceaa.K
open Go Go.Proofs

section
variable {κ ν : Type} [DecidableEq κ]

theorem perm_of_atK {l l' : List (κ × ν)} (h : (l.map (·.1)).Nodup) (h' : (l'.map (·.1)).Nodup) (he : ∀ k, atK l k = atK l' k) : l.Perm l' := by
  have nd : ∀ {l : List (κ × ν)}, (l.map (·.1)).Nodup → l.Nodup := fun {l} h => by
    rw [List.Nodup, List.pairwise_map] at h
    exact h.imp fun hab e => hab (by rw [e])
  induction l generalizing l' with
  | nil =>
    cases l' with
    | nil => exact .refl _
    | cons p r => have := he p.1; simp [atK] at this
  | cons p l ih =>
    have hp : (p.1, p.2) ∈ l' := by rw [← atK_mem h', ← he]; simp [atK]
    have hsub := List.append_of_mem hp
    obtain ⟨a, b, e⟩ := hsub
    have hperm : l'.Perm (p :: (a ++ b)) := by rw [e]; exact List.perm_middle
    have hn2 : ((p :: (a ++ b)).map (·.1)).Nodup := ((hperm.map _).nodup_iff).1 h'
    have key : ∀ k, atK l' k = atK (p :: (a ++ b)) k := by
      intro k
      cases h1 : atK l' k with
      | none =>
        rw [atK_none] at h1
        exact (atK_none.2 fun hm => h1 ((hperm.map _).mem_iff.2 hm)).symm
      | some v => exact ((atK_mem hn2).2 (hperm.mem_iff.1 ((atK_mem h').1 h1))).symm
    refine (List.Perm.cons p (ih (l' := a ++ b) (List.nodup_cons.1 h).2 (List.nodup_cons.1 hn2).2 fun k => ?_)).trans hperm.symm
    have h1 := he k
    rw [key k] at h1
    simp only [atK] at h1
    by_cases hk : k = p.1
    · subst hk
      rw [atK_none.2 (List.nodup_cons.1 h).1, atK_none.2 (List.nodup_cons.1 hn2).1]
    · rw [if_neg hk, if_neg hk] at h1
      exact h1

theorem atK_perm {l l' : List (κ × ν)} (h : l.Perm l') (hn : (l.map (·.1)).Nodup) (k : κ) : atK l k = atK l' k := by
  have hn' : (l'.map (·.1)).Nodup := ((h.map _).nodup_iff).1 hn
  cases h1 : atK l k with
  | none =>
    rw [atK_none] at h1
    exact (atK_none.2 fun hm => h1 ((h.map _).mem_iff.2 hm)).symm
  | some v => exact ((atK_mem hn').2 (h.mem_iff.1 ((atK_mem hn).1 h1))).symm
end

variable {ps : List (Option Nat)} {n : Nat} {l : List (Str × Nat)} {ln : List (Str × Option Nat)}

theorem atK_namesP (ps : List (Option Nat)) (l : List (Str × Nat)) (s : Str) : atK (namesP ps l) s = (findN l s).map (at_ ps) := by
  induction l with
  | nil => rfl
  | cons p r ih =>
    simp only [namesP, List.map_cons, atK, findN] at ih ⊢
    by_cases h : p.1 = s
    · rw [if_pos h.symm, if_pos h]; rfl
    · rw [if_neg (fun e => h e.symm), if_neg h]; exact ih

theorem namesP_keys (ps : List (Option Nat)) (l : List (Str × Nat)) : (namesP ps l).map (·.1) = l.map Prod.fst := by simp [namesP]

theorem namesP_nodup (h : NamesOK n l) : ((namesP ps l).map (·.1)).Nodup := by rw [namesP_keys]; exact h.nodup

theorem look_names (h : NamesOK n l) (hp : ln.Perm (namesP ps l)) (s : Str) : atK ln s = (findN l s).map (at_ ps) := by
  rw [← atK_namesP]
  exact atK_perm hp (((hp.map _).nodup_iff).2 (namesP_nodup h)) s

theorem names_nodup (h : NamesOK n l) (hp : ln.Perm (namesP ps l)) : (ln.map (·.1)).Nodup := ((hp.map _).nodup_iff).2 (namesP_nodup h)

/-- a change of names, on a map -/
def doK (ln : List (Str × Option Nat)) (c : Str × Str × Option Nat) : List (Str × Option Nat) := if c.2.1 = [] then delK ln c.1 else putK (delK ln c.1) c.2.1 c.2.2

theorem do_names {c : ChM} (h : NamesOK n l) (h' : NamesOK n (chg l c)) (hp : ln.Perm (namesP ps l)) : (doK ln (chgP ps c)).Perm (namesP ps (chg l c)) := by
  have hn := names_nodup h hp
  have hd : ((doK ln (chgP ps c)).map (·.1)).Nodup := by
    unfold doK
    split
    · exact delK_nodup hn _
    · exact putK_nodup (delK_nodup hn _) _ _
  refine perm_of_atK hd (namesP_nodup h') fun k => ?_
  rw [atK_namesP, findN_chg h.nodup]
  unfold doK chgP
  simp only
  by_cases hc : c.new = []
  · rw [if_pos hc, atK_del hn, look_names h hp]
    simp only [hc, ne_eq, not_true, false_and, if_false]
    split <;> rfl
  · rw [if_neg hc, atK_put, atK_del hn, look_names h hp, if_neg hc]
    simp only [hc, ne_eq, not_false_eq_true, true_and]
    split
    · rfl
    · split <;> rfl

/-! ### names in order -/

theorem cmpB_lt : ∀ {x y : Str}, cmpB x y < 0 ↔ x < y
  | [], [] => by simp [cmpB]
  | [], b :: y => by simp [cmpB]
  | a :: x, [] => by simp [cmpB]
  | a :: x, b :: y => by
    unfold cmpB
    rw [List.cons_lt_cons_iff]
    split
    · rename_i h; simp [h]
    · rename_i h
      split
      · rename_i h2
        have : ¬ a = b := fun e => by subst e; exact h h2
        simp [h, this]
      · rename_i h2
        have := u8_eq h h2
        subst this
        rw [cmpB_lt]
        simp [h]

theorem sorted_unique {l l' : List Str} (h : l.Pairwise fun a b => cmpB a b < 0) (hp : l'.Perm l) : (l'.mergeSort fun x y => decide (x ≤ y)) = l := by
  have tr : ∀ a b c : Str, decide (a ≤ b) = true → decide (b ≤ c) = true → decide (a ≤ c) = true := fun a b c h1 h2 => by
    simp only [decide_eq_true_eq] at *
    exact List.le_trans h1 h2
  have tot : ∀ a b : Str, (decide (a ≤ b) || decide (b ≤ a)) = true := fun a b => by
    simp only [Bool.or_eq_true, decide_eq_true_eq]
    exact List.le_total a b
  refine List.Perm.eq_of_pairwise (le := fun a b => decide (a ≤ b) = true) (fun a b _ _ h1 h2 => ?_) (List.pairwise_mergeSort tr tot _) ?_ ((List.mergeSort_perm _ _).trans hp)
  · simp only [decide_eq_true_eq] at h1 h2
    exact List.le_antisymm h1 h2
  · refine h.imp fun hab => ?_
    simp only [decide_eq_true_eq]
    exact List.le_of_lt (cmpB_lt.1 hab)

end Go.Proofs.Ytohoimokfgfceaa.K
