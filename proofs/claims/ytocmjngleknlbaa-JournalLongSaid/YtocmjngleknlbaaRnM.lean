/-
  run: what it does of a disk, and what it tells, as plain lists.
-/
import Derived.Test.YtocmjngleknlbaaPlM
import Derived.Test.YtocmjngleknlbaaFrM
namespace Go.Proofs.Ytocmjngleknlbaa.K

def startM (m : DiskM) : DiskM × Int := if (m.remove tmpS).2 ≠ 0 ∧ (m.remove tmpS).2 ≠ 2 then m.remove tmpS else (m.remove tmpS).1.create tmpS

/-- is it greater than the last one, if there was one? -/
def risesB (last : Option Str) (x : Str) : Prop := match last with
  | none => True
  | some y => cmpB y x < 0
instance (last : Option Str) (x : Str) : Decidable (risesB last x) := by unfold risesB; split <;> infer_instance

def addM (m : DiskM) (last : Option Str) (x : Str) : DiskM × Int :=
  if 64 < x.length then (m, 3) else if ¬ risesB last x then (m, 130) else m.append tmpS (frameB x)

def endM (m : DiskM) (name : Str) : DiskM × Int :=
  if ¬ rightP name then (m, 1) else runAll [fun m => m.sync tmpS, fun m => m.rename tmpS name, fun m => m.syncNames] m

/-- what the next record is: what is told, and what is left; none: bad -/
def nextR (b : Str) (last : Option Str) : Option (Str × Str) := match takeF b with
  | .error _ => none
  | .ok (x, n) => if x.length ≤ 64 ∧ risesB last x then some (x, b.drop n) else none

/-- records of frames, one behind the other; 'more': behind them there is something else -/
def recsL (more : Bool) : Option Str → List Str → List (Str × Int)
  | _, [] => if more = true then [([], 6)] else []
  | last, x :: r => if x.length ≤ 64 ∧ risesB last x then (x, 0) :: recsL more (some x) r else [([], 6)]

def listM (b : Str) : List (Str × Int) := recsL (decide ((allB b).2 < b.length)) none (allB b).1

def recsB (last : Option Str) (b : Str) : List (Str × Int) := recsL (decide ((allB b).2 < b.length)) last (allB b).1

theorem allB_le (b : Str) : (allB b).2 ≤ b.length := by
  have key : ∀ (n : Nat) (b : Str), b.length ≤ n → (allB b).2 ≤ b.length := by
    intro n
    induction n with
    | zero =>
      intro b hb
      have : b = [] := List.eq_nil_of_length_eq_zero (by omega)
      subst this
      rw [allB_error (e := 5) rfl]
      exact Nat.le_refl _
    | succ n ih =>
      intro b hb
      cases h : takeF b with
      | error e => rw [allB_error h]; exact Nat.zero_le _
      | ok p =>
        obtain ⟨x, k⟩ := p
        obtain ⟨h1, _, h3, _⟩ := takeF_ok h
        rw [allB_ok h]
        have := ih (b.drop k) (by rw [List.length_drop]; omega)
        rw [List.length_drop] at this
        dsimp only
        omega
  exact key b.length b (Nat.le_refl _)

theorem recsB_nil (last : Option Str) : recsB last [] = [] := by
  unfold recsB
  rw [allB_error (e := 5) rfl]
  rfl

theorem recsB_bad {b : Str} {last : Option Str} (hb : b ≠ []) (h : nextR b last = none) : recsB last b = [([], 6)] := by
  have hl : 1 ≤ b.length := Nat.pos_of_ne_zero fun e => hb (List.eq_nil_of_length_eq_zero e)
  unfold nextR at h
  unfold recsB
  cases ht : takeF b with
  | error e =>
    rw [allB_error ht]
    dsimp only
    rw [recsL, decide_eq_true (by omega : 0 < b.length), if_pos rfl]
  | ok p =>
    obtain ⟨x, n⟩ := p
    rw [ht] at h
    dsimp only at h
    rw [allB_ok ht]
    dsimp only
    rw [recsL]
    split at h
    · cases h
    · rename_i h1
      rw [if_neg h1]

theorem recsB_next {b x r : Str} {last : Option Str} (h : nextR b last = some (x, r)) : recsB last b = (x, 0) :: recsB (some x) r := by
  unfold nextR at h
  unfold recsB
  cases ht : takeF b with
  | error e => rw [ht] at h; cases h
  | ok p =>
    obtain ⟨y, n⟩ := p
    rw [ht] at h
    dsimp only at h
    split at h
    · rename_i h1
      cases h
      obtain ⟨h2, _, h3, _⟩ := takeF_ok ht
      rw [allB_ok ht]
      dsimp only
      rw [recsL, if_pos h1]
      congr 2
      have hl : (b.drop n).length = b.length - n := List.length_drop
      have hle := allB_le (b.drop n)
      by_cases hm : (allB (b.drop n)).2 < (b.drop n).length
      · rw [decide_eq_true hm, decide_eq_true (by omega)]
      · rw [decide_eq_false hm, decide_eq_false (by omega)]
    · cases h

theorem recsB_len {last : Option Str} : ∀ (n : Nat) (b : Str) (last : Option Str), b.length ≤ n → (recsB last b).length ≤ b.length
  | 0, b, last, h => by
    have : b = [] := List.eq_nil_of_length_eq_zero (by omega)
    subst this; rw [recsB_nil]; exact Nat.le_refl _
  | n + 1, b, last, h => by
    by_cases hb : b = []
    · subst hb; rw [recsB_nil]; exact Nat.le_refl _
    have hl : 1 ≤ b.length := Nat.pos_of_ne_zero fun e => hb (List.eq_nil_of_length_eq_zero e)
    cases hx : nextR b last with
    | none => rw [recsB_bad hb hx]; exact hl
    | some p =>
      obtain ⟨x, r⟩ := p
      rw [recsB_next hx]
      have hr : r.length + 8 ≤ b.length := by
        unfold nextR at hx
        cases ht : takeF b with
        | error e => rw [ht] at hx; cases hx
        | ok p =>
          obtain ⟨y, k⟩ := p
          rw [ht] at hx
          dsimp only at hx
          split at hx
          · cases hx
            obtain ⟨h2, _, h3, _⟩ := takeF_ok ht
            rw [List.length_drop]; omega
          · cases hx
      have := recsB_len (last := last) n r (some x) (by omega)
      simp only [List.length_cons]
      omega

/-- frames, one behind the other -/
def framesB (l : List Str) : Str := (l.map frameB).flatten

theorem allB_frames : ∀ (l : List Str) (r : Str), (∀ x ∈ l, x.length ≤ 4096) → allB (framesB l ++ r) = (l ++ (allB r).1, (framesB l).length + (allB r).2)
  | [], r, _ => by simp [framesB]
  | x :: l, r, h => by
    have e : framesB (x :: l) ++ r = frameB x ++ (framesB l ++ r) := by simp [framesB]
    rw [e, allB_frame (h x (.head _)), allB_frames l r fun y hy => h y (.tail _ hy)]
    have e2 : (framesB (x :: l)).length = x.length + 8 + (framesB l).length := by simp [framesB, frameB_len]
    rw [e2]
    simp
    omega

/-- rising records -/
def RiseL : Option Str → List Str → Prop
  | _, [] => True
  | last, x :: r => (x.length ≤ 64 ∧ risesB last x) ∧ RiseL (some x) r

theorem recsL_rise : ∀ (l : List Str) (last : Option Str), RiseL last l → recsL false last l = l.map fun x => (x, 0)
  | [], last, _ => rfl
  | x :: l, last, h => by
    rw [recsL, if_pos h.1, recsL_rise l (some x) h.2]
    rfl

theorem listM_frames {l : List Str} (h : RiseL none l) (hl : ∀ x ∈ l, x.length ≤ 64) : listM (framesB l) = l.map fun x => (x, 0) := by
  unfold listM
  have := allB_frames l [] fun x hx => by have := hl x hx; omega
  rw [List.append_nil, allB_error (b := []) (e := 5) rfl] at this
  rw [this]
  simp only [List.append_nil, Nat.add_zero, Nat.lt_irrefl, decide_false]
  exact recsL_rise l none h

end Go.Proofs.Ytocmjngleknlbaa.K
