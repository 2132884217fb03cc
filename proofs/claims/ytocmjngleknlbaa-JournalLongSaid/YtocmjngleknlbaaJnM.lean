/-
  journal: what it does of a disk, as plain lists; what is told behind crashes.
-/
import Derived.Test.YtocmjngleknlbaaPlL
import Derived.Test.YtocmjngleknlbaaRnM
namespace Go.Proofs.Ytocmjngleknlbaa.K

abbrev jnS : Str := [106, 111, 117, 114, 110, 97, 108]

def openJ (m : DiskM) : DiskM × List Str × Int :=
  if (m.read jnS).2.2 = 0 then
    (if (allB (m.read jnS).2.1).2 = (m.read jnS).2.1.length then ((m.read jnS).1, (allB (m.read jnS).2.1).1, 0)
     else if (putP (m.read jnS).1 jnS ((m.read jnS).2.1.take (allB (m.read jnS).2.1).2)).2 = 0 then ((putP (m.read jnS).1 jnS ((m.read jnS).2.1.take (allB (m.read jnS).2.1).2)).1, (allB (m.read jnS).2.1).1, 0)
     else ((putP (m.read jnS).1 jnS ((m.read jnS).2.1.take (allB (m.read jnS).2.1).2)).1, [], (putP (m.read jnS).1 jnS ((m.read jnS).2.1.take (allB (m.read jnS).2.1).2)).2))
  else if (m.read jnS).2.2 = 2 then ((m.read jnS).1, [], 0)
  else ((m.read jnS).1, [], (m.read jnS).2.2)

def addJ (m : DiskM) (x : Str) : DiskM × Int := if 4096 < x.length then (m, 3) else growM m jnS (frameB x)
def beginJ (m : DiskM) : DiskM × Int := putP m jnS []

namespace DiskM
variable {m m' : DiskM} {n : Int} {wb : List Int} {x : Str}

theorem jn_right : rightP jnS := by decide

/-- a beginning of a frame that is not all of it is none -/
theorem takeF_part {x : Str} (hx : x.length ≤ 4096) {k : Nat} (hk : k < (frameB x).length) : ∃ e, takeF ((frameB x).take k) = .error e := by
  rw [frameB_len] at hk
  have hl : ((frameB x).take k).length = k := by rw [List.length_take, frameB_len]; omega
  unfold takeF
  by_cases h4 : k < 4
  · rw [hl, if_pos h4]; exact ⟨_, rfl⟩
  · have e4 : ((frameB x).take k).take 4 = fixN x.length 4 := by
      rw [List.take_take, Nat.min_eq_left (by omega)]
      unfold frameB sealB
      rw [List.append_assoc]
      have := List.take_left (l₁ := fixN x.length 4) (l₂ := x ++ le4 (crc (fixN x.length 4 ++ x)))
      rwa [fixN_len] at this
    have en : unfix (((frameB x).take k).take 4) = x.length := by
      rw [e4, unfix_fixN]
      exact Nat.mod_eq_of_lt (by omega)
    rw [hl, if_neg h4, en, if_neg (by omega), if_pos (by omega)]
    exact ⟨_, rfl⟩

theorem allB_part {x : Str} (hx : x.length ≤ 4096) {k : Nat} (hk : k < (frameB x).length) : allB ((frameB x).take k) = ([], 0) := by
  obtain ⟨e, h⟩ := takeF_part hx hk
  exact allB_error h

theorem allB_more {l : List Str} (hl : ∀ y ∈ l, y.length ≤ 4096) {x : Str} (hx : x.length ≤ 4096) {k : Nat} (hk : k ≤ (frameB x).length) :
    allB (framesB l ++ (frameB x).take k) = if k = (frameB x).length then (l ++ [x], (framesB (l ++ [x])).length) else (l, (framesB l).length) := by
  rw [allB_frames l _ hl]
  by_cases h : k = (frameB x).length
  · rw [if_pos h, List.take_of_length_le (by omega)]
    have := allB_frame hx []
    rw [List.append_nil, allB_error (b := []) (e := 5) rfl] at this
    rw [this]
    simp [framesB, frameB_len]
  · rw [if_neg h, allB_part hx (by omega)]
    simp

/-- what is told of a journal -/
theorem open_firm (hq : quiet m) (hm : Firm m) : (openJ m).2.2 = 0 ∧ (openJ m).2.1 = (allB (cont m jnS).1).1 ∨ (openJ m).2.2 ≠ 0 := by
  by_cases h : (openJ m).2.2 = 0
  · left
    refine ⟨h, ?_⟩
    have hr := quiet_cont (s := jnS) hq
    unfold openJ at h ⊢
    rw [hr] at h ⊢
    by_cases h0 : (cont m jnS).2 = 0
    · rw [if_pos h0] at h ⊢
      by_cases h1 : (allB (cont m jnS).1).2 = (cont m jnS).1.length
      · rw [if_pos h1]
      · rw [if_neg h1] at h ⊢
        by_cases h2 : (putP (m.read jnS).1 jnS ((cont m jnS).1.take (allB (cont m jnS).1).2)).2 = 0
        · rw [if_pos h2]
        · rw [if_neg h2] at h
          exact absurd h h2
    · rw [if_neg h0] at h ⊢
      by_cases h2 : (cont m jnS).2 = 2
      · rw [if_pos h2]
        unfold cont at h0 h2 ⊢
        cases e : findN m.now jnS with
        | none => rw [e] at h0; rfl
        | some i => rw [e] at h0; exact absurd rfl h0
      · rw [if_neg h2] at h
        exact absurd h h0
  · exact .inr h

end DiskM
end Go.Proofs.Ytocmjngleknlbaa.K
