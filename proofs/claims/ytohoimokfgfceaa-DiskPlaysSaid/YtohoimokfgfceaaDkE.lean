/-
  What acts leave as it was (plain laws of DiskM).
-/
import Derived.Test.YtohoimokfgfceaaDkB
namespace Go.Proofs.Ytohoimokfgfceaa.K

namespace DiskM
variable {m : DiskM} {x : ActM}

theorem act_wf (h : Wf m) (hn : i64B x.n) : Wf (m.act x).1 := by
  unfold act
  unfold i64B at hn
  repeat' split
  · exact h.create _
  · exact h.read _
  · exact h.sync _
  · exact h.rename _ _
  · exact h.remove _
  · exact h.syncNames
  · exact h.names
  · exact h.doom (by omega)
  · exact h.crash _ _
  · exact h.grow _
  · exact h.append _ _

theorem does_g {c : ChM} : (m.does c).g = m.g + 1 := rfl

theorem act_g : (m.act x).1.g ≤ m.g + (2 + x.b.length) := by
  unfold act
  repeat' split
  · unfold create; dsimp only; repeat' split
    all_goals first | (simp only [does_g, tick_g]; omega) | (rw [tick_g]; omega)
  · unfold read; dsimp only; repeat' split
    all_goals (rw [tick_g]; omega)
  · unfold sync; dsimp only; repeat' split
    all_goals (simp only [tick_g]; omega)
  · unfold rename; dsimp only; repeat' split
    all_goals first | (simp only [does_g, tick_g]; omega) | (rw [tick_g]; omega)
  · unfold remove; dsimp only; repeat' split
    all_goals first | (simp only [does_g, tick_g]; omega) | (rw [tick_g]; omega)
  · unfold syncNames; dsimp only; repeat' split
    all_goals (simp only [tick_g]; omega)
  · unfold names; dsimp only; repeat' split
    all_goals (simp only [tick_g]; omega)
  · unfold doom; repeat' split
    all_goals (dsimp only; omega)
  · unfold crash; dsimp only; omega
  · unfold grow; repeat' split
    all_goals (dsimp only; omega)
  · unfold append; dsimp only; repeat' split
    all_goals (simp only [tick_g]; omega)

theorem act_room (hk : x.kind.toNat % 13 ≠ 12) : (m.act x).1.room = m.room := by
  unfold act
  rw [if_neg hk]
  repeat' split
  · unfold create does; dsimp only; repeat' split
    all_goals simp only [tick_room]
  · unfold read; dsimp only; repeat' split
    all_goals simp only [tick_room]
  · unfold sync; dsimp only; repeat' split
    all_goals simp only [tick_room]
  · unfold rename does; dsimp only; repeat' split
    all_goals simp only [tick_room]
  · unfold remove does; dsimp only; repeat' split
    all_goals simp only [tick_room]
  · unfold syncNames; dsimp only; repeat' split
    all_goals simp only [tick_room]
  · unfold names; dsimp only; repeat' split
    all_goals simp only [tick_room]
  · unfold doom; repeat' split
    all_goals rfl
  · rfl
  · unfold append; dsimp only; repeat' split
    all_goals simp only [tick_room]

end DiskM

/-- a part of other numbers -/
theorem sum_sub {f : Nat → Nat} : ∀ {l1 l2 : List Nat}, l1.Nodup → (∀ i ∈ l1, i ∈ l2) → (l1.map f).sum ≤ (l2.map f).sum
  | [], _, _, _ => Nat.zero_le _
  | a :: l, l2, hn, hs => by
    have ha : a ∈ l2 := hs a (.head _)
    obtain ⟨p, q, e⟩ := List.append_of_mem ha
    obtain ⟨h1, h2⟩ := List.nodup_cons.1 hn
    have := sum_sub (f := f) (l1 := l) (l2 := p ++ q) h2 fun i hi => by
      have h3 := hs i (.tail _ hi)
      rw [e] at h3
      rcases List.mem_append.1 h3 with h | h
      · exact List.mem_append_left _ h
      · rcases List.mem_cons.1 h with rfl | h
        · exact absurd hi h1
        · exact List.mem_append_right _ h
    rw [e]
    simp only [List.map_append, List.map_cons, List.sum_append, List.sum_cons] at this ⊢
    omega

end Go.Proofs.Ytohoimokfgfceaa.K
