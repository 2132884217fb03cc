/-
  The plain law of a tree of losers: who lost nowhere is the least; what is played again above one leaf is all that turns.
-/
import Derived.Test.YtohoimokfgfceaaEngM
namespace Go.Proofs.Ytohoimokfgfceaa.K

/-- a head: bytes, and whether there are any -/
abbrev Hd := List UInt8 × Bool

def cmpH (a b : Hd) : Int := match a.2, b.2 with
  | true, true => cmpB a.1 b.1
  | true, false => -1
  | false, true => 1
  | false, false => 0

def hd (hs : List Hd) (i : Nat) : Hd := hs.getD i ([], false)

/-- does a row beat another one? -/
def beats (hs : List Hd) (a b : Nat) : Bool :=
  let c := cmpH (hd hs a) (hd hs b)
  if c = 0 then decide (a < b) else decide (c < 0)

theorem cmpH_neg (a b : Hd) : cmpH b a = - cmpH a b := by
  unfold cmpH
  rcases a with ⟨a, _ | _⟩ <;> rcases b with ⟨b, _ | _⟩ <;> simp [cmpB_neg a b]

theorem cmpH_zero {a b : Hd} : cmpH a b = 0 ↔ a.2 = b.2 ∧ (a.2 = true → a.1 = b.1) := by
  unfold cmpH
  rcases a with ⟨a, _ | _⟩ <;> rcases b with ⟨b, _ | _⟩ <;> simp [cmpB_eq_zero]

theorem cmpH_trans {a b c : Hd} (h : cmpH a b < 0) (h' : cmpH b c < 0) : cmpH a c < 0 := by
  unfold cmpH at *
  rcases a with ⟨a, _ | _⟩ <;> rcases b with ⟨b, _ | _⟩ <;> rcases c with ⟨c, _ | _⟩ <;> simp at * <;> exact cmpB_trans h h'

theorem cmpH_zero_left {a b c : Hd} (h : cmpH a b = 0) : cmpH a c = cmpH b c := by
  obtain ⟨h1, h2⟩ := cmpH_zero.1 h
  unfold cmpH
  rcases a with ⟨a, _ | _⟩ <;> rcases b with ⟨b, _ | _⟩ <;> rcases c with ⟨c, _ | _⟩ <;> simp at * <;> simp [h2]

theorem beats_irr (hs : List Hd) (a : Nat) : beats hs a a = false := by
  unfold beats
  have : cmpH (hd hs a) (hd hs a) = 0 := cmpH_zero.2 ⟨rfl, fun _ => rfl⟩
  simp [this]

theorem beats_total {hs : List Hd} {a b : Nat} (h : a ≠ b) : beats hs a b = !beats hs b a := by
  unfold beats
  have hn := cmpH_neg (hd hs a) (hd hs b)
  by_cases h0 : cmpH (hd hs a) (hd hs b) = 0
  · have h0' : cmpH (hd hs b) (hd hs a) = 0 := by omega
    simp only [h0, h0', if_true]
    by_cases hab : a < b
    · simp [hab, Nat.lt_asymm hab]
    · have : b < a := by omega
      simp [hab, this]
  · have h0' : ¬ cmpH (hd hs b) (hd hs a) = 0 := by omega
    simp only [h0, h0', if_false]
    by_cases hc : cmpH (hd hs a) (hd hs b) < 0
    · have : ¬ cmpH (hd hs b) (hd hs a) < 0 := by omega
      simp [hc, this]
    · have : cmpH (hd hs b) (hd hs a) < 0 := by omega
      simp [hc, this]

theorem beats_trans {hs : List Hd} {a b c : Nat} (h : beats hs a b = true) (h' : beats hs b c = true) : beats hs a c = true := by
  unfold beats at *
  by_cases h0 : cmpH (hd hs a) (hd hs b) = 0
  · have e := cmpH_zero_left (c := hd hs c) h0
    simp only [h0, if_true, decide_eq_true_eq] at h
    rw [e]
    by_cases h1 : cmpH (hd hs b) (hd hs c) = 0
    · simp only [h1, if_true, decide_eq_true_eq] at h' ⊢
      omega
    · simp only [h1, if_false] at h' ⊢
      exact h'
  · simp only [h0, if_false, decide_eq_true_eq] at h
    by_cases h1 : cmpH (hd hs b) (hd hs c) = 0
    · have e : cmpH (hd hs a) (hd hs c) = cmpH (hd hs a) (hd hs b) := by
        have h2 := cmpH_neg (hd hs b) (hd hs c)
        have h3 := cmpH_zero_left (a := hd hs c) (b := hd hs b) (c := hd hs a) (by omega)
        have h4 := cmpH_neg (hd hs a) (hd hs c)
        have h5 := cmpH_neg (hd hs a) (hd hs b)
        omega
      rw [e]
      simp only [h0, if_false, decide_eq_true_eq]
      exact h
    · simp only [h1, if_false, decide_eq_true_eq] at h'
      have h2 := cmpH_trans h h'
      have h3 : ¬ cmpH (hd hs a) (hd hs c) = 0 := by omega
      simp only [h3, if_false, decide_eq_true_eq]
      exact h2

/-- who wins below a place -/
def win (hs : List Hd) (k n : Nat) : Nat :=
  if h : n = 0 ∨ k ≤ n then n - k
  else if beats hs (win hs k (2 * n)) (win hs k (2 * n + 1)) then win hs k (2 * n) else win hs k (2 * n + 1)
termination_by k - n

/-- who loses at a place -/
def lose (hs : List Hd) (k n : Nat) : Nat :=
  if beats hs (win hs k (2 * n)) (win hs k (2 * n + 1)) then win hs k (2 * n + 1) else win hs k (2 * n)

theorem win_leaf {hs : List Hd} {k n : Nat} (h : k ≤ n) : win hs k n = n - k := by
  rw [win, dif_pos (.inr h)]

theorem win_node {hs : List Hd} {k n : Nat} (h0 : 0 < n) (h : n < k) :
    win hs k n = if beats hs (win hs k (2 * n)) (win hs k (2 * n + 1)) then win hs k (2 * n) else win hs k (2 * n + 1) := by
  rw [win, dif_neg (by omega)]

/-- a place stands below another one, or is it -/
inductive Below' : Nat → Nat → Prop
  | refl (n : Nat) : Below' n n
  | step {n m : Nat} : Below' n (m / 2) → Below' n m

theorem Below'.le {n m : Nat} (h : Below' n m) : n ≤ m := by
  induction h with
  | refl => exact Nat.le_refl _
  | step _ ih => omega

theorem Below'.cases' {n m : Nat} (h : Below' n m) : m = n ∨ Below' (2 * n) m ∨ Below' (2 * n + 1) m := by
  induction h with
  | refl => exact .inl rfl
  | @step m _ ih =>
    rcases ih with h | h | h
    · rcases (by omega : m = 2 * n ∨ m = 2 * n + 1) with h | h
      · exact .inr (.inl (h ▸ .refl _))
      · exact .inr (.inr (h ▸ .refl _))
    · exact .inr (.inl (.step h))
    · exact .inr (.inr (.step h))

theorem Below'.up {n m : Nat} (h : Below' n m) (hn : 1 < n) : Below' (n / 2) m := by
  induction h with
  | refl => exact .step (.refl _)
  | step _ ih => exact .step ih

theorem below_one {m : Nat} (h : 0 < m) : Below' 1 m := by
  induction m using Nat.strongRecOn with
  | _ m ih =>
    by_cases h1 : m = 1
    · subst h1; exact .refl _
    · exact .step (ih (m / 2) (by omega) (by omega))

/-- the winner of a place is a row of a leaf below it, and beats all others -/
theorem win_spec (hs : List Hd) (k : Nat) : ∀ (d n : Nat), k - n = d → 0 < n → n < 2 * k → (Below' n (k + win hs k n) ∧ win hs k n < k) ∧ ∀ r, r < k → Below' n (k + r) → r = win hs k n ∨ beats hs (win hs k n) r = true := by
  intro d
  induction d using Nat.strongRecOn with
  | _ d ih =>
    intro n hd h0 h2
    by_cases hk : k ≤ n
    · rw [win_leaf hk]
      refine ⟨⟨by rw [show k + (n - k) = n by omega]; exact .refl _, by omega⟩, fun r hr hb => .inl ?_⟩
      rcases hb.cases' with h | h | h
      · omega
      · have := h.le; omega
      · have := h.le; omega
    · have hk : n < k := by omega
      obtain ⟨⟨a1, a2⟩, a3⟩ := ih (k - 2 * n) (by omega) (2 * n) rfl (by omega) (by omega)
      obtain ⟨⟨b1, b2⟩, b3⟩ := ih (k - (2 * n + 1)) (by omega) (2 * n + 1) rfl (by omega) (by omega)
      have u1 : ∀ m, Below' (2 * n) m → Below' n m := fun m h => by have := h.up (by omega); rwa [show 2 * n / 2 = n by omega] at this
      have u2 : ∀ m, Below' (2 * n + 1) m → Below' n m := fun m h => by have := h.up (by omega); rwa [show (2 * n + 1) / 2 = n by omega] at this
      rw [win_node h0 hk]
      by_cases hb : beats hs (win hs k (2 * n)) (win hs k (2 * n + 1)) = true
      · rw [if_pos hb]
        refine ⟨⟨u1 _ a1, a2⟩, fun r hr hbr => ?_⟩
        rcases hbr.cases' with h | h | h
        · omega
        · exact a3 r hr h
        · rcases b3 r hr h with h | h
          · subst h; exact .inr hb
          · exact .inr (beats_trans hb h)
      · rw [if_neg hb]
        refine ⟨⟨u2 _ b1, b2⟩, fun r hr hbr => ?_⟩
        rcases hbr.cases' with h | h | h
        · omega
        · by_cases he : win hs k (2 * n) = win hs k (2 * n + 1)
          · rw [← he]; exact a3 r hr h
          · have hb' : beats hs (win hs k (2 * n + 1)) (win hs k (2 * n)) = true := by
              rw [beats_total (Ne.symm he)]; simp [hb]
            rcases a3 r hr h with h | h
            · subst h; exact .inr hb'
            · exact .inr (beats_trans hb' h)
        · exact b3 r hr h

/-- the row that goes on with the least: by looking at all -/
def best (hs : List Hd) : Nat := (List.range hs.length).foldl (fun k i => if cmpH (hd hs i) (hd hs k) < 0 then i else k) 0

theorem best_fold (hs : List Hd) : ∀ (n : Nat), (List.range n).foldl (fun k i => if cmpH (hd hs i) (hd hs k) < 0 then i else k) 0 < max n 1 ∧
    ∀ i, i < n → i = (List.range n).foldl (fun k i => if cmpH (hd hs i) (hd hs k) < 0 then i else k) 0 ∨ beats hs ((List.range n).foldl (fun k i => if cmpH (hd hs i) (hd hs k) < 0 then i else k) 0) i = true
  | 0 => ⟨by simp, fun i h => (by omega)⟩
  | n + 1 => by
    obtain ⟨h1, h2⟩ := best_fold hs n
    rw [List.range_succ, List.foldl_append, List.foldl_cons, List.foldl_nil]
    generalize (List.range n).foldl (fun k i => if cmpH (hd hs i) (hd hs k) < 0 then i else k) 0 = k at *
    by_cases hc : cmpH (hd hs n) (hd hs k) < 0
    · rw [if_pos hc]
      have hb : beats hs n k = true := by
        unfold beats
        have : ¬ cmpH (hd hs n) (hd hs k) = 0 := by omega
        simp [this, hc]
      refine ⟨by omega, fun i hi => ?_⟩
      by_cases hin : i = n
      · exact .inl hin
      · rcases h2 i (by omega) with h | h
        · subst h; exact .inr hb
        · exact .inr (beats_trans hb h)
    · rw [if_neg hc]
      refine ⟨by omega, fun i hi => ?_⟩
      by_cases hin : i = n
      · subst hin
        by_cases hk : i = k
        · exact .inl hk
        · refine .inr ?_
          unfold beats
          have hneg := cmpH_neg (hd hs i) (hd hs k)
          by_cases h0 : cmpH (hd hs k) (hd hs i) = 0
          · simp only [h0, if_true, decide_eq_true_eq]; omega
          · simp only [h0, if_false, decide_eq_true_eq]; omega
      · exact h2 i (by omega)

theorem best_lt {hs : List Hd} (h : 0 < hs.length) : best hs < hs.length := by
  have := (best_fold hs hs.length).1
  unfold best
  omega

theorem best_beats {hs : List Hd} {i : Nat} (hi : i < hs.length) : i = best hs ∨ beats hs (best hs) i = true := (best_fold hs hs.length).2 i hi

/-- who wins all is the least -/
theorem win_best {hs : List Hd} (h : 0 < hs.length) : win hs hs.length 1 = best hs := by
  obtain ⟨⟨_, h1⟩, h2⟩ := win_spec hs hs.length (hs.length - 1) 1 rfl (by omega) (by omega)
  rcases best_beats h1 with h3 | h3
  · exact h3
  · rcases h2 (best hs) (best_lt h) (below_one (by omega)) with h4 | h4
    · exact h4.symm
    · have := beats_trans h3 h4
      rw [beats_irr] at this
      cases this

/-- all places but the uppermost hold who lost there; the uppermost who won -/
structure Good (hs : List Hd) (lost : List Nat) : Prop where
  len : lost.length = hs.length
  top : lost[0]? = some (win hs hs.length 1)
  all : ∀ m, 0 < m → m < hs.length → lost[m]? = some (lose hs hs.length m)

/-- another head turns nothing of who wins where its leaf is not below -/
theorem win_other {hs hs' : List Hd} {k row : Nat} (he : ∀ r, r ≠ row → hd hs' r = hd hs r) : ∀ (d n : Nat), k - n = d → 0 < n → n < 2 * k → ¬ Below' n (k + row) → win hs' k n = win hs k n := by
  intro d
  induction d using Nat.strongRecOn with
  | _ d ih =>
    intro n hd' h0 h2 hb
    by_cases hk : k ≤ n
    · rw [win_leaf hk, win_leaf hk]
    · have hk : n < k := by omega
      have u1 : ¬ Below' (2 * n) (k + row) := fun h => hb (by have := h.up (by omega); rwa [show 2 * n / 2 = n by omega] at this)
      have u2 : ¬ Below' (2 * n + 1) (k + row) := fun h => hb (by have := h.up (by omega); rwa [show (2 * n + 1) / 2 = n by omega] at this)
      have e1 := ih (k - 2 * n) (by omega) (2 * n) rfl (by omega) (by omega) u1
      have e2 := ih (k - (2 * n + 1)) (by omega) (2 * n + 1) rfl (by omega) (by omega) u2
      rw [win_node h0 hk, win_node h0 hk, e1, e2]
      have w1 := (win_spec hs k _ (2 * n) rfl (by omega) (by omega)).1.1
      have w2 := (win_spec hs k _ (2 * n + 1) rfl (by omega) (by omega)).1.1
      have n1 : win hs k (2 * n) ≠ row := fun h => u1 (h ▸ w1)
      have n2 : win hs k (2 * n + 1) ≠ row := fun h => u2 (h ▸ w2)
      have : beats hs' (win hs k (2 * n)) (win hs k (2 * n + 1)) = beats hs (win hs k (2 * n)) (win hs k (2 * n + 1)) := by
        unfold beats
        rw [he _ n1, he _ n2]
      rw [this]

theorem below_disjoint {n : Nat} (hn : 0 < n) : ∀ (m : Nat), Below' (2 * n) m → Below' (2 * n + 1) m → False := by
  intro m
  induction m using Nat.strongRecOn with
  | _ m ih =>
    intro h1 h2
    rcases h1 with _ | h1
    · have := h2.le; omega
    · rcases h2 with _ | h2
      · have := h1.le; omega
      · have := h1.le
        exact ih (m / 2) (by omega) h1 h2

theorem win_top {hs : List Hd} {k row : Nat} (hr : row = win hs k 1) (hk : 0 < k) {n : Nat} (h0 : 0 < n) (h2 : n < 2 * k) (hb : Below' n (k + row)) : win hs k n = row := by
  obtain ⟨⟨a1, a2⟩, a3⟩ := win_spec hs k _ n rfl h0 h2
  obtain ⟨⟨b1, b2⟩, b3⟩ := win_spec hs k _ 1 rfl (by omega) (by omega)
  rw [← hr] at b2 b3
  rcases a3 row b2 hb with h | h
  · exact h.symm
  · rcases b3 _ a2 (below_one (by omega)) with h' | h'
    · exact h'
    · have := beats_trans h h'
      rw [beats_irr] at this
      cases this

theorem lose_other {hs hs' : List Hd} {k row : Nat} (he : ∀ r, r ≠ row → hd hs' r = hd hs r) {n : Nat} (h0 : 0 < n) (h2 : n < k) (hb : ¬ Below' n (k + row)) : lose hs' k n = lose hs k n := by
  have u1 : ¬ Below' (2 * n) (k + row) := fun h => hb (by have := h.up (by omega); rwa [show 2 * n / 2 = n by omega] at this)
  have u2 : ¬ Below' (2 * n + 1) (k + row) := fun h => hb (by have := h.up (by omega); rwa [show (2 * n + 1) / 2 = n by omega] at this)
  have e1 := win_other (hs := hs) (hs' := hs') he _ (2 * n) rfl (by omega) (by omega) u1
  have e2 := win_other (hs := hs) (hs' := hs') he _ (2 * n + 1) rfl (by omega) (by omega) u2
  have w1 := (win_spec hs k _ (2 * n) rfl (by omega) (by omega)).1.1
  have w2 := (win_spec hs k _ (2 * n + 1) rfl (by omega) (by omega)).1.1
  have n1 : win hs k (2 * n) ≠ row := fun h => u1 (h ▸ w1)
  have n2 : win hs k (2 * n + 1) ≠ row := fun h => u2 (h ▸ w2)
  unfold lose
  rw [e1, e2]
  have : beats hs' (win hs k (2 * n)) (win hs k (2 * n + 1)) = beats hs (win hs k (2 * n)) (win hs k (2 * n + 1)) := by
    unfold beats
    rw [he _ n1, he _ n2]
  rw [this]

/-- no place of a way lies between one and the one above it -/
theorem between {c m x : Nat} (hn : 0 < c / 2) (hc : 1 < c) (hon : Below' c x) (h1 : c / 2 < m) (h2 : m < c) : ¬ Below' m x := by
  intro hm
  have key : ∀ (x : Nat), Below' c x → Below' m x → False := by
    intro x
    induction x using Nat.strongRecOn with
    | _ x ih =>
      intro hon hm
      rcases hon with _ | hon
      · rcases hm with _ | hm
        · omega
        · have := hm.le; omega
      · rcases hm with _ | hm
        · have := hon.le; omega
        · have := hon.le
          exact ih (x / 2) (by omega) hon hm
  exact key x hon hm

/-- where the games above a leaf stand: at place 'c' row 'cur' goes on -/
structure Mid (hs hs' : List Hd) (k row : Nat) (c cur : Nat) (l : List Nat) : Prop where
  pos : 0 < c
  on : Below' c (k + row)
  cur_ : cur = win hs' k c
  len : l.length = k
  all : ∀ m, 0 < m → m < k → (c ≤ m ∨ ¬ Below' m (k + row)) → l[m]? = some (lose hs' k m)
  old : ∀ m, 0 < m → m < c → m < k → Below' m (k + row) → l[m]? = some (lose hs k m)

theorem Mid.start {hs hs' : List Hd} {l : List Nat} {row : Nat} (hg : Good hs l) (he : ∀ r, r ≠ row → hd hs' r = hd hs r) (hr : row < hs.length) : Mid hs hs' hs.length row (hs.length + row) row l where
  pos := by omega
  on := .refl _
  cur_ := by rw [win_leaf (by omega)]; omega
  len := hg.len
  all m h0 h1 h2 := by
    rw [hg.all m h0 h1]
    rcases h2 with h2 | h2
    · omega
    · rw [lose_other he h0 h1 h2]
  old m h0 _ h1 _ := hg.all m h0 h1

/-- one game above -/
theorem Mid.step {hs hs' : List Hd} {k row c cur : Nat} {l : List Nat} (h : Mid hs hs' k row c cur l) (hr : row = win hs k 1) (hk : row < k) (he : ∀ r, r ≠ row → hd hs' r = hd hs r) (hc : 1 < c) :
    ∃ x, l[c / 2]? = some x ∧ x < k ∧ (beats hs' x cur = true → Mid hs hs' k row (c / 2) x (l.set (c / 2) cur)) ∧ (beats hs' x cur = false → Mid hs hs' k row (c / 2) cur l) := by
  have hck := h.on.le
  have hn0 : 0 < c / 2 := by omega
  have hnk : c / 2 < k := by omega
  have hon : Below' (c / 2) (k + row) := h.on.up hc
  -- the other child
  obtain ⟨s, hs1, hs2, hs3⟩ : ∃ s, ((c = 2 * (c / 2) ∧ s = 2 * (c / 2) + 1) ∨ (c = 2 * (c / 2) + 1 ∧ s = 2 * (c / 2))) ∧ ¬ Below' s (k + row) ∧ s < 2 * k := by
    rcases (by omega : c = 2 * (c / 2) ∨ c = 2 * (c / 2) + 1) with h1 | h1
    · exact ⟨_, .inl ⟨h1, rfl⟩, fun hb => below_disjoint hn0 _ (h1 ▸ h.on) hb, by omega⟩
    · exact ⟨_, .inr ⟨h1, rfl⟩, fun hb => below_disjoint hn0 _ hb (h1 ▸ h.on), by omega⟩
  have hs0 : 0 < s := by omega
  have hwc : win hs k c = row := win_top hr (by omega) h.pos (by omega) h.on
  have hwn : win hs k (c / 2) = row := win_top hr (by omega) hn0 (by omega) hon
  have hws : win hs' k s = win hs k s := win_other he _ s rfl hs0 hs3 hs2
  have wls := (win_spec hs k _ s rfl hs0 hs3).1
  have hsr : win hs k s ≠ row := fun hh => hs2 (hh ▸ wls.1)
  have hlose : lose hs k (c / 2) = win hs k s := by
    have hw := win_node (hs := hs) hn0 hnk
    rw [hwn] at hw
    unfold lose
    rcases hs1 with ⟨h1, h2⟩ | ⟨h1, h2⟩
    · rw [← h2, ← h1, hwc] at hw ⊢
      split
      · rfl
      · rename_i hb; rw [if_neg hb] at hw; exact absurd hw.symm hsr
    · rw [← h1, ← h2, hwc] at hw ⊢
      split
      · rename_i hb; rw [if_pos hb] at hw; exact absurd hw.symm hsr
      · rfl
  have hx : l[c / 2]? = some (win hs' k s) := by rw [h.old _ hn0 (by omega) hnk hon, hlose, hws]
  have wlc := (win_spec hs' k _ c rfl h.pos (by omega)).1
  have wls' := (win_spec hs' k _ s rfl hs0 hs3).1
  have hne : win hs' k s ≠ cur := by
    rw [h.cur_]
    intro hh
    rw [hh] at wls'
    have p1 := wlc.1
    have p2 := wls'.1
    generalize k + win hs' k c = x at p1 p2
    rcases hs1 with ⟨h1, h2⟩ | ⟨h1, h2⟩
    · rw [h1] at p1; rw [h2] at p2
      exact below_disjoint hn0 _ p1 p2
    · rw [h1] at p1; rw [h2] at p2
      exact below_disjoint hn0 _ p2 p1
  have hwn' := win_node (hs := hs') hn0 hnk
  have hnew : ∀ b, beats hs' (win hs' k s) cur = b → win hs' k (c / 2) = (if b then win hs' k s else cur) ∧ lose hs' k (c / 2) = (if b then cur else win hs' k s) := by
    intro b hb
    unfold lose
    rw [hwn']
    rcases hs1 with ⟨h1, h2⟩ | ⟨h1, h2⟩
    · rw [← h2, ← h1, ← h.cur_]
      rw [beats_total (Ne.symm hne), hb]
      cases b <;> simp
    · rw [← h1, ← h2, ← h.cur_, hb]
      cases b <;> simp
  refine ⟨_, hx, wls'.2, fun hb => ?_, fun hb => ?_⟩
  · obtain ⟨e1, e2⟩ := hnew true hb
    refine ⟨hn0, hon, by rw [e1]; rfl, by simp [h.len], fun m h0 h1 h2 => ?_, fun m h0 h1 h2 h3 => ?_⟩
    · by_cases hm : m = c / 2
      · subst hm
        rw [List.getElem?_set_self (by rw [h.len]; exact hnk), e2]; rfl
      · rw [List.getElem?_set_ne (Ne.symm hm)]
        by_cases hcm : c ≤ m
        · exact h.all m h0 h1 (.inl hcm)
        · refine h.all m h0 h1 (.inr ?_)
          rcases h2 with h2 | h2
          · exact between hn0 hc h.on (by omega) (by omega)
          · exact h2
    · rw [List.getElem?_set_ne (by omega)]
      exact h.old m h0 (by omega) h2 h3
  · obtain ⟨e1, e2⟩ := hnew false hb
    refine ⟨hn0, hon, by rw [e1]; rfl, h.len, fun m h0 h1 h2 => ?_, fun m h0 h1 h2 h3 => h.old m h0 (by omega) h2 h3⟩
    by_cases hm : m = c / 2
    · subst hm
      rw [hx, e2]; rfl
    · by_cases hcm : c ≤ m
      · exact h.all m h0 h1 (.inl hcm)
      · refine h.all m h0 h1 (.inr ?_)
        rcases h2 with h2 | h2
        · exact between hn0 hc h.on (by omega) (by omega)
        · exact h2

theorem Mid.done {hs hs' : List Hd} {row cur : Nat} {l : List Nat} (h : Mid hs hs' hs'.length row 1 cur l) (hk : 0 < hs'.length) : Good hs' (l.set 0 cur) where
  len := by simp [h.len]
  top := by rw [List.getElem?_set_self (by rw [h.len]; exact hk), h.cur_]
  all m h0 h1 := by rw [List.getElem?_set_ne (by omega)]; exact h.all m h0 h1 (.inl h0)

/-- how many places a leaf has above it -/
def steps (c : Nat) : Nat := if c ≤ 1 then 0 else steps (c / 2) + 1
termination_by c
decreasing_by omega

theorem steps_small {c : Nat} (h : c < 32) : steps c ≤ 4 := by
  have : ∀ c, c < 32 → steps c ≤ 4 := by
    intro c hc
    rw [steps]; split; omega
    rw [steps]; split; omega
    rw [steps]; split; omega
    rw [steps]; split; omega
    rw [steps]; split
    · omega
    · omega
  exact this c h

end Go.Proofs.Ytohoimokfgfceaa.K
