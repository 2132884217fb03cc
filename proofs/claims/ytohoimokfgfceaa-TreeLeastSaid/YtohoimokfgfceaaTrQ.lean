/-
  Merging, as a plain law.
-/
import Derived.Test.YtohoimokfgfceaaTrP
namespace Go.Proofs.Ytohoimokfgfceaa.K

/-- the first i of one list, the others of another one -/
def mix {α : Type} (i : Nat) (xs ys : List α) : List α := xs.take i ++ ys.drop i

theorem mix_get {α : Type} {i : Nat} {xs ys : List α} (hl : xs.length = ys.length) (hi : i ≤ xs.length) (j : Nat) : (mix i xs ys)[j]? = if j < i then xs[j]? else ys[j]? := by
  unfold mix
  by_cases hj : j < i
  · rw [List.getElem?_append_left (by simp; omega), if_pos hj, List.getElem?_take, if_pos hj]
  · rw [List.getElem?_append_right (by simp; omega), if_neg hj, List.getElem?_drop, List.length_take]
    congr 1
    omega

theorem mix_zero {α : Type} (xs ys : List α) : mix 0 xs ys = ys := by simp [mix]
theorem mix_all {α : Type} {xs ys : List α} (hl : xs.length = ys.length) : mix ys.length xs ys = xs := by simp [mix, ← hl]
theorem mix_all' {α : Type} {n : Nat} {xs ys : List α} (hl : xs.length = ys.length) (hn : n = xs.length) : mix n xs ys = xs := by subst hn; rw [hl]; exact mix_all hl
theorem mix_len {α : Type} {i : Nat} {xs ys : List α} (hl : xs.length = ys.length) (hi : i ≤ xs.length) : (mix i xs ys).length = ys.length := by simp [mix]; omega

theorem mix_succ {α : Type} {i : Nat} {x : α} {xs ys : List α} (hl : xs.length = ys.length) (hx : xs[i]? = some x) : (mix i xs ys).set i x = mix (i + 1) xs ys := by
  have hi : i < xs.length := (List.getElem?_eq_some_iff.1 hx).1
  apply List.ext_getElem?
  intro j
  rw [List.getElem?_set, mix_get hl (by omega), mix_get hl (by omega), mix_len hl (by omega)]
  by_cases h1 : i = j
  · subst h1
    rw [if_pos rfl, if_pos (by omega), if_pos (by omega), hx]
  · rw [if_neg h1]
    by_cases h2 : j < i
    · rw [if_pos h2, if_pos (by omega)]
    · rw [if_neg h2, if_neg (by omega)]

abbrev BL := List (List UInt8)

/-- what stands first in a row -/
def hdOf : BL → Hd
  | [] => ([], false)
  | x :: _ => (x, true)

def total (rs : List BL) : Nat := (rs.map List.length).sum

def pushU (out : BL) (x : List UInt8) : BL := if out.getLast? = some x then out else out ++ [x]

/-- the rows but for what stands first in one -/
def pop (rs : List BL) (b : Nat) : List BL := rs.set b (rs.getD b []).tail

def mergeS : Nat → List BL → BL → BL
  | 0, _, out => out
  | n + 1, rs, out => if (hd (rs.map hdOf) (best (rs.map hdOf))).2 then mergeS n (pop rs (best (rs.map hdOf))) (pushU out (hd (rs.map hdOf) (best (rs.map hdOf))).1) else out

theorem hd_map {rs : List BL} (b : Nat) : hd (rs.map hdOf) b = hdOf (rs.getD b []) := by
  unfold hd
  rw [List.getD_eq_getElem?_getD, List.getD_eq_getElem?_getD, List.getElem?_map]
  cases rs[b]? <;> rfl

theorem total_pop {rs : List BL} {b : Nat} (h : (hd (rs.map hdOf) b).2 = true) : total (pop rs b) + 1 = total rs := by
  rw [hd_map] at h
  unfold pop total
  induction rs generalizing b with
  | nil => simp [hdOf] at h
  | cons r rs ih =>
    cases b with
    | zero =>
      cases r with
      | nil => simp [hdOf] at h
      | cons x r => simp; omega
    | succ b =>
      have := ih (b := b) (by simpa using h)
      simp only [List.getD_cons_succ, List.set_cons_succ, List.map_cons, List.sum_cons]
      omega

theorem total_zero {rs : List BL} (h : total rs = 0) (b : Nat) : (hd (rs.map hdOf) b).2 = false := by
  cases hb : (hd (rs.map hdOf) b).2
  · rfl
  · have := total_pop hb
    omega

theorem mergeS_stop {n : Nat} {rs : List BL} {out : BL} (h : (hd (rs.map hdOf) (best (rs.map hdOf))).2 = false) : mergeS n rs out = out := by
  cases n with
  | zero => rfl
  | succ n => rw [mergeS, if_neg (by simp [h])]

theorem mergeS_step {rs : List BL} {out : BL} (h : (hd (rs.map hdOf) (best (rs.map hdOf))).2 = true) :
    mergeS (total rs) rs out = mergeS (total (pop rs (best (rs.map hdOf)))) (pop rs (best (rs.map hdOf))) (pushU out (hd (rs.map hdOf) (best (rs.map hdOf))).1) := by
  rw [← total_pop h, mergeS, if_pos h]

theorem pop_len (rs : List BL) (b : Nat) : (pop rs b).length = rs.length := by simp [pop]

theorem pop_heads (rs : List BL) (b : Nat) : (pop rs b).map hdOf = (rs.map hdOf).set b (hdOf (rs.getD b []).tail) := by simp [pop, List.map_set]
theorem pop_tails (rs : List BL) (b : Nat) : (pop rs b).map List.tail = (rs.map List.tail).set b (rs.getD b []).tail.tail := by simp [pop, List.map_set]

/-- all is of this length at most -/
def SmallL (n : Nat) (rs : List BL) : Prop := ∀ r ∈ rs, ∀ x ∈ r, x.length ≤ n

theorem SmallL.pop {n : Nat} {rs : List BL} (h : SmallL n rs) (b : Nat) : SmallL n (pop rs b) := by
  intro r hr x hx
  unfold K.pop at hr
  rcases List.mem_or_eq_of_mem_set hr with h1 | rfl
  · exact h r h1 x hx
  · have hx' := List.mem_of_mem_tail hx
    rw [List.getD_eq_getElem?_getD] at hx'
    cases hb : rs[b]? with
    | none => rw [hb] at hx'; simp at hx'
    | some r => rw [hb] at hx'; exact h r (List.mem_of_getElem? hb) x hx'

theorem SmallL.hd {n : Nat} {rs : List BL} (h : SmallL n rs) (b : Nat) : (hd (rs.map hdOf) b).1.length ≤ n := by
  rw [hd_map, List.getD_eq_getElem?_getD]
  cases hb : rs[b]? with
  | none => simp [hdOf]
  | some r =>
    cases r with
    | nil => simp [hdOf]
    | cons x r => exact h _ (List.mem_of_getElem? hb) x (List.mem_cons_self)

theorem pushU_len (out : BL) (x : List UInt8) : (pushU out x).length ≤ out.length + 1 := by
  unfold pushU
  split <;> simp

end Go.Proofs.Ytohoimokfgfceaa.K
