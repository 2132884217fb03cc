/-
  A crash behind a crash; what is kept behind a crash.
-/
import Derived.Test.YtocmjngleknlbaaDkF
import Derived.Test.YtocmjngleknlbaaDkH
namespace Go.Proofs.Ytocmjngleknlbaa.K
open Go Go.Proofs
variable {Γ Γ' : Mem} {L L' L'' : List HP} {w w' : World} {A B : HP}
set_option maxRecDepth 100000
set_option maxHeartbeats 4000000

namespace DiskM
variable {m : DiskM} {n n' : Int} {wb wb' : List Int}

theorem crash_names : (m.crash n wb).now.map Prod.fst = (m.atN n).map Prod.fst := by
  show ((m.atN n).mapIdx fun i p => (p.1, i)).map Prod.fst = _
  apply List.ext_getElem?
  intro i
  rw [List.getElem?_map, List.getElem?_mapIdx, List.getElem?_map]
  cases (m.atN n)[i]? <;> rfl

theorem leftOf_zero (i : Nat) : leftOf wb i 0 = 0 := by
  unfold leftOf
  split
  · rfl
  · exact Nat.min_zero _

theorem crash_again : (m.crash n wb).crash n' wb' = m.crash n wb := by
  have hat : (m.crash n wb).atN n' = (m.crash n wb).now := by
    show ((([] : List ChM).take n'.toNat).foldl chg _) = _
    rw [List.take_nil]
    rfl
  have hn : ((m.crash n wb).now.mapIdx fun i p => (p.1, i)) = (m.crash n wb).now := by
    show (((m.atN n).mapIdx fun i p => (p.1, i)).mapIdx fun i p => (p.1, i)) = (m.atN n).mapIdx fun i p => (p.1, i)
    apply List.ext_getElem?
    intro i
    rw [List.getElem?_mapIdx, List.getElem?_mapIdx]
    cases (m.atN n)[i]? <;> rfl
  have hf : (m.crash n wb).now.mapIdx ((m.crash n wb).fileLeft wb') = (m.crash n wb).files := by
    show ((m.atN n).mapIdx fun i p => (p.1, i)).mapIdx ((m.crash n wb).fileLeft wb') = (m.atN n).mapIdx (m.fileLeft wb)
    apply List.ext_getElem?
    intro i
    rw [List.getElem?_mapIdx, List.getElem?_mapIdx, List.getElem?_mapIdx]
    cases e : (m.atN n)[i]? with
    | none => rfl
    | some p =>
      simp only [Option.map_some]
      congr 1
      have hfa : (m.crash n wb).fileAt i = m.fileLeft wb i p := by
        unfold fileAt
        show ((m.atN n).mapIdx (m.fileLeft wb)).getD i _ = _
        rw [List.getD_eq_getElem?_getD, List.getElem?_mapIdx, e]
        rfl
      unfold fileLeft
      dsimp only
      rw [hfa]
      unfold fileLeft
      dsimp only
      have hz : (List.take ((m.fileAt p.2).kept + leftOf wb i ((m.fileAt p.2).b.length - (m.fileAt p.2).kept)) (m.fileAt p.2).b).length - ((m.fileAt p.2).kept + leftOf wb i ((m.fileAt p.2).b.length - (m.fileAt p.2).kept)) = 0 := by
        rw [List.length_take]; omega
      rw [hz, leftOf_zero, Nat.add_zero, List.take_take, Nat.min_self]
  show ({ files := ((m.crash n wb).atN n').mapIdx ((m.crash n wb).fileLeft wb'), now := ((m.crash n wb).atN n').mapIdx fun i p => (p.1, i), kept := ((m.crash n wb).atN n').mapIdx fun i p => (p.1, i), changes := [], room := m.room, down := false, doomed := false, left := 0, g := m.g } : DiskM) = m.crash n wb
  rw [hat, hn, hf]
  rfl

theorem leftOf_le (i k : Nat) : leftOf wb i k ≤ k := by
  unfold leftOf
  split
  · omega
  · exact Nat.min_le_right _ _

theorem crash_kept (hw : Wf m) (i : Nat) : ((m.crash n wb).fileAt i).kept = ((m.crash n wb).fileAt i).b.length := by
  unfold fileAt
  show (((m.atN n).mapIdx (m.fileLeft wb)).getD i ⟨[], 0⟩).kept = (((m.atN n).mapIdx (m.fileLeft wb)).getD i ⟨[], 0⟩).b.length
  rw [List.getD_eq_getElem?_getD, List.getElem?_mapIdx]
  cases e : (m.atN n)[i]? with
  | none => rfl
  | some p =>
    show (m.fileLeft wb i p).kept = (m.fileLeft wb i p).b.length
    have h1 : (m.fileAt p.2).kept ≤ (m.fileAt p.2).b.length := hw.fileAt_kept p.2
    have h2 := leftOf_le (wb := wb) i ((m.fileAt p.2).b.length - (m.fileAt p.2).kept)
    unfold fileLeft
    dsimp only
    rw [List.length_take]
    omega

theorem crash_sync (hw : Wf m) {s : Str} (hs : s ∈ (m.crash n wb).now.map Prod.fst) : (m.crash n wb).sync s = (m.crash n wb, 0) := by
  obtain ⟨i, hf⟩ := mem_names.1 hs
  have hq : quiet (m.crash n wb) := crash_quiet
  have h1 := sync_some hq.up hf
  rw [hq.tick] at h1
  rw [h1]
  have e : (m.crash n wb).files.set i ⟨((m.crash n wb).fileAt i).b, ((m.crash n wb).fileAt i).b.length⟩ = (m.crash n wb).files := by
    rw [← crash_kept hw i]
    unfold fileAt
    apply List.ext_getElem?
    intro j
    rw [List.getElem?_set]
    by_cases hij : i = j
    · subst hij
      by_cases hi : i < (m.crash n wb).files.length
      · rw [if_pos rfl, if_pos hi, List.getD_eq_getElem?_getD, List.getElem?_eq_getElem hi]; rfl
      · rw [if_pos rfl, if_neg hi, List.getElem?_eq_none (by omega)]
    · rw [if_neg hij]
  rw [e]

theorem crash_syncNames : (m.crash n wb).syncNames = (m.crash n wb, 0) := by
  have hq : quiet (m.crash n wb) := crash_quiet
  rw [syncNames_up hq.up, hq.tick]
  rfl

theorem find_nodup : ∀ {l : List (Str × Nat)} {i : Nat} {p : Str × Nat}, (l.map Prod.fst).Nodup → l[i]? = some p → findN l p.1 = some p.2
  | [], i, p, _, e => by simp at e
  | x :: r, 0, p, _, e => by
    simp at e
    subst e
    simp [findN]
  | x :: r, i + 1, p, hn, e => by
    have e' : r[i]? = some p := by simpa using e
    have hn' := List.nodup_cons.1 hn
    have hne : ¬ x.1 = p.1 := fun h => hn'.1 (by rw [h]; exact List.mem_map_of_mem (List.mem_of_getElem? e'))
    unfold findN
    rw [if_neg hne]
    exact find_nodup hn'.2 e'

theorem crash_read (hw : Wf m) {i : Nat} {p : Str × Nat} (e : (m.atN n)[i]? = some p) : ((m.crash n wb).read p.1).2 = ((m.fileLeft wb i p).b, 0) := by
  have hf : findN (m.crash n wb).now p.1 = some i := by
    have h1 : (m.crash n wb).now[i]? = some (p.1, i) := by
      show ((m.atN n).mapIdx fun i p => (p.1, i))[i]? = _
      rw [List.getElem?_mapIdx, e]
      rfl
    exact find_nodup (hw.crash n wb).nowOK.nodup h1
  have hq : quiet (m.crash n wb) := crash_quiet
  rw [read_some hq.up hf, hq.tick]
  have hfa : (m.crash n wb).fileAt i = m.fileLeft wb i p := by
    unfold fileAt
    show ((m.atN n).mapIdx (m.fileLeft wb)).getD i _ = _
    rw [List.getD_eq_getElem?_getD, List.getElem?_mapIdx, e]
    rfl
  show (((m.crash n wb).fileAt i).b, (0 : Int)) = _
  rw [hfa]

/-- of each file there is a beginning, between two others -/
theorem crash_between (hw : Wf m) (hg : m.g < 1000000000000) {i : Nat} {s : Str} (e : ((m.crash n wb).now.map Prod.fst)[i]? = some s) :
    ((m.crash n []).read s).2.1.length ≤ ((m.crash n wb).read s).2.1.length ∧ ((m.crash n wb).read s).2.1.length ≤ ((m.crash n [1099511627776]).read s).2.1.length ∧
      ((m.crash n [1099511627776]).read s).2.1.take ((m.crash n wb).read s).2.1.length = ((m.crash n wb).read s).2.1 ∧
      ((m.crash n wb).read s).2.1.take ((m.crash n []).read s).2.1.length = ((m.crash n []).read s).2.1 := by
  rw [crash_names, List.getElem?_map] at e
  cases ep : (m.atN n)[i]? with
  | none => rw [ep] at e; cases e
  | some p =>
    rw [ep] at e
    cases e
    rw [crash_read hw ep, crash_read hw ep, crash_read hw ep]
    have h1 : (m.fileAt p.2).kept ≤ (m.fileAt p.2).b.length := hw.fileAt_kept p.2
    have h2 : (m.fileAt p.2).b.length ≤ m.g := hw.fileAt_len p.2
    have h3 := leftOf_le (wb := wb) i ((m.fileAt p.2).b.length - (m.fileAt p.2).kept)
    have h4 : leftOf [] i ((m.fileAt p.2).b.length - (m.fileAt p.2).kept) = 0 := rfl
    have h5 : leftOf [1099511627776] i ((m.fileAt p.2).b.length - (m.fileAt p.2).kept) = (m.fileAt p.2).b.length - (m.fileAt p.2).kept := by
      unfold leftOf
      rw [if_neg (by simp)]
      have : i % [(1099511627776 : Int)].length = 0 := by simp [Nat.mod_one]
      rw [this]
      show min 1099511627776 _ = _
      omega
    unfold fileLeft
    dsimp only
    rw [h4, h5]
    generalize leftOf wb i ((m.fileAt p.2).b.length - (m.fileAt p.2).kept) = a at *
    refine ⟨by simp only [List.length_take]; omega, by simp only [List.length_take]; omega, ?_, ?_⟩
    · rw [List.take_take, List.length_take]
      congr 1
      omega
    · rw [List.take_take, List.length_take]
      congr 1
      omega

end DiskM

theorem dSyncSame_ok {a : Nat} {m : DiskM} {s : Str} {K : Int → World → Prop} (h : Sat Γ (PDisk a m :: L) w) (hm : m.sync s = (m, 0)) (k : ∀ w', Sat Γ (PDisk a m :: L) w' → K 0 w') :
    CallP Try.prog 45 [.pointer (some ⟨a, 0, none⟩), .string (str s)] (.one (.s (.int .i64))) K w :=
  dSync_ok h fun w' h => by rw [hm] at h ⊢; exact k w' h

theorem dSyncNamesSame_ok {a : Nat} {m : DiskM} {K : Int → World → Prop} (h : Sat Γ (PDisk a m :: L) w) (hg : m.g < 1000000000000) (hm : m.syncNames = (m, 0)) (k : ∀ w', Sat Γ (PDisk a m :: L) w' → K 0 w') :
    CallP Try.prog 56 [.pointer (some ⟨a, 0, none⟩)] (.one (.s (.int .i64))) K w :=
  dSyncNames_ok h hg fun w' h => by rw [hm] at h ⊢; exact k w' h

end Go.Proofs.Ytocmjngleknlbaa.K
