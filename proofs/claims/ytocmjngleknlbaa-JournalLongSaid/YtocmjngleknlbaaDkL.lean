/-
  The kit's contract of slices.Sort of strings, laid (the table is a tool's of the kit).
-/
import Derived.Shelf.SortM.Plain
import Derived.Shelf.SortM.SortNone
import Derived.Ground.SlgmProg
import Derived.Shelf.SlMaps.Clone
import Derived.Ground.SlmcProg
import Derived.Test.YtocmjngleknlbaaDkP
namespace Go.Proofs
open Go.Shelf
def Try.sortS_ren : Go.Shelf.Ren := ⟨fun | 6 => 61 | 8 => 75 | 9 => 74 | 19 => 90 | 20 => 91 | 21 => 81 | 22 => 82 | 23 => 83 | 24 => 84 | 25 => 85 | 26 => 86 | 27 => 87 | 28 => 88 | 29 => 89 | 36 => 93 | 31 => 94 | 32 => 95 | 37 => 96 | 38 => 97 | 39 => 98 | 41 => 99 | n => n, fun | 27 => 83 | 29 => 9 | 3 => 3 | 32 => 120 | 26 => 83 | 0 => 0 | 44 => 107 | 46 => 89 | 4 => 4 | 36 => 128 | 35 => 127 | 41 => 133 | 5 => 5 | 9 => 9 | 53 => 139 | 57 => 143 | 63 => 145 | 64 => 146 | n => n, fun | n => n⟩
theorem Try.sortS : Go.Proofs.SlLaysM.n6 Try.prog Try.sortS_ren := {
  mixed := by kernel_rfl
  f6 := ⟨Try.f61.name, by decide, Try.func61.trans (congrArg some (by kernel_rfl))⟩
  f8 := Try.func75.trans (congrArg some (by kernel_rfl))
  f9 := ⟨Try.f74.name, by decide, Try.func74.trans (congrArg some (by kernel_rfl))⟩
  f19 := Try.func90.trans (congrArg some (by kernel_rfl))
  f20 := Try.func91.trans (congrArg some (by kernel_rfl))
  f21 := ⟨Try.f81.name, by decide, Try.func81.trans (congrArg some (by kernel_rfl))⟩
  f22 := ⟨Try.f82.name, by decide, Try.func82.trans (congrArg some (by kernel_rfl))⟩
  f23 := ⟨Try.f83.name, by decide, Try.func83.trans (congrArg some (by kernel_rfl))⟩
  f24 := ⟨Try.f84.name, by decide, Try.func84.trans (congrArg some (by kernel_rfl))⟩
  f25 := ⟨Try.f85.name, by decide, Try.func85.trans (congrArg some (by kernel_rfl))⟩
  f26 := ⟨Try.f86.name, by decide, Try.func86.trans (congrArg some (by kernel_rfl))⟩
  f27 := ⟨Try.f87.name, by decide, Try.func87.trans (congrArg some (by kernel_rfl))⟩
  f28 := ⟨Try.f88.name, by decide, Try.func88.trans (congrArg some (by kernel_rfl))⟩
  f29 := ⟨Try.f89.name, by decide, Try.func89.trans (congrArg some (by kernel_rfl))⟩
  f31 := Try.func94.trans (congrArg some (by kernel_rfl))
  f32 := Try.func95.trans (congrArg some (by kernel_rfl))
  f36 := ⟨Try.f93.name, by decide, Try.func93.trans (congrArg some (by kernel_rfl))⟩
  f37 := ⟨Try.f96.name, by decide, Try.func96.trans (congrArg some (by kernel_rfl))⟩
  f38 := ⟨Try.f97.name, by decide, Try.func97.trans (congrArg some (by kernel_rfl))⟩
  f39 := ⟨Try.f98.name, by decide, Try.func98.trans (congrArg some (by kernel_rfl))⟩
  f41 := ⟨Try.f99.name, by decide, Try.func99.trans (congrArg some (by kernel_rfl))⟩
  t0 := Try.underlying0
  a0 := Try.isAgg0
  z0 := Try.sizeOf0
  v0 := Try.zeroValue0
  t3 := Try.underlying3
  a3 := Try.isAgg3
  z3 := Try.sizeOf3
  v3 := Try.zeroValue3
  t4 := Try.underlying4
  a4 := Try.isAgg4
  z4 := Try.sizeOf4
  v4 := Try.zeroValue4
  t5 := Try.underlying5
  a5 := Try.isAgg5
  z5 := Try.sizeOf5
  v5 := Try.zeroValue5
  t9 := Try.underlying9
  a9 := Try.isAgg9
  z9 := Try.sizeOf9
  v9 := Try.zeroValue9
  t26 := Try.underlying83
  a26 := Try.isAgg83
  z26 := Try.sizeOf83
  v26 := Try.zeroValue83
  t27 := Try.underlying83
  a27 := Try.isAgg83
  z27 := Try.sizeOf83
  v27 := Try.zeroValue83
  t29 := Try.underlying9
  a29 := Try.isAgg9
  z29 := Try.sizeOf9
  v29 := Try.zeroValue9
  t32 := Try.underlying120
  a32 := Try.isAgg120
  z32 := Try.sizeOf120
  v32 := Try.zeroValue120
  t35 := Try.underlying127
  a35 := Try.isAgg127
  z35 := Try.sizeOf127
  v35 := Try.zeroValue127
  t36 := Try.underlying128
  a36 := Try.isAgg128
  z36 := Try.sizeOf128
  v36 := Try.zeroValue128
  t41 := Try.underlying133
  a41 := Try.isAgg133
  z41 := Try.sizeOf133
  v41 := Try.zeroValue133
  t44 := Try.underlying107
  a44 := Try.isAgg107
  z44 := Try.sizeOf107
  v44 := Try.zeroValue107
  t46 := Try.underlying89
  a46 := Try.isAgg89
  z46 := Try.sizeOf89
  v46 := Try.zeroValue89
  t53 := Try.underlying139
  a53 := Try.isAgg139
  z53 := Try.sizeOf139
  v53 := Try.zeroValue139
  t57 := Try.underlying143
  a57 := Try.isAgg143
  z57 := Try.sizeOf143
  v57 := Try.zeroValue143
  t63 := Try.underlying145
  a63 := Try.isAgg145
  z63 := Try.sizeOf145
  v63 := Try.zeroValue145
  t64 := Try.underlying146
  a64 := Try.isAgg146
  z64 := Try.sizeOf146
  v64 := Try.zeroValue146 }

def Try.cloneN_ren : Go.Shelf.Ren := ⟨fun | 5 => 32 | 7 => 60 | n => n, fun | 23 => 58 | 25 => 9 | 3 => 79 | 4 => 4 | 20 => 20 | n => n, fun | n => n⟩
theorem Try.cloneN : Go.Proofs.SlLaysW.n5 Try.prog Try.cloneN_ren := {
  mixed := by kernel_rfl
  f5 := ⟨Try.f32.name, by decide, Try.func32.trans (congrArg some (by kernel_rfl))⟩
  f7 := Try.func60.trans (congrArg some (by kernel_rfl))
  t4 := Try.underlying4
  a4 := Try.isAgg4
  z4 := Try.sizeOf4
  v4 := Try.zeroValue4
  t20 := Try.underlying20
  a20 := Try.isAgg20
  z20 := Try.sizeOf20
  v20 := Try.zeroValue20
  t23 := Try.underlying58
  a23 := Try.isAgg58
  z23 := Try.sizeOf58
  v23 := Try.zeroValue58 }


namespace Ytocmjngleknlbaa.K
open Go Go.Proofs
variable {Γ Γ' : Mem} {L L' L'' : List HP} {w w' : World} {A B : HP}
set_option maxRecDepth 100000

set_option maxHeartbeats 1000000

theorem Sat.growW (h : Sat Γ L w) (os : Array Obj) : Sat Γ L (Go.«Sort».grow w os) := by
  have : ∀ (l : List Obj) (w : World), Sat Γ L w → Sat Γ L { w with heap := w.heap ++ l.toArray } := by
    intro l
    induction l with
    | nil => intro w h; simpa using h
    | cons o l ih =>
      intro w h
      have h1 := ih _ (h.new o).drop
      have e : w.heap.push o ++ l.toArray = w.heap ++ (o :: l).toArray := by
        apply Array.toList_inj.1
        simp
      dsimp only at h1
      rw [e] at h1
      exact h1
  exact this os.toList w h

theorem all2_str (l : List (List UInt8)) : All2 (eStr.r Γ) (l.map str) l := by
  induction l with
  | nil => exact .nil
  | cons x l ih => exact .cons rfl ih

theorem all2_strs {ys : List eStr.sh.T} {l : List (List UInt8)} (h : All2 (eStr.r Γ) ys l) : ys = l.map str := by
  apply List.ext_getElem?
  intro i
  show ys[i]? = (l.map str)[i]?
  cases hx : l[i]? with
  | none =>
    have h1 := List.getElem?_eq_none_iff.1 hx
    have h2 : ys.length ≤ i := by rw [h.len]; exact h1
    rw [List.getElem?_eq_none h2]
    have h3 : (l.map str)[i]? = none := by rw [List.getElem?_map, hx]; rfl
    exact h3.symm
  | some x =>
    obtain ⟨y, h1, h2⟩ := h.get hx
    rw [h1]
    have : (l.map str)[i]? = some (str x) := by rw [List.getElem?_map, hx]; rfl
    exact (congrArg some h2).trans this.symm

theorem cells_str (l : List (List UInt8)) : (l.map str).flatMap eStr.sh.cells = l.map encStr := by
  induction l with
  | nil => rfl
  | cons x l ih => exact (List.flatMap_cons (f := eStr.sh.cells) (x := str x) (xs := l.map str)).trans (congrArg (eStr.sh.cells (str x) ++ ·) ih)

theorem putCells_all {α : Type} [Inhabited α] (enc : α → Value) (d : List α) (old spare : List Value) (hl : old.length = d.length) : Go.«Sort».putCells enc 0 d.toArray (old ++ spare).toArray = (d.map enc ++ spare).toArray := by
  unfold Go.«Sort».putCells
  apply Array.ext_getElem?
  intro i
  simp only [Array.getElem?_mapIdx, List.getElem?_toArray, List.size_toArray, Nat.zero_le, true_and, Nat.zero_add, Nat.sub_zero]
  by_cases hi : i < d.length
  · rw [List.getElem?_append_left (by omega), List.getElem?_append_left (by simpa using hi), List.getElem?_eq_getElem (by omega), List.getElem?_map, List.getElem?_eq_getElem hi]
    simp [hi]
  · rw [List.getElem?_append_right (by omega), List.getElem?_append_right (by simpa using by omega), hl, List.length_map]
    cases spare[i - d.length]? <;> simp [hi]

theorem sortS_ok {s : Sl} {ss : List (List UInt8)} {K : PUnit → World → Prop} (h : Sat Γ (OL eStr 9 s ss :: L) w) (hn : ss.length < 4611686018427387904)
    (k : ∀ w', Sat Γ (OL eStr 9 s (ss.mergeSort fun x y => decide (x ≤ y)) :: L) w' → K ⟨⟩ w') :
    CallP Try.prog 61 [.slice s.p s.len s.cap] (.tup []) K w := by
  obtain ⟨ys, hr, h1⟩ := h.ol
  have hys := all2_strs hr
  subst hys
  obtain ⟨hl, hc, ⟨h2, h3⟩ | ⟨b, spare, h2, h3, h4⟩⟩ := h1.own
  · have h0 : s.len = 0 := by omega
    have hs0 : ss = [] := by
      rw [h0, cells_str, List.length_map] at hl
      simpa using hl
    subst hs0
    rw [h0]
    refine ⟨Calls.mono (AnyM.slices_Sort_string_none Try.sortS s.p s.cap w) ?_⟩
    rintro e w' ⟨rfl, rfl⟩
    exact ⟨⟨⟩, rfl, k _ (by simpa using h)⟩
  · rw [cells_str] at hl h3 h4
    have hsl : ss.length = s.len := by
      rw [List.length_map] at hl
      have : s.len * eStr.sh.sz = s.len := Nat.mul_one _
      omega
    rw [h2, ← hsl]
    have hH : Go.«Sort».Holds encStr w b 0 ss.toArray := by
      intro j hj
      have hj' : j < ss.length := by simpa using hj
      refine ⟨?_, frozen_of h4.heap (by simp [freeAt])⟩
      rw [cell_of h4.heap, Nat.zero_add, List.getElem?_toArray, List.getElem?_append_left (by simpa using hj'), List.getElem?_map, List.getElem?_eq_getElem hj']
      simp [hj']
    have hbs : b < w.heap.size := (Array.getElem?_eq_some_iff.1 h4.heap).1
    refine ⟨Calls.mono (AnyM.slices_Sort_string Try.sortS b 0 s.cap ss w hH hbs hn) ?_⟩
    rintro e w' ⟨rfl, n, os, rfl⟩
    refine ⟨⟨⟩, rfl, k _ (Sat.growW ?_ os)⟩
    have hml : (ss.mergeSort fun x y => decide (x ≤ y)).length = ss.length := List.length_mergeSort _
    have h5 : Sat Γ (blk b (.cells (((ss.mergeSort fun x y => decide (x ≤ y)).map encStr) ++ spare).toArray 9 (0, 0)) :: L) (Go.«Sort».putRow encStr (Go.«Sort».ahead w n) b 0 (ss.mergeSort fun x y => decide (x ≤ y)).toArray) := by
      have h6 : Sat Γ (blk b (.cells (ss.map encStr ++ spare).toArray 9 (0, 0)) :: L) (Go.«Sort».ahead w n) := h4.same rfl
      refine h6.set ?_ ?_
      · show ((w.heap.modify b _)[b]?) = _
        rw [Array.getElem?_modify, if_pos rfl, h4.heap]
        show some (Obj.cells _ _ _) = _
        rw [putCells_all encStr _ _ _ (by rw [List.length_map, hml])]
      · intro c hc
        show ((w.heap.modify b _)[c]?) = _
        rw [Array.getElem?_modify, if_neg (fun e => hc e.symm)]
        rfl
    have h6 : Sat Γ (Own s 9 eStr.sh.sz ((ss.mergeSort fun x y => decide (x ≤ y)).map encStr) :: L) (Go.«Sort».putRow encStr (Go.«Sort».ahead w n) b 0 (ss.mergeSort fun x y => decide (x ≤ y)).toArray) := by
      refine Sat.toOwn (b := b) (spare := spare) h5 h2 ?_ hc ?_
      · rw [List.length_map, hml, hsl]; exact (Nat.mul_one _).symm
      · rw [List.length_map] at h3 ⊢; rw [hml]; exact h3
    rw [← cells_str] at h6
    exact Sat.toOl h6 (all2_str _)

theorem cloneN_ok {r : Nat} {l : List (Str × Option Nat)} {K : Option Nat → World → Prop} (h : Sat Γ (MapR ekS ekP r l :: L) w) (k : ∀ r' w', Sat Γ (MapR ekS ekP r' l :: MapR ekS ekP r l :: L) w' → K (some r') w') :
    CallP Try.prog 32 [.map (some r)] (.one (.s .mp)) K w := by
  obtain ⟨es, clock, hI, h1⟩ := h.mapR
  refine ⟨Calls.mono (AnyW.maps_Clone Try.cloneN r es clock w h1.heap) ?_⟩
  rintro e w' ⟨rfl, rfl⟩
  have h2 : Sat Γ (blk w.heap.size (.map es clock) :: blk r (.map es clock) :: L) (w.alloc (.map es clock)) := h1.new _
  have h3 : Sat Γ (MapR ekS ekP r l :: blk w.heap.size (.map es clock) :: L) (w.alloc (.map es clock)) := (h2.pick .n1).toMapR hI
  exact ⟨some w.heap.size, rfl, k _ _ ((h3.pick .n1).toMapR hI)⟩

end Ytocmjngleknlbaa.K
end Go.Proofs
