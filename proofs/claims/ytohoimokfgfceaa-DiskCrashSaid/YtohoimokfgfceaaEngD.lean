/-
  What the plain meaning tells holds of the model's runs: each operation that reads alone.
-/
import Derived.Test.YtohoimokfgfceaaEngC
namespace Go.Proofs.Ytohoimokfgfceaa.K
open Go
section
variable {P : Program} {S : World → Prop} {K : SV → Prop} {fr : Fr} {a : Act}

theorem run_underlying {t : TypeId} {d : TypeDesc} (h : P.underlying t = some d) (w : World) : (underlying t).run P w = .ok d w := by simp [underlying, h]

theorem run_typeInfo {t : TypeId} {i : TypeInfo} (h : P.info? t = some i) (w : World) : (typeInfo t).run P w = .ok i w := by simp [typeInfo, h]

theorem szOf_some {t : TypeId} {n : Nat} (h : szOf P t = some n) : ∃ i, P.info? t = some i ∧ i.size = n := by
  unfold szOf at h
  split at h
  · rename_i i hi; cases h; exact ⟨i, hi, rfl⟩
  · cases h

theorem run_sizeOf {t : TypeId} {n : Nat} (h : szOf P t = some n) (w : World) : (sizeOf t).run P w = .ok n w := by
  obtain ⟨i, hi, rfl⟩ := szOf_some h
  simp [sizeOf, run_typeInfo hi, Result.andThen]

theorem run_isAgg_true {t : TypeId} (h : isAggB P t = true) (w : World) : (isAgg t).run P w = .ok true w := by
  unfold isAggB at h
  split at h
  · rename_i fs hd; simp [isAgg, run_underlying hd, Result.andThen]
  · rename_i n e hd; simp [isAgg, run_underlying hd, Result.andThen]
  · cases h

theorem run_isAgg_false {t : TypeId} {n : Nat} (h : isAggB P t = false) (hs : ∃ d, P.underlying t = some d) (w : World) : (isAgg t).run P w = .ok false w := by
  obtain ⟨d, hd⟩ := hs
  unfold isAggB at h
  simp only [hd] at h
  cases d <;> simp_all [isAgg, underlying, Result.andThen]

theorem run_load_some {w : World} {x : Addr} {v : Value} (h : w.cell? x = some v) : (load x).run P w = .ok v w := by simp [h]

theorem run_loadCellsFrom {w : World} {x : Addr} : ∀ (vs : List Value) (i : Nat) (acc : Array Value), (∀ j v, vs[j]? = some v → w.cell? (x.add (i + j)) = some v) →
    (loadCellsFrom x i vs.length acc).run P w = .ok (acc ++ vs.toArray) w
  | [], i, acc, _ => by simp [loadCellsFrom]
  | v :: r, i, acc, h => by
    have h0 : w.cell? (x.add i) = some v := by simpa using h 0 v rfl
    have ih := run_loadCellsFrom r (i + 1) (acc.push v) (fun j u hj => by have := h (j + 1) u hj; rwa [show i + 1 + j = i + (j + 1) by omega])
    simp only [List.length_cons, loadCellsFrom, Sem.run_bind, run_load_some h0, Result.andThen, ih]
    simp

theorem run_loadCells {w : World} {x : Addr} {vs : List Value} (h : rdN w x vs) : (loadCells x vs.length).run P w = .ok vs.toArray w := by
  unfold loadCells
  rw [run_loadCellsFrom vs 0 #[] (fun j v hj => by simpa using h j v hj)]
  simp

theorem shOf_s {t : TypeId} {x : Sc} (h : shOf P t = some (.s x)) : isAggB P t = false ∧ ∃ d, P.underlying t = some d := by
  unfold shOf at h
  split at h
  · split at h <;> cases h
  · rename_i ha
    refine ⟨by simpa using ha, ?_⟩
    cases hd : P.underlying t with
    | none => simp [shF, hd] at h
    | some d => exact ⟨d, rfl⟩

theorem shOf_agg {t : TypeId} {l : List Sc} (h : shOf P t = some (.agg l)) : isAggB P t = true := by
  unfold shOf at h
  split at h
  · assumption
  · split at h <;> cases h

theorem run_loadVar {w : World} {t : TypeId} {h : Sh} {x : Addr} {y : h.T} (ht : shOf P t = some h)
    (hs : okSz h (szOf P t) = true) (hr : rdSh w x h y) : (loadVar t x).run P w = .ok (h.mk y).sv.v w := by
  cases h with
  | s s =>
    obtain ⟨h1, h2⟩ := shOf_s ht
    have hr' : w.cell? x = some (s.v y) := hr
    simp [loadVar, run_isAgg_false (n := 0) h1 h2, Result.andThen, Sh.mk, S2.sv, SV.v, Sc.mk_v, hr']
  | agg l =>
    have h1 := shOf_agg ht
    cases hn : szOf P t with
    | none => rw [hn] at hs; cases hs
    | some n =>
      rw [hn] at hs
      have hn' : n = (ScsV l y).length := by rw [ScsV_length]; simpa [okSz] using hs
      have hr' : rdN w x (ScsV l y) := hr
      simp only [loadVar, Sem.run_bind, run_isAgg_true h1, Result.andThen, if_true, run_sizeOf hn, hn', run_loadCells hr', Sem.run_pure]
      simp [Sh.mk, S2.sv, SV.v, ScsMk_v]

theorem placesOf_run : ∀ {fs : List Field} {pl : List (Nat × Nat)}, placesOf P fs = some pl → ∀ w, (fs.mapM fun f => do pure (f.offset, ← sizeOf f.type) : Sem (List (Nat × Nat))).run P w = .ok pl w
  | [], _, h, w => by simp only [placesOf] at h; cases h; simp
  | f :: r, _, h, w => by
    simp only [placesOf] at h
    split at h
    · rename_i s l hs hl
      cases h
      simp only [List.mapM_cons, Sem.run_bind, run_sizeOf hs, Result.andThen, Sem.run_pure, placesOf_run hl]
    · cases h

theorem zeroOf_some {t : TypeId} {z : List S1} (h : zeroOf P t = some z) : ∃ i v, P.info? t = some i ∧ i.zero = some v ∧ v.cells = (z.map S1.v).toArray := by
  unfold zeroOf at h
  split at h
  · rename_i i hi
    split at h
    · rename_i v hv
      exact ⟨i, v, hi, hv, by rw [ofVs_v h]⟩
    · cases h
  · cases h

theorem run_zeroValue {t : TypeId} {i : TypeInfo} {v : Value} (hi : P.info? t = some i) (hz : i.zero = some v) (w : World) : (zeroValue t).run P w = .ok v w := by
  simp [zeroValue, run_typeInfo hi, hz, Result.andThen]

theorem run_build_struct {t : TypeId} {fs : Array Field} {z : List S1} {ps : List (Nat × SV)} {pl : List (Nat × Nat)} {l : List S1} (ht : P.underlying t = some (.struct fs)) (hz : zeroOf P t = some z)
    (hp : placesOf P fs.toList = some pl) (hf : fillL (fun i => pl[i]?) z ps = some l) (ho : ∀ v ∈ needOne ps, One v) (w : World) :
    (Instr.build t (ps.map fun p => (p.1, p.2.v)).toArray).run P w = .ok (.agg (l.map S1.v).toArray) w := by
  obtain ⟨i, v, hi, hv, hc⟩ := zeroOf_some hz
  have h1 := fillL_v hf ho
  have h2 := placesOf_run hp
  have h3 : ∀ w, (fs.mapM fun f => do pure (f.offset, ← sizeOf f.type) : Sem (Array (Nat × Nat))).run P w = .ok pl.toArray w := fun w => by
    rw [Array.mapM_eq_mapM_toList, Sem.run_map, h2]; rfl
  have h4 : (fun (x : Nat) => pl.toArray[x]?) = fun x => pl[x]? := by funext x; simp
  simp only [Instr.build, Sem.run_bind, run_zeroValue hi hv, Result.andThen, run_underlying ht, h3, hc]
  simp only [h4, h1, List.toList_toArray]
  rfl

theorem run_build_array {t e : TypeId} {n size : Nat} {z : List S1} {ps : List (Nat × SV)} {l : List S1} (ht : P.underlying t = some (.array n e)) (hz : zeroOf P t = some z)
    (hs : szOf P e = some size) (hf : fillL (fun i => some (i * size, size)) z ps = some l) (ho : ∀ v ∈ needOne ps, One v) (w : World) :
    (Instr.build t (ps.map fun p => (p.1, p.2.v)).toArray).run P w = .ok (.agg (l.map S1.v).toArray) w := by
  obtain ⟨i, v, hi, hv, hc⟩ := zeroOf_some hz
  have h1 := fillL_v hf ho
  simp only [Instr.build, Sem.run_bind, run_zeroValue hi hv, Result.andThen, run_underlying ht, run_sizeOf hs, hc, List.toList_toArray, h1]
  rfl

theorem foldMn_run (mx : Bool) (k : IntKind) (w : World) : ∀ {r : List SV} {n m : Int}, foldMn mx k n r = some m →
    ((r.map SV.v).foldlM (if mx then Builtin.max2 else Builtin.min2) (.int k n)).run P w = .ok (.int k m) w := by
  intro r
  induction r with
  | nil => intro n m h; simp only [foldMn] at h; cases h; simp
  | cons x r ih =>
    intro n m h
    unfold foldMn at h
    split at h
    · rename_i hh; cases hh
    · rename_i k' m' r' hh
      cases hh
      have := ih h
      cases mx <;> simp only [List.map_cons, List.foldlM_cons, Sem.run_bind, SV.v, S1.v, Bool.false_eq_true, if_false, if_true, Builtin.max2, Builtin.min2, Sem.run_pure, Result.andThen] at this ⊢ <;> exact this
    · cases h

end
end Go.Proofs.Ytohoimokfgfceaa.K
