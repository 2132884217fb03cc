/-
  A disk that is made, and of which all is kept: plain laws; what is put of a disk that is up, and of one that is doomed.
-/
import Derived.Test.YtocmjngleknlbaaPlL
import Derived.Test.YtocmjngleknlbaaPlD
namespace Go.Proofs.Ytocmjngleknlbaa.K
namespace DiskM
variable {m m' : DiskM} {n k : Int} {wb : List Int} {s t b name x : Str} {i : Nat}

theorem quiet_create (hq : quiet m) : quiet (m.create s).1 := by
  have hu := hq.up
  have ht := hq.tick
  unfold create; rw [hu, ht]; dsimp only; repeat' split
  all_goals first | exact hq | contradiction
theorem quiet_append (hq : quiet m) : quiet (m.append s b).1 := by
  have hu := hq.up
  have ht := hq.tick
  unfold append; rw [hu, ht]; dsimp only; repeat' split
  all_goals first | exact hq | contradiction
theorem quiet_sync (hq : quiet m) : quiet (m.sync s).1 := by
  have hu := hq.up
  have ht := hq.tick
  unfold sync; rw [hu, ht]; dsimp only; repeat' split
  all_goals first | exact hq | contradiction
theorem quiet_rename (hq : quiet m) : quiet (m.rename s t).1 := by
  have hu := hq.up
  have ht := hq.tick
  unfold rename; rw [hu, ht]; dsimp only; repeat' split
  all_goals first | exact hq | contradiction
theorem quiet_syncNames (hq : quiet m) : quiet m.syncNames.1 := by
  have hu := hq.up
  have ht := hq.tick
  unfold syncNames; rw [hu, ht]; dsimp only; repeat' split
  all_goals first | exact hq | contradiction

def QuietOK (f : DiskM → DiskM × Int) : Prop := ∀ m, quiet m → quiet (f m).1

theorem QuietOK.runAll : ∀ {fs : List (DiskM → DiskM × Int)}, (∀ f ∈ fs, QuietOK f) → QuietOK (runAll fs)
  | [], _ => fun m h => h
  | f :: r, h => fun m hm => by
    have h1 := h f (.head _) m hm
    by_cases hf : (f m).2 = 0
    · rw [runAll_ok hf]; exact QuietOK.runAll (fun x hx => h x (.tail _ hx)) _ h1
    · rw [runAll_no hf]; exact h1

theorem quiet_fill (cs : List Str) : QuietOK (fillM cs) := by
  unfold fillM
  refine QuietOK.runAll fun f hf => ?_
  obtain ⟨c, _, rfl⟩ := List.mem_map.1 hf
  exact fun m h => quiet_append h

theorem quiet_put (name x : Str) : QuietOK (fun m => putP m name x) := by
  intro m hm
  have h1 : QuietOK (K.runAll (putSteps name x)) := by
    refine QuietOK.runAll fun f hf => ?_
    simp only [putSteps, List.mem_cons, List.not_mem_nil, or_false] at hf
    rcases hf with rfl | rfl | rfl | rfl | rfl
    · exact fun m h => quiet_create h
    · exact quiet_fill _
    · exact fun m h => quiet_sync h
    · exact fun m h => quiet_rename h
    · exact fun m h => quiet_syncNames h
  show quiet (putP m name x).1
  unfold putP
  split
  · exact hm
  · split
    · exact quiet_remove hm
    · exact h1 _ (quiet_remove hm)

theorem quiet_grow (name x : Str) : QuietOK (fun m => growM m name x) := by
  intro m hm
  have h1 : QuietOK (K.runAll (growSteps name x)) := by
    refine QuietOK.runAll fun f hf => ?_
    simp only [growSteps, List.mem_cons, List.not_mem_nil, or_false] at hf
    rcases hf with rfl | rfl | rfl
    · intro m h
      unfold madeM
      split
      · exact quiet_syncNames (quiet_create h)
      · split <;> exact quiet_create h
    · exact fun m h => quiet_append h
    · exact fun m h => quiet_sync h
  show quiet (growM m name x).1
  unfold growM
  split
  · exact hm
  · exact h1 _ hm

theorem quiet_drop : ∀ (l : List Str) (b : Bool), QuietOK (dropF l b)
  | [], b => fun m h => by
    unfold dropF
    split
    · exact quiet_syncNames h
    · exact h
  | s :: l, b => fun m h => by
    unfold dropF
    repeat' split
    · exact quiet_drop l true _ (quiet_remove h)
    · exact quiet_drop l b _ (quiet_remove h)
    · exact quiet_remove h

/-- an act of those that make a disk -/
def actW (m : DiskM) (x : ActP) : DiskM :=
  if x.kind.toNat % 3 = 0 then (putP m x.name x.b).1 else if x.kind.toNat % 3 = 1 then (growM m x.name x.b).1 else (dropM m x.names).1

theorem actW_ok {x : ActP} (hx : smallP x) (hw : Wf m) (hq : quiet m) : Wf (m.actW x) ∧ quiet (m.actW x) ∧ (m.actW x).g ≤ m.g + 2000 := by
  obtain ⟨hx1, hx2, hx3, hx4⟩ := hx
  have hc := chunks_len x.b
  unfold actW
  split
  · have := stepPutP x.name x.b
    exact ⟨this.wf m hw, quiet_put _ _ m hq, Nat.le_trans (this.g m) (by omega)⟩
  · split
    · have := stepGrowP x.name x.b
      exact ⟨this.wf m hw, quiet_grow _ _ m hq, Nat.le_trans (this.g m) (by omega)⟩
    · have := stepDropF x.names false
      exact ⟨this.wf m hw, quiet_drop _ _ m hq, Nat.le_trans (this.g m) (by omega)⟩

/-! ### all is kept -/

/-- names are kept, and the first of the files -/
structure Syn (l : List Str) (i : Nat) (m : DiskM) : Prop where
  wf : Wf m
  q : quiet m
  ch : m.changes = []
  nm : m.now.map Prod.fst = l
  all : ∀ s ∈ l.take i, ∀ f, findN m.now s = some f → (m.fileAt f).kept = (m.fileAt f).b.length

theorem syn_start (hw : Wf m) (hq : quiet m) : Syn (m.now.map Prod.fst) 0 m.syncNames.1 := by
  have e : m.syncNames.1 = { m with kept := m.now, changes := [] } := by rw [syncNames_up hq.up, hq.tick]
  refine ⟨hw.syncNames, quiet_syncNames hq, by rw [e], by rw [e], fun s hs => ?_⟩
  simp at hs

theorem Syn.step {l : List Str} (h : Syn l i m) (e : l[i]? = some s) : Syn l (i + 1) (m.sync s).1 := by
  have hs : s ∈ m.now.map Prod.fst := by rw [h.nm]; exact List.mem_of_getElem? e
  obtain ⟨p, hp, rfl⟩ := List.mem_map.1 hs
  have hf : findN m.now p.1 = some p.2 := (findN_iff h.wf.nowOK.nodup).2 hp
  have e2 : m.sync p.1 = ({ m with files := m.files.set p.2 ⟨(m.fileAt p.2).b, (m.fileAt p.2).b.length⟩ }, 0) := by
    rw [sync_some h.q.up hf, h.q.tick]
  have hl := h.wf.find_lt hf
  refine ⟨h.wf.sync _, quiet_sync h.q, by rw [e2]; exact h.ch, by rw [e2]; exact h.nm, fun t ht f hft => ?_⟩
  rw [e2] at hft ⊢
  have hfa : DiskM.fileAt { m with files := m.files.set p.2 ⟨(m.fileAt p.2).b, (m.fileAt p.2).b.length⟩ } f = if p.2 = f then ⟨(m.fileAt p.2).b, (m.fileAt p.2).b.length⟩ else m.fileAt f := by
    unfold DiskM.fileAt
    show (m.files.set p.2 _).getD f _ = _
    rw [List.getD_eq_getElem?_getD, List.getElem?_set]
    by_cases hpf : p.2 = f
    · rw [if_pos hpf, if_pos hpf, if_pos (by omega)]; rfl
    · rw [if_neg hpf, if_neg hpf, List.getD_eq_getElem?_getD]
  dsimp only at hft
  rw [hfa]
  by_cases hpf : p.2 = f
  · rw [if_pos hpf]
  · rw [if_neg hpf]
    rw [List.take_add_one, e] at ht
    rcases List.mem_append.1 ht with ht | ht
    · exact h.all t ht f hft
    · simp at ht
      subst ht
      rw [hf] at hft
      cases hft
      exact absurd rfl hpf

theorem sync_g_eq : (m.sync s).1.g = m.g := sync_g m s

theorem Syn.firm {l : List Str} (h : Syn l l.length m) : Firm m := by
  refine ⟨h.wf, h.ch, fun s i hi => h.all s ?_ i hi⟩
  rw [List.take_length, ← h.nm]
  exact List.mem_map_of_mem (findN_mem hi)

theorem cont_there {s : Str} (hs : s ∈ m.now.map Prod.fst) : (cont m s).2 = 0 := by
  cases hf : findN m.now s with
  | some i => rw [cont_some hf]
  | none =>
    obtain ⟨p, hp, rfl⟩ := List.mem_map.1 hs
    exact absurd rfl (findN_none.1 hf p hp)

theorem right_there (hw : Wf m) {s : Str} (hs : s ∈ m.now.map Prod.fst) : rightN s := by
  obtain ⟨p, hp, rfl⟩ := List.mem_map.1 hs
  exact hw.nowOK.right p hp

end DiskM
end Go.Proofs.Ytocmjngleknlbaa.K
