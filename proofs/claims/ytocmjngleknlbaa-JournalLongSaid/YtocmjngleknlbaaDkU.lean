/-
  The program's disk: how many bytes it has.
-/
import Derived.Test.YtocmjngleknlbaaDkQ0
namespace Go.Proofs.Ytocmjngleknlbaa.K
open Go Go.Proofs
variable {Γ Γ' : Mem} {L L' L'' : List HP} {w w' : World} {A B : HP}
set_option maxRecDepth 100000
set_option maxHeartbeats 4000000

/-- these are files' places -/
def FileAt (ps : List (Option Nat)) (n : Nat) (o : Option Nat) : Prop := ∃ i b, i < n ∧ at_ ps i = some b ∧ o = some b

theorem Sat.fileBlk {ps : List (Option Nat)} {fs : List FileM} {i b : Nat} (h : Sat Γ (HP.all (filesL ps fs) :: L) w) (hp : at_ ps i = some b) (hi : i < fs.length) :
    ∃ s, Bytes Γ s (fs.getD i ⟨[], 0⟩).b ∧ Sat Γ (blk b (.cells (fcells s (fs.getD i ⟨[], 0⟩).kept) TFile (0, 0)) :: HP.all ((filesL ps fs).set i HP.emp) :: L) w := by
  have hf : fs[i]? = some (fs.getD i ⟨[], 0⟩) := by rw [List.getD_eq_getElem?_getD, List.getElem?_eq_getElem hi]; rfl
  exact fileHP_open (h.allPick (filesL_at hp hf))

theorem Sat.filesInj {ps : List (Option Nat)} {fs : List FileM} {i j b : Nat} (h : Sat Γ (HP.all (filesL ps fs) :: L) w) (hi : i < fs.length) (hj : j < fs.length) (ei : at_ ps i = some b) (ej : at_ ps j = some b) : i = j := by
  refine Decidable.byContradiction fun hij => ?_
  obtain ⟨s, _, h1⟩ := h.fileBlk ei hi
  have hf : fs[j]? = some (fs.getD j ⟨[], 0⟩) := by rw [List.getD_eq_getElem?_getD, List.getElem?_eq_getElem hj]; rfl
  have hj' : ((filesL ps fs).set i HP.emp)[j]? = some (fileHP (some b) (fs.getD j ⟨[], 0⟩)) := by
    rw [List.getElem?_set, if_neg hij]; exact filesL_at ej hf
  obtain ⟨s', _, h2⟩ := fileHP_open ((h1.pick (A := HP.all ((filesL ps fs).set i HP.emp)) .n1).allPick hj')
  exact Sat.ne (h2.pick .n2 |>.pick .n1) rfl

theorem Sat.goodFile {ps : List (Option Nat)} {fs : List FileM} {o : Option Nat} (h : Sat Γ (HP.all (filesL ps fs) :: L) w) (hf : FileAt ps fs.length o) : goodP w o := by
  obtain ⟨i, b, hi, e, rfl⟩ := hf
  obtain ⟨s, _, h1⟩ := h.fileBlk e hi
  intro b' e'
  cases e'
  exact ⟨_, _, h1.heap⟩

theorem file_ld {ps : List (Option Nat)} {fs : List FileM} {i b : Nat} {Kp : Sl → Prop} (h : Sat Γ L w) (pk : Pick (HP.all (filesL ps fs)) L L') (e : at_ ps i = some b) (hi : i < fs.length)
    (k : ∀ s, Bytes Γ s (fs.getD i ⟨[], 0⟩).b → Kp s) : Ld (fun w' => w' = w) (.s .sl) (⟨b, 0, none⟩ : Addr) Kp := by
  obtain ⟨s, hs, h1⟩ := (h.pick pk).fileBlk e hi
  exact ld s h1 .n0 (k s hs)

theorem putFiles_pr {r : Nat} {o : Option Nat} {fl : List (Option Nat × Bool)} {ps : List (Option Nat)} {fs : List FileM} {K : World → Prop} (h : Sat Γ L w) (pk : Pick (MapR ekP evB r fl) L L') (pk2 : Pick (HP.all (filesL ps fs)) L L'')
    (hk : ∀ p ∈ fl, FileAt ps fs.length p.1) (hi : FileAt ps fs.length o) (c : ∀ w', Sat Γ (MapR ekP evB r (putK fl o true) :: L') w' → K w') :
    PrimU Try.prog (Instr.mapUpdate 122 (.map (some r)) (.pointer (addrO o)) (.bool true)) K w :=
  putM (ek := ekP) (ev := evB) (k := o) (v := true) (hg := (h.pick pk2).goodFile hi) (hgl := fun p hp => (h.pick pk2).goodFile (hk p hp)) kP filesU h pk c

theorem rangeFiles_pr {r : Nat} {fl : List (Option Nat × Bool)} {K : Option Addr → World → Prop} (h : Sat Γ L w) (pk : Pick (MapR ekP evB r fl) L L') (c : ∀ it w', Sat Γ (MapIt ekP evB r it fl fl :: L') w' → K (some ⟨it, 0, none⟩) w') :
    Prim Try.prog (Instr.range 122 (.map (some r))) (.one (.s .ptr)) K w := rangeM filesU h pk c

theorem nextFiles_pr {ty r it : Nat} {fl left : List (Option Nat × Bool)} {K : List Value → World → Prop} (h : Sat Γ L w) (pk : Pick (MapIt ekP evB r it fl left) L L')
    (c0 : left = [] → ∀ w', Sat Γ (MapIt ekP evB r it fl [] :: L') w' → K [.bool false] w')
    (c1 : ∀ l1 k v l2, left = l1 ++ (k, v) :: l2 → ∀ w', Sat Γ (MapAt ekP evB r it fl (l1 ++ l2) k v :: L') w' → K [.bool true, .pointer (addrO k), .bool v] w') :
    PrimN Try.prog (Instr.next (.pointer (some ⟨it, 0, none⟩)) false ty) K w := nextM h pk c0 c1

theorem entryFiles_pr {r it : Nat} {fl left : List (Option Nat × Bool)} {o : Option Nat} {b : Bool} {K : List Value → World → Prop} (h : Sat Γ L w) (pk : Pick (MapAt ekP evB r it fl left o b) L L') (c : ∀ w', Sat Γ (MapIt ekP evB r it fl left :: L') w' → K [.pointer (addrO o), .bool b] w') :
    PrimN Try.prog (Instr.entry (.pointer (some ⟨it, 0, none⟩))) K w := entryM h pk (c w)

theorem putK_mem {l : List (Option Nat × Bool)} {k o : Option Nat} {v : Bool} : o ∈ (putK l k v).map (·.1) ↔ o = k ∨ o ∈ l.map (·.1) := by
  rcases putK_keys l k v with e | ⟨_, e⟩
  · rw [e]
    refine ⟨.inr, fun h => h.elim (fun h => ?_) id⟩
    subst h
    have : atK (putK l o v) o = some v := by rw [atK_put, if_pos rfl]
    rw [← e]
    exact Decidable.byContradiction fun hn => by rw [atK_none.2 hn] at this; cases this
  · rw [e]; simp only [List.mem_append, List.mem_singleton]; exact ⟨fun h => h.elim .inr .inl, fun h => h.elim .inr .inl⟩

/-- the files that count, while it is reckoned -/
def lenP (ps : List (Option Nat)) (fs : List FileM) (o : Option Nat) : Nat := (fs.getD (ps.idxOf o) ⟨[], 0⟩).b.length

theorem lenP_at {ps : List (Option Nat)} {fs : List FileM} (hinj : ∀ {i j b : Nat}, i < fs.length → j < fs.length → at_ ps i = some b → at_ ps j = some b → i = j) {i b : Nat} (hi : i < fs.length) (e : at_ ps i = some b) :
    lenP ps fs (some b) = (fs.getD i ⟨[], 0⟩).b.length := by
  have e' := e
  unfold at_ at e'
  rw [List.getD_eq_getElem?_getD] at e'
  have hil : i < ps.length := by
    refine Decidable.byContradiction fun hn => ?_
    rw [List.getElem?_eq_none (by omega)] at e'
    cases e'
  rw [List.getElem?_eq_getElem hil] at e'
  have e' : ps[i] = some b := e'
  have hm : some b ∈ ps := by rw [← e']; exact List.getElem_mem hil
  have hlt : ps.idxOf (some b) < ps.length := List.idxOf_lt_length_iff.2 hm
  have hle : ps.idxOf (some b) ≤ i := by
    refine Decidable.byContradiction fun hn => ?_
    have hq : i < List.findIdx (fun x => x == some b) ps := by unfold List.idxOf at hn; omega
    have := List.not_of_lt_findIdx hq
    rw [e'] at this
    simp at this
  have hg : at_ ps (ps.idxOf (some b)) = some b := by
    unfold at_
    rw [List.getD_eq_getElem?_getD, List.getElem?_eq_getElem hlt, List.getElem_idxOf hlt]
    rfl
  have := hinj (by omega) hi hg e
  unfold lenP
  rw [this]

theorem usedOf_range (h : Nat → Bool) : ∀ (fs : List FileM) (k : Nat), DiskM.usedOf h k fs = (((List.range' k fs.length).filter h).map fun i => (fs.getD (i - k) ⟨[], 0⟩).b.length).sum
  | [], k => rfl
  | f :: r, k => by
    unfold DiskM.usedOf
    rw [usedOf_range h r (k + 1), List.length_cons, List.range'_succ, List.filter_cons]
    have e : (((List.range' (k + 1) r.length).filter h).map fun i => (r.getD (i - (k + 1)) ⟨[], 0⟩).b.length) = (((List.range' (k + 1) r.length).filter h).map fun i => ((f :: r).getD (i - k) ⟨[], 0⟩).b.length) := by
      refine List.map_congr_left fun i hi => ?_
      have h1 := (List.mem_range'_1.1 (List.mem_filter.1 hi).1).1
      obtain ⟨j, rfl⟩ : ∃ j, i = j + (k + 1) := ⟨i - (k + 1), by omega⟩
      rw [show j + (k + 1) - (k + 1) = j by omega, show j + (k + 1) - k = j + 1 by omega]
      rfl
    rw [e]
    split
    · simp
    · simp

theorem used_sum {ps : List (Option Nat)} {m : DiskM} {ks : List (Option Nat)} (hn : ks.Nodup) (hk : ∀ o, o ∈ ks ↔ ∃ i b, i < m.files.length ∧ m.has i = true ∧ at_ ps i = some b ∧ o = some b)
    (hinj : ∀ {i j b : Nat}, i < m.files.length → j < m.files.length → at_ ps i = some b → at_ ps j = some b → i = j) (hs : ∀ i, m.has i = true → (at_ ps i).isSome = true) : m.used = (ks.map (lenP ps m.files)).sum := by
  unfold DiskM.used
  rw [usedOf_range]
  have hI : ∀ {i : Nat}, i ∈ (List.range' 0 m.files.length).filter m.has ↔ i < m.files.length ∧ m.has i = true := fun {i} => by rw [List.mem_filter, List.mem_range'_1]; simp
  have hIn : ((List.range' 0 m.files.length).filter m.has).Nodup := List.filter_sublist.nodup (List.nodup_range' (step := 1))
  have hp : ks.Perm (((List.range' 0 m.files.length).filter m.has).map (at_ ps)) := by
    have hn2 : (((List.range' 0 m.files.length).filter m.has).map (at_ ps)).Nodup := by
      rw [List.Nodup, List.pairwise_map]
      refine List.Pairwise.imp_of_mem ?_ hIn
      intro i j hi hj hij e
      obtain ⟨h1, h2⟩ := hI.1 hi
      obtain ⟨b, hb⟩ := Option.isSome_iff_exists.1 (hs i h2)
      exact hij (hinj h1 (hI.1 hj).1 hb (by rw [← e]; exact hb))
    have hm : ∀ o, o ∈ ks ↔ o ∈ ((List.range' 0 m.files.length).filter m.has).map (at_ ps) := fun o => by
      rw [hk, List.mem_map]
      constructor
      · rintro ⟨i, b, h1, h2, h3, rfl⟩; exact ⟨i, hI.2 ⟨h1, h2⟩, h3⟩
      · rintro ⟨i, hi, rfl⟩
        obtain ⟨h1, h2⟩ := hI.1 hi
        obtain ⟨b, hb⟩ := Option.isSome_iff_exists.1 (hs i h2)
        exact ⟨i, b, h1, h2, hb, hb⟩
    have key := perm_of_atK (l := ks.map fun o => (o, ())) (l' := (((List.range' 0 m.files.length).filter m.has).map (at_ ps)).map fun o => (o, ())) (by rw [List.map_map]; simpa [Function.comp_def] using hn) (by rw [List.map_map]; simpa [Function.comp_def] using hn2) (fun k => by
      cases h1 : atK (ks.map fun o => (o, ())) k with
      | none =>
        rw [atK_none] at h1
        refine (atK_none.2 fun hx => h1 ?_).symm
        rw [List.map_map] at hx ⊢
        simp only [Function.comp_def, List.map_id'] at hx ⊢
        exact (hm k).2 hx
      | some u =>
        cases h2 : atK ((((List.range' 0 m.files.length).filter m.has).map (at_ ps)).map fun o => (o, ())) k with
        | some u' => rfl
        | none =>
          rw [atK_none] at h2
          have h3 : ¬ atK (ks.map fun o => (o, ())) k = none := by rw [h1]; exact fun e => by cases e
          rw [atK_none] at h3
          refine absurd (fun hx => h2 ?_) h3
          rw [List.map_map] at hx ⊢
          simp only [Function.comp_def, List.map_id'] at hx ⊢
          exact (hm k).1 hx)
    have := key.map (·.1)
    rw [List.map_map, List.map_map] at this
    simpa [Function.comp_def] using this
  rw [(hp.map (lenP ps m.files)).sum_nat, List.map_map]
  congr 1
  refine List.map_congr_left fun i hi => ?_
  obtain ⟨h1, h2⟩ := hI.1 hi
  obtain ⟨b, hb⟩ := Option.isSome_iff_exists.1 (hs i h2)
  simp only [Function.comp_def, hb, Nat.sub_zero]
  exact (lenP_at hinj h1 hb).symm

theorem put_files {ps : List (Option Nat)} {n : Nat} {fl : List (Option Nat × Bool)} {o : Option Nat} (h : ∀ p ∈ fl, FileAt ps n p.1) (ho : FileAt ps n o) : ∀ p ∈ putK fl o true, FileAt ps n p.1 := fun p hp => by
  rcases putK_mem.1 (List.mem_map_of_mem (f := (·.1)) hp) with e | e
  · rw [e]; exact ho
  · obtain ⟨q, hq, e⟩ := List.mem_map.1 e
    rw [← e]; exact h q hq

theorem dUsed_ok {a : Nat} {ps : List (Option Nat)} {m : DiskM} {K : Int → World → Prop} (h : Sat Γ (PDp a ps m :: L) w) (hg : m.g < 1000000000000) (k : ∀ w', Sat Γ (PDp a ps m :: L) w' → K (m.used : Int) w') :
    CallP Try.prog 64 [.pointer (some ⟨a, 0, none⟩)] (.one (.s (.int .i64))) K w := by
  obtain ⟨rn, rk, cs, ln, lk, hp, hn, hk, h⟩ := Sat.pdg h
  refine callP (fn := Try.f64) [.s (.ptr (some ⟨a, 0, none⟩))] (.p .n (.p .n (.p .n (.p (.p .n (.b (.l [17, 0, 3] [] .n))) (.p (.p .n (.b (.l [28, 27, 3] [(29, .s (.int .i64))] (.p .n (.p .n (.p (.k [29, 28, 27, 3] [] .n) .n)))))) (.p .n (.p (.p .n (.b (.l [41] [(8, .s (.int .i64))] .n))) .n))))))) nong mixed (by kernel_rfl) (by kernel_rfl) rfl rfl ?_
  have hkf : ∀ p ∈ lk, FileAt ps m.files.length p.2 := fun p hpm => by
    obtain ⟨q, hq, e⟩ := List.mem_map.1 (hk.mem_iff.1 hpm)
    obtain ⟨b, hb⟩ := Option.isSome_iff_exists.1 (hp.kept q hq)
    exact ⟨q.2, b, hp.wf.kept.lt q hq, hb, by rw [← e]; exact hb⟩
  have hcf : ∀ c ∈ m.changes.map (chgP ps), c.2.1 ≠ [] → FileAt ps m.files.length c.2.2 := fun c hc hne => by
    obtain ⟨c', hc', e⟩ := List.mem_map.1 hc
    subst e
    obtain ⟨b, hb⟩ := Option.isSome_iff_exists.1 (hp.chs c' hc' hne)
    refine ⟨c'.file, b, hp.wf.chs.files c' hc', hb, ?_⟩
    show (if c'.new = [] then none else at_ ps c'.file) = some b
    rw [if_neg (show c'.new ≠ [] from hne), hb]
  refine brF ?_
  refine new h fun ar0 _ h => ?_
  refine ⟨_, rfl, ?_⟩
  refine ld _ h .n1 ?_
  refine rangeNames_pr h .n3 (fun av2 _ h => ?_)
  rotate_left
  refine loop (σ := PUnit) (fun st w' n => ∃ left fl, n = left.length ∧ (∀ p ∈ left, p ∈ lk) ∧ (∀ p ∈ fl, FileAt ps m.files.length p.1) ∧ (∀ o, o ∈ fl.map (·.1) ∨ o ∈ left.map (·.2) ↔ o ∈ lk.map (·.2)) ∧
    Sat Γ (MapIt ekS ekP rk av2 lk left :: MapR ekP evB ar0 fl :: blk a (.cells (dcells rn rk cs m) TDisk (0, 0)) :: MapR ekS ekP rn ln :: OL eChg TChg cs (m.changes.map (chgP ps)) :: HP.all (filesL ps m.files) :: L) w') lk.length
    ⟨lk, [], rfl, fun _ h => h, fun _ h => (by cases h), fun o => by simp, (h.pick .n1).mapNew.pick .n1⟩ ?_
  rintro _ w n ⟨left, fl, hn', hlk, hff, hke, h⟩
  refine nextNames_pr h .n0 (fun bp1 _ h => ?_) (fun bv4 bv5 bv6 bv7 bp8 _ h => ?_)
  refine ⟨_, rfl, ?_⟩
  refine brF ?_
  refine ⟨_, rfl, ?_⟩
  refine ld _ h .n2 ?_
  rotate_left
  refine ⟨_, rfl, ?_⟩
  refine brT ?_
  refine entryNames_pr h .n0 (fun _ h => ?_)
  refine ⟨_, rfl, ?_⟩
  refine putFiles_pr h .n1 .n5 hff ?_ (fun _ h => ?_)
  rotate_left
  refine ⟨_, ?_, _, _, rfl, ?_, ?_, ?_, ((((((h.pick .n5).pick .n5).pick .n5).pick .n5).pick .n4).pick .n5)⟩
  rotate_left
  rotate_left
  rotate_left
  rotate_left
  · have hke2 : ∀ o, o ∈ fl.map (·.1) ↔ o ∈ lk.map (·.2) := fun o => by
      rw [← hke o, bp1]; simp
    have hcl := h.olLen .n4
    have hgn := hp.wf.gn
    have hml : (m.changes.map (chgP ps)).length = m.changes.length := List.length_map _
    refine loop (σ := Int) (fun st w' n => ∃ (i : Nat) (fl : List (Option Nat × Bool)), st = (i : Int) ∧ i ≤ (m.changes.map (chgP ps)).length ∧ n = (m.changes.map (chgP ps)).length - i ∧ (∀ p ∈ fl, FileAt ps m.files.length p.1) ∧
      (∀ o, o ∈ fl.map (·.1) ↔ o ∈ lk.map (·.2) ∨ ∃ c ∈ (m.changes.map (chgP ps)).take i, c.2.1 ≠ [] ∧ o = c.2.2) ∧
      Sat Γ (MapR ekP evB ar0 fl :: MapR ekS ekP rk lk :: blk a (.cells (dcells rn rk cs m) TDisk (0, 0)) :: MapR ekS ekP rn ln :: OL eChg TChg cs (m.changes.map (chgP ps)) :: HP.all (filesL ps m.files) :: L) w') (m.changes.map (chgP ps)).length
      ⟨0, fl, rfl, by omega, by omega, hff, fun o => by rw [hke2 o]; simp, (h.itMap .n0).pick .n1⟩ ?_
    clear hke hff h hke2
    rintro _ w n ⟨i, fl, rfl, hi, hn2, hff, hke, h⟩
    by_cases hil : i < (m.changes.map (chgP ps)).length
    · obtain ⟨c, ec⟩ := get_lt hil
      have htk : (m.changes.map (chgP ps)).take (i + 1) = (m.changes.map (chgP ps)).take i ++ [c] := by rw [List.take_add_one, ec]; rfl
      by_cases hc : c.2.1 = []
      · refine brD (fun db0 => ?_) (fun db0 => by exfalso; omega)
        refine joinI ?_
        refine ⟨by omega, ?_⟩
        refine nnO h .n4 (fun da1 dha1 => ?_)
        refine ldO h .n4 dha1 ec (fun dy2 dhy2 => ?_)
        have dhy2 := eChg_after dhy2
        subst dhy2
        refine new h fun dr3 _ h => ?_
        refine stNs h .n0 fun _ h => ?_
        refine ld _ h .n0 ?_
        refine brSn (fun db4 => ?_) (fun db4 => ?_)
        refine ld _ h .n0 ?_
        refine putFiles_pr h .n1 .n6 hff ?_ (fun _ h => ?_)
        contradiction
        refine wrN (i + 1) ?_
        refine ⟨_, (by first | omega | rfl | (dsimp only; omega)), _, _, rfl, (by first | omega | rfl | (dsimp only; omega)), rfl, ?_, ?_, (((((((h.pick .n1).drop.pick .n5).pick .n5).pick .n5).pick .n5).pick .n5).pick .n5)⟩
        contradiction
        contradiction
        refine wrN (i + 1) ?_
        refine ⟨_, (by first | omega | rfl | (dsimp only; omega)), _, _, rfl, (by first | omega | rfl | (dsimp only; omega)), rfl, hff, ?_, ((((((h.drop.pick .n5).pick .n5).pick .n5).pick .n5).pick .n5).pick .n5)⟩
        rotate_left
        intro o
        rw [hke o, htk]
        simp only [List.mem_append, List.mem_singleton]
        refine or_congr .rfl ⟨fun ⟨c', h1, h2⟩ => ⟨c', .inl h1, h2⟩, ?_⟩
        rintro ⟨c', h1 | rfl, h2, h3⟩
        · exact ⟨c', h1, h2, h3⟩
        · exact absurd hc h2
      · have hcf1 := hcf c (List.mem_of_getElem? ec) hc
        have hff2 := put_files hff hcf1
        have hke2 : ∀ o, o ∈ (putK fl c.2.2 true).map (·.1) ↔ o ∈ lk.map (·.2) ∨ ∃ c ∈ (m.changes.map (chgP ps)).take (i + 1), c.2.1 ≠ [] ∧ o = c.2.2 := fun o => by
          rw [putK_mem, hke o, htk]
          simp only [List.mem_append, List.mem_singleton]
          constructor
          · rintro (rfl | h | ⟨c', h1, h2⟩)
            · exact .inr ⟨c, .inr rfl, hc, rfl⟩
            · exact .inl h
            · exact .inr ⟨c', .inl h1, h2⟩
          · rintro (h | ⟨c', h1 | rfl, h2, h3⟩)
            · exact .inr (.inl h)
            · exact .inr (.inr ⟨c', h1, h2, h3⟩)
            · exact .inl h3
        refine brD (fun eb0 => ?_) (fun eb0 => by exfalso; omega)
        refine joinI ?_
        refine ⟨by omega, ?_⟩
        refine nnO h .n4 (fun ea1 eha1 => ?_)
        refine ldO h .n4 eha1 ec (fun ey2 ehy2 => ?_)
        have ehy2 := eChg_after ehy2
        subst ehy2
        refine new h fun er3 _ h => ?_
        refine stNs h .n0 fun _ h => ?_
        refine ld _ h .n0 ?_
        refine brSn (fun eb4 => ?_) (fun eb4 => ?_)
        refine ld _ h .n0 ?_
        refine putFiles_pr h .n1 .n6 hff hcf1 (fun _ h => ?_)
        refine wrN (i + 1) ?_
        refine ⟨_, (by first | omega | rfl | (dsimp only; omega)), _, _, rfl, (by first | omega | rfl | (dsimp only; omega)), rfl, hff2, hke2, (((((((h.pick .n1).drop.pick .n5).pick .n5).pick .n5).pick .n5).pick .n5).pick .n5)⟩
        refine wrN (i + 1) ?_
        refine ⟨_, (by first | omega | rfl | (dsimp only; omega)), _, _, rfl, (by first | omega | rfl | (dsimp only; omega)), rfl, hff, ?_, ((((((h.drop.pick .n5).pick .n5).pick .n5).pick .n5).pick .n5).pick .n5)⟩
        contradiction
    · have : i = (m.changes.map (chgP ps)).length := by omega
      subst this
      rw [List.take_length] at hke
      have hkn : (fl.map (·.1)).Nodup := by
        obtain ⟨_, _, hI, _⟩ := h.mapR
        exact hI.nodup
      have hinj : ∀ {i j b : Nat}, i < m.files.length → j < m.files.length → at_ ps i = some b → at_ ps j = some b → i = j := fun hi hj ei ej => (h.pick (A := HP.all (filesL ps m.files)) .n5).filesInj hi hj ei ej
      have hus : (m.used : Int) = ((fl.map fun p => lenP ps m.files p.1).sum : Nat) := by
        rw [used_sum (ps := ps) hkn (fun o => ?_) hinj (fun i hi => ?_), List.map_map]
        · rfl
        · rw [hke o]
          constructor
          · rintro (h1 | ⟨c, h1, h2, h3⟩)
            · obtain ⟨p, hpm, e⟩ := List.mem_map.1 h1
              obtain ⟨q, hq, e2⟩ := List.mem_map.1 (hk.mem_iff.1 hpm)
              obtain ⟨b, hb⟩ := Option.isSome_iff_exists.1 (hp.kept q hq)
              refine ⟨q.2, b, hp.wf.kept.lt q hq, ?_, hb, ?_⟩
              · unfold DiskM.has; rw [Bool.or_eq_true, List.any_eq_true]; exact .inl ⟨q, hq, by simp⟩
              · rw [← e, ← e2]; exact hb
            · obtain ⟨c', hc', e⟩ := List.mem_map.1 h1
              subst e
              obtain ⟨b, hb⟩ := Option.isSome_iff_exists.1 (hp.chs c' hc' h2)
              refine ⟨c'.file, b, hp.wf.chs.files c' hc', ?_, hb, ?_⟩
              · unfold DiskM.has; rw [Bool.or_eq_true, List.any_eq_true, List.any_eq_true]; exact .inr ⟨c', hc', by simpa using (show c'.new ≠ [] from h2)⟩
              · rw [h3]; show (if c'.new = [] then none else at_ ps c'.file) = some b; rw [if_neg (show c'.new ≠ [] from h2), hb]
          · rintro ⟨i, b, hi, hh, e, rfl⟩
            unfold DiskM.has at hh
            rw [Bool.or_eq_true, List.any_eq_true, List.any_eq_true] at hh
            rcases hh with ⟨q, hq, e2⟩ | ⟨c, hc, e2⟩
            · refine .inl (List.mem_map.2 ⟨(q.1, at_ ps q.2), hk.mem_iff.2 (List.mem_map.2 ⟨q, hq, rfl⟩), ?_⟩)
              rw [← e, ← (show q.2 = i by simpa using e2)]
            · simp only [Bool.and_eq_true, Bool.not_eq_true', decide_eq_false_iff_not, beq_iff_eq] at e2
              refine .inr ⟨chgP ps c, List.mem_map_of_mem hc, e2.1, ?_⟩
              show some b = if c.new = [] then none else at_ ps c.file
              rw [if_neg e2.1, e2.2, e]
        · unfold DiskM.has at hi
          rw [Bool.or_eq_true, List.any_eq_true, List.any_eq_true] at hi
          rcases hi with ⟨q, hq, e2⟩ | ⟨c, hc, e2⟩
          · rw [← (show q.2 = i by simpa using e2)]; exact hp.kept q hq
          · simp only [Bool.and_eq_true, Bool.not_eq_true', decide_eq_false_iff_not, beq_iff_eq] at e2
            rw [← e2.2]; exact hp.chs c hc e2.1
      refine brD (fun fb0 => by exfalso; omega) (fun fb0 => ?_)
      refine rangeFiles_pr h .n0 (fun fv2 _ h => ?_)
      rotate_left
      refine loop (σ := Int) (fun st w' n => ∃ left, n = left.length ∧ (∀ p ∈ left, p ∈ fl) ∧ st + ((left.map fun p => lenP ps m.files p.1).sum : Nat) = m.used ∧ 0 ≤ st ∧
        Sat Γ (MapIt ekP evB ar0 fv2 fl left :: MapR ekS ekP rk lk :: blk a (.cells (dcells rn rk cs m) TDisk (0, 0)) :: MapR ekS ekP rn ln :: OL eChg TChg cs (m.changes.map (chgP ps)) :: HP.all (filesL ps m.files) :: L) w') fl.length
        ⟨fl, rfl, fun _ h => h, by omega, by omega, h⟩ ?_
      clear h
      rintro acc w n ⟨left, hn3, hlf, hac, h0, h⟩
      have hug := hp.wf.used_le
      refine nextFiles_pr h .n0 (fun gp1 _ h => ?_) (fun gv4 gv5 gv6 gv7 gp8 _ h => ?_)
      refine ⟨_, rfl, ?_⟩
      refine brF ?_
      refine ⟨_, rfl, ?_⟩
      rotate_left
      refine ⟨_, rfl, ?_⟩
      refine brT ?_
      refine entryFiles_pr h .n0 (fun _ h => ?_)
      refine ⟨_, rfl, ?_⟩
      rotate_left
      · rw [gp1] at hac
        have e : acc = (m.used : Int) := by simpa using hac
        rw [e]
        exact k _ (Sat.toPdg (h.drop.pick .n2 |>.pick .n2) hp hn hk)
      · obtain ⟨i, b, hi, eb, e⟩ := hff (gv5, gv6) (hlf _ (by rw [gp8]; exact List.mem_append_right _ (.head _)))
        dsimp only at e
        revert h
        subst e
        intro h
        have hl1 := lenP_at hinj hi eb
        have hs1 : (left.map fun p => lenP ps m.files p.1).sum = (m.files.getD i ⟨[], 0⟩).b.length + ((gv4 ++ gv7).map fun p => lenP ps m.files p.1).sum := by
          rw [gp8, ← hl1]; simp; omega
        have hll : left.length = (gv4 ++ gv7).length + 1 := by rw [gp8]; simp; omega
        have hlk2 : ∀ p ∈ gv4 ++ gv7, p ∈ fl := fun p hp => hlf p (by
          rw [gp8]
          rcases List.mem_append.1 hp with h | h
          · exact List.mem_append_left _ h
          · exact List.mem_append_right _ (.tail _ h))
        refine ⟨_, rfl, ?_⟩
        refine file_ld h .n5 eb hi (fun hv1 hf2 => ?_)
        obtain ⟨lhf2, mhf2, chf2⟩ := hf2.lens
        refine wr ?_
        refine ⟨_, (by first | omega | rfl | (dsimp only; omega)), _, rfl, hlk2, (by first | omega | rfl | (dsimp only; omega)), (by first | omega | rfl | (dsimp only; omega)), ((((((h.pick .n5).pick .n5).pick .n5).pick .n5).pick .n5).pick .n5)⟩
  · exact hkf (bv5, bv6) (hlk _ (by rw [bp8]; simp))
  · have : left.length = (bv4 ++ bv7).length + 1 := by rw [bp8]; simp; omega
    omega
  · exact fun p hp => hlk p (by
      rw [bp8]
      rcases List.mem_append.1 hp with h | h
      · exact List.mem_append_left _ h
      · exact List.mem_append_right _ (.tail _ h))
  · exact put_files hff (hkf (bv5, bv6) (hlk _ (by rw [bp8]; simp)))
  · intro o
    rw [putK_mem, ← hke o, bp8]
    simp only [List.map_append, List.map_cons, List.mem_append, List.mem_cons]
    constructor
    · rintro ((h | h) | h | h)
      · exact .inr (.inr (.inl h))
      · exact .inl h
      · exact .inr (.inl h)
      · exact .inr (.inr (.inr h))
    · rintro (h | h | h | h)
      · exact .inl (.inr h)
      · exact .inr (.inl h)
      · exact .inl (.inl h)
      · exact .inr (.inr h)

end Go.Proofs.Ytocmjngleknlbaa.K
