/-
  The program's disk: names in order, names kept, the crash.
-/
import Derived.Test.YtocmjngleknlbaaDkV
import Derived.Test.YtocmjngleknlbaaDkL
namespace Go.Proofs.Ytocmjngleknlbaa.K
open Go Go.Proofs
variable {Γ Γ' : Mem} {L L' L'' : List HP} {w w' : World} {A B : HP}
set_option maxRecDepth 100000
set_option maxHeartbeats 4000000

abbrev TStr : Nat := 9

theorem sorted_ok {r : Nat} {ln : List (Str × Option Nat)} {nl : List Str} {K : Sl → World → Prop} (h : Sat Γ (MapR ekS ekP r ln :: L) w) (hs : nl.Pairwise fun a b => cmpB a b < 0) (hp : (ln.map (·.1)).Perm nl) (hn : nl.length ≤ 1000000000000)
    (k : ∀ s w', Sat Γ (OL eStr TStr s nl :: MapR ekS ekP r ln :: L) w' → K s w') :
    CallP Try.prog 34 [.map (some r)] (.one (.s .sl)) K w := by
  have hlen : ln.length = nl.length := by simpa using hp.length_eq
  refine callP (fn := Try.f34) [.s (.mp (some r))] (.p .n (.p .n (.p (.p .n (.b (.l [6] [(3, .s .sl)] .n))) .n))) nong mixed (by kernel_rfl) (by kernel_rfl) rfl rfl ?_
  refine rangeNames_pr h .n0 (fun av1 _ h => ?_)
  rotate_left
  refine loop (σ := Sl) (fun st w' n => ∃ left acc, n = left.length ∧ (acc ++ left.map (·.1)).Perm nl ∧ Sat Γ (OL eStr TStr st acc :: MapIt ekS ekP r av1 ln left :: L) w') ln.length ⟨ln, [], rfl, by simpa using hp, h.olNil⟩ ?_
  clear h
  rintro st w n ⟨left, acc, hn2, hpm, h⟩
  have hal := hpm.length_eq
  rw [List.length_append, List.length_map] at hal
  have hol := h.olLen .n0
  refine nextNames_pr h .n1 (fun bp1 _ h => ?_) (fun bv4 bv5 bv6 bv7 bp8 _ h => ?_)
  refine ⟨_, rfl, ?_⟩
  refine brF ?_
  refine sortS_ok (h.pick .n1) (by first | omega | decide) (fun _ h => ?_)
  refine ⟨_, rfl, ?_⟩
  refine k _ _ ?_
  rotate_left
  refine ⟨_, rfl, ?_⟩
  refine brT ?_
  refine entryNames_pr h .n0 (fun _ h => ?_)
  refine ⟨_, rfl, ?_⟩
  refine new h fun br18 _ h => ?_
  refine app1 _ _ slStr h .n1 rfl (fun bs19 _ bl19 h => ?_)
  refine ⟨_, ?_, _, _, rfl, ?_, ((h.pick .n1).pick .n1)⟩
  rotate_left
  rotate_left
  · rw [sorted_unique hs (by simpa [bp1] using hpm)] at h
    exact (h.itMap .n1).pick .n1
  · have : left.length = (bv4 ++ bv7).length + 1 := by rw [bp8]; simp; omega
    omega
  · refine List.Perm.trans ?_ hpm
    rw [bp8, List.map_append, List.map_append, List.map_cons, List.append_assoc]
    refine List.Perm.append_left _ ?_
    exact (List.perm_middle (a := bv5) (l₁ := bv4.map (·.1)) (l₂ := bv7.map (·.1))).symm

theorem dSyncNames_ok {a : Nat} {m : DiskM} {K : Int → World → Prop} (h : Sat Γ (PDisk a m :: L) w) (hg : m.g < 1000000000000) (k : ∀ w', Sat Γ (PDisk a m.syncNames.1 :: L) w' → K m.syncNames.2 w') :
    CallP Try.prog 56 [.pointer (some ⟨a, 0, none⟩)] (.one (.s (.int .i64))) K w := by
  obtain ⟨ps, h⟩ := h.pd
  refine callP (fn := Try.f56) [.s (.ptr (some ⟨a, 0, none⟩))] .n nong mixed (by kernel_rfl) (by kernel_rfl) rfl rfl ?_
  refine readyP_ok h (fun _ hu h => ?_) (fun _ hu h => ?_)
  · rw [DiskM.syncNames_up hu] at k
    obtain ⟨rn, rk, cs, ln, lk, hp, hn, hk, h⟩ := Sat.pdg h
    have hw : Wf { m.tick with kept := m.now, changes := [] } := by rw [← tick_now (d := m)]; exact hp.wf.synced
    have hn' := hn
    rw [tick_now] at hn
    refine brF ?_
    refine ⟨_, rfl, ?_⟩
    refine ld _ h .n0 ?_
    refine cloneN_ok (h.pick .n1) (fun av1 _ h => ?_)
    refine ⟨_, rfl, ?_⟩
    refine st h .n2 fun _ h => ?_
    refine ⟨_, rfl, ?_⟩
    refine st h .n0 fun _ h => ?_
    refine ⟨_, rfl, ?_⟩
    refine k _ ?_
    rotate_left
    have h := h.olNil (E := eChg) (T := TChg)
    refine Sat.toPd (m := { m.tick with kept := m.now, changes := [] }) (ps := ps) (Sat.toPdg (m := { m.tick with kept := m.now, changes := [] }) (rn := rn) (rk := av1) (cs := ⟨none, 0, 0⟩) (ln := ln) (lk := ln) (M := filesL ps m.tick.files) ?_ ⟨hp.len, hp.now, by rw [← tick_now (d := m)]; exact hp.now, fun _ h => (by cases h), hw⟩ hn' hn)
    refine (((((((h.pick .n4).drop.pick .n4).drop.pick .n4).pick .n1).pick .n3).pick .n4).pick .n4)
  · rw [DiskM.syncNames_down hu] at k
    have h := h.toPd
    refine brT ?_
    refine ⟨_, rfl, ?_⟩
    refine k _ h

end Go.Proofs.Ytocmjngleknlbaa.K

/-
  The program's disk: the crash.
-/
namespace Go.Proofs.Ytocmjngleknlbaa.K
open Go Go.Proofs
variable {Γ Γ' : Mem} {L L' L'' : List HP} {w w' : World} {A B : HP}
set_option maxRecDepth 100000
set_option maxHeartbeats 4000000

theorem Sat.olCap {α : Type} {E : Enc α} {T : TypeId} {s : Sl} {xs : List α} (h : Sat Γ L w) (pk : Pick (OL E T s xs) L L') : s.len ≤ s.cap := by
  obtain ⟨ys, _, h1⟩ := (h.pick pk).ol
  exact h1.own.2.1

theorem fileB_ld {ps : List (Option Nat)} {fs : List FileM} {i b : Nat} {Kp : Sl → Prop} (h : Sat Γ L w) (e : at_ ps i = some b) (hi : i < fs.length) (pk : Pick (HP.all (filesL ps fs)) L L')
    (k : ∀ s, Bytes Γ s (fs.getD i ⟨[], 0⟩).b → Kp s) : Ld (fun w' => w' = w) (.s .sl) (⟨b, 0, none⟩ : Addr) Kp := file_ld h pk e hi k

theorem kept_ld {ps : List (Option Nat)} {fs : List FileM} {i b : Nat} {Kp : Int → Prop} (h : Sat Γ L w) (e : at_ ps i = some b) (hi : i < fs.length) (pk : Pick (HP.all (filesL ps fs)) L L')
    (k : Kp ((fs.getD i ⟨[], 0⟩).kept : Int)) : Ld (fun w' => w' = w) (.s (.int .i64)) (⟨b, 1, none⟩ : Addr) Kp := by
  obtain ⟨s, hs, h1⟩ := (h.pick pk).fileBlk e hi
  exact ld ((fs.getD i ⟨[], 0⟩).kept : Int) h1 .n0 k

theorem sub0 (s : Sl) (sz : Nat) (h m : Int) : s.sub sz 0 h m = ⟨s.p, h.toNat, m.toNat⟩ := by
  obtain ⟨p, n, c⟩ := s
  unfold Sl.sub
  cases p with
  | none => simp
  | some a =>
    obtain ⟨b, o, x⟩ := a
    simp [Addr.add]

theorem Bytes.cut {s : Sl} {bs : List UInt8} (h : Bytes Γ s bs) {n : Nat} (hn : n ≤ s.len) : Bytes Γ (s.sub 1 0 (n : Int) (n : Int)) (bs.take n) := by
  have h1 := h.sub (Nat.zero_le n) hn
  have h2 : Bytes Γ ⟨s.p, n, s.cap⟩ (bs.take n) := by simpa [sub0] using h1
  rw [sub0, Int.toNat_natCast]
  have h3 : Fz Γ ⟨s.p, n, s.cap⟩ 1 ((bs.take n).map bv) := h2
  have h4 : Fz Γ s 1 (bs.map bv) := h
  show Fz Γ ⟨s.p, n, n⟩ 1 ((bs.take n).map bv)
  exact ⟨h3.len, Nat.le_refl _, by have := h4.small; dsimp only; omega, h3.at_⟩

/-- the files that are left, and their names -/
def leftF (m : DiskM) (n : Int) (wb : List Int) : List FileM := (m.atN n).mapIdx (m.fileLeft wb)
def leftN (m : DiskM) (ps : List (Option Nat)) (n : Int) (qs : List Nat) : List (Str × Option Nat) := (m.atN n).mapIdx fun j p => (p.1, if j < qs.length then qs[j]? else at_ ps p.2)

theorem leftN_keys (m : DiskM) (ps : List (Option Nat)) (n : Int) (qs : List Nat) : (leftN m ps n qs).map (·.1) = (m.atN n).map Prod.fst := by
  unfold leftN
  apply List.ext_getElem?
  intro i
  simp only [List.getElem?_map, List.getElem?_mapIdx]
  cases (m.atN n)[i]? <;> rfl

theorem leftN_zero (m : DiskM) (ps : List (Option Nat)) (n : Int) : leftN m ps n [] = namesP ps (m.atN n) := by
  unfold leftN namesP
  apply List.ext_getElem?
  intro i
  simp only [List.getElem?_map, List.getElem?_mapIdx, List.length_nil, Nat.not_lt_zero, if_false]

theorem leftF_snoc {m : DiskM} {n : Int} {wb : List Int} {qs : List Nat} {q : Nat} {p : Str × Nat} (ep : (m.atN n)[qs.length]? = some p) :
    filesL ((qs ++ [q]).map some) ((leftF m n wb).take (qs.length + 1)) = filesL (qs.map some) ((leftF m n wb).take qs.length) ++ [fileHP (some q) (m.fileLeft wb qs.length p)] := by
  have hl := (List.getElem?_eq_some_iff.1 ep).1
  have e : (leftF m n wb)[qs.length]? = some (m.fileLeft wb qs.length p) := by unfold leftF; rw [List.getElem?_mapIdx, ep]; rfl
  rw [List.take_add_one, e, List.map_append]
  exact filesL_snoc _ _ _ _ (by unfold leftF; simp; omega)

theorem leftN_at {m : DiskM} {ps : List (Option Nat)} {n : Int} {qs : List Nat} {p : Str × Nat} (ep : (m.atN n)[qs.length]? = some p) : (leftN m ps n qs)[qs.length]? = some (p.1, at_ ps p.2) := by
  unfold leftN
  rw [List.getElem?_mapIdx, ep]
  simp

theorem leftN_snoc {m : DiskM} {ps : List (Option Nat)} {n : Int} {qs : List Nat} {q : Nat} {p : Str × Nat} (ep : (m.atN n)[qs.length]? = some p) : leftN m ps n (qs ++ [q]) = (leftN m ps n qs).set qs.length (p.1, some q) := by
  have hl := (List.getElem?_eq_some_iff.1 ep).1
  unfold leftN
  apply List.ext_getElem?
  intro j
  rw [List.getElem?_set, List.getElem?_mapIdx, List.getElem?_mapIdx, List.length_mapIdx]
  by_cases hj : qs.length = j
  · subst hj
    rw [if_pos rfl, if_pos hl, ep]
    simp
  · rw [if_neg hj]
    cases hn : (m.atN n)[j]? with
    | none => rfl
    | some x =>
      simp only [Option.map_some, List.length_append, List.length_singleton]
      by_cases h1 : j < qs.length
      · rw [if_pos (by omega), if_pos h1, List.getElem?_append_left h1]
      · rw [if_neg (by omega), if_neg h1]

theorem putK_set {κ ν : Type} [DecidableEq κ] {l : List (κ × ν)} {i : Nat} {k : κ} {v0 v : ν} (hn : (l.map (·.1)).Nodup) (e : l[i]? = some (k, v0)) : putK l k v = l.set i (k, v) := by
  induction l generalizing i with
  | nil => simp at e
  | cons x r ih =>
    simp only [List.map_cons, List.nodup_cons] at hn
    cases i with
    | zero =>
      simp at e
      subst e
      simp [putK]
    | succ i =>
      have e' : r[i]? = some (k, v0) := by simpa using e
      have hk : k ≠ x.1 := fun h => hn.1 (by rw [← h]; exact List.mem_map_of_mem (f := (·.1)) (List.mem_of_getElem? e'))
      simp only [putK, if_neg hk, List.set_cons_succ, ih hn.2 e']

theorem putK_perm {κ ν : Type} [DecidableEq κ] {l l' : List (κ × ν)} (h : l.Perm l') (hn : (l.map (·.1)).Nodup) (k : κ) (v : ν) : (putK l k v).Perm (putK l' k v) := by
  have hn' : (l'.map (·.1)).Nodup := ((h.map _).nodup_iff).1 hn
  refine perm_of_atK (putK_nodup hn k v) (putK_nodup hn' k v) fun x => ?_
  rw [atK_put, atK_put, atK_perm h hn]

theorem fold_some {ps : List (Option Nat)} : ∀ (cs : List ChM) (l : List (Str × Nat)), (∀ p ∈ l, (at_ ps p.2).isSome = true) → (∀ c ∈ cs, c.new ≠ [] → (at_ ps c.file).isSome = true) → ∀ p ∈ cs.foldl chg l, (at_ ps p.2).isSome = true
  | [], _, h, _ => h
  | c :: cs, l, h, hc => fold_some cs (chg l c) (fun p hp => by
      unfold chg at hp
      split at hp
      · exact h p (mem_without.1 hp).1
      · rename_i hne
        rcases mem_insN.1 hp with rfl | hp
        · exact hc c (.head _) hne
        · exact h p (mem_without.1 (mem_without.1 hp).1).1) fun c' hc' => hc c' (.tail _ hc')

theorem namesP_left {m : DiskM} {ps : List (Option Nat)} {n : Int} {qs : List Nat} (hq : qs.length = (m.atN n).length) : namesP (qs.map some) ((m.atN n).mapIdx fun i p => (p.1, i)) = leftN m ps n qs := by
  unfold namesP leftN
  apply List.ext_getElem?
  intro j
  rw [List.getElem?_map, List.getElem?_mapIdx, List.getElem?_mapIdx]
  cases hn : (m.atN n)[j]? with
  | none => rfl
  | some x =>
    have hj := (List.getElem?_eq_some_iff.1 hn).1
    simp only [Option.map_some]
    rw [if_pos (by omega)]
    unfold at_
    rw [List.getD_eq_getElem?_getD, List.getElem?_map, List.getElem?_eq_getElem (by omega)]
    rfl

theorem dCrash_ok {a : Nat} {m : DiskM} {n : Int} {t : Sl} {wb : List Int} {K : Int → World → Prop} (h : Sat Γ (PDisk a m :: L) w) (hg : m.g < 1000000000000) (hb : Lst eInt Γ t wb) (k : ∀ w', Sat Γ (PDisk a (m.crash n wb) :: L) w' → K 0 w') :
    CallP Try.prog 20 [.pointer (some ⟨a, 0, none⟩), .agg #[.int .i64 n, .slice t.p t.len t.cap]] (.one (.s (.int .i64))) K w := by
  obtain ⟨ps, h⟩ := h.pd
  obtain ⟨rn, rk, cs, ln, lk, hp, hn, hk, h⟩ := Sat.pdg h
  refine callP (fn := Try.f20) [.s (.ptr (some ⟨a, 0, none⟩)), .agg [.int .i64 n, .sl t]] (.p .n (.p .n (.p .n (.p (.p .s (.b (.l [34, 33, 3, 5, 0] [(35, .s (.int .i64))] .n))) (.p (.p .n (.b (.l [45, 3, 44, 5, 0] [(46, .s (.int .i64))] (.p .n (.p .n (.p (.b (.p .n (.p .n (.j [9, 10, 46, 45, 3, 44, 5, 0] [(11, .s (.int .i64))] (.p .n (.p .s .n)) .n)))) .n)))))) (.p (.h [0, 1, 2, 4, 5, 6, 7, 3, 8, 9, 10] [10]) .n)))))) nong mixed (by kernel_rfl) (by kernel_rfl) rfl rfl ?_
  have hcl := h.olLen .n3
  have hcc := h.olCap .n3
  have hml : (m.changes.map (chgP ps)).length = m.changes.length := List.length_map _
  have hgn := hp.wf.gn
  obtain ⟨lhb, mhb, chb⟩ := hb.lens
  refine new h fun ar0 _ h => ?_
  refine brF ?_
  refine ⟨_, rfl, ?_⟩
  refine ld _ h .n1 ?_
  refine cloneN_ok (h.pick .n3) (fun av2 _ h => ?_)
  refine dr h fun _ h => ?_
  refine ⟨_, rfl, ?_⟩
  refine ld _ h .n3 ?_
  refine ld _ h .n2 ?_
  refine mxI ?_
  refine ⟨_, rfl, ?_⟩
  refine ld _ h .n3 ?_
  refine mnI ?_
  refine ⟨by omega, ?_⟩
  rotate_left
  rw [sub0]
  refine loop (σ := Int) (fun st w' u => ∃ (i : Nat) (la : List (Str × Option Nat)), st = (i : Int) ∧ i ≤ min n.toNat m.changes.length ∧ u = min n.toNat m.changes.length - i ∧ la.Perm (namesP ps ((m.changes.take i).foldl chg m.kept)) ∧
      Sat Γ (MapR ekS ekP av2 la :: blk ar0 (.cells #[.int .i64 n, .slice t.p t.len t.cap] 56 (0, 0)) :: dlay a rn rk cs ln lk ps m (filesL ps m.files) L) w') (min n.toNat m.changes.length) ⟨0, lk, rfl, by omega, by omega, hk, ?_⟩ ?_
  · refine (((((((h.pick .n6).pick .n6).pick .n3).pick .n6).pick .n6).pick .n6).pick .n6)
  clear h
  rintro _ w u ⟨i, la, rfl, hi, hu, hla, h⟩
  by_cases hil : i < min n.toNat m.changes.length
  · obtain ⟨c, ec⟩ := get_lt (xs := m.changes) (i := i) (by omega)
    have ec' : (m.changes.map (chgP ps))[i]? = some (chgP ps c) := by rw [List.getElem?_map, ec]; rfl
    have htk : (m.changes.take (i + 1)).foldl chg m.kept = chg ((m.changes.take i).foldl chg m.kept) c := by rw [List.take_add_one, ec]; simp
    have hok : ∀ j, NamesOK m.files.length ((m.changes.take j).foldl chg m.kept) := fun j => (hp.wf.chs.take j).names hp.wf.kept
    have hdo := do_names (c := c) (hok i) (by rw [← htk]; exact hok (i + 1)) hla
    rw [← htk] at hdo
    refine brD (fun bb0 => ?_) (fun bb0 => ?_)
    dsimp only at bb0
    refine ⟨by dsimp only; omega, ?_⟩
    refine nnO (s := cs) h .n5 (fun ba1 bha1 => ?_)
    refine ldO h .n5 bha1 ec' (fun by2 bhy2 => ?_)
    have bhy2 := eChg_after bhy2
    subst bhy2
    refine new h fun br3 _ h => ?_
    refine stNs h .n0 fun _ h => ?_
    refine ldA3 _ _ _ h .n0 ?_
    refine do_ok (h.pick .n1) (fun _ h => ?_)
    refine wrN (i + 1) ?_
    refine ⟨_, (by first | omega | rfl | (dsimp only; omega)), _, _, rfl, (by first | omega | rfl | (dsimp only; omega)), rfl, hdo, ((((((((h.pick .n1).drop.pick .n6).pick .n6).pick .n6).pick .n6).pick .n6).pick .n6).pick .n6)⟩
    dsimp only at bb0
    (exfalso; omega)
  · have : i = min n.toNat m.changes.length := by omega
    subst this
    have htk : m.changes.take (min n.toNat m.changes.length) = m.changes.take n.toNat := by
      by_cases hc : n.toNat ≤ m.changes.length
      · rw [Nat.min_eq_left hc]
      · rw [Nat.min_eq_right (by omega), List.take_length, List.take_of_length_le (by omega)]
    rw [htk] at hla
    have hla : la.Perm (namesP ps (m.atN n)) := hla
    have hso := (hp.wf.atOK n).sorted
    have hpm : (la.map (·.1)).Perm ((m.atN n).map Prod.fst) := by rw [← namesP_keys ps]; exact hla.map _
    have hal := hp.wf.atLen n
    have hnN : ∀ {a b : List (Str × Option Nat)}, a.Perm b → (b.map (·.1)) = (m.atN n).map Prod.fst → (a.map (·.1)).Nodup := fun h e => by
      rw [((h.map _).nodup_iff), e]; exact (hp.wf.atOK n).nodup
    refine brD (fun cb0 => by exfalso; dsimp only at cb0; omega) (fun cb0 => ?_)
    dsimp only at cb0
    refine sorted_ok h ?_ hpm ?_ (fun cv2 _ h => ?_)
    rotate_left
    rotate_left
    rotate_left
    · rw [List.pairwise_map]; exact hso
    · rw [List.length_map]; omega
    have h0 := (h.pick .n0).emp
    refine loop (σ := Int) (fun st w' u => ∃ (qs : List Nat) (la : List (Str × Option Nat)), st = (qs.length : Int) ∧ qs.length ≤ (m.atN n).length ∧ u = (m.atN n).length - qs.length ∧ la.Perm (leftN m ps n qs) ∧
      Sat Γ (HP.all (filesL (qs.map some) ((leftF m n wb).take qs.length)) :: OL eStr TStr cv2 ((m.atN n).map Prod.fst) :: MapR ekS ekP av2 la :: blk ar0 (.cells #[.int .i64 n, .slice t.p t.len t.cap] 56 (0, 0)) :: dlay a rn rk cs ln lk ps m (filesL ps m.files) L) w') (m.atN n).length ⟨[], la, rfl, Nat.zero_le _, rfl, by rw [leftN_zero]; exact hla, h0⟩ ?_
    clear h h0 hla hpm
    rintro _ w u ⟨qs, la, rfl, hq, hu, hla, h⟩
    have hol := h.olLen .n1
    rw [List.length_map] at hol
    by_cases hql : qs.length < (m.atN n).length
    · obtain ⟨p, ep⟩ := get_lt hql
      have es : ((m.atN n).map Prod.fst)[qs.length]? = some p.1 := by rw [List.getElem?_map, ep]; rfl
      have hpm := List.mem_of_getElem? ep
      have hpl := (hp.wf.atOK n).lt p hpm
      obtain ⟨b, eb⟩ := Option.isSome_iff_exists.1 (fold_some _ _ hp.kept (fun c hc => hp.chs c (List.mem_of_mem_take hc)) p hpm)
      have hnl := hnN hla (leftN_keys ..)
      have hlk : atK la p.1 = some (some b) := by
        rw [atK_perm hla hnl, atK_mem ((hla.map _).nodup_iff.1 hnl), ← eb]
        exact List.mem_of_getElem? (leftN_at ep)
      have hfk : (m.files.getD p.2 ⟨[], 0⟩).kept ≤ (m.files.getD p.2 ⟨[], 0⟩).b.length := hp.wf.fileAt_kept p.2
      have hfl : (m.files.getD p.2 ⟨[], 0⟩).b.length ≤ m.g := hp.wf.fileAt_len p.2
      have hlp : ∀ q, (putK la p.1 (some q)).Perm (leftN m ps n (qs ++ [q])) := fun q => by
        rw [leftN_snoc ep, ← putK_set ((hla.map _).nodup_iff.1 hnl) (leftN_at ep)]
        exact putK_perm hla hnl _ _
      have hfs : ∀ q, filesL ((qs ++ [q]).map some) ((leftF m n wb).take (qs.length + 1)) = filesL (qs.map some) ((leftF m n wb).take qs.length) ++ [fileHP (some q) (m.fileLeft wb qs.length p)] := fun q => leftF_snoc ep
      generalize hX : HP.all (filesL (qs.map some) ((leftF m n wb).take qs.length)) = X at h
      by_cases hw0 : wb.length = 0
      · refine brD (fun db0 => ?_) (fun db0 => by exfalso; omega)
        refine ⟨by omega, ?_⟩
        refine nnO h .n1 (fun da1 dha1 => ?_)
        refine ldO h .n1 dha1 es (fun dy2 dhy2 => ?_)
        have dhy2 : dy2 = str (p.fst) := dhy2
        subst dhy2
        refine lookNamesS_pr h .n2 hlk ?_
        refine joinI ?_
        refine ld _ h .n3 ?_
        refine brD (fun db4 => by exfalso; omega) (fun db4 => ?_)
        refine ⟨_, rfl, ?_⟩
        refine kept_ld h eb hpl .n8 ?_
        refine wrN ((m.files.getD p.snd { b := [], kept := 0 }).kept + 0) ?_
        refine ⟨_, rfl, ?_⟩
        refine fileB_ld h eb hpl .n8 (fun dv7 df8 => ?_)
        obtain ⟨ldf8, mdf8, cdf8⟩ := df8.lens
        refine ⟨by omega, ?_⟩
        refine new h fun dr9 _ h => ?_
        refine putNames_pr h .n3 (fun _ h => ?_)
        refine wrN (qs.length + 1) ?_
        rotate_left
        have hfl2 : m.fileLeft wb qs.length p = ⟨(m.files.getD p.2 ⟨[], 0⟩).b.take ((m.files.getD p.2 ⟨[], 0⟩).kept + 0), (m.files.getD p.2 ⟨[], 0⟩).kept + 0⟩ := by unfold DiskM.fileLeft DiskM.leftOf; simp only [if_pos hw0]; rfl
        have hbs : Bytes Γ (dv7.sub 1 0 (((m.files.getD p.2 ⟨[], 0⟩).kept + 0 : Nat) : Int) (((m.files.getD p.2 ⟨[], 0⟩).kept + 0 : Nat) : Int)) ((m.files.getD p.2 ⟨[], 0⟩).b.take ((m.files.getD p.2 ⟨[], 0⟩).kept + 0)) := df8.cut (by omega)
        have h2 := fileHP_shut (f := ⟨(m.files.getD p.2 ⟨[], 0⟩).b.take ((m.files.getD p.2 ⟨[], 0⟩).kept + 0), (m.files.getD p.2 ⟨[], 0⟩).kept + 0⟩) (h.pick .n1) hbs
        rw [← hX] at h2
        have h3 := (h2.pick .n2).pick .n1 |>.allSnoc
        rw [← hfl2, ← hfs] at h3
        exact ⟨_, by rw [List.length_append, List.length_singleton]; omega, qs ++ [dr9], putK la p.1 (some dr9), by simp, by simp; omega, rfl, hlp _, by rw [List.length_append, List.length_singleton]; exact (h3.pick .n2).pick .n1⟩
      · have hm1 : 0 ≤ (qs.length : Int) % (t.len : Int) := Int.emod_nonneg _ (by omega)
        have hm2 : (qs.length : Int) % (t.len : Int) < (t.len : Int) := Int.emod_lt_of_pos _ (by omega)
        have hm3 : ((qs.length : Int) % (t.len : Int)).toNat = qs.length % wb.length := by rw [← Int.natCast_emod, Int.toNat_natCast]; congr 1
        obtain ⟨v, ev⟩ := get_lt (xs := wb) (i := ((qs.length : Int) % (t.len : Int)).toNat) (by omega)
        obtain ⟨v0, hv0⟩ : ∃ v0 : Int, v0 = v := ⟨_, rfl⟩
        have hev : wb[((qs.length : Int) % (t.len : Int)).toNat]? = some v0 := by rw [hv0]; exact ev
        have hkv : ∀ {x : Int}, x = ((m.files.getD p.2 ⟨[], 0⟩).kept : Int) + min (max v0 0) (((m.files.getD p.2 ⟨[], 0⟩).b.length - (m.files.getD p.2 ⟨[], 0⟩).kept : Nat) : Int) → x = (((m.files.getD p.2 ⟨[], 0⟩).kept + min v0.toNat ((m.files.getD p.2 ⟨[], 0⟩).b.length - (m.files.getD p.2 ⟨[], 0⟩).kept) : Nat) : Int) := fun e => by omega
        refine brD (fun eb0 => ?_) (fun eb0 => by exfalso; omega)
        refine ⟨by omega, ?_⟩
        refine nnO h .n1 (fun ea1 eha1 => ?_)
        refine ldO h .n1 eha1 es (fun ey2 ehy2 => ?_)
        have ehy2 : ey2 = str (p.fst) := ehy2
        subst ehy2
        refine lookNamesS_pr h .n2 hlk ?_
        refine joinI ?_
        refine ld _ h .n3 ?_
        refine brD (fun eb4 => ?_) (fun eb4 => by exfalso; omega)
        refine dr h fun _ h => ?_
        refine ld _ h .n3 ?_
        refine ld _ h .n3 ?_
        refine ⟨by omega, ?_⟩
        refine tmd ?_
        refine ⟨by omega, ?_⟩
        refine nnL h hb (fun ea5 eha5 => ?_)
        refine ldL h hb eha5 ev (fun ey6 ehy6 => ?_)
        have ehy6 : ey6 = v := ehy6
        subst ehy6
        refine mxI ?_
        refine ⟨_, rfl, ?_⟩
        refine fileB_ld h eb hpl .n8 (fun ev8 ef9 => ?_)
        obtain ⟨lef9, mef9, cef9⟩ := ef9.lens
        refine ⟨_, rfl, ?_⟩
        refine kept_ld h eb hpl .n8 ?_
        refine wrN (ev8.len - (m.files.getD p.snd { b := [], kept := 0 }).kept) ?_
        refine mnI ?_
        refine ⟨_, rfl, ?_⟩
        refine kept_ld h eb hpl .n8 ?_
        refine wr ?_
        refine ⟨_, rfl, ?_⟩
        refine fileB_ld h eb hpl .n8 (fun ev13 ef14 => ?_)
        obtain ⟨lef14, mef14, cef14⟩ := ef14.lens
        refine ⟨by omega, ?_⟩
        refine new h fun er15 _ h => ?_
        refine putNames_pr h .n3 (fun _ h => ?_)
        refine wrN (qs.length + 1) ?_
        rotate_left
        have hfl2 : m.fileLeft wb qs.length p = ⟨(m.files.getD p.2 ⟨[], 0⟩).b.take ((m.files.getD p.2 ⟨[], 0⟩).kept + min v0.toNat ((m.files.getD p.2 ⟨[], 0⟩).b.length - (m.files.getD p.2 ⟨[], 0⟩).kept)), (m.files.getD p.2 ⟨[], 0⟩).kept + min v0.toNat ((m.files.getD p.2 ⟨[], 0⟩).b.length - (m.files.getD p.2 ⟨[], 0⟩).kept)⟩ := by
          have e : wb.getD (qs.length % wb.length) 0 = v0 := by rw [List.getD_eq_getElem?_getD, ← hm3, hev]; rfl
          unfold DiskM.fileLeft DiskM.leftOf
          simp only [if_neg hw0, e]; rfl
        have hvl : ev8.len = (m.files.getD p.2 ⟨[], 0⟩).b.length := ef9.len
        have h5 := h.pick .n1
        rw [← hv0] at h5
        have ex := hkv (x := ((m.files.getD p.2 ⟨[], 0⟩).kept : Int) + min (max v0 0) ((ev8.len - (m.files.getD p.2 ⟨[], 0⟩).kept : Nat) : Int)) (by rw [hvl])
        rw [ex] at h5
        generalize hkn : (m.files.getD p.2 ⟨[], 0⟩).kept + min v0.toNat ((m.files.getD p.2 ⟨[], 0⟩).b.length - (m.files.getD p.2 ⟨[], 0⟩).kept) = nv at *
        have hbs : Bytes Γ (ev13.sub 1 0 (nv : Int) (nv : Int)) ((m.files.getD p.2 ⟨[], 0⟩).b.take nv) := ef14.cut (by omega)
        have h2 := fileHP_shut (f := ⟨(m.files.getD p.2 ⟨[], 0⟩).b.take nv, nv⟩) h5 hbs
        rw [← hX] at h2
        have h3 := (h2.pick .n2).pick .n1 |>.allSnoc
        rw [← hfl2, ← hfs] at h3
        exact ⟨_, by rw [List.length_append, List.length_singleton]; omega, qs ++ [er15], putK la p.1 (some er15), by simp, by simp; omega, rfl, hlp _, by rw [List.length_append, List.length_singleton]; exact (h3.pick .n2).pick .n1⟩
    · have hql : qs.length = (m.atN n).length := by omega
      have et : (leftF m n wb).take qs.length = leftF m n wb := List.take_of_length_le (by unfold leftF; simp; omega)
      rw [et] at h
      refine brD (fun fb0 => by exfalso; omega) (fun fb0 => ?_)
      refine heldS h (.cons .n0 (.cons .n0 (.cons .n0 (.cons .n0 (.cons .n0 (.cons .n0 (.cons .n0 (.cons .n0 (.cons .n0 .nil))))))))) ?_
      refine dr h fun _ h => ?_
      refine ⟨h.sxs (.cons .n0 (.cons .n0 (.cons .n0 (.cons .n0 (.cons .n0 (.cons .n0 (.cons .n0 (.cons .n0 (.cons .n0 .nil))))))))) (.refl _), ?_⟩
      refine ⟨_, rfl, ?_⟩
      refine ldH _ .n4 ?_
      refine cloneN_ok (h.pick .n2) (fun fv2 _ h => ?_)
      refine ⟨h.sxs (.cons .n2 (.cons .n2 (.cons .n1 (.cons .n1 (.cons .n1 (.cons .n1 (.cons .n1 (.cons .n1 (.cons .n1 .nil))))))))) (.refl _), ?_⟩
      refine ⟨_, rfl, ?_⟩
      refine stNs h .n5 fun _ h => ?_
      refine heldS h (.cons .n0 (.cons .n0 (.cons .n0 (.cons .n0 (.cons .n0 (.cons .n0 (.cons .n0 (.cons .n0 (.cons .n0 (.cons .n0 .nil)))))))))) ?_
      refine ⟨h.sxs (.cons .n0 (.cons .n0 (.cons .n0 (.cons .n0 (.cons .n0 (.cons .n0 (.cons .n0 (.cons .n0 (.cons .n0 (.cons .n0 .nil)))))))))) (.refl _), ?_⟩
      refine ⟨_, rfl, ?_⟩
      refine k _ ?_
      rotate_left
      have h := h.olNil (E := eChg) (T := TChg)
      have hN : la.Perm (namesP (qs.map some) ((m.atN n).mapIdx fun i p => (p.1, i))) := by rw [namesP_left hql]; exact hla
      have hS : ∀ p ∈ (m.atN n).mapIdx (fun i p => (p.1, i)), (at_ (qs.map some) p.2).isSome = true := by
        intro p hp
        obtain ⟨j, hj, e⟩ := List.mem_mapIdx.1 hp
        subst e
        unfold at_
        rw [List.getD_eq_getElem?_getD, List.getElem?_map, List.getElem?_eq_getElem (by omega)]
        rfl
      refine Sat.toPd (m := m.crash n wb) (ps := qs.map some) (Sat.toPdg (m := m.crash n wb) (rn := av2) (rk := fv2) (cs := ⟨none, 0, 0⟩) (ln := la) (lk := la) (M := filesL (qs.map some) (leftF m n wb)) ?_ ⟨?_, hS, hS, fun _ h => (by cases h), hp.wf.crash n wb⟩ hN hN)
      · refine (((((((((((h.pick .n5).drop.pick .n5).drop.pick .n5).drop.pick .n5).drop.pick .n5).drop.pick .n5).drop.pick .n4).pick .n1).pick .n3).pick .n4).pick .n4)
      · show (qs.map some).length = ((m.atN n).mapIdx (m.fileLeft wb)).length
        simp [hql]


end Go.Proofs.Ytocmjngleknlbaa.K
