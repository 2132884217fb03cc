/-
  The program's disk: Clone; which file has become which.
-/
import Derived.Test.YtocmjngleknlbaaDkU
import Derived.Test.YtocmjngleknlbaaDkX
namespace Go.Proofs.Ytocmjngleknlbaa.K
open Go Go.Proofs
variable {Γ Γ' : Mem} {L L' L'' : List HP} {w w' : World} {A B : HP}
set_option maxRecDepth 100000
set_option maxHeartbeats 4000000

/-- files' places, and those of their like; the map from these to those -/
structure SameOK (ps qs : List (Option Nat)) (n : Nat) (sl : List (Option Nat × Option Nat)) : Prop where
  lenp : ps.length = n
  len : qs.length = n
  at_ : ∀ i b, i < n → K.at_ ps i = some b → atK sl (some b) = (K.at_ qs i).map some
  keys : ∀ p ∈ sl, FileAt ps n p.1
  old : ∀ i, i < n → K.at_ ps i = none → K.at_ qs i = none

theorem SameOK.nil_ {ps qs : List (Option Nat)} {n : Nat} {sl : List (Option Nat × Option Nat)} (h : SameOK ps qs n sl) : atK sl none = none := by
  rw [atK_none]
  intro hm
  obtain ⟨p, hp, e⟩ := List.mem_map.1 hm
  obtain ⟨i, b, _, _, e2⟩ := h.keys p hp
  rw [e] at e2
  cases e2

theorem at_repl (n i : Nat) : at_ (List.replicate n none) i = none := by
  unfold at_
  rw [List.getD_eq_getElem?_getD, List.getElem?_replicate]
  split <;> rfl

theorem SameOK.start {ps : List (Option Nat)} {n : Nat} (h : ps.length = n) : SameOK ps (List.replicate n Option.none) n [] :=
  ⟨h, by simp, fun i b _ _ => by rw [at_repl]; rfl, fun _ h => (by cases h), fun i _ _ => at_repl _ _⟩

theorem at_set {qs : List (Option Nat)} {i j : Nat} {v : Option Nat} (hi : i < qs.length) : at_ (qs.set i v) j = if j = i then v else at_ qs j := by
  unfold at_
  rw [List.getD_eq_getElem?_getD, List.getD_eq_getElem?_getD, List.getElem?_set]
  by_cases h : i = j
  · subst h; simp [hi]
  · rw [if_neg h, if_neg (fun e => h e.symm)]

/-- more is told -/
def More (qs qs' : List (Option Nat)) : Prop := ∀ i b, at_ qs i = some b → at_ qs' i = some b
theorem More.refl (qs : List (Option Nat)) : More qs qs := fun _ _ h => h
theorem More.trans {qs qs' qs'' : List (Option Nat)} (h : More qs qs') (h' : More qs' qs'') : More qs qs'' := fun i b e => h' i b (h i b e)
theorem More.some {qs qs' : List (Option Nat)} (h : More qs qs') {i : Nat} (hs : (at_ qs i).isSome = true) : at_ qs' i = at_ qs i := by
  obtain ⟨b, hb⟩ := Option.isSome_iff_exists.1 hs
  rw [hb, h i b hb]
theorem More.isSome {qs qs' : List (Option Nat)} (h : More qs qs') {i : Nat} (hs : (at_ qs i).isSome = true) : (at_ qs' i).isSome = true := by rw [h.some hs]; exact hs

theorem SameOK.put {ps qs : List (Option Nat)} {n i b b' : Nat} {sl : List (Option Nat × Option Nat)} (h : SameOK ps qs n sl) (hi : i < n) (hb : K.at_ ps i = some b) (hn : K.at_ qs i = none)
    (hinj : ∀ {j : Nat}, j < n → K.at_ ps j = some b → j = i) : SameOK ps (qs.set i (some b')) n (putK sl (some b) (some b')) ∧ More qs (qs.set i (some b')) := by
  have hiq : i < qs.length := by rw [h.len]; exact hi
  refine ⟨⟨h.lenp, by rw [List.length_set]; exact h.len, fun j c hj hc => ?_, fun p hp => ?_, fun j hj hp => ?_⟩, fun j c hc => ?_⟩
  · rw [atK_put, at_set hiq]
    by_cases e : j = i
    · subst e
      rw [hb] at hc
      cases hc
      simp
    · rw [if_neg e]
      have hne : ¬ (some c : Option Nat) = some b := fun e2 => by
        cases e2
        exact e (hinj hj hc)
      rw [if_neg hne]
      exact h.at_ j c hj hc
  · have : p.1 ∈ (putK sl (some b) (some b')).map (·.1) := List.mem_map_of_mem (f := (·.1)) hp
    rcases putK_keys sl (some b) (some b') with e | ⟨_, e⟩
    · rw [e] at this
      obtain ⟨q, hq, e2⟩ := List.mem_map.1 this
      rw [← e2]
      exact h.keys q hq
    · rw [e] at this
      rcases List.mem_append.1 this with h1 | h1
      · obtain ⟨q, hq, e2⟩ := List.mem_map.1 h1
        rw [← e2]
        exact h.keys q hq
      · rw [List.mem_singleton] at h1
        exact ⟨i, b, hi, hb, h1⟩
  · rw [at_set hiq]
    by_cases e : j = i
    · subst e; rw [hb] at hp; cases hp
    · rw [if_neg e]; exact h.old j hj hp
  · rw [at_set hiq]
    by_cases e : j = i
    · subst e; rw [hn] at hc; cases hc
    · rw [if_neg e]; exact hc

/-! ### files that stay as they are -/

inductive FM (Γ : Mem) : List (Option Nat) → List FileM → List HP → Prop
  | nil : FM Γ [] [] []
  | no {ps fs f M} : FM Γ ps fs M → FM Γ (none :: ps) (f :: fs) (HP.emp :: M)
  | is {ps fs f M s b} : Bytes Γ s f.b → FM Γ ps fs M → FM Γ (some b :: ps) (f :: fs) (blk b (.cells (fcells s f.kept) TFile (0, 0)) :: M)

theorem FM.open_ : ∀ {ps : List (Option Nat)} {fs : List FileM} {L : List HP}, ps.length = fs.length → Sat Γ (HP.all (filesL ps fs) :: L) w → ∃ M, FM Γ ps fs M ∧ Sat Γ (HP.all M :: L) w
  | [], [], _, _, h => ⟨[], .nil, h⟩
  | [], _ :: _, _, hl, _ => by cases hl
  | _ :: _, [], _, hl, _ => by cases hl
  | o :: ps, f :: fs, L, hl, h => by
    have h1 : Sat Γ (fileHP o f :: HP.all (filesL ps fs) :: L) w := Sat.consAll.1 h
    obtain ⟨M, hM, h2⟩ := FM.open_ (L := fileHP o f :: L) (by simpa using hl) (h1.pick .n1)
    have h3 : Sat Γ (fileHP o f :: HP.all M :: L) w := h2.pick .n1
    cases o with
    | none => exact ⟨HP.emp :: M, .no hM, Sat.consAll.2 h3⟩
    | some b =>
      obtain ⟨s, hs, h4⟩ := fileHP_open h3
      exact ⟨_, .is hs hM, Sat.consAll.2 h4⟩

theorem FM.shut : ∀ {ps : List (Option Nat)} {fs : List FileM} {M L : List HP}, FM Γ ps fs M → Sat Γ (HP.all M :: L) w → Sat Γ (HP.all (filesL ps fs) :: L) w
  | _, _, _, _, .nil, h => h
  | _, _, _, _, .no hM, h => by
    have h1 := Sat.consAll.1 h
    have h2 := hM.shut (h1.pick .n1)
    exact Sat.consAll.2 (h2.pick .n1)
  | _, _, _, _, .is hs hM, h => by
    have h1 := Sat.consAll.1 h
    have h2 := hM.shut (h1.pick .n1)
    have h3 := fileHP_shut (h2.pick .n1) hs
    exact Sat.consAll.2 h3

theorem FM.mono {ps : List (Option Nat)} {fs : List FileM} {M : List HP} (h : FM Γ ps fs M) (g : Γ.le Γ') : FM Γ' ps fs M := by
  induction h with
  | nil => exact .nil
  | no _ ih => exact .no ih
  | is hs _ ih => exact .is (hs.mono g) ih

theorem FM.get {ps : List (Option Nat)} {fs : List FileM} {M : List HP} (h : FM Γ ps fs M) : ∀ {i b : Nat}, at_ ps i = some b → ∃ s, Bytes Γ s (fs.getD i ⟨[], 0⟩).b ∧ M[i]? = some (blk b (.cells (fcells s (fs.getD i ⟨[], 0⟩).kept) TFile (0, 0))) := by
  induction h with
  | nil => intro i b e; cases e
  | no _ ih =>
    intro i b e
    cases i with
    | zero => cases e
    | succ i => exact ih (i := i) e
  | is hs _ ih =>
    intro i b e
    cases i with
    | zero => cases e; exact ⟨_, hs, rfl⟩
    | succ i => exact ih (i := i) e

theorem FM.good {ps : List (Option Nat)} {fs : List FileM} {M : List HP} {o : Option Nat} (hM : FM Γ ps fs M) (h : Sat Γ (HP.all M :: L) w) (hf : FileAt ps fs.length o) : goodP w o := (hM.shut h).goodFile hf

theorem bytesM_ld {L0 : List HP} {ps : List (Option Nat)} {fs : List FileM} {M : List HP} {i b : Nat} {Kp : Sl → Prop} (hM : FM Γ ps fs M) (e : at_ ps i = some b) (k : ∀ s, Bytes Γ s (fs.getD i ⟨[], 0⟩).b → Kp s) (pk : Pick (HP.all M) L0 L' := by (repeat (first | with_reducible exact Pick.here | apply Pick.there))) :
    Ld (Sx Γ L0) (.s .sl) (⟨b, 0, none⟩ : Addr) Kp := by
  obtain ⟨s, hs, hg⟩ := hM.get e
  refine ⟨s, ?_, k s hs⟩
  rintro w' ⟨Γ2, _, h⟩
  exact rd_of (((h.pick pk).allPick hg).heap) rfl

theorem keptM_ld {L0 : List HP} {ps : List (Option Nat)} {fs : List FileM} {M : List HP} {i b : Nat} {Kp : Int → Prop} (hM : FM Γ ps fs M) (e : at_ ps i = some b) (k : Kp ((fs.getD i ⟨[], 0⟩).kept : Int)) (pk : Pick (HP.all M) L0 L' := by (repeat (first | with_reducible exact Pick.here | apply Pick.there))) :
    Ld (Sx Γ L0) (.s (.int .i64)) (⟨b, 1, none⟩ : Addr) Kp := by
  obtain ⟨s, hs, hg⟩ := hM.get e
  refine ⟨((fs.getD i ⟨[], 0⟩).kept : Int), ?_, k⟩
  rintro w' ⟨Γ2, _, h⟩
  exact rd_of (((h.pick pk).allPick hg).heap) rfl

/-- a file's like, put where there was none -/
theorem filesL_put {qs : List (Option Nat)} {fs : List FileM} {i b : Nat} (hq : qs.length = fs.length) (hi : i < fs.length) (h : Sat Γ (fileHP (some b) (fs.getD i ⟨[], 0⟩) :: HP.all (filesL qs fs) :: L) w) (hn : at_ qs i = none) :
    Sat Γ (HP.all (filesL (qs.set i (some b)) fs) :: L) w := by
  have hf : fs[i]? = some (fs.getD i ⟨[], 0⟩) := by rw [List.getD_eq_getElem?_getD, List.getElem?_eq_getElem hi]; rfl
  have hql : i < qs.length := by omega
  have hqi : qs[i]? = some none := by
    unfold at_ at hn
    rw [List.getD_eq_getElem?_getD] at hn
    rw [List.getElem?_eq_getElem hql] at hn ⊢
    exact congrArg some hn
  have hl : i < (filesL qs fs).length := by unfold filesL; rw [List.length_zipWith]; omega
  have e1 : (filesL qs fs).set i HP.emp = filesL qs fs := by
    apply List.ext_getElem?
    intro j
    rw [List.getElem?_set]
    by_cases hij : i = j
    · subst hij
      unfold filesL at hl ⊢
      rw [if_pos rfl, if_pos hl, List.getElem?_zipWith, hqi, hf]
      rfl
    · rw [if_neg hij]
  have e2 : (filesL qs fs).set i (fileHP (some b) (fs.getD i ⟨[], 0⟩)) = filesL (qs.set i (some b)) fs := by
    unfold filesL
    apply List.ext_getElem?
    intro j
    rw [List.getElem?_set, List.getElem?_zipWith, List.getElem?_zipWith, List.getElem?_set]
    by_cases hij : i = j
    · subst hij
      rw [if_pos rfl, if_pos rfl, if_pos hql, hf, List.length_zipWith, if_pos (by omega)]
    · rw [if_neg hij, if_neg hij]
  rw [← e1] at h
  have h2 := h.allPut hl
  rw [e2] at h2
  exact h2

end Go.Proofs.Ytocmjngleknlbaa.K

/-
  The program's disk: Clone.
-/
namespace Go.Proofs.Ytocmjngleknlbaa.K
open Go Go.Proofs
variable {Γ Γ' : Mem} {L L' L'' : List HP} {w w' : World} {A B : HP}
set_option maxRecDepth 100000
set_option maxHeartbeats 4000000

/-- names that are gone through: those that were met, those that are left -/
structure IT (ps : List (Option Nat)) (n : Nat) (l : List (Str × Nat)) (ln left : List (Str × Option Nat)) (vs : List (Str × Nat)) : Prop where
  ok : NamesOK n l
  all : ln.Perm (namesP ps l)
  is : ∀ p ∈ l, (at_ ps p.2).isSome = true
  cut : (namesP ps vs ++ left).Perm ln
  sub : ∀ q ∈ vs, q ∈ l

theorem IT.start {ps : List (Option Nat)} {n : Nat} {l : List (Str × Nat)} {ln : List (Str × Option Nat)} (ok : NamesOK n l) (all : ln.Perm (namesP ps l)) (is : ∀ p ∈ l, (at_ ps p.2).isSome = true) : IT ps n l ln ln [] :=
  ⟨ok, all, is, .refl _, fun _ h => by cases h⟩

theorem IT.next {ps : List (Option Nat)} {n : Nat} {l : List (Str × Nat)} {ln l1 l2 : List (Str × Option Nat)} {vs : List (Str × Nat)} {s : Str} {o : Option Nat} (h : IT ps n l ln (l1 ++ (s, o) :: l2) vs) :
    ∃ q b, q.1 = s ∧ o = some b ∧ at_ ps q.2 = some b ∧ q.2 < n ∧ q.1 ∉ vs.map Prod.fst ∧ IT ps n l ln (l1 ++ l2) (vs ++ [q]) := by
  have hm : (s, o) ∈ namesP ps l := h.all.mem_iff.1 (h.cut.mem_iff.1 (by simp))
  obtain ⟨q, hq, e⟩ := List.mem_map.1 hm
  obtain ⟨b, hb⟩ := Option.isSome_iff_exists.1 (h.is q hq)
  have e1 : q.1 = s := congrArg Prod.fst e
  have e2 : at_ ps q.2 = o := congrArg Prod.snd e
  have hnd : ((namesP ps vs ++ (l1 ++ (s, o) :: l2)).map (·.1)).Nodup := ((h.cut.map _).nodup_iff).2 (names_nodup h.ok h.all)
  refine ⟨q, b, e1, by rw [← e2, hb], hb, h.ok.lt q hq, fun hx => ?_, ⟨h.ok, h.all, h.is, ?_, fun p hp => ?_⟩⟩
  · rw [List.map_append, List.nodup_append] at hnd
    refine hnd.2.2 s ?_ s (by simp) rfl
    rw [namesP_keys, ← e1]
    exact hx
  · refine List.Perm.trans ?_ h.cut
    have e3 : namesP ps (vs ++ [q]) = namesP ps vs ++ [(s, o)] := by unfold namesP; rw [List.map_append, List.map_singleton, e]
    rw [e3, List.append_assoc]
    refine List.Perm.append_left _ ?_
    exact (List.perm_middle (a := (s, o)) (l₁ := l1) (l₂ := l2)).symm
  · rcases List.mem_append.1 hp with h1 | h1
    · exact h.sub p h1
    · rw [List.mem_singleton] at h1; subst h1; exact hq

theorem IT.done {ps : List (Option Nat)} {n : Nat} {l : List (Str × Nat)} {ln : List (Str × Option Nat)} {vs : List (Str × Nat)} (h : IT ps n l ln [] vs) : vs.Perm l := by
  have h1 : (namesP ps vs).Perm (namesP ps l) := by have := h.cut; rw [List.append_nil] at this; exact this.trans h.all
  have hk : (vs.map Prod.fst).Perm (l.map Prod.fst) := by rw [← namesP_keys ps vs, ← namesP_keys ps l]; exact h1.map _
  have hn := h.ok.nodup
  have hnv : (vs.map Prod.fst).Nodup := hk.nodup_iff.2 hn
  refine perm_of_atK hnv hn fun k => ?_
  cases e : atK vs k with
  | none =>
    rw [atK_none] at e
    exact (atK_none.2 fun hx => e (hk.mem_iff.2 hx)).symm
  | some v => exact ((atK_mem hn).2 (h.sub _ ((atK_mem hnv).1 e))).symm

/-- the names that were met, with the new files -/
structure NM (qs : List (Option Nat)) (la : List (Str × Option Nat)) (vs : List (Str × Nat)) : Prop where
  perm : la.Perm (namesP qs vs)
  is : ∀ q ∈ vs, (at_ qs q.2).isSome = true

theorem NM.more {qs qs' : List (Option Nat)} {la : List (Str × Option Nat)} {vs : List (Str × Nat)} (h : NM qs la vs) (hm : More qs qs') : NM qs' la vs := by
  refine ⟨?_, fun q hq => hm.isSome (h.is q hq)⟩
  have e : namesP qs' vs = namesP qs vs := List.map_congr_left fun q hq => by rw [hm.some (h.is q hq)]
  rw [e]
  exact h.perm

theorem putK_new {κ ν : Type} [DecidableEq κ] {l : List (κ × ν)} {k : κ} {v : ν} (h : k ∉ l.map (·.1)) : putK l k v = l ++ [(k, v)] := by
  induction l with
  | nil => rfl
  | cons x r ih =>
    rw [List.map_cons, List.mem_cons] at h
    simp only [putK]
    rw [if_neg (fun e => h (.inl e)), ih (fun e => h (.inr e))]
    rfl

theorem NM.snoc {qs : List (Option Nat)} {la : List (Str × Option Nat)} {vs : List (Str × Nat)} {q : Str × Nat} {b : Nat} (h : NM qs la vs) (hb : at_ qs q.2 = some b) (hn : q.1 ∉ vs.map Prod.fst) : NM qs (putK la q.1 (some b)) (vs ++ [q]) := by
  refine ⟨?_, fun p hp => ?_⟩
  · have e : q.1 ∉ la.map (·.1) := fun hx => hn (by rw [← namesP_keys qs vs]; exact (h.perm.map _).mem_iff.1 hx)
    rw [putK_new e]
    unfold namesP
    rw [List.map_append, List.map_singleton, hb]
    exact h.perm.append_right _
  · rcases List.mem_append.1 hp with h1 | h1
    · exact h.is p h1
    · rw [List.mem_singleton] at h1; subst h1; rw [hb]; rfl

theorem NM.of {qs : List (Option Nat)} {la : List (Str × Option Nat)} {vs l : List (Str × Nat)} (h : NM qs la vs) (hp : vs.Perm l) : NM qs la l :=
  ⟨h.perm.trans (hp.map _), fun q hq => h.is q (hp.mem_iff.2 hq)⟩

theorem nextNamesI_pr {ty r it n : Nat} {ln left : List (Str × Option Nat)} {ps : List (Option Nat)} {l vs : List (Str × Nat)} {K : List Value → World → Prop} (h : Sat Γ L w) (pk : Pick (MapIt ekS ekP r it ln left) L L') (hi : IT ps n l ln left vs)
    (c0 : vs.Perm l → ∀ w', Sat Γ (MapIt ekS ekP r it ln [] :: L') w' → K [.bool false] w')
    (c1 : ∀ l1 q b, at_ ps q.2 = some b → q.2 < n → q.1 ∉ vs.map Prod.fst → l1.length < left.length → IT ps n l ln l1 (vs ++ [q]) → ∀ w', Sat Γ (MapAt ekS ekP r it ln l1 q.1 (some b) :: L') w' → K [.bool true, .string (str q.1), .pointer (some ⟨b, 0, none⟩)] w') :
    PrimN Try.prog (Instr.next (.pointer (some ⟨it, 0, none⟩)) false ty) K w := by
  refine nextNames_pr h pk (fun e w' h => ?_) (fun l1 k v l2 e w' h => ?_)
  · subst e
    exact c0 hi.done w' h
  · subst e
    obtain ⟨q, b, rfl, rfl, hb, hl, hn, h2⟩ := hi.next
    exact c1 _ q b hb hl hn (by simp) h2 w' h

theorem entryNamesS_pr {r it b : Nat} {ln left : List (Str × Option Nat)} {s : Str} {K : List Value → World → Prop} (h : Sat Γ L w) (pk : Pick (MapAt ekS ekP r it ln left s (some b)) L L') (c : ∀ w', Sat Γ (MapIt ekS ekP r it ln left :: L') w' → K [.string (str s), .pointer (some ⟨b, 0, none⟩)] w') :
    PrimN Try.prog (Instr.entry (.pointer (some ⟨it, 0, none⟩))) K w := entryNames_pr h pk c

theorem appChgS_pr {T2 T3 r b : Nat} {z3 : Nat × Nat} {s : Sl} {xs : List (Str × Str × Option Nat)} {c1 c2 : Str} {K : Sl → World → Prop} (h : Sat Γ (blk r (.cells #[.string (str c1), .string (str c2), .pointer (some ⟨b, 0, none⟩)] T3 z3) :: L) w) (pk : Pick (OL eChg TChg s xs) L L')
    (hb : (s.len + 1) * 40 ≤ 70368744177664) (k : ∀ s' w', s'.len = s.len + 1 → Sat Γ (OL eChg TChg s' (xs ++ [(c1, c2, some b)]) :: L') w' → K s' w') :
    Prim Try.prog (Builtin.append_ #[59, 59] T2 #[.slice s.p s.len s.cap, .slice (some ⟨r, 0, none⟩) 1 1]) (.one (.s .sl)) K w := appChg_pr h pk hb k

theorem Sat.as (h : Sat Γ L w) (e : L = L') : Sat Γ L' w := e ▸ h

theorem Sat.as1 (h : Sat Γ (A :: L) w) (e : A = B) : Sat Γ (B :: L) w := e ▸ h

theorem chgP_more {qs qs' : List (Option Nat)} {l : List ChM} (h : ∀ c ∈ l, c.new ≠ [] → (at_ qs c.file).isSome = true) (hm : More qs qs') : l.map (chgP qs') = l.map (chgP qs) := by
  refine List.map_congr_left fun c hc => ?_
  unfold chgP
  by_cases hn : c.new = []
  · rw [if_pos hn, if_pos hn]
  · rw [if_neg hn, if_neg hn, hm.some (h c hc hn)]

theorem filesL_none : ∀ (fs : List FileM) {L : List HP}, Sat Γ L w → Sat Γ (HP.all (filesL (List.replicate fs.length none) fs) :: L) w
  | [], _, h => (h.emp : Sat Γ (HP.emp :: _) w)
  | f :: fs, L, h => by
    have h1 := filesL_none fs h
    have h2 : Sat Γ (HP.emp :: HP.all (filesL (List.replicate fs.length none) fs) :: L) w := h1.emp
    exact Sat.consAll.2 h2

end Go.Proofs.Ytocmjngleknlbaa.K
