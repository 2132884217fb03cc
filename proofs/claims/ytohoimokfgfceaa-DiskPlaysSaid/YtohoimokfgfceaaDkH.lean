/-
  The program's disk: Clone; which file has become which.
-/
import Derived.Test.YtohoimokfgfceaaDkU
namespace Go.Proofs.Ytohoimokfgfceaa.K
open Go Go.Proofs
variable {Γ Γ' : Mem} {L L' L'' : List HP} {w w' : World} {A B : HP}
set_option maxRecDepth 100000
set_option maxHeartbeats 4000000

/-- files' places, and those of their like; the map from these to those -/
structure SameOK (ps qs : List (Option Nat)) (n : Nat) (sl : List (Option Nat × Option Nat)) : Prop where
  lenp : ps.length = n
  len : qs.length = n
  at_ : ∀ i b, i < n → K.at_ ps i = some b → atK sl (some b) = (K.at_ qs i).map some
  keys : ∀ p ∈ sl, FileAt ps n p.1
  old : ∀ i, i < n → K.at_ ps i = none → K.at_ qs i = none

theorem SameOK.nil_ {ps qs : List (Option Nat)} {n : Nat} {sl : List (Option Nat × Option Nat)} (h : SameOK ps qs n sl) : atK sl none = none := by
  rw [atK_none]
  intro hm
  obtain ⟨p, hp, e⟩ := List.mem_map.1 hm
  obtain ⟨i, b, _, _, e2⟩ := h.keys p hp
  rw [e] at e2
  cases e2

theorem at_repl (n i : Nat) : at_ (List.replicate n none) i = none := by
  unfold at_
  rw [List.getD_eq_getElem?_getD, List.getElem?_replicate]
  split <;> rfl

theorem SameOK.start {ps : List (Option Nat)} {n : Nat} (h : ps.length = n) : SameOK ps (List.replicate n Option.none) n [] :=
  ⟨h, by simp, fun i b _ _ => by rw [at_repl]; rfl, fun _ h => (by cases h), fun i _ _ => at_repl _ _⟩

theorem at_set {qs : List (Option Nat)} {i j : Nat} {v : Option Nat} (hi : i < qs.length) : at_ (qs.set i v) j = if j = i then v else at_ qs j := by
  unfold at_
  rw [List.getD_eq_getElem?_getD, List.getD_eq_getElem?_getD, List.getElem?_set]
  by_cases h : i = j
  · subst h; simp [hi]
  · rw [if_neg h, if_neg (fun e => h e.symm)]

/-- more is told -/
def More (qs qs' : List (Option Nat)) : Prop := ∀ i b, at_ qs i = some b → at_ qs' i = some b
theorem More.refl (qs : List (Option Nat)) : More qs qs := fun _ _ h => h
theorem More.trans {qs qs' qs'' : List (Option Nat)} (h : More qs qs') (h' : More qs' qs'') : More qs qs'' := fun i b e => h' i b (h i b e)
theorem More.some {qs qs' : List (Option Nat)} (h : More qs qs') {i : Nat} (hs : (at_ qs i).isSome = true) : at_ qs' i = at_ qs i := by
  obtain ⟨b, hb⟩ := Option.isSome_iff_exists.1 hs
  rw [hb, h i b hb]
theorem More.isSome {qs qs' : List (Option Nat)} (h : More qs qs') {i : Nat} (hs : (at_ qs i).isSome = true) : (at_ qs' i).isSome = true := by rw [h.some hs]; exact hs

theorem SameOK.put {ps qs : List (Option Nat)} {n i b b' : Nat} {sl : List (Option Nat × Option Nat)} (h : SameOK ps qs n sl) (hi : i < n) (hb : K.at_ ps i = some b) (hn : K.at_ qs i = none)
    (hinj : ∀ {j : Nat}, j < n → K.at_ ps j = some b → j = i) : SameOK ps (qs.set i (some b')) n (putK sl (some b) (some b')) ∧ More qs (qs.set i (some b')) := by
  have hiq : i < qs.length := by rw [h.len]; exact hi
  refine ⟨⟨h.lenp, by rw [List.length_set]; exact h.len, fun j c hj hc => ?_, fun p hp => ?_, fun j hj hp => ?_⟩, fun j c hc => ?_⟩
  · rw [atK_put, at_set hiq]
    by_cases e : j = i
    · subst e
      rw [hb] at hc
      cases hc
      simp
    · rw [if_neg e]
      have hne : ¬ (some c : Option Nat) = some b := fun e2 => by
        cases e2
        exact e (hinj hj hc)
      rw [if_neg hne]
      exact h.at_ j c hj hc
  · have : p.1 ∈ (putK sl (some b) (some b')).map (·.1) := List.mem_map_of_mem (f := (·.1)) hp
    rcases putK_keys sl (some b) (some b') with e | ⟨_, e⟩
    · rw [e] at this
      obtain ⟨q, hq, e2⟩ := List.mem_map.1 this
      rw [← e2]
      exact h.keys q hq
    · rw [e] at this
      rcases List.mem_append.1 this with h1 | h1
      · obtain ⟨q, hq, e2⟩ := List.mem_map.1 h1
        rw [← e2]
        exact h.keys q hq
      · rw [List.mem_singleton] at h1
        exact ⟨i, b, hi, hb, h1⟩
  · rw [at_set hiq]
    by_cases e : j = i
    · subst e; rw [hb] at hp; cases hp
    · rw [if_neg e]; exact h.old j hj hp
  · rw [at_set hiq]
    by_cases e : j = i
    · subst e; rw [hn] at hc; cases hc
    · rw [if_neg e]; exact hc

abbrev TSame : Nat := 198

/-! ### files that stay as they are -/

inductive FM (Γ : Mem) : List (Option Nat) → List FileM → List HP → Prop
  | nil : FM Γ [] [] []
  | no {ps fs f M} : FM Γ ps fs M → FM Γ (none :: ps) (f :: fs) (HP.emp :: M)
  | is {ps fs f M s b} : Bytes Γ s f.b → FM Γ ps fs M → FM Γ (some b :: ps) (f :: fs) (blk b (.cells (fcells s f.kept) TFile (0, 0)) :: M)

theorem FM.open_ : ∀ {ps : List (Option Nat)} {fs : List FileM} {L : List HP}, ps.length = fs.length → Sat Γ (HP.all (filesL ps fs) :: L) w → ∃ M, FM Γ ps fs M ∧ Sat Γ (HP.all M :: L) w
  | [], [], _, _, h => ⟨[], .nil, h⟩
  | [], _ :: _, _, hl, _ => by cases hl
  | _ :: _, [], _, hl, _ => by cases hl
  | o :: ps, f :: fs, L, hl, h => by
    have h1 : Sat Γ (fileHP o f :: HP.all (filesL ps fs) :: L) w := Sat.consAll.1 h
    obtain ⟨M, hM, h2⟩ := FM.open_ (L := fileHP o f :: L) (by simpa using hl) (h1.pick .n1)
    have h3 : Sat Γ (fileHP o f :: HP.all M :: L) w := h2.pick .n1
    cases o with
    | none => exact ⟨HP.emp :: M, .no hM, Sat.consAll.2 h3⟩
    | some b =>
      obtain ⟨s, hs, h4⟩ := fileHP_open h3
      exact ⟨_, .is hs hM, Sat.consAll.2 h4⟩

theorem FM.shut : ∀ {ps : List (Option Nat)} {fs : List FileM} {M L : List HP}, FM Γ ps fs M → Sat Γ (HP.all M :: L) w → Sat Γ (HP.all (filesL ps fs) :: L) w
  | _, _, _, _, .nil, h => h
  | _, _, _, _, .no hM, h => by
    have h1 := Sat.consAll.1 h
    have h2 := hM.shut (h1.pick .n1)
    exact Sat.consAll.2 (h2.pick .n1)
  | _, _, _, _, .is hs hM, h => by
    have h1 := Sat.consAll.1 h
    have h2 := hM.shut (h1.pick .n1)
    have h3 := fileHP_shut (h2.pick .n1) hs
    exact Sat.consAll.2 h3

theorem FM.mono {ps : List (Option Nat)} {fs : List FileM} {M : List HP} (h : FM Γ ps fs M) (g : Γ.le Γ') : FM Γ' ps fs M := by
  induction h with
  | nil => exact .nil
  | no _ ih => exact .no ih
  | is hs _ ih => exact .is (hs.mono g) ih

theorem FM.get {ps : List (Option Nat)} {fs : List FileM} {M : List HP} (h : FM Γ ps fs M) : ∀ {i b : Nat}, at_ ps i = some b → ∃ s, Bytes Γ s (fs.getD i ⟨[], 0⟩).b ∧ M[i]? = some (blk b (.cells (fcells s (fs.getD i ⟨[], 0⟩).kept) TFile (0, 0))) := by
  induction h with
  | nil => intro i b e; cases e
  | no _ ih =>
    intro i b e
    cases i with
    | zero => cases e
    | succ i => exact ih (i := i) e
  | is hs _ ih =>
    intro i b e
    cases i with
    | zero => cases e; exact ⟨_, hs, rfl⟩
    | succ i => exact ih (i := i) e

theorem FM.good {ps : List (Option Nat)} {fs : List FileM} {M : List HP} {o : Option Nat} (hM : FM Γ ps fs M) (h : Sat Γ (HP.all M :: L) w) (hf : FileAt ps fs.length o) : goodP w o := (hM.shut h).goodFile hf

theorem bytesM_ld {L0 : List HP} {ps : List (Option Nat)} {fs : List FileM} {M : List HP} {i b : Nat} {Kp : Sl → Prop} (hM : FM Γ ps fs M) (e : at_ ps i = some b) (k : ∀ s, Bytes Γ s (fs.getD i ⟨[], 0⟩).b → Kp s) (pk : Pick (HP.all M) L0 L' := by (repeat (first | with_reducible exact Pick.here | apply Pick.there))) :
    Ld (Sx Γ L0) (.s .sl) (⟨b, 0, none⟩ : Addr) Kp := by
  obtain ⟨s, hs, hg⟩ := hM.get e
  refine ⟨s, ?_, k s hs⟩
  rintro w' ⟨Γ2, _, h⟩
  exact rd_of (((h.pick pk).allPick hg).heap) rfl

theorem keptM_ld {L0 : List HP} {ps : List (Option Nat)} {fs : List FileM} {M : List HP} {i b : Nat} {Kp : Int → Prop} (hM : FM Γ ps fs M) (e : at_ ps i = some b) (k : Kp ((fs.getD i ⟨[], 0⟩).kept : Int)) (pk : Pick (HP.all M) L0 L' := by (repeat (first | with_reducible exact Pick.here | apply Pick.there))) :
    Ld (Sx Γ L0) (.s (.int .i64)) (⟨b, 1, none⟩ : Addr) Kp := by
  obtain ⟨s, hs, hg⟩ := hM.get e
  refine ⟨((fs.getD i ⟨[], 0⟩).kept : Int), ?_, k⟩
  rintro w' ⟨Γ2, _, h⟩
  exact rd_of (((h.pick pk).allPick hg).heap) rfl

theorem lookIs_pr {r b b' : Nat} {sl : List (Option Nat × Option Nat)} {ps : List (Option Nat)} {fs : List FileM} {M : List HP} {K : Option Addr → World → Prop} (h : Sat Γ L w) (hM : FM Γ ps fs M) (hv : atK sl (some b) = some (some b')) (pk : Pick (MapR ekP ekP r sl) L L') (pk2 : Pick (HP.all M) L L'')
    (hk : ∀ p ∈ sl, FileAt ps fs.length p.1) (hi : FileAt ps fs.length (some b)) (c : K (some ⟨b', 0, none⟩) w) :
    Prim Try.prog (Instr.lookup TSame (.map (some r)) (.pointer (some ⟨b, 0, none⟩)) false) (.one (.s .ptr)) K w :=
  lookM (ek := ekP) (ev := ekP) (k := some b) (hg := hM.good (h.pick pk2) hi) (hgl := fun p hp => hM.good (h.pick pk2) (hk p hp)) (fun o => addrO (o.getD none)) kP samesU ptrZ h pk (fun _ => rfl) rfl (by rw [hv]; exact c)

theorem lookNo_pr {r b : Nat} {sl : List (Option Nat × Option Nat)} {ps : List (Option Nat)} {fs : List FileM} {M : List HP} {K : Option Addr → World → Prop} (h : Sat Γ L w) (hM : FM Γ ps fs M) (hv : atK sl (some b) = none) (pk : Pick (MapR ekP ekP r sl) L L') (pk2 : Pick (HP.all M) L L'')
    (hk : ∀ p ∈ sl, FileAt ps fs.length p.1) (hi : FileAt ps fs.length (some b)) (c : K none w) :
    Prim Try.prog (Instr.lookup TSame (.map (some r)) (.pointer (some ⟨b, 0, none⟩)) false) (.one (.s .ptr)) K w :=
  lookM (ek := ekP) (ev := ekP) (k := some b) (hg := hM.good (h.pick pk2) hi) (hgl := fun p hp => hM.good (h.pick pk2) (hk p hp)) (fun o => addrO (o.getD none)) kP samesU ptrZ h pk (fun _ => rfl) rfl (by rw [hv]; exact c)

theorem lookNil_pr {r : Nat} {sl : List (Option Nat × Option Nat)} {ps : List (Option Nat)} {fs : List FileM} {M : List HP} {K : Option Addr → World → Prop} (h : Sat Γ L w) (hM : FM Γ ps fs M) (hv : atK sl none = none) (pk : Pick (MapR ekP ekP r sl) L L') (pk2 : Pick (HP.all M) L L'')
    (hk : ∀ p ∈ sl, FileAt ps fs.length p.1) (c : K none w) :
    Prim Try.prog (Instr.lookup TSame (.map (some r)) (.pointer none) false) (.one (.s .ptr)) K w :=
  lookM (ek := ekP) (ev := ekP) (k := none) (hg := fun b hb => by cases hb) (hgl := fun p hp => hM.good (h.pick pk2) (hk p hp)) (fun o => addrO (o.getD none)) kP samesU ptrZ h pk (fun _ => rfl) rfl (by rw [hv]; exact c)

theorem lookPut_pr {r b b' : Nat} {sl : List (Option Nat × Option Nat)} {ps : List (Option Nat)} {fs : List FileM} {M : List HP} {K : Option Addr → World → Prop} (h : Sat Γ L w) (hM : FM Γ ps fs M) (pk : Pick (MapR ekP ekP r (putK sl (some b) (some b'))) L L') (pk2 : Pick (HP.all M) L L'')
    (hk : ∀ p ∈ sl, FileAt ps fs.length p.1) (hi : FileAt ps fs.length (some b)) (c : K (some ⟨b', 0, none⟩) w) :
    Prim Try.prog (Instr.lookup TSame (.map (some r)) (.pointer (some ⟨b, 0, none⟩)) false) (.one (.s .ptr)) K w := by
  refine lookIs_pr h hM (by rw [atK_put, if_pos rfl]) pk pk2 (fun p hp => ?_) hi c
  have : p.1 ∈ (putK sl (some b) (some b')).map (·.1) := List.mem_map_of_mem (f := (·.1)) hp
  rcases putK_keys sl (some b) (some b') with e | ⟨_, e⟩
  · rw [e] at this
    obtain ⟨q, hq, e2⟩ := List.mem_map.1 this
    rw [← e2]
    exact hk q hq
  · rw [e] at this
    rcases List.mem_append.1 this with h1 | h1
    · obtain ⟨q, hq, e2⟩ := List.mem_map.1 h1
      rw [← e2]
      exact hk q hq
    · rw [List.mem_singleton] at h1
      rw [h1]
      exact hi

theorem putSame_pr {r b b' : Nat} {sl : List (Option Nat × Option Nat)} {ps : List (Option Nat)} {fs : List FileM} {M : List HP} {K : World → Prop} (h : Sat Γ L w) (hM : FM Γ ps fs M) (pk : Pick (MapR ekP ekP r sl) L L') (pk2 : Pick (HP.all M) L L'')
    (hk : ∀ p ∈ sl, FileAt ps fs.length p.1) (hi : FileAt ps fs.length (some b)) (c : ∀ w', Sat Γ (MapR ekP ekP r (putK sl (some b) (some b')) :: L') w' → K w') :
    PrimU Try.prog (Instr.mapUpdate TSame (.map (some r)) (.pointer (some ⟨b, 0, none⟩)) (.pointer (some ⟨b', 0, none⟩))) K w :=
  putM (ek := ekP) (ev := ekP) (k := some b) (v := some b') (hg := hM.good (h.pick pk2) hi) (hgl := fun p hp => hM.good (h.pick pk2) (hk p hp)) kP samesU h pk c

/-- a file's like, put where there was none -/
theorem filesL_put {qs : List (Option Nat)} {fs : List FileM} {i b : Nat} (hq : qs.length = fs.length) (hi : i < fs.length) (h : Sat Γ (fileHP (some b) (fs.getD i ⟨[], 0⟩) :: HP.all (filesL qs fs) :: L) w) (hn : at_ qs i = none) :
    Sat Γ (HP.all (filesL (qs.set i (some b)) fs) :: L) w := by
  have hf : fs[i]? = some (fs.getD i ⟨[], 0⟩) := by rw [List.getD_eq_getElem?_getD, List.getElem?_eq_getElem hi]; rfl
  have hql : i < qs.length := by omega
  have hqi : qs[i]? = some none := by
    unfold at_ at hn
    rw [List.getD_eq_getElem?_getD] at hn
    rw [List.getElem?_eq_getElem hql] at hn ⊢
    exact congrArg some hn
  have hl : i < (filesL qs fs).length := by unfold filesL; rw [List.length_zipWith]; omega
  have e1 : (filesL qs fs).set i HP.emp = filesL qs fs := by
    apply List.ext_getElem?
    intro j
    rw [List.getElem?_set]
    by_cases hij : i = j
    · subst hij
      unfold filesL at hl ⊢
      rw [if_pos rfl, if_pos hl, List.getElem?_zipWith, hqi, hf]
      rfl
    · rw [if_neg hij]
  have e2 : (filesL qs fs).set i (fileHP (some b) (fs.getD i ⟨[], 0⟩)) = filesL (qs.set i (some b)) fs := by
    unfold filesL
    apply List.ext_getElem?
    intro j
    rw [List.getElem?_set, List.getElem?_zipWith, List.getElem?_zipWith, List.getElem?_set]
    by_cases hij : i = j
    · subst hij
      rw [if_pos rfl, if_pos rfl, if_pos hql, hf, List.length_zipWith, if_pos (by omega)]
    · rw [if_neg hij, if_neg hij]
  rw [← e1] at h
  have h2 := h.allPut hl
  rw [e2] at h2
  exact h2

theorem own_ok {c r i b : Nat} {sl : List (Option Nat × Option Nat)} {ps qs : List (Option Nat)} {fs : List FileM} {M : List HP} {K : Option Addr → World → Prop}
    (h : Sat Γ (MapR ekP ekP r sl :: HP.all M :: HP.all (filesL qs fs) :: blk c (.cells #[.map (some r)] TSame (0, 0)) :: L) w) (hM : FM Γ ps fs M) (hS : SameOK ps qs fs.length sl) (hi : i < fs.length) (hb : at_ ps i = some b)
    (k : ∀ qs' sl' b' w', SameOK ps qs' fs.length sl' → More qs qs' → at_ qs' i = some b' → Sat Γ (MapR ekP ekP r sl' :: HP.all M :: HP.all (filesL qs' fs) :: blk c (.cells #[.map (some r)] TSame (0, 0)) :: L) w' → K (some ⟨b', 0, none⟩) w') :
    CallP Try.prog 137 [.pointer (some ⟨b, 0, none⟩), .pointer (some ⟨c, 0, none⟩)] (.one (.s .ptr)) K w := by
  have hinj : ∀ {j : Nat}, j < fs.length → at_ ps j = some b → j = i := fun hj e => (hM.shut (h.pick (A := HP.all M) .n1)).filesInj hj hi e hb
  have hfa : FileAt ps fs.length (some b) := ⟨i, b, hi, hb, rfl⟩
  have hat := hS.at_ i b hi hb
  have hks := hS.keys
  refine callP (fn := Try.f137) [.s (.ptr (some ⟨b, 0, none⟩)), .s (.addr ⟨c, 0, none⟩)] (.p .n (.j [1, 0] [] (.p .n (.p (.h [0, 1, 2, 3, 4, 5, 6, 7, 8, 9, 10, 11, 12] [12]) .n)) .n)) nong mixed (by kernel_rfl) (by kernel_rfl) rfl rfl ?_
  cases hq : at_ qs i with
  | some b' =>
    rw [hq] at hat
    have hat : atK sl (some b) = some (some b') := hat
    have hmr := More.refl qs
    refine joinI ?_
    refine brT ?_
    refine ld _ h .n3 ?_
    refine lookIs_pr h hM hat .n0 .n1 hks hfa ?_
    refine brF ?_
    refine ld _ h .n3 ?_
    refine lookIs_pr h hM hat .n0 .n1 hks hfa ?_
    refine ⟨_, rfl, ?_⟩
    refine k _ _ _ _ hS hmr hq ((((h.pick .n3).pick .n3).pick .n3).pick .n3)
  | none =>
    rw [hq] at hat
    have hat : atK sl (some b) = none := hat
    have k2 : ∀ b' s w', Bytes Γ s (fs.getD i ⟨[], 0⟩).b → Sat Γ (blk b' (.cells (fcells s (fs.getD i ⟨[], 0⟩).kept) TFile (0, 0)) :: MapR ekP ekP r (putK sl (some b) (some b')) :: HP.all M :: HP.all (filesL qs fs) :: blk c (.cells #[.map (some r)] TSame (0, 0)) :: L) w' → K (some ⟨b', 0, none⟩) w' := by
      intro b' s w' hs h
      obtain ⟨hS2, hM2⟩ := hS.put (b' := b') hi hb hq hinj
      have h2 : Sat Γ (HP.all (filesL qs fs) :: fileHP (some b') (fs.getD i ⟨[], 0⟩) :: MapR ekP ekP r (putK sl (some b) (some b')) :: HP.all M :: blk c (.cells #[.map (some r)] TSame (0, 0)) :: L) w' := (fileHP_shut h hs).pick .n3
      have h3 := filesL_put hS.len hi (h2.pick .n1) hq
      refine k _ _ b' w' hS2 hM2 ?_ ?_
      · rw [at_set (by rw [hS.len]; exact hi), if_pos rfl]
      · have h4 : Sat Γ (HP.all M :: HP.all (filesL (qs.set i (some b')) fs) :: MapR ekP ekP r (putK sl (some b) (some b')) :: blk c (.cells #[.map (some r)] TSame (0, 0)) :: L) w' := h3.pick .n2
        exact h4.pick .n2
    clear k
    refine joinI ?_
    refine brT ?_
    refine ld _ h .n3 ?_
    refine lookNo_pr h hM hat .n0 .n1 hks hfa ?_
    refine brT ?_
    refine heldS h (.cons .n0 (.cons .n0 (.cons .n0 (.cons .n0 .nil)))) ?_
    refine dr h fun _ h => ?_
    refine ⟨h.sxs (.cons .n0 (.cons .n0 (.cons .n0 (.cons .n0 .nil)))) (.refl _), ?_⟩
    refine ldH _ .n3 ?_
    refine ⟨_, rfl, ?_⟩
    refine bytesM_ld hM hb (fun bv2 bf3 => ?_) .n1
    obtain ⟨lbf3, mbf3, cbf3⟩ := bf3.lens
    refine ⟨_, rfl, ?_⟩
    refine keptM_ld hM hb ?_ .n1
    refine new h fun br5 _ h => ?_
    refine ⟨h.sxs (.cons .n1 (.cons .n1 (.cons .n1 (.cons .n1 .nil)))) (.refl _), ?_⟩
    refine putSame_pr h hM .n1 .n2 hks hfa (fun _ h => ?_)
    refine heldS h (.cons .n0 (.cons .n0 (.cons .n0 (.cons .n0 (.cons .n0 .nil))))) ?_
    refine ⟨h.sxs (.cons .n0 (.cons .n0 (.cons .n0 (.cons .n0 (.cons .n0 .nil))))) (.refl _), ?_⟩
    refine ld _ h .n4 ?_
    refine lookPut_pr h hM .n0 .n2 hks hfa ?_
    refine ⟨_, rfl, ?_⟩
    refine k2 _ _ _ bf3 (((((h.pick .n4).pick .n4).pick .n4).pick .n3).pick .n4)

theorem own0_ok {c r : Nat} {sl : List (Option Nat × Option Nat)} {ps qs : List (Option Nat)} {fs : List FileM} {M : List HP} {K : Option Addr → World → Prop}
    (h : Sat Γ (MapR ekP ekP r sl :: HP.all M :: HP.all (filesL qs fs) :: blk c (.cells #[.map (some r)] TSame (0, 0)) :: L) w) (hM : FM Γ ps fs M) (hS : SameOK ps qs fs.length sl)
    (k : ∀ w', Sat Γ (MapR ekP ekP r sl :: HP.all M :: HP.all (filesL qs fs) :: blk c (.cells #[.map (some r)] TSame (0, 0)) :: L) w' → K none w') :
    CallP Try.prog 137 [.pointer none, .pointer (some ⟨c, 0, none⟩)] (.one (.s .ptr)) K w := by
  have hat := hS.nil_
  have hks := hS.keys
  refine callP (fn := Try.f137) [.s (.ptr none), .s (.addr ⟨c, 0, none⟩)] (.p .n (.j [1, 0] [] (.p .n (.p (.h [0, 1, 2, 3, 4, 5, 6, 7, 8, 9, 10, 11, 12] [12]) .n)) .n)) nong mixed (by kernel_rfl) (by kernel_rfl) rfl rfl ?_
  refine joinI ?_
  refine brF ?_
  refine ld _ h .n3 ?_
  refine lookNil_pr h hM hat .n0 .n1 hks ?_
  refine ⟨_, rfl, ?_⟩
  refine k _ ((((h.pick .n3).pick .n3).pick .n3).pick .n3)

end Go.Proofs.Ytohoimokfgfceaa.K
