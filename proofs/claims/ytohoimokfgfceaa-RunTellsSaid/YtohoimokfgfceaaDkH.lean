/-
  The program's disk: Clone; which file has become which.
-/
import Derived.Test.YtohoimokfgfceaaDkU
import Derived.Test.YtohoimokfgfceaaDkX
namespace Go.Proofs.Ytohoimokfgfceaa.K
open Go Go.Proofs
variable {Γ Γ' : Mem} {L L' L'' : List HP} {w w' : World} {A B : HP}
set_option maxRecDepth 100000
set_option maxHeartbeats 4000000

/-- files' places, and those of their like; the map from these to those -/
structure SameOK (ps qs : List (Option Nat)) (n : Nat) (sl : List (Option Nat × Option Nat)) : Prop where
  lenp : ps.length = n
  len : qs.length = n
  at_ : ∀ i b, i < n → K.at_ ps i = some b → atK sl (some b) = (K.at_ qs i).map some
  keys : ∀ p ∈ sl, FileAt ps n p.1
  old : ∀ i, i < n → K.at_ ps i = none → K.at_ qs i = none

theorem SameOK.nil_ {ps qs : List (Option Nat)} {n : Nat} {sl : List (Option Nat × Option Nat)} (h : SameOK ps qs n sl) : atK sl none = none := by
  rw [atK_none]
  intro hm
  obtain ⟨p, hp, e⟩ := List.mem_map.1 hm
  obtain ⟨i, b, _, _, e2⟩ := h.keys p hp
  rw [e] at e2
  cases e2

theorem at_repl (n i : Nat) : at_ (List.replicate n none) i = none := by
  unfold at_
  rw [List.getD_eq_getElem?_getD, List.getElem?_replicate]
  split <;> rfl

theorem SameOK.start {ps : List (Option Nat)} {n : Nat} (h : ps.length = n) : SameOK ps (List.replicate n Option.none) n [] :=
  ⟨h, by simp, fun i b _ _ => by rw [at_repl]; rfl, fun _ h => (by cases h), fun i _ _ => at_repl _ _⟩

theorem at_set {qs : List (Option Nat)} {i j : Nat} {v : Option Nat} (hi : i < qs.length) : at_ (qs.set i v) j = if j = i then v else at_ qs j := by
  unfold at_
  rw [List.getD_eq_getElem?_getD, List.getD_eq_getElem?_getD, List.getElem?_set]
  by_cases h : i = j
  · subst h; simp [hi]
  · rw [if_neg h, if_neg (fun e => h e.symm)]

/-- more is told -/
def More (qs qs' : List (Option Nat)) : Prop := ∀ i b, at_ qs i = some b → at_ qs' i = some b
theorem More.refl (qs : List (Option Nat)) : More qs qs := fun _ _ h => h
theorem More.trans {qs qs' qs'' : List (Option Nat)} (h : More qs qs') (h' : More qs' qs'') : More qs qs'' := fun i b e => h' i b (h i b e)
theorem More.some {qs qs' : List (Option Nat)} (h : More qs qs') {i : Nat} (hs : (at_ qs i).isSome = true) : at_ qs' i = at_ qs i := by
  obtain ⟨b, hb⟩ := Option.isSome_iff_exists.1 hs
  rw [hb, h i b hb]
theorem More.isSome {qs qs' : List (Option Nat)} (h : More qs qs') {i : Nat} (hs : (at_ qs i).isSome = true) : (at_ qs' i).isSome = true := by rw [h.some hs]; exact hs

theorem SameOK.put {ps qs : List (Option Nat)} {n i b b' : Nat} {sl : List (Option Nat × Option Nat)} (h : SameOK ps qs n sl) (hi : i < n) (hb : K.at_ ps i = some b) (hn : K.at_ qs i = none)
    (hinj : ∀ {j : Nat}, j < n → K.at_ ps j = some b → j = i) : SameOK ps (qs.set i (some b')) n (putK sl (some b) (some b')) ∧ More qs (qs.set i (some b')) := by
  have hiq : i < qs.length := by rw [h.len]; exact hi
  refine ⟨⟨h.lenp, by rw [List.length_set]; exact h.len, fun j c hj hc => ?_, fun p hp => ?_, fun j hj hp => ?_⟩, fun j c hc => ?_⟩
  · rw [atK_put, at_set hiq]
    by_cases e : j = i
    · subst e
      rw [hb] at hc
      cases hc
      simp
    · rw [if_neg e]
      have hne : ¬ (some c : Option Nat) = some b := fun e2 => by
        cases e2
        exact e (hinj hj hc)
      rw [if_neg hne]
      exact h.at_ j c hj hc
  · have : p.1 ∈ (putK sl (some b) (some b')).map (·.1) := List.mem_map_of_mem (f := (·.1)) hp
    rcases putK_keys sl (some b) (some b') with e | ⟨_, e⟩
    · rw [e] at this
      obtain ⟨q, hq, e2⟩ := List.mem_map.1 this
      rw [← e2]
      exact h.keys q hq
    · rw [e] at this
      rcases List.mem_append.1 this with h1 | h1
      · obtain ⟨q, hq, e2⟩ := List.mem_map.1 h1
        rw [← e2]
        exact h.keys q hq
      · rw [List.mem_singleton] at h1
        exact ⟨i, b, hi, hb, h1⟩
  · rw [at_set hiq]
    by_cases e : j = i
    · subst e; rw [hb] at hp; cases hp
    · rw [if_neg e]; exact h.old j hj hp
  · rw [at_set hiq]
    by_cases e : j = i
    · subst e; rw [hn] at hc; cases hc
    · rw [if_neg e]; exact hc

abbrev TSame : Nat := 198

/-! ### files that stay as they are -/

inductive FM (Γ : Mem) : List (Option Nat) → List FileM → List HP → Prop
  | nil : FM Γ [] [] []
  | no {ps fs f M} : FM Γ ps fs M → FM Γ (none :: ps) (f :: fs) (HP.emp :: M)
  | is {ps fs f M s b} : Bytes Γ s f.b → FM Γ ps fs M → FM Γ (some b :: ps) (f :: fs) (blk b (.cells (fcells s f.kept) TFile (0, 0)) :: M)

theorem FM.open_ : ∀ {ps : List (Option Nat)} {fs : List FileM} {L : List HP}, ps.length = fs.length → Sat Γ (HP.all (filesL ps fs) :: L) w → ∃ M, FM Γ ps fs M ∧ Sat Γ (HP.all M :: L) w
  | [], [], _, _, h => ⟨[], .nil, h⟩
  | [], _ :: _, _, hl, _ => by cases hl
  | _ :: _, [], _, hl, _ => by cases hl
  | o :: ps, f :: fs, L, hl, h => by
    have h1 : Sat Γ (fileHP o f :: HP.all (filesL ps fs) :: L) w := Sat.consAll.1 h
    obtain ⟨M, hM, h2⟩ := FM.open_ (L := fileHP o f :: L) (by simpa using hl) (h1.pick .n1)
    have h3 : Sat Γ (fileHP o f :: HP.all M :: L) w := h2.pick .n1
    cases o with
    | none => exact ⟨HP.emp :: M, .no hM, Sat.consAll.2 h3⟩
    | some b =>
      obtain ⟨s, hs, h4⟩ := fileHP_open h3
      exact ⟨_, .is hs hM, Sat.consAll.2 h4⟩

theorem FM.shut : ∀ {ps : List (Option Nat)} {fs : List FileM} {M L : List HP}, FM Γ ps fs M → Sat Γ (HP.all M :: L) w → Sat Γ (HP.all (filesL ps fs) :: L) w
  | _, _, _, _, .nil, h => h
  | _, _, _, _, .no hM, h => by
    have h1 := Sat.consAll.1 h
    have h2 := hM.shut (h1.pick .n1)
    exact Sat.consAll.2 (h2.pick .n1)
  | _, _, _, _, .is hs hM, h => by
    have h1 := Sat.consAll.1 h
    have h2 := hM.shut (h1.pick .n1)
    have h3 := fileHP_shut (h2.pick .n1) hs
    exact Sat.consAll.2 h3

theorem FM.mono {ps : List (Option Nat)} {fs : List FileM} {M : List HP} (h : FM Γ ps fs M) (g : Γ.le Γ') : FM Γ' ps fs M := by
  induction h with
  | nil => exact .nil
  | no _ ih => exact .no ih
  | is hs _ ih => exact .is (hs.mono g) ih

theorem FM.get {ps : List (Option Nat)} {fs : List FileM} {M : List HP} (h : FM Γ ps fs M) : ∀ {i b : Nat}, at_ ps i = some b → ∃ s, Bytes Γ s (fs.getD i ⟨[], 0⟩).b ∧ M[i]? = some (blk b (.cells (fcells s (fs.getD i ⟨[], 0⟩).kept) TFile (0, 0))) := by
  induction h with
  | nil => intro i b e; cases e
  | no _ ih =>
    intro i b e
    cases i with
    | zero => cases e
    | succ i => exact ih (i := i) e
  | is hs _ ih =>
    intro i b e
    cases i with
    | zero => cases e; exact ⟨_, hs, rfl⟩
    | succ i => exact ih (i := i) e

theorem FM.good {ps : List (Option Nat)} {fs : List FileM} {M : List HP} {o : Option Nat} (hM : FM Γ ps fs M) (h : Sat Γ (HP.all M :: L) w) (hf : FileAt ps fs.length o) : goodP w o := (hM.shut h).goodFile hf

theorem bytesM_ld {L0 : List HP} {ps : List (Option Nat)} {fs : List FileM} {M : List HP} {i b : Nat} {Kp : Sl → Prop} (hM : FM Γ ps fs M) (e : at_ ps i = some b) (k : ∀ s, Bytes Γ s (fs.getD i ⟨[], 0⟩).b → Kp s) (pk : Pick (HP.all M) L0 L' := by (repeat (first | with_reducible exact Pick.here | apply Pick.there))) :
    Ld (Sx Γ L0) (.s .sl) (⟨b, 0, none⟩ : Addr) Kp := by
  obtain ⟨s, hs, hg⟩ := hM.get e
  refine ⟨s, ?_, k s hs⟩
  rintro w' ⟨Γ2, _, h⟩
  exact rd_of (((h.pick pk).allPick hg).heap) rfl

theorem keptM_ld {L0 : List HP} {ps : List (Option Nat)} {fs : List FileM} {M : List HP} {i b : Nat} {Kp : Int → Prop} (hM : FM Γ ps fs M) (e : at_ ps i = some b) (k : Kp ((fs.getD i ⟨[], 0⟩).kept : Int)) (pk : Pick (HP.all M) L0 L' := by (repeat (first | with_reducible exact Pick.here | apply Pick.there))) :
    Ld (Sx Γ L0) (.s (.int .i64)) (⟨b, 1, none⟩ : Addr) Kp := by
  obtain ⟨s, hs, hg⟩ := hM.get e
  refine ⟨((fs.getD i ⟨[], 0⟩).kept : Int), ?_, k⟩
  rintro w' ⟨Γ2, _, h⟩
  exact rd_of (((h.pick pk).allPick hg).heap) rfl

theorem lookIs_pr {r b b' : Nat} {sl : List (Option Nat × Option Nat)} {ps : List (Option Nat)} {fs : List FileM} {M : List HP} {K : Option Addr → World → Prop} (h : Sat Γ L w) (hM : FM Γ ps fs M) (hv : atK sl (some b) = some (some b')) (pk : Pick (MapR ekP ekP r sl) L L') (pk2 : Pick (HP.all M) L L'')
    (hk : ∀ p ∈ sl, FileAt ps fs.length p.1) (hi : FileAt ps fs.length (some b)) (c : K (some ⟨b', 0, none⟩) w) :
    Prim Try.prog (Instr.lookup TSame (.map (some r)) (.pointer (some ⟨b, 0, none⟩)) false) (.one (.s .ptr)) K w :=
  lookM (ek := ekP) (ev := ekP) (k := some b) (hg := hM.good (h.pick pk2) hi) (hgl := fun p hp => hM.good (h.pick pk2) (hk p hp)) (fun o => addrO (o.getD none)) kP samesU ptrZ h pk (fun _ => rfl) rfl (by rw [hv]; exact c)

theorem lookNo_pr {r b : Nat} {sl : List (Option Nat × Option Nat)} {ps : List (Option Nat)} {fs : List FileM} {M : List HP} {K : Option Addr → World → Prop} (h : Sat Γ L w) (hM : FM Γ ps fs M) (hv : atK sl (some b) = none) (pk : Pick (MapR ekP ekP r sl) L L') (pk2 : Pick (HP.all M) L L'')
    (hk : ∀ p ∈ sl, FileAt ps fs.length p.1) (hi : FileAt ps fs.length (some b)) (c : K none w) :
    Prim Try.prog (Instr.lookup TSame (.map (some r)) (.pointer (some ⟨b, 0, none⟩)) false) (.one (.s .ptr)) K w :=
  lookM (ek := ekP) (ev := ekP) (k := some b) (hg := hM.good (h.pick pk2) hi) (hgl := fun p hp => hM.good (h.pick pk2) (hk p hp)) (fun o => addrO (o.getD none)) kP samesU ptrZ h pk (fun _ => rfl) rfl (by rw [hv]; exact c)

theorem lookNil_pr {r : Nat} {sl : List (Option Nat × Option Nat)} {ps : List (Option Nat)} {fs : List FileM} {M : List HP} {K : Option Addr → World → Prop} (h : Sat Γ L w) (hM : FM Γ ps fs M) (hv : atK sl none = none) (pk : Pick (MapR ekP ekP r sl) L L') (pk2 : Pick (HP.all M) L L'')
    (hk : ∀ p ∈ sl, FileAt ps fs.length p.1) (c : K none w) :
    Prim Try.prog (Instr.lookup TSame (.map (some r)) (.pointer none) false) (.one (.s .ptr)) K w :=
  lookM (ek := ekP) (ev := ekP) (k := none) (hg := fun b hb => by cases hb) (hgl := fun p hp => hM.good (h.pick pk2) (hk p hp)) (fun o => addrO (o.getD none)) kP samesU ptrZ h pk (fun _ => rfl) rfl (by rw [hv]; exact c)

theorem lookPut_pr {r b b' : Nat} {sl : List (Option Nat × Option Nat)} {ps : List (Option Nat)} {fs : List FileM} {M : List HP} {K : Option Addr → World → Prop} (h : Sat Γ L w) (hM : FM Γ ps fs M) (pk : Pick (MapR ekP ekP r (putK sl (some b) (some b'))) L L') (pk2 : Pick (HP.all M) L L'')
    (hk : ∀ p ∈ sl, FileAt ps fs.length p.1) (hi : FileAt ps fs.length (some b)) (c : K (some ⟨b', 0, none⟩) w) :
    Prim Try.prog (Instr.lookup TSame (.map (some r)) (.pointer (some ⟨b, 0, none⟩)) false) (.one (.s .ptr)) K w := by
  refine lookIs_pr h hM (by rw [atK_put, if_pos rfl]) pk pk2 (fun p hp => ?_) hi c
  have : p.1 ∈ (putK sl (some b) (some b')).map (·.1) := List.mem_map_of_mem (f := (·.1)) hp
  rcases putK_keys sl (some b) (some b') with e | ⟨_, e⟩
  · rw [e] at this
    obtain ⟨q, hq, e2⟩ := List.mem_map.1 this
    rw [← e2]
    exact hk q hq
  · rw [e] at this
    rcases List.mem_append.1 this with h1 | h1
    · obtain ⟨q, hq, e2⟩ := List.mem_map.1 h1
      rw [← e2]
      exact hk q hq
    · rw [List.mem_singleton] at h1
      rw [h1]
      exact hi

theorem putSame_pr {r b b' : Nat} {sl : List (Option Nat × Option Nat)} {ps : List (Option Nat)} {fs : List FileM} {M : List HP} {K : World → Prop} (h : Sat Γ L w) (hM : FM Γ ps fs M) (pk : Pick (MapR ekP ekP r sl) L L') (pk2 : Pick (HP.all M) L L'')
    (hk : ∀ p ∈ sl, FileAt ps fs.length p.1) (hi : FileAt ps fs.length (some b)) (c : ∀ w', Sat Γ (MapR ekP ekP r (putK sl (some b) (some b')) :: L') w' → K w') :
    PrimU Try.prog (Instr.mapUpdate TSame (.map (some r)) (.pointer (some ⟨b, 0, none⟩)) (.pointer (some ⟨b', 0, none⟩))) K w :=
  putM (ek := ekP) (ev := ekP) (k := some b) (v := some b') (hg := hM.good (h.pick pk2) hi) (hgl := fun p hp => hM.good (h.pick pk2) (hk p hp)) kP samesU h pk c

/-- a file's like, put where there was none -/
theorem filesL_put {qs : List (Option Nat)} {fs : List FileM} {i b : Nat} (hq : qs.length = fs.length) (hi : i < fs.length) (h : Sat Γ (fileHP (some b) (fs.getD i ⟨[], 0⟩) :: HP.all (filesL qs fs) :: L) w) (hn : at_ qs i = none) :
    Sat Γ (HP.all (filesL (qs.set i (some b)) fs) :: L) w := by
  have hf : fs[i]? = some (fs.getD i ⟨[], 0⟩) := by rw [List.getD_eq_getElem?_getD, List.getElem?_eq_getElem hi]; rfl
  have hql : i < qs.length := by omega
  have hqi : qs[i]? = some none := by
    unfold at_ at hn
    rw [List.getD_eq_getElem?_getD] at hn
    rw [List.getElem?_eq_getElem hql] at hn ⊢
    exact congrArg some hn
  have hl : i < (filesL qs fs).length := by unfold filesL; rw [List.length_zipWith]; omega
  have e1 : (filesL qs fs).set i HP.emp = filesL qs fs := by
    apply List.ext_getElem?
    intro j
    rw [List.getElem?_set]
    by_cases hij : i = j
    · subst hij
      unfold filesL at hl ⊢
      rw [if_pos rfl, if_pos hl, List.getElem?_zipWith, hqi, hf]
      rfl
    · rw [if_neg hij]
  have e2 : (filesL qs fs).set i (fileHP (some b) (fs.getD i ⟨[], 0⟩)) = filesL (qs.set i (some b)) fs := by
    unfold filesL
    apply List.ext_getElem?
    intro j
    rw [List.getElem?_set, List.getElem?_zipWith, List.getElem?_zipWith, List.getElem?_set]
    by_cases hij : i = j
    · subst hij
      rw [if_pos rfl, if_pos rfl, if_pos hql, hf, List.length_zipWith, if_pos (by omega)]
    · rw [if_neg hij, if_neg hij]
  rw [← e1] at h
  have h2 := h.allPut hl
  rw [e2] at h2
  exact h2

theorem own_ok {c r i b : Nat} {sl : List (Option Nat × Option Nat)} {ps qs : List (Option Nat)} {fs : List FileM} {M : List HP} {K : Option Addr → World → Prop}
    (h : Sat Γ (MapR ekP ekP r sl :: HP.all M :: HP.all (filesL qs fs) :: blk c (.cells #[.map (some r)] TSame (0, 0)) :: L) w) (hM : FM Γ ps fs M) (hS : SameOK ps qs fs.length sl) (hi : i < fs.length) (hb : at_ ps i = some b)
    (k : ∀ qs' sl' b' w', SameOK ps qs' fs.length sl' → More qs qs' → at_ qs' i = some b' → Sat Γ (MapR ekP ekP r sl' :: HP.all M :: HP.all (filesL qs' fs) :: blk c (.cells #[.map (some r)] TSame (0, 0)) :: L) w' → K (some ⟨b', 0, none⟩) w') :
    CallP Try.prog 137 [.pointer (some ⟨b, 0, none⟩), .pointer (some ⟨c, 0, none⟩)] (.one (.s .ptr)) K w := by
  have hinj : ∀ {j : Nat}, j < fs.length → at_ ps j = some b → j = i := fun hj e => (hM.shut (h.pick (A := HP.all M) .n1)).filesInj hj hi e hb
  have hfa : FileAt ps fs.length (some b) := ⟨i, b, hi, hb, rfl⟩
  have hat := hS.at_ i b hi hb
  have hks := hS.keys
  refine callP (fn := Try.f137) [.s (.ptr (some ⟨b, 0, none⟩)), .s (.addr ⟨c, 0, none⟩)] (.p .n (.j [1, 0] [] (.p .n (.p (.h [0, 1, 2, 3, 4, 5, 6, 7, 8, 9, 10, 11, 12] [12]) .n)) .n)) nong mixed (by kernel_rfl) (by kernel_rfl) rfl rfl ?_
  cases hq : at_ qs i with
  | some b' =>
    rw [hq] at hat
    have hat : atK sl (some b) = some (some b') := hat
    have hmr := More.refl qs
    refine joinI ?_
    refine brT ?_
    refine ld _ h .n3 ?_
    refine lookIs_pr h hM hat .n0 .n1 hks hfa ?_
    refine brF ?_
    refine ld _ h .n3 ?_
    refine lookIs_pr h hM hat .n0 .n1 hks hfa ?_
    refine ⟨_, rfl, ?_⟩
    refine k _ _ _ _ hS hmr hq ((((h.pick .n3).pick .n3).pick .n3).pick .n3)
  | none =>
    rw [hq] at hat
    have hat : atK sl (some b) = none := hat
    have k2 : ∀ b' s w', Bytes Γ s (fs.getD i ⟨[], 0⟩).b → Sat Γ (blk b' (.cells (fcells s (fs.getD i ⟨[], 0⟩).kept) TFile (0, 0)) :: MapR ekP ekP r (putK sl (some b) (some b')) :: HP.all M :: HP.all (filesL qs fs) :: blk c (.cells #[.map (some r)] TSame (0, 0)) :: L) w' → K (some ⟨b', 0, none⟩) w' := by
      intro b' s w' hs h
      obtain ⟨hS2, hM2⟩ := hS.put (b' := b') hi hb hq hinj
      have h2 : Sat Γ (HP.all (filesL qs fs) :: fileHP (some b') (fs.getD i ⟨[], 0⟩) :: MapR ekP ekP r (putK sl (some b) (some b')) :: HP.all M :: blk c (.cells #[.map (some r)] TSame (0, 0)) :: L) w' := (fileHP_shut h hs).pick .n3
      have h3 := filesL_put hS.len hi (h2.pick .n1) hq
      refine k _ _ b' w' hS2 hM2 ?_ ?_
      · rw [at_set (by rw [hS.len]; exact hi), if_pos rfl]
      · have h4 : Sat Γ (HP.all M :: HP.all (filesL (qs.set i (some b')) fs) :: MapR ekP ekP r (putK sl (some b) (some b')) :: blk c (.cells #[.map (some r)] TSame (0, 0)) :: L) w' := h3.pick .n2
        exact h4.pick .n2
    clear k
    refine joinI ?_
    refine brT ?_
    refine ld _ h .n3 ?_
    refine lookNo_pr h hM hat .n0 .n1 hks hfa ?_
    refine brT ?_
    refine heldS h (.cons .n0 (.cons .n0 (.cons .n0 (.cons .n0 .nil)))) ?_
    refine dr h fun _ h => ?_
    refine ⟨h.sxs (.cons .n0 (.cons .n0 (.cons .n0 (.cons .n0 .nil)))) (.refl _), ?_⟩
    refine ldH _ .n3 ?_
    refine ⟨_, rfl, ?_⟩
    refine bytesM_ld hM hb (fun bv2 bf3 => ?_) .n1
    obtain ⟨lbf3, mbf3, cbf3⟩ := bf3.lens
    refine ⟨_, rfl, ?_⟩
    refine keptM_ld hM hb ?_ .n1
    refine new h fun br5 _ h => ?_
    refine ⟨h.sxs (.cons .n1 (.cons .n1 (.cons .n1 (.cons .n1 .nil)))) (.refl _), ?_⟩
    refine putSame_pr h hM .n1 .n2 hks hfa (fun _ h => ?_)
    refine heldS h (.cons .n0 (.cons .n0 (.cons .n0 (.cons .n0 (.cons .n0 .nil))))) ?_
    refine ⟨h.sxs (.cons .n0 (.cons .n0 (.cons .n0 (.cons .n0 (.cons .n0 .nil))))) (.refl _), ?_⟩
    refine ld _ h .n4 ?_
    refine lookPut_pr h hM .n0 .n2 hks hfa ?_
    refine ⟨_, rfl, ?_⟩
    refine k2 _ _ _ bf3 (((((h.pick .n4).pick .n4).pick .n4).pick .n3).pick .n4)

theorem own0_ok {c r : Nat} {sl : List (Option Nat × Option Nat)} {ps qs : List (Option Nat)} {fs : List FileM} {M : List HP} {K : Option Addr → World → Prop}
    (h : Sat Γ (MapR ekP ekP r sl :: HP.all M :: HP.all (filesL qs fs) :: blk c (.cells #[.map (some r)] TSame (0, 0)) :: L) w) (hM : FM Γ ps fs M) (hS : SameOK ps qs fs.length sl)
    (k : ∀ w', Sat Γ (MapR ekP ekP r sl :: HP.all M :: HP.all (filesL qs fs) :: blk c (.cells #[.map (some r)] TSame (0, 0)) :: L) w' → K none w') :
    CallP Try.prog 137 [.pointer none, .pointer (some ⟨c, 0, none⟩)] (.one (.s .ptr)) K w := by
  have hat := hS.nil_
  have hks := hS.keys
  refine callP (fn := Try.f137) [.s (.ptr none), .s (.addr ⟨c, 0, none⟩)] (.p .n (.j [1, 0] [] (.p .n (.p (.h [0, 1, 2, 3, 4, 5, 6, 7, 8, 9, 10, 11, 12] [12]) .n)) .n)) nong mixed (by kernel_rfl) (by kernel_rfl) rfl rfl ?_
  refine joinI ?_
  refine brF ?_
  refine ld _ h .n3 ?_
  refine lookNil_pr h hM hat .n0 .n1 hks ?_
  refine ⟨_, rfl, ?_⟩
  refine k _ ((((h.pick .n3).pick .n3).pick .n3).pick .n3)

end Go.Proofs.Ytohoimokfgfceaa.K

/-
  The program's disk: Clone.
-/
namespace Go.Proofs.Ytohoimokfgfceaa.K
open Go Go.Proofs
variable {Γ Γ' : Mem} {L L' L'' : List HP} {w w' : World} {A B : HP}
set_option maxRecDepth 100000
set_option maxHeartbeats 4000000

/-- names that are gone through: those that were met, those that are left -/
structure IT (ps : List (Option Nat)) (n : Nat) (l : List (Str × Nat)) (ln left : List (Str × Option Nat)) (vs : List (Str × Nat)) : Prop where
  ok : NamesOK n l
  all : ln.Perm (namesP ps l)
  is : ∀ p ∈ l, (at_ ps p.2).isSome = true
  cut : (namesP ps vs ++ left).Perm ln
  sub : ∀ q ∈ vs, q ∈ l

theorem IT.start {ps : List (Option Nat)} {n : Nat} {l : List (Str × Nat)} {ln : List (Str × Option Nat)} (ok : NamesOK n l) (all : ln.Perm (namesP ps l)) (is : ∀ p ∈ l, (at_ ps p.2).isSome = true) : IT ps n l ln ln [] :=
  ⟨ok, all, is, .refl _, fun _ h => by cases h⟩

theorem IT.next {ps : List (Option Nat)} {n : Nat} {l : List (Str × Nat)} {ln l1 l2 : List (Str × Option Nat)} {vs : List (Str × Nat)} {s : Str} {o : Option Nat} (h : IT ps n l ln (l1 ++ (s, o) :: l2) vs) :
    ∃ q b, q.1 = s ∧ o = some b ∧ at_ ps q.2 = some b ∧ q.2 < n ∧ q.1 ∉ vs.map Prod.fst ∧ IT ps n l ln (l1 ++ l2) (vs ++ [q]) := by
  have hm : (s, o) ∈ namesP ps l := h.all.mem_iff.1 (h.cut.mem_iff.1 (by simp))
  obtain ⟨q, hq, e⟩ := List.mem_map.1 hm
  obtain ⟨b, hb⟩ := Option.isSome_iff_exists.1 (h.is q hq)
  have e1 : q.1 = s := congrArg Prod.fst e
  have e2 : at_ ps q.2 = o := congrArg Prod.snd e
  have hnd : ((namesP ps vs ++ (l1 ++ (s, o) :: l2)).map (·.1)).Nodup := ((h.cut.map _).nodup_iff).2 (names_nodup h.ok h.all)
  refine ⟨q, b, e1, by rw [← e2, hb], hb, h.ok.lt q hq, fun hx => ?_, ⟨h.ok, h.all, h.is, ?_, fun p hp => ?_⟩⟩
  · rw [List.map_append, List.nodup_append] at hnd
    refine hnd.2.2 s ?_ s (by simp) rfl
    rw [namesP_keys, ← e1]
    exact hx
  · refine List.Perm.trans ?_ h.cut
    have e3 : namesP ps (vs ++ [q]) = namesP ps vs ++ [(s, o)] := by unfold namesP; rw [List.map_append, List.map_singleton, e]
    rw [e3, List.append_assoc]
    refine List.Perm.append_left _ ?_
    exact (List.perm_middle (a := (s, o)) (l₁ := l1) (l₂ := l2)).symm
  · rcases List.mem_append.1 hp with h1 | h1
    · exact h.sub p h1
    · rw [List.mem_singleton] at h1; subst h1; exact hq

theorem IT.done {ps : List (Option Nat)} {n : Nat} {l : List (Str × Nat)} {ln : List (Str × Option Nat)} {vs : List (Str × Nat)} (h : IT ps n l ln [] vs) : vs.Perm l := by
  have h1 : (namesP ps vs).Perm (namesP ps l) := by have := h.cut; rw [List.append_nil] at this; exact this.trans h.all
  have hk : (vs.map Prod.fst).Perm (l.map Prod.fst) := by rw [← namesP_keys ps vs, ← namesP_keys ps l]; exact h1.map _
  have hn := h.ok.nodup
  have hnv : (vs.map Prod.fst).Nodup := hk.nodup_iff.2 hn
  refine perm_of_atK hnv hn fun k => ?_
  cases e : atK vs k with
  | none =>
    rw [atK_none] at e
    exact (atK_none.2 fun hx => e (hk.mem_iff.2 hx)).symm
  | some v => exact ((atK_mem hn).2 (h.sub _ ((atK_mem hnv).1 e))).symm

/-- the names that were met, with the new files -/
structure NM (qs : List (Option Nat)) (la : List (Str × Option Nat)) (vs : List (Str × Nat)) : Prop where
  perm : la.Perm (namesP qs vs)
  is : ∀ q ∈ vs, (at_ qs q.2).isSome = true

theorem NM.more {qs qs' : List (Option Nat)} {la : List (Str × Option Nat)} {vs : List (Str × Nat)} (h : NM qs la vs) (hm : More qs qs') : NM qs' la vs := by
  refine ⟨?_, fun q hq => hm.isSome (h.is q hq)⟩
  have e : namesP qs' vs = namesP qs vs := List.map_congr_left fun q hq => by rw [hm.some (h.is q hq)]
  rw [e]
  exact h.perm

theorem putK_new {κ ν : Type} [DecidableEq κ] {l : List (κ × ν)} {k : κ} {v : ν} (h : k ∉ l.map (·.1)) : putK l k v = l ++ [(k, v)] := by
  induction l with
  | nil => rfl
  | cons x r ih =>
    rw [List.map_cons, List.mem_cons] at h
    simp only [putK]
    rw [if_neg (fun e => h (.inl e)), ih (fun e => h (.inr e))]
    rfl

theorem NM.snoc {qs : List (Option Nat)} {la : List (Str × Option Nat)} {vs : List (Str × Nat)} {q : Str × Nat} {b : Nat} (h : NM qs la vs) (hb : at_ qs q.2 = some b) (hn : q.1 ∉ vs.map Prod.fst) : NM qs (putK la q.1 (some b)) (vs ++ [q]) := by
  refine ⟨?_, fun p hp => ?_⟩
  · have e : q.1 ∉ la.map (·.1) := fun hx => hn (by rw [← namesP_keys qs vs]; exact (h.perm.map _).mem_iff.1 hx)
    rw [putK_new e]
    unfold namesP
    rw [List.map_append, List.map_singleton, hb]
    exact h.perm.append_right _
  · rcases List.mem_append.1 hp with h1 | h1
    · exact h.is p h1
    · rw [List.mem_singleton] at h1; subst h1; rw [hb]; rfl

theorem NM.of {qs : List (Option Nat)} {la : List (Str × Option Nat)} {vs l : List (Str × Nat)} (h : NM qs la vs) (hp : vs.Perm l) : NM qs la l :=
  ⟨h.perm.trans (hp.map _), fun q hq => h.is q (hp.mem_iff.2 hq)⟩

theorem nextNamesI_pr {ty r it n : Nat} {ln left : List (Str × Option Nat)} {ps : List (Option Nat)} {l vs : List (Str × Nat)} {K : List Value → World → Prop} (h : Sat Γ L w) (pk : Pick (MapIt ekS ekP r it ln left) L L') (hi : IT ps n l ln left vs)
    (c0 : vs.Perm l → ∀ w', Sat Γ (MapIt ekS ekP r it ln [] :: L') w' → K [.bool false] w')
    (c1 : ∀ l1 q b, at_ ps q.2 = some b → q.2 < n → q.1 ∉ vs.map Prod.fst → l1.length < left.length → IT ps n l ln l1 (vs ++ [q]) → ∀ w', Sat Γ (MapAt ekS ekP r it ln l1 q.1 (some b) :: L') w' → K [.bool true, .string (str q.1), .pointer (some ⟨b, 0, none⟩)] w') :
    PrimN Try.prog (Instr.next (.pointer (some ⟨it, 0, none⟩)) false ty) K w := by
  refine nextNames_pr h pk (fun e w' h => ?_) (fun l1 k v l2 e w' h => ?_)
  · subst e
    exact c0 hi.done w' h
  · subst e
    obtain ⟨q, b, rfl, rfl, hb, hl, hn, h2⟩ := hi.next
    exact c1 _ q b hb hl hn (by simp) h2 w' h

theorem entryNamesS_pr {r it b : Nat} {ln left : List (Str × Option Nat)} {s : Str} {K : List Value → World → Prop} (h : Sat Γ L w) (pk : Pick (MapAt ekS ekP r it ln left s (some b)) L L') (c : ∀ w', Sat Γ (MapIt ekS ekP r it ln left :: L') w' → K [.string (str s), .pointer (some ⟨b, 0, none⟩)] w') :
    PrimN Try.prog (Instr.entry (.pointer (some ⟨it, 0, none⟩))) K w := entryNames_pr h pk c

theorem appChgS_pr {T2 T3 r b : Nat} {z3 : Nat × Nat} {s : Sl} {xs : List (Str × Str × Option Nat)} {c1 c2 : Str} {K : Sl → World → Prop} (h : Sat Γ (blk r (.cells #[.string (str c1), .string (str c2), .pointer (some ⟨b, 0, none⟩)] T3 z3) :: L) w) (pk : Pick (OL eChg TChg s xs) L L')
    (hb : (s.len + 1) * 40 ≤ 70368744177664) (k : ∀ s' w', s'.len = s.len + 1 → Sat Γ (OL eChg TChg s' (xs ++ [(c1, c2, some b)]) :: L') w' → K s' w') :
    Prim Try.prog (Builtin.append_ #[165, 165] T2 #[.slice s.p s.len s.cap, .slice (some ⟨r, 0, none⟩) 1 1]) (.one (.s .sl)) K w := appChg_pr h pk hb k

theorem Sat.as (h : Sat Γ L w) (e : L = L') : Sat Γ L' w := e ▸ h

theorem Sat.as1 (h : Sat Γ (A :: L) w) (e : A = B) : Sat Γ (B :: L) w := e ▸ h

theorem chgP_more {qs qs' : List (Option Nat)} {l : List ChM} (h : ∀ c ∈ l, c.new ≠ [] → (at_ qs c.file).isSome = true) (hm : More qs qs') : l.map (chgP qs') = l.map (chgP qs) := by
  refine List.map_congr_left fun c hc => ?_
  unfold chgP
  by_cases hn : c.new = []
  · rw [if_pos hn, if_pos hn]
  · rw [if_neg hn, if_neg hn, hm.some (h c hc hn)]

theorem filesL_none : ∀ (fs : List FileM) {L : List HP}, Sat Γ L w → Sat Γ (HP.all (filesL (List.replicate fs.length none) fs) :: L) w
  | [], _, h => (h.emp : Sat Γ (HP.emp :: _) w)
  | f :: fs, L, h => by
    have h1 := filesL_none fs h
    have h2 : Sat Γ (HP.emp :: HP.all (filesL (List.replicate fs.length none) fs) :: L) w := h1.emp
    exact Sat.consAll.2 h2

theorem dClone_ok {a : Nat} {m : DiskM} {K : Option Addr → World → Prop} (h : Sat Γ (PDisk a m :: L) w) (hg : m.g < 1000000000000) (k : ∀ x w', Sat Γ (PDisk x m :: PDisk a m :: L) w' → K (some ⟨x, 0, none⟩) w') :
    CallP Try.prog 72 [.pointer (some ⟨a, 0, none⟩)] (.one (.s .ptr)) K w := by
  obtain ⟨ps, h⟩ := h.pd
  obtain ⟨rn, rk, cs, ln, lk, hp, hn, hk, h⟩ := Sat.pdg h
  obtain ⟨M, hM, h⟩ := FM.open_ hp.len (h.pick (A := HP.all (filesL ps m.files)) .n4)
  have hS := SameOK.start hp.len
  have hcl := h.olLen .n4
  have hml : (m.changes.map (chgP ps)).length = m.changes.length := List.length_map _
  have hgn := hp.wf.gn
  have hIn := IT.start (ps := ps) (show NamesOK m.files.length m.now by rw [hp.wf.now]; exact hp.wf.chs.names hp.wf.kept) hn hp.now
  have hn0 := hn
  have hk0 := hk
  have hIk := IT.start (ps := ps) hp.wf.kept hk hp.kept
  refine callP (fn := Try.f72) [.s (.ptr (some ⟨a, 0, none⟩))] (.p .n (.p .n (.p .n (.p .n (.p .n (.p .n (.p (.p .n (.b (.l [28, 0, 5, 3] [] (.p .n (.p .n (.b (.p .n (.h [0, 1, 2, 3, 4, 5, 6] [6])))))))) (.p (.p .n (.b (.l [44, 0, 5, 3] [] (.p .n (.p .n (.b (.p .n (.h [0, 1, 2, 3, 4, 5, 6] [6])))))))) (.p (.p .n (.b (.l [60, 5, 59, 3] [(61, .s (.int .i64))] .n))) .n))))))))) nong mixed (by kernel_rfl) (by kernel_rfl) rfl rfl ?_
  refine brF ?_
  refine ⟨_, rfl, ?_⟩
  refine ldA7 _ _ _ _ _ _ _ h .n1 ?_
  refine new h fun ar0 _ h => ?_
  refine stNs h .n0 fun _ h => ?_
  refine new h fun ar1 _ h => ?_
  refine new h fun ar2 _ h => ?_
  refine st h .n0 fun _ h => ?_
  refine new h fun ar3 _ h => ?_
  refine new h fun ar4 _ h => ?_
  refine st h .n4 fun _ h => ?_
  refine st h .n0 fun _ h => ?_
  refine st h .n0 fun _ h => ?_
  refine ⟨_, rfl, ?_⟩
  refine ld _ h .n6 ?_
  refine rangeNames_pr h .n7 (fun av6 _ h => ?_)
  rotate_left
  have h := h.as (L' := MapIt ekS ekP rn av6 ln ln :: blk ar0 (.cells (dcells ar3 ar4 ⟨none, 0, 0⟩ m) TDisk (0, 0)) :: blk ar4 (.map #[] 0) :: blk ar3 (.map #[] 0) :: blk ar2 (.cells #[.map (some ar1)] TSame (0, 0)) :: blk ar1 (.map #[] 0) :: HP.all M :: blk a (.cells (dcells rn rk cs m) TDisk (0, 0)) :: MapR ekS ekP rk lk :: OL eChg TChg cs (m.changes.map (chgP ps)) :: L) (by kernel_rfl)
  have h := (h.pick (A := blk ar1 (.map #[] 0)) .n5).mapNew (ek := ekP) (ev := ekP)
  have h := (h.pick (A := blk ar3 (.map #[] 0)) .n4).mapNew (ek := ekS) (ev := ekP)
  have h := (h.pick (A := blk ar4 (.map #[] 0)) .n4).mapNew (ek := ekS) (ev := ekP)
  have h := filesL_none m.files h
  refine loop (σ := PUnit) (fun st w' u => ∃ left la vs qs sl, u = left.length ∧ IT ps m.files.length m.now ln left vs ∧ NM qs la vs ∧ SameOK ps qs m.files.length sl ∧
    Sat Γ (MapR ekP ekP ar1 sl :: HP.all M :: HP.all (filesL qs m.files) :: blk ar2 (.cells #[.map (some ar1)] TSame (0, 0)) :: MapIt ekS ekP rn av6 ln left :: MapR ekS ekP ar3 la :: MapR ekS ekP ar4 [] :: blk ar0 (.cells (dcells ar3 ar4 ⟨none, 0, 0⟩ m) TDisk (0, 0)) :: blk a (.cells (dcells rn rk cs m) TDisk (0, 0)) :: MapR ekS ekP rk lk :: OL eChg TChg cs (m.changes.map (chgP ps)) :: L) w') ln.length
    ⟨ln, [], [], List.replicate m.files.length none, [], rfl, hIn, ⟨.refl _, fun _ h => (by cases h)⟩, hS, ?_⟩ ?_
  · exact (h.pick .n5 |>.pick .n2 |>.pick .n3 |>.pick .n5 |>.pick .n6 |>.pick .n5 |>.pick .n7 |>.pick .n7)
  have hnn := hIn
  clear h hS hIn hn hk
  rintro _ w u ⟨left, la, vs, qs, sl, hu, hI, hN, hS, h⟩
  refine nextNamesI_pr h .n4 hI (fun hvs _ h => ?_) (fun l1 q b hb hq hnv hll hI _ h => ?_)
  · have hN := hN.of hvs
    clear hI hvs hnn
    refine ⟨_, rfl, ?_⟩
    refine brF ?_
    refine ⟨_, rfl, ?_⟩
    refine ld _ h .n8 ?_
    refine rangeNames_pr h .n9 (fun cv1 _ h => ?_)
    rotate_left
    have h := h.itMap .n1
    have h := (h.pick .n9 |>.pick .n9 |>.pick .n9 |>.pick .n9 |>.pick .n5 |>.pick .n9 |>.pick .n9 |>.pick .n9 |>.pick .n9)
    refine loop (σ := PUnit) (fun st w' u => ∃ left lb vs qs sl, u = left.length ∧ IT ps m.files.length m.kept lk left vs ∧ NM qs lb vs ∧ NM qs la m.now ∧ SameOK ps qs m.files.length sl ∧
      Sat Γ (MapR ekP ekP ar1 sl :: HP.all M :: HP.all (filesL qs m.files) :: blk ar2 (.cells #[.map (some ar1)] TSame (0, 0)) :: MapIt ekS ekP rk cv1 lk left :: MapR ekS ekP ar3 la :: MapR ekS ekP ar4 lb :: blk ar0 (.cells (dcells ar3 ar4 ⟨none, 0, 0⟩ m) TDisk (0, 0)) :: blk a (.cells (dcells rn rk cs m) TDisk (0, 0)) :: MapR ekS ekP rn ln :: OL eChg TChg cs (m.changes.map (chgP ps)) :: L) w') lk.length
      ⟨lk, [], [], qs, sl, rfl, hIk, ⟨.refl _, fun _ h => (by cases h)⟩, hN, hS, h⟩ ?_
    clear h hS hIk hN
    rintro _ w u ⟨left, lb, vs, qs, sl, hu, hI, hK, hN, hS, h⟩
    refine nextNamesI_pr h .n4 hI (fun hvs _ h => ?_) (fun l1 q b hb hq hnv hll hI _ h => ?_)
    · have hK := hK.of hvs
      clear hI hvs
      refine ⟨_, rfl, ?_⟩
      refine brF ?_
      refine ⟨_, rfl, ?_⟩
      refine ld _ h .n8 ?_
      rotate_left
      have h := (h.itMap .n0 |>.pick .n9 |>.pick .n9 |>.pick .n8 |>.pick .n8)
      have h := Sat.all (l := [MapR ekS ekP ar3 la, MapR ekS ekP ar4 lb, blk a (.cells (dcells rn rk cs m) TDisk (0, 0)), MapR ekS ekP rn ln, MapR ekS ekP rk lk]).2 h
      obtain ⟨X, hX⟩ : ∃ X, HP.all [MapR ekS ekP ar3 la, MapR ekS ekP ar4 lb, blk a (.cells (dcells rn rk cs m) TDisk (0, 0)), MapR ekS ekP rn ln, MapR ekS ekP rk lk] = X := ⟨_, rfl⟩
      rw [hX] at h
      have h := h.olNil (E := eChg) (T := TChg)
      refine loop (σ := Int) (fun st w' u => ∃ (i : Nat) (qs : List (Option Nat)) (sl : List (Option Nat × Option Nat)) (xs : Sl), st = (i : Int) ∧ i ≤ m.changes.length ∧ u = m.changes.length - i ∧ NM qs lb m.kept ∧ NM qs la m.now ∧ SameOK ps qs m.files.length sl ∧ (∀ c ∈ m.changes.take i, c.new ≠ [] → (at_ qs c.file).isSome = true) ∧
        Sat Γ (OL eChg TChg xs ((m.changes.take i).map (chgP qs)) :: X :: MapR ekP ekP ar1 sl :: HP.all M :: HP.all (filesL qs m.files) :: blk ar2 (.cells #[.map (some ar1)] TSame (0, 0)) :: blk ar0 (.cells (dcells ar3 ar4 xs m) TDisk (0, 0)) :: OL eChg TChg cs (m.changes.map (chgP ps)) :: L) w') m.changes.length
        ⟨0, qs, sl, ⟨none, 0, 0⟩, rfl, Nat.zero_le _, rfl, hK, hN, hS, fun _ h => (by cases h), h⟩ ?_
      · clear h hS hK hN
        rintro _ w u ⟨i, qs, sl, xs, rfl, hi, hu, hK, hN, hS, hC, h⟩
        have hxl := h.olLen .n0
        rw [List.length_map, List.length_take] at hxl
        by_cases hil : i < m.changes.length
        · obtain ⟨c, ec⟩ := get_lt hil
          have hcm := List.mem_of_getElem? ec
          have hcf := hp.wf.chs.files c hcm
          have htk : m.changes.take (i + 1) = m.changes.take i ++ [c] := by rw [List.take_add_one, ec]; rfl
          by_cases hcn : c.new = []
          · have ec' : (m.changes.map (chgP ps))[i]? = some (c.gone, c.new, none) := by
              rw [List.getElem?_map, ec]
              show some (c.gone, c.new, if c.new = [] then none else at_ ps c.file) = _
              rw [if_pos hcn]
            refine brD (fun eb0 => ?_) (fun eb0 => by exfalso; omega)
            refine ⟨by omega, ?_⟩
            refine nnO h .n7 (fun ea1 eha1 => ?_)
            refine ldO h .n7 eha1 ec' (fun ey2 ehy2 => ?_)
            have ehy2 := eChg_after ehy2
            subst ehy2
            refine new h fun er3 _ h => ?_
            refine stNs h .n0 fun _ h => ?_
            refine ld _ h .n0 ?_
            refine own0_ok ((((h.pick .n6).pick .n6).pick .n6).pick .n6) hM hS (fun _ h => ?_)
            refine st h .n4 fun _ h => ?_
            refine ld _ h .n7 ?_
            refine ldA3 _ _ _ h .n0 ?_
            refine new h fun er7 _ h => ?_
            refine app1 _ _ slChg h .n5 (by assumption) (fun es8 _ el8 h => ?_)
            refine st h .n7 fun _ h => ?_
            refine wrN (i + 1) ?_
            rotate_left
            have h := h.as1 (B := blk ar0 (.cells (dcells ar3 ar4 es8 m) TDisk (0, 0))) (by kernel_rfl)
            have h := ((h.pick .n2).drop |>.pick .n5 |>.pick .n5 |>.pick .n5 |>.pick .n5 |>.pick .n6 |>.pick .n6)
            refine ⟨m.changes.length - (i + 1), by omega, i + 1, qs, sl, es8, rfl, by omega, rfl, hK, hN, hS, fun d hd => ?_, ?_⟩
            · rw [htk] at hd
              rcases List.mem_append.1 hd with h1 | h1
              · exact hC d h1
              · rw [List.mem_singleton] at h1; subst h1; exact fun e => absurd hcn e
            · have e : (m.changes.take (i + 1)).map (chgP qs) = (m.changes.take i).map (chgP qs) ++ [(c.gone, c.new, none)] := by
                rw [htk, List.map_append, List.map_singleton]
                unfold chgP
                rw [if_pos hcn]
              rw [e]
              exact h
          · obtain ⟨b, hb⟩ := Option.isSome_iff_exists.1 (hp.chs c hcm hcn)
            have ec' : (m.changes.map (chgP ps))[i]? = some (c.gone, c.new, some b) := by
              rw [List.getElem?_map, ec]
              show some (c.gone, c.new, if c.new = [] then none else at_ ps c.file) = _
              rw [if_neg hcn, hb]
            refine brD (fun fb0 => ?_) (fun fb0 => by exfalso; omega)
            refine ⟨by omega, ?_⟩
            refine nnO h .n7 (fun fa1 fha1 => ?_)
            refine ldO h .n7 fha1 ec' (fun fy2 fhy2 => ?_)
            have fhy2 := eChg_after fhy2
            subst fhy2
            refine new h fun fr3 _ h => ?_
            refine stNs h .n0 fun _ h => ?_
            refine ld _ h .n0 ?_
            refine own_ok ((((h.pick .n6).pick .n6).pick .n6).pick .n6) hM hS hcf hb (fun fv5 fv6 fv7 _ fp9 fp10 fp11 h => ?_)
            refine st h .n4 fun _ h => ?_
            refine ld _ h .n7 ?_
            refine ldA3 _ _ _ h .n0 ?_
            refine new h fun fr13 _ h => ?_
            refine appChgS_pr h .n5 (by first | omega | decide) (fun fv15 _ fp17 h => ?_)
            refine st h .n7 fun _ h => ?_
            refine wrN (i + 1) ?_
            rotate_left
            have h := h.as1 (B := blk ar0 (.cells (dcells ar3 ar4 fv15 m) TDisk (0, 0))) (by kernel_rfl)
            have h := ((h.pick .n2).drop |>.pick .n5 |>.pick .n5 |>.pick .n5 |>.pick .n5 |>.pick .n6 |>.pick .n6)
            refine ⟨m.changes.length - (i + 1), by omega, i + 1, fv5, fv6, fv15, rfl, by omega, rfl, hK.more fp10, hN.more fp10, fp9, fun d hd => ?_, ?_⟩
            · rw [htk] at hd
              rcases List.mem_append.1 hd with h1 | h1
              · exact fun hn => fp10.isSome (hC d h1 hn)
              · rw [List.mem_singleton] at h1; subst h1; exact fun _ => by rw [fp11]; rfl
            · have e : (m.changes.take (i + 1)).map (chgP fv5) = (m.changes.take i).map (chgP qs) ++ [(c.gone, c.new, some fv7)] := by
                rw [htk, List.map_append, List.map_singleton, chgP_more hC fp10]
                unfold chgP
                rw [if_neg hcn, fp11]
              rw [e]
              exact h
        · have e : m.changes.take i = m.changes := List.take_of_length_le (by omega)
          rw [e] at h hC
          have hlast : ∀ w', Sat Γ (OL eChg TChg xs (m.changes.map (chgP qs)) :: X :: MapR ekP ekP ar1 sl :: HP.all M :: HP.all (filesL qs m.files) :: blk ar2 (.cells #[.map (some ar1)] TSame (0, 0)) :: blk ar0 (.cells (dcells ar3 ar4 xs m) TDisk (0, 0)) :: OL eChg TChg cs (m.changes.map (chgP ps)) :: L) w' → K (some ⟨ar0, 0, none⟩) w' := by
            intro w' h
            subst hX
            have h1 := hM.shut ((((h.pick .n2).drop.pick .n4).drop).pick .n2)
            have h2 := Sat.all.1 (h1.pick .n5 |>.pick .n3)
            have h3 := (Sat.toPdg (h2.pick .n6 |>.pick .n6 |>.pick .n6 |>.pick .n6 |>.pick .n6) hp hn0 hk0).toPd
            have h4 := (Sat.toPdg (m := m) (ps := qs) (h3.pick .n4 |>.pick .n4 |>.pick .n4 |>.pick .n4 |>.pick .n5) ⟨hS.len, hN.is, hK.is, hC, hp.wf⟩ hN.perm hK.perm).toPd
            exact k _ _ h4
          clear hu hi k
          refine brD (fun gb0 => by exfalso; omega) (fun gb0 => ?_)
          refine ⟨_, rfl, ?_⟩
          refine hlast _ ((((((((h.pick .n7).pick .n7).pick .n7).pick .n7).pick .n7).pick .n7).pick .n7).pick .n7)
    · refine ⟨_, rfl, ?_⟩
      refine brT ?_
      refine entryNamesS_pr h .n0 (fun _ h => ?_)
      refine ⟨_, rfl, ?_⟩
      refine ⟨_, rfl, ?_⟩
      refine heldS h (.cons .n7 .nil) ?_
      refine dr h fun _ h => ?_
      refine ⟨h.sxs (.cons .n7 .nil) (.refl _), ?_⟩
      refine ldH _ .n0 ?_
      refine own_ok (h.pick .n4 |>.pick .n4 |>.pick .n4 |>.pick .n4) hM hS hq hb (fun qs' sl' b' _ hS hmo hb' h => ?_)
      refine ⟨h.sxs (.cons .n7 .nil) (.refl _), ?_⟩
      refine putNames_pr h .n6 (fun _ h => ?_)
      refine heldS h .nil ?_
      refine ⟨h.sxs .nil (.refl _), ?_⟩
      exact ⟨_, by rw [hu]; exact hll, l1, _, vs ++ [q], qs', sl', rfl, hI, (hK.more hmo).snoc hb' hnv, hN.more hmo, hS, (h.pick .n6 |>.pick .n6 |>.pick .n6 |>.pick .n6 |>.pick .n6 |>.pick .n6)⟩
  · refine ⟨_, rfl, ?_⟩
    refine brT ?_
    refine entryNamesS_pr h .n0 (fun _ h => ?_)
    refine ⟨_, rfl, ?_⟩
    refine ⟨_, rfl, ?_⟩
    refine heldS h (.cons .n7 .nil) ?_
    refine dr h fun _ h => ?_
    refine ⟨h.sxs (.cons .n7 .nil) (.refl _), ?_⟩
    refine ldH _ .n0 ?_
    refine own_ok (h.pick .n4 |>.pick .n4 |>.pick .n4 |>.pick .n4) hM hS hq hb (fun qs' sl' b' _ hS hmo hb' h => ?_)
    refine ⟨h.sxs (.cons .n7 .nil) (.refl _), ?_⟩
    refine putNames_pr h .n5 (fun _ h => ?_)
    refine heldS h .nil ?_
    refine ⟨h.sxs .nil (.refl _), ?_⟩
    exact ⟨_, by rw [hu]; exact hll, l1, _, vs ++ [q], qs', sl', rfl, hI, (hN.more hmo).snoc hb' hnv, hS, (h.pick .n5 |>.pick .n5 |>.pick .n5 |>.pick .n5 |>.pick .n5)⟩

end Go.Proofs.Ytohoimokfgfceaa.K
