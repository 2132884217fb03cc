/-
  What the plain meaning tells holds of the model's runs: regions.
-/
import Derived.Test.YtohoimokfgfceaaEngF
import Derived.Tactics
namespace Go.Proofs.Ytohoimokfgfceaa.K
open Go
section
variable {P : Program} {S : World → Prop} {Q : Exit → Act → World → Prop} {ops : Array Oper}

theorem want_yes {o : Oper} {fr : Fr} {a : Act} (ha : Agrees fr a.tmps) (h : wantF ops.toList o fr = some .yes) : Region.wanted o (yielded ops a.tmps) = true := by
  unfold wantF at h
  unfold Region.wanted
  cases hg : o.guard with
  | none => rfl
  | some jw =>
    obtain ⟨j, want⟩ := jw
    simp only [hg] at h ⊢
    split at h
    · rename_i g hj
      split at h
      · rename_i d hd
        split at h
        · rename_i b hb
          have hv := ha _ _ hb
          have hy : yielded ops a.tmps j = some b := by
            have hj' : ops[j]? = some g := by simpa using hj
            simp [yielded, hj', hd, hv, SV.v, S1.v]
          rw [hy]
          split at h <;> first | rfl | (cases h; done)
        · cases h
        · cases h
        · cases h
      · cases h
    · cases h

theorem want_no {o : Oper} {fr : Fr} {a : Act} (ha : Agrees fr a.tmps) (h : wantF ops.toList o fr = some .no) : Region.wanted o (yielded ops a.tmps) = false := by
  unfold wantF at h
  unfold Region.wanted
  cases hg : o.guard with
  | none => simp only [hg] at h; cases h
  | some jw =>
    obtain ⟨j, want⟩ := jw
    simp only [hg] at h ⊢
    split at h
    · rename_i g hj
      have hj' : ops[j]? = some g := by simpa using hj
      split at h
      · rename_i d hd
        split at h
        · rename_i b hb
          have hv := ha _ _ hb
          have hy : yielded ops a.tmps j = some b := by simp [yielded, hj', hd, hv, SV.v, S1.v]
          rw [hy]
          split at h
          · cases h
          · cases h
          · rename_i h1 h2
            cases b <;> cases want <;> first | rfl | (exact absurd rfl (h1 rfl)) | (exact absurd rfl (h2 rfl)) | (exact (h1 rfl rfl).elim) | (exact (h2 rfl rfl).elim)
        · cases h
        · rename_i hb
          have hv := ha _ _ hb
          have hy : yielded ops a.tmps j = none := by simp [yielded, hj', hd, hv, SV.v, S1.v, Go.undef]
          rw [hy]; rfl
        · cases h
      · cases h
    · cases h

theorem want_ask {o : Oper} {fr : Fr} {a : Act} {b : Bool} (ha : Agrees fr a.tmps) (h : wantF ops.toList o fr = some (.ask b)) :
    fr.get (guardSlot ops.toList o) = some (.s (.bool b)) ∧ Region.wanted o (yielded ops a.tmps) = (b == guardWant o) := by
  unfold wantF at h
  unfold Region.wanted guardSlot guardWant
  cases hg : o.guard with
  | none => simp only [hg] at h; cases h
  | some jw =>
    obtain ⟨j, want⟩ := jw
    simp only [hg] at h ⊢
    split at h
    · rename_i g hj
      have hj' : ops[j]? = some g := by simpa using hj
      split at h
      · rename_i d hd
        split at h
        · split at h <;> cases h
        · rename_i b' hb
          cases h
          have hv := ha _ _ hb
          have hy : yielded ops a.tmps j = some b := by simp [yielded, hj', hd, hv, SV.v, S1.v]
          rw [hy]
          exact ⟨by simp only [hj, hd, Option.getD_some]; exact hb, by cases b <;> cases want <;> rfl⟩
        · cases h
        · cases h
      · cases h
    · cases h

/-- carried out, or not -/
theorem dOp_cases {o : Oper} {fr : Fr} {a : Act} {K N : Fr → World → Prop} {w : World} (ha : Agrees fr a.tmps) (h : dOp P S ops.toList o fr K N w) :
    (Region.wanted o (yielded ops a.tmps) = true ∧ ∃ fr', Agrees fr' a.tmps ∧ dOp1 P S o fr' K w) ∨
    (Region.wanted o (yielded ops a.tmps) = false ∧ ∃ fr', Agrees fr' a.tmps ∧ N (fr'.put o.dst (.s .undef)) w) := by
  unfold dOp at h
  split at h
  · rename_i hw; exact .inl ⟨want_yes ha hw, fr, ha, h⟩
  · rename_i hw; exact .inr ⟨want_no ha hw, fr, ha, h⟩
  · rename_i b hw
    obtain ⟨hb, hq⟩ := want_ask ha hw
    have hset : ∀ c, b = c → Agrees (fr.set (guardSlot ops.toList o) (some (.s (.lit c)))) a.tmps := fun c hc => ha.set _ hb (by subst hc; rfl)
    rw [hq]
    split at h
    · rename_i hg
      rw [hg]
      cases b
      · exact .inr ⟨rfl, _, hset false rfl, h.no rfl⟩
      · exact .inl ⟨rfl, _, hset true rfl, h.yes rfl⟩
    · rename_i hg
      rw [hg]
      cases b
      · exact .inl ⟨rfl, _, hset false rfl, h.no rfl⟩
      · exact .inr ⟨rfl, _, hset true rfl, h.yes rfl⟩
  · cases h

/-- what is not written stays -/
def Keep (ws : List Nat) (a a' : Act) : Prop := a'.defers = a.defers ∧ a'.tmps.size = a.tmps.size ∧ ∀ i, i ∉ ws → a'.tmps[i]? = a.tmps[i]?

theorem Keep.refl (ws : List Nat) (a : Act) : Keep ws a a := ⟨rfl, rfl, fun _ _ => rfl⟩

theorem mem_addN {l : List Nat} {x y : Nat} : y ∈ addN l x ↔ y = x ∨ y ∈ l := by
  unfold addN
  split
  · rename_i h
    have : x ∈ l := by simpa using h
    constructor
    · exact .inr
    · rintro (rfl | h) <;> assumption
  · simp

theorem mem_uni {a b : List Nat} {x : Nat} : x ∈ uni a b ↔ x ∈ a ∨ x ∈ b := by
  unfold uni
  induction a generalizing b with
  | nil => simp
  | cons y r ih =>
    rw [List.foldl_cons, ih, mem_addN, List.mem_cons]
    constructor
    · rintro (h | h | h)
      · exact .inl (.inr h)
      · exact .inl (.inl h)
      · exact .inr h
    · rintro ((h | h) | h)
      · exact .inr (.inl h)
      · exact .inl h
      · exact .inr (.inr h)

theorem Keep.trans {ws vs us : List Nat} {a b c : Act} (h1 : Keep ws a b) (h2 : Keep vs b c) (hw : ∀ i, i ∈ ws → i ∈ us) (hv : ∀ i, i ∈ vs → i ∈ us) : Keep us a c :=
  ⟨h2.1.trans h1.1, h2.2.1.trans h1.2.1, fun i hi => (h2.2.2 i fun h => hi (hv i h)).trans (h1.2.2 i fun h => hi (hw i h))⟩

theorem Keep.put {ws : List Nat} {a : Act} {d : Option Tmp} {v : Value} (h : ∀ x, d = some x → x ∈ ws) : Keep ws a (a.put d v) := by
  cases d with
  | none => exact .refl _ _
  | some d =>
    refine ⟨rfl, by simp [Act.put], fun i hi => ?_⟩
    have : i ≠ d := fun he => hi (he ▸ h d rfl)
    simp [Act.put, Array.getElem?_setIfInBounds_ne (Ne.symm this)]

theorem mem_writesOps {l : List Oper} {o : Oper} {d : Nat} (h : o ∈ l) (hd : o.dst = some d) : d ∈ writesOps l := by
  induction l with
  | nil => cases h
  | cons x r ih =>
    rw [writesOps]
    rcases List.mem_cons.1 h with h | h
    · subst h
      rw [hd]
      exact mem_addN.2 (.inl rfl)
    · cases hx : x.dst with
      | none => exact ih h
      | some e => exact mem_addN.2 (.inr (ih h))

/-- what is written lies in the frame -/
def Fit (n : Nat) (l : List Oper) : Prop := ∀ o ∈ l, ∀ d, o.dst = some d → d < n

/-- one operation, carried out -/
theorem dOp1_wp (hN : NoNG P) {o : Oper} {fr : Fr} {a : Act} {K : Fr → World → Prop} {w : World} {next : Act → World → Prop} (ha : Agrees fr a.tmps) (hd : ∀ d, o.dst = some d → d < a.tmps.size) (hS : S w) (h : dOp1 P S o fr K w)
    (hn : ∀ v fr' w', Agrees fr' (a.put o.dst v).tmps → K fr' w' → next (a.put o.dst v) w') : o.wp P a w next Q := by
  unfold dOp1 at h
  split at h
  · obtain ⟨sv, h1, h2⟩ := sOp_run ha h
    exact wp_of_value (h1 w hS) (hn _ _ _ (ha.put _ _ hd) h2)
  · exact lOp_wp hN ha h fun sv w' hk => hn _ _ _ (ha.put _ _ hd) hk

theorem dOps_wp (hN : NoNG P) {K : Fr → World → Prop} {a0 : Act} (hF : Fit a0.tmps.size ops.toList) (hQ : ∀ fr a w, Agrees fr a.tmps → Keep (writesOps ops.toList) a0 a → K fr w → Q .normal a w) :
    ∀ (l : List Oper) (fr : Fr) (a : Act) (w : World), (∀ o ∈ l, o ∈ ops.toList) → Agrees fr a.tmps → Keep (writesOps ops.toList) a0 a → dOps P ops.toList l fr K w → wpList P ops Q l a w
  | [], fr, a, w, _, ha, hk, h => hQ fr a w ha hk h
  | o :: r, fr, a, w, hl, ha, hk, h => by
    rw [dOps_cons] at h
    have hput : ∀ v, Keep (writesOps ops.toList) a0 (a.put o.dst v) := fun v =>
      hk.trans (Keep.put fun x hx => mem_writesOps (hl o List.mem_cons_self) hx) (fun _ h => h) (fun _ h => h)
    have hr : ∀ o ∈ r, o ∈ ops.toList := fun o h => hl o (List.mem_cons_of_mem _ h)
    have hd : ∀ d, o.dst = some d → d < a.tmps.size := fun d h => hk.2.1 ▸ hF o (hl o List.mem_cons_self) d h
    simp only [wpList]
    rcases dOp_cases ha h with ⟨hw, fr', ha', h⟩ | ⟨hw, fr', ha', h⟩
    · rw [hw, if_pos rfl]
      exact .inl (dOp1_wp (S := fun w' => w' = w) hN ha' hd rfl h fun v fr'' w' ha'' hk' => dOps_wp hN hF hQ r fr'' _ w' hr ha'' (hput v) hk')
    · rw [hw]
      simp only [Bool.false_eq_true, if_false]
      exact dOps_wp hN hF hQ r _ _ w hr (ha'.put _ _ hd) (hput _) h

theorem dOps_still {K : Fr → World → Prop} {a0 : Act} (hF : Fit a0.tmps.size ops.toList) {w : World} (R : Act → Prop) :
    ∀ (l r : List Oper) (fr : Fr) (a : Act), (∀ o ∈ l, softB P o = true) → (∀ o ∈ l, o ∈ ops.toList) → Agrees fr a.tmps → Keep (writesOps ops.toList) a0 a → dOps P ops.toList (l ++ r) fr K w →
      (∀ fr a, Agrees fr a.tmps → Keep (writesOps ops.toList) a0 a → dOps P ops.toList r fr K w → R a) → wpStill P ops w R l a
  | [], r, fr, a, _, _, ha, hk, h, hR => hR fr a ha hk h
  | o :: l, r, fr, a, hs, hl, ha, hk, h, hR => by
    rw [List.cons_append, dOps_cons] at h
    have hput : ∀ v, Keep (writesOps ops.toList) a0 (a.put o.dst v) := fun v =>
      hk.trans (Keep.put fun x hx => mem_writesOps (hl o List.mem_cons_self) hx) (fun _ h => h) (fun _ h => h)
    have hd : ∀ d, o.dst = some d → d < a.tmps.size := fun d h => hk.2.1 ▸ hF o (hl o List.mem_cons_self) d h
    have ih := fun fr a => dOps_still (K := K) (a0 := a0) hF (w := w) R l r fr a (fun o h => hs o (List.mem_cons_of_mem _ h)) (fun o h => hl o (List.mem_cons_of_mem _ h))
    simp only [wpStill]
    rcases dOp_cases ha h with ⟨hw, fr', ha', h⟩ | ⟨hw, fr', ha', h⟩
    · rw [hw, if_pos rfl]
      unfold dOp1 at h
      rw [hs o List.mem_cons_self] at h
      obtain ⟨sv, h1, h2⟩ := sOp_run ha' h
      unfold Oper.still
      rw [h1 w rfl]
      exact ⟨rfl, ih _ _ (ha'.put _ _ hd) (hput _) h2 hR⟩
    · rw [hw]
      simp only [Bool.false_eq_true, if_false]
      exact ih _ _ (ha'.put _ _ hd) (hput _) h hR

theorem dHeld_wp (hN : NoNG P) (hsel : Region.noSelect ops = true) {K : Fr → World → Prop} {a0 : Act} (hF : Fit a0.tmps.size ops.toList) (hp : ∀ c a w, ¬ Q (.panic c) a w)
    (hQ : ∀ fr a w, Agrees fr a.tmps → Keep (writesOps ops.toList) a0 a → K fr w → Q .normal a w) :
    ∀ (n : Nat) (listed : Array Bool) (l : List Nat) (fr : Fr) (a : Act) (w : World), canon P ops n listed = some l → S w → Agrees fr a.tmps → Keep (writesOps ops.toList) a0 a →
      dHeld P S ops.toList l fr K w → wpAnyH P .any ops Q S n listed a w
  | 0, listed, l, fr, a, w, hc, hS, ha, hk, h => by
    simp only [canon] at hc
    split at hc
    · rename_i he
      cases hc
      exact ⟨by simpa using he, hQ fr a w ha hk h⟩
    · cases hc
  | n + 1, listed, l, fr, a, w, hc, hS, ha, hk, h => by
    simp only [canon] at hc
    split at hc
    · rename_i hr
      cases hc
      exact wpAnyH_done hr (hQ fr a w ha hk h) _
    · rename_i rs hne
      split at hc
      · rename_i i hf
        split at hc
        · rename_i l' hl'
          cases hc
          have hmem := List.mem_of_find?_eq_some hf
          have hpr := List.find?_some hf
          split at hpr
          · rename_i o ho
            simp only [Bool.and_eq_true] at hpr
            have ho' : ops.toList[i]? = some o := by simpa using ho
            have hin : o ∈ ops.toList := List.mem_of_getElem? ho'
            rw [dHeld_cons] at h
            simp only [ho', hpr.1, if_true] at h
            have hput : ∀ v, Keep (writesOps ops.toList) a0 (a.put o.dst v) := fun v =>
              hk.trans (Keep.put fun x hx => mem_writesOps hin hx) (fun _ h => h) (fun _ h => h)
            have hcon : (Region.ready .any ops listed).contains i = true := by simpa using hmem
            have hd : ∀ d, o.dst = some d → d < a.tmps.size := fun d h => hk.2.1 ▸ hF o hin d h
            rcases dOp_cases ha h with ⟨hw, fr', ha', h⟩ | ⟨hw, fr', ha', h⟩
            · unfold dOp1 at h
              rw [hpr.1] at h
              obtain ⟨sv, h1, h2⟩ := sOp_run ha' h
              exact wpAnyH_take ho hsel hpr.2 hcon (fun c a w hq => (hp _ _ _ hq).elim) (.inl ⟨hw, h1⟩) hS
                (dHeld_wp hN hsel hF hp hQ n _ l' _ _ w hl' hS (ha'.put _ _ hd) (hput _) h2)
            · exact wpAnyH_take ho hsel hpr.2 hcon (fun c a w hq => (hp _ _ _ hq).elim) (.inr ⟨hw, rfl⟩) hS
                (dHeld_wp hN hsel hF hp hQ n _ l' _ _ w hl' hS (ha'.put _ _ hd) (hput _) h)
          · cases hpr
        · cases hc
      · split at hc
        · rename_i i hrs
          split at hc
          · rename_i l' hl'
            cases hc
            refine wpAnyH_all hrs (by simp) fun j hj => ?_
            have hji : j = i := by simpa using hj
            subst hji
            rw [dHeld_cons] at h
            split at h
            · rename_i o ho
              have ho' : ops[j]? = some o := by simpa using ho
              have hin : o ∈ ops.toList := List.mem_of_getElem? ho
              have hput : ∀ v, Keep (writesOps ops.toList) a0 (a.put o.dst v) := fun v =>
                hk.trans (Keep.put fun x hx => mem_writesOps hin hx) (fun _ h => h) (fun _ h => h)
              have hd : ∀ d, o.dst = some d → d < a.tmps.size := fun d h => hk.2.1 ▸ hF o hin d h
              unfold wpOp
              simp only [ho']
              rcases dOp_cases ha h with ⟨hw, fr', ha', h⟩ | ⟨hw, fr', ha', h⟩
              · rw [hw, if_pos rfl]
                refine .inl ?_
                unfold dOp1 at h
                split at h
                · rename_i hsf
                  obtain ⟨sv, h1, h2⟩ := sOp_run ha' h
                  rw [hsf, if_pos rfl] at h2
                  exact wp_of_value (h1 w hS) ⟨hS, dHeld_wp hN hsel hF hp hQ n _ l' _ _ w hl' hS (ha'.put _ _ hd) (hput _) h2⟩
                · rename_i hsf
                  rw [hsf] at h
                  simp only [Bool.false_eq_true, if_false] at h
                  exact lOp_wp hN ha' h fun sv w' hq => ⟨hq.cond, dHeld_wp hN hsel hF hp hQ n _ l' _ _ w' hl' hq.cond (ha'.put _ _ hd) (hput _) hq.next⟩
              · rw [hw]
                simp only [Bool.false_eq_true, if_false]
                exact ⟨hS, dHeld_wp hN hsel hF hp hQ n _ l' _ _ w hl' hS (ha'.put _ _ hd) (hput _) h⟩
            · cases h
          · cases hc
        · cases hc

theorem softPre_take : ∀ (l : List Oper), ∀ o ∈ l.take (softPre P l), softB P o = true
  | [], o, h => by simp at h
  | x :: r, o, h => by
    unfold softPre at h
    split at h
    · rename_i hx
      rw [List.take_succ_cons] at h
      cases h with
      | head => exact hx
      | tail _ h => exact softPre_take r o h
    · simp at h

theorem beqL_eq : ∀ {a b : List Nat}, beqL a b = true → a = b
  | [], [], _ => rfl
  | [], _ :: _, h => (by cases h)
  | _ :: _, [], h => (by cases h)
  | a :: x, b :: y, h => by
    simp only [beqL, Bool.and_eq_true] at h
    rw [Nat.eq_of_beq_eq_true h.1, beqL_eq h.2]

theorem dRegion_wp (hN : NoNG P) (hm : P.follows .mixedOrders = true) {an : An} {id : Nat} {dr : Bool} {K : Fr → World → Prop} {a : Act} {fr : Fr} {w : World} (hF : Fit a.tmps.size ops.toList)
    (hpl : drOK dr (planOK P ops an) = true) (hp : ∀ c a w, ¬ Q (.panic c) a w)
    (hQ : ∀ fr' a' w', Agrees fr' a'.tmps → Keep (writesOps ops.toList) a a' → K fr' w' → Q .normal a' w') (ha : Agrees fr a.tmps) (h : dRegion P an ops dr fr K w) : (Code.region id ops dr).wp P Q a w := by
  unfold dRegion at h
  split at h
  · exact wp_region_list (dOps_wp hN hF hQ ops.toList fr a w (fun _ h => h) ha (.refl _ _) h)
  · simp only [drOK] at hpl
    split at h
    · simp only [planOK, Bool.or_eq_true, Bool.and_eq_true, List.all_eq_true] at hpl
      obtain ⟨h⟩ := h
      rcases hpl with hb | hb
      · refine wp_region_still hm hb.2 ?_
        exact dOps_still hF (fun a' => Q .normal a' { w with drawn := w.drawn + 1 }) ops.toList [] fr a hb.1 (fun _ h => h) ha (.refl _ _) (by simpa using h)
          fun fr' a' ha' hk' h' => hQ fr' a' _ ha' hk' h'
      · have hb' : Region.lexTailB .any ops.toList.toArray (softPre P ops.toList) = true := by simpa using hb
        have := wp_region_still_tail (P := P) (id := id) (Q := Q) (a := a) (w := w) (l := ops.toList) (softPre P ops.toList) hm hb' ?_
        · simpa using this
        · simp only [Array.toArray_toList]
          refine dOps_still hF _ (ops.toList.take (softPre P ops.toList)) (ops.toList.drop (softPre P ops.toList)) fr a (softPre_take _) (fun o h => List.mem_of_mem_take h) ha (.refl _ _) (by rw [List.take_append_drop]; exact h) ?_
          intro fr' a' ha' hk' h'
          exact dOps_wp hN hF hQ _ fr' a' _ (fun o h => List.mem_of_mem_drop h) ha' hk' h'
    · rename_i l
      simp only [planOK, Bool.and_eq_true] at hpl
      obtain ⟨hsel, hc⟩ := hpl
      split at hc
      · rename_i l' hl
        have := beqL_eq hc
        subst this
        obtain ⟨S, h⟩ := h
        obtain ⟨h⟩ := h
        exact wp_region_held hm (dHeld_wp hN hsel hF hp hQ _ _ l fr a _ hl h.cond ha (.refl _ _) h.next)
      · cases hc
    · cases h

end
end Go.Proofs.Ytohoimokfgfceaa.K
