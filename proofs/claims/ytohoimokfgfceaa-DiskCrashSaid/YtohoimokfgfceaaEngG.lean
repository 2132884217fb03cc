/-
  What the plain meaning tells holds of the model's runs: regions.
-/
import Derived.Test.YtohoimokfgfceaaEngF
import Derived.Tactics
namespace Go.Proofs.Ytohoimokfgfceaa.K
open Go
section
variable {P : Program} {S : World → Prop} {Q : Exit → Act → World → Prop} {ops : Array Oper}

theorem want_yes {o : Oper} {fr : Fr} {a : Act} (ha : Agrees fr a.tmps) (h : wantF ops.toList o fr = some .yes) : Region.wanted o (yielded ops a.tmps) = true := by
  unfold wantF at h
  unfold Region.wanted
  cases hg : o.guard with
  | none => rfl
  | some jw =>
    obtain ⟨j, want⟩ := jw
    simp only [hg] at h ⊢
    split at h
    · rename_i g hj
      split at h
      · rename_i d hd
        split at h
        · rename_i b hb
          have hv := ha _ _ hb
          have hy : yielded ops a.tmps j = some b := by
            have hj' : ops[j]? = some g := by simpa using hj
            simp [yielded, hj', hd, hv, SV.v, S1.v]
          rw [hy]
          split at h <;> first | rfl | (cases h; done)
        · cases h
        · cases h
        · cases h
      · cases h
    · cases h

theorem want_no {o : Oper} {fr : Fr} {a : Act} (ha : Agrees fr a.tmps) (h : wantF ops.toList o fr = some .no) : Region.wanted o (yielded ops a.tmps) = false := by
  unfold wantF at h
  unfold Region.wanted
  cases hg : o.guard with
  | none => simp only [hg] at h; cases h
  | some jw =>
    obtain ⟨j, want⟩ := jw
    simp only [hg] at h ⊢
    split at h
    · rename_i g hj
      have hj' : ops[j]? = some g := by simpa using hj
      split at h
      · rename_i d hd
        split at h
        · rename_i b hb
          have hv := ha _ _ hb
          have hy : yielded ops a.tmps j = some b := by simp [yielded, hj', hd, hv, SV.v, S1.v]
          rw [hy]
          split at h
          · cases h
          · cases h
          · rename_i h1 h2
            cases b <;> cases want <;> first | rfl | (exact absurd rfl (h1 rfl)) | (exact absurd rfl (h2 rfl)) | (exact (h1 rfl rfl).elim) | (exact (h2 rfl rfl).elim)
        · cases h
        · rename_i hb
          have hv := ha _ _ hb
          have hy : yielded ops a.tmps j = none := by simp [yielded, hj', hd, hv, SV.v, S1.v, Go.undef]
          rw [hy]; rfl
        · cases h
      · cases h
    · cases h

theorem want_ask {o : Oper} {fr : Fr} {a : Act} {b : Bool} (ha : Agrees fr a.tmps) (h : wantF ops.toList o fr = some (.ask b)) :
    fr.get (guardSlot ops.toList o) = some (.s (.bool b)) ∧ Region.wanted o (yielded ops a.tmps) = (b == guardWant o) := by
  unfold wantF at h
  unfold Region.wanted guardSlot guardWant
  cases hg : o.guard with
  | none => simp only [hg] at h; cases h
  | some jw =>
    obtain ⟨j, want⟩ := jw
    simp only [hg] at h ⊢
    split at h
    · rename_i g hj
      have hj' : ops[j]? = some g := by simpa using hj
      split at h
      · rename_i d hd
        split at h
        · split at h <;> cases h
        · rename_i b' hb
          cases h
          have hv := ha _ _ hb
          have hy : yielded ops a.tmps j = some b := by simp [yielded, hj', hd, hv, SV.v, S1.v]
          rw [hy]
          exact ⟨by simp only [hj, hd, Option.getD_some]; exact hb, by cases b <;> cases want <;> rfl⟩
        · cases h
        · cases h
      · cases h
    · cases h

/-- carried out, or not -/
theorem dOp_cases {o : Oper} {fr : Fr} {a : Act} {K N : Fr → World → Prop} {w : World} (ha : Agrees fr a.tmps) (h : dOp P S ops.toList o fr K N w) :
    (Region.wanted o (yielded ops a.tmps) = true ∧ ∃ fr', Agrees fr' a.tmps ∧ dOp1 P S o fr' K w) ∨
    (Region.wanted o (yielded ops a.tmps) = false ∧ ∃ fr', Agrees fr' a.tmps ∧ N (fr'.put o.dst (.s .undef)) w) := by
  unfold dOp at h
  split at h
  · rename_i hw; exact .inl ⟨want_yes ha hw, fr, ha, h⟩
  · rename_i hw; exact .inr ⟨want_no ha hw, fr, ha, h⟩
  · rename_i b hw
    obtain ⟨hb, hq⟩ := want_ask ha hw
    have hset : ∀ c, b = c → Agrees (fr.set (guardSlot ops.toList o) (some (.s (.lit c)))) a.tmps := fun c hc => ha.set _ hb (by subst hc; rfl)
    rw [hq]
    split at h
    · rename_i hg
      rw [hg]
      cases b
      · exact .inr ⟨rfl, _, hset false rfl, h.no rfl⟩
      · exact .inl ⟨rfl, _, hset true rfl, h.yes rfl⟩
    · rename_i hg
      rw [hg]
      cases b
      · exact .inl ⟨rfl, _, hset false rfl, h.no rfl⟩
      · exact .inr ⟨rfl, _, hset true rfl, h.yes rfl⟩
  · cases h

/-- what is not written stays -/
def Keep (ws : List Nat) (a a' : Act) : Prop := a'.defers = a.defers ∧ a'.tmps.size = a.tmps.size ∧ ∀ i, i ∉ ws → a'.tmps[i]? = a.tmps[i]?

theorem Keep.refl (ws : List Nat) (a : Act) : Keep ws a a := ⟨rfl, rfl, fun _ _ => rfl⟩

theorem mem_addN {l : List Nat} {x y : Nat} : y ∈ addN l x ↔ y = x ∨ y ∈ l := by
  unfold addN
  split
  · rename_i h
    have : x ∈ l := by simpa using h
    constructor
    · exact .inr
    · rintro (rfl | h) <;> assumption
  · simp

theorem mem_uni {a b : List Nat} {x : Nat} : x ∈ uni a b ↔ x ∈ a ∨ x ∈ b := by
  unfold uni
  induction a generalizing b with
  | nil => simp
  | cons y r ih =>
    rw [List.foldl_cons, ih, mem_addN, List.mem_cons]
    constructor
    · rintro (h | h | h)
      · exact .inl (.inr h)
      · exact .inl (.inl h)
      · exact .inr h
    · rintro ((h | h) | h)
      · exact .inr (.inl h)
      · exact .inl h
      · exact .inr (.inr h)

theorem Keep.trans {ws vs us : List Nat} {a b c : Act} (h1 : Keep ws a b) (h2 : Keep vs b c) (hw : ∀ i, i ∈ ws → i ∈ us) (hv : ∀ i, i ∈ vs → i ∈ us) : Keep us a c :=
  ⟨h2.1.trans h1.1, h2.2.1.trans h1.2.1, fun i hi => (h2.2.2 i fun h => hi (hv i h)).trans (h1.2.2 i fun h => hi (hw i h))⟩

theorem Keep.put {ws : List Nat} {a : Act} {d : Option Tmp} {v : Value} (h : ∀ x, d = some x → x ∈ ws) : Keep ws a (a.put d v) := by
  cases d with
  | none => exact .refl _ _
  | some d =>
    refine ⟨rfl, by simp [Act.put], fun i hi => ?_⟩
    have : i ≠ d := fun he => hi (he ▸ h d rfl)
    simp [Act.put, Array.getElem?_setIfInBounds_ne (Ne.symm this)]

theorem mem_writesOps {l : List Oper} {o : Oper} {d : Nat} (h : o ∈ l) (hd : o.dst = some d) : d ∈ writesOps l := by
  induction l with
  | nil => cases h
  | cons x r ih =>
    rw [writesOps]
    rcases List.mem_cons.1 h with h | h
    · subst h
      rw [hd]
      exact mem_addN.2 (.inl rfl)
    · cases hx : x.dst with
      | none => exact ih h
      | some e => exact mem_addN.2 (.inr (ih h))

/-- what is written lies in the frame -/
def Fit (n : Nat) (l : List Oper) : Prop := ∀ o ∈ l, ∀ d, o.dst = some d → d < n

/-- nothing is deferred -/
def NoDef (l : List Oper) : Prop := ∀ o ∈ l, ∀ c, o.op ≠ .defer c

/-- one operation, carried out -/
theorem dOp1_wp {r : Option Nat} (hN : NoNG P) {o : Oper} {fr : Fr} {a : Act} {K : Fr → World → Prop} {w : World} {next : Act → World → Prop} (hnd : ∀ c, o.op ≠ .defer c) (ha : Agrees fr a.tmps) (hd : ∀ d, o.dst = some d → d < a.tmps.size) (hS : S w) (h : dOp1 P S o fr K w)
    (hn : ∀ v fr' w', Agrees fr' (a.put o.dst v).tmps → K fr' w' → next (a.put o.dst v) w') : o.wpIn (wideAt r) 0 P a w next Q := by
  unfold dOp1 at h
  split at h
  · obtain ⟨sv, h1, h2⟩ := sOp_run ha h
    exact wp_of_value hnd (h1 w hS) (hn _ _ _ (ha.put _ _ hd) h2)
  · exact lOp_wp hN ha h fun sv w' hk => hn _ _ _ (ha.put _ _ hd) hk

theorem dOps_wp {r : Option Nat} (hN : NoNG P) {K : Fr → World → Prop} {a0 : Act} (hF : Fit a0.tmps.size ops.toList) (hD : NoDef ops.toList) (hQ : ∀ fr a w, Agrees fr a.tmps → Keep (writesOps ops.toList) a0 a → K fr w → Q .normal a w) :
    ∀ (l : List Oper) (fr : Fr) (a : Act) (w : World), (∀ o ∈ l, o ∈ ops.toList) → Agrees fr a.tmps → Keep (writesOps ops.toList) a0 a → dOps P ops.toList l fr K w → wpListIn (wideAt r) 0 P ops Q l a w
  | [], fr, a, w, _, ha, hk, h => hQ fr a w ha hk h
  | o :: l, fr, a, w, hl, ha, hk, h => by
    rw [dOps_cons] at h
    have hput : ∀ v, Keep (writesOps ops.toList) a0 (a.put o.dst v) := fun v =>
      hk.trans (Keep.put fun x hx => mem_writesOps (hl o List.mem_cons_self) hx) (fun _ h => h) (fun _ h => h)
    have hr : ∀ o ∈ l, o ∈ ops.toList := fun o h => hl o (List.mem_cons_of_mem _ h)
    have hd : ∀ d, o.dst = some d → d < a.tmps.size := fun d h => hk.2.1 ▸ hF o (hl o List.mem_cons_self) d h
    simp only [wpListIn]
    rcases dOp_cases ha h with ⟨hw, fr', ha', h⟩ | ⟨hw, fr', ha', h⟩
    · rw [hw, if_pos rfl]
      exact dOp1_wp (S := fun w' => w' = w) hN (hD o (hl o List.mem_cons_self)) ha' hd rfl h fun v fr'' w' ha'' hk' => dOps_wp hN hF hD hQ l fr'' _ w' hr ha'' (hput v) hk'
    · rw [hw]
      simp only [Bool.false_eq_true, if_false]
      exact ⟨about_wide, dOps_wp hN hF hD hQ l _ _ w hr (ha'.put _ _ hd) (hput _) h⟩

theorem dOps_still {K : Fr → World → Prop} {a0 : Act} (hF : Fit a0.tmps.size ops.toList) {w : World} (R : Act → Prop) :
    ∀ (l r : List Oper) (fr : Fr) (a : Act), (∀ o ∈ l, softB P o = true) → (∀ o ∈ l, o ∈ ops.toList) → Agrees fr a.tmps → Keep (writesOps ops.toList) a0 a → dOps P ops.toList (l ++ r) fr K w →
      (∀ fr a, Agrees fr a.tmps → Keep (writesOps ops.toList) a0 a → dOps P ops.toList r fr K w → R a) → wpStill P ops w R l a
  | [], r, fr, a, _, _, ha, hk, h, hR => hR fr a ha hk h
  | o :: l, r, fr, a, hs, hl, ha, hk, h, hR => by
    rw [List.cons_append, dOps_cons] at h
    have hput : ∀ v, Keep (writesOps ops.toList) a0 (a.put o.dst v) := fun v =>
      hk.trans (Keep.put fun x hx => mem_writesOps (hl o List.mem_cons_self) hx) (fun _ h => h) (fun _ h => h)
    have hd : ∀ d, o.dst = some d → d < a.tmps.size := fun d h => hk.2.1 ▸ hF o (hl o List.mem_cons_self) d h
    have ih := fun fr a => dOps_still (K := K) (a0 := a0) hF (w := w) R l r fr a (fun o h => hs o (List.mem_cons_of_mem _ h)) (fun o h => hl o (List.mem_cons_of_mem _ h))
    simp only [wpStill]
    rcases dOp_cases ha h with ⟨hw, fr', ha', h⟩ | ⟨hw, fr', ha', h⟩
    · rw [hw, if_pos rfl]
      unfold dOp1 at h
      rw [hs o List.mem_cons_self] at h
      obtain ⟨sv, h1, h2⟩ := sOp_run ha' h
      unfold Oper.still
      rw [h1 w rfl]
      exact ⟨rfl, ih _ _ (ha'.put _ _ hd) (hput _) h2 hR⟩
    · rw [hw]
      simp only [Bool.false_eq_true, if_false]
      exact ih _ _ (ha'.put _ _ hd) (hput _) h hR

theorem memL_iff {l : List Nat} {x : Nat} : memL l x = true ↔ x ∈ l := by
  induction l with
  | nil => simp [memL]
  | cons y r ih =>
    simp only [memL, List.mem_cons]
    by_cases h : x = y
    · subst h; simp
    · have : Nat.beq x y = false := by
        cases hb : Nat.beq x y with
        | false => rfl
        | true => exact absurd (Nat.eq_of_beq_eq_true hb) h
      simp [this, ih, h]

/-- whatever order is picked from here on; what is read is read in worlds that meet S, which is chosen anew behind those of 'ys' -/
def wpAnyX (r : Option Nat) (P : Program) (ops : Array Oper) (Q : Exit → Act → World → Prop) (ys : List Nat) : Nat → (World → Prop) → Array Bool → Act → World → Prop
  | 0, _, listed, a, w => Region.ready .any ops listed = [] ∧ Q .normal a w
  | fuel + 1, S, listed, a, w =>
    (Region.ready .any ops listed = [] → Q .normal a w) ∧
    ∀ i ∈ Region.ready .any ops listed, wpOpIn (wideAt r) 0 P ops Q i (fun a' w' => ∃ S', (memL ys i = false → S' = S) ∧ S' w' ∧ wpAnyX r P ops Q ys fuel S' (listed.setIfInBounds i true) a' w') a w

theorem wpAny_of_X {r : Option Nat} {ys : List Nat} : ∀ (fuel : Nat) (S : World → Prop) (listed : Array Bool) (a : Act) (w : World), wpAnyX r P ops Q ys fuel S listed a w → wpAnyIn (wideAt r) 0 P .any ops Q fuel listed a w
  | 0, _, _, _, _, h => h
  | fuel + 1, _, _, _, _, h => ⟨h.1, fun i hi => wpOpIn_mono (fun a' w' ⟨S', _, _, h'⟩ => wpAny_of_X fuel S' _ a' w' h') (h.2 i hi)⟩

theorem yieldsIf_wpOp {r : Option Nat} {i : Nat} {o : Oper} {v : Value} {a : Act} (hnd : ∀ c, o.op ≠ .defer c) (hi : ops[i]? = some o) (hy : YieldsIf P ops S o v a)
    {K : Act → World → Prop} {w : World} (hS : S w) (h : K (a.put o.dst v) w) : wpOpIn (wideAt r) 0 P ops Q i K a w := by
  unfold Go.wpOpIn
  simp only [hi]
  rcases hy with ⟨hw, hv⟩ | ⟨hw, rfl⟩
  · rw [hw, if_pos rfl]; exact wp_of_value hnd (hv w hS) h
  · rw [hw]; simp only [Bool.false_eq_true, if_false]; exact ⟨about_wide, h⟩

theorem wpOp_putX {r : Option Nat} {j : Nat} {oi oj : Oper} {v : Value} (hnd : ∀ c, oj.op ≠ .defer c) (hj : ops[j]? = some oj) (hap : oi.apart ops oj = true)
    (hsi : ∀ cs b, oi.op ≠ .select cs b) (hsj : ∀ cs b, oj.op ≠ .select cs b)
    (hQ : ∀ c a w, Q (.panic c) (a.put oi.dst v) w → Q (.panic c) a w) {K : Act → World → Prop} {a : Act} {w : World}
    (hy : YieldsIf P ops S oi v a) (h : wpOpIn (wideAt r) 0 P ops Q j K (a.put oi.dst v) w) :
    wpOpIn (wideAt r) 0 P ops Q j (fun a' w' => YieldsIf P ops S oi v a' ∧ K (a'.put oi.dst v) w') a w := by
  obtain ⟨h1, h2, h3⟩ := Oper.apart_spec hap
  have keep : ∀ (a : Act), YieldsIf P ops S oi v a → ∀ u, YieldsIf P ops S oi v (a.put oj.dst u) := fun a hy u =>
    hy.of_same (execOp_put oi hsi a oj.dst u h3) (wanted_put oi a oj.dst u h3)
  have keepD : ∀ d, YieldsIf P ops S oi v { a with defers := d :: a.defers } := fun d => hy.of_same rfl rfl
  unfold wpOpIn at *
  simp only [hj] at *
  rw [wanted_put oj a oi.dst v h1] at h
  split
  · rename_i hw
    simp only [hw, if_true] at h
    refine ⟨about_wide, ?_⟩
    have h := h.2
    rw [Oper.semAt_eq _ _ _ hnd, execOp_put oj hsj a oi.dst v h1] at h
    rw [Oper.semAt_eq _ _ _ hnd]
    generalize (execOp a.eval oj).run P w = q at *
    cases q with
    | ok n w' =>
      cases n <;> simp only [Oper.uponIn] at h ⊢
      case value u => exact ⟨keep a hy u, by rw [← Act.put_comm a v u h2]; exact h⟩
      case skip => exact ⟨keep a hy _, by rw [← Act.put_comm a v undef h2]; exact h⟩
      case defer d =>
        refine ⟨keep _ (keepD d) _, ?_⟩
        rw [← Act.put_comm _ v undef h2, ← Act.put_defers]
        exact h
      case enter f args =>
        refine ⟨h.1, CallsIn.mono h.2 fun e w'' he => ?_⟩
        cases e with
        | returned u => exact ⟨keep a hy u, by rw [← Act.put_comm a v u h2]; exact he⟩
        | panicked c => exact hQ _ _ _ he
        | outgrown => exact he
      case row row args => exact ⟨h.1, RowsIn.mono h.2 fun u w'' he => ⟨keep a hy u, by rw [← Act.put_comm a v u h2]; exact he⟩⟩
      case round l f tmps assign body =>
        refine ⟨h.1, RoundIn.mono h.2 fun e w'' he => ?_⟩
        cases e with
        | returned u => exact ⟨keep a hy u, by rw [← Act.put_comm a v u h2]; exact he⟩
        | panicked c => exact hQ _ _ _ he
        | outgrown => exact he
    | halt x w' =>
      cases x <;> simp only [Oper.uponIn] at h ⊢
      case panic u => exact hQ _ _ _ h
  · rename_i hw
    simp only [hw] at h
    exact ⟨about_wide, keep a hy _, by rw [← Act.put_comm a v undef h2]; exact h.2⟩

theorem wpAnyX_done {r : Option Nat} {ys : List Nat} {S : World → Prop} {listed : Array Bool} {a : Act} {w : World} (hr : Region.ready .any ops listed = []) (h : Q .normal a w) :
    ∀ fuel, wpAnyX r P ops Q ys fuel S listed a w
  | 0 => ⟨hr, h⟩
  | _ + 1 => ⟨fun _ => h, by rw [hr]; simp⟩

theorem getD_le {listed : Array Bool} {j : Nat} (h : listed.getD j true = false) : listed.getD j false = false := by
  rcases Nat.lt_or_ge j listed.size with h' | h'
  · simp [h'] at h ⊢; exact h
  · simp [Array.getElem?_eq_none h'] at h

/-- what has come up had all that it waits for come up -/
def Closed (ops : Array Oper) (listed : Array Bool) : Prop := ∀ t o, ops[t]? = some o → listed.getD t false = true → ∀ e ∈ o.after, Region.binds .any e = true → listed.getD e.on false = true

theorem Closed.step {listed : Array Bool} (h : Closed ops listed) {j : Nat} (hj : j ∈ Region.ready .any ops listed) : Closed ops (listed.setIfInBounds j true) := by
  obtain ⟨_, o, ho, hall⟩ := mem_ready.1 hj
  intro t o' ho' ht e he hb
  by_cases hjt : j = t
  · subst hjt
    rw [ho] at ho'
    cases ho'
    exact getD_set_true (hall e he hb)
  · rw [getD_set_ne false hjt] at ht
    exact getD_set_true (h t o' ho' ht e he hb)

theorem deps_listed {listed : Array Bool} (h : Closed ops listed) {t x : Nat} (ht : listed.getD t false = true) (hx : x ∈ depsOf ops t) : listed.getD x false = true := by
  unfold depsOf at hx
  split at hx
  · rename_i o ho
    obtain ⟨e, he, rfl⟩ := List.mem_map.1 hx
    obtain ⟨h1, h2⟩ := List.mem_filter.1 he
    exact h t o ho ht e (by simpa using h1) h2
  · cases hx

theorem ancs_listed {listed : Array Bool} (h : Closed ops listed) : ∀ (n : Nat) (todo seen : List Nat), (∀ x ∈ todo, listed.getD x false = true) → (∀ x ∈ seen, listed.getD x false = true) → ∀ x ∈ ancs ops n todo seen, listed.getD x false = true
  | 0, _, _, _, hs => hs
  | _ + 1, [], _, _, hs => hs
  | n + 1, x :: r, seen, ht, hs => by
    unfold ancs
    split
    · exact ancs_listed h n r seen (fun y hy => ht y (.tail _ hy)) hs
    · refine ancs_listed h n _ _ (fun y hy => ?_) fun y hy => ?_
      · rcases List.mem_append.1 hy with hy | hy
        · exact deps_listed h (ht x (.head _)) hy
        · exact ht y (.tail _ hy)
      · rcases List.mem_cons.1 hy with rfl | hy
        · exact ht _ (.head _)
        · exact hs y hy

/-- what may come up before one that has not is none of 'ys' that has not -/
theorem not_sync {ys : List Nat} {i j : Nat} {listed0 listed : Array Bool} (hc : Closed ops listed)
    (hY : ∀ y, memL ys y = true → listed0.getD y false = true ∨ y = i ∨ i ∈ ancs ops (20 * ops.size) (depsOf ops y) []) (hl : ∀ t, listed0.getD t false = true → listed.getD t false = true)
    (hi : listed.getD i true = false) (hj : j ∈ Region.ready .any ops listed) (hji : j ≠ i) : memL ys j = false := by
  obtain ⟨hun, o, ho, hall⟩ := mem_ready.1 hj
  cases hy : memL ys j with
  | false => rfl
  | true =>
    rcases hY j hy with h1 | h1 | h1
    · have h1 := hl j h1
      rw [getD_le hun] at h1
      cases h1
    · exact absurd h1 hji
    · have h2 := ancs_listed hc _ _ [] (fun x hx => ?_) (fun x hx => by cases hx) i h1
      · rw [getD_le hi] at h2
        cases h2
      · unfold depsOf at hx
        rw [ho] at hx
        obtain ⟨e, he, rfl⟩ := List.mem_map.1 hx
        obtain ⟨h1, h2⟩ := List.mem_filter.1 he
        exact hall e (by simpa using h1) h2

theorem wpAnyX_first {r : Option Nat} {ys : List Nat} {i : Nat} {oi : Oper} {v : Value} (hi : ops[i]? = some oi) (hsel : ∀ (j : Nat) (o : Oper) cs b, ops[j]? = some o → o.op ≠ .select cs b) (hdf : ∀ (j : Nat) (o : Oper) c, ops[j]? = some o → o.op ≠ .defer c)
    (hQ : ∀ c a w, Q (.panic c) (a.put oi.dst v) w → Q (.panic c) a w) {listed0 : Array Bool}
    (hY : ∀ y, memL ys y = true → listed0.getD y false = true ∨ y = i ∨ i ∈ ancs ops (20 * ops.size) (depsOf ops y) []) {S : World → Prop} :
    ∀ (fuel : Nat) (listed : Array Bool) (a : Act) (w : World), Closed ops listed → (∀ t, listed0.getD t false = true → listed.getD t false = true) →
      (∀ j oj, ops[j]? = some oj → j ≠ i → listed.getD j true = false → (∀ e ∈ oj.after, Region.binds .any e = true → e.on ≠ i) → oi.apart ops oj = true) →
      i ∈ Region.ready .any ops listed → YieldsIf P ops S oi v a → S w →
      wpAnyX r P ops Q ys fuel S (listed.setIfInBounds i true) (a.put oi.dst v) w → wpAnyX r P ops Q ys (fuel + 1) S listed a w := by
  intro fuel
  induction fuel with
  | zero =>
    intro listed a w _ _ _ hr hy hS H
    refine ⟨fun h => (by rw [h] at hr; cases hr), fun j hj => ?_⟩
    by_cases hji : j = i
    · subst hji; exact yieldsIf_wpOp (fun c => hdf _ _ c hi) hi hy hS ⟨S, fun _ => rfl, hS, H⟩
    · have := ready_mono hj hji
      rw [H.1] at this
      cases this
  | succ fuel ih =>
    intro listed a w hsub hl hfree hr hy hS H
    refine ⟨fun h => (by rw [h] at hr; cases hr), fun j hj => ?_⟩
    by_cases hji : j = i
    · subst hji; exact yieldsIf_wpOp (fun c => hdf _ _ c hi) hi hy hS ⟨S, fun _ => rfl, hS, H⟩
    · have h1 := H.2 j (ready_mono hj hji)
      have hns := not_sync hsub hY hl (mem_ready.1 hr).1 hj hji
      obtain ⟨hjun, oj, hoj, hall⟩ := mem_ready.1 hj
      have hnot : ∀ e ∈ oj.after, Region.binds .any e = true → e.on ≠ i := fun e he hb heq => by
        have h1 := hall e he hb
        have h0 := (mem_ready.1 hr).1
        rw [heq] at h1
        rw [getD_le h0] at h1
        cases h1
      have h2 := wpOp_putX (fun c => hdf _ _ c hoj) hoj (hfree j oj hoj hji hjun hnot) (fun cs b => hsel i oi cs b hi) (fun cs b => hsel j oj cs b hoj) hQ hy h1
      have hfree' : ∀ k ok, ops[k]? = some ok → k ≠ i → (listed.setIfInBounds j true).getD k true = false →
          (∀ e ∈ ok.after, Region.binds .any e = true → e.on ≠ i) → oi.apart ops ok = true := fun k ok hk hki hun hno => by
        refine hfree k ok hk hki ?_ hno
        by_cases hjk : j = k
        · subst hjk; exact hjun
        · rw [getD_set_ne true hjk] at hun; exact hun
      refine wpOpIn_mono (fun a' w' h3 => ?_) h2
      obtain ⟨h4, S', h5, h6, h7⟩ := h3
      have h5 := h5 hns
      subst h5
      refine ⟨S', fun _ => rfl, h6, ih (listed.setIfInBounds j true) a' w' (hsub.step hj) (fun t ht => getD_set_true (hl t ht)) hfree' (ready_mono hr (Ne.symm hji)) h4 h6 ?_⟩
      rw [Array.setIfInBounds_comm _ _ hji]
      exact h7

theorem dHeld_wp {r : Option Nat} (hN : NoNG P) (hsel : Region.noSelect ops = true) (hD : NoDef ops.toList) {K : Fr → World → Prop} {a0 : Act} (hF : Fit a0.tmps.size ops.toList) (hp : ∀ c a w, ¬ Q (.panic c) a w)
    (hQ : ∀ fr a w, Agrees fr a.tmps → Keep (writesOps ops.toList) a0 a → K fr w → Q .normal a w) (ys : List Nat) :
    ∀ (n : Nat) (S : World → Prop) (listed : Array Bool) (l pre : List Nat) (fr : Fr) (a : Act) (w : World), canon P ops n listed = some l → (∀ y, memL ys y = true → y ∈ pre ∨ syncY P ops (ancs ops (20 * ops.size) (depsOf ops y) []) y l = true) → Closed ops listed → (∀ t, listed.getD t false = true ↔ t ∈ pre) → listed.size = ops.size →
      S w → Agrees fr a.tmps → Keep (writesOps ops.toList) a0 a →
      dHeld P ops.toList ys l S fr K w → wpAnyX r P ops Q ys n S listed a w
  | 0, S, listed, l, pre, fr, a, w, hc, hsy, hcl, hpre, hsz, hS, ha, hk, h => by
    simp only [canon] at hc
    split at hc
    · rename_i he
      cases hc
      exact ⟨by simpa using he, hQ fr a w ha hk h⟩
    · cases hc
  | n + 1, S, listed, l, pre, fr, a, w, hc, hsy, hcl, hpre, hsz, hS, ha, hk, h => by
    have step : ∀ i, i ∈ Region.ready .any ops listed → (∀ t, (listed.setIfInBounds i true).getD t false = true ↔ t ∈ i :: pre) ∧ (listed.setIfInBounds i true).size = ops.size := by
      intro i hi
      obtain ⟨_, o, ho, _⟩ := mem_ready.1 hi
      have hlt : i < ops.size := (Array.getElem?_eq_some_iff.1 ho).1
      refine ⟨fun t => ?_, by simpa using hsz⟩
      by_cases hit : i = t
      · subst hit
        have : i < listed.size := by omega
        simp [this]
      · rw [getD_set_ne false hit, hpre]
        simp [Ne.symm hit]
    simp only [canon] at hc
    split at hc
    · rename_i hr
      cases hc
      exact wpAnyX_done hr (hQ fr a w ha hk h) _
    · rename_i rs hne
      split at hc
      · rename_i i hf
        split at hc
        · rename_i l' hl'
          cases hc
          have hmem := List.mem_of_find?_eq_some hf
          have hpr := List.find?_some hf
          split at hpr
          · rename_i o ho
            simp only [Bool.and_eq_true] at hpr
            have ho' : ops.toList[i]? = some o := by simpa using ho
            have hin : o ∈ ops.toList := List.mem_of_getElem? ho'
            rw [dHeld_cons] at h
            simp only [ho', hpr.1, if_true] at h
            have hput : ∀ v, Keep (writesOps ops.toList) a0 (a.put o.dst v) := fun v =>
              hk.trans (Keep.put fun x hx => mem_writesOps hin hx) (fun _ h => h) (fun _ h => h)
            have hd : ∀ d, o.dst = some d → d < a.tmps.size := fun d h => hk.2.1 ▸ hF o hin d h
            obtain ⟨hpre', hsz'⟩ := step i hmem
            have hcl' := hcl.step hmem
            have hsy1 : ∀ y, memL ys y = true → y ∈ pre ∨ y = i ∨ (i ∈ ancs ops (20 * ops.size) (depsOf ops y) [] ∧ syncY P ops (ancs ops (20 * ops.size) (depsOf ops y) []) y l' = true) := fun y hy => by
              rcases hsy y hy with h | h
              · exact .inl h
              · unfold syncY at h
                split at h
                · rename_i hb; exact .inr (.inl (Nat.eq_of_beq_eq_true hb).symm)
                · rw [ho] at h
                  simp only [hpr.1, Bool.and_eq_true] at h
                  exact .inr (.inr ⟨memL_iff.1 h.1, h.2⟩)
            have hsy' : ∀ y, memL ys y = true → y ∈ i :: pre ∨ syncY P ops (ancs ops (20 * ops.size) (depsOf ops y) []) y l' = true := fun y hy => by
              rcases hsy1 y hy with h | h | h
              · exact .inl (.tail _ h)
              · exact .inl (by rw [h]; exact .head _)
              · exact .inr h.2
            have take : ∀ {v : Value}, YieldsIf P ops S o v a → wpAnyX r P ops Q ys n S (listed.setIfInBounds i true) (a.put o.dst v) w → wpAnyX r P ops Q ys (n + 1) S listed a w := by
              intro v hy H
              refine wpAnyX_first (listed0 := listed) ho (Region.noSelect_spec hsel) (fun j o c hj => hD o (by have : o ∈ ops.toList := List.mem_of_getElem? (by simpa using hj); exact this) c) (fun c a w hq => (hp _ _ _ hq).elim) (fun y hy => ?_) n listed a w hcl (fun _ h => h) (Region.free_spec ho hpr.2) hmem hy hS H
              rcases hsy1 y hy with h | h | h
              · exact .inl ((hpre y).2 h)
              · exact .inr (.inl h)
              · exact .inr (.inr h.1)
            rcases dOp_cases ha h with ⟨hw, fr', ha', h⟩ | ⟨hw, fr', ha', h⟩
            · unfold dOp1 at h
              rw [hpr.1] at h
              obtain ⟨sv, h1, h2⟩ := sOp_run ha' h
              exact take (.inl ⟨hw, h1⟩) (dHeld_wp hN hsel hD hF hp hQ ys n S _ l' _ _ _ w hl' hsy' hcl' hpre' hsz' hS (ha'.put _ _ hd) (hput _) h2)
            · exact take (.inr ⟨hw, rfl⟩) (dHeld_wp hN hsel hD hF hp hQ ys n S _ l' _ _ _ w hl' hsy' hcl' hpre' hsz' hS (ha'.put _ _ hd) (hput _) h)
          · cases hpr
        · cases hc
      · split at hc
        · rename_i i hrs
          split at hc
          · rename_i l' hl'
            cases hc
            refine ⟨fun h0 => (by rw [hrs] at h0; cases h0), fun j hj => ?_⟩
            have hji : j = i := by rw [hrs] at hj; simpa using hj
            subst hji
            obtain ⟨hpre', hsz'⟩ := step j hj
            have hcl' := hcl.step hj
            have hsy' : ∀ y, memL ys y = true → y ∈ j :: pre ∨ syncY P ops (ancs ops (20 * ops.size) (depsOf ops y) []) y l' = true := fun y hy => by
              rcases hsy y hy with h | h
              · exact .inl (.tail _ h)
              · unfold syncY at h
                split at h
                · rename_i hb; exact .inl (by rw [← Nat.eq_of_beq_eq_true hb]; exact .head _)
                · rw [Bool.and_eq_true] at h; exact .inr h.2
            rw [dHeld_cons] at h
            split at h
            · rename_i o ho
              have ho' : ops[j]? = some o := by simpa using ho
              have hin : o ∈ ops.toList := List.mem_of_getElem? ho
              have hput : ∀ v, Keep (writesOps ops.toList) a0 (a.put o.dst v) := fun v =>
                hk.trans (Keep.put fun x hx => mem_writesOps hin hx) (fun _ h => h) (fun _ h => h)
              have hd : ∀ d, o.dst = some d → d < a.tmps.size := fun d h => hk.2.1 ▸ hF o hin d h
              unfold wpOpIn
              simp only [ho']
              rcases dOp_cases ha h with ⟨hw, fr', ha', h⟩ | ⟨hw, fr', ha', h⟩
              · rw [hw, if_pos rfl]
                unfold dOp1 at h
                split at h
                · rename_i hsf
                  obtain ⟨sv, h1, h2⟩ := sOp_run ha' h
                  rw [hsf, if_pos rfl] at h2
                  exact wp_of_value (hD o hin) (h1 w hS) ⟨S, fun _ => rfl, hS, dHeld_wp hN hsel hD hF hp hQ ys n S _ l' _ _ _ w hl' hsy' hcl' hpre' hsz' hS (ha'.put _ _ hd) (hput _) h2⟩
                · rename_i hsf
                  rw [hsf] at h
                  simp only [Bool.false_eq_true, if_false] at h
                  refine lOp_wp hN ha' h fun sv w' hq => ?_
                  split at hq
                  · rename_i hys
                    obtain ⟨S', hq⟩ := hq
                    exact ⟨S', fun h => (by rw [hys] at h; cases h), hq.cond, dHeld_wp hN hsel hD hF hp hQ ys n S' _ l' _ _ _ w' hl' hsy' hcl' hpre' hsz' hq.cond (ha'.put _ _ hd) (hput _) hq.next⟩
                  · exact ⟨S, fun _ => rfl, hq.cond, dHeld_wp hN hsel hD hF hp hQ ys n S _ l' _ _ _ w' hl' hsy' hcl' hpre' hsz' hq.cond (ha'.put _ _ hd) (hput _) hq.next⟩
              · rw [hw]
                simp only [Bool.false_eq_true, if_false]
                refine ⟨about_wide, ?_⟩
                exact ⟨S, fun _ => rfl, hS, dHeld_wp hN hsel hD hF hp hQ ys n S _ l' _ _ _ w hl' hsy' hcl' hpre' hsz' hS (ha'.put _ _ hd) (hput _) h⟩
            · cases h
          · cases hc
        · cases hc

theorem still_wp {r : Option Nat} {o : Oper} {a : Act} {w : World} {K : Act → Prop} {K' : Act → World → Prop} (hnd : ∀ c, o.op ≠ .defer c) (h : ∀ a, K a → K' a w) (hh : o.still P a w K) : o.wpIn (wideAt r) 0 P a w K' Q := by
  unfold Oper.still at hh
  refine ⟨about_wide, ?_⟩
  rw [Oper.semAt_eq _ _ _ hnd]
  generalize (execOp a.eval o).run P w = q at *
  cases q with
  | ok n w' =>
    cases n <;> simp only [Oper.stillUpon] at hh <;> simp only [Oper.uponIn]
    case enter f args =>
      obtain ⟨rfl, v, hc, hn⟩ := hh
      exact ⟨fun hd => (by cases hd), (callsIn_at hc).mono fun e w'' ⟨he, hw⟩ => by subst he; subst hw; exact h _ hn⟩
    all_goals (obtain ⟨rfl, h2⟩ := hh; exact h _ h2)
  | halt x w' => simp only [Oper.stillUpon] at hh

theorem stOp_wp {r : Option Nat} {i : Nat} {a : Act} {w : World} {K : Act → Prop} {K' : Act → World → Prop} (hD : NoDef ops.toList) (h : ∀ a, K a → K' a w) (hh : stOp P ops w i K a) : wpOpIn (wideAt r) 0 P ops Q i K' a w := by
  unfold stOp at hh
  unfold wpOpIn
  split
  · rename_i ho; simp only [ho] at hh; exact h _ hh
  · rename_i o ho
    simp only [ho] at hh
    have hnd := hD o (List.mem_of_getElem? (by simpa using ho))
    split
    · rename_i hw; simp only [hw, if_true] at hh; exact still_wp hnd h hh
    · rename_i hw; simp only [hw] at hh; exact ⟨about_wide, h _ hh⟩

theorem anyS_wp {r : Option Nat} {w : World} {Q0 : Act → Prop} (hD : NoDef ops.toList) (hQ : ∀ a, Q0 a → Q .normal a w) : ∀ (fuel : Nat) (listed : Array Bool) (a : Act),
    wpAnyS P .any ops w Q0 fuel listed a → wpAnyIn (wideAt r) 0 P .any ops Q fuel listed a w
  | 0, _, _, h => ⟨h.1, hQ _ h.2⟩
  | fuel + 1, _, _, h => ⟨fun h0 => hQ _ (h.1 h0), fun i hi => stOp_wp hD (fun a' => anyS_wp hD hQ fuel _ a') (h.2 i hi)⟩

theorem anyL_wp {r : Option Nat} {w : World} {n g : Nat} {L : Array Bool → Act → Prop} (hD : NoDef ops.toList) (hL : ∀ listed a, L listed a → wpAnyIn (wideAt r) 0 P .any ops Q g listed a w) :
    ∀ (f : Nat) (listed : Array Bool) (a : Act), wpAnyL P .any ops w n L f listed a → wpAnyIn (wideAt r) 0 P .any ops Q (f + g) listed a w
  | 0, listed, a, h => by rw [Nat.zero_add]; exact hL _ _ h
  | f + 1, listed, a, h => by
    rw [show f + 1 + g = (f + g) + 1 by omega]
    exact ⟨fun h0 => absurd h0 h.1, fun i hi => stOp_wp hD (fun a' h' => anyL_wp hD hL f _ a' h') (h.2 i hi).2⟩

theorem seq_wp {r : Option Nat} : ∀ (l : List Oper) (k : Nat) (listed : Array Bool) (a : Act) (w : World), (∀ j, l[j]? = ops[k + j]?) →
    Region.seqB .any ops l.length k listed = true → wpListIn (wideAt r) 0 P ops Q l a w → wpAnyIn (wideAt r) 0 P .any ops Q l.length listed a w
  | [], _, _, _, _, _, hB, h => ⟨by simpa [Region.seqB] using hB, h⟩
  | o :: l, k, listed, a, w, hl, hB, h => by
    have h0 : ops[k]? = some o := by simpa using (hl 0).symm
    simp only [List.length_cons, Region.seqB, Bool.and_eq_true, decide_eq_true_eq] at hB
    refine ⟨fun h1 => (by rw [hB.1] at h1; cases h1), fun i hi => ?_⟩
    rw [hB.1] at hi
    have hik : i = k := by simpa using hi
    subst hik
    have hw : wpOpIn (wideAt r) 0 P ops Q i (wpListIn (wideAt r) 0 P ops Q l) a w := by unfold wpOpIn; simp only [h0]; exact h
    exact wpOpIn_mono (fun a' w' h' => seq_wp l (i + 1) _ a' w' (fun j => by have := hl (j + 1); simpa [Nat.add_assoc, Nat.add_comm 1 j] using this) hB.2 h') hw

theorem region_still {r : Option Nat} {id : Nat} {a : Act} {w : World} (hD : NoDef ops.toList) (hm : P.follows .mixedOrders = true) (hB : Region.lexB .any ops = true)
    (h : wpStill P ops { w with drawn := w.drawn + 1 } (fun a' => Q .normal a' { w with drawn := w.drawn + 1 }) ops.toList a) : (Code.region id ops true).wpIn (wideAt r) 0 P Q a w := by
  simp only [Region.lexB, Bool.and_eq_true] at hB
  refine wpIn_region_any hm (anyS_wp (Q0 := fun a' => Q .normal a' { w with drawn := w.drawn + 1 }) hD (fun _ h => h) _ _ _ ?_)
  have := wpAnyS_lex (md := .any) hB.1 ops.toList 0 (Array.replicate ops.size false) a (by simp) (by simpa using hB.2) h
  simpa using this

theorem region_tail {r : Option Nat} {id : Nat} {a : Act} {w : World} {l : List Oper} (hD : NoDef l) (n : Nat) (hm : P.follows .mixedOrders = true) (hB : Region.lexTailB .any l.toArray n = true)
    (h : wpStill P l.toArray { w with drawn := w.drawn + 1 } (fun a' => wpListIn (wideAt r) 0 P l.toArray Q (l.drop n) a' { w with drawn := w.drawn + 1 }) (l.take n) a) : (Code.region id l.toArray true).wpIn (wideAt r) 0 P Q a w := by
  simp only [Region.lexTailB, Bool.and_eq_true, decide_eq_true_eq] at hB
  obtain ⟨⟨⟨⟨hsel, hn⟩, hs⟩, hc⟩, hlex⟩ := hB
  have hn' : n < l.length := by simpa using hn
  have htl : (l.take n).length = n := by simp; omega
  have hdl : (l.drop n).length = l.toArray.size - n := by simp
  have inv0 : HeadInv .any l.toArray n (Array.replicate l.toArray.size false) :=
    ⟨by simp, fun j oj _ hl => (by rw [getD_replicate_false] at hl; cases hl), fun t _ ht => getD_in (by simpa using ht) (getD_replicate_false _ _)⟩
  have H := wpAnyL_lex (md := .any) (g := l.toArray.size - n) hsel hs hc hn (l.take n) 0 _ a (fun j hj => by
    have hj' : j < n := by rw [htl] at hj; exact hj
    simp [hj']) (by simpa using htl) inv0 (by rw [htl]; exact hlex) h
  refine wpIn_region_any hm ?_
  have := anyL_wp (r := r) (Q := Q) (g := l.toArray.size - n) (by simpa using hD) (fun listed a' hL => by
    have := seq_wp (r := r) (Q := Q) (l.drop n) n listed a' { w with drawn := w.drawn + 1 } (fun j => by simp [List.getElem?_drop]) (by rw [hdl]; exact hL.1) hL.2
    rwa [hdl] at this) _ _ _ H
  rw [htl, show n + (l.toArray.size - n) = l.toArray.size by omega] at this
  exact this

theorem softPre_take : ∀ (l : List Oper), ∀ o ∈ l.take (softPre P l), softB P o = true
  | [], o, h => by simp at h
  | x :: r, o, h => by
    unfold softPre at h
    split at h
    · rename_i hx
      rw [List.take_succ_cons] at h
      cases h with
      | head => exact hx
      | tail _ h => exact softPre_take r o h
    · simp at h

theorem beqL_eq : ∀ {a b : List Nat}, beqL a b = true → a = b
  | [], [], _ => rfl
  | [], _ :: _, h => (by cases h)
  | _ :: _, [], h => (by cases h)
  | a :: x, b :: y, h => by
    simp only [beqL, Bool.and_eq_true] at h
    rw [Nat.eq_of_beq_eq_true h.1, beqL_eq h.2]

theorem dRegion_wp {r : Option Nat} (hN : NoNG P) (hm : P.follows .mixedOrders = true) {an : An} {id : Nat} {dr : Bool} {K : Fr → World → Prop} {a : Act} {fr : Fr} {w : World} (hF : Fit a.tmps.size ops.toList) (hD : NoDef ops.toList)
    (hpl : drOK dr (planOK P ops an) = true) (hp : ∀ c a w, ¬ Q (.panic c) a w)
    (hQ : ∀ fr' a' w', Agrees fr' a'.tmps → Keep (writesOps ops.toList) a a' → K fr' w' → Q .normal a' w') (ha : Agrees fr a.tmps) (h : dRegion P an ops dr fr K w) : (Code.region id ops dr).wpIn (wideAt r) 0 P Q a w := by
  unfold dRegion at h
  split at h
  · exact wpIn_region_list (dOps_wp hN hF hD hQ ops.toList fr a w (fun _ h => h) ha (.refl _ _) h)
  · simp only [drOK] at hpl
    split at h
    · simp only [planOK, Bool.or_eq_true, Bool.and_eq_true, List.all_eq_true] at hpl
      obtain ⟨h⟩ := h
      rcases hpl with hb | hb
      · refine region_still hD hm hb.2 ?_
        exact dOps_still hF (fun a' => Q .normal a' { w with drawn := w.drawn + 1 }) ops.toList [] fr a hb.1 (fun _ h => h) ha (.refl _ _) (by simpa using h)
          fun fr' a' ha' hk' h' => hQ fr' a' _ ha' hk' h'
      · have hb' : Region.lexTailB .any ops.toList.toArray (softPre P ops.toList) = true := by simpa using hb
        have := region_tail (r := r) (P := P) (id := id) (Q := Q) (a := a) (w := w) (l := ops.toList) hD (softPre P ops.toList) hm hb' ?_
        · simpa using this
        · simp only [Array.toArray_toList]
          refine dOps_still hF _ (ops.toList.take (softPre P ops.toList)) (ops.toList.drop (softPre P ops.toList)) fr a (softPre_take _) (fun o h => List.mem_of_mem_take h) ha (.refl _ _) (by rw [List.take_append_drop]; exact h) ?_
          intro fr' a' ha' hk' h'
          exact dOps_wp hN hF hD hQ _ fr' a' _ (fun o h => List.mem_of_mem_drop h) ha' hk' h'
    · rename_i l ys
      simp only [planOK, Bool.and_eq_true] at hpl
      obtain ⟨⟨hsel, hc⟩, hy⟩ := hpl
      have hsy : ∀ y, memL ys y = true → y ∈ ([] : List Nat) ∨ syncY P ops (ancs ops (20 * ops.size) (depsOf ops y) []) y l = true := fun y hm => .inr (List.all_eq_true.1 hy y (memL_iff.1 hm))
      split at hc
      · rename_i l' hl
        have := beqL_eq hc
        subst this
        obtain ⟨S, h⟩ := h
        obtain ⟨h⟩ := h
        refine wpIn_region_any hm (wpAny_of_X _ _ _ _ _ (dHeld_wp hN hsel hD hF hp hQ ys _ S _ l [] fr a _ hl hsy (fun t o _ ht => ?_) (fun t => ?_) (by simp) h.cond ha (.refl _ _) h.next))
        all_goals
          rcases Nat.lt_or_ge t ops.size with h' | h'
          · simp_all
          · simp_all [show ¬ t < ops.size by omega]
      · cases hc
    · cases h

end
end Go.Proofs.Ytohoimokfgfceaa.K
