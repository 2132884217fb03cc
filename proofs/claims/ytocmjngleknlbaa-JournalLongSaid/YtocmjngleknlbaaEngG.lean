/-
  What the plain meaning tells holds of the model's runs: regions.
-/
import Derived.Test.YtocmjngleknlbaaEngE
import Derived.Tactics
import Derived.Deep.LoopGhost
namespace Go.Proofs.Ytocmjngleknlbaa.K
open Go
section
variable {P : Program} {S : World → Prop} {Q : Exit → Act → World → Prop} {ops : Array Oper}

theorem want_yes {o : Oper} {fr : Fr} {a : Act} (ha : Agrees fr a.tmps) (h : wantF ops.toList o fr = some .yes) : Region.wanted o (yielded ops a.tmps) = true := by
  unfold wantF at h
  unfold Region.wanted
  cases hg : o.guard with
  | none => rfl
  | some jw =>
    obtain ⟨j, want⟩ := jw
    simp only [hg] at h ⊢
    split at h
    · rename_i g hj
      split at h
      · rename_i d hd
        split at h
        · rename_i b hb
          have hv := ha _ _ hb
          have hy : yielded ops a.tmps j = some b := by
            have hj' : ops[j]? = some g := by simpa using hj
            simp [yielded, hj', hd, hv, SV.v, S1.v]
          rw [hy]
          split at h <;> first | rfl | (cases h; done)
        · cases h
        · cases h
        · cases h
      · cases h
    · cases h

theorem want_no {o : Oper} {fr : Fr} {a : Act} (ha : Agrees fr a.tmps) (h : wantF ops.toList o fr = some .no) : Region.wanted o (yielded ops a.tmps) = false := by
  unfold wantF at h
  unfold Region.wanted
  cases hg : o.guard with
  | none => simp only [hg] at h; cases h
  | some jw =>
    obtain ⟨j, want⟩ := jw
    simp only [hg] at h ⊢
    split at h
    · rename_i g hj
      have hj' : ops[j]? = some g := by simpa using hj
      split at h
      · rename_i d hd
        split at h
        · rename_i b hb
          have hv := ha _ _ hb
          have hy : yielded ops a.tmps j = some b := by simp [yielded, hj', hd, hv, SV.v, S1.v]
          rw [hy]
          split at h
          · cases h
          · cases h
          · rename_i h1 h2
            cases b <;> cases want <;> first | rfl | (exact absurd rfl (h1 rfl)) | (exact absurd rfl (h2 rfl)) | (exact (h1 rfl rfl).elim) | (exact (h2 rfl rfl).elim)
        · cases h
        · rename_i hb
          have hv := ha _ _ hb
          have hy : yielded ops a.tmps j = none := by simp [yielded, hj', hd, hv, SV.v, S1.v, Go.undef]
          rw [hy]; rfl
        · cases h
      · cases h
    · cases h

theorem want_ask {o : Oper} {fr : Fr} {a : Act} {b : Bool} (ha : Agrees fr a.tmps) (h : wantF ops.toList o fr = some (.ask b)) :
    fr.get (guardSlot ops.toList o) = some (.s (.bool b)) ∧ Region.wanted o (yielded ops a.tmps) = (b == guardWant o) := by
  unfold wantF at h
  unfold Region.wanted guardSlot guardWant
  cases hg : o.guard with
  | none => simp only [hg] at h; cases h
  | some jw =>
    obtain ⟨j, want⟩ := jw
    simp only [hg] at h ⊢
    split at h
    · rename_i g hj
      have hj' : ops[j]? = some g := by simpa using hj
      split at h
      · rename_i d hd
        split at h
        · split at h <;> cases h
        · rename_i b' hb
          cases h
          have hv := ha _ _ hb
          have hy : yielded ops a.tmps j = some b := by simp [yielded, hj', hd, hv, SV.v, S1.v]
          rw [hy]
          exact ⟨by simp only [hj, hd, Option.getD_some]; exact hb, by cases b <;> cases want <;> rfl⟩
        · cases h
        · cases h
      · cases h
    · cases h

/-- carried out, or not -/
theorem dOp_cases {o : Oper} {fr : Fr} {a : Act} {K N : Fr → World → Prop} {w : World} (ha : Agrees fr a.tmps) (h : dOp P S ops.toList o fr K N w) :
    (Region.wanted o (yielded ops a.tmps) = true ∧ ∃ fr', Agrees fr' a.tmps ∧ dOp1 P S o fr' K w) ∨
    (Region.wanted o (yielded ops a.tmps) = false ∧ ∃ fr', Agrees fr' a.tmps ∧ N (fr'.put o.dst (.s .undef)) w) := by
  unfold dOp at h
  split at h
  · rename_i hw; exact .inl ⟨want_yes ha hw, fr, ha, h⟩
  · rename_i hw; exact .inr ⟨want_no ha hw, fr, ha, h⟩
  · rename_i b hw
    obtain ⟨hb, hq⟩ := want_ask ha hw
    have hset : ∀ c, b = c → Agrees (fr.set (guardSlot ops.toList o) (some (.s (.lit c)))) a.tmps := fun c hc => ha.set _ hb (by subst hc; rfl)
    rw [hq]
    split at h
    · rename_i hg
      rw [hg]
      cases b
      · exact .inr ⟨rfl, _, hset false rfl, h.no rfl⟩
      · exact .inl ⟨rfl, _, hset true rfl, h.yes rfl⟩
    · rename_i hg
      rw [hg]
      cases b
      · exact .inl ⟨rfl, _, hset false rfl, h.no rfl⟩
      · exact .inr ⟨rfl, _, hset true rfl, h.yes rfl⟩
  · cases h

/-- what is not written stays -/
def Keep (ws : List Nat) (a a' : Act) : Prop := a'.defers = a.defers ∧ a'.tmps.size = a.tmps.size ∧ ∀ i, i ∉ ws → a'.tmps[i]? = a.tmps[i]?

theorem Keep.refl (ws : List Nat) (a : Act) : Keep ws a a := ⟨rfl, rfl, fun _ _ => rfl⟩

theorem mem_addN {l : List Nat} {x y : Nat} : y ∈ addN l x ↔ y = x ∨ y ∈ l := by
  unfold addN
  split
  · rename_i h
    have : x ∈ l := by simpa using h
    constructor
    · exact .inr
    · rintro (rfl | h) <;> assumption
  · simp

theorem mem_uni {a b : List Nat} {x : Nat} : x ∈ uni a b ↔ x ∈ a ∨ x ∈ b := by
  unfold uni
  induction a generalizing b with
  | nil => simp
  | cons y r ih =>
    rw [List.foldl_cons, ih, mem_addN, List.mem_cons]
    constructor
    · rintro (h | h | h)
      · exact .inl (.inr h)
      · exact .inl (.inl h)
      · exact .inr h
    · rintro ((h | h) | h)
      · exact .inr (.inl h)
      · exact .inl h
      · exact .inr (.inr h)

theorem Keep.trans {ws vs us : List Nat} {a b c : Act} (h1 : Keep ws a b) (h2 : Keep vs b c) (hw : ∀ i, i ∈ ws → i ∈ us) (hv : ∀ i, i ∈ vs → i ∈ us) : Keep us a c :=
  ⟨h2.1.trans h1.1, h2.2.1.trans h1.2.1, fun i hi => (h2.2.2 i fun h => hi (hv i h)).trans (h1.2.2 i fun h => hi (hw i h))⟩

theorem Keep.put {ws : List Nat} {a : Act} {d : Option Tmp} {v : Value} (h : ∀ x, d = some x → x ∈ ws) : Keep ws a (a.put d v) := by
  cases d with
  | none => exact .refl _ _
  | some d =>
    refine ⟨rfl, by simp [Act.put], fun i hi => ?_⟩
    have : i ≠ d := fun he => hi (he ▸ h d rfl)
    simp [Act.put, Array.getElem?_setIfInBounds_ne (Ne.symm this)]

theorem mem_writesOps {l : List Oper} {o : Oper} {d : Nat} (h : o ∈ l) (hd : o.dst = some d) : d ∈ writesOps l := by
  induction l with
  | nil => cases h
  | cons x r ih =>
    rw [writesOps]
    rcases List.mem_cons.1 h with h | h
    · subst h
      rw [hd]
      exact mem_addN.2 (.inl rfl)
    · cases hx : x.dst with
      | none => exact ih h
      | some e => exact mem_addN.2 (.inr (ih h))

/-- what is written lies in the frame -/
def Fit (n : Nat) (l : List Oper) : Prop := ∀ o ∈ l, ∀ d, o.dst = some d → d < n

/-- nothing is deferred -/
def NoDef (l : List Oper) : Prop := ∀ o ∈ l, ∀ c, o.op ≠ .defer c

/-- one operation, carried out -/
theorem dOp1_wp {r : Option Nat} (hN : NoNG P) {o : Oper} {fr : Fr} {a : Act} {K : Fr → World → Prop} {w : World} {next : Act → World → Prop} (hnd : ∀ c, o.op ≠ .defer c) (ha : Agrees fr a.tmps) (hd : ∀ d, o.dst = some d → d < a.tmps.size) (hS : S w) (h : dOp1 P S o fr K w)
    (hn : ∀ v fr' w', Agrees fr' (a.put o.dst v).tmps → K fr' w' → next (a.put o.dst v) w') : o.wpIn (wideAt r) 0 P a w next Q := by
  unfold dOp1 at h
  split at h
  · obtain ⟨sv, h1, h2⟩ := sOp_run ha h
    exact wp_of_value hnd (h1 w hS) (hn _ _ _ (ha.put _ _ hd) h2)
  · exact lOp_wp hN ha h fun sv w' hk => hn _ _ _ (ha.put _ _ hd) hk

theorem dOps_wp {r : Option Nat} (hN : NoNG P) {K : Fr → World → Prop} {a0 : Act} (hF : Fit a0.tmps.size ops.toList) (hD : NoDef ops.toList) (hQ : ∀ fr a w, Agrees fr a.tmps → Keep (writesOps ops.toList) a0 a → K fr w → Q .normal a w) :
    ∀ (l : List Oper) (fr : Fr) (a : Act) (w : World), (∀ o ∈ l, o ∈ ops.toList) → Agrees fr a.tmps → Keep (writesOps ops.toList) a0 a → dOps P ops.toList l fr K w → wpListIn (wideAt r) 0 P ops Q l a w
  | [], fr, a, w, _, ha, hk, h => hQ fr a w ha hk h
  | o :: l, fr, a, w, hl, ha, hk, h => by
    rw [dOps_cons] at h
    have hput : ∀ v, Keep (writesOps ops.toList) a0 (a.put o.dst v) := fun v =>
      hk.trans (Keep.put fun x hx => mem_writesOps (hl o List.mem_cons_self) hx) (fun _ h => h) (fun _ h => h)
    have hr : ∀ o ∈ l, o ∈ ops.toList := fun o h => hl o (List.mem_cons_of_mem _ h)
    have hd : ∀ d, o.dst = some d → d < a.tmps.size := fun d h => hk.2.1 ▸ hF o (hl o List.mem_cons_self) d h
    simp only [wpListIn]
    rcases dOp_cases ha h with ⟨hw, fr', ha', h⟩ | ⟨hw, fr', ha', h⟩
    · rw [hw, if_pos rfl]
      exact dOp1_wp (S := fun w' => w' = w) hN (hD o (hl o List.mem_cons_self)) ha' hd rfl h fun v fr'' w' ha'' hk' => dOps_wp hN hF hD hQ l fr'' _ w' hr ha'' (hput v) hk'
    · rw [hw]
      simp only [Bool.false_eq_true, if_false]
      exact ⟨about_wide, dOps_wp hN hF hD hQ l _ _ w hr (ha'.put _ _ hd) (hput _) h⟩

theorem dOps_still {K : Fr → World → Prop} {a0 : Act} (hF : Fit a0.tmps.size ops.toList) {w : World} (R : Act → Prop) :
    ∀ (l r : List Oper) (fr : Fr) (a : Act), (∀ o ∈ l, softB P o = true) → (∀ o ∈ l, o ∈ ops.toList) → Agrees fr a.tmps → Keep (writesOps ops.toList) a0 a → dOps P ops.toList (l ++ r) fr K w →
      (∀ fr a, Agrees fr a.tmps → Keep (writesOps ops.toList) a0 a → dOps P ops.toList r fr K w → R a) → wpStill P ops w R l a
  | [], r, fr, a, _, _, ha, hk, h, hR => hR fr a ha hk h
  | o :: l, r, fr, a, hs, hl, ha, hk, h, hR => by
    rw [List.cons_append, dOps_cons] at h
    have hput : ∀ v, Keep (writesOps ops.toList) a0 (a.put o.dst v) := fun v =>
      hk.trans (Keep.put fun x hx => mem_writesOps (hl o List.mem_cons_self) hx) (fun _ h => h) (fun _ h => h)
    have hd : ∀ d, o.dst = some d → d < a.tmps.size := fun d h => hk.2.1 ▸ hF o (hl o List.mem_cons_self) d h
    have ih := fun fr a => dOps_still (K := K) (a0 := a0) hF (w := w) R l r fr a (fun o h => hs o (List.mem_cons_of_mem _ h)) (fun o h => hl o (List.mem_cons_of_mem _ h))
    simp only [wpStill]
    rcases dOp_cases ha h with ⟨hw, fr', ha', h⟩ | ⟨hw, fr', ha', h⟩
    · rw [hw, if_pos rfl]
      unfold dOp1 at h
      rw [hs o List.mem_cons_self] at h
      obtain ⟨sv, h1, h2⟩ := sOp_run ha' h
      unfold Oper.still
      rw [h1 w rfl]
      exact ⟨rfl, ih _ _ (ha'.put _ _ hd) (hput _) h2 hR⟩
    · rw [hw]
      simp only [Bool.false_eq_true, if_false]
      exact ih _ _ (ha'.put _ _ hd) (hput _) h hR

theorem memL_iff {l : List Nat} {x : Nat} : memL l x = true ↔ x ∈ l := by
  induction l with
  | nil => simp [memL]
  | cons y r ih =>
    simp only [memL, List.mem_cons]
    by_cases h : x = y
    · subst h; simp
    · have : Nat.beq x y = false := by
        cases hb : Nat.beq x y with
        | false => rfl
        | true => exact absurd (Nat.eq_of_beq_eq_true hb) h
      simp [this, ih, h]

/-- whatever order is picked from here on; what is read is read in worlds that meet S, which is chosen anew behind those of 'ys' -/
def wpAnyX (r : Option Nat) (P : Program) (ops : Array Oper) (Q : Exit → Act → World → Prop) (ys : List Nat) : Nat → (World → Prop) → Array Bool → Act → World → Prop
  | 0, _, listed, a, w => Region.ready .any ops listed = [] ∧ Q .normal a w
  | fuel + 1, S, listed, a, w =>
    (Region.ready .any ops listed = [] → Q .normal a w) ∧
    ∀ i ∈ Region.ready .any ops listed, wpOpIn (wideAt r) 0 P ops Q i (fun a' w' => ∃ S', (memL ys i = false → ∀ w, S' w → S w) ∧ S' w' ∧ wpAnyX r P ops Q ys fuel S' (listed.setIfInBounds i true) a' w') a w

theorem _root_.Go.YieldsIf.weaken {P : Program} {ops : Array Oper} {S S' : World → Prop} {o : Oper} {v : Value} {a : Act} (h : YieldsIf P ops S o v a) (hs : ∀ w, S' w → S w) : YieldsIf P ops S' o v a :=
  h.imp (fun ⟨h1, h2⟩ => ⟨h1, fun w hw => h2 w (hs w hw)⟩) id

theorem wpAny_of_X {r : Option Nat} {ys : List Nat} : ∀ (fuel : Nat) (S : World → Prop) (listed : Array Bool) (a : Act) (w : World), wpAnyX r P ops Q ys fuel S listed a w → wpAnyIn (wideAt r) 0 P .any ops Q fuel listed a w
  | 0, _, _, _, _, h => h
  | fuel + 1, _, _, _, _, h => ⟨h.1, fun i hi => wpOpIn_mono (fun a' w' ⟨S', _, _, h'⟩ => wpAny_of_X fuel S' _ a' w' h') (h.2 i hi)⟩

theorem yieldsIf_wpOp {r : Option Nat} {i : Nat} {o : Oper} {v : Value} {a : Act} (hnd : ∀ c, o.op ≠ .defer c) (hi : ops[i]? = some o) (hy : YieldsIf P ops S o v a)
    {K : Act → World → Prop} {w : World} (hS : S w) (h : K (a.put o.dst v) w) : wpOpIn (wideAt r) 0 P ops Q i K a w := by
  unfold Go.wpOpIn
  simp only [hi]
  rcases hy with ⟨hw, hv⟩ | ⟨hw, rfl⟩
  · rw [hw, if_pos rfl]; exact wp_of_value hnd (hv w hS) h
  · rw [hw]; simp only [Bool.false_eq_true, if_false]; exact ⟨about_wide, h⟩

theorem wpOp_putX {r : Option Nat} {j : Nat} {oi oj : Oper} {v : Value} (hnd : ∀ c, oj.op ≠ .defer c) (hj : ops[j]? = some oj) (hap : oi.apart ops oj = true)
    (hsi : ∀ cs b, oi.op ≠ .select cs b) (hsj : ∀ cs b, oj.op ≠ .select cs b)
    (hQ : ∀ c a w, Q (.panic c) (a.put oi.dst v) w → Q (.panic c) a w) {K : Act → World → Prop} {a : Act} {w : World}
    (hy : YieldsIf P ops S oi v a) (h : wpOpIn (wideAt r) 0 P ops Q j K (a.put oi.dst v) w) :
    wpOpIn (wideAt r) 0 P ops Q j (fun a' w' => YieldsIf P ops S oi v a' ∧ K (a'.put oi.dst v) w') a w := by
  obtain ⟨h1, h2, h3⟩ := Oper.apart_spec hap
  have keep : ∀ (a : Act), YieldsIf P ops S oi v a → ∀ u, YieldsIf P ops S oi v (a.put oj.dst u) := fun a hy u =>
    hy.of_same (execOp_put oi hsi a oj.dst u h3) (wanted_put oi a oj.dst u h3)
  have keepD : ∀ d, YieldsIf P ops S oi v { a with defers := d :: a.defers } := fun d => hy.of_same rfl rfl
  unfold wpOpIn at *
  simp only [hj] at *
  rw [wanted_put oj a oi.dst v h1] at h
  split
  · rename_i hw
    simp only [hw, if_true] at h
    refine ⟨about_wide, ?_⟩
    have h := h.2
    rw [Oper.semAt_eq _ _ _ hnd, execOp_put oj hsj a oi.dst v h1] at h
    rw [Oper.semAt_eq _ _ _ hnd]
    generalize (execOp a.eval oj).run P w = q at *
    cases q with
    | ok n w' =>
      cases n <;> simp only [Oper.uponIn] at h ⊢
      case value u => exact ⟨keep a hy u, by rw [← Act.put_comm a v u h2]; exact h⟩
      case skip => exact ⟨keep a hy _, by rw [← Act.put_comm a v undef h2]; exact h⟩
      case defer d =>
        refine ⟨keep _ (keepD d) _, ?_⟩
        rw [← Act.put_comm _ v undef h2, ← Act.put_defers]
        exact h
      case enter f args =>
        refine ⟨h.1, CallsIn.mono h.2 fun e w'' he => ?_⟩
        cases e with
        | returned u => exact ⟨keep a hy u, by rw [← Act.put_comm a v u h2]; exact he⟩
        | panicked c => exact hQ _ _ _ he
        | outgrown => exact he
      case row row args => exact ⟨h.1, RowsIn.mono h.2 fun u w'' he => ⟨keep a hy u, by rw [← Act.put_comm a v u h2]; exact he⟩⟩
      case round l f tmps assign body =>
        refine ⟨h.1, RoundIn.mono h.2 fun e w'' he => ?_⟩
        cases e with
        | returned u => exact ⟨keep a hy u, by rw [← Act.put_comm a v u h2]; exact he⟩
        | panicked c => exact hQ _ _ _ he
        | outgrown => exact he
    | halt x w' =>
      cases x <;> simp only [Oper.uponIn] at h ⊢
      case panic u => exact hQ _ _ _ h
  · rename_i hw
    simp only [hw] at h
    exact ⟨about_wide, keep a hy _, by rw [← Act.put_comm a v undef h2]; exact h.2⟩

theorem wpAnyX_done {r : Option Nat} {ys : List Nat} {S : World → Prop} {listed : Array Bool} {a : Act} {w : World} (hr : Region.ready .any ops listed = []) (h : Q .normal a w) :
    ∀ fuel, wpAnyX r P ops Q ys fuel S listed a w
  | 0 => ⟨hr, h⟩
  | _ + 1 => ⟨fun _ => h, by rw [hr]; simp⟩

theorem getD_le {listed : Array Bool} {j : Nat} (h : listed.getD j true = false) : listed.getD j false = false := by
  rcases Nat.lt_or_ge j listed.size with h' | h'
  · simp [h'] at h ⊢; exact h
  · simp [Array.getElem?_eq_none h'] at h

/-- what has come up had all that it waits for come up -/
def Closed (ops : Array Oper) (listed : Array Bool) : Prop := ∀ t o, ops[t]? = some o → listed.getD t false = true → ∀ e ∈ o.after, Region.binds .any e = true → listed.getD e.on false = true

theorem Closed.step {listed : Array Bool} (h : Closed ops listed) {j : Nat} (hj : j ∈ Region.ready .any ops listed) : Closed ops (listed.setIfInBounds j true) := by
  obtain ⟨_, o, ho, hall⟩ := mem_ready.1 hj
  intro t o' ho' ht e he hb
  by_cases hjt : j = t
  · subst hjt
    rw [ho] at ho'
    cases ho'
    exact getD_set_true (hall e he hb)
  · rw [getD_set_ne false hjt] at ht
    exact getD_set_true (h t o' ho' ht e he hb)

theorem deps_listed {listed : Array Bool} (h : Closed ops listed) {t x : Nat} (ht : listed.getD t false = true) (hx : x ∈ depsOf ops t) : listed.getD x false = true := by
  unfold depsOf at hx
  split at hx
  · rename_i o ho
    obtain ⟨e, he, rfl⟩ := List.mem_map.1 hx
    obtain ⟨h1, h2⟩ := List.mem_filter.1 he
    exact h t o ho ht e (by simpa using h1) h2
  · cases hx

theorem ancs_listed {listed : Array Bool} (h : Closed ops listed) : ∀ (n : Nat) (todo seen : List Nat), (∀ x ∈ todo, listed.getD x false = true) → (∀ x ∈ seen, listed.getD x false = true) → ∀ x ∈ ancs ops n todo seen, listed.getD x false = true
  | 0, _, _, _, hs => hs
  | _ + 1, [], _, _, hs => hs
  | n + 1, x :: r, seen, ht, hs => by
    unfold ancs
    split
    · exact ancs_listed h n r seen (fun y hy => ht y (.tail _ hy)) hs
    · refine ancs_listed h n _ _ (fun y hy => ?_) fun y hy => ?_
      · rcases List.mem_append.1 hy with hy | hy
        · exact deps_listed h (ht x (.head _)) hy
        · exact ht y (.tail _ hy)
      · rcases List.mem_cons.1 hy with rfl | hy
        · exact ht _ (.head _)
        · exact hs y hy

/-- what may come up before one that has not is none of 'ys' that has not -/
theorem not_sync {ys : List Nat} {i j : Nat} {listed0 listed : Array Bool} (hc : Closed ops listed)
    (hY : ∀ y, memL ys y = true → listed0.getD y false = true ∨ y = i ∨ i ∈ ancs ops (20 * ops.size) (depsOf ops y) []) (hl : ∀ t, listed0.getD t false = true → listed.getD t false = true)
    (hi : listed.getD i true = false) (hj : j ∈ Region.ready .any ops listed) (hji : j ≠ i) : memL ys j = false := by
  obtain ⟨hun, o, ho, hall⟩ := mem_ready.1 hj
  cases hy : memL ys j with
  | false => rfl
  | true =>
    rcases hY j hy with h1 | h1 | h1
    · have h1 := hl j h1
      rw [getD_le hun] at h1
      cases h1
    · exact absurd h1 hji
    · have h2 := ancs_listed hc _ _ [] (fun x hx => ?_) (fun x hx => by cases hx) i h1
      · rw [getD_le hi] at h2
        cases h2
      · unfold depsOf at hx
        rw [ho] at hx
        obtain ⟨e, he, rfl⟩ := List.mem_map.1 hx
        obtain ⟨h1, h2⟩ := List.mem_filter.1 he
        exact hall e (by simpa using h1) h2

theorem wpAnyX_first {r : Option Nat} {ys : List Nat} {i : Nat} {oi : Oper} {v : Value} (hi : ops[i]? = some oi) (hsel : ∀ (j : Nat) (o : Oper) cs b, ops[j]? = some o → o.op ≠ .select cs b) (hdf : ∀ (j : Nat) (o : Oper) c, ops[j]? = some o → o.op ≠ .defer c)
    (hQ : ∀ c a w, Q (.panic c) (a.put oi.dst v) w → Q (.panic c) a w) {listed0 : Array Bool}
    (hY : ∀ y, memL ys y = true → listed0.getD y false = true ∨ y = i ∨ i ∈ ancs ops (20 * ops.size) (depsOf ops y) []) :
    ∀ (fuel : Nat) (S : World → Prop) (listed : Array Bool) (a : Act) (w : World), Closed ops listed → (∀ t, listed0.getD t false = true → listed.getD t false = true) →
      (∀ j oj, ops[j]? = some oj → j ≠ i → listed.getD j true = false → (∀ e ∈ oj.after, Region.binds .any e = true → e.on ≠ i) → oi.apart ops oj = true) →
      i ∈ Region.ready .any ops listed → YieldsIf P ops S oi v a → S w →
      wpAnyX r P ops Q ys fuel S (listed.setIfInBounds i true) (a.put oi.dst v) w → wpAnyX r P ops Q ys (fuel + 1) S listed a w := by
  intro fuel
  induction fuel with
  | zero =>
    intro S listed a w _ _ _ hr hy hS H
    refine ⟨fun h => (by rw [h] at hr; cases hr), fun j hj => ?_⟩
    by_cases hji : j = i
    · subst hji; exact yieldsIf_wpOp (fun c => hdf _ _ c hi) hi hy hS ⟨S, fun _ _ h => h, hS, H⟩
    · have := ready_mono hj hji
      rw [H.1] at this
      cases this
  | succ fuel ih =>
    intro S listed a w hsub hl hfree hr hy hS H
    refine ⟨fun h => (by rw [h] at hr; cases hr), fun j hj => ?_⟩
    by_cases hji : j = i
    · subst hji; exact yieldsIf_wpOp (fun c => hdf _ _ c hi) hi hy hS ⟨S, fun _ _ h => h, hS, H⟩
    · have h1 := H.2 j (ready_mono hj hji)
      have hns := not_sync hsub hY hl (mem_ready.1 hr).1 hj hji
      obtain ⟨hjun, oj, hoj, hall⟩ := mem_ready.1 hj
      have hnot : ∀ e ∈ oj.after, Region.binds .any e = true → e.on ≠ i := fun e he hb heq => by
        have h1 := hall e he hb
        have h0 := (mem_ready.1 hr).1
        rw [heq] at h1
        rw [getD_le h0] at h1
        cases h1
      have h2 := wpOp_putX (fun c => hdf _ _ c hoj) hoj (hfree j oj hoj hji hjun hnot) (fun cs b => hsel i oi cs b hi) (fun cs b => hsel j oj cs b hoj) hQ hy h1
      have hfree' : ∀ k ok, ops[k]? = some ok → k ≠ i → (listed.setIfInBounds j true).getD k true = false →
          (∀ e ∈ ok.after, Region.binds .any e = true → e.on ≠ i) → oi.apart ops ok = true := fun k ok hk hki hun hno => by
        refine hfree k ok hk hki ?_ hno
        by_cases hjk : j = k
        · subst hjk; exact hjun
        · rw [getD_set_ne true hjk] at hun; exact hun
      refine wpOpIn_mono (fun a' w' h3 => ?_) h2
      obtain ⟨h4, S', h5, h6, h7⟩ := h3
      have h5 := h5 hns
      refine ⟨S', fun _ => h5, h6, ih S' (listed.setIfInBounds j true) a' w' (hsub.step hj) (fun t ht => getD_set_true (hl t ht)) hfree' (ready_mono hr (Ne.symm hji)) (h4.weaken h5) h6 ?_⟩
      rw [Array.setIfInBounds_comm _ _ hji]
      exact h7

theorem dHeld_wp {r : Option Nat} (hN : NoNG P) (hsel : Region.noSelect ops = true) (hD : NoDef ops.toList) {K : Fr → World → Prop} {a0 : Act} (hF : Fit a0.tmps.size ops.toList) (hp : ∀ c a w, ¬ Q (.panic c) a w)
    (hQ : ∀ fr a w, Agrees fr a.tmps → Keep (writesOps ops.toList) a0 a → K fr w → Q .normal a w) (ys zs : List Nat) :
    ∀ (n : Nat) (S : World → Prop) (listed : Array Bool) (l pre : List Nat) (fr : Fr) (a : Act) (w : World), canon P ops n listed = some l → (∀ y, memL ys y = true → y ∈ pre ∨ syncY P ops (ancs ops (20 * ops.size) (depsOf ops y) []) y l = true) → Closed ops listed → (∀ t, listed.getD t false = true ↔ t ∈ pre) → listed.size = ops.size →
      S w → Agrees fr a.tmps → Keep (writesOps ops.toList) a0 a →
      dHeld P ops.toList ys zs l S fr K w → wpAnyX r P ops Q ys n S listed a w
  | 0, S, listed, l, pre, fr, a, w, hc, hsy, hcl, hpre, hsz, hS, ha, hk, h => by
    simp only [canon] at hc
    split at hc
    · rename_i he
      cases hc
      exact ⟨by simpa using he, hQ fr a w ha hk h⟩
    · cases hc
  | n + 1, S, listed, l, pre, fr, a, w, hc, hsy, hcl, hpre, hsz, hS, ha, hk, h => by
    have step : ∀ i, i ∈ Region.ready .any ops listed → (∀ t, (listed.setIfInBounds i true).getD t false = true ↔ t ∈ i :: pre) ∧ (listed.setIfInBounds i true).size = ops.size := by
      intro i hi
      obtain ⟨_, o, ho, _⟩ := mem_ready.1 hi
      have hlt : i < ops.size := (Array.getElem?_eq_some_iff.1 ho).1
      refine ⟨fun t => ?_, by simpa using hsz⟩
      by_cases hit : i = t
      · subst hit
        have : i < listed.size := by omega
        simp [this]
      · rw [getD_set_ne false hit, hpre]
        simp [Ne.symm hit]
    simp only [canon] at hc
    split at hc
    · rename_i hr
      cases hc
      exact wpAnyX_done hr (hQ fr a w ha hk h) _
    · rename_i rs hne
      split at hc
      · rename_i i hf
        split at hc
        · rename_i l' hl'
          cases hc
          have hmem := List.mem_of_find?_eq_some hf
          have hpr := List.find?_some hf
          split at hpr
          · rename_i o ho
            simp only [Bool.and_eq_true] at hpr
            have ho' : ops.toList[i]? = some o := by simpa using ho
            have hin : o ∈ ops.toList := List.mem_of_getElem? ho'
            rw [dHeld_cons] at h
            simp only [ho', hpr.1, if_true] at h
            have hput : ∀ v, Keep (writesOps ops.toList) a0 (a.put o.dst v) := fun v =>
              hk.trans (Keep.put fun x hx => mem_writesOps hin hx) (fun _ h => h) (fun _ h => h)
            have hd : ∀ d, o.dst = some d → d < a.tmps.size := fun d h => hk.2.1 ▸ hF o hin d h
            obtain ⟨hpre', hsz'⟩ := step i hmem
            have hcl' := hcl.step hmem
            have hsy1 : ∀ y, memL ys y = true → y ∈ pre ∨ y = i ∨ (i ∈ ancs ops (20 * ops.size) (depsOf ops y) [] ∧ syncY P ops (ancs ops (20 * ops.size) (depsOf ops y) []) y l' = true) := fun y hy => by
              rcases hsy y hy with h | h
              · exact .inl h
              · unfold syncY at h
                split at h
                · rename_i hb; exact .inr (.inl (Nat.eq_of_beq_eq_true hb).symm)
                · rw [ho] at h
                  simp only [hpr.1, Bool.and_eq_true] at h
                  exact .inr (.inr ⟨memL_iff.1 h.1, h.2⟩)
            have hsy' : ∀ y, memL ys y = true → y ∈ i :: pre ∨ syncY P ops (ancs ops (20 * ops.size) (depsOf ops y) []) y l' = true := fun y hy => by
              rcases hsy1 y hy with h | h | h
              · exact .inl (.tail _ h)
              · exact .inl (by rw [h]; exact .head _)
              · exact .inr h.2
            have take : ∀ {v : Value}, YieldsIf P ops S o v a → wpAnyX r P ops Q ys n S (listed.setIfInBounds i true) (a.put o.dst v) w → wpAnyX r P ops Q ys (n + 1) S listed a w := by
              intro v hy H
              refine wpAnyX_first (listed0 := listed) ho (Region.noSelect_spec hsel) (fun j o c hj => hD o (by have : o ∈ ops.toList := List.mem_of_getElem? (by simpa using hj); exact this) c) (fun c a w hq => (hp _ _ _ hq).elim) (fun y hy => ?_) n S listed a w hcl (fun _ h => h) (Region.free_spec ho hpr.2) hmem hy hS H
              rcases hsy1 y hy with h | h | h
              · exact .inl ((hpre y).2 h)
              · exact .inr (.inl h)
              · exact .inr (.inr h.1)
            rcases dOp_cases ha h with ⟨hw, fr', ha', h⟩ | ⟨hw, fr', ha', h⟩
            · unfold dOp1 at h
              rw [hpr.1] at h
              obtain ⟨sv, h1, h2⟩ := sOp_run ha' h
              exact take (.inl ⟨hw, h1⟩) (dHeld_wp hN hsel hD hF hp hQ ys zs n S _ l' _ _ _ w hl' hsy' hcl' hpre' hsz' hS (ha'.put _ _ hd) (hput _) h2)
            · exact take (.inr ⟨hw, rfl⟩) (dHeld_wp hN hsel hD hF hp hQ ys zs n S _ l' _ _ _ w hl' hsy' hcl' hpre' hsz' hS (ha'.put _ _ hd) (hput _) h)
          · cases hpr
        · cases hc
      · split at hc
        · rename_i i hrs
          split at hc
          · rename_i l' hl'
            cases hc
            refine ⟨fun h0 => (by rw [hrs] at h0; cases h0), fun j hj => ?_⟩
            have hji : j = i := by rw [hrs] at hj; simpa using hj
            subst hji
            obtain ⟨hpre', hsz'⟩ := step j hj
            have hcl' := hcl.step hj
            have hsy' : ∀ y, memL ys y = true → y ∈ j :: pre ∨ syncY P ops (ancs ops (20 * ops.size) (depsOf ops y) []) y l' = true := fun y hy => by
              rcases hsy y hy with h | h
              · exact .inl (.tail _ h)
              · unfold syncY at h
                split at h
                · rename_i hb; exact .inl (by rw [← Nat.eq_of_beq_eq_true hb]; exact .head _)
                · rw [Bool.and_eq_true] at h; exact .inr h.2
            rw [dHeld_cons] at h
            split at h
            · rename_i o ho
              have ho' : ops[j]? = some o := by simpa using ho
              have hin : o ∈ ops.toList := List.mem_of_getElem? ho
              have hput : ∀ v, Keep (writesOps ops.toList) a0 (a.put o.dst v) := fun v =>
                hk.trans (Keep.put fun x hx => mem_writesOps hin hx) (fun _ h => h) (fun _ h => h)
              have hd : ∀ d, o.dst = some d → d < a.tmps.size := fun d h => hk.2.1 ▸ hF o hin d h
              unfold wpOpIn
              simp only [ho']
              rcases dOp_cases ha h with ⟨hw, fr', ha', h⟩ | ⟨hw, fr', ha', h⟩
              · rw [hw, if_pos rfl]
                unfold dOp1 at h
                split at h
                · rename_i hsf
                  obtain ⟨sv, h1, h2⟩ := sOp_run ha' h
                  rw [hsf, if_pos rfl] at h2
                  exact wp_of_value (hD o hin) (h1 w hS) ⟨S, fun _ _ h => h, hS, dHeld_wp hN hsel hD hF hp hQ ys zs n S _ l' _ _ _ w hl' hsy' hcl' hpre' hsz' hS (ha'.put _ _ hd) (hput _) h2⟩
                · rename_i hsf
                  rw [hsf] at h
                  simp only [Bool.false_eq_true, if_false] at h
                  refine lOp_wp hN ha' h fun sv w' hq => ?_
                  split at hq
                  · rename_i hys
                    obtain ⟨S', hq⟩ := hq
                    exact ⟨S', fun h => (by rw [hys] at h; cases h), hq.cond, dHeld_wp hN hsel hD hF hp hQ ys zs n S' _ l' _ _ _ w' hl' hsy' hcl' hpre' hsz' hq.cond (ha'.put _ _ hd) (hput _) hq.next⟩
                  · split at hq
                    · obtain ⟨S', hq⟩ := hq
                      have hq2 := hq.next
                      exact ⟨S', fun _ => hq.le, hq2.cond, dHeld_wp hN hsel hD hF hp hQ ys zs n S' _ l' _ _ _ w' hl' hsy' hcl' hpre' hsz' hq2.cond (ha'.put _ _ hd) (hput _) hq2.next⟩
                    · exact ⟨S, fun _ _ h => h, hq.cond, dHeld_wp hN hsel hD hF hp hQ ys zs n S _ l' _ _ _ w' hl' hsy' hcl' hpre' hsz' hq.cond (ha'.put _ _ hd) (hput _) hq.next⟩
              · rw [hw]
                simp only [Bool.false_eq_true, if_false]
                refine ⟨about_wide, ?_⟩
                exact ⟨S, fun _ _ h => h, hS, dHeld_wp hN hsel hD hF hp hQ ys zs n S _ l' _ _ _ w hl' hsy' hcl' hpre' hsz' hS (ha'.put _ _ hd) (hput _) h⟩
            · cases h
          · cases hc
        · cases hc

theorem alts_spec {f : Nat → Option Tr} {ys zs : List Nat} : ∀ {rs : List Nat} {t : Tr}, altsT f rs = some t → ∀ {j : Nat}, j ∈ rs → ∃ tj, f j = some tj ∧
    (∀ (S : World → Prop) (fr : Fr) (K : Fr → World → Prop) (w : World), dHeldT P ops.toList ys zs t S fr K w → dHeldT P ops.toList ys zs (.n j tj) S fr K w) ∧ (∀ A y, syncT P ops A y t = true → syncT P ops A y (.n j tj) = true)
  | [], _, _, j, hj => by cases hj
  | i :: r, t, h, j, hj => by
    unfold altsT at h
    split at h
    · rename_i ti hi
      split at h
      · cases h
        rcases List.mem_cons.1 hj with rfl | hj
        · exact ⟨ti, hi, fun _ _ _ _ h => h, fun _ _ h => h⟩
        · cases hj
      · split at h
        · rename_i u hu
          cases h
          rcases List.mem_cons.1 hj with rfl | hj
          · refine ⟨ti, hi, fun S fr K w h => ?_, fun A y h => ?_⟩
            · have h : Both (dHeldT P ops.toList ys zs (.n j ti) S fr K w) (dHeldT P ops.toList ys zs u S fr K w) := h
              exact h.fst
            · rw [syncT, Bool.and_eq_true] at h; exact h.1
          · obtain ⟨tj, h1, h2, h3⟩ := alts_spec hu hj
            refine ⟨tj, h1, fun S fr K w h => ?_, fun A y h => ?_⟩
            · have h : Both (dHeldT P ops.toList ys zs (.n i ti) S fr K w) (dHeldT P ops.toList ys zs u S fr K w) := h
              exact h2 S fr K w h.snd
            · rw [syncT, Bool.and_eq_true] at h; exact h3 A y h.2
        · cases h
    · cases h

theorem dHeldT_wp {r : Option Nat} (hN : NoNG P) (hsel : Region.noSelect ops = true) (hD : NoDef ops.toList) {K : Fr → World → Prop} {a0 : Act} (hF : Fit a0.tmps.size ops.toList) (hp : ∀ c a w, ¬ Q (.panic c) a w)
    (hQ : ∀ fr a w, Agrees fr a.tmps → Keep (writesOps ops.toList) a0 a → K fr w → Q .normal a w) (ys zs : List Nat) :
    ∀ (n : Nat) (S : World → Prop) (listed : Array Bool) (l : Tr) (pre : List Nat) (fr : Fr) (a : Act) (w : World), canonT P ops n listed = some l → (∀ y, memL ys y = true → y ∈ pre ∨ syncT P ops (ancs ops (20 * ops.size) (depsOf ops y) []) y l = true) → Closed ops listed → (∀ t, listed.getD t false = true ↔ t ∈ pre) → listed.size = ops.size →
      S w → Agrees fr a.tmps → Keep (writesOps ops.toList) a0 a →
      dHeldT P ops.toList ys zs l S fr K w → wpAnyX r P ops Q ys n S listed a w
  | 0, S, listed, l, pre, fr, a, w, hc, hsy, hcl, hpre, hsz, hS, ha, hk, h => by
    simp only [canonT] at hc
    split at hc
    · rename_i he
      cases hc
      exact ⟨by simpa using he, hQ fr a w ha hk h⟩
    · cases hc
  | n + 1, S, listed, l, pre, fr, a, w, hc, hsy, hcl, hpre, hsz, hS, ha, hk, h => by
    have step : ∀ i, i ∈ Region.ready .any ops listed → (∀ t, (listed.setIfInBounds i true).getD t false = true ↔ t ∈ i :: pre) ∧ (listed.setIfInBounds i true).size = ops.size := by
      intro i hi
      obtain ⟨_, o, ho, _⟩ := mem_ready.1 hi
      have hlt : i < ops.size := (Array.getElem?_eq_some_iff.1 ho).1
      refine ⟨fun t => ?_, by simpa using hsz⟩
      by_cases hit : i = t
      · subst hit
        have : i < listed.size := by omega
        simp [this]
      · rw [getD_set_ne false hit, hpre]
        simp [Ne.symm hit]
    simp only [canonT] at hc
    split at hc
    · rename_i hr
      cases hc
      exact wpAnyX_done hr (hQ fr a w ha hk h) _
    · rename_i rs hne
      split at hc
      · rename_i i hf
        split at hc
        · rename_i l' hl'
          cases hc
          have hmem := List.mem_of_find?_eq_some hf
          have hpr := List.find?_some hf
          split at hpr
          · rename_i o ho
            simp only [Bool.and_eq_true] at hpr
            have ho' : ops.toList[i]? = some o := by simpa using ho
            have hin : o ∈ ops.toList := List.mem_of_getElem? ho'
            rw [dHeldT_n] at h
            simp only [ho', hpr.1, if_true] at h
            have hput : ∀ v, Keep (writesOps ops.toList) a0 (a.put o.dst v) := fun v =>
              hk.trans (Keep.put fun x hx => mem_writesOps hin hx) (fun _ h => h) (fun _ h => h)
            have hd : ∀ d, o.dst = some d → d < a.tmps.size := fun d h => hk.2.1 ▸ hF o hin d h
            obtain ⟨hpre', hsz'⟩ := step i hmem
            have hcl' := hcl.step hmem
            have hsy1 : ∀ y, memL ys y = true → y ∈ pre ∨ y = i ∨ (i ∈ ancs ops (20 * ops.size) (depsOf ops y) [] ∧ syncT P ops (ancs ops (20 * ops.size) (depsOf ops y) []) y l' = true) := fun y hy => by
              rcases hsy y hy with h | h
              · exact .inl h
              · unfold syncT at h
                split at h
                · rename_i hb; exact .inr (.inl (Nat.eq_of_beq_eq_true hb).symm)
                · rw [ho] at h
                  simp only [hpr.1, Bool.and_eq_true] at h
                  exact .inr (.inr ⟨memL_iff.1 h.1, h.2⟩)
            have hsy' : ∀ y, memL ys y = true → y ∈ i :: pre ∨ syncT P ops (ancs ops (20 * ops.size) (depsOf ops y) []) y l' = true := fun y hy => by
              rcases hsy1 y hy with h | h | h
              · exact .inl (.tail _ h)
              · exact .inl (by rw [h]; exact .head _)
              · exact .inr h.2
            have take : ∀ {v : Value}, YieldsIf P ops S o v a → wpAnyX r P ops Q ys n S (listed.setIfInBounds i true) (a.put o.dst v) w → wpAnyX r P ops Q ys (n + 1) S listed a w := by
              intro v hy H
              refine wpAnyX_first (listed0 := listed) ho (Region.noSelect_spec hsel) (fun j o c hj => hD o (by have : o ∈ ops.toList := List.mem_of_getElem? (by simpa using hj); exact this) c) (fun c a w hq => (hp _ _ _ hq).elim) (fun y hy => ?_) n S listed a w hcl (fun _ h => h) (Region.free_spec ho hpr.2) hmem hy hS H
              rcases hsy1 y hy with h | h | h
              · exact .inl ((hpre y).2 h)
              · exact .inr (.inl h)
              · exact .inr (.inr h.1)
            rcases dOp_cases ha h with ⟨hw, fr', ha', h⟩ | ⟨hw, fr', ha', h⟩
            · unfold dOp1 at h
              rw [hpr.1] at h
              obtain ⟨sv, h1, h2⟩ := sOp_run ha' h
              exact take (.inl ⟨hw, h1⟩) (dHeldT_wp hN hsel hD hF hp hQ ys zs n S _ l' _ _ _ w hl' hsy' hcl' hpre' hsz' hS (ha'.put _ _ hd) (hput _) h2)
            · exact take (.inr ⟨hw, rfl⟩) (dHeldT_wp hN hsel hD hF hp hQ ys zs n S _ l' _ _ _ w hl' hsy' hcl' hpre' hsz' hS (ha'.put _ _ hd) (hput _) h)
          · cases hpr
        · cases hc
      · refine ⟨fun h0 => absurd h0 hne, fun j hj => ?_⟩
        obtain ⟨l', hl', hT, hST⟩ := alts_spec (P := P) (ops := ops) (ys := ys) (zs := zs) hc hj
        have h := hT S fr K w h
        obtain ⟨hpre', hsz'⟩ := step j hj
        have hcl' := hcl.step hj
        have hsy' : ∀ y, memL ys y = true → y ∈ j :: pre ∨ syncT P ops (ancs ops (20 * ops.size) (depsOf ops y) []) y l' = true := fun y hy => by
          rcases hsy y hy with h | h
          · exact .inl (.tail _ h)
          · have h := hST _ y h
            unfold syncT at h
            split at h
            · rename_i hb; exact .inl (by rw [← Nat.eq_of_beq_eq_true hb]; exact .head _)
            · rw [Bool.and_eq_true] at h; exact .inr h.2
        rw [dHeldT_n] at h
        split at h
        · rename_i o ho
          have ho' : ops[j]? = some o := by simpa using ho
          have hin : o ∈ ops.toList := List.mem_of_getElem? ho
          have hput : ∀ v, Keep (writesOps ops.toList) a0 (a.put o.dst v) := fun v =>
            hk.trans (Keep.put fun x hx => mem_writesOps hin hx) (fun _ h => h) (fun _ h => h)
          have hd : ∀ d, o.dst = some d → d < a.tmps.size := fun d h => hk.2.1 ▸ hF o hin d h
          unfold wpOpIn
          simp only [ho']
          rcases dOp_cases ha h with ⟨hw, fr', ha', h⟩ | ⟨hw, fr', ha', h⟩
          · rw [hw, if_pos rfl]
            unfold dOp1 at h
            split at h
            · rename_i hsf
              obtain ⟨sv, h1, h2⟩ := sOp_run ha' h
              rw [hsf, if_pos rfl] at h2
              exact wp_of_value (hD o hin) (h1 w hS) ⟨S, fun _ _ h => h, hS, dHeldT_wp hN hsel hD hF hp hQ ys zs n S _ l' _ _ _ w hl' hsy' hcl' hpre' hsz' hS (ha'.put _ _ hd) (hput _) h2⟩
            · rename_i hsf
              rw [hsf] at h
              simp only [Bool.false_eq_true, if_false] at h
              refine lOp_wp hN ha' h fun sv w' hq => ?_
              split at hq
              · rename_i hys
                obtain ⟨S', hq⟩ := hq
                exact ⟨S', fun h => (by rw [hys] at h; cases h), hq.cond, dHeldT_wp hN hsel hD hF hp hQ ys zs n S' _ l' _ _ _ w' hl' hsy' hcl' hpre' hsz' hq.cond (ha'.put _ _ hd) (hput _) hq.next⟩
              · split at hq
                · obtain ⟨S', hq⟩ := hq
                  have hq2 := hq.next
                  exact ⟨S', fun _ => hq.le, hq2.cond, dHeldT_wp hN hsel hD hF hp hQ ys zs n S' _ l' _ _ _ w' hl' hsy' hcl' hpre' hsz' hq2.cond (ha'.put _ _ hd) (hput _) hq2.next⟩
                · exact ⟨S, fun _ _ h => h, hq.cond, dHeldT_wp hN hsel hD hF hp hQ ys zs n S _ l' _ _ _ w' hl' hsy' hcl' hpre' hsz' hq.cond (ha'.put _ _ hd) (hput _) hq.next⟩
          · rw [hw]
            simp only [Bool.false_eq_true, if_false]
            refine ⟨about_wide, ?_⟩
            exact ⟨S, fun _ _ h => h, hS, dHeldT_wp hN hsel hD hF hp hQ ys zs n S _ l' _ _ _ w hl' hsy' hcl' hpre' hsz' hS (ha'.put _ _ hd) (hput _) h⟩
        · cases h


theorem still_wp {r : Option Nat} {o : Oper} {a : Act} {w : World} {K : Act → Prop} {K' : Act → World → Prop} (hnd : ∀ c, o.op ≠ .defer c) (h : ∀ a, K a → K' a w) (hh : o.still P a w K) : o.wpIn (wideAt r) 0 P a w K' Q := by
  unfold Oper.still at hh
  refine ⟨about_wide, ?_⟩
  rw [Oper.semAt_eq _ _ _ hnd]
  generalize (execOp a.eval o).run P w = q at *
  cases q with
  | ok n w' =>
    cases n <;> simp only [Oper.stillUpon] at hh <;> simp only [Oper.uponIn]
    case enter f args =>
      obtain ⟨rfl, v, hc, hn⟩ := hh
      exact ⟨fun hd => (by cases hd), (callsIn_at hc).mono fun e w'' ⟨he, hw⟩ => by subst he; subst hw; exact h _ hn⟩
    all_goals (obtain ⟨rfl, h2⟩ := hh; exact h _ h2)
  | halt x w' => simp only [Oper.stillUpon] at hh

theorem stOp_wp {r : Option Nat} {i : Nat} {a : Act} {w : World} {K : Act → Prop} {K' : Act → World → Prop} (hD : NoDef ops.toList) (h : ∀ a, K a → K' a w) (hh : stOp P ops w i K a) : wpOpIn (wideAt r) 0 P ops Q i K' a w := by
  unfold stOp at hh
  unfold wpOpIn
  split
  · rename_i ho; simp only [ho] at hh; exact h _ hh
  · rename_i o ho
    simp only [ho] at hh
    have hnd := hD o (List.mem_of_getElem? (by simpa using ho))
    split
    · rename_i hw; simp only [hw, if_true] at hh; exact still_wp hnd h hh
    · rename_i hw; simp only [hw] at hh; exact ⟨about_wide, h _ hh⟩

theorem anyS_wp {r : Option Nat} {w : World} {Q0 : Act → Prop} (hD : NoDef ops.toList) (hQ : ∀ a, Q0 a → Q .normal a w) : ∀ (fuel : Nat) (listed : Array Bool) (a : Act),
    wpAnyS P .any ops w Q0 fuel listed a → wpAnyIn (wideAt r) 0 P .any ops Q fuel listed a w
  | 0, _, _, h => ⟨h.1, hQ _ h.2⟩
  | fuel + 1, _, _, h => ⟨fun h0 => hQ _ (h.1 h0), fun i hi => stOp_wp hD (fun a' => anyS_wp hD hQ fuel _ a') (h.2 i hi)⟩

theorem anyL_wp {r : Option Nat} {w : World} {n g : Nat} {L : Array Bool → Act → Prop} (hD : NoDef ops.toList) (hL : ∀ listed a, L listed a → wpAnyIn (wideAt r) 0 P .any ops Q g listed a w) :
    ∀ (f : Nat) (listed : Array Bool) (a : Act), wpAnyL P .any ops w n L f listed a → wpAnyIn (wideAt r) 0 P .any ops Q (f + g) listed a w
  | 0, listed, a, h => by rw [Nat.zero_add]; exact hL _ _ h
  | f + 1, listed, a, h => by
    rw [show f + 1 + g = (f + g) + 1 by omega]
    exact ⟨fun h0 => absurd h0 h.1, fun i hi => stOp_wp hD (fun a' h' => anyL_wp hD hL f _ a' h') (h.2 i hi).2⟩

theorem seq_wp {r : Option Nat} : ∀ (l : List Oper) (k : Nat) (listed : Array Bool) (a : Act) (w : World), (∀ j, l[j]? = ops[k + j]?) →
    Region.seqB .any ops l.length k listed = true → wpListIn (wideAt r) 0 P ops Q l a w → wpAnyIn (wideAt r) 0 P .any ops Q l.length listed a w
  | [], _, _, _, _, _, hB, h => ⟨by simpa [Region.seqB] using hB, h⟩
  | o :: l, k, listed, a, w, hl, hB, h => by
    have h0 : ops[k]? = some o := by simpa using (hl 0).symm
    simp only [List.length_cons, Region.seqB, Bool.and_eq_true, decide_eq_true_eq] at hB
    refine ⟨fun h1 => (by rw [hB.1] at h1; cases h1), fun i hi => ?_⟩
    rw [hB.1] at hi
    have hik : i = k := by simpa using hi
    subst hik
    have hw : wpOpIn (wideAt r) 0 P ops Q i (wpListIn (wideAt r) 0 P ops Q l) a w := by unfold wpOpIn; simp only [h0]; exact h
    exact wpOpIn_mono (fun a' w' h' => seq_wp l (i + 1) _ a' w' (fun j => by have := hl (j + 1); simpa [Nat.add_assoc, Nat.add_comm 1 j] using this) hB.2 h') hw

theorem region_still {r : Option Nat} {id : Nat} {a : Act} {w : World} (hD : NoDef ops.toList) (hm : P.follows .mixedOrders = true) (hB : Region.lexB .any ops = true)
    (h : wpStill P ops { w with drawn := w.drawn + 1 } (fun a' => Q .normal a' { w with drawn := w.drawn + 1 }) ops.toList a) : (Code.region id ops true).wpIn (wideAt r) 0 P Q a w := by
  simp only [Region.lexB, Bool.and_eq_true] at hB
  refine wpIn_region_any hm (anyS_wp (Q0 := fun a' => Q .normal a' { w with drawn := w.drawn + 1 }) hD (fun _ h => h) _ _ _ ?_)
  have := wpAnyS_lex (md := .any) hB.1 ops.toList 0 (Array.replicate ops.size false) a (by simp) (by simpa using hB.2) h
  simpa using this

theorem region_tail {r : Option Nat} {id : Nat} {a : Act} {w : World} {l : List Oper} (hD : NoDef l) (n : Nat) (hm : P.follows .mixedOrders = true) (hB : Region.lexTailB .any l.toArray n = true)
    (h : wpStill P l.toArray { w with drawn := w.drawn + 1 } (fun a' => wpListIn (wideAt r) 0 P l.toArray Q (l.drop n) a' { w with drawn := w.drawn + 1 }) (l.take n) a) : (Code.region id l.toArray true).wpIn (wideAt r) 0 P Q a w := by
  simp only [Region.lexTailB, Bool.and_eq_true, decide_eq_true_eq] at hB
  obtain ⟨⟨⟨⟨hsel, hn⟩, hs⟩, hc⟩, hlex⟩ := hB
  have hn' : n < l.length := by simpa using hn
  have htl : (l.take n).length = n := by simp; omega
  have hdl : (l.drop n).length = l.toArray.size - n := by simp
  have inv0 : HeadInv .any l.toArray n (Array.replicate l.toArray.size false) :=
    ⟨by simp, fun j oj _ hl => (by rw [getD_replicate_false] at hl; cases hl), fun t _ ht => getD_in (by simpa using ht) (getD_replicate_false _ _)⟩
  have H := wpAnyL_lex (md := .any) (g := l.toArray.size - n) hsel hs hc hn (l.take n) 0 _ a (fun j hj => by
    have hj' : j < n := by rw [htl] at hj; exact hj
    simp [hj']) (by simpa using htl) inv0 (by rw [htl]; exact hlex) h
  refine wpIn_region_any hm ?_
  have := anyL_wp (r := r) (Q := Q) (g := l.toArray.size - n) (by simpa using hD) (fun listed a' hL => by
    have := seq_wp (r := r) (Q := Q) (l.drop n) n listed a' { w with drawn := w.drawn + 1 } (fun j => by simp [List.getElem?_drop]) (by rw [hdl]; exact hL.1) hL.2
    rwa [hdl] at this) _ _ _ H
  rw [htl, show n + (l.toArray.size - n) = l.toArray.size by omega] at this
  exact this

theorem softPre_take : ∀ (l : List Oper), ∀ o ∈ l.take (softPre P l), softB P o = true
  | [], o, h => by simp at h
  | x :: r, o, h => by
    unfold softPre at h
    split at h
    · rename_i hx
      rw [List.take_succ_cons] at h
      cases h with
      | head => exact hx
      | tail _ h => exact softPre_take r o h
    · simp at h

theorem beqL_eq : ∀ {a b : List Nat}, beqL a b = true → a = b
  | [], [], _ => rfl
  | [], _ :: _, h => (by cases h)
  | _ :: _, [], h => (by cases h)
  | a :: x, b :: y, h => by
    simp only [beqL, Bool.and_eq_true] at h
    rw [Nat.eq_of_beq_eq_true h.1, beqL_eq h.2]

theorem beqT_eq : ∀ {a b : Tr}, beqT a b = true → a = b
  | .e, .e, _ => rfl
  | .n i t, .n j u, h => by
    simp only [beqT, Bool.and_eq_true] at h
    rw [Nat.eq_of_beq_eq_true h.1, beqT_eq h.2]
  | .o a b, .o c d, h => by
    simp only [beqT, Bool.and_eq_true] at h
    rw [beqT_eq h.1, beqT_eq h.2]
  | .e, .n _ _, h => by cases h
  | .e, .o _ _, h => by cases h
  | .n _ _, .e, h => by cases h
  | .n _ _, .o _ _, h => by cases h
  | .o _ _, .e, h => by cases h
  | .o _ _, .n _ _, h => by cases h

theorem dRegion_wp {r : Option Nat} (hN : NoNG P) (hm : P.follows .mixedOrders = true) {an : An} {id : Nat} {dr : Bool} {K : Fr → World → Prop} {a : Act} {fr : Fr} {w : World} (hF : Fit a.tmps.size ops.toList) (hD : NoDef ops.toList)
    (hpl : drOK dr (planOK P ops an) = true) (hp : ∀ c a w, ¬ Q (.panic c) a w)
    (hQ : ∀ fr' a' w', Agrees fr' a'.tmps → Keep (writesOps ops.toList) a a' → K fr' w' → Q .normal a' w') (ha : Agrees fr a.tmps) (h : dRegion P an ops dr fr K w) : (Code.region id ops dr).wpIn (wideAt r) 0 P Q a w := by
  unfold dRegion at h
  split at h
  · exact wpIn_region_list (dOps_wp hN hF hD hQ ops.toList fr a w (fun _ h => h) ha (.refl _ _) h)
  · simp only [drOK] at hpl
    split at h
    · simp only [planOK, Bool.or_eq_true, Bool.and_eq_true, List.all_eq_true] at hpl
      obtain ⟨h⟩ := h
      rcases hpl with hb | hb
      · refine region_still hD hm hb.2 ?_
        exact dOps_still hF (fun a' => Q .normal a' { w with drawn := w.drawn + 1 }) ops.toList [] fr a hb.1 (fun _ h => h) ha (.refl _ _) (by simpa using h)
          fun fr' a' ha' hk' h' => hQ fr' a' _ ha' hk' h'
      · have hb' : Region.lexTailB .any ops.toList.toArray (softPre P ops.toList) = true := by simpa using hb
        have := region_tail (r := r) (P := P) (id := id) (Q := Q) (a := a) (w := w) (l := ops.toList) hD (softPre P ops.toList) hm hb' ?_
        · simpa using this
        · simp only [Array.toArray_toList]
          refine dOps_still hF _ (ops.toList.take (softPre P ops.toList)) (ops.toList.drop (softPre P ops.toList)) fr a (softPre_take _) (fun o h => List.mem_of_mem_take h) ha (.refl _ _) (by rw [List.take_append_drop]; exact h) ?_
          intro fr' a' ha' hk' h'
          exact dOps_wp hN hF hD hQ _ fr' a' _ (fun o h => List.mem_of_mem_drop h) ha' hk' h'
    · rename_i l ys
      simp only [planOK, Bool.and_eq_true] at hpl
      obtain ⟨⟨hsel, hc⟩, hy⟩ := hpl
      have hsy : ∀ y, memL ys y = true → y ∈ ([] : List Nat) ∨ syncY P ops (ancs ops (20 * ops.size) (depsOf ops y) []) y l = true := fun y hm => .inr (List.all_eq_true.1 hy y (memL_iff.1 hm))
      split at hc
      · rename_i l' hl
        have := beqL_eq hc
        subst this
        obtain ⟨S, h⟩ := h
        obtain ⟨h⟩ := h
        refine wpIn_region_any hm (wpAny_of_X _ _ _ _ _ (dHeld_wp hN hsel hD hF hp hQ ys [] _ S _ l [] fr a _ hl hsy (fun t o _ ht => ?_) (fun t => ?_) (by simp) h.cond ha (.refl _ _) h.next))
        all_goals
          rcases Nat.lt_or_ge t ops.size with h' | h'
          · simp_all
          · simp_all [show ¬ t < ops.size by omega]
      · cases hc
    · rename_i l ys
      simp only [planOK, Bool.and_eq_true] at hpl
      obtain ⟨⟨hsel, hc⟩, hy⟩ := hpl
      have hsy : ∀ y, memL ys y = true → y ∈ ([] : List Nat) ∨ syncT P ops (ancs ops (20 * ops.size) (depsOf ops y) []) y l = true := fun y hm => .inr (List.all_eq_true.1 hy y (memL_iff.1 hm))
      split at hc
      · rename_i l' hl
        have := beqT_eq hc
        subst this
        obtain ⟨S, h⟩ := h
        obtain ⟨h⟩ := h
        refine wpIn_region_any hm (wpAny_of_X _ _ _ _ _ (dHeldT_wp hN hsel hD hF hp hQ ys [] _ S _ l [] fr a _ hl hsy (fun t o _ ht => ?_) (fun t => ?_) (by simp) h.cond ha (.refl _ _) h.next))
        all_goals
          rcases Nat.lt_or_ge t ops.size with h' | h'
          · simp_all
          · simp_all [show ¬ t < ops.size by omega]
      · cases hc
    · rename_i l ys zs
      simp only [planOK, Bool.and_eq_true] at hpl
      obtain ⟨⟨hsel, hc⟩, hy⟩ := hpl
      have hsy : ∀ y, memL ys y = true → y ∈ ([] : List Nat) ∨ syncY P ops (ancs ops (20 * ops.size) (depsOf ops y) []) y l = true := fun y hm => .inr (List.all_eq_true.1 hy y (memL_iff.1 hm))
      split at hc
      · rename_i l' hl
        have := beqL_eq hc
        subst this
        obtain ⟨S, h⟩ := h
        obtain ⟨h⟩ := h
        refine wpIn_region_any hm (wpAny_of_X _ _ _ _ _ (dHeld_wp hN hsel hD hF hp hQ ys zs _ S _ l [] fr a _ hl hsy (fun t o _ ht => ?_) (fun t => ?_) (by simp) h.cond ha (.refl _ _) h.next))
        all_goals
          rcases Nat.lt_or_ge t ops.size with h' | h'
          · simp_all
          · simp_all [show ¬ t < ops.size by omega]
      · cases hc
    · rename_i l ys zs
      simp only [planOK, Bool.and_eq_true] at hpl
      obtain ⟨⟨hsel, hc⟩, hy⟩ := hpl
      have hsy : ∀ y, memL ys y = true → y ∈ ([] : List Nat) ∨ syncT P ops (ancs ops (20 * ops.size) (depsOf ops y) []) y l = true := fun y hm => .inr (List.all_eq_true.1 hy y (memL_iff.1 hm))
      split at hc
      · rename_i l' hl
        have := beqT_eq hc
        subst this
        obtain ⟨S, h⟩ := h
        obtain ⟨h⟩ := h
        refine wpIn_region_any hm (wpAny_of_X _ _ _ _ _ (dHeldT_wp hN hsel hD hF hp hQ ys zs _ S _ l [] fr a _ hl hsy (fun t o _ ht => ?_) (fun t => ?_) (by simp) h.cond ha (.refl _ _) h.next))
        all_goals
          rcases Nat.lt_or_ge t ops.size with h' | h'
          · simp_all
          · simp_all [show ¬ t < ops.size by omega]
      · cases hc
    · cases h

end
end Go.Proofs.Ytocmjngleknlbaa.K

/-
  What the plain meaning tells holds of the model's runs: code, and calls.
-/
namespace Go.Proofs.Ytocmjngleknlbaa.K
open Go
section
variable {P : Program}

/-- what is not written stays, whatever is deferred -/
def KeepS (ws : List Nat) (a a' : Act) : Prop := a'.tmps.size = a.tmps.size ∧ ∀ i, i ∉ ws → a'.tmps[i]? = a.tmps[i]?

theorem KeepS.refl (ws : List Nat) (a : Act) : KeepS ws a a := ⟨rfl, fun _ _ => rfl⟩

theorem KeepS.trans {ws vs us : List Nat} {a b c : Act} (h1 : KeepS ws a b) (h2 : KeepS vs b c) (hw : ∀ i, i ∈ ws → i ∈ us) (hv : ∀ i, i ∈ vs → i ∈ us) : KeepS us a c :=
  ⟨h2.1.trans h1.1, fun i hi => (h2.2 i fun h => hi (hv i h)).trans (h1.2 i fun h => hi (hw i h))⟩

/-- what loops over functions left to be taken at the function's end -/
def marks (ds : List Nat) : List Deferred := ds.map fun d => { target := .collected d, args := #[] }

def markedK (Ko : Way → Fr → World → Prop) : List Nat → Way → Fr → World → Prop
  | [] => Ko
  | d :: ds => markK d (markedK Ko ds)

def Post (P : Program) (Ko : Way → Fr → World → Prop) (n : Nat) (st : List Kt) (ws : List Nat) (rf : Bool) (a0 : Act) : Exit → Act → World → Prop
  | .normal, a, w => KeepS ws a0 a ∧ ∃ fr m ds, m < n ∧ (rf = false → ds = []) ∧ a.defers = marks ds ++ a0.defers ∧ Agrees fr a.tmps ∧ go P m (markedK Ko ds) none st fr w
  | .exit i, a, w => KeepS ws a0 a ∧ ∃ fr ds, (rf = false → ds = []) ∧ a.defers = marks ds ++ a0.defers ∧ Agrees fr a.tmps ∧ match unw i st with
    | some st' => ∃ m, m < n ∧ go P m (markedK Ko ds) none st' fr w
    | none => markedK Ko ds (.exit i) fr w
  | .ret, a, w => KeepS ws a0 a ∧ ∃ fr ds, (rf = false → ds = []) ∧ a.defers = marks ds ++ a0.defers ∧ Agrees fr a.tmps ∧ markedK Ko ds .ret fr w
  | _, _, _ => False

variable {Ko : Way → Fr → World → Prop}

theorem markedK_append (ds es : List Nat) : markedK (markedK Ko es) ds = markedK Ko (ds ++ es) := by
  induction ds with
  | nil => rfl
  | cons d ds ih => show markK d _ = markK d _; rw [ih]; rfl

theorem marks_append (ds es : List Nat) : marks (ds ++ es) = marks ds ++ marks es := by simp [marks]

theorem Post.panic {n : Nat} {st : List Kt} {ws : List Nat} {rf : Bool} {a0 : Act} (c : List PanicEntry) (a : Act) (w : World) : ¬ Post P Ko n st ws rf a0 (.panic c) a w := id

/-- what is known of slots that are not written fits what stands behind -/
theorem keepFr_spec {ws : List Nat} {fr : Fr} {a a' : Act} (hk : KeepS ws a a') (ha : Agrees fr a.tmps) : ∀ {l : List Nat} {K : Fr → Prop}, apartL l ws = true → keepFr fr l K → ∃ t, Agrees t a'.tmps ∧ K t
  | [], K, _, h => ⟨[], fun i sv hi => (by cases hi), h⟩
  | s :: r, K, hp, h => by
    simp only [keepFr] at h
    simp only [apartL, List.all_cons, Bool.and_eq_true] at hp
    obtain ⟨hn, hr⟩ := hp
    have hs : s ∉ ws := by simpa using hn
    split at h
    · rename_i v hv
      obtain ⟨t, h1, h2⟩ := keepFr_spec hk ha hr h
      refine ⟨_, h1.cons fun sv he => ?_, h2⟩
      cases he
      rw [hk.2 s hs]
      exact ha s _ hv
    · exact keepFr_spec hk ha hr h

theorem Sc.get_spec {s : Sc} {v : S1} {K : s.T → Prop} (h : s.get v K) : ∃ x, K x ∧ (s.mk x).v = v.v := by
  unfold Sc.get at h
  split at h
  all_goals first
    | (cases h; done)
    | exact ⟨_, h, rfl⟩
    | (split at h
       · rename_i hk; subst hk; exact ⟨_, h, rfl⟩
       · cases h)

theorem ScsGet_spec : ∀ {l : List Sc} {vs : List S1} {K : ScsT l → Prop}, ScsGet l vs K → ∃ x, K x ∧ (ScsMk l x).map S1.v = vs.map S1.v
  | [], [], K, h => ⟨(), h, rfl⟩
  | [], _ :: _, K, h => (by cases h)
  | [s], [], K, h => (by cases h)
  | [s], [v], K, h => by
    obtain ⟨x, h1, h2⟩ := Sc.get_spec h
    exact ⟨x, h1, by simp [ScsMk, h2]⟩
  | [s], _ :: _ :: _, K, h => (by cases h)
  | s :: t :: r, [], K, h => (by cases h)
  | s :: t :: r, v :: u, K, h => by
    obtain ⟨x, h1, h2⟩ := Sc.get_spec h
    obtain ⟨y, h3, h4⟩ := ScsGet_spec h1
    exact ⟨(x, y), h3, by simp [ScsMk, h2, h4]⟩

theorem Sh.get_spec {h : Sh} {v : SV} {K : h.T → Prop} (hg : h.get v K) : ∃ x, K x ∧ (h.mk x).sv.v = v.v := by
  unfold Sh.get at hg
  split at hg
  · obtain ⟨x, h1, h2⟩ := Sc.get_spec hg
    exact ⟨x, h1, by simpa [Sh.mk, S2.sv, SV.v] using h2⟩
  · obtain ⟨x, h1, h2⟩ := ScsGet_spec hg
    exact ⟨x, h1, by simp only [Sh.mk, S2.sv, SV.v, h2]⟩
  · cases hg

/-- slots that hold these values -/
def Holds (a : Array Value) : (l : List (Nat × Sh)) → ShsT (l.map (·.2)) → Prop
  | [], _ => True
  | [(s, h)], x => a[s]? = some (h.mk x).sv.v
  | (s, h) :: (t, g) :: r, x => a[s]? = some (h.mk x.1).sv.v ∧ Holds a ((t, g) :: r) x.2

theorem gather_spec : ∀ {l : List (Nat × Sh)} {fr : Fr} {a : Array Value} {K : ShsT (l.map (·.2)) → Prop}, gather fr l K → Agrees fr a → ∃ s, K s ∧ Holds a l s
  | [], _, _, _, h, _ => ⟨(), h, trivial⟩
  | [(s, h)], fr, a, K, hg, ha => by
    simp only [gather] at hg
    split at hg
    · rename_i v hv
      obtain ⟨x, h1, h2⟩ := Sh.get_spec hg
      exact ⟨x, h1, (ha s v hv).trans (congrArg some h2.symm)⟩
    · cases hg
  | (s, h) :: (t, g) :: r, fr, a, K, hg, ha => by
    simp only [gather] at hg
    split at hg
    · rename_i v hv
      obtain ⟨x, h1, h2⟩ := Sh.get_spec hg
      obtain ⟨y, h3, h4⟩ := gather_spec h1 ha
      exact ⟨(x, y), h3, (ha s v hv).trans (congrArg some h2.symm), h4⟩
    · cases hg

theorem rebuildK_spec {a : Array Value} : ∀ {l : List (Nat × Sh)} {fr : Fr} {x : ShsT (l.map (·.2))} {K : Fr → Prop}, rebuildK fr l x K → Agrees fr a → Holds a l x → ∃ t, Agrees t a ∧ K t
  | [], fr, _, _, h, ha, _ => ⟨fr, ha, h⟩
  | [(s, h)], fr, x, K, hr, ha, hh => ⟨_, ha.cons fun sv he => (by cases he; exact hh), hr⟩
  | (s, h) :: (t, g) :: r, fr, x, K, hr, ha, hh => by
    simp only [rebuildK] at hr
    exact rebuildK_spec hr (ha.cons fun sv he => by cases he; exact hh.1) hh.2

theorem dBranch_spec {fr : Fr} {c : Operand} {a : Act} {X Y : Fr → Prop} (ha : Agrees fr a.tmps) (h : dBranch fr c X Y) :
    ∃ b fr', a.eval c = .bool b ∧ Agrees fr' a.tmps ∧ (b = true → X fr') ∧ (b = false → Y fr') := by
  unfold dBranch at h
  split at h
  · rename_i hc; exact ⟨true, fr, ev_eval ha hc, ha, fun _ => h, fun h => (by cases h)⟩
  · rename_i hc; exact ⟨false, fr, ev_eval ha hc, ha, fun h => (by cases h), fun _ => h⟩
  · rename_i b hc
    split at h
    · rename_i t
      have hset : ∀ c, b = c → Agrees (fr.set t (some (.s (.lit c)))) a.tmps := fun c hcc => ha.set _ hc (by subst hcc; rfl)
      cases b
      · exact ⟨false, _, ev_eval ha hc, hset false rfl, fun h => (by cases h), fun _ => h.no rfl⟩
      · exact ⟨true, _, ev_eval ha hc, hset true rfl, fun _ => h.yes rfl, fun h => (by cases h)⟩
    · exact ⟨b, fr, ev_eval ha hc, ha, h.yes, h.no⟩
  · cases h

/-- what is behind a piece of code that comes behind another -/
theorem Post.mono {n m : Nat} {st : List Kt} {us vs ws : List Nat} {rf rg : Bool} {a0 a1 : Act} {es : List Nat} (hk : KeepS ws a0 a1) (he : a1.defers = marks es ++ a0.defers) (hes : rg = false → es = []) (hr : rg = false → rf = false)
    (hws : ∀ i, i ∈ ws → i ∈ vs) (hus : ∀ i, i ∈ us → i ∈ vs) (hm : m ≤ n) : ∀ e a w, Post P (markedK Ko es) m st us rf a1 e a w → Post P Ko n st vs rg a0 e a w := by
  have nil : ∀ {ds : List Nat}, (rf = false → ds = []) → rg = false → ds ++ es = [] := fun h hg => by rw [h (hr hg), hes hg]; rfl
  have dfs : ∀ {ds : List Nat} {a : Act}, a.defers = marks ds ++ a1.defers → a.defers = marks (ds ++ es) ++ a0.defers := fun h => by rw [h, he, marks_append, List.append_assoc]
  intro e a w h
  cases e with
  | normal =>
    obtain ⟨h1, fr, k, ds, h2, h3, h4, h5, h6⟩ := h
    exact ⟨hk.trans h1 hws hus, fr, k, ds ++ es, by omega, nil h3, dfs h4, h5, by rw [← markedK_append]; exact h6⟩
  | exit i =>
    obtain ⟨h1, fr, ds, h3, h4, h5, h6⟩ := h
    refine ⟨hk.trans h1 hws hus, fr, ds ++ es, nil h3, dfs h4, h5, ?_⟩
    rw [← markedK_append]
    split at h6
    · rename_i st' hu
      try rw [hu]
      obtain ⟨k, h7, h8⟩ := h6
      exact ⟨k, by omega, h8⟩
    · rename_i hu
      try rw [hu]
      exact h6
  | ret =>
    obtain ⟨h1, fr, ds, h3, h4, h5, h6⟩ := h
    exact ⟨hk.trans h1 hws hus, fr, ds ++ es, nil h3, dfs h4, h5, by rw [← markedK_append]; exact h6⟩
  | goto l => exact h
  | panic c => exact h
  | outgrown => exact h

/-- .. with nothing ahead -/
theorem Post.wide {n m : Nat} {st : List Kt} {us vs : List Nat} {rf rg : Bool} {a0 : Act} (hr : rg = false → rf = false) (hus : ∀ i, i ∈ us → i ∈ vs) (hm : m ≤ n) (e : Exit) (a : Act) (w : World) (h : Post P Ko m st us rf a0 e a w) : Post P Ko n st vs rg a0 e a w :=
  Post.mono (es := []) (KeepS.refl [] a0) rfl (fun _ => rfl) hr (fun _ h => by cases h) hus hm e a w h

theorem fits_region {an : An} {n id : Nat} {ops : Array Oper} {dr : Bool} (h : fits P n (.region id ops dr) an = true) : Fit n ops.toList := by
  intro o ho d hd
  have h0 : (ops.all (fun o => (match o.dst with | some d => Nat.blt d n | none => true) && notDefer o) && drOK dr (planOK P ops an)) = true := h
  have h1 := ((Bool.and_eq_true _ _).mp h0).1
  have h2 := ((Bool.and_eq_true _ _).mp (Array.all_eq_true_iff_forall_mem.1 h1 o (by simpa using ho))).1
  rw [hd] at h2
  exact Nat.le_of_ble_eq_true h2

theorem fits_nodef {an : An} {n id : Nat} {ops : Array Oper} {dr : Bool} (h : fits P n (.region id ops dr) an = true) : NoDef ops.toList := by
  intro o ho c hc
  have h0 : (ops.all (fun o => (match o.dst with | some d => Nat.blt d n | none => true) && notDefer o) && drOK dr (planOK P ops an)) = true := h
  have h1 := ((Bool.and_eq_true _ _).mp h0).1
  have h2 := ((Bool.and_eq_true _ _).mp (Array.all_eq_true_iff_forall_mem.1 h1 o (by simpa using ho))).2
  unfold notDefer at h2
  rw [hc] at h2
  cases h2

theorem fits_plan {an : An} {n id : Nat} {ops : Array Oper} {dr : Bool} (h : fits P n (.region id ops dr) an = true) : drOK dr (planOK P ops an) = true := by
  have h0 : (ops.all (fun o => (match o.dst with | some d => Nat.blt d n | none => true) && notDefer o) && drOK dr (planOK P ops an)) = true := h
  exact ((Bool.and_eq_true _ _).mp h0).2

theorem fits_and {a b : Bool} (h : (a && b) = true) : a = true ∧ b = true := by simpa using h

theorem beqRefl {i : Nat} : Nat.beq i i = true := Nat.beq_refl i
theorem beqNe {i j : Nat} (h : ¬ j = i) : Nat.beq j i = false := by
  cases hb : Nat.beq j i
  · rfl
  · exact absurd (Nat.eq_of_beq_eq_true hb) h

theorem fits_seq_n {n : Nat} {x y : Code} {an : An} (h : fits P n (.seq x y) an = true) (hj : ∀ kp sl u v, an ≠ .j kp sl u v) (hp : ∀ u v, an ≠ .p u v) : fits P n x .n = true ∧ fits P n y .n = true := by
  unfold fits at h
  split at h
  · exact absurd rfl (hj _ _ _ _)
  · exact absurd rfl (hp _ _)
  · exact fits_and h

theorem go_none_seq {n : Nat} {b : Code} {y : An} {st : List Kt} {fr : Fr} {w : World} (h : go P n Ko none (.seq b y :: st) fr w) : ∃ m, m + 1 = n ∧ go P m Ko (some (b, y)) st fr w := by
  cases n with
  | zero => cases h
  | succ m => exact ⟨m, rfl, h⟩

theorem go_none_blk {n i : Nat} {st : List Kt} {fr : Fr} {w : World} (h : go P n Ko none (.blk i :: st) fr w) : ∃ m, m + 1 = n ∧ go P m Ko none st fr w := by
  cases n with
  | zero => cases h
  | succ m => exact ⟨m, rfl, h⟩

theorem go_none_blkJ {n i : Nat} {sl : List (Nat × Sh)} {J : ShsT (sl.map (·.2)) → World → Prop} {st : List Kt} {fr : Fr} {w : World} (h : go P n Ko none (.blkJ i sl J :: st) fr w) : gather fr sl fun s => J s w := by
  cases n with
  | zero => cases h
  | succ m => exact h

theorem go_none_fin {n : Nat} {sl : List (Nat × Sh)} {J : ShsT (sl.map (·.2)) → World → Prop} {st : List Kt} {fr : Fr} {w : World} (h : go P n Ko none (.fin sl J :: st) fr w) : gather fr sl fun s => J s w := by
  cases n with
  | zero => cases h
  | succ m => exact h

theorem go_none_nil {n : Nat} {fr : Fr} {w : World} (h : go P n Ko none [] fr w) : Ko .on fr w := by
  cases n with
  | zero => cases h
  | succ m => exact h

theorem setPs_spec : ∀ {ps : List Nat} {svs : List SV} {fr : Fr} {a : Array Value} {K : Fr → Prop}, Agrees fr a → (∀ p ∈ ps, p < a.size) → setPs fr ps svs K →
    svs.length = ps.length ∧ ∃ fr', Agrees fr' ((ps.zip (svs.map SV.v)).foldl (fun t (p : Nat × Value) => t.setIfInBounds p.1 p.2) a) ∧ K fr'
  | [], [], fr, a, K, ha, _, h => ⟨rfl, fr, ha, h⟩
  | [], _ :: _, _, _, _, _, _, h => (by cases h)
  | _ :: _, [], _, _, _, _, _, h => (by cases h)
  | s :: r, v :: vs, fr, a, K, ha, hp, h => by
    have hs : s < a.size := hp s List.mem_cons_self
    have h1 : Agrees (fr.set s (some v)) (a.setIfInBounds s v.v) := by
      intro i sv hi
      simp only [Fr.set, Fr.get] at hi
      by_cases e : i = s
      · subst e
        rw [beqRefl] at hi
        cases hi
        simp [hs]
      · have hb : Nat.beq i s = false := by
          cases hb : Nat.beq i s
          · rfl
          · exact absurd (Nat.eq_of_beq_eq_true hb) e
        rw [hb] at hi
        rw [Array.getElem?_setIfInBounds_ne (Ne.symm e)]
        exact ha i sv hi
    obtain ⟨h2, fr', h3, h4⟩ := setPs_spec h1 (fun p hp' => by rw [Array.size_setIfInBounds]; exact hp p (List.mem_cons_of_mem _ hp')) h
    exact ⟨by simp [h2], fr', by simpa using h3, h4⟩

theorem wpIn_loop_ghost {F : Fence} {n : Nat} {Q : Exit → Act → World → Prop} {a : Act} {w : World} {c : Code} (I : Nat → Act → World → Prop) (n₀ : Nat) (h₀ : I n₀ a w)
    (round : ∀ k a w, I k a w → c.wpIn F n P (Exit.then (fun a' w' => ∃ k', k' < k ∧ I k' a' w') Q) a w) : (Code.loop c).wpIn F n P Q a w := by
  refine wpIn_loop (fun a w => ∃ n, I n a w) (fun a w => leastOf (fun n => I n a w)) ⟨n₀, h₀⟩ ?_
  intro a w hI
  refine wpIn_mono (round _ a w (leastOf_spec hI).1) ?_
  intro e a' w' hq
  cases e with
  | normal =>
    obtain ⟨n', hlt, hI'⟩ := hq
    exact show (∃ n, I n a' w') ∧ leastOf (fun n => I n a' w') < leastOf (fun n => I n a w) from ⟨⟨n', hI'⟩, Nat.lt_of_le_of_lt ((leastOf_spec ⟨n', hI'⟩).2 n' hI') hlt⟩
  | exit id => exact hq
  | goto l => exact hq
  | ret => exact hq
  | panic ch => exact hq
  | outgrown => exact hq

/-- a way on, as the jump that a loop's record keeps -/
def Way.jump : Way → Option Code
  | .on => none
  | .ret => some .ret
  | .exit i => some (.exit i)

/-- the record of a loop over a function, as it stands -/
def recOf (L : Go.Loop) : LS → Obj
  | .ready => .loop { L with state := .ready, pending := none }
  | .busy => .loop { L with state := .busy, pending := none }
  | .out y => .loop { L with state := .exhausted, pending := y.jump }
  | .ret => .loop { L with state := .done, pending := some .ret }
  | .exit i => .loop { L with state := .done, pending := some (.exit i) }

theorem run_endRound_rec {L : Go.Loop} {l : Nat} {w : World} (y : Way) (h : w.heap[l]? = some (recOf L .busy)) : (Instr.endRound l y.jump).run P w = .ok (.bool y.b) (w.putObj l (recOf L y.ls)) := by
  rw [run_endRound y.jump h]
  cases y <;> rfl

theorem run_beginRound_rec {L : Go.Loop} {l : Nat} {w : World} (h : w.heap[l]? = some (recOf L .ready)) : (Instr.beginRound l).run P w = .ok () (w.putObj l (recOf L .busy)) := by
  rw [run_beginRound h rfl]
  rfl

/-- **code**: what its plain meaning tells holds of its runs -/
theorem go_sound (hN : NoNG P) (hm : P.follows .mixedOrders = true) : ∀ (n : Nat) (c : Code) (r : Option Nat) (Ko : Way → Fr → World → Prop) (an : An) (st : List Kt) (fr : Fr) (a : Act) (w : World),
    (r = none ∨ hasRF c = false) → fits P a.tmps.size c an = true → Agrees fr a.tmps → go P n Ko (some (c, an)) st fr w → c.wpIn (wideAt r) 0 P (Post P Ko n st (writes c) (hasRF c) a) a w
  | 0, _, _, _, _, _, _, _, _, _, _, _, h => by cases h
  | n + 1, .skip, _, _, _, st, fr, a, w, _, hf, ha, h => wpIn_skip ⟨.refl _ _, fr, n, [], Nat.lt_succ_self _, fun _ => rfl, rfl, ha, h⟩
  | n + 1, .label _, _, _, _, st, fr, a, w, _, hf, ha, h => wpIn_label ⟨.refl _ _, fr, n, [], Nat.lt_succ_self _, fun _ => rfl, rfl, ha, h⟩
  | n + 1, .region id ops dr, r, Ko, an, st, fr, a, w, _, hf, ha, h =>
    dRegion_wp hN hm (fits_region hf) (fits_nodef hf) (fits_plan hf) (fun c a' w' => Post.panic c a' w') (fun fr' a' w' ha' hk' hK => ⟨hk'.2, fr', n, [], Nat.lt_succ_self _, fun _ => rfl, hk'.1, ha', hK⟩) ha h
  | n + 1, .seq x y, r, Ko, an, st, fr, a, w, hrf, hf, ha, h => by
    have hx : ∀ i, i ∈ writes x → i ∈ writes (.seq x y) := fun i hi => mem_uni.2 (.inl hi)
    have hy : ∀ i, i ∈ writes y → i ∈ writes (.seq x y) := fun i hi => mem_uni.2 (.inr hi)
    have hrx : hasRF (.seq x y) = false → hasRF x = false := fun h => (by simpa [hasRF] using h : hasRF x = false ∧ hasRF y = false).1
    have hry : hasRF (.seq x y) = false → hasRF y = false := fun h => (by simpa [hasRF] using h : hasRF x = false ∧ hasRF y = false).2
    have plain : ∀ u v : An, fits P a.tmps.size x u = true → fits P a.tmps.size y v = true → go P n Ko (some (x, u)) (.seq y v :: st) fr w → (Code.seq x y).wpIn (wideAt r) 0 P (Post P Ko (n + 1) st (writes (.seq x y)) (hasRF (.seq x y)) a) a w := by
      intro u v hfx hfy h
      refine wpIn_seq (wpIn_mono (go_sound hN hm n x r Ko u _ fr a w (hrf.imp id hrx) hfx ha h) ?_)
      intro e a' w' hp
      cases e with
      | normal =>
        obtain ⟨hk, fr', m, ds, hmn, hd, hde, ha', h'⟩ := hp
        obtain ⟨m', rfl, h'⟩ := go_none_seq h'
        exact wpIn_mono (go_sound hN hm m' y r _ v st fr' a' w' (hrf.imp id hry) (hk.1.symm ▸ hfy) ha' h') (Post.mono hk hde (fun h => hd (hrx h)) hry hx hy (by omega))
      | exit i => exact Post.wide (a0 := a) hrx hx (Nat.le_succ _) (.exit i) a' w' hp
      | ret => exact Post.wide (a0 := a) hrx hx (Nat.le_succ _) .ret a' w' hp
      | goto l => exact hp
      | panic c => exact hp
      | outgrown => exact hp
    rw [go_succ] at h
    simp only [goStep] at h
    split at h
    · rename_i kp sl u v
      unfold fits at hf
      obtain ⟨hap, hf⟩ := fits_and hf
      obtain ⟨hnr, hf⟩ := fits_and hf
      obtain ⟨hfx, hfy⟩ := fits_and hf
      have hnr : hasRF x = false := by simpa using hnr
      obtain ⟨J, h1, h2⟩ := h
      refine wpIn_seq (wpIn_mono (go_sound hN hm n x r Ko u _ fr a w (.inr hnr) hfx ha h1) ?_)
      intro e a' w' hp
      cases e with
      | normal =>
        obtain ⟨hk, fr', m, ds, hmn, hd, hde, ha', h'⟩ := hp
        obtain ⟨s, hs, hh⟩ := gather_spec (go_none_fin h') ha'
        obtain ⟨t, ht, h3⟩ := keepFr_spec hk ha hap (h2 s w' hs)
        obtain ⟨z, hz, h4⟩ := rebuildK_spec h3 ht hh
        have hdn := hd hnr
        subst hdn
        exact wpIn_mono (go_sound hN hm n y r Ko v st z a' w' (hrf.imp id hry) (hk.1.symm ▸ hfy) hz h4) (Post.mono (es := []) hk hde (fun _ => rfl) hry hx hy (Nat.le_succ _))
      | exit i => exact Post.wide (a0 := a) hrx hx (Nat.le_succ _) (.exit i) a' w' hp
      | ret => exact Post.wide (a0 := a) hrx hx (Nat.le_succ _) .ret a' w' hp
      | goto l => exact hp
      | panic c => exact hp
      | outgrown => exact hp
    · rename_i u v
      unfold fits at hf
      obtain ⟨hfx, hfy⟩ := fits_and hf
      exact plain u v hfx hfy h
    · rename_i h1 h2
      obtain ⟨hfx, hfy⟩ := fits_seq_n hf h1 h2
      exact plain .n .n hfx hfy h
  | n + 1, .cond c x y, r, Ko, an, st, fr, a, w, hrf, hf, ha, h => by
    have hx : ∀ i, i ∈ writes x → i ∈ writes (.cond c x y) := fun i hi => mem_uni.2 (.inl hi)
    have hy : ∀ i, i ∈ writes y → i ∈ writes (.cond c x y) := fun i hi => mem_uni.2 (.inr hi)
    have hrx : hasRF (.cond c x y) = false → hasRF x = false := fun h => (by simpa [hasRF] using h : hasRF x = false ∧ hasRF y = false).1
    have hry : hasRF (.cond c x y) = false → hasRF y = false := fun h => (by simpa [hasRF] using h : hasRF x = false ∧ hasRF y = false).2
    have plain : ∀ u v : An, fits P a.tmps.size x u = true → fits P a.tmps.size y v = true → dBranch fr c (fun fr => go P n Ko (some (x, u)) st fr w) (fun fr => go P n Ko (some (y, v)) st fr w) → (Code.cond c x y).wpIn (wideAt r) 0 P (Post P Ko (n + 1) st (writes (.cond c x y)) (hasRF (.cond c x y)) a) a w := by
      intro u v hfx hfy h
      obtain ⟨b, fr', hb, ha', h1, h2⟩ := dBranch_spec ha h
      refine wpIn_cond_split hb (fun hbt => ?_) (fun hbf => ?_)
      · exact wpIn_mono (go_sound hN hm n x r Ko u st fr' a w (hrf.imp id hrx) hfx ha' (h1 hbt)) (Post.wide hrx hx (Nat.le_succ _))
      · exact wpIn_mono (go_sound hN hm n y r Ko v st fr' a w (hrf.imp id hry) hfy ha' (h2 hbf)) (Post.wide hry hy (Nat.le_succ _))
    rw [go_succ] at h
    simp only [goStep] at h
    split at h
    · rename_i u v
      unfold fits at hf
      obtain ⟨hfx, hfy⟩ := fits_and hf
      exact plain u v hfx hfy h
    · rename_i h1
      have hf' : fits P a.tmps.size x .n = true ∧ fits P a.tmps.size y .n = true := by
        unfold fits at hf
        split at hf
        · exact absurd rfl (h1 _ _)
        · exact fits_and hf
      exact plain .n .n hf'.1 hf'.2 h
  | n + 1, .block i c, r, Ko, an, st, fr, a, w, hrf, hf, ha, h => by
    have hrc : hasRF (.block i c) = false → hasRF c = false := fun h => h
    have plain : ∀ u : An, fits P a.tmps.size c u = true → go P n Ko (some (c, u)) (.blk i :: st) fr w → (Code.block i c).wpIn (wideAt r) 0 P (Post P Ko (n + 1) st (writes c) (hasRF (.block i c)) a) a w := by
      intro u hf h
      refine wpIn_block (wpIn_mono (go_sound hN hm n c r Ko u _ fr a w (hrf.imp id hrc) hf ha h) ?_)
      intro e a' w' hp
      cases e with
      | normal =>
        obtain ⟨hk, fr', m, ds, hmn, hd, hde, ha', h'⟩ := hp
        obtain ⟨m', rfl, h'⟩ := go_none_blk h'
        exact ⟨hk, fr', m', ds, by omega, hd, hde, ha', h'⟩
      | exit j =>
        obtain ⟨hk, fr', ds, hd, hde, ha', h'⟩ := hp
        simp only [Exit.inBlock]
        split
        · rename_i hj
          subst hj
          simp only [unw, beqRefl] at h'
          obtain ⟨m, hmn, h'⟩ := h'
          obtain ⟨m', rfl, h'⟩ := go_none_blk h'
          exact ⟨hk, fr', m', ds, by omega, hd, hde, ha', h'⟩
        · rename_i hj
          simp only [unw, beqNe hj] at h'
          refine ⟨hk, fr', ds, hd, hde, ha', ?_⟩
          split at h'
          · rename_i st' hu
            try rw [hu]
            obtain ⟨m, hmn, h'⟩ := h'
            exact ⟨m, by omega, h'⟩
          · rename_i hu
            try rw [hu]
            exact h'
      | ret => exact hp
      | goto l => exact hp
      | panic c => exact hp
      | outgrown => exact hp
    rw [go_succ] at h
    simp only [goStep] at h
    split at h
    · rename_i kp sl u
      unfold fits at hf
      obtain ⟨hap, hf⟩ := fits_and hf
      obtain ⟨hnr, hf⟩ := fits_and hf
      have hnr : hasRF c = false := by simpa using hnr
      obtain ⟨J, h1, h2⟩ := h
      have fin : ∀ fr' a' w', KeepS (writes c) a a' → a'.defers = a.defers → Agrees fr' a'.tmps → (gather fr' sl fun s => J s w') → Post P Ko (n + 1) st (writes c) (hasRF (.block i c)) a .normal a' w' := by
        intro fr' a' w' hk hde ha' h'
        obtain ⟨s, hs, hh⟩ := gather_spec h' ha'
        obtain ⟨t, ht, h3⟩ := keepFr_spec hk ha hap (h2 s w' hs)
        obtain ⟨z, hz, h4⟩ := rebuildK_spec h3 ht hh
        exact ⟨hk, z, n, [], Nat.lt_succ_self _, fun _ => rfl, hde, hz, h4⟩
      refine wpIn_block (wpIn_mono (go_sound hN hm n c r Ko u _ fr a w (.inr hnr) hf ha h1) ?_)
      intro e a' w' hp
      cases e with
      | normal =>
        obtain ⟨hk, fr', m, ds, hmn, hd, hde, ha', h'⟩ := hp
        have hdn := hd hnr
        subst hdn
        exact fin fr' a' w' hk hde ha' (go_none_blkJ h')
      | exit j =>
        obtain ⟨hk, fr', ds, hd, hde, ha', h'⟩ := hp
        have hdn := hd hnr
        subst hdn
        simp only [Exit.inBlock]
        split
        · rename_i hj
          subst hj
          simp only [unw, beqRefl] at h'
          obtain ⟨m, hmn, h'⟩ := h'
          exact fin fr' a' w' hk hde ha' (go_none_blkJ h')
        · rename_i hj
          simp only [unw, beqNe hj] at h'
          refine ⟨hk, fr', [], fun _ => rfl, hde, ha', ?_⟩
          split at h'
          · rename_i st' hu
            try rw [hu]
            obtain ⟨m, hmn, h'⟩ := h'
            exact ⟨m, by omega, h'⟩
          · rename_i hu
            try rw [hu]
            exact h'
      | ret => exact hp
      | goto l => exact hp
      | panic c => exact hp
      | outgrown => exact hp
    · rename_i u
      unfold fits at hf
      exact plain u hf h
    · rename_i h1 h2
      have hf' : fits P a.tmps.size c .n = true := by
        unfold fits at hf
        split at hf
        · exact absurd rfl (h1 _ _ _)
        · exact absurd rfl (h2 _)
        · exact hf
      exact plain .n hf' h
  | n + 1, .loop c, r, Ko, an, st, fr, a, w, hrf, hf, ha, h => by
    rw [go_succ] at h
    simp only [goStep] at h
    split at h
    · rename_i kp sl u
      unfold fits at hf
      obtain ⟨hap, hf⟩ := fits_and hf
      obtain ⟨hnr, hf⟩ := fits_and hf
      have hnr : hasRF c = false := by simpa using hnr
      obtain ⟨s0, hs0, hb0⟩ := gather_spec h ha
      obtain ⟨I, ⟨n0, hI0⟩, hround⟩ := hs0
      refine wpIn_loop_ghost (fun n a' w' => KeepS (writes c) a a' ∧ a'.defers = a.defers ∧ ∃ s, Holds a'.tmps _ s ∧ I s w' n) n0 ⟨.refl _ _, rfl, s0, hb0, hI0⟩ ?_
      rintro k a' w' ⟨hk, hde0, s, hb, hI⟩
      obtain ⟨t, ht, h3⟩ := keepFr_spec hk ha hap (hround s w' k hI)
      obtain ⟨z, hz, h4⟩ := rebuildK_spec h3 ht hb
      refine wpIn_mono (go_sound hN hm n c r Ko u _ z a' w' (.inr hnr) (hk.1.symm ▸ hf) hz h4) ?_
      intro e a'' w'' hp
      cases e with
      | normal =>
        obtain ⟨hk', fr', m, ds, hmn, hd, hde, ha', h'⟩ := hp
        have hdn := hd hnr
        subst hdn
        have hk2 := hk.trans hk' (fun _ h => h) (fun _ h => h)
        obtain ⟨s', ⟨m', hm', hI'⟩, hb'⟩ := gather_spec (go_none_fin h') ha'
        exact ⟨m', hm', hk2, hde.trans hde0, s', hb', hI'⟩
      | exit i =>
        obtain ⟨hk', fr', ds, hd, hde, ha', h'⟩ := hp
        have hdn := hd hnr
        subst hdn
        refine ⟨hk.trans hk' (fun _ h => h) (fun _ h => h), fr', [], fun _ => rfl, hde.trans hde0, ha', ?_⟩
        simp only [unw] at h'
        split at h'
        · rename_i st' hu
          try rw [hu]
          obtain ⟨m, hmn, h'⟩ := h'
          exact ⟨m, by omega, h'⟩
        · rename_i hu
          try rw [hu]
          exact h'
      | ret =>
        obtain ⟨hk', fr', ds, hd, hde, ha', h'⟩ := hp
        have hdn := hd hnr
        subst hdn
        exact ⟨hk.trans hk' (fun _ h => h) (fun _ h => h), fr', [], fun _ => rfl, hde.trans hde0, ha', h'⟩
      | goto l => exact hp
      | panic c => exact hp
      | outgrown => exact hp
    · cases h
  | n + 1, .exit i, r, Ko, _, st, fr, a, w, _, hf, ha, h => by
    rw [go_succ] at h
    simp only [goStep] at h
    refine wpIn_exit ⟨.refl _ _, fr, [], fun _ => rfl, rfl, ha, ?_⟩
    split at h
    · rename_i st' hu
      try rw [hu]
      exact ⟨n, Nat.lt_succ_self _, h⟩
    · rename_i hu
      try rw [hu]
      exact h
  | n + 1, .ret, _, _, _, _, fr, a, w, _, hf, ha, h => wpIn_ret ⟨.refl _ _, fr, [], fun _ => rfl, rfl, ha, h⟩
  | n + 1, .rangeFunc g ps x y, r, Ko, an, st, fr, a, w, hrf, hf, ha, h => by
    have hr : r = none := hrf.resolve_right (fun h => by cases h)
    subst hr
    rw [go_succ] at h
    simp only [goStep] at h
    split at h
    · rename_i u v sv hg
      unfold fits at hf
      obtain ⟨hps, hf⟩ := fits_and hf
      obtain ⟨hnx, hf⟩ := fits_and hf
      obtain ⟨hny, hf⟩ := fits_and hf
      obtain ⟨hfx, hfy⟩ := fits_and hf
      have hnx : hasRF x = false := by simpa using hnx
      have hny : hasRF y = false := by simpa using hny
      have hps : ∀ p ∈ ps.toList, p < a.tmps.size := fun p hp => Nat.le_of_ble_eq_true (Array.all_eq_true_iff_forall_mem.1 hps p (by simpa using hp))
      obtain ⟨f, first, cap, hv, hb, hcall⟩ := h
      have hev : a.eval g = .func (.func f) first.toArray cap.toArray := by rw [ev_eval ha hg]; exact hv
      have hw0 : Fence.wide = wideAt none := rfl
      refine wpIn_rangeFunc fun fn _ => ?_
      obtain ⟨L, hL⟩ : ∃ L : Go.Loop, L = { state := .ready, pending := none, fn, tmps := a.tmps, params := ps, assign := x, body := y, defers := w.heap.size } := ⟨_, rfl⟩
      have hlw : World.loop w (recOf L .ready) = (w.alloc (.deferred (some []))).alloc (.loop { state := .ready, pending := none, fn, tmps := a.tmps, params := ps, assign := x, body := y, defers := w.heap.size }) := by rw [hL]; rfl
      refine ⟨w.heap.size + 1, [{ target := .collected w.heap.size, args := #[] }], World.loop w (recOf L .ready), { target := .fn (.func f) cap.toArray, args := first.toArray ++ #[.func (.yield (w.heap.size + 1)) #[] #[]] }, World.loop w (recOf L .ready), f,
        (first ++ [Value.func (.yield (w.heap.size + 1)) #[] #[]] ++ cap).toArray, World.loop w (recOf L .ready), ?_, ?_, fun _ _ => trivial, ?_, fun hd => (by cases hd), ?_⟩
      · rw [hlw]; exact run_enterLoop_outer _ _ _ _ _
      · simp only [resolve, hev, Deferred.ofValue]
        simp [Act.eval]
      · have : (invoke (.fn (.func f) cap.toArray) (first.toArray ++ #[.func (.yield (w.heap.size + 1)) #[] #[]])).run P (World.loop w (recOf L .ready)) = .ok (.enter f (first.toArray ++ #[.func (.yield (w.heap.size + 1)) #[] #[]] ++ cap.toArray)) (World.loop w (recOf L .ready)) := by
          show (callFunc f _).run P _ = _
          exact run_callFunc_enter hN hb _ _
        rw [this]
        simp
      · refine CallsIn.mono (callsIn_at (r := none) ((hcall (recOf L) (.func (.yield (w.heap.size + 1)) #[] #[]) (.inr ⟨_, rfl⟩) ?_).out)) ?_
        · -- one round
          intro svs K w' hl hR
          obtain ⟨hlen, fr', hfr', hgo⟩ := setPs_spec ha hps hR
          have hl' : w'.heap[w.heap.size + 1]? = some (.loop L) := by rw [hl, hL]; rfl
          have hy0 := run_yield (P := P) (args := (svs.map SV.v).toArray) hl' (by rw [hL]; simpa using hlen)
          have htm : ((L.params.zip (svs.map SV.v).toArray).foldl (fun tmps (t, a) => tmps.setIfInBounds t a) L.tmps) = ((ps.toList.zip (svs.map SV.v)).foldl (fun t (p : Nat × Value) => t.setIfInBounds p.1 p.2) a.tmps) := by
            rw [hL, ← Array.foldl_toList]
            simp
          refine ⟨.inr ⟨w.heap.size + 1, L.fn, _, L.assign, L.body, rfl, hy0, ?_⟩⟩
          rw [htm]
          refine roundIn_of_at (r := none) (roundIn_of_wpIn trivial ?_)
          have hsz : ∀ (l : List (Nat × Value)) (t : Array Value), (l.foldl (fun t (p : Nat × Value) => t.setIfInBounds p.1 p.2) t).size = t.size := by
            intro l
            induction l with
            | nil => intro t; rfl
            | cons p l ih => intro t; rw [List.foldl_cons, ih]; simp
          have eas : L.assign = x := by rw [hL]
          have ebo : L.body = y := by rw [hL]
          rw [eas, ebo]
          refine wpIn_mono (go_sound hN hm n x (some (w.heap.size + 1)) _ u [] fr' { tmps := (ps.toList.zip (svs.map SV.v)).foldl (fun t (p : Nat × Value) => t.setIfInBounds p.1 p.2) a.tmps, defers := [] } w' (.inr hnx) (by rw [hsz]; exact hfx) hfr' hgo) ?_
          intro e a1 w1 hp
          cases e with
          | normal =>
            obtain ⟨hk1, fr1, m1, ds1, hmn1, hd1, hde1, ha1, h1⟩ := hp
            have hdn := hd1 hnx
            subst hdn
            obtain ⟨hl1, h2⟩ := go_none_nil h1
            refine ⟨_, run_beginRound_rec hl1, ?_⟩
            have hs1 : a1.tmps.size = a.tmps.size := hk1.1.trans (hsz _ _)
            refine wpIn_mono (go_sound hN hm n y (some (w.heap.size + 1)) _ v [] fr1 a1 _ (.inr hny) (by rw [hs1]; exact hfy) ha1 h2) ?_
            have fin : ∀ (wy : Way) (w2 : World), (w2.heap[w.heap.size + 1]? = some (recOf L .busy) ∧ K wy.b (w2.putObj (w.heap.size + 1) (recOf L wy.ls))) →
                ∃ v w3, (Instr.endRound (w.heap.size + 1) wy.jump).run P w2 = .ok v w3 ∧ ∃ b, Ending.returned v = .returned ((Rs.one (.s .bool)).v b) ∧ K b w3 := fun wy w2 h =>
              ⟨_, _, run_endRound_rec wy h.1, wy.b, rfl, h.2⟩
            intro e a2 w2 hp2
            cases e with
            | normal =>
              obtain ⟨hk2, fr2, m2, ds2, hmn2, hd2, hde2, ha2, h3⟩ := hp2
              have hdn := hd2 hny
              subst hdn
              exact fin .on w2 (go_none_nil h3)
            | ret =>
              obtain ⟨hk2, fr2, ds2, hd2, hde2, ha2, h3⟩ := hp2
              have hdn := hd2 hny
              subst hdn
              exact fin .ret w2 h3
            | exit i =>
              obtain ⟨hk2, fr2, ds2, hd2, hde2, ha2, h3⟩ := hp2
              have hdn := hd2 hny
              subst hdn
              simp only [unw] at h3
              exact fin (.exit i) w2 h3
            | goto l => exact hp2.elim
            | panic c => exact hp2.elim
            | outgrown => exact hp2.elim
          | ret =>
            obtain ⟨hk1, fr1, ds1, hd1, hde1, ha1, h1⟩ := hp
            have hdn := hd1 hnx
            subst hdn
            cases h1
          | exit i =>
            obtain ⟨hk1, fr1, ds1, hd1, hde1, ha1, h1⟩ := hp
            have hdn := hd1 hnx
            subst hdn
            simp only [unw] at h1
            cases h1
          | goto l => exact hp.elim
          | panic c => exact hp.elim
          | outgrown => exact hp.elim
        · -- behind it
          rintro e w2 ⟨_, rfl, wy, hl2, hnext⟩
          have hend : (Instr.endLoop (w.heap.size + 1)).run P w2 = .ok wy.jump (w2.putObj (w.heap.size + 1) (recOf L (.out wy))) := by
            cases wy <;> (rw [run_endLoop hl2 (by simp)]; rfl)
          refine ⟨wy.jump, _, hend, ?_⟩
          have hmk : ({ a with defers := [{ target := .collected w.heap.size, args := #[] }] ++ a.defers } : Act).defers = marks [w.heap.size] ++ a.defers := rfl
          have hkp : KeepS (writes (.rangeFunc g ps x y)) a { a with defers := [{ target := .collected w.heap.size, args := #[] }] ++ a.defers } := ⟨rfl, fun _ _ => rfl⟩
          cases wy with
          | on => exact ⟨hkp, fr, n, [w.heap.size], Nat.lt_succ_self _, fun h => (by cases h), hmk, ha, hnext⟩
          | ret => exact wpIn_ret ⟨hkp, fr, [w.heap.size], fun h => (by cases h), hmk, ha, hnext⟩
          | exit i =>
            refine wpIn_exit ⟨hkp, fr, [w.heap.size], fun h => (by cases h), hmk, ha, ?_⟩
            simp only [behindK] at hnext
            split at hnext
            · rename_i st' hu
              try rw [hu]
              exact ⟨n, Nat.lt_succ_self _, hnext⟩
            · rename_i hu
              try rw [hu]
              exact hnext
    · cases h
  | n + 1, .scope .., _, _, _, _, _, _, _, _, _, _, h => (by rw [go_succ] at h; simp only [goStep] at h; cases h)
  | n + 1, .goto .., _, _, _, _, _, _, _, _, _, _, h => (by rw [go_succ] at h; simp only [goStep] at h; cases h)
  | n + 1, .refuse .., _, _, _, _, _, _, _, _, _, _, h => (by rw [go_succ] at h; simp only [goStep] at h; cases h)

/-! ### a call -/

def rdRes (t : Array Value) : ResultVar → Sem Value
  | .tmp t' => pure (t.getD t' undef)
  | .cell a ty => do loadVar ty (← asAddr (t.getD a undef))

theorem rdRes_cell {t : Array Value} {a : Tmp} {ty : TypeId} {x : Addr} {w w' : World} {v : Value} (h : t.getD a undef = .pointer (some x)) (hl : (loadVar ty x).run P w = .ok v w') : (rdRes t (.cell a ty)).run P w = .ok v w' := by
  show (asAddr (t.getD a undef) >>= fun x => loadVar ty x).run P w = _
  rw [h]
  simp only [asAddr, Sem.run_bind, Sem.run_pure, Result.andThen, hl]

theorem retsK_run : ∀ {l : List ResultVar} {fr : Fr} {w : World} {K : List Value → Prop} {t : Array Value}, Agrees fr t → retsK P l fr w K →
    ∃ vs, (l.mapM (rdRes t)).run P w = .ok vs w ∧ K vs
  | [], _, _, _, _, _, h => ⟨[], by simp, h⟩
  | .tmp t' :: r, fr, w, K, t, ha, h => by
    simp only [retsK] at h
    split at h
    · rename_i v hv
      obtain ⟨vs, h1, h2⟩ := retsK_run ha h
      refine ⟨v.v :: vs, ?_, h2⟩
      have : t.getD t' undef = v.v := by simp [ha _ _ hv]
      have h3 : (rdRes t (.tmp t')).run P w = .ok v.v w := by
        show (pure (t.getD t' undef) : Sem Value).run P w = _
        rw [this]
        rfl
      simp only [List.mapM_cons, Sem.run_bind, Sem.run_pure, Result.andThen, h3, h1]
    · cases h
  | .cell a ty :: r, fr, w, K, t, ha, h => by
    simp only [retsK] at h
    split at h
    · rename_i hh x ht hx
      split at h
      · rename_i hz
        obtain ⟨y, h1, h2⟩ := h
        obtain ⟨vs, h3, h4⟩ := retsK_run ha h2
        refine ⟨(hh.mk y).sv.v :: vs, ?_, h4⟩
        have : t.getD a undef = .pointer (some x) := by simp [ha _ _ hx, SV.v, S1.v]
        have h5 := rdRes_cell this (run_loadVar ht hz (h1 w rfl))
        simp only [List.mapM_cons, Sem.run_bind, Sem.run_pure, Result.andThen, h5, h3]
      · cases h
    · cases h

theorem retsK_results {fn : Func} {fr : Fr} {w : World} {K : Value → Prop} {t : Array Value} (ha : Agrees fr t) (h : retsK P fn.results.toList fr w fun l => K (retV l)) :
    ∃ v, (results fn t).run P w = .ok v w ∧ K v := by
  obtain ⟨vs, h1, h2⟩ := retsK_run ha h
  refine ⟨retV vs, ?_, h2⟩
  unfold results
  simp only [Sem.run_bind]
  rw [Array.mapM_eq_mapM_toList, Sem.run_map]
  have e : ∀ (f : ResultVar → Sem Value), (∀ x, f x = rdRes t x) → (fn.results.toList.mapM f).run P w = .ok vs w := by
    intro f hf
    have : f = rdRes t := funext hf
    rw [this]
    exact h1
  rw [e _ (fun x => by cases x <;> rfl)]
  simp only [Result.andThen, Sem.run_pure]
  congr 1
  rcases vs with _ | ⟨v, _ | ⟨u, r⟩⟩ <;> simp [retV]

theorem initK_spec {a : Array Value} : ∀ {args : List SV} {i : Nat} {K : Fr → Prop}, initK i args K → (∀ j sv, args[j]? = some sv → a[i + j]? = some sv.v) → ∃ fr, Agrees fr a ∧ K fr
  | [], i, K, h, _ => ⟨[], fun j sv hj => (by cases hj), h⟩
  | x :: r, i, K, h, ha => by
    obtain ⟨fr, h1, h2⟩ := initK_spec (args := r) (i := i + 1) h fun j sv hj => by
      rw [show i + 1 + j = i + (j + 1) by omega]
      exact ha (j + 1) sv hj
    exact ⟨_, h1.cons fun sv he => (by cases he; simpa using ha 0 x rfl), h2⟩

theorem leaves_marked {fn : Func} {fr : Fr} {t : Array Value} {K : Value → World → Prop} {y : Way} (hy : ∀ i, y ≠ .exit i) : ∀ (ds : List Nat) (w : World), Agrees fr t → markedK (finK P fn K) ds y fr w →
    LeavesInM Fence.wide 0 P fn t (fun e w' => ∃ v, e = .returned v ∧ K v w') (marks ds) .returning w
  | [], w, ha, h => by
    have h' : retsK P fn.results.toList fr w fun l => K (retV l) w := by
      cases y with
      | on => exact h
      | ret => exact h
      | exit i => exact absurd rfl (hy i)
    obtain ⟨v, h1, h2⟩ := retsK_results (K := fun v => K v w) ha h'
    exact ⟨v, h1, v, rfl, h2⟩
  | d :: ds, w, ha, h => ⟨fun h => (by cases h), .inl ⟨d, _, rfl, run_takeDeferred h.1, leaves_marked hy ds _ ha h.2⟩⟩

/-- **a call**: what its plain meaning tells holds of its runs -/
theorem dFn_calls (hN : NoNG P) (hm : P.follows .mixedOrders = true) {f : FuncId} {fn : Func} (hf : P.funcs[f]? = some fn) {an : An} {args : List SV} {K : Value → World → Prop} {w : World} (hn : args.length ≤ fn.ntmps) (hfit : fitsFn P an fn = true)
    (h : dFn P an fn args K w) : Calls P f (args.map SV.v).toArray w fun e w' => ∃ v, e = .returned v ∧ K v w' := by
  unfold dFn at h
  split at h
  · rename_i c hc
    have hsz : ((args.map SV.v).toArray ++ Array.replicate (fn.ntmps - (args.map SV.v).toArray.size) undef).size = fn.ntmps := by
      simp; omega
    have hfc : fits P fn.ntmps c an = true := by unfold fitsFn at hfit; rw [hc] at hfit; exact hfit
    obtain ⟨fr0, hfr0, h⟩ := initK_spec (a := (args.map SV.v).toArray ++ Array.replicate (fn.ntmps - (args.map SV.v).toArray.size) undef) h (fun j sv hj => by
      have hl : j < args.length := (List.getElem?_eq_some_iff.1 hj).1
      rw [Nat.zero_add, Array.getElem?_append_left (by simpa using hl)]
      simp [hj])
    refine callsIn_wide.1 (callsIn_of_wp_marks (F := Fence.wide) (n := 0) hf hc trivial (wpIn_mono (go_sound hN hm 2000 c none _ an [] fr0 _ w (.inl rfl) (by show fits P (_ : Array Value).size c an = true; rw [hsz]; exact hfc) hfr0 h) ?_))
    intro e a w' hp
    cases e with
    | normal =>
      obtain ⟨hk, fr, m, ds, hmn, hd, hde, ha, h'⟩ := hp
      have e : a.defers = marks ds := by rw [hde]; simp
      show LeavesInM _ _ _ _ a.tmps _ a.defers _ _
      rw [e]
      exact leaves_marked (y := .on) (fun _ h => by cases h) ds w' ha (go_none_nil h')
    | ret =>
      obtain ⟨hk, fr, ds, hd, hde, ha, h'⟩ := hp
      have e : a.defers = marks ds := by rw [hde]; simp
      show LeavesInM _ _ _ _ a.tmps _ a.defers _ _
      rw [e]
      exact leaves_marked (y := .ret) (fun _ h => by cases h) ds w' ha h'
    | exit i =>
      obtain ⟨hk, fr, ds, hd, hde, ha, h'⟩ := hp
      simp only [unw] at h'
      have : ∀ (ds : List Nat) (w : World), ¬ markedK (finK P fn K) ds (.exit i) fr w := by
        intro ds
        induction ds with
        | nil => intro w h; cases h
        | cons d ds ih => intro w h; exact ih _ h.2
      exact (this _ _ h').elim
    | goto l => exact hp.elim
    | panic c => exact hp.elim
    | outgrown => exact hp.elim
  · cases h

end
end Go.Proofs.Ytocmjngleknlbaa.K
