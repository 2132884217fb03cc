/-
  What the plain meaning tells holds of the model's runs: code, and calls.
-/
import Derived.Test.YtohoimokfgfceaaEngG
import Derived.Deep.LoopGhost
namespace Go.Proofs.Ytohoimokfgfceaa.K
open Go
section
variable {P : Program}

def Post (P : Program) (KR : Fr → World → Prop) (n : Nat) (st : List Kt) (ws : List Nat) (a0 : Act) : Exit → Act → World → Prop
  | .normal, a, w => Keep ws a0 a ∧ ∃ fr m, m < n ∧ Agrees fr a.tmps ∧ go P KR m none st fr w
  | .exit i, a, w => Keep ws a0 a ∧ ∃ fr m st', m < n ∧ unw i st = some st' ∧ Agrees fr a.tmps ∧ go P KR m none st' fr w
  | .ret, a, w => Keep ws a0 a ∧ ∃ fr, Agrees fr a.tmps ∧ KR fr w
  | _, _, _ => False

variable {KR : Fr → World → Prop}

theorem Post.panic {n : Nat} {st : List Kt} {ws : List Nat} {a0 : Act} (c : List PanicEntry) (a : Act) (w : World) : ¬ Post P KR n st ws a0 (.panic c) a w := id

/-- what is known of slots that are not written fits what stands behind -/
theorem keepFr_spec {ws : List Nat} {fr : Fr} {a a' : Act} (hk : Keep ws a a') (ha : Agrees fr a.tmps) : ∀ {l : List Nat} {K : Fr → Prop}, apartL l ws = true → keepFr fr l K → ∃ t, Agrees t a'.tmps ∧ K t
  | [], K, _, h => ⟨[], fun i sv hi => (by cases hi), h⟩
  | s :: r, K, hp, h => by
    simp only [keepFr] at h
    simp only [apartL, List.all_cons, Bool.and_eq_true] at hp
    obtain ⟨hn, hr⟩ := hp
    have hs : s ∉ ws := by simpa using hn
    split at h
    · rename_i v hv
      obtain ⟨t, h1, h2⟩ := keepFr_spec hk ha hr h
      refine ⟨_, h1.cons fun sv he => ?_, h2⟩
      cases he
      rw [hk.2.2 s hs]
      exact ha s _ hv
    · exact keepFr_spec hk ha hr h

theorem Sc.get_spec {s : Sc} {v : S1} {K : s.T → Prop} (h : s.get v K) : ∃ x, K x ∧ (s.mk x).v = v.v := by
  unfold Sc.get at h
  split at h
  all_goals first
    | (cases h; done)
    | exact ⟨_, h, rfl⟩
    | (split at h
       · rename_i hk; subst hk; exact ⟨_, h, rfl⟩
       · cases h)

theorem ScsGet_spec : ∀ {l : List Sc} {vs : List S1} {K : ScsT l → Prop}, ScsGet l vs K → ∃ x, K x ∧ (ScsMk l x).map S1.v = vs.map S1.v
  | [], [], K, h => ⟨(), h, rfl⟩
  | [], _ :: _, K, h => (by cases h)
  | [s], [], K, h => (by cases h)
  | [s], [v], K, h => by
    obtain ⟨x, h1, h2⟩ := Sc.get_spec h
    exact ⟨x, h1, by simp [ScsMk, h2]⟩
  | [s], _ :: _ :: _, K, h => (by cases h)
  | s :: t :: r, [], K, h => (by cases h)
  | s :: t :: r, v :: u, K, h => by
    obtain ⟨x, h1, h2⟩ := Sc.get_spec h
    obtain ⟨y, h3, h4⟩ := ScsGet_spec h1
    exact ⟨(x, y), h3, by simp [ScsMk, h2, h4]⟩

theorem Sh.get_spec {h : Sh} {v : SV} {K : h.T → Prop} (hg : h.get v K) : ∃ x, K x ∧ (h.mk x).sv.v = v.v := by
  unfold Sh.get at hg
  split at hg
  · obtain ⟨x, h1, h2⟩ := Sc.get_spec hg
    exact ⟨x, h1, by simpa [Sh.mk, S2.sv, SV.v] using h2⟩
  · obtain ⟨x, h1, h2⟩ := ScsGet_spec hg
    exact ⟨x, h1, by simp only [Sh.mk, S2.sv, SV.v, h2]⟩
  · cases hg

/-- slots that hold these values -/
def Holds (a : Array Value) : (l : List (Nat × Sh)) → ShsT (l.map (·.2)) → Prop
  | [], _ => True
  | [(s, h)], x => a[s]? = some (h.mk x).sv.v
  | (s, h) :: (t, g) :: r, x => a[s]? = some (h.mk x.1).sv.v ∧ Holds a ((t, g) :: r) x.2

theorem gather_spec : ∀ {l : List (Nat × Sh)} {fr : Fr} {a : Array Value} {K : ShsT (l.map (·.2)) → Prop}, gather fr l K → Agrees fr a → ∃ s, K s ∧ Holds a l s
  | [], _, _, _, h, _ => ⟨(), h, trivial⟩
  | [(s, h)], fr, a, K, hg, ha => by
    simp only [gather] at hg
    split at hg
    · rename_i v hv
      obtain ⟨x, h1, h2⟩ := Sh.get_spec hg
      exact ⟨x, h1, (ha s v hv).trans (congrArg some h2.symm)⟩
    · cases hg
  | (s, h) :: (t, g) :: r, fr, a, K, hg, ha => by
    simp only [gather] at hg
    split at hg
    · rename_i v hv
      obtain ⟨x, h1, h2⟩ := Sh.get_spec hg
      obtain ⟨y, h3, h4⟩ := gather_spec h1 ha
      exact ⟨(x, y), h3, (ha s v hv).trans (congrArg some h2.symm), h4⟩
    · cases hg

theorem rebuildK_spec {a : Array Value} : ∀ {l : List (Nat × Sh)} {fr : Fr} {x : ShsT (l.map (·.2))} {K : Fr → Prop}, rebuildK fr l x K → Agrees fr a → Holds a l x → ∃ t, Agrees t a ∧ K t
  | [], fr, _, _, h, ha, _ => ⟨fr, ha, h⟩
  | [(s, h)], fr, x, K, hr, ha, hh => ⟨_, ha.cons fun sv he => (by cases he; exact hh), hr⟩
  | (s, h) :: (t, g) :: r, fr, x, K, hr, ha, hh => by
    simp only [rebuildK] at hr
    exact rebuildK_spec hr (ha.cons fun sv he => by cases he; exact hh.1) hh.2

theorem dBranch_spec {fr : Fr} {c : Operand} {a : Act} {X Y : Fr → Prop} (ha : Agrees fr a.tmps) (h : dBranch fr c X Y) :
    ∃ b fr', a.eval c = .bool b ∧ Agrees fr' a.tmps ∧ (b = true → X fr') ∧ (b = false → Y fr') := by
  unfold dBranch at h
  split at h
  · rename_i hc; exact ⟨true, fr, ev_eval ha hc, ha, fun _ => h, fun h => (by cases h)⟩
  · rename_i hc; exact ⟨false, fr, ev_eval ha hc, ha, fun h => (by cases h), fun _ => h⟩
  · rename_i b hc
    split at h
    · rename_i t
      have hset : ∀ c, b = c → Agrees (fr.set t (some (.s (.lit c)))) a.tmps := fun c hcc => ha.set _ hc (by subst hcc; rfl)
      cases b
      · exact ⟨false, _, ev_eval ha hc, hset false rfl, fun h => (by cases h), fun _ => h.no rfl⟩
      · exact ⟨true, _, ev_eval ha hc, hset true rfl, fun _ => h.yes rfl, fun h => (by cases h)⟩
    · exact ⟨b, fr, ev_eval ha hc, ha, h.yes, h.no⟩
  · cases h

theorem Post.mono {n m : Nat} {st : List Kt} {us vs ws : List Nat} {a0 a1 : Act} (hk : Keep ws a0 a1) (hws : ∀ i, i ∈ ws → i ∈ vs) (hus : ∀ i, i ∈ us → i ∈ vs) (hm : m ≤ n) : ∀ e a w, Post P KR m st us a1 e a w → Post P KR n st vs a0 e a w := by
  intro e a w h
  cases e with
  | normal => obtain ⟨h1, fr, k, h2, h3⟩ := h; exact ⟨hk.trans h1 hws hus, fr, k, by omega, h3⟩
  | exit i => obtain ⟨h1, fr, k, st', h2, h3⟩ := h; exact ⟨hk.trans h1 hws hus, fr, k, st', by omega, h3⟩
  | ret => obtain ⟨h1, fr, h3⟩ := h; exact ⟨hk.trans h1 hws hus, fr, h3⟩
  | goto l => exact h
  | panic c => exact h
  | outgrown => exact h

theorem fits_region {an : An} {n id : Nat} {ops : Array Oper} {dr : Bool} (h : fits P n (.region id ops dr) an = true) : Fit n ops.toList := by
  intro o ho d hd
  have h0 : (ops.all (fun o => match o.dst with | some d => Nat.blt d n | none => true) && drOK dr (planOK P ops an)) = true := h
  have h1 := ((Bool.and_eq_true _ _).mp h0).1
  have h2 := Array.all_eq_true_iff_forall_mem.1 h1 o (by simpa using ho)
  rw [hd] at h2
  exact Nat.le_of_ble_eq_true h2

theorem fits_plan {an : An} {n id : Nat} {ops : Array Oper} {dr : Bool} (h : fits P n (.region id ops dr) an = true) : drOK dr (planOK P ops an) = true := by
  have h0 : (ops.all (fun o => match o.dst with | some d => Nat.blt d n | none => true) && drOK dr (planOK P ops an)) = true := h
  exact ((Bool.and_eq_true _ _).mp h0).2

theorem fits_and {a b : Bool} (h : (a && b) = true) : a = true ∧ b = true := by simpa using h

theorem beqRefl {i : Nat} : Nat.beq i i = true := Nat.beq_refl i
theorem beqNe {i j : Nat} (h : ¬ j = i) : Nat.beq j i = false := by
  cases hb : Nat.beq j i
  · rfl
  · exact absurd (Nat.eq_of_beq_eq_true hb) h

theorem fits_seq_n {n : Nat} {x y : Code} {an : An} (h : fits P n (.seq x y) an = true) (hj : ∀ kp sl u v, an ≠ .j kp sl u v) (hp : ∀ u v, an ≠ .p u v) : fits P n x .n = true ∧ fits P n y .n = true := by
  unfold fits at h
  split at h
  · exact absurd rfl (hj _ _ _ _)
  · exact absurd rfl (hp _ _)
  · exact fits_and h

theorem go_none_seq {n : Nat} {b : Code} {y : An} {st : List Kt} {fr : Fr} {w : World} (h : go P KR n none (.seq b y :: st) fr w) : ∃ m, m + 1 = n ∧ go P KR m (some (b, y)) st fr w := by
  cases n with
  | zero => cases h
  | succ m => exact ⟨m, rfl, h⟩

theorem go_none_blk {n i : Nat} {st : List Kt} {fr : Fr} {w : World} (h : go P KR n none (.blk i :: st) fr w) : ∃ m, m + 1 = n ∧ go P KR m none st fr w := by
  cases n with
  | zero => cases h
  | succ m => exact ⟨m, rfl, h⟩

theorem go_none_blkJ {n i : Nat} {sl : List (Nat × Sh)} {J : ShsT (sl.map (·.2)) → World → Prop} {st : List Kt} {fr : Fr} {w : World} (h : go P KR n none (.blkJ i sl J :: st) fr w) : gather fr sl fun s => J s w := by
  cases n with
  | zero => cases h
  | succ m => exact h

theorem go_none_fin {n : Nat} {sl : List (Nat × Sh)} {J : ShsT (sl.map (·.2)) → World → Prop} {st : List Kt} {fr : Fr} {w : World} (h : go P KR n none (.fin sl J :: st) fr w) : gather fr sl fun s => J s w := by
  cases n with
  | zero => cases h
  | succ m => exact h

/-- **code**: what its plain meaning tells holds of its runs -/
theorem go_sound (hN : NoNG P) (hm : P.follows .mixedOrders = true) : ∀ (n : Nat) (c : Code) (an : An) (st : List Kt) (fr : Fr) (a : Act) (w : World),
    fits P a.tmps.size c an = true → Agrees fr a.tmps → go P KR n (some (c, an)) st fr w → c.wp P (Post P KR n st (writes c) a) a w
  | 0, _, _, _, _, _, _, _, _, h => by cases h
  | n + 1, .skip, _, st, fr, a, w, hf, ha, h => wp_skip ⟨.refl _ _, fr, n, Nat.lt_succ_self _, ha, h⟩
  | n + 1, .label _, _, st, fr, a, w, hf, ha, h => wp_label ⟨.refl _ _, fr, n, Nat.lt_succ_self _, ha, h⟩
  | n + 1, .region id ops dr, an, st, fr, a, w, hf, ha, h =>
    dRegion_wp hN hm (fits_region hf) (fits_plan hf) (fun c a' w' => Post.panic c a' w') (fun fr' a' w' ha' hk' hK => ⟨hk', fr', n, Nat.lt_succ_self _, ha', hK⟩) ha h
  | n + 1, .seq x y, an, st, fr, a, w, hf, ha, h => by
    have hx : ∀ i, i ∈ writes x → i ∈ writes (.seq x y) := fun i hi => mem_uni.2 (.inl hi)
    have hy : ∀ i, i ∈ writes y → i ∈ writes (.seq x y) := fun i hi => mem_uni.2 (.inr hi)
    have plain : ∀ u v : An, fits P a.tmps.size x u = true → fits P a.tmps.size y v = true → go P KR n (some (x, u)) (.seq y v :: st) fr w → (Code.seq x y).wp P (Post P KR (n + 1) st (writes (.seq x y)) a) a w := by
      intro u v hfx hfy h
      refine wp_seq (wp_mono (go_sound hN hm n x u _ fr a w hfx ha h) ?_)
      intro e a' w' hp
      cases e with
      | normal =>
        obtain ⟨hk, fr', m, hmn, ha', h'⟩ := hp
        obtain ⟨m', rfl, h'⟩ := go_none_seq h'
        exact wp_mono (go_sound hN hm m' y v st fr' a' w' (hk.2.1.symm ▸ hfy) ha' h') (Post.mono hk hx hy (by omega))
      | exit i =>
        obtain ⟨hk, fr', m, st', hmn, hu, ha', h'⟩ := hp
        exact ⟨hk.trans (.refl [] a') hx (fun _ h => by cases h), fr', m, st', by omega, hu, ha', h'⟩
      | ret =>
        obtain ⟨hk, fr', ha', h'⟩ := hp
        exact ⟨hk.trans (.refl [] a') hx (fun _ h => by cases h), fr', ha', h'⟩
      | goto l => exact hp
      | panic c => exact hp
      | outgrown => exact hp
    rw [go_succ] at h
    simp only [goStep] at h
    split at h
    · rename_i kp sl u v
      unfold fits at hf
      obtain ⟨hap, hf⟩ := fits_and hf
      obtain ⟨hfx, hfy⟩ := fits_and hf
      obtain ⟨J, h1, h2⟩ := h
      refine wp_seq (wp_mono (go_sound hN hm n x u _ fr a w hfx ha h1) ?_)
      intro e a' w' hp
      cases e with
      | normal =>
        obtain ⟨hk, fr', m, hmn, ha', h'⟩ := hp
        obtain ⟨s, hs, hh⟩ := gather_spec (go_none_fin h') ha'
        obtain ⟨t, ht, h3⟩ := keepFr_spec hk ha hap (h2 s w' hs)
        obtain ⟨z, hz, h4⟩ := rebuildK_spec h3 ht hh
        exact wp_mono (go_sound hN hm n y v st z a' w' (hk.2.1.symm ▸ hfy) hz h4) (Post.mono hk hx hy (Nat.le_succ _))
      | exit i =>
        obtain ⟨hk, fr', m, st', hmn, hu, ha', h'⟩ := hp
        exact ⟨hk.trans (.refl [] a') hx (fun _ h => by cases h), fr', m, st', by omega, hu, ha', h'⟩
      | ret =>
        obtain ⟨hk, fr', ha', h'⟩ := hp
        exact ⟨hk.trans (.refl [] a') hx (fun _ h => by cases h), fr', ha', h'⟩
      | goto l => exact hp
      | panic c => exact hp
      | outgrown => exact hp
    · rename_i u v
      unfold fits at hf
      obtain ⟨hfx, hfy⟩ := fits_and hf
      exact plain u v hfx hfy h
    · rename_i h1 h2
      obtain ⟨hfx, hfy⟩ := fits_seq_n hf h1 h2
      exact plain .n .n hfx hfy h
  | n + 1, .cond c x y, an, st, fr, a, w, hf, ha, h => by
    have hx : ∀ i, i ∈ writes x → i ∈ writes (.cond c x y) := fun i hi => mem_uni.2 (.inl hi)
    have hy : ∀ i, i ∈ writes y → i ∈ writes (.cond c x y) := fun i hi => mem_uni.2 (.inr hi)
    have plain : ∀ u v : An, fits P a.tmps.size x u = true → fits P a.tmps.size y v = true → dBranch fr c (fun fr => go P KR n (some (x, u)) st fr w) (fun fr => go P KR n (some (y, v)) st fr w) → (Code.cond c x y).wp P (Post P KR (n + 1) st (writes (.cond c x y)) a) a w := by
      intro u v hfx hfy h
      obtain ⟨b, fr', hb, ha', h1, h2⟩ := dBranch_spec ha h
      refine wp_cond_split hb (fun hbt => ?_) (fun hbf => ?_)
      · exact wp_mono (go_sound hN hm n x u st fr' a w hfx ha' (h1 hbt)) (Post.mono (.refl [] a) (fun _ h => (by cases h)) hx (Nat.le_succ _))
      · exact wp_mono (go_sound hN hm n y v st fr' a w hfy ha' (h2 hbf)) (Post.mono (.refl [] a) (fun _ h => (by cases h)) hy (Nat.le_succ _))
    rw [go_succ] at h
    simp only [goStep] at h
    split at h
    · rename_i u v
      unfold fits at hf
      obtain ⟨hfx, hfy⟩ := fits_and hf
      exact plain u v hfx hfy h
    · rename_i h1
      have hf' : fits P a.tmps.size x .n = true ∧ fits P a.tmps.size y .n = true := by
        unfold fits at hf
        split at hf
        · exact absurd rfl (h1 _ _)
        · exact fits_and hf
      exact plain .n .n hf'.1 hf'.2 h
  | n + 1, .block i c, an, st, fr, a, w, hf, ha, h => by
    have plain : ∀ u : An, fits P a.tmps.size c u = true → go P KR n (some (c, u)) (.blk i :: st) fr w → (Code.block i c).wp P (Post P KR (n + 1) st (writes c) a) a w := by
      intro u hf h
      refine wp_block (wp_mono (go_sound hN hm n c u _ fr a w hf ha h) ?_)
      intro e a' w' hp
      cases e with
      | normal =>
        obtain ⟨hk, fr', m, hmn, ha', h'⟩ := hp
        obtain ⟨m', rfl, h'⟩ := go_none_blk h'
        exact ⟨hk, fr', m', by omega, ha', h'⟩
      | exit j =>
        obtain ⟨hk, fr', m, st', hmn, hu, ha', h'⟩ := hp
        simp only [Exit.inBlock]
        simp only [unw] at hu
        split
        · rename_i hj
          subst hj
          rw [beqRefl] at hu
          cases hu
          obtain ⟨m', rfl, h'⟩ := go_none_blk h'
          exact ⟨hk, fr', m', by omega, ha', h'⟩
        · rename_i hj
          rw [beqNe hj] at hu
          exact ⟨hk, fr', m, st', by omega, hu, ha', h'⟩
      | ret => exact hp
      | goto l => exact hp
      | panic c => exact hp
      | outgrown => exact hp
    rw [go_succ] at h
    simp only [goStep] at h
    split at h
    · rename_i kp sl u
      unfold fits at hf
      obtain ⟨hap, hf⟩ := fits_and hf
      obtain ⟨J, h1, h2⟩ := h
      have fin : ∀ fr' a' w', Keep (writes c) a a' → Agrees fr' a'.tmps → (gather fr' sl fun s => J s w') → Post P KR (n + 1) st (writes c) a .normal a' w' := by
        intro fr' a' w' hk ha' h'
        obtain ⟨s, hs, hh⟩ := gather_spec h' ha'
        obtain ⟨t, ht, h3⟩ := keepFr_spec hk ha hap (h2 s w' hs)
        obtain ⟨z, hz, h4⟩ := rebuildK_spec h3 ht hh
        exact ⟨hk, z, n, Nat.lt_succ_self _, hz, h4⟩
      refine wp_block (wp_mono (go_sound hN hm n c u _ fr a w hf ha h1) ?_)
      intro e a' w' hp
      cases e with
      | normal =>
        obtain ⟨hk, fr', m, hmn, ha', h'⟩ := hp
        exact fin fr' a' w' hk ha' (go_none_blkJ h')
      | exit j =>
        obtain ⟨hk, fr', m, st', hmn, hu, ha', h'⟩ := hp
        simp only [Exit.inBlock]
        simp only [unw] at hu
        split
        · rename_i hj
          subst hj
          rw [beqRefl] at hu
          cases hu
          exact fin fr' a' w' hk ha' (go_none_blkJ h')
        · rename_i hj
          rw [beqNe hj] at hu
          exact ⟨hk, fr', m, st', by omega, hu, ha', h'⟩
      | ret => exact hp
      | goto l => exact hp
      | panic c => exact hp
      | outgrown => exact hp
    · rename_i u
      unfold fits at hf
      exact plain u hf h
    · rename_i h1 h2
      have hf' : fits P a.tmps.size c .n = true := by
        unfold fits at hf
        split at hf
        · exact absurd rfl (h1 _ _ _)
        · exact absurd rfl (h2 _)
        · exact hf
      exact plain .n hf' h
  | n + 1, .loop c, an, st, fr, a, w, hf, ha, h => by
    rw [go_succ] at h
    simp only [goStep] at h
    split at h
    · rename_i kp sl u
      unfold fits at hf
      obtain ⟨hap, hf⟩ := fits_and hf
      obtain ⟨s0, hs0, hb0⟩ := gather_spec h ha
      obtain ⟨I, ⟨n0, hI0⟩, hround⟩ := hs0
      refine wp_loop_ghost (fun n a' w' => Keep (writes c) a a' ∧ ∃ s, Holds a'.tmps _ s ∧ I s w' n) n0 ⟨.refl _ _, s0, hb0, hI0⟩ ?_
      rintro k a' w' ⟨hk, s, hb, hI⟩
      obtain ⟨t, ht, h3⟩ := keepFr_spec hk ha hap (hround s w' k hI)
      obtain ⟨z, hz, h4⟩ := rebuildK_spec h3 ht hb
      refine wp_mono (go_sound hN hm n c u _ z a' w' (hk.2.1.symm ▸ hf) hz h4) ?_
      intro e a'' w'' hp
      cases e with
      | normal =>
        obtain ⟨hk', fr', m, hmn, ha', h'⟩ := hp
        have hk2 := hk.trans hk' (fun _ h => h) (fun _ h => h)
        obtain ⟨s', ⟨m', hm', hI'⟩, hb'⟩ := gather_spec (go_none_fin h') ha'
        exact ⟨m', hm', hk2, s', hb', hI'⟩
      | exit i =>
        obtain ⟨hk', fr', m, st', hmn, hu, ha', h'⟩ := hp
        exact ⟨hk.trans hk' (fun _ h => h) (fun _ h => h), fr', m, st', by omega, hu, ha', h'⟩
      | ret =>
        obtain ⟨hk', fr', ha', h'⟩ := hp
        exact ⟨hk.trans hk' (fun _ h => h) (fun _ h => h), fr', ha', h'⟩
      | goto l => exact hp
      | panic c => exact hp
      | outgrown => exact hp
    · cases h
  | n + 1, .exit i, _, st, fr, a, w, hf, ha, h => by
    rw [go_succ] at h
    simp only [goStep] at h
    split at h
    · rename_i st' hu
      exact wp_exit ⟨.refl _ _, fr, n, st', Nat.lt_succ_self _, hu, ha, h⟩
    · cases h
  | n + 1, .ret, _, _, fr, a, w, hf, ha, h => wp_ret ⟨.refl _ _, fr, ha, h⟩
  | n + 1, .rangeFunc .., _, _, _, _, _, _, _, h => (by rw [go_succ] at h; simp only [goStep] at h; cases h)
  | n + 1, .scope .., _, _, _, _, _, _, _, h => (by rw [go_succ] at h; simp only [goStep] at h; cases h)
  | n + 1, .goto .., _, _, _, _, _, _, _, h => (by rw [go_succ] at h; simp only [goStep] at h; cases h)
  | n + 1, .refuse .., _, _, _, _, _, _, _, h => (by rw [go_succ] at h; simp only [goStep] at h; cases h)

/-! ### a call -/

def rdRes (t : Array Value) : ResultVar → Sem Value
  | .tmp t' => pure (t.getD t' undef)
  | .cell a ty => do loadVar ty (← asAddr (t.getD a undef))

theorem rdRes_cell {t : Array Value} {a : Tmp} {ty : TypeId} {x : Addr} {w w' : World} {v : Value} (h : t.getD a undef = .pointer (some x)) (hl : (loadVar ty x).run P w = .ok v w') : (rdRes t (.cell a ty)).run P w = .ok v w' := by
  show (asAddr (t.getD a undef) >>= fun x => loadVar ty x).run P w = _
  rw [h]
  simp only [asAddr, Sem.run_bind, Sem.run_pure, Result.andThen, hl]

theorem retsK_run : ∀ {l : List ResultVar} {fr : Fr} {w : World} {K : List Value → Prop} {t : Array Value}, Agrees fr t → retsK P l fr w K →
    ∃ vs, (l.mapM (rdRes t)).run P w = .ok vs w ∧ K vs
  | [], _, _, _, _, _, h => ⟨[], by simp, h⟩
  | .tmp t' :: r, fr, w, K, t, ha, h => by
    simp only [retsK] at h
    split at h
    · rename_i v hv
      obtain ⟨vs, h1, h2⟩ := retsK_run ha h
      refine ⟨v.v :: vs, ?_, h2⟩
      have : t.getD t' undef = v.v := by simp [ha _ _ hv]
      have h3 : (rdRes t (.tmp t')).run P w = .ok v.v w := by
        show (pure (t.getD t' undef) : Sem Value).run P w = _
        rw [this]
        rfl
      simp only [List.mapM_cons, Sem.run_bind, Sem.run_pure, Result.andThen, h3, h1]
    · cases h
  | .cell a ty :: r, fr, w, K, t, ha, h => by
    simp only [retsK] at h
    split at h
    · rename_i hh x ht hx
      split at h
      · rename_i hz
        obtain ⟨y, h1, h2⟩ := h
        obtain ⟨vs, h3, h4⟩ := retsK_run ha h2
        refine ⟨(hh.mk y).sv.v :: vs, ?_, h4⟩
        have : t.getD a undef = .pointer (some x) := by simp [ha _ _ hx, SV.v, S1.v]
        have h5 := rdRes_cell this (run_loadVar ht hz (h1 w rfl))
        simp only [List.mapM_cons, Sem.run_bind, Sem.run_pure, Result.andThen, h5, h3]
      · cases h
    · cases h

theorem retsK_results {fn : Func} {fr : Fr} {w : World} {K : Value → Prop} {t : Array Value} (ha : Agrees fr t) (h : retsK P fn.results.toList fr w fun l => K (retV l)) :
    ∃ v, (results fn t).run P w = .ok v w ∧ K v := by
  obtain ⟨vs, h1, h2⟩ := retsK_run ha h
  refine ⟨retV vs, ?_, h2⟩
  unfold results
  simp only [Sem.run_bind]
  rw [Array.mapM_eq_mapM_toList, Sem.run_map]
  have e : ∀ (f : ResultVar → Sem Value), (∀ x, f x = rdRes t x) → (fn.results.toList.mapM f).run P w = .ok vs w := by
    intro f hf
    have : f = rdRes t := funext hf
    rw [this]
    exact h1
  rw [e _ (fun x => by cases x <;> rfl)]
  simp only [Result.andThen, Sem.run_pure]
  congr 1
  rcases vs with _ | ⟨v, _ | ⟨u, r⟩⟩ <;> simp [retV]

theorem initK_spec {a : Array Value} : ∀ {args : List SV} {i : Nat} {K : Fr → Prop}, initK i args K → (∀ j sv, args[j]? = some sv → a[i + j]? = some sv.v) → ∃ fr, Agrees fr a ∧ K fr
  | [], i, K, h, _ => ⟨[], fun j sv hj => (by cases hj), h⟩
  | x :: r, i, K, h, ha => by
    obtain ⟨fr, h1, h2⟩ := initK_spec (args := r) (i := i + 1) h fun j sv hj => by
      rw [show i + 1 + j = i + (j + 1) by omega]
      exact ha (j + 1) sv hj
    exact ⟨_, h1.cons fun sv he => (by cases he; simpa using ha 0 x rfl), h2⟩

/-- **a call**: what its plain meaning tells holds of its runs -/
theorem dFn_calls (hN : NoNG P) (hm : P.follows .mixedOrders = true) {f : FuncId} {fn : Func} (hf : P.funcs[f]? = some fn) {an : An} {args : List SV} {K : Value → World → Prop} {w : World} (hn : args.length ≤ fn.ntmps) (hfit : fitsFn P an fn = true)
    (h : dFn P an fn args K w) : Calls P f (args.map SV.v).toArray w fun e w' => ∃ v, e = .returned v ∧ K v w' := by
  unfold dFn at h
  split at h
  · rename_i c hc
    have hsz : ((args.map SV.v).toArray ++ Array.replicate (fn.ntmps - (args.map SV.v).toArray.size) undef).size = fn.ntmps := by
      simp; omega
    have hfc : fits P fn.ntmps c an = true := by unfold fitsFn at hfit; rw [hc] at hfit; exact hfit
    obtain ⟨fr0, hfr0, h⟩ := initK_spec (a := (args.map SV.v).toArray ++ Array.replicate (fn.ntmps - (args.map SV.v).toArray.size) undef) h (fun j sv hj => by
      have hl : j < args.length := (List.getElem?_eq_some_iff.1 hj).1
      rw [Nat.zero_add, Array.getElem?_append_left (by simpa using hl)]
      simp [hj])
    refine calls_of_wp hf hc (wp_mono (go_sound hN hm 2000 c an [] fr0 _ w (by show fits P (_ : Array Value).size c an = true; rw [hsz]; exact hfc) hfr0 h) ?_)
    intro e a w' hp
    cases e with
    | normal =>
      obtain ⟨hk, fr, m, hmn, ha, h'⟩ := hp
      have h' : retsK P fn.results.toList fr w' fun l => K (retV l) w' := by
        cases m with
        | zero => cases h'
        | succ m => exact h'
      obtain ⟨v, h1, h2⟩ := retsK_results (K := fun v => K v w') ha h'
      exact ⟨hk.1, v, h1, v, rfl, h2⟩
    | ret =>
      obtain ⟨hk, fr, ha, h'⟩ := hp
      obtain ⟨v, h1, h2⟩ := retsK_results (K := fun v => K v w') ha h'
      exact ⟨hk.1, v, h1, v, rfl, h2⟩
    | exit i => obtain ⟨hk, fr, m, st', hmn, hu, ha, h'⟩ := hp; cases hu
    | goto l => exact hp.elim
    | panic c => exact hp.elim
    | outgrown => exact hp.elim
  · cases h

end
end Go.Proofs.Ytohoimokfgfceaa.K
