/-
  Memory in parts: what is frozen for good, and what is owned.
-/
import Derived.Test.YtohoimokfgfceaaEngH
namespace Go.Proofs.Ytohoimokfgfceaa.K
open Go

/-- a part of memory: blocks -/
def Hp := Nat → Option Obj

/-- what of a world no code here turns -/
def Anc := Os × (Nat → Question → Nat) × Array (Nat × ByteArray)
def anc (w : World) : Anc := (w.os, w.tape, w.output)

/-- frozen blocks, and what is not turned -/
structure Mem where
  f : Nat → Option Obj
  anc : Anc

instance : CoeFun Mem (fun _ => Nat → Option Obj) := ⟨Mem.f⟩

structure Mem.le (Γ Γ' : Mem) : Prop where
  at_ : ∀ b o, Γ b = some o → Γ' b = some o
  anc : Γ'.anc = Γ.anc

instance {Γ Γ' : Mem} : CoeFun (Mem.le Γ Γ') (fun _ => ∀ b o, Γ b = some o → Γ' b = some o) := ⟨Mem.le.at_⟩

theorem Mem.le.refl (Γ : Mem) : Γ.le Γ := ⟨fun _ _ h => h, rfl⟩
theorem Mem.le.trans {Γ Δ Θ : Mem} (h : Γ.le Δ) (k : Δ.le Θ) : Γ.le Θ := ⟨fun b o x => k.at_ b o (h.at_ b o x), k.anc.trans h.anc⟩

/-- what is said of frozen memory and of a part that is owned -/
structure HP where
  p : Mem → Hp → Prop
  mono : ∀ Γ Γ' h, Γ.le Γ' → p Γ h → p Γ' h

def Apart (h k : Hp) : Prop := ∀ b, h b = none ∨ k b = none

def Hp.join (h k : Hp) : Hp := fun b => (h b).or (k b)

def Stars : List HP → Mem → Hp → Prop
  | [], _, _ => True
  | A :: L, Γ, h => ∃ h1 h2, Apart h1 h2 ∧ h = h1.join h2 ∧ A.p Γ h1 ∧ Stars L Γ h2

theorem Stars.mono : ∀ {L : List HP} {Γ Γ' : Mem} {h : Hp}, Γ.le Γ' → Stars L Γ h → Stars L Γ' h
  | [], _, _, _, _, _ => trivial
  | A :: _, _, _, _, hl, ⟨h1, h2, ha, he, hA, hL⟩ => ⟨h1, h2, ha, he, A.mono _ _ _ hl hA, Stars.mono hl hL⟩

theorem join_assoc (h k m : Hp) : (h.join k).join m = h.join (k.join m) := by
  funext b; simp [Hp.join, Option.or_assoc]

theorem join_comm {h k : Hp} (ha : Apart h k) : h.join k = k.join h := by
  funext b
  rcases ha b with h1 | h1 <;> simp [Hp.join, h1]

theorem Apart.symm {h k : Hp} (ha : Apart h k) : Apart k h := fun b => (ha b).symm

theorem join_none {h k : Hp} {b : Nat} : (h.join k) b = none ↔ h b = none ∧ k b = none := by
  simp only [Hp.join]
  cases h b <;> simp

theorem Apart.join_right {h k m : Hp} : Apart h (k.join m) ↔ Apart h k ∧ Apart h m := by
  constructor
  · intro ha
    exact ⟨fun b => (ha b).imp id fun x => (join_none.1 x).1, fun b => (ha b).imp id fun x => (join_none.1 x).2⟩
  · rintro ⟨h1, h2⟩ b
    rcases h1 b with h1 | h1
    · exact .inl h1
    · rcases h2 b with h2 | h2
      · exact .inl h2
      · exact .inr (join_none.2 ⟨h1, h2⟩)

theorem Stars.swap {A B : HP} {L : List HP} {Γ : Mem} {h : Hp} (hs : Stars (A :: B :: L) Γ h) : Stars (B :: A :: L) Γ h := by
  obtain ⟨h1, h23, ha, he, hA, h2, h3, ha', he', hB, hL⟩ := hs
  subst he he'
  obtain ⟨h12, h13⟩ := Apart.join_right.1 ha
  refine ⟨h2, h1.join h3, Apart.join_right.2 ⟨h12.symm, ha'⟩, ?_, hB, h1, h3, h13, rfl, hA, hL⟩
  rw [← join_assoc, join_comm h12, join_assoc]

/-- A stands among L; L' is the rest -/
inductive Pick (A : HP) : List HP → List HP → Prop
  | here {L : List HP} : Pick A (A :: L) L
  | there {B : HP} {L L' : List HP} : Pick A L L' → Pick A (B :: L) (B :: L')

theorem Stars.tail {A : HP} {L L' : List HP} {Γ : Mem} (hi : ∀ h, Stars L Γ h → Stars L' Γ h) {h : Hp} (hs : Stars (A :: L) Γ h) : Stars (A :: L') Γ h := by
  obtain ⟨h1, h2, ha, he, hA, hL⟩ := hs
  exact ⟨h1, h2, ha, he, hA, hi _ hL⟩

theorem Stars.pick {A : HP} {L L' : List HP} (hp : Pick A L L') {Γ : Mem} {h : Hp} (hs : Stars L Γ h) : Stars (A :: L') Γ h := by
  induction hp generalizing h with
  | here => exact hs
  | there _ ih => exact (Stars.tail (fun _ => ih) hs).swap

/-- the world: frozen memory, and what is owned -/
structure Sat (Γ : Mem) (L : List HP) (w : World) : Prop where
  out : ∃ h, Stars L Γ h ∧ (∀ b o, h b = some o → w.heap[b]? = some o ∧ Γ b = none) ∧ ((∀ b o, Γ b = some o → w.heap[b]? = some o) ∧ anc w = Γ.anc)

variable {Γ Γ' : Mem} {L L' : List HP} {w w' : World} {A B : HP}

theorem Sat.pick (hp : Pick A L L') (h : Sat Γ L w) : Sat Γ (A :: L') w := by
  obtain ⟨m, h1, h2, h3⟩ := h
  exact ⟨m, h1.pick hp, h2, h3⟩

theorem Sat.frozen (h : Sat Γ L w) {b : Nat} {o : Obj} (hb : Γ b = some o) : w.heap[b]? = some o := by
  obtain ⟨m, h1, h2, h3⟩ := h
  exact h3.1 b o hb

theorem Sat.same (h : Sat Γ L w) (he : w'.heap = w.heap) (hq : anc w' = anc w := by rfl) : Sat Γ L w' := by
  obtain ⟨m, h1, h2, h3⟩ := h
  exact ⟨m, h1, by rw [he]; exact h2, by rw [he, hq]; exact h3⟩

theorem Sat.drew (h : Sat Γ L w) : Sat Γ L { w with drawn := w.drawn + 1 } := h.same rfl

/-- what is owned may be let go of -/
theorem Sat.drop (h : Sat Γ (A :: L) w) : Sat Γ L w := by
  obtain ⟨m, ⟨h1, h2, ha, he, hA, hL⟩, h4, h3⟩ := h
  refine ⟨h2, hL, fun b o hb => h4 b o ?_, h3⟩
  subst he
  rcases ha b with h | h
  · simp [Hp.join, h, hb]
  · rw [h] at hb; cases hb

theorem Sat.weaken (h : Sat Γ (A :: L) w) (hi : ∀ m, A.p Γ m → B.p Γ m) : Sat Γ (B :: L) w := by
  obtain ⟨m, ⟨h1, h2, ha, he, hA, hL⟩, h4, h3⟩ := h
  exact ⟨m, ⟨h1, h2, ha, he, hi _ hA, hL⟩, h4, h3⟩

/-- a block -/
def blk (b : Nat) (o : Obj) : HP := ⟨fun _ h => h b = some o, fun _ _ _ _ h => h⟩

theorem Sat.heap {b : Nat} {o : Obj} (h : Sat Γ (blk b o :: L) w) : w.heap[b]? = some o := by
  obtain ⟨m, ⟨h1, h2, ha, he, hA, hL⟩, h4, h3⟩ := h
  have hA' : h1 b = some o := hA
  refine (h4 b o ?_).1
  subst he
  simp [Hp.join, hA']

theorem Sat.notFrozen {b : Nat} {o : Obj} (h : Sat Γ (blk b o :: L) w) : Γ b = none := by
  obtain ⟨m, ⟨h1, h2, ha, he, hA, hL⟩, h4, h3⟩ := h
  have hA' : h1 b = some o := hA
  refine (h4 b o ?_).2
  subst he
  simp [Hp.join, hA']

theorem Sat.ne {b c : Nat} {o u : Obj} (h : Sat Γ (blk b o :: blk c u :: L) w) : b ≠ c := by
  obtain ⟨m, ⟨h1, h2, ha, he, hA, h3, h4, ha', he', hB, hL⟩, _, _⟩ := h
  rintro rfl
  have hA' : h1 b = some o := hA
  have hB' : h3 b = some u := hB
  subst he'
  rcases ha b with h | h
  · rw [hA'] at h; cases h
  · simp [Hp.join, hB'] at h

/-- a block turns -/
theorem Sat.set {b : Nat} {o o' : Obj} (h : Sat Γ (blk b o :: L) w) (hb : w'.heap[b]? = some o') (ho : ∀ c, c ≠ b → w'.heap[c]? = w.heap[c]?) (hq : anc w' = anc w := by rfl) : Sat Γ (blk b o' :: L) w' := by
  have hnf := h.notFrozen
  obtain ⟨m, ⟨h1, h2, ha, he, hA, hL⟩, h4, h3⟩ := h
  have hA' : h1 b = some o := hA
  have h2b : h2 b = none := by rcases ha b with h | h; (rw [hA'] at h; cases h); exact h
  refine ⟨(fun x => if x = b then some o' else m x), ⟨(fun x => if x = b then some o' else h1 x), h2, fun c => ?_, ?_, ?_, hL⟩, fun c u hc => ?_, fun c u hc => ?_, hq.trans h3.2⟩
  · by_cases hcb : c = b
    · subst hcb; exact .inr h2b
    · simp only [hcb, if_false]; exact ha c
  · funext c
    by_cases hcb : c = b
    · simp [Hp.join, hcb]
    · subst he; simp [Hp.join, hcb]
  · show (if b = b then some o' else h1 b) = some o'
    simp
  · by_cases hcb : c = b
    · subst hcb
      simp only [if_true] at hc
      cases hc
      exact ⟨hb, hnf⟩
    · simp only [hcb, if_false] at hc
      rw [ho c hcb]
      exact h4 c u hc
  · have hcb : c ≠ b := by rintro rfl; rw [hnf] at hc; cases hc
    rw [ho c hcb]
    exact h3.1 c u hc

/-- a new block -/
theorem Sat.new (h : Sat Γ L w) (o : Obj) : Sat Γ (blk w.heap.size o :: L) { w with heap := w.heap.push o } := by
  obtain ⟨m, hL, h4, h3⟩ := h
  have lt : ∀ {b : Nat} {u : Obj}, w.heap[b]? = some u → b < w.heap.size := fun hb => (Array.getElem?_eq_some_iff.1 hb).1
  have hnone : m w.heap.size = none := by
    cases hm : m w.heap.size with
    | none => rfl
    | some u => exact absurd (lt (h4 _ _ hm).1) (Nat.lt_irrefl _)
  refine ⟨(fun x => if x = w.heap.size then some o else m x), ⟨(fun x => if x = w.heap.size then some o else none), m, fun c => ?_, ?_, ?_, hL⟩, fun c u hc => ?_, fun c u hc => ?_, h3.2⟩
  · by_cases hc : c = w.heap.size
    · exact .inr (by rw [hc]; exact hnone)
    · exact .inl (by simp [hc])
  · funext c
    by_cases hc : c = w.heap.size
    · simp [Hp.join, hc]
    · simp [Hp.join, hc]
  · show (if w.heap.size = w.heap.size then some o else none) = some o
    simp
  · by_cases hcs : c = w.heap.size
    · subst hcs
      simp only [if_true] at hc
      cases hc
      refine ⟨by simp, ?_⟩
      cases hg : Γ w.heap.size with
      | none => rfl
      | some u => exact absurd (lt (h3.1 _ _ hg)) (Nat.lt_irrefl _)
    · simp only [hcs, if_false] at hc
      have := h4 c u hc
      refine ⟨?_, this.2⟩
      have hl := lt this.1
      show (w.heap.push o)[c]? = some u
      rw [Array.getElem?_push_lt hl]
      simpa [Array.getElem?_eq_getElem hl] using this.1
  · have hl := lt (h3.1 c u hc)
    show (w.heap.push o)[c]? = some u
    rw [Array.getElem?_push_lt hl]
    simpa [Array.getElem?_eq_getElem hl] using h3.1 c u hc

def Mem.add (Γ : Mem) (b : Nat) (o : Obj) : Mem := ⟨fun x => if x = b then some o else Γ x, Γ.anc⟩

theorem Mem.le_add {b : Nat} {o : Obj} (h : Γ b = none) : Γ.le (Γ.add b o) := ⟨fun c u hc => by
  have : c ≠ b := by rintro rfl; rw [h] at hc; cases hc
  simp [Mem.add, this, hc], rfl⟩

theorem Mem.add_self {b : Nat} {o : Obj} : (Γ.add b o) b = some o := by simp [Mem.add]

/-- a block that is never written any more -/
theorem Sat.freeze {b : Nat} {o : Obj} (h : Sat Γ (blk b o :: L) w) : ∃ Γ', Γ.le Γ' ∧ Γ' b = some o ∧ Sat Γ' L w := by
  have hb := h.heap
  have hnf := h.notFrozen
  obtain ⟨m, ⟨h1, h2, ha, he, hA, hL⟩, h4, h3⟩ := h
  have hA' : h1 b = some o := hA
  have h2b : h2 b = none := by rcases ha b with h | h; (rw [hA'] at h; cases h); exact h
  refine ⟨Γ.add b o, Mem.le_add hnf, Mem.add_self, h2, hL.mono (Mem.le_add hnf), fun c u hc => ?_, fun c u hc => ?_, h3.2⟩
  · have hcb : c ≠ b := by rintro rfl; rw [h2b] at hc; cases hc
    have hm : m c = some u := by
      subst he
      rcases ha c with h | h
      · simp [Hp.join, h, hc]
      · rw [h] at hc; cases hc
    refine ⟨(h4 c u hm).1, ?_⟩
    simp [Mem.add, hcb, (h4 c u hm).2]
  · by_cases hcb : c = b
    · subst hcb
      simp only [Mem.add, if_true] at hc
      cases hc
      exact hb
    · simp only [Mem.add, hcb, if_false] at hc
      exact h3.1 c u hc

/-! ### parts made of parts -/

/-- some parts as one -/
def HP.all (l : List HP) : HP := ⟨Stars l, fun _ _ _ => Stars.mono⟩

/-- there is one -/
def HP.ex {α : Type} (F : α → HP) : HP := ⟨fun Γ h => ∃ x, (F x).p Γ h, fun Γ Γ' h hl ⟨x, hx⟩ => ⟨x, (F x).mono Γ Γ' h hl hx⟩⟩

/-- what holds beside -/
def HP.also (φ : Prop) (A : HP) : HP := ⟨fun Γ h => φ ∧ A.p Γ h, fun Γ Γ' h hl ⟨x, hx⟩ => ⟨x, A.mono Γ Γ' h hl hx⟩⟩

/-- what holds of frozen memory beside -/
def HP.fz (φ : Mem → Prop) (hm : ∀ Γ Γ' : Mem, Γ.le Γ' → φ Γ → φ Γ') (A : HP) : HP := ⟨fun Γ h => φ Γ ∧ A.p Γ h, fun Γ Γ' h hl ⟨x, hx⟩ => ⟨hm Γ Γ' hl x, A.mono Γ Γ' h hl hx⟩⟩

/-- nothing -/
def HP.emp : HP := ⟨fun _ _ => True, fun _ _ _ _ h => h⟩

theorem Stars.append : ∀ {L1 L2 : List HP} {Γ : Mem} {h : Hp}, (∃ h1 h2, Apart h1 h2 ∧ h = h1.join h2 ∧ Stars L1 Γ h1 ∧ Stars L2 Γ h2) → Stars (L1 ++ L2) Γ h
  | [], L2, Γ, h, ⟨h1, h2, ha, he, _, h4⟩ => by
    -- what is owned beside goes to what follows
    have : ∀ {L : List HP} {h1 h2 : Hp}, Apart h1 h2 → Stars L Γ h2 → Stars L Γ (h1.join h2) := by
      intro L
      induction L with
      | nil => intro h1 h2 _ _; trivial
      | cons A L ih =>
        rintro h1 h2 ha ⟨k1, k2, ka, ke, kA, kL⟩
        subst ke
        obtain ⟨ha1, ha2⟩ := Apart.join_right.1 ha
        refine ⟨k1, h1.join k2, Apart.join_right.2 ⟨ha1.symm, ka⟩, ?_, kA, ih ha2 kL⟩
        rw [← join_assoc, join_comm ha1, join_assoc]
    subst he
    exact this ha h4
  | A :: L1, L2, Γ, h, ⟨h1, h2, ha, he, ⟨k1, k2, ka, ke, kA, kL⟩, h4⟩ => by
    subst ke he
    obtain ⟨ha1, ha2⟩ := Apart.join_right.1 ha.symm
    exact ⟨k1, k2.join h2, Apart.join_right.2 ⟨ka, ha1.symm⟩, join_assoc _ _ _, kA, Stars.append ⟨k2, h2, ha2.symm, rfl, kL, h4⟩⟩

theorem Stars.split : ∀ {L1 L2 : List HP} {Γ : Mem} {h : Hp}, Stars (L1 ++ L2) Γ h → ∃ h1 h2, Apart h1 h2 ∧ h = h1.join h2 ∧ Stars L1 Γ h1 ∧ Stars L2 Γ h2
  | [], L2, Γ, h, hs => ⟨fun _ => none, h, fun _ => .inl rfl, by funext b; simp [Hp.join], trivial, hs⟩
  | A :: L1, L2, Γ, h, ⟨k1, k2, ka, ke, kA, kL⟩ => by
    obtain ⟨m1, m2, ma, me, hm1, hm2⟩ := Stars.split kL
    subst ke me
    obtain ⟨ka1, ka2⟩ := Apart.join_right.1 ka
    exact ⟨k1.join m1, m2, (Apart.join_right.2 ⟨ka2.symm, ma.symm⟩).symm, (join_assoc _ _ _).symm, ⟨k1, m1, ka1, rfl, kA, hm1⟩, hm2⟩

theorem Sat.all {l : List HP} : Sat Γ (HP.all l :: L) w ↔ Sat Γ (l ++ L) w := by
  constructor
  · rintro ⟨m, ⟨h1, h2, ha, he, hA, hL⟩, h4, h3⟩
    exact ⟨m, Stars.append ⟨h1, h2, ha, he, hA, hL⟩, h4, h3⟩
  · rintro ⟨m, hs, h4, h3⟩
    obtain ⟨h1, h2, ha, he, hA, hL⟩ := hs.split
    exact ⟨m, ⟨h1, h2, ha, he, hA, hL⟩, h4, h3⟩

theorem Sat.ex {α : Type} {F : α → HP} : Sat Γ (HP.ex F :: L) w ↔ ∃ x, Sat Γ (F x :: L) w := by
  constructor
  · rintro ⟨m, ⟨h1, h2, ha, he, ⟨x, hA⟩, hL⟩, h4, h3⟩
    exact ⟨x, m, ⟨h1, h2, ha, he, hA, hL⟩, h4, h3⟩
  · rintro ⟨x, m, ⟨h1, h2, ha, he, hA, hL⟩, h4, h3⟩
    exact ⟨m, ⟨h1, h2, ha, he, ⟨x, hA⟩, hL⟩, h4, h3⟩

theorem Sat.also {φ : Prop} : Sat Γ (HP.also φ A :: L) w ↔ φ ∧ Sat Γ (A :: L) w := by
  constructor
  · rintro ⟨m, ⟨h1, h2, ha, he, ⟨x, hA⟩, hL⟩, h4, h3⟩
    exact ⟨x, m, ⟨h1, h2, ha, he, hA, hL⟩, h4, h3⟩
  · rintro ⟨x, m, ⟨h1, h2, ha, he, hA, hL⟩, h4, h3⟩
    exact ⟨m, ⟨h1, h2, ha, he, ⟨x, hA⟩, hL⟩, h4, h3⟩

theorem Sat.fz {φ : Mem → Prop} {hm : ∀ Γ Γ' : Mem, Γ.le Γ' → φ Γ → φ Γ'} : Sat Γ (HP.fz φ hm A :: L) w ↔ φ Γ ∧ Sat Γ (A :: L) w := by
  constructor
  · rintro ⟨m, ⟨h1, h2, ha, he, ⟨x, hA⟩, hL⟩, h4, h3⟩
    exact ⟨x, m, ⟨h1, h2, ha, he, hA, hL⟩, h4, h3⟩
  · rintro ⟨x, m, ⟨h1, h2, ha, he, hA, hL⟩, h4, h3⟩
    exact ⟨m, ⟨h1, h2, ha, he, ⟨x, hA⟩, hL⟩, h4, h3⟩

theorem Sat.emp (h : Sat Γ L w) : Sat Γ (HP.emp :: L) w := by
  obtain ⟨m, hs, h4, h3⟩ := h
  exact ⟨m, ⟨fun _ => none, m, fun _ => .inl rfl, by funext b; simp [Hp.join], trivial, hs⟩, h4, h3⟩

/-- all that there is at the start, frozen -/
def Mem.all (w : World) : Mem := ⟨fun b => w.heap[b]?, K.anc w⟩

theorem Sat.start (w : World) : Sat (Mem.all w) [] w := by
  refine ⟨⟨fun _ => none, trivial, fun b o h => ?_, fun b o h => h, rfl⟩⟩
  have h : (none : Option Obj) = some o := h
  cases h

theorem Sat.done {L : List HP} (h : Sat Γ L w') (hl : (Mem.all w).le Γ) : anc w' = anc w ∧ w.heap.size ≤ w'.heap.size ∧ ∀ k, k < w.heap.size → w'.heap[k]? = w.heap[k]? := by
  have hb : ∀ k, k < w.heap.size → w'.heap[k]? = w.heap[k]? := fun k hk => by
    have e : (Mem.all w) k = some w.heap[k] := Array.getElem?_eq_getElem hk
    rw [h.frozen (hl.at_ _ _ e)]
    exact e.symm
  obtain ⟨m, h1, h2, h3⟩ := h
  refine ⟨h3.2.trans hl.anc, ?_, hb⟩
  apply Classical.byContradiction
  intro hc
  have := hb (w.heap.size - 1) (by omega)
  rw [Array.getElem?_eq_none (xs := w'.heap) (by omega), Array.getElem?_eq_getElem (xs := w.heap) (by omega)] at this
  cases this

end Go.Proofs.Ytohoimokfgfceaa.K
