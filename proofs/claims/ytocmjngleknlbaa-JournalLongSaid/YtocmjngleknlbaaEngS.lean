/-
  Memory in parts: what is frozen for good, and what is owned.
-/
import Derived.Test.YtocmjngleknlbaaEngG
import Derived.IntWalk
import Derived.Laws.BytesString
import Derived.Laws.Strings
import Derived.Laws.StandIn
namespace Go.Proofs.Ytocmjngleknlbaa.K
open Go

/-- a part of memory: blocks -/
def Hp := Nat → Option Obj

/-- what of a world no code here turns -/
def Anc := Os × (Nat → Question → Nat) × Array (Nat × ByteArray)
def anc (w : World) : Anc := (w.os, w.tape, w.output)

/-- frozen blocks, and what is not turned -/
structure Mem where
  f : Nat → Option Obj
  anc : Anc

instance : CoeFun Mem (fun _ => Nat → Option Obj) := ⟨Mem.f⟩

structure Mem.le (Γ Γ' : Mem) : Prop where
  at_ : ∀ b o, Γ b = some o → Γ' b = some o
  anc : Γ'.anc = Γ.anc

instance {Γ Γ' : Mem} : CoeFun (Mem.le Γ Γ') (fun _ => ∀ b o, Γ b = some o → Γ' b = some o) := ⟨Mem.le.at_⟩

theorem Mem.le.refl (Γ : Mem) : Γ.le Γ := ⟨fun _ _ h => h, rfl⟩
theorem Mem.le.trans {Γ Δ Θ : Mem} (h : Γ.le Δ) (k : Δ.le Θ) : Γ.le Θ := ⟨fun b o x => k.at_ b o (h.at_ b o x), k.anc.trans h.anc⟩

/-- what is said of frozen memory and of a part that is owned -/
structure HP where
  p : Mem → Hp → Prop
  mono : ∀ Γ Γ' h, Γ.le Γ' → p Γ h → p Γ' h

def Apart (h k : Hp) : Prop := ∀ b, h b = none ∨ k b = none

def Hp.join (h k : Hp) : Hp := fun b => (h b).or (k b)

def Stars : List HP → Mem → Hp → Prop
  | [], _, _ => True
  | A :: L, Γ, h => ∃ h1 h2, Apart h1 h2 ∧ h = h1.join h2 ∧ A.p Γ h1 ∧ Stars L Γ h2

theorem Stars.mono : ∀ {L : List HP} {Γ Γ' : Mem} {h : Hp}, Γ.le Γ' → Stars L Γ h → Stars L Γ' h
  | [], _, _, _, _, _ => trivial
  | A :: _, _, _, _, hl, ⟨h1, h2, ha, he, hA, hL⟩ => ⟨h1, h2, ha, he, A.mono _ _ _ hl hA, Stars.mono hl hL⟩

theorem join_assoc (h k m : Hp) : (h.join k).join m = h.join (k.join m) := by
  funext b; simp [Hp.join, Option.or_assoc]

theorem join_comm {h k : Hp} (ha : Apart h k) : h.join k = k.join h := by
  funext b
  rcases ha b with h1 | h1 <;> simp [Hp.join, h1]

theorem Apart.symm {h k : Hp} (ha : Apart h k) : Apart k h := fun b => (ha b).symm

theorem join_none {h k : Hp} {b : Nat} : (h.join k) b = none ↔ h b = none ∧ k b = none := by
  simp only [Hp.join]
  cases h b <;> simp

theorem Apart.join_right {h k m : Hp} : Apart h (k.join m) ↔ Apart h k ∧ Apart h m := by
  constructor
  · intro ha
    exact ⟨fun b => (ha b).imp id fun x => (join_none.1 x).1, fun b => (ha b).imp id fun x => (join_none.1 x).2⟩
  · rintro ⟨h1, h2⟩ b
    rcases h1 b with h1 | h1
    · exact .inl h1
    · rcases h2 b with h2 | h2
      · exact .inl h2
      · exact .inr (join_none.2 ⟨h1, h2⟩)

theorem Stars.swap {A B : HP} {L : List HP} {Γ : Mem} {h : Hp} (hs : Stars (A :: B :: L) Γ h) : Stars (B :: A :: L) Γ h := by
  obtain ⟨h1, h23, ha, he, hA, h2, h3, ha', he', hB, hL⟩ := hs
  subst he he'
  obtain ⟨h12, h13⟩ := Apart.join_right.1 ha
  refine ⟨h2, h1.join h3, Apart.join_right.2 ⟨h12.symm, ha'⟩, ?_, hB, h1, h3, h13, rfl, hA, hL⟩
  rw [← join_assoc, join_comm h12, join_assoc]

/-- A stands among L; L' is the rest -/
inductive Pick (A : HP) : List HP → List HP → Prop
  | here {L : List HP} : Pick A (A :: L) L
  | there {B : HP} {L L' : List HP} : Pick A L L' → Pick A (B :: L) (B :: L')

theorem Stars.tail {A : HP} {L L' : List HP} {Γ : Mem} (hi : ∀ h, Stars L Γ h → Stars L' Γ h) {h : Hp} (hs : Stars (A :: L) Γ h) : Stars (A :: L') Γ h := by
  obtain ⟨h1, h2, ha, he, hA, hL⟩ := hs
  exact ⟨h1, h2, ha, he, hA, hi _ hL⟩

theorem Stars.pick {A : HP} {L L' : List HP} (hp : Pick A L L') {Γ : Mem} {h : Hp} (hs : Stars L Γ h) : Stars (A :: L') Γ h := by
  induction hp generalizing h with
  | here => exact hs
  | there _ ih => exact (Stars.tail (fun _ => ih) hs).swap

/-- the world: frozen memory, and what is owned -/
structure Sat (Γ : Mem) (L : List HP) (w : World) : Prop where
  out : ∃ h, Stars L Γ h ∧ (∀ b o, h b = some o → w.heap[b]? = some o ∧ Γ b = none) ∧ ((∀ b o, Γ b = some o → w.heap[b]? = some o) ∧ anc w = Γ.anc)

variable {Γ Γ' : Mem} {L L' : List HP} {w w' : World} {A B : HP}

theorem Sat.pick (hp : Pick A L L') (h : Sat Γ L w) : Sat Γ (A :: L') w := by
  obtain ⟨m, h1, h2, h3⟩ := h
  exact ⟨m, h1.pick hp, h2, h3⟩

theorem Sat.frozen (h : Sat Γ L w) {b : Nat} {o : Obj} (hb : Γ b = some o) : w.heap[b]? = some o := by
  obtain ⟨m, h1, h2, h3⟩ := h
  exact h3.1 b o hb

theorem Sat.same (h : Sat Γ L w) (he : w'.heap = w.heap) (hq : anc w' = anc w := by rfl) : Sat Γ L w' := by
  obtain ⟨m, h1, h2, h3⟩ := h
  exact ⟨m, h1, by rw [he]; exact h2, by rw [he, hq]; exact h3⟩

theorem Sat.drew (h : Sat Γ L w) : Sat Γ L { w with drawn := w.drawn + 1 } := h.same rfl

/-- what is owned may be let go of -/
theorem Sat.drop (h : Sat Γ (A :: L) w) : Sat Γ L w := by
  obtain ⟨m, ⟨h1, h2, ha, he, hA, hL⟩, h4, h3⟩ := h
  refine ⟨h2, hL, fun b o hb => h4 b o ?_, h3⟩
  subst he
  rcases ha b with h | h
  · simp [Hp.join, h, hb]
  · rw [h] at hb; cases hb

theorem Sat.weaken (h : Sat Γ (A :: L) w) (hi : ∀ m, A.p Γ m → B.p Γ m) : Sat Γ (B :: L) w := by
  obtain ⟨m, ⟨h1, h2, ha, he, hA, hL⟩, h4, h3⟩ := h
  exact ⟨m, ⟨h1, h2, ha, he, hi _ hA, hL⟩, h4, h3⟩

/-- a block -/
def blk (b : Nat) (o : Obj) : HP := ⟨fun _ h => h b = some o, fun _ _ _ _ h => h⟩

theorem Sat.heap {b : Nat} {o : Obj} (h : Sat Γ (blk b o :: L) w) : w.heap[b]? = some o := by
  obtain ⟨m, ⟨h1, h2, ha, he, hA, hL⟩, h4, h3⟩ := h
  have hA' : h1 b = some o := hA
  refine (h4 b o ?_).1
  subst he
  simp [Hp.join, hA']

theorem Sat.notFrozen {b : Nat} {o : Obj} (h : Sat Γ (blk b o :: L) w) : Γ b = none := by
  obtain ⟨m, ⟨h1, h2, ha, he, hA, hL⟩, h4, h3⟩ := h
  have hA' : h1 b = some o := hA
  refine (h4 b o ?_).2
  subst he
  simp [Hp.join, hA']

theorem Sat.ne {b c : Nat} {o u : Obj} (h : Sat Γ (blk b o :: blk c u :: L) w) : b ≠ c := by
  obtain ⟨m, ⟨h1, h2, ha, he, hA, h3, h4, ha', he', hB, hL⟩, _, _⟩ := h
  rintro rfl
  have hA' : h1 b = some o := hA
  have hB' : h3 b = some u := hB
  subst he'
  rcases ha b with h | h
  · rw [hA'] at h; cases h
  · simp [Hp.join, hB'] at h

/-- a block turns -/
theorem Sat.set {b : Nat} {o o' : Obj} (h : Sat Γ (blk b o :: L) w) (hb : w'.heap[b]? = some o') (ho : ∀ c, c ≠ b → w'.heap[c]? = w.heap[c]?) (hq : anc w' = anc w := by rfl) : Sat Γ (blk b o' :: L) w' := by
  have hnf := h.notFrozen
  obtain ⟨m, ⟨h1, h2, ha, he, hA, hL⟩, h4, h3⟩ := h
  have hA' : h1 b = some o := hA
  have h2b : h2 b = none := by rcases ha b with h | h; (rw [hA'] at h; cases h); exact h
  refine ⟨(fun x => if x = b then some o' else m x), ⟨(fun x => if x = b then some o' else h1 x), h2, fun c => ?_, ?_, ?_, hL⟩, fun c u hc => ?_, fun c u hc => ?_, hq.trans h3.2⟩
  · by_cases hcb : c = b
    · subst hcb; exact .inr h2b
    · simp only [hcb, if_false]; exact ha c
  · funext c
    by_cases hcb : c = b
    · simp [Hp.join, hcb]
    · subst he; simp [Hp.join, hcb]
  · show (if b = b then some o' else h1 b) = some o'
    simp
  · by_cases hcb : c = b
    · subst hcb
      simp only [if_true] at hc
      cases hc
      exact ⟨hb, hnf⟩
    · simp only [hcb, if_false] at hc
      rw [ho c hcb]
      exact h4 c u hc
  · have hcb : c ≠ b := by rintro rfl; rw [hnf] at hc; cases hc
    rw [ho c hcb]
    exact h3.1 c u hc

/-- a new block -/
theorem Sat.new (h : Sat Γ L w) (o : Obj) : Sat Γ (blk w.heap.size o :: L) { w with heap := w.heap.push o } := by
  obtain ⟨m, hL, h4, h3⟩ := h
  have lt : ∀ {b : Nat} {u : Obj}, w.heap[b]? = some u → b < w.heap.size := fun hb => (Array.getElem?_eq_some_iff.1 hb).1
  have hnone : m w.heap.size = none := by
    cases hm : m w.heap.size with
    | none => rfl
    | some u => exact absurd (lt (h4 _ _ hm).1) (Nat.lt_irrefl _)
  refine ⟨(fun x => if x = w.heap.size then some o else m x), ⟨(fun x => if x = w.heap.size then some o else none), m, fun c => ?_, ?_, ?_, hL⟩, fun c u hc => ?_, fun c u hc => ?_, h3.2⟩
  · by_cases hc : c = w.heap.size
    · exact .inr (by rw [hc]; exact hnone)
    · exact .inl (by simp [hc])
  · funext c
    by_cases hc : c = w.heap.size
    · simp [Hp.join, hc]
    · simp [Hp.join, hc]
  · show (if w.heap.size = w.heap.size then some o else none) = some o
    simp
  · by_cases hcs : c = w.heap.size
    · subst hcs
      simp only [if_true] at hc
      cases hc
      refine ⟨by simp, ?_⟩
      cases hg : Γ w.heap.size with
      | none => rfl
      | some u => exact absurd (lt (h3.1 _ _ hg)) (Nat.lt_irrefl _)
    · simp only [hcs, if_false] at hc
      have := h4 c u hc
      refine ⟨?_, this.2⟩
      have hl := lt this.1
      show (w.heap.push o)[c]? = some u
      rw [Array.getElem?_push_lt hl]
      simpa [Array.getElem?_eq_getElem hl] using this.1
  · have hl := lt (h3.1 c u hc)
    show (w.heap.push o)[c]? = some u
    rw [Array.getElem?_push_lt hl]
    simpa [Array.getElem?_eq_getElem hl] using h3.1 c u hc

def Mem.add (Γ : Mem) (b : Nat) (o : Obj) : Mem := ⟨fun x => if x = b then some o else Γ x, Γ.anc⟩

theorem Mem.le_add {b : Nat} {o : Obj} (h : Γ b = none) : Γ.le (Γ.add b o) := ⟨fun c u hc => by
  have : c ≠ b := by rintro rfl; rw [h] at hc; cases hc
  simp [Mem.add, this, hc], rfl⟩

theorem Mem.add_self {b : Nat} {o : Obj} : (Γ.add b o) b = some o := by simp [Mem.add]

/-- a block that is never written any more -/
theorem Sat.freeze {b : Nat} {o : Obj} (h : Sat Γ (blk b o :: L) w) : ∃ Γ', Γ.le Γ' ∧ Γ' b = some o ∧ Sat Γ' L w := by
  have hb := h.heap
  have hnf := h.notFrozen
  obtain ⟨m, ⟨h1, h2, ha, he, hA, hL⟩, h4, h3⟩ := h
  have hA' : h1 b = some o := hA
  have h2b : h2 b = none := by rcases ha b with h | h; (rw [hA'] at h; cases h); exact h
  refine ⟨Γ.add b o, Mem.le_add hnf, Mem.add_self, h2, hL.mono (Mem.le_add hnf), fun c u hc => ?_, fun c u hc => ?_, h3.2⟩
  · have hcb : c ≠ b := by rintro rfl; rw [h2b] at hc; cases hc
    have hm : m c = some u := by
      subst he
      rcases ha c with h | h
      · simp [Hp.join, h, hc]
      · rw [h] at hc; cases hc
    refine ⟨(h4 c u hm).1, ?_⟩
    simp [Mem.add, hcb, (h4 c u hm).2]
  · by_cases hcb : c = b
    · subst hcb
      simp only [Mem.add, if_true] at hc
      cases hc
      exact hb
    · simp only [Mem.add, hcb, if_false] at hc
      exact h3.1 c u hc

/-! ### parts made of parts -/

/-- some parts as one -/
def HP.all (l : List HP) : HP := ⟨Stars l, fun _ _ _ => Stars.mono⟩

/-- there is one -/
def HP.ex {α : Type} (F : α → HP) : HP := ⟨fun Γ h => ∃ x, (F x).p Γ h, fun Γ Γ' h hl ⟨x, hx⟩ => ⟨x, (F x).mono Γ Γ' h hl hx⟩⟩

/-- what holds beside -/
def HP.also (φ : Prop) (A : HP) : HP := ⟨fun Γ h => φ ∧ A.p Γ h, fun Γ Γ' h hl ⟨x, hx⟩ => ⟨x, A.mono Γ Γ' h hl hx⟩⟩

/-- what holds of frozen memory beside -/
def HP.fz (φ : Mem → Prop) (hm : ∀ Γ Γ' : Mem, Γ.le Γ' → φ Γ → φ Γ') (A : HP) : HP := ⟨fun Γ h => φ Γ ∧ A.p Γ h, fun Γ Γ' h hl ⟨x, hx⟩ => ⟨hm Γ Γ' hl x, A.mono Γ Γ' h hl hx⟩⟩

/-- nothing -/
def HP.emp : HP := ⟨fun _ _ => True, fun _ _ _ _ h => h⟩

theorem Stars.append : ∀ {L1 L2 : List HP} {Γ : Mem} {h : Hp}, (∃ h1 h2, Apart h1 h2 ∧ h = h1.join h2 ∧ Stars L1 Γ h1 ∧ Stars L2 Γ h2) → Stars (L1 ++ L2) Γ h
  | [], L2, Γ, h, ⟨h1, h2, ha, he, _, h4⟩ => by
    -- what is owned beside goes to what follows
    have : ∀ {L : List HP} {h1 h2 : Hp}, Apart h1 h2 → Stars L Γ h2 → Stars L Γ (h1.join h2) := by
      intro L
      induction L with
      | nil => intro h1 h2 _ _; trivial
      | cons A L ih =>
        rintro h1 h2 ha ⟨k1, k2, ka, ke, kA, kL⟩
        subst ke
        obtain ⟨ha1, ha2⟩ := Apart.join_right.1 ha
        refine ⟨k1, h1.join k2, Apart.join_right.2 ⟨ha1.symm, ka⟩, ?_, kA, ih ha2 kL⟩
        rw [← join_assoc, join_comm ha1, join_assoc]
    subst he
    exact this ha h4
  | A :: L1, L2, Γ, h, ⟨h1, h2, ha, he, ⟨k1, k2, ka, ke, kA, kL⟩, h4⟩ => by
    subst ke he
    obtain ⟨ha1, ha2⟩ := Apart.join_right.1 ha.symm
    exact ⟨k1, k2.join h2, Apart.join_right.2 ⟨ka, ha1.symm⟩, join_assoc _ _ _, kA, Stars.append ⟨k2, h2, ha2.symm, rfl, kL, h4⟩⟩

theorem Stars.split : ∀ {L1 L2 : List HP} {Γ : Mem} {h : Hp}, Stars (L1 ++ L2) Γ h → ∃ h1 h2, Apart h1 h2 ∧ h = h1.join h2 ∧ Stars L1 Γ h1 ∧ Stars L2 Γ h2
  | [], L2, Γ, h, hs => ⟨fun _ => none, h, fun _ => .inl rfl, by funext b; simp [Hp.join], trivial, hs⟩
  | A :: L1, L2, Γ, h, ⟨k1, k2, ka, ke, kA, kL⟩ => by
    obtain ⟨m1, m2, ma, me, hm1, hm2⟩ := Stars.split kL
    subst ke me
    obtain ⟨ka1, ka2⟩ := Apart.join_right.1 ka
    exact ⟨k1.join m1, m2, (Apart.join_right.2 ⟨ka2.symm, ma.symm⟩).symm, (join_assoc _ _ _).symm, ⟨k1, m1, ka1, rfl, kA, hm1⟩, hm2⟩

theorem Sat.all {l : List HP} : Sat Γ (HP.all l :: L) w ↔ Sat Γ (l ++ L) w := by
  constructor
  · rintro ⟨m, ⟨h1, h2, ha, he, hA, hL⟩, h4, h3⟩
    exact ⟨m, Stars.append ⟨h1, h2, ha, he, hA, hL⟩, h4, h3⟩
  · rintro ⟨m, hs, h4, h3⟩
    obtain ⟨h1, h2, ha, he, hA, hL⟩ := hs.split
    exact ⟨m, ⟨h1, h2, ha, he, hA, hL⟩, h4, h3⟩

theorem Sat.ex {α : Type} {F : α → HP} : Sat Γ (HP.ex F :: L) w ↔ ∃ x, Sat Γ (F x :: L) w := by
  constructor
  · rintro ⟨m, ⟨h1, h2, ha, he, ⟨x, hA⟩, hL⟩, h4, h3⟩
    exact ⟨x, m, ⟨h1, h2, ha, he, hA, hL⟩, h4, h3⟩
  · rintro ⟨x, m, ⟨h1, h2, ha, he, hA, hL⟩, h4, h3⟩
    exact ⟨m, ⟨h1, h2, ha, he, ⟨x, hA⟩, hL⟩, h4, h3⟩

theorem Sat.also {φ : Prop} : Sat Γ (HP.also φ A :: L) w ↔ φ ∧ Sat Γ (A :: L) w := by
  constructor
  · rintro ⟨m, ⟨h1, h2, ha, he, ⟨x, hA⟩, hL⟩, h4, h3⟩
    exact ⟨x, m, ⟨h1, h2, ha, he, hA, hL⟩, h4, h3⟩
  · rintro ⟨x, m, ⟨h1, h2, ha, he, hA, hL⟩, h4, h3⟩
    exact ⟨m, ⟨h1, h2, ha, he, ⟨x, hA⟩, hL⟩, h4, h3⟩

theorem Sat.fz {φ : Mem → Prop} {hm : ∀ Γ Γ' : Mem, Γ.le Γ' → φ Γ → φ Γ'} : Sat Γ (HP.fz φ hm A :: L) w ↔ φ Γ ∧ Sat Γ (A :: L) w := by
  constructor
  · rintro ⟨m, ⟨h1, h2, ha, he, ⟨x, hA⟩, hL⟩, h4, h3⟩
    exact ⟨x, m, ⟨h1, h2, ha, he, hA, hL⟩, h4, h3⟩
  · rintro ⟨x, m, ⟨h1, h2, ha, he, hA, hL⟩, h4, h3⟩
    exact ⟨m, ⟨h1, h2, ha, he, ⟨x, hA⟩, hL⟩, h4, h3⟩

theorem Sat.emp (h : Sat Γ L w) : Sat Γ (HP.emp :: L) w := by
  obtain ⟨m, hs, h4, h3⟩ := h
  exact ⟨m, ⟨fun _ => none, m, fun _ => .inl rfl, by funext b; simp [Hp.join], trivial, hs⟩, h4, h3⟩

/-- all that there is at the start, frozen -/
def Mem.all (w : World) : Mem := ⟨fun b => w.heap[b]?, K.anc w⟩

theorem Sat.start (w : World) : Sat (Mem.all w) [] w := by
  refine ⟨⟨fun _ => none, trivial, fun b o h => ?_, fun b o h => h, rfl⟩⟩
  have h : (none : Option Obj) = some o := h
  cases h

theorem Sat.done {L : List HP} (h : Sat Γ L w') (hl : (Mem.all w).le Γ) : anc w' = anc w ∧ w.heap.size ≤ w'.heap.size ∧ ∀ k, k < w.heap.size → w'.heap[k]? = w.heap[k]? := by
  have hb : ∀ k, k < w.heap.size → w'.heap[k]? = w.heap[k]? := fun k hk => by
    have e : (Mem.all w) k = some w.heap[k] := Array.getElem?_eq_getElem hk
    rw [h.frozen (hl.at_ _ _ e)]
    exact e.symm
  obtain ⟨m, h1, h2, h3⟩ := h
  refine ⟨h3.2.trans hl.anc, ?_, hb⟩
  apply Classical.byContradiction
  intro hc
  have := hb (w.heap.size - 1) (by omega)
  rw [Array.getElem?_eq_none (xs := w'.heap) (by omega), Array.getElem?_eq_getElem (xs := w.heap) (by omega)] at this
  cases this

end Go.Proofs.Ytocmjngleknlbaa.K

/-
  Rules: what code asks, paid by memory in parts.
-/
namespace Go.Proofs.Ytocmjngleknlbaa.K
open Go
variable {P : Program} {Γ Γ' : Mem} {L L' : List HP} {w w' : World} {A B : HP}

def rdC (c : Array Value) (o : Nat) : (h : Sh) → h.T → Prop
  | .s s, x => c[o]? = some (s.v x)
  | .agg l, x => ∀ i v, (ScsV l x)[i]? = some v → c[o + i]? = some v

theorem cell_of {b : Nat} {c : Array Value} {T : TypeId} {z : Nat × Nat} (h : w.heap[b]? = some (.cells c T z)) (o : Nat) : w.cell? ⟨b, o, none⟩ = c[o]? := by
  simp [World.cell?, h]

theorem add_plain (b o n : Nat) : Addr.add ⟨b, o, none⟩ n = ⟨b, o + n, none⟩ := by
  unfold Addr.add
  split
  · rename_i h; subst h; rfl
  · rfl

theorem rd_of {b : Nat} {c : Array Value} {T : TypeId} {z : Nat × Nat} (h : w.heap[b]? = some (.cells c T z)) {o : Nat} {s : Sh} {x : s.T} (hc : rdC c o s x) : rdSh w ⟨b, o, none⟩ s x := by
  cases s with
  | s s => exact (cell_of h o).trans hc
  | agg l =>
    intro i v hv
    rw [add_plain, cell_of h]
    exact hc i v hv

/-- what stands in a block of one's own -/
theorem ld {b : Nat} {c : Array Value} {T : TypeId} {z : Nat × Nat} {o : Nat} {s : Sh} {K : s.T → Prop} (x : s.T) (h : Sat Γ L w) (pk : Pick (blk b (.cells c T z)) L L') (k : K x) (hc : rdC c o s x := by rfl) :
    Ld (fun w' => w' = w) s ⟨b, o, none⟩ K := by
  refine ⟨x, ?_, k⟩
  rintro w' rfl
  exact rd_of (h.pick pk).heap hc

/-- what stands in a frozen block -/
theorem ldF {b : Nat} {c : Array Value} {T : TypeId} {z : Nat × Nat} {o : Nat} {s : Sh} {K : s.T → Prop} (x : s.T) (h : Sat Γ L w) (hb : Γ b = some (.cells c T z)) (k : K x) (hc : rdC c o s x := by rfl) :
    Ld (fun w' => w' = w) s ⟨b, o, none⟩ K := by
  refine ⟨x, ?_, k⟩
  rintro w' rfl
  exact rd_of (h.frozen hb) hc

theorem heap_set {b o : Nat} {v : Value} {c : Array Value} {T : TypeId} {z : Nat × Nat} (h : w.heap[b]? = some (.cells c T z)) :
    (w.setCell ⟨b, o, none⟩ v).heap[b]? = some (.cells (c.setIfInBounds o v) T z) ∧ ∀ d, d ≠ b → (w.setCell ⟨b, o, none⟩ v).heap[d]? = w.heap[d]? := by
  constructor
  · simp [World.setCell, Array.getElem?_modify, h]
  · intro d hd
    simp [World.setCell, Array.getElem?_modify, Ne.symm hd]

/-- is the cell free to be written? -/
def freeAt (z : Nat × Nat) (o : Nat) : Prop := ¬ (z.1 ≤ o ∧ o < z.2)

theorem frozen_of {b o : Nat} {c : Array Value} {T : TypeId} {z : Nat × Nat} (h : w.heap[b]? = some (.cells c T z)) (hz : freeAt z o) : w.frozen? ⟨b, o, none⟩ = false := by
  obtain ⟨lo, hi⟩ := z
  simp only [freeAt] at hz
  simp only [World.frozen?, h]
  simpa using hz

/-- the same, as a computation -/
def freeB (z : Nat × Nat) (o : Nat) : Bool := !(Nat.ble z.1 o && Nat.blt o z.2)

theorem freeB_at {z : Nat × Nat} {o : Nat} (h : freeB z o = true) : freeAt z o := by
  unfold freeB at h
  rintro ⟨h1, h2⟩
  have e1 : Nat.ble z.1 o = true := Nat.ble_eq_true_of_le h1
  have e2 : Nat.blt o z.2 = true := Nat.ble_eq_true_of_le h2
  rw [e1, e2] at h
  cases h

/-- a store into a block of one's own -/
theorem st {b : Nat} {c : Array Value} {T : TypeId} {z : Nat × Nat} {o : Nat} {v : Value} {K : World → Prop} (h : Sat Γ L w) (pk : Pick (blk b (.cells c T z)) L L')
    (k : ∀ w', Sat Γ (blk b (.cells (c.setIfInBounds o v) T z) :: L') w' → K w') (ho : Nat.blt o c.size = true := by rfl) (hv : v.oneCell' = true := by rfl) (hz : freeB z o = true := by rfl) : St ⟨b, o, none⟩ v K w := by
  have h' := h.pick pk
  have hb := h'.heap
  have ho' : o < c.size := Nat.le_of_ble_eq_true ho
  refine ⟨hv, ⟨c[o], by rw [cell_of hb]; simp [ho']⟩, frozen_of hb (freeB_at hz), k _ ?_⟩
  exact h'.set (heap_set hb).1 (heap_set hb).2

/-- cells that are written one behind the other -/
def setN (c : Array Value) : Nat → List Value → Array Value
  | _, [] => c
  | o, v :: r => setN (c.setIfInBounds o v) (o + 1) r

theorem setN_size : ∀ (vs : List Value) (c : Array Value) (o : Nat), (setN c o vs).size = c.size
  | [], _, _ => rfl
  | v :: r, c, o => by simp [setN, setN_size r]

theorem stN_sat {b : Nat} {T : TypeId} {z : Nat × Nat} {o : Nat} : ∀ (vs : List Value) (i : Nat) (c : Array Value) (w : World), Sat Γ (blk b (.cells c T z) :: L') w →
    Sat Γ (blk b (.cells (setN c (o + i) vs) T z) :: L') (stN w ⟨b, o, none⟩ i vs)
  | [], _, _, _, h => h
  | v :: r, i, c, w, h => by
    have h2 := h.set (heap_set (o := o + i) (v := v) h.heap).1 (heap_set h.heap).2
    have := stN_sat (o := o) r (i + 1) _ _ h2
    simp only [stN, add_plain, setN]
    exact this

theorem stN1 {b : Nat} {c : Array Value} {T : TypeId} {z : Nat × Nat} {o : Nat} {vs : List Value} {K : World → Prop} (h : Sat Γ L w) (pk : Pick (blk b (.cells c T z)) L L') (ho : o + vs.length ≤ c.size)
    (hv : ∀ v ∈ vs, v.oneCell' = true) (hz : ∀ i, i < vs.length → freeAt z (o + i)) (k : ∀ w', Sat Γ (blk b (.cells (setN c o vs) T z) :: L') w' → K w') : StN ⟨b, o, none⟩ vs K w := by
  have h' := h.pick pk
  have hb := h'.heap
  refine ⟨hv, fun i hi => ?_, k _ (stN_sat vs 0 c w h')⟩
  rw [add_plain]
  exact ⟨⟨c[o + i]'(by omega), by rw [cell_of hb]; simp [show o + i < c.size by omega]⟩, frozen_of hb (hz i hi)⟩

/-- several stores into a block of one's own that is nowhere frozen -/
theorem stNs {b : Nat} {c : Array Value} {T : TypeId} {o : Nat} {vs : List Value} {K : World → Prop} (h : Sat Γ L w) (pk : Pick (blk b (.cells c T (0, 0))) L L')
    (k : ∀ w', Sat Γ (blk b (.cells (setN c o vs) T (0, 0)) :: L') w' → K w') (ho : Nat.ble (o + vs.length) c.size = true := by rfl) (hv : vs.all (fun v => v.oneCell') = true := by rfl) : StN ⟨b, o, none⟩ vs K w :=
  stN1 h pk (Nat.le_of_ble_eq_true ho) (fun v hm => List.all_eq_true.1 hv v hm) (fun _ _ => by simp [freeAt]) k

/-- a new block -/
theorem new {o : Obj} {K : Nat → World → Prop} (h : Sat Γ L w) (k : ∀ r w', Sat Γ (blk r o :: L) w' → K r w') : New o K w := ⟨k _ _ (h.new o)⟩

theorem dr {K : World → Prop} (h : Sat Γ L w) (k : ∀ w', Sat Γ L w' → K w') : Dr K w := ⟨k _ h.drew⟩

theorem br {b : Bool} {X Y : Prop} (x : b = true → X) (y : b = false → Y) : Br b X Y := ⟨x, y⟩

/-- what is read in a row of whose order nothing is known: these parts stay -/
def Sx (Γ : Mem) (L0 : List HP) (w' : World) : Prop := ∃ Γ', Γ.le Γ' ∧ Sat Γ' L0 w'

theorem Stars.take : ∀ {L0 R : List HP} {Γ : Mem} {h : Hp}, Stars (L0 ++ R) Γ h → Stars L0 Γ h
  | [], _, _, _, _ => trivial
  | _ :: _, _, _, _, ⟨h1, h2, ha, he, hA, hL⟩ => ⟨h1, h2, ha, he, hA, Stars.take hL⟩

theorem Sat.take {L0 R : List HP} (h : Sat Γ (L0 ++ R) w) : Sat Γ L0 w := by
  obtain ⟨m, h1, h2, h3⟩ := h
  exact ⟨m, h1.take, h2, h3⟩

theorem Sat.sx {L0 R : List HP} {Γ0 : Mem} (h : Sat Γ (L0 ++ R) w) (hl : Γ0.le Γ) : Sx Γ0 L0 w := ⟨Γ, hl, h.take⟩

theorem ldH {L0 : List HP} {b : Nat} {c : Array Value} {T : TypeId} {z : Nat × Nat} {o : Nat} {s : Sh} {K : s.T → Prop} (x : s.T) (pk : Pick (blk b (.cells c T z)) L0 L') (k : K x) (hc : rdC c o s x := by rfl) :
    Ld (Sx Γ L0) s ⟨b, o, none⟩ K := by
  refine ⟨x, ?_, k⟩
  rintro w' ⟨Γ', _, h⟩
  exact rd_of (h.pick pk).heap hc

/-- a cell -/
def cellAt (b o : Nat) (v : Value) : HP := ⟨fun _ h => ∃ c T z, h b = some (.cells c T z) ∧ c[o]? = some v, fun _ _ _ _ h => h⟩

theorem Sat.cell {b o : Nat} {v : Value} {c : Array Value} {T : TypeId} {z : Nat × Nat} (h : Sat Γ (blk b (.cells c T z) :: L) w) (hv : c[o]? = some v) : Sat Γ (cellAt b o v :: L) w :=
  h.weaken fun _ hm => ⟨c, T, z, hm, hv⟩

theorem Sat.cellRd {b o : Nat} {v : Value} (h : Sat Γ (cellAt b o v :: L) w) : w.cell? ⟨b, o, none⟩ = some v := by
  obtain ⟨m, ⟨h1, h2, ha, he, ⟨c, T, z, h5, h6⟩, hL⟩, h4, h3⟩ := h
  rw [cell_of (h4 b (.cells c T z) (by subst he; simp [Hp.join, h5])).1]
  exact h6

theorem ldHc {L0 : List HP} {b o : Nat} {s : Sc} {K : s.T → Prop} (x : s.T) (pk : Pick (cellAt b o (s.v x)) L0 L') (k : K x) : Ld (Sx Γ L0) (.s s) ⟨b, o, none⟩ K := by
  refine ⟨x, ?_, k⟩
  rintro w' ⟨Γ', _, h⟩
  exact (h.pick pk).cellRd

theorem held {F : (World → Prop) → Prop} (Γ : Mem) (L0 : List HP) (h : F (Sx Γ L0)) : Held F := ⟨_, h⟩

/-- a call, by what its text means -/
theorem callP {f : FuncId} {fn : Func} {vals : List Value} {r : Rs} {K : r.T → World → Prop} (args : List SV) (an : An) (hN : NoNG P) (hm : P.follows .mixedOrders = true) (hf : P.funcs[f]? = some fn) (hfit : fitsFn P an fn = true) (hn : Nat.ble args.length fn.ntmps = true)
    (hv : args.map SV.v = vals) (h : dFn P an fn args (fun v w' => ∃ x, v = r.v x ∧ K x w') w) : CallP P f vals r K w := by
  subst hv
  refine ⟨Calls.mono (dFn_calls hN hm hf (Nat.le_of_ble_eq_true hn) hfit h) ?_⟩
  rintro e w' ⟨v, rfl, x, rfl, hk⟩
  exact ⟨x, rfl, hk⟩

theorem callP_mono {f : FuncId} {vals : List Value} {r : Rs} {K K' : r.T → World → Prop} (h : CallP P f vals r K w) (hk : ∀ x w', K x w' → K' x w') : CallP P f vals r K' w :=
  ⟨Calls.mono h.out fun _ _ ⟨x, h1, h2⟩ => ⟨x, h1, hk _ _ h2⟩⟩

/-- a loop: a relation that bears a number, which every round lowers -/
theorem loop {σ : Type} {F : (σ → World → Prop) → σ → World → Prop} {s : σ} (I : σ → World → Nat → Prop) (n : Nat) (h0 : I s w n)
    (round : ∀ s w n, I s w n → F (fun s' w' => ∃ m, m < n ∧ I s' w' m) s w) : Loop σ F s w := ⟨I, ⟨n, h0⟩, round⟩

theorem join {σ : Type} {F : (σ → World → Prop) → Prop} {G : σ → World → Prop} (J : σ → World → Prop) (h : F J) (k : ∀ s w, J s w → G s w) : Join σ F G := ⟨J, h, k⟩

/-- ways that meet again, each followed to the end -/
theorem joinI {σ : Type} {F : (σ → World → Prop) → Prop} {G : σ → World → Prop} (h : F G) : Join σ F G := ⟨G, h, fun _ _ h => h⟩

end Go.Proofs.Ytocmjngleknlbaa.K

/-
  Slices: frozen ones, owned ones; append and make.
-/
namespace Go.Proofs.Ytocmjngleknlbaa.K
open Go
variable {P : Program} {Γ Γ' : Mem} {L L' : List HP} {w w' : World} {A B : HP}

/-- a frozen slice: its cells -/
structure Fz (Γ : Mem) (s : Sl) (sz : Nat) (cells : List Value) : Prop where
  len : cells.length = s.len * sz
  cap : s.len ≤ s.cap
  small : s.len ≤ 9223372036854775807
  at_ : s.len ≠ 0 → ∃ b o c T z, s.p = some ⟨b, o, none⟩ ∧ Γ b = some (.cells c T z) ∧ ∀ i v, cells[i]? = some v → c[o + i]? = some v

theorem Fz.mono {s : Sl} {sz : Nat} {cells : List Value} (h : Fz Γ s sz cells) (hl : Γ.le Γ') : Fz Γ' s sz cells :=
  ⟨h.len, h.cap, h.small, fun hn => let ⟨b, o, c, T, z, h1, h2, h3⟩ := h.at_ hn; ⟨b, o, c, T, z, h1, hl _ _ h2, h3⟩⟩

theorem Fz.nil (sz : Nat) (p : Option Addr) (c : Nat) : Fz Γ ⟨p, 0, c⟩ sz [] := ⟨by simp, Nat.zero_le _, by simp, fun h => absurd rfl h⟩

/-- does the list hold, from here on, what is read? -/
def rdL (c : List Value) (o : Nat) : (h : Sh) → h.T → Prop
  | .s s, x => c[o]? = some (s.v x)
  | .agg l, x => ∀ i v, (ScsV l x)[i]? = some v → c[o + i]? = some v

theorem rdC_of_L {cells : List Value} {c : Array Value} {o k : Nat} (hc : ∀ i v, cells[i]? = some v → c[o + i]? = some v) {s : Sh} {x : s.T} (h : rdL cells k s x) : rdC c (o + k) s x := by
  cases s with
  | s s => exact hc _ _ h
  | agg l => intro i v hv; rw [Nat.add_assoc]; exact hc _ _ (h i v hv)

/-- a frozen slice has a place -/
theorem Fz.place {s : Sl} {sz : Nat} {cells : List Value} (h : Fz Γ s sz cells) (hn : s.len ≠ 0) : ∃ a, s.p = some a ∧ ∀ (w : World), Sat Γ L w → ∀ (k : Nat) (sh : Sh) (x : sh.T), rdL cells k sh x → rdSh w (a.add k) sh x := by
  obtain ⟨b, o, c, T, z, h1, h2, h3⟩ := h.at_ hn
  refine ⟨_, h1, fun w hw k sh x hx => ?_⟩
  rw [add_plain]
  exact rd_of (hw.frozen h2) (rdC_of_L h3 hx)

/-- an owned slice: its cells; what room there is behind them is owned too -/
def Own (s : Sl) (T : TypeId) (sz : Nat) (cells : List Value) : HP :=
  ⟨fun _ h => cells.length = s.len * sz ∧ s.len ≤ s.cap ∧ ((s.p = none ∧ s.cap = 0) ∨ ∃ b spare, s.p = some ⟨b, 0, none⟩ ∧ cells.length + spare.length = s.cap * sz ∧ h b = some (.cells (cells ++ spare).toArray T (0, 0))),
   fun _ _ _ _ h => h⟩

theorem Sat.own {s : Sl} {T : TypeId} {sz : Nat} {cells : List Value} (h : Sat Γ (Own s T sz cells :: L) w) :
    cells.length = s.len * sz ∧ s.len ≤ s.cap ∧ ((s.p = none ∧ s.cap = 0) ∨ ∃ b spare, s.p = some ⟨b, 0, none⟩ ∧ cells.length + spare.length = s.cap * sz ∧ Sat Γ (blk b (.cells (cells ++ spare).toArray T (0, 0)) :: L) w) := by
  obtain ⟨m, ⟨h1, h2, ha, he, ⟨hl, hc, hp⟩, hL⟩, h4, h3⟩ := h
  refine ⟨hl, hc, hp.imp id ?_⟩
  rintro ⟨b, spare, h5, h6, h7⟩
  exact ⟨b, spare, h5, h6, m, ⟨h1, h2, ha, he, h7, hL⟩, h4, h3⟩

theorem Sat.toOwn {s : Sl} {T : TypeId} {sz b : Nat} {cells spare : List Value} (h : Sat Γ (blk b (.cells (cells ++ spare).toArray T (0, 0)) :: L) w) (hp : s.p = some ⟨b, 0, none⟩) (hl : cells.length = s.len * sz)
    (hc : s.len ≤ s.cap) (hs : cells.length + spare.length = s.cap * sz) : Sat Γ (Own s T sz cells :: L) w :=
  h.weaken fun _ hm => ⟨hl, hc, .inr ⟨b, spare, hp, hs, hm⟩⟩

/-- a block that was just made as a slice of its own -/
theorem Sat.whole {T : TypeId} {sz b n : Nat} {arr : Array Value} (h : Sat Γ (blk b (.cells arr T (0, 0)) :: L) w) (hn : arr.size = n * sz) : Sat Γ (Own ⟨some ⟨b, 0, none⟩, n, n⟩ T sz arr.toList :: L) w := by
  refine Sat.toOwn (b := b) (spare := []) (by simpa using h) rfl (by simpa using hn) (Nat.le_refl _) (by simpa using hn)

/-- nil is a slice that anybody owns -/
theorem Sat.ownNil {T : TypeId} {sz : Nat} (h : Sat Γ L w) : Sat Γ (Own ⟨none, 0, 0⟩ T sz [] :: L) w := by
  obtain ⟨m, hs, h4, h3⟩ := h
  exact ⟨m, ⟨fun _ => none, m, fun _ => .inl rfl, by funext b; simp [Hp.join], ⟨by simp, Nat.le_refl _, .inl ⟨rfl, rfl⟩⟩, hs⟩, h4, h3⟩

theorem Own.place {s : Sl} {T : TypeId} {sz : Nat} {cells : List Value} (h : Sat Γ (Own s T sz cells :: L) w) (hn : s.len ≠ 0) :
    ∃ b spare, s.p = some ⟨b, 0, none⟩ ∧ cells.length + spare.length = s.cap * sz ∧ Sat Γ (blk b (.cells (cells ++ spare).toArray T (0, 0)) :: L) w := by
  obtain ⟨hl, hc, hp | hp⟩ := h.own
  · exact absurd (by omega) hn
  · exact hp

theorem rdL_append {cells spare : List Value} {k : Nat} {s : Sh} {x : s.T} (h : rdL cells k s x) : rdC (cells ++ spare).toArray k s x := by
  have key : ∀ i v, cells[i]? = some v → (cells ++ spare).toArray[i]? = some v := fun i v hv => by
    have hi : i < cells.length := (List.getElem?_eq_some_iff.1 hv).1
    rw [List.getElem?_toArray, List.getElem?_append_left hi]
    exact hv
  cases s with
  | s s => exact key _ _ h
  | agg l => intro i v hv; exact key _ _ (h i v hv)

/-- what is read of a slice of one's own: the place, and what stands there -/
theorem nnOwn {s : Sl} {T : TypeId} {sz : Nat} {cells : List Value} {K : Addr → Prop} (h : Sat Γ L w) (pk : Pick (Own s T sz cells) L L') (hn : s.len ≠ 0)
    (k : ∀ a, s.p = some a → (∀ (k : Nat) (sh : Sh) (x : sh.T), rdL cells k sh x → rdSh w (a.add k) sh x) → K a) : NN s.p K := by
  obtain ⟨b, spare, h1, h2, h3⟩ := Own.place (h.pick pk) hn
  refine ⟨_, h1, k _ h1 fun k sh x hx => ?_⟩
  rw [add_plain, Nat.zero_add]
  exact rd_of h3.heap (rdL_append hx)

theorem nnFz {s : Sl} {sz : Nat} {cells : List Value} {K : Addr → Prop} (h : Sat Γ L w) (hf : Fz Γ s sz cells) (hn : s.len ≠ 0)
    (k : ∀ a, s.p = some a → (∀ (k : Nat) (sh : Sh) (x : sh.T), rdL cells k sh x → rdSh w (a.add k) sh x) → K a) : NN s.p K := by
  obtain ⟨a, h1, h2⟩ := hf.place (L := L) hn
  exact ⟨a, h1, k a h1 fun k sh x hx => h2 w h k sh x hx⟩

theorem ldAt {a : Addr} {s : Sh} {K : s.T → Prop} (x : s.T) (hr : rdSh w a s x) (k : K x) : Ld (fun w' => w' = w) s a K := ⟨x, fun w' hw => by subst hw; exact hr, k⟩

theorem ldOwnH {L0 : List HP} {sl : Sl} {T : TypeId} {sz : Nat} {cells : List Value} {a : Addr} {k : Nat} {s : Sh} {K : s.T → Prop} (x : s.T) (pk : Pick (Own sl T sz cells) L0 L') (ha : sl.p = some a) (hn : sl.len ≠ 0)
    (hx : rdL cells k s x) (kk : K x) : Ld (Sx Γ L0) s (a.add k) K := by
  refine ⟨x, ?_, kk⟩
  rintro w' ⟨Γ', _, h⟩
  obtain ⟨b, spare, h1, h2, h3⟩ := Own.place (h.pick pk) hn
  rw [h1] at ha
  cases ha
  rw [add_plain, Nat.zero_add]
  exact rd_of h3.heap (rdL_append hx)

theorem add_add {a : Addr} (ha : a.spot = none) (i j : Nat) : (a.add i).add j = a.add (i + j) := by
  obtain ⟨b, o, s⟩ := a
  simp only at ha
  subst ha
  rw [add_plain, add_plain, add_plain, Nat.add_assoc]

/-- what a frozen slice holds, read in any world that is asked -/
theorem ldFzH {L0 : List HP} {sl : Sl} {sz : Nat} {cells : List Value} {a : Addr} {k : Nat} {s : Sh} {K : s.T → Prop} (x : s.T) (hf : Fz Γ sl sz cells) (ha : sl.p = some a) (hn : sl.len ≠ 0)
    (hx : rdL cells k s x) (kk : K x) : Ld (Sx Γ L0) s (a.add k) K := by
  refine ⟨x, ?_, kk⟩
  rintro w' ⟨Γ', hl, h⟩
  obtain ⟨a', h1, h2⟩ := (hf.mono hl).place (L := L0) hn
  rw [h1] at ha
  cases ha
  exact h2 w' h k s x hx

/-- a slice of one's own begins at the begin of a block -/
theorem Own.spot {s : Sl} {T : TypeId} {sz : Nat} {cells : List Value} {a : Addr} (h : Sat Γ L w) (pk : Pick (Own s T sz cells) L L') (ha : s.p = some a) : a.spot = none := by
  obtain ⟨_, _, h1 | ⟨b, spare, h1, _⟩⟩ := (h.pick pk).own
  · rw [h1.1] at ha; cases ha
  · rw [h1] at ha; cases ha; rfl

theorem Fz.spot {s : Sl} {sz : Nat} {cells : List Value} {a : Addr} (h : Fz Γ s sz cells) (hn : s.len ≠ 0) (ha : s.p = some a) : a.spot = none := by
  obtain ⟨b, o, c, T, z, h1, _⟩ := h.at_ hn
  rw [h1] at ha; cases ha; rfl

/-- several cells from a place on -/
def setL (c : List Value) : Nat → List Value → List Value
  | _, [] => c
  | o, v :: r => setL (c.set o v) (o + 1) r

/-- things of one size in a row of cells -/
theorem flatMap_get {α : Type} {f : α → List Value} {sz : Nat} (hf : ∀ x, (f x).length = sz) : ∀ (l : List α) (i j : Nat) (x : α), l[i]? = some x → j < sz → (l.flatMap f)[i * sz + j]? = (f x)[j]?
  | [], i, j, x, h, _ => by simp at h
  | y :: r, 0, j, x, h, hj => by
    have : y = x := by simpa using h
    subst this
    rw [List.flatMap_cons, Nat.zero_mul, Nat.zero_add, List.getElem?_append_left (by rw [hf]; exact hj)]
  | y :: r, i + 1, j, x, h, hj => by
    rw [List.flatMap_cons, List.getElem?_append_right (by rw [hf, Nat.succ_mul]; omega), hf]
    rw [show (i + 1) * sz + j - sz = i * sz + j by rw [Nat.succ_mul]; omega]
    exact flatMap_get hf r i j x (by simpa using h) hj

theorem flatMap_length {α : Type} {f : α → List Value} {sz : Nat} (hf : ∀ x, (f x).length = sz) (l : List α) : (l.flatMap f).length = l.length * sz := by
  induction l with
  | nil => simp
  | cons x r ih => rw [List.flatMap_cons, List.length_append, hf, ih, List.length_cons, Nat.succ_mul]; omega

theorem setL_append_left : ∀ (vs a b : List Value) (o : Nat), o + vs.length ≤ a.length → setL (a ++ b) o vs = setL a o vs ++ b
  | [], _, _, _, _ => rfl
  | v :: r, a, b, o, h => by
    simp only [List.length_cons] at h
    rw [setL, setL, List.set_append, if_pos (by omega), setL_append_left r (a.set o v) b (o + 1) (by simpa using by omega)]

theorem setL_append_right : ∀ (vs a b : List Value) (o : Nat), setL (a ++ b) (a.length + o) vs = a ++ setL b o vs
  | [], _, _, _ => rfl
  | v :: r, a, b, o => by
    rw [setL, setL, List.set_append, if_neg (by omega), show a.length + o - a.length = o by omega]
    exact setL_append_right r a (b.set o v) (o + 1)

theorem setL_whole : ∀ (vs a p : List Value), vs.length = a.length → setL (p ++ a) p.length vs = p ++ vs
  | [], a, p, h => by
    have : a = [] := List.eq_nil_of_length_eq_zero h.symm
    subst this
    rfl
  | v :: r, a, p, h => by
    cases a with
    | nil => cases h
    | cons x a =>
      rw [setL]
      have e : (p ++ x :: a).set p.length v = (p ++ [v]) ++ a := by simp
      rw [e, show p.length + 1 = (p ++ [v]).length by simp, setL_whole r a (p ++ [v]) (by simpa using h)]
      simp

theorem flatMap_set {α : Type} {f : α → List Value} {sz : Nat} (hf : ∀ x, (f x).length = sz) : ∀ (l : List α) (i : Nat) (y : α), i < l.length → setL (l.flatMap f) (i * sz) (f y) = (l.set i y).flatMap f
  | x :: r, 0, y, _ => by
    rw [List.flatMap_cons, List.set_cons_zero, List.flatMap_cons, Nat.zero_mul, setL_append_left (f y) (f x) _ 0 (by rw [hf, hf]; omega)]
    have := setL_whole (f y) (f x) [] (by rw [hf, hf])
    rw [show (0 : Nat) = ([] : List Value).length from rfl]
    simpa using this
  | x :: r, i + 1, y, h => by
    rw [List.flatMap_cons, List.set_cons_succ, List.flatMap_cons, Nat.succ_mul, Nat.add_comm (i * sz) sz]
    have := setL_append_right (f y) (f x) (r.flatMap f) (i * sz)
    rw [hf] at this
    rw [this, flatMap_set hf r i y (by simpa using h)]

/-- a cell of a slice of one's own is written -/
theorem stOwn {s : Sl} {T : TypeId} {sz : Nat} {cells : List Value} {a : Addr} {i : Nat} {v : Value} {K : World → Prop} (h : Sat Γ L w) (pk : Pick (Own s T sz cells) L L') (ha : s.p = some a) (hi : i < cells.length)
    (hv : v.oneCell' = true) (k : ∀ w', Sat Γ (Own s T sz (cells.set i v) :: L') w' → K w') : St (a.add i) v K w := by
  have hn : s.len ≠ 0 := by
    intro h0
    have := (h.pick pk).own.1
    rw [h0, Nat.zero_mul] at this
    omega
  have ho := (h.pick pk).own
  obtain ⟨b, spare, h1, h2, h3⟩ := Own.place (h.pick pk) hn
  rw [h1] at ha
  cases ha
  rw [add_plain, Nat.zero_add]
  refine st h3 .here (fun w' hw' => k w' ?_) (ho := Nat.ble_eq_true_of_le (by simp; omega)) (hv := hv) (hz := by simp [freeB, Nat.blt, Nat.ble])
  refine Sat.toOwn (b := b) (spare := spare) ?_ h1 (by simpa using ho.1) ho.2.1 (by simpa using h2)
  have e : ((cells ++ spare).toArray.setIfInBounds i v) = (cells.set i v ++ spare).toArray := by
    apply Array.toList_inj.1
    simp only [Array.toList_setIfInBounds, List.set_append, hi, if_true]
  rw [← e]
  exact hw'

theorem stOwn2 {s : Sl} {T : TypeId} {sz : Nat} {cells : List Value} {a : Addr} {i j : Nat} {v : Value} {K : World → Prop} (h : Sat Γ L w) (pk : Pick (Own s T sz cells) L L') (ha : s.p = some a) (hi : i + j < cells.length)
    (hv : v.oneCell' = true) (k : ∀ w', Sat Γ (Own s T sz (cells.set (i + j) v) :: L') w' → K w') : St ((a.add i).add j) v K w := by
  rw [add_add (Own.spot h pk ha)]
  exact stOwn h pk ha hi hv k

theorem ldAt2 {a : Addr} {i j : Nat} {s : Sh} {K : s.T → Prop} (hs : a.spot = none) (x : s.T) (hr : rdSh w (a.add (i + j)) s x) (k : K x) : Ld (fun w' => w' = w) s ((a.add i).add j) K := by
  rw [add_add hs]
  exact ldAt x hr k

theorem setL_length : ∀ (vs c : List Value) (o : Nat), (setL c o vs).length = c.length
  | [], _, _ => rfl
  | v :: r, c, o => by simp [setL, setL_length r]

theorem setN_append : ∀ (vs cells spare : List Value) (o : Nat), o + vs.length ≤ cells.length → setN (cells ++ spare).toArray o vs = (setL cells o vs ++ spare).toArray
  | [], _, _, _, _ => rfl
  | v :: r, cells, spare, o, h => by
    simp only [List.length_cons] at h
    have hi : o < cells.length := by omega
    have e : ((cells ++ spare).toArray.setIfInBounds o v) = (cells.set o v ++ spare).toArray := by
      apply Array.toList_inj.1
      simp only [Array.toList_setIfInBounds, List.set_append, hi, if_true]
    rw [setN, e, setN_append r (cells.set o v) spare (o + 1) (by simpa using by omega), setL]

theorem stNOwn {s : Sl} {T : TypeId} {sz : Nat} {cells : List Value} {a : Addr} {i : Nat} {vs : List Value} {K : World → Prop} (h : Sat Γ L w) (pk : Pick (Own s T sz cells) L L') (ha : s.p = some a) (hi : i + vs.length ≤ cells.length)
    (hn : s.len ≠ 0) (hv : ∀ v ∈ vs, v.oneCell' = true) (k : ∀ w', Sat Γ (Own s T sz (setL cells i vs) :: L') w' → K w') : StN (a.add i) vs K w := by
  have ho := (h.pick pk).own
  obtain ⟨b, spare, h1, h2, h3⟩ := Own.place (h.pick pk) hn
  rw [h1] at ha
  cases ha
  rw [add_plain, Nat.zero_add]
  refine stN1 h3 .here (by simp; omega) hv (fun _ _ => by simp [freeAt]) fun w' hw' => k w' ?_
  rw [setN_append vs cells spare i hi] at hw'
  exact Sat.toOwn hw' h1 (by rw [setL_length]; exact ho.1) ho.2.1 (by rw [setL_length]; exact h2)

/-- it is never written any more -/
theorem Sat.freezeOwn {s : Sl} {T : TypeId} {sz : Nat} {cells : List Value} (h : Sat Γ (Own s T sz cells :: L) w) (hs : s.len ≤ 140737488355328) : ∃ Γ', Γ.le Γ' ∧ Fz Γ' s sz cells ∧ Sat Γ' L w := by
  obtain ⟨hl, hc, hp⟩ := h.own
  rcases hp with ⟨h1, h2⟩ | ⟨b, spare, h1, h2, h3⟩
  · exact ⟨Γ, .refl Γ, ⟨hl, hc, by omega, fun h0 => absurd (by omega) h0⟩, h.drop⟩
  · obtain ⟨Γ', g1, g2, g3⟩ := h3.freeze
    refine ⟨Γ', g1, ⟨hl, hc, by omega, fun _ => ⟨b, 0, _, T, (0, 0), h1, g2, fun i v hv => ?_⟩⟩, g3⟩
    have hi : i < cells.length := (List.getElem?_eq_some_iff.1 hv).1
    rw [Nat.zero_add, List.getElem?_toArray, List.getElem?_append_left hi]
    exact hv

/-! ### append, make -/

/-- a slice's type: its element's type, how many cells and bytes an element has, its zero -/
structure SlT (P : Program) (t e sz by_ : Nat) (z : List Value) : Prop where
  und : P.underlying t = some (.slice e)
  zero : ∃ i v, P.info? e = some i ∧ i.size = sz ∧ i.bytes = by_ ∧ i.zero = some v ∧ v.cells = z.toArray
  zlen : z.length = sz
  pos : 0 < sz
  posb : 0 < by_
  smallb : by_ ≤ 1048576

/-- what stands in what is appended -/
def Src (w : World) (v : Value) (n sz : Nat) (cells : List Value) : Prop := (∃ c, v = .slice none n c ∧ n = 0 ∧ cells = []) ∨ (∃ a c, v = .slice (some a) n c ∧ cells.length = n * sz ∧ rdN w a cells)

theorem Src.kept {v : Value} {n sz : Nat} {cells : List Value} (h : Src w v n sz cells) (hk : ∀ a, (∃ u, w.cell? a = some u) → w'.cell? a = w.cell? a) : Src w' v n sz cells := by
  rcases h with h | ⟨a, c, h1, h2, h3⟩
  · exact .inl h
  · exact .inr ⟨a, c, h1, h2, fun i u hu => by rw [hk _ ⟨u, h3 i u hu⟩]; exact h3 i u hu⟩

theorem Src.firstCells {v : Value} {n sz : Nat} {cells : List Value} (h : Src w v n sz cells) : (Builtin.firstCells sz n v).run P w = .ok cells.toArray w ∧ (Builtin.lenOf v).run P w = .ok n w := by
  rcases h with ⟨c, rfl, rfl, rfl⟩ | ⟨a, c, rfl, h2, h3⟩
  · exact ⟨rfl, rfl⟩
  · refine ⟨?_, rfl⟩
    show (loadCells a (n * sz)).run P w = _
    rw [← h2]
    exact run_loadCells h3

theorem growBy_le (newLen : Nat) : ∀ (r c : Nat), c ≤ newLen → Builtin.growBy newLen r c ≤ 2 * newLen + 192
  | 0, c, h => by unfold Builtin.growBy; omega
  | r + 1, c, h => by
    unfold Builtin.growBy
    split
    · omega
    · by_cases h2 : c + (c + 768) / 4 ≤ newLen
      · exact growBy_le newLen r _ h2
      · have : ∀ (r c : Nat), newLen ≤ c → Builtin.growBy newLen r c = c := by
          intro r c hc
          cases r with
          | zero => rfl
          | succ r => unfold Builtin.growBy; rw [if_pos hc]
        rw [this r _ (by omega)]
        omega

theorem nextslicecap_le {newLen oldCap : Nat} (h : oldCap < newLen) : Builtin.nextslicecap newLen oldCap ≤ 2 * newLen + 192 := by
  unfold Builtin.nextslicecap
  split
  · omega
  · split
    · omega
    · exact growBy_le newLen 4 oldCap (by omega)

theorem zeroCells_eq {z : List Value} {n : Nat} (hz : 0 < z.length) : ∃ l : List Value, Builtin.zeroCells z.toArray n = l.toArray ∧ l.length = n * z.length :=
  ⟨(Builtin.zeroCells z.toArray n).toList, by simp, by simp [Builtin.zeroCells]⟩

theorem append_run {t t2 e sz by_ : Nat} {z : List Value} (ty : SlT P t e sz by_ z) (ht2 : ∃ d, P.underlying t2 = some d ∧ ∀ k, d ≠ .int k) {T : TypeId} {s : Sl} {v : Value} {n : Nat} {cells new : List Value}
    (h : Sat Γ (Own s e sz cells :: L) w) (hs : Src w v n sz new) (hnl : new.length = n * sz) (ho : ∀ v ∈ new, One v) (hb : (s.len + n) * by_ ≤ 70368744177664) :
    ∃ (s' : Sl) (w' : World), (Builtin.append_ #[t, t2] T #[.slice s.p s.len s.cap, v]).run P w = .ok (.slice s'.p s'.len s'.cap) w' ∧ s'.len = s.len + n ∧ Sat Γ (Own s' e sz (cells ++ new) :: L) w' := by
  obtain ⟨i, zv, hi, hsz, hby, hz, hzc⟩ := ty.zero
  obtain ⟨d, hd, hdi⟩ := ht2
  have hszO : szOf P e = some sz := by unfold szOf; rw [hi]; exact congrArg some hsz
  have hzeros : (match d with | .int _ => true | _ => false) = false := by cases d <;> first | rfl | exact absurd rfl (hdi _)
  obtain ⟨hfc, hln⟩ := hs.firstCells (P := P)
  obtain ⟨hl, hc, hp⟩ := h.own
  have hpos := ty.pos
  have hposb := ty.posb
  have hsum : s.len + n ≤ 70368744177664 := Nat.le_trans (Nat.le_mul_of_pos_right _ hposb) hb
  unfold Builtin.append_
  simp only [Sem.run_bind, run_underlying ty.und, Result.andThen, run_sizeOf hszO, List.getElem?_toArray, List.getElem?_cons_zero, List.getElem?_cons_succ, run_underlying hd, Sem.run_pure, hzeros, Bool.false_eq_true, if_false, hln]
  by_cases hfit : s.len + n ≤ s.cap
  · -- there is room
    simp only [hfit, if_true, Bool.not_false, Sem.run_bind, hfc, Result.andThen]
    rcases hp with ⟨h1, h2⟩ | ⟨b, spare, h1, h2, h3⟩
    · have hn0 : n = 0 := by omega
      have hs0 : s.len = 0 := by omega
      have hnew : new = [] := by
        apply List.eq_nil_of_length_eq_zero
        rw [hnl, hn0, Nat.zero_mul]
      subst hn0 hnew
      simp only [h1]
      exact ⟨s, w, by simp [h1], by omega, by simpa using h⟩
    · simp only [h1, add_plain, Nat.zero_add]
      -- the room behind is written
      have hsp : new.length ≤ spare.length := by
        rw [hnl]
        have : (s.len + n) * sz ≤ s.cap * sz := Nat.mul_le_mul_right _ hfit
        rw [Nat.add_mul] at this
        omega
      have hst := run_storeCells (P := P) (p := ⟨b, s.len * sz, none⟩) new 0 w ho (fun j hj => by
        rw [add_plain, Nat.zero_add]
        refine ⟨⟨(cells ++ spare).toArray[s.len * sz + j]'(by simp; omega), by rw [cell_of h3.heap]; simp [show s.len * sz + j < (cells ++ spare).length by simp; omega]⟩, frozen_of h3.heap (by simp [freeAt])⟩)
      simp only [Sem.run_bind, hst, Result.andThen, Sem.run_pure]
      refine ⟨⟨some ⟨b, 0, none⟩, s.len + n, s.cap⟩, _, rfl, rfl, ?_⟩
      have hsat := stN_sat (o := s.len * sz) new 0 _ w h3
      have e : ∀ (vs cells spare : List Value) (o : Nat), o = cells.length → vs.length ≤ spare.length → setN (cells ++ spare).toArray o vs = (cells ++ vs ++ spare.drop vs.length).toArray := by
        intro vs
        induction vs with
        | nil => intro cells spare o _ _; simp [setN]
        | cons v r ih =>
          intro cells spare o ho hlen
          cases spare with
          | nil => simp at hlen
          | cons u spare =>
            subst ho
            have e1 : ((cells ++ u :: spare).toArray.setIfInBounds cells.length v) = ((cells ++ [v]) ++ spare).toArray := by
              apply Array.toList_inj.1
              simp
            rw [setN, e1, ih (cells ++ [v]) spare (cells.length + 1) (by simp) (by simpa using hlen)]
            simp
      rw [Nat.add_zero, e new cells spare (s.len * sz) hl.symm hsp] at hsat
      refine Sat.toOwn (b := b) (spare := spare.drop new.length) hsat rfl (by simp [hl, hnl, Nat.add_mul]) hfit ?_
      simp only [List.length_append, List.length_drop]
      omega
  · -- a new array
    have hov : ¬ (((s.len + n : Nat) : Int) > IntKind.i64.max ∧ (False ∨ i.bytes = 0)) := by
      rintro ⟨h1, _⟩
      have : (IntKind.i64.max : Int) = 9223372036854775807 := by decide
      omega
    have hcap := nextslicecap_le (Nat.lt_of_not_le hfit)
    have hbig : ¬ (Builtin.nextslicecap (s.len + n) s.cap * i.bytes > 2 ^ 48) := by
      rw [hby]
      have h1 : Builtin.nextslicecap (s.len + n) s.cap * by_ ≤ (2 * (s.len + n) + 192) * by_ := Nat.mul_le_mul_right _ hcap
      have h2 : (2 * (s.len + n) + 192) * by_ = 2 * ((s.len + n) * by_) + 192 * by_ := by rw [Nat.add_mul, Nat.mul_assoc]
      have h3 := ty.smallb
      have h4 : (2 : Nat) ^ 48 = 281474976710656 := by decide
      omega
    have hold : ∀ w', w'.heap = w.heap → (Builtin.firstCells sz s.len (.slice s.p s.len s.cap)).run P w' = .ok cells.toArray w' := by
      intro w' hw'
      rcases hp with ⟨h1, h2⟩ | ⟨b, spare, h1, h2, h3⟩
      · have h0 : cells = [] := by
          apply List.eq_nil_of_length_eq_zero
          rw [hl, show s.len = 0 by omega, Nat.zero_mul]
        subst h0
        rw [h1]
        rfl
      · rw [h1]
        show (loadCells ⟨b, 0, none⟩ (s.len * sz)).run P w' = _
        rw [← hl]
        refine run_loadCells fun j u hu => ?_
        have hj : j < cells.length := (List.getElem?_eq_some_iff.1 hu).1
        rw [add_plain, Nat.zero_add, cell_of (by rw [hw']; exact h3.heap), List.getElem?_toArray, List.getElem?_append_left hj]
        exact hu
    have hnew : ∀ w', w'.heap = w.heap → (Builtin.firstCells sz n v).run P w' = .ok new.toArray w' := fun w' hw' =>
      (Src.firstCells (P := P) (hs.kept fun a _ => by simp only [World.cell?, hw'])).1
    simp only [hfit, if_false, Bool.not_false, Sem.run_bind, run_typeInfo hi, Result.andThen, Sem.run_ite, Bool.false_eq_true, false_or, or_false, false_and]
    have hov' : ¬ (((s.len + n : Nat) : Int) > IntKind.i64.max ∧ i.bytes = 0) := fun hh => hov ⟨hh.1, .inr hh.2⟩
    simp only [hov', if_false, hbig, Sem.run_pure, run_typeInfo hi, Result.andThen, run_choose, Question.forced, Bool.false_eq_true, run_askRoom]
    have hh1 := hold { w with drawn := w.drawn + 1 } rfl
    have hh2 := hnew { w with drawn := w.drawn + 1 } rfl
    obtain ⟨zl, hz1, hz2⟩ := zeroCells_eq (z := z) (n := (Question.appendCap (s.len + n) s.cap e).cut (w.tape w.drawn (Question.appendCap (s.len + n) s.cap e)) - (s.len + n)) (by rw [ty.zlen]; exact hpos)
    simp only [hh1, hh2, Result.andThen, run_zeroValue hi hz, hzc, hz1, newRow, Sem.run_bind, run_newObj, Sem.run_pure]
    have hge : s.len + n ≤ (Question.appendCap (s.len + n) s.cap e).cut (w.tape w.drawn (Question.appendCap (s.len + n) s.cap e)) := by
      simp only [Question.cut]; omega
    refine ⟨⟨some ⟨w.heap.size, 0, none⟩, s.len + n, (Question.appendCap (s.len + n) s.cap e).cut (w.tape w.drawn (Question.appendCap (s.len + n) s.cap e))⟩, _, rfl, rfl, ?_⟩
    have hs2 := h.drop.drew.new (.cells (cells.toArray ++ new.toArray ++ zl.toArray) e)
    refine Sat.toOwn (b := w.heap.size) (spare := zl) ?_ rfl (by simp [hl, hnl, Nat.add_mul]) hge ?_
    · have e1 : (cells ++ new ++ zl).toArray = cells.toArray ++ new.toArray ++ zl.toArray := by simp
      rw [e1]
      exact hs2
    · simp only [List.length_append, hl, hnl, hz2, ty.zlen]
      rw [← Nat.add_mul, ← Nat.add_mul]
      congr 1
      omega

/-- **append** to a slice of one's own -/
theorem append {t t2 e sz by_ : Nat} {z : List Value} (ty : SlT P t e sz by_ z) (ht2 : ∃ d, P.underlying t2 = some d ∧ ∀ k, d ≠ .int k) {T : TypeId} {s : Sl} {v : Value} {n : Nat} {cells new : List Value} {K : Sl → World → Prop}
    (h : Sat Γ L w) (pk : Pick (Own s e sz cells) L L') (hs : Src w v n sz new) (hnl : new.length = n * sz) (ho : ∀ v ∈ new, One v) (hb : (s.len + n) * by_ ≤ 70368744177664)
    (k : ∀ s' w', s'.len = s.len + n → Sat Γ (Own s' e sz (cells ++ new) :: L') w' → K s' w') :
    Prim P (Builtin.append_ #[t, t2] T #[.slice s.p s.len s.cap, v]) (.one (.s .sl)) K w := by
  obtain ⟨s', w', h1, h2, h3⟩ := append_run ty ht2 (T := T) (h.pick pk) hs hnl ho hb
  exact ⟨s', w', h1, k s' w' h2 h3⟩

theorem wrap64_id {n : Int} (h0 : -9223372036854775808 ≤ n) (h1 : n < 9223372036854775808) : IntKind.i64.wrap n = n := IntWalk.i64_in n (by omega)

theorem repl_get (z : List Value) (hz : 0 < z.length) : ∀ (n j : Nat), j < n * z.length → ((List.replicate n z).flatten)[j]? = z[j % z.length]? := by
  intro n
  induction n with
  | zero => intro j h; omega
  | succ n ih =>
    intro j h
    rw [List.replicate_succ, List.flatten_cons]
    by_cases hj : j < z.length
    · rw [List.getElem?_append_left hj, Nat.mod_eq_of_lt hj]
    · rw [List.getElem?_append_right (by omega), ih (j - z.length) (by rw [Nat.succ_mul] at h; omega), Nat.mod_eq_sub_mod (by omega : j ≥ z.length)]

theorem repl_eq (z : List Value) (hz : 0 < z.length) (n : Nat) : ((Array.range (n * z.length)).map fun j => z.toArray[j % z.toArray.size]!) = ((List.replicate n z).flatten).toArray := by
  apply Array.ext
  · simp [List.length_flatten]
  · intro j h1 h2
    simp only [Array.size_map, Array.size_range] at h1
    have hjm : j % z.length < z.length := Nat.mod_lt _ hz
    simp only [Array.getElem_map, Array.getElem_range, List.size_toArray]
    have e1 : z.toArray[j % z.length]! = z[j % z.length] := by
      rw [getElem!_pos _ _ (by simpa using hjm)]
      simp
    rw [e1]
    have h3 := repl_get z hz n j h1
    rw [List.getElem?_eq_getElem hjm] at h3
    have h4 : ((List.replicate n z).flatten).toArray[j]? = some (z[j % z.length]) := by rw [List.getElem?_toArray, h3]
    rw [Array.getElem?_eq_getElem h2] at h4
    exact (Option.some.inj h4).symm

/-- **make** of a slice -/
theorem make {t e sz by_ : Nat} {z : List Value} (ty : SlT P t e sz by_ z) {n c : Nat} {K : Sl → World → Prop} (h : Sat Γ L w) (hnc : n ≤ c) (hb : c * by_ ≤ 70368744177664)
    (k : ∀ s' w', s'.len = n → s'.cap = c → Sat Γ (Own s' e sz (List.replicate n z).flatten :: L) w' → K s' w') :
    Prim P (Instr.makeSlice t (.int .i64 n) (.int .i64 c)) (.one (.s .sl)) K w := by
  obtain ⟨i, zv, hi, hsz, hby, hz, hzc⟩ := ty.zero
  have hpos := ty.pos
  have hposb := ty.posb
  have hcs : c ≤ 70368744177664 := Nat.le_trans (Nat.le_mul_of_pos_right _ hposb) hb
  have hszO : szOf P e = some sz := by unfold szOf; rw [hi]; exact congrArg some hsz
  have hw1 : IntKind.i64.wrap (n : Int) = n := wrap64_id (by omega) (by omega)
  have hw2 : IntKind.i64.wrap (c : Int) = c := wrap64_id (by omega) (by omega)
  have hbi : ((i.bytes : Int) * (c : Int)) = ((c * by_ : Nat) : Int) := by rw [hby]; rw [Int.mul_comm]; rfl
  have h48 : (2 : Int) ^ 48 = 281474976710656 := by decide
  refine ⟨⟨some ⟨w.heap.size, 0, none⟩, n, c⟩, { w with heap := w.heap.push (.cells ((List.replicate c z).flatten).toArray e) }, ?_, k _ _ rfl rfl ?_⟩
  · have hcond : ((decide ((c : Int) < 0) || decide ((i.bytes : Int) * (c : Int) > 2 ^ 48)) || decide ((n : Int) < 0) || decide ((n : Int) > c)) = false := by
      rw [hbi, h48]
      simp only [Bool.or_eq_false_iff, decide_eq_false_iff_not]
      omega
    unfold Instr.makeSlice
    simp only [Sem.run_bind, run_underlying ty.und, Result.andThen, asInt, asIntOf, Sem.run_pure, run_typeInfo hi, hw1, hw2]
    have hcond' : ¬ (((decide ((c : Int) < 0) || decide ((i.bytes : Int) * (c : Int) > 2 ^ 48)) || decide ((n : Int) < 0) || decide ((n : Int) > c)) = true) := by rw [hcond]; simp
    simp only [hcond, Bool.false_eq_true, if_false, Sem.run_bind, Sem.run_pure, Result.andThen, run_askRoom, run_sizeOf hszO, Int.toNat_natCast]
    by_cases hc0 : c * sz = 0
    · have hc00 : c = 0 := by
        rcases Nat.mul_eq_zero.1 hc0 with h | h
        · exact h
        · omega
      subst hc00
      have e0 : (Array.range 0).map (fun (x : Nat) => (#[] : Array Value)[x % (#[] : Array Value).size]!) = #[] := by simp
      simp only [Nat.zero_mul, if_true, Sem.run_pure, Result.andThen, e0, newRow, Sem.run_bind, run_newObj]
      rfl
    · have e1 : (Array.range (c * sz)).map (fun j => z.toArray[j % z.toArray.size]!) = ((List.replicate c z).flatten).toArray := by
        rw [← ty.zlen]; exact repl_eq z (by rw [ty.zlen]; exact hpos) c
      simp only [hc0, if_false, Sem.run_bind, run_zeroValue hi hz, Sem.run_pure, Result.andThen, hzc, e1, newRow, run_newObj]
      rfl
  · have hs := h.new (.cells ((List.replicate c z).flatten).toArray e)
    refine Sat.toOwn (b := w.heap.size) (spare := (List.replicate (c - n) z).flatten) ?_ rfl (by simp [List.length_flatten, ty.zlen]) hnc ?_
    · have e1 : (List.replicate n z).flatten ++ (List.replicate (c - n) z).flatten = (List.replicate c z).flatten := by
        rw [← List.flatten_append, List.replicate_append_replicate]
        congr 2
        omega
      rw [e1]
      exact hs
    · simp only [List.length_flatten, List.map_replicate, List.sum_replicate_nat, ty.zlen]
      rw [← Nat.add_mul]
      congr 1
      omega

end Go.Proofs.Ytocmjngleknlbaa.K

/-
  Bytes: slices of bytes that are frozen, strings made of them, what compares them.
-/
namespace Go.Proofs.Ytocmjngleknlbaa.K
open Go
variable {P : Program} {Γ Γ' : Mem} {L L' : List HP} {w w' : World} {A B : HP}

/-- a byte, as a cell -/
def bv (b : UInt8) : Value := .int .u8 (b.toNat : Int)

/-- a frozen slice of these bytes -/
def Bytes (Γ : Mem) (s : Sl) (bs : List UInt8) : Prop := Fz Γ s 1 (bs.map bv)

theorem Bytes.mono {s : Sl} {bs : List UInt8} (h : Bytes Γ s bs) (hl : Γ.le Γ') : Bytes Γ' s bs := Fz.mono h hl
theorem Bytes.len {s : Sl} {bs : List UInt8} (h : Bytes Γ s bs) : s.len = bs.length := by have := Fz.len h; simpa using this.symm
theorem Bytes.nil (p : Option Addr) (c : Nat) : Bytes Γ ⟨p, 0, c⟩ [] := Fz.nil 1 p c
theorem bv_one (b : UInt8) : One (bv b) := rfl
theorem map_bv_one (bs : List UInt8) : ∀ v ∈ bs.map bv, One v := by
  intro v hv
  obtain ⟨b, _, rfl⟩ := List.mem_map.1 hv
  exact bv_one b

/-- the string of bytes -/
def str (bs : List UInt8) : ByteArray := ⟨bs.toArray⟩

theorem str_toList (bs : List UInt8) : (str bs).toList = bs := ByteArray.toList_mk bs
theorem str_size (bs : List UInt8) : (str bs).size = bs.length := by simp [str, ByteArray.size]

theorem foldl_push (l : List UInt8) (acc : ByteArray) : l.foldl (fun r n => r.push n) acc = ⟨acc.data ++ l.toArray⟩ := by
  induction l generalizing acc with
  | nil => simp
  | cons x r ih =>
    rw [List.foldl_cons, ih]
    congr 1
    apply Array.toList_inj.1
    simp [ByteArray.push]

theorem Bytes.src {s : Sl} {bs : List UInt8} (h : Bytes Γ s bs) (hw : Sat Γ L w) : Src w (.slice s.p s.len s.cap) bs.length 1 (bs.map bv) := by
  have hl := h.len
  by_cases hn : s.len = 0
  · have hb : bs = [] := List.eq_nil_of_length_eq_zero (by omega)
    subst hb
    cases hp : s.p with
    | none => exact .inl ⟨s.cap, by simp [hn], rfl, rfl⟩
    | some a => exact .inr ⟨a, s.cap, by simp [hn], rfl, fun i v hv => by simp at hv⟩
  · obtain ⟨b, o, c, T, z, h1, h2, h3⟩ := Fz.at_ h hn
    refine .inr ⟨_, s.cap, by rw [h1, hl], by simp, fun i v hv => ?_⟩
    rw [add_plain, cell_of (hw.frozen h2)]
    exact h3 i v hv

theorem Bytes.toS {s : Sl} {bs : List UInt8} (h : Bytes Γ s bs) (hw : Sat Γ L w) : (Conv.bytesToString (.slice s.p s.len s.cap)).run P w = .ok (.string (str bs)) w := by
  have hl := h.len
  rcases h.src hw with ⟨c, h1, h2, h3⟩ | ⟨a, c, h1, h2, h3⟩
  · have hb : bs = [] := List.eq_nil_of_length_eq_zero h2
    subst hb
    rw [h1]
    rfl
  · rw [h1]
    have hr := run_loadCells (P := P) h3
    rw [List.length_map] at hr
    have e : (bs.map bv) = (bs.map fun b => (b.toNat : Int)).map (Value.int .u8) := by simp [bv, Function.comp_def]
    rw [e] at hr
    rw [run_bytesToString w a bs.length c _ hr]
    congr 2
    rw [List.foldl_map]
    have e2 : (fun (r : ByteArray) (b : UInt8) => r.push (UInt8.ofNat ((b.toNat : Int)).toNat)) = fun r b => r.push b := by
      funext r b; simp
    rw [e2, foldl_push]
    simp [str]

/-- bytes as a string -/
theorem btoS {s : Sl} {K : ByteArray → Prop} {bs : List UInt8} (hw : Sat Γ L w) (h : Bytes Γ s bs) (k : K (str bs)) : BtoS P (fun w' => w' = w) s K :=
  ⟨_, fun w' hw' => by subst hw'; exact h.toS hw, k⟩

/-- bytes held against each other -/
def cmpB : List UInt8 → List UInt8 → Int
  | [], [] => 0
  | [], _ :: _ => -1
  | _ :: _, [] => 1
  | a :: x, b :: y => if a < b then -1 else if b < a then 1 else cmpB x y

theorem u8_eq {a b : UInt8} (h1 : ¬ a < b) (h2 : ¬ b < a) : a = b := by
  apply UInt8.toNat_inj.1
  have h1' : ¬ a.toNat < b.toNat := fun h => h1 (UInt8.lt_iff_toNat_lt.2 h)
  have h2' : ¬ b.toNat < a.toNat := fun h => h2 (UInt8.lt_iff_toNat_lt.2 h)
  omega

theorem u8_irr (a : UInt8) : ¬ a < a := fun h => Nat.lt_irrefl _ (UInt8.lt_iff_toNat_lt.1 h)
theorem u8_asymm {a b : UInt8} (h : a < b) : ¬ b < a := fun h' => Nat.lt_asymm (UInt8.lt_iff_toNat_lt.1 h) (UInt8.lt_iff_toNat_lt.1 h')
theorem u8_trans {a b c : UInt8} (h : a < b) (h' : b < c) : a < c := UInt8.lt_iff_toNat_lt.2 (Nat.lt_trans (UInt8.lt_iff_toNat_lt.1 h) (UInt8.lt_iff_toNat_lt.1 h'))

theorem cmpB_eq_zero : ∀ {x y : List UInt8}, cmpB x y = 0 ↔ x = y
  | [], [] => by simp [cmpB]
  | [], _ :: _ => by simp [cmpB]
  | _ :: _, [] => by simp [cmpB]
  | a :: x, b :: y => by
    unfold cmpB
    by_cases h1 : a < b
    · simp only [h1, if_true]
      constructor
      · intro h; omega
      · intro h; cases h; exact absurd h1 (u8_irr _)
    · by_cases h2 : b < a
      · simp only [h1, h2, if_true, if_false]
        constructor
        · intro h; omega
        · intro h; cases h; exact absurd h2 (u8_irr _)
      · simp only [h1, h2, if_false, cmpB_eq_zero]
        have := u8_eq h1 h2
        subst this
        simp

theorem cmpB_neg : ∀ (x y : List UInt8), cmpB y x = - cmpB x y
  | [], [] => rfl
  | [], _ :: _ => rfl
  | _ :: _, [] => rfl
  | a :: x, b :: y => by
    unfold cmpB
    by_cases h1 : a < b
    · simp only [h1, u8_asymm h1, if_true, if_false]; rfl
    · by_cases h2 : b < a
      · simp only [h1, h2, if_true, if_false]
      · simp only [h1, h2, if_false]; exact cmpB_neg x y

theorem bytesLess_cmpB : ∀ (x y : List UInt8), Op.bytesLess x y = decide (cmpB x y < 0)
  | [], [] => rfl
  | [], _ :: _ => rfl
  | _ :: _, [] => rfl
  | a :: x, b :: y => by
    unfold Op.bytesLess cmpB
    by_cases h1 : a < b
    · simp [h1]
    · by_cases h2 : b < a
      · have : a ≠ b := by rintro rfl; exact u8_irr _ h2
        simp [h1, h2, this]
      · have := u8_eq h1 h2
        subst this
        simp [h1, bytesLess_cmpB x y]

theorem cmpB_trans : ∀ {x y z : List UInt8}, cmpB x y < 0 → cmpB y z < 0 → cmpB x z < 0
  | [], [], _, h, _ => by simp [cmpB] at h
  | [], _ :: _, [], _, h => by simp [cmpB] at h
  | [], _ :: _, _ :: _, _, _ => by simp [cmpB]
  | _ :: _, [], _, h, _ => by simp [cmpB] at h
  | _ :: _, _ :: _, [], _, h => by simp [cmpB] at h
  | a :: x, b :: y, c :: z, h, h' => by
    unfold cmpB at h h' ⊢
    by_cases h1 : a < b
    · by_cases h2 : b < c
      · simp [u8_trans h1 h2]
      · by_cases h3 : c < b
        · simp [h2, h3] at h'
        · have := u8_eq h2 h3
          subst this
          simp [h1]
    · by_cases h4 : b < a
      · simp [h1, h4] at h
      · have := u8_eq h1 h4
        subst this
        simp only [h1, if_false] at h
        by_cases h2 : a < c
        · simp [h2]
        · by_cases h3 : c < a
          · simp [h2, h3] at h'
          · simp only [h2, h3, if_false] at h' ⊢
            exact cmpB_trans h h'

theorem cmpB_range (x y : List UInt8) : cmpB x y = -1 ∨ cmpB x y = 0 ∨ cmpB x y = 1 := by
  induction x generalizing y with
  | nil => cases y <;> simp [cmpB]
  | cons a x ih =>
    cases y with
    | nil => simp [cmpB]
    | cons b y =>
      unfold cmpB
      split
      · simp
      · split
        · simp
        · exact ih y

theorem find_range_cmp : ∀ (x y : List UInt8), (match (List.range (min x.length y.length)).find? (fun i => x[i]! != y[i]!) with
    | some i => if x[i]! < y[i]! then (-1 : Int) else 1
    | none => if x.length < y.length then -1 else if x.length > y.length then 1 else 0) = cmpB x y
  | [], [] => rfl
  | [], _ :: _ => by simp [cmpB]
  | _ :: _, [] => by simp [cmpB]
  | a :: x, b :: y => by
    have ih := find_range_cmp x y
    have hm : min (a :: x).length (b :: y).length = min x.length y.length + 1 := by simp only [List.length_cons]; omega
    rw [hm, List.range_succ_eq_map, List.find?_cons]
    unfold cmpB
    by_cases hab : a = b
    · subst hab
      have h0 : ((a :: x)[0]! != (a :: y)[0]!) = false := by simp
      rw [h0]
      simp only [u8_irr, if_false]
      rw [← ih, List.find?_map]
      have hc : ((fun i => (a :: x)[i]! != (a :: y)[i]!) ∘ Nat.succ) = fun i => x[i]! != y[i]! := by
        funext i; simp
      rw [hc]
      cases (List.range (min x.length y.length)).find? fun i => x[i]! != y[i]! with
      | none => simp
      | some i => simp
    · have h0 : ((a :: x)[0]! != (b :: y)[0]!) = true := by simpa using hab
      rw [h0]
      by_cases h1 : a < b
      · simp [h1]
      · have h2 : b < a := by
          apply Classical.byContradiction
          intro h2
          exact hab (u8_eq h1 h2)
        simp [h1, h2]

theorem cmp_str (x y : List UInt8) : Extern.BytealgCompare.cmp (str x) (str y) = cmpB x y := by
  rw [← find_range_cmp]
  unfold Extern.BytealgCompare.cmp
  have hg : ∀ (l : List UInt8) (i : Nat), (str l)[i]! = l[i]! := by
    intro l i
    by_cases hi : i < l.length
    · have h1 : i < (str l).size := by rw [str_size]; exact hi
      rw [getElem!_pos (str l) i h1, getElem!_pos l i hi]
      rfl
    · have h1 : ¬ i < (str l).size := by rw [str_size]; exact hi
      rw [getElem!_neg (str l) i h1, getElem!_neg l i hi]
  simp only [hg, str_size]
  rfl

theorem loadBytes_run {a : Addr} : ∀ (bs : List UInt8) (o : Nat) (acc : ByteArray) (b : Nat), (∀ i v, (bs.map bv)[i]? = some v → w.cell? ⟨b, o + i, none⟩ = some v) →
    (Extern.Bytes.loadBytes ⟨b, o, none⟩ bs.length acc).run P w = .ok ⟨acc.data ++ bs.toArray⟩ w
  | [], o, acc, b, _ => by simp [Extern.Bytes.loadBytes]
  | x :: r, o, acc, b, h => by
    have h0 : w.cell? ⟨b, o, none⟩ = some (bv x) := by simpa using h 0 _ rfl
    have ih := loadBytes_run (a := a) r (o + 1) (acc.push x) b (fun i v hv => by
      have := h (i + 1) v hv
      rwa [show o + 1 + i = o + (i + 1) by omega])
    unfold Extern.Bytes.loadBytes
    simp only [List.length_cons, Sem.run_bind, run_load_some h0, Result.andThen, bv, add_plain]
    have e : ((x.toNat : Int)).toNat.toUInt8 = x := by simp
    rw [e, ih]
    congr 1
    congr 1
    apply Array.toList_inj.1
    simp [ByteArray.push]

theorem Bytes.of {s : Sl} {bs : List UInt8} (h : Bytes Γ s bs) (hw : Sat Γ L w) : (Extern.Bytes.bytesOf (.slice s.p s.len s.cap)).run P w = .ok (str bs) w := by
  have hl := h.len
  by_cases hn : s.len = 0
  · have hb : bs = [] := List.eq_nil_of_length_eq_zero (by omega)
    subst hb
    cases hp : s.p with
    | none => rfl
    | some a => simp only [hn]; rfl
  · obtain ⟨b, o, c, T, z, h1, h2, h3⟩ := Fz.at_ h hn
    rw [h1, hl]
    show (Extern.Bytes.loadBytes _ _ _).run P w = _
    rw [loadBytes_run (a := ⟨b, o, none⟩) bs o .empty b (fun i v hv => by rw [cell_of (hw.frozen h2)]; exact h3 i v hv)]
    simp [str]

theorem compare_run {s t : Sl} {x y : List UInt8} (hx : Bytes Γ s x) (hy : Bytes Γ t y) (hw : Sat Γ L w) :
    (Extern.BytealgCompare.compare #[.slice s.p s.len s.cap, .slice t.p t.len t.cap]).run P w = .ok (.int .i64 (cmpB x y)) w := by
  show (do pure (goInt (Extern.BytealgCompare.cmp (← Extern.Bytes.bytesOf (.slice s.p s.len s.cap)) (← Extern.Bytes.bytesOf (.slice t.p t.len t.cap)))) : Sem Value).run P w = _
  simp only [Sem.run_bind, hx.of hw, hy.of hw, Result.andThen, Sem.run_pure, cmp_str, goInt]

/-- a call of a function without a text of its own, whose answer the model gives -/
theorem prim_extern {f : FuncId} {fn : Func} {e : Array Value → Sem Value} {args : Array Value} {r : Rs} {K : r.T → World → Prop} (hN : NoNG P) (hf : P.funcs[f]? = some fn) (hb : fn.body.isNone = true)
    (hn : Extern.findNext fn = none) (he : Extern.find fn = some e) {x : r.T} (hr : (e args).run P w = .ok (r.v x) w') (k : K x w') :
    Prim P (callFunc f args >>= fun n => match n with | .value v => pure v | _ => stuck "no value") r K w := by
  refine ⟨x, w', ?_, k⟩
  rw [Sem.run_bind, run_callFunc_standIn hf (hN.at hf) hb hn he, hr]
  rfl

end Go.Proofs.Ytocmjngleknlbaa.K
