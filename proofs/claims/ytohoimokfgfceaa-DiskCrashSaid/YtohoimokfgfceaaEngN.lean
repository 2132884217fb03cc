/-
  Rows of rows of bytes, frozen; what more is appended.
-/
import Derived.Test.YtohoimokfgfceaaEngM
namespace Go.Proofs.Ytohoimokfgfceaa.K
open Go Go.Proofs
variable {P : Program} {Γ Γ' : Mem} {L L' L'' : List HP} {w w' : World} {A B : HP}

theorem Fz.src {s : Sl} {sz : Nat} {cells : List Value} (h : Fz Γ s sz cells) (hw : Sat Γ L w) : Src w (.slice s.p s.len s.cap) s.len sz cells := by
  by_cases hn : s.len = 0
  · have hb : cells = [] := List.eq_nil_of_length_eq_zero (by rw [h.len, hn, Nat.zero_mul])
    subst hb
    cases hp : s.p with
    | none => exact .inl ⟨s.cap, by simp [hn], hn, rfl⟩
    | some a => exact .inr ⟨a, s.cap, by simp [hn], by simp [hn], fun i v hv => by simp at hv⟩
  · obtain ⟨b, o, c, T, z, h1, h2, h3⟩ := h.at_ hn
    refine .inr ⟨_, s.cap, by rw [h1], h.len, fun i v hv => ?_⟩
    rw [add_plain, cell_of (hw.frozen h2)]
    exact h3 i v hv

theorem ldFH {L0 : List HP} {b : Nat} {c : Array Value} {T : TypeId} {z : Nat × Nat} {o : Nat} {s : Sh} {K : s.T → Prop} (x : s.T) (hb : Γ b = some (.cells c T z)) (k : K x) (hc : rdC c o s x := by rfl) :
    Ld (Sx Γ L0) s ⟨b, o, none⟩ K := by
  refine ⟨x, ?_, k⟩
  rintro w' ⟨Γ', hl, h⟩
  exact rd_of (h.frozen (hl _ _ hb)) hc

/-- one thing that lies in a block -/
theorem Src.one {b : Nat} {c : List Value} {T : TypeId} {z : Nat × Nat} (h : Sat Γ L w) (pk : Pick (blk b (.cells c.toArray T z)) L L') {n sz k : Nat} (hn : c.length = n * sz) : Src w (.slice (some ⟨b, 0, none⟩) n k) n sz c := by
  refine .inr ⟨_, k, rfl, hn, fun i v hv => ?_⟩
  rw [add_plain, Nat.zero_add, cell_of (h.pick pk).heap]
  simpa using hv

/-- a block that is frozen, as a slice -/
theorem Sat.freezeBlk {b n sz : Nat} {c : Array Value} {T : TypeId} {z : Nat × Nat} (h : Sat Γ (blk b (.cells c T z) :: L) w) (hc : c.size = n * sz) (hn : n ≤ 140737488355328) :
    ∃ Γ', Γ.le Γ' ∧ Fz Γ' ⟨some ⟨b, 0, none⟩, n, n⟩ sz c.toList ∧ Sat Γ' L w := by
  obtain ⟨Γ', g1, g2, g3⟩ := Sat.freeze h
  refine ⟨Γ', g1, ⟨by simpa using hc, Nat.le_refl _, by show n ≤ _; omega, fun _ => ⟨b, 0, c, T, z, rfl, g2, fun i v hv => ?_⟩⟩, g3⟩
  rw [Nat.zero_add]
  simpa using hv

/-- bytes made of a literal -/
theorem convSl {t e : Nat} (hu : P.underlying t = some (.slice e)) (he : P.underlying e = some (.int .u8)) {b n : Nat} {c : Array Value} {T : TypeId} {K : Sl → World → Prop} (h : Sat Γ (blk b (.cells c T (0, 0)) :: L) w) (hc : c.size = n) (hn : n ≤ 140737488355328)
    (k : ∀ Γ' w', Γ.le Γ' → Fz Γ' ⟨some ⟨b, 0, none⟩, n, n⟩ 1 c.toList → Sat Γ' L w' → K ⟨some ⟨b, 0, none⟩, n, n⟩ w') :
    Prim P (convert t t (.slice (some ⟨b, 0, none⟩) n n)) (.one (.s .sl)) K w := by
  have hb := h.heap
  have hr : (convert t t (.slice (some ⟨b, 0, none⟩) n n)).run P w = .ok (.slice (some ⟨b, 0, none⟩) n n) (w.freeze ⟨b, c.size, none⟩ 1) := by
    simp only [convert, Sem.run_bind, run_underlying hu, run_underlying he, Result.andThen, beq_self_eq_true]
    simp [markStringish, Result.andThen, World.shape?, hb]
  refine ⟨⟨some ⟨b, 0, none⟩, n, n⟩, _, hr, ?_⟩
  have h2 : Sat Γ (blk b (.cells c T (c.size, c.size + 1)) :: L) (w.freeze ⟨b, c.size, none⟩ 1) := by
    refine h.set ?_ fun d hd => ?_
    · simp [World.freeze, Array.getElem?_modify, hb]
    · simp [World.freeze, Array.getElem?_modify, Ne.symm hd]
  obtain ⟨Γ', g1, g2, g3⟩ := h2.freezeBlk (n := n) (sz := 1) (by omega) hn
  exact k Γ' _ g1 g2 g3

/-- a slice as a value -/
def slv (s : Sl) : Value := .slice s.p s.len s.cap

theorem slv_one (s : Sl) : One (slv s) := rfl
theorem map_slv_one (l : List Sl) : ∀ v ∈ l.map slv, One v := by
  intro v hv
  obtain ⟨b, _, rfl⟩ := List.mem_map.1 hv
  exact slv_one b

/-- slices, each of which is a thing -/
structure Each {α : Type} (R : Mem → Sl → α → Prop) (Γ : Mem) (ss : List Sl) (xs : List α) : Prop where
  len : ss.length = xs.length
  at_ : ∀ (i : Nat) (s : Sl) (x : α), ss[i]? = some s → xs[i]? = some x → R Γ s x

theorem Each.mono {α : Type} {R : Mem → Sl → α → Prop} (hR : ∀ Γ Γ' s x, Mem.le Γ Γ' → R Γ s x → R Γ' s x) {ss : List Sl} {xs : List α} (h : Each R Γ ss xs) (hl : Γ.le Γ') : Each R Γ' ss xs :=
  ⟨h.len, fun i s x h1 h2 => hR _ _ _ _ hl (h.at_ i s x h1 h2)⟩

theorem Each.nil {α : Type} {R : Mem → Sl → α → Prop} : Each R Γ [] [] := ⟨rfl, fun i s x h => by simp at h⟩

theorem Each.get {α : Type} {R : Mem → Sl → α → Prop} {ss : List Sl} {xs : List α} (h : Each R Γ ss xs) {i : Nat} {x : α} (hx : xs[i]? = some x) : ∃ s, ss[i]? = some s ∧ R Γ s x := by
  have hi : i < ss.length := by rw [h.len]; exact (List.getElem?_eq_some_iff.1 hx).1
  exact ⟨ss[i], List.getElem?_eq_getElem hi, h.at_ i _ _ (List.getElem?_eq_getElem hi) hx⟩

theorem Each.snoc {α : Type} {R : Mem → Sl → α → Prop} {ss : List Sl} {xs : List α} (h : Each R Γ ss xs) {s : Sl} {x : α} (hx : R Γ s x) : Each R Γ (ss ++ [s]) (xs ++ [x]) := by
  refine ⟨by simp [h.len], fun i t y h1 h2 => ?_⟩
  have hl := h.len
  by_cases hi : i < ss.length
  · rw [List.getElem?_append_left hi] at h1
    rw [List.getElem?_append_left (by omega)] at h2
    exact h.at_ i t y h1 h2
  · rw [List.getElem?_append_right (by omega)] at h1
    rw [List.getElem?_append_right (by omega)] at h2
    have e : i - ss.length = i - xs.length := by omega
    rw [e] at h1
    cases hj : i - xs.length with
    | zero =>
      rw [hj] at h1 h2
      simp at h1 h2
      subst h1; subst h2
      exact hx
    | succ n => rw [hj] at h1; simp at h1

theorem Each.set {α : Type} {R : Mem → Sl → α → Prop} {ss : List Sl} {xs : List α} (h : Each R Γ ss xs) {i : Nat} {s : Sl} {x : α} (hx : R Γ s x) : Each R Γ (ss.set i s) (xs.set i x) := by
  refine ⟨by simp [h.len], fun j t y h1 h2 => ?_⟩
  rw [List.getElem?_set] at h1 h2
  by_cases hij : i = j
  · subst hij
    rw [if_pos rfl] at h1 h2
    split at h1
    · split at h2
      · cases h1; cases h2; exact hx
      · cases h2
    · cases h1
  · rw [if_neg hij] at h1 h2
    exact h.at_ j t y h1 h2

theorem Each.drop {α : Type} {R : Mem → Sl → α → Prop} {ss : List Sl} {xs : List α} (h : Each R Γ ss xs) (n : Nat) : Each R Γ (ss.drop n) (xs.drop n) := by
  refine ⟨by simp [h.len], fun j t y h1 h2 => ?_⟩
  rw [List.getElem?_drop] at h1 h2
  exact h.at_ _ t y h1 h2

theorem Each.take {α : Type} {R : Mem → Sl → α → Prop} {ss : List Sl} {xs : List α} (h : Each R Γ ss xs) (n : Nat) : Each R Γ (ss.take n) (xs.take n) := by
  refine ⟨by simp [h.len], fun j t y h1 h2 => ?_⟩
  rw [List.getElem?_take] at h1 h2
  by_cases hj : j < n
  · rw [if_pos hj] at h1 h2
    exact h.at_ _ t y h1 h2
  · rw [if_neg hj] at h1; cases h1

/-- a frozen slice of slices, each of which is a thing -/
def Rows {α : Type} (R : Mem → Sl → α → Prop) (Γ : Mem) (s : Sl) (xs : List α) : Prop := ∃ ss, Fz Γ s 1 (ss.map slv) ∧ Each R Γ ss xs

theorem Rows.mono {α : Type} {R : Mem → Sl → α → Prop} (hR : ∀ Γ Γ' s x, Mem.le Γ Γ' → R Γ s x → R Γ' s x) {s : Sl} {xs : List α} (h : Rows R Γ s xs) (hl : Γ.le Γ') : Rows R Γ' s xs :=
  let ⟨ss, h1, h2⟩ := h; ⟨ss, h1.mono hl, h2.mono hR hl⟩

theorem Rows.len {α : Type} {R : Mem → Sl → α → Prop} {s : Sl} {xs : List α} (h : Rows R Γ s xs) : s.len = xs.length := by
  obtain ⟨ss, h1, h2⟩ := h
  have := h1.len
  simpa [h2.len] using this.symm

theorem Rows.nil {α : Type} {R : Mem → Sl → α → Prop} (p : Option Addr) (c : Nat) : Rows R Γ ⟨p, 0, c⟩ ([] : List α) := ⟨[], Fz.nil 1 p c, .nil⟩

theorem rd_slv {ss : List Sl} {i : Nat} {s : Sl} (h : ss[i]? = some s) : rdL (ss.map slv) (i * 1) (.s .sl) s := by
  show (ss.map slv)[i * 1]? = some (slv s)
  rw [Nat.mul_one, List.getElem?_map, h]
  rfl

/-- a piece of what is frozen -/
theorem Fz.sub {s : Sl} {sz : Nat} {cells : List Value} (h : Fz Γ s sz cells) {l n : Nat} (hl : l ≤ n) (hn : n ≤ s.len) : Fz Γ (s.sub sz l n s.cap) sz ((cells.drop (l * sz)).take ((n - l) * sz)) := by
  have hlen := h.len
  have hc := h.cap
  have h3 : (n - l) * sz ≤ (s.len - l) * sz := Nat.mul_le_mul_right _ (by omega)
  have h4 : (s.len - l) * sz = s.len * sz - l * sz := Nat.sub_mul _ _ _
  refine ⟨?_, ?_, ?_, fun h0 => ?_⟩
  · simp only [List.length_take, List.length_drop, Sl.sub, Int.toNat_natCast]
    omega
  · simp only [Sl.sub, Int.toNat_natCast]
    omega
  · have := h.small
    simp only [Sl.sub, Int.toNat_natCast]
    omega
  · simp only [Sl.sub, Int.toNat_natCast] at h0
    obtain ⟨b, o, c, T, z, h1, h2, h5⟩ := h.at_ (by omega)
    refine ⟨b, o + l * sz, c, T, z, ?_, h2, fun i v hv => ?_⟩
    · simp only [Sl.sub, Int.toNat_natCast]
      rw [if_neg (by omega), h1]
      simp [add_plain]
    · rw [List.getElem?_take] at hv
      split at hv
      · rw [List.getElem?_drop] at hv
        rw [Nat.add_assoc]
        exact h5 _ _ hv
      · cases hv

theorem Bytes.sub {s : Sl} {bs : List UInt8} (h : Bytes Γ s bs) {l n : Nat} (hl : l ≤ n) (hn : n ≤ s.len) : Bytes Γ (s.sub 1 l n s.cap) ((bs.drop l).take (n - l)) := by
  have := Fz.sub h hl hn
  rw [Nat.mul_one, Nat.mul_one, ← List.map_drop, ← List.map_take] at this
  exact this

theorem Rows.sub {α : Type} {R : Mem → Sl → α → Prop} {s : Sl} {xs : List α} (h : Rows R Γ s xs) {l n : Nat} (hl : l ≤ n) (hn : n ≤ s.len) : Rows R Γ (s.sub 1 l n s.cap) ((xs.drop l).take (n - l)) := by
  obtain ⟨ss, h1, h2⟩ := h
  have := Fz.sub h1 hl hn
  rw [Nat.mul_one, Nat.mul_one, ← List.map_drop, ← List.map_take] at this
  exact ⟨_, this, (h2.drop l).take _⟩

end Go.Proofs.Ytohoimokfgfceaa.K
