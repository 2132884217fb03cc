/-
  Rows of rows of bytes, frozen; what more is appended.
-/
import Derived.Test.YtocmjngleknlbaaEngS
namespace Go.Proofs.Ytocmjngleknlbaa.K
open Go Go.Proofs
variable {P : Program} {Γ Γ' : Mem} {L L' L'' : List HP} {w w' : World} {A B : HP}

theorem Fz.src {s : Sl} {sz : Nat} {cells : List Value} (h : Fz Γ s sz cells) (hw : Sat Γ L w) : Src w (.slice s.p s.len s.cap) s.len sz cells := by
  by_cases hn : s.len = 0
  · have hb : cells = [] := List.eq_nil_of_length_eq_zero (by rw [h.len, hn, Nat.zero_mul])
    subst hb
    cases hp : s.p with
    | none => exact .inl ⟨s.cap, by simp [hn], hn, rfl⟩
    | some a => exact .inr ⟨a, s.cap, by simp [hn], by simp [hn], fun i v hv => by simp at hv⟩
  · obtain ⟨b, o, c, T, z, h1, h2, h3⟩ := h.at_ hn
    refine .inr ⟨_, s.cap, by rw [h1], h.len, fun i v hv => ?_⟩
    rw [add_plain, cell_of (hw.frozen h2)]
    exact h3 i v hv

theorem ldFH {L0 : List HP} {b : Nat} {c : Array Value} {T : TypeId} {z : Nat × Nat} {o : Nat} {s : Sh} {K : s.T → Prop} (x : s.T) (hb : Γ b = some (.cells c T z)) (k : K x) (hc : rdC c o s x := by rfl) :
    Ld (Sx Γ L0) s ⟨b, o, none⟩ K := by
  refine ⟨x, ?_, k⟩
  rintro w' ⟨Γ', hl, h⟩
  exact rd_of (h.frozen (hl _ _ hb)) hc

/-- one thing that lies in a block -/
theorem Src.one {b : Nat} {c : List Value} {T : TypeId} {z : Nat × Nat} (h : Sat Γ L w) (pk : Pick (blk b (.cells c.toArray T z)) L L') {n sz k : Nat} (hn : c.length = n * sz) : Src w (.slice (some ⟨b, 0, none⟩) n k) n sz c := by
  refine .inr ⟨_, k, rfl, hn, fun i v hv => ?_⟩
  rw [add_plain, Nat.zero_add, cell_of (h.pick pk).heap]
  simpa using hv

/-- a block that is frozen, as a slice -/
theorem Sat.freezeBlk {b n sz : Nat} {c : Array Value} {T : TypeId} {z : Nat × Nat} (h : Sat Γ (blk b (.cells c T z) :: L) w) (hc : c.size = n * sz) (hn : n ≤ 140737488355328) :
    ∃ Γ', Γ.le Γ' ∧ Fz Γ' ⟨some ⟨b, 0, none⟩, n, n⟩ sz c.toList ∧ Sat Γ' L w := by
  obtain ⟨Γ', g1, g2, g3⟩ := Sat.freeze h
  refine ⟨Γ', g1, ⟨by simpa using hc, Nat.le_refl _, by show n ≤ _; omega, fun _ => ⟨b, 0, c, T, z, rfl, g2, fun i v hv => ?_⟩⟩, g3⟩
  rw [Nat.zero_add]
  simpa using hv

/-- bytes made of a literal -/
theorem convSl {t e : Nat} (hu : P.underlying t = some (.slice e)) (he : P.underlying e = some (.int .u8)) {b n : Nat} {c : Array Value} {T : TypeId} {K : Sl → World → Prop} (h : Sat Γ (blk b (.cells c T (0, 0)) :: L) w) (hc : c.size = n) (hn : n ≤ 140737488355328)
    (k : ∀ Γ' w', Γ.le Γ' → Fz Γ' ⟨some ⟨b, 0, none⟩, n, n⟩ 1 c.toList → Sat Γ' L w' → K ⟨some ⟨b, 0, none⟩, n, n⟩ w') :
    Prim P (convert t t (.slice (some ⟨b, 0, none⟩) n n)) (.one (.s .sl)) K w := by
  have hb := h.heap
  have hr : (convert t t (.slice (some ⟨b, 0, none⟩) n n)).run P w = .ok (.slice (some ⟨b, 0, none⟩) n n) (w.freeze ⟨b, c.size, none⟩ 1) := by
    simp only [convert, Sem.run_bind, run_underlying hu, run_underlying he, Result.andThen, beq_self_eq_true]
    simp [markStringish, Result.andThen, World.shape?, hb]
  refine ⟨⟨some ⟨b, 0, none⟩, n, n⟩, _, hr, ?_⟩
  have h2 : Sat Γ (blk b (.cells c T (c.size, c.size + 1)) :: L) (w.freeze ⟨b, c.size, none⟩ 1) := by
    refine h.set ?_ fun d hd => ?_
    · simp [World.freeze, Array.getElem?_modify, hb]
    · simp [World.freeze, Array.getElem?_modify, Ne.symm hd]
  obtain ⟨Γ', g1, g2, g3⟩ := h2.freezeBlk (n := n) (sz := 1) (by omega) hn
  exact k Γ' _ g1 g2 g3

/-- a slice as a value -/
def slv (s : Sl) : Value := .slice s.p s.len s.cap

theorem slv_one (s : Sl) : One (slv s) := rfl
theorem map_slv_one (l : List Sl) : ∀ v ∈ l.map slv, One v := by
  intro v hv
  obtain ⟨b, _, rfl⟩ := List.mem_map.1 hv
  exact slv_one b

/-- slices, each of which is a thing -/
structure Each {α : Type} (R : Mem → Sl → α → Prop) (Γ : Mem) (ss : List Sl) (xs : List α) : Prop where
  len : ss.length = xs.length
  at_ : ∀ (i : Nat) (s : Sl) (x : α), ss[i]? = some s → xs[i]? = some x → R Γ s x

theorem Each.mono {α : Type} {R : Mem → Sl → α → Prop} (hR : ∀ Γ Γ' s x, Mem.le Γ Γ' → R Γ s x → R Γ' s x) {ss : List Sl} {xs : List α} (h : Each R Γ ss xs) (hl : Γ.le Γ') : Each R Γ' ss xs :=
  ⟨h.len, fun i s x h1 h2 => hR _ _ _ _ hl (h.at_ i s x h1 h2)⟩

theorem Each.nil {α : Type} {R : Mem → Sl → α → Prop} : Each R Γ [] [] := ⟨rfl, fun i s x h => by simp at h⟩

theorem Each.get {α : Type} {R : Mem → Sl → α → Prop} {ss : List Sl} {xs : List α} (h : Each R Γ ss xs) {i : Nat} {x : α} (hx : xs[i]? = some x) : ∃ s, ss[i]? = some s ∧ R Γ s x := by
  have hi : i < ss.length := by rw [h.len]; exact (List.getElem?_eq_some_iff.1 hx).1
  exact ⟨ss[i], List.getElem?_eq_getElem hi, h.at_ i _ _ (List.getElem?_eq_getElem hi) hx⟩

theorem Each.snoc {α : Type} {R : Mem → Sl → α → Prop} {ss : List Sl} {xs : List α} (h : Each R Γ ss xs) {s : Sl} {x : α} (hx : R Γ s x) : Each R Γ (ss ++ [s]) (xs ++ [x]) := by
  refine ⟨by simp [h.len], fun i t y h1 h2 => ?_⟩
  have hl := h.len
  by_cases hi : i < ss.length
  · rw [List.getElem?_append_left hi] at h1
    rw [List.getElem?_append_left (by omega)] at h2
    exact h.at_ i t y h1 h2
  · rw [List.getElem?_append_right (by omega)] at h1
    rw [List.getElem?_append_right (by omega)] at h2
    have e : i - ss.length = i - xs.length := by omega
    rw [e] at h1
    cases hj : i - xs.length with
    | zero =>
      rw [hj] at h1 h2
      simp at h1 h2
      subst h1; subst h2
      exact hx
    | succ n => rw [hj] at h1; simp at h1

theorem Each.set {α : Type} {R : Mem → Sl → α → Prop} {ss : List Sl} {xs : List α} (h : Each R Γ ss xs) {i : Nat} {s : Sl} {x : α} (hx : R Γ s x) : Each R Γ (ss.set i s) (xs.set i x) := by
  refine ⟨by simp [h.len], fun j t y h1 h2 => ?_⟩
  rw [List.getElem?_set] at h1 h2
  by_cases hij : i = j
  · subst hij
    rw [if_pos rfl] at h1 h2
    split at h1
    · split at h2
      · cases h1; cases h2; exact hx
      · cases h2
    · cases h1
  · rw [if_neg hij] at h1 h2
    exact h.at_ j t y h1 h2

theorem Each.drop {α : Type} {R : Mem → Sl → α → Prop} {ss : List Sl} {xs : List α} (h : Each R Γ ss xs) (n : Nat) : Each R Γ (ss.drop n) (xs.drop n) := by
  refine ⟨by simp [h.len], fun j t y h1 h2 => ?_⟩
  rw [List.getElem?_drop] at h1 h2
  exact h.at_ _ t y h1 h2

theorem Each.take {α : Type} {R : Mem → Sl → α → Prop} {ss : List Sl} {xs : List α} (h : Each R Γ ss xs) (n : Nat) : Each R Γ (ss.take n) (xs.take n) := by
  refine ⟨by simp [h.len], fun j t y h1 h2 => ?_⟩
  rw [List.getElem?_take] at h1 h2
  by_cases hj : j < n
  · rw [if_pos hj] at h1 h2
    exact h.at_ _ t y h1 h2
  · rw [if_neg hj] at h1; cases h1

/-- a frozen slice of slices, each of which is a thing -/
def Rows {α : Type} (R : Mem → Sl → α → Prop) (Γ : Mem) (s : Sl) (xs : List α) : Prop := ∃ ss, Fz Γ s 1 (ss.map slv) ∧ Each R Γ ss xs

theorem Rows.mono {α : Type} {R : Mem → Sl → α → Prop} (hR : ∀ Γ Γ' s x, Mem.le Γ Γ' → R Γ s x → R Γ' s x) {s : Sl} {xs : List α} (h : Rows R Γ s xs) (hl : Γ.le Γ') : Rows R Γ' s xs :=
  let ⟨ss, h1, h2⟩ := h; ⟨ss, h1.mono hl, h2.mono hR hl⟩

theorem Rows.len {α : Type} {R : Mem → Sl → α → Prop} {s : Sl} {xs : List α} (h : Rows R Γ s xs) : s.len = xs.length := by
  obtain ⟨ss, h1, h2⟩ := h
  have := h1.len
  simpa [h2.len] using this.symm

theorem Rows.nil {α : Type} {R : Mem → Sl → α → Prop} (p : Option Addr) (c : Nat) : Rows R Γ ⟨p, 0, c⟩ ([] : List α) := ⟨[], Fz.nil 1 p c, .nil⟩

theorem rd_slv {ss : List Sl} {i : Nat} {s : Sl} (h : ss[i]? = some s) : rdL (ss.map slv) (i * 1) (.s .sl) s := by
  show (ss.map slv)[i * 1]? = some (slv s)
  rw [Nat.mul_one, List.getElem?_map, h]
  rfl

/-- a piece of what is frozen -/
theorem Fz.sub {s : Sl} {sz : Nat} {cells : List Value} (h : Fz Γ s sz cells) {l n : Nat} (hl : l ≤ n) (hn : n ≤ s.len) : Fz Γ (s.sub sz l n s.cap) sz ((cells.drop (l * sz)).take ((n - l) * sz)) := by
  have hlen := h.len
  have hc := h.cap
  have h3 : (n - l) * sz ≤ (s.len - l) * sz := Nat.mul_le_mul_right _ (by omega)
  have h4 : (s.len - l) * sz = s.len * sz - l * sz := Nat.sub_mul _ _ _
  refine ⟨?_, ?_, ?_, fun h0 => ?_⟩
  · simp only [List.length_take, List.length_drop, Sl.sub, Int.toNat_natCast]
    omega
  · simp only [Sl.sub, Int.toNat_natCast]
    omega
  · have := h.small
    simp only [Sl.sub, Int.toNat_natCast]
    omega
  · simp only [Sl.sub, Int.toNat_natCast] at h0
    obtain ⟨b, o, c, T, z, h1, h2, h5⟩ := h.at_ (by omega)
    refine ⟨b, o + l * sz, c, T, z, ?_, h2, fun i v hv => ?_⟩
    · simp only [Sl.sub, Int.toNat_natCast]
      rw [if_neg (by omega), h1]
      simp [add_plain]
    · rw [List.getElem?_take] at hv
      split at hv
      · rw [List.getElem?_drop] at hv
        rw [Nat.add_assoc]
        exact h5 _ _ hv
      · cases hv

theorem Bytes.sub {s : Sl} {bs : List UInt8} (h : Bytes Γ s bs) {l n : Nat} (hl : l ≤ n) (hn : n ≤ s.len) : Bytes Γ (s.sub 1 l n s.cap) ((bs.drop l).take (n - l)) := by
  have := Fz.sub h hl hn
  rw [Nat.mul_one, Nat.mul_one, ← List.map_drop, ← List.map_take] at this
  exact this

theorem Rows.sub {α : Type} {R : Mem → Sl → α → Prop} {s : Sl} {xs : List α} (h : Rows R Γ s xs) {l n : Nat} (hl : l ≤ n) (hn : n ≤ s.len) : Rows R Γ (s.sub 1 l n s.cap) ((xs.drop l).take (n - l)) := by
  obtain ⟨ss, h1, h2⟩ := h
  have := Fz.sub h1 hl hn
  rw [Nat.mul_one, Nat.mul_one, ← List.map_drop, ← List.map_take] at this
  exact ⟨_, this, (h2.drop l).take _⟩

end Go.Proofs.Ytocmjngleknlbaa.K

/-
  Short rules: numbers, branches, rows of things of any kind.
-/
namespace Go.Proofs.Ytocmjngleknlbaa.K
open Go Go.Proofs
variable {P : Program} {Γ Γ' : Mem} {L L' L'' : List HP} {w w' : World} {A B : HP}

section
variable {B0 B1 B2 B3 B4 B5 B6 B7 B8 B9 : HP}
theorem Pick.n0 : Pick A (A :: L) L := .here
theorem Pick.n1 : Pick A (B0 :: A :: L) (B0 :: L) := .there .n0
theorem Pick.n2 : Pick A (B0 :: B1 :: A :: L) (B0 :: B1 :: L) := .there .n1
theorem Pick.n3 : Pick A (B0 :: B1 :: B2 :: A :: L) (B0 :: B1 :: B2 :: L) := .there .n2
theorem Pick.n4 : Pick A (B0 :: B1 :: B2 :: B3 :: A :: L) (B0 :: B1 :: B2 :: B3 :: L) := .there .n3
theorem Pick.n5 : Pick A (B0 :: B1 :: B2 :: B3 :: B4 :: A :: L) (B0 :: B1 :: B2 :: B3 :: B4 :: L) := .there .n4
theorem Pick.n6 : Pick A (B0 :: B1 :: B2 :: B3 :: B4 :: B5 :: A :: L) (B0 :: B1 :: B2 :: B3 :: B4 :: B5 :: L) := .there .n5
theorem Pick.n7 : Pick A (B0 :: B1 :: B2 :: B3 :: B4 :: B5 :: B6 :: A :: L) (B0 :: B1 :: B2 :: B3 :: B4 :: B5 :: B6 :: L) := .there .n6
theorem Pick.n8 : Pick A (B0 :: B1 :: B2 :: B3 :: B4 :: B5 :: B6 :: B7 :: A :: L) (B0 :: B1 :: B2 :: B3 :: B4 :: B5 :: B6 :: B7 :: L) := .there .n7
theorem Pick.n9 : Pick A (B0 :: B1 :: B2 :: B3 :: B4 :: B5 :: B6 :: B7 :: B8 :: A :: L) (B0 :: B1 :: B2 :: B3 :: B4 :: B5 :: B6 :: B7 :: B8 :: L) := .there .n8
end

/-- all of the parts on a list stand here, in whatever order -/
inductive Sub : List HP → List HP → Prop
  | nil {L : List HP} : Sub [] L
  | cons {A : HP} {L0 L L' : List HP} : Pick A L L' → Sub L0 L' → Sub (A :: L0) L

theorem Stars.sub {L0 L : List HP} (hs : Sub L0 L) {Γ : Mem} {h : Hp} (x : Stars L Γ h) : Stars L0 Γ h := by
  induction hs generalizing h with
  | nil => trivial
  | cons pk _ ih =>
    obtain ⟨h1, h2, ha, he, hA, hL⟩ := x.pick pk
    exact ⟨h1, h2, ha, he, hA, ih hL⟩

theorem Sat.sub {L0 : List HP} (h : Sat Γ L w) (hs : Sub L0 L) : Sat Γ L0 w := by
  obtain ⟨m, h1, h2, h3⟩ := h
  exact ⟨m, h1.sub hs, h2, h3⟩

/-- what is read in a row of whose order nothing is known: these parts, by their places -/
theorem heldS {F : (World → Prop) → Prop} {L0 : List HP} (h : Sat Γ L w) (s : Sub L0 L) (k : F (Sx Γ L0)) : Held F := ⟨_, k⟩

theorem Sx.weaken {L0 L1 : List HP} {Γ0 Γ1 : Mem} {w : World} (h : Sx Γ1 L1 w) (hs : Sub L0 L1) (hl : Γ0.le Γ1) : Sx Γ0 L0 w := by
  obtain ⟨Γ', h1, h2⟩ := h
  exact ⟨Γ', hl.trans h1, h2.sub hs⟩

theorem Sat.sxs {L0 : List HP} {Γ0 : Mem} (h : Sat Γ L w) (hs : Sub L0 L) (hl : Γ0.le Γ) : Sx Γ0 L0 w := ⟨Γ, hl, h.sub hs⟩

/-! ### numbers -/

theorem ari {n : Int} {K : Int → Prop} (m : Int) (k : K m) (h : n = m := by rfl) : Ari n K := ⟨h ▸ k⟩
theorem ari0 {n : Int} {K : Int → Prop} (k : K n) : Ari n K := ⟨k⟩
theorem ariG {n : Int} {K : Int → Prop} (k : ∀ m, m = n → K m) : Ari n K := ⟨k n rfl⟩
/-- a sum that fits -/
theorem wr {n : Int} {K : Int → Prop} (k : K n) (h0 : -9223372036854775808 ≤ n := by first | omega | (dsimp only; omega) | (dsimp only [Sl.sub]; omega)) (h1 : n < 9223372036854775808 := by first | omega | (dsimp only; omega) | (dsimp only [Sl.sub]; omega)) : Ari (IntKind.i64.wrap n) K := ⟨by rw [wrap64_id h0 h1]; exact k⟩
theorem wrN {n : Int} {K : Int → Prop} (i : Nat) (k : K i) (h : n = i := by first | omega | (dsimp only; omega) | (dsimp only [Sl.sub]; omega)) (h1 : (i : Int) < 9223372036854775808 := by first | omega | (dsimp only; omega) | (dsimp only [Sl.sub]; omega)) : Ari (IntKind.i64.wrap n) K := ⟨by rw [wrap64_id (by omega) (by omega), h]; exact k⟩
theorem wrU {n : Int} {K : Int → Prop} (k : K n) (h0 : 0 ≤ n := by first | omega | (dsimp only; omega) | (dsimp only [Sl.sub]; omega)) (h1 : n < 18446744073709551616 := by first | omega | (dsimp only; omega) | (dsimp only [Sl.sub]; omega)) : Ari (IntKind.u64.wrap n) K := by
  refine ⟨?_⟩
  have : IntKind.u64.wrap n = n := by unfold IntKind.wrap; simp [IntKind.signed, IntKind.bits]; omega
  rw [this]; exact k
theorem wr8 {n : Int} {K : Int → Prop} (k : K (n % 256)) : Ari (IntKind.u8.wrap n) K := by
  refine ⟨?_⟩
  have : IntKind.u8.wrap n = n % 256 := by unfold IntKind.wrap; simp [IntKind.signed, IntKind.bits]
  rw [this]; exact k
theorem wr32 {n : Int} {K : Int → Prop} (k : K (n % 4294967296)) : Ari (IntKind.u32.wrap n) K := by
  refine ⟨?_⟩
  have : IntKind.u32.wrap n = n % 4294967296 := by unfold IntKind.wrap; simp [IntKind.signed, IntKind.bits]
  rw [this]; exact k
theorem tdv {a b : Int} {K : Int → Prop} (k : K (a / b)) (h0 : 0 ≤ a := by first | omega | (dsimp only; omega) | (dsimp only [Sl.sub]; omega)) (hb : 1 ≤ b := by first | omega | (dsimp only; omega) | (dsimp only [Sl.sub]; omega)) (h1 : a < 9223372036854775808 := by first | omega | (dsimp only; omega) | (dsimp only [Sl.sub]; omega)) : Ari (IntKind.i64.wrap (a.tdiv b)) K := by
  refine ⟨?_⟩
  have e : a.tdiv b = a / b := Int.tdiv_eq_ediv_of_nonneg h0
  have h2 : 0 ≤ a / b := Int.ediv_nonneg h0 (by omega)
  have h3 : a / b ≤ a := Int.ediv_le_self b h0
  rw [e, wrap64_id (by omega) (by omega)]
  exact k
theorem tdvN {c : Int} {K : Int → Prop} (a b : Nat) (k : K ((a / b : Nat) : Int)) (hb : 1 ≤ b := by decide) (ha : a < 9223372036854775808 := by first | omega | (dsimp only; omega) | (dsimp only [Sl.sub]; omega)) (hc : c = (b : Int) := by rfl) : Ari (IntKind.i64.wrap ((a : Int).tdiv c)) K := by
  subst hc
  refine tdv ?_ (by omega) (by omega) (by omega)
  rw [← Int.natCast_ediv]
  exact k
theorem tmd {a b : Int} {K : Int → Prop} (k : K (a % b)) (h0 : 0 ≤ a := by first | omega | (dsimp only; omega) | (dsimp only [Sl.sub]; omega)) : Ari (a.tmod b) K := ⟨by rw [Int.tmod_eq_emod_of_nonneg h0]; exact k⟩

/-- the lesser, the greater -/
theorem mnN {X : Int} {K : Int → Prop} (a b : Nat) (k : K ((min a b : Nat) : Int)) : Ari (if false = true then X else if (b : Int) < (a : Int) then (b : Int) else (a : Int)) K := by
  refine ⟨?_⟩
  have e : (if false = true then X else if (b : Int) < (a : Int) then (b : Int) else (a : Int)) = ((min a b : Nat) : Int) := by
    rw [if_neg (by simp)]
    split <;> omega
  rw [e]; exact k
theorem mxN {X : Int} {K : Int → Prop} (a b : Nat) (k : K ((max a b : Nat) : Int)) : Ari (if true = true then (if (b : Int) > (a : Int) then (b : Int) else (a : Int)) else X) K := by
  refine ⟨?_⟩
  have e : (if true = true then (if (b : Int) > (a : Int) then (b : Int) else (a : Int)) else X) = ((max a b : Nat) : Int) := by
    rw [if_pos rfl]
    split <;> omega
  rw [e]; exact k
theorem mnI {X a b : Int} {K : Int → Prop} (k : K (min a b)) : Ari (if false = true then X else if b < a then b else a) K := by
  refine ⟨?_⟩
  have e : (if false = true then X else if b < a then b else a) = min a b := by
    rw [if_neg (by simp)]
    split <;> omega
  rw [e]; exact k
theorem mxI {X a b : Int} {K : Int → Prop} (k : K (max a b)) : Ari (if true = true then (if b > a then b else a) else X) K := by
  refine ⟨?_⟩
  have e : (if true = true then (if b > a then b else a) else X) = max a b := by
    rw [if_pos rfl]
    split <;> omega
  rw [e]; exact k

/-! ### branches -/

theorem brD {p : Prop} [Decidable p] {X Y : Prop} (a : p → X) (b : ¬ p → Y) : Br (decide p) X Y := ⟨fun h => a (of_decide_eq_true h), fun h => b (of_decide_eq_false h)⟩
theorem brE {x y : Int} {X Y : Prop} (a : x = y → X) (b : x ≠ y → Y) : Br (x == y) X Y := ⟨fun h => a (by simpa using h), fun h => b (by simpa using h)⟩
theorem brN {x y : Int} {X Y : Prop} (a : x ≠ y → X) (b : x = y → Y) : Br (x != y) X Y := ⟨fun h => a (by simpa using h), fun h => b (by simpa using h)⟩
theorem brNot {c : Bool} {X Y : Prop} (h : Br c Y X) : Br (!c) X Y := ⟨fun e => h.no (by simpa using e), fun e => h.yes (by simpa using e)⟩
theorem brT {X Y : Prop} (x : X) : Br true X Y := ⟨fun _ => x, fun h => by cases h⟩
theorem brF {X Y : Prop} (y : Y) : Br false X Y := ⟨fun h => (by cases h), fun _ => y⟩
theorem brB {c : Bool} {X Y : Prop} (x : c = true → X) (y : c = false → Y) : Br c X Y := ⟨x, y⟩
/-- strings the same, or not -/
theorem brS {x y : List UInt8} {X Y : Prop} (a : x = y → X) (b : x ≠ y → Y) : Br ((str x).toList == (str y).toList) X Y := by
  rw [str_toList, str_toList]
  exact ⟨fun h => a (by simpa using h), fun h => b (by simpa using h)⟩
theorem brSn {x y : List UInt8} {X Y : Prop} (a : x ≠ y → X) (b : x = y → Y) : Br (!((str x).toList == (str y).toList)) X Y := brNot (brS b a)
theorem brSl {x y : List UInt8} {X Y : Prop} (a : cmpB x y < 0 → X) (b : ¬ cmpB x y < 0 → Y) : Br (Op.bytesLess (str x).toList (str y).toList) X Y := by
  rw [str_toList, str_toList, bytesLess_cmpB]
  exact brD a b

theorem str_inj {x y : List UInt8} : str x = str y ↔ x = y := ⟨fun h => by have := congrArg ByteArray.toList h; rwa [str_toList, str_toList] at this, fun h => by rw [h]⟩
theorem Bytes.lens {s : Sl} {bs : List UInt8} (h : Bytes Γ s bs) : s.len = bs.length ∧ bs.length ≤ 9223372036854775807 ∧ s.len ≤ s.cap := by
  have h1 := h.len
  refine ⟨h1, ?_⟩
  rw [← h1]
  exact ⟨Fz.small h, Fz.cap h⟩

theorem of_str (s : ByteArray) : s = str s.toList := by
  have : s.toList = s.data.toList := by
    have := str_toList s.data.toList
    have e : str s.data.toList = s := rfl
    rw [e] at this
    exact this
  rw [this]
  rfl

/-! ### several cells of a block -/

theorem rdC_list {c : Array Value} {o : Nat} {l : List Sc} {x : ScsT l} (h : (c.toList.drop o).take l.length = ScsV l x) : rdC c o (.agg l) x := by
  intro i v hv
  rw [← h, List.getElem?_take] at hv
  split at hv
  · rw [List.getElem?_drop] at hv
    simpa using hv
  · cases hv

theorem ldA {b : Nat} {c : Array Value} {T : TypeId} {z : Nat × Nat} {o : Nat} {l : List Sc} {K : ScsT l → Prop} (x : ScsT l) (h : Sat Γ L w) (pk : Pick (blk b (.cells c T z)) L L') (k : K x) (hc : (c.toList.drop o).take l.length = ScsV l x := by rfl) :
    Ld (fun w' => w' = w) (.agg l) ⟨b, o, none⟩ K := ld x h pk k (rdC_list hc)

theorem ldHA {L0 : List HP} {b : Nat} {c : Array Value} {T : TypeId} {z : Nat × Nat} {o : Nat} {l : List Sc} {K : ScsT l → Prop} (x : ScsT l) (pk : Pick (blk b (.cells c T z)) L0 L') (k : K x) (hc : (c.toList.drop o).take l.length = ScsV l x := by rfl) :
    Ld (Sx Γ L0) (.agg l) ⟨b, o, none⟩ K := ldH x pk k (rdC_list hc)

theorem ldFA {b : Nat} {c : Array Value} {T : TypeId} {z : Nat × Nat} {o : Nat} {l : List Sc} {K : ScsT l → Prop} (x : ScsT l) (h : Sat Γ L w) (hb : Γ b = some (.cells c T z)) (k : K x) (hc : (c.toList.drop o).take l.length = ScsV l x := by rfl) :
    Ld (fun w' => w' = w) (.agg l) ⟨b, o, none⟩ K := ldF x h hb k (rdC_list hc)

/-! ### rows of things -/

def Sh.cells : (h : Sh) → h.T → List Value
  | .s c, x => [c.v x]
  | .agg l, x => ScsV l x

def Sh.sz : Sh → Nat
  | .s _ => 1
  | .agg l => l.length

theorem Sh.cells_len : (h : Sh) → (x : h.T) → (h.cells x).length = h.sz
  | .s _, _ => rfl
  | .agg l, x => ScsV_length l x

theorem Sc.v_one : (s : Sc) → (x : s.T) → (∀ v : Value, s = .val → HEq x v → One v) → One (s.v x)
  | .bool, _, _ => rfl
  | .int _, _, _ => rfl
  | .str, _, _ => rfl
  | .ptr, _, _ => rfl
  | .sl, _, _ => rfl
  | .mp, _, _ => rfl
  | .val, v, h => h v rfl HEq.rfl

/-- a kind of things, as they lie in cells -/
structure Enc (α : Type) where
  sh : Sh
  r : Mem → sh.T → α → Prop
  mono : ∀ {Γ Γ' : Mem} {y : sh.T} {x : α}, r Γ y x → Γ.le Γ' → r Γ' y x
  one : ∀ {Γ : Mem} {y : sh.T} {x : α}, r Γ y x → ∀ v ∈ sh.cells y, One v

structure All2 {α β : Type} (R : α → β → Prop) (ys : List α) (xs : List β) : Prop where
  len : ys.length = xs.length
  at_ : ∀ (i : Nat) (y : α) (x : β), ys[i]? = some y → xs[i]? = some x → R y x

namespace All2
variable {α β : Type} {R R' : α → β → Prop} {ys : List α} {xs : List β}
theorem nil : All2 R [] [] := ⟨rfl, fun i y x h => by simp at h⟩
theorem imp (h : All2 R ys xs) (hi : ∀ y x, R y x → R' y x) : All2 R' ys xs := ⟨h.len, fun i y x h1 h2 => hi _ _ (h.at_ i y x h1 h2)⟩
theorem get (h : All2 R ys xs) {i : Nat} {x : β} (hx : xs[i]? = some x) : ∃ y, ys[i]? = some y ∧ R y x := by
  have hi : i < ys.length := by rw [h.len]; exact (List.getElem?_eq_some_iff.1 hx).1
  exact ⟨ys[i], List.getElem?_eq_getElem hi, h.at_ i _ _ (List.getElem?_eq_getElem hi) hx⟩
theorem cons {y : α} {x : β} (hx : R y x) (h : All2 R ys xs) : All2 R (y :: ys) (x :: xs) := by
  refine ⟨by simp [h.len], fun i a b h1 h2 => ?_⟩
  cases i with
  | zero => cases h1; cases h2; exact hx
  | succ i => exact h.at_ i a b (by simpa using h1) (by simpa using h2)
theorem append {ys' : List α} {xs' : List β} (h : All2 R ys xs) (h' : All2 R ys' xs') : All2 R (ys ++ ys') (xs ++ xs') := by
  refine ⟨by simp [h.len, h'.len], fun i a b h1 h2 => ?_⟩
  have hl := h.len
  by_cases hi : i < ys.length
  · rw [List.getElem?_append_left hi] at h1
    rw [List.getElem?_append_left (by omega)] at h2
    exact h.at_ i a b h1 h2
  · rw [List.getElem?_append_right (by omega)] at h1
    rw [List.getElem?_append_right (by omega)] at h2
    rw [hl] at h1
    exact h'.at_ _ a b h1 h2
theorem snoc {y : α} {x : β} (h : All2 R ys xs) (hx : R y x) : All2 R (ys ++ [y]) (xs ++ [x]) := h.append (cons hx nil)
theorem set {y : α} {x : β} {i : Nat} (h : All2 R ys xs) (hx : R y x) : All2 R (ys.set i y) (xs.set i x) := by
  refine ⟨by simp [h.len], fun j t u h1 h2 => ?_⟩
  rw [List.getElem?_set] at h1 h2
  by_cases hij : i = j
  · subst hij
    rw [if_pos rfl] at h1 h2
    split at h1
    · split at h2
      · cases h1; cases h2; exact hx
      · cases h2
    · cases h1
  · rw [if_neg hij] at h1 h2
    exact h.at_ j t u h1 h2
theorem drop (h : All2 R ys xs) (n : Nat) : All2 R (ys.drop n) (xs.drop n) := by
  refine ⟨by simp [h.len], fun j t u h1 h2 => ?_⟩
  rw [List.getElem?_drop] at h1 h2
  exact h.at_ _ t u h1 h2
theorem take (h : All2 R ys xs) (n : Nat) : All2 R (ys.take n) (xs.take n) := by
  refine ⟨by simp [h.len], fun j t u h1 h2 => ?_⟩
  rw [List.getElem?_take] at h1 h2
  by_cases hj : j < n
  · rw [if_pos hj] at h1 h2
    exact h.at_ _ t u h1 h2
  · rw [if_neg hj] at h1; cases h1
theorem repl {n : Nat} {y : α} {x : β} (hx : R y x) : All2 R (List.replicate n y) (List.replicate n x) := by
  refine ⟨by simp, fun i a b h1 h2 => ?_⟩
  rw [List.getElem?_replicate] at h1 h2
  split at h1
  · simp_all
  · cases h1
theorem uncons {y : α} {ys' : List α} (h : All2 R (y :: ys') xs) : ∃ x xs', xs = x :: xs' ∧ R y x ∧ All2 R ys' xs' := by
  cases xs with
  | nil => have := h.len; simp at this
  | cons x xs' => exact ⟨x, xs', rfl, h.at_ 0 _ _ rfl rfl, ⟨by have := h.len; simpa using this, fun i a b h1 h2 => h.at_ (i + 1) a b (by simpa using h1) (by simpa using h2)⟩⟩
end All2

section
variable {α : Type} {E : Enc α} {s : Sl} {xs : List α}

/-- a frozen slice of things -/
def Lst (E : Enc α) (Γ : Mem) (s : Sl) (xs : List α) : Prop := ∃ ys, Fz Γ s E.sh.sz (ys.flatMap E.sh.cells) ∧ All2 (E.r Γ) ys xs

theorem Lst.mono (h : Lst E Γ s xs) (hl : Γ.le Γ') : Lst E Γ' s xs := let ⟨ys, h1, h2⟩ := h; ⟨ys, h1.mono hl, h2.imp fun _ _ hr => E.mono hr hl⟩

theorem len_of_mul {a b sz : Nat} (h : a * sz = b * sz) (h0 : 0 < sz) : a = b := Nat.eq_of_mul_eq_mul_right h0 h

theorem Lst.len (h : Lst E Γ s xs) (h0 : 0 < E.sh.sz := by decide) : s.len = xs.length := by
  obtain ⟨ys, h1, h2⟩ := h
  have := h1.len
  rw [flatMap_length E.sh.cells_len, h2.len] at this
  exact (len_of_mul this h0).symm

theorem Lst.lens (h : Lst E Γ s xs) (h0 : 0 < E.sh.sz := by decide) : s.len = xs.length ∧ xs.length ≤ 9223372036854775807 ∧ s.len ≤ s.cap := by
  have h1 := h.len h0
  refine ⟨h1, ?_⟩
  obtain ⟨ys, h2, _⟩ := h
  rw [← h1]
  exact ⟨h2.small, h2.cap⟩

theorem Lst.nil (p : Option Addr) (c : Nat) : Lst E Γ ⟨p, 0, c⟩ [] := ⟨[], Fz.nil _ p c, .nil⟩

/-- an owned slice of things -/
def OL (E : Enc α) (T : TypeId) (s : Sl) (xs : List α) : HP := ⟨fun Γ m => ∃ ys, (Own s T E.sh.sz (ys.flatMap E.sh.cells)).p Γ m ∧ All2 (E.r Γ) ys xs,
  fun _ _ _ hl ⟨ys, h1, h2⟩ => ⟨ys, (Own s T E.sh.sz (ys.flatMap E.sh.cells)).mono _ _ _ hl h1, h2.imp fun _ _ hr => E.mono hr hl⟩⟩

variable {T : TypeId}

theorem Sat.ol (h : Sat Γ (OL E T s xs :: L) w) : ∃ ys, All2 (E.r Γ) ys xs ∧ Sat Γ (Own s T E.sh.sz (ys.flatMap E.sh.cells) :: L) w := by
  obtain ⟨m, ⟨m1, m2, ha, he, ⟨ys, h1, h2⟩, hL⟩, hm, hw⟩ := h
  exact ⟨ys, h2, m, ⟨m1, m2, ha, he, h1, hL⟩, hm, hw⟩

theorem Sat.toOl {ys : List E.sh.T} (h : Sat Γ (Own s T E.sh.sz (ys.flatMap E.sh.cells) :: L) w) (ha : All2 (E.r Γ) ys xs) : Sat Γ (OL E T s xs :: L) w := by
  obtain ⟨m, ⟨m1, m2, hb, he, h1, hL⟩, hm, hw⟩ := h
  exact ⟨m, ⟨m1, m2, hb, he, ⟨ys, h1, ha⟩, hL⟩, hm, hw⟩

theorem Sat.olLen (h : Sat Γ L w) (pk : Pick (OL E T s xs) L L') (h0 : 0 < E.sh.sz := by decide) : s.len = xs.length := by
  obtain ⟨ys, h1, h2⟩ := (h.pick pk).ol
  have := h2.own.1
  rw [flatMap_length E.sh.cells_len, h1.len] at this
  exact (len_of_mul this h0).symm

theorem Sat.olFreeze (h : Sat Γ L w) (pk : Pick (OL E T s xs) L L') (hn : s.len ≤ 140737488355328) : ∃ Γ', Γ.le Γ' ∧ Lst E Γ' s xs ∧ Sat Γ' L' w := by
  obtain ⟨ys, h1, h2⟩ := (h.pick pk).ol
  obtain ⟨Γ', g1, g2, g3⟩ := h2.freezeOwn hn
  exact ⟨Γ', g1, ⟨ys, g2, h1.imp fun _ _ hr => E.mono hr g1⟩, g3⟩

theorem Sat.olNil (h : Sat Γ L w) : Sat Γ (OL E T ⟨none, 0, 0⟩ [] :: L) w := Sat.toOl (ys := []) (by simpa using h.ownNil) .nil

theorem rd_cells {ys : List E.sh.T} {i : Nat} {y : E.sh.T} (h : ys[i]? = some y) (h0 : 0 < E.sh.sz) : rdL (ys.flatMap E.sh.cells) (i * E.sh.sz) E.sh y := by
  have key : ∀ j v, (E.sh.cells y)[j]? = some v → (ys.flatMap E.sh.cells)[i * E.sh.sz + j]? = some v := fun j v hv => by
    have hj : j < E.sh.sz := by rw [← E.sh.cells_len y]; exact (List.getElem?_eq_some_iff.1 hv).1
    rw [flatMap_get E.sh.cells_len ys i j y h hj]
    exact hv
  revert key
  obtain ⟨sh, r, m, o⟩ := E
  cases sh with
  | s sc => intro key; exact key 0 _ rfl
  | agg l => intro key; exact key

/-- a slice of things that holds one has a place -/
theorem nnL {K : Addr → Prop} (h : Sat Γ L w) (hl : Lst E Γ s xs) (k : ∀ a, s.p = some a → K a) (hn : s.len ≠ 0 := by first | omega | (dsimp only; omega) | (dsimp only [Sl.sub]; omega)) : NN s.p K := by
  obtain ⟨ys, h1, h2⟩ := hl
  exact nnFz h h1 hn fun a ha _ => k a ha

theorem nnO {K : Addr → Prop} (h : Sat Γ L w) (pk : Pick (OL E T s xs) L L') (k : ∀ a, s.p = some a → K a) (hn : s.len ≠ 0 := by first | omega | (dsimp only; omega) | (dsimp only [Sl.sub]; omega)) : NN s.p K := by
  obtain ⟨ys, h1, h2⟩ := (h.pick pk).ol
  exact nnOwn h2 .here hn fun a ha _ => k a ha

theorem some_ne {s : Sl} {i : Nat} {x : α} (h : s.len = xs.length) (e : xs[i]? = some x) : s.len ≠ 0 := by
  have := (List.getElem?_eq_some_iff.1 e).1
  omega

theorem ldL {a : Addr} {i n : Nat} {x : α} {K : E.sh.T → Prop} (h : Sat Γ L w) (hl : Lst E Γ s xs) (ha : s.p = some a) (e : xs[i]? = some x) (k : ∀ y, E.r Γ y x → K y) (hi : n = i * E.sh.sz := by rfl) (h0 : 0 < E.sh.sz := by decide) :
    Ld (fun w' => w' = w) E.sh (a.add n) K := by
  have hlen := hl.len h0
  obtain ⟨ys, h1, h2⟩ := hl
  obtain ⟨y, hy, hr⟩ := h2.get e
  obtain ⟨a', e1, e2⟩ := h1.place (L := L) (some_ne hlen e)
  rw [ha] at e1; cases e1
  subst hi
  exact ⟨y, fun w' hw => by subst hw; exact e2 _ h _ _ _ (rd_cells hy h0), k y hr⟩

theorem ldLH {L0 : List HP} {a : Addr} {i n : Nat} {x : α} {K : E.sh.T → Prop} (hl : Lst E Γ s xs) (ha : s.p = some a) (e : xs[i]? = some x) (k : ∀ y, E.r Γ y x → K y) (hi : n = i * E.sh.sz := by rfl) (h0 : 0 < E.sh.sz := by decide) :
    Ld (Sx Γ L0) E.sh (a.add n) K := by
  have hlen := hl.len h0
  obtain ⟨ys, h1, h2⟩ := hl
  obtain ⟨y, hy, hr⟩ := h2.get e
  subst hi
  exact ldFzH y h1 ha (some_ne hlen e) (rd_cells hy h0) (k y hr)

theorem ldO {a : Addr} {i n : Nat} {x : α} {K : E.sh.T → Prop} (h : Sat Γ L w) (pk : Pick (OL E T s xs) L L') (ha : s.p = some a) (e : xs[i]? = some x) (k : ∀ y, E.r Γ y x → K y) (hi : n = i * E.sh.sz := by rfl) (h0 : 0 < E.sh.sz := by decide) :
    Ld (fun w' => w' = w) E.sh (a.add n) K := by
  have hlen := h.olLen pk h0
  obtain ⟨ys, h1, h2⟩ := (h.pick pk).ol
  obtain ⟨y, hy, hr⟩ := h1.get e
  subst hi
  obtain ⟨b, spare, e1, e2, e3⟩ := Own.place h2 (some_ne hlen e)
  rw [ha] at e1; cases e1
  rw [add_plain, Nat.zero_add]
  exact ⟨y, fun w' hw => by subst hw; exact rd_of e3.heap (rdL_append (rd_cells hy h0)), k y hr⟩

theorem get_lt {xs : List α} {i : Nat} (hi : i < xs.length) : ∃ x, xs[i]? = some x := ⟨_, List.getElem?_eq_getElem hi⟩

theorem ldL' {a : Addr} {i n : Nat} {K : E.sh.T → Prop} (h : Sat Γ L w) (hl : Lst E Γ s xs) (ha : s.p = some a) (k : ∀ x, xs[i]? = some x → ∀ y, E.r Γ y x → K y) (hlt : i < xs.length := by first | omega | (dsimp only; omega) | (dsimp only [Sl.sub]; omega)) (hi : n = i * E.sh.sz := by rfl) (h0 : 0 < E.sh.sz := by decide) :
    Ld (fun w' => w' = w) E.sh (a.add n) K := by
  obtain ⟨x, e⟩ := get_lt hlt
  exact ldL h hl ha e (k x e) hi h0

theorem ldLH' {L0 : List HP} {a : Addr} {i n : Nat} {K : E.sh.T → Prop} (hl : Lst E Γ s xs) (ha : s.p = some a) (k : ∀ x, xs[i]? = some x → ∀ y, E.r Γ y x → K y) (hlt : i < xs.length := by first | omega | (dsimp only; omega) | (dsimp only [Sl.sub]; omega)) (hi : n = i * E.sh.sz := by rfl) (h0 : 0 < E.sh.sz := by decide) :
    Ld (Sx Γ L0) E.sh (a.add n) K := by
  obtain ⟨x, e⟩ := get_lt hlt
  exact ldLH hl ha e (k x e) hi h0

theorem ldO' {a : Addr} {i n : Nat} {K : E.sh.T → Prop} (h : Sat Γ L w) (pk : Pick (OL E T s xs) L L') (ha : s.p = some a) (k : ∀ x, xs[i]? = some x → ∀ y, E.r Γ y x → K y) (hlt : i < xs.length := by first | omega | (dsimp only; omega) | (dsimp only [Sl.sub]; omega)) (hi : n = i * E.sh.sz := by rfl) (h0 : 0 < E.sh.sz := by decide) :
    Ld (fun w' => w' = w) E.sh (a.add n) K := by
  obtain ⟨x, e⟩ := get_lt hlt
  exact ldO h pk ha e (k x e) hi h0

/-- a field of one thing in a row -/
theorem ldLf {a : Addr} {i n off : Nat} {x : α} {sc : Sc} {K : sc.T → Prop} (h : Sat Γ L w) (hl : Lst E Γ s xs) (v : E.sh.T → sc.T) (ha : s.p = some a) (e : xs[i]? = some x) (k : ∀ y, E.r Γ y x → K (v y))
    (hv : ∀ y, (E.sh.cells y)[off]? = some (sc.v (v y)) := by intro y; rfl) (hi : n = i * E.sh.sz := by rfl) (h0 : 0 < E.sh.sz := by decide) : Ld (fun w' => w' = w) (.s sc) ((a.add n).add off) K := by
  have hlen := hl.len h0
  obtain ⟨ys, h1, h2⟩ := hl
  obtain ⟨y, hy, hr⟩ := h2.get e
  have hne := some_ne hlen e
  have hsp := h1.spot hne ha
  obtain ⟨a', e1, e2⟩ := h1.place (L := L) hne
  rw [ha] at e1; cases e1
  subst hi
  have hoff : off < E.sh.sz := by rw [← E.sh.cells_len y]; exact (List.getElem?_eq_some_iff.1 (hv y)).1
  rw [add_add hsp]
  refine ⟨v y, fun w' hw => ?_, k y hr⟩
  subst hw
  refine e2 _ h _ (.s sc) _ ?_
  show (ys.flatMap E.sh.cells)[i * E.sh.sz + off]? = some (sc.v (v y))
  rw [flatMap_get E.sh.cells_len ys i off y hy hoff]
  exact hv y

/-- of things that are owned one is read in all worlds that are asked: its cells are named -/
theorem ldOH {L0 : List HP} {ys : List E.sh.T} {a : Addr} {i n : Nat} {y : E.sh.T} {K : E.sh.T → Prop} (pk : Pick (Own s T E.sh.sz (ys.flatMap E.sh.cells)) L0 L') (ha : s.p = some a) (hn : s.len ≠ 0) (e : ys[i]? = some y) (k : K y) (hi : n = i * E.sh.sz := by rfl) (h0 : 0 < E.sh.sz := by decide) :
    Ld (Sx Γ L0) E.sh (a.add n) K := by
  subst hi
  exact ldOwnH y pk ha hn (rd_cells e h0) k

/-- one thing is written -/
theorem stO1 {a : Addr} {i n : Nat} {v : Value} {K : World → Prop} (y : E.sh.T) (x : α) (h : Sat Γ L w) (pk : Pick (OL E T s xs) L L') (ha : s.p = some a) (hi : i < xs.length) (hr : E.r Γ y x) (hv : E.sh.cells y = [v])
    (k : ∀ w', Sat Γ (OL E T s (xs.set i x) :: L') w' → K w') (hn : n = i * E.sh.sz := by rfl) : St (a.add n) v K w := by
  obtain ⟨ys, h1, h2⟩ := (h.pick pk).ol
  have hsz : E.sh.sz = 1 := by rw [← E.sh.cells_len y, hv]; rfl
  subst hn
  have ho : v.oneCell' = true := E.one hr v (by rw [hv]; simp)
  refine stOwn h2 .here ha (by rw [flatMap_length E.sh.cells_len, h1.len, hsz]; omega) ho fun w' h' => k w' ?_
  refine Sat.toOl (ys := ys.set i y) ?_ (h1.set hr)
  have e := flatMap_set E.sh.cells_len ys i y (by rw [h1.len]; exact hi)
  rw [hv] at e
  rw [← e]
  exact h'

theorem stOn {a : Addr} {i n : Nat} {vs : List Value} {K : World → Prop} (y : E.sh.T) (x : α) (h : Sat Γ L w) (pk : Pick (OL E T s xs) L L') (ha : s.p = some a) (hi : i < xs.length) (hr : E.r Γ y x) (hv : E.sh.cells y = vs)
    (k : ∀ w', Sat Γ (OL E T s (xs.set i x) :: L') w' → K w') (hn : n = i * E.sh.sz := by rfl) (h0 : 0 < E.sh.sz := by decide) : StN (a.add n) vs K w := by
  have hlen := h.olLen pk h0
  obtain ⟨ys, h1, h2⟩ := (h.pick pk).ol
  subst hn
  subst hv
  have hyl : i < ys.length := by rw [h1.len]; exact hi
  have hle : i * E.sh.sz + E.sh.sz ≤ ys.length * E.sh.sz := by rw [← Nat.succ_mul]; exact Nat.mul_le_mul_right _ hyl
  refine stNOwn h2 .here ha (by rw [flatMap_length E.sh.cells_len, E.sh.cells_len]; exact hle) (by omega) (E.one hr) fun w' h' => k w' ?_
  refine Sat.toOl (ys := ys.set i y) ?_ (h1.set hr)
  rw [← flatMap_set E.sh.cells_len ys i y hyl]
  exact h'

theorem cells_one {ys : List E.sh.T} (h : All2 (E.r Γ) ys xs) : ∀ v ∈ ys.flatMap E.sh.cells, One v := by
  intro v hv
  obtain ⟨y, hy, hv⟩ := List.mem_flatMap.1 hv
  obtain ⟨i, hi⟩ := List.getElem?_of_mem hy
  have hl : i < xs.length := by rw [← h.len]; exact (List.getElem?_eq_some_iff.1 hi).1
  exact E.one (h.at_ i y _ hi (List.getElem?_eq_getElem hl)) v hv

/-- things that are appended: any that lie somewhere -/
theorem appN {t t2 e by_ : Nat} {z : List Value} {T2 : TypeId} {v : Value} {ys : List E.sh.T} {zs : List α} {K : Sl → World → Prop} (ty : SlT P t e E.sh.sz by_ z) (ht2 : ∃ d, P.underlying t2 = some d ∧ ∀ k, d ≠ .int k) (h : Sat Γ L w) (pk : Pick (OL E e s xs) L L')
    (hs : Src w v zs.length E.sh.sz (ys.flatMap E.sh.cells)) (hz : All2 (E.r Γ) ys zs) (hb : (s.len + zs.length) * by_ ≤ 70368744177664) (k : ∀ s' w', s'.len = s.len + zs.length → Sat Γ (OL E e s' (xs ++ zs) :: L') w' → K s' w') :
    Prim P (Builtin.append_ #[t, t2] T2 #[.slice s.p s.len s.cap, v]) (.one (.s .sl)) K w := by
  obtain ⟨us, h1, h2⟩ := (h.pick pk).ol
  refine append ty ht2 h2 .here hs (by rw [flatMap_length E.sh.cells_len, hz.len]) (cells_one hz) hb fun s' w' hl h3 => k s' w' hl ?_
  rw [← List.flatMap_append] at h3
  exact h3.toOl (h1.append hz)

theorem SlT.self {P : Program} {t e sz by_ : Nat} {z : List Value} (h : SlT P t e sz by_ z) : ∃ d, P.underlying t = some d ∧ ∀ k, d ≠ .int k := ⟨_, h.und, fun k => by simp⟩

/-- one thing is appended -/
theorem app1 {t e by_ : Nat} {z : List Value} {T2 T3 : TypeId} {r : Nat} {c : Array Value} {z3 : Nat × Nat} {K : Sl → World → Prop} (y : E.sh.T) (x : α) (ty : SlT P t e E.sh.sz by_ z) (h : Sat Γ (blk r (.cells c T3 z3) :: L) w) (pk : Pick (OL E e s xs) L L')
    (hx : E.r Γ y x) (k : ∀ s' w', s'.len = s.len + 1 → Sat Γ (OL E e s' (xs ++ [x]) :: L') w' → K s' w') (hb : (s.len + 1) * by_ ≤ 70368744177664 := by first | omega | (dsimp only; omega) | (dsimp only [Sl.sub]; omega)) (hc : c = (E.sh.cells y).toArray := by rfl) :
    Prim P (Builtin.append_ #[t, t] T2 #[.slice s.p s.len s.cap, .slice (some ⟨r, 0, none⟩) 1 1]) (.one (.s .sl)) K w := by
  subst hc
  refine appN (zs := [x]) (ys := [y]) ty ty.self h (.there pk) ?_ (.cons hx .nil) hb fun s' w' hl h3 => k s' w' hl (h3.pick (.there .here)).drop
  have := Src.one (c := E.sh.cells y) (n := 1) (sz := E.sh.sz) (k := 1) h .here (by rw [E.sh.cells_len]; omega)
  simpa using this

theorem Lst.srcOf (hl : Lst E Γ s xs) (h : Sat Γ L w) (h0 : 0 < E.sh.sz := by decide) : ∃ ys, All2 (E.r Γ) ys xs ∧ Src w (.slice s.p s.len s.cap) xs.length E.sh.sz (ys.flatMap E.sh.cells) := by
  have hlen := hl.len h0
  obtain ⟨ys, h1, h2⟩ := hl
  exact ⟨ys, h2, hlen ▸ h1.src h⟩

/-- all of a frozen slice is appended -/
theorem appL {t e by_ : Nat} {z : List Value} {T2 : TypeId} {s2 : Sl} {zs : List α} {K : Sl → World → Prop} (ty : SlT P t e E.sh.sz by_ z) (h : Sat Γ L w) (pk : Pick (OL E e s xs) L L') (hz : Lst E Γ s2 zs)
    (k : ∀ s' w', s'.len = s.len + zs.length → Sat Γ (OL E e s' (xs ++ zs) :: L') w' → K s' w') (hb : (s.len + zs.length) * by_ ≤ 70368744177664 := by first | omega | (dsimp only; omega) | (dsimp only [Sl.sub]; omega)) (h0 : 0 < E.sh.sz := by decide) :
    Prim P (Builtin.append_ #[t, t] T2 #[.slice s.p s.len s.cap, .slice s2.p s2.len s2.cap]) (.one (.s .sl)) K w := by
  obtain ⟨ys, h1, h2⟩ := hz.srcOf h h0
  exact appN ty ty.self h pk h2 h1 hb k

/-- a block that was just made of nothing is a slice of no things -/
theorem Sat.olEmpty {r : Nat} (h : Sat Γ (blk r (.cells #[] T (0, 0)) :: L) w) : Sat Γ (OL E T ⟨some ⟨r, 0, none⟩, 0, 0⟩ [] :: L) w := by
  have := Sat.whole (n := 0) (sz := E.sh.sz) h (by simp)
  exact Sat.toOl (ys := []) (by simpa using this) .nil

/-- a block of things that was just made, as a slice of its own -/
theorem Sat.olWhole {r n : Nat} {c : Array Value} {ys : List E.sh.T} (h : Sat Γ (blk r (.cells c T (0, 0)) :: L) w) (hc : c.toList = ys.flatMap E.sh.cells) (ha : All2 (E.r Γ) ys xs) (hn : n = xs.length) : Sat Γ (OL E T ⟨some ⟨r, 0, none⟩, n, n⟩ xs :: L) w := by
  subst hn
  have := Sat.whole (n := xs.length) (sz := E.sh.sz) h (by rw [← Array.length_toList, hc, flatMap_length E.sh.cells_len, ha.len])
  rw [hc] at this
  exact this.toOl ha

/-- things of zeros -/
theorem mkO {t e by_ : Nat} {z : List Value} {n c : Nat} {K : Sl → World → Prop} (y : E.sh.T) (x : α) (ty : SlT P t e E.sh.sz by_ z) (h : Sat Γ L w) (hnc : n ≤ c) (hx : E.r Γ y x) (hb : c * by_ ≤ 70368744177664)
    (k : ∀ s' w', s'.len = n → s'.cap = c → Sat Γ (OL E e s' (List.replicate n x) :: L) w' → K s' w') (hz : z = E.sh.cells y := by rfl) :
    Prim P (Instr.makeSlice t (.int .i64 n) (.int .i64 c)) (.one (.s .sl)) K w := by
  subst hz
  refine make ty h hnc hb fun s' w' h1 h2 h3 => k s' w' h1 h2 ?_
  refine Sat.toOl (ys := List.replicate n y) ?_ (.repl hx)
  have e : (List.replicate n (E.sh.cells y)).flatten = (List.replicate n y).flatMap E.sh.cells := by simp [List.flatMap, List.map_replicate]
  rw [← e]
  exact h3

/-- a piece of a frozen slice of things -/
theorem Lst.sub (h : Lst E Γ s xs) {l n : Nat} (hl : l ≤ n) (hn : n ≤ s.len) : Lst E Γ (s.sub E.sh.sz l n s.cap) ((xs.drop l).take (n - l)) := by
  obtain ⟨ys, h1, h2⟩ := h
  refine ⟨(ys.drop l).take (n - l), ?_, (h2.drop l).take _⟩
  have := Fz.sub h1 hl hn
  have e : ∀ (m : Nat) (l : List E.sh.T), (l.flatMap E.sh.cells).take (m * E.sh.sz) = (l.take m).flatMap E.sh.cells := by
    intro m
    induction m with
    | zero => intro l; simp
    | succ m ih =>
      intro l
      cases l with
      | nil => simp
      | cons y l => rw [List.flatMap_cons, List.take_succ_cons, List.flatMap_cons, Nat.succ_mul, Nat.add_comm (m * _), List.take_append, E.sh.cells_len, Nat.add_sub_cancel_left, ih, List.take_of_length_le (by rw [E.sh.cells_len]; omega)]
  have e' : ∀ (m : Nat) (l : List E.sh.T), (l.flatMap E.sh.cells).drop (m * E.sh.sz) = (l.drop m).flatMap E.sh.cells := by
    intro m
    induction m with
    | zero => intro l; simp
    | succ m ih =>
      intro l
      cases l with
      | nil => simp
      | cons y l => rw [List.flatMap_cons, List.drop_succ_cons, Nat.succ_mul, Nat.add_comm (m * _), List.drop_append, E.sh.cells_len, Nat.add_sub_cancel_left, ih, List.drop_of_length_le (by rw [E.sh.cells_len]; omega), List.nil_append]
  rw [e', e] at this
  exact this
end

/-! ### kinds -/

def eByte : Enc UInt8 := ⟨.s (.int .u8), fun _ n b => n = (b.toNat : Int), fun h _ => h, fun _ v hv => by simp [Sh.cells] at hv; subst hv; rfl⟩
def eInt : Enc Int := ⟨.s (.int .i64), fun _ n b => n = b, fun h _ => h, fun _ v hv => by simp [Sh.cells] at hv; subst hv; rfl⟩
def eNat : Enc Nat := ⟨.s (.int .i64), fun _ n b => n = (b : Int), fun h _ => h, fun _ v hv => by simp [Sh.cells] at hv; subst hv; rfl⟩
def eBool : Enc Bool := ⟨.s .bool, fun _ n b => n = b, fun h _ => h, fun _ v hv => by simp [Sh.cells] at hv; subst hv; rfl⟩
def eStr : Enc (List UInt8) := ⟨.s .str, fun _ n b => n = str b, fun h _ => h, fun _ v hv => by simp [Sh.cells] at hv; subst hv; rfl⟩
def eBytes : Enc (List UInt8) := ⟨.s .sl, fun Γ s b => Bytes Γ s b, fun h hl => Bytes.mono h hl, fun _ v hv => by simp [Sh.cells] at hv; subst hv; rfl⟩
def eList {α : Type} (E : Enc α) : Enc (List α) := ⟨.s .sl, fun Γ s b => Lst E Γ s b, fun h hl => Lst.mono h hl, fun _ v hv => by simp [Sh.cells] at hv; subst hv; rfl⟩
def eHead : Enc (List UInt8 × Bool) := ⟨.agg [.sl, .bool], fun Γ s b => Bytes Γ s.1 b.1 ∧ s.2 = b.2, fun h hl => ⟨Bytes.mono h.1 hl, h.2⟩, fun _ v hv => by simp [Sh.cells, ScsV] at hv; rcases hv with rfl | rfl <;> rfl⟩

theorem byte_cells (ys : List Int) (bs : List UInt8) (h : All2 (eByte.r Γ) ys bs) : ys.flatMap eByte.sh.cells = bs.map bv := by
  induction ys generalizing bs with
  | nil =>
    have := h.len
    have : bs = [] := List.eq_nil_of_length_eq_zero this.symm
    subst this; rfl
  | cons y ys ih =>
    obtain ⟨x, xs, rfl, h1, h2⟩ := h.uncons
    have h1 : y = (x.toNat : Int) := h1
    subst h1
    show eByte.sh.cells (x.toNat : Int) ++ List.flatMap eByte.sh.cells ys = _
    rw [ih xs h2]
    rfl

theorem Lst.bytes {s : Sl} {bs : List UInt8} (h : Lst eByte Γ s bs) : Bytes Γ s bs := by
  obtain ⟨ys, h1, h2⟩ := h
  rw [byte_cells ys bs h2] at h1
  exact h1

theorem Bytes.lst {s : Sl} {bs : List UInt8} (h : Bytes Γ s bs) : Lst eByte Γ s bs := by
  have ha0 : All2 (fun (y : Int) (x : UInt8) => y = (x.toNat : Int)) (bs.map fun b => (b.toNat : Int)) bs := by
    refine ⟨by simp, fun i y x h1 h2 => ?_⟩
    rw [List.getElem?_map, h2] at h1
    cases h1
    rfl
  have ha : All2 (eByte.r Γ) (bs.map fun b => (b.toNat : Int)) bs := ha0
  refine ⟨_, ?_, ha⟩
  rw [byte_cells _ bs ha]
  exact h

end Go.Proofs.Ytocmjngleknlbaa.K
