/-
  Rules: what code asks, paid by memory in parts.
-/
import Derived.Test.YtohoimokfgfceaaEngS
namespace Go.Proofs.Ytohoimokfgfceaa.K
open Go
variable {P : Program} {Γ Γ' : Mem} {L L' : List HP} {w w' : World} {A B : HP}

def rdC (c : Array Value) (o : Nat) : (h : Sh) → h.T → Prop
  | .s s, x => c[o]? = some (s.v x)
  | .agg l, x => ∀ i v, (ScsV l x)[i]? = some v → c[o + i]? = some v

theorem cell_of {b : Nat} {c : Array Value} {T : TypeId} {z : Nat × Nat} (h : w.heap[b]? = some (.cells c T z)) (o : Nat) : w.cell? ⟨b, o, none⟩ = c[o]? := by
  simp [World.cell?, h]

theorem add_plain (b o n : Nat) : Addr.add ⟨b, o, none⟩ n = ⟨b, o + n, none⟩ := by
  unfold Addr.add
  split
  · rename_i h; subst h; rfl
  · rfl

theorem rd_of {b : Nat} {c : Array Value} {T : TypeId} {z : Nat × Nat} (h : w.heap[b]? = some (.cells c T z)) {o : Nat} {s : Sh} {x : s.T} (hc : rdC c o s x) : rdSh w ⟨b, o, none⟩ s x := by
  cases s with
  | s s => exact (cell_of h o).trans hc
  | agg l =>
    intro i v hv
    rw [add_plain, cell_of h]
    exact hc i v hv

/-- what stands in a block of one's own -/
theorem ld {b : Nat} {c : Array Value} {T : TypeId} {z : Nat × Nat} {o : Nat} {s : Sh} {K : s.T → Prop} (x : s.T) (h : Sat Γ L w) (pk : Pick (blk b (.cells c T z)) L L') (k : K x) (hc : rdC c o s x := by rfl) :
    Ld (fun w' => w' = w) s ⟨b, o, none⟩ K := by
  refine ⟨x, ?_, k⟩
  rintro w' rfl
  exact rd_of (h.pick pk).heap hc

/-- what stands in a frozen block -/
theorem ldF {b : Nat} {c : Array Value} {T : TypeId} {z : Nat × Nat} {o : Nat} {s : Sh} {K : s.T → Prop} (x : s.T) (h : Sat Γ L w) (hb : Γ b = some (.cells c T z)) (k : K x) (hc : rdC c o s x := by rfl) :
    Ld (fun w' => w' = w) s ⟨b, o, none⟩ K := by
  refine ⟨x, ?_, k⟩
  rintro w' rfl
  exact rd_of (h.frozen hb) hc

theorem heap_set {b o : Nat} {v : Value} {c : Array Value} {T : TypeId} {z : Nat × Nat} (h : w.heap[b]? = some (.cells c T z)) :
    (w.setCell ⟨b, o, none⟩ v).heap[b]? = some (.cells (c.setIfInBounds o v) T z) ∧ ∀ d, d ≠ b → (w.setCell ⟨b, o, none⟩ v).heap[d]? = w.heap[d]? := by
  constructor
  · simp [World.setCell, Array.getElem?_modify, h]
  · intro d hd
    simp [World.setCell, Array.getElem?_modify, Ne.symm hd]

/-- is the cell free to be written? -/
def freeAt (z : Nat × Nat) (o : Nat) : Prop := ¬ (z.1 ≤ o ∧ o < z.2)

theorem frozen_of {b o : Nat} {c : Array Value} {T : TypeId} {z : Nat × Nat} (h : w.heap[b]? = some (.cells c T z)) (hz : freeAt z o) : w.frozen? ⟨b, o, none⟩ = false := by
  obtain ⟨lo, hi⟩ := z
  simp only [freeAt] at hz
  simp only [World.frozen?, h]
  simpa using hz

/-- the same, as a computation -/
def freeB (z : Nat × Nat) (o : Nat) : Bool := !(Nat.ble z.1 o && Nat.blt o z.2)

theorem freeB_at {z : Nat × Nat} {o : Nat} (h : freeB z o = true) : freeAt z o := by
  unfold freeB at h
  rintro ⟨h1, h2⟩
  have e1 : Nat.ble z.1 o = true := Nat.ble_eq_true_of_le h1
  have e2 : Nat.blt o z.2 = true := Nat.ble_eq_true_of_le h2
  rw [e1, e2] at h
  cases h

/-- a store into a block of one's own -/
theorem st {b : Nat} {c : Array Value} {T : TypeId} {z : Nat × Nat} {o : Nat} {v : Value} {K : World → Prop} (h : Sat Γ L w) (pk : Pick (blk b (.cells c T z)) L L')
    (k : ∀ w', Sat Γ (blk b (.cells (c.setIfInBounds o v) T z) :: L') w' → K w') (ho : Nat.blt o c.size = true := by rfl) (hv : v.oneCell' = true := by rfl) (hz : freeB z o = true := by rfl) : St ⟨b, o, none⟩ v K w := by
  have h' := h.pick pk
  have hb := h'.heap
  have ho' : o < c.size := Nat.le_of_ble_eq_true ho
  refine ⟨hv, ⟨c[o], by rw [cell_of hb]; simp [ho']⟩, frozen_of hb (freeB_at hz), k _ ?_⟩
  exact h'.set (heap_set hb).1 (heap_set hb).2

/-- cells that are written one behind the other -/
def setN (c : Array Value) : Nat → List Value → Array Value
  | _, [] => c
  | o, v :: r => setN (c.setIfInBounds o v) (o + 1) r

theorem setN_size : ∀ (vs : List Value) (c : Array Value) (o : Nat), (setN c o vs).size = c.size
  | [], _, _ => rfl
  | v :: r, c, o => by simp [setN, setN_size r]

theorem stN_sat {b : Nat} {T : TypeId} {z : Nat × Nat} {o : Nat} : ∀ (vs : List Value) (i : Nat) (c : Array Value) (w : World), Sat Γ (blk b (.cells c T z) :: L') w →
    Sat Γ (blk b (.cells (setN c (o + i) vs) T z) :: L') (stN w ⟨b, o, none⟩ i vs)
  | [], _, _, _, h => h
  | v :: r, i, c, w, h => by
    have h2 := h.set (heap_set (o := o + i) (v := v) h.heap).1 (heap_set h.heap).2
    have := stN_sat (o := o) r (i + 1) _ _ h2
    simp only [stN, add_plain, setN]
    exact this

theorem stN1 {b : Nat} {c : Array Value} {T : TypeId} {z : Nat × Nat} {o : Nat} {vs : List Value} {K : World → Prop} (h : Sat Γ L w) (pk : Pick (blk b (.cells c T z)) L L') (ho : o + vs.length ≤ c.size)
    (hv : ∀ v ∈ vs, v.oneCell' = true) (hz : ∀ i, i < vs.length → freeAt z (o + i)) (k : ∀ w', Sat Γ (blk b (.cells (setN c o vs) T z) :: L') w' → K w') : StN ⟨b, o, none⟩ vs K w := by
  have h' := h.pick pk
  have hb := h'.heap
  refine ⟨hv, fun i hi => ?_, k _ (stN_sat vs 0 c w h')⟩
  rw [add_plain]
  exact ⟨⟨c[o + i]'(by omega), by rw [cell_of hb]; simp [show o + i < c.size by omega]⟩, frozen_of hb (hz i hi)⟩

/-- several stores into a block of one's own that is nowhere frozen -/
theorem stNs {b : Nat} {c : Array Value} {T : TypeId} {o : Nat} {vs : List Value} {K : World → Prop} (h : Sat Γ L w) (pk : Pick (blk b (.cells c T (0, 0))) L L')
    (k : ∀ w', Sat Γ (blk b (.cells (setN c o vs) T (0, 0)) :: L') w' → K w') (ho : Nat.ble (o + vs.length) c.size = true := by rfl) (hv : vs.all (fun v => v.oneCell') = true := by rfl) : StN ⟨b, o, none⟩ vs K w :=
  stN1 h pk (Nat.le_of_ble_eq_true ho) (fun v hm => List.all_eq_true.1 hv v hm) (fun _ _ => by simp [freeAt]) k

/-- a new block -/
theorem new {o : Obj} {K : Nat → World → Prop} (h : Sat Γ L w) (k : ∀ r w', Sat Γ (blk r o :: L) w' → K r w') : New o K w := ⟨k _ _ (h.new o)⟩

theorem dr {K : World → Prop} (h : Sat Γ L w) (k : ∀ w', Sat Γ L w' → K w') : Dr K w := ⟨k _ h.drew⟩

theorem br {b : Bool} {X Y : Prop} (x : b = true → X) (y : b = false → Y) : Br b X Y := ⟨x, y⟩

/-- what is read in a row of whose order nothing is known: these parts stay -/
def Sx (Γ : Mem) (L0 : List HP) (w' : World) : Prop := ∃ Γ', Γ.le Γ' ∧ Sat Γ' L0 w'

theorem Stars.take : ∀ {L0 R : List HP} {Γ : Mem} {h : Hp}, Stars (L0 ++ R) Γ h → Stars L0 Γ h
  | [], _, _, _, _ => trivial
  | _ :: _, _, _, _, ⟨h1, h2, ha, he, hA, hL⟩ => ⟨h1, h2, ha, he, hA, Stars.take hL⟩

theorem Sat.take {L0 R : List HP} (h : Sat Γ (L0 ++ R) w) : Sat Γ L0 w := by
  obtain ⟨m, h1, h2, h3⟩ := h
  exact ⟨m, h1.take, h2, h3⟩

theorem Sat.sx {L0 R : List HP} {Γ0 : Mem} (h : Sat Γ (L0 ++ R) w) (hl : Γ0.le Γ) : Sx Γ0 L0 w := ⟨Γ, hl, h.take⟩

theorem ldH {L0 : List HP} {b : Nat} {c : Array Value} {T : TypeId} {z : Nat × Nat} {o : Nat} {s : Sh} {K : s.T → Prop} (x : s.T) (pk : Pick (blk b (.cells c T z)) L0 L') (k : K x) (hc : rdC c o s x := by rfl) :
    Ld (Sx Γ L0) s ⟨b, o, none⟩ K := by
  refine ⟨x, ?_, k⟩
  rintro w' ⟨Γ', _, h⟩
  exact rd_of (h.pick pk).heap hc

/-- a cell -/
def cellAt (b o : Nat) (v : Value) : HP := ⟨fun _ h => ∃ c T z, h b = some (.cells c T z) ∧ c[o]? = some v, fun _ _ _ _ h => h⟩

theorem Sat.cell {b o : Nat} {v : Value} {c : Array Value} {T : TypeId} {z : Nat × Nat} (h : Sat Γ (blk b (.cells c T z) :: L) w) (hv : c[o]? = some v) : Sat Γ (cellAt b o v :: L) w :=
  h.weaken fun _ hm => ⟨c, T, z, hm, hv⟩

theorem Sat.cellRd {b o : Nat} {v : Value} (h : Sat Γ (cellAt b o v :: L) w) : w.cell? ⟨b, o, none⟩ = some v := by
  obtain ⟨m, ⟨h1, h2, ha, he, ⟨c, T, z, h5, h6⟩, hL⟩, h4, h3⟩ := h
  rw [cell_of (h4 b (.cells c T z) (by subst he; simp [Hp.join, h5])).1]
  exact h6

theorem ldHc {L0 : List HP} {b o : Nat} {s : Sc} {K : s.T → Prop} (x : s.T) (pk : Pick (cellAt b o (s.v x)) L0 L') (k : K x) : Ld (Sx Γ L0) (.s s) ⟨b, o, none⟩ K := by
  refine ⟨x, ?_, k⟩
  rintro w' ⟨Γ', _, h⟩
  exact (h.pick pk).cellRd

theorem held {F : (World → Prop) → Prop} (Γ : Mem) (L0 : List HP) (h : F (Sx Γ L0)) : Held F := ⟨_, h⟩

/-- a call, by what its text means -/
theorem callP {f : FuncId} {fn : Func} {vals : List Value} {r : Rs} {K : r.T → World → Prop} (args : List SV) (an : An) (hN : NoNG P) (hm : P.follows .mixedOrders = true) (hf : P.funcs[f]? = some fn) (hfit : fitsFn P an fn = true) (hn : Nat.ble args.length fn.ntmps = true)
    (hv : args.map SV.v = vals) (h : dFn P an fn args (fun v w' => ∃ x, v = r.v x ∧ K x w') w) : CallP P f vals r K w := by
  subst hv
  refine ⟨Calls.mono (dFn_calls hN hm hf (Nat.le_of_ble_eq_true hn) hfit h) ?_⟩
  rintro e w' ⟨v, rfl, x, rfl, hk⟩
  exact ⟨x, rfl, hk⟩

theorem callP_mono {f : FuncId} {vals : List Value} {r : Rs} {K K' : r.T → World → Prop} (h : CallP P f vals r K w) (hk : ∀ x w', K x w' → K' x w') : CallP P f vals r K' w :=
  ⟨Calls.mono h.out fun _ _ ⟨x, h1, h2⟩ => ⟨x, h1, hk _ _ h2⟩⟩

/-- a loop: a relation that bears a number, which every round lowers -/
theorem loop {σ : Type} {F : (σ → World → Prop) → σ → World → Prop} {s : σ} (I : σ → World → Nat → Prop) (n : Nat) (h0 : I s w n)
    (round : ∀ s w n, I s w n → F (fun s' w' => ∃ m, m < n ∧ I s' w' m) s w) : Loop σ F s w := ⟨I, ⟨n, h0⟩, round⟩

theorem join {σ : Type} {F : (σ → World → Prop) → Prop} {G : σ → World → Prop} (J : σ → World → Prop) (h : F J) (k : ∀ s w, J s w → G s w) : Join σ F G := ⟨J, h, k⟩

/-- ways that meet again, each followed to the end -/
theorem joinI {σ : Type} {F : (σ → World → Prop) → Prop} {G : σ → World → Prop} (h : F G) : Join σ F G := ⟨G, h, fun _ _ h => h⟩

end Go.Proofs.Ytohoimokfgfceaa.K
