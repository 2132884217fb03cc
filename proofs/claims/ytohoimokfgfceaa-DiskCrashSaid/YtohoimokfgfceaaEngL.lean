/-
  Slices: frozen ones, owned ones; append and make.
-/
import Derived.Test.YtohoimokfgfceaaEngR
import Derived.IntWalk
namespace Go.Proofs.Ytohoimokfgfceaa.K
open Go
variable {P : Program} {Γ Γ' : Mem} {L L' : List HP} {w w' : World} {A B : HP}

/-- a frozen slice: its cells -/
structure Fz (Γ : Mem) (s : Sl) (sz : Nat) (cells : List Value) : Prop where
  len : cells.length = s.len * sz
  cap : s.len ≤ s.cap
  small : s.len ≤ 9223372036854775807
  at_ : s.len ≠ 0 → ∃ b o c T z, s.p = some ⟨b, o, none⟩ ∧ Γ b = some (.cells c T z) ∧ ∀ i v, cells[i]? = some v → c[o + i]? = some v

theorem Fz.mono {s : Sl} {sz : Nat} {cells : List Value} (h : Fz Γ s sz cells) (hl : Γ.le Γ') : Fz Γ' s sz cells :=
  ⟨h.len, h.cap, h.small, fun hn => let ⟨b, o, c, T, z, h1, h2, h3⟩ := h.at_ hn; ⟨b, o, c, T, z, h1, hl _ _ h2, h3⟩⟩

theorem Fz.nil (sz : Nat) (p : Option Addr) (c : Nat) : Fz Γ ⟨p, 0, c⟩ sz [] := ⟨by simp, Nat.zero_le _, by simp, fun h => absurd rfl h⟩

/-- does the list hold, from here on, what is read? -/
def rdL (c : List Value) (o : Nat) : (h : Sh) → h.T → Prop
  | .s s, x => c[o]? = some (s.v x)
  | .agg l, x => ∀ i v, (ScsV l x)[i]? = some v → c[o + i]? = some v

theorem rdC_of_L {cells : List Value} {c : Array Value} {o k : Nat} (hc : ∀ i v, cells[i]? = some v → c[o + i]? = some v) {s : Sh} {x : s.T} (h : rdL cells k s x) : rdC c (o + k) s x := by
  cases s with
  | s s => exact hc _ _ h
  | agg l => intro i v hv; rw [Nat.add_assoc]; exact hc _ _ (h i v hv)

/-- a frozen slice has a place -/
theorem Fz.place {s : Sl} {sz : Nat} {cells : List Value} (h : Fz Γ s sz cells) (hn : s.len ≠ 0) : ∃ a, s.p = some a ∧ ∀ (w : World), Sat Γ L w → ∀ (k : Nat) (sh : Sh) (x : sh.T), rdL cells k sh x → rdSh w (a.add k) sh x := by
  obtain ⟨b, o, c, T, z, h1, h2, h3⟩ := h.at_ hn
  refine ⟨_, h1, fun w hw k sh x hx => ?_⟩
  rw [add_plain]
  exact rd_of (hw.frozen h2) (rdC_of_L h3 hx)

/-- an owned slice: its cells; what room there is behind them is owned too -/
def Own (s : Sl) (T : TypeId) (sz : Nat) (cells : List Value) : HP :=
  ⟨fun _ h => cells.length = s.len * sz ∧ s.len ≤ s.cap ∧ ((s.p = none ∧ s.cap = 0) ∨ ∃ b spare, s.p = some ⟨b, 0, none⟩ ∧ cells.length + spare.length = s.cap * sz ∧ h b = some (.cells (cells ++ spare).toArray T (0, 0))),
   fun _ _ _ _ h => h⟩

theorem Sat.own {s : Sl} {T : TypeId} {sz : Nat} {cells : List Value} (h : Sat Γ (Own s T sz cells :: L) w) :
    cells.length = s.len * sz ∧ s.len ≤ s.cap ∧ ((s.p = none ∧ s.cap = 0) ∨ ∃ b spare, s.p = some ⟨b, 0, none⟩ ∧ cells.length + spare.length = s.cap * sz ∧ Sat Γ (blk b (.cells (cells ++ spare).toArray T (0, 0)) :: L) w) := by
  obtain ⟨m, ⟨h1, h2, ha, he, ⟨hl, hc, hp⟩, hL⟩, h4, h3⟩ := h
  refine ⟨hl, hc, hp.imp id ?_⟩
  rintro ⟨b, spare, h5, h6, h7⟩
  exact ⟨b, spare, h5, h6, m, ⟨h1, h2, ha, he, h7, hL⟩, h4, h3⟩

theorem Sat.toOwn {s : Sl} {T : TypeId} {sz b : Nat} {cells spare : List Value} (h : Sat Γ (blk b (.cells (cells ++ spare).toArray T (0, 0)) :: L) w) (hp : s.p = some ⟨b, 0, none⟩) (hl : cells.length = s.len * sz)
    (hc : s.len ≤ s.cap) (hs : cells.length + spare.length = s.cap * sz) : Sat Γ (Own s T sz cells :: L) w :=
  h.weaken fun _ hm => ⟨hl, hc, .inr ⟨b, spare, hp, hs, hm⟩⟩

/-- a block that was just made as a slice of its own -/
theorem Sat.whole {T : TypeId} {sz b n : Nat} {arr : Array Value} (h : Sat Γ (blk b (.cells arr T (0, 0)) :: L) w) (hn : arr.size = n * sz) : Sat Γ (Own ⟨some ⟨b, 0, none⟩, n, n⟩ T sz arr.toList :: L) w := by
  refine Sat.toOwn (b := b) (spare := []) (by simpa using h) rfl (by simpa using hn) (Nat.le_refl _) (by simpa using hn)

/-- nil is a slice that anybody owns -/
theorem Sat.ownNil {T : TypeId} {sz : Nat} (h : Sat Γ L w) : Sat Γ (Own ⟨none, 0, 0⟩ T sz [] :: L) w := by
  obtain ⟨m, hs, h4, h3⟩ := h
  exact ⟨m, ⟨fun _ => none, m, fun _ => .inl rfl, by funext b; simp [Hp.join], ⟨by simp, Nat.le_refl _, .inl ⟨rfl, rfl⟩⟩, hs⟩, h4, h3⟩

theorem Own.place {s : Sl} {T : TypeId} {sz : Nat} {cells : List Value} (h : Sat Γ (Own s T sz cells :: L) w) (hn : s.len ≠ 0) :
    ∃ b spare, s.p = some ⟨b, 0, none⟩ ∧ cells.length + spare.length = s.cap * sz ∧ Sat Γ (blk b (.cells (cells ++ spare).toArray T (0, 0)) :: L) w := by
  obtain ⟨hl, hc, hp | hp⟩ := h.own
  · exact absurd (by omega) hn
  · exact hp

theorem rdL_append {cells spare : List Value} {k : Nat} {s : Sh} {x : s.T} (h : rdL cells k s x) : rdC (cells ++ spare).toArray k s x := by
  have key : ∀ i v, cells[i]? = some v → (cells ++ spare).toArray[i]? = some v := fun i v hv => by
    have hi : i < cells.length := (List.getElem?_eq_some_iff.1 hv).1
    rw [List.getElem?_toArray, List.getElem?_append_left hi]
    exact hv
  cases s with
  | s s => exact key _ _ h
  | agg l => intro i v hv; exact key _ _ (h i v hv)

/-- what is read of a slice of one's own: the place, and what stands there -/
theorem nnOwn {s : Sl} {T : TypeId} {sz : Nat} {cells : List Value} {K : Addr → Prop} (h : Sat Γ L w) (pk : Pick (Own s T sz cells) L L') (hn : s.len ≠ 0)
    (k : ∀ a, s.p = some a → (∀ (k : Nat) (sh : Sh) (x : sh.T), rdL cells k sh x → rdSh w (a.add k) sh x) → K a) : NN s.p K := by
  obtain ⟨b, spare, h1, h2, h3⟩ := Own.place (h.pick pk) hn
  refine ⟨_, h1, k _ h1 fun k sh x hx => ?_⟩
  rw [add_plain, Nat.zero_add]
  exact rd_of h3.heap (rdL_append hx)

theorem nnFz {s : Sl} {sz : Nat} {cells : List Value} {K : Addr → Prop} (h : Sat Γ L w) (hf : Fz Γ s sz cells) (hn : s.len ≠ 0)
    (k : ∀ a, s.p = some a → (∀ (k : Nat) (sh : Sh) (x : sh.T), rdL cells k sh x → rdSh w (a.add k) sh x) → K a) : NN s.p K := by
  obtain ⟨a, h1, h2⟩ := hf.place (L := L) hn
  exact ⟨a, h1, k a h1 fun k sh x hx => h2 w h k sh x hx⟩

theorem ldAt {a : Addr} {s : Sh} {K : s.T → Prop} (x : s.T) (hr : rdSh w a s x) (k : K x) : Ld (fun w' => w' = w) s a K := ⟨x, fun w' hw => by subst hw; exact hr, k⟩

theorem ldOwnH {L0 : List HP} {sl : Sl} {T : TypeId} {sz : Nat} {cells : List Value} {a : Addr} {k : Nat} {s : Sh} {K : s.T → Prop} (x : s.T) (pk : Pick (Own sl T sz cells) L0 L') (ha : sl.p = some a) (hn : sl.len ≠ 0)
    (hx : rdL cells k s x) (kk : K x) : Ld (Sx Γ L0) s (a.add k) K := by
  refine ⟨x, ?_, kk⟩
  rintro w' ⟨Γ', _, h⟩
  obtain ⟨b, spare, h1, h2, h3⟩ := Own.place (h.pick pk) hn
  rw [h1] at ha
  cases ha
  rw [add_plain, Nat.zero_add]
  exact rd_of h3.heap (rdL_append hx)

theorem add_add {a : Addr} (ha : a.spot = none) (i j : Nat) : (a.add i).add j = a.add (i + j) := by
  obtain ⟨b, o, s⟩ := a
  simp only at ha
  subst ha
  rw [add_plain, add_plain, add_plain, Nat.add_assoc]

/-- what a frozen slice holds, read in any world that is asked -/
theorem ldFzH {L0 : List HP} {sl : Sl} {sz : Nat} {cells : List Value} {a : Addr} {k : Nat} {s : Sh} {K : s.T → Prop} (x : s.T) (hf : Fz Γ sl sz cells) (ha : sl.p = some a) (hn : sl.len ≠ 0)
    (hx : rdL cells k s x) (kk : K x) : Ld (Sx Γ L0) s (a.add k) K := by
  refine ⟨x, ?_, kk⟩
  rintro w' ⟨Γ', hl, h⟩
  obtain ⟨a', h1, h2⟩ := (hf.mono hl).place (L := L0) hn
  rw [h1] at ha
  cases ha
  exact h2 w' h k s x hx

/-- a slice of one's own begins at the begin of a block -/
theorem Own.spot {s : Sl} {T : TypeId} {sz : Nat} {cells : List Value} {a : Addr} (h : Sat Γ L w) (pk : Pick (Own s T sz cells) L L') (ha : s.p = some a) : a.spot = none := by
  obtain ⟨_, _, h1 | ⟨b, spare, h1, _⟩⟩ := (h.pick pk).own
  · rw [h1.1] at ha; cases ha
  · rw [h1] at ha; cases ha; rfl

theorem Fz.spot {s : Sl} {sz : Nat} {cells : List Value} {a : Addr} (h : Fz Γ s sz cells) (hn : s.len ≠ 0) (ha : s.p = some a) : a.spot = none := by
  obtain ⟨b, o, c, T, z, h1, _⟩ := h.at_ hn
  rw [h1] at ha; cases ha; rfl

/-- several cells from a place on -/
def setL (c : List Value) : Nat → List Value → List Value
  | _, [] => c
  | o, v :: r => setL (c.set o v) (o + 1) r

/-- things of one size in a row of cells -/
theorem flatMap_get {α : Type} {f : α → List Value} {sz : Nat} (hf : ∀ x, (f x).length = sz) : ∀ (l : List α) (i j : Nat) (x : α), l[i]? = some x → j < sz → (l.flatMap f)[i * sz + j]? = (f x)[j]?
  | [], i, j, x, h, _ => by simp at h
  | y :: r, 0, j, x, h, hj => by
    have : y = x := by simpa using h
    subst this
    rw [List.flatMap_cons, Nat.zero_mul, Nat.zero_add, List.getElem?_append_left (by rw [hf]; exact hj)]
  | y :: r, i + 1, j, x, h, hj => by
    rw [List.flatMap_cons, List.getElem?_append_right (by rw [hf, Nat.succ_mul]; omega), hf]
    rw [show (i + 1) * sz + j - sz = i * sz + j by rw [Nat.succ_mul]; omega]
    exact flatMap_get hf r i j x (by simpa using h) hj

theorem flatMap_length {α : Type} {f : α → List Value} {sz : Nat} (hf : ∀ x, (f x).length = sz) (l : List α) : (l.flatMap f).length = l.length * sz := by
  induction l with
  | nil => simp
  | cons x r ih => rw [List.flatMap_cons, List.length_append, hf, ih, List.length_cons, Nat.succ_mul]; omega

theorem setL_append_left : ∀ (vs a b : List Value) (o : Nat), o + vs.length ≤ a.length → setL (a ++ b) o vs = setL a o vs ++ b
  | [], _, _, _, _ => rfl
  | v :: r, a, b, o, h => by
    simp only [List.length_cons] at h
    rw [setL, setL, List.set_append, if_pos (by omega), setL_append_left r (a.set o v) b (o + 1) (by simpa using by omega)]

theorem setL_append_right : ∀ (vs a b : List Value) (o : Nat), setL (a ++ b) (a.length + o) vs = a ++ setL b o vs
  | [], _, _, _ => rfl
  | v :: r, a, b, o => by
    rw [setL, setL, List.set_append, if_neg (by omega), show a.length + o - a.length = o by omega]
    exact setL_append_right r a (b.set o v) (o + 1)

theorem setL_whole : ∀ (vs a p : List Value), vs.length = a.length → setL (p ++ a) p.length vs = p ++ vs
  | [], a, p, h => by
    have : a = [] := List.eq_nil_of_length_eq_zero h.symm
    subst this
    rfl
  | v :: r, a, p, h => by
    cases a with
    | nil => cases h
    | cons x a =>
      rw [setL]
      have e : (p ++ x :: a).set p.length v = (p ++ [v]) ++ a := by simp
      rw [e, show p.length + 1 = (p ++ [v]).length by simp, setL_whole r a (p ++ [v]) (by simpa using h)]
      simp

theorem flatMap_set {α : Type} {f : α → List Value} {sz : Nat} (hf : ∀ x, (f x).length = sz) : ∀ (l : List α) (i : Nat) (y : α), i < l.length → setL (l.flatMap f) (i * sz) (f y) = (l.set i y).flatMap f
  | x :: r, 0, y, _ => by
    rw [List.flatMap_cons, List.set_cons_zero, List.flatMap_cons, Nat.zero_mul, setL_append_left (f y) (f x) _ 0 (by rw [hf, hf]; omega)]
    have := setL_whole (f y) (f x) [] (by rw [hf, hf])
    rw [show (0 : Nat) = ([] : List Value).length from rfl]
    simpa using this
  | x :: r, i + 1, y, h => by
    rw [List.flatMap_cons, List.set_cons_succ, List.flatMap_cons, Nat.succ_mul, Nat.add_comm (i * sz) sz]
    have := setL_append_right (f y) (f x) (r.flatMap f) (i * sz)
    rw [hf] at this
    rw [this, flatMap_set hf r i y (by simpa using h)]

/-- a cell of a slice of one's own is written -/
theorem stOwn {s : Sl} {T : TypeId} {sz : Nat} {cells : List Value} {a : Addr} {i : Nat} {v : Value} {K : World → Prop} (h : Sat Γ L w) (pk : Pick (Own s T sz cells) L L') (ha : s.p = some a) (hi : i < cells.length)
    (hv : v.oneCell' = true) (k : ∀ w', Sat Γ (Own s T sz (cells.set i v) :: L') w' → K w') : St (a.add i) v K w := by
  have hn : s.len ≠ 0 := by
    intro h0
    have := (h.pick pk).own.1
    rw [h0, Nat.zero_mul] at this
    omega
  have ho := (h.pick pk).own
  obtain ⟨b, spare, h1, h2, h3⟩ := Own.place (h.pick pk) hn
  rw [h1] at ha
  cases ha
  rw [add_plain, Nat.zero_add]
  refine st h3 .here (fun w' hw' => k w' ?_) (ho := Nat.ble_eq_true_of_le (by simp; omega)) (hv := hv) (hz := by simp [freeB, Nat.blt, Nat.ble])
  refine Sat.toOwn (b := b) (spare := spare) ?_ h1 (by simpa using ho.1) ho.2.1 (by simpa using h2)
  have e : ((cells ++ spare).toArray.setIfInBounds i v) = (cells.set i v ++ spare).toArray := by
    apply Array.toList_inj.1
    simp only [Array.toList_setIfInBounds, List.set_append, hi, if_true]
  rw [← e]
  exact hw'

theorem stOwn2 {s : Sl} {T : TypeId} {sz : Nat} {cells : List Value} {a : Addr} {i j : Nat} {v : Value} {K : World → Prop} (h : Sat Γ L w) (pk : Pick (Own s T sz cells) L L') (ha : s.p = some a) (hi : i + j < cells.length)
    (hv : v.oneCell' = true) (k : ∀ w', Sat Γ (Own s T sz (cells.set (i + j) v) :: L') w' → K w') : St ((a.add i).add j) v K w := by
  rw [add_add (Own.spot h pk ha)]
  exact stOwn h pk ha hi hv k

theorem ldAt2 {a : Addr} {i j : Nat} {s : Sh} {K : s.T → Prop} (hs : a.spot = none) (x : s.T) (hr : rdSh w (a.add (i + j)) s x) (k : K x) : Ld (fun w' => w' = w) s ((a.add i).add j) K := by
  rw [add_add hs]
  exact ldAt x hr k

theorem setL_length : ∀ (vs c : List Value) (o : Nat), (setL c o vs).length = c.length
  | [], _, _ => rfl
  | v :: r, c, o => by simp [setL, setL_length r]

theorem setN_append : ∀ (vs cells spare : List Value) (o : Nat), o + vs.length ≤ cells.length → setN (cells ++ spare).toArray o vs = (setL cells o vs ++ spare).toArray
  | [], _, _, _, _ => rfl
  | v :: r, cells, spare, o, h => by
    simp only [List.length_cons] at h
    have hi : o < cells.length := by omega
    have e : ((cells ++ spare).toArray.setIfInBounds o v) = (cells.set o v ++ spare).toArray := by
      apply Array.toList_inj.1
      simp only [Array.toList_setIfInBounds, List.set_append, hi, if_true]
    rw [setN, e, setN_append r (cells.set o v) spare (o + 1) (by simpa using by omega), setL]

theorem stNOwn {s : Sl} {T : TypeId} {sz : Nat} {cells : List Value} {a : Addr} {i : Nat} {vs : List Value} {K : World → Prop} (h : Sat Γ L w) (pk : Pick (Own s T sz cells) L L') (ha : s.p = some a) (hi : i + vs.length ≤ cells.length)
    (hn : s.len ≠ 0) (hv : ∀ v ∈ vs, v.oneCell' = true) (k : ∀ w', Sat Γ (Own s T sz (setL cells i vs) :: L') w' → K w') : StN (a.add i) vs K w := by
  have ho := (h.pick pk).own
  obtain ⟨b, spare, h1, h2, h3⟩ := Own.place (h.pick pk) hn
  rw [h1] at ha
  cases ha
  rw [add_plain, Nat.zero_add]
  refine stN1 h3 .here (by simp; omega) hv (fun _ _ => by simp [freeAt]) fun w' hw' => k w' ?_
  rw [setN_append vs cells spare i hi] at hw'
  exact Sat.toOwn hw' h1 (by rw [setL_length]; exact ho.1) ho.2.1 (by rw [setL_length]; exact h2)

/-- it is never written any more -/
theorem Sat.freezeOwn {s : Sl} {T : TypeId} {sz : Nat} {cells : List Value} (h : Sat Γ (Own s T sz cells :: L) w) (hs : s.len ≤ 140737488355328) : ∃ Γ', Γ.le Γ' ∧ Fz Γ' s sz cells ∧ Sat Γ' L w := by
  obtain ⟨hl, hc, hp⟩ := h.own
  rcases hp with ⟨h1, h2⟩ | ⟨b, spare, h1, h2, h3⟩
  · exact ⟨Γ, .refl Γ, ⟨hl, hc, by omega, fun h0 => absurd (by omega) h0⟩, h.drop⟩
  · obtain ⟨Γ', g1, g2, g3⟩ := h3.freeze
    refine ⟨Γ', g1, ⟨hl, hc, by omega, fun _ => ⟨b, 0, _, T, (0, 0), h1, g2, fun i v hv => ?_⟩⟩, g3⟩
    have hi : i < cells.length := (List.getElem?_eq_some_iff.1 hv).1
    rw [Nat.zero_add, List.getElem?_toArray, List.getElem?_append_left hi]
    exact hv

/-! ### append, make -/

/-- a slice's type: its element's type, how many cells and bytes an element has, its zero -/
structure SlT (P : Program) (t e sz by_ : Nat) (z : List Value) : Prop where
  und : P.underlying t = some (.slice e)
  zero : ∃ i v, P.info? e = some i ∧ i.size = sz ∧ i.bytes = by_ ∧ i.zero = some v ∧ v.cells = z.toArray
  zlen : z.length = sz
  pos : 0 < sz
  posb : 0 < by_
  smallb : by_ ≤ 1048576

/-- what stands in what is appended -/
def Src (w : World) (v : Value) (n sz : Nat) (cells : List Value) : Prop := (∃ c, v = .slice none n c ∧ n = 0 ∧ cells = []) ∨ (∃ a c, v = .slice (some a) n c ∧ cells.length = n * sz ∧ rdN w a cells)

theorem Src.kept {v : Value} {n sz : Nat} {cells : List Value} (h : Src w v n sz cells) (hk : ∀ a, (∃ u, w.cell? a = some u) → w'.cell? a = w.cell? a) : Src w' v n sz cells := by
  rcases h with h | ⟨a, c, h1, h2, h3⟩
  · exact .inl h
  · exact .inr ⟨a, c, h1, h2, fun i u hu => by rw [hk _ ⟨u, h3 i u hu⟩]; exact h3 i u hu⟩

theorem Src.firstCells {v : Value} {n sz : Nat} {cells : List Value} (h : Src w v n sz cells) : (Builtin.firstCells sz n v).run P w = .ok cells.toArray w ∧ (Builtin.lenOf v).run P w = .ok n w := by
  rcases h with ⟨c, rfl, rfl, rfl⟩ | ⟨a, c, rfl, h2, h3⟩
  · exact ⟨rfl, rfl⟩
  · refine ⟨?_, rfl⟩
    show (loadCells a (n * sz)).run P w = _
    rw [← h2]
    exact run_loadCells h3

theorem growBy_le (newLen : Nat) : ∀ (r c : Nat), c ≤ newLen → Builtin.growBy newLen r c ≤ 2 * newLen + 192
  | 0, c, h => by unfold Builtin.growBy; omega
  | r + 1, c, h => by
    unfold Builtin.growBy
    split
    · omega
    · by_cases h2 : c + (c + 768) / 4 ≤ newLen
      · exact growBy_le newLen r _ h2
      · have : ∀ (r c : Nat), newLen ≤ c → Builtin.growBy newLen r c = c := by
          intro r c hc
          cases r with
          | zero => rfl
          | succ r => unfold Builtin.growBy; rw [if_pos hc]
        rw [this r _ (by omega)]
        omega

theorem nextslicecap_le {newLen oldCap : Nat} (h : oldCap < newLen) : Builtin.nextslicecap newLen oldCap ≤ 2 * newLen + 192 := by
  unfold Builtin.nextslicecap
  split
  · omega
  · split
    · omega
    · exact growBy_le newLen 4 oldCap (by omega)

theorem zeroCells_eq {z : List Value} {n : Nat} (hz : 0 < z.length) : ∃ l : List Value, Builtin.zeroCells z.toArray n = l.toArray ∧ l.length = n * z.length :=
  ⟨(Builtin.zeroCells z.toArray n).toList, by simp, by simp [Builtin.zeroCells]⟩

theorem append_run {t t2 e sz by_ : Nat} {z : List Value} (ty : SlT P t e sz by_ z) (ht2 : ∃ d, P.underlying t2 = some d ∧ ∀ k, d ≠ .int k) {T : TypeId} {s : Sl} {v : Value} {n : Nat} {cells new : List Value}
    (h : Sat Γ (Own s e sz cells :: L) w) (hs : Src w v n sz new) (hnl : new.length = n * sz) (ho : ∀ v ∈ new, One v) (hb : (s.len + n) * by_ ≤ 70368744177664) :
    ∃ (s' : Sl) (w' : World), (Builtin.append_ #[t, t2] T #[.slice s.p s.len s.cap, v]).run P w = .ok (.slice s'.p s'.len s'.cap) w' ∧ s'.len = s.len + n ∧ Sat Γ (Own s' e sz (cells ++ new) :: L) w' := by
  obtain ⟨i, zv, hi, hsz, hby, hz, hzc⟩ := ty.zero
  obtain ⟨d, hd, hdi⟩ := ht2
  have hszO : szOf P e = some sz := by unfold szOf; rw [hi]; exact congrArg some hsz
  have hzeros : (match d with | .int _ => true | _ => false) = false := by cases d <;> first | rfl | exact absurd rfl (hdi _)
  obtain ⟨hfc, hln⟩ := hs.firstCells (P := P)
  obtain ⟨hl, hc, hp⟩ := h.own
  have hpos := ty.pos
  have hposb := ty.posb
  have hsum : s.len + n ≤ 70368744177664 := Nat.le_trans (Nat.le_mul_of_pos_right _ hposb) hb
  unfold Builtin.append_
  simp only [Sem.run_bind, run_underlying ty.und, Result.andThen, run_sizeOf hszO, List.getElem?_toArray, List.getElem?_cons_zero, List.getElem?_cons_succ, run_underlying hd, Sem.run_pure, hzeros, Bool.false_eq_true, if_false, hln]
  by_cases hfit : s.len + n ≤ s.cap
  · -- there is room
    simp only [hfit, if_true, Bool.not_false, Sem.run_bind, hfc, Result.andThen]
    rcases hp with ⟨h1, h2⟩ | ⟨b, spare, h1, h2, h3⟩
    · have hn0 : n = 0 := by omega
      have hs0 : s.len = 0 := by omega
      have hnew : new = [] := by
        apply List.eq_nil_of_length_eq_zero
        rw [hnl, hn0, Nat.zero_mul]
      subst hn0 hnew
      simp only [h1]
      exact ⟨s, w, by simp [h1], by omega, by simpa using h⟩
    · simp only [h1, add_plain, Nat.zero_add]
      -- the room behind is written
      have hsp : new.length ≤ spare.length := by
        rw [hnl]
        have : (s.len + n) * sz ≤ s.cap * sz := Nat.mul_le_mul_right _ hfit
        rw [Nat.add_mul] at this
        omega
      have hst := run_storeCells (P := P) (p := ⟨b, s.len * sz, none⟩) new 0 w ho (fun j hj => by
        rw [add_plain, Nat.zero_add]
        refine ⟨⟨(cells ++ spare).toArray[s.len * sz + j]'(by simp; omega), by rw [cell_of h3.heap]; simp [show s.len * sz + j < (cells ++ spare).length by simp; omega]⟩, frozen_of h3.heap (by simp [freeAt])⟩)
      simp only [Sem.run_bind, hst, Result.andThen, Sem.run_pure]
      refine ⟨⟨some ⟨b, 0, none⟩, s.len + n, s.cap⟩, _, rfl, rfl, ?_⟩
      have hsat := stN_sat (o := s.len * sz) new 0 _ w h3
      have e : ∀ (vs cells spare : List Value) (o : Nat), o = cells.length → vs.length ≤ spare.length → setN (cells ++ spare).toArray o vs = (cells ++ vs ++ spare.drop vs.length).toArray := by
        intro vs
        induction vs with
        | nil => intro cells spare o _ _; simp [setN]
        | cons v r ih =>
          intro cells spare o ho hlen
          cases spare with
          | nil => simp at hlen
          | cons u spare =>
            subst ho
            have e1 : ((cells ++ u :: spare).toArray.setIfInBounds cells.length v) = ((cells ++ [v]) ++ spare).toArray := by
              apply Array.toList_inj.1
              simp
            rw [setN, e1, ih (cells ++ [v]) spare (cells.length + 1) (by simp) (by simpa using hlen)]
            simp
      rw [Nat.add_zero, e new cells spare (s.len * sz) hl.symm hsp] at hsat
      refine Sat.toOwn (b := b) (spare := spare.drop new.length) hsat rfl (by simp [hl, hnl, Nat.add_mul]) hfit ?_
      simp only [List.length_append, List.length_drop]
      omega
  · -- a new array
    have hov : ¬ (((s.len + n : Nat) : Int) > IntKind.i64.max ∧ (False ∨ i.bytes = 0)) := by
      rintro ⟨h1, _⟩
      have : (IntKind.i64.max : Int) = 9223372036854775807 := by decide
      omega
    have hcap := nextslicecap_le (Nat.lt_of_not_le hfit)
    have hbig : ¬ (Builtin.nextslicecap (s.len + n) s.cap * i.bytes > 2 ^ 48) := by
      rw [hby]
      have h1 : Builtin.nextslicecap (s.len + n) s.cap * by_ ≤ (2 * (s.len + n) + 192) * by_ := Nat.mul_le_mul_right _ hcap
      have h2 : (2 * (s.len + n) + 192) * by_ = 2 * ((s.len + n) * by_) + 192 * by_ := by rw [Nat.add_mul, Nat.mul_assoc]
      have h3 := ty.smallb
      have h4 : (2 : Nat) ^ 48 = 281474976710656 := by decide
      omega
    have hold : ∀ w', w'.heap = w.heap → (Builtin.firstCells sz s.len (.slice s.p s.len s.cap)).run P w' = .ok cells.toArray w' := by
      intro w' hw'
      rcases hp with ⟨h1, h2⟩ | ⟨b, spare, h1, h2, h3⟩
      · have h0 : cells = [] := by
          apply List.eq_nil_of_length_eq_zero
          rw [hl, show s.len = 0 by omega, Nat.zero_mul]
        subst h0
        rw [h1]
        rfl
      · rw [h1]
        show (loadCells ⟨b, 0, none⟩ (s.len * sz)).run P w' = _
        rw [← hl]
        refine run_loadCells fun j u hu => ?_
        have hj : j < cells.length := (List.getElem?_eq_some_iff.1 hu).1
        rw [add_plain, Nat.zero_add, cell_of (by rw [hw']; exact h3.heap), List.getElem?_toArray, List.getElem?_append_left hj]
        exact hu
    have hnew : ∀ w', w'.heap = w.heap → (Builtin.firstCells sz n v).run P w' = .ok new.toArray w' := fun w' hw' =>
      (Src.firstCells (P := P) (hs.kept fun a _ => by simp only [World.cell?, hw'])).1
    simp only [hfit, if_false, Bool.not_false, Sem.run_bind, run_typeInfo hi, Result.andThen, Sem.run_ite, Bool.false_eq_true, false_or, or_false, false_and]
    have hov' : ¬ (((s.len + n : Nat) : Int) > IntKind.i64.max ∧ i.bytes = 0) := fun hh => hov ⟨hh.1, .inr hh.2⟩
    simp only [hov', if_false, hbig, Sem.run_pure, run_typeInfo hi, Result.andThen, run_choose, Question.forced, Bool.false_eq_true, run_askRoom]
    have hh1 := hold { w with drawn := w.drawn + 1 } rfl
    have hh2 := hnew { w with drawn := w.drawn + 1 } rfl
    obtain ⟨zl, hz1, hz2⟩ := zeroCells_eq (z := z) (n := (Question.appendCap (s.len + n) s.cap e).cut (w.tape w.drawn (Question.appendCap (s.len + n) s.cap e)) - (s.len + n)) (by rw [ty.zlen]; exact hpos)
    simp only [hh1, hh2, Result.andThen, run_zeroValue hi hz, hzc, hz1, newRow, Sem.run_bind, run_newObj, Sem.run_pure]
    have hge : s.len + n ≤ (Question.appendCap (s.len + n) s.cap e).cut (w.tape w.drawn (Question.appendCap (s.len + n) s.cap e)) := by
      simp only [Question.cut]; omega
    refine ⟨⟨some ⟨w.heap.size, 0, none⟩, s.len + n, (Question.appendCap (s.len + n) s.cap e).cut (w.tape w.drawn (Question.appendCap (s.len + n) s.cap e))⟩, _, rfl, rfl, ?_⟩
    have hs2 := h.drop.drew.new (.cells (cells.toArray ++ new.toArray ++ zl.toArray) e)
    refine Sat.toOwn (b := w.heap.size) (spare := zl) ?_ rfl (by simp [hl, hnl, Nat.add_mul]) hge ?_
    · have e1 : (cells ++ new ++ zl).toArray = cells.toArray ++ new.toArray ++ zl.toArray := by simp
      rw [e1]
      exact hs2
    · simp only [List.length_append, hl, hnl, hz2, ty.zlen]
      rw [← Nat.add_mul, ← Nat.add_mul]
      congr 1
      omega

/-- **append** to a slice of one's own -/
theorem append {t t2 e sz by_ : Nat} {z : List Value} (ty : SlT P t e sz by_ z) (ht2 : ∃ d, P.underlying t2 = some d ∧ ∀ k, d ≠ .int k) {T : TypeId} {s : Sl} {v : Value} {n : Nat} {cells new : List Value} {K : Sl → World → Prop}
    (h : Sat Γ L w) (pk : Pick (Own s e sz cells) L L') (hs : Src w v n sz new) (hnl : new.length = n * sz) (ho : ∀ v ∈ new, One v) (hb : (s.len + n) * by_ ≤ 70368744177664)
    (k : ∀ s' w', s'.len = s.len + n → Sat Γ (Own s' e sz (cells ++ new) :: L') w' → K s' w') :
    Prim P (Builtin.append_ #[t, t2] T #[.slice s.p s.len s.cap, v]) (.one (.s .sl)) K w := by
  obtain ⟨s', w', h1, h2, h3⟩ := append_run ty ht2 (T := T) (h.pick pk) hs hnl ho hb
  exact ⟨s', w', h1, k s' w' h2 h3⟩

theorem wrap64_id {n : Int} (h0 : -9223372036854775808 ≤ n) (h1 : n < 9223372036854775808) : IntKind.i64.wrap n = n := IntWalk.i64_in n (by omega)

theorem repl_get (z : List Value) (hz : 0 < z.length) : ∀ (n j : Nat), j < n * z.length → ((List.replicate n z).flatten)[j]? = z[j % z.length]? := by
  intro n
  induction n with
  | zero => intro j h; omega
  | succ n ih =>
    intro j h
    rw [List.replicate_succ, List.flatten_cons]
    by_cases hj : j < z.length
    · rw [List.getElem?_append_left hj, Nat.mod_eq_of_lt hj]
    · rw [List.getElem?_append_right (by omega), ih (j - z.length) (by rw [Nat.succ_mul] at h; omega), Nat.mod_eq_sub_mod (by omega : j ≥ z.length)]

theorem repl_eq (z : List Value) (hz : 0 < z.length) (n : Nat) : ((Array.range (n * z.length)).map fun j => z.toArray[j % z.toArray.size]!) = ((List.replicate n z).flatten).toArray := by
  apply Array.ext
  · simp [List.length_flatten]
  · intro j h1 h2
    simp only [Array.size_map, Array.size_range] at h1
    have hjm : j % z.length < z.length := Nat.mod_lt _ hz
    simp only [Array.getElem_map, Array.getElem_range, List.size_toArray]
    have e1 : z.toArray[j % z.length]! = z[j % z.length] := by
      rw [getElem!_pos _ _ (by simpa using hjm)]
      simp
    rw [e1]
    have h3 := repl_get z hz n j h1
    rw [List.getElem?_eq_getElem hjm] at h3
    have h4 : ((List.replicate n z).flatten).toArray[j]? = some (z[j % z.length]) := by rw [List.getElem?_toArray, h3]
    rw [Array.getElem?_eq_getElem h2] at h4
    exact (Option.some.inj h4).symm

/-- **make** of a slice -/
theorem make {t e sz by_ : Nat} {z : List Value} (ty : SlT P t e sz by_ z) {n c : Nat} {K : Sl → World → Prop} (h : Sat Γ L w) (hnc : n ≤ c) (hb : c * by_ ≤ 70368744177664)
    (k : ∀ s' w', s'.len = n → s'.cap = c → Sat Γ (Own s' e sz (List.replicate n z).flatten :: L) w' → K s' w') :
    Prim P (Instr.makeSlice t (.int .i64 n) (.int .i64 c)) (.one (.s .sl)) K w := by
  obtain ⟨i, zv, hi, hsz, hby, hz, hzc⟩ := ty.zero
  have hpos := ty.pos
  have hposb := ty.posb
  have hcs : c ≤ 70368744177664 := Nat.le_trans (Nat.le_mul_of_pos_right _ hposb) hb
  have hszO : szOf P e = some sz := by unfold szOf; rw [hi]; exact congrArg some hsz
  have hw1 : IntKind.i64.wrap (n : Int) = n := wrap64_id (by omega) (by omega)
  have hw2 : IntKind.i64.wrap (c : Int) = c := wrap64_id (by omega) (by omega)
  have hbi : ((i.bytes : Int) * (c : Int)) = ((c * by_ : Nat) : Int) := by rw [hby]; rw [Int.mul_comm]; rfl
  have h48 : (2 : Int) ^ 48 = 281474976710656 := by decide
  refine ⟨⟨some ⟨w.heap.size, 0, none⟩, n, c⟩, { w with heap := w.heap.push (.cells ((List.replicate c z).flatten).toArray e) }, ?_, k _ _ rfl rfl ?_⟩
  · have hcond : ((decide ((c : Int) < 0) || decide ((i.bytes : Int) * (c : Int) > 2 ^ 48)) || decide ((n : Int) < 0) || decide ((n : Int) > c)) = false := by
      rw [hbi, h48]
      simp only [Bool.or_eq_false_iff, decide_eq_false_iff_not]
      omega
    unfold Instr.makeSlice
    simp only [Sem.run_bind, run_underlying ty.und, Result.andThen, asInt, asIntOf, Sem.run_pure, run_typeInfo hi, hw1, hw2]
    have hcond' : ¬ (((decide ((c : Int) < 0) || decide ((i.bytes : Int) * (c : Int) > 2 ^ 48)) || decide ((n : Int) < 0) || decide ((n : Int) > c)) = true) := by rw [hcond]; simp
    simp only [hcond, Bool.false_eq_true, if_false, Sem.run_bind, Sem.run_pure, Result.andThen, run_askRoom, run_sizeOf hszO, Int.toNat_natCast]
    by_cases hc0 : c * sz = 0
    · have hc00 : c = 0 := by
        rcases Nat.mul_eq_zero.1 hc0 with h | h
        · exact h
        · omega
      subst hc00
      have e0 : (Array.range 0).map (fun (x : Nat) => (#[] : Array Value)[x % (#[] : Array Value).size]!) = #[] := by simp
      simp only [Nat.zero_mul, if_true, Sem.run_pure, Result.andThen, e0, newRow, Sem.run_bind, run_newObj]
      rfl
    · have e1 : (Array.range (c * sz)).map (fun j => z.toArray[j % z.toArray.size]!) = ((List.replicate c z).flatten).toArray := by
        rw [← ty.zlen]; exact repl_eq z (by rw [ty.zlen]; exact hpos) c
      simp only [hc0, if_false, Sem.run_bind, run_zeroValue hi hz, Sem.run_pure, Result.andThen, hzc, e1, newRow, run_newObj]
      rfl
  · have hs := h.new (.cells ((List.replicate c z).flatten).toArray e)
    refine Sat.toOwn (b := w.heap.size) (spare := (List.replicate (c - n) z).flatten) ?_ rfl (by simp [List.length_flatten, ty.zlen]) hnc ?_
    · have e1 : (List.replicate n z).flatten ++ (List.replicate (c - n) z).flatten = (List.replicate c z).flatten := by
        rw [← List.flatten_append, List.replicate_append_replicate]
        congr 2
        omega
      rw [e1]
      exact hs
    · simp only [List.length_flatten, List.map_replicate, List.sum_replicate_nat, ty.zlen]
      rw [← Nat.add_mul]
      congr 1
      omega

end Go.Proofs.Ytohoimokfgfceaa.K
