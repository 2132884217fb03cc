/-
  Bytes: slices of bytes that are frozen, strings made of them, what compares them.
-/
import Derived.Test.YtohoimokfgfceaaEngL
import Derived.Laws.BytesString
import Derived.Laws.Strings
import Derived.Laws.StandIn
namespace Go.Proofs.Ytohoimokfgfceaa.K
open Go
variable {P : Program} {Γ Γ' : Mem} {L L' : List HP} {w w' : World} {A B : HP}

/-- a byte, as a cell -/
def bv (b : UInt8) : Value := .int .u8 (b.toNat : Int)

/-- a frozen slice of these bytes -/
def Bytes (Γ : Mem) (s : Sl) (bs : List UInt8) : Prop := Fz Γ s 1 (bs.map bv)

theorem Bytes.mono {s : Sl} {bs : List UInt8} (h : Bytes Γ s bs) (hl : Γ.le Γ') : Bytes Γ' s bs := Fz.mono h hl
theorem Bytes.len {s : Sl} {bs : List UInt8} (h : Bytes Γ s bs) : s.len = bs.length := by have := Fz.len h; simpa using this.symm
theorem Bytes.nil (p : Option Addr) (c : Nat) : Bytes Γ ⟨p, 0, c⟩ [] := Fz.nil 1 p c
theorem bv_one (b : UInt8) : One (bv b) := rfl
theorem map_bv_one (bs : List UInt8) : ∀ v ∈ bs.map bv, One v := by
  intro v hv
  obtain ⟨b, _, rfl⟩ := List.mem_map.1 hv
  exact bv_one b

/-- the string of bytes -/
def str (bs : List UInt8) : ByteArray := ⟨bs.toArray⟩

theorem str_toList (bs : List UInt8) : (str bs).toList = bs := ByteArray.toList_mk bs
theorem str_size (bs : List UInt8) : (str bs).size = bs.length := by simp [str, ByteArray.size]

theorem foldl_push (l : List UInt8) (acc : ByteArray) : l.foldl (fun r n => r.push n) acc = ⟨acc.data ++ l.toArray⟩ := by
  induction l generalizing acc with
  | nil => simp
  | cons x r ih =>
    rw [List.foldl_cons, ih]
    congr 1
    apply Array.toList_inj.1
    simp [ByteArray.push]

theorem Bytes.src {s : Sl} {bs : List UInt8} (h : Bytes Γ s bs) (hw : Sat Γ L w) : Src w (.slice s.p s.len s.cap) bs.length 1 (bs.map bv) := by
  have hl := h.len
  by_cases hn : s.len = 0
  · have hb : bs = [] := List.eq_nil_of_length_eq_zero (by omega)
    subst hb
    cases hp : s.p with
    | none => exact .inl ⟨s.cap, by simp [hn], rfl, rfl⟩
    | some a => exact .inr ⟨a, s.cap, by simp [hn], rfl, fun i v hv => by simp at hv⟩
  · obtain ⟨b, o, c, T, z, h1, h2, h3⟩ := Fz.at_ h hn
    refine .inr ⟨_, s.cap, by rw [h1, hl], by simp, fun i v hv => ?_⟩
    rw [add_plain, cell_of (hw.frozen h2)]
    exact h3 i v hv

theorem Bytes.toS {s : Sl} {bs : List UInt8} (h : Bytes Γ s bs) (hw : Sat Γ L w) : (Conv.bytesToString (.slice s.p s.len s.cap)).run P w = .ok (.string (str bs)) w := by
  have hl := h.len
  rcases h.src hw with ⟨c, h1, h2, h3⟩ | ⟨a, c, h1, h2, h3⟩
  · have hb : bs = [] := List.eq_nil_of_length_eq_zero h2
    subst hb
    rw [h1]
    rfl
  · rw [h1]
    have hr := run_loadCells (P := P) h3
    rw [List.length_map] at hr
    have e : (bs.map bv) = (bs.map fun b => (b.toNat : Int)).map (Value.int .u8) := by simp [bv, Function.comp_def]
    rw [e] at hr
    rw [run_bytesToString w a bs.length c _ hr]
    congr 2
    rw [List.foldl_map]
    have e2 : (fun (r : ByteArray) (b : UInt8) => r.push (UInt8.ofNat ((b.toNat : Int)).toNat)) = fun r b => r.push b := by
      funext r b; simp
    rw [e2, foldl_push]
    simp [str]

/-- bytes as a string -/
theorem btoS {s : Sl} {K : ByteArray → Prop} {bs : List UInt8} (hw : Sat Γ L w) (h : Bytes Γ s bs) (k : K (str bs)) : BtoS P (fun w' => w' = w) s K :=
  ⟨_, fun w' hw' => by subst hw'; exact h.toS hw, k⟩

/-- bytes held against each other -/
def cmpB : List UInt8 → List UInt8 → Int
  | [], [] => 0
  | [], _ :: _ => -1
  | _ :: _, [] => 1
  | a :: x, b :: y => if a < b then -1 else if b < a then 1 else cmpB x y

theorem u8_eq {a b : UInt8} (h1 : ¬ a < b) (h2 : ¬ b < a) : a = b := by
  apply UInt8.toNat_inj.1
  have h1' : ¬ a.toNat < b.toNat := fun h => h1 (UInt8.lt_iff_toNat_lt.2 h)
  have h2' : ¬ b.toNat < a.toNat := fun h => h2 (UInt8.lt_iff_toNat_lt.2 h)
  omega

theorem u8_irr (a : UInt8) : ¬ a < a := fun h => Nat.lt_irrefl _ (UInt8.lt_iff_toNat_lt.1 h)
theorem u8_asymm {a b : UInt8} (h : a < b) : ¬ b < a := fun h' => Nat.lt_asymm (UInt8.lt_iff_toNat_lt.1 h) (UInt8.lt_iff_toNat_lt.1 h')
theorem u8_trans {a b c : UInt8} (h : a < b) (h' : b < c) : a < c := UInt8.lt_iff_toNat_lt.2 (Nat.lt_trans (UInt8.lt_iff_toNat_lt.1 h) (UInt8.lt_iff_toNat_lt.1 h'))

theorem cmpB_eq_zero : ∀ {x y : List UInt8}, cmpB x y = 0 ↔ x = y
  | [], [] => by simp [cmpB]
  | [], _ :: _ => by simp [cmpB]
  | _ :: _, [] => by simp [cmpB]
  | a :: x, b :: y => by
    unfold cmpB
    by_cases h1 : a < b
    · simp only [h1, if_true]
      constructor
      · intro h; omega
      · intro h; cases h; exact absurd h1 (u8_irr _)
    · by_cases h2 : b < a
      · simp only [h1, h2, if_true, if_false]
        constructor
        · intro h; omega
        · intro h; cases h; exact absurd h2 (u8_irr _)
      · simp only [h1, h2, if_false, cmpB_eq_zero]
        have := u8_eq h1 h2
        subst this
        simp

theorem cmpB_neg : ∀ (x y : List UInt8), cmpB y x = - cmpB x y
  | [], [] => rfl
  | [], _ :: _ => rfl
  | _ :: _, [] => rfl
  | a :: x, b :: y => by
    unfold cmpB
    by_cases h1 : a < b
    · simp only [h1, u8_asymm h1, if_true, if_false]; rfl
    · by_cases h2 : b < a
      · simp only [h1, h2, if_true, if_false]
      · simp only [h1, h2, if_false]; exact cmpB_neg x y

theorem bytesLess_cmpB : ∀ (x y : List UInt8), Op.bytesLess x y = decide (cmpB x y < 0)
  | [], [] => rfl
  | [], _ :: _ => rfl
  | _ :: _, [] => rfl
  | a :: x, b :: y => by
    unfold Op.bytesLess cmpB
    by_cases h1 : a < b
    · simp [h1]
    · by_cases h2 : b < a
      · have : a ≠ b := by rintro rfl; exact u8_irr _ h2
        simp [h1, h2, this]
      · have := u8_eq h1 h2
        subst this
        simp [h1, bytesLess_cmpB x y]

theorem cmpB_trans : ∀ {x y z : List UInt8}, cmpB x y < 0 → cmpB y z < 0 → cmpB x z < 0
  | [], [], _, h, _ => by simp [cmpB] at h
  | [], _ :: _, [], _, h => by simp [cmpB] at h
  | [], _ :: _, _ :: _, _, _ => by simp [cmpB]
  | _ :: _, [], _, h, _ => by simp [cmpB] at h
  | _ :: _, _ :: _, [], _, h => by simp [cmpB] at h
  | a :: x, b :: y, c :: z, h, h' => by
    unfold cmpB at h h' ⊢
    by_cases h1 : a < b
    · by_cases h2 : b < c
      · simp [u8_trans h1 h2]
      · by_cases h3 : c < b
        · simp [h2, h3] at h'
        · have := u8_eq h2 h3
          subst this
          simp [h1]
    · by_cases h4 : b < a
      · simp [h1, h4] at h
      · have := u8_eq h1 h4
        subst this
        simp only [h1, if_false] at h
        by_cases h2 : a < c
        · simp [h2]
        · by_cases h3 : c < a
          · simp [h2, h3] at h'
          · simp only [h2, h3, if_false] at h' ⊢
            exact cmpB_trans h h'

theorem cmpB_range (x y : List UInt8) : cmpB x y = -1 ∨ cmpB x y = 0 ∨ cmpB x y = 1 := by
  induction x generalizing y with
  | nil => cases y <;> simp [cmpB]
  | cons a x ih =>
    cases y with
    | nil => simp [cmpB]
    | cons b y =>
      unfold cmpB
      split
      · simp
      · split
        · simp
        · exact ih y

theorem find_range_cmp : ∀ (x y : List UInt8), (match (List.range (min x.length y.length)).find? (fun i => x[i]! != y[i]!) with
    | some i => if x[i]! < y[i]! then (-1 : Int) else 1
    | none => if x.length < y.length then -1 else if x.length > y.length then 1 else 0) = cmpB x y
  | [], [] => rfl
  | [], _ :: _ => by simp [cmpB]
  | _ :: _, [] => by simp [cmpB]
  | a :: x, b :: y => by
    have ih := find_range_cmp x y
    have hm : min (a :: x).length (b :: y).length = min x.length y.length + 1 := by simp only [List.length_cons]; omega
    rw [hm, List.range_succ_eq_map, List.find?_cons]
    unfold cmpB
    by_cases hab : a = b
    · subst hab
      have h0 : ((a :: x)[0]! != (a :: y)[0]!) = false := by simp
      rw [h0]
      simp only [u8_irr, if_false]
      rw [← ih, List.find?_map]
      have hc : ((fun i => (a :: x)[i]! != (a :: y)[i]!) ∘ Nat.succ) = fun i => x[i]! != y[i]! := by
        funext i; simp
      rw [hc]
      cases (List.range (min x.length y.length)).find? fun i => x[i]! != y[i]! with
      | none => simp
      | some i => simp
    · have h0 : ((a :: x)[0]! != (b :: y)[0]!) = true := by simpa using hab
      rw [h0]
      by_cases h1 : a < b
      · simp [h1]
      · have h2 : b < a := by
          apply Classical.byContradiction
          intro h2
          exact hab (u8_eq h1 h2)
        simp [h1, h2]

theorem cmp_str (x y : List UInt8) : Extern.BytealgCompare.cmp (str x) (str y) = cmpB x y := by
  rw [← find_range_cmp]
  unfold Extern.BytealgCompare.cmp
  have hg : ∀ (l : List UInt8) (i : Nat), (str l)[i]! = l[i]! := by
    intro l i
    by_cases hi : i < l.length
    · have h1 : i < (str l).size := by rw [str_size]; exact hi
      rw [getElem!_pos (str l) i h1, getElem!_pos l i hi]
      rfl
    · have h1 : ¬ i < (str l).size := by rw [str_size]; exact hi
      rw [getElem!_neg (str l) i h1, getElem!_neg l i hi]
  simp only [hg, str_size]
  rfl

theorem loadBytes_run {a : Addr} : ∀ (bs : List UInt8) (o : Nat) (acc : ByteArray) (b : Nat), (∀ i v, (bs.map bv)[i]? = some v → w.cell? ⟨b, o + i, none⟩ = some v) →
    (Extern.Bytes.loadBytes ⟨b, o, none⟩ bs.length acc).run P w = .ok ⟨acc.data ++ bs.toArray⟩ w
  | [], o, acc, b, _ => by simp [Extern.Bytes.loadBytes]
  | x :: r, o, acc, b, h => by
    have h0 : w.cell? ⟨b, o, none⟩ = some (bv x) := by simpa using h 0 _ rfl
    have ih := loadBytes_run (a := a) r (o + 1) (acc.push x) b (fun i v hv => by
      have := h (i + 1) v hv
      rwa [show o + 1 + i = o + (i + 1) by omega])
    unfold Extern.Bytes.loadBytes
    simp only [List.length_cons, Sem.run_bind, run_load_some h0, Result.andThen, bv, add_plain]
    have e : ((x.toNat : Int)).toNat.toUInt8 = x := by simp
    rw [e, ih]
    congr 1
    congr 1
    apply Array.toList_inj.1
    simp [ByteArray.push]

theorem Bytes.of {s : Sl} {bs : List UInt8} (h : Bytes Γ s bs) (hw : Sat Γ L w) : (Extern.Bytes.bytesOf (.slice s.p s.len s.cap)).run P w = .ok (str bs) w := by
  have hl := h.len
  by_cases hn : s.len = 0
  · have hb : bs = [] := List.eq_nil_of_length_eq_zero (by omega)
    subst hb
    cases hp : s.p with
    | none => rfl
    | some a => simp only [hn]; rfl
  · obtain ⟨b, o, c, T, z, h1, h2, h3⟩ := Fz.at_ h hn
    rw [h1, hl]
    show (Extern.Bytes.loadBytes _ _ _).run P w = _
    rw [loadBytes_run (a := ⟨b, o, none⟩) bs o .empty b (fun i v hv => by rw [cell_of (hw.frozen h2)]; exact h3 i v hv)]
    simp [str]

theorem compare_run {s t : Sl} {x y : List UInt8} (hx : Bytes Γ s x) (hy : Bytes Γ t y) (hw : Sat Γ L w) :
    (Extern.BytealgCompare.compare #[.slice s.p s.len s.cap, .slice t.p t.len t.cap]).run P w = .ok (.int .i64 (cmpB x y)) w := by
  show (do pure (goInt (Extern.BytealgCompare.cmp (← Extern.Bytes.bytesOf (.slice s.p s.len s.cap)) (← Extern.Bytes.bytesOf (.slice t.p t.len t.cap)))) : Sem Value).run P w = _
  simp only [Sem.run_bind, hx.of hw, hy.of hw, Result.andThen, Sem.run_pure, cmp_str, goInt]

/-- a call of a function without a text of its own, whose answer the model gives -/
theorem prim_extern {f : FuncId} {fn : Func} {e : Array Value → Sem Value} {args : Array Value} {r : Rs} {K : r.T → World → Prop} (hN : NoNG P) (hf : P.funcs[f]? = some fn) (hb : fn.body.isNone = true)
    (hn : Extern.findNext fn = none) (he : Extern.find fn = some e) {x : r.T} (hr : (e args).run P w = .ok (r.v x) w') (k : K x w') :
    Prim P (callFunc f args >>= fun n => match n with | .value v => pure v | _ => stuck "no value") r K w := by
  refine ⟨x, w', ?_, k⟩
  rw [Sem.run_bind, run_callFunc_standIn hf (hN.at hf) hb hn he, hr]
  rfl

end Go.Proofs.Ytohoimokfgfceaa.K
