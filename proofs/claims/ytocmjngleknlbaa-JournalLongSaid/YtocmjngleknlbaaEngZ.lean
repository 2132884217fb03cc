/-
  From a walk to a statement: what arguments are read as, and that a law's call leaves all as it was.
-/
import Derived.Test.YtocmjngleknlbaaEngN
import Derived.Test.YtocmjngleknlbaaRows
import Derived.ProofKit
import Derived.OpenShut
import Derived.WideKeyArgs
import Derived.ChangeCalls
import Derived.DataReads
import Derived.JoinedOf
namespace Go.Proofs.Ytocmjngleknlbaa.K
open Go Go.Proofs Go.ChangeShapes Go.WideShapes Go.ChangeAt Go.RowKit
variable {Γ Γ' : Mem} {L L' : List HP} {w w' : World}
set_option maxRecDepth 100000

/-- nothing that was there has turned -/
def Kept (W w' : World) : Prop := anc w' = anc W ∧ W.heap.size ≤ w'.heap.size ∧ ∀ k, k < W.heap.size → w'.heap[k]? = W.heap[k]?

theorem Kept.keptBut {W w' : World} (h : Kept W w') (may : MemPlace → Prop) : W.keptBut w' may := by
  obtain ⟨h1, h2, h3⟩ := h
  have e : (w'.os, w'.tape, w'.output) = (W.os, W.tape, W.output) := h1
  simp only [Prod.mk.injEq] at e
  refine ⟨e.1, e.2.2, fun i hi => ?_⟩
  rw [h3 i hi]
  split
  · rename_i c t fr c' t' fr' h4 h5
    rw [h4] at h5
    cases h5
    exact ⟨rfl, rfl, rfl, fun _ _ => rfl⟩
  · rename_i es cl es' cl' h4 h5
    rw [h4] at h5
    cases h5
    exact .inr ⟨rfl, rfl⟩
  · rfl

theorem Kept.same {W w' : World} (h : Kept W w') {p : MemPlace} (hp : p.block < W.heap.size) : W.sameAt w' p := by
  cases p with
  | cell b off =>
    have hp : b < W.heap.size := hp
    show w'.cell? ⟨b, off, none⟩ = W.cell? ⟨b, off, none⟩
    simp only [World.cell?, h.2.2 b hp]
  | map b => exact h.2.2 b hp

theorem trodAll_kept {P : Program} {H : Type} {enc : TypeId × Value → H} {W w' : World} {sp : Nat → Bool} (hl : laidOutB P = true) : ∀ {ts : List TypeId} {vs : List Value} {ds : List (DataW H)} {ps : List MemPlace},
    (∀ t ∈ ts, P.readableRec t = true ∧ t < P.types.size) → DataW.TrodAll enc P W 0 (fun _ => true) true ts vs ds ps → (∀ p ∈ ps, W.sameAt w' p) → (∀ p ∈ ps, sp p.block = true) →
    DataW.TrodAll enc P w' 0 sp true ts vs ds ps
  | [], [], [], _, _, h, _, _ => h
  | [], _ :: _, _, _, _, h, _, _ => h.elim
  | [], [], _ :: _, _, _, h, _, _ => h.elim
  | _ :: _, [], _, _, _, h, _, _ => h.elim
  | _ :: _, _ :: _, [], _, _, h, _, _ => h.elim
  | t :: ts, v :: vs, d :: ds, ps, hp, ⟨p, q, h1, h2, he⟩, hs, hb => by
    subst he
    obtain ⟨r1, r2⟩ := hp t (by simp)
    exact ⟨p, q, WideElems.Trod_stays hl r1 r2 h1 (fun x hx => hs x (by simp [hx])) (fun x hx => hb x (by simp [hx])),
      trodAll_kept hl (fun u hu => hp u (by simp [hu])) h2 (fun x hx => hs x (by simp [hx])) (fun x hx => hb x (by simp [hx])), rfl⟩

theorem own_ : ownKnob Try.prog.godebug = none := by kernel_rfl
theorem laid_ : laidOutB Try.prog = true := by kernel_rfl
theorem bool_ : Try.prog.underlying 4 = some .bool := by kernel_rfl

/-- a law whose call is shown holds -/
theorem law_lifted {f : FuncId} {fn : Func} {s : ChangeSpec} {os : Os} (started : os.Started) {H : Type} {enc : TypeId × Value → H} (hf : Try.prog.funcs[f]? = some fn) (hi : Try.prog.inits.idxOf? f = none)
    (hv : s.vars = []) (hs : ∀ ds : List (DataW H), ds.length = fn.params.size → s.fn H ds = { results := [.lit (.bool true)], args := ds }) (hr : fn.resultTypes = #[4])
    (hp : ∀ t ∈ fn.params.toList, Try.prog.readableRec t = true ∧ t < Try.prog.types.size)
    (wit : ∃ (w : World) (tape : Tape) (i : Input), w.os = os ∧ (w.forCall tape i).Shaped Try.prog ∧ i.vars = [] ∧ Input.okWide Try.prog (w.forCall tape i) .any w.heap.size f i ∧
      s.pre6 enc Try.prog fn [] false (w.forCall tape i).memory i.args ∧ ({} : Assume).holds Try.prog (lone (Frame.enter Try.prog f i.args .normal) [] (w.forCall tape i)))
    (walk : ∀ (W : World) (base : Nat) (vs : List Value) (ds : List (DataW H)) (ps : List MemPlace), (∀ (j : Nat) (t : TypeId) (v : Value), fn.params.toList[j]? = some t → vs[j]? = some v → Value.okWide Try.prog W .any base t v) → DataW.TrodAll enc Try.prog W 0 (fun _ => true) true fn.params.toList vs ds ps →
      CallP Try.prog f vs (.one (.s .bool)) (fun b w' => b = true ∧ Kept W w') W) :
    ReturnsInHanded {} Try.checked os f .any (s.pre6 enc Try.prog fn [] false) (s.post enc Try.prog fn false true false false) := by
  refine returnsInHanded_of_change (C := Try.checked) own_ started hi hf wit ?_
  intro W base args ds gs before hval hW _ _
  have hW' := hW
  obtain ⟨p, q, hA, hV, rfl, hfz, hnd⟩ := hW
  have hA : DataW.TrodAll enc Try.prog W 0 (fun _ => true) true fn.params.toList args.toList ds p := hA
  rw [hv] at hV
  obtain ⟨rfl, rfl⟩ := trodVars_none hV
  simp only [List.append_nil] at hW'
  have hc := (walk W base args.toList ds p (fun j t v h1 h2 => hval j t v (by simpa using h1) (by simpa using h2)) hA).out
  have ea : args.toList.toArray = args := by simp
  rw [ea] at hc
  refine Calls.mono hc ?_
  rintro e w' ⟨x, rfl, hx, hk⟩
  subst hx
  refine ⟨_, rfl, ?_⟩
  have hlt : ∀ x ∈ p, x.block < W.heap.size := fun x hx => hW'.lt x hx
  have hlen : ds.length = fn.params.size := by
    have := (trodAll_length hA).2
    simpa using this
  have e1 : s.fn H (ds ++ []) = { results := [.lit (.bool true)], args := ds } := by rw [List.append_nil]; exact hs ds hlen
  refine ⟨ds, [], p, [], p, [], hW', ?_, ?_, ?_, World.keptBut_mono (fun x hx => ⟨hx, .inr (.inl hx)⟩) (hk.keptBut _), fun h => by cases h⟩
  · rw [e1, hr]
    exact trodAll_mk1 (shut_bool bool_ _)
  · rw [e1]
    exact trodAll_kept laid_ hp hA (fun x hx => hk.same (hlt x hx)) (fun x hx => by simpa using hlt x hx)
  · rw [e1, hv]
    rfl

/-- from a walk over any memory -/
theorem law_walk {f : FuncId} {vs : List Value} {W : World} (h : ∀ {K : Bool → World → Prop}, (∀ Γ' w', (Mem.all W).le Γ' → Sat Γ' [] w' → K true w') → CallP Try.prog f vs (.one (.s .bool)) K W) :
    CallP Try.prog f vs (.one (.s .bool)) (fun b w' => b = true ∧ Kept W w') W :=
  h fun _ _ hl hs => ⟨rfl, hs.done hl⟩

/-! ### what arguments are read as -/

section
variable {α β : Type}

/-- cells that are read as this type's are a thing of this kind -/
structure Reads (E : Enc α) (t : TypeId) : Prop where
  out : ∀ {H : Type} {enc : TypeId × Value → H} {W : World} {n : Nat} {cs : List Value} {x : DataW H × List MemPlace}, DataW.trod enc Try.prog W 0 (fun _ => true) true n t cs = some x → ∃ y a, cs = E.sh.cells y ∧ E.r (Mem.all W) y a

/-- a number of its kind -/
def eInt' (k : IntKind) : Enc Int := ⟨.s (.int k), fun _ n b => n = b ∧ (Lit.int k b).wf = true, fun h _ => h, fun _ v hv => by simp [Sh.cells] at hv; subst hv; rfl⟩
/-- a text of a length that an int holds -/
def eStr' : Enc (List UInt8) := ⟨.s .str, fun _ n b => n = str b ∧ b.length ≤ 9223372036854775807, fun h _ => h, fun _ v hv => by simp [Sh.cells] at hv; subst hv; rfl⟩

theorem Reads.int {k : IntKind} {t : TypeId} (ht : Try.prog.underlying t = some (.int k)) : Reads (eInt' k) t := ⟨fun h => by
  obtain ⟨n, h1, _, h2⟩ := DataW.trod_int ht h
  exact ⟨n, n, h1, rfl, h2⟩⟩

theorem Reads.byte {t : TypeId} (ht : Try.prog.underlying t = some (.int .u8)) : Reads eByte t := ⟨fun h => by
  obtain ⟨n, h1, _, h2⟩ := DataW.trod_int ht h
  have h3 : 0 ≤ n ∧ n < 256 := by
    simp only [Lit.wf, Bool.and_eq_true, decide_eq_true_eq] at h2
    have e1 : IntKind.u8.min = 0 := by decide
    have e2 : IntKind.u8.max = 255 := by decide
    rw [e1, e2] at h2
    omega
  have h4 : ((UInt8.ofNat n.toNat).toNat : Int) = n := by
    rw [UInt8.toNat_ofNat']
    omega
  exact ⟨n, UInt8.ofNat n.toNat, h1, h4.symm⟩⟩

theorem Reads.bool {t : TypeId} (ht : Try.prog.underlying t = some .bool) : Reads eBool t := ⟨fun h => by
  obtain ⟨b, h1, _⟩ := DataW.trod_bool ht h
  exact ⟨b, b, h1, rfl⟩⟩

theorem Reads.str {t : TypeId} (ht : Try.prog.underlying t = some .string) : Reads eStr' t := ⟨fun h => by
  obtain ⟨s, h1, _, h2⟩ := DataW.trod_string ht h
  refine ⟨s, s.data.toList, h1, rfl, ?_⟩
  have e : s.data.toList.length = s.size := by simp
  rw [e]
  exact h2⟩

theorem maxLen_ : maxLen = 9223372036854775807 := by unfold maxLen; decide

theorem range_mapM {γ : Type} {f : Nat → Option γ} {n : Nat} {l : List γ} (h : (List.range n).mapM f = some l) : l.length = n ∧ ∀ i, i < n → f i = l[i]? := by
  refine ⟨by simpa using mapM_some_length h, fun i hi => ?_⟩
  exact mapM_some_get h i i (by simp [hi])

theorem Reads.list {E : Enc α} {t e : TypeId} (hE : Reads E e) (ht : Try.prog.underlying t = some (.slice e)) (hz : Try.prog.cellsOf e = E.sh.sz) (h0 : 0 < E.sh.sz := by decide) : Reads (eList E) t := ⟨fun {H enc W n cs x} h => by
  rcases DataW.trod_slice ht h with ⟨rfl, _⟩ | ⟨a, len, cap, elems, rest, m, rfl, rfl, _, _, hlc, hcap, hel, hat, _, _⟩
  · exact ⟨⟨none, 0, 0⟩, [], rfl, Lst.nil _ _⟩
  · rw [maxLen_] at hcap
    have hsmall : len ≤ 9223372036854775807 := Nat.le_trans hlc hcap
    clear hcap
    refine ⟨⟨some a, len, cap⟩, ?_⟩
    have h1 : ∀ i, i < len → ∃ y x, (∀ j v, (E.sh.cells y)[j]? = some v → W.cell? ((a.add (i * E.sh.sz)).add j) = some v) ∧ E.r (Mem.all W) y x := fun i hi => by
      have h2 := hat i hi
      rw [List.getElem?_eq_getElem (by omega), hz] at h2
      obtain ⟨cs, h3, h4⟩ := Option.bind_eq_some_iff.1 h2
      obtain ⟨y, x, rfl, hr⟩ := hE.out h4
      refine ⟨y, x, fun j v hv => ?_, hr⟩
      unfold World.cells? at h3
      rw [if_pos (Nat.zero_le _)] at h3
      obtain ⟨h5, h6⟩ := range_mapM h3
      have hj : j < E.sh.sz := by rw [← h5]; exact (List.getElem?_eq_some_iff.1 hv).1
      rw [h6 j hj]
      exact hv
    have h2 : ∃ (ys : List E.sh.T) (xs : List α), ys.length = len ∧ All2 (E.r (Mem.all W)) ys xs ∧ ∀ i y, ys[i]? = some y → ∀ j v, (E.sh.cells y)[j]? = some v → W.cell? ((a.add (i * E.sh.sz)).add j) = some v := by
      have : ∀ k, k ≤ len → ∃ (ys : List E.sh.T) (xs : List α), ys.length = k ∧ All2 (E.r (Mem.all W)) ys xs ∧ ∀ i y, ys[i]? = some y → ∀ j v, (E.sh.cells y)[j]? = some v → W.cell? ((a.add (i * E.sh.sz)).add j) = some v := by
        intro k
        induction k with
        | zero => intro _; exact ⟨[], [], rfl, .nil, fun i y h => by simp at h⟩
        | succ k ih =>
          intro hk
          obtain ⟨ys, xs, e1, e2, e3⟩ := ih (by omega)
          obtain ⟨y, x, h3, h4⟩ := h1 k (by omega)
          refine ⟨ys ++ [y], xs ++ [x], by simp [e1], e2.snoc h4, fun i z hz => ?_⟩
          by_cases hi : i < ys.length
          · rw [List.getElem?_append_left hi] at hz
            exact e3 i z hz
          · rw [List.getElem?_append_right (by omega)] at hz
            have : i = k := by
              have := (List.getElem?_eq_some_iff.1 hz).1
              simp at this
              omega
            subst this
            rw [e1, Nat.sub_self] at hz
            have hz : y = z := by simpa using hz
            subst hz
            exact h3
      exact this len (Nat.le_refl _)
    obtain ⟨ys, xs, e1, e2, e3⟩ := h2
    refine ⟨xs, rfl, ys, ⟨?_, hlc, hsmall, fun hn => ?_⟩, e2⟩
    · show (ys.flatMap E.sh.cells).length = len * E.sh.sz
      rw [flatMap_length E.sh.cells_len, e1]
    · have hn : len ≠ 0 := hn
      -- the first cell tells the place
      obtain ⟨y0, hy0⟩ := get_lt (xs := ys) (i := 0) (by rw [e1]; exact Nat.pos_of_ne_zero hn)
      obtain ⟨c0, hc0⟩ := get_lt (xs := E.sh.cells y0) (i := 0) (by rw [E.sh.cells_len]; exact h0)
      have h3 := e3 0 _ hy0 0 _ hc0
      obtain ⟨b, o, sp⟩ := a
      simp only [Addr.add, Nat.zero_mul, if_true] at h3
      simp only [World.cell?] at h3
      split at h3
      · rename_i c T z hb
        cases sp with
        | some q => simp at h3
        | none =>
          refine ⟨b, o, c, T, z, rfl, hb, fun i v hv => ?_⟩
          have hi : i < len * E.sh.sz := by
            have := (List.getElem?_eq_some_iff.1 hv).1
            rwa [flatMap_length E.sh.cells_len, e1] at this
          have hq : i / E.sh.sz < len := Nat.div_lt_of_lt_mul (by rw [Nat.mul_comm]; exact hi)
          have hm : i % E.sh.sz < E.sh.sz := Nat.mod_lt _ h0
          obtain ⟨yq, hyq⟩ := get_lt (xs := ys) (i := i / E.sh.sz) (by rw [e1]; exact hq)
          have hdm : i / E.sh.sz * E.sh.sz + i % E.sh.sz = i := by rw [Nat.mul_comm]; exact Nat.div_add_mod _ _
          have h4 := flatMap_get E.sh.cells_len ys (i / E.sh.sz) (i % E.sh.sz) _ hyq hm
          rw [hdm, hv] at h4
          have h5 := e3 _ _ hyq _ _ h4.symm
          rw [add_plain, add_plain, cell_of hb, Nat.add_assoc, hdm] at h5
          exact h5
      · cases h3⟩

theorem Reads.bytes {t e : TypeId} (ht : Try.prog.underlying t = some (.slice e)) (he : Try.prog.underlying e = some (.int .u8)) (hz : Try.prog.cellsOf e = 1) : Reads eBytes t := ⟨fun h => by
  obtain ⟨y, a, h1, h2⟩ := (Reads.list (E := eByte) (Reads.byte he) ht hz).out h
  exact ⟨y, a, h1, Lst.bytes h2⟩⟩

/-- the fields of a struct, with their places -/
def fieldsOf (P : Program) (t : TypeId) : List (TypeId × Nat) := match P.underlying t with
  | some (.struct fs) => fs.toList.map fun f => (f.type, f.offset)
  | _ => []

theorem struct_reads {t : TypeId} {l : List (TypeId × Nat)} (hl : fieldsOf Try.prog t = l) (hne : l ≠ []) {H : Type} {enc : TypeId × Value → H} {W : World} {n : Nat} {cs : List Value} {x : DataW H × List MemPlace}
    (h : DataW.trod enc Try.prog W 0 (fun _ => true) true n t cs = some x) : cs.length = Try.prog.cellsOf t ∧ ∃ m : Nat, ∀ (i : Nat) (tf : TypeId) (off : Nat), l[i]? = some (tf, off) → ∃ y, DataW.trod enc Try.prog W 0 (fun _ => true) true m tf ((cs.drop off).take (Try.prog.cellsOf tf)) = some y := by
  unfold fieldsOf at hl
  split at hl
  · rename_i fs hfs
    obtain ⟨xs, m, _, _, hlen, hxl, hat⟩ := DataW.trod_struct hfs h
    refine ⟨hlen, m, fun i tf off hi => ?_⟩
    rw [← hl, List.getElem?_map] at hi
    cases hf : fs.toList[i]? with
    | none => rw [hf] at hi; cases hi
    | some f =>
      rw [hf] at hi
      cases hi
      have hf' : fs[i]? = some f := by simpa using hf
      have hil : i < xs.length := by
        rw [hxl]
        have := (List.getElem?_eq_some_iff.1 hf).1
        simpa using this
      refine ⟨xs[i], ?_⟩
      rw [hat i f hf', List.getElem?_eq_getElem hil]
  · exact absurd hl.symm hne
end

/-- a value that is one cell -/
theorem okS {W : World} {base : Nat} {t : TypeId} {v : Value} (hu : (match Try.prog.underlying t with | some (.struct _) => false | some (.array _ _) => false | some (.interface _) => false | some _ => true | none => false) = true)
    (h : Value.okWide Try.prog W .any base t v) : v.cells = #[v] := by
  unfold Value.okWide at h
  cases hd : Try.prog.underlying t with
  | none => rw [hd] at hu; cases hu
  | some d =>
    rw [hd] at hu h
    cases v with
    | agg cs => cases d <;> simp_all [Cell.okWide, Cell.ok]
    | _ => rfl

theorem okA {W : World} {base : Nat} {t : TypeId} {v : Value} (hu : isAggB Try.prog t = true) (h : Value.okWide Try.prog W .any base t v) : ∃ cs, v = .agg cs := by
  unfold Value.okWide at h
  unfold isAggB at hu
  split at hu
  · rename_i fs hd
    rw [hd] at h
    obtain ⟨cs, h1, _⟩ := h
    exact ⟨cs, h1⟩
  · rename_i n e hd
    rw [hd] at h
    obtain ⟨cs, h1, _⟩ := h
    exact ⟨cs, h1⟩
  · cases hu

/-- an argument of one cell -/
theorem argS {α : Type} {E : Enc α} {W : World} {base : Nat} {t : TypeId} {v : Value} {H : Type} {enc : TypeId × Value → H} {d : DataW H} {p : List MemPlace} (hE : Reads E t) (hok : Value.okWide Try.prog W .any base t v)
    (h : DataW.Trod enc Try.prog W 0 (fun _ => true) true t v d p) (hu : (match Try.prog.underlying t with | some (.struct _) => false | some (.array _ _) => false | some (.interface _) => false | some _ => true | none => false) = true := by kernel_rfl) :
    ∃ y a, [v] = E.sh.cells y ∧ E.r (Mem.all W) y a := by
  obtain ⟨n, h⟩ := h
  rw [okS hu hok] at h
  exact hE.out h

/-- an argument of several -/
theorem argA {α : Type} {E : Enc α} {W : World} {base : Nat} {t : TypeId} {v : Value} {H : Type} {enc : TypeId × Value → H} {d : DataW H} {p : List MemPlace} (hE : Reads E t) (hok : Value.okWide Try.prog W .any base t v)
    (h : DataW.Trod enc Try.prog W 0 (fun _ => true) true t v d p) (hu : isAggB Try.prog t = true := by kernel_rfl) :
    ∃ y a, v = .agg (E.sh.cells y).toArray ∧ E.r (Mem.all W) y a := by
  obtain ⟨cs, rfl⟩ := okA hu hok
  obtain ⟨n, h⟩ := h
  obtain ⟨y, a, h1, h2⟩ := hE.out h
  refine ⟨y, a, ?_, h2⟩
  rw [← h1]
  simp [Value.cells]

/-! ### the head of the dump, word by word -/

theorem toList_of {s : String} {l : List Char} (h : s = String.ofList l) : s.toList = l := by rw [h]; exact String.toList_ofList
theorem cut_of {P : Program} (h : (behindMainWord (wordsSigns P.initOrder.toList)).head? = some "cut".toList) : ∃ rest, behindMainWord (wordsSigns P.initOrder.toList) = "cut".toList :: rest := by
  cases hb : behindMainWord (wordsSigns P.initOrder.toList) with
  | nil => rw [hb] at h; cases h
  | cons c rest => rw [hb] at h; cases h; exact ⟨rest, rfl⟩
theorem strip_cut (rest : List (List Char)) : stripLifts liftWords ("cut".toList :: rest) = ([], "cut".toList :: rest) := by
  rfl
theorem make_of {P : Program} (h : (behindMainWord (wordsSigns P.initOrder.toList)).head? = some "cut".toList) : P.make = some .cut := by
  obtain ⟨rest, h⟩ := cut_of h
  unfold Program.make
  rw [h]
  rfl
theorem lifts_of {P : Program} (h : (behindMainWord (wordsSigns P.initOrder.toList)).head? = some "cut".toList) : P.liftsFinal = false := by
  obtain ⟨rest, h⟩ := cut_of h
  unfold Program.liftsFinal Program.headLifts
  rw [h, strip_cut]
  rfl
theorem enter_of {P : Program} (h : (behindMainWord (wordsSigns P.initOrder.toList)).head? = some "cut".toList) (h1 : P.laysLater = false) (h2 : P.bearsReflect = false) (h3 : P.doorFits [] = true) : P.mayEnter = true := by
  obtain ⟨rest, h⟩ := cut_of h
  unfold Program.mayEnter
  rw [h]
  simp only [strip_cut, h1, h2, h3]
  rfl
theorem head_ : (behindMainWord (wordsSigns Try.prog.initOrder.toList)).head? = some "cut".toList := by
  rw [toList_of (s := Try.prog.initOrder) rfl]
  kernel_rfl
theorem make_ : Try.prog.make = some .cut := make_of head_
theorem lifts_ : Try.prog.liftsFinal = false := lifts_of head_
theorem enter_ : Try.prog.mayEnter = true := enter_of head_ (by kernel_rfl) (by kernel_rfl) (by kernel_rfl)

end Go.Proofs.Ytocmjngleknlbaa.K
