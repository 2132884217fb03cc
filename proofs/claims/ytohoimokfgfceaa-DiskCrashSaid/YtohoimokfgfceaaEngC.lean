/-
  What the plain meaning tells holds of the model's runs: operations that read alone.
-/
import Derived.Test.YtohoimokfgfceaaEngB
import Derived.Laws.Small
import Derived.Laws.Slices
import Derived.Laws.Pointers
import Derived.Laws.Cover3
import Derived.Laws.Strings
import Derived.Laws.Build
import Derived.WalkSpells
namespace Go.Proofs.Ytohoimokfgfceaa.K
open Go

theorem ofV1_v {v : Value} {x : S1} (h : ofV1 v = some x) : x.v = v := by
  cases v <;> simp only [ofV1] at h <;> first
    | (cases h; done)
    | (cases h; simp [S1.v]; done)
    | (rename_i a; cases a <;> simp only at h <;> cases h <;> rfl)

theorem ofVs_v : ∀ {l : List Value} {x : List S1}, ofVs l = some x → x.map S1.v = l
  | [], x, h => by simp only [ofVs] at h; cases h; rfl
  | v :: r, x, h => by
    simp only [ofVs] at h
    split at h
    · rename_i a b ha hb
      cases h
      simp [ofV1_v ha, ofVs_v hb]
    · cases h

theorem ofV_v {v : Value} {x : SV} (h : ofV v = some x) : x.v = v := by
  unfold ofV at h
  split at h
  · rename_i cs
    split at h
    · rename_i l hl
      cases h
      simp [SV.v, ofVs_v hl]
    · cases h
  · split at h
    · rename_i y hy
      cases h
      exact ofV1_v hy
    · cases h

theorem Fr.get_nil (i : Nat) : Fr.get [] i = none := rfl

theorem Fr.get_cons (fr : Fr) (i j : Nat) (v : Option SV) : Fr.get ((j, v) :: fr) i = if i = j then v else fr.get i := by
  show (match Nat.beq i j with | true => v | false => fr.get i) = _
  by_cases h : i = j
  · subst h; simp
  · have : Nat.beq i j = false := by
      cases hb : Nat.beq i j
      · rfl
      · exact absurd (Nat.eq_of_beq_eq_true hb) h
    rw [if_neg h, this]

theorem Agrees.cons {fr : Fr} {a : Array Value} (h : Agrees fr a) {i : Nat} {v : Option SV} (hv : ∀ sv, v = some sv → a[i]? = some sv.v) : Agrees ((i, v) :: fr) a := by
  intro j s hj
  rw [Fr.get_cons] at hj
  split at hj
  · rename_i hc; subst hc; exact hv s hj
  · exact h j s hj

theorem Agrees.put {fr : Fr} {a : Act} (h : Agrees fr a.tmps) (d : Option Tmp) (v : SV) (hd : ∀ x, d = some x → x < a.tmps.size) : Agrees (fr.put d v) (a.put d v.v).tmps := by
  cases d with
  | none => exact h
  | some d =>
    intro i sv hi
    simp only [Fr.put, Fr.get_cons] at hi
    simp only [Act.put]
    split at hi
    · rename_i hc
      cases hi
      subst hc
      rw [Array.getElem?_setIfInBounds_self_of_lt (hd _ rfl)]
    · rename_i hc
      rw [Array.getElem?_setIfInBounds_ne (by omega)]
      exact h i sv hi

theorem Agrees.set {fr : Fr} {a : Array Value} (h : Agrees fr a) (i : Nat) {sv sv' : SV} (hi : fr.get i = some sv) (hv : sv'.v = sv.v) : Agrees (fr.set i (some sv')) a :=
  h.cons fun s hs => by cases hs; rw [hv]; exact h i sv hi

theorem ev_eval {fr : Fr} {a : Act} (h : Agrees fr a.tmps) {x : Operand} {sv : SV} (hx : ev fr x = some sv) : a.eval x = sv.v := by
  cases x with
  | tmp t =>
    have := h t sv hx
    simp [Act.eval, this]
  | const v => exact (ofV_v hx).symm
  | global g => simp only [ev] at hx; cases hx; rfl
  | func f => simp only [ev] at hx; cases hx; rfl

theorem evs_eval {fr : Fr} {a : Act} (h : Agrees fr a.tmps) : ∀ {l : List Operand} {svs : List SV}, evs fr l = some svs → l.map a.eval = svs.map SV.v
  | [], _, hx => by simp only [evs] at hx; cases hx; rfl
  | x :: r, _, hx => by
    simp only [evs] at hx
    split at hx
    · rename_i s t hs ht
      cases hx
      simp [ev_eval h hs, evs_eval h ht]
    · cases hx

theorem evP_eval {fr : Fr} {a : Act} (h : Agrees fr a.tmps) : ∀ {l : List (Nat × Operand)} {svs : List (Nat × SV)}, evP fr l = some svs → l.map (fun p => (p.1, a.eval p.2)) = svs.map fun p => (p.1, p.2.v)
  | [], _, hx => by simp only [evP] at hx; cases hx; rfl
  | (i, x) :: r, _, hx => by
    simp only [evP] at hx
    split at hx
    · rename_i s t hs ht
      cases hx
      simp [ev_eval h hs, evP_eval h ht]
    · cases hx

theorem Sc.mk_v (s : Sc) (x : s.T) : (s.mk x).v = s.v x := by cases s <;> rfl

theorem ScsMk_v : ∀ (l : List Sc) (x : ScsT l), (ScsMk l x).map S1.v = ScsV l x
  | [], _ => rfl
  | [s], x => by simp [ScsMk, ScsV, Sc.mk_v]
  | s :: t :: r, x => by simp [ScsMk, ScsV, Sc.mk_v, ScsMk_v (t :: r) x.2]

theorem ScsV_length : ∀ (l : List Sc) (x : ScsT l), (ScsV l x).length = l.length
  | [], _ => rfl
  | [s], x => rfl
  | s :: t :: r, x => by simp [ScsV, ScsV_length (t :: r) x.2]

theorem S2.sv_v (x : S2) : x.sv.v = x.v := by cases x <;> rfl

/-- what an operation of this kind does -/
abbrev Runs (P : Program) (S : World → Prop) (o : Oper) (a : Act) (v : Value) : Prop := ∀ w, S w → (execOp a.eval o).run P w = .ok (.value v) w

theorem run_pureValue {P : Program} {w : World} {v : Value} {s : Sem Value} (h : s.run P w = .ok v w) : (do let x ← s; pure (Next.value x) : Sem Next).run P w = .ok (.value v) w := by
  simp [h, Result.andThen]

theorem kB_some {K : SV → Prop} {b : Option Bool} (h : kB K b) : ∃ c, b = some c ∧ K (.s (.bool c)) := by
  cases b with
  | none => cases h
  | some c => exact ⟨c, rfl, h⟩

theorem litB_some {K : SV → Prop} {b : Option Bool} (h : litB K b) : ∃ c, b = some c ∧ K (.s (.lit c)) := by
  rcases b with _ | ⟨_ | _⟩
  · cases h
  · exact ⟨_, rfl, h⟩
  · exact ⟨_, rfl, h⟩

section
variable {P : Program} {S : World → Prop} {K : SV → Prop}

theorem run_cmpI {op : BinOp} {k : IntKind} {a b : Int} {c : Bool} (hc : cmpI op a b = some c) (T : TypeId) (w : World) :
    (binOp op T (.int k a) (.int k b)).run P w = .ok (.bool c) w := by
  cases op <;> simp only [cmpI] at hc <;> cases hc <;> simp [binOp, Op.intCmp]

theorem run_cmpS {op : BinOp} {a b : ByteArray} {c : Bool} (hc : cmpS op a b = some c) (T : TypeId) (w : World) :
    (binOp op T (.string a) (.string b)).run P w = .ok (.bool c) w := by
  cases op <;> simp only [cmpS] at hc <;> cases hc <;> simp [binOp, Op.stringOp]

theorem run_eqB {op : BinOp} {a b c : Bool} {T : TypeId} (hT : P.underlying T = some .bool) (hc : eqB op (a == b) = some c) (w : World) :
    (binOp op T (.bool a) (.bool b)).run P w = .ok (.bool c) w := by
  cases op <;> simp only [eqB] at hc <;> cases hc
  · exact run_eql_bool w T a b hT
  · exact run_neq_bool w T a b hT

theorem bOp_run {op : BinOp} {T : TypeId} {x y : S1} (h : bOp P op T x y K) : ∃ sv, (∀ w, (binOp op T x.v y.v).run P w = .ok sv.v w) ∧ K sv := by
  unfold bOp at h
  split at h
  · rename_i k a k' b
    split at h
    · obtain ⟨hb, h⟩ := h
      refine ⟨_, fun w => ?_, h.out⟩
      have : ¬ b < 0 := by omega
      simp [S1.v, SV.v, binOp, Op.shift, this]
    · obtain ⟨hb, h⟩ := h
      refine ⟨_, fun w => ?_, h.out⟩
      have : ¬ b < 0 := by omega
      simp [S1.v, SV.v, binOp, Op.shift, this]
    all_goals (split at h <;> try (cases h; done))
    all_goals (rename_i hk; subst hk)
    · exact ⟨_, fun w => by simp [S1.v, SV.v, binOp, Op.intArith], h.out⟩
    · exact ⟨_, fun w => by simp [S1.v, SV.v, binOp, Op.intArith], h.out⟩
    · exact ⟨_, fun w => by simp [S1.v, SV.v, binOp, Op.intArith], h.out⟩
    · obtain ⟨hb, h⟩ := h
      exact ⟨_, fun w => by simp [S1.v, SV.v, binOp, Op.intDiv, hb], h.out⟩
    · obtain ⟨hb, h⟩ := h
      exact ⟨_, fun w => by simp [S1.v, SV.v, binOp, Op.intDiv, hb], h.out⟩
    · simp only [bitI] at h; exact ⟨_, fun w => by simp [S1.v, SV.v, binOp, Op.intBits], h.out⟩
    · simp only [bitI] at h; exact ⟨_, fun w => by simp [S1.v, SV.v, binOp, Op.intBits], h.out⟩
    · simp only [bitI] at h; exact ⟨_, fun w => by simp [S1.v, SV.v, binOp, Op.intBits], h.out⟩
    · simp only [bitI] at h; exact ⟨_, fun w => by simp [S1.v, SV.v, binOp, Op.intBits], h.out⟩
    · obtain ⟨c, hc, h⟩ := kB_some h
      exact ⟨_, run_cmpI hc T, h⟩
  · rename_i a b
    split at h
    · obtain ⟨hb, h⟩ := h
      refine ⟨_, fun w => ?_, h⟩
      have : ¬ (((a.size + b.size : Nat) : Int) > IntKind.i64.max) := by omega
      simp only [S1.v, SV.v, binOp, Op.stringOp, this, if_false, Sem.run_pure]
    · obtain ⟨c, hc, h⟩ := kB_some h
      exact ⟨_, run_cmpS hc T, h⟩
  all_goals first
    | (cases h; done)
    | (split at h <;> first
        | (cases h; done)
        | (rename_i hT; obtain ⟨c, hc, h⟩ := kB_some h; exact ⟨.s (.bool c), fun w => run_eqB hT hc w, h⟩))


theorem eqGuard_nil {op : BinOp} {T : TypeId} {x y : Operand} {a b : Value} (hy : b ≠ .nilIface) (ha : ∀ cs, b ≠ .agg cs) (w : World) :
    (eqGuard op T x y a b).run P w = .ok () w := by
  unfold eqGuard
  split
  all_goals first
    | rfl
    | (rw [if_neg (by simp)]
       split
       · exact absurd rfl hy
       · exact absurd rfl (ha _)
       · rfl)

theorem bOp_guard {op : BinOp} {T : TypeId} {x y : S1} {o1 o2 : Operand} (h : bOp P op T x y K) (w : World) : (eqGuard op T o1 o2 x.v y.v).run P w = .ok () w := by
  unfold bOp at h
  split at h <;> first
    | (cases h; done)
    | (exact eqGuard_nil (by simp [S1.v]) (by simp [S1.v]) w)

theorem run_eqB' {op : BinOp} {b c : Bool} {x y : Value} {T : TypeId} (he : ∀ w, (binOp .eql T x y).run P w = .ok (.bool b) w) (hn : ∀ w, (binOp .neq T x y).run P w = .ok (.bool !b) w)
    (hc : eqB op b = some c) (w : World) : (binOp op T x y).run P w = .ok (.bool c) w := by
  cases op <;> simp only [eqB] at hc <;> cases hc
  · exact he w
  · exact hn w

theorem pointee_of {T e : TypeId} (h : P.underlying T = some (.pointer e)) : P.underlying T = some (.pointer (P.pointee T)) := by
  rw [h]; simp [Program.pointee, h]

theorem run_equalIn_fn (d : Nat) {T : TypeId} {x : Value} {b : Bool} {ps rs : Array TypeId} {vr : Bool} (h : P.underlying T = some (.func ps rs vr)) (hx : (x = .nilFunc ∧ b = true) ∨ (∃ f a c, x = .func f a c ∧ b = false)) (w : World) :
    (Op.equalIn (d + 1) T x .nilFunc).run P w = .ok b w := by
  rcases hx with ⟨rfl, rfl⟩ | ⟨f, a, c, rfl, rfl⟩ <;> (unfold Op.equalIn; simp [underlying, h, Result.andThen])

theorem run_eql_fn {T : TypeId} {x : Value} {b : Bool} {ps rs : Array TypeId} {vr : Bool} (h : P.underlying T = some (.func ps rs vr)) (hx : (x = .nilFunc ∧ b = true) ∨ (∃ f a c, x = .func f a c ∧ b = false)) (w : World) :
    (Op.equal T x .nilFunc).run P w = .ok b w := run_equalIn_fn 9999 h hx w

theorem nOp_run {op : BinOp} {T : TypeId} {x : S1} {y y' : Operand} {a : Act} (h : nOp P op T x y K) :
    ∃ sv, (∀ w, (do eqGuard op T y' y x.v (a.eval y); binOp op T x.v (a.eval y) : Sem Value).run P w = .ok sv.v w) ∧ K sv := by
  suffices hs : ∃ sv, (∀ w, (eqGuard op T y' y x.v (a.eval y)).run P w = .ok () w) ∧ (∀ w, (binOp op T x.v (a.eval y)).run P w = .ok sv.v w) ∧ K sv by
    obtain ⟨sv, hg, h1, h2⟩ := hs
    exact ⟨sv, fun w => by simp only [Sem.run_bind, hg, Result.andThen, h1], h2⟩
  unfold nOp at h
  split at h
  · rename_i p e hT
    obtain ⟨c, hc, h⟩ := kB_some h
    exact ⟨.s (.bool c), fun w => eqGuard_nil (by simp [Act.eval]) (by simp [Act.eval]) w, fun w => run_eqB' (b := p.isNone) (fun w => run_eql_pointer_nil w T p (pointee_of hT)) (fun w => run_neq_pointer_nil w T p (pointee_of hT)) hc w, h⟩
  · rename_i p e hT
    obtain ⟨c, hc, h⟩ := litB_some h
    exact ⟨.s (.lit c), fun w => eqGuard_nil (by simp [Act.eval]) (by simp [Act.eval]) w, fun w => run_eqB' (b := (some p).isNone) (fun w => run_eql_pointer_nil w T (some p) (pointee_of hT)) (fun w => run_neq_pointer_nil w T (some p) (pointee_of hT)) hc w, h⟩
  · rename_i s e hT
    obtain ⟨c, hc, h⟩ := kB_some h
    refine ⟨.s (.bool c), fun w => eqGuard_nil (by simp [Act.eval]) (by simp [Act.eval]) w, fun w => run_eqB' (b := s.p.isNone) (fun w => ?_) (fun w => ?_) hc w, h⟩
    · have := run_equal_slice_nil w T e s.p s.len s.cap hT
      simp only [S1.v, Act.eval, binOp, Sem.run_bind, this, Result.andThen, Sem.run_pure]
    · exact run_neq_slice_nil w T e s.p s.len s.cap hT
  · rename_i r k e hT
    obtain ⟨c, hc, h⟩ := kB_some h
    refine ⟨.s (.bool c), fun w => eqGuard_nil (by simp [Act.eval]) (by simp [Act.eval]) w, fun w => run_eqB' (b := r.isNone) (fun w => ?_) (fun w => ?_) hc w, h⟩
    · have := run_equal_map_nil w T k e r hT
      simp only [S1.v, Act.eval, binOp, Sem.run_bind, this, Result.andThen, Sem.run_pure]
    · exact run_neq_map_nil w T k e r hT
  · rename_i v ps rs vr hT
    obtain ⟨hv⟩ := h
    have : ∃ b, ((v = .nilFunc ∧ b = true) ∨ (∃ f a c, v = .func f a c ∧ b = false)) ∧ kB K (eqB op b) := by
      rcases hv with ⟨h1, h2⟩ | ⟨f, a, c, h1, h2⟩
      · exact ⟨true, .inl ⟨h1, rfl⟩, h2⟩
      · exact ⟨false, .inr ⟨f, a, c, h1, rfl⟩, h2⟩
    obtain ⟨b, hb, h⟩ := this
    obtain ⟨c, hc, h⟩ := kB_some h
    have he := run_eql_fn hT hb
    refine ⟨.s (.bool c), fun w => eqGuard_nil (by simp [Act.eval]) (by simp [Act.eval]) w, fun w => run_eqB' (b := b) (fun w => ?_) (fun w => ?_) hc w, h⟩
    all_goals rcases hb with ⟨rfl, rfl⟩ | ⟨f, a, c, rfl, rfl⟩ <;> simp only [S1.v, Act.eval, binOp, Sem.run_bind, he, Result.andThen, Sem.run_pure]
  · rename_i f fa fc ps rs vr hT
    obtain ⟨c, hc, h⟩ := litB_some h
    have he := run_eql_fn hT (x := .func f fa.toArray fc.toArray) (b := false) (.inr ⟨_, _, _, rfl, rfl⟩)
    refine ⟨.s (.lit c), fun w => eqGuard_nil (by simp [Act.eval]) (by simp [Act.eval]) w, fun w => run_eqB' (b := false) (fun w => ?_) (fun w => ?_) hc w, h⟩
    all_goals simp only [S1.v, Act.eval, binOp, Sem.run_bind, he, Result.andThen, Sem.run_pure]
  · cases h

/-! ### struct literals -/

theorem splice_v : ∀ (vs : List S1) (cells : List S1) (off : Nat), ((splice cells off vs).map S1.v).toArray = (vs.map S1.v).toArray.zipIdx.foldl (fun cs (c, j) => cs.setIfInBounds (off + j) c) (cells.map S1.v).toArray := by
  intro vs
  suffices H : ∀ (vs : List S1) (k : Nat) (cells : List S1) (off : Nat), ((splice cells (off + k) vs).map S1.v).toArray = ((vs.map S1.v).zipIdx k).foldl (fun cs (c, j) => cs.setIfInBounds (off + j) c) (cells.map S1.v).toArray by
    intro cells off
    have := H vs 0 cells off
    simpa using this
  intro vs
  induction vs with
  | nil => intro k cells off; simp [splice]
  | cons v r ih =>
    intro k cells off
    have := ih (k + 1) (cells.set (off + k) v) off
    simp only [splice, List.map_cons, List.zipIdx_cons, List.foldl_cons]
    rw [show off + k + 1 = off + (k + 1) by omega, this]
    congr 1
    simp [List.map_set]

def One (v : Value) : Prop := v.oneCell' = true

theorem One.cells {v : Value} (h : One v) : v.cells = #[v] := by cases v <;> first | rfl | (cases h; done)

theorem S1.one {x : S1} (h : ∀ v, x = .val v → One v) (hu : x ≠ .undef) : One x.v := by
  cases x <;> first | rfl | exact h _ rfl | exact absurd rfl hu

theorem reqOne_iff {l : List Value} {K : Prop} (h : reqOne l K) : (∀ v ∈ l, One v) ∧ K := by
  cases l with
  | nil => exact ⟨fun v hv => (by cases hv), h⟩
  | cons v r => exact ⟨h.1, h.2⟩

theorem SV.cells_v {v : SV} {l : List S1} (h : v.cells = some l) (ho : ∀ x, v = .s (.val x) → One x) : v.v.cells = (l.map S1.v).toArray := by
  cases v with
  | s x =>
    simp only [SV.cells] at h
    split at h
    · cases h
    · cases h
      rename_i hu
      have : One x.v := S1.one (fun v hv => ho v (by rw [hv])) hu
      exact this.cells
  | agg m => simp only [SV.cells] at h; cases h; rfl
  | tup m => cases h

theorem fillL_v {place : Nat → Option (Nat × Nat)} : ∀ {parts : List (Nat × SV)} {cells l : List S1}, fillL place cells parts = some l → (∀ v ∈ needOne parts, One v) →
    Instr.fill place (cells.map S1.v).toArray (parts.map fun p => (p.1, p.2.v)) = some (l.map S1.v).toArray := by
  intro parts
  induction parts with
  | nil => intro cells l h _; simp only [fillL] at h; cases h; rfl
  | cons p rest ih =>
    obtain ⟨i, v⟩ := p
    intro cells l h ho
    simp only [fillL] at h
    split at h
    · rename_i off size vs hp hv
      split at h
      · cases h
      · rename_i hc
        simp only [Bool.or_eq_true, decide_eq_true_eq, not_or] at hc
        have h1 : v.v.cells = (vs.map S1.v).toArray := SV.cells_v hv fun x hx => ho x (by subst hx; exact List.mem_cons_self)
        have h2 : ∀ x ∈ needOne rest, One x := fun x hx => ho x (by
          unfold needOne
          split <;> simp_all)
        have := ih h h2
        simp only [List.map_cons, Instr.fill, hp, h1]
        rw [if_neg (by simp only [List.size_toArray, List.length_map, Bool.or_eq_true, decide_eq_true_eq, not_or]; exact hc), ← splice_v]
        exact this
    · cases h

end
end Go.Proofs.Ytohoimokfgfceaa.K
