/-
  What the plain meaning tells holds of the model's runs: every operation that reads alone.
-/
import Derived.Test.YtohoimokfgfceaaEngD
namespace Go.Proofs.Ytohoimokfgfceaa.K
open Go
section
variable {P : Program} {S : World → Prop} {K : SV → Prop} {fr : Fr} {a : Act}

theorem Runs.of {o : Oper} {s : Sem Value} {v : Value} (he : execOp a.eval o = (do let x ← s; pure (.value x))) (h : ∀ w, S w → s.run P w = .ok v w) : Runs P S o a v :=
  fun w hw => by rw [he]; simp [h w hw, Result.andThen]

theorem run_boundsIn {k : IntKind} {i : Int} {y : Nat} {code : BoundsCode} (h0 : 0 ≤ i) (h1 : i ≤ y) (w : World) : (Instr.sliceBound (.int k i) y code).run P w = .ok i.toNat w := by
  simp [Instr.sliceBound, asIntOf, h0, h1, Result.andThen]

theorem loOf_cases {lo : Option Operand} {l : Int} (hl : loOf fr lo = some l) (ha : Agrees fr a.tmps) : (lo = none ∧ l = 0) ∨ (∃ x k, lo = some x ∧ a.eval x = .int k l) := by
  cases lo with
  | none => simp only [loOf] at hl; cases hl; exact .inl ⟨rfl, rfl⟩
  | some x =>
    simp only [loOf] at hl
    split at hl
    · rename_i k n hx; cases hl; exact .inr ⟨x, k, rfl, ev_eval ha hx⟩
    · cases hl

theorem hiOf_cases {hi : Option Operand} {h : Int} {len : Nat} (hl : hiOf fr len hi = some h) (ha : Agrees fr a.tmps) : (hi = none ∧ h = len) ∨ (∃ x k, hi = some x ∧ a.eval x = .int k h) := by
  cases hi with
  | none => simp only [hiOf] at hl; cases hl; exact .inl ⟨rfl, rfl⟩
  | some x =>
    simp only [hiOf] at hl
    split at hl
    · rename_i k n hx; cases hl; exact .inr ⟨x, k, rfl, ev_eval ha hx⟩
    · cases hl

theorem run_sliceBounds {isS : Bool} {len cap : Nat} {lo hi : Option Operand} {l h : Int} (hlo : (lo = none ∧ l = 0) ∨ (∃ x k, lo = some x ∧ a.eval x = .int k l))
    (hhi : (hi = none ∧ h = len) ∨ (∃ x k, hi = some x ∧ a.eval x = .int k h)) (h0 : 0 ≤ l) (h1 : l ≤ h) (h2 : h ≤ cap) (w : World) :
    (Instr.sliceBounds isS len cap (lo.map a.eval) (hi.map a.eval) none).run P w = .ok (l.toNat, h.toNat, cap) w := by
  have hh0 : 0 ≤ h := by omega
  have e1 : l ≤ (h.toNat : Int) := by omega
  rcases hlo with ⟨rfl, rfl⟩ | ⟨x, k, rfl, hx⟩ <;> rcases hhi with ⟨rfl, rfl⟩ | ⟨y, k', rfl, hy⟩
  · simp [Instr.sliceBounds, Result.andThen]
  · simp [Instr.sliceBounds, Result.andThen, hy, run_boundsIn hh0 h2]
  · simp [Instr.sliceBounds, Result.andThen, hx, run_boundsIn h0 h1]
  · simp [Instr.sliceBounds, Result.andThen, hx, hy, run_boundsIn hh0 h2, run_boundsIn h0 e1]

theorem run_sliceBounds3 {len cap : Nat} {lo : Option Operand} {y m : Operand} {l h n : Int} {k' k'' : IntKind} (hlo : (lo = none ∧ l = 0) ∨ (∃ x k, lo = some x ∧ a.eval x = .int k l))
    (hy : a.eval y = .int k' h) (hm : a.eval m = .int k'' n) (h0 : 0 ≤ l) (h1 : l ≤ h) (h2 : h ≤ n) (h3 : n ≤ cap) (w : World) :
    (Instr.sliceBounds true len cap (lo.map a.eval) (some (a.eval y)) (some (a.eval m))).run P w = .ok (l.toNat, h.toNat, n.toNat) w := by
  have hh0 : 0 ≤ h := by omega
  have hn0 : 0 ≤ n := by omega
  have e1 : l ≤ (h.toNat : Int) := by omega
  have e2 : h ≤ (n.toNat : Int) := by omega
  rcases hlo with ⟨rfl, rfl⟩ | ⟨x, k, rfl, hx⟩
  · simp [Instr.sliceBounds, Result.andThen, hy, hm, run_boundsIn hh0 e2, run_boundsIn hn0 h3]
  · simp [Instr.sliceBounds, Result.andThen, hx, hy, hm, run_boundsIn hh0 e2, run_boundsIn hn0 h3, run_boundsIn h0 e1]

theorem run_indexAt_slice {t e : TypeId} {z : Nat} {p : Addr} {len cap : Nat} {k : IntKind} {i : Int} (ht : P.underlying t = some (.slice e)) (hz : szOf P e = some z) (h0 : 0 ≤ i) (h1 : i < len) (w : World) :
    (Instr.indexAt t (.slice (some p) len cap) (.int k i)).run P w = .ok (.pointer (some (p.add (i.toNat * z)))) w := by
  simp only [Instr.indexAt, asIntOf, Sem.run_bind, Sem.run_pure, Result.andThen, run_underlying ht]
  rw [if_pos ⟨h0, h1⟩]
  simp only [Sem.run_bind, run_sizeOf hz, Result.andThen, Sem.run_pure]

theorem run_indexAt_array {t e : TypeId} {n z : Nat} {p : Addr} {k : IntKind} {i : Int} (ht : P.underlying t = some (.array n e)) (hz : szOf P e = some z) (h0 : 0 ≤ i) (h1 : i < n) (w : World) :
    (Instr.indexAt t (.pointer (some p)) (.int k i)).run P w = .ok (.pointer (some (p.add (i.toNat * z)))) w := by
  simp only [Instr.indexAt, asIntOf, Instr.sureAddr, Sem.run_bind, Sem.run_pure, Result.andThen, run_underlying ht]
  rw [if_pos ⟨h0, h1⟩]
  simp only [Sem.run_bind, run_sizeOf hz, Result.andThen, Sem.run_pure]

theorem run_part_scalar {t : TypeId} {cs : Array Value} {off : Nat} {v : Value} {n : Nat} (ha : isAggB P t = false) (hs : szOf P t = some n) (hd : ∃ d, P.underlying t = some d) (hv : cs[off]? = some v) (w : World) :
    (part t cs off).run P w = .ok v w := by
  simp only [part, Sem.run_bind, run_isAgg_false (n := n) ha hd, Result.andThen, Bool.false_eq_true, if_false, hv, Sem.run_pure]

theorem run_part_agg {t : TypeId} {cs : Array Value} {off : Nat} {n : Nat} (ha : isAggB P t = true) (hs : szOf P t = some n) (w : World) :
    (part t cs off).run P w = .ok (.agg (cs.extract off (off + n))) w := by
  simp only [part, Sem.run_bind, run_isAgg_true ha, Result.andThen, if_true, run_sizeOf hs, Sem.run_pure]

theorem run_slice_sl {t e : TypeId} {z : Nat} {s : Sl} {lo hi mx : Option Value} {l h m : Nat} (ht : P.underlying t = some (.slice e)) (hz : szOf P e = some z)
    (hb : ∀ w, (Instr.sliceBounds true s.len s.cap lo hi mx).run P w = .ok (l, h, m) w) (w : World) :
    (Instr.sliceAt t (.slice s.p s.len s.cap) lo hi mx).run P w = .ok (.slice (if m = l then s.p else s.p.map (·.add (l * z))) (h - l) (m - l)) w := by
  simp only [Instr.sliceAt, Instr.slice, Sem.run_bind, run_underlying ht, Result.andThen, hb, run_sizeOf hz, Sem.run_pure]

theorem run_slice_str {t : TypeId} {s : ByteArray} {lo hi : Option Value} {l h m : Nat} (ht : P.underlying t = some .string)
    (hb : ∀ w, (Instr.sliceBounds false s.size s.size lo hi none).run P w = .ok (l, h, m) w) (w : World) :
    (Instr.sliceAt t (.string s) lo hi none).run P w = .ok (.string (s.extract l h)) w := by
  simp [Instr.sliceAt, Instr.slice, run_underlying ht, Result.andThen, hb]

/-- every operation that reads alone: what it answers, in every world that is asked -/
theorem sOp_run {o : Oper} (ha : Agrees fr a.tmps) (h : sOp P S o fr K) : ∃ sv, Runs P S o a sv.v ∧ K sv := by
  obtain ⟨dst, op, type, pos, after, guard⟩ := o
  unfold sOp at h
  cases op <;> simp only at h <;> try (cases h; done)
  case move x =>
    split at h
    · rename_i v hv; exact ⟨v, fun w _ => by simp [execOp, ev_eval ha hv], h⟩
    · cases h
  case assign x =>
    split at h
    · rename_i v hv; exact ⟨v, fun w _ => by simp [execOp, ev_eval ha hv], h⟩
    · cases h
  case pick c x y =>
    split at h
    · rename_i hc
      split at h
      · rename_i v hv; exact ⟨v, fun w _ => by simp [execOp, ev_eval ha hv, ev_eval ha hc, SV.v, S1.v, asBool, Result.andThen], h⟩
      · cases h
    · rename_i hc
      split at h
      · rename_i v hv; exact ⟨v, fun w _ => by simp [execOp, ev_eval ha hv, ev_eval ha hc, SV.v, S1.v, asBool, Result.andThen], h⟩
      · cases h
    · rename_i c' hc
      split at h
      all_goals first
        | (cases h; done)
        | (rename_i u v hu hv
           refine ⟨_, fun w _ => ?_, h⟩
           cases c' <;> simp [execOp, ev_eval ha hu, ev_eval ha hv, ev_eval ha hc, SV.v, S1.v, asBool, Result.andThen])
    · cases h
  case nilCheck x =>
    split at h
    · rename_i p hp; exact ⟨_, fun w _ => by simp [execOp, ev_eval ha hp, SV.v, S1.v], h⟩
    · rename_i p hp; obtain ⟨q, rfl, h⟩ := h; exact ⟨_, fun w _ => by simp [execOp, ev_eval ha hp, SV.v, S1.v], h⟩
    · rename_i v hp; obtain ⟨⟨f, x, c, rfl⟩ | ⟨l, rfl⟩, h⟩ := h <;> exact ⟨_, fun w _ => by simp [execOp, ev_eval ha hp, SV.v, S1.v], h⟩
    · rename_i f x c hp; exact ⟨_, fun w _ => by simp [execOp, ev_eval ha hp, SV.v, S1.v], h⟩
    · cases h
  case binOp op T x y yT =>
    split at h
    · split at h
      · rename_i s hs
        obtain ⟨sv, h1, h2⟩ := nOp_run (a := a) (y' := x) h
        refine ⟨sv, Runs.of (s := do eqGuard op T x y (a.eval x) (a.eval y); binOp op T (a.eval x) (a.eval y)) rfl fun w _ => ?_, h2⟩
        rw [ev_eval ha hs]
        exact h1 w
      · cases h
    · split at h
      · rename_i s t hs ht
        obtain ⟨sv, h1, h2⟩ := bOp_run h
        refine ⟨sv, Runs.of (s := do eqGuard op T x y (a.eval x) (a.eval y); binOp op T (a.eval x) (a.eval y)) rfl fun w _ => ?_, h2⟩
        rw [ev_eval ha hs, ev_eval ha ht]
        have h3 := bOp_guard (o1 := x) (o2 := y) h
        simp only [SV.v, Sem.run_bind, h3, Result.andThen, h1]
      · cases h
  case unOp op T x =>
    split at h
    · rename_i b hb; exact ⟨_, fun w _ => by simp [execOp, ev_eval ha hb, SV.v, S1.v, Op.unary, Result.andThen], h⟩
    · rename_i b hb; exact ⟨_, fun w _ => by simp [execOp, ev_eval ha hb, SV.v, S1.v, Op.unary, Result.andThen], h⟩
    · rename_i k n hb; exact ⟨_, fun w _ => by simp [execOp, ev_eval ha hb, SV.v, S1.v, Op.unary, Op.intArith, Result.andThen], h.out⟩
    · rename_i k n hb; simp only [bitI] at h; exact ⟨_, fun w _ => by simp [execOp, ev_eval ha hb, SV.v, S1.v, Op.unary, Op.intBits, Result.andThen], h.out⟩
    · cases h
  case convert src dst x =>
    split at h
    · rename_i d k k' n hs hd hx
      exact ⟨_, Runs.of (s := convert src dst (a.eval x)) rfl fun w _ => by
        rw [ev_eval ha hx]; simp only [convert, Sem.run_bind, run_underlying hs, run_underlying hd, Result.andThen, SV.v, S1.v, Conv.intToInt, Sem.run_pure], h.out⟩
    · rename_i s hs hd hx
      exact ⟨_, Runs.of (s := convert src dst (a.eval x)) rfl fun w _ => by
        rw [ev_eval ha hx]; simp only [convert, Sem.run_bind, run_underlying hs, run_underlying hd, Result.andThen, SV.v, S1.v, Sem.run_pure], h⟩
    · rename_i e s hs hd hx
      split at h
      · rename_i he
        obtain ⟨t, h1, h2⟩ := h
        exact ⟨_, Runs.of (s := convert src dst (a.eval x)) rfl fun w hw => by
          rw [ev_eval ha hx]; simp only [convert, Sem.run_bind, run_underlying hs, run_underlying hd, run_underlying he, Result.andThen, SV.v, S1.v, h1 w hw], h2⟩
      · cases h
    · cases h
  case makeInterface t x =>
    split at h
    · cases h
    · rename_i d v hn hd hx
      refine ⟨_, Runs.of (s := Instr.makeInterface t (a.eval x)) rfl fun w _ => ?_, h⟩
      rw [ev_eval ha hx]
      simp only [Instr.makeInterface, Sem.run_bind, run_underlying hd, Result.andThen]
      first
        | rfl
        | (split
           · rename_i ms; exact absurd hd (hn ms)
           · rfl)
    · cases h
  case makeFunc f first cap =>
    split at h
    · rename_i u v hu hv
      refine ⟨_, fun w _ => ?_, h⟩
      have h1 := evs_eval ha hu
      have h2 := evs_eval ha hv
      have e1 : first.map a.eval = (u.map SV.v).toArray := by apply Array.toList_inj.1; simp [h1]
      have e2 : cap.map a.eval = (v.map SV.v).toArray := by apply Array.toList_inj.1; simp [h2]
      simp [execOp, Instr.makeFunc, e1, e2, SV.v, S1.v, Result.andThen]
    · cases h
  case fieldAddr T x i =>
    split at h
    · rename_i fs p hT hx
      split at h
      · rename_i f hf
        split at h
        · rename_i n hn
          refine ⟨_, Runs.of (s := Instr.fieldAt T (a.eval x) i) rfl fun w _ => ?_, h⟩
          rw [ev_eval ha hx]
          simp [Instr.fieldAt, run_underlying hT, Result.andThen, hf, SV.v, S1.v, Instr.sureAddr, fieldPlace, run_sizeOf hn]
        · cases h
      · cases h
    · cases h
  case load t x =>
    split at h
    · rename_i hh p ht hx
      split at h
      · rename_i hz
        obtain ⟨y, h1, h2⟩ := h
        refine ⟨_, Runs.of (s := Instr.loadAt t (a.eval x)) rfl fun w hw => ?_, h2⟩
        rw [ev_eval ha hx]
        simp only [Instr.loadAt, SV.v, S1.v, Instr.sureAddr, Sem.run_bind, Sem.run_pure, Result.andThen]
        exact run_loadVar ht hz (h1 w hw)
      · cases h
    · cases h
  case indexAddr T x ix =>
    split at h
    · rename_i e s k i hT hx hix
      split at h
      · rename_i z hz
        obtain ⟨⟨h0, h1⟩, p, hp, h⟩ := h
        refine ⟨_, Runs.of (s := Instr.indexAt T (a.eval x) (a.eval ix)) rfl fun w _ => ?_, h⟩
        rw [ev_eval ha hx, ev_eval ha hix]
        simp only [SV.v, S1.v, hp]
        exact run_indexAt_slice hT hz h0 h1 w
      · cases h
    · rename_i n e p k i hT hx hix
      split at h
      · rename_i z hz
        obtain ⟨⟨h0, h1⟩, h⟩ := h
        refine ⟨_, Runs.of (s := Instr.indexAt T (a.eval x) (a.eval ix)) rfl fun w _ => ?_, h⟩
        rw [ev_eval ha hx, ev_eval ha hix]
        exact run_indexAt_array hT hz h0 h1 w
      · cases h
    · cases h
  case index T x ix =>
    split at h
    · rename_i s k i hT hx hix
      obtain ⟨⟨h0, h1⟩, h⟩ := h
      refine ⟨_, Runs.of (s := Instr.index T (a.eval x) (a.eval ix)) rfl fun w _ => ?_, h⟩
      rw [ev_eval ha hx, ev_eval ha hix]
      have hlt : i.toNat < s.size := by omega
      have e : s[i.toNat]? = some s[i.toNat] := by simp [getElem?_pos, hlt]
      simp only [Instr.index, SV.v, S1.v, asIntOf, Sem.run_bind, Sem.run_pure, Result.andThen, run_underlying hT, h0, if_true, e]
      congr 3
      have hlt' : i.toNat < s.data.size := hlt
      rw [Array.getElem?_eq_getElem hlt']
      rfl
    · cases h
  case slice T x lo hi mx =>
    split at h
    · rename_i s hT hx
      split at h
      · rename_i l hh hlo hhi
        obtain ⟨⟨h0, h1, h2⟩, h⟩ := h
        refine ⟨_, Runs.of (s := Instr.sliceAt T (a.eval x) (lo.map a.eval) (hi.map a.eval) none) rfl fun w _ => ?_, h⟩
        rw [ev_eval ha hx]
        exact run_slice_str hT (run_sliceBounds (loOf_cases hlo ha) (hiOf_cases hhi ha) h0 h1 h2) w
      · cases h
    · rename_i e s hT hx
      split at h
      · rename_i z l hh hz hlo hhi
        obtain ⟨⟨h0, h1, h2⟩, h⟩ := h
        refine ⟨_, Runs.of (s := Instr.sliceAt T (a.eval x) (lo.map a.eval) (hi.map a.eval) none) rfl fun w _ => ?_, h⟩
        rw [ev_eval ha hx]
        exact run_slice_sl hT hz (run_sliceBounds (loOf_cases hlo ha) (hiOf_cases hhi ha) h0 h1 h2) w
      · rename_i z m l hh hz hlo hhi
        split at h
        · rename_i k n hm
          split at h
          · rename_i his
            obtain ⟨⟨h0, h1, h2, h3⟩, h⟩ := h
            rcases hiOf_cases hhi ha with ⟨rfl, _⟩ | ⟨y, k', rfl, hy⟩
            · cases his
            · refine ⟨_, Runs.of (s := Instr.sliceAt T (a.eval x) (lo.map a.eval) (some (a.eval y)) (some (a.eval m))) rfl fun w _ => ?_, h⟩
              rw [ev_eval ha hx]
              exact run_slice_sl hT hz (run_sliceBounds3 (loOf_cases hlo ha) hy (ev_eval ha hm) h0 h1 h2 h3) w
          · cases h
        · cases h
      · cases h
    · cases h
  case field T x i =>
    split at h
    · rename_i fs l hT hx
      split at h
      · rename_i f hf
        split at h
        · rename_i z hg hz
          refine ⟨_, Runs.of (s := Instr.field T (a.eval x) i) rfl fun w _ => ?_, h⟩
          rw [ev_eval ha hx]
          simp only [Instr.field, Sem.run_bind, run_underlying hT, Result.andThen, hf, SV.v, asAgg, Sem.run_pure, run_part_agg hg hz]
          simp [List.map_take, List.map_drop]
        · rename_i z d hg hz hd
          split at h
          · rename_i v hv
            refine ⟨_, Runs.of (s := Instr.field T (a.eval x) i) rfl fun w _ => ?_, h⟩
            rw [ev_eval ha hx]
            simp only [Instr.field, Sem.run_bind, run_underlying hT, Result.andThen, hf, SV.v, asAgg, Sem.run_pure]
            exact run_part_scalar (n := z) hg hz ⟨d, hd⟩ (by simp [hv]) w
          · cases h
        · cases h
      · cases h
    · cases h
  case build t parts =>
    split at h
    · rename_i fs z ps hT hz hp
      split at h
      · rename_i pl hpl
        split at h
        · rename_i l hl
          obtain ⟨ho, h⟩ := reqOne_iff h
          have e := evP_eval ha hp
          refine ⟨_, Runs.of (s := Instr.build t (parts.map fun (i, x) => (i, a.eval x))) rfl fun w _ => ?_, h⟩
          have e2 : (parts.map fun (i, x) => (i, a.eval x)) = (ps.map fun p => (p.1, p.2.v)).toArray := by apply Array.toList_inj.1; simpa using e
          rw [e2]
          exact run_build_struct hT hz hpl hl ho w
        · cases h
      · cases h
    · rename_i n e z ps hT hz hp
      split at h
      · rename_i size hs
        split at h
        · rename_i l hl
          obtain ⟨ho, h⟩ := reqOne_iff h
          have e := evP_eval ha hp
          refine ⟨_, Runs.of (s := Instr.build t (parts.map fun (i, x) => (i, a.eval x))) rfl fun w _ => ?_, h⟩
          have e2 : (parts.map fun (i, x) => (i, a.eval x)) = (ps.map fun p => (p.1, p.2.v)).toArray := by apply Array.toList_inj.1; simpa using e
          rw [e2]
          exact run_build_array hT hz hs hl ho w
        · cases h
      · cases h
    · cases h
  case extract x i =>
    split at h
    · rename_i l hx
      split at h
      · rename_i v hv
        split at h
        · rename_i y
          split at h
          · rename_i u
            split at h
            · rename_i s hs
              obtain ⟨y, hy, hk⟩ := h
              refine ⟨_, Runs.of (s := Instr.extract (a.eval x) i) rfl fun w _ => ?_, hk⟩
              rw [ev_eval ha hx]
              have e : (S1.val u).v = (s.mk y).v := by rw [Sc.mk_v]; exact hy
              simp [Instr.extract, SV.v, hv, S2.v, e]
            · cases h
          · refine ⟨_, Runs.of (s := Instr.extract (a.eval x) i) rfl fun w _ => ?_, h⟩
            rw [ev_eval ha hx]
            simp [Instr.extract, SV.v, hv, S2.v]
        · refine ⟨_, Runs.of (s := Instr.extract (a.eval x) i) rfl fun w _ => ?_, h⟩
          rw [ev_eval ha hx]
          simp [Instr.extract, SV.v, hv, S2.v]
      · cases h
    · cases h
  case call c =>
    obtain ⟨callee, args, argTypes⟩ := c
    have arr : ∀ {svs : List SV}, evs fr args.toList = some svs → args.map a.eval = (svs.map SV.v).toArray := fun hh => by
      apply Array.toList_inj.1; simpa using evs_eval ha hh
    have ar1 : ∀ {t : TypeId}, argTypes.toList = [t] → argTypes[0]? = some t := fun hh => by rw [← Array.getElem?_toList, hh]; rfl
    cases callee <;> simp only at h <;> try (cases h; done)
    rename_i b
    cases b <;> simp only at h <;> try (cases h; done)
    case cap =>
      split at h
      · rename_i t s ht hs
        split at h
        · rename_i e hT
          refine ⟨_, Runs.of (s := Builtin.cap_ argTypes type (args.map a.eval)) rfl fun w _ => ?_, h⟩
          rw [arr hs]
          simp [Builtin.cap_, ar1 ht, run_underlying hT, Result.andThen, SV.v, S1.v, goInt]
        · cases h
      · cases h
    case len =>
      split at h
      · rename_i t s ht hs
        split at h
        · rename_i e hT
          refine ⟨_, Runs.of (s := Builtin.len_ argTypes type (args.map a.eval)) rfl fun w _ => ?_, h⟩
          rw [arr hs]
          simp [Builtin.len_, ar1 ht, run_underlying hT, Result.andThen, SV.v, S1.v, goInt]
        · cases h
      · rename_i t s ht hs
        split at h
        · rename_i hT
          refine ⟨_, Runs.of (s := Builtin.len_ argTypes type (args.map a.eval)) rfl fun w _ => ?_, h⟩
          rw [arr hs]
          simp [Builtin.len_, ar1 ht, run_underlying hT, Result.andThen, SV.v, S1.v, goInt]
        · cases h
      · rename_i t r ht hs
        split at h
        · rename_i k e hT
          obtain ⟨n, h1, h2⟩ := h
          refine ⟨_, Runs.of (s := Builtin.len_ argTypes type (args.map a.eval)) rfl fun w hw => ?_, h2⟩
          rw [arr hs]
          have h3 := h1 w hw
          cases r with
          | none =>
            simp only at h3
            subst h3
            simp [Builtin.len_, ar1 ht, run_underlying hT, Result.andThen, SV.v, S1.v, goInt]
          | some m =>
            obtain ⟨es, cl, hb, rfl⟩ := h3
            have hg : (getObj m).run P w = .ok (.map es cl) w := by simp [getObj, Sem.run, hb]
            simp [Builtin.len_, ar1 ht, run_underlying hT, Result.andThen, SV.v, S1.v, goInt, hg]
        · cases h
      · rename_i t l ht hs
        split at h
        · rename_i n e hT
          refine ⟨_, Runs.of (s := Builtin.len_ argTypes type (args.map a.eval)) rfl fun w _ => ?_, h⟩
          rw [arr hs]
          simp [Builtin.len_, ar1 ht, run_underlying hT, Result.andThen, SV.v, S1.v, goInt]
        · cases h
      · cases h
    case max =>
      split at h
      · rename_i k n r hs
        split at h
        · rename_i m hm
          refine ⟨_, Runs.of (s := Builtin.max_ argTypes type (args.map a.eval)) rfl fun w _ => ?_, h.out⟩
          rw [arr hs]
          simpa [Builtin.max_, SV.v, S1.v] using foldMn_run true k w hm
        · cases h
      · cases h
    case min =>
      split at h
      · rename_i k n r hs
        split at h
        · rename_i m hm
          refine ⟨_, Runs.of (s := Builtin.min_ argTypes type (args.map a.eval)) rfl fun w _ => ?_, h.out⟩
          rw [arr hs]
          simpa [Builtin.min_, SV.v, S1.v] using foldMn_run false k w hm
        · cases h
      · cases h

end
end Go.Proofs.Ytohoimokfgfceaa.K
