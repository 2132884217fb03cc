/-
  What the plain meaning tells holds of the model's runs: every operation that reads alone.
-/
import Derived.Test.YtocmjngleknlbaaEngA
import Derived.Laws.World
import Derived.RowKit
namespace Go.Proofs.Ytocmjngleknlbaa.K
open Go
section
variable {P : Program} {S : World → Prop} {K : SV → Prop} {fr : Fr} {a : Act}

theorem Runs.of {o : Oper} {s : Sem Value} {v : Value} (he : execOp a.eval o = (do let x ← s; pure (.value x))) (h : ∀ w, S w → s.run P w = .ok v w) : Runs P S o a v :=
  fun w hw => by rw [he]; simp [h w hw, Result.andThen]

theorem run_boundsIn {k : IntKind} {i : Int} {y : Nat} {code : BoundsCode} (h0 : 0 ≤ i) (h1 : i ≤ y) (w : World) : (Instr.sliceBound (.int k i) y code).run P w = .ok i.toNat w := by
  simp [Instr.sliceBound, asIntOf, h0, h1, Result.andThen]

theorem loOf_cases {lo : Option Operand} {l : Int} (hl : loOf fr lo = some l) (ha : Agrees fr a.tmps) : (lo = none ∧ l = 0) ∨ (∃ x k, lo = some x ∧ a.eval x = .int k l) := by
  cases lo with
  | none => simp only [loOf] at hl; cases hl; exact .inl ⟨rfl, rfl⟩
  | some x =>
    simp only [loOf] at hl
    split at hl
    · rename_i k n hx; cases hl; exact .inr ⟨x, k, rfl, ev_eval ha hx⟩
    · cases hl

theorem hiOf_cases {hi : Option Operand} {h : Int} {len : Nat} (hl : hiOf fr len hi = some h) (ha : Agrees fr a.tmps) : (hi = none ∧ h = len) ∨ (∃ x k, hi = some x ∧ a.eval x = .int k h) := by
  cases hi with
  | none => simp only [hiOf] at hl; cases hl; exact .inl ⟨rfl, rfl⟩
  | some x =>
    simp only [hiOf] at hl
    split at hl
    · rename_i k n hx; cases hl; exact .inr ⟨x, k, rfl, ev_eval ha hx⟩
    · cases hl

theorem run_sliceBounds {isS : Bool} {len cap : Nat} {lo hi : Option Operand} {l h : Int} (hlo : (lo = none ∧ l = 0) ∨ (∃ x k, lo = some x ∧ a.eval x = .int k l))
    (hhi : (hi = none ∧ h = len) ∨ (∃ x k, hi = some x ∧ a.eval x = .int k h)) (h0 : 0 ≤ l) (h1 : l ≤ h) (h2 : h ≤ cap) (w : World) :
    (Instr.sliceBounds isS len cap (lo.map a.eval) (hi.map a.eval) none).run P w = .ok (l.toNat, h.toNat, cap) w := by
  have hh0 : 0 ≤ h := by omega
  have e1 : l ≤ (h.toNat : Int) := by omega
  rcases hlo with ⟨rfl, rfl⟩ | ⟨x, k, rfl, hx⟩ <;> rcases hhi with ⟨rfl, rfl⟩ | ⟨y, k', rfl, hy⟩
  · simp [Instr.sliceBounds, Result.andThen]
  · simp [Instr.sliceBounds, Result.andThen, hy, run_boundsIn hh0 h2]
  · simp [Instr.sliceBounds, Result.andThen, hx, run_boundsIn h0 h1]
  · simp [Instr.sliceBounds, Result.andThen, hx, hy, run_boundsIn hh0 h2, run_boundsIn h0 e1]

theorem run_sliceBounds3 {len cap : Nat} {lo : Option Operand} {y m : Operand} {l h n : Int} {k' k'' : IntKind} (hlo : (lo = none ∧ l = 0) ∨ (∃ x k, lo = some x ∧ a.eval x = .int k l))
    (hy : a.eval y = .int k' h) (hm : a.eval m = .int k'' n) (h0 : 0 ≤ l) (h1 : l ≤ h) (h2 : h ≤ n) (h3 : n ≤ cap) (w : World) :
    (Instr.sliceBounds true len cap (lo.map a.eval) (some (a.eval y)) (some (a.eval m))).run P w = .ok (l.toNat, h.toNat, n.toNat) w := by
  have hh0 : 0 ≤ h := by omega
  have hn0 : 0 ≤ n := by omega
  have e1 : l ≤ (h.toNat : Int) := by omega
  have e2 : h ≤ (n.toNat : Int) := by omega
  rcases hlo with ⟨rfl, rfl⟩ | ⟨x, k, rfl, hx⟩
  · simp [Instr.sliceBounds, Result.andThen, hy, hm, run_boundsIn hh0 e2, run_boundsIn hn0 h3]
  · simp [Instr.sliceBounds, Result.andThen, hx, hy, hm, run_boundsIn hh0 e2, run_boundsIn hn0 h3, run_boundsIn h0 e1]

theorem run_indexAt_slice {t e : TypeId} {z : Nat} {p : Addr} {len cap : Nat} {k : IntKind} {i : Int} (ht : P.underlying t = some (.slice e)) (hz : szOf P e = some z) (h0 : 0 ≤ i) (h1 : i < len) (w : World) :
    (Instr.indexAt t (.slice (some p) len cap) (.int k i)).run P w = .ok (.pointer (some (p.add (i.toNat * z)))) w := by
  simp only [Instr.indexAt, asIntOf, Sem.run_bind, Sem.run_pure, Result.andThen, run_underlying ht]
  rw [if_pos ⟨h0, h1⟩]
  simp only [Sem.run_bind, run_sizeOf hz, Result.andThen, Sem.run_pure]

theorem run_indexAt_array {t e : TypeId} {n z : Nat} {p : Addr} {k : IntKind} {i : Int} (ht : P.underlying t = some (.array n e)) (hz : szOf P e = some z) (h0 : 0 ≤ i) (h1 : i < n) (w : World) :
    (Instr.indexAt t (.pointer (some p)) (.int k i)).run P w = .ok (.pointer (some (p.add (i.toNat * z)))) w := by
  simp only [Instr.indexAt, asIntOf, Instr.sureAddr, Sem.run_bind, Sem.run_pure, Result.andThen, run_underlying ht]
  rw [if_pos ⟨h0, h1⟩]
  simp only [Sem.run_bind, run_sizeOf hz, Result.andThen, Sem.run_pure]

theorem run_part_scalar {t : TypeId} {cs : Array Value} {off : Nat} {v : Value} {n : Nat} (ha : isAggB P t = false) (hs : szOf P t = some n) (hd : ∃ d, P.underlying t = some d) (hv : cs[off]? = some v) (w : World) :
    (part t cs off).run P w = .ok v w := by
  simp only [part, Sem.run_bind, run_isAgg_false (n := n) ha hd, Result.andThen, Bool.false_eq_true, if_false, hv, Sem.run_pure]

theorem run_part_agg {t : TypeId} {cs : Array Value} {off : Nat} {n : Nat} (ha : isAggB P t = true) (hs : szOf P t = some n) (w : World) :
    (part t cs off).run P w = .ok (.agg (cs.extract off (off + n))) w := by
  simp only [part, Sem.run_bind, run_isAgg_true ha, Result.andThen, if_true, run_sizeOf hs, Sem.run_pure]

theorem run_slice_sl {t e : TypeId} {z : Nat} {s : Sl} {lo hi mx : Option Value} {l h m : Nat} (ht : P.underlying t = some (.slice e)) (hz : szOf P e = some z)
    (hb : ∀ w, (Instr.sliceBounds true s.len s.cap lo hi mx).run P w = .ok (l, h, m) w) (w : World) :
    (Instr.sliceAt t (.slice s.p s.len s.cap) lo hi mx).run P w = .ok (.slice (if m = l then s.p else s.p.map (·.add (l * z))) (h - l) (m - l)) w := by
  simp only [Instr.sliceAt, Instr.slice, Sem.run_bind, run_underlying ht, Result.andThen, hb, run_sizeOf hz, Sem.run_pure]

theorem run_slice_str {t : TypeId} {s : ByteArray} {lo hi : Option Value} {l h m : Nat} (ht : P.underlying t = some .string)
    (hb : ∀ w, (Instr.sliceBounds false s.size s.size lo hi none).run P w = .ok (l, h, m) w) (w : World) :
    (Instr.sliceAt t (.string s) lo hi none).run P w = .ok (.string (s.extract l h)) w := by
  simp [Instr.sliceAt, Instr.slice, run_underlying ht, Result.andThen, hb]

/-- every operation that reads alone: what it answers, in every world that is asked -/
theorem sOp_run {o : Oper} (ha : Agrees fr a.tmps) (h : sOp P S o fr K) : ∃ sv, Runs P S o a sv.v ∧ K sv := by
  obtain ⟨dst, op, type, pos, after, guard⟩ := o
  unfold sOp at h
  cases op <;> simp only at h <;> try (cases h; done)
  case move x =>
    split at h
    · rename_i v hv; exact ⟨v, fun w _ => by simp [execOp, ev_eval ha hv], h⟩
    · cases h
  case assign x =>
    split at h
    · rename_i v hv; exact ⟨v, fun w _ => by simp [execOp, ev_eval ha hv], h⟩
    · cases h
  case pick c x y =>
    split at h
    · rename_i hc
      split at h
      · rename_i v hv; exact ⟨v, fun w _ => by simp [execOp, ev_eval ha hv, ev_eval ha hc, SV.v, S1.v, asBool, Result.andThen], h⟩
      · cases h
    · rename_i hc
      split at h
      · rename_i v hv; exact ⟨v, fun w _ => by simp [execOp, ev_eval ha hv, ev_eval ha hc, SV.v, S1.v, asBool, Result.andThen], h⟩
      · cases h
    · rename_i c' hc
      split at h
      all_goals first
        | (cases h; done)
        | (rename_i u v hu hv
           refine ⟨_, fun w _ => ?_, h⟩
           cases c' <;> simp [execOp, ev_eval ha hu, ev_eval ha hv, ev_eval ha hc, SV.v, S1.v, asBool, Result.andThen])
    · cases h
  case nilCheck x =>
    split at h
    · rename_i p hp; exact ⟨_, fun w _ => by simp [execOp, ev_eval ha hp, SV.v, S1.v], h⟩
    · rename_i p hp; obtain ⟨q, rfl, h⟩ := h; exact ⟨_, fun w _ => by simp [execOp, ev_eval ha hp, SV.v, S1.v], h⟩
    · rename_i v hp; obtain ⟨⟨f, x, c, rfl⟩ | ⟨l, rfl⟩, h⟩ := h <;> exact ⟨_, fun w _ => by simp [execOp, ev_eval ha hp, SV.v, S1.v], h⟩
    · rename_i f x c hp; exact ⟨_, fun w _ => by simp [execOp, ev_eval ha hp, SV.v, S1.v], h⟩
    · cases h
  case binOp op T x y yT =>
    split at h
    · split at h
      · rename_i s hs
        obtain ⟨sv, h1, h2⟩ := nOp_run (a := a) (y' := x) h
        refine ⟨sv, Runs.of (s := do eqGuard op T x y (a.eval x) (a.eval y); binOp op T (a.eval x) (a.eval y)) rfl fun w _ => ?_, h2⟩
        rw [ev_eval ha hs]
        exact h1 w
      · cases h
    · split at h
      · rename_i s t hs ht
        obtain ⟨sv, h1, h2⟩ := bOp_run h
        refine ⟨sv, Runs.of (s := do eqGuard op T x y (a.eval x) (a.eval y); binOp op T (a.eval x) (a.eval y)) rfl fun w _ => ?_, h2⟩
        rw [ev_eval ha hs, ev_eval ha ht]
        have h3 := bOp_guard (o1 := x) (o2 := y) h
        simp only [SV.v, Sem.run_bind, h3, Result.andThen, h1]
      · cases h
  case unOp op T x =>
    split at h
    · rename_i b hb; exact ⟨_, fun w _ => by simp [execOp, ev_eval ha hb, SV.v, S1.v, Op.unary, Result.andThen], h⟩
    · rename_i b hb; exact ⟨_, fun w _ => by simp [execOp, ev_eval ha hb, SV.v, S1.v, Op.unary, Result.andThen], h⟩
    · rename_i k n hb; exact ⟨_, fun w _ => by simp [execOp, ev_eval ha hb, SV.v, S1.v, Op.unary, Op.intArith, Result.andThen], h.out⟩
    · rename_i k n hb; simp only [bitI] at h; exact ⟨_, fun w _ => by simp [execOp, ev_eval ha hb, SV.v, S1.v, Op.unary, Op.intBits, Result.andThen], h.out⟩
    · cases h
  case convert src dst x =>
    split at h
    · rename_i d k k' n hs hd hx
      exact ⟨_, Runs.of (s := convert src dst (a.eval x)) rfl fun w _ => by
        rw [ev_eval ha hx]; simp only [convert, Sem.run_bind, run_underlying hs, run_underlying hd, Result.andThen, SV.v, S1.v, Conv.intToInt, Sem.run_pure], h.out⟩
    · rename_i s hs hd hx
      exact ⟨_, Runs.of (s := convert src dst (a.eval x)) rfl fun w _ => by
        rw [ev_eval ha hx]; simp only [convert, Sem.run_bind, run_underlying hs, run_underlying hd, Result.andThen, SV.v, S1.v, Sem.run_pure], h⟩
    · rename_i e s hs hd hx
      split at h
      · rename_i he
        obtain ⟨t, h1, h2⟩ := h
        exact ⟨_, Runs.of (s := convert src dst (a.eval x)) rfl fun w hw => by
          rw [ev_eval ha hx]; simp only [convert, Sem.run_bind, run_underlying hs, run_underlying hd, run_underlying he, Result.andThen, SV.v, S1.v, h1 w hw], h2⟩
      · cases h
    · cases h
  case makeInterface t x =>
    split at h
    · cases h
    · rename_i d v hn hd hx
      refine ⟨_, Runs.of (s := Instr.makeInterface t (a.eval x)) rfl fun w _ => ?_, h⟩
      rw [ev_eval ha hx]
      simp only [Instr.makeInterface, Sem.run_bind, run_underlying hd, Result.andThen]
      first
        | rfl
        | (split
           · rename_i ms; exact absurd hd (hn ms)
           · rfl)
    · cases h
  case makeFunc f first cap =>
    split at h
    · rename_i u v hu hv
      refine ⟨_, fun w _ => ?_, h⟩
      have h1 := evs_eval ha hu
      have h2 := evs_eval ha hv
      have e1 : first.map a.eval = (u.map SV.v).toArray := by apply Array.toList_inj.1; simp [h1]
      have e2 : cap.map a.eval = (v.map SV.v).toArray := by apply Array.toList_inj.1; simp [h2]
      simp [execOp, Instr.makeFunc, e1, e2, SV.v, S1.v, Result.andThen]
    · cases h
  case fieldAddr T x i =>
    split at h
    · rename_i fs p hT hx
      split at h
      · rename_i f hf
        split at h
        · rename_i n hn
          refine ⟨_, Runs.of (s := Instr.fieldAt T (a.eval x) i) rfl fun w _ => ?_, h⟩
          rw [ev_eval ha hx]
          simp [Instr.fieldAt, run_underlying hT, Result.andThen, hf, SV.v, S1.v, Instr.sureAddr, fieldPlace, run_sizeOf hn]
        · cases h
      · cases h
    · rename_i fs p hT hx
      split at h
      · rename_i f hf
        split at h
        · rename_i n hn
          obtain ⟨p', rfl, h⟩ := h
          refine ⟨_, Runs.of (s := Instr.fieldAt T (a.eval x) i) rfl fun w _ => ?_, h⟩
          rw [ev_eval ha hx]
          simp [Instr.fieldAt, run_underlying hT, Result.andThen, hf, SV.v, S1.v, Instr.sureAddr, fieldPlace, run_sizeOf hn]
        · cases h
      · cases h
    · cases h
  case load t x =>
    split at h
    · rename_i hh p ht hx
      split at h
      · rename_i hz
        obtain ⟨y, h1, h2⟩ := h
        refine ⟨_, Runs.of (s := Instr.loadAt t (a.eval x)) rfl fun w hw => ?_, h2⟩
        rw [ev_eval ha hx]
        simp only [Instr.loadAt, SV.v, S1.v, Instr.sureAddr, Sem.run_bind, Sem.run_pure, Result.andThen]
        exact run_loadVar ht hz (h1 w hw)
      · cases h
    · rename_i hh p ht hx
      split at h
      · rename_i hz
        obtain ⟨p', rfl, y, h1, h2⟩ := h
        refine ⟨_, Runs.of (s := Instr.loadAt t (a.eval x)) rfl fun w hw => ?_, h2⟩
        rw [ev_eval ha hx]
        simp only [Instr.loadAt, SV.v, S1.v, Instr.sureAddr, Sem.run_bind, Sem.run_pure, Result.andThen]
        exact run_loadVar ht hz (h1 w hw)
      · cases h
    · cases h
  case indexAddr T x ix =>
    split at h
    · rename_i e s k i hT hx hix
      split at h
      · rename_i z hz
        obtain ⟨⟨h0, h1⟩, p, hp, h⟩ := h
        refine ⟨_, Runs.of (s := Instr.indexAt T (a.eval x) (a.eval ix)) rfl fun w _ => ?_, h⟩
        rw [ev_eval ha hx, ev_eval ha hix]
        simp only [SV.v, S1.v, hp]
        exact run_indexAt_slice hT hz h0 h1 w
      · cases h
    · rename_i n e p k i hT hx hix
      split at h
      · rename_i z hz
        obtain ⟨⟨h0, h1⟩, h⟩ := h
        refine ⟨_, Runs.of (s := Instr.indexAt T (a.eval x) (a.eval ix)) rfl fun w _ => ?_, h⟩
        rw [ev_eval ha hx, ev_eval ha hix]
        exact run_indexAt_array hT hz h0 h1 w
      · cases h
    · cases h
  case index T x ix =>
    split at h
    · rename_i s k i hT hx hix
      obtain ⟨⟨h0, h1⟩, h⟩ := h
      refine ⟨_, Runs.of (s := Instr.index T (a.eval x) (a.eval ix)) rfl fun w _ => ?_, h⟩
      rw [ev_eval ha hx, ev_eval ha hix]
      have hlt : i.toNat < s.size := by omega
      have e : s[i.toNat]? = some s[i.toNat] := by simp [getElem?_pos, hlt]
      simp only [Instr.index, SV.v, S1.v, asIntOf, Sem.run_bind, Sem.run_pure, Result.andThen, run_underlying hT, h0, if_true, e]
      congr 3
      have hlt' : i.toNat < s.data.size := hlt
      rw [Array.getElem?_eq_getElem hlt']
      rfl
    · cases h
  case slice T x lo hi mx =>
    split at h
    · rename_i s hT hx
      split at h
      · rename_i l hh hlo hhi
        obtain ⟨⟨h0, h1, h2⟩, h⟩ := h
        refine ⟨_, Runs.of (s := Instr.sliceAt T (a.eval x) (lo.map a.eval) (hi.map a.eval) none) rfl fun w _ => ?_, h⟩
        rw [ev_eval ha hx]
        exact run_slice_str hT (run_sliceBounds (loOf_cases hlo ha) (hiOf_cases hhi ha) h0 h1 h2) w
      · cases h
    · rename_i e s hT hx
      split at h
      · rename_i z l hh hz hlo hhi
        obtain ⟨⟨h0, h1, h2⟩, h⟩ := h
        refine ⟨_, Runs.of (s := Instr.sliceAt T (a.eval x) (lo.map a.eval) (hi.map a.eval) none) rfl fun w _ => ?_, h⟩
        rw [ev_eval ha hx]
        exact run_slice_sl hT hz (run_sliceBounds (loOf_cases hlo ha) (hiOf_cases hhi ha) h0 h1 h2) w
      · rename_i z m l hh hz hlo hhi
        split at h
        · rename_i k n hm
          split at h
          · rename_i his
            obtain ⟨⟨h0, h1, h2, h3⟩, h⟩ := h
            rcases hiOf_cases hhi ha with ⟨rfl, _⟩ | ⟨y, k', rfl, hy⟩
            · cases his
            · refine ⟨_, Runs.of (s := Instr.sliceAt T (a.eval x) (lo.map a.eval) (some (a.eval y)) (some (a.eval m))) rfl fun w _ => ?_, h⟩
              rw [ev_eval ha hx]
              exact run_slice_sl hT hz (run_sliceBounds3 (loOf_cases hlo ha) hy (ev_eval ha hm) h0 h1 h2 h3) w
          · cases h
        · cases h
      · cases h
    · cases h
  case field T x i =>
    split at h
    · rename_i fs l hT hx
      split at h
      · rename_i f hf
        split at h
        · rename_i z hg hz
          refine ⟨_, Runs.of (s := Instr.field T (a.eval x) i) rfl fun w _ => ?_, h⟩
          rw [ev_eval ha hx]
          simp only [Instr.field, Sem.run_bind, run_underlying hT, Result.andThen, hf, SV.v, asAgg, Sem.run_pure, run_part_agg hg hz]
          simp [List.map_take, List.map_drop]
        · rename_i z d hg hz hd
          split at h
          · rename_i v hv
            refine ⟨_, Runs.of (s := Instr.field T (a.eval x) i) rfl fun w _ => ?_, h⟩
            rw [ev_eval ha hx]
            simp only [Instr.field, Sem.run_bind, run_underlying hT, Result.andThen, hf, SV.v, asAgg, Sem.run_pure]
            exact run_part_scalar (n := z) hg hz ⟨d, hd⟩ (by simp [hv]) w
          · cases h
        · cases h
      · cases h
    · cases h
  case build t parts =>
    split at h
    · rename_i fs z ps hT hz hp
      split at h
      · rename_i pl hpl
        split at h
        · rename_i l hl
          obtain ⟨ho, h⟩ := reqOne_iff h
          have e := evP_eval ha hp
          refine ⟨_, Runs.of (s := Instr.build t (parts.map fun (i, x) => (i, a.eval x))) rfl fun w _ => ?_, h⟩
          have e2 : (parts.map fun (i, x) => (i, a.eval x)) = (ps.map fun p => (p.1, p.2.v)).toArray := by apply Array.toList_inj.1; simpa using e
          rw [e2]
          exact run_build_struct hT hz hpl hl ho w
        · cases h
      · cases h
    · rename_i n e z ps hT hz hp
      split at h
      · rename_i size hs
        split at h
        · rename_i l hl
          obtain ⟨ho, h⟩ := reqOne_iff h
          have e := evP_eval ha hp
          refine ⟨_, Runs.of (s := Instr.build t (parts.map fun (i, x) => (i, a.eval x))) rfl fun w _ => ?_, h⟩
          have e2 : (parts.map fun (i, x) => (i, a.eval x)) = (ps.map fun p => (p.1, p.2.v)).toArray := by apply Array.toList_inj.1; simpa using e
          rw [e2]
          exact run_build_array hT hz hs hl ho w
        · cases h
      · cases h
    · cases h
  case extract x i =>
    split at h
    · rename_i l hx
      split at h
      · rename_i v hv
        split at h
        · rename_i y
          split at h
          · rename_i u
            split at h
            · rename_i s hs
              obtain ⟨y, hy, hk⟩ := h
              refine ⟨_, Runs.of (s := Instr.extract (a.eval x) i) rfl fun w _ => ?_, hk⟩
              rw [ev_eval ha hx]
              have e : (S1.val u).v = (s.mk y).v := by rw [Sc.mk_v]; exact hy
              simp [Instr.extract, SV.v, hv, S2.v, e]
            · cases h
          · refine ⟨_, Runs.of (s := Instr.extract (a.eval x) i) rfl fun w _ => ?_, h⟩
            rw [ev_eval ha hx]
            simp [Instr.extract, SV.v, hv, S2.v]
        · refine ⟨_, Runs.of (s := Instr.extract (a.eval x) i) rfl fun w _ => ?_, h⟩
          rw [ev_eval ha hx]
          simp [Instr.extract, SV.v, hv, S2.v]
      · cases h
    · cases h
  case call c =>
    obtain ⟨callee, args, argTypes⟩ := c
    have arr : ∀ {svs : List SV}, evs fr args.toList = some svs → args.map a.eval = (svs.map SV.v).toArray := fun hh => by
      apply Array.toList_inj.1; simpa using evs_eval ha hh
    have ar1 : ∀ {t : TypeId}, argTypes.toList = [t] → argTypes[0]? = some t := fun hh => by rw [← Array.getElem?_toList, hh]; rfl
    cases callee <;> simp only at h <;> try (cases h; done)
    rename_i b
    cases b <;> simp only at h <;> try (cases h; done)
    case cap =>
      split at h
      · rename_i t s ht hs
        split at h
        · rename_i e hT
          refine ⟨_, Runs.of (s := Builtin.cap_ argTypes type (args.map a.eval)) rfl fun w _ => ?_, h⟩
          rw [arr hs]
          simp [Builtin.cap_, ar1 ht, run_underlying hT, Result.andThen, SV.v, S1.v, goInt]
        · cases h
      · cases h
    case len =>
      split at h
      · rename_i t s ht hs
        split at h
        · rename_i e hT
          refine ⟨_, Runs.of (s := Builtin.len_ argTypes type (args.map a.eval)) rfl fun w _ => ?_, h⟩
          rw [arr hs]
          simp [Builtin.len_, ar1 ht, run_underlying hT, Result.andThen, SV.v, S1.v, goInt]
        · cases h
      · rename_i t s ht hs
        split at h
        · rename_i hT
          refine ⟨_, Runs.of (s := Builtin.len_ argTypes type (args.map a.eval)) rfl fun w _ => ?_, h⟩
          rw [arr hs]
          simp [Builtin.len_, ar1 ht, run_underlying hT, Result.andThen, SV.v, S1.v, goInt]
        · cases h
      · rename_i t r ht hs
        split at h
        · rename_i k e hT
          obtain ⟨n, h1, h2⟩ := h
          refine ⟨_, Runs.of (s := Builtin.len_ argTypes type (args.map a.eval)) rfl fun w hw => ?_, h2⟩
          rw [arr hs]
          have h3 := h1 w hw
          cases r with
          | none =>
            simp only at h3
            subst h3
            simp [Builtin.len_, ar1 ht, run_underlying hT, Result.andThen, SV.v, S1.v, goInt]
          | some m =>
            obtain ⟨es, cl, hb, rfl⟩ := h3
            have hg : (getObj m).run P w = .ok (.map es cl) w := by simp [getObj, Sem.run, hb]
            simp [Builtin.len_, ar1 ht, run_underlying hT, Result.andThen, SV.v, S1.v, goInt, hg]
        · cases h
      · rename_i t l ht hs
        split at h
        · rename_i n e hT
          refine ⟨_, Runs.of (s := Builtin.len_ argTypes type (args.map a.eval)) rfl fun w _ => ?_, h⟩
          rw [arr hs]
          simp [Builtin.len_, ar1 ht, run_underlying hT, Result.andThen, SV.v, S1.v, goInt]
        · cases h
      · cases h
    case max =>
      split at h
      · rename_i k n r hs
        split at h
        · rename_i m hm
          refine ⟨_, Runs.of (s := Builtin.max_ argTypes type (args.map a.eval)) rfl fun w _ => ?_, h.out⟩
          rw [arr hs]
          simpa [Builtin.max_, SV.v, S1.v] using foldMn_run true k w hm
        · cases h
      · cases h
    case min =>
      split at h
      · rename_i k n r hs
        split at h
        · rename_i m hm
          refine ⟨_, Runs.of (s := Builtin.min_ argTypes type (args.map a.eval)) rfl fun w _ => ?_, h.out⟩
          rw [arr hs]
          simpa [Builtin.min_, SV.v, S1.v] using foldMn_run false k w hm
        · cases h
      · cases h

end
end Go.Proofs.Ytocmjngleknlbaa.K

/-
  What the plain meaning tells holds of the model's runs: operations that do something to the world.
-/
namespace Go.Proofs.Ytocmjngleknlbaa.K
open Go
section
variable {P : Program} {fr : Fr} {a : Act} {Q : Exit → Act → World → Prop}

theorem cell_kept {w : World} {p q : Addr} {v : Value} (h : ∃ u, w.cell? q = some u) : ∃ u, (w.setCell p v).cell? q = some u := by
  obtain ⟨u, hu⟩ := h
  exact Go.RowKit.cell?_setCell_some hu

theorem run_store1 {w : World} {p : Addr} {v o : Value} (hv : One v) (hc : w.cell? p = some o) (hf : w.frozen? p = false) : (store p v).run P w = .ok () (w.setCell p v) := by
  rw [run_store P w p v .plain hv]
  simp [hc, hf]

theorem run_storeCells {p : Addr} : ∀ (vs : List Value) (i : Nat) (w : World), (∀ v ∈ vs, One v) → (∀ j, j < vs.length → (∃ o, w.cell? (p.add (i + j)) = some o) ∧ w.frozen? (p.add (i + j)) = false) →
    (storeCells p vs i).run P w = .ok () (stN w p i vs)
  | [], i, w, _, _ => by simp [storeCells, stN]
  | v :: r, i, w, hv, h => by
    obtain ⟨⟨o, ho⟩, hf⟩ := h 0 (by simp)
    rw [Nat.add_zero] at ho hf
    have ih := run_storeCells r (i + 1) (w.setCell (p.add i) v) (fun u hu => hv u (List.mem_cons_of_mem _ hu)) (fun j hj => by
      have := h (j + 1) (by simpa using hj)
      rw [show i + 1 + j = i + (j + 1) by omega]
      exact ⟨cell_kept this.1, by simpa using this.2⟩)
    unfold storeCells
    simp only [Sem.run_bind, run_store1 (hv v List.mem_cons_self) ho hf, Result.andThen, ih, stN]

theorem add_zero' (p : Addr) : p.add 0 = p := by simp [Addr.add]

theorem One.arr {v : Value} (h : One v) : v.cells.size = 1 ∧ v.cells.toList = [v] := by rw [h.cells]; exact ⟨rfl, rfl⟩

theorem run_storeVar1 {t : TypeId} {w : World} {p : Addr} {v o : Value} (hs : szOf P t = some 1) (hv : One v) (hc : w.cell? p = some o) (hf : w.frozen? p = false) :
    (storeVar t p v).run P w = .ok () (w.setCell p v) := by
  have := run_storeCells (P := P) (p := p) [v] 0 w (by simpa using hv) (fun j hj => by
    have : j = 0 := by simpa using hj
    subst this
    simpa [add_zero'] using ⟨⟨o, hc⟩, hf⟩)
  simp only [storeVar, Sem.run_bind, run_sizeOf hs, Result.andThen, hv.arr.1]
  simp only [ne_eq, not_true, if_false, hv.arr.2, this, stN, add_zero', Sem.run_pure]

theorem run_storeVarN {t : TypeId} {w : World} {p : Addr} {vs : List Value} (hs : szOf P t = some vs.length) (hv : ∀ v ∈ vs, One v)
    (h : ∀ j, j < vs.length → (∃ o, w.cell? (p.add j) = some o) ∧ w.frozen? (p.add j) = false) : (storeVar t p (.agg vs.toArray)).run P w = .ok () (stN w p 0 vs) := by
  have := run_storeCells (P := P) (p := p) vs 0 w hv (fun j hj => by simpa using h j hj)
  simp only [storeVar, Sem.run_bind, run_sizeOf hs, Result.andThen, Value.cells, List.size_toArray]
  simp only [ne_eq, not_true, if_false, this, Sem.run_pure]

theorem about_wide {r : Option Nat} {o : Oper} {w : World} : ∀ f, o.about P w a.eval = some f → (wideAt r).fn f := fun _ _ => trivial

theorem callsIn_at {r : Option Nat} {n : Nat} {f : FuncId} {args : Array Value} {w : World} {R : Ending → World → Prop} (h : Calls P f args w R) : CallsIn (wideAt r) n P f args w R := by
  have h1 : CallsIn Fence.wide n P f args w R := callsIn_wide.2 h
  exact ⟨h1.1, fun cs hr => h1.2 cs (room_wide _)⟩

theorem roundIn_at {r : Option Nat} {n l : Nat} {f : FuncId} {tmps : Array Value} {assign body : Code} {w : World} {R : Ending → World → Prop} (h : RoundIn Fence.wide 0 P l f tmps assign body w R) : RoundIn (wideAt r) n P l f tmps assign body w R :=
  ⟨h.1, fun c cs hr => h.2 c cs (room_wide _)⟩

theorem roundIn_of_at {r : Option Nat} {l : Nat} {f : FuncId} {tmps : Array Value} {assign body : Code} {w : World} {R : Ending → World → Prop} (h : RoundIn (wideAt r) 0 P l f tmps assign body w R) : RoundIn Fence.wide 0 P l f tmps assign body w R :=
  ⟨h.1, fun c cs hr => h.2 c cs (room_wide _)⟩

/-- what an operation's run must be for what follows -/
theorem wp_of_value {r : Option Nat} {o : Oper} {next : Act → World → Prop} {w w' : World} {v : Value} (hnd : ∀ c, o.op ≠ .defer c) (h : (execOp a.eval o).run P w = .ok (.value v) w') (hn : next (a.put o.dst v) w') : o.wpIn (wideAt r) 0 P a w next Q := by
  refine ⟨about_wide, ?_⟩
  rw [Oper.semAt_eq _ _ _ hnd, h]; exact hn

theorem wp_of_skip {r : Option Nat} {o : Oper} {next : Act → World → Prop} {w w' : World} (hnd : ∀ c, o.op ≠ .defer c) (h : (execOp a.eval o).run P w = .ok .skip w') (hn : next (a.put o.dst undef) w') : o.wpIn (wideAt r) 0 P a w next Q := by
  refine ⟨about_wide, ?_⟩
  rw [Oper.semAt_eq _ _ _ hnd, h]; exact hn

theorem exec_v {o : Oper} {s : Sem Value} {w w' : World} {v : Value} (he : execOp a.eval o = (do let x ← s; pure (.value x))) (h : s.run P w = .ok v w') : (execOp a.eval o).run P w = .ok (.value v) w' := by
  rw [he]; simp [h, Result.andThen]

theorem exec_u {o : Oper} {s : Sem Unit} {w w' : World} (he : execOp a.eval o = (do s; pure .skip)) (h : s.run P w = .ok () w') : (execOp a.eval o).run P w = .ok .skip w' := by
  rw [he]; simp [h, Result.andThen]

theorem run_buildSlice {t e : TypeId} {s len : Nat} {z : List S1} {ps : List (Nat × SV)} {l : List S1} (ht : P.underlying t = some (.slice e)) (hz : zeroOf P e = some z) (hs : szOf P e = some (s + 1))
    (hc : len * (s + 1) ≤ 2 ^ 24 ∧ z.length = s + 1) (hf : fillL (fun i => some (i * (s + 1), s + 1)) ((List.replicate len z).flatten) ps = some l) (ho : ∀ v ∈ needOne ps, One v) (w : World) :
    (Instr.buildSlice t len (ps.map fun p => (p.1, p.2.v)).toArray).run P w = .ok (.slice (some ⟨w.heap.size, 0, none⟩) len len) { w with heap := w.heap.push (.cells (l.map S1.v).toArray e) } := by
  obtain ⟨i, v, hi, hv, hcs⟩ := zeroOf_some hz
  have h1 := fillL_v hf ho
  have hn : ¬ (len * (s + 1) > 2 ^ 24) := by omega
  have hrep : ((Array.range (len * (s + 1))).map fun j => ((z.map S1.v).toArray)[j % ((z.map S1.v).toArray).size]!) = (((List.replicate len z).flatten).map S1.v).toArray := by
    apply Array.ext
    · simp [hc.2, List.length_flatten]
    · intro j h1 h2
      simp only [Array.size_map, Array.size_range] at h1
      have hsz : ((z.map S1.v).toArray).size = s + 1 := by simp [hc.2]
      have hjm : j % (s + 1) < z.length := by rw [hc.2]; exact Nat.mod_lt _ (by omega)
      simp only [Array.getElem_map, Array.getElem_range, hsz]
      have hrep2 : ∀ (n j : Nat) (h : j < n * (s + 1)), ((List.replicate n z).flatten)[j]? = z[j % (s + 1)]? := by
        intro n
        induction n with
        | zero => intro j h; omega
        | succ n ih =>
          intro j h
          rw [List.replicate_succ, List.flatten_cons]
          by_cases hj : j < s + 1
          · rw [List.getElem?_append_left (by omega), Nat.mod_eq_of_lt hj]
          · rw [List.getElem?_append_right (by omega), hc.2, ih (j - (s + 1)) (by rw [Nat.succ_mul] at h; omega)]
            rw [Nat.mod_eq_sub_mod (by omega : j ≥ s + 1)]
      have h3 := hrep2 len j h1
      have e1 : ((z.map S1.v).toArray)[j % (s + 1)]! = z[j % (s + 1)].v := by
        rw [getElem!_pos _ _ (by simpa using hjm)]
        simp
      rw [e1]
      have h4 : (((List.replicate len z).flatten.map S1.v).toArray)[j]? = some (z[j % (s + 1)].v) := by
        rw [List.getElem?_toArray, List.getElem?_map, h3, List.getElem?_eq_getElem hjm]; rfl
      rw [Array.getElem?_eq_getElem h2] at h4
      exact (Option.some.inj h4).symm
  simp only [Instr.buildSlice, Sem.run_bind, run_underlying ht, Result.andThen, run_sizeOf hs]
  rw [if_neg hn]
  by_cases hl : len * (s + 1) = 0
  · have hl0 : len = 0 := by
      rcases Nat.mul_eq_zero.1 hl with h | h
      · exact h
      · omega
    subst hl0
    simp only [Nat.zero_mul, if_true, Sem.run_bind, Sem.run_pure, Result.andThen]
    have h1' : Instr.fill (fun i => some (i * (s + 1), s + 1)) #[] (ps.map fun p => (p.1, p.2.v)) = some (l.map S1.v).toArray := by simpa using h1
    have e0 : (Array.range 0).map (fun (x : Nat) => (#[] : Array Value)[x % (#[] : Array Value).size]!) = #[] := by simp
    simp only [e0, List.toList_toArray, h1']
    simp [newRow, Result.andThen]
  · rw [if_neg hl]
    simp only [Sem.run_bind, run_zeroValue hi hv, Sem.run_pure, Result.andThen, hcs, hrep, List.toList_toArray, h1]
    simp [newRow, Result.andThen]

theorem exitP (s : Sem Value) (r : Rs) (K : r.T → World → Prop) (w : World) (h : Prim P s r K w) : ∃ x w', s.run P w = .ok (r.v x) w' ∧ K x w' := h.out

def NoNG (P : Program) : Prop := P.funcs.all (fun fn => !(fn.name == "runtime.NumGoroutine")) = true

theorem NoNG.at (hN : NoNG P) {f : FuncId} {fn : Func} (hf : P.funcs[f]? = some fn) : (fn.name == "runtime.NumGoroutine") = false := by
  have h1 := Array.all_eq_true_iff_forall_mem.1 hN fn (Array.mem_of_getElem? hf)
  cases h2 : fn.name == "runtime.NumGoroutine"
  · rfl
  · rw [h2] at h1; cases h1

theorem run_callFunc_enter (hN : NoNG P) {f : FuncId} (hb : hasBody P f = true) (args : Array Value) (w : World) : (callFunc f args).run P w = .ok (.enter f args) w := by
  unfold hasBody at hb
  split at hb
  · rename_i fn hf
    have h1 := hN.at hf
    have h2 : fn.body.isNone = false := by cases h : fn.body <;> simp_all
    unfold callFunc
    simp only [Sem.run_bind, run_program, Result.andThen, hf, h1, Bool.false_eq_true, if_false, h2, Sem.run_pure]
  · cases hb

theorem exec_value {o : Oper} {f : Operand} {as : Array Operand} {tys : Array TypeId} (ho : o.op = .call ⟨.value f, as, tys⟩) {g : FuncId} {first cap : List Value} (hf : a.eval f = .func (.func g) first.toArray cap.toArray)
    {svs : List Value} (hs : as.toList.map a.eval = svs) : execOp a.eval o = callFunc g (first ++ svs ++ cap).toArray := by
  obtain ⟨dst, op, type, pos, after, guard⟩ := o
  simp only at ho
  subst ho
  have e : as.map a.eval = svs.toArray := by apply Array.toList_inj.1; simpa using hs
  simp only [execOp, resolve, hf, e, Deferred.ofValue]
  rw [pure_bind]
  simp [invoke]

theorem exec_yield {o : Oper} {f : Operand} {as : Array Operand} {tys : Array TypeId} (ho : o.op = .call ⟨.value f, as, tys⟩) {l : Nat} (hf : a.eval f = .func (.yield l) #[] #[])
    {svs : List Value} (hs : as.toList.map a.eval = svs) : execOp a.eval o = Instr.yield l svs.toArray := by
  obtain ⟨dst, op, type, pos, after, guard⟩ := o
  simp only at ho
  subst ho
  have e : as.map a.eval = svs.toArray := by apply Array.toList_inj.1; simpa using hs
  simp only [execOp, resolve, hf, e, Deferred.ofValue]
  rw [pure_bind]
  simp [invoke]

theorem wp_of_enter {r : Option Nat} {o : Oper} {next : Act → World → Prop} {w w' : World} {f : FuncId} {args : Array Value} (hnd : ∀ c, o.op ≠ .defer c) (h : (execOp a.eval o).run P w = .ok (.enter f args) w')
    (hc : Calls P f args w' fun e w'' => ∃ v, e = .returned v ∧ next (a.put o.dst v) w'') : o.wpIn (wideAt r) 0 P a w next Q := by
  refine ⟨about_wide, ?_⟩
  rw [Oper.semAt_eq _ _ _ hnd, h, Oper.uponIn_enter]
  refine ⟨fun hd => (by cases hd), CallsIn.mono (callsIn_at hc) fun e w'' he => ?_⟩
  obtain ⟨v, rfl, hn⟩ := he
  exact hn

theorem wp_of_round {r : Option Nat} {o : Oper} {next : Act → World → Prop} {w w' : World} {l : Nat} {f : FuncId} {tmps : Array Value} {assign body : Code} (hnd : ∀ c, o.op ≠ .defer c) (h : (execOp a.eval o).run P w = .ok (.round l f tmps assign body) w')
    (hc : RoundIn Fence.wide 0 P l f tmps assign body w' fun e w'' => ∃ v, e = .returned v ∧ next (a.put o.dst v) w'') : o.wpIn (wideAt r) 0 P a w next Q := by
  refine ⟨about_wide, ?_⟩
  rw [Oper.semAt_eq _ _ _ hnd, h, Oper.uponIn_round]
  refine ⟨fun hd => (by cases hd), RoundIn.mono (roundIn_at hc) fun e w'' he => ?_⟩
  obtain ⟨v, rfl, hn⟩ := he
  exact hn

theorem parts_eq (ha : Agrees fr a.tmps) {parts : Array (Nat × Operand)} {ps : List (Nat × SV)} (hp : evP fr parts.toList = some ps) :
    (ps.map fun p => (p.1, p.2.v)).toArray = parts.map fun (i, x) => (i, a.eval x) := by
  apply Array.toList_inj.1; simpa using (evP_eval ha hp).symm

theorem run_box1 {t : TypeId} {w : World} {v : S1} (ho : ∀ u, v = .val u → One u) :
    (Instr.box t v.v).run P w = .ok (.pointer (some ⟨w.heap.size, 0, none⟩)) { w with heap := w.heap.push (.cells #[v.v] t) } := by
  have hc : v.v.cells = #[v.v] := by
    by_cases hu : v = .undef
    · subst hu; rfl
    · exact (S1.one ho hu).cells
  simp [Instr.box, newVar, newRow, Result.andThen, hc]

theorem run_convSB {src dst e : TypeId} {s : ByteArray} {v : Value} {w w' : World} (hs : P.underlying src = some .string) (hd : P.underlying dst = some (.slice e)) (he : P.underlying e = some (.int .u8))
    (h : (Conv.stringToBytes e s).run P w = .ok v w') : (convert src dst (.string s)).run P w = .ok v w' := by
  simp only [convert, Sem.run_bind, run_underlying hs, run_underlying hd, run_underlying he, Result.andThen, h]

set_option maxHeartbeats 1000000 in
/-- every operation that does something to the world -/
theorem lOp_wp {r : Option Nat} (hN : NoNG P) {o : Oper} {w : World} {K : SV → World → Prop} {next : Act → World → Prop} (ha : Agrees fr a.tmps) (h : lOp P o fr K w) (hn : ∀ sv w', K sv w' → next (a.put o.dst sv.v) w') : o.wpIn (wideAt r) 0 P a w next Q := by
  obtain ⟨dst, op, type, pos, after, guard⟩ := o
  have hnd : ∀ c, op ≠ .defer c := fun c e => by subst e; cases h
  unfold lOp at h
  cases op <;> simp only at h <;> try (cases h; done)
  case store t x y =>
    split at h
    · rename_i p v hx hy hs
      obtain ⟨hv, ⟨o, hc⟩, hf, h⟩ := h
      refine wp_of_skip hnd (exec_u (s := Instr.storeAt t (a.eval x) (a.eval y)) rfl ?_) (hn _ _ h)
      rw [ev_eval ha hx, ev_eval ha hy]
      simp only [Instr.storeAt, SV.v, S1.v, Instr.sureAddr, Sem.run_bind, Sem.run_pure, Result.andThen]
      exact run_storeVar1 hs hv hc hf
    · rename_i p l n hx hy hs
      split at h
      · rename_i hl
        obtain ⟨hv, hc, h⟩ := h
        refine wp_of_skip hnd (exec_u (s := Instr.storeAt t (a.eval x) (a.eval y)) rfl ?_) (hn _ _ h)
        rw [ev_eval ha hx, ev_eval ha hy]
        simp only [Instr.storeAt, SV.v, S1.v, Instr.sureAddr, Sem.run_bind, Sem.run_pure, Result.andThen]
        exact run_storeVarN (by rw [hs, List.length_map, hl]) hv hc
      · cases h
    · cases h
  case alloc t =>
    split at h
    · rename_i i hi
      split at h
      · rename_i z hz
        obtain ⟨h⟩ := h
        refine wp_of_value hnd (exec_v (s := Instr.alloc t true (.tuple #[])) rfl ?_) (hn _ _ h)
        simp [Instr.alloc, run_zeroValue hi hz, Result.andThen, newVar, newRow, SV.v, S1.v]
      · cases h
    · cases h
  case box t x =>
    split at h
    · rename_i v hx
      obtain ⟨ho, h⟩ := reqOne_iff h
      obtain ⟨h⟩ := h
      refine wp_of_value hnd (exec_v (s := Instr.box t (a.eval x)) rfl ?_) (hn _ _ h)
      rw [ev_eval ha hx]
      exact run_box1 (v := v) (fun u hu => ho u (by subst hu; exact List.mem_cons_self))
    · rename_i l hx
      obtain ⟨h⟩ := h
      refine wp_of_value hnd (exec_v (s := Instr.box t (a.eval x)) rfl ?_) (hn _ _ h)
      rw [ev_eval ha hx]
      simp [Instr.box, newVar, newRow, Result.andThen, SV.v, S1.v, Value.cells]
    · cases h
  case buildSlice t len parts =>
    split at h
    · rename_i e ps hT hp
      split at h
      · rename_i z s hz hs
        split at h
        · rename_i hc
          split at h
          · rename_i l hl
            obtain ⟨ho, h⟩ := reqOne_iff h
            obtain ⟨h⟩ := h
            exact wp_of_value hnd (exec_v (s := Instr.buildSlice t len (parts.map fun (i, x) => (i, a.eval x))) rfl (parts_eq ha hp ▸ run_buildSlice hT hz hs hc hl ho w)) (hn _ _ h)
          · cases h
        · cases h
      · cases h
    · cases h
  case makeMap t r =>
    cases r with
    | some r => cases h
    | none =>
      obtain ⟨h⟩ := h
      refine wp_of_value hnd (exec_v (s := Instr.makeMap t none) rfl ?_) (hn _ _ h)
      simp [Instr.makeMap, Result.andThen, SV.v, S1.v]
  case makeSlice t l c =>
    split at h
    · rename_i u v hu hv
      obtain ⟨x, w', h1, h2⟩ := h
      refine wp_of_value hnd (exec_v (s := Instr.makeSlice t (a.eval l) (a.eval c)) rfl ?_) (hn _ _ h2)
      rw [ev_eval ha hu, ev_eval ha hv]
      exact h1
    · cases h
  case convert src dst x =>
    split at h
    · rename_i e s hs hd hx
      split at h
      · rename_i he
        obtain ⟨x', w', h1, h2⟩ := h
        refine wp_of_value (hnd := hnd) (v := .slice x'.p x'.len x'.cap) (exec_v (s := convert src dst (a.eval x)) rfl ?_) (hn _ _ h2)
        rw [ev_eval ha hx]
        exact run_convSB hs hd he h1
      · cases h
    · rename_i e e' s hs hd hx
      obtain ⟨x', w', h1, h2⟩ := h
      refine wp_of_value (hnd := hnd) (v := .slice x'.p x'.len x'.cap) (exec_v (s := convert src dst (a.eval x)) rfl ?_) (hn _ _ h2)
      rw [ev_eval ha hx]
      exact h1
    · cases h
  case lookup t x ix ok =>
    split at h
    · rename_i u v r hu hv hr
      obtain ⟨x', w', h1, h2⟩ := h
      refine wp_of_value hnd (exec_v (s := Instr.lookup t (a.eval x) (a.eval ix) ok) rfl ?_) (hn _ _ h2)
      rw [ev_eval ha hu, ev_eval ha hv]
      exact h1
    · cases h
  case mapUpdate t m k x =>
    split at h
    · rename_i u v c hu hv hc
      obtain ⟨w', h1, h2⟩ := h
      refine wp_of_skip hnd (exec_u (s := Instr.mapUpdate t (a.eval m) (a.eval k) (a.eval x)) rfl ?_) (hn _ _ h2)
      rw [ev_eval ha hu, ev_eval ha hv, ev_eval ha hc]
      exact h1
    · cases h
  case insert t m k x =>
    split at h
    · rename_i u v c hu hv hc
      obtain ⟨w', h1, h2⟩ := h
      refine wp_of_skip hnd (exec_u (s := Instr.mapUpdate t (a.eval m) (a.eval k) (a.eval x)) rfl ?_) (hn _ _ h2)
      rw [ev_eval ha hu, ev_eval ha hv, ev_eval ha hc]
      exact h1
    · cases h
  case range t x =>
    split at h
    · rename_i u hu
      obtain ⟨x', w', h1, h2⟩ := h
      refine wp_of_value hnd (exec_v (s := Instr.range t (a.eval x)) rfl ?_) (hn _ _ h2)
      rw [ev_eval ha hu]
      exact h1
    · cases h
  case next it isS =>
    split at h
    · rename_i u hu
      obtain ⟨x', w', h1, h2⟩ := h
      have e : (SV.tup (x'.map fun v => .s (.val v))).v = .tuple x'.toArray := by simp [SV.v, S2.v, S1.v, Function.comp_def]
      refine wp_of_value hnd (exec_v (s := Instr.next (a.eval it) isS type) rfl ?_) (hn _ _ h2)
      rw [ev_eval ha hu, e]
      exact h1
    · cases h
  case entry it =>
    split at h
    · rename_i u hu
      obtain ⟨x', w', h1, h2⟩ := h
      have e : (SV.tup (x'.map fun v => .s (.val v))).v = .tuple x'.toArray := by simp [SV.v, S2.v, S1.v, Function.comp_def]
      refine wp_of_value hnd (exec_v (s := Instr.entry (a.eval it)) rfl ?_) (hn _ _ h2)
      rw [ev_eval ha hu, e]
      exact h1
    · cases h
  case call c =>
    obtain ⟨callee, args, argTypes⟩ := c
    have arr : ∀ {svs : List SV}, evs fr args.toList = some svs → args.map a.eval = (svs.map SV.v).toArray := fun hh => by
      apply Array.toList_inj.1; simpa using evs_eval ha hh
    cases callee <;> simp only at h <;> try (cases h; done)
    case value f =>
      split at h
      · rename_i g first cap svs r hf hs hr
        split at h
        · rename_i fn hfn
          have he := exec_value (a := a) (o := ⟨dst, .call ⟨.value f, args, argTypes⟩, type, pos, after, guard⟩) rfl (g := g) (first := first) (cap := cap) (ev_eval ha hf) (evs_eval ha hs)
          split at h
          · obtain ⟨x, w', h1, h2⟩ := h
            refine wp_of_value (hnd := hnd) (v := r.v x) ?_ (hn _ _ h2)
            rw [he]
            rw [Sem.run_bind] at h1
            cases hc : (callFunc g (first ++ svs.map SV.v ++ cap).toArray).run P w with
            | halt hh w'' => rw [hc] at h1; cases h1
            | ok n w'' =>
              rw [hc] at h1
              simp only [Result.andThen] at h1
              split at h1
              · simp only [Sem.run_pure] at h1
                cases h1
                rfl
              · cases h1
          · rename_i hb
            obtain ⟨h⟩ := h
            refine wp_of_enter (hnd := hnd) (f := g) (args := (first ++ svs.map SV.v ++ cap).toArray) (w' := w) ?_ (Calls.mono h fun e w'' ⟨x, h1, h2⟩ => ⟨_, h1, hn _ _ h2⟩)
            rw [he]
            exact run_callFunc_enter hN (by unfold hasBody; rw [hfn]; cases hq : fn.body <;> simp_all) _ w
        · cases h
      · rename_i v svs r hf hs hr
        rcases h.out with ⟨g, first, cap, rfl, hb, ⟨h⟩⟩ | ⟨l, fn, tmps, assign, body, rfl, h1, h2⟩
        rotate_left
        · have he := exec_yield (a := a) (o := ⟨dst, .call ⟨.value f, args, argTypes⟩, type, pos, after, guard⟩) rfl (l := l) (ev_eval ha hf) (evs_eval ha hs)
          exact wp_of_round (hnd := hnd) (by rw [he]; exact h1) (RoundIn.mono h2 fun e w'' ⟨x, h1, h2⟩ => ⟨_, h1, hn _ _ h2⟩)
        have he := exec_value (a := a) (o := ⟨dst, .call ⟨.value f, args, argTypes⟩, type, pos, after, guard⟩) rfl (g := g) (first := first) (cap := cap) (ev_eval ha hf) (evs_eval ha hs)
        refine wp_of_enter (hnd := hnd) (f := g) (args := (first ++ svs.map SV.v ++ cap).toArray) (w' := w) ?_ (Calls.mono h fun e w'' ⟨x, h1, h2⟩ => ⟨_, h1, hn _ _ h2⟩)
        rw [he]
        exact run_callFunc_enter hN hb _ w
      · cases h
    case builtin b =>
      cases b <;> simp only at h <;> try (cases h; done)
      case append =>
        split at h
        · rename_i u v hs
          obtain ⟨x', w', h1, h2⟩ := h
          refine wp_of_value hnd (exec_v (s := Builtin.append_ argTypes type (args.map a.eval)) rfl ?_) (hn _ _ h2)
          rw [arr hs]
          exact h1
        · cases h
      case clear =>
        split at h
        · rename_i u hs
          obtain ⟨x', w', h1, h2⟩ := h
          refine wp_of_value hnd (exec_v (s := Builtin.clear_ argTypes type (args.map a.eval)) rfl ?_) (hn _ _ h2)
          rw [arr hs]
          exact h1
        · cases h
      case copy =>
        split at h
        · rename_i u v hs
          obtain ⟨x', w', h1, h2⟩ := h
          refine wp_of_value hnd (exec_v (s := Builtin.copy_ argTypes type (args.map a.eval)) rfl ?_) (hn _ _ h2)
          rw [arr hs]
          exact h1
        · cases h
      case delete =>
        split at h
        · rename_i u v hs
          obtain ⟨x', w', h1, h2⟩ := h
          refine wp_of_value hnd (exec_v (s := Builtin.delete_ argTypes type (args.map a.eval)) rfl ?_) (hn _ _ h2)
          rw [arr hs]
          exact h1
        · cases h

end
end Go.Proofs.Ytocmjngleknlbaa.K
