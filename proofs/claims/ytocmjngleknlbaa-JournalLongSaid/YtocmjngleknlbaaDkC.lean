/-
  slices.Concat, slices.Grow of bytes.
-/
import Derived.Test.YtocmjngleknlbaaTrB
import Derived.Test.YtocmjngleknlbaaDkT
import Derived.Test.YtocmjngleknlbaaEngP
namespace Go.Proofs.Ytocmjngleknlbaa.K
open Go Go.Proofs
variable {Γ Γ' : Mem} {L L' L'' : List HP} {w w' : World} {A B : HP}
set_option maxRecDepth 100000
set_option maxHeartbeats 4000000

abbrev TB8 : Nat := 5

theorem Sat.olCut {α : Type} {E : Enc α} {T : TypeId} {s : Sl} {xs : List α} (h : Sat Γ (OL E T s xs :: L) w) : Sat Γ (OL E T ⟨s.p, 0, s.cap⟩ [] :: L) w := by
  obtain ⟨ys, _, h1⟩ := h.ol
  refine Sat.toOl (ys := []) ?_ .nil
  obtain ⟨hl, hc, ⟨h2, h3⟩ | ⟨b, spare, h2, h3, h4⟩⟩ := h1.own
  · exact h1.weaken fun _ hm => ⟨by simp, Nat.zero_le _, .inl ⟨h2, h3⟩⟩
  · exact Sat.toOwn (cells := []) (spare := ys.flatMap E.sh.cells ++ spare) (by simpa using h4) h2 (by simp) (Nat.zero_le _) (by simpa using h3)

theorem sub00 {s : Sl} {sz : Nat} (hs : ∀ a, s.p = some a → ∃ b, a = ⟨b, 0, none⟩) : s.sub sz 0 0 s.cap = ⟨s.p, 0, s.cap⟩ := by
  obtain ⟨p, n, c⟩ := s
  unfold Sl.sub
  cases p with
  | none => simp
  | some a =>
    obtain ⟨b, rfl⟩ := hs a rfl
    simp [Addr.add]

theorem Sat.ownCut {α : Type} {E : Enc α} {T : TypeId} {s : Sl} {cells : List Value} (h : Sat Γ (Own s T E.sh.sz cells :: L) w) : Sat Γ (OL E T (s.sub E.sh.sz 0 0 s.cap) [] :: L) w := by
  obtain ⟨hl, hc, ⟨h2, h3⟩ | ⟨b, spare, h2, h3, h4⟩⟩ := h.own
  · rw [sub00 (by rw [h2]; intro a e; cases e)]
    refine Sat.toOl (ys := []) ?_ .nil
    exact h.weaken fun _ hm => ⟨by simp, Nat.zero_le _, .inl ⟨h2, h3⟩⟩
  · rw [sub00 (by rw [h2]; intro a e; cases e; exact ⟨b, rfl⟩)]
    refine Sat.toOl (ys := []) ?_ .nil
    exact Sat.toOwn (cells := []) (spare := cells ++ spare) (by simpa using h4) h2 (by simp) (Nat.zero_le _) (by simpa using h3)

/-- nothing, and n zeros behind it -/
theorem growZ {P : Program} {t t2 e sz by_ : Nat} {z : List Value} (ty : SlT P t e sz by_ z) {ki : IntKind} (ht2 : P.underlying t2 = some (.int ki)) {T : TypeId} {n : Nat} {K : Sl → World → Prop}
    (h : Sat Γ L w) (hn : 0 < n) (hb : n * by_ ≤ 70368744177664) (k : ∀ s' w' cells, s'.len = n → Sat Γ (Own s' e sz cells :: L) w' → K s' w') :
    Prim P (Builtin.append_ #[t, t2] T #[.slice none 0 0, .int .i64 n]) (.one (.s .sl)) K w := by
  obtain ⟨i, zv, hi, hsz, hby, hz, hzc⟩ := ty.zero
  have hszO : szOf P e = some sz := by unfold szOf; rw [hi]; exact congrArg some hsz
  have hpos := ty.pos
  have hposb := ty.posb
  have hsum : n ≤ 70368744177664 := Nat.le_trans (Nat.le_mul_of_pos_right _ hposb) hb
  have hwr : IntKind.i64.wrap (n : Int) = n := wrap64_id (by omega) (by omega)
  have hl0 : ¬ (n : Int) < 0 := by omega
  have hl1 : ¬ ((n : Int) * (i.bytes : Int) > 2 ^ 48) := by
    rw [hby]
    have : ((n * by_ : Nat) : Int) ≤ ((70368744177664 : Nat) : Int) := Int.ofNat_le.2 hb
    rw [Int.natCast_mul] at this
    have h4 : (2 : Int) ^ 48 = 281474976710656 := by decide
    omega
  have hnf : ¬ (0 + n ≤ 0) := by omega
  have hov : ¬ (((0 + n : Nat) : Int) > IntKind.i64.max ∧ (True ∨ i.bytes = 0)) := by
    rintro ⟨h1, _⟩
    have : (IntKind.i64.max : Int) = 9223372036854775807 := by decide
    omega
  have hcap := nextslicecap_le (newLen := 0 + n) (oldCap := 0) (by omega)
  have hbig : ¬ (Builtin.nextslicecap (0 + n) 0 * i.bytes > 2 ^ 48) := by
    rw [hby]
    have h1 : Builtin.nextslicecap (0 + n) 0 * by_ ≤ (2 * (0 + n) + 192) * by_ := Nat.mul_le_mul_right _ hcap
    have h2 : (2 * (0 + n) + 192) * by_ = 2 * (n * by_) + 192 * by_ := by rw [Nat.zero_add, Nat.add_mul, Nat.mul_assoc]
    have h3 := ty.smallb
    have h4 : (2 : Nat) ^ 48 = 281474976710656 := by decide
    omega
  have hnz : ¬ n * sz = 0 := by
    intro e
    rcases Nat.mul_eq_zero.1 e with e | e <;> omega
  obtain ⟨zl, hz1, hz2⟩ := zeroCells_eq (z := z) (n := (Question.appendCap (0 + n) 0 e).cut (w.tape w.drawn (Question.appendCap (0 + n) 0 e)) - (0 + n)) (by rw [ty.zlen]; exact hpos)
  obtain ⟨nl, hn1, hn2⟩ := zeroCells_eq (z := z) (n := n) (by rw [ty.zlen]; exact hpos)
  have hge : 0 + n ≤ (Question.appendCap (0 + n) 0 e).cut (w.tape w.drawn (Question.appendCap (0 + n) 0 e)) := by
    simp only [Question.cut]; omega
  have hfc : ∀ w', (Builtin.firstCells sz 0 (.slice none 0 0)).run P w' = .ok #[] w' := fun w' => by rfl
  have ha : ∀ w', (asInt (.int .i64 (n : Int))).run P w' = .ok (n : Int) w' := fun _ => rfl
  have hov' : ¬ (((0 + n : Nat) : Int) > IntKind.i64.max) := fun h => hov ⟨h, .inl trivial⟩
  refine ⟨⟨some ⟨w.heap.size, 0, none⟩, 0 + n, (Question.appendCap (0 + n) 0 e).cut (w.tape w.drawn (Question.appendCap (0 + n) 0 e))⟩, { { w with drawn := w.drawn + 1 } with heap := w.heap.push (.cells (#[] ++ nl.toArray ++ zl.toArray) e) }, ?_, k _ _ nl (by simp) ?_⟩
  · unfold Builtin.append_
    simp only [Sem.run_bind, run_underlying ty.und, Result.andThen, run_sizeOf hszO, List.getElem?_toArray, List.getElem?_cons_zero, List.getElem?_cons_succ, run_underlying ht2, Sem.run_pure, if_true, ha]
    simp only [hwr, hl0, if_false, Sem.run_bind, run_typeInfo hi, Result.andThen, hl1, Int.toNat_natCast, hnf, Bool.not_true, Bool.false_eq_true, Sem.run_ite, hnz, Sem.run_pure, true_or, and_true, hov', hbig, run_choose, Question.forced, run_askRoom, hfc, run_zeroValue hi hz, hzc, hz1, hn1,
      newRow, run_newObj]
    rfl
  · refine Sat.toOwn (b := w.heap.size) (spare := zl) ?_ rfl (by simp [hn2, ty.zlen]) hge ?_
    · have e1 : (nl ++ zl).toArray = #[] ++ nl.toArray ++ zl.toArray := by simp
      rw [e1]
      exact h.drew.new (.cells (#[] ++ nl.toArray ++ zl.toArray) e)
    · rw [hn2, hz2, ty.zlen, ← Nat.add_mul]
      congr 1
      dsimp only
      omega

/-- of nothing, room for n -/
theorem grow0_ok {n : Nat} {K : Sl → World → Prop} (h : Sat Γ L w) (hn : n ≤ 70368744177664) (k : ∀ s w', s.len = 0 → Sat Γ (OL eByte TB8 s [] :: L) w' → K s w') :
    CallP Try.prog 62 [.slice none 0 0, .int .i64 n] (.one (.s .sl)) K w := by
  refine callP (fn := Try.f62) [.s (.sl ⟨none, 0, 0⟩), .s (.int .i64 n)] (.p .n (.j [1, 0] [] .n (.j [] [(0, .s .sl)] .n .n))) nong mixed (by kernel_rfl) (by kernel_rfl) rfl rfl ?_
  by_cases h0 : n = 0
  · subst h0
    have h1 := h.olNil (E := eByte) (T := TB8)
    refine joinI ?_
    refine brF ?_
    refine joinI ?_
    refine wr ?_
    refine wr ?_
    refine brF ?_
    refine ⟨_, rfl, ?_⟩
    refine k _ _ (by first | omega | rfl) ?_
    rotate_left
    exact h1
  · refine joinI ?_
    refine brF ?_
    refine joinI ?_
    refine wr ?_
    refine wr ?_
    refine brD (fun bb0 => ?_) (fun bb0 => ?_)
    dsimp only at bb0
    refine ⟨by omega, ?_⟩
    rotate_left
    dsimp only at bb0
    refine ⟨_, rfl, ?_⟩
    refine k _ _ (by first | omega | rfl) ?_
    (exfalso; omega)
    refine growZ (ki := .i64) (n := n) slBytes (by kernel_rfl) h (by omega) (by omega) fun s w' cells hs h => ?_
    refine ⟨by dsimp only; omega, ?_⟩
    refine ⟨_, rfl, ?_⟩
    refine k _ _ (by first | omega | rfl) ?_
    rotate_left
    exact h.ownCut

theorem sumLen_append (l : List (List UInt8)) (b : List UInt8) : ((l ++ [b]).map List.length).sum = (l.map List.length).sum + b.length := by simp

theorem concat_ok {sv : Sl} {l : List (List UInt8)} {K : Sl → World → Prop} (h : Sat Γ L w) (hl : Lst eBytes Γ sv l) (hn : (l.map List.length).sum ≤ 35184372088832)
    (k : ∀ s Γ' w', Γ.le Γ' → Bytes Γ' s l.flatten → Sat Γ' L w' → K s w') : CallP Try.prog 35 [.slice sv.p sv.len sv.cap] (.one (.s .sl)) K w := by
  obtain ⟨hlen, hsm, _⟩ := hl.lens
  refine callP (fn := Try.f35) [.s (.sl sv)] (.p .n (.p .n (.p (.p .n (.b (.l [10, 9, 0] [(3, .s (.int .i64)), (11, .s (.int .i64))] (.p .n (.p .n (.p (.k [11, 10, 9, 0] [(3, .s (.int .i64))] .n) .n)))))) (.p .n (.p (.p .n (.b (.l [26, 25] [(6, .s .sl), (27, .s (.int .i64))] .n))) .n))))) nong mixed (by kernel_rfl) (by kernel_rfl) rfl rfl ?_
  rotate_left
  refine loop (σ := Int × Int) (fun st w' n => ∃ (i g : Nat), st = ((g : Int), (i : Int)) ∧ i ≤ l.length ∧ n = l.length - i ∧ g + ((l.drop i).map List.length).sum = (l.map List.length).sum ∧ Sat Γ L w') l.length ⟨0, 0, rfl, by omega, by omega, by simp, h⟩ ?_
  rintro _ w n ⟨i, g, rfl, hi, hn2, hg, h⟩
  by_cases hil : i < l.length
  · obtain ⟨b, eb⟩ := get_lt hil
    have hd : l.drop i = b :: l.drop (i + 1) := by
      rw [List.drop_eq_getElem_cons hil]
      have : l[i] = b := by rw [List.getElem?_eq_getElem hil] at eb; exact Option.some.inj eb
      rw [this]
    rw [hd, List.map_cons, List.sum_cons] at hg
    refine brD (fun bb0 => ?_) (fun bb0 => by exfalso; omega)
    dsimp only at bb0
    refine joinI ?_
    refine ⟨by omega, ?_⟩
    refine nnL h hl (fun ba1 bha1 => ?_)
    refine ldL h hl bha1 eb (fun by2 bhy2 => ?_)
    have bhy2 : Bytes _ by2 b := bhy2
    obtain ⟨lbhy2, mbhy2, cbhy2⟩ := bhy2.lens
    refine wrN (g + by2.len) ?_
    refine brF ?_
    refine wrN (i + 1) ?_
    refine ⟨_, (by first | omega | rfl | (dsimp only; omega)), _, _, rfl, (by first | omega | rfl | (dsimp only; omega)), rfl, (by first | omega | rfl | (dsimp only; omega)), h⟩
  · have : i = l.length := by omega
    subst this
    rw [List.drop_length] at hg
    have hg : g = (l.map List.length).sum := by simpa using hg
    refine brD (fun cb0 => by exfalso; omega) (fun cb0 => ?_)
    dsimp only at cb0
    refine grow0_ok h (by first | omega | decide) (fun cv2 _ cp4 h => ?_)
    rotate_left
    refine loop (σ := Sl × Int) (fun st w' n => ∃ (out : Sl) (i : Nat), st = (out, (i : Int)) ∧ i ≤ l.length ∧ n = l.length - i ∧ Sat Γ (OL eByte TB8 out (l.take i).flatten :: L) w') l.length ⟨_, 0, rfl, by omega, by omega, by simpa using h⟩ ?_
    clear h
    rintro _ w n ⟨out, i, rfl, hi, hn2, h⟩
    have hol := h.olLen .n0
    have hlt : ∀ i, (l.take i).flatten.length ≤ (l.map List.length).sum := fun i => by
      rw [List.length_flatten]
      conv => rhs; rw [← List.take_append_drop i l]
      rw [List.map_append, List.sum_append]
      omega
    have hli := hlt i
    by_cases hil : i < l.length
    · obtain ⟨b, eb⟩ := get_lt hil
      have htk : (l.take (i + 1)).flatten = (l.take i).flatten ++ b := by rw [List.take_add_one, eb]; simp
      have hl2 := hlt (i + 1)
      rw [htk, List.length_append] at hl2
      refine brD (fun db0 => ?_) (fun db0 => by exfalso; omega)
      dsimp only at db0
      refine ⟨by omega, ?_⟩
      refine nnL h hl (fun da1 dha1 => ?_)
      refine ldL h hl dha1 eb (fun dy2 dhy2 => ?_)
      have dhy2 : Bytes _ dy2 b := dhy2
      obtain ⟨ldhy2, mdhy2, cdhy2⟩ := dhy2.lens
      refine appL slBytes h .n0 dhy2.lst (fun ds3 _ dl3 h => ?_)
      dsimp only at dl3
      refine wrN (i + 1) ?_
      refine ⟨_, (by first | omega | rfl | (dsimp only; omega)), _, _, rfl, (by first | omega | rfl | (dsimp only; omega)), rfl, (Sat.eqs h ?_)⟩
      rotate_left
      rw [htk]
    · have : i = l.length := by omega
      subst this
      rw [List.take_length] at h
      refine brD (fun eb0 => by exfalso; omega) (fun eb0 => ?_)
      dsimp only at eb0
      refine ⟨_, rfl, ?_⟩
      obtain ⟨eΓ1, eg1, ef1, h⟩ := h.olFreeze .n0 (by first | omega | (dsimp only; omega))
      have ef1 := ef1.bytes
      have hl := hl.mono eg1
      refine k _ _ _ eg1 ef1 h

end Go.Proofs.Ytocmjngleknlbaa.K
