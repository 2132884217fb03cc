/-
  run: the program's All: records, one by one.
-/
import Derived.Test.YtohoimokfgfceaaRnB
namespace Go.Proofs.Ytohoimokfgfceaa.K
open Go Go.Proofs
variable {Γ Γ' : Mem} {L L' L'' : List HP} {w w' : World} {A B : HP}
set_option maxRecDepth 100000
set_option maxHeartbeats 4000000

/-- what Next told last, and what is left to tell, it included -/
def Pend (Γ : Mem) (hs : Sl) (hb : Bool) (e : Int) (r s : Sl) (any bad : Bool) (R : List (Str × Int)) : Prop :=
  (hb = true ∧ e = 0 ∧ bad = false ∧ ∃ y rest, rest.length < 1000000000 ∧ Bytes Γ hs y ∧ Bytes Γ r rest ∧ LastAt Γ s any (some y) ∧ R = (y, 0) :: recsB (some y) rest) ∨
  (hb = false ∧ e = 6 ∧ bad = true ∧ hs = ⟨none, 0, 0⟩ ∧ R = [([], 6)]) ∨ (hb = false ∧ e = 0 ∧ hs = ⟨none, 0, 0⟩ ∧ R = [])

theorem rnNextPend_ok {x : Nat} {r s : Sl} {any : Bool} {last : Option Str} {rest : Str} {K : (ScsT [.sl, .bool] × Int) → World → Prop}
    (h : Sat Γ (blk x (.cells #[.slice r.p r.len r.cap, .slice s.p s.len s.cap, .bool any, .bool false] 157 (0, 0)) :: L) w) (hr : Bytes Γ r rest) (hla : LastAt Γ s any last) (hl : rest.length < 1000000000)
    (k : ∀ hs hb e r' s' any' bad' Γ' w', Γ.le Γ' → Pend Γ' hs hb e r' s' any' bad' (recsB last rest) → Sat Γ' (blk x (.cells #[.slice r'.p r'.len r'.cap, .slice s'.p s'.len s'.cap, .bool any', .bool bad'] 157 (0, 0)) :: L) w' → K ((hs, hb), e) w') :
    CallP Try.prog 46 [.pointer (some ⟨x, 0, none⟩)] (.tup [.agg [.sl, .bool], .s (.int .i64)]) K w := by
  by_cases h0 : rest = []
  · subst h0
    exact rnNextEnd_ok (rest := []) (y := []) (z := []) (n := 0) (e := 0) h hr fun w' h => k _ _ _ _ _ _ _ Γ w' (.refl _) (.inr (.inr ⟨rfl, rfl, rfl, recsB_nil last⟩)) h
  cases ht : takeF rest with
  | error e =>
    have hnx : nextR rest last = none := by unfold nextR; rw [ht]
    exact rnNextErr_ok (y := []) (z := []) (n := 0) h hr h0 hl ht fun Γ' w' g h => k _ _ _ _ _ _ _ Γ' w' g (.inr (.inl ⟨rfl, rfl, rfl, rfl, recsB_bad h0 hnx⟩)) h
  | ok p =>
    obtain ⟨y, n⟩ := p
    obtain ⟨htn, _, htm, _⟩ := takeF_ok ht
    by_cases hy : y.length ≤ 64
    · cases last with
      | none =>
        have hb : any = false := hla
        subst hb
        have hnx : nextR rest none = some (y, rest.drop n) := by unfold nextR; rw [ht]; dsimp only; rw [if_pos ⟨hy, trivial⟩]
        exact rnNextFirst_ok (b := false) (z := []) (e := 0) h hr h0 hl ht hy fun t r' s' Γ' w' g f1 f2 f3 h => k _ _ _ _ _ _ _ Γ' w' g (.inl ⟨rfl, rfl, rfl, y, rest.drop n, by rw [List.length_drop]; omega, f1, f3, ⟨rfl, f2⟩, recsB_next hnx⟩) h
      | some z =>
        obtain ⟨hb, hz⟩ := hla
        subst hb
        by_cases hc : cmpB z y < 0
        · have hnx : nextR rest (some z) = some (y, rest.drop n) := by unfold nextR; rw [ht]; dsimp only; rw [if_pos ⟨hy, hc⟩]
          exact rnNextMore_ok (e := 0) (b := true) h hr hz h0 hl ht hy hc fun t r' s' Γ' w' g f1 f2 f3 h => k _ _ _ _ _ _ _ Γ' w' g (.inl ⟨rfl, rfl, rfl, y, rest.drop n, by rw [List.length_drop]; omega, f1, f3, ⟨rfl, f2⟩, recsB_next hnx⟩) h
        · have hnx : nextR rest (some z) = none := by unfold nextR; rw [ht]; dsimp only; rw [if_neg (fun hh => hc hh.2)]
          exact rnNextOrder_ok (e := 0) (b := true) h hr hz h0 hl ht hy hc fun Γ' w' g h => k _ _ _ _ _ _ _ Γ' w' g (.inr (.inl ⟨rfl, rfl, rfl, rfl, recsB_bad h0 hnx⟩)) h
    · have hnx : nextR rest last = none := by unfold nextR; rw [ht]; dsimp only; rw [if_neg (fun hh => hy hh.1)]
      exact rnNextLong_ok (z := []) (e := 0) h hr h0 hl ht (by omega) fun Γ' w' g h => k _ _ _ _ _ _ _ Γ' w' g (.inr (.inl ⟨rfl, rfl, rfl, rfl, recsB_bad h0 hnx⟩)) h

/-- what the function that tells records has: it is frozen -/
def AllA (sb : Nat) (s : Sl) (b : Str) : HP :=
  HP.fz (fun Γ => (∃ T z, Γ sb = some (.cells #[slv s] T z)) ∧ Bytes Γ s b) (fun _ _ hl ⟨⟨T, z, h1⟩, h3⟩ => ⟨⟨T, z, hl.at_ _ _ h1⟩, h3.mono hl⟩) HP.emp

/-- a record as it is told -/
def recE (Γ : Mem) (svs : List SV) (x : Str × Int) : Prop := ∃ t : Sl, svs = [.s (.sl t), .s (.int .i64 x.2)] ∧ Bytes Γ t x.1

theorem all_seq {sb : Nat} {s : Sl} {b : Str} (hlen : b.length < 1000000000) :
    SeqV Try.prog (.func (.func 117) #[] #[.pointer (some ⟨sb, 0, none⟩)]) (AllA sb s b) (recsB none b) recE := by
  refine ⟨117, [], [.pointer (some ⟨sb, 0, none⟩)], rfl, by kernel_rfl, fun Γ L w y K Q Qx hy h hround hdone hstop => ?_⟩
  obtain ⟨⟨⟨T1, z1, hsb⟩, hb⟩, _⟩ := Sat.fz.1 h
  obtain ⟨hbl, hbm, hbc⟩ := hb.lens
  have hla0 : LastAt Γ ⟨none, 0, 0⟩ false none := rfl
  refine callP (fn := Try.f117) [.s (.val y), .s (.addr ⟨sb, 0, none⟩)] (.p .n (.p .n (.b (.l [3, 0] [(4, .s .ptr), (5, .s (.int .i64))] (.j [5, 4, 3, 0] [] .n (.p (.k [4, 3, 0] [] .n) .n)))))) nong mixed (by kernel_rfl) (by kernel_rfl) rfl rfl ?_
  refine ldF _ h hsb ?_
  refine cloneF_ok h hb (by first | omega | (dsimp only; omega) | decide) (fun av1 aΓ2 _ ag4 af5 h => ?_)
  have hb := hb.mono ag4
  have hla0 := hla0.mono ag4
  obtain ⟨laf5, maf5, caf5⟩ := af5.lens
  refine new h fun ar7 _ h => ?_
  have h := h.asA (B := blk ar7 (.cells #[Value.slice av1.p av1.len av1.cap, Value.slice (Sl.mk none 0 0).p (Sl.mk none 0 0).len (Sl.mk none 0 0).cap, Value.bool false, Value.bool false] 157 (0, 0))) (by kernel_rfl)
  refine rnNextPend_ok h af5 hla0 hlen (fun av9 av10 av11 av12 av13 av14 av15 aΓ16 _ ag18 ap19 h => ?_)
  have af5 := af5.mono ag18
  have hb := hb.mono ag18
  have hla0 := hla0.mono ag18
  refine new h fun ar21 _ h => ?_
  have h := h.asA (B := blk ar21 (.cells #[Value.slice none 0 0, Value.bool false] 34 (0, 0))) (by kernel_rfl)
  refine stNs h .n0 fun _ h => ?_
  have h := h.asA (B := blk ar21 (.cells #[Value.slice ((av9, av10), av11).fst.fst.p ((av9, av10), av11).fst.fst.len ((av9, av10), av11).fst.fst.cap, Value.bool ((av9, av10), av11).fst.snd] 34 (0, 0))) (by kernel_rfl)
  rotate_left
  refine loop (σ := Option Addr × Int) (fun st w' u => ∃ (j hp : Nat) (hs : Sl) (hk : Bool) (e : Int) (r1 s1 : Sl) (any bad : Bool) (Γ' : Mem), st = (some ⟨hp, 0, none⟩, e) ∧ j ≤ (recsB none b).length ∧ u = (recsB none b).length - j ∧ Γ.le Γ' ∧ Pend Γ' hs hk e r1 s1 any bad ((recsB none b).drop j) ∧
      Sat Γ' (blk hp (.cells #[.slice hs.p hs.len hs.cap, .bool hk] 34 (0, 0)) :: blk ar7 (.cells #[.slice r1.p r1.len r1.cap, .slice s1.p s1.len s1.cap, .bool any, .bool bad] 157 (0, 0)) :: AllA sb s b :: Q j :: L) w') (recsB none b).length
    ⟨0, ar21, av9, av10, av11, av12, av13, av14, av15, aΓ16, rfl, by omega, by omega, ag4.trans ag18, ap19, h⟩ ?_
  clear h ap19
  rintro _ w u ⟨j, hp, hs, hk, e, r1, s1, any, bad, Γ3, rfl, hj, hu, g3, hP, h⟩
  have hgd : ∀ x r, (recsB none b).drop j = x :: r → (recsB none b)[j]? = some x ∧ j < (recsB none b).length ∧ (recsB none b).drop (j + 1) = r := fun x r hd => by
    have h1 : (recsB none b)[j]? = some x := by
      have := List.getElem?_drop (xs := recsB none b) (i := j) (j := 0)
      rw [hd] at this
      simpa using this.symm
    refine ⟨h1, (List.getElem?_eq_some_iff.1 h1).1, ?_⟩
    have := congrArg (List.drop 1) hd
    rw [List.drop_drop] at this
    simpa using this
  rcases hP with ⟨rfl, rfl, rfl, y1, rest, hrl, f1, f2, f3, hd⟩ | ⟨rfl, rfl, rfl, rfl, hd⟩ | ⟨rfl, rfl, rfl, hd⟩
  · obtain ⟨hge, hjl, hd2⟩ := hgd _ _ hd
    rw [← hd2] at hd
    obtain ⟨lf1, mf1, cf1⟩ := f1.lens
    obtain ⟨lf2, mf2, cf2⟩ := f2.lens
    refine joinI ?_
    refine ⟨_, rfl, ?_⟩
    refine ld _ h .n0 ?_
    refine brT ?_
    refine joinI ?_
    refine ⟨_, rfl, ?_⟩
    refine ld _ h .n0 ?_
    rotate_left
    refine hround j (y1, 0) [.s (.sl hs), .s (.int .i64 0)] Γ3 (blk hp (.cells #[.slice hs.p hs.len hs.cap, .bool true] 34 (0, 0)) :: blk ar7 (.cells #[.slice r1.p r1.len r1.cap, .slice s1.p s1.len s1.cap, .bool any, .bool false] 157 (0, 0)) :: AllA sb s b :: L) _ _ hge g3 ⟨hs, rfl, f1⟩ (h.pick .n3) (fun Γ4 w4 g4 h => ?_) (fun Γ4 w4 g4 h => ?_)
    · have h := ((h.pick (A := AllA sb s b) .n3).pick (A := blk ar7 _) .n3).pick (A := blk hp _) .n3
      have f2 := f2.mono g4
      have f3 := f3.mono g4
      have f1 := f1.mono g4
      refine brF ?_
      refine brF ?_
      refine ⟨_, rfl, ?_⟩
      refine ldA2 _ _ h .n0 ?_
      refine new h fun er0 _ h => ?_
      have h := h.asA (B := blk er0 (.cells #[Value.slice none 0 0, Value.bool false] 34 (0, 0))) (by kernel_rfl)
      refine stNs h .n0 fun _ h => ?_
      have h := h.asA (B := blk er0 (.cells #[Value.slice (hs, true).fst.p (hs, true).fst.len (hs, true).fst.cap, Value.bool (hs, true).snd] 34 (0, 0))) (by kernel_rfl)
      refine rnNextPend_ok (h.pick .n2) f2 f3 hrl (fun ev2 ev3 ev4 ev5 ev6 ev7 ev8 eΓ9 _ eg11 ep12 h => ?_)
      have f2 := f2.mono eg11
      have f3 := f3.mono eg11
      have f1 := f1.mono eg11
      refine stNs h .n1 fun _ h => ?_
      have h := h.asA (B := blk er0 (.cells #[Value.slice ((ev2, ev3), ev4).fst.fst.p ((ev2, ev3), ev4).fst.fst.len ((ev2, ev3), ev4).fst.fst.cap, Value.bool ((ev2, ev3), ev4).fst.snd] 34 (0, 0))) (by kernel_rfl)
      refine ⟨_, (by first | omega | rfl | (dsimp only; omega)), _, _, _, _, _, _, _, _, _, _, rfl, (by first | omega | rfl | (dsimp only; omega)), rfl, (g3.trans (g4.trans eg11)), ?_, (((((h.pick .n2).drop.pick .n3).pick .n3).pick .n3).pick .n3)⟩
      rotate_left
      show Pend eΓ9 ev2 ev3 ev4 ev5 ev6 ev7 ev8 ((recsB none b).drop (j + 1))
      rw [hd2]
      assumption
    · have h := (((h.pick .n1).drop.pick .n1).drop.pick .n1)
      have f1 := f1.mono g4
      have f2 := f2.mono g4
      have f3 := f3.mono g4
      refine brT ?_
      refine ⟨⟨⟩, rfl, ?_⟩
      rotate_left
      exact hstop j Γ4 _ hjl (g3.trans g4) h
  · obtain ⟨hge, hjl, hd2⟩ := hgd _ _ hd
    refine joinI ?_
    refine ⟨_, rfl, ?_⟩
    refine ld _ h .n0 ?_
    refine brF ?_
    refine brT ?_
    refine joinI ?_
    refine ⟨_, rfl, ?_⟩
    refine ld _ h .n0 ?_
    rotate_left
    have hlen : (recsB none b).length = j + 1 := by
      have := congrArg List.length hd
      rw [List.length_drop, List.length_singleton] at this
      omega
    refine hround j ([], 6) [.s (.sl ⟨none, 0, 0⟩), .s (.int .i64 6)] Γ3 (blk hp (.cells #[.slice none 0 0, .bool false] 34 (0, 0)) :: blk ar7 (.cells #[.slice r1.p r1.len r1.cap, .slice s1.p s1.len s1.cap, .bool any, .bool true] 157 (0, 0)) :: AllA sb s b :: L) _ _ hge g3 ⟨⟨none, 0, 0⟩, rfl, Bytes.nil _ _⟩ (h.pick .n3) (fun Γ4 w4 g4 h => ?_) (fun Γ4 w4 g4 h => ?_)
    · have h := (((h.pick .n1).drop.pick .n1).drop.pick .n1)
      refine brF ?_
      refine brT ?_
      refine ⟨⟨⟩, rfl, ?_⟩
      rotate_left
      rw [← hlen] at h
      exact hdone Γ4 _ (g3.trans g4) h
    · have h := (((h.pick .n1).drop.pick .n1).drop.pick .n1)
      refine brT ?_
      refine ⟨⟨⟩, rfl, ?_⟩
      rotate_left
      exact hstop j Γ4 _ hjl (g3.trans g4) h
  · have hjl : j = (recsB none b).length := by
      have := congrArg List.length hd
      rw [List.length_drop] at this
      simp at this
      omega
    refine joinI ?_
    refine ⟨_, rfl, ?_⟩
    refine ld _ h .n0 ?_
    refine brF ?_
    refine brF ?_
    refine ⟨⟨⟩, rfl, ?_⟩
    rotate_left
    rw [hjl] at h
    exact hdone Γ3 _ g3 h.drop.drop

theorem allR_ok {s : Sl} {b : Str} {K : Value → World → Prop} (h : Sat Γ L w) (hb : Bytes Γ s b) (k : ∀ sb Γ' w', Γ.le Γ' → Sat Γ' (AllA sb s b :: L) w' → K (.func (.func 117) #[] #[.pointer (some ⟨sb, 0, none⟩)]) w') :
    CallP Try.prog 54 [.slice s.p s.len s.cap] (.one (.s .val)) K w := by
  refine callP (fn := Try.f54) [.s (.sl s)] .n nong mixed (by kernel_rfl) (by kernel_rfl) rfl rfl ?_
  obtain ⟨lhb, mhb, chb⟩ := hb.lens
  refine new h fun ar0 _ h => ?_
  have h := h.asA (B := blk ar0 (.cells #[Value.slice s.p s.len s.cap] 32 (0, 0))) (by kernel_rfl)
  refine ⟨_, rfl, ?_⟩
  rotate_left
  obtain ⟨Γ1, g1, f1, h⟩ := h.freeze
  exact k ar0 Γ1 _ g1 (Sat.fz.2 ⟨⟨⟨_, _, f1⟩, hb.mono g1⟩, h.emp⟩)

end Go.Proofs.Ytohoimokfgfceaa.K
