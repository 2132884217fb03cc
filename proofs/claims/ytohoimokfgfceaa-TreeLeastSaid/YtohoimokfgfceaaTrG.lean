/-
  The tree's merge.
-/
import Derived.Test.YtohoimokfgfceaaTrF
import Derived.Test.YtohoimokfgfceaaTrQ
namespace Go.Proofs.Ytohoimokfgfceaa.K
open Go Go.Proofs
variable {Γ Γ' : Mem} {L L' L'' : List HP} {w w' : World} {A B : HP}
set_option maxRecDepth 100000
set_option maxHeartbeats 4000000

/-- a frozen row of bytes; and of such rows -/
abbrev BB : Mem → Sl → BL → Prop := Rows Bytes
theorem bytes_mono : ∀ Γ Γ' s (x : List UInt8), Mem.le Γ Γ' → Bytes Γ s x → Bytes Γ' s x := fun _ _ _ _ hl h => h.mono hl
theorem bb_mono : ∀ Γ Γ' s (x : BL), Mem.le Γ Γ' → BB Γ s x → BB Γ' s x := fun _ _ _ _ hl h => Rows.mono bytes_mono h hl

theorem equal_ok {s t : Sl} {x y : List UInt8} {K : Bool → World → Prop} (h : Sat Γ L w) (hx : Bytes Γ s x) (hy : Bytes Γ t y) (k : K (x == y) w) :
    CallP Try.prog 111 [.slice s.p s.len s.cap, .slice t.p t.len t.cap] (.one (.s .bool)) K w := by
  refine callP (fn := Try.f111) [.s (.sl s), .s (.sl t)] .n nong mixed (by kernel_rfl) (by kernel_rfl) rfl rfl ?_
  refine btoS h hx ?_
  refine btoS h hy ?_
  refine ⟨(str x).toList == (str y).toList, rfl, ?_⟩
  rw [str_toList, str_toList]
  exact k

theorem Rows.tail {α : Type} {R : Mem → Sl → α → Prop} {s : Sl} {x : α} {xs : List α} (h : Rows R Γ s (x :: xs)) : Rows R Γ (s.sub 1 1 (s.len : Int) (s.cap : Int)) xs := by
  have hl := h.len
  have := h.sub (l := 1) (n := s.len) (by rw [hl]; simp) (Nat.le_refl _)
  have e : ((x :: xs).drop 1).take (s.len - 1) = xs := by rw [hl]; simp
  rw [e] at this
  exact this

theorem first_ok {s : Sl} {r : BL} {K : ((Sl × Bool) × Sl) → World → Prop} (h : Sat Γ L w) (hb : BB Γ s r)
    (k : ∀ s' s'' w', Bytes Γ s' (hdOf r).1 → BB Γ s'' r.tail → Sat Γ L w' → K ((s', (hdOf r).2), s'') w') :
    CallP Try.prog 110 [.slice s.p s.len s.cap] (.tup [.agg [.sl, .bool], .s .sl]) K w := by
  have hl := hb.len
  refine callP (fn := Try.f110) [.s (.sl s)] (.p .n (.p .n (.p (.h [0, 1, 2, 3, 4, 5, 6, 7] []) .n))) nong mixed (by kernel_rfl) (by kernel_rfl) rfl rfl ?_
  refine new h fun r0 w0 h0 => ?_
  refine br (fun hb1 => ?_) (fun hb1 => ?_)
  · have hn : s.len = 0 := by have : (s.len : Int) = 0 := by simpa using hb1
                              omega
    have : r = [] := List.eq_nil_of_length_eq_zero (by omega)
    subst this
    refine stNs h0 (by repeat (first | with_reducible exact Pick.here | apply Pick.there)) fun w2 h2 => ?_
    have h2 : Sat Γ (blk r0 (.cells #[.slice none 0 0, .bool false] TH (0, 0)) :: L) w2 := h2
    refine ld (⟨none, 0, 0⟩, false) h2 (by repeat (first | with_reducible exact Pick.here | apply Pick.there)) ?_ (hc := rd2 ⟨none, 0, 0⟩ false)
    exact ⟨((⟨none, 0, 0⟩, false), ⟨none, 0, 0⟩), rfl, k _ _ _ (.nil _ _) (.nil _ _) h2.drop⟩
  · have hn : s.len ≠ 0 := by
      intro h0
      rw [h0] at hb1
      cases hb1
    cases r with
    | nil => exact absurd hl hn
    | cons x r =>
      obtain ⟨ss, hf, he⟩ := hb
      obtain ⟨s5, e5, b5⟩ := he.get (i := 0) (x := x) rfl
      refine held Γ [] ?_
      refine dr h0 fun w3 h3 => ?_
      refine ⟨Sat.sx (L0 := []) h3 (.refl _), ?_⟩
      refine ⟨⟨by omega, by omega⟩, ?_⟩
      refine nnFz h3 hf hn fun a4 ha4 _ => ?_
      refine ldFzH s5 hf ha4 hn (rd_slv e5) ?_
      refine ⟨⟨by omega, by omega, by have := hf.cap; omega⟩, ?_⟩
      refine stNs h3 (by repeat (first | with_reducible exact Pick.here | apply Pick.there)) fun w6 h6 => ?_
      have h6 : Sat Γ (blk r0 (.cells #[.slice s5.p s5.len s5.cap, .bool true] TH (0, 0)) :: L) w6 := h6
      refine ⟨Sat.sx (L0 := []) h6 (.refl _), ?_⟩
      refine ld (s5, true) h6 (by repeat (first | with_reducible exact Pick.here | apply Pick.there)) ?_ (hc := rd2 s5 true)
      exact ⟨((s5, true), s.sub 1 1 (s.len : Int) (s.cap : Int)), rfl, k _ _ _ b5 (Rows.tail ⟨ss, hf, he⟩) h6.drop⟩

theorem cloneRows_ok {s : Sl} {ss : List Sl} {K : Sl → World → Prop} (h : Sat Γ L w) (hf : Fz Γ s 1 (ss.map slv)) (hb : ss.length ≤ 1000000)
    (k : ∀ s' w', s'.len = ss.length → Sat Γ (Own s' 43 1 (ss.map slv) :: L) w' → K s' w') :
    CallP Try.prog 109 [.slice s.p s.len s.cap] (.one (.s .sl)) K w := by
  have hl : s.len = ss.length := by have := hf.len; simpa using this.symm
  refine callP (fn := Try.f109) [.s (.sl s)] .n nong mixed (by kernel_rfl) (by kernel_rfl) rfl rfl ?_
  refine br (fun hb0 => ?_) (fun hb0 => ?_)
  · have hp : s.p = none := by simpa using hb0
    have h0 : ss = [] := by
      apply List.eq_nil_of_length_eq_zero
      apply Classical.byContradiction
      intro h0
      obtain ⟨a, h1, _⟩ := hf.place (L := L) (by omega)
      rw [hp] at h1; cases h1
    subst h0
    exact ⟨⟨none, 0, 0⟩, rfl, k _ _ rfl h.ownNil⟩
  · refine new h fun r1 w1 h1 => ?_
    have h2 := Sat.whole (n := 0) (sz := 1) h1 rfl
    refine append slSlice2 slSlice2.self h2 .here (hf.src h2) hf.len (map_slv_one ss) (by simp; omega) fun s2 w3 hl3 h3 => ?_
    exact ⟨_, rfl, k _ _ (by rw [hl3]; simp; omega) h3⟩

theorem own_get {s : Sl} {T : TypeId} {sz : Nat} {cells : List Value} (h : Sat Γ (Own s T sz cells :: L) w) : cells.length = s.len * sz := h.own.1

/-- what Least tells while rows are merged -/
structure Told (Γ : Mem) (hs : List Hd) (n : Int) (s : Sl) (b : Bool) : Prop where
  ok : b = (hd hs (best hs)).2
  row : b = true → n = (best hs : Int) ∧ Bytes Γ s (hd hs (best hs)).1

theorem merge_least {tb b : Nat} {hs : List Hd} {g : Int} {K : (Int × Sl × Bool) → World → Prop} (h : Sat Γ (TreeP b hs g :: L) w) (ht : TreeAt Γ tb b) (h0 : 0 < hs.length) (h16 : hs.length ≤ 16)
    (k : ∀ n s c Γ' w', Γ.le Γ' → Told Γ' hs n s c → Sat Γ' (TreeP b hs g :: L) w' → K (n, s, c) w') :
    CallP Try.prog 36 [.pointer (some ⟨tb, 0, none⟩)] (.tup [.s (.int .i64), .s .sl, .s .bool]) K w :=
  Least_ok h ht h0 h16 (fun w' hb h' => k _ _ _ Γ w' (.refl _) ⟨hb.symm, fun h => by cases h⟩ h') (fun s Γ' w' hb hl hs h' => k _ _ _ Γ' w' hl ⟨hb.symm, fun _ => ⟨rfl, hs⟩⟩ h')

theorem steps_le (c : Nat) (h : c < 32) : (steps c : Int) ≤ 4 := by have := steps_small h; omega

theorem getLast_get {α : Type} (l : List α) (h : l.length ≠ 0) : l.getLast? = l[l.length - 1]? := by rw [List.getLast?_eq_getElem?]

theorem mg1 {g : Int} {s : Nat} (h : 0 ≤ g) : 0 ≤ g + (s : Int) := by omega
theorem mg2 {g B : Int} {s m t : Nat} (h : g + 4 * (m : Int) ≤ B) (hs : (s : Int) ≤ 4) (hp : t + 1 = m) : g + (s : Int) + 4 * (t : Int) ≤ B := by omega

theorem merge_ok {s : Sl} {xss : List BL} {K : (Sl × Int) → World → Prop} (h : Sat Γ L w) (hx : Rows BB Γ s xss) (hn : xss.length ≤ 1000000) (hsm : SmallL 70368744177664 xss) (ht : total xss ≤ 1000000)
    (k0 : 16 < xss.length → K (⟨none, 0, 0⟩, 1) w)
    (k : xss.length ≤ 16 → ∀ s' Γ' w', Γ.le Γ' → BB Γ' s' (mergeS (total xss) xss []) → Sat Γ' L w' → K (s', 0) w') :
    CallP Try.prog 41 [.slice s.p s.len s.cap] (.tup [.s .sl, .s (.int .i64)]) K w := by
  have hl := hx.len
  obtain ⟨ss, hf, he⟩ := hx
  have hsl := he.len
  refine callP (fn := Try.f41) [.s (.sl s)] (.p .n (.p .n (.p .n (.p .n (.p (.p .n (.b (.l [24, 23, 5, 4] [(25, .s (.int .i64))] .n))) (.p .n (.p .n (.p .n (.p (.p .n (.b (.l [8, 4] [(10, .s .sl), (11, .s (.int .i64)), (12, .s .sl), (13, .s .bool)] (.p .n (.p (.b (.j [11, 8, 4] [(10, .s .sl)] .n .n)) .n))))) .n))))))))) nong mixed (by kernel_rfl) (by kernel_rfl) rfl rfl ?_
  refine br (fun hb0 => ?_) (fun hb0 => ?_)
  · have := of_decide_eq_true hb0
    exact ⟨(⟨none, 0, 0⟩, 1), rfl, k0 (by omega)⟩
  · have h16 := of_decide_eq_false hb0
    refine cloneRows_ok h hf (by omega) fun s1 w2 hl1 h2 => ?_
    refine make slHead h2 (Nat.le_refl _) (by omega) fun s3 w4 hl4 hc4 h4 => ?_
    have e0 : (List.replicate s.len [Value.slice none 0 0, Value.bool false]).flatten = (List.replicate xss.length ((⟨none, 0, 0⟩, false) : Sl × Bool)).flatMap hcell := by
      rw [hl, List.flatMap_def, List.map_replicate]; rfl
    rw [e0] at h4
    have hlh : (xss.map hdOf).length = (List.replicate xss.length (([], false) : Hd)).length := by simp
    have hlt : (xss.map List.tail).length = xss.length := by simp
    refine loop (σ := Int) (fun i w' n => ∃ (j : Nat) (rs : List (Sl × Bool)) (ts : List Sl), i = (j : Int) ∧ j ≤ xss.length ∧ n = xss.length - j ∧ HeadsOK Γ rs (mix j (xss.map hdOf) (List.replicate xss.length (([], false) : Hd))) ∧
      Each BB Γ ts (mix j (xss.map List.tail) xss) ∧ Sat Γ (Own s3 TH 2 (rs.flatMap hcell) :: Own s1 43 1 (ts.map slv) :: L) w') xss.length
      ⟨0, _, ss, rfl, by omega, by omega, ?_, by rw [mix_zero]; exact he, h4⟩ ?_
    · rw [mix_zero]
      refine ⟨by simp, fun i r x h1 h2 => ?_⟩
      obtain ⟨e1, e2⟩ := List.mem_replicate.1 (List.mem_of_getElem? h1)
      obtain ⟨e3, e4⟩ := List.mem_replicate.1 (List.mem_of_getElem? h2)
      subst e2; subst e4
      exact ⟨.nil _ _, rfl, by simp⟩
    rintro _ w7 m7 ⟨j, rs, ts, rfl, hj, hm7, hrs, hts, h7⟩
    have hrl := hrs.len
    have htl := hts.len
    rw [mix_len hlh (by simp; omega)] at hrl
    rw [mix_len hlt (by simp; omega)] at htl
    simp only [List.length_replicate] at hrl
    refine br (fun hb8 => ?_) (fun hb8 => ?_)
    · have hj8 := of_decide_eq_true hb8
      have hj9 : j < xss.length := by omega
      have hxj : xss[j]? = some xss[j] := List.getElem?_eq_getElem hj9
      obtain ⟨s10, e10, b10⟩ := he.get hxj
      refine ⟨⟨by omega, by omega⟩, ?_⟩
      refine nnFz h7 hf (by omega) fun a9 ha9 hrd9 => ?_
      refine ldAt s10 (hrd9 _ _ _ (rd_slv e10)) ?_
      refine first_ok h7 b10 fun s11 s13 w14 b11 b13 h14 => ?_
      refine ⟨⟨by omega, by omega⟩, ?_⟩
      refine nnOwn h14 (s := s3) (T := TH) (sz := 2) (cells := rs.flatMap hcell) (by repeat (first | with_reducible exact Pick.here | apply Pick.there)) (by omega) fun a15 ha15 _ => ?_
      refine stNOwn h14 (s := s3) (T := TH) (sz := 2) (cells := rs.flatMap hcell) (vs := [.slice s11.p s11.len s11.cap, .bool (hdOf xss[j]).2]) (by repeat (first | with_reducible exact Pick.here | apply Pick.there)) ha15 (by show j * 2 + 2 ≤ _; rw [flatMap_length hcell_len]; omega) (by omega) (by intro v hv; simp at hv; rcases hv with rfl | rfl <;> rfl) fun w16 h16' => ?_
      have h16' : Sat Γ (Own s3 TH 2 (setL (rs.flatMap hcell) (j * 2) [.slice s11.p s11.len s11.cap, .bool (hdOf xss[j]).2]) :: Own s1 43 1 (ts.map slv) :: L) w16 := h16'
      rw [flat_set (by omega)] at h16'
      refine ⟨⟨by omega, by omega⟩, ?_⟩
      refine nnOwn h16' (s := s1) (T := 43) (sz := 1) (cells := ts.map slv) (by repeat (first | with_reducible exact Pick.here | apply Pick.there)) (by omega) fun a17 ha17 _ => ?_
      refine stOwn h16' (s := s1) (T := 43) (sz := 1) (cells := ts.map slv) (by repeat (first | with_reducible exact Pick.here | apply Pick.there)) ha17 (by show j * 1 < _; simp; omega) rfl fun w18 h18 => ?_
      have h18 : Sat Γ (Own s1 43 1 ((ts.map slv).set (j * 1) (slv s13)) :: Own s3 TH 2 ((rs.set j (s11, (hdOf xss[j]).2)).flatMap hcell) :: L) w18 := h18
      rw [Nat.mul_one, ← List.map_set] at h18
      refine wrN (j + 1) ?_
      refine ⟨m7 - 1, by omega, j + 1, rs.set j (s11, (hdOf xss[j]).2), ts.set j s13, ?_, by omega, by omega, ?_, ?_, h18.pick (by repeat (first | with_reducible exact Pick.here | apply Pick.there))⟩
      · rfl
      · rw [← mix_succ hlh (x := hdOf xss[j]) (by rw [List.getElem?_map, hxj]; rfl)]
        refine hrs.set b11 ?_
        have := hsm.hd j
        rw [hd_map, List.getD_eq_getElem?_getD, hxj] at this
        exact this
      · rw [← mix_succ hlt (x := xss[j].tail) (by rw [List.getElem?_map, hxj]; rfl)]
        exact hts.set b13
    · have hj8 := of_decide_eq_false hb8
      have hje : j = xss.length := by omega
      subst hje
      rw [mix_all' hlh (by simp)] at hrs
      rw [mix_all' hlt (by simp)] at hts
      obtain ⟨Γ1, g1, g2, g3⟩ := h7.freezeOwn (by omega)
      refine new_ok (hs := xss.map hdOf) g3 ⟨rs, g2, hrs.mono g1⟩ (by simpa using hn) (fun hc => ?_) (fun hc1 hc2 tb b Γ2 w21 g4 g5 h21 => ?_)
      · refine br (fun hb22 => ?_) (fun hb22 => by cases hb22)
        have : xss = [] := List.eq_nil_of_length_eq_zero (by rcases hc with hc | hc <;> rw [List.length_map] at hc <;> omega)
        subst this
        exact ⟨(⟨none, 0, 0⟩, 0), rfl, k (by simp) _ Γ1 _ g1 (.nil _ _) g3.drop⟩
      · simp only [List.length_map] at hc1 hc2 h21
        refine br (fun hb22 => by cases hb22) (fun hb22 => ?_)
        refine merge_least (hs := xss.map hdOf) h21 g5 (by rw [List.length_map]; omega) (by rw [List.length_map]; omega) fun n23 s24 b25 Γ3 w26 g6 told h26 => ?_
        have h27 : Sat Γ3 (TreeP b (xss.map hdOf) ((xss.length : Int) - 1) :: Own s1 43 1 (ts.map slv) :: Own ⟨none, 0, 0⟩ 32 1 (([] : List Sl).map slv) :: L) w26 :=
          ((h26.ownNil (T := 32) (sz := 1)).pick (A := Own s1 _ _ _) (by repeat (first | with_reducible exact Pick.here | apply Pick.there))).pick (by repeat (first | with_reducible exact Pick.here | apply Pick.there))
        refine loop (σ := Sl × Int × Sl × Bool) (fun st w' m => ∃ (Γ' : Mem) (rests : List BL) (ts outs : List Sl) (out : BL) (g : Int), Γ.le Γ' ∧ TreeAt Γ' tb b ∧ rests.length = xss.length ∧ SmallL 70368744177664 rests ∧
          Each BB Γ' ts (rests.map List.tail) ∧ Each Bytes Γ' outs out ∧ m = total rests ∧ mergeS m rests out = mergeS (total xss) xss [] ∧ out.length + m ≤ 1000000 ∧ 0 ≤ g ∧ g + 4 * (m : Int) ≤ 5000000 ∧
          Told Γ' (rests.map hdOf) st.2.1 st.2.2.1 st.2.2.2 ∧ Sat Γ' (TreeP b (rests.map hdOf) g :: Own s1 43 1 (ts.map slv) :: Own st.1 32 1 (outs.map slv) :: L) w') (total xss)
          ⟨Γ3, xss, ts, [], [], _, (g1.trans g4).trans g6, g6 _ _ g5, rfl, hsm, hts.mono bb_mono ((g1.trans g4).trans g6), .nil, rfl, rfl, by simpa using ht, by omega, by omega, told, h27⟩ ?_
        rintro ⟨s28, n29, s30, b31⟩ w32 m32 ⟨Γ5, rests, ts5, outs, out, g, q1, q2, q3, q4, q5, q6, q7, q8, q9, q10, q11, q12, h32⟩
        have h16' : rests.length ≤ 16 := by omega
        have h0' : 0 < rests.length := by omega
        have hrow : best (rests.map hdOf) < rests.length := by have := best_lt (hs := rests.map hdOf) (by simpa using h0'); simpa using this
        have hol : s28.len = out.length := by
          have e1 := own_get (h32.pick (A := Own s28 32 1 (outs.map slv)) (by repeat (first | with_reducible exact Pick.here | apply Pick.there)))
          have e2 := q6.len
          rw [List.length_map] at e1
          omega
        have htl5 := q5.len
        simp only [List.length_map] at htl5
        refine br (fun hb33 => ?_) (fun hb33 => ?_)
        · have hb33 : b31 = true := hb33
          obtain ⟨e29, bx⟩ := q12.row hb33
          have e29 : n29 = (best (rests.map hdOf) : Int) := e29
          have hok : (hd (rests.map hdOf) (best (rests.map hdOf))).2 = true := by rw [← q12.ok]; exact hb33
          subst e29
          have hpop := total_pop hok
          refine join (σ := Sl) (fun s w' => ∃ outs', Each Bytes Γ5 outs' (pushU out (hd (rests.map hdOf) (best (rests.map hdOf))).1) ∧
            Sat Γ5 (Own s 32 1 (outs'.map slv) :: TreeP b (rests.map hdOf) g :: Own s1 43 1 (ts5.map slv) :: L) w') ?_ ?_
          · have app : ∀ {K : Sl → World → Prop}, (∀ s w', Sat Γ5 (Own s 32 1 ((outs ++ [s30]).map slv) :: TreeP b (rests.map hdOf) g :: Own s1 43 1 (ts5.map slv) :: L) w' → K s w') → ∀ {r : Nat} {w36 : World} {T : TypeId},
                Sat Γ5 (blk r (.cells #[slv s30] 32 (0, 0)) :: TreeP b (rests.map hdOf) g :: Own s1 43 1 (ts5.map slv) :: Own s28 32 1 (outs.map slv) :: L) w36 →
                Prim Try.prog (Builtin.append_ #[43, 43] T #[.slice s28.p s28.len s28.cap, .slice (some ⟨r, 0, none⟩) 1 1]) (.one (.s .sl)) K w36 := by
              intro K hk r w36 T h36
              refine append slSlice slSlice.self h36 (s := s28) (cells := outs.map slv) (by repeat (first | with_reducible exact Pick.here | apply Pick.there)) (Src.one (c := [slv s30]) (n := 1) (sz := 1) h36 (by repeat (first | with_reducible exact Pick.here | apply Pick.there)) rfl) rfl (by intro v hv; simp at hv; subst hv; rfl) (by omega) fun s37 w38 hl38 h38 => hk _ _ ?_
              rw [List.map_append]
              have h39 : Sat Γ5 (blk r (.cells #[slv s30] 32 (0, 0)) :: Own s37 32 1 (outs.map slv ++ [slv s30]) :: TreeP b (rests.map hdOf) g :: Own s1 43 1 (ts5.map slv) :: L) w38 := h38.pick (by repeat (first | with_reducible exact Pick.here | apply Pick.there))
              exact h39.drop
            refine br (fun hb35 => ?_) (fun hb35 => ?_)
            · have hn0 : s28.len = 0 := by have : (s28.len : Int) = 0 := by simpa using hb35
                                           omega
              have : out = [] := List.eq_nil_of_length_eq_zero (by omega)
              refine new h32 fun r36 w36 h36 => ?_
              refine app (fun s37 w38 h38 => ?_) h36
              refine ⟨outs ++ [s30], ?_, h38⟩
              have e : pushU out (hd (rests.map hdOf) (best (rests.map hdOf))).1 = out ++ [(hd (rests.map hdOf) (best (rests.map hdOf))).1] := by rw [this]; simp [pushU]
              rw [e]
              exact q6.snoc bx
            · have hn0 : s28.len ≠ 0 := by
                intro h0
                have h0 : ((s28.len : Int) == 0) = false := hb35
                simp at h0
                omega
              refine wrN (out.length - 1) ?_ (by show (s28.len : Int) - 1 = _; omega)
              have ey : out[out.length - 1]? = some out[out.length - 1] := List.getElem?_eq_getElem (by omega)
              obtain ⟨s40, e40, b40⟩ := q6.get ey
              refine ⟨⟨by omega, by show ((out.length - 1 : Nat) : Int) < (s28.len : Int); omega⟩, ?_⟩
              refine nnOwn h32 (s := s28) (T := 32) (sz := 1) (cells := outs.map slv) (by repeat (first | with_reducible exact Pick.here | apply Pick.there)) (by omega) fun a39 ha39 hrd39 => ?_
              refine ldAt s40 ?_ ?_
              · exact hrd39 _ _ _ (rd_slv e40)
              · refine equal_ok h32 b40 bx ?_
                have el : out.getLast? = some out[out.length - 1] := by rw [List.getLast?_eq_getElem?, ey]
                refine br (fun hb43 => ?_) (fun hb43 => ?_)
                · refine new h32 fun r36 w36 h36 => ?_
                  refine app (fun s37 w38 h38 => ?_) h36
                  refine ⟨outs ++ [s30], ?_, h38⟩
                  have hne : out[out.length - 1] ≠ (hd (rests.map hdOf) (best (rests.map hdOf))).1 := by
                    have hb43 : (!(out[out.length - 1] == (hd (rests.map hdOf) (best (rests.map hdOf))).1)) = true := hb43
                    simpa using hb43
                  have e : pushU out (hd (rests.map hdOf) (best (rests.map hdOf))).1 = out ++ [(hd (rests.map hdOf) (best (rests.map hdOf))).1] := by
                    unfold pushU
                    rw [if_neg (by rw [el]; simpa using hne)]
                  rw [e]
                  exact q6.snoc bx
                · refine ⟨outs, ?_, h32.pick (by repeat (first | with_reducible exact Pick.here | apply Pick.there))⟩
                  have heq : out[out.length - 1] = (hd (rests.map hdOf) (best (rests.map hdOf))).1 := by
                    have hb43 : (!(out[out.length - 1] == (hd (rests.map hdOf) (best (rests.map hdOf))).1)) = false := hb43
                    simpa using hb43
                  have e : pushU out (hd (rests.map hdOf) (best (rests.map hdOf))).1 = out := by
                    unfold pushU
                    rw [if_pos (by rw [el, heq])]
                  rw [e]
                  exact q6
          · rintro s47 w48 ⟨outs', q13, h48⟩
            have epl := pushU_len out (hd (rests.map hdOf) (best (rests.map hdOf))).1
            refine new h48 fun r49 w49 h49 => ?_
            refine ⟨⟨by omega, by show ((best (rests.map hdOf) : Nat) : Int) < (s1.len : Int); omega⟩, ?_⟩
            have er : (rests.map List.tail)[best (rests.map hdOf)]? = some (rests.getD (best (rests.map hdOf)) []).tail := by
              rw [List.getElem?_map, List.getD_eq_getElem?_getD, List.getElem?_eq_getElem hrow]; rfl
            obtain ⟨s51, e51, b51⟩ := q5.get er
            refine nnOwn h49 (s := s1) (T := 43) (sz := 1) (cells := ts5.map slv) (by repeat (first | with_reducible exact Pick.here | apply Pick.there)) (by omega) fun a50 ha50 hrd50 => ?_
            refine ldAt s51 (hrd50 _ _ _ (rd_slv e51)) ?_
            refine first_ok h49 b51 fun s52 s54 w55 b52 b54 h55 => ?_
            refine stNs h55 (by repeat (first | with_reducible exact Pick.here | apply Pick.there)) fun w56 h56 => ?_
            have h56 : Sat Γ5 (blk r49 (.cells #[.slice s52.p s52.len s52.cap, .bool (hdOf (rests.getD (best (rests.map hdOf)) []).tail).2] TH (0, 0)) :: Own s47 32 1 (outs'.map slv) :: TreeP b (rests.map hdOf) g :: Own s1 43 1 (ts5.map slv) :: L) w56 := h56
            refine ⟨⟨by omega, by show ((best (rests.map hdOf) : Nat) : Int) < (s1.len : Int); omega⟩, ?_⟩
            refine nnOwn h56 (s := s1) (T := 43) (sz := 1) (cells := ts5.map slv) (by repeat (first | with_reducible exact Pick.here | apply Pick.there)) (by omega) fun a57 ha57 _ => ?_
            refine stOwn h56 (s := s1) (T := 43) (sz := 1) (cells := ts5.map slv) (by repeat (first | with_reducible exact Pick.here | apply Pick.there)) ha57 (by show best (rests.map hdOf) * 1 < _; simp; omega) rfl fun w58 h58 => ?_
            have h58 : Sat Γ5 (Own s1 43 1 ((ts5.map slv).set (best (rests.map hdOf) * 1) (slv s54)) :: blk r49 (.cells #[.slice s52.p s52.len s52.cap, .bool (hdOf (rests.getD (best (rests.map hdOf)) []).tail).2] TH (0, 0)) :: Own s47 32 1 (outs'.map slv) :: TreeP b (rests.map hdOf) g :: L) w58 := h58
            rw [Nat.mul_one, ← List.map_set] at h58
            refine ld (s52, (hdOf (rests.getD (best (rests.map hdOf)) []).tail).2) h58 (by repeat (first | with_reducible exact Pick.here | apply Pick.there)) ?_ (hc := rd2 _ _)
            have h59 : Sat Γ5 (TreeP b (rests.map hdOf) g :: Own s1 43 1 ((ts5.set (best (rests.map hdOf)) s54).map slv) :: Own s47 32 1 (outs'.map slv) :: L) w58 := by
              have h60 := (h58.pick (A := blk r49 _) (by repeat (first | with_reducible exact Pick.here | apply Pick.there))).drop
              exact h60.pick (by repeat (first | with_reducible exact Pick.here | apply Pick.there))
            have hsm2 : (hdOf (rests.getD (best (rests.map hdOf)) []).tail).1.length ≤ 70368744177664 := by
              have := (q4.pop (best (rests.map hdOf))).hd (best (rests.map hdOf))
              rw [hd_map] at this
              unfold pop at this
              rw [List.getD_eq_getElem?_getD, List.getElem?_set_self hrow] at this
              exact this
            refine Next_ok (hs := rests.map hdOf) (x := hdOf (rests.getD (best (rests.map hdOf)) []).tail) h59 q2 (by simpa using h0') (by simpa using h16') q10 (by omega) b52 hsm2 (fun w60 hc _ => by rw [hok] at hc; cases hc) fun Γ6 w60 _ g7 h60 => ?_
            rw [← pop_heads, List.length_map] at h60
            refine merge_least h60 (g7 _ _ q2) (by simpa [pop_len] using h0') (by simpa [pop_len] using h16') fun n61 s62 b63 Γ7 w64 g8 told' h64 => ?_
            have hst := steps_le (rests.length + best (rests.map hdOf)) (by omega)
            refine ⟨total (pop rests (best (rests.map hdOf))), by omega, Γ7, pop rests (best (rests.map hdOf)), ts5.set (best (rests.map hdOf)) s54, outs', _, _, (q1.trans g7).trans g8, g8 _ _ (g7 _ _ q2), by rw [pop_len]; exact q3, q4.pop _, ?_, q13.mono bytes_mono (g7.trans g8), rfl, ?_, by omega, ?_, ?_, told', h64⟩
            · rw [pop_tails]
              exact (q5.mono bb_mono (g7.trans g8)).set (bb_mono _ _ _ _ (g7.trans g8) b54)
            · rw [← q8, q7]
              exact (mergeS_step hok).symm
            · exact mg1 q10
            · exact mg2 q11 hst (by rw [← q7] at hpop; exact hpop)
        · have hb33 : b31 = false := hb33
          have hno : (hd (rests.map hdOf) (best (rests.map hdOf))).2 = false := by rw [← q12.ok]; exact hb33
          rw [mergeS_stop hno] at q8
          have h33 : Sat Γ5 (Own s28 32 1 (outs.map slv) :: TreeP b (rests.map hdOf) g :: Own s1 43 1 (ts5.map slv) :: L) w32 := h32.pick (by repeat (first | with_reducible exact Pick.here | apply Pick.there))
          obtain ⟨Γ6, f1, f2, f3⟩ := h33.freezeOwn (by omega)
          exact ⟨(s28, 0), rfl, k (by omega) s28 Γ6 _ (q1.trans f1) ⟨outs, f2, by rw [← q8]; exact q6.mono bytes_mono f1⟩ f3.drop.drop⟩

end Go.Proofs.Ytohoimokfgfceaa.K
