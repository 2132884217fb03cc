/-
  The reference's merge.
-/
import Derived.Test.YtohoimokfgfceaaTrH
namespace Go.Proofs.Ytohoimokfgfceaa.K
open Go Go.Proofs
variable {Γ Γ' : Mem} {L L' L'' : List HP} {w w' : World} {A B : HP}
set_option maxRecDepth 100000
set_option maxHeartbeats 4000000

/-- the row that the reference picks of the first rows -/
def pk (hs : List Hd) (n : Nat) : Int := if n = 0 then -1 else if (hd hs (bestN hs n)).2 then (bestN hs n : Int) else -1

theorem pk_range (hs : List Hd) (n : Nat) : pk hs n = -1 ∨ ∃ k : Nat, pk hs n = (k : Int) ∧ k < n ∧ (hd hs k).2 = true := by
  unfold pk
  by_cases hn : n = 0
  · rw [if_pos hn]; exact .inl rfl
  · rw [if_neg hn]
    by_cases hb : (hd hs (bestN hs n)).2 = true
    · rw [if_pos hb]; exact .inr ⟨_, rfl, bestN_lt hs n (by omega), hb⟩
    · rw [if_neg hb]; exact .inl rfl

theorem pk_skip {hs : List Hd} {n : Nat} (h : (hd hs n).2 = false) : pk hs (n + 1) = pk hs n := by
  unfold pk
  rw [if_neg (by omega)]
  have hc : ¬ cmpH (hd hs n) (hd hs (bestN hs n)) < 0 := by
    unfold cmpH
    rw [h]
    cases (hd hs (bestN hs n)).2 <;> simp
  rw [bestN_succ, if_neg hc]
  by_cases hn : n = 0
  · subst hn
    have e : bestN hs 0 = 0 := rfl
    rw [e, h]
    rfl
  · rw [if_neg hn]

theorem pk_first {hs : List Hd} {n : Nat} (h : (hd hs n).2 = true) (h0 : pk hs n < 0) : pk hs (n + 1) = n := by
  unfold pk at *
  rw [if_neg (by omega)]
  by_cases hn : n = 0
  · subst hn
    rw [bestN_one, h]
    rfl
  · rw [if_neg hn] at h0
    have hb : (hd hs (bestN hs n)).2 = false := by
      cases hb : (hd hs (bestN hs n)).2
      · rfl
      · rw [hb] at h0; simp at h0; omega
    have hc : cmpH (hd hs n) (hd hs (bestN hs n)) < 0 := by
      unfold cmpH
      rw [h, hb]
      show (-1 : Int) < 0
      decide
    rw [bestN_succ, if_pos hc, h]
    rfl

theorem pk_cmp {hs : List Hd} {n k : Nat} (h : (hd hs n).2 = true) (h0 : pk hs n = (k : Int)) : pk hs (n + 1) = if cmpB (hd hs n).1 (hd hs k).1 < 0 then (n : Int) else (k : Int) := by
  unfold pk at *
  rw [if_neg (by omega)]
  by_cases hn : n = 0
  · rw [if_pos hn] at h0; omega
  · rw [if_neg hn] at h0
    cases hb : (hd hs (bestN hs n)).2
    · rw [hb] at h0; simp at h0
    · rw [hb] at h0
      have e : bestN hs n = k := by
        have : ((bestN hs n : Nat) : Int) = (k : Int) := h0
        omega
      have hc : cmpH (hd hs n) (hd hs (bestN hs n)) = cmpB (hd hs n).1 (hd hs (bestN hs n)).1 := by
        unfold cmpH
        rw [h, hb]
      rw [bestN_succ, hc, e]
      rw [e] at hb
      by_cases hlt : cmpB (hd hs n).1 (hd hs k).1 < 0
      · rw [if_pos hlt, if_pos hlt, h]; rfl
      · rw [if_neg hlt, if_neg hlt, hb]; rfl

/-- what remains of rows of which so many are gone -/
structure Rem (xss rests : List BL) (ats : List Nat) : Prop where
  l1 : rests.length = xss.length
  l2 : ats.length = xss.length
  at_ : ∀ i x, xss[i]? = some x → ats.getD i 0 ≤ x.length ∧ rests[i]? = some (x.drop (ats.getD i 0))

theorem Rem.start (xss : List BL) : Rem xss xss (List.replicate xss.length 0) :=
  ⟨rfl, by simp, fun i x h => by
    have e : (List.replicate xss.length 0).getD i 0 = 0 := by
      rw [List.getD_eq_getElem?_getD, List.getElem?_replicate]
      split <;> rfl
    rw [e]
    simpa using h⟩

theorem Rem.pop {xss rests : List BL} {ats : List Nat} (h : Rem xss rests ats) {b : Nat} (hb : b < xss.length) (hne : (hd (rests.map hdOf) b).2 = true) : Rem xss (pop rests b) (ats.set b (ats.getD b 0 + 1)) := by
  refine ⟨by rw [pop_len]; exact h.l1, by simp [h.l2], fun i x hx => ?_⟩
  obtain ⟨h1, h2⟩ := h.at_ i x hx
  unfold K.pop
  by_cases hi : b = i
  · subst hi
    rw [hd_map, List.getD_eq_getElem?_getD, h2] at hne
    have hlt : ats.getD b 0 < x.length := by
      apply Classical.byContradiction
      intro hc
      have : x.drop (ats.getD b 0) = [] := List.drop_eq_nil_of_le (by omega)
      rw [this] at hne
      simp [hdOf] at hne
    have e : (ats.set b (ats.getD b 0 + 1)).getD b 0 = ats.getD b 0 + 1 := by
      rw [List.getD_eq_getElem?_getD, List.getElem?_set_self (by rw [h.l2]; exact hb)]
      rfl
    rw [e]
    refine ⟨by omega, ?_⟩
    rw [List.getElem?_set_self (by rw [h.l1]; exact hb), List.getD_eq_getElem?_getD (l := rests), h2]
    simp
  · have e : (ats.set b (ats.getD b 0 + 1)).getD i 0 = ats.getD i 0 := by
      rw [List.getD_eq_getElem?_getD, List.getElem?_set_ne hi, List.getD_eq_getElem?_getD]
    rw [e]
    exact ⟨h1, by rw [List.getElem?_set_ne hi]; exact h2⟩

/-- a row's head, read where the row stands -/
theorem Rem.head {xss rests : List BL} {ats : List Nat} (h : Rem xss rests ats) {i : Nat} {x : BL} (hx : xss[i]? = some x) :
    (hd (rests.map hdOf) i).2 = decide (ats.getD i 0 < x.length) ∧ (ats.getD i 0 < x.length → x[ats.getD i 0]? = some (hd (rests.map hdOf) i).1) := by
  obtain ⟨h1, h2⟩ := h.at_ i x hx
  rw [hd_map, List.getD_eq_getElem?_getD (l := rests), h2]
  show (hdOf (x.drop (ats.getD i 0))).2 = _ ∧ (_ → _ = some (hdOf (x.drop (ats.getD i 0))).1)
  by_cases hlt : ats.getD i 0 < x.length
  · rw [List.drop_eq_getElem_cons hlt, decide_eq_true hlt]
    exact ⟨rfl, fun _ => List.getElem?_eq_getElem hlt⟩
  · have : x.drop (ats.getD i 0) = [] := List.drop_eq_nil_of_le (by omega)
    rw [this, decide_eq_false hlt]
    exact ⟨rfl, fun hc => absurd hc hlt⟩

theorem le_sum : ∀ {l : List Nat} {x : Nat}, x ∈ l → x ≤ l.sum
  | y :: r, x, h => by
    rw [List.sum_cons]
    rcases List.mem_cons.1 h with rfl | h
    · omega
    · have := le_sum h
      omega

theorem rd_at {ats : List Nat} {i : Nat} (h : i < ats.length) : ats[i]? = some (ats.getD i 0) := by
  rw [List.getD_eq_getElem?_getD, List.getElem?_eq_getElem h]
  rfl

theorem rmerge_ok {s : Sl} {xss : List BL} {K : (Sl × Int) → World → Prop} (h : Sat Γ L w) (hx : Rows BB Γ s xss) (hn : xss.length ≤ 1000000) (hsm : SmallL 70368744177664 xss) (ht : total xss ≤ 1000000)
    (k0 : 16 < xss.length → K (⟨none, 0, 0⟩, 1) w)
    (k : xss.length ≤ 16 → ∀ s' Γ' w', Γ.le Γ' → BB Γ' s' (mergeS (total xss) xss []) → Sat Γ' L w' → K (s', 0) w') :
    CallP Try.prog 43 [.slice s.p s.len s.cap] (.tup [.s .sl, .s (.int .i64)]) K w := by
  have hl := hx.len
  obtain ⟨ss, hf, he⟩ := hx
  have hsl := he.len
  refine callP (fn := Try.f43) [.s (.sl s)] (.p .n (.p .n (.p .n (.p .n (.b (.l [0, 4] [(5, .s .sl)] (.k [0, 4] [(5, .s .sl)] (.p .n (.p (.p .n (.b (.l [0, 4, 5] [(6, .s (.int .i64)), (7, .s (.int .i64))] (.p .n (.p (.k [7, 0, 4, 5] [(6, .s (.int .i64))] (.p .s .n)) .n))))) (.p .n (.p .s (.p .n (.p .s .n))))))))))))) nong mixed (by kernel_rfl) (by kernel_rfl) rfl rfl ?_
  refine br (fun hb0 => ?_) (fun hb0 => ?_)
  · have := of_decide_eq_true hb0
    exact ⟨(⟨none, 0, 0⟩, 1), rfl, k0 (by omega)⟩
  have h16 := of_decide_eq_false hb0
  refine make slInt h (Nat.le_refl _) (by omega) fun s1 w2 hl2 hc2 h2 => ?_
  have e0 : (List.replicate s.len [Value.int .i64 0]).flatten = (List.replicate xss.length 0).map iv := by rw [hl]; simp [iv]
  rw [e0] at h2
  have h3 : Sat Γ (Own s1 TI 1 ((List.replicate xss.length 0).map iv) :: Own ⟨none, 0, 0⟩ 32 1 (([] : List Sl).map slv) :: L) w2 := (h2.ownNil (T := 32) (sz := 1)).pick (by repeat (first | with_reducible exact Pick.here | apply Pick.there))
  refine loop (σ := Sl) (fun st w' m => ∃ (Γ' : Mem) (rests : List BL) (ats : List Nat) (outs : List Sl) (out : BL), Γ.le Γ' ∧ Rem xss rests ats ∧ SmallL 70368744177664 rests ∧ Each Bytes Γ' outs out ∧ m = total rests ∧
    mergeS m rests out = mergeS (total xss) xss [] ∧ out.length + m ≤ 1000000 ∧ Sat Γ' (Own s1 TI 1 (ats.map iv) :: Own st 32 1 (outs.map slv) :: L) w') (total xss)
    ⟨Γ, xss, _, [], [], .refl Γ, .start xss, hsm, .nil, rfl, rfl, by simpa using ht, h3⟩ ?_
  rintro s4 w5 m5 ⟨Γ5, rests, ats, outs, out, g1, hrem, hsm5, hout, hm5, hmg, hln, h5⟩
  have hal := hrem.l2
  have hol : s4.len = out.length := by
    have e1 := own_get (h5.pick (A := Own s4 32 1 (outs.map slv)) (by repeat (first | with_reducible exact Pick.here | apply Pick.there)))
    have e2 := hout.len
    rw [List.length_map] at e1
    omega
  have hf5 := hf.mono g1
  have he5 := he.mono bb_mono g1
  have hhl : (rests.map hdOf).length = xss.length := by rw [List.length_map]; exact hrem.l1
  have hone : ∀ i, i < xss.length → ∃ s10, ss[i]? = some s10 ∧ BB Γ5 s10 (xss.getD i []) ∧ xss[i]? = some (xss.getD i []) := by
    intro i hi
    have hxi : xss[i]? = some (xss.getD i []) := by rw [List.getD_eq_getElem?_getD, List.getElem?_eq_getElem hi]; rfl
    obtain ⟨s10, e10, b10⟩ := he5.get hxi
    exact ⟨s10, e10, b10, hxi⟩
  refine joinI ?_
  refine loop (σ := Int × Int) (fun st w' n => ∃ i : Nat, st = (pk (rests.map hdOf) i, (i : Int)) ∧ i ≤ xss.length ∧ n = xss.length - i ∧
    Sat Γ5 (Own s1 TI 1 (ats.map iv) :: Own s4 32 1 (outs.map slv) :: L) w') xss.length ⟨0, rfl, by omega, rfl, h5⟩ ?_
  rintro _ w10 m10 ⟨i, rfl, hi, hm10, h10⟩
  refine br (fun hb11 => ?_) (fun hb11 => ?_)
  · have hi11 : (i : Int) < (s.len : Int) := of_decide_eq_true hb11
    have hi12 : i < xss.length := by omega
    obtain ⟨s17, e17, b17, x17⟩ := hone i hi12
    obtain ⟨hd1, hd2⟩ := hrem.head x17
    have hl17 := b17.len
    refine join (σ := Int) (fun v w' => v = pk (rests.map hdOf) (i + 1) ∧ Sat Γ5 (Own s1 TI 1 (ats.map iv) :: Own s4 32 1 (outs.map slv) :: L) w') ?_ ?_
    · refine dr h10 fun w13 h13 => ?_
      refine ⟨⟨by omega, by show (i : Int) < (s1.len : Int); omega⟩, ?_⟩
      refine nnOwn h13 (s := s1) (T := TI) (sz := 1) (cells := ats.map iv) (by repeat (first | with_reducible exact Pick.here | apply Pick.there)) (by omega) fun a14 ha14 hrd14 => ?_
      refine ldAt ((ats.getD i 0 : Nat) : Int) (hrd14 _ _ _ (rd_int (rd_at (by omega)))) ?_
      refine ⟨⟨by omega, hi11⟩, ?_⟩
      refine nnFz h13 hf5 (by omega) fun a16 ha16 hrd16 => ?_
      refine ldAt s17 (hrd16 _ _ _ (rd_slv e17)) ?_
      refine br (fun hb18 => ?_) (fun hb18 => ?_)
      · have hlt : ((ats.getD i 0 : Nat) : Int) < (s17.len : Int) := of_decide_eq_true hb18
        have hlt' : ats.getD i 0 < (xss.getD i []).length := by omega
        have hok : (hd (rests.map hdOf) i).2 = true := by rw [hd1]; exact decide_eq_true hlt'
        refine br (fun hb19 => ?_) (fun hb19 => ?_)
        · have hneg : pk (rests.map hdOf) i < 0 := of_decide_eq_true hb19
          exact ⟨(pk_first hok hneg).symm, h13⟩
        · have hneg : ¬ pk (rests.map hdOf) i < 0 := of_decide_eq_false hb19
          rcases pk_range (rests.map hdOf) i with h0 | ⟨k', hk, hki, hkok⟩
          · omega
          obtain ⟨s28, e28, b28, x28⟩ := hone k' (by omega)
          obtain ⟨hd3, hd4⟩ := hrem.head x28
          have hl28 := b28.len
          have hlt2 : ats.getD k' 0 < (xss.getD k' []).length := of_decide_eq_true (by rw [← hd3]; exact hkok)
          refine ⟨⟨by omega, hi11⟩, ?_⟩
          refine ⟨a16, ha16, ?_⟩
          refine ldAt s17 (hrd16 _ _ _ (rd_slv e17)) ?_
          refine ⟨⟨by omega, by show (i : Int) < (s1.len : Int); omega⟩, ?_⟩
          refine ⟨a14, ha14, ?_⟩
          refine ldAt ((ats.getD i 0 : Nat) : Int) (hrd14 _ _ _ (rd_int (rd_at (by omega)))) ?_
          refine ⟨⟨by omega, hlt⟩, ?_⟩
          obtain ⟨ss17, f17, q17⟩ := b17
          obtain ⟨s25, e25, b25⟩ := q17.get (hd2 hlt')
          refine nnFz h13 f17 (by omega) fun a24 ha24 hrd24 => ?_
          refine ldAt s25 (hrd24 _ _ _ (rd_slv e25)) ?_
          refine btoS h13 b25 ?_
          refine ⟨⟨by show 0 ≤ pk (rests.map hdOf) i; omega, by show pk (rests.map hdOf) i < (s.len : Int); omega⟩, ?_⟩
          refine ⟨a16, ha16, ?_⟩
          refine ldAt s28 ?_ ?_
          · show rdSh w13 (a16.add ((pk (rests.map hdOf) i).toNat * 1)) _ _
            rw [hk]
            exact hrd16 _ _ _ (rd_slv e28)
          refine ⟨⟨by show 0 ≤ pk (rests.map hdOf) i; omega, by show pk (rests.map hdOf) i < (s1.len : Int); omega⟩, ?_⟩
          refine ⟨a14, ha14, ?_⟩
          refine ldAt ((ats.getD k' 0 : Nat) : Int) ?_ ?_
          · show rdSh w13 (a14.add ((pk (rests.map hdOf) i).toNat * 1)) _ _
            rw [hk]
            exact hrd14 _ _ _ (rd_int (rd_at (by omega)))
          refine ⟨⟨by omega, by omega⟩, ?_⟩
          obtain ⟨ss28, f28, q28⟩ := b28
          obtain ⟨s32, e32, b32⟩ := q28.get (hd4 hlt2)
          refine nnFz h13 f28 (by omega) fun a31 ha31 hrd31 => ?_
          refine ldAt s32 (hrd31 _ _ _ (rd_slv e32)) ?_
          refine btoS h13 b32 ?_
          have hpk := pk_cmp hok hk
          refine br (fun hb34 => ?_) (fun hb34 => ?_)
          · have hb34 : Op.bytesLess (str (hd (rests.map hdOf) i).1).toList (str (hd (rests.map hdOf) k').1).toList = true := hb34
            rw [str_toList, str_toList, bytesLess_cmpB] at hb34
            rw [if_pos (of_decide_eq_true hb34)] at hpk
            exact ⟨hpk.symm, h13⟩
          · have hb34 : Op.bytesLess (str (hd (rests.map hdOf) i).1).toList (str (hd (rests.map hdOf) k').1).toList = false := hb34
            rw [str_toList, str_toList, bytesLess_cmpB] at hb34
            rw [if_neg (of_decide_eq_false hb34)] at hpk
            exact ⟨hk.trans hpk.symm, h13⟩
      · have hlt : ¬ ((ats.getD i 0 : Nat) : Int) < (s17.len : Int) := of_decide_eq_false hb18
        have hok : (hd (rests.map hdOf) i).2 = false := by rw [hd1]; exact decide_eq_false (by omega)
        exact ⟨(pk_skip hok).symm, h13⟩
    · rintro _ w36 ⟨rfl, h36⟩
      refine wrN (i + 1) ?_
      exact ⟨xss.length - (i + 1), by omega, i + 1, rfl, by omega, rfl, h36⟩
  · have hi11 : ¬ (i : Int) < (s.len : Int) := of_decide_eq_false hb11
    have hie : i = (rests.map hdOf).length := by omega
    have hpk : pk (rests.map hdOf) i = if (hd (rests.map hdOf) (best (rests.map hdOf))).2 then (best (rests.map hdOf) : Int) else -1 := by
      rw [hie]
      unfold pk
      rw [bestN_all]
      by_cases h0 : (rests.map hdOf).length = 0
      · rw [if_pos h0]
        have : rests.map hdOf = [] := List.eq_nil_of_length_eq_zero h0
        rw [this]
        rfl
      · rw [if_neg h0]
    refine br (fun hb37 => ?_) (fun hb37 => ?_)
    · have hneg : pk (rests.map hdOf) i < 0 := of_decide_eq_true hb37
      have hno : (hd (rests.map hdOf) (best (rests.map hdOf))).2 = false := by
        cases hb : (hd (rests.map hdOf) (best (rests.map hdOf))).2
        · rfl
        · rw [hpk, hb] at hneg
          have : ((best (rests.map hdOf) : Nat) : Int) < 0 := hneg
          omega
      rw [mergeS_stop hno] at hmg
      have h33 : Sat Γ5 (Own s4 32 1 (outs.map slv) :: Own s1 TI 1 (ats.map iv) :: L) w10 := h10.pick (by repeat (first | with_reducible exact Pick.here | apply Pick.there))
      obtain ⟨Γ6, f1, f2, f3⟩ := h33.freezeOwn (by omega)
      exact ⟨(s4, 0), rfl, k (by omega) s4 Γ6 _ (g1.trans f1) ⟨outs, f2, by rw [← hmg]; exact hout.mono bytes_mono f1⟩ f3.drop⟩
    · have hneg : ¬ pk (rests.map hdOf) i < 0 := of_decide_eq_false hb37
      have hok : (hd (rests.map hdOf) (best (rests.map hdOf))).2 = true := by
        cases hb : (hd (rests.map hdOf) (best (rests.map hdOf))).2
        · rw [hpk, hb] at hneg
          exact absurd (show (-1 : Int) < 0 by decide) hneg
        · rfl
      rw [hok] at hpk
      have hpk : pk (rests.map hdOf) i = (best (rests.map hdOf) : Int) := hpk
      have hbl : best (rests.map hdOf) < xss.length := by
        rcases pk_range (rests.map hdOf) i with h0 | ⟨k', hk, hki, _⟩
        · omega
        · omega
      generalize hB : best (rests.map hdOf) = bb at hok hpk hbl
      have hstep := mergeS_step (out := out) (by rw [hB]; exact hok)
      rw [hB] at hstep
      have hpop := total_pop hok
      obtain ⟨s40, e40, b40, x40⟩ := hone bb hbl
      obtain ⟨hd1, hd2⟩ := hrem.head x40
      have hl40 := b40.len
      have hlt : ats.getD bb 0 < (xss.getD bb []).length := of_decide_eq_true (by rw [← hd1]; exact hok)
      have htt : ats.getD bb 0 < 1000000 := by
        have : (xss.getD bb []).length ≤ total xss := by
          have hmem : xss.getD bb [] ∈ xss := List.mem_of_getElem? x40
          unfold total
          exact le_sum (List.mem_map_of_mem hmem)
        omega
      refine dr h10 fun w38 h38 => ?_
      refine ⟨⟨by show 0 ≤ pk (rests.map hdOf) i; omega, by show pk (rests.map hdOf) i < (s.len : Int); omega⟩, ?_⟩
      refine nnFz h38 hf5 (by omega) fun a39 ha39 hrd39 => ?_
      refine ldAt s40 ?_ ?_
      · show rdSh w38 (a39.add ((pk (rests.map hdOf) i).toNat * 1)) _ _
        rw [hpk]
        exact hrd39 _ _ _ (rd_slv e40)
      refine ⟨⟨by show 0 ≤ pk (rests.map hdOf) i; omega, by show pk (rests.map hdOf) i < (s1.len : Int); omega⟩, ?_⟩
      refine nnOwn h38 (s := s1) (T := TI) (sz := 1) (cells := ats.map iv) (by repeat (first | with_reducible exact Pick.here | apply Pick.there)) (by omega) fun a41 ha41 hrd41 => ?_
      have hcell : rdSh w38 (a41.add ((pk (rests.map hdOf) i).toNat * 1)) (.s (.int .i64)) ((ats.getD bb 0 : Nat) : Int) := by
        rw [hpk]
        exact hrd41 _ _ _ (rd_int (rd_at (by omega)))
      refine ldAt ((ats.getD bb 0 : Nat) : Int) hcell ?_
      refine ⟨⟨by omega, by omega⟩, ?_⟩
      obtain ⟨ss40, f40, q40⟩ := b40
      obtain ⟨s44, e44, b44⟩ := q40.get (hd2 hlt)
      refine nnFz h38 f40 (by omega) fun a43 ha43 hrd43 => ?_
      refine ldAt s44 (hrd43 _ _ _ (rd_slv e44)) ?_
      refine ⟨⟨by show 0 ≤ pk (rests.map hdOf) i; omega, by show pk (rests.map hdOf) i < (s1.len : Int); omega⟩, ?_⟩
      refine ⟨a41, ha41, ?_⟩
      refine ldAt ((ats.getD bb 0 : Nat) : Int) hcell ?_
      refine wrN (ats.getD bb 0 + 1) ?_
      refine ⟨⟨by show 0 ≤ pk (rests.map hdOf) i; omega, by show pk (rests.map hdOf) i < (s1.len : Int); omega⟩, ?_⟩
      refine ⟨a41, ha41, ?_⟩
      refine stOwn h38 (s := s1) (T := TI) (sz := 1) (cells := ats.map iv) (by repeat (first | with_reducible exact Pick.here | apply Pick.there)) ha41 (by show (pk (rests.map hdOf) i).toNat * 1 < _; rw [hpk]; simp; omega) rfl fun w48 h48 => ?_
      have h48 : Sat Γ5 (Own s1 TI 1 ((ats.map iv).set ((pk (rests.map hdOf) i).toNat * 1) (iv (ats.getD bb 0 + 1))) :: Own s4 32 1 (outs.map slv) :: L) w48 := h48
      rw [hpk, Int.toNat_natCast, map_iv_set] at h48
      have hrem' := hrem.pop hbl hok
      have hx44 : (hd (rests.map hdOf) bb).1.length ≤ 70368744177664 := hsm5.hd bb
      have fin : ∀ {Γ6 : Mem} {outs' : List Sl} {s' : Sl} {w' : World}, Γ5.le Γ6 → Each Bytes Γ6 outs' (pushU out (hd (rests.map hdOf) bb).1) → Sat Γ6 (Own s1 TI 1 ((ats.set bb (ats.getD bb 0 + 1)).map iv) :: Own s' 32 1 (outs'.map slv) :: L) w' →
          ∃ m, m < m5 ∧ ∃ (Γ' : Mem) (rests : List BL) (ats : List Nat) (outs : List Sl) (out : BL), Γ.le Γ' ∧ Rem xss rests ats ∧ SmallL 70368744177664 rests ∧ Each Bytes Γ' outs out ∧ m = total rests ∧
          mergeS m rests out = mergeS (total xss) xss [] ∧ out.length + m ≤ 1000000 ∧ Sat Γ' (Own s1 TI 1 (ats.map iv) :: Own s' 32 1 (outs.map slv) :: L) w' := by
        intro Γ6 outs' s' w' g6 ho hs
        have epl := pushU_len out (hd (rests.map hdOf) bb).1
        refine ⟨total (pop rests bb), by omega, Γ6, pop rests bb, _, outs', _, g1.trans g6, hrem', hsm5.pop bb, ho, rfl, ?_, by omega, hs⟩
        rw [← hmg, hm5]
        exact hstep.symm
      have app : ∀ {K : Sl → World → Prop} {s52 : Sl} {w53 : World} (Γ6 : Mem), Γ5.le Γ6 → Bytes Γ6 s52 (hd (rests.map hdOf) bb).1 → (∀ s w', Sat Γ6 (Own s1 TI 1 ((ats.set bb (ats.getD bb 0 + 1)).map iv) :: Own s 32 1 ((outs ++ [s52]).map slv) :: L) w' → K s w') → ∀ {r : Nat} {T : TypeId},
            Sat Γ6 (blk r (.cells #[slv s52] 32 (0, 0)) :: Own s1 TI 1 ((ats.set bb (ats.getD bb 0 + 1)).map iv) :: Own s4 32 1 (outs.map slv) :: L) w53 →
            Prim Try.prog (Builtin.append_ #[43, 43] T #[.slice s4.p s4.len s4.cap, .slice (some ⟨r, 0, none⟩) 1 1]) (.one (.s .sl)) K w53 := by
        intro K s52 w53 Γ6 g6 b52 hk r T h36
        refine append slSlice slSlice.self h36 (s := s4) (cells := outs.map slv) (by repeat (first | with_reducible exact Pick.here | apply Pick.there)) (Src.one (c := [slv s52]) (n := 1) (sz := 1) h36 (by repeat (first | with_reducible exact Pick.here | apply Pick.there)) rfl) rfl (by intro v hv; simp at hv; subst hv; rfl) (by omega) fun s37 w38 hl38 h38 => hk _ _ ?_
        rw [List.map_append]
        have h39 : Sat Γ6 (blk r (.cells #[slv s52] 32 (0, 0)) :: Own s1 TI 1 ((ats.set bb (ats.getD bb 0 + 1)).map iv) :: Own s37 32 1 (outs.map slv ++ [slv s52]) :: L) w38 := (h38.pick (A := Own s1 _ _ _) (by repeat (first | with_reducible exact Pick.here | apply Pick.there))).pick (by repeat (first | with_reducible exact Pick.here | apply Pick.there))
        exact h39.drop
      refine dr h48 fun w49 h49 => ?_
      refine br (fun hb50 => ?_) (fun hb50 => ?_)
      · have hn0 : s4.len = 0 := by have : (s4.len : Int) = 0 := by simpa using hb50
                                    omega
        have hnil : out = [] := List.eq_nil_of_length_eq_zero (by omega)
        refine new h49 fun r51 w51 h51 => ?_
        have h52 := Sat.whole (n := 0) (sz := 1) h51 rfl
        refine append slBytes slBytes.self h52 .here (b44.src h52) (by simp) (map_bv_one _) (by simpa using hx44) fun s52 w53 hl53 h53 => ?_
        obtain ⟨Γ6, g6, g7, g8⟩ := h53.freezeOwn (by rw [hl53]; simp; omega)
        have b52 : Bytes Γ6 s52 (hd (rests.map hdOf) bb).1 := by simpa [Bytes] using g7
        refine new g8 fun r54 w54 h54 => ?_
        refine app Γ6 g6 b52 (fun s37 w38 h38 => ?_) h54
        refine fin g6 ?_ h38
        have e : pushU out (hd (rests.map hdOf) bb).1 = out ++ [(hd (rests.map hdOf) bb).1] := by rw [hnil]; simp [pushU]
        rw [e]
        exact (hout.mono bytes_mono g6).snoc b52
      · have hn0 : s4.len ≠ 0 := by
          intro h0
          have h0 : ((s4.len : Int) == 0) = false := hb50
          simp at h0
          omega
        refine wrN (out.length - 1) ?_ (by show (s4.len : Int) - 1 = _; omega)
        have ey : out[out.length - 1]? = some out[out.length - 1] := List.getElem?_eq_getElem (by omega)
        obtain ⟨s58, e58, b58⟩ := hout.get ey
        have el : out.getLast? = some out[out.length - 1] := by rw [List.getLast?_eq_getElem?, ey]
        refine ⟨⟨by omega, by show ((out.length - 1 : Nat) : Int) < (s4.len : Int); omega⟩, ?_⟩
        refine nnOwn h49 (s := s4) (T := 32) (sz := 1) (cells := outs.map slv) (by repeat (first | with_reducible exact Pick.here | apply Pick.there)) (by omega) fun a57 ha57 hrd57 => ?_
        refine ldAt s58 ?_ ?_
        · exact hrd57 _ _ _ (rd_slv e58)
        refine btoS h49 b58 ?_
        refine btoS h49 b44 ?_
        refine br (fun hb61 => ?_) (fun hb61 => ?_)
        · have hb61 : (!((str out[out.length - 1]).toList == (str (hd (rests.map hdOf) bb).1).toList)) = true := hb61
          rw [str_toList, str_toList] at hb61
          have hne : out[out.length - 1] ≠ (hd (rests.map hdOf) bb).1 := by simpa using hb61
          refine new h49 fun r51 w51 h51 => ?_
          have h52 := Sat.whole (n := 0) (sz := 1) h51 rfl
          refine append slBytes slBytes.self h52 .here (b44.src h52) (by simp) (map_bv_one _) (by simpa using hx44) fun s52 w53 hl53 h53 => ?_
          obtain ⟨Γ6, g6, g7, g8⟩ := h53.freezeOwn (by rw [hl53]; simp; omega)
          have b52 : Bytes Γ6 s52 (hd (rests.map hdOf) bb).1 := by simpa [Bytes] using g7
          refine new g8 fun r54 w54 h54 => ?_
          refine app Γ6 g6 b52 (fun s37 w38 h38 => ?_) h54
          refine fin g6 ?_ h38
          have e : pushU out (hd (rests.map hdOf) bb).1 = out ++ [(hd (rests.map hdOf) bb).1] := by
            unfold pushU
            rw [if_neg (by rw [el]; simpa using hne)]
          rw [e]
          exact (hout.mono bytes_mono g6).snoc b52
        · have hb61 : (!((str out[out.length - 1]).toList == (str (hd (rests.map hdOf) bb).1).toList)) = false := hb61
          rw [str_toList, str_toList] at hb61
          have heq : out[out.length - 1] = (hd (rests.map hdOf) bb).1 := by simpa using hb61
          refine fin (.refl _) ?_ h49
          have e : pushU out (hd (rests.map hdOf) bb).1 = out := by
            unfold pushU
            rw [if_pos (by rw [el, heq])]
          rw [e]
          exact hout

end Go.Proofs.Ytohoimokfgfceaa.K
