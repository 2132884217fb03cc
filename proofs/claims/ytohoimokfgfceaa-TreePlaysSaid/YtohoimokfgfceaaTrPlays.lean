/-
  TreePlays: which row goes on with the least, and how many were held against each other, is the document's, whatever comes. No condition.
-/
import Derived.Test.YtohoimokfgfceaaTrS
import Derived.Test.YtohoimokfgfceaaTrU
namespace Go.Proofs.Ytohoimokfgfceaa.K
open Go Go.Proofs Go.ChangeShapes Go.WideShapes Go.ChangeAt Go.RowKit
variable {Γ Γ' : Mem} {L L' L'' : List HP} {w w' : World} {A B : HP}
set_option maxRecDepth 100000
set_option maxHeartbeats 4000000

theorem law_plays {s t : Sl} {l nx : List Hd} {K : Bool → World → Prop} (h : Sat Γ L w) (hl : Lst eHead Γ s l) (hx : Lst eHead Γ t nx) (k : ∀ Γ' w', Γ.le Γ' → Sat Γ' L w' → K true w') :
    CallP Try.prog 3 [.slice s.p s.len s.cap, .slice t.p t.len t.cap] (.one (.s .bool)) K w := by
  refine callP (fn := Try.f3) [.s (.sl s), .s (.sl t)] (.p .n (.p .n (.p .n (.p .n (.j [1, 5, 6, 8] [] .n (.p .n (.p (.p .n (.b (.l [55, 54, 5, 6, 8] [(56, .s (.int .i64))] (.p .n (.p .n (.p (.k [56, 55, 54, 5, 6, 8] [] (.p .n (.p .n (.p .n (.p (.h [0, 1, 2, 3, 4, 5, 6, 7, 8, 9, 10, 11, 12, 13, 14, 15, 16, 18, 19, 20, 21, 17, 22, 23, 24, 25, 26, 28, 29, 27, 30, 31, 32] [30]) .n))))) .n)))))) (.p .n (.p .n (.p (.h [0, 1, 2, 3, 4, 5, 6, 7, 8, 9, 10, 11, 12, 13, 14, 15, 16, 17, 18, 19, 21, 22, 23, 24, 20, 25, 26, 27] []) .n)))))))))) nong mixed (by kernel_rfl) (by kernel_rfl) rfl rfl ?_
  have hfl := fewL_len 100 nx
  obtain ⟨lhl, mhl, chl⟩ := hl.lens
  obtain ⟨lhx, mhx, chx⟩ := hx.lens
  refine shown12_ok h (fun aΓ1 _ ag3 h => ?_)
  have hl := hl.mono ag3
  have hx := hx.mono ag3
  refine few_ok h hl (fun av6 aΓ7 _ ag9 af10 h => ?_)
  have hl := hl.mono ag9
  have hx := hx.mono ag9
  obtain ⟨laf10, maf10, caf10⟩ := af10.lens
  refine newF_ok h af10 (fun ap13 => ?_) (fun ap14 ap15 av16 av17 aΓ18 _ ag20 ap21 h => ?_)
  refine few_ok h hl (fun av24 aΓ25 _ ag27 af28 h => ?_)
  have af10 := af10.mono ag27
  have hl := hl.mono ag27
  have hx := hx.mono ag27
  obtain ⟨laf28, maf28, caf28⟩ := af28.lens
  refine rnewF_ok h af28 (fun ap31 => ?_) (fun ap32 ap33 av34 _ h => ?_)
  refine joinI ?_
  refine brF ?_
  refine brF ?_
  refine brT ?_
  refine ⟨_, rfl, ?_⟩
  refine k _ _ (ag3.trans (ag9.trans ag27)) h
  refine joinI ?_
  refine brT ?_
  refine ⟨_, rfl, ?_⟩
  (exfalso; omega)
  have af10 := af10.mono ag20
  have hl := hl.mono ag20
  have hx := hx.mono ag20
  refine few_ok h hl (fun av39 aΓ40 _ ag42 af43 h => ?_)
  have ap21 := ap21.mono ag42
  have af10 := af10.mono ag42
  have hl := hl.mono ag42
  have hx := hx.mono ag42
  obtain ⟨laf43, maf43, caf43⟩ := af43.lens
  refine rnewF_ok h af43 (fun ap46 => ?_) (fun ap47 ap48 av49 _ h => ?_)
  refine joinI ?_
  refine brT ?_
  refine ⟨_, rfl, ?_⟩
  (exfalso; omega)
  refine joinI ?_
  refine brF ?_
  refine brF ?_
  refine brF ?_
  refine some_ok h hx (fun av53 _ ap55 h => ?_)
  refine new h fun ar57 _ h => ?_
  refine app1 (⟨none, 0, 0⟩, _) ([], _) slHead h .n0 ⟨.nil _ _, rfl⟩ (fun as58 _ al58 h => ?_)
  rotate_left
  have hsm : ∀ x ∈ fewL 100 nx ++ [(([] : List UInt8), false)], x.1.length ≤ 50 := by
    intro x hx
    rcases List.mem_append.1 hx with hx | hx
    · exact fewL_small x hx
    · simp at hx; rw [hx]; exact Nat.zero_le _
  have hln : (fewL 100 nx ++ [(([] : List UInt8), false)]).length = (fewL 100 nx).length + 1 := by simp
  generalize fewL 100 nx ++ [(([] : List UInt8), false)] = N at h hsm hln
  refine loop (σ := Int) (fun st w' n => ∃ (i : Nat) (Γ' : Mem) (hs : List Hd) (g : Int), st = (i : Int) ∧ i ≤ N.length ∧ n = N.length - i ∧ aΓ40.le Γ' ∧ hs.length = (fewL 20 l).length ∧ 0 ≤ g ∧ g ≤ 16 + 5 * (i : Int) ∧
    Sat Γ' (OL eHead TH as58 N :: RefP av49 hs g :: TreeP av17 hs g :: L) w') N.length ⟨0, aΓ40, fewL 20 l, _, rfl, by omega, by omega, .refl _, rfl, by omega, by omega, h⟩ ?_
  rintro _ w n ⟨i, Γ6, hs, g, rfl, hi, hn, g6, hsl, hg0, hg1, h⟩
  have ht := ap21.mono g6
  have hbl := best_lt (hs := hs) (by omega)
  have hst := steps_le (hs.length + best hs) (by omega)
  by_cases hlt : i < N.length
  · obtain ⟨x, ex⟩ := get_lt hlt
    have hxs := hsm x (List.mem_of_getElem? ex)
    cases hb : (hd hs (best hs)).2
    · have af43 := af43.mono g6
      have ap21 := ap21.mono g6
      have af10 := af10.mono g6
      have hl := hl.mono g6
      have hx := hx.mono g6
      refine brD (fun bb0 => ?_) (fun bb0 => by exfalso; omega)
      refine joinI ?_
      refine ⟨by omega, ?_⟩
      refine nnO h .n0 (fun ba1 bha1 => ?_)
      refine ldO h .n0 bha1 ex (fun by2 bhy2 => ?_)
      obtain ⟨by2, by2b⟩ := by2
      obtain ⟨bhy2, bhy2b⟩ := bhy2
      have bhy2 : Bytes _ by2 x.1 := bhy2
      have bhy2b : by2b = x.2 := bhy2b
      subst bhy2b
      dsimp only at bhy2b
      dsimp only at bhy2
      obtain ⟨lbhy2, mbhy2, cbhy2⟩ := bhy2.lens
      refine new h fun br3 _ h => ?_
      refine stNs h .n0 fun _ h => ?_
      refine Least_f_ok (h.pick .n3) ap21 (by omega) (by omega) hb (fun _ h => ?_)
      refine rLeast_f_ok (h.pick .n3) (by omega) (by omega) hb (fun _ h => ?_)
      refine heldS h (.cons .n0 (.cons .n0 (.cons .n0 (.cons .n0 .nil)))) ?_
      refine dr h fun _ h => ?_
      refine ⟨h.sxs (.cons .n0 (.cons .n0 (.cons .n0 (.cons .n0 .nil)))) (.refl _), ?_⟩
      refine brF ?_
      refine btoSH (.nil _ _) ?_
      refine btoSH (.nil _ _) ?_
      refine brSn (fun bb10 => absurd rfl bb10) (fun bb10 => ?_)
      refine brF ?_
      refine ⟨_, rfl, ?_⟩
      rw [beq_self_eq_true]
      rw [beq_self_eq_true]
      refine refCountH_ld .n0 ?_
      refine Games_ok (h.pick .n1) ap21 ?_
      refine ⟨h.sxs (.cons .n0 (.cons .n0 (.cons .n0 (.cons .n0 .nil)))) (.refl _), ?_⟩
      refine brN (fun bb13 => by exfalso; omega) (fun bb13 => ?_)
      refine ldHA (_, _) .n2 ?_
      refine ldHA (_, _) .n2 ?_
      refine Next_f_ok (h.pick .n1) ap21 (by omega) (by omega) hg0 (by omega) bhy2 (by omega) hb (fun _ h => ?_)
      refine ⟨h.sxs (.cons .n1 (.cons .n0 (.cons .n0 (.cons .n0 .nil)))) (.refl _), ?_⟩
      refine rNext_f_ok (h.pick .n1) (by omega) (by omega) hg0 (by omega) bhy2 (by omega) hb (fun _ h => ?_)
      refine heldS h (.cons .n0 (.cons .n0 (.cons .n0 (.cons .n0 .nil)))) ?_
      refine ⟨h.sxs (.cons .n0 (.cons .n0 (.cons .n0 (.cons .n0 .nil)))) (.refl _), ?_⟩
      refine brF ?_
      refine wrN (i + 1) ?_
      refine ⟨_, (by first | omega | rfl | (dsimp only; omega)), _, _, _, _, rfl, (by first | omega | rfl | (dsimp only; omega)), rfl, g6, hsl, hg0, (by first | omega | rfl | (dsimp only; omega)), ((((h.pick .n2).drop.pick .n1).pick .n1).pick .n2)⟩
    · have af43 := af43.mono g6
      have ap21 := ap21.mono g6
      have af10 := af10.mono g6
      have hl := hl.mono g6
      have hx := hx.mono g6
      refine brD (fun cb0 => ?_) (fun cb0 => by exfalso; omega)
      refine joinI ?_
      refine ⟨by omega, ?_⟩
      refine nnO h .n0 (fun ca1 cha1 => ?_)
      refine ldO h .n0 cha1 ex (fun cy2 chy2 => ?_)
      obtain ⟨cy2, cy2b⟩ := cy2
      obtain ⟨chy2, chy2b⟩ := chy2
      have chy2 : Bytes _ cy2 x.1 := chy2
      have chy2b : cy2b = x.2 := chy2b
      subst chy2b
      dsimp only at chy2b
      dsimp only at chy2
      obtain ⟨lchy2, mchy2, cchy2⟩ := chy2.lens
      refine new h fun cr3 _ h => ?_
      refine stNs h .n0 fun _ h => ?_
      refine Least_t_ok (h.pick .n3) ap21 (by omega) (by omega) hb (fun cv5 cΓ6 _ cg8 cf9 h => ?_)
      have ht := ht.mono cg8
      have af43 := af43.mono cg8
      have ap21 := ap21.mono cg8
      have af10 := af10.mono cg8
      have hl := hl.mono cg8
      have hx := hx.mono cg8
      have chy2 := chy2.mono cg8
      obtain ⟨lcf9, mcf9, ccf9⟩ := cf9.lens
      refine rLeast_t_ok (h.pick .n3) (by omega) (by omega) hb (fun cv12 cΓ13 _ cg15 cf16 h => ?_)
      have cf9 := cf9.mono cg15
      have ht := ht.mono cg15
      have af43 := af43.mono cg15
      have ap21 := ap21.mono cg15
      have af10 := af10.mono cg15
      have hl := hl.mono cg15
      have hx := hx.mono cg15
      have chy2 := chy2.mono cg15
      obtain ⟨lcf16, mcf16, ccf16⟩ := cf16.lens
      refine heldS h (.cons .n0 (.cons .n1 (.cons .n1 .nil))) ?_
      refine dr h fun _ h => ?_
      refine ⟨h.sxs (.cons .n0 (.cons .n1 (.cons .n1 .nil))) (.refl _), ?_⟩
      refine brN (fun cb18 => by exfalso; omega) (fun cb18 => ?_)
      dsimp only at cb18
      refine btoSH cf9 ?_
      refine btoSH cf16 ?_
      refine brSn (fun cb19 => absurd rfl cb19) (fun cb19 => ?_)
      refine brF ?_
      refine ⟨_, rfl, ?_⟩
      rw [beq_self_eq_true]
      rw [beq_self_eq_true]
      refine refCountH_ld .n0 ?_
      refine Games_ok (h.pick .n1) ap21 ?_
      refine ⟨h.sxs (.cons .n0 (.cons .n1 (.cons .n1 .nil))) (.refl _), ?_⟩
      refine brN (fun cb22 => by exfalso; omega) (fun cb22 => ?_)
      refine ldHA (_, _) .n1 ?_
      refine ldHA (_, _) .n1 ?_
      refine Next_t_ok (h.pick .n1) ap21 (by omega) (by omega) hg0 (by omega) chy2 (by omega) hb (fun cΓ24 _ cg26 h => ?_)
      have cf16 := cf16.mono cg26
      have cf9 := cf9.mono cg26
      have ht := ht.mono cg26
      have af43 := af43.mono cg26
      have ap21 := ap21.mono cg26
      have af10 := af10.mono cg26
      have hl := hl.mono cg26
      have hx := hx.mono cg26
      have chy2 := chy2.mono cg26
      refine ⟨h.sxs (.cons .n1 (.cons .n1 (.cons .n1 .nil))) cg26, ?_⟩
      refine rNext_t_ok (h.pick .n1) (by omega) (by omega) hg0 (by omega) chy2 (by omega) hb (fun _ h => ?_)
      refine heldS h (.cons .n0 (.cons .n0 (.cons .n0 (.cons .n0 .nil)))) ?_
      refine ⟨h.sxs (.cons .n0 (.cons .n0 (.cons .n0 (.cons .n0 .nil)))) (.refl _), ?_⟩
      refine brF ?_
      refine wrN (i + 1) ?_
      refine ⟨_, (by first | omega | rfl | (dsimp only; omega)), _, _, _, _, rfl, (by first | omega | rfl | (dsimp only; omega)), rfl, (g6.trans (cg8.trans (cg15.trans cg26))), ?_, (by first | omega | rfl | (dsimp only; omega)), (by first | omega | rfl | (dsimp only; omega)), ((((h.pick .n2).drop.pick .n1).pick .n1).pick .n2)⟩
      rotate_left
      rw [List.length_set]; exact hsl
  · cases hb : (hd hs (best hs)).2
    · have af43 := af43.mono g6
      have ap21 := ap21.mono g6
      have af10 := af10.mono g6
      have hl := hl.mono g6
      have hx := hx.mono g6
      refine brD (fun db0 => by exfalso; omega) (fun db0 => ?_)
      refine Least_f_ok (h.pick .n2) ap21 (by omega) (by omega) hb (fun _ h => ?_)
      refine rLeast_f_ok (h.pick .n2) (by omega) (by omega) hb (fun _ h => ?_)
      refine heldS h (.cons .n0 (.cons .n0 (.cons .n0 .nil))) ?_
      refine dr h fun _ h => ?_
      refine ⟨h.sxs (.cons .n0 (.cons .n0 (.cons .n0 .nil))) (.refl _), ?_⟩
      refine brT ?_
      refine brT ?_
      refine btoSH (.nil _ _) ?_
      refine btoSH (.nil _ _) ?_
      refine brS (fun db7 => ?_) (fun db7 => absurd rfl db7)
      refine brT ?_
      refine ⟨_, rfl, ?_⟩
      rw [beq_self_eq_true]
      rw [beq_self_eq_true]
      rw [beq_self_eq_true]
      refine refCountH_ld .n0 ?_
      refine Games_ok (h.pick .n1) ap21 ?_
      refine ⟨h.sxs (.cons .n0 (.cons .n0 (.cons .n0 .nil))) (.refl _), ?_⟩
      refine ⟨_, rfl, ?_⟩
      rw [beq_self_eq_true]
      refine k _ _ (ag3.trans (ag9.trans (ag20.trans (ag42.trans g6)))) h.drop.drop.drop
    · have af43 := af43.mono g6
      have ap21 := ap21.mono g6
      have af10 := af10.mono g6
      have hl := hl.mono g6
      have hx := hx.mono g6
      refine brD (fun eb0 => by exfalso; omega) (fun eb0 => ?_)
      refine Least_t_ok (h.pick .n2) ap21 (by omega) (by omega) hb (fun ev2 eΓ3 _ eg5 ef6 h => ?_)
      have ht := ht.mono eg5
      have af43 := af43.mono eg5
      have ap21 := ap21.mono eg5
      have af10 := af10.mono eg5
      have hl := hl.mono eg5
      have hx := hx.mono eg5
      obtain ⟨lef6, mef6, cef6⟩ := ef6.lens
      refine rLeast_t_ok (h.pick .n2) (by omega) (by omega) hb (fun ev9 eΓ10 _ eg12 ef13 h => ?_)
      have ef6 := ef6.mono eg12
      have ht := ht.mono eg12
      have af43 := af43.mono eg12
      have ap21 := ap21.mono eg12
      have af10 := af10.mono eg12
      have hl := hl.mono eg12
      have hx := hx.mono eg12
      obtain ⟨lef13, mef13, cef13⟩ := ef13.lens
      refine heldS h (.cons .n0 (.cons .n0 (.cons .n0 .nil))) ?_
      refine dr h fun _ h => ?_
      refine ⟨h.sxs (.cons .n0 (.cons .n0 (.cons .n0 .nil))) (.refl _), ?_⟩
      refine brT ?_
      refine brE (fun eb15 => ?_) (fun eb15 => by exfalso; omega)
      dsimp only at eb15
      refine btoSH ef6 ?_
      refine btoSH ef13 ?_
      refine brS (fun eb16 => ?_) (fun eb16 => absurd rfl eb16)
      refine brT ?_
      refine ⟨_, rfl, ?_⟩
      rw [beq_self_eq_true]
      rw [beq_self_eq_true]
      rw [beq_self_eq_true]
      refine refCountH_ld .n0 ?_
      refine Games_ok (h.pick .n1) ap21 ?_
      refine ⟨h.sxs (.cons .n0 (.cons .n0 (.cons .n0 .nil))) (.refl _), ?_⟩
      refine ⟨_, rfl, ?_⟩
      rw [beq_self_eq_true]
      refine k _ _ (ag3.trans (ag9.trans (ag20.trans (ag42.trans (g6.trans (eg5.trans eg12)))))) h.drop.drop.drop

theorem treePlays_walk {H : Type} {enc : TypeId × Value → H} {W : World} {base : Nat} {vs : List Value} {ds : List (DataW H)} {ps : List MemPlace} (hok : ∀ (j : Nat) (t : TypeId) (v : Value), [22, 22][j]? = some t → vs[j]? = some v → Value.okWide Try.prog W .any base t v)
    (hA : DataW.TrodAll enc Try.prog W 0 (fun _ => true) true [22, 22] vs ds ps) : CallP Try.prog 3 vs (.one (.s .bool)) (fun b w' => b = true ∧ Kept W w') W := by
  obtain ⟨v0, vs0, d0, ds0, p0, q0, rfl, rfl, rfl, h0, r0⟩ := trodAll_cons hA
  obtain ⟨v1, vs1, d1, ds1, p1, q1, rfl, rfl, rfl, h1, r1⟩ := trodAll_cons r0
  obtain ⟨rfl, rfl, rfl⟩ := trodAll_nil r1
  obtain ⟨s, l, e0, f0⟩ := argS rHeads (hok 0 _ _ rfl rfl) h0
  obtain ⟨t, m, e1, f1⟩ := argS rHeads (hok 1 _ _ rfl rfl) h1
  cases e0
  cases e1
  exact law_walk fun k => law_plays (Sat.start W) f0 f1 k

theorem treePlays_lifted (os : Os) (started : os.Started) (H : Type) (enc : TypeId × Value → H) :
    ReturnsInHanded {} Try.checked os 3 .any (Rows.treePlaysSpec.pre6 enc Try.prog Try.f3 Rows.treePlaysRow.domain false) (Rows.treePlaysSpec.post enc Try.prog Try.f3 false true false false) := by
  have e : Try.f3.params.toList = [22, 22] := by kernel_rfl
  refine law_lifted (s := Rows.treePlaysSpec) started Try.func3 (by kernel_rfl) rfl (fun ds h => ?_) (by kernel_rfl) (fun t ht => ?_)
    (ChangeSpec.witness6 (enc := enc) (C := Try.checked) false ⟨#[], #[.slice none 0 0, .slice none 0 0], []⟩ 8 (by kernel_rfl) (by kernel_rfl) (by kernel_rfl) (by kernel_rfl)) fun W base vs ds ps hok hA => ?_
  · have hl : ds.length = 2 := h
    match ds, hl with
    | [_, _], _ => rfl
  · rw [e] at ht
    have hall : ([22, 22].all fun t => Try.prog.readableRec t && decide (t < Try.prog.types.size)) = true := by kernel_rfl
    simpa using List.all_eq_true.1 hall t ht
  · rw [e] at hA hok
    exact treePlays_walk hok hA

theorem treePlays_facts : joinedFacts Try.pinned.checked.prog 3 Try.f3 Rows.treePlaysSpec Rows.treePlaysRow = true := by
  show joinedFacts Try.prog 3 Try.f3 Rows.treePlaysSpec Rows.treePlaysRow = true
  unfold joinedFacts
  rw [make_, enter_, lifts_]
  kernel_rfl

theorem TreePlays_holds : Rows.TreePlaysSaid :=
  OpenClaim.holds_of_wide 3 Try.f3 rfl rfl rfl rfl rfl rfl rfl ⟨rfl, rfl, rfl, rfl, rfl⟩ rfl rfl rfl rfl rfl (by kernel_rfl) Try.func3 treePlays_facts
    (of_decide_eq_true (by kernel_rfl)) (by unfold Func.isWrapper; first | (rw [if_pos (by decide +kernel)]; kernel_rfl) | (rw [if_neg (by decide +kernel)]; exact ⟨rfl, rfl⟩))
    (fun os started H enc _ => treePlays_lifted os started H enc)


end Go.Proofs.Ytohoimokfgfceaa.K
