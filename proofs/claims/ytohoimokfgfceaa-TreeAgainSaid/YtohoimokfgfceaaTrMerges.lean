/-
  TreeMerges: all of many rows in one is the document's. No condition.
-/
import Derived.Test.YtohoimokfgfceaaTrS
import Derived.Test.YtohoimokfgfceaaTrV
namespace Go.Proofs.Ytohoimokfgfceaa.K
open Go Go.Proofs Go.ChangeShapes Go.WideShapes Go.ChangeAt Go.RowKit
variable {Γ Γ' : Mem} {L L' L'' : List HP} {w w' : World} {A B : HP}
set_option maxRecDepth 100000
set_option maxHeartbeats 4000000

theorem mergeR_ok {s : Sl} {l : List BL} {K : (Sl × Int) → World → Prop} (h : Sat Γ L w) (hx : Lst (eList eBytes) Γ s (rowsL l)) (k0 : 16 < (rowsL l).length → K (⟨none, 0, 0⟩, 1) w)
    (k : (rowsL l).length ≤ 16 → ∀ s' Γ' w', Γ.le Γ' → Lst eBytes Γ' s' (mergeS (total (rowsL l)) (rowsL l) []) → Sat Γ' L w' → K (s', 0) w') :
    CallP Try.prog 41 [.slice s.p s.len s.cap] (.tup [.s .sl, .s (.int .i64)]) K w :=
  merge_ok h hx.rows (by have := rowsL_len l; omega) (rowsL_small l) (by have := rowsL_total l; omega) k0 fun h1 s' Γ' w' h2 h3 => k h1 s' Γ' w' h2 h3.lst

theorem rmergeR_ok {s : Sl} {l : List BL} {K : (Sl × Int) → World → Prop} (h : Sat Γ L w) (hx : Lst (eList eBytes) Γ s (rowsL l)) (k0 : 16 < (rowsL l).length → K (⟨none, 0, 0⟩, 1) w)
    (k : (rowsL l).length ≤ 16 → ∀ s' Γ' w', Γ.le Γ' → Lst eBytes Γ' s' (mergeS (total (rowsL l)) (rowsL l) []) → Sat Γ' L w' → K (s', 0) w') :
    CallP Try.prog 43 [.slice s.p s.len s.cap] (.tup [.s .sl, .s (.int .i64)]) K w :=
  rmerge_ok h hx.rows (by have := rowsL_len l; omega) (rowsL_small l) (by have := rowsL_total l; omega) k0 fun h1 s' Γ' w' h2 h3 => k h1 s' Γ' w' h2 h3.lst

theorem mergeS_len : ∀ (n : Nat) (rs : List BL) (out : BL), (mergeS n rs out).length ≤ out.length + n
  | 0, _, _ => Nat.le_refl _
  | n + 1, rs, out => by
    unfold mergeS
    split
    · have h1 := mergeS_len n (pop rs (best (rs.map hdOf))) (pushU out (hd (rs.map hdOf) (best (rs.map hdOf))).1)
      have h2 := pushU_len out (hd (rs.map hdOf) (best (rs.map hdOf))).1
      omega
    · omega

theorem same_eq_ok {s t : Sl} {x : BL} {K : Bool → World → Prop} (h : Sat Γ L w) (hx : Lst eBytes Γ s x) (hy : Lst eBytes Γ t x) (hn : x.length ≤ 1000000) (k : ∀ w', Sat Γ L w' → K true w') :
    CallP Try.prog 44 [.slice s.p s.len s.cap, .slice t.p t.len t.cap] (.one (.s .bool)) K w := sameL_ok h hx hy hn fun w' h' => by simpa using k w' h'

theorem law_merges {s : Sl} {l : List BL} {K : Bool → World → Prop} (h : Sat Γ L w) (hl : Lst (eList eBytes) Γ s l) (k : ∀ Γ' w', Γ.le Γ' → Sat Γ' L w' → K true w') :
    CallP Try.prog 4 [.slice s.p s.len s.cap] (.one (.s .bool)) K w := by
  have hm := mergeS_len (total (rowsL l)) (rowsL l) []
  have ht := rowsL_total l
  rw [List.length_nil] at hm
  refine callP (fn := Try.f4) [.s (.sl s)] .n nong mixed (by kernel_rfl) (by kernel_rfl) rfl rfl ?_
  obtain ⟨lhl, mhl, chl⟩ := hl.lens
  refine rows_ok h hl (fun av1 aΓ2 _ ag4 af5 h => ?_)
  have hl := hl.mono ag4
  obtain ⟨laf5, maf5, caf5⟩ := af5.lens
  refine mergeR_ok h af5 (fun ap8 => ?_) (fun ap9 av10 aΓ11 _ ag13 af14 h => ?_)
  refine rows_ok h hl (fun av17 aΓ18 _ ag20 af21 h => ?_)
  have af5 := af5.mono ag20
  have hl := hl.mono ag20
  obtain ⟨laf21, maf21, caf21⟩ := af21.lens
  refine rmergeR_ok h af21 (fun ap24 => ?_) (fun ap25 av26 aΓ27 _ ag29 af30 h => ?_)
  refine shown12_ok h (fun aΓ33 _ ag35 h => ?_)
  have af21 := af21.mono ag35
  have af5 := af5.mono ag35
  have hl := hl.mono ag35
  refine brT ?_
  refine same_eq_ok h (.nil _ _) (.nil _ _) (by first | omega | decide) (fun _ h => ?_)
  refine brT ?_
  refine ⟨_, rfl, ?_⟩
  refine k _ _ (ag4.trans (ag20.trans ag35)) h
  have af21 := af21.mono ag29
  have af5 := af5.mono ag29
  have hl := hl.mono ag29
  obtain ⟨laf30, maf30, caf30⟩ := af30.lens
  refine shown12_ok h (fun aΓ42 _ ag44 h => ?_)
  have af30 := af30.mono ag44
  have af21 := af21.mono ag44
  have af5 := af5.mono ag44
  have hl := hl.mono ag44
  refine brT ?_
  refine sameL_ok h (.nil _ _) af30 (by first | omega | decide) (fun _ h => ?_)
  refine brD (fun ab49 => by exfalso; omega) (fun ab49 => ?_)
  refine ⟨_, rfl, ?_⟩
  (exfalso; omega)
  have af5 := af5.mono ag13
  have hl := hl.mono ag13
  obtain ⟨laf14, maf14, caf14⟩ := af14.lens
  refine rows_ok h hl (fun av51 aΓ52 _ ag54 af55 h => ?_)
  have af14 := af14.mono ag54
  have af5 := af5.mono ag54
  have hl := hl.mono ag54
  obtain ⟨laf55, maf55, caf55⟩ := af55.lens
  refine rmergeR_ok h af55 (fun ap58 => ?_) (fun ap59 av60 aΓ61 _ ag63 af64 h => ?_)
  refine shown12_ok h (fun aΓ67 _ ag69 h => ?_)
  have af55 := af55.mono ag69
  have af14 := af14.mono ag69
  have af5 := af5.mono ag69
  have hl := hl.mono ag69
  refine brT ?_
  refine sameL_ok h af14 (.nil _ _) (by first | omega | decide) (fun _ h => ?_)
  refine brD (fun ab74 => by exfalso; omega) (fun ab74 => ?_)
  refine ⟨_, rfl, ?_⟩
  (exfalso; omega)
  have af55 := af55.mono ag63
  have af14 := af14.mono ag63
  have af5 := af5.mono ag63
  have hl := hl.mono ag63
  obtain ⟨laf64, maf64, caf64⟩ := af64.lens
  refine shown12_ok h (fun aΓ76 _ ag78 h => ?_)
  have af64 := af64.mono ag78
  have af55 := af55.mono ag78
  have af14 := af14.mono ag78
  have af5 := af5.mono ag78
  have hl := hl.mono ag78
  refine brT ?_
  refine same_eq_ok h af14 af64 (by first | omega | decide) (fun _ h => ?_)
  refine brT ?_
  refine ⟨_, rfl, ?_⟩
  refine k _ _ (ag4.trans (ag13.trans (ag54.trans (ag63.trans ag78)))) h

theorem treeMerges_walk {H : Type} {enc : TypeId × Value → H} {W : World} {base : Nat} {vs : List Value} {ds : List (DataW H)} {ps : List MemPlace} (hok : ∀ (j : Nat) (t : TypeId) (v : Value), [42][j]? = some t → vs[j]? = some v → Value.okWide Try.prog W .any base t v)
    (hA : DataW.TrodAll enc Try.prog W 0 (fun _ => true) true [42] vs ds ps) : CallP Try.prog 4 vs (.one (.s .bool)) (fun b w' => b = true ∧ Kept W w') W := by
  obtain ⟨v0, vs0, d0, ds0, p0, q0, rfl, rfl, rfl, h0, r0⟩ := trodAll_cons hA
  obtain ⟨rfl, rfl, rfl⟩ := trodAll_nil r0
  obtain ⟨s, l, e0, f0⟩ := argS rBBB (hok 0 _ _ rfl rfl) h0
  cases e0
  exact law_walk fun k => law_merges (Sat.start W) f0 k

theorem treeMerges_lifted (os : Os) (started : os.Started) (H : Type) (enc : TypeId × Value → H) :
    ReturnsInHanded {} Try.checked os 4 .any (Rows.treeMergesSpec.pre6 enc Try.prog Try.f4 Rows.treeMergesRow.domain false) (Rows.treeMergesSpec.post enc Try.prog Try.f4 false true false false) := by
  have e : Try.f4.params.toList = [42] := by kernel_rfl
  refine law_lifted (s := Rows.treeMergesSpec) started Try.func4 (by kernel_rfl) rfl (fun ds h => ?_) (by kernel_rfl) (fun t ht => ?_)
    (ChangeSpec.witness6 (enc := enc) (C := Try.checked) false ⟨#[], #[.slice none 0 0], []⟩ 8 (by kernel_rfl) (by kernel_rfl) (by kernel_rfl) (by kernel_rfl)) fun W base vs ds ps hok hA => ?_
  · have hl : ds.length = 1 := h
    match ds, hl with
    | [_], _ => rfl
  · rw [e] at ht
    have hall : ([42].all fun t => Try.prog.readableRec t && decide (t < Try.prog.types.size)) = true := by kernel_rfl
    simpa using List.all_eq_true.1 hall t ht
  · rw [e] at hA hok
    exact treeMerges_walk hok hA

theorem treeMerges_facts : joinedFacts Try.pinned.checked.prog 4 Try.f4 Rows.treeMergesSpec Rows.treeMergesRow = true := by
  show joinedFacts Try.prog 4 Try.f4 Rows.treeMergesSpec Rows.treeMergesRow = true
  unfold joinedFacts
  rw [make_, enter_, lifts_]
  kernel_rfl

theorem TreeMerges_holds : Rows.TreeMergesSaid :=
  OpenClaim.holds_of_wide 4 Try.f4 rfl rfl rfl rfl rfl rfl rfl ⟨rfl, rfl, rfl, rfl, rfl⟩ rfl rfl rfl rfl rfl (by kernel_rfl) Try.func4 treeMerges_facts
    (of_decide_eq_true (by kernel_rfl)) (by unfold Func.isWrapper; first | (rw [if_pos (by decide +kernel)]; kernel_rfl) | (rw [if_neg (by decide +kernel)]; exact ⟨rfl, rfl⟩))
    (fun os started H enc _ => treeMerges_lifted os started H enc)


end Go.Proofs.Ytohoimokfgfceaa.K
