/-
  RunNil: nil is no writer, and no reader. No condition.
-/
import Derived.Test.YtohoimokfgfceaaRnE
namespace Go.Proofs.Ytohoimokfgfceaa.K
open Go Go.Proofs Go.ChangeShapes Go.WideShapes Go.ChangeAt Go.RowKit
variable {Γ Γ' : Mem} {L L' L'' : List HP} {w w' : World} {A B : HP}
set_option maxRecDepth 100000
set_option maxHeartbeats 16000000

theorem law_rnil {s : Sl} {b name : Str} {K : Bool → World → Prop} (h : Sat Γ L w) (hb : Bytes Γ s b) (k : ∀ Γ' w', Γ.le Γ' → Sat Γ' L w' → K true w') :
    CallP Try.prog 10 [.slice s.p s.len s.cap, .string (str name)] (.one (.s .bool)) K w := by
  refine callP (fn := Try.f10) [.s (.sl s), .s (.str (str name))] .n nong mixed (by kernel_rfl) (by kernel_rfl) rfl rfl ?_
  obtain ⟨lhb, mhb, chb⟩ := hb.lens
  refine shownR_ok h (fun aΓ1 _ ag3 h => ?_)
  have hb := hb.mono ag3
  refine rnNextNil_ok h (fun _ h => ?_)
  refine new h fun ar8 _ h => ?_
  have h := h.asA (B := blk ar8 (.cells #[Value.slice none 0 0, Value.bool false] 34 (0, 0))) (by kernel_rfl)
  refine stNs h .n0 fun _ h => ?_
  have h := h.asA (B := blk ar8 (.cells #[Value.slice ((Sl.mk none 0 0, false), 2).fst.fst.p ((Sl.mk none 0 0, false), 2).fst.fst.len ((Sl.mk none 0 0, false), 2).fst.fst.cap, Value.bool ((Sl.mk none 0 0, false), 2).fst.snd] 34 (0, 0))) (by kernel_rfl)
  refine brT ?_
  refine wAddNil_ok h (fun _ h => ?_)
  refine brT ?_
  refine wEndNil_ok h (fun _ h => ?_)
  refine brT ?_
  refine wManyNil_ok h (fun _ h => ?_)
  refine brT ?_
  refine ld _ h .n0 ?_
  refine brT ?_
  refine ⟨_, rfl, ?_⟩
  refine k _ _ ag3 h.drop

theorem runNil_walk {H : Type} {enc : TypeId × Value → H} {W : World} {base : Nat} {vs : List Value} {ds : List (DataW H)} {ps : List MemPlace} (hok : ∀ (j : Nat) (t : TypeId) (v : Value), [32, 9][j]? = some t → vs[j]? = some v → Value.okWide Try.prog W .any base t v)
    (hA : DataW.TrodAll enc Try.prog W 0 (fun _ => true) true [32, 9] vs ds ps) : CallP Try.prog 10 vs (.one (.s .bool)) (fun b w' => b = true ∧ Kept W w') W := by
  obtain ⟨v0, vs0, d0, ds0, p0, q0, rfl, rfl, rfl, h0, r0⟩ := trodAll_cons hA
  obtain ⟨v1, vs1, d1, ds1, p1, q1, rfl, rfl, rfl, h1, r1⟩ := trodAll_cons r0
  obtain ⟨rfl, rfl, rfl⟩ := trodAll_nil r1
  obtain ⟨y0, x0, e0, f0⟩ := argS rBytes (hok 0 _ _ rfl rfl) h0
  obtain ⟨y1, x1, e1, f1⟩ := argS rStr (hok 1 _ _ rfl rfl) h1
  cases e0
  cases e1
  obtain ⟨rfl, g1⟩ := f1
  exact law_walk fun k => law_rnil (Sat.start W) f0 k

theorem runNil_lifted (os : Os) (started : os.Started) (H : Type) (enc : TypeId × Value → H) :
    ReturnsInHanded {} Try.checked os 10 .any (Rows.runNilSpec.pre6 enc Try.prog Try.f10 Rows.runNilRow.domain false) (Rows.runNilSpec.post enc Try.prog Try.f10 false true false false) := by
  have e : Try.f10.params.toList = [32, 9] := by kernel_rfl
  refine law_lifted (s := Rows.runNilSpec) started Try.func10 (by kernel_rfl) rfl (fun ds h => ?_) (by kernel_rfl) (fun t ht => ?_)
    (ChangeSpec.witness6 (enc := enc) (C := Try.checked) false ⟨#[], #[.slice none 0 0, .string (str [])], []⟩ 8 (by kernel_rfl) (by kernel_rfl) (by kernel_rfl) (by kernel_rfl)) fun W base vs ds ps hok hA => ?_
  · have hl : ds.length = 2 := h
    match ds, hl with
    | [_, _], _ => rfl
  · rw [e] at ht
    have hall : ([32, 9].all fun t => Try.prog.readableRec t && decide (t < Try.prog.types.size)) = true := by kernel_rfl
    simpa using List.all_eq_true.1 hall t ht
  · rw [e] at hA hok
    exact runNil_walk hok hA

theorem runNil_facts : joinedFacts Try.pinned.checked.prog 10 Try.f10 Rows.runNilSpec Rows.runNilRow = true := by
  show joinedFacts Try.prog 10 Try.f10 Rows.runNilSpec Rows.runNilRow = true
  unfold joinedFacts
  rw [make_, enter_, lifts_]
  kernel_rfl

theorem RunNil_holds : Rows.RunNilSaid :=
  OpenClaim.holds_of_wide 10 Try.f10 rfl rfl rfl rfl rfl rfl rfl ⟨rfl, rfl, rfl, rfl, rfl⟩ rfl rfl rfl rfl rfl (by kernel_rfl) Try.func10 runNil_facts
    (of_decide_eq_true (by kernel_rfl)) (by unfold Func.isWrapper; first | (rw [if_pos (by decide +kernel)]; kernel_rfl) | (rw [if_neg (by decide +kernel)]; exact ⟨rfl, rfl⟩))
    (fun os started H enc _ => runNil_lifted os started H enc)


end Go.Proofs.Ytohoimokfgfceaa.K
