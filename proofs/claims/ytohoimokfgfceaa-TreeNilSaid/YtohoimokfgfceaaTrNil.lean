/-
  TreeNil: nil is no tree: for every head Least, Next and Games of a nil tree tell what the document says, and the document's examples stand. No condition.
-/
import Derived.Test.YtohoimokfgfceaaTrS
import Derived.Test.YtohoimokfgfceaaTrJ
namespace Go.Proofs.Ytohoimokfgfceaa.K
open Go Go.Proofs Go.ChangeShapes Go.WideShapes Go.ChangeAt Go.RowKit
set_option maxRecDepth 100000

theorem treeNil_walk {H : Type} {enc : TypeId × Value → H} {W : World} {base : Nat} {vs : List Value} {ds : List (DataW H)} {ps : List MemPlace} (hok : ∀ (j : Nat) (t : TypeId) (v : Value), [34][j]? = some t → vs[j]? = some v → Value.okWide Try.prog W .any base t v)
    (hA : DataW.TrodAll enc Try.prog W 0 (fun _ => true) true [34] vs ds ps) : CallP Try.prog 7 vs (.one (.s .bool)) (fun b w' => b = true ∧ Kept W w') W := by
  obtain ⟨v0, vs0, d0, ds0, p0, q0, rfl, rfl, rfl, h0, r0⟩ := trodAll_cons hA
  obtain ⟨rfl, rfl, rfl⟩ := trodAll_nil r0
  obtain ⟨⟨s, b⟩, ⟨bs, c⟩, rfl, hb, hc⟩ := argA rHead (hok 0 _ _ rfl rfl) h0
  exact law_walk fun k => law_nil (Sat.start W) k

theorem treeNil_lifted (os : Os) (started : os.Started) (H : Type) (enc : TypeId × Value → H) :
    ReturnsInHanded {} Try.checked os 7 .any (Rows.treeNilSpec.pre6 enc Try.prog Try.f7 Rows.treeNilRow.domain false) (Rows.treeNilSpec.post enc Try.prog Try.f7 false true false false) := by
  have e : Try.f7.params.toList = [34] := by kernel_rfl
  refine law_lifted (s := Rows.treeNilSpec) started Try.func7 (by kernel_rfl) rfl (fun ds h => ?_) (by kernel_rfl) (fun t ht => ?_)
    (ChangeSpec.witness6 (enc := enc) (C := Try.checked) false ⟨#[], #[.agg #[.slice none 0 0, .bool false]], []⟩ 8 (by kernel_rfl) (by kernel_rfl) (by kernel_rfl) (by kernel_rfl)) fun W base vs ds ps hok hA => ?_
  · have hl : ds.length = 1 := h
    match ds, hl with
    | [_], _ => rfl
  · rw [e] at ht
    have hall : ([34].all fun t => Try.prog.readableRec t && decide (t < Try.prog.types.size)) = true := by kernel_rfl
    simpa using List.all_eq_true.1 hall t ht
  · rw [e] at hA hok
    exact treeNil_walk hok hA

theorem treeNil_facts : joinedFacts Try.pinned.checked.prog 7 Try.f7 Rows.treeNilSpec Rows.treeNilRow = true := by
  show joinedFacts Try.prog 7 Try.f7 Rows.treeNilSpec Rows.treeNilRow = true
  unfold joinedFacts
  rw [make_, enter_, lifts_]
  kernel_rfl

theorem TreeNil_holds : Rows.TreeNilSaid :=
  OpenClaim.holds_of_wide 7 Try.f7 rfl rfl rfl rfl rfl rfl rfl ⟨rfl, rfl, rfl, rfl, rfl⟩ rfl rfl rfl rfl rfl (by kernel_rfl) Try.func7 treeNil_facts
    (of_decide_eq_true (by kernel_rfl)) (by unfold Func.isWrapper; first | (rw [if_pos (by decide +kernel)]; kernel_rfl) | (rw [if_neg (by decide +kernel)]; exact ⟨rfl, rfl⟩))
    (fun os started H enc _ => treeNil_lifted os started H enc)


end Go.Proofs.Ytohoimokfgfceaa.K
