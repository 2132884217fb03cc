/-
  What the disk's statements share: how many bytes, what acts are.
-/
import Derived.Test.YtohoimokfgfceaaDkG
namespace Go.Proofs.Ytohoimokfgfceaa.K
open Go Go.Proofs
variable {Γ Γ' : Mem} {L L' L'' : List HP} {w w' : World} {A B : HP}
set_option maxRecDepth 100000
set_option maxHeartbeats 4000000

theorem dUsedD_ok {a : Nat} {m : DiskM} {K : Int → World → Prop} (h : Sat Γ (PDisk a m :: L) w) (hg : m.g < 1000000000000) (k : ∀ w', Sat Γ (PDisk a m :: L) w' → K (m.used : Int) w') :
    CallP Try.prog 66 [.pointer (some ⟨a, 0, none⟩)] (.one (.s (.int .i64))) K w := by
  obtain ⟨ps, h⟩ := h.pd
  exact dUsed_ok h hg fun w' h => k w' h.toPd

theorem Lst.acts {s : Sl} {l : List ActM} (h : Lst eAct Γ s l) : ∀ x ∈ l, i64B x.n := fun x hx => by
  obtain ⟨ys, _, h2⟩ := h
  obtain ⟨i, hi⟩ := List.mem_iff_getElem?.1 hx
  obtain ⟨y, _, hr⟩ := h2.get hi
  exact hr.2.1.1

end Go.Proofs.Ytohoimokfgfceaa.K
