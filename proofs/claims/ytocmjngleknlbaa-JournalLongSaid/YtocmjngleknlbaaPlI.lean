/-
  place's statements: a disk that is made; its names; reads of which is known what they tell.
-/
import Derived.Test.YtocmjngleknlbaaPlH
namespace Go.Proofs.Ytocmjngleknlbaa.K
open Go Go.Proofs Go.ChangeShapes Go.WideShapes Go.ChangeAt Go.RowKit
variable {Γ Γ' : Mem} {L L' L'' : List HP} {w w' : World} {A B : HP}
set_option maxRecDepth 100000
set_option maxHeartbeats 1000000

theorem dSyncNamesQuietG_ok {a : Nat} {m : DiskM} {K : Int → World → Prop} (h : Sat Γ (PDisk a m :: L) w) (hq : quiet m) (hg : m.g < 1000000000000) (k : ∀ w', quiet m.syncNames.1 → m.syncNames.1.g = m.g → DiskM.Syn (m.syncNames.1.now.map Prod.fst) 0 m.syncNames.1 → Sat Γ (PDisk a m.syncNames.1 :: L) w' → K 0 w') :
    CallP Try.prog 56 [.pointer (some ⟨a, 0, none⟩)] (.one (.s (.int .i64))) K w :=
  dSyncNamesQuiet_ok h hq hg fun w' h2 => k w' (DiskM.quiet_syncNames hq) (syncNames_g m) (by have := DiskM.syn_start (pd_wf h) hq; rwa [← this.nm] at this) h2

end Go.Proofs.Ytocmjngleknlbaa.K
