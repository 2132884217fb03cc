/-
  More short rules: what is known of a test; zero values, made slices, maps of texts.
-/
import Derived.Test.YtohoimokfgfceaaEngP
namespace Go.Proofs.Ytohoimokfgfceaa.K
open Go Go.Proofs
variable {P : Program} {Γ Γ' : Mem} {L L' L'' : List HP} {w w' : World} {A B : HP}

theorem brKT {c : Bool} {X Y : Prop} (h : c = true) (x : X) : Br c X Y := ⟨fun _ => x, fun e => by rw [h] at e; cases e⟩
theorem brKF {c : Bool} {X Y : Prop} (h : c = false) (y : Y) : Br c X Y := ⟨fun e => (by rw [h] at e; cases e), fun _ => y⟩

/-- the parts as they are told otherwise -/
theorem Sat.eqs (h : Sat Γ L w) (e : L = L') : Sat Γ L' w := e ▸ h

theorem btoSH {L0 : List HP} {s : Sl} {K : ByteArray → Prop} {bs : List UInt8} (h : Bytes Γ s bs) (k : K (str bs)) : BtoS P (Sx Γ L0) s K := by
  refine ⟨_, ?_, k⟩
  rintro w' ⟨Γ', hl, hw⟩
  exact (h.mono hl).toS hw

end Go.Proofs.Ytohoimokfgfceaa.K
