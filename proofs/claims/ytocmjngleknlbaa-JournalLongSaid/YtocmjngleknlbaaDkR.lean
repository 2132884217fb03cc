/-
  The reference's disk: how it lies in memory.
-/
import Derived.Test.YtocmjngleknlbaaDkM
import Derived.Test.YtocmjngleknlbaaEngP
import Derived.Test.YtocmjngleknlbaaDkT
namespace Go.Proofs.Ytocmjngleknlbaa.K
open Go Go.Proofs
variable {Γ Γ' : Mem} {L L' L'' : List HP} {w w' : World} {A B : HP}
set_option maxRecDepth 100000

def eFileR : Enc FileM := ⟨.agg [.sl, .int .i64], fun Γ y f => Bytes Γ y.1 f.b ∧ y.2 = (f.kept : Int), fun h hl => ⟨h.1.mono hl, h.2⟩, fun _ v hv => by
  simp [Sh.cells, ScsV] at hv
  rcases hv with rfl | rfl <;> rfl⟩
def eNameR : Enc (Str × Nat) := ⟨.agg [.str, .int .i64], fun _ y p => y.1 = str p.1 ∧ y.2 = (p.2 : Int), fun h _ => h, fun _ v hv => by
  simp [Sh.cells, ScsV] at hv
  rcases hv with rfl | rfl <;> rfl⟩
/-- of a change that renames the reference does not tell the file -/
def eChgR : Enc ChM := ⟨.agg [.str, .str, .int .i64], fun _ y c => y.1 = str c.gone ∧ y.2.1 = str c.new ∧ (c.gone = [] → y.2.2 = (c.file : Int)), fun h _ => h, fun _ v hv => by
  simp [Sh.cells, ScsV] at hv
  rcases hv with rfl | rfl | rfl <;> rfl⟩

def rdcells (fl nl kl cl : Sl) (m : DiskM) (left : Int) : Array Value := #[slv fl, slv nl, slv kl, slv cl, .int .i64 m.room, .bool m.down, .bool m.doomed, .int .i64 left]

def LeftOK (m : DiskM) (left : Int) : Prop := m.down = false → m.doomed = true → left = m.left

structure RdOK (Γ : Mem) (nl kl cl : Sl) (m : DiskM) (left : Int) : Prop where
  now : Lst eNameR Γ nl m.now
  kept : Lst eNameR Γ kl m.kept
  chs : Lst eChgR Γ cl m.changes
  left : LeftOK m left
  wf : Wf m

theorem RdOK.mono {nl kl cl : Sl} {m : DiskM} {left : Int} (h : RdOK Γ nl kl cl m left) (hl : Γ.le Γ') : RdOK Γ' nl kl cl m left := ⟨h.now.mono hl, h.kept.mono hl, h.chs.mono hl, h.left, h.wf⟩

end Go.Proofs.Ytocmjngleknlbaa.K
