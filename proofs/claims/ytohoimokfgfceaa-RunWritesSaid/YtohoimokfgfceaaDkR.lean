/-
  The reference's disk: how it lies in memory.
-/
import Derived.Test.YtohoimokfgfceaaDkM
import Derived.Test.YtohoimokfgfceaaEngP
import Derived.Test.YtohoimokfgfceaaDkT
namespace Go.Proofs.Ytohoimokfgfceaa.K
open Go Go.Proofs
variable {Γ Γ' : Mem} {L L' L'' : List HP} {w w' : World} {A B : HP}
set_option maxRecDepth 100000

abbrev TRDisk : Nat := 188
abbrev TRFile : Nat := 197
abbrev TRName : Nat := 191
abbrev TRChg : Nat := 194

def eFileR : Enc FileM := ⟨.agg [.sl, .int .i64], fun Γ y f => Bytes Γ y.1 f.b ∧ y.2 = (f.kept : Int), fun h hl => ⟨h.1.mono hl, h.2⟩, fun _ v hv => by
  simp [Sh.cells, ScsV] at hv
  rcases hv with rfl | rfl <;> rfl⟩
def eNameR : Enc (Str × Nat) := ⟨.agg [.str, .int .i64], fun _ y p => y.1 = str p.1 ∧ y.2 = (p.2 : Int), fun h _ => h, fun _ v hv => by
  simp [Sh.cells, ScsV] at hv
  rcases hv with rfl | rfl <;> rfl⟩
/-- of a change that renames the reference does not tell the file -/
def eChgR : Enc ChM := ⟨.agg [.str, .str, .int .i64], fun _ y c => y.1 = str c.gone ∧ y.2.1 = str c.new ∧ (c.gone = [] → y.2.2 = (c.file : Int)), fun h _ => h, fun _ v hv => by
  simp [Sh.cells, ScsV] at hv
  rcases hv with rfl | rfl | rfl <;> rfl⟩

def rdcells (fl nl kl cl : Sl) (m : DiskM) (left : Int) : Array Value := #[slv fl, slv nl, slv kl, slv cl, .int .i64 m.room, .bool m.down, .bool m.doomed, .int .i64 left]

def LeftOK (m : DiskM) (left : Int) : Prop := m.down = false → m.doomed = true → left = m.left

abbrev rdlay (a : Nat) (fl nl kl cl : Sl) (m : DiskM) (left : Int) (L : List HP) : List HP := blk a (.cells (rdcells fl nl kl cl m left) TRDisk (0, 0)) :: OL eFileR TRFile fl m.files :: L

structure RdOK (Γ : Mem) (nl kl cl : Sl) (m : DiskM) (left : Int) : Prop where
  now : Lst eNameR Γ nl m.now
  kept : Lst eNameR Γ kl m.kept
  chs : Lst eChgR Γ cl m.changes
  left : LeftOK m left
  wf : Wf m

theorem RdOK.mono {nl kl cl : Sl} {m : DiskM} {left : Int} (h : RdOK Γ nl kl cl m left) (hl : Γ.le Γ') : RdOK Γ' nl kl cl m left := ⟨h.now.mono hl, h.kept.mono hl, h.chs.mono hl, h.left, h.wf⟩

def RDisk (a : Nat) (m : DiskM) : HP :=
  ⟨fun Γ h => ∃ fl nl kl cl left, RdOK Γ nl kl cl m left ∧ (HP.all (rdlay a fl nl kl cl m left [])).p Γ h, fun _ _ _ hl ⟨fl, nl, kl, cl, left, h1, h2⟩ => ⟨fl, nl, kl, cl, left, h1.mono hl, HP.mono _ _ _ _ hl h2⟩⟩

theorem Sat.rd {a : Nat} {m : DiskM} (h : Sat Γ (RDisk a m :: L) w) : ∃ fl nl kl cl left, RdOK Γ nl kl cl m left ∧ Sat Γ (rdlay a fl nl kl cl m left L) w := by
  obtain ⟨m, ⟨m1, m2, ha, he, ⟨fl, nl, kl, cl, left, h1, h5⟩, hL⟩, hm, hw⟩ := h
  exact ⟨fl, nl, kl, cl, left, h1, Sat.all.1 ⟨m, ⟨m1, m2, ha, he, h5, hL⟩, hm, hw⟩⟩

theorem Sat.toRd {a : Nat} {m : DiskM} {fl nl kl cl : Sl} {left : Int} (h : Sat Γ (rdlay a fl nl kl cl m left L) w) (h1 : RdOK Γ nl kl cl m left) : Sat Γ (RDisk a m :: L) w := by
  have h5 : Sat Γ (HP.all (rdlay a fl nl kl cl m left []) :: L) w := Sat.all.2 h
  exact h5.weaken fun _ hm => ⟨fl, nl, kl, cl, left, h1, hm⟩

theorem Sat.rdWf {a : Nat} {m : DiskM} (h : Sat Γ (RDisk a m :: L) w) : Wf m := by
  obtain ⟨_, _, _, _, _, h1, _⟩ := h.rd
  exact h1.wf

end Go.Proofs.Ytohoimokfgfceaa.K
