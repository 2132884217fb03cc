/-
  The program's disk: its maps, told by rules.
-/
import Derived.Test.YtohoimokfgfceaaDkP
namespace Go.Proofs.Ytohoimokfgfceaa.K
open Go Go.Proofs
variable {Γ Γ' : Mem} {L L' L'' : List HP} {w w' : World} {A B : HP}
set_option maxRecDepth 100000

abbrev TNames : Nat := 164
theorem kS : KeyT Try.prog 9 ekS noG := .str (by kernel_rfl)
theorem kP : KeyT Try.prog 168 ekP goodP := .ptr (t := TFile) (by kernel_rfl) (by kernel_rfl)
theorem namesU : Try.prog.underlying TNames = some (.map 9 168) := by kernel_rfl
theorem names2U : Try.prog.underlying 163 = some (.map 9 168) := by kernel_rfl
theorem filesU : Try.prog.underlying 183 = some (.map 168 4) := by kernel_rfl
theorem samesU : Try.prog.underlying 198 = some (.map 168 168) := by kernel_rfl
theorem ptrZ (w : World) : (zeroValue 168).run Try.prog w = .ok (.pointer none) w := zero_of (by kernel_rfl) w

def evB (b : Bool) : Value := .bool b

theorem lookNames_pr {r : Nat} {ln : List (Str × Option Nat)} {s : Str} {K : Option Addr → World → Prop} (h : Sat Γ L w) (pk : Pick (MapR ekS ekP r ln) L L') (c : K (addrO ((atK ln s).getD none)) w) :
    Prim Try.prog (Instr.lookup TNames (.map (some r)) (.string (str s)) false) (.one (.s .ptr)) K w :=
  lookM (ek := ekS) (ev := ekP) (k := s) (hg := trivial) (hgl := fun _ _ => trivial) (fun o => addrO (o.getD none)) kS namesU ptrZ h pk (fun _ => rfl) rfl c

theorem lookNamesN_pr {r : Nat} {ln : List (Str × Option Nat)} {s : Str} {K : Option Addr → World → Prop} (h : Sat Γ L w) (pk : Pick (MapR ekS ekP r ln) L L') (e : atK ln s = none) (c : K none w) :
    Prim Try.prog (Instr.lookup TNames (.map (some r)) (.string (str s)) false) (.one (.s .ptr)) K w := lookNames_pr h pk (by rw [e]; exact c)

theorem lookNamesS_pr {r b : Nat} {ln : List (Str × Option Nat)} {s : Str} {K : Option Addr → World → Prop} (h : Sat Γ L w) (pk : Pick (MapR ekS ekP r ln) L L') (e : atK ln s = some (some b)) (c : K (some ⟨b, 0, none⟩) w) :
    Prim Try.prog (Instr.lookup TNames (.map (some r)) (.string (str s)) false) (.one (.s .ptr)) K w := lookNames_pr h pk (by rw [e]; exact c)

theorem putNames_pr {r b : Nat} {ln : List (Str × Option Nat)} {s : Str} {K : World → Prop} (h : Sat Γ L w) (pk : Pick (MapR ekS ekP r ln) L L') (c : ∀ w', Sat Γ (MapR ekS ekP r (putK ln s (some b)) :: L') w' → K w') :
    PrimU Try.prog (Instr.mapUpdate TNames (.map (some r)) (.string (str s)) (.pointer (some ⟨b, 0, none⟩))) K w := putM (ek := ekS) (ev := ekP) (k := s) (v := some b) (hg := trivial) (hgl := fun _ _ => trivial) kS namesU h pk c

theorem putNamesO_pr {r : Nat} {o : Option Nat} {ln : List (Str × Option Nat)} {s : Str} {K : World → Prop} (h : Sat Γ L w) (pk : Pick (MapR ekS ekP r ln) L L') (c : ∀ w', Sat Γ (MapR ekS ekP r (putK ln s o) :: L') w' → K w') :
    PrimU Try.prog (Instr.mapUpdate TNames (.map (some r)) (.string (str s)) (.pointer (addrO o))) K w := putM (ek := ekS) (ev := ekP) (k := s) (v := o) (hg := trivial) (hgl := fun _ _ => trivial) kS namesU h pk c

theorem delNames_pr {r ty : Nat} {ln : List (Str × Option Nat)} {s : Str} {K : PUnit → World → Prop} (h : Sat Γ L w) (pk : Pick (MapR ekS ekP r ln) L L') (c : ∀ w', Sat Γ (MapR ekS ekP r (delK ln s) :: L') w' → K ⟨⟩ w') :
    Prim Try.prog (Builtin.delete_ #[TNames, 9] ty #[.map (some r), .string (str s)]) (.tup []) K w := delM (ek := ekS) (ev := ekP) (k := s) (hg := trivial) (hgl := fun _ _ => trivial) kS namesU h pk c

theorem rangeNames_pr {r : Nat} {ln : List (Str × Option Nat)} {K : Option Addr → World → Prop} (h : Sat Γ L w) (pk : Pick (MapR ekS ekP r ln) L L') (c : ∀ it w', Sat Γ (MapIt ekS ekP r it ln ln :: L') w' → K (some ⟨it, 0, none⟩) w') :
    Prim Try.prog (Instr.range TNames (.map (some r))) (.one (.s .ptr)) K w := rangeM namesU h pk c

theorem nextNames_pr {ty r it : Nat} {ln left : List (Str × Option Nat)} {K : List Value → World → Prop} (h : Sat Γ L w) (pk : Pick (MapIt ekS ekP r it ln left) L L')
    (c0 : left = [] → ∀ w', Sat Γ (MapIt ekS ekP r it ln [] :: L') w' → K [.bool false] w')
    (c1 : ∀ l1 k v l2, left = l1 ++ (k, v) :: l2 → ∀ w', Sat Γ (MapAt ekS ekP r it ln (l1 ++ l2) k v :: L') w' → K [.bool true, .string (str k), .pointer (addrO v)] w') :
    PrimN Try.prog (Instr.next (.pointer (some ⟨it, 0, none⟩)) false ty) K w := nextM h pk c0 c1

theorem entryNames_pr {r it : Nat} {ln left : List (Str × Option Nat)} {s : Str} {o : Option Nat} {K : List Value → World → Prop} (h : Sat Γ L w) (pk : Pick (MapAt ekS ekP r it ln left s o) L L') (c : ∀ w', Sat Γ (MapIt ekS ekP r it ln left :: L') w' → K [.string (str s), .pointer (addrO o)] w') :
    PrimN Try.prog (Instr.entry (.pointer (some ⟨it, 0, none⟩))) K w := entryM h pk (c w)

theorem appChg_pr {T2 T3 r : Nat} {z3 : Nat × Nat} {s : Sl} {xs : List (Str × Str × Option Nat)} {c1 c2 : Str} {o : Option Nat} {K : Sl → World → Prop} (h : Sat Γ (blk r (.cells #[.string (str c1), .string (str c2), .pointer (addrO o)] T3 z3) :: L) w) (pk : Pick (OL eChg TChg s xs) L L')
    (hb : (s.len + 1) * 40 ≤ 70368744177664) (k : ∀ s' w', s'.len = s.len + 1 → Sat Γ (OL eChg TChg s' (xs ++ [(c1, c2, o)]) :: L') w' → K s' w') :
    Prim Try.prog (Builtin.append_ #[165, 165] T2 #[.slice s.p s.len s.cap, .slice (some ⟨r, 0, none⟩) 1 1]) (.one (.s .sl)) K w :=
  app1 (E := eChg) (str c1, str c2, addrO o) (c1, c2, o) slChg h pk ⟨rfl, rfl, rfl⟩ k hb

end Go.Proofs.Ytohoimokfgfceaa.K
