/-
  Acts of the disk's statements: what they are, the first hundred, what each does.
-/
import Derived.Test.YtocmjngleknlbaaDkX
namespace Go.Proofs.Ytocmjngleknlbaa.K
open Go Go.Proofs
variable {Γ Γ' : Mem} {L L' L'' : List HP} {w w' : World} {A B : HP}
set_option maxRecDepth 100000
set_option maxHeartbeats 4000000

structure ActM where
  kind : UInt8
  name : Str
  to : Str
  b : Str
  n : Int
  wn : Int
  wb : List Int

def i64B (n : Int) : Prop := -9223372036854775808 ≤ n ∧ n ≤ 9223372036854775807

/-- an act, as it lies -/
def eAct : Enc ActM := ⟨.agg [.int .u8, .str, .str, .sl, .int .i64, .int .i64, .sl],
  fun Γ y a => (y.1 = (a.kind.toNat : Int) ∧ y.2.1 = str a.name ∧ y.2.2.1 = str a.to ∧ y.2.2.2.2.1 = a.n ∧ y.2.2.2.2.2.1 = a.wn) ∧ (i64B a.n ∧ i64B a.wn ∧ (∀ x ∈ a.wb, i64B x) ∧ a.name.length ≤ 9223372036854775807 ∧ a.to.length ≤ 9223372036854775807) ∧
    Bytes Γ y.2.2.2.1 a.b ∧ Lst eInt Γ y.2.2.2.2.2.2 a.wb, fun h hl => ⟨h.1, h.2.1, Bytes.mono h.2.2.1 hl, Lst.mono h.2.2.2 hl⟩, fun _ v hv => by
  simp [Sh.cells, ScsV] at hv
  rcases hv with rfl | rfl | rfl | rfl | rfl | rfl | rfl <;> rfl⟩

theorem eAct_after {Γ : Mem} {y : eAct.sh.T} {a : ActM} (h : eAct.r Γ y a) : ∃ s t : Sl, Bytes Γ s a.b ∧ Lst eInt Γ t a.wb ∧ i64B a.n ∧ y = ((a.kind.toNat : Int), str a.name, str a.to, s, a.n, a.wn, t) := by
  obtain ⟨y1, y2, y3, y4, y5, y6, y7⟩ := y
  obtain ⟨⟨h1, h2, h3, h5, h6⟩, ⟨h8, _⟩, h4, h7⟩ := h
  refine ⟨y4, y7, h4, h7, h8, ?_⟩
  dsimp only at h1 h2 h3 h5 h6 ⊢
  rw [h1, h2, h3, h5, h6]

def smallA (a : ActM) : Prop := a.b.length ≤ 50 ∧ a.name.length ≤ 40 ∧ a.to.length ≤ 40 ∧ a.wb.length ≤ 50
instance (a : ActM) : Decidable (smallA a) := inferInstanceAs (Decidable (_ ∧ _))
def fewA (l : List ActM) : List ActM := (l.take 100).filter fun x => decide (smallA x)

theorem fewA_succ {l : List ActM} {i : Nat} {x : ActM} (h : l[i]? = some x) (hi : i < 100) : fewA (l.take (i + 1)) = fewA (l.take i) ++ if smallA x then [x] else [] := by
  unfold fewA
  rw [List.take_take, List.take_take, Nat.min_eq_right (by omega), Nat.min_eq_right (by omega), List.take_add_one, h, List.filter_append]
  by_cases hx : smallA x <;> simp [hx]

theorem fewA_over {l : List ActM} {i : Nat} (hi : 100 ≤ i) : fewA (l.take (i + 1)) = fewA (l.take i) := by
  unfold fewA
  rw [List.take_take, List.take_take, Nat.min_eq_left (by omega), Nat.min_eq_left (by omega)]

theorem fewA_len (l : List ActM) : (fewA l).length ≤ 100 := by
  unfold fewA
  exact Nat.le_trans (List.length_filter_le _ _) (by rw [List.length_take]; omega)

theorem fewA_small {l : List ActM} : ∀ x ∈ fewA l, smallA x := fun x hx => by
  unfold fewA at hx
  simpa using (List.mem_filter.1 hx).2

end Go.Proofs.Ytocmjngleknlbaa.K

/-
  What an act does of the program's disk.
-/
namespace Go.Proofs.Ytocmjngleknlbaa.K
open Go Go.Proofs
variable {Γ Γ' : Mem} {L L' L'' : List HP} {w w' : World} {A B : HP}
set_option maxRecDepth 100000
set_option maxHeartbeats 4000000

def DiskM.act (m : DiskM) (a : ActM) : DiskM × Int :=
  if a.kind.toNat % 13 = 0 then m.create a.name
  else if a.kind.toNat % 13 = 4 then ((m.read a.name).1, (m.read a.name).2.2)
  else if a.kind.toNat % 13 = 5 then m.sync a.name
  else if a.kind.toNat % 13 = 6 then m.rename a.name a.to
  else if a.kind.toNat % 13 = 7 then m.remove a.name
  else if a.kind.toNat % 13 = 8 then m.syncNames
  else if a.kind.toNat % 13 = 9 then (m.names.1, m.names.2.2)
  else if a.kind.toNat % 13 = 10 then m.doom a.n
  else if a.kind.toNat % 13 = 11 then (m.crash a.wn a.wb, 0)
  else if a.kind.toNat % 13 = 12 then m.grow a.n
  else m.append a.name a.b

end Go.Proofs.Ytocmjngleknlbaa.K

/-
  What acts leave as it was (plain laws of DiskM).
-/
namespace Go.Proofs.Ytocmjngleknlbaa.K

namespace DiskM
variable {m : DiskM} {x : ActM}

theorem act_wf (h : Wf m) (hn : i64B x.n) : Wf (m.act x).1 := by
  unfold act
  unfold i64B at hn
  repeat' split
  · exact h.create _
  · exact h.read _
  · exact h.sync _
  · exact h.rename _ _
  · exact h.remove _
  · exact h.syncNames
  · exact h.names
  · exact h.doom (by omega)
  · exact h.crash _ _
  · exact h.grow _
  · exact h.append _ _

theorem does_g {c : ChM} : (m.does c).g = m.g + 1 := rfl

theorem act_g : (m.act x).1.g ≤ m.g + (2 + x.b.length) := by
  unfold act
  repeat' split
  · unfold create; dsimp only; repeat' split
    all_goals first | (simp only [does_g, tick_g]; omega) | (rw [tick_g]; omega)
  · unfold read; dsimp only; repeat' split
    all_goals (rw [tick_g]; omega)
  · unfold sync; dsimp only; repeat' split
    all_goals (simp only [tick_g]; omega)
  · unfold rename; dsimp only; repeat' split
    all_goals first | (simp only [does_g, tick_g]; omega) | (rw [tick_g]; omega)
  · unfold remove; dsimp only; repeat' split
    all_goals first | (simp only [does_g, tick_g]; omega) | (rw [tick_g]; omega)
  · unfold syncNames; dsimp only; repeat' split
    all_goals (simp only [tick_g]; omega)
  · unfold names; dsimp only; repeat' split
    all_goals (simp only [tick_g]; omega)
  · unfold doom; repeat' split
    all_goals (dsimp only; omega)
  · unfold crash; dsimp only; omega
  · unfold grow; repeat' split
    all_goals (dsimp only; omega)
  · unfold append; dsimp only; repeat' split
    all_goals (simp only [tick_g]; omega)

theorem act_room (hk : x.kind.toNat % 13 ≠ 12) : (m.act x).1.room = m.room := by
  unfold act
  rw [if_neg hk]
  repeat' split
  · unfold create does; dsimp only; repeat' split
    all_goals simp only [tick_room]
  · unfold read; dsimp only; repeat' split
    all_goals simp only [tick_room]
  · unfold sync; dsimp only; repeat' split
    all_goals simp only [tick_room]
  · unfold rename does; dsimp only; repeat' split
    all_goals simp only [tick_room]
  · unfold remove does; dsimp only; repeat' split
    all_goals simp only [tick_room]
  · unfold syncNames; dsimp only; repeat' split
    all_goals simp only [tick_room]
  · unfold names; dsimp only; repeat' split
    all_goals simp only [tick_room]
  · unfold doom; repeat' split
    all_goals rfl
  · rfl
  · unfold append; dsimp only; repeat' split
    all_goals simp only [tick_room]

end DiskM

/-- a part of other numbers -/
theorem sum_sub {f : Nat → Nat} : ∀ {l1 l2 : List Nat}, l1.Nodup → (∀ i ∈ l1, i ∈ l2) → (l1.map f).sum ≤ (l2.map f).sum
  | [], _, _, _ => Nat.zero_le _
  | a :: l, l2, hn, hs => by
    have ha : a ∈ l2 := hs a (.head _)
    obtain ⟨p, q, e⟩ := List.append_of_mem ha
    obtain ⟨h1, h2⟩ := List.nodup_cons.1 hn
    have := sum_sub (f := f) (l1 := l) (l2 := p ++ q) h2 fun i hi => by
      have h3 := hs i (.tail _ hi)
      rw [e] at h3
      rcases List.mem_append.1 h3 with h | h
      · exact List.mem_append_left _ h
      · rcases List.mem_cons.1 h with rfl | h
        · exact absurd hi h1
        · exact List.mem_append_right _ h
    rw [e]
    simp only [List.map_append, List.map_cons, List.sum_append, List.sum_cons] at this ⊢
    omega

end Go.Proofs.Ytocmjngleknlbaa.K

/-
  What the disk's statements hold against each other, and the document's examples.
-/
namespace Go.Proofs.Ytocmjngleknlbaa.K
open Go Go.Proofs
variable {Γ Γ' : Mem} {L L' L'' : List HP} {w w' : World} {A B : HP}
set_option maxRecDepth 100000
set_option maxHeartbeats 4000000

def quiet (m : DiskM) : Prop := m.down = false ∧ m.doomed = false
theorem quiet.up {m : DiskM} (h : quiet m) : m.up = true := by simp [DiskM.up, h.1, h.2]
theorem quiet.tick {m : DiskM} (h : quiet m) : m.tick = m := by simp [DiskM.tick, h.1, h.2]

theorem mk5_pr {K : Sl → World → Prop} (h : Sat Γ L w) (k : ∀ s Γ' w', Γ.le Γ' → Bytes Γ' s [0, 0, 0, 0, 0] → Sat Γ' L w' → K s w') :
    Prim Try.prog (Instr.makeSlice 26 (.int .i64 5) (.int .i64 5)) (.one (.s .sl)) K w := mkO (E := eByte) (n := 5) (c := 5) (0 : Int) (0 : UInt8) slBytes h (by decide) rfl (by decide) fun s w' e _ h => by
    obtain ⟨Γ', g, f, h⟩ := h.olFreeze .n0 (by omega)
    exact k s Γ' w' g f.bytes h

theorem mk8_pr {K : Sl → World → Prop} (h : Sat Γ L w) (k : ∀ s Γ' w', Γ.le Γ' → Bytes Γ' s [0, 0, 0, 0, 0, 0, 0, 0] → Sat Γ' L w' → K s w') :
    Prim Try.prog (Instr.makeSlice 26 (.int .i64 8) (.int .i64 8)) (.one (.s .sl)) K w := mkO (E := eByte) (n := 8) (c := 8) (0 : Int) (0 : UInt8) slBytes h (by decide) rfl (by decide) fun s w' e _ h => by
    obtain ⟨Γ', g, f, h⟩ := h.olFreeze .n0 (by omega)
    exact k s Γ' w' g f.bytes h

theorem dReadQuiet_ok {a : Nat} {m : DiskM} {s : Str} {K : (Sl × Int) → World → Prop} (h : Sat Γ (PDisk a m :: L) w) (hq : quiet m) (hg : m.g < 1000000000000)
    (k : ∀ t Γ' w', Γ.le Γ' → Bytes Γ' t (m.read s).2.1 → Sat Γ' (PDisk a m :: L) w' → K (t, (m.read s).2.2) w') :
    CallP Try.prog 23 [.pointer (some ⟨a, 0, none⟩), .string (str s)] (.tup [.s .sl, .s (.int .i64)]) K w :=
  dRead_ok h hg fun t Γ' w' g f h => k t Γ' w' g f (by
    have e : (m.read s).1 = m := by
      unfold DiskM.read
      rw [hq.up, hq.tick]
      dsimp only
      split
      · rfl
      · split <;> rfl
    rw [e] at h
    exact h)

theorem pd_wf {a : Nat} {m : DiskM} (h : Sat Γ (PDisk a m :: L) w) : Wf m := by
  obtain ⟨ps, h0⟩ := h.pd
  exact (Sat.pdOK (M := filesL ps m.files) h0).wf

theorem dReadQuietIs_ok {a : Nat} {m : DiskM} {s b : Str} {c : Int} {K : (Sl × Int) → World → Prop} (h : Sat Γ (PDisk a m :: L) w) (hq : quiet m) (e : (m.read s).2 = (b, c)) (hg : m.g < 1000000000000)
    (k : ∀ t Γ' w', Γ.le Γ' → Bytes Γ' t b → Sat Γ' (PDisk a m :: L) w' → K (t, c) w') :
    CallP Try.prog 23 [.pointer (some ⟨a, 0, none⟩), .string (str s)] (.tup [.s .sl, .s (.int .i64)]) K w :=
  dReadQuiet_ok h hq hg fun t Γ' w' g f h => by
    rw [e] at f ⊢
    exact k t Γ' w' g f h

theorem dSyncNamesQuiet_ok {a : Nat} {m : DiskM} {K : Int → World → Prop} (h : Sat Γ (PDisk a m :: L) w) (hq : quiet m) (hg : m.g < 1000000000000) (k : ∀ w', Sat Γ (PDisk a m.syncNames.1 :: L) w' → K 0 w') :
    CallP Try.prog 56 [.pointer (some ⟨a, 0, none⟩)] (.one (.s (.int .i64))) K w :=
  dSyncNames_ok h hg fun w' h => by
    have e : m.syncNames.2 = 0 := by rw [DiskM.syncNames_up hq.up]
    rw [e]
    exact k w' h

theorem DiskM.read_len {m : DiskM} (hw : Wf m) (s : Str) : (m.read s).2.1.length ≤ m.g := by
  cases hu : m.up with
  | false => rw [DiskM.read_down hu]; exact Nat.zero_le _
  | true =>
    cases hf : findN m.now s with
    | none => rw [DiskM.read_none hu hf]; exact Nat.zero_le _
    | some i => rw [DiskM.read_some hu hf]; exact hw.fileAt_len i

end Go.Proofs.Ytocmjngleknlbaa.K
