/-
  The program's disk: its maps, told by rules.
-/
import Derived.Test.YtocmjngleknlbaaDkP
namespace Go.Proofs.Ytocmjngleknlbaa.K
open Go Go.Proofs
variable {Γ Γ' : Mem} {L L' L'' : List HP} {w w' : World} {A B : HP}
set_option maxRecDepth 100000

abbrev TNames : Nat := 58
theorem kS : KeyT Try.prog 9 ekS noG := .str (by kernel_rfl)
theorem kP : KeyT Try.prog 79 ekP goodP := .ptr (t := TFile) (by kernel_rfl) (by kernel_rfl)
theorem namesU : Try.prog.underlying TNames = some (.map 9 79) := by kernel_rfl
theorem names2U : Try.prog.underlying 57 = some (.map 9 79) := by kernel_rfl
theorem filesU : Try.prog.underlying 122 = some (.map 79 4) := by kernel_rfl
theorem ptrZ (w : World) : (zeroValue 79).run Try.prog w = .ok (.pointer none) w := zero_of (by kernel_rfl) w

def evB (b : Bool) : Value := .bool b

theorem lookNames_pr {r : Nat} {ln : List (Str × Option Nat)} {s : Str} {K : Option Addr → World → Prop} (h : Sat Γ L w) (pk : Pick (MapR ekS ekP r ln) L L') (c : K (addrO ((atK ln s).getD none)) w) :
    Prim Try.prog (Instr.lookup TNames (.map (some r)) (.string (str s)) false) (.one (.s .ptr)) K w :=
  lookM (ek := ekS) (ev := ekP) (k := s) (hg := trivial) (hgl := fun _ _ => trivial) (fun o => addrO (o.getD none)) kS namesU ptrZ h pk (fun _ => rfl) rfl c

theorem lookNamesN_pr {r : Nat} {ln : List (Str × Option Nat)} {s : Str} {K : Option Addr → World → Prop} (h : Sat Γ L w) (pk : Pick (MapR ekS ekP r ln) L L') (e : atK ln s = none) (c : K none w) :
    Prim Try.prog (Instr.lookup TNames (.map (some r)) (.string (str s)) false) (.one (.s .ptr)) K w := lookNames_pr h pk (by rw [e]; exact c)

theorem lookNamesS_pr {r b : Nat} {ln : List (Str × Option Nat)} {s : Str} {K : Option Addr → World → Prop} (h : Sat Γ L w) (pk : Pick (MapR ekS ekP r ln) L L') (e : atK ln s = some (some b)) (c : K (some ⟨b, 0, none⟩) w) :
    Prim Try.prog (Instr.lookup TNames (.map (some r)) (.string (str s)) false) (.one (.s .ptr)) K w := lookNames_pr h pk (by rw [e]; exact c)

theorem putNames_pr {r b : Nat} {ln : List (Str × Option Nat)} {s : Str} {K : World → Prop} (h : Sat Γ L w) (pk : Pick (MapR ekS ekP r ln) L L') (c : ∀ w', Sat Γ (MapR ekS ekP r (putK ln s (some b)) :: L') w' → K w') :
    PrimU Try.prog (Instr.mapUpdate TNames (.map (some r)) (.string (str s)) (.pointer (some ⟨b, 0, none⟩))) K w := putM (ek := ekS) (ev := ekP) (k := s) (v := some b) (hg := trivial) (hgl := fun _ _ => trivial) kS namesU h pk c

theorem putNamesO_pr {r : Nat} {o : Option Nat} {ln : List (Str × Option Nat)} {s : Str} {K : World → Prop} (h : Sat Γ L w) (pk : Pick (MapR ekS ekP r ln) L L') (c : ∀ w', Sat Γ (MapR ekS ekP r (putK ln s o) :: L') w' → K w') :
    PrimU Try.prog (Instr.mapUpdate TNames (.map (some r)) (.string (str s)) (.pointer (addrO o))) K w := putM (ek := ekS) (ev := ekP) (k := s) (v := o) (hg := trivial) (hgl := fun _ _ => trivial) kS namesU h pk c

theorem delNames_pr {r ty : Nat} {ln : List (Str × Option Nat)} {s : Str} {K : PUnit → World → Prop} (h : Sat Γ L w) (pk : Pick (MapR ekS ekP r ln) L L') (c : ∀ w', Sat Γ (MapR ekS ekP r (delK ln s) :: L') w' → K ⟨⟩ w') :
    Prim Try.prog (Builtin.delete_ #[TNames, 9] ty #[.map (some r), .string (str s)]) (.tup []) K w := delM (ek := ekS) (ev := ekP) (k := s) (hg := trivial) (hgl := fun _ _ => trivial) kS namesU h pk c

theorem rangeNames_pr {r : Nat} {ln : List (Str × Option Nat)} {K : Option Addr → World → Prop} (h : Sat Γ L w) (pk : Pick (MapR ekS ekP r ln) L L') (c : ∀ it w', Sat Γ (MapIt ekS ekP r it ln ln :: L') w' → K (some ⟨it, 0, none⟩) w') :
    Prim Try.prog (Instr.range TNames (.map (some r))) (.one (.s .ptr)) K w := rangeM namesU h pk c

theorem nextNames_pr {ty r it : Nat} {ln left : List (Str × Option Nat)} {K : List Value → World → Prop} (h : Sat Γ L w) (pk : Pick (MapIt ekS ekP r it ln left) L L')
    (c0 : left = [] → ∀ w', Sat Γ (MapIt ekS ekP r it ln [] :: L') w' → K [.bool false] w')
    (c1 : ∀ l1 k v l2, left = l1 ++ (k, v) :: l2 → ∀ w', Sat Γ (MapAt ekS ekP r it ln (l1 ++ l2) k v :: L') w' → K [.bool true, .string (str k), .pointer (addrO v)] w') :
    PrimN Try.prog (Instr.next (.pointer (some ⟨it, 0, none⟩)) false ty) K w := nextM h pk c0 c1

theorem entryNames_pr {r it : Nat} {ln left : List (Str × Option Nat)} {s : Str} {o : Option Nat} {K : List Value → World → Prop} (h : Sat Γ L w) (pk : Pick (MapAt ekS ekP r it ln left s o) L L') (c : ∀ w', Sat Γ (MapIt ekS ekP r it ln left :: L') w' → K [.string (str s), .pointer (addrO o)] w') :
    PrimN Try.prog (Instr.entry (.pointer (some ⟨it, 0, none⟩))) K w := entryM h pk (c w)

theorem appChg_pr {T2 T3 r : Nat} {z3 : Nat × Nat} {s : Sl} {xs : List (Str × Str × Option Nat)} {c1 c2 : Str} {o : Option Nat} {K : Sl → World → Prop} (h : Sat Γ (blk r (.cells #[.string (str c1), .string (str c2), .pointer (addrO o)] T3 z3) :: L) w) (pk : Pick (OL eChg TChg s xs) L L')
    (hb : (s.len + 1) * 40 ≤ 70368744177664) (k : ∀ s' w', s'.len = s.len + 1 → Sat Γ (OL eChg TChg s' (xs ++ [(c1, c2, o)]) :: L') w' → K s' w') :
    Prim Try.prog (Builtin.append_ #[59, 59] T2 #[.slice s.p s.len s.cap, .slice (some ⟨r, 0, none⟩) 1 1]) (.one (.s .sl)) K w :=
  app1 (E := eChg) (str c1, str c2, addrO o) (c1, c2, o) slChg h pk ⟨rfl, rfl, rfl⟩ k hb

end Go.Proofs.Ytocmjngleknlbaa.K

/-
  The program's disk: its own functions.
-/
namespace Go.Proofs.Ytocmjngleknlbaa.K
open Go Go.Proofs
variable {Γ Γ' : Mem} {L L' L'' : List HP} {w w' : World} {A B : HP}
set_option maxRecDepth 100000
set_option maxHeartbeats 4000000

theorem right_ok {s : Str} {K : Bool → World → Prop} (k1 : rightN s → K true w) (k2 : ¬ rightN s → K false w) :
    CallP Try.prog 69 [.string (str s)] (.one (.s .bool)) K w := by
  have hz := str_size s
  unfold rightN at k1 k2
  refine callP (fn := Try.f69) [.s (.str (str s))] .n nong mixed (by kernel_rfl) (by kernel_rfl) rfl rfl ?_
  refine brD (fun ab0 => ?_) (fun ab0 => ?_)
  refine ⟨_, rfl, ?_⟩
  refine kDec (fun ab1 => ?_) (fun ab1 => ?_)
  refine k1 (by first | omega | decide)
  refine k2 (by first | omega | decide)
  refine ⟨_, rfl, ?_⟩
  refine k2 (by first | omega | decide)

theorem ready_ok {a : Nat} {ps : List (Option Nat)} {m : DiskM} {M : List HP} {K : Int → World → Prop} (h : Sat Γ (PDg a ps m M :: L) w)
    (k1 : ∀ w', m.up = true → Sat Γ (PDg a ps m.tick M :: L) w' → K 0 w') (k2 : ∀ w', m.up = false → Sat Γ (PDg a ps m.tick M :: L) w' → K 40 w') :
    CallP Try.prog 65 [.pointer (some ⟨a, 0, none⟩)] (.one (.s (.int .i64))) K w := by
  obtain ⟨rn, rk, cs, ln, lk, hp, hn, hk, h⟩ := h.pdg
  have hwt := hp.wf.tick
  have hl := hp.wf.left
  have hu := hp.wf.leftU
  refine callP (fn := Try.f65) [.s (.ptr (some ⟨a, 0, none⟩))] (.p .n (.p (.k [] [] .n) .n)) nong mixed (by kernel_rfl) (by kernel_rfl) rfl rfl ?_
  obtain ⟨fs, nw, kp, ch, room, down, doomed, left, g⟩ := m
  dsimp only at hl hu
  have hx : ∀ {b : Bool} {m' : DiskM}, DiskM.tick ⟨fs, nw, kp, ch, room, down, doomed, left, g⟩ = m' → PtrsOK ps m' := fun e => ⟨by rw [← e]; unfold DiskM.tick; dsimp only; split; exact hp.len; split; split; exact hp.len; exact hp.len; exact hp.len, by
    rw [← e]; unfold DiskM.tick; dsimp only; split; exact hp.now; split; split; exact hp.now; exact hp.now; exact hp.now, by
    rw [← e]; unfold DiskM.tick; dsimp only; split; exact hp.kept; split; split; exact hp.kept; exact hp.kept; exact hp.kept, by
    rw [← e]; unfold DiskM.tick; dsimp only; split; exact hp.chs; split; split; exact hp.chs; exact hp.chs; exact hp.chs, e ▸ hwt⟩
  cases down
  · cases doomed
    · refine joinI ?_
      refine brF ?_
      refine ⟨_, rfl, ?_⟩
      refine ld _ h .n0 ?_
      refine brF ?_
      refine ⟨_, rfl, ?_⟩
      refine ld _ h .n0 ?_
      refine brF ?_
      refine ⟨_, rfl, ?_⟩
      refine ld _ h .n0 ?_
      refine brF ?_
      refine ⟨_, rfl, ?_⟩
      refine k1 _ (by first | omega | rfl) ?_
      rotate_left
      exact Sat.toPdg h hp hn hk
    · by_cases h0 : left = 0
      · subst h0
        refine joinI ?_
        refine brF ?_
        refine ⟨_, rfl, ?_⟩
        refine ld _ h .n0 ?_
        refine brF ?_
        refine ⟨_, rfl, ?_⟩
        refine ld _ h .n0 ?_
        refine brT ?_
        refine ⟨_, rfl, ?_⟩
        refine ld _ h .n0 ?_
        refine brT ?_
        refine ⟨_, rfl, ?_⟩
        refine st h .n0 fun _ h => ?_
        refine ⟨_, rfl, ?_⟩
        refine k2 _ (by first | omega | rfl) ?_
        rotate_left
        exact Sat.toPdg h (hx (b := true) rfl) hn hk
      · have ht : DiskM.tick ⟨fs, nw, kp, ch, room, false, true, left, g⟩ = ⟨fs, nw, kp, ch, room, false, true, left - 1, g⟩ := by simp [DiskM.tick, h0]
        have hup : DiskM.up ⟨fs, nw, kp, ch, room, false, true, left, g⟩ = true := by simp [DiskM.up, h0]
        rw [ht] at k1 k2
        refine joinI ?_
        refine brF ?_
        refine ⟨_, rfl, ?_⟩
        refine ld _ h .n0 ?_
        refine brF ?_
        refine ⟨_, rfl, ?_⟩
        refine ld _ h .n0 ?_
        refine brT ?_
        refine ⟨_, rfl, ?_⟩
        refine ld _ h .n0 ?_
        refine brE (fun cb0 => by exfalso; dsimp only at cb0; omega) (fun cb0 => ?_)
        refine ⟨_, rfl, ?_⟩
        refine ld _ h .n0 ?_
        refine brT ?_
        refine ⟨_, rfl, ?_⟩
        refine ld _ h .n0 ?_
        refine wr ?_
        refine ⟨_, rfl, ?_⟩
        refine st h .n0 fun _ h => ?_
        refine ⟨_, rfl, ?_⟩
        refine k1 _ hup ?_
        rotate_left
        exact Sat.toPdg h (hx (b := true) ht) hn hk
  · refine joinI ?_
    refine brF ?_
    refine ⟨_, rfl, ?_⟩
    refine ld _ h .n0 ?_
    refine brT ?_
    refine ⟨_, rfl, ?_⟩
    refine k2 _ (by first | omega | rfl) ?_
    rotate_left
    exact Sat.toPdg h hp hn hk

theorem do_ok {r : Nat} {ln : List (Str × Option Nat)} {c1 c2 : Str} {c3 : Option Nat} {K : PUnit → World → Prop} (h : Sat Γ (MapR ekS ekP r ln :: L) w) (k : ∀ w', Sat Γ (MapR ekS ekP r (doK ln (c1, c2, c3)) :: L) w' → K ⟨⟩ w') :
    CallP Try.prog 33 [.map (some r), .agg #[.string (str c1), .string (str c2), .pointer (addrO c3)]] (.tup []) K w := by
  unfold doK at k
  refine callP (fn := Try.f33) [.s (.mp (some r)), .agg [.str (str c1), .str (str c2), .ptr (addrO c3)]] .n nong mixed (by kernel_rfl) (by kernel_rfl) rfl rfl ?_
  dsimp only at k
  by_cases hc : c2 = []
  · rw [if_pos hc] at k
    refine new h fun ar0 _ h => ?_
    refine ld _ h .n0 ?_
    refine delNames_pr h .n1 (fun _ h => ?_)
    refine ld _ h .n1 ?_
    refine brSn (fun ab4 => ?_) (fun ab4 => ?_)
    refine ld _ h .n1 ?_
    refine ld _ h .n1 ?_
    refine putNamesO_pr h .n0 (fun _ h => ?_)
    refine ⟨⟨⟩, rfl, ?_⟩
    refine k _ (Sat.eqs (h.pick .n1).drop ?_)
    contradiction
    refine ⟨⟨⟩, rfl, ?_⟩
    refine k _ (h.pick .n1).drop
  · rw [if_neg hc] at k
    refine new h fun br0 _ h => ?_
    refine ld _ h .n0 ?_
    refine delNames_pr h .n1 (fun _ h => ?_)
    refine ld _ h .n1 ?_
    refine brSn (fun bb4 => ?_) (fun bb4 => ?_)
    refine ld _ h .n1 ?_
    refine ld _ h .n1 ?_
    refine putNamesO_pr h .n0 (fun _ h => ?_)
    refine ⟨⟨⟩, rfl, ?_⟩
    refine k _ (h.pick .n1).drop
    refine ⟨⟨⟩, rfl, ?_⟩
    refine k _ (Sat.eqs (h.pick .n1).drop ?_)
    contradiction

theorem Sat.pdTick {a : Nat} {ps : List (Option Nat)} {m : DiskM} (h : Sat Γ (PDg a ps m.tick (filesL ps m.files) :: L) w) : Sat Γ (PDp a ps m.tick :: L) w := h.eqs (by unfold PDp; rw [tick_files])

theorem readyP_ok {a : Nat} {ps : List (Option Nat)} {m : DiskM} {K : Int → World → Prop} (h : Sat Γ (PDp a ps m :: L) w)
    (k1 : ∀ w', m.up = true → Sat Γ (PDp a ps m.tick :: L) w' → K 0 w') (k2 : ∀ w', m.up = false → Sat Γ (PDp a ps m.tick :: L) w' → K 40 w') :
    CallP Try.prog 65 [.pointer (some ⟨a, 0, none⟩)] (.one (.s (.int .i64))) K w :=
  ready_ok (M := filesL ps m.files) h (fun w' hu h => k1 w' hu h.pdTick) fun w' hu h => k2 w' hu h.pdTick

/-- the file that has a name -/
theorem find_ok {a : Nat} {ps : List (Option Nat)} {m : DiskM} {s : Str} {K : (Option Addr × Int) → World → Prop} (h : Sat Γ (PDp a ps m :: L) w)
    (k0 : ∀ w', m.up = false → Sat Γ (PDp a ps m.tick :: L) w' → K (none, 40) w')
    (k1 : ∀ w', m.up = true → findN m.now s = none → Sat Γ (PDp a ps m.tick :: L) w' → K (none, 2) w')
    (k2 : ∀ i b w', m.up = true → findN m.now s = some i → at_ ps i = some b → i < m.files.length → Sat Γ (PDp a ps m.tick :: L) w' → K (some ⟨b, 0, none⟩, 0) w') :
    CallP Try.prog 46 [.pointer (some ⟨a, 0, none⟩), .string (str s)] (.tup [.s .ptr, .s (.int .i64)]) K w := by
  have hp : PtrsOK ps m := Sat.pdOK (M := filesL ps m.files) h
  refine callP (fn := Try.f46) [.s (.ptr (some ⟨a, 0, none⟩)), .s (.str (str s))] .n nong mixed (by kernel_rfl) (by kernel_rfl) rfl rfl ?_
  refine readyP_ok h (fun _ hu h => ?_) (fun _ hu h => ?_)
  · obtain ⟨rn, rk, cs, ln, lk, hp', hn, hk, h⟩ := Sat.pdg h
    have hl := look_names hp'.wf.nowOK hn s
    rw [tick_now] at hl
    cases hf : findN m.now s with
    | none =>
      rw [hf] at hl
      have hl : atK ln s = none := hl
      refine brF ?_
      refine ⟨_, rfl, ?_⟩
      refine ld _ h .n0 ?_
      refine lookNamesN_pr h .n1 hl ?_
      refine brT ?_
      refine ret2 _ _ ?_
      refine k1 _ hu hf ?_
      rotate_left
      exact Sat.toPdg h hp' hn hk
    | some i =>
      have hi := hp.now _ (findN_mem hf)
      have hil := hp.wf.find_lt hf
      obtain ⟨b, hb⟩ := Option.isSome_iff_exists.1 hi
      have hb : at_ ps i = some b := hb
      rw [hf, Option.map_some, hb] at hl
      dsimp only at hi
      refine brF ?_
      refine ⟨_, rfl, ?_⟩
      refine ld _ h .n0 ?_
      refine lookNamesS_pr h .n1 hl ?_
      refine brF ?_
      refine ret2 _ _ ?_
      refine k2 _ _ _ hu hf hb hil ?_
      rotate_left
      exact Sat.toPdg h hp' hn hk
  · refine brT ?_
    refine ret2 _ _ ?_
    refine k0 _ hu h

/-- a change is done, and noted -/
theorem changed_ok {a : Nat} {ps : List (Option Nat)} {m : DiskM} {M : List HP} {c : ChM} {K : PUnit → World → Prop} (h : Sat Γ (PDg a ps m M :: L) w) (hg : m.g < 1000000000001) (hc : FitC m.now c) (hf : c.file < m.files.length) (hb : c.new ≠ [] → (at_ ps c.file).isSome = true)
    (k : ∀ w', Sat Γ (PDg a ps (m.does c) M :: L) w' → K ⟨⟩ w') :
    CallP Try.prog 68 [.pointer (some ⟨a, 0, none⟩), .agg #[.string (str c.gone), .string (str c.new), .pointer (addrO (chgP ps c).2.2)]] (.tup []) K w := by
  obtain ⟨rn, rk, cs, ln, lk, hp, hn, hk, h⟩ := h.pdg
  have hcl := h.olLen .n3
  have hgn := hp.wf.gn
  rw [List.length_map] at hcl
  refine callP (fn := Try.f68) [.s (.ptr (some ⟨a, 0, none⟩)), .agg [.str (str c.gone), .str (str c.new), .ptr (addrO (chgP ps c).2.2)]] (.p .n (.p .s (.h [0, 1, 2, 3, 4, 5, 6, 7, 8, 9, 10] [10]))) nong mixed (by kernel_rfl) (by kernel_rfl) rfl rfl ?_
  refine new h fun ar0 _ h => ?_
  refine dr h fun _ h => ?_
  refine ⟨_, rfl, ?_⟩
  refine ld _ h .n1 ?_
  refine ldA3 _ _ _ h .n0 ?_
  refine do_ok (h.pick .n2) (fun _ h => ?_)
  refine heldS h (.cons .n0 (.cons .n0 (.cons .n0 (.cons .n0 (.cons .n1 .nil))))) ?_
  refine dr h fun _ h => ?_
  refine ⟨h.sxs (.cons .n0 (.cons .n0 (.cons .n0 (.cons .n0 (.cons .n1 .nil))))) (.refl _), ?_⟩
  refine ⟨_, rfl, ?_⟩
  refine ldH _ .n2 ?_
  refine ldHA3 _ _ _ .n1 ?_
  refine new h fun ar4 _ h => ?_
  refine ⟨h.sxs (.cons .n1 (.cons .n1 (.cons .n1 (.cons .n1 (.cons .n2 .nil))))) (.refl _), ?_⟩
  refine appChg_pr h .n4 (by first | omega | decide) (fun av6 _ ap8 h => ?_)
  refine ⟨h.sxs (.cons .n1 (.cons .n1 (.cons .n1 (.cons .n1 (.cons .n1 .nil))))) (.refl _), ?_⟩
  refine ⟨_, rfl, ?_⟩
  refine st h .n3 fun _ h => ?_
  refine heldS h (.cons .n0 (.cons .n0 (.cons .n0 (.cons .n0 (.cons .n0 (.cons .n0 .nil)))))) ?_
  refine ⟨h.sxs (.cons .n0 (.cons .n0 (.cons .n0 (.cons .n0 (.cons .n0 (.cons .n0 .nil)))))) (.refl _), ?_⟩
  refine ⟨⟨⟩, rfl, ?_⟩
  refine k _ ?_
  rotate_left
  have hw := hp.wf.does hc hf
  refine Sat.toPdg (rn := rn) (rk := rk) (cs := av6) (ln := doK ln (chgP ps c)) (lk := lk) ?_ ?_ (do_names hp.wf.nowOK (hp.wf.nowOK.chg hc hf) hn) hk
  · refine (Sat.eqs ((((((h.pick .n3).drop.pick .n4).pick .n2).pick .n4).pick .n4).pick .n4) ?_)
    rotate_left
    have e : (m.does c).changes.map (chgP ps) = m.changes.map (chgP ps) ++ [chgP ps c] := by simp [DiskM.does]
    show _ = blk a (.cells (dcells rn rk av6 (m.does c)) TDisk (0, 0)) :: MapR ekS ekP rn (doK ln (chgP ps c)) :: MapR ekS ekP rk lk :: OL eChg TChg av6 ((m.does c).changes.map (chgP ps)) :: HP.all M :: L
    rw [e]
    rfl
  exact ⟨hp.len, fun p hpm => by
    have hpm : p ∈ chg m.now c := hpm
    unfold chg at hpm
    split at hpm
    · exact hp.now p (mem_without.1 hpm).1
    · rename_i hne
      rcases mem_insN.1 hpm with rfl | hpm
      · exact hb hne
      · exact hp.now p (mem_without.1 (mem_without.1 hpm).1).1, hp.kept, fun x hx => by
    rcases List.mem_append.1 hx with hx | hx
    · exact hp.chs x hx
    · rw [List.mem_singleton] at hx; rw [hx]; exact hb, hw⟩

theorem changedP_ok {a : Nat} {ps : List (Option Nat)} {m : DiskM} {c : ChM} {p : Option Addr} {K : PUnit → World → Prop} (h : Sat Γ (PDp a ps m :: L) w) (ep : addrO (chgP ps c).2.2 = p) (hg : m.g < 1000000000001) (hc : FitC m.now c) (hf : c.file < m.files.length) (hb : c.gone = [] → (at_ ps c.file).isSome = true)
    (k : ∀ w', Sat Γ (PDisk a (m.does c) :: L) w' → K ⟨⟩ w') :
    CallP Try.prog 68 [.pointer (some ⟨a, 0, none⟩), .agg #[.string (str c.gone), .string (str c.new), .pointer p]] (.tup []) K w := by
  subst ep
  have hp : PtrsOK ps m := Sat.pdOK (M := filesL ps m.files) h
  refine changed_ok (M := filesL ps m.files) h hg hc hf (fun hn => ?_) fun w' h => k w' ?_
  · rcases hc with ⟨h1, _⟩ | ⟨_, h2, _⟩
    · exact hb h1
    · exact hp.now _ (findN_mem h2)
  · exact (show Sat Γ (PDp a ps (m.does c) :: L) w' from h).toPd

end Go.Proofs.Ytocmjngleknlbaa.K
