/-
  The reference's disk: files made, named, let go of.
-/
import Derived.Test.YtohoimokfgfceaaRdE
import Derived.Test.YtohoimokfgfceaaRdB
namespace Go.Proofs.Ytohoimokfgfceaa.K
open Go Go.Proofs
variable {Γ Γ' : Mem} {L L' L'' : List HP} {w w' : World} {A B : HP}
set_option maxRecDepth 100000
set_option maxHeartbeats 1000000

/-- up, or not -/
theorem rdDownUp_ok {a : Nat} {m : DiskM} {K : Bool → World → Prop} (h : Sat Γ (RDisk a m :: L) w) (hu : m.up = true) (k : ∀ w', Sat Γ (RDisk a m.tick :: L) w' → K false w') :
    CallP Try.prog 153 [.pointer (some ⟨a, 0, none⟩)] (.one (.s .bool)) K w := rdDown_ok h fun w' h => by rw [hu]; exact k w' h
theorem rdDownNo_ok {a : Nat} {m : DiskM} {K : Bool → World → Prop} (h : Sat Γ (RDisk a m :: L) w) (hu : m.up = false) (k : ∀ w', Sat Γ (RDisk a m.tick :: L) w' → K true w') :
    CallP Try.prog 153 [.pointer (some ⟨a, 0, none⟩)] (.one (.s .bool)) K w := rdDown_ok h fun w' h => by rw [hu]; exact k w' h
theorem rrightY_ok {s : Str} {K : Bool → World → Prop} (hs : rightN s) (k1 : K true w) : CallP Try.prog 168 [.string (str s)] (.one (.s .bool)) K w := rright_ok (fun _ => k1) fun h => absurd hs h
theorem rrightN_ok {s : Str} {K : Bool → World → Prop} (hs : ¬ rightN s) (k1 : K false w) : CallP Try.prog 168 [.string (str s)] (.one (.s .bool)) K w := rright_ok (fun h => absurd h hs) fun _ => k1

/-- the layout, opened: as the calls take it -/
theorem Sat.rdO {a : Nat} {m : DiskM} (h : Sat Γ (RDisk a m.tick :: L) w) : ∃ fl nl kl cl left, Lst eNameR Γ nl m.now ∧ Lst eNameR Γ kl m.kept ∧ Lst eChgR Γ cl m.changes ∧ LeftOK m.tick left ∧ Wf m.tick ∧
    Sat Γ (blk a (.cells #[slv fl, slv nl, slv kl, slv cl, .int .i64 m.room, .bool m.tick.down, .bool m.tick.doomed, .int .i64 left] TRDisk (0, 0)) :: OL eFileR TRFile fl m.files :: L) w := by
  obtain ⟨fl, nl, kl, cl, left, ⟨a1, a2, a3, a4, a5⟩, h⟩ := h.rd
  rw [tick_now] at a1
  rw [tick_kept] at a2
  rw [tick_changes] at a3
  have e : rdlay a fl nl kl cl m.tick left L = blk a (.cells #[slv fl, slv nl, slv kl, slv cl, .int .i64 m.room, .bool m.tick.down, .bool m.tick.doomed, .int .i64 left] TRDisk (0, 0)) :: OL eFileR TRFile fl m.files :: L := by
    unfold rdlay rdcells
    rw [tick_room, tick_files]
  rw [e] at h
  exact ⟨fl, nl, kl, cl, left, a1, a2, a3, a4, a5, h⟩

theorem Sat.rdI {a : Nat} {m : DiskM} {fl nl kl cl : Sl} {left : Int} (h : Sat Γ (blk a (.cells #[slv fl, slv nl, slv kl, slv cl, .int .i64 m.room, .bool m.tick.down, .bool m.tick.doomed, .int .i64 left] TRDisk (0, 0)) :: OL eFileR TRFile fl m.files :: L) w)
    (a1 : Lst eNameR Γ nl m.now) (a2 : Lst eNameR Γ kl m.kept) (a3 : Lst eChgR Γ cl m.changes) (a4 : LeftOK m.tick left) (a5 : Wf m.tick) : Sat Γ (RDisk a m.tick :: L) w := by
  have e : rdlay a fl nl kl cl m.tick left L = blk a (.cells #[slv fl, slv nl, slv kl, slv cl, .int .i64 m.room, .bool m.tick.down, .bool m.tick.doomed, .int .i64 left] TRDisk (0, 0)) :: OL eFileR TRFile fl m.files :: L := by
    unfold rdlay rdcells
    rw [tick_room, tick_files]
  rw [← e] at h
  exact h.toRd ⟨by rw [tick_now]; exact a1, by rw [tick_kept]; exact a2, by rw [tick_changes]; exact a3, a4, a5⟩

theorem appFileR0_pr {T2 T3 r : Nat} {z3 : Nat × Nat} {s : Sl} {xs : List FileM} {K : Sl → World → Prop} (h : Sat Γ (blk r (.cells #[.slice none 0 0, .int .i64 0] T3 z3) :: L) w) (pk : Pick (OL eFileR TRFile s xs) L L')
    (hb : (s.len + 1) * 32 ≤ 70368744177664) (k : ∀ s' w', s'.len = s.len + 1 → Sat Γ (OL eFileR TRFile s' (xs ++ [⟨[], 0⟩]) :: L') w' → K s' w') :
    Prim Try.prog (Builtin.append_ #[184, 184] T2 #[.slice s.p s.len s.cap, .slice (some ⟨r, 0, none⟩) 1 1]) (.one (.s .sl)) K w :=
  app1 (E := eFileR) (⟨none, 0, 0⟩, 0) ⟨[], 0⟩ slFileR h pk ⟨.nil _ _, rfl⟩ k hb

theorem rCreate_ok {a : Nat} {m : DiskM} {s : Str} {K : Int → World → Prop} (h : Sat Γ (RDisk a m :: L) w) (hg : m.g < 1000000000000) (k : ∀ Γ' w', Γ.le Γ' → Sat Γ' (RDisk a (m.create s).1 :: L) w' → K (m.create s).2 w') :
    CallP Try.prog 127 [.pointer (some ⟨a, 0, none⟩), .string (str s)] (.one (.s (.int .i64))) K w := by
  have hw := h.rdWf
  have hg' : m.tick.g < 1000000000000 := by rw [tick_g]; exact hg
  refine callP (fn := Try.f127) [.s (.ptr (some ⟨a, 0, none⟩)), .s (.str (str s))] .n nong mixed (by kernel_rfl) (by kernel_rfl) rfl rfl ?_
  cases hu : m.up with
  | false =>
    rw [DiskM.create_down hu] at k
    refine rdDownNo_ok h hu (fun _ h => ?_)
    refine brT ?_
    refine ⟨_, rfl, ?_⟩
    refine k _ _ (.refl _) h
  | true =>
    by_cases hs : rightN s
    · refine rdDownUp_ok h hu fun _ h => ?_
      obtain ⟨fl, nl, kl, cl, left, rn, rk, rc, rl, rw5, h⟩ := h.rdO
      have hnl := hw.nowLen
      have hfl := hw.gl
      cases hf : findN m.now s with
      | none =>
        rw [DiskM.create_new hu hs hf] at k
        have e : ({ m.tick with files := m.files ++ [⟨[], 0⟩], g := m.g + 1 } : DiskM) = ⟨m.files ++ [⟨[], 0⟩], m.now, m.kept, m.changes, m.room, m.tick.down, m.tick.doomed, m.tick.left, m.g + 1⟩ := by
          show DiskM.mk _ m.tick.now m.tick.kept m.tick.changes m.tick.room _ _ _ _ = _
          rw [tick_now, tick_kept, tick_changes, tick_room]
        have hw2 := rw5.newFile
        rw [tick_files, tick_g] at hw2
        rw [e] at k hw2
        have hfit : FitC m.now ⟨[], s, m.files.length⟩ := rightN_fitNew hw hs (by rw [hf]; rfl)
        clear e
        obtain ⟨lrn, mrn, crn⟩ := rn.lens
        obtain ⟨lrk, mrk, crk⟩ := rk.lens
        obtain ⟨lrc, mrc, crc⟩ := rc.lens
        refine brF ?_
        refine rright_ok (fun hbp1 => ?_) (fun hbp2 => ?_)
        refine brF ?_
        refine ⟨_, rfl, ?_⟩
        refine ld _ h .n0 ?_
        refine rfindNone_ok h rn (by first | omega | (dsimp only; omega) | decide) hf (fun _ h => ?_)
        refine brF ?_
        refine new h fun hbr6 _ h => ?_
        have h := h.asA (B := blk hbr6 (.cells #[] 197 (0, 0))) (by kernel_rfl)
        refine ⟨_, rfl, ?_⟩
        refine ld _ h .n1 ?_
        have h := (h.pick .n0).olEmpty (E := eFileR)
        refine appO slFileR h .n0 .n1 (fun hbs7 _ hbl7 h => ?_)
        dsimp only at hbl7
        refine new h fun hbr8 _ h => ?_
        have h := h.asA (B := blk hbr8 (.cells #[Value.slice (Sl.mk none 0 0).p (Sl.mk none 0 0).len (Sl.mk none 0 0).cap, Value.int IntKind.i64 0] 197 (0, 0))) (by kernel_rfl)
        refine appFileR0_pr h .n0 (by first | omega | (dsimp only; omega) | decide) (fun hbv10 _ hbp12 h => ?_)
        refine ⟨_, rfl, ?_⟩
        refine st h .n1 fun _ h => ?_
        have h := h.asA (B := blk a (.cells #[Value.slice hbv10.p hbv10.len hbv10.cap, Value.slice nl.p nl.len nl.cap, Value.slice kl.p kl.len kl.cap, Value.slice cl.p cl.len cl.cap, Value.int IntKind.i64 m.room, Value.bool m.tick.down, Value.bool m.tick.doomed, Value.int IntKind.i64 left] 188 (0, 0))) (by kernel_rfl)
        refine ⟨_, rfl, ?_⟩
        refine ld _ h .n0 ?_
        refine wrN (hbv10.len - 1) ?_
        rotate_left
        refine brT ?_
        refine ⟨_, rfl, ?_⟩
        contradiction
        have h := Sat.toRd (m := ⟨m.files ++ [⟨[], 0⟩], m.now, m.kept, m.changes, m.room, m.tick.down, m.tick.doomed, m.tick.left, m.g + 1⟩) (fl := hbv10) (nl := nl) (kl := kl) (cl := cl) (left := left) h ⟨rn, rk, rc, rl, hw2⟩
        refine rDoes_ok (c := ⟨[], s, m.files.length⟩) (f := _) h (by show m.g + 1 < _; omega) hfit (by simp) (fun _ => by dsimp only; omega) fun Γ' w' g h => ?_
        have rn := rn.mono g
        have rk := rk.mono g
        have rc := rc.mono g
        refine ⟨_, rfl, ?_⟩
        refine k _ _ g (h.pick .n1).drop
      | some i =>
        rw [DiskM.create_there hu hs hf] at k
        have k2 : ∀ w', Sat Γ (blk a (.cells #[slv fl, slv nl, slv kl, slv cl, .int .i64 m.room, .bool m.tick.down, .bool m.tick.doomed, .int .i64 left] TRDisk (0, 0)) :: OL eFileR TRFile fl m.files :: L) w' → K 4 w' := fun w' h => k Γ w' (.refl _) (h.rdI rn rk rc rl rw5)
        obtain ⟨lrn, mrn, crn⟩ := rn.lens
        obtain ⟨lrk, mrk, crk⟩ := rk.lens
        obtain ⟨lrc, mrc, crc⟩ := rc.lens
        refine brF ?_
        refine rright_ok (fun cp1 => ?_) (fun cp2 => ?_)
        refine brF ?_
        refine ⟨_, rfl, ?_⟩
        refine ld _ h .n0 ?_
        refine rfindSome_ok h rn (by first | omega | (dsimp only; omega) | decide) hf (fun _ h => ?_)
        refine brT ?_
        refine ⟨_, rfl, ?_⟩
        refine k2 _ ((h.pick .n1).pick .n1)
        refine brT ?_
        refine ⟨_, rfl, ?_⟩
        contradiction
    · rw [DiskM.create_arg hu hs] at k
      refine rdDownUp_ok h hu (fun _ h => ?_)
      refine brF ?_
      refine rright_ok (fun dp4 => ?_) (fun dp5 => ?_)
      refine brF ?_
      refine ⟨_, rfl, ?_⟩
      contradiction
      refine brT ?_
      refine ⟨_, rfl, ?_⟩
      refine k _ _ (.refl _) h

end Go.Proofs.Ytohoimokfgfceaa.K
