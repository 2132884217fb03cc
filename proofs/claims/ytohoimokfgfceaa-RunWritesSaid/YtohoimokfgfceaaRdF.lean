/-
  The reference's disk: files made, named, let go of.
-/
import Derived.Test.YtohoimokfgfceaaRdD
import Derived.Test.YtohoimokfgfceaaRdA
namespace Go.Proofs.Ytohoimokfgfceaa.K
open Go Go.Proofs
variable {Γ Γ' : Mem} {L L' L'' : List HP} {w w' : World} {A B : HP}
set_option maxRecDepth 100000
set_option maxHeartbeats 1000000

/-- up, or not -/
theorem rdDownUp_ok {a : Nat} {m : DiskM} {K : Bool → World → Prop} (h : Sat Γ (RDisk a m :: L) w) (hu : m.up = true) (k : ∀ w', Sat Γ (RDisk a m.tick :: L) w' → K false w') :
    CallP Try.prog 153 [.pointer (some ⟨a, 0, none⟩)] (.one (.s .bool)) K w := rdDown_ok h fun w' h => by rw [hu]; exact k w' h
theorem rdDownNo_ok {a : Nat} {m : DiskM} {K : Bool → World → Prop} (h : Sat Γ (RDisk a m :: L) w) (hu : m.up = false) (k : ∀ w', Sat Γ (RDisk a m.tick :: L) w' → K true w') :
    CallP Try.prog 153 [.pointer (some ⟨a, 0, none⟩)] (.one (.s .bool)) K w := rdDown_ok h fun w' h => by rw [hu]; exact k w' h
theorem rrightY_ok {s : Str} {K : Bool → World → Prop} (hs : rightN s) (k1 : K true w) : CallP Try.prog 168 [.string (str s)] (.one (.s .bool)) K w := rright_ok (fun _ => k1) fun h => absurd hs h
theorem rrightN_ok {s : Str} {K : Bool → World → Prop} (hs : ¬ rightN s) (k1 : K false w) : CallP Try.prog 168 [.string (str s)] (.one (.s .bool)) K w := rright_ok (fun h => absurd h hs) fun _ => k1

/-- the layout, opened: as the calls take it -/
theorem Sat.rdO {a : Nat} {m : DiskM} (h : Sat Γ (RDisk a m.tick :: L) w) : ∃ fl nl kl cl left, Lst eNameR Γ nl m.now ∧ Lst eNameR Γ kl m.kept ∧ Lst eChgR Γ cl m.changes ∧ LeftOK m.tick left ∧ Wf m.tick ∧
    Sat Γ (blk a (.cells #[slv fl, slv nl, slv kl, slv cl, .int .i64 m.room, .bool m.tick.down, .bool m.tick.doomed, .int .i64 left] TRDisk (0, 0)) :: OL eFileR TRFile fl m.files :: L) w := by
  obtain ⟨fl, nl, kl, cl, left, ⟨a1, a2, a3, a4, a5⟩, h⟩ := h.rd
  rw [tick_now] at a1
  rw [tick_kept] at a2
  rw [tick_changes] at a3
  have e : rdlay a fl nl kl cl m.tick left L = blk a (.cells #[slv fl, slv nl, slv kl, slv cl, .int .i64 m.room, .bool m.tick.down, .bool m.tick.doomed, .int .i64 left] TRDisk (0, 0)) :: OL eFileR TRFile fl m.files :: L := by
    unfold rdlay rdcells
    rw [tick_room, tick_files]
  rw [e] at h
  exact ⟨fl, nl, kl, cl, left, a1, a2, a3, a4, a5, h⟩

theorem Sat.rdI {a : Nat} {m : DiskM} {fl nl kl cl : Sl} {left : Int} (h : Sat Γ (blk a (.cells #[slv fl, slv nl, slv kl, slv cl, .int .i64 m.room, .bool m.tick.down, .bool m.tick.doomed, .int .i64 left] TRDisk (0, 0)) :: OL eFileR TRFile fl m.files :: L) w)
    (a1 : Lst eNameR Γ nl m.now) (a2 : Lst eNameR Γ kl m.kept) (a3 : Lst eChgR Γ cl m.changes) (a4 : LeftOK m.tick left) (a5 : Wf m.tick) : Sat Γ (RDisk a m.tick :: L) w := by
  have e : rdlay a fl nl kl cl m.tick left L = blk a (.cells #[slv fl, slv nl, slv kl, slv cl, .int .i64 m.room, .bool m.tick.down, .bool m.tick.doomed, .int .i64 left] TRDisk (0, 0)) :: OL eFileR TRFile fl m.files :: L := by
    unfold rdlay rdcells
    rw [tick_room, tick_files]
  rw [← e] at h
  exact h.toRd ⟨by rw [tick_now]; exact a1, by rw [tick_kept]; exact a2, by rw [tick_changes]; exact a3, a4, a5⟩

theorem appFileR0_pr {T2 T3 r : Nat} {z3 : Nat × Nat} {s : Sl} {xs : List FileM} {K : Sl → World → Prop} (h : Sat Γ (blk r (.cells #[.slice none 0 0, .int .i64 0] T3 z3) :: L) w) (pk : Pick (OL eFileR TRFile s xs) L L')
    (hb : (s.len + 1) * 32 ≤ 70368744177664) (k : ∀ s' w', s'.len = s.len + 1 → Sat Γ (OL eFileR TRFile s' (xs ++ [⟨[], 0⟩]) :: L') w' → K s' w') :
    Prim Try.prog (Builtin.append_ #[184, 184] T2 #[.slice s.p s.len s.cap, .slice (some ⟨r, 0, none⟩) 1 1]) (.one (.s .sl)) K w :=
  app1 (E := eFileR) (⟨none, 0, 0⟩, 0) ⟨[], 0⟩ slFileR h pk ⟨.nil _ _, rfl⟩ k hb

theorem rCreate_ok {a : Nat} {m : DiskM} {s : Str} {K : Int → World → Prop} (h : Sat Γ (RDisk a m :: L) w) (hg : m.g < 1000000000000) (k : ∀ Γ' w', Γ.le Γ' → Sat Γ' (RDisk a (m.create s).1 :: L) w' → K (m.create s).2 w') :
    CallP Try.prog 127 [.pointer (some ⟨a, 0, none⟩), .string (str s)] (.one (.s (.int .i64))) K w := by
  have hw := h.rdWf
  have hg' : m.tick.g < 1000000000000 := by rw [tick_g]; exact hg
  refine callP (fn := Try.f127) [.s (.ptr (some ⟨a, 0, none⟩)), .s (.str (str s))] .n nong mixed (by kernel_rfl) (by kernel_rfl) rfl rfl ?_
  cases hu : m.up with
  | false =>
    rw [DiskM.create_down hu] at k
    refine rdDownNo_ok h hu (fun _ h => ?_)
    refine brT ?_
    refine ⟨_, rfl, ?_⟩
    refine k _ _ (.refl _) h
  | true =>
    by_cases hs : rightN s
    · refine rdDownUp_ok h hu fun _ h => ?_
      obtain ⟨fl, nl, kl, cl, left, rn, rk, rc, rl, rw5, h⟩ := h.rdO
      have hnl := hw.nowLen
      have hfl := hw.gl
      cases hf : findN m.now s with
      | none =>
        rw [DiskM.create_new hu hs hf] at k
        have e : ({ m.tick with files := m.files ++ [⟨[], 0⟩], g := m.g + 1 } : DiskM) = ⟨m.files ++ [⟨[], 0⟩], m.now, m.kept, m.changes, m.room, m.tick.down, m.tick.doomed, m.tick.left, m.g + 1⟩ := by
          show DiskM.mk _ m.tick.now m.tick.kept m.tick.changes m.tick.room _ _ _ _ = _
          rw [tick_now, tick_kept, tick_changes, tick_room]
        have hw2 := rw5.newFile
        rw [tick_files, tick_g] at hw2
        rw [e] at k hw2
        have hfit : FitC m.now ⟨[], s, m.files.length⟩ := rightN_fitNew hw hs (by rw [hf]; rfl)
        clear e
        obtain ⟨lrn, mrn, crn⟩ := rn.lens
        obtain ⟨lrk, mrk, crk⟩ := rk.lens
        obtain ⟨lrc, mrc, crc⟩ := rc.lens
        refine brF ?_
        refine rright_ok (fun hbp1 => ?_) (fun hbp2 => ?_)
        refine brF ?_
        refine ⟨_, rfl, ?_⟩
        refine ld _ h .n0 ?_
        refine rfindNone_ok h rn (by first | omega | (dsimp only; omega) | decide) hf (fun _ h => ?_)
        refine brF ?_
        refine new h fun hbr6 _ h => ?_
        have h := h.asA (B := blk hbr6 (.cells #[] 197 (0, 0))) (by kernel_rfl)
        refine ⟨_, rfl, ?_⟩
        refine ld _ h .n1 ?_
        have h := (h.pick .n0).olEmpty (E := eFileR)
        refine appO slFileR h .n0 .n1 (fun hbs7 _ hbl7 h => ?_)
        dsimp only at hbl7
        refine new h fun hbr8 _ h => ?_
        have h := h.asA (B := blk hbr8 (.cells #[Value.slice (Sl.mk none 0 0).p (Sl.mk none 0 0).len (Sl.mk none 0 0).cap, Value.int IntKind.i64 0] 197 (0, 0))) (by kernel_rfl)
        refine appFileR0_pr h .n0 (by first | omega | (dsimp only; omega) | decide) (fun hbv10 _ hbp12 h => ?_)
        refine ⟨_, rfl, ?_⟩
        refine st h .n1 fun _ h => ?_
        have h := h.asA (B := blk a (.cells #[Value.slice hbv10.p hbv10.len hbv10.cap, Value.slice nl.p nl.len nl.cap, Value.slice kl.p kl.len kl.cap, Value.slice cl.p cl.len cl.cap, Value.int IntKind.i64 m.room, Value.bool m.tick.down, Value.bool m.tick.doomed, Value.int IntKind.i64 left] 188 (0, 0))) (by kernel_rfl)
        refine ⟨_, rfl, ?_⟩
        refine ld _ h .n0 ?_
        refine wrN (hbv10.len - 1) ?_
        rotate_left
        refine brT ?_
        refine ⟨_, rfl, ?_⟩
        contradiction
        have h := Sat.toRd (m := ⟨m.files ++ [⟨[], 0⟩], m.now, m.kept, m.changes, m.room, m.tick.down, m.tick.doomed, m.tick.left, m.g + 1⟩) (fl := hbv10) (nl := nl) (kl := kl) (cl := cl) (left := left) h ⟨rn, rk, rc, rl, hw2⟩
        refine rDoes_ok (c := ⟨[], s, m.files.length⟩) (f := _) h (by show m.g + 1 < _; omega) hfit (by simp) (fun _ => by dsimp only; omega) fun Γ' w' g h => ?_
        have rn := rn.mono g
        have rk := rk.mono g
        have rc := rc.mono g
        refine ⟨_, rfl, ?_⟩
        refine k _ _ g (h.pick .n1).drop
      | some i =>
        rw [DiskM.create_there hu hs hf] at k
        have k2 : ∀ w', Sat Γ (blk a (.cells #[slv fl, slv nl, slv kl, slv cl, .int .i64 m.room, .bool m.tick.down, .bool m.tick.doomed, .int .i64 left] TRDisk (0, 0)) :: OL eFileR TRFile fl m.files :: L) w' → K 4 w' := fun w' h => k Γ w' (.refl _) (h.rdI rn rk rc rl rw5)
        obtain ⟨lrn, mrn, crn⟩ := rn.lens
        obtain ⟨lrk, mrk, crk⟩ := rk.lens
        obtain ⟨lrc, mrc, crc⟩ := rc.lens
        refine brF ?_
        refine rright_ok (fun cp1 => ?_) (fun cp2 => ?_)
        refine brF ?_
        refine ⟨_, rfl, ?_⟩
        refine ld _ h .n0 ?_
        refine rfindSome_ok h rn (by first | omega | (dsimp only; omega) | decide) hf (fun _ h => ?_)
        refine brT ?_
        refine ⟨_, rfl, ?_⟩
        refine k2 _ ((h.pick .n1).pick .n1)
        refine brT ?_
        refine ⟨_, rfl, ?_⟩
        contradiction
    · rw [DiskM.create_arg hu hs] at k
      refine rdDownUp_ok h hu (fun _ h => ?_)
      refine brF ?_
      refine rright_ok (fun dp4 => ?_) (fun dp5 => ?_)
      refine brF ?_
      refine ⟨_, rfl, ?_⟩
      contradiction
      refine brT ?_
      refine ⟨_, rfl, ?_⟩
      refine k _ _ (.refl _) h

end Go.Proofs.Ytohoimokfgfceaa.K

/-
  The reference's disk: bytes put, read, kept; names.
-/
namespace Go.Proofs.Ytohoimokfgfceaa.K
open Go Go.Proofs
variable {Γ Γ' : Mem} {L L' L'' : List HP} {w w' : World} {A B : HP}
set_option maxRecDepth 100000
set_option maxHeartbeats 1000000

theorem roomR_ld {a : Nat} {m : DiskM} {Kp : Int → Prop} (h : Sat Γ L w) (pk : Pick (RDisk a m) L L') (k : Kp m.room) : Ld (fun w' => w' = w) (.s (.int .i64)) (⟨a, 4, none⟩ : Addr) Kp := by
  obtain ⟨fl, nl, kl, cl, left, hr, h⟩ := Sat.rd (h.pick pk)
  exact ld m.room h .n0 k

theorem roomRH_ld {L0 : List HP} {a : Nat} {m : DiskM} {Kp : Int → Prop} (pk : Pick (RDisk a m) L0 L') (k : Kp m.room) : Ld (Sx Γ L0) (.s (.int .i64)) (⟨a, 4, none⟩ : Addr) Kp := by
  refine ⟨m.room, ?_, k⟩
  rintro w' ⟨Γ', _, h⟩
  obtain ⟨fl, nl, kl, cl, left, hr, h⟩ := Sat.rd (h.pick pk)
  exact rd_of h.heap (s := .s (.int .i64)) (x := m.room) (o := 4) rfl

theorem rRead_ok {a : Nat} {m : DiskM} {s : Str} {K : (Sl × Int) → World → Prop} (h : Sat Γ (RDisk a m :: L) w) (hg : m.g < 1000000000000) (k : ∀ t Γ' w', Γ.le Γ' → Bytes Γ' t (m.read s).2.1 → Sat Γ' (RDisk a (m.read s).1 :: L) w' → K (t, (m.read s).2.2) w') :
    CallP Try.prog 92 [.pointer (some ⟨a, 0, none⟩), .string (str s)] (.tup [.s .sl, .s (.int .i64)]) K w := by
  have hw := h.rdWf
  have hnl := hw.nowLen
  refine callP (fn := Try.f92) [.s (.ptr (some ⟨a, 0, none⟩)), .s (.str (str s))] .n nong mixed (by kernel_rfl) (by kernel_rfl) rfl rfl ?_
  cases hu : m.up with
  | false =>
    rw [DiskM.read_down hu] at k
    refine rdDownNo_ok h hu (fun _ h => ?_)
    refine brT ?_
    refine ret2 _ _ ?_
    refine k _ _ _ (.refl _) (.nil _ _) h
  | true =>
    refine rdDownUp_ok h hu fun _ h => ?_
    obtain ⟨fl, nl, kl, cl, left, rn, rk, rc, rl, rw5, h⟩ := h.rdO
    have hfl := hw.gl
    have hol := h.olLen .n1
    cases hf : findN m.now s with
    | none =>
      rw [DiskM.read_none hu hf] at k
      have k2 : ∀ w', Sat Γ (blk a (.cells #[slv fl, slv nl, slv kl, slv cl, .int .i64 m.room, .bool m.tick.down, .bool m.tick.doomed, .int .i64 left] TRDisk (0, 0)) :: OL eFileR TRFile fl m.files :: L) w' → K (⟨none, 0, 0⟩, 2) w' := fun w' h => k ⟨none, 0, 0⟩ Γ w' (.refl _) (.nil _ _) (h.rdI rn rk rc rl rw5)
      obtain ⟨lrn, mrn, crn⟩ := rn.lens
      obtain ⟨lrk, mrk, crk⟩ := rk.lens
      obtain ⟨lrc, mrc, crc⟩ := rc.lens
      refine brF ?_
      refine ⟨_, rfl, ?_⟩
      refine ld _ h .n0 ?_
      refine rfindNone_ok h rn (by first | omega | (dsimp only; omega) | decide) hf (fun _ h => ?_)
      refine brT ?_
      refine ret2 _ _ ?_
      refine k2 _ ((h.pick .n1).pick .n1)
    | some i =>
      rw [DiskM.read_some hu hf] at k
      have hil := hw.find_lt hf
      obtain ⟨x, ex⟩ := get_lt hil
      have hx : m.fileAt i = x := by unfold DiskM.fileAt; rw [List.getD_eq_getElem?_getD, ex]; rfl
      have hxl := hw.fileAt_len i
      rw [hx] at k hxl
      have k2 : ∀ t Γ' w', Γ.le Γ' → Bytes Γ' t x.b → Lst eNameR Γ' nl m.now → Lst eNameR Γ' kl m.kept → Lst eChgR Γ' cl m.changes → Sat Γ' (blk a (.cells #[slv fl, slv nl, slv kl, slv cl, .int .i64 m.room, .bool m.tick.down, .bool m.tick.doomed, .int .i64 left] TRDisk (0, 0)) :: OL eFileR TRFile fl m.files :: L) w' → K (t, 0) w' :=
        fun t Γ' w' g hb a1 a2 a3 h => k t Γ' w' g hb (h.rdI a1 a2 a3 rl rw5)
      clear k
      obtain ⟨lrn, mrn, crn⟩ := rn.lens
      obtain ⟨lrk, mrk, crk⟩ := rk.lens
      obtain ⟨lrc, mrc, crc⟩ := rc.lens
      refine brF ?_
      refine ⟨_, rfl, ?_⟩
      refine ld _ h .n0 ?_
      refine rfindSome_ok h rn (by first | omega | (dsimp only; omega) | decide) hf (fun _ h => ?_)
      refine brF ?_
      refine new h fun cr3 _ h => ?_
      have h := h.asA (B := blk cr3 (.cells #[] 5 (0, 0))) (by kernel_rfl)
      refine ⟨_, rfl, ?_⟩
      refine ld _ h .n1 ?_
      refine ⟨by omega, ?_⟩
      refine nnO h .n2 (fun ca4 cha4 => ?_)
      refine ldOf h .n2 (·.1) cha4 ex (fun cy5 chy5 => ?_)
      obtain ⟨cy5s, chy5a, chy5e⟩ := eFileR_after chy5
      subst chy5e
      obtain ⟨lchy5a, mchy5a, cchy5a⟩ := chy5a.lens
      have h := (h.pick .n0).olEmpty (E := eByte)
      refine appL slBytes h .n0 chy5a.lst (fun cs6 _ cl6 h => ?_)
      dsimp only at cl6
      refine ret2 _ _ ?_
      obtain ⟨cΓ7, cg7, cf7, h⟩ := h.olFreeze .n0 (by first | omega | (dsimp only; omega))
      have cf7 := cf7.bytes
      have rn := rn.mono cg7
      have rk := rk.mono cg7
      have rc := rc.mono cg7
      have chy5a := chy5a.mono cg7
      refine k2 _ _ _ cg7 cf7 rn rk rc ((h.pick .n1).pick .n1)

theorem rSync_ok {a : Nat} {m : DiskM} {s : Str} {K : Int → World → Prop} (h : Sat Γ (RDisk a m :: L) w) (hg : m.g < 1000000000000) (k : ∀ w', Sat Γ (RDisk a (m.sync s).1 :: L) w' → K (m.sync s).2 w') :
    CallP Try.prog 128 [.pointer (some ⟨a, 0, none⟩), .string (str s)] (.one (.s (.int .i64))) K w := by
  have hw := h.rdWf
  have hnl := hw.nowLen
  refine callP (fn := Try.f128) [.s (.ptr (some ⟨a, 0, none⟩)), .s (.str (str s))] (.p .n (.p .n (.p .n (.p .n (.p .s .n))))) nong mixed (by kernel_rfl) (by kernel_rfl) rfl rfl ?_
  cases hu : m.up with
  | false =>
    rw [DiskM.sync_down hu] at k
    refine rdDownNo_ok h hu (fun _ h => ?_)
    refine brT ?_
    refine ⟨_, rfl, ?_⟩
    refine k _ h
  | true =>
    refine rdDownUp_ok h hu fun _ h => ?_
    obtain ⟨fl, nl, kl, cl, left, rn, rk, rc, rl, rw5, h⟩ := h.rdO
    have hfl := hw.gl
    have hol := h.olLen .n1
    cases hf : findN m.now s with
    | none =>
      rw [DiskM.sync_none hu hf] at k
      have k2 : ∀ w', Sat Γ (blk a (.cells #[slv fl, slv nl, slv kl, slv cl, .int .i64 m.room, .bool m.tick.down, .bool m.tick.doomed, .int .i64 left] TRDisk (0, 0)) :: OL eFileR TRFile fl m.files :: L) w' → K 2 w' := fun w' h => k w' (h.rdI rn rk rc rl rw5)
      obtain ⟨lrn, mrn, crn⟩ := rn.lens
      obtain ⟨lrk, mrk, crk⟩ := rk.lens
      obtain ⟨lrc, mrc, crc⟩ := rc.lens
      refine brF ?_
      refine ⟨_, rfl, ?_⟩
      refine ld _ h .n0 ?_
      refine rfindNone_ok h rn (by first | omega | (dsimp only; omega) | decide) hf (fun _ h => ?_)
      refine brT ?_
      refine ⟨_, rfl, ?_⟩
      refine k2 _ ((h.pick .n1).pick .n1)
    | some i =>
      rw [DiskM.sync_some hu hf] at k
      have hil := hw.find_lt hf
      obtain ⟨x, ex⟩ := get_lt hil
      have hx : m.fileAt i = x := by unfold DiskM.fileAt; rw [List.getD_eq_getElem?_getD, ex]; rfl
      have hxl := hw.fileAt_len i
      rw [hx] at k hxl
      have hwf : Wf { m.tick with files := m.files.set i ⟨x.b, x.b.length⟩ } := by
        have := rw5.setF (i := i) (f := ⟨x.b, x.b.length⟩) (n := 0) (by rw [tick_files]; exact hil) (Nat.le_refl _) (by rw [DiskM.tick_fileAt, hx]; exact Nat.le_refl _)
        rw [tick_files] at this
        exact this
      have k2 : ∀ w', Sat Γ (blk a (.cells #[slv fl, slv nl, slv kl, slv cl, .int .i64 m.room, .bool m.tick.down, .bool m.tick.doomed, .int .i64 left] TRDisk (0, 0)) :: OL eFileR TRFile fl (m.files.set i ⟨x.b, x.b.length⟩) :: L) w' → K 0 w' := fun w' h => k w' (by
        rw [← tick_room (d := m)] at h
        exact Sat.toRd (m := { m.tick with files := m.files.set i ⟨x.b, x.b.length⟩ }) (left := left) h ⟨by rw [← tick_now (d := m)] at rn; exact rn, by rw [← tick_kept (d := m)] at rk; exact rk, by rw [← tick_changes (d := m)] at rc; exact rc, rl, hwf⟩)
      clear k
      obtain ⟨lrn, mrn, crn⟩ := rn.lens
      obtain ⟨lrk, mrk, crk⟩ := rk.lens
      obtain ⟨lrc, mrc, crc⟩ := rc.lens
      refine brF ?_
      refine ⟨_, rfl, ?_⟩
      refine ld _ h .n0 ?_
      refine rfindSome_ok h rn (by first | omega | (dsimp only; omega) | decide) hf (fun _ h => ?_)
      refine brF ?_
      refine dr h fun _ h => ?_
      refine ⟨_, rfl, ?_⟩
      refine ld _ h .n0 ?_
      refine ⟨_, rfl, ?_⟩
      refine ld _ h .n0 ?_
      refine ⟨by omega, ?_⟩
      refine nnO h .n1 (fun ca3 cha3 => ?_)
      refine ldOf h .n1 (·.1) cha3 ex (fun cy4 chy4 => ?_)
      obtain ⟨cy4s, chy4a, chy4e⟩ := eFileR_after chy4
      subst chy4e
      obtain ⟨lchy4a, mchy4a, cchy4a⟩ := chy4a.lens
      refine ⟨by omega, ?_⟩
      refine ⟨_, cha3, ?_⟩
      rotate_left
      refine stOf (E := eFileR) (fun y => (y.1, (cy4s.len : Int))) ⟨x.b, x.b.length⟩ h .n1 cha3 ex (fun y hy => ⟨hy.1, by show (cy4s.len : Int) = _; rw [lchy4a]⟩) (fun _ h => ?_)
      refine ⟨_, rfl, ?_⟩
      refine k2 _ (h.pick .n1)

theorem rRename_ok {a : Nat} {m : DiskM} {s t : Str} {K : Int → World → Prop} (h : Sat Γ (RDisk a m :: L) w) (hg : m.g < 1000000000000) (k : ∀ Γ' w', Γ.le Γ' → Sat Γ' (RDisk a (m.rename s t).1 :: L) w' → K (m.rename s t).2 w') :
    CallP Try.prog 129 [.pointer (some ⟨a, 0, none⟩), .string (str s), .string (str t)] (.one (.s (.int .i64))) K w := by
  have hw := h.rdWf
  have hnl := hw.nowLen
  have hg' : m.tick.g < 1000000000000 := by rw [tick_g]; exact hg
  refine callP (fn := Try.f129) [.s (.ptr (some ⟨a, 0, none⟩)), .s (.str (str s)), .s (.str (str t))] .n nong mixed (by kernel_rfl) (by kernel_rfl) rfl rfl ?_
  cases hu : m.up with
  | false =>
    rw [DiskM.rename_down hu] at k
    refine rdDownNo_ok h hu (fun _ h => ?_)
    refine brT ?_
    refine ⟨_, rfl, ?_⟩
    refine k _ _ (.refl _) h
  | true =>
    refine rdDownUp_ok h hu fun _ h => ?_
    obtain ⟨fl, nl, kl, cl, left, rn, rk, rc, rl, rw5, h⟩ := h.rdO
    have hfl := hw.gl
    have hol := h.olLen .n1
    cases hf : findN m.now s with
    | none =>
      rw [DiskM.rename_none hu hf] at k
      have k2 : ∀ w', Sat Γ (blk a (.cells #[slv fl, slv nl, slv kl, slv cl, .int .i64 m.room, .bool m.tick.down, .bool m.tick.doomed, .int .i64 left] TRDisk (0, 0)) :: OL eFileR TRFile fl m.files :: L) w' → K 2 w' := fun w' h => k Γ w' (.refl _) (h.rdI rn rk rc rl rw5)
      obtain ⟨lrn, mrn, crn⟩ := rn.lens
      obtain ⟨lrk, mrk, crk⟩ := rk.lens
      obtain ⟨lrc, mrc, crc⟩ := rc.lens
      refine brF ?_
      refine ⟨_, rfl, ?_⟩
      refine ld _ h .n0 ?_
      refine rfindNone_ok h rn (by first | omega | (dsimp only; omega) | decide) hf (fun _ h => ?_)
      refine brT ?_
      refine ⟨_, rfl, ?_⟩
      refine k2 _ ((h.pick .n1).pick .n1)
    | some i =>
      have hil := hw.find_lt hf
      have hrs := hw.right_of hf
      by_cases ht : rightN t
      · rw [DiskM.rename_some hu hf ht] at k
        obtain ⟨lrn, mrn, crn⟩ := rn.lens
        obtain ⟨lrk, mrk, crk⟩ := rk.lens
        obtain ⟨lrc, mrc, crc⟩ := rc.lens
        refine brF ?_
        refine ⟨_, rfl, ?_⟩
        refine ld _ h .n0 ?_
        refine rfindSome_ok h rn (by first | omega | (dsimp only; omega) | decide) hf (fun _ h => ?_)
        refine brF ?_
        refine rright_ok (fun cp4 => ?_) (fun cp5 => ?_)
        refine brF ?_
        rotate_left
        refine brT ?_
        refine ⟨_, rfl, ?_⟩
        contradiction
        have h := h.rdI rn rk rc rl rw5
        have hf' : findN m.tick.now s = some i := by rw [tick_now]; exact hf
        refine rDoes_ok (c := ⟨s, t, i⟩) (f := _) h (by omega) (.inr ⟨hrs, hf', .inr ht⟩) (by rw [tick_files]; exact hil) (fun e => absurd e (rightN_ne hrs)) fun Γ' w' g h => ?_
        have rn := rn.mono g
        have rk := rk.mono g
        have rc := rc.mono g
        refine ⟨_, rfl, ?_⟩
        refine k _ _ g h
      · rw [DiskM.rename_arg hu hf ht] at k
        have k2 : ∀ w', Sat Γ (blk a (.cells #[slv fl, slv nl, slv kl, slv cl, .int .i64 m.room, .bool m.tick.down, .bool m.tick.doomed, .int .i64 left] TRDisk (0, 0)) :: OL eFileR TRFile fl m.files :: L) w' → K 1 w' := fun w' h => k Γ w' (.refl _) (h.rdI rn rk rc rl rw5)
        obtain ⟨lrn, mrn, crn⟩ := rn.lens
        obtain ⟨lrk, mrk, crk⟩ := rk.lens
        obtain ⟨lrc, mrc, crc⟩ := rc.lens
        refine brF ?_
        refine ⟨_, rfl, ?_⟩
        refine ld _ h .n0 ?_
        refine rfindSome_ok h rn (by first | omega | (dsimp only; omega) | decide) hf (fun _ h => ?_)
        refine brF ?_
        refine rright_ok (fun dp4 => ?_) (fun dp5 => ?_)
        refine brF ?_
        contradiction
        refine brT ?_
        refine ⟨_, rfl, ?_⟩
        refine k2 _ ((h.pick .n1).pick .n1)

theorem rRemove_ok {a : Nat} {m : DiskM} {s : Str} {K : Int → World → Prop} (h : Sat Γ (RDisk a m :: L) w) (hg : m.g < 1000000000000) (k : ∀ Γ' w', Γ.le Γ' → Sat Γ' (RDisk a (m.remove s).1 :: L) w' → K (m.remove s).2 w') :
    CallP Try.prog 130 [.pointer (some ⟨a, 0, none⟩), .string (str s)] (.one (.s (.int .i64))) K w := by
  have hw := h.rdWf
  have hnl := hw.nowLen
  have hg' : m.tick.g < 1000000000000 := by rw [tick_g]; exact hg
  refine callP (fn := Try.f130) [.s (.ptr (some ⟨a, 0, none⟩)), .s (.str (str s))] .n nong mixed (by kernel_rfl) (by kernel_rfl) rfl rfl ?_
  cases hu : m.up with
  | false =>
    rw [DiskM.remove_down hu] at k
    refine rdDownNo_ok h hu (fun _ h => ?_)
    refine brT ?_
    refine ⟨_, rfl, ?_⟩
    refine k _ _ (.refl _) h
  | true =>
    refine rdDownUp_ok h hu fun _ h => ?_
    obtain ⟨fl, nl, kl, cl, left, rn, rk, rc, rl, rw5, h⟩ := h.rdO
    have hfl := hw.gl
    have hol := h.olLen .n1
    cases hf : findN m.now s with
    | none =>
      rw [DiskM.remove_none hu hf] at k
      have k2 : ∀ w', Sat Γ (blk a (.cells #[slv fl, slv nl, slv kl, slv cl, .int .i64 m.room, .bool m.tick.down, .bool m.tick.doomed, .int .i64 left] TRDisk (0, 0)) :: OL eFileR TRFile fl m.files :: L) w' → K 2 w' := fun w' h => k Γ w' (.refl _) (h.rdI rn rk rc rl rw5)
      obtain ⟨lrn, mrn, crn⟩ := rn.lens
      obtain ⟨lrk, mrk, crk⟩ := rk.lens
      obtain ⟨lrc, mrc, crc⟩ := rc.lens
      refine brF ?_
      refine ⟨_, rfl, ?_⟩
      refine ld _ h .n0 ?_
      refine rfindNone_ok h rn (by first | omega | (dsimp only; omega) | decide) hf (fun _ h => ?_)
      refine brT ?_
      refine ⟨_, rfl, ?_⟩
      refine k2 _ ((h.pick .n1).pick .n1)
    | some i =>
      have hil := hw.find_lt hf
      have hrs := hw.right_of hf
      rw [DiskM.remove_some hu hf] at k
      obtain ⟨lrn, mrn, crn⟩ := rn.lens
      obtain ⟨lrk, mrk, crk⟩ := rk.lens
      obtain ⟨lrc, mrc, crc⟩ := rc.lens
      refine brF ?_
      refine ⟨_, rfl, ?_⟩
      refine ld _ h .n0 ?_
      refine rfindSome_ok h rn (by first | omega | (dsimp only; omega) | decide) hf (fun _ h => ?_)
      refine brF ?_
      rotate_left
      have h := h.rdI rn rk rc rl rw5
      have hf' : findN m.tick.now s = some i := by rw [tick_now]; exact hf
      refine rDoes_ok (c := ⟨s, [], i⟩) (f := _) h (by omega) (.inr ⟨hrs, hf', .inl rfl⟩) (by rw [tick_files]; exact hil) (fun e => absurd e (rightN_ne hrs)) fun Γ' w' g h => ?_
      have rn := rn.mono g
      have rk := rk.mono g
      have rc := rc.mono g
      refine ⟨_, rfl, ?_⟩
      refine k _ _ g h

theorem rDoom_ok {a : Nat} {m : DiskM} {n : Int} {K : Int → World → Prop} (h : Sat Γ (RDisk a m :: L) w) (hn : n < 9223372036854775808) (k : ∀ w', Sat Γ (RDisk a (m.doom n).1 :: L) w' → K (m.doom n).2 w') :
    CallP Try.prog 87 [.pointer (some ⟨a, 0, none⟩), .int .i64 n] (.one (.s (.int .i64))) K w := by
  obtain ⟨fl, nl, kl, cl, left, ⟨rn, rk, rc, rl, hw⟩, h⟩ := h.rd
  refine callP (fn := Try.f87) [.s (.ptr (some ⟨a, 0, none⟩)), .s (.int .i64 n)] .n nong mixed (by kernel_rfl) (by kernel_rfl) rfl rfl ?_
  unfold DiskM.doom at k
  by_cases h0 : n < 0
  · rw [if_pos h0] at k
    have k2 : ∀ w', Sat Γ (rdlay a fl nl kl cl m left L) w' → K 1 w' := fun w' h => k w' (h.toRd ⟨rn, rk, rc, rl, hw⟩)
    obtain ⟨lrn, mrn, crn⟩ := rn.lens
    obtain ⟨lrk, mrk, crk⟩ := rk.lens
    obtain ⟨lrc, mrc, crc⟩ := rc.lens
    refine brD (fun ab0 => ?_) (fun ab0 => by exfalso; omega)
    refine ⟨_, rfl, ?_⟩
    refine k2 _ ((h.pick .n1).pick .n1)
  · rw [if_neg h0] at k
    have k2 : ∀ w', Sat Γ (blk a (.cells #[slv fl, slv nl, slv kl, slv cl, .int .i64 m.room, .bool m.down, .bool true, .int .i64 n] TRDisk (0, 0)) :: OL eFileR TRFile fl m.files :: L) w' → K 0 w' :=
      fun w' h => k w' (Sat.toRd (m := { m with doomed := true, left := n }) (left := n) h ⟨rn, rk, rc, fun _ _ => rfl, hw.doomed (by omega) hn⟩)
    clear k
    obtain ⟨lrn, mrn, crn⟩ := rn.lens
    obtain ⟨lrk, mrk, crk⟩ := rk.lens
    obtain ⟨lrc, mrc, crc⟩ := rc.lens
    refine brD (fun bb0 => by exfalso; omega) (fun bb0 => ?_)
    refine ⟨_, rfl, ?_⟩
    refine st h .n0 fun _ h => ?_
    have h := h.asA (B := blk a (.cells #[Value.slice fl.p fl.len fl.cap, Value.slice nl.p nl.len nl.cap, Value.slice kl.p kl.len kl.cap, Value.slice cl.p cl.len cl.cap, Value.int IntKind.i64 m.room, Value.bool m.down, Value.bool true, Value.int IntKind.i64 left] 188 (0, 0))) (by kernel_rfl)
    refine ⟨_, rfl, ?_⟩
    refine st h .n0 fun _ h => ?_
    have h := h.asA (B := blk a (.cells #[Value.slice fl.p fl.len fl.cap, Value.slice nl.p nl.len nl.cap, Value.slice kl.p kl.len kl.cap, Value.slice cl.p cl.len cl.cap, Value.int IntKind.i64 m.room, Value.bool m.down, Value.bool true, Value.int IntKind.i64 n] 188 (0, 0))) (by kernel_rfl)
    refine ⟨_, rfl, ?_⟩
    refine k2 _ ((h.pick .n1).pick .n1)

theorem rGrow_ok {a : Nat} {m : DiskM} {n : Int} {K : Int → World → Prop} (h : Sat Γ (RDisk a m :: L) w) (k : ∀ w', Sat Γ (RDisk a (m.grow n).1 :: L) w' → K (m.grow n).2 w') :
    CallP Try.prog 133 [.pointer (some ⟨a, 0, none⟩), .int .i64 n] (.one (.s (.int .i64))) K w := by
  obtain ⟨fl, nl, kl, cl, left, ⟨rn, rk, rc, rl, hw⟩, h⟩ := h.rd
  refine callP (fn := Try.f133) [.s (.ptr (some ⟨a, 0, none⟩)), .s (.int .i64 n)] .n nong mixed (by kernel_rfl) (by kernel_rfl) rfl rfl ?_
  unfold DiskM.grow at k
  by_cases h0 : n < 0
  · rw [if_pos h0] at k
    have k2 : ∀ w', Sat Γ (rdlay a fl nl kl cl m left L) w' → K 1 w' := fun w' h => k w' (h.toRd ⟨rn, rk, rc, rl, hw⟩)
    obtain ⟨lrn, mrn, crn⟩ := rn.lens
    obtain ⟨lrk, mrk, crk⟩ := rk.lens
    obtain ⟨lrc, mrc, crc⟩ := rc.lens
    refine brD (fun ab0 => ?_) (fun ab0 => by exfalso; omega)
    refine ⟨_, rfl, ?_⟩
    refine k2 _ ((h.pick .n1).pick .n1)
  · rw [if_neg h0] at k
    have k2 : ∀ w', Sat Γ (blk a (.cells #[slv fl, slv nl, slv kl, slv cl, .int .i64 n, .bool m.down, .bool m.doomed, .int .i64 left] TRDisk (0, 0)) :: OL eFileR TRFile fl m.files :: L) w' → K 0 w' :=
      fun w' h => k w' (Sat.toRd (m := { m with room := n }) (left := left) h ⟨rn, rk, rc, rl, hw.grown (by omega)⟩)
    clear k
    obtain ⟨lrn, mrn, crn⟩ := rn.lens
    obtain ⟨lrk, mrk, crk⟩ := rk.lens
    obtain ⟨lrc, mrc, crc⟩ := rc.lens
    refine brD (fun bb0 => by exfalso; omega) (fun bb0 => ?_)
    refine ⟨_, rfl, ?_⟩
    refine st h .n0 fun _ h => ?_
    have h := h.asA (B := blk a (.cells #[Value.slice fl.p fl.len fl.cap, Value.slice nl.p nl.len nl.cap, Value.slice kl.p kl.len kl.cap, Value.slice cl.p cl.len cl.cap, Value.int IntKind.i64 n, Value.bool m.down, Value.bool m.doomed, Value.int IntKind.i64 left] 188 (0, 0))) (by kernel_rfl)
    refine ⟨_, rfl, ?_⟩
    refine k2 _ ((h.pick .n1).pick .n1)

theorem rAppend_ok {a : Nat} {m : DiskM} {s b : Str} {t : Sl} {K : Int → World → Prop} (h : Sat Γ (RDisk a m :: L) w) (hb : Bytes Γ t b) (hg : m.g + b.length < 1000000000000) (k : ∀ Γ' w', Γ.le Γ' → Sat Γ' (RDisk a (m.append s b).1 :: L) w' → K (m.append s b).2 w') :
    CallP Try.prog 134 [.pointer (some ⟨a, 0, none⟩), .string (str s), .slice t.p t.len t.cap] (.one (.s (.int .i64))) K w := by
  have hw := h.rdWf
  have hnl := hw.nowLen
  have hgt : m.tick.g < 1000000000000 := by rw [tick_g]; omega
  refine callP (fn := Try.f134) [.s (.ptr (some ⟨a, 0, none⟩)), .s (.str (str s)), .s (.sl t)] (.p .n (.p .n (.p .n (.p .n (.p (.p (.h [0, 2, 3, 5, 6, 7, 8, 1, 4, 9] []) .n) (.p .n (.p .n (.p .s .n)))))))) nong mixed (by kernel_rfl) (by kernel_rfl) rfl rfl ?_
  cases hu : m.up with
  | false =>
    rw [DiskM.append_down hu] at k
    obtain ⟨lhb, mhb, chb⟩ := hb.lens
    refine rdDownNo_ok h hu (fun _ h => ?_)
    refine brT ?_
    refine ⟨_, rfl, ?_⟩
    refine k _ _ (.refl _) h
  | true =>
    refine rdDownUp_ok h hu fun _ h => ?_
    obtain ⟨fl, nl, kl, cl, left, rn, rk, rc, rl, rw5, h⟩ := h.rdO
    have hfl := hw.gl
    have hol := h.olLen .n1
    cases hf : findN m.now s with
    | none =>
      rw [DiskM.append_none hu hf] at k
      have k2 : ∀ w', Sat Γ (blk a (.cells #[slv fl, slv nl, slv kl, slv cl, .int .i64 m.room, .bool m.tick.down, .bool m.tick.doomed, .int .i64 left] TRDisk (0, 0)) :: OL eFileR TRFile fl m.files :: L) w' → K 2 w' := fun w' h => k Γ w' (.refl _) (h.rdI rn rk rc rl rw5)
      obtain ⟨lhb, mhb, chb⟩ := hb.lens
      obtain ⟨lrn, mrn, crn⟩ := rn.lens
      obtain ⟨lrk, mrk, crk⟩ := rk.lens
      obtain ⟨lrc, mrc, crc⟩ := rc.lens
      refine brF ?_
      refine ⟨_, rfl, ?_⟩
      refine ld _ h .n0 ?_
      refine rfindNone_ok h rn (by first | omega | (dsimp only; omega) | decide) hf (fun _ h => ?_)
      refine brT ?_
      refine ⟨_, rfl, ?_⟩
      refine k2 _ ((h.pick .n1).pick .n1)
    | some i =>
      have hil := hw.find_lt hf
      obtain ⟨x, ex⟩ := get_lt hil
      have hx : m.fileAt i = x := by unfold DiskM.fileAt; rw [List.getD_eq_getElem?_getD, ex]; rfl
      have hxl := hw.fileAt_len i
      have hxk := hw.fileAt_kept i
      rw [hx] at hxl hxk
      have hul : m.tick.used ≤ m.g := by rw [DiskM.tick_used]; exact hw.used_le
      obtain ⟨lhb, mhb, chb⟩ := hb.lens
      obtain ⟨lrn, mrn, crn⟩ := rn.lens
      obtain ⟨lrk, mrk, crk⟩ := rk.lens
      obtain ⟨lrc, mrc, crc⟩ := rc.lens
      refine brF ?_
      refine ⟨_, rfl, ?_⟩
      refine ld _ h .n0 ?_
      refine rfindSome_ok h rn (by first | omega | (dsimp only; omega) | decide) hf (fun _ h => ?_)
      refine brF ?_
      rotate_left
      have h := h.rdI rn rk rc rl rw5
      refine heldS h (.cons .n0 .nil) ?_
      by_cases hr : (m.used : Int) + b.length > m.room
      · rw [DiskM.append_full hu hf hr] at k
        rw [← DiskM.tick_used, ← tick_room (d := m)] at hr
        refine dr h fun _ h => ?_
        refine ⟨h.sxs (.cons .n0 .nil) (.refl _), ?_⟩
        refine ⟨_, rfl, ?_⟩
        refine roomRH_ld .n0 ?_
        refine rUsed_ok h hgt (fun dΓ2 _ dg4 h => ?_)
        have hb := hb.mono dg4
        have rn := rn.mono dg4
        have rk := rk.mono dg4
        have rc := rc.mono dg4
        refine ⟨h.sxs (.cons .n0 .nil) dg4, ?_⟩
        refine wrN (m.tick.used + t.len) ?_
        refine brD (fun db6 => ?_) (fun db6 => by exfalso; omega)
        refine ⟨_, rfl, ?_⟩
        refine k _ _ dg4 h
      · rw [DiskM.append_some hu hf hr] at k
        rw [← DiskM.tick_used, ← tick_room (d := m)] at hr
        rw [hx] at k
        refine dr h fun _ h => ?_
        refine ⟨h.sxs (.cons .n0 .nil) (.refl _), ?_⟩
        refine ⟨_, rfl, ?_⟩
        refine roomRH_ld .n0 ?_
        refine rUsed_ok h hgt (fun eΓ2 _ eg4 h => ?_)
        have hb := hb.mono eg4
        have rn := rn.mono eg4
        have rk := rk.mono eg4
        have rc := rc.mono eg4
        refine ⟨h.sxs (.cons .n0 .nil) eg4, ?_⟩
        refine wrN (m.tick.used + t.len) ?_
        refine brD (fun eb6 => by exfalso; omega) (fun eb6 => ?_)
        refine ⟨_, rfl, ?_⟩
        rotate_left
        obtain ⟨fl2, nl2, kl2, cl2, left2, rn, rk, rc, rl, rw5, h⟩ := h.rdO
        have hol := h.olLen .n1
        have hwf : Wf { m.tick with files := m.files.set i ⟨x.b ++ b, x.kept⟩, g := m.g + b.length } := by
          have := rw5.setF (i := i) (f := ⟨x.b ++ b, x.kept⟩) (n := b.length) (by rw [tick_files]; exact hil) (by simp; omega) (by rw [DiskM.tick_fileAt, hx, List.length_append]; exact Nat.le_refl _)
          rw [tick_files, tick_g] at this
          exact this
        obtain ⟨lrn, mrn, crn⟩ := rn.lens
        obtain ⟨lrk, mrk, crk⟩ := rk.lens
        obtain ⟨lrc, mrc, crc⟩ := rc.lens
        refine ld _ h .n0 ?_
        refine ⟨by omega, ?_⟩
        refine nnO h .n1 (fun fa0 fha0 => ?_)
        refine ldO h .n1 fha0 ex (fun fy1 fhy1 => ?_)
        obtain ⟨fy1s, fhy1a, fhy1e⟩ := eFileR_after fhy1
        subst fhy1e
        obtain ⟨lfhy1a, mfhy1a, cfhy1a⟩ := fhy1a.lens
        refine new h fun fr2 _ h => ?_
        have h := h.asA (B := blk fr2 (.cells #[Value.slice none 0 0, Value.int IntKind.i64 0] 197 (0, 0))) (by kernel_rfl)
        refine stNs h .n0 fun _ h => ?_
        refine new h fun fr3 _ h => ?_
        have h := h.asA (B := blk fr3 (.cells #[] 5 (0, 0))) (by kernel_rfl)
        refine ld _ h .n1 ?_
        have h := (h.pick .n0).olEmpty (E := eByte)
        refine appL slBytes h .n0 fhy1a.lst (fun fs4 _ fl4 h => ?_)
        dsimp only at fl4
        refine appL slBytes h .n0 hb.lst (fun fs5 _ fl5 h => ?_)
        refine st h .n1 fun _ h => ?_
        have h := h.asA (B := blk fr2 (.cells #[Value.slice fs5.p fs5.len fs5.cap, Value.int IntKind.i64 (fy1s, (↑x.kept : Int)).snd] 197 (0, 0))) (by kernel_rfl)
        refine dr h fun _ h => ?_
        refine ⟨_, rfl, ?_⟩
        refine ld _ h .n2 ?_
        refine ldA2 _ _ h .n0 ?_
        refine ⟨by omega, ?_⟩
        refine ⟨_, fha0, ?_⟩
        rotate_left
        obtain ⟨Γ9, g9, f9, h⟩ := h.olFreeze .n1 (by omega)
        have f9 : Bytes Γ9 fs5 (x.b ++ b) := f9.bytes
        refine stOn (E := eFileR) (fs5, (x.kept : Int)) ⟨x.b ++ b, x.kept⟩ h .n2 fha0 hil ⟨f9, rfl⟩ rfl (fun _ h => ?_)
        have k2 : ∀ w', Sat Γ9 (blk a (.cells #[slv fl2, slv nl2, slv kl2, slv cl2, .int .i64 m.room, .bool m.tick.down, .bool m.tick.doomed, .int .i64 left2] TRDisk (0, 0)) :: OL eFileR TRFile fl2 (m.files.set i ⟨x.b ++ b, x.kept⟩) :: L) w' → K 0 w' := fun w' h => k Γ9 w' (eg4.trans g9) (by
          rw [← tick_room (d := m)] at h
          exact Sat.toRd (m := { m.tick with files := m.files.set i ⟨x.b ++ b, x.kept⟩, g := m.g + b.length }) (left := left2) h ⟨by rw [← tick_now (d := m)] at rn; exact rn.mono g9, by rw [← tick_kept (d := m)] at rk; exact rk.mono g9, by rw [← tick_changes (d := m)] at rc; exact rc.mono g9, rl, hwf⟩)
        clear k
        have hb := hb.mono g9
        have rn := rn.mono g9
        have rk := rk.mono g9
        have rc := rc.mono g9
        have fhy1a := fhy1a.mono g9
        refine ⟨_, rfl, ?_⟩
        refine k2 _ ((h.pick .n1).drop.pick .n1)

end Go.Proofs.Ytohoimokfgfceaa.K
