/-
  run: the reference's List.
-/
import Derived.Test.YtohoimokfgfceaaRnC
import Derived.Test.YtohoimokfgfceaaFrX
namespace Go.Proofs.Ytohoimokfgfceaa.K
open Go Go.Proofs Go.ChangeShapes Go.WideShapes Go.ChangeAt Go.RowKit
variable {Γ Γ' : Mem} {L L' L'' : List HP} {w w' : World} {A B : HP}
set_option maxRecDepth 100000
set_option maxHeartbeats 4000000

/-- a record that is told, as it lies -/
def eRec : Enc (Str × Int) := ⟨.agg [.sl, .int .i64], fun Γ y x => y.2 = x.2 ∧ Bytes Γ y.1 x.1, fun h hl => ⟨h.1, Bytes.mono h.2 hl⟩, fun _ v hv => by
  simp [Sh.cells, ScsV] at hv
  rcases hv with rfl | rfl <;> rfl⟩

theorem eRec_after {Γ : Mem} {y : eRec.sh.T} {x : Str × Int} (h : eRec.r Γ y x) : ∃ s : Sl, Bytes Γ s x.1 ∧ y = (s, x.2) := by
  obtain ⟨y1, y2⟩ := y
  obtain ⟨h1, h2⟩ := h
  refine ⟨y1, h2, ?_⟩
  dsimp only at h1 ⊢
  rw [h1]

theorem slRec : SlT Try.prog 70 73 2 32 [.slice none 0 0, .int .i64 0] := .of (by kernel_rfl) (by kernel_rfl) (by decide)

theorem appRec_pr {T2 T3 : TypeId} {r : Nat} {z3 : Nat × Nat} {q s : Sl} {y : Str} {e : Int} {xs : List (Str × Int)} {K : Sl → World → Prop}
    (h : Sat Γ (blk r (.cells #[.slice q.p q.len q.cap, .int .i64 e] T3 z3) :: OL eRec 73 s xs :: L) w) (hy : Bytes Γ q y) (hb : s.len ≤ 1000000)
    (k : ∀ s' w', s'.len = s.len + 1 → Sat Γ (OL eRec 73 s' (xs ++ [(y, e)]) :: L) w' → K s' w') :
    Prim Try.prog (Builtin.append_ #[70, 70] T2 #[.slice s.p s.len s.cap, .slice (some ⟨r, 0, none⟩) 1 1]) (.one (.s .sl)) K w :=
  app1 (E := eRec) (q, e) (y, e) slRec h .n0 ⟨rfl, hy⟩ k (by omega) (by kernel_rfl)

theorem appRecBad_pr {T2 T3 : TypeId} {r : Nat} {z3 : Nat × Nat} {s : Sl} {e : Int} {xs : List (Str × Int)} {K : Sl → World → Prop}
    (h : Sat Γ (blk r (.cells #[.slice none 0 0, .int .i64 e] T3 z3) :: OL eRec 73 s xs :: L) w) (hb : s.len ≤ 1000000)
    (k : ∀ s' w', s'.len = s.len + 1 → Sat Γ (OL eRec 73 s' (xs ++ [([], e)]) :: L) w' → K s' w') :
    Prim Try.prog (Builtin.append_ #[70, 70] T2 #[.slice s.p s.len s.cap, .slice (some ⟨r, 0, none⟩) 1 1]) (.one (.s .sl)) K w :=
  appRec_pr (q := ⟨none, 0, 0⟩) (y := []) h (Bytes.nil _ _) hb k

theorem allB_count : ∀ (n : Nat) (b : Str), b.length ≤ n → (allB b).1.length ≤ b.length
  | 0, b, h => by
    have : b = [] := List.eq_nil_of_length_eq_zero (by omega)
    subst this
    rw [allB_error (b := []) (e := 5) rfl]
    exact Nat.le_refl _
  | n + 1, b, h => by
    cases ht : takeF b with
    | error e => rw [allB_error ht]; exact Nat.zero_le _
    | ok p =>
      obtain ⟨x, j⟩ := p
      obtain ⟨h1, h2, h3, h4⟩ := takeF_ok ht
      have h5 := allB_count n (b.drop j) (by rw [List.length_drop]; omega)
      rw [allB_ok ht]
      rw [List.length_drop] at h5
      simp only [List.length_cons]
      omega

theorem rList_ok {s : Sl} {b : Str} {K : Sl → World → Prop} (h : Sat Γ L w) (hb : Bytes Γ s b) (hl : b.length < 100000) (k : ∀ t Γ' w', Γ.le Γ' → Lst eRec Γ' t (listM b) → Sat Γ' L w' → K t w') :
    CallP Try.prog 56 [.slice s.p s.len s.cap] (.one (.s .sl)) K w := by
  refine callP (fn := Try.f56) [.s (.sl s)] (.p .n (.p .n (.p .n (.p (.p .n (.b (.l [4, 5, 0] [(3, .s .sl), (6, .s (.int .i64))] (.p .n (.p (.b (.j [3, 6, 4, 5, 0] [] (.p .s .n) .n)) .n))))) (.j [] [(3, .s .sl)] .n .n))))) nong mixed (by kernel_rfl) (by kernel_rfl) rfl rfl ?_
  have hcn := allB_count b.length b (Nat.le_refl _)
  obtain ⟨lhb, mhb, chb⟩ := hb.lens
  refine rall_ok h hb (by first | omega | (dsimp only; omega) | decide) (fun av1 aΓ2 _ ag4 af5 h => ?_)
  have hb := hb.mono ag4
  obtain ⟨laf5, maf5, caf5⟩ := af5.lens
  rotate_left
  refine loop (σ := Sl × Int) (fun st w' c => ∃ (o : Sl) (i : Nat) (acc : List (Str × Int)) (last : Option Str), st = (o, (i : Int)) ∧ i ≤ (allB b).1.length ∧ c = (allB b).1.length - i ∧ acc.length = i ∧ acc ++ recsL (decide ((allB b).2 < b.length)) last ((allB b).1.drop i) = listM b ∧
      ((i = 0 ∧ last = none) ∨ ∃ z, 0 < i ∧ (allB b).1[i - 1]? = some z ∧ last = some z) ∧ Sat aΓ2 (OL eRec 73 o acc :: L) w') (allB b).1.length
    ⟨⟨none, 0, 0⟩, 0, [], none, rfl, by omega, by omega, rfl, rfl, .inl ⟨rfl, rfl⟩, h.olNil⟩ ?_
  clear h
  rintro _ w c ⟨o, i, acc, last, rfl, hi, hc, hal, heq, hlast, h⟩
  have hol := h.olLen .n0
  by_cases hil : i < (allB b).1.length
  · obtain ⟨y, ey⟩ := get_lt hil
    have hd : (allB b).1.drop i = y :: (allB b).1.drop (i + 1) := by
      rw [List.drop_eq_getElem_cons hil]
      rw [List.getElem?_eq_getElem hil] at ey
      cases ey
      rfl
    rw [hd, recsL] at heq
    by_cases hy : y.length ≤ 64
    · rcases hlast with ⟨rfl, rfl⟩ | ⟨z, hi0, hz, rfl⟩
      · rw [if_pos ⟨hy, trivial⟩] at heq
        refine brD (fun bb0 => ?_) (fun bb0 => ?_)
        dsimp only at bb0
        refine joinI ?_
        refine dr h fun _ h => ?_
        refine ⟨by dsimp only; omega, ?_⟩
        refine nnL h af5 (fun ba1 bha1 => ?_)
        dsimp only at bha1
        refine ldL h af5 bha1 ey (fun by2 bhy2 => ?_)
        have bhy2 : Bytes _ by2 y := bhy2
        obtain ⟨lbhy2, mbhy2, cbhy2⟩ := bhy2.lens
        refine brD (fun bb3 => by exfalso; omega) (fun bb3 => ?_)
        refine brF ?_
        refine ⟨by dsimp only; omega, ?_⟩
        refine ⟨_, bha1, ?_⟩
        refine ldL h af5 bha1 ey (fun by4 bhy4 => ?_)
        have bhy4 : Bytes _ by4 y := bhy4
        obtain ⟨lbhy4, mbhy4, cbhy4⟩ := bhy4.lens
        refine new h fun br5 _ h => ?_
        have h := h.asA (B := blk br5 (.cells #[Value.slice by4.p by4.len by4.cap, Value.int IntKind.i64 0] 73 (0, 0))) (by kernel_rfl)
        refine appRec_pr ((h.pick .n1).pick .n1) bhy4 (by first | omega | (dsimp only; omega) | decide) (fun bv7 _ bp9 h => ?_)
        dsimp only at bp9
        refine wrN (0 + 1) ?_
        rotate_left
        dsimp only at bb0
        refine joinI ?_
        refine brD (fun bb11 => by exfalso; omega) (fun bb11 => ?_)
        dsimp only at bb11
        refine ⟨_, rfl, ?_⟩
        obtain ⟨bΓ12, bg12, bf12, h⟩ := h.olFreeze .n0 (by first | omega | (dsimp only; omega))
        have af5 := af5.mono bg12
        have hb := hb.mono bg12
        refine k _ _ _ (ag4.trans bg12) ?_ h
        (exfalso; omega)
        exact ⟨(allB b).1.length - 1, by omega, bv7, 1, acc ++ [(y, 0)], some y, rfl, by omega, rfl, by rw [List.length_append, hal]; rfl, by rw [List.append_assoc]; exact heq, .inr ⟨y, by omega, ey, rfl⟩, h⟩
      · by_cases hr : cmpB z y < 0
        · rw [if_pos ⟨hy, hr⟩] at heq
          refine brD (fun cb0 => ?_) (fun cb0 => ?_)
          dsimp only at cb0
          refine joinI ?_
          refine dr h fun _ h => ?_
          refine ⟨by dsimp only; omega, ?_⟩
          refine nnL h af5 (fun ca1 cha1 => ?_)
          dsimp only at cha1
          refine ldL h af5 cha1 ey (fun cy2 chy2 => ?_)
          have chy2 : Bytes _ cy2 y := chy2
          obtain ⟨lchy2, mchy2, cchy2⟩ := chy2.lens
          refine brD (fun cb3 => by exfalso; omega) (fun cb3 => ?_)
          refine brD (fun cb4 => ?_) (fun cb4 => by exfalso; omega)
          dsimp only at cb4
          refine wrN (i - 1) ?_
          refine ⟨by dsimp only; omega, ?_⟩
          refine ⟨_, cha1, ?_⟩
          refine ldL h af5 cha1 hz (fun cy5 chy5 => ?_)
          have chy5 : Bytes _ cy5 z := chy5
          obtain ⟨lchy5, mchy5, cchy5⟩ := chy5.lens
          refine btoS h chy5 ?_
          refine ⟨by dsimp only; omega, ?_⟩
          refine ⟨_, cha1, ?_⟩
          refine ldL h af5 cha1 ey (fun cy6 chy6 => ?_)
          have chy6 : Bytes _ cy6 y := chy6
          obtain ⟨lchy6, mchy6, cchy6⟩ := chy6.lens
          refine btoS h chy6 ?_
          refine brSge (fun cb7 => by exfalso; omega) (fun cb7 => ?_)
          refine ⟨by dsimp only; omega, ?_⟩
          refine ⟨_, cha1, ?_⟩
          refine ldL h af5 cha1 ey (fun cy8 chy8 => ?_)
          have chy8 : Bytes _ cy8 y := chy8
          obtain ⟨lchy8, mchy8, cchy8⟩ := chy8.lens
          refine new h fun cr9 _ h => ?_
          have h := h.asA (B := blk cr9 (.cells #[Value.slice cy8.p cy8.len cy8.cap, Value.int IntKind.i64 0] 73 (0, 0))) (by kernel_rfl)
          refine appRec_pr ((h.pick .n1).pick .n1) chy8 (by first | omega | (dsimp only; omega) | decide) (fun cv11 _ cp13 h => ?_)
          dsimp only at cp13
          refine wrN (i + 1) ?_
          rotate_left
          dsimp only at cb0
          refine joinI ?_
          refine brD (fun cb15 => by exfalso; omega) (fun cb15 => ?_)
          dsimp only at cb15
          refine ⟨_, rfl, ?_⟩
          obtain ⟨cΓ16, cg16, cf16, h⟩ := h.olFreeze .n0 (by first | omega | (dsimp only; omega))
          have af5 := af5.mono cg16
          have hb := hb.mono cg16
          refine k _ _ _ (ag4.trans cg16) ?_ h
          (exfalso; omega)
          exact ⟨(allB b).1.length - (i + 1), by omega, cv11, i + 1, acc ++ [(y, 0)], some y, rfl, by omega, rfl, by rw [List.length_append, hal]; rfl, by rw [List.append_assoc]; exact heq, .inr ⟨y, by omega, ey, rfl⟩, h⟩
        · rw [if_neg (fun hh => hr hh.2)] at heq
          rw [← heq] at k
          refine brD (fun db0 => ?_) (fun db0 => ?_)
          dsimp only at db0
          refine joinI ?_
          refine dr h fun _ h => ?_
          refine ⟨by dsimp only; omega, ?_⟩
          refine nnL h af5 (fun da1 dha1 => ?_)
          dsimp only at dha1
          refine ldL h af5 dha1 ey (fun dy2 dhy2 => ?_)
          have dhy2 : Bytes _ dy2 y := dhy2
          obtain ⟨ldhy2, mdhy2, cdhy2⟩ := dhy2.lens
          refine brD (fun db3 => by exfalso; omega) (fun db3 => ?_)
          refine brD (fun db4 => ?_) (fun db4 => by exfalso; omega)
          dsimp only at db4
          refine wrN (i - 1) ?_
          refine ⟨by dsimp only; omega, ?_⟩
          refine ⟨_, dha1, ?_⟩
          refine ldL h af5 dha1 hz (fun dy5 dhy5 => ?_)
          have dhy5 : Bytes _ dy5 z := dhy5
          obtain ⟨ldhy5, mdhy5, cdhy5⟩ := dhy5.lens
          refine btoS h dhy5 ?_
          refine ⟨by dsimp only; omega, ?_⟩
          refine ⟨_, dha1, ?_⟩
          refine ldL h af5 dha1 ey (fun dy6 dhy6 => ?_)
          have dhy6 : Bytes _ dy6 y := dhy6
          obtain ⟨ldhy6, mdhy6, cdhy6⟩ := dhy6.lens
          refine btoS h dhy6 ?_
          refine brSge (fun db7 => ?_) (fun db7 => by exfalso; omega)
          refine new h fun dr8 _ h => ?_
          have h := h.asA (B := blk dr8 (.cells #[Value.slice (Sl.mk none 0 0).p (Sl.mk none 0 0).len (Sl.mk none 0 0).cap, Value.int IntKind.i64 6] 73 (0, 0))) (by kernel_rfl)
          refine appRecBad_pr ((h.pick .n1).pick .n1) (by first | omega | (dsimp only; omega) | decide) (fun dv10 _ dp12 h => ?_)
          dsimp only at dp12
          refine ⟨_, rfl, ?_⟩
          obtain ⟨dΓ14, dg14, df14, h⟩ := h.olFreeze .n0 (by first | omega | (dsimp only; omega))
          have af5 := af5.mono dg14
          have hb := hb.mono dg14
          have dhy2 := dhy2.mono dg14
          have dhy5 := dhy5.mono dg14
          have dhy6 := dhy6.mono dg14
          refine k _ _ _ (ag4.trans dg14) df14 h
          dsimp only at db0
          refine joinI ?_
          refine brD (fun db16 => by exfalso; omega) (fun db16 => ?_)
          dsimp only at db16
          refine ⟨_, rfl, ?_⟩
          obtain ⟨dΓ17, dg17, df17, h⟩ := h.olFreeze .n0 (by first | omega | (dsimp only; omega))
          have af5 := af5.mono dg17
          have hb := hb.mono dg17
          refine k _ _ _ (ag4.trans dg17) ?_ h
          (exfalso; omega)
    · rw [if_neg (fun hh => hy hh.1)] at heq
      rw [← heq] at k
      refine brD (fun eb0 => ?_) (fun eb0 => ?_)
      dsimp only at eb0
      refine joinI ?_
      refine dr h fun _ h => ?_
      refine ⟨by dsimp only; omega, ?_⟩
      refine nnL h af5 (fun ea1 eha1 => ?_)
      dsimp only at eha1
      refine ldL h af5 eha1 ey (fun ey2 ehy2 => ?_)
      have ehy2 : Bytes _ ey2 y := ehy2
      obtain ⟨lehy2, mehy2, cehy2⟩ := ehy2.lens
      refine brD (fun eb3 => ?_) (fun eb3 => by exfalso; omega)
      refine new h fun er4 _ h => ?_
      have h := h.asA (B := blk er4 (.cells #[Value.slice (Sl.mk none 0 0).p (Sl.mk none 0 0).len (Sl.mk none 0 0).cap, Value.int IntKind.i64 6] 73 (0, 0))) (by kernel_rfl)
      refine appRecBad_pr ((h.pick .n1).pick .n1) (by first | omega | (dsimp only; omega) | decide) (fun ev6 _ ep8 h => ?_)
      dsimp only at ep8
      refine ⟨_, rfl, ?_⟩
      obtain ⟨eΓ10, eg10, ef10, h⟩ := h.olFreeze .n0 (by first | omega | (dsimp only; omega))
      have af5 := af5.mono eg10
      have hb := hb.mono eg10
      have ehy2 := ehy2.mono eg10
      refine k _ _ _ (ag4.trans eg10) ef10 h
      dsimp only at eb0
      refine joinI ?_
      refine brD (fun eb12 => by exfalso; omega) (fun eb12 => ?_)
      dsimp only at eb12
      refine ⟨_, rfl, ?_⟩
      obtain ⟨eΓ13, eg13, ef13, h⟩ := h.olFreeze .n0 (by first | omega | (dsimp only; omega))
      have af5 := af5.mono eg13
      have hb := hb.mono eg13
      refine k _ _ _ (ag4.trans eg13) ?_ h
      (exfalso; omega)
  · have hin : i = (allB b).1.length := by omega
    rw [hin, List.drop_length, recsL] at heq
    by_cases hm : (allB b).2 < b.length
    · rw [if_pos (decide_eq_true hm)] at heq
      rw [← heq] at k
      refine brD (fun fb0 => ?_) (fun fb0 => ?_)
      dsimp only at fb0
      refine joinI ?_
      refine dr h fun _ h => ?_
      refine ⟨by omega, ?_⟩
      refine nnL h af5 (fun fa1 fha1 => ?_)
      dsimp only at fha1
      refine ldL' h af5 fha1 (i := i) (fun fx2 fe2 fy2 fhy2 => ?_)
      have fhy2 : Bytes _ fy2 fx2 := fhy2
      obtain ⟨lfhy2, mfhy2, cfhy2⟩ := fhy2.lens
      refine brD (fun fb3 => by exfalso; omega) (fun fb3 => ?_)
      refine brD (fun fb4 => by exfalso; omega) (fun fb4 => ?_)
      dsimp only at fb4
      refine ⟨by omega, ?_⟩
      refine ⟨_, fha1, ?_⟩
      refine ldL h af5 fha1 fe2 (fun fy5 fhy5 => ?_)
      have fhy5 : Bytes _ fy5 fx2 := fhy5
      obtain ⟨lfhy5, mfhy5, cfhy5⟩ := fhy5.lens
      refine new h fun fr6 _ h => ?_
      have h := h.asA (B := blk fr6 (.cells #[Value.slice fy5.p fy5.len fy5.cap, Value.int IntKind.i64 0] 73 (0, 0))) (by kernel_rfl)
      refine appRec_pr ((h.pick .n1).pick .n1) fhy5 (by first | omega | (dsimp only; omega) | decide) (fun fv8 _ fp10 h => ?_)
      dsimp only at fp10
      refine wrN (i + 1) ?_
      (exfalso; omega)
      dsimp only at fb0
      refine joinI ?_
      refine brD (fun fb12 => ?_) (fun fb12 => by exfalso; omega)
      dsimp only at fb12
      refine new h fun fr13 _ h => ?_
      have h := h.asA (B := blk fr13 (.cells #[Value.slice (Sl.mk none 0 0).p (Sl.mk none 0 0).len (Sl.mk none 0 0).cap, Value.int IntKind.i64 6] 73 (0, 0))) (by kernel_rfl)
      refine appRecBad_pr ((h.pick .n1).pick .n1) (by first | omega | (dsimp only; omega) | decide) (fun fv15 _ fp17 h => ?_)
      dsimp only at fp17
      refine ⟨_, rfl, ?_⟩
      obtain ⟨fΓ19, fg19, ff19, h⟩ := h.olFreeze .n0 (by first | omega | (dsimp only; omega))
      have af5 := af5.mono fg19
      have hb := hb.mono fg19
      refine k _ _ _ (ag4.trans fg19) ff19 h
    · rw [if_neg (by simp; omega), List.append_nil] at heq
      rw [← heq] at k
      refine brD (fun gb0 => ?_) (fun gb0 => ?_)
      dsimp only at gb0
      refine joinI ?_
      refine dr h fun _ h => ?_
      refine ⟨by omega, ?_⟩
      refine nnL h af5 (fun ga1 gha1 => ?_)
      dsimp only at gha1
      refine ldL' h af5 gha1 (i := i) (fun gx2 ge2 gy2 ghy2 => ?_)
      have ghy2 : Bytes _ gy2 gx2 := ghy2
      obtain ⟨lghy2, mghy2, cghy2⟩ := ghy2.lens
      refine brD (fun gb3 => by exfalso; omega) (fun gb3 => ?_)
      refine brD (fun gb4 => by exfalso; omega) (fun gb4 => ?_)
      dsimp only at gb4
      refine ⟨by omega, ?_⟩
      refine ⟨_, gha1, ?_⟩
      refine ldL h af5 gha1 ge2 (fun gy5 ghy5 => ?_)
      have ghy5 : Bytes _ gy5 gx2 := ghy5
      obtain ⟨lghy5, mghy5, cghy5⟩ := ghy5.lens
      refine new h fun gr6 _ h => ?_
      have h := h.asA (B := blk gr6 (.cells #[Value.slice gy5.p gy5.len gy5.cap, Value.int IntKind.i64 0] 73 (0, 0))) (by kernel_rfl)
      refine appRec_pr ((h.pick .n1).pick .n1) ghy5 (by first | omega | (dsimp only; omega) | decide) (fun gv8 _ gp10 h => ?_)
      dsimp only at gp10
      refine wrN (i + 1) ?_
      (exfalso; omega)
      dsimp only at gb0
      refine joinI ?_
      refine brD (fun gb12 => by exfalso; omega) (fun gb12 => ?_)
      dsimp only at gb12
      refine ⟨_, rfl, ?_⟩
      obtain ⟨gΓ13, gg13, gf13, h⟩ := h.olFreeze .n0 (by first | omega | (dsimp only; omega))
      have af5 := af5.mono gg13
      have hb := hb.mono gg13
      refine k _ _ _ (ag4.trans gg13) gf13 h

end Go.Proofs.Ytohoimokfgfceaa.K
