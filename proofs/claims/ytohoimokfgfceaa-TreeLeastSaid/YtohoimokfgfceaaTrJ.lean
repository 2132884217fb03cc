/-
  The document's examples.
-/
import Derived.Test.YtohoimokfgfceaaTrH
namespace Go.Proofs.Ytohoimokfgfceaa.K
open Go Go.Proofs
variable {Γ Γ' : Mem} {L L' L'' : List HP} {w w' : World} {A B : HP}
set_option maxRecDepth 100000
set_option maxHeartbeats 4000000

theorem steps3 : steps 3 = 1 := by simp [steps]
theorem steps4 : steps 4 = 2 := by simp [steps]

abbrev exL : List BL := [[[97], [99]], [[98], [99]]]
abbrev exH : List Hd := [([97], true), ([98], true), ([99], true)]

theorem ex_merge : mergeS (total exL) exL [] = [[97], [98], [99]] := by decide
theorem ex_small : SmallL 70368744177664 exL := by unfold SmallL; decide
theorem ex_best : best exH = 0 := by decide
theorem ex_best2 : best (exH.set 0 ([], false)) = 1 := by decide

theorem u8u : Try.prog.underlying 32 = some (.slice 5) := by kernel_rfl
theorem u8e : Try.prog.underlying 5 = some (.int .u8) := by kernel_rfl

theorem shown12_ok {K : Bool → World → Prop} (h : Sat Γ L w) (k : ∀ Γ' w', Γ.le Γ' → Sat Γ' L w' → K true w') :
    CallP Try.prog 31 [] (.one (.s .bool)) K w := by
  refine callP (fn := Try.f31) [] (.p .n (.p .n (.p .n (.p .n (.j [4, 1, 2, 3, 6] [] .n .n))))) nong mixed (by kernel_rfl) (by kernel_rfl) rfl rfl ?_
  refine new h fun r0 w0 h0 => ?_
  refine convSl u8u u8e h0 rfl (by show 1 ≤ _; decide) fun Γ1 w2 g1 f1 h2 => ?_
  refine new h2 fun r3 w3 h3 => ?_
  refine convSl u8u u8e h3 rfl (by show 1 ≤ _; decide) fun Γ2 w5 g2 f2 h5 => ?_
  refine new h5 fun r6 w6 h6 => ?_
  refine convSl u8u u8e h6 rfl (by show 1 ≤ _; decide) fun Γ3 w8 g3 f3 h8 => ?_
  have ba : Bytes Γ3 ⟨some ⟨r0, 0, none⟩, 1, 1⟩ [97] := (f1.mono g2).mono g3
  have bb : Bytes Γ3 ⟨some ⟨r3, 0, none⟩, 1, 1⟩ [98] := f2.mono g3
  have bc : Bytes Γ3 ⟨some ⟨r6, 0, none⟩, 1, 1⟩ [99] := f3
  refine new h8 fun r9 w9 h9 => ?_
  obtain ⟨Γ4, g4, f4, h9⟩ := Sat.freezeBlk (n := 2) (sz := 1) h9 rfl (by decide)
  refine new h9 fun r10 w10 h10 => ?_
  obtain ⟨Γ5, g5, f5, h10⟩ := Sat.freezeBlk (n := 2) (sz := 1) h10 rfl (by decide)
  refine new h10 fun r11 w11 h11 => ?_
  obtain ⟨Γ6, g6, f6, h11⟩ := Sat.freezeBlk (n := 2) (sz := 1) h11 rfl (by decide)
  have g36 : Γ3.le Γ6 := (g4.trans g5).trans g6
  have ba := ba.mono g36
  have bb := bb.mono g36
  have bc := bc.mono g36
  have r1 : BB Γ6 ⟨some ⟨r9, 0, none⟩, 2, 2⟩ [[97], [99]] := ⟨[_, _], (f4.mono g5).mono g6, (Each.nil.snoc ba).snoc bc⟩
  have r2 : BB Γ6 ⟨some ⟨r10, 0, none⟩, 2, 2⟩ [[98], [99]] := ⟨[_, _], f5.mono g6, (Each.nil.snoc bb).snoc bc⟩
  have rr : Rows BB Γ6 ⟨some ⟨r11, 0, none⟩, 2, 2⟩ exL := ⟨[_, _], f6, (Each.nil.snoc r1).snoc r2⟩
  refine merge_ok h11 rr (by decide) ex_small (by decide) (fun hc => absurd hc (by decide)) fun _ s12 Γ7 w14 g7 b12 h14 => ?_
  rw [ex_merge] at b12
  refine new h14 fun r15 w15 h15 => ?_
  obtain ⟨Γ8, g8, f8, h15⟩ := Sat.freezeBlk (n := 3) (sz := 2) h15 rfl (by decide)
  have ba := (ba.mono g7).mono g8
  have bb := (bb.mono g7).mono g8
  have bc := (bc.mono g7).mono g8
  have hh : HeadsS Γ8 ⟨some ⟨r15, 0, none⟩, 3, 3⟩ exH := by
    refine ⟨[(_, true), (_, true), (_, true)], f8, rfl, fun i r x h1 h2 => ?_⟩
    rcases i with _ | _ | _ | i
    · cases h1; cases h2; exact ⟨ba, rfl, by decide⟩
    · cases h1; cases h2; exact ⟨bb, rfl, by decide⟩
    · cases h1; cases h2; exact ⟨bc, rfl, by decide⟩
    · simp at h1
  refine new_ok h15 hh (by decide) (fun hc => absurd hc (by decide)) fun _ _ tb b Γ9 w18 g9 t9 h18 => ?_
  refine joinI ?_
  refine br (fun hb => by cases hb) (fun _ => ?_)
  refine br (fun hb => by cases hb) (fun _ => ?_)
  refine br (fun hb => by cases hb) (fun _ => ?_)
  refine Games_ok h18 t9 ?_
  refine br (fun hb => by cases (show false = true from hb)) (fun _ => ?_)
  refine new h18 fun r27 w27 h27 => ?_
  obtain ⟨Γ10, g10, f10, h27⟩ := Sat.freezeBlk (n := 3) (sz := 1) h27 rfl (by decide)
  have g810 := g9.trans g10
  have b27 : BB Γ10 ⟨some ⟨r27, 0, none⟩, 3, 3⟩ [[97], [98], [99]] := ⟨[_, _, _], f10, ((Each.nil.snoc (ba.mono g810)).snoc (bb.mono g810)).snoc (bc.mono g810)⟩
  refine same_ok h27 (bb_mono _ _ _ _ ((g8.trans g9).trans g10) b12) b27 (by decide) fun w29 h29 => ?_
  refine br (fun _ => ?_) (fun hb => by cases (show true = false from hb))
  refine Next_ok (x := (([], false) : Hd)) (s := ⟨none, 0, 0⟩) h29 (g10 _ _ t9) (by decide) (by decide) (by decide) (by decide) (.nil _ _) (by decide) (fun w32 hc _ => by rw [ex_best] at hc; cases hc) fun Γ11 w32 _ g11 h32 => ?_
  refine br (fun _ => ?_) (fun hb => by cases (show true = false from hb))
  rw [ex_best, show exH.length + 0 = 3 from rfl, steps3] at h32
  refine Games_ok h32 (g11 _ _ (g10 _ _ t9)) ?_
  refine br (fun _ => ?_) (fun hb => by cases (show true = false from hb))
  refine Next_ok (x := (([], false) : Hd)) (s := ⟨none, 0, 0⟩) h32 (g11 _ _ (g10 _ _ t9)) (by decide) (by decide) (by decide) (by decide) (.nil _ _) (by decide) (fun w32 hc _ => by rw [ex_best2] at hc; cases hc) fun Γ12 w38 _ g12 h38 => ?_
  refine br (fun _ => ?_) (fun hb => by cases (show true = false from hb))
  rw [ex_best2, show (exH.set 0 ([], false)).length + 1 = 4 from rfl, steps4] at h38
  refine Games_ok h38 (g12 _ _ (g11 _ _ (g10 _ _ t9))) ?_
  exact ⟨true, rfl, k Γ12 w38 ((((((((g1.trans g2).trans g3).trans g36).trans g7).trans g8).trans g810).trans g11).trans g12) h38.drop⟩

theorem Least_nil {K : (Int × Sl × Bool) → World → Prop} (k : K (0, ⟨none, 0, 0⟩, false) w) :
    CallP Try.prog 36 [.pointer none] (.tup [.s (.int .i64), .s .sl, .s .bool]) K w := by
  refine callP (fn := Try.f36) [.s (.ptr none)] .n nong mixed (by kernel_rfl) (by kernel_rfl) rfl rfl ?_
  refine br (fun _ => ?_) (fun hb => by cases hb)
  exact ⟨(0, ⟨none, 0, 0⟩, false), rfl, k⟩

theorem Games_nil {K : Int → World → Prop} (k : K 0 w) : CallP Try.prog 38 [.pointer none] (.one (.s (.int .i64))) K w := by
  refine callP (fn := Try.f38) [.s (.ptr none)] .n nong mixed (by kernel_rfl) (by kernel_rfl) rfl rfl ?_
  refine br (fun _ => ?_) (fun hb => by cases hb)
  exact ⟨0, rfl, k⟩

theorem Next_nil {s : Sl} {b : Bool} {K : Int → World → Prop} (h : Sat Γ L w) (k : ∀ w', Sat Γ L w' → K 2 w') :
    CallP Try.prog 39 [.pointer none, .agg #[.slice s.p s.len s.cap, .bool b]] (.one (.s (.int .i64))) K w := by
  refine callP (fn := Try.f39) [.s (.ptr none), .agg [.sl s, .bool b]] (.p .n (.p .n (.p (.h [0, 1, 2, 3, 4, 5, 7, 8, 6, 9, 10] []) .n))) nong mixed (by kernel_rfl) (by kernel_rfl) rfl rfl ?_
  refine new h fun r0 w0 h0 => ?_
  refine Least_nil ?_
  refine br (fun _ => ?_) (fun hb => by cases hb)
  exact ⟨2, rfl, k _ h0.drop⟩

theorem law_nil {s : Sl} {b : Bool} {K : Bool → World → Prop} (h : Sat Γ L w) (k : ∀ Γ' w', Γ.le Γ' → Sat Γ' L w' → K true w') :
    CallP Try.prog 7 [.agg #[.slice s.p s.len s.cap, .bool b]] (.one (.s .bool)) K w := by
  refine callP (fn := Try.f7) [.agg [.sl s, .bool b]] .n nong mixed (by kernel_rfl) (by kernel_rfl) rfl rfl ?_
  refine new h fun r0 w0 h0 => ?_
  have h0 : Sat Γ (blk r0 (.cells #[.slice s.p s.len s.cap, .bool b] TH (0, 0)) :: L) w0 := h0
  refine shown12_ok h0 fun Γ2 w2 g2 h2 => ?_
  refine Least_nil ?_
  refine br (fun _ => ?_) (fun hb => by cases hb)
  refine br (fun _ => ?_) (fun hb => by cases hb)
  refine br (fun _ => ?_) (fun hb => by cases hb)
  refine br (fun _ => ?_) (fun hb => by cases hb)
  refine ld (s, b) h2 (by repeat (first | with_reducible exact Pick.here | apply Pick.there)) ?_ (hc := rd2 s b)
  refine Next_nil h2 fun w12 h12 => ?_
  refine br (fun _ => ?_) (fun hb => by cases hb)
  refine Games_nil ?_
  exact ⟨true, rfl, k Γ2 w12 g2 h12.drop⟩

end Go.Proofs.Ytohoimokfgfceaa.K
