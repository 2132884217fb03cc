/-
  run's statements: the examples.
-/
import Derived.Test.YtohoimokfgfceaaRnC
namespace Go.Proofs.Ytohoimokfgfceaa.K
open Go Go.Proofs Go.ChangeShapes Go.WideShapes Go.ChangeAt Go.RowKit
variable {Γ Γ' : Mem} {L L' L'' : List HP} {w w' : World} {A B : HP}
set_option maxRecDepth 100000
set_option maxHeartbeats 16000000

theorem shownR_ok {K : Bool → World → Prop} (h : Sat Γ L w) (k : ∀ Γ' w', Γ.le Γ' → Sat Γ' L w' → K true w') :
    CallP Try.prog 45 [] (.one (.s .bool)) K w := by
  have e0 : (startM (.new 100)).2 = 0 := by kernel_rfl
  have e1 : ((startM (.new 100)).1.append tmpS (frameB [97])).2 = 0 := by kernel_rfl
  have e2 : (((startM (.new 100)).1.append tmpS (frameB [97])).1.append tmpS (frameB [98])).2 = 0 := by kernel_rfl
  have e3 : (endM (((startM (.new 100)).1.append tmpS (frameB [97])).1.append tmpS (frameB [98])).1 [120]).2 = 0 := by kernel_rfl
  have e4 : ((endM (((startM (.new 100)).1.append tmpS (frameB [97])).1.append tmpS (frameB [98])).1 [120]).1.read [120]).2.2 = 0 := by kernel_rfl
  have e5 : ((endM (((startM (.new 100)).1.append tmpS (frameB [97])).1.append tmpS (frameB [98])).1 [120]).1.read [120]).2.1 = framesB [[97], [98]] := by kernel_rfl
  have g0 : (startM (.new 100)).1.g = 2 := by kernel_rfl
  have g1 : ((startM (.new 100)).1.append tmpS (frameB [97])).1.g = 11 := by kernel_rfl
  have g2 : (((startM (.new 100)).1.append tmpS (frameB [97])).1.append tmpS (frameB [98])).1.g = 20 := by kernel_rfl
  have g3 : (endM (((startM (.new 100)).1.append tmpS (frameB [97])).1.append tmpS (frameB [98])).1 [120]).1.g = 21 := by kernel_rfl
  have hc1 : ¬ cmpB [97] [97] < 0 := by decide
  have hc2 : cmpB [97] [98] < 0 := by decide
  have hll : ([97] : Str).length ≤ 64 ∧ ([98] : Str).length ≤ 64 := by decide
  have hx : ∀ x ∈ ([[97], [98]] : List Str), x.length ≤ 64 := by decide
  refine callP (fn := Try.f45) [] (.p .n (.p .n (.p .n (.j [1, 2] [] .n (.p .n (.p (.tz (.n 0 (.n 1 (.n 2 (.n 3 (.n 4 (.o (.n 5 (.o (.n 6 (.n 7 (.n 8 (.n 9 (.n 10 (.n 11 (.n 12 (.n 13 (.n 14 (.n 15 (.n 16 (.n 17 (.n 18 (.n 19 .e)))))))))))))) (.n 7 (.o (.n 6 (.n 8 (.n 9 (.n 10 (.n 11 (.n 12 (.n 13 (.n 14 (.n 15 (.n 16 (.n 17 (.n 18 (.n 19 .e))))))))))))) (.n 8 (.n 6 (.n 9 (.n 10 (.n 11 (.n 12 (.n 13 (.n 14 (.n 15 (.n 16 (.n 17 (.n 18 (.n 19 .e))))))))))))))))) (.n 7 (.o (.n 5 (.o (.n 6 (.n 8 (.n 9 (.n 10 (.n 11 (.n 12 (.n 13 (.n 14 (.n 15 (.n 16 (.n 17 (.n 18 (.n 19 .e))))))))))))) (.n 8 (.n 6 (.n 9 (.n 10 (.n 11 (.n 12 (.n 13 (.n 14 (.n 15 (.n 16 (.n 17 (.n 18 (.n 19 .e))))))))))))))) (.n 8 (.n 5 (.n 6 (.n 9 (.n 10 (.n 11 (.n 12 (.n 13 (.n 14 (.n 15 (.n 16 (.n 17 (.n 18 (.n 19 .e)))))))))))))))))))))) [16] [10]) .n)))))) nong mixed (by kernel_rfl) (by kernel_rfl) rfl rfl ?_
  refine dNew_ok h (fun av1 _ h => ?_)
  refine wStart_ok h (by first | omega | (dsimp only; omega) | decide) (fun ap5 _ h => ?_) (fun ap8 av9 _ h => ?_)
  refine joinI ?_
  refine brT ?_
  refine ⟨_, rfl, ?_⟩
  (exfalso; omega)
  refine joinI ?_
  refine brF ?_
  refine brF ?_
  refine new h fun ar12 _ h => ?_
  have h := h.asA (B := blk ar12 (.cells #[Value.int IntKind.u8 97] 5 (0, 0))) (by kernel_rfl)
  refine convA_pr h (fun aΓ14 _ ag16 af17 h => ?_)
  refine wAddStart_ok ((h.pick .n1).pick .n1) af17 (by first | omega | (dsimp only; omega) | decide) (by first | omega | (dsimp only; omega) | decide) (fun ap20 aΓ21 _ ag23 h => ?_) (fun ap25 av26 aΓ27 _ ag29 af30 h => ?_)
  have af17 := af17.mono ag23
  refine brF ?_
  refine new h fun ar32 _ h => ?_
  have h := h.asA (B := blk ar32 (.cells #[Value.int IntKind.u8 97] 5 (0, 0))) (by kernel_rfl)
  refine convA_pr h (fun aΓ34 _ ag36 af37 h => ?_)
  have af17 := af17.mono ag36
  refine wAddStart_ok ((h.pick .n1).pick .n1) af37 (by first | omega | (dsimp only; omega) | decide) (by first | omega | (dsimp only; omega) | decide) (fun ap40 aΓ41 _ ag43 h => ?_) (fun ap45 av46 aΓ47 _ ag49 af50 h => ?_)
  have af37 := af37.mono ag43
  have af17 := af17.mono ag43
  refine brT ?_
  refine ⟨_, rfl, ?_⟩
  (exfalso; omega)
  have af37 := af37.mono ag49
  have af17 := af17.mono ag49
  obtain ⟨laf50, maf50, caf50⟩ := af50.lens
  refine brT ?_
  refine ⟨_, rfl, ?_⟩
  (exfalso; omega)
  have af17 := af17.mono ag29
  obtain ⟨laf30, maf30, caf30⟩ := af30.lens
  refine brF ?_
  refine new h fun ar52 _ h => ?_
  have h := h.asA (B := blk ar52 (.cells #[Value.int IntKind.u8 97] 5 (0, 0))) (by kernel_rfl)
  refine convA_pr h (fun aΓ54 _ ag56 af57 h => ?_)
  have af30 := af30.mono ag56
  have af17 := af17.mono ag56
  refine wAddNever_ok ((h.pick .n1).pick .n1) (by first | omega | (dsimp only; omega) | decide) af30 hc1 af57 (fun _ h => ?_)
  refine brF ?_
  refine new h fun ar62 _ h => ?_
  have h := h.asA (B := blk ar62 (.cells #[Value.int IntKind.u8 98] 5 (0, 0))) (by kernel_rfl)
  refine convB_pr h (fun aΓ64 _ ag66 af67 h => ?_)
  have af57 := af57.mono ag66
  have af30 := af30.mono ag66
  have af17 := af17.mono ag66
  refine wAddMore_ok ((h.pick .n1).pick .n1) af30 hc2 af67 (by first | omega | (dsimp only; omega) | decide) (by first | omega | (dsimp only; omega) | decide) (by first | omega | (dsimp only; omega) | decide) (fun ap70 aΓ71 _ ag73 h => ?_) (fun ap75 av76 aΓ77 _ ag79 af80 h => ?_)
  have af67 := af67.mono ag73
  have af57 := af57.mono ag73
  have af30 := af30.mono ag73
  have af17 := af17.mono ag73
  refine brF ?_
  refine wEnd_ok ((h.pick .n1).pick .n1) (by first | omega | (dsimp only; omega) | decide) (fun _ h => ?_)
  refine brF ?_
  refine dRead_ok (h.pick .n1) (by first | omega | (dsimp only; omega) | decide) (fun av86 aΓ87 _ ag89 af90 h => ?_)
  have af67 := af67.mono ag89
  have af57 := af57.mono ag89
  have af30 := af30.mono ag89
  have af17 := af17.mono ag89
  obtain ⟨laf90, maf90, caf90⟩ := af90.lens
  refine heldS h (.cons .n0 (.cons .n0 .nil)) ?_
  refine dr h fun _ h => ?_
  refine ⟨h.sxs (.cons .n0 (.cons .n0 .nil)) (.refl _), ?_⟩
  refine brT ?_
  refine btoSH af90 ?_
  refine ⟨?_, ?_⟩
  refine new h fun ar92 _ h => ?_
  have h := h.asA (B := blk ar92 (.cells #[Value.int IntKind.u8 97] 5 (0, 0))) (by kernel_rfl)
  refine ⟨h.sxs (.cons .n1 (.cons .n1 .nil)) (.refl _), ?_⟩
  refine ⟨?_, ?_⟩
  refine convA_pr h (fun aΓ94 _ ag96 af97 h => ?_)
  have af90 := af90.mono ag96
  have af67 := af67.mono ag96
  have af57 := af57.mono ag96
  have af30 := af30.mono ag96
  have af17 := af17.mono ag96
  refine ⟨h.sxs (.cons .n0 (.cons .n0 .nil)) ag96, ?_⟩
  refine new h fun ar99 _ h => ?_
  have h := h.asA (B := blk ar99 (.cells #[Value.int IntKind.u8 98] 5 (0, 0))) (by kernel_rfl)
  refine ⟨h.sxs (.cons .n1 (.cons .n1 .nil)) ag96, ?_⟩
  refine convB_pr h (fun aΓ101 _ ag103 af104 h => ?_)
  have af97 := af97.mono ag103
  have af90 := af90.mono ag103
  have af67 := af67.mono ag103
  have af57 := af57.mono ag103
  have af30 := af30.mono ag103
  have af17 := af17.mono ag103
  refine ⟨h.sxs (.cons .n0 (.cons .n0 .nil)) (ag96.trans ag103), ?_⟩
  refine new h fun ar106 _ h => ?_
  have h := h.asA (B := blk ar106 (.cells #[Value.slice (Sl.mk (some (Addr.mk ar92 0 none)) 1 1).p (Sl.mk (some (Addr.mk ar92 0 none)) 1 1).len (Sl.mk (some (Addr.mk ar92 0 none)) 1 1).cap, Value.slice (Sl.mk (some (Addr.mk ar99 0 none)) 1 1).p (Sl.mk (some (Addr.mk ar99 0 none)) 1 1).len (Sl.mk (some (Addr.mk ar99 0 none)) 1 1).cap] 32 (0, 0))) (by kernel_rfl)
  refine ⟨h.sxs (.cons .n1 (.cons .n1 .nil)) (ag96.trans ag103), ?_⟩
  refine rBytesRTwo_ok h af97 af104 hll (fun av108 aΓ109 _ ag111 af112 h => ?_)
  have af104 := af104.mono ag111
  have af97 := af97.mono ag111
  have af90 := af90.mono ag111
  have af67 := af67.mono ag111
  have af57 := af57.mono ag111
  have af30 := af30.mono ag111
  have af17 := af17.mono ag111
  obtain ⟨laf112, maf112, caf112⟩ := af112.lens
  refine heldS h (.cons .n0 (.cons .n0 .nil)) ?_
  refine ⟨fun _ hs => hs.weaken (.cons .n0 (.cons .n0 .nil)) (ag96.trans (ag103.trans ag111)), ?_⟩
  refine ⟨h.sxs (.cons .n0 (.cons .n0 .nil)) (.refl _), ?_⟩
  refine btoSH af112 ?_
  refine brS (fun ab114 => ?_) (fun ab114 => absurd rfl ab114)
  refine wMany_ok (h.pick .n1) (fun _ h => ?_)
  refine heldS h (.cons .n0 (.cons .n0 .nil)) ?_
  refine ⟨h.sxs (.cons .n0 (.cons .n0 .nil)) (.refl _), ?_⟩
  refine ⟨_, rfl, ?_⟩
  refine kDec (fun ab118 => ?_) (fun ab118 => ?_)
  refine k _ _ (ag16.trans (ag29.trans (ag56.trans (ag66.trans (ag73.trans (ag89.trans (ag96.trans (ag103.trans ag111)))))))) h.drop.drop
  (exfalso; omega)
  refine new h fun ar120 _ h => ?_
  have h := h.asA (B := blk ar120 (.cells #[Value.int IntKind.u8 98] 5 (0, 0))) (by kernel_rfl)
  refine ⟨h.sxs (.cons .n2 (.cons .n2 .nil)) (.refl _), ?_⟩
  refine ⟨?_, ?_⟩
  refine convA_pr (h.pick .n1) (fun aΓ122 _ ag124 af125 h => ?_)
  have af90 := af90.mono ag124
  have af67 := af67.mono ag124
  have af57 := af57.mono ag124
  have af30 := af30.mono ag124
  have af17 := af17.mono ag124
  refine ⟨h.sxs (.cons .n1 (.cons .n1 .nil)) ag124, ?_⟩
  refine convB_pr h (fun aΓ128 _ ag130 af131 h => ?_)
  have af125 := af125.mono ag130
  have af90 := af90.mono ag130
  have af67 := af67.mono ag130
  have af57 := af57.mono ag130
  have af30 := af30.mono ag130
  have af17 := af17.mono ag130
  refine ⟨h.sxs (.cons .n0 (.cons .n0 .nil)) (ag124.trans ag130), ?_⟩
  refine new h fun ar133 _ h => ?_
  have h := h.asA (B := blk ar133 (.cells #[Value.slice (Sl.mk (some (Addr.mk ar92 0 none)) 1 1).p (Sl.mk (some (Addr.mk ar92 0 none)) 1 1).len (Sl.mk (some (Addr.mk ar92 0 none)) 1 1).cap, Value.slice (Sl.mk (some (Addr.mk ar120 0 none)) 1 1).p (Sl.mk (some (Addr.mk ar120 0 none)) 1 1).len (Sl.mk (some (Addr.mk ar120 0 none)) 1 1).cap] 32 (0, 0))) (by kernel_rfl)
  refine ⟨h.sxs (.cons .n1 (.cons .n1 .nil)) (ag124.trans ag130), ?_⟩
  refine rBytesRTwo_ok h af125 af131 hll (fun av135 aΓ136 _ ag138 af139 h => ?_)
  have af131 := af131.mono ag138
  have af125 := af125.mono ag138
  have af90 := af90.mono ag138
  have af67 := af67.mono ag138
  have af57 := af57.mono ag138
  have af30 := af30.mono ag138
  have af17 := af17.mono ag138
  obtain ⟨laf139, maf139, caf139⟩ := af139.lens
  refine heldS h (.cons .n0 (.cons .n0 .nil)) ?_
  refine ⟨fun _ hs => hs.weaken (.cons .n0 (.cons .n0 .nil)) (ag124.trans (ag130.trans ag138)), ?_⟩
  refine ⟨h.sxs (.cons .n0 (.cons .n0 .nil)) (.refl _), ?_⟩
  refine btoSH af139 ?_
  refine brS (fun ab141 => ?_) (fun ab141 => absurd rfl ab141)
  refine wMany_ok (h.pick .n1) (fun _ h => ?_)
  refine heldS h (.cons .n0 (.cons .n0 .nil)) ?_
  refine ⟨h.sxs (.cons .n0 (.cons .n0 .nil)) (.refl _), ?_⟩
  refine ⟨_, rfl, ?_⟩
  refine kDec (fun ab145 => ?_) (fun ab145 => ?_)
  refine k _ _ (ag16.trans (ag29.trans (ag56.trans (ag66.trans (ag73.trans (ag89.trans (ag124.trans (ag130.trans ag138)))))))) h.drop.drop
  (exfalso; omega)
  refine convB_pr h (fun aΓ148 _ ag150 af151 h => ?_)
  have af90 := af90.mono ag150
  have af67 := af67.mono ag150
  have af57 := af57.mono ag150
  have af30 := af30.mono ag150
  have af17 := af17.mono ag150
  refine ⟨h.sxs (.cons .n1 (.cons .n1 .nil)) ag150, ?_⟩
  refine convA_pr h (fun aΓ154 _ ag156 af157 h => ?_)
  have af151 := af151.mono ag156
  have af90 := af90.mono ag156
  have af67 := af67.mono ag156
  have af57 := af57.mono ag156
  have af30 := af30.mono ag156
  have af17 := af17.mono ag156
  refine ⟨h.sxs (.cons .n0 (.cons .n0 .nil)) (ag150.trans ag156), ?_⟩
  refine new h fun ar159 _ h => ?_
  have h := h.asA (B := blk ar159 (.cells #[Value.slice (Sl.mk (some (Addr.mk ar92 0 none)) 1 1).p (Sl.mk (some (Addr.mk ar92 0 none)) 1 1).len (Sl.mk (some (Addr.mk ar92 0 none)) 1 1).cap, Value.slice (Sl.mk (some (Addr.mk ar120 0 none)) 1 1).p (Sl.mk (some (Addr.mk ar120 0 none)) 1 1).len (Sl.mk (some (Addr.mk ar120 0 none)) 1 1).cap] 32 (0, 0))) (by kernel_rfl)
  refine ⟨h.sxs (.cons .n1 (.cons .n1 .nil)) (ag150.trans ag156), ?_⟩
  refine rBytesRTwo_ok h af157 af151 hll (fun av161 aΓ162 _ ag164 af165 h => ?_)
  have af157 := af157.mono ag164
  have af151 := af151.mono ag164
  have af90 := af90.mono ag164
  have af67 := af67.mono ag164
  have af57 := af57.mono ag164
  have af30 := af30.mono ag164
  have af17 := af17.mono ag164
  obtain ⟨laf165, maf165, caf165⟩ := af165.lens
  refine heldS h (.cons .n0 (.cons .n0 .nil)) ?_
  refine ⟨fun _ hs => hs.weaken (.cons .n0 (.cons .n0 .nil)) (ag150.trans (ag156.trans ag164)), ?_⟩
  refine ⟨h.sxs (.cons .n0 (.cons .n0 .nil)) (.refl _), ?_⟩
  refine btoSH af165 ?_
  refine brS (fun ab167 => ?_) (fun ab167 => absurd rfl ab167)
  refine wMany_ok (h.pick .n1) (fun _ h => ?_)
  refine heldS h (.cons .n0 (.cons .n0 .nil)) ?_
  refine ⟨h.sxs (.cons .n0 (.cons .n0 .nil)) (.refl _), ?_⟩
  refine ⟨_, rfl, ?_⟩
  refine kDec (fun ab171 => ?_) (fun ab171 => ?_)
  refine k _ _ (ag16.trans (ag29.trans (ag56.trans (ag66.trans (ag73.trans (ag89.trans (ag150.trans (ag156.trans ag164)))))))) h.drop.drop
  (exfalso; omega)
  refine new h fun ar173 _ h => ?_
  have h := h.asA (B := blk ar173 (.cells #[Value.int IntKind.u8 98] 5 (0, 0))) (by kernel_rfl)
  refine ⟨h.sxs (.cons .n1 (.cons .n1 .nil)) (.refl _), ?_⟩
  refine ⟨?_, ?_⟩
  refine new h fun ar174 _ h => ?_
  have h := h.asA (B := blk ar174 (.cells #[Value.int IntKind.u8 97] 5 (0, 0))) (by kernel_rfl)
  refine ⟨h.sxs (.cons .n2 (.cons .n2 .nil)) (.refl _), ?_⟩
  refine ⟨?_, ?_⟩
  refine convA_pr h (fun aΓ176 _ ag178 af179 h => ?_)
  have af90 := af90.mono ag178
  have af67 := af67.mono ag178
  have af57 := af57.mono ag178
  have af30 := af30.mono ag178
  have af17 := af17.mono ag178
  refine ⟨h.sxs (.cons .n1 (.cons .n1 .nil)) ag178, ?_⟩
  refine convB_pr h (fun aΓ182 _ ag184 af185 h => ?_)
  have af179 := af179.mono ag184
  have af90 := af90.mono ag184
  have af67 := af67.mono ag184
  have af57 := af57.mono ag184
  have af30 := af30.mono ag184
  have af17 := af17.mono ag184
  refine ⟨h.sxs (.cons .n0 (.cons .n0 .nil)) (ag178.trans ag184), ?_⟩
  refine new h fun ar187 _ h => ?_
  have h := h.asA (B := blk ar187 (.cells #[Value.slice (Sl.mk (some (Addr.mk ar174 0 none)) 1 1).p (Sl.mk (some (Addr.mk ar174 0 none)) 1 1).len (Sl.mk (some (Addr.mk ar174 0 none)) 1 1).cap, Value.slice (Sl.mk (some (Addr.mk ar173 0 none)) 1 1).p (Sl.mk (some (Addr.mk ar173 0 none)) 1 1).len (Sl.mk (some (Addr.mk ar173 0 none)) 1 1).cap] 32 (0, 0))) (by kernel_rfl)
  refine ⟨h.sxs (.cons .n1 (.cons .n1 .nil)) (ag178.trans ag184), ?_⟩
  refine rBytesRTwo_ok h af179 af185 hll (fun av189 aΓ190 _ ag192 af193 h => ?_)
  have af185 := af185.mono ag192
  have af179 := af179.mono ag192
  have af90 := af90.mono ag192
  have af67 := af67.mono ag192
  have af57 := af57.mono ag192
  have af30 := af30.mono ag192
  have af17 := af17.mono ag192
  obtain ⟨laf193, maf193, caf193⟩ := af193.lens
  refine heldS h (.cons .n0 (.cons .n0 .nil)) ?_
  refine ⟨fun _ hs => hs.weaken (.cons .n0 (.cons .n0 .nil)) (ag178.trans (ag184.trans ag192)), ?_⟩
  refine ⟨h.sxs (.cons .n0 (.cons .n0 .nil)) (.refl _), ?_⟩
  refine btoSH af193 ?_
  refine brS (fun ab195 => ?_) (fun ab195 => absurd rfl ab195)
  refine wMany_ok (h.pick .n1) (fun _ h => ?_)
  refine heldS h (.cons .n0 (.cons .n0 .nil)) ?_
  refine ⟨h.sxs (.cons .n0 (.cons .n0 .nil)) (.refl _), ?_⟩
  refine ⟨_, rfl, ?_⟩
  refine kDec (fun ab199 => ?_) (fun ab199 => ?_)
  refine k _ _ (ag16.trans (ag29.trans (ag56.trans (ag66.trans (ag73.trans (ag89.trans (ag178.trans (ag184.trans ag192)))))))) h.drop.drop
  (exfalso; omega)
  refine convB_pr (h.pick .n1) (fun aΓ202 _ ag204 af205 h => ?_)
  have af90 := af90.mono ag204
  have af67 := af67.mono ag204
  have af57 := af57.mono ag204
  have af30 := af30.mono ag204
  have af17 := af17.mono ag204
  refine ⟨h.sxs (.cons .n1 (.cons .n1 .nil)) ag204, ?_⟩
  refine convA_pr h (fun aΓ208 _ ag210 af211 h => ?_)
  have af205 := af205.mono ag210
  have af90 := af90.mono ag210
  have af67 := af67.mono ag210
  have af57 := af57.mono ag210
  have af30 := af30.mono ag210
  have af17 := af17.mono ag210
  refine ⟨h.sxs (.cons .n0 (.cons .n0 .nil)) (ag204.trans ag210), ?_⟩
  refine new h fun ar213 _ h => ?_
  have h := h.asA (B := blk ar213 (.cells #[Value.slice (Sl.mk (some (Addr.mk ar174 0 none)) 1 1).p (Sl.mk (some (Addr.mk ar174 0 none)) 1 1).len (Sl.mk (some (Addr.mk ar174 0 none)) 1 1).cap, Value.slice (Sl.mk (some (Addr.mk ar173 0 none)) 1 1).p (Sl.mk (some (Addr.mk ar173 0 none)) 1 1).len (Sl.mk (some (Addr.mk ar173 0 none)) 1 1).cap] 32 (0, 0))) (by kernel_rfl)
  refine ⟨h.sxs (.cons .n1 (.cons .n1 .nil)) (ag204.trans ag210), ?_⟩
  refine rBytesRTwo_ok h af211 af205 hll (fun av215 aΓ216 _ ag218 af219 h => ?_)
  have af211 := af211.mono ag218
  have af205 := af205.mono ag218
  have af90 := af90.mono ag218
  have af67 := af67.mono ag218
  have af57 := af57.mono ag218
  have af30 := af30.mono ag218
  have af17 := af17.mono ag218
  obtain ⟨laf219, maf219, caf219⟩ := af219.lens
  refine heldS h (.cons .n0 (.cons .n0 .nil)) ?_
  refine ⟨fun _ hs => hs.weaken (.cons .n0 (.cons .n0 .nil)) (ag204.trans (ag210.trans ag218)), ?_⟩
  refine ⟨h.sxs (.cons .n0 (.cons .n0 .nil)) (.refl _), ?_⟩
  refine btoSH af219 ?_
  refine brS (fun ab221 => ?_) (fun ab221 => absurd rfl ab221)
  refine wMany_ok (h.pick .n1) (fun _ h => ?_)
  refine heldS h (.cons .n0 (.cons .n0 .nil)) ?_
  refine ⟨h.sxs (.cons .n0 (.cons .n0 .nil)) (.refl _), ?_⟩
  refine ⟨_, rfl, ?_⟩
  refine kDec (fun ab225 => ?_) (fun ab225 => ?_)
  refine k _ _ (ag16.trans (ag29.trans (ag56.trans (ag66.trans (ag73.trans (ag89.trans (ag204.trans (ag210.trans ag218)))))))) h.drop.drop
  (exfalso; omega)
  refine convB_pr h (fun aΓ228 _ ag230 af231 h => ?_)
  have af90 := af90.mono ag230
  have af67 := af67.mono ag230
  have af57 := af57.mono ag230
  have af30 := af30.mono ag230
  have af17 := af17.mono ag230
  refine ⟨h.sxs (.cons .n0 (.cons .n0 .nil)) ag230, ?_⟩
  refine new h fun ar233 _ h => ?_
  have h := h.asA (B := blk ar233 (.cells #[Value.int IntKind.u8 97] 5 (0, 0))) (by kernel_rfl)
  refine ⟨h.sxs (.cons .n1 (.cons .n1 .nil)) ag230, ?_⟩
  refine convA_pr h (fun aΓ235 _ ag237 af238 h => ?_)
  have af231 := af231.mono ag237
  have af90 := af90.mono ag237
  have af67 := af67.mono ag237
  have af57 := af57.mono ag237
  have af30 := af30.mono ag237
  have af17 := af17.mono ag237
  refine ⟨h.sxs (.cons .n0 (.cons .n0 .nil)) (ag230.trans ag237), ?_⟩
  refine new h fun ar240 _ h => ?_
  have h := h.asA (B := blk ar240 (.cells #[Value.slice (Sl.mk (some (Addr.mk ar233 0 none)) 1 1).p (Sl.mk (some (Addr.mk ar233 0 none)) 1 1).len (Sl.mk (some (Addr.mk ar233 0 none)) 1 1).cap, Value.slice (Sl.mk (some (Addr.mk ar173 0 none)) 1 1).p (Sl.mk (some (Addr.mk ar173 0 none)) 1 1).len (Sl.mk (some (Addr.mk ar173 0 none)) 1 1).cap] 32 (0, 0))) (by kernel_rfl)
  refine ⟨h.sxs (.cons .n1 (.cons .n1 .nil)) (ag230.trans ag237), ?_⟩
  refine rBytesRTwo_ok h af238 af231 hll (fun av242 aΓ243 _ ag245 af246 h => ?_)
  have af238 := af238.mono ag245
  have af231 := af231.mono ag245
  have af90 := af90.mono ag245
  have af67 := af67.mono ag245
  have af57 := af57.mono ag245
  have af30 := af30.mono ag245
  have af17 := af17.mono ag245
  obtain ⟨laf246, maf246, caf246⟩ := af246.lens
  refine heldS h (.cons .n0 (.cons .n0 .nil)) ?_
  refine ⟨fun _ hs => hs.weaken (.cons .n0 (.cons .n0 .nil)) (ag230.trans (ag237.trans ag245)), ?_⟩
  refine ⟨h.sxs (.cons .n0 (.cons .n0 .nil)) (.refl _), ?_⟩
  refine btoSH af246 ?_
  refine brS (fun ab248 => ?_) (fun ab248 => absurd rfl ab248)
  refine wMany_ok (h.pick .n1) (fun _ h => ?_)
  refine heldS h (.cons .n0 (.cons .n0 .nil)) ?_
  refine ⟨h.sxs (.cons .n0 (.cons .n0 .nil)) (.refl _), ?_⟩
  refine ⟨_, rfl, ?_⟩
  refine kDec (fun ab252 => ?_) (fun ab252 => ?_)
  refine k _ _ (ag16.trans (ag29.trans (ag56.trans (ag66.trans (ag73.trans (ag89.trans (ag230.trans (ag237.trans ag245)))))))) h.drop.drop
  (exfalso; omega)
  have af67 := af67.mono ag79
  have af57 := af57.mono ag79
  have af30 := af30.mono ag79
  have af17 := af17.mono ag79
  obtain ⟨laf80, maf80, caf80⟩ := af80.lens
  refine brF ?_
  refine wEnd_ok ((h.pick .n1).pick .n1) (by first | omega | (dsimp only; omega) | decide) (fun _ h => ?_)
  refine brF ?_
  refine dRead_ok (h.pick .n1) (by first | omega | (dsimp only; omega) | decide) (fun av258 aΓ259 _ ag261 af262 h => ?_)
  have af80 := af80.mono ag261
  have af67 := af67.mono ag261
  have af57 := af57.mono ag261
  have af30 := af30.mono ag261
  have af17 := af17.mono ag261
  obtain ⟨laf262, maf262, caf262⟩ := af262.lens
  refine heldS h (.cons .n0 (.cons .n0 .nil)) ?_
  refine dr h fun _ h => ?_
  refine ⟨h.sxs (.cons .n0 (.cons .n0 .nil)) (.refl _), ?_⟩
  refine brT ?_
  refine btoSH af262 ?_
  refine ⟨?_, ?_⟩
  refine new h fun ar264 _ h => ?_
  have h := h.asA (B := blk ar264 (.cells #[Value.int IntKind.u8 97] 5 (0, 0))) (by kernel_rfl)
  refine ⟨h.sxs (.cons .n1 (.cons .n1 .nil)) (.refl _), ?_⟩
  refine ⟨?_, ?_⟩
  refine convA_pr h (fun aΓ266 _ ag268 af269 h => ?_)
  have af262 := af262.mono ag268
  have af80 := af80.mono ag268
  have af67 := af67.mono ag268
  have af57 := af57.mono ag268
  have af30 := af30.mono ag268
  have af17 := af17.mono ag268
  refine ⟨h.sxs (.cons .n0 (.cons .n0 .nil)) ag268, ?_⟩
  refine new h fun ar271 _ h => ?_
  have h := h.asA (B := blk ar271 (.cells #[Value.int IntKind.u8 98] 5 (0, 0))) (by kernel_rfl)
  refine ⟨h.sxs (.cons .n1 (.cons .n1 .nil)) ag268, ?_⟩
  refine convB_pr h (fun aΓ273 _ ag275 af276 h => ?_)
  have af269 := af269.mono ag275
  have af262 := af262.mono ag275
  have af80 := af80.mono ag275
  have af67 := af67.mono ag275
  have af57 := af57.mono ag275
  have af30 := af30.mono ag275
  have af17 := af17.mono ag275
  refine ⟨h.sxs (.cons .n0 (.cons .n0 .nil)) (ag268.trans ag275), ?_⟩
  refine new h fun ar278 _ h => ?_
  have h := h.asA (B := blk ar278 (.cells #[Value.slice (Sl.mk (some (Addr.mk ar264 0 none)) 1 1).p (Sl.mk (some (Addr.mk ar264 0 none)) 1 1).len (Sl.mk (some (Addr.mk ar264 0 none)) 1 1).cap, Value.slice (Sl.mk (some (Addr.mk ar271 0 none)) 1 1).p (Sl.mk (some (Addr.mk ar271 0 none)) 1 1).len (Sl.mk (some (Addr.mk ar271 0 none)) 1 1).cap] 32 (0, 0))) (by kernel_rfl)
  refine ⟨h.sxs (.cons .n1 (.cons .n1 .nil)) (ag268.trans ag275), ?_⟩
  refine rBytesRTwo_ok h af269 af276 hll (fun av280 aΓ281 _ ag283 af284 h => ?_)
  have af276 := af276.mono ag283
  have af269 := af269.mono ag283
  have af262 := af262.mono ag283
  have af80 := af80.mono ag283
  have af67 := af67.mono ag283
  have af57 := af57.mono ag283
  have af30 := af30.mono ag283
  have af17 := af17.mono ag283
  obtain ⟨laf284, maf284, caf284⟩ := af284.lens
  refine heldS h (.cons .n0 (.cons .n0 .nil)) ?_
  refine ⟨fun _ hs => hs.weaken (.cons .n0 (.cons .n0 .nil)) (ag268.trans (ag275.trans ag283)), ?_⟩
  refine ⟨h.sxs (.cons .n0 (.cons .n0 .nil)) (.refl _), ?_⟩
  refine btoSH af284 ?_
  refine brS (fun ab286 => ?_) (fun ab286 => absurd rfl ab286)
  refine wMany_ok (h.pick .n1) (fun _ h => ?_)
  refine heldS h (.cons .n0 (.cons .n0 .nil)) ?_
  refine ⟨h.sxs (.cons .n0 (.cons .n0 .nil)) (.refl _), ?_⟩
  refine ⟨_, rfl, ?_⟩
  refine k _ _ (ag16.trans (ag29.trans (ag56.trans (ag66.trans (ag79.trans (ag261.trans (ag268.trans (ag275.trans ag283)))))))) h.drop.drop
  refine new h fun ar291 _ h => ?_
  have h := h.asA (B := blk ar291 (.cells #[Value.int IntKind.u8 98] 5 (0, 0))) (by kernel_rfl)
  refine ⟨h.sxs (.cons .n2 (.cons .n2 .nil)) (.refl _), ?_⟩
  refine ⟨?_, ?_⟩
  refine convA_pr (h.pick .n1) (fun aΓ293 _ ag295 af296 h => ?_)
  have af262 := af262.mono ag295
  have af80 := af80.mono ag295
  have af67 := af67.mono ag295
  have af57 := af57.mono ag295
  have af30 := af30.mono ag295
  have af17 := af17.mono ag295
  refine ⟨h.sxs (.cons .n1 (.cons .n1 .nil)) ag295, ?_⟩
  refine convB_pr h (fun aΓ299 _ ag301 af302 h => ?_)
  have af296 := af296.mono ag301
  have af262 := af262.mono ag301
  have af80 := af80.mono ag301
  have af67 := af67.mono ag301
  have af57 := af57.mono ag301
  have af30 := af30.mono ag301
  have af17 := af17.mono ag301
  refine ⟨h.sxs (.cons .n0 (.cons .n0 .nil)) (ag295.trans ag301), ?_⟩
  refine new h fun ar304 _ h => ?_
  have h := h.asA (B := blk ar304 (.cells #[Value.slice (Sl.mk (some (Addr.mk ar264 0 none)) 1 1).p (Sl.mk (some (Addr.mk ar264 0 none)) 1 1).len (Sl.mk (some (Addr.mk ar264 0 none)) 1 1).cap, Value.slice (Sl.mk (some (Addr.mk ar291 0 none)) 1 1).p (Sl.mk (some (Addr.mk ar291 0 none)) 1 1).len (Sl.mk (some (Addr.mk ar291 0 none)) 1 1).cap] 32 (0, 0))) (by kernel_rfl)
  refine ⟨h.sxs (.cons .n1 (.cons .n1 .nil)) (ag295.trans ag301), ?_⟩
  refine rBytesRTwo_ok h af296 af302 hll (fun av306 aΓ307 _ ag309 af310 h => ?_)
  have af302 := af302.mono ag309
  have af296 := af296.mono ag309
  have af262 := af262.mono ag309
  have af80 := af80.mono ag309
  have af67 := af67.mono ag309
  have af57 := af57.mono ag309
  have af30 := af30.mono ag309
  have af17 := af17.mono ag309
  obtain ⟨laf310, maf310, caf310⟩ := af310.lens
  refine heldS h (.cons .n0 (.cons .n0 .nil)) ?_
  refine ⟨fun _ hs => hs.weaken (.cons .n0 (.cons .n0 .nil)) (ag295.trans (ag301.trans ag309)), ?_⟩
  refine ⟨h.sxs (.cons .n0 (.cons .n0 .nil)) (.refl _), ?_⟩
  refine btoSH af310 ?_
  refine brS (fun ab312 => ?_) (fun ab312 => absurd rfl ab312)
  refine wMany_ok (h.pick .n1) (fun _ h => ?_)
  refine heldS h (.cons .n0 (.cons .n0 .nil)) ?_
  refine ⟨h.sxs (.cons .n0 (.cons .n0 .nil)) (.refl _), ?_⟩
  refine ⟨_, rfl, ?_⟩
  refine k _ _ (ag16.trans (ag29.trans (ag56.trans (ag66.trans (ag79.trans (ag261.trans (ag295.trans (ag301.trans ag309)))))))) h.drop.drop
  refine convB_pr h (fun aΓ318 _ ag320 af321 h => ?_)
  have af262 := af262.mono ag320
  have af80 := af80.mono ag320
  have af67 := af67.mono ag320
  have af57 := af57.mono ag320
  have af30 := af30.mono ag320
  have af17 := af17.mono ag320
  refine ⟨h.sxs (.cons .n1 (.cons .n1 .nil)) ag320, ?_⟩
  refine convA_pr h (fun aΓ324 _ ag326 af327 h => ?_)
  have af321 := af321.mono ag326
  have af262 := af262.mono ag326
  have af80 := af80.mono ag326
  have af67 := af67.mono ag326
  have af57 := af57.mono ag326
  have af30 := af30.mono ag326
  have af17 := af17.mono ag326
  refine ⟨h.sxs (.cons .n0 (.cons .n0 .nil)) (ag320.trans ag326), ?_⟩
  refine new h fun ar329 _ h => ?_
  have h := h.asA (B := blk ar329 (.cells #[Value.slice (Sl.mk (some (Addr.mk ar264 0 none)) 1 1).p (Sl.mk (some (Addr.mk ar264 0 none)) 1 1).len (Sl.mk (some (Addr.mk ar264 0 none)) 1 1).cap, Value.slice (Sl.mk (some (Addr.mk ar291 0 none)) 1 1).p (Sl.mk (some (Addr.mk ar291 0 none)) 1 1).len (Sl.mk (some (Addr.mk ar291 0 none)) 1 1).cap] 32 (0, 0))) (by kernel_rfl)
  refine ⟨h.sxs (.cons .n1 (.cons .n1 .nil)) (ag320.trans ag326), ?_⟩
  refine rBytesRTwo_ok h af327 af321 hll (fun av331 aΓ332 _ ag334 af335 h => ?_)
  have af327 := af327.mono ag334
  have af321 := af321.mono ag334
  have af262 := af262.mono ag334
  have af80 := af80.mono ag334
  have af67 := af67.mono ag334
  have af57 := af57.mono ag334
  have af30 := af30.mono ag334
  have af17 := af17.mono ag334
  obtain ⟨laf335, maf335, caf335⟩ := af335.lens
  refine heldS h (.cons .n0 (.cons .n0 .nil)) ?_
  refine ⟨fun _ hs => hs.weaken (.cons .n0 (.cons .n0 .nil)) (ag320.trans (ag326.trans ag334)), ?_⟩
  refine ⟨h.sxs (.cons .n0 (.cons .n0 .nil)) (.refl _), ?_⟩
  refine btoSH af335 ?_
  refine brS (fun ab337 => ?_) (fun ab337 => absurd rfl ab337)
  refine wMany_ok (h.pick .n1) (fun _ h => ?_)
  refine heldS h (.cons .n0 (.cons .n0 .nil)) ?_
  refine ⟨h.sxs (.cons .n0 (.cons .n0 .nil)) (.refl _), ?_⟩
  refine ⟨_, rfl, ?_⟩
  refine k _ _ (ag16.trans (ag29.trans (ag56.trans (ag66.trans (ag79.trans (ag261.trans (ag320.trans (ag326.trans ag334)))))))) h.drop.drop
  refine new h fun ar342 _ h => ?_
  have h := h.asA (B := blk ar342 (.cells #[Value.int IntKind.u8 98] 5 (0, 0))) (by kernel_rfl)
  refine ⟨h.sxs (.cons .n1 (.cons .n1 .nil)) (.refl _), ?_⟩
  refine ⟨?_, ?_⟩
  refine new h fun ar343 _ h => ?_
  have h := h.asA (B := blk ar343 (.cells #[Value.int IntKind.u8 97] 5 (0, 0))) (by kernel_rfl)
  refine ⟨h.sxs (.cons .n2 (.cons .n2 .nil)) (.refl _), ?_⟩
  refine ⟨?_, ?_⟩
  refine convA_pr h (fun aΓ345 _ ag347 af348 h => ?_)
  have af262 := af262.mono ag347
  have af80 := af80.mono ag347
  have af67 := af67.mono ag347
  have af57 := af57.mono ag347
  have af30 := af30.mono ag347
  have af17 := af17.mono ag347
  refine ⟨h.sxs (.cons .n1 (.cons .n1 .nil)) ag347, ?_⟩
  refine convB_pr h (fun aΓ351 _ ag353 af354 h => ?_)
  have af348 := af348.mono ag353
  have af262 := af262.mono ag353
  have af80 := af80.mono ag353
  have af67 := af67.mono ag353
  have af57 := af57.mono ag353
  have af30 := af30.mono ag353
  have af17 := af17.mono ag353
  refine ⟨h.sxs (.cons .n0 (.cons .n0 .nil)) (ag347.trans ag353), ?_⟩
  refine new h fun ar356 _ h => ?_
  have h := h.asA (B := blk ar356 (.cells #[Value.slice (Sl.mk (some (Addr.mk ar343 0 none)) 1 1).p (Sl.mk (some (Addr.mk ar343 0 none)) 1 1).len (Sl.mk (some (Addr.mk ar343 0 none)) 1 1).cap, Value.slice (Sl.mk (some (Addr.mk ar342 0 none)) 1 1).p (Sl.mk (some (Addr.mk ar342 0 none)) 1 1).len (Sl.mk (some (Addr.mk ar342 0 none)) 1 1).cap] 32 (0, 0))) (by kernel_rfl)
  refine ⟨h.sxs (.cons .n1 (.cons .n1 .nil)) (ag347.trans ag353), ?_⟩
  refine rBytesRTwo_ok h af348 af354 hll (fun av358 aΓ359 _ ag361 af362 h => ?_)
  have af354 := af354.mono ag361
  have af348 := af348.mono ag361
  have af262 := af262.mono ag361
  have af80 := af80.mono ag361
  have af67 := af67.mono ag361
  have af57 := af57.mono ag361
  have af30 := af30.mono ag361
  have af17 := af17.mono ag361
  obtain ⟨laf362, maf362, caf362⟩ := af362.lens
  refine heldS h (.cons .n0 (.cons .n0 .nil)) ?_
  refine ⟨fun _ hs => hs.weaken (.cons .n0 (.cons .n0 .nil)) (ag347.trans (ag353.trans ag361)), ?_⟩
  refine ⟨h.sxs (.cons .n0 (.cons .n0 .nil)) (.refl _), ?_⟩
  refine btoSH af362 ?_
  refine brS (fun ab364 => ?_) (fun ab364 => absurd rfl ab364)
  refine wMany_ok (h.pick .n1) (fun _ h => ?_)
  refine heldS h (.cons .n0 (.cons .n0 .nil)) ?_
  refine ⟨h.sxs (.cons .n0 (.cons .n0 .nil)) (.refl _), ?_⟩
  refine ⟨_, rfl, ?_⟩
  refine k _ _ (ag16.trans (ag29.trans (ag56.trans (ag66.trans (ag79.trans (ag261.trans (ag347.trans (ag353.trans ag361)))))))) h.drop.drop
  refine convB_pr (h.pick .n1) (fun aΓ370 _ ag372 af373 h => ?_)
  have af262 := af262.mono ag372
  have af80 := af80.mono ag372
  have af67 := af67.mono ag372
  have af57 := af57.mono ag372
  have af30 := af30.mono ag372
  have af17 := af17.mono ag372
  refine ⟨h.sxs (.cons .n1 (.cons .n1 .nil)) ag372, ?_⟩
  refine convA_pr h (fun aΓ376 _ ag378 af379 h => ?_)
  have af373 := af373.mono ag378
  have af262 := af262.mono ag378
  have af80 := af80.mono ag378
  have af67 := af67.mono ag378
  have af57 := af57.mono ag378
  have af30 := af30.mono ag378
  have af17 := af17.mono ag378
  refine ⟨h.sxs (.cons .n0 (.cons .n0 .nil)) (ag372.trans ag378), ?_⟩
  refine new h fun ar381 _ h => ?_
  have h := h.asA (B := blk ar381 (.cells #[Value.slice (Sl.mk (some (Addr.mk ar343 0 none)) 1 1).p (Sl.mk (some (Addr.mk ar343 0 none)) 1 1).len (Sl.mk (some (Addr.mk ar343 0 none)) 1 1).cap, Value.slice (Sl.mk (some (Addr.mk ar342 0 none)) 1 1).p (Sl.mk (some (Addr.mk ar342 0 none)) 1 1).len (Sl.mk (some (Addr.mk ar342 0 none)) 1 1).cap] 32 (0, 0))) (by kernel_rfl)
  refine ⟨h.sxs (.cons .n1 (.cons .n1 .nil)) (ag372.trans ag378), ?_⟩
  refine rBytesRTwo_ok h af379 af373 hll (fun av383 aΓ384 _ ag386 af387 h => ?_)
  have af379 := af379.mono ag386
  have af373 := af373.mono ag386
  have af262 := af262.mono ag386
  have af80 := af80.mono ag386
  have af67 := af67.mono ag386
  have af57 := af57.mono ag386
  have af30 := af30.mono ag386
  have af17 := af17.mono ag386
  obtain ⟨laf387, maf387, caf387⟩ := af387.lens
  refine heldS h (.cons .n0 (.cons .n0 .nil)) ?_
  refine ⟨fun _ hs => hs.weaken (.cons .n0 (.cons .n0 .nil)) (ag372.trans (ag378.trans ag386)), ?_⟩
  refine ⟨h.sxs (.cons .n0 (.cons .n0 .nil)) (.refl _), ?_⟩
  refine btoSH af387 ?_
  refine brS (fun ab389 => ?_) (fun ab389 => absurd rfl ab389)
  refine wMany_ok (h.pick .n1) (fun _ h => ?_)
  refine heldS h (.cons .n0 (.cons .n0 .nil)) ?_
  refine ⟨h.sxs (.cons .n0 (.cons .n0 .nil)) (.refl _), ?_⟩
  refine ⟨_, rfl, ?_⟩
  refine k _ _ (ag16.trans (ag29.trans (ag56.trans (ag66.trans (ag79.trans (ag261.trans (ag372.trans (ag378.trans ag386)))))))) h.drop.drop
  refine convB_pr h (fun aΓ395 _ ag397 af398 h => ?_)
  have af262 := af262.mono ag397
  have af80 := af80.mono ag397
  have af67 := af67.mono ag397
  have af57 := af57.mono ag397
  have af30 := af30.mono ag397
  have af17 := af17.mono ag397
  refine ⟨h.sxs (.cons .n0 (.cons .n0 .nil)) ag397, ?_⟩
  refine new h fun ar400 _ h => ?_
  have h := h.asA (B := blk ar400 (.cells #[Value.int IntKind.u8 97] 5 (0, 0))) (by kernel_rfl)
  refine ⟨h.sxs (.cons .n1 (.cons .n1 .nil)) ag397, ?_⟩
  refine convA_pr h (fun aΓ402 _ ag404 af405 h => ?_)
  have af398 := af398.mono ag404
  have af262 := af262.mono ag404
  have af80 := af80.mono ag404
  have af67 := af67.mono ag404
  have af57 := af57.mono ag404
  have af30 := af30.mono ag404
  have af17 := af17.mono ag404
  refine ⟨h.sxs (.cons .n0 (.cons .n0 .nil)) (ag397.trans ag404), ?_⟩
  refine new h fun ar407 _ h => ?_
  have h := h.asA (B := blk ar407 (.cells #[Value.slice (Sl.mk (some (Addr.mk ar400 0 none)) 1 1).p (Sl.mk (some (Addr.mk ar400 0 none)) 1 1).len (Sl.mk (some (Addr.mk ar400 0 none)) 1 1).cap, Value.slice (Sl.mk (some (Addr.mk ar342 0 none)) 1 1).p (Sl.mk (some (Addr.mk ar342 0 none)) 1 1).len (Sl.mk (some (Addr.mk ar342 0 none)) 1 1).cap] 32 (0, 0))) (by kernel_rfl)
  refine ⟨h.sxs (.cons .n1 (.cons .n1 .nil)) (ag397.trans ag404), ?_⟩
  refine rBytesRTwo_ok h af405 af398 hll (fun av409 aΓ410 _ ag412 af413 h => ?_)
  have af405 := af405.mono ag412
  have af398 := af398.mono ag412
  have af262 := af262.mono ag412
  have af80 := af80.mono ag412
  have af67 := af67.mono ag412
  have af57 := af57.mono ag412
  have af30 := af30.mono ag412
  have af17 := af17.mono ag412
  obtain ⟨laf413, maf413, caf413⟩ := af413.lens
  refine heldS h (.cons .n0 (.cons .n0 .nil)) ?_
  refine ⟨fun _ hs => hs.weaken (.cons .n0 (.cons .n0 .nil)) (ag397.trans (ag404.trans ag412)), ?_⟩
  refine ⟨h.sxs (.cons .n0 (.cons .n0 .nil)) (.refl _), ?_⟩
  refine btoSH af413 ?_
  refine brS (fun ab415 => ?_) (fun ab415 => absurd rfl ab415)
  refine wMany_ok (h.pick .n1) (fun _ h => ?_)
  refine heldS h (.cons .n0 (.cons .n0 .nil)) ?_
  refine ⟨h.sxs (.cons .n0 (.cons .n0 .nil)) (.refl _), ?_⟩
  refine ⟨_, rfl, ?_⟩
  refine k _ _ (ag16.trans (ag29.trans (ag56.trans (ag66.trans (ag79.trans (ag261.trans (ag397.trans (ag404.trans ag412)))))))) h.drop.drop

end Go.Proofs.Ytohoimokfgfceaa.K
