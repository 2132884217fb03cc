/-
  run: the program's writer.
-/
import Derived.Test.YtohoimokfgfceaaRnM
import Derived.Test.YtohoimokfgfceaaFrT
import Derived.Test.YtohoimokfgfceaaDkJ
import Derived.Test.YtohoimokfgfceaaTrB
namespace Go.Proofs.Ytohoimokfgfceaa.K
open Go Go.Proofs
variable {Γ Γ' : Mem} {L L' L'' : List HP} {w w' : World} {A B : HP}
set_option maxRecDepth 100000
set_option maxHeartbeats 1000000

theorem risesFirst_ok {x : Nat} {c0 c3 : Value} {T : TypeId} {s t : Sl} {y : Str} {K : Bool → World → Prop} (h : Sat Γ (blk x (.cells #[c0, .slice s.p s.len s.cap, .bool false, c3] T (0, 0)) :: L) w) (hy : Bytes Γ t y) (hl : y.length < 1000000000000)
    (k : ∀ s' Γ' w', Γ.le Γ' → Bytes Γ' s' y → Sat Γ' (blk x (.cells #[c0, .slice s'.p s'.len s'.cap, .bool true, c3] T (0, 0)) :: L) w' → K true w') :
    CallP Try.prog 113 [.pointer (some ⟨x, 1, none⟩), .slice t.p t.len t.cap] (.one (.s .bool)) K w := by
  refine callP (fn := Try.f113) [.s (.ptr (some ⟨x, 1, none⟩)), .s (.sl t)] (.p .n (.j [0, 1] [] .n .n)) nong mixed (by kernel_rfl) (by kernel_rfl) rfl rfl ?_
  obtain ⟨lhy, mhy, chy⟩ := hy.lens
  refine joinI ?_
  refine ⟨_, rfl, ?_⟩
  refine ld _ h .n0 ?_
  refine brF ?_
  refine cloneF_ok h hy hl (fun av1 aΓ2 _ ag4 af5 h => ?_)
  have hy := hy.mono ag4
  obtain ⟨laf5, maf5, caf5⟩ := af5.lens
  refine ⟨_, rfl, ?_⟩
  refine st h .n0 fun _ h => ?_
  refine ⟨_, rfl, ?_⟩
  refine st h .n0 fun _ h => ?_
  refine ⟨_, rfl, ?_⟩
  refine k _ _ _ ag4 af5 h

theorem risesMore_ok {x : Nat} {c0 c3 : Value} {T : TypeId} {s t : Sl} {y z : Str} {K : Bool → World → Prop} (h : Sat Γ (blk x (.cells #[c0, .slice s.p s.len s.cap, .bool true, c3] T (0, 0)) :: L) w) (hz : Bytes Γ s z) (hy : Bytes Γ t y) (hr : cmpB z y < 0) (hl : y.length < 1000000000000)
    (k : ∀ s' Γ' w', Γ.le Γ' → Bytes Γ' s' y → Sat Γ' (blk x (.cells #[c0, .slice s'.p s'.len s'.cap, .bool true, c3] T (0, 0)) :: L) w' → K true w') :
    CallP Try.prog 113 [.pointer (some ⟨x, 1, none⟩), .slice t.p t.len t.cap] (.one (.s .bool)) K w := by
  refine callP (fn := Try.f113) [.s (.ptr (some ⟨x, 1, none⟩)), .s (.sl t)] (.p .n (.j [0, 1] [] .n .n)) nong mixed (by kernel_rfl) (by kernel_rfl) rfl rfl ?_
  obtain ⟨lhz, mhz, chz⟩ := hz.lens
  obtain ⟨lhy, mhy, chy⟩ := hy.lens
  refine joinI ?_
  refine ⟨_, rfl, ?_⟩
  refine ld _ h .n0 ?_
  refine brT ?_
  refine ⟨_, rfl, ?_⟩
  refine ld _ h .n0 ?_
  refine bcmp_ok h hz hy ?_
  refine brD (fun bb1 => by exfalso; omega) (fun bb1 => ?_)
  refine cloneF_ok h hy hl (fun bv3 bΓ4 _ bg6 bf7 h => ?_)
  have hz := hz.mono bg6
  have hy := hy.mono bg6
  obtain ⟨lbf7, mbf7, cbf7⟩ := bf7.lens
  refine ⟨_, rfl, ?_⟩
  refine st h .n0 fun _ h => ?_
  refine ⟨_, rfl, ?_⟩
  refine st h .n0 fun _ h => ?_
  refine ⟨_, rfl, ?_⟩
  refine k _ _ _ bg6 bf7 h

theorem risesNever_ok {x : Nat} {c0 c3 : Value} {T : TypeId} {s t : Sl} {y z : Str} {K : Bool → World → Prop} (h : Sat Γ (blk x (.cells #[c0, .slice s.p s.len s.cap, .bool true, c3] T (0, 0)) :: L) w) (hz : Bytes Γ s z) (hy : Bytes Γ t y) (hr : ¬ cmpB z y < 0)
    (k : ∀ w', Sat Γ (blk x (.cells #[c0, .slice s.p s.len s.cap, .bool true, c3] T (0, 0)) :: L) w' → K false w') :
    CallP Try.prog 113 [.pointer (some ⟨x, 1, none⟩), .slice t.p t.len t.cap] (.one (.s .bool)) K w := by
  refine callP (fn := Try.f113) [.s (.ptr (some ⟨x, 1, none⟩)), .s (.sl t)] (.p .n (.j [0, 1] [] .n .n)) nong mixed (by kernel_rfl) (by kernel_rfl) rfl rfl ?_
  obtain ⟨lhz, mhz, chz⟩ := hz.lens
  obtain ⟨lhy, mhy, chy⟩ := hy.lens
  refine joinI ?_
  refine ⟨_, rfl, ?_⟩
  refine ld _ h .n0 ?_
  refine brT ?_
  refine ⟨_, rfl, ?_⟩
  refine ld _ h .n0 ?_
  refine bcmp_ok h hz hy ?_
  refine brD (fun cb1 => ?_) (fun cb1 => by exfalso; omega)
  refine ⟨_, rfl, ?_⟩
  refine k _ h

theorem wStart_ok {a : Nat} {m : DiskM} {K : (Option Addr × Int) → World → Prop} (h : Sat Γ (PDisk a m :: L) w) (hg : m.g < 10000000000)
    (k0 : (startM m).2 ≠ 0 → ∀ w', Sat Γ (PDisk a (startM m).1 :: L) w' → K (none, (startM m).2) w')
    (k1 : (startM m).2 = 0 → ∀ x w', Sat Γ (blk x (.cells #[.pointer (some ⟨a, 0, none⟩), .slice none 0 0, .bool false, .int .i64 0] 161 (0, 0)) :: PDisk a (startM m).1 :: L) w' → K (some ⟨x, 0, none⟩, 0) w') :
    CallP Try.prog 52 [.pointer (some ⟨a, 0, none⟩)] (.tup [.s .ptr, .s (.int .i64)]) K w := by
  have hrg := remove_g m tmpS
  refine callP (fn := Try.f52) [.s (.ptr (some ⟨a, 0, none⟩))] (.p .n (.j [0] [] .n .n)) nong mixed (by kernel_rfl) (by kernel_rfl) rfl rfl ?_
  unfold startM at k0 k1
  by_cases h1 : (m.remove tmpS).2 ≠ 0 ∧ (m.remove tmpS).2 ≠ 2
  · rw [if_pos h1] at k0 k1
    have k := k0 h1.1
    obtain ⟨h2, h3⟩ := h1
    clear k0 k1
    unfold tmpS at *
    refine joinI ?_
    refine dRemove_ok h (by first | omega | (dsimp only; omega) | decide) (fun _ h => ?_)
    refine brN (fun ab3 => ?_) (fun ab3 => by exfalso; omega)
    refine brN (fun ab4 => ?_) (fun ab4 => by exfalso; omega)
    refine ret2 _ _ ?_
    refine k _ h
  · rw [if_neg h1] at k0 k1
    by_cases h2 : ((m.remove tmpS).1.create tmpS).2 = 0
    · have k := k1 h2
      clear k0 k1
      unfold tmpS at *
      refine joinI ?_
      refine dRemove_ok h (by first | omega | (dsimp only; omega) | decide) (fun _ h => ?_)
      refine brN (fun bb3 => ?_) (fun bb3 => ?_)
      refine brN (fun bb4 => by exfalso; omega) (fun bb4 => ?_)
      refine dCreate_ok h (by first | omega | (dsimp only; omega) | decide) (fun _ h => ?_)
      refine brN (fun bb8 => by exfalso; omega) (fun bb8 => ?_)
      refine new h fun br9 _ h => ?_
      have h := h.asA (B := blk br9 (.cells #[Value.pointer (some (Addr.mk a 0 none)), Value.slice (Sl.mk none 0 0).p (Sl.mk none 0 0).len (Sl.mk none 0 0).cap, Value.bool false, Value.int IntKind.i64 0] 161 (0, 0))) (by kernel_rfl)
      refine ret2 _ _ ?_
      refine k _ _ ((h.pick .n1).pick .n1)
      refine dCreate_ok h (by first | omega | (dsimp only; omega) | decide) (fun _ h => ?_)
      refine brN (fun bb14 => by exfalso; omega) (fun bb14 => ?_)
      refine new h fun br15 _ h => ?_
      have h := h.asA (B := blk br15 (.cells #[Value.pointer (some (Addr.mk a 0 none)), Value.slice (Sl.mk none 0 0).p (Sl.mk none 0 0).len (Sl.mk none 0 0).cap, Value.bool false, Value.int IntKind.i64 0] 161 (0, 0))) (by kernel_rfl)
      refine ret2 _ _ ?_
      refine k _ _ ((h.pick .n1).pick .n1)
    · have k := k0 h2
      clear k0 k1
      unfold tmpS at *
      refine joinI ?_
      refine dRemove_ok h (by first | omega | (dsimp only; omega) | decide) (fun _ h => ?_)
      refine brN (fun cb3 => ?_) (fun cb3 => ?_)
      refine brN (fun cb4 => by exfalso; omega) (fun cb4 => ?_)
      refine dCreate_ok h (by first | omega | (dsimp only; omega) | decide) (fun _ h => ?_)
      refine brN (fun cb8 => ?_) (fun cb8 => by exfalso; omega)
      refine ret2 _ _ ?_
      refine k _ h
      refine dCreate_ok h (by first | omega | (dsimp only; omega) | decide) (fun _ h => ?_)
      refine brN (fun cb13 => ?_) (fun cb13 => by exfalso; omega)
      refine ret2 _ _ ?_
      refine k _ h

theorem wAddFirst_ok {x a : Nat} {m : DiskM} {s t : Sl} {n : Int} {y : Str} {K : Int → World → Prop}
    (h : Sat Γ (blk x (.cells #[.pointer (some ⟨a, 0, none⟩), .slice s.p s.len s.cap, .bool false, .int .i64 n] 161 (0, 0)) :: PDisk a m :: L) w) (hy : Bytes Γ t y) (hl : y.length ≤ 64) (hn : 0 ≤ n ∧ n < 1000000000) (hg : m.g < 10000000000)
    (k0 : (m.append tmpS (frameB y)).2 ≠ 0 → ∀ Γ' w', Γ.le Γ' → Sat Γ' (blk x (.cells #[.pointer (some ⟨a, 0, none⟩), .slice s.p s.len s.cap, .bool false, .int .i64 n] 161 (0, 0)) :: PDisk a (m.append tmpS (frameB y)).1 :: L) w' → K (m.append tmpS (frameB y)).2 w')
    (k1 : (m.append tmpS (frameB y)).2 = 0 → ∀ s' Γ' w', Γ.le Γ' → Bytes Γ' s' y → Sat Γ' (blk x (.cells #[.pointer (some ⟨a, 0, none⟩), .slice s'.p s'.len s'.cap, .bool true, .int .i64 (n + 1)] 161 (0, 0)) :: PDisk a (m.append tmpS (frameB y)).1 :: L) w' → K 0 w') :
    CallP Try.prog 47 [.pointer (some ⟨x, 0, none⟩), .slice t.p t.len t.cap] (.one (.s (.int .i64))) K w := by
  have e : frameB y = [] ++ frameB y := rfl
  rw [e] at k0 k1
  have hfl : ([] ++ frameB y : Str).length = y.length + 8 := frameB_len y
  refine callP (fn := Try.f47) [.s (.ptr (some ⟨x, 0, none⟩)), .s (.sl t)] (.p .n (.p .n (.p .n (.p .n (.p .n (.j [5, 0] [(7, .s (.int .i64))] .n .n)))))) nong mixed (by kernel_rfl) (by kernel_rfl) rfl rfl ?_
  by_cases h0 : (m.append tmpS ([] ++ frameB y)).2 = 0
  · have k := k1 h0
    clear k0 k1
    unfold tmpS at *
    obtain ⟨lhy, mhy, chy⟩ := hy.lens
    refine brF ?_
    refine brD (fun ab0 => by exfalso; omega) (fun ab0 => ?_)
    refine ⟨_, rfl, ?_⟩
    refine ldA2 _ _ h .n0 ?_
    refine new h fun ar1 _ h => ?_
    have h := h.asA (B := blk ar1 (.cells #[Value.slice none 0 0, Value.bool false] 155 (0, 0))) (by kernel_rfl)
    refine stNs h .n0 fun _ h => ?_
    have h := h.asA (B := blk ar1 (.cells #[Value.slice (s, false).fst.p (s, false).fst.len (s, false).fst.cap, Value.bool (s, false).snd] 155 (0, 0))) (by kernel_rfl)
    refine ⟨_, rfl, ?_⟩
    refine risesFirst_ok (h.pick .n1) hy (by first | omega | (dsimp only; omega) | decide) (fun av3 aΓ4 _ ag6 af7 h => ?_)
    have hy := hy.mono ag6
    obtain ⟨laf7, maf7, caf7⟩ := af7.lens
    refine brF ?_
    refine putF_ok h (.nil _ _) hy (by first | omega | (dsimp only; omega) | decide) (fun ap10 => ?_) (fun ap11 av12 aΓ13 _ ag15 af16 h => ?_)
    refine joinI ?_
    refine brF ?_
    refine brT ?_
    refine ldA2 _ _ h .n1 ?_
    refine ⟨_, rfl, ?_⟩
    refine stNs h .n0 fun _ h => ?_
    have h := h.asA (B := blk x (.cells #[Value.pointer (some (Addr.mk a 0 none)), Value.slice ((s, false).fst, (s, false).snd).fst.p ((s, false).fst, (s, false).snd).fst.len ((s, false).fst, (s, false).snd).fst.cap, Value.bool ((s, false).fst, (s, false).snd).snd, Value.int IntKind.i64 n] 161 (0, 0))) (by kernel_rfl)
    refine ⟨_, rfl, ?_⟩
    (exfalso; omega)
    have af7 := af7.mono ag15
    have hy := hy.mono ag15
    obtain ⟨laf16, maf16, caf16⟩ := af16.lens
    refine joinI ?_
    refine brT ?_
    refine ⟨_, rfl, ?_⟩
    refine ld _ h .n0 ?_
    refine dAppend_ok (h.pick .n2) af16 (by first | omega | (dsimp only; omega) | decide) (fun aΓ19 _ ag21 h => ?_)
    have af16 := af16.mono ag21
    have af7 := af7.mono ag21
    have hy := hy.mono ag21
    refine brN (fun ab23 => by exfalso; omega) (fun ab23 => ?_)
    refine ⟨_, rfl, ?_⟩
    refine ld _ h .n1 ?_
    refine wr ?_
    refine ⟨_, rfl, ?_⟩
    refine st h .n1 fun _ h => ?_
    have h := h.asA (B := blk x (.cells #[Value.pointer (some (Addr.mk a 0 none)), Value.slice av3.p av3.len av3.cap, Value.bool true, Value.int IntKind.i64 (n + 1)] 161 (0, 0))) (by kernel_rfl)
    refine ⟨_, rfl, ?_⟩
    refine k _ _ _ (ag6.trans (ag15.trans ag21)) af7 (((h.pick .n2).drop.pick .n1).pick .n1)
  · have k := k0 h0
    clear k0 k1
    unfold tmpS at *
    obtain ⟨lhy, mhy, chy⟩ := hy.lens
    refine brF ?_
    refine brD (fun bb0 => by exfalso; omega) (fun bb0 => ?_)
    refine ⟨_, rfl, ?_⟩
    refine ldA2 _ _ h .n0 ?_
    refine new h fun br1 _ h => ?_
    have h := h.asA (B := blk br1 (.cells #[Value.slice none 0 0, Value.bool false] 155 (0, 0))) (by kernel_rfl)
    refine stNs h .n0 fun _ h => ?_
    have h := h.asA (B := blk br1 (.cells #[Value.slice (s, false).fst.p (s, false).fst.len (s, false).fst.cap, Value.bool (s, false).snd] 155 (0, 0))) (by kernel_rfl)
    refine ⟨_, rfl, ?_⟩
    refine risesFirst_ok (h.pick .n1) hy (by first | omega | (dsimp only; omega) | decide) (fun bv3 bΓ4 _ bg6 bf7 h => ?_)
    have hy := hy.mono bg6
    obtain ⟨lbf7, mbf7, cbf7⟩ := bf7.lens
    refine brF ?_
    refine putF_ok h (.nil _ _) hy (by first | omega | (dsimp only; omega) | decide) (fun bp10 => ?_) (fun bp11 bv12 bΓ13 _ bg15 bf16 h => ?_)
    refine joinI ?_
    refine brF ?_
    refine brT ?_
    refine ldA2 _ _ h .n1 ?_
    refine ⟨_, rfl, ?_⟩
    refine stNs h .n0 fun _ h => ?_
    have h := h.asA (B := blk x (.cells #[Value.pointer (some (Addr.mk a 0 none)), Value.slice ((s, false).fst, (s, false).snd).fst.p ((s, false).fst, (s, false).snd).fst.len ((s, false).fst, (s, false).snd).fst.cap, Value.bool ((s, false).fst, (s, false).snd).snd, Value.int IntKind.i64 n] 161 (0, 0))) (by kernel_rfl)
    refine ⟨_, rfl, ?_⟩
    (exfalso; omega)
    have bf7 := bf7.mono bg15
    have hy := hy.mono bg15
    obtain ⟨lbf16, mbf16, cbf16⟩ := bf16.lens
    refine joinI ?_
    refine brT ?_
    refine ⟨_, rfl, ?_⟩
    refine ld _ h .n0 ?_
    refine dAppend_ok (h.pick .n2) bf16 (by first | omega | (dsimp only; omega) | decide) (fun bΓ19 _ bg21 h => ?_)
    have bf16 := bf16.mono bg21
    have bf7 := bf7.mono bg21
    have hy := hy.mono bg21
    refine brN (fun bb23 => ?_) (fun bb23 => by exfalso; omega)
    refine ldA2 _ _ h .n2 ?_
    refine ⟨_, rfl, ?_⟩
    refine stNs h .n1 fun _ h => ?_
    have h := h.asA (B := blk x (.cells #[Value.pointer (some (Addr.mk a 0 none)), Value.slice ((s, false).fst, (s, false).snd).fst.p ((s, false).fst, (s, false).snd).fst.len ((s, false).fst, (s, false).snd).fst.cap, Value.bool ((s, false).fst, (s, false).snd).snd, Value.int IntKind.i64 n] 161 (0, 0))) (by kernel_rfl)
    refine ⟨_, rfl, ?_⟩
    refine k _ _ (bg6.trans (bg15.trans bg21)) (((h.pick .n2).drop.pick .n1).pick .n1)

theorem wAddMore_ok {x a : Nat} {m : DiskM} {s t : Sl} {n : Int} {y z : Str} {K : Int → World → Prop}
    (h : Sat Γ (blk x (.cells #[.pointer (some ⟨a, 0, none⟩), .slice s.p s.len s.cap, .bool true, .int .i64 n] 161 (0, 0)) :: PDisk a m :: L) w) (hz : Bytes Γ s z) (hr : cmpB z y < 0) (hy : Bytes Γ t y) (hl : y.length ≤ 64) (hn : 0 ≤ n ∧ n < 1000000000) (hg : m.g < 10000000000)
    (k0 : (m.append tmpS (frameB y)).2 ≠ 0 → ∀ Γ' w', Γ.le Γ' → Sat Γ' (blk x (.cells #[.pointer (some ⟨a, 0, none⟩), .slice s.p s.len s.cap, .bool true, .int .i64 n] 161 (0, 0)) :: PDisk a (m.append tmpS (frameB y)).1 :: L) w' → K (m.append tmpS (frameB y)).2 w')
    (k1 : (m.append tmpS (frameB y)).2 = 0 → ∀ s' Γ' w', Γ.le Γ' → Bytes Γ' s' y → Sat Γ' (blk x (.cells #[.pointer (some ⟨a, 0, none⟩), .slice s'.p s'.len s'.cap, .bool true, .int .i64 (n + 1)] 161 (0, 0)) :: PDisk a (m.append tmpS (frameB y)).1 :: L) w' → K 0 w') :
    CallP Try.prog 47 [.pointer (some ⟨x, 0, none⟩), .slice t.p t.len t.cap] (.one (.s (.int .i64))) K w := by
  have e : frameB y = [] ++ frameB y := rfl
  rw [e] at k0 k1
  have hfl : ([] ++ frameB y : Str).length = y.length + 8 := frameB_len y
  refine callP (fn := Try.f47) [.s (.ptr (some ⟨x, 0, none⟩)), .s (.sl t)] (.p .n (.p .n (.p .n (.p .n (.p .n (.j [5, 0] [(7, .s (.int .i64))] .n .n)))))) nong mixed (by kernel_rfl) (by kernel_rfl) rfl rfl ?_
  by_cases h0 : (m.append tmpS ([] ++ frameB y)).2 = 0
  · have k := k1 h0
    clear k0 k1
    unfold tmpS at *
    obtain ⟨lhz, mhz, chz⟩ := hz.lens
    obtain ⟨lhy, mhy, chy⟩ := hy.lens
    refine brF ?_
    refine brD (fun ab0 => by exfalso; omega) (fun ab0 => ?_)
    refine ⟨_, rfl, ?_⟩
    refine ldA2 _ _ h .n0 ?_
    refine new h fun ar1 _ h => ?_
    have h := h.asA (B := blk ar1 (.cells #[Value.slice none 0 0, Value.bool false] 155 (0, 0))) (by kernel_rfl)
    refine stNs h .n0 fun _ h => ?_
    have h := h.asA (B := blk ar1 (.cells #[Value.slice (s, true).fst.p (s, true).fst.len (s, true).fst.cap, Value.bool (s, true).snd] 155 (0, 0))) (by kernel_rfl)
    refine ⟨_, rfl, ?_⟩
    refine risesMore_ok (h.pick .n1) hz hy hr (by first | omega | (dsimp only; omega) | decide) (fun av3 aΓ4 _ ag6 af7 h => ?_)
    have hz := hz.mono ag6
    have hy := hy.mono ag6
    obtain ⟨laf7, maf7, caf7⟩ := af7.lens
    refine brF ?_
    refine putF_ok h (.nil _ _) hy (by first | omega | (dsimp only; omega) | decide) (fun ap10 => ?_) (fun ap11 av12 aΓ13 _ ag15 af16 h => ?_)
    refine joinI ?_
    refine brF ?_
    refine brT ?_
    refine ldA2 _ _ h .n1 ?_
    refine ⟨_, rfl, ?_⟩
    refine stNs h .n0 fun _ h => ?_
    have h := h.asA (B := blk x (.cells #[Value.pointer (some (Addr.mk a 0 none)), Value.slice ((s, true).fst, (s, true).snd).fst.p ((s, true).fst, (s, true).snd).fst.len ((s, true).fst, (s, true).snd).fst.cap, Value.bool ((s, true).fst, (s, true).snd).snd, Value.int IntKind.i64 n] 161 (0, 0))) (by kernel_rfl)
    refine ⟨_, rfl, ?_⟩
    (exfalso; omega)
    have af7 := af7.mono ag15
    have hz := hz.mono ag15
    have hy := hy.mono ag15
    obtain ⟨laf16, maf16, caf16⟩ := af16.lens
    refine joinI ?_
    refine brT ?_
    refine ⟨_, rfl, ?_⟩
    refine ld _ h .n0 ?_
    refine dAppend_ok (h.pick .n2) af16 (by first | omega | (dsimp only; omega) | decide) (fun aΓ19 _ ag21 h => ?_)
    have af16 := af16.mono ag21
    have af7 := af7.mono ag21
    have hz := hz.mono ag21
    have hy := hy.mono ag21
    refine brN (fun ab23 => by exfalso; omega) (fun ab23 => ?_)
    refine ⟨_, rfl, ?_⟩
    refine ld _ h .n1 ?_
    refine wr ?_
    refine ⟨_, rfl, ?_⟩
    refine st h .n1 fun _ h => ?_
    have h := h.asA (B := blk x (.cells #[Value.pointer (some (Addr.mk a 0 none)), Value.slice av3.p av3.len av3.cap, Value.bool true, Value.int IntKind.i64 (n + 1)] 161 (0, 0))) (by kernel_rfl)
    refine ⟨_, rfl, ?_⟩
    refine k _ _ _ (ag6.trans (ag15.trans ag21)) af7 (((h.pick .n2).drop.pick .n1).pick .n1)
  · have k := k0 h0
    clear k0 k1
    unfold tmpS at *
    obtain ⟨lhz, mhz, chz⟩ := hz.lens
    obtain ⟨lhy, mhy, chy⟩ := hy.lens
    refine brF ?_
    refine brD (fun bb0 => by exfalso; omega) (fun bb0 => ?_)
    refine ⟨_, rfl, ?_⟩
    refine ldA2 _ _ h .n0 ?_
    refine new h fun br1 _ h => ?_
    have h := h.asA (B := blk br1 (.cells #[Value.slice none 0 0, Value.bool false] 155 (0, 0))) (by kernel_rfl)
    refine stNs h .n0 fun _ h => ?_
    have h := h.asA (B := blk br1 (.cells #[Value.slice (s, true).fst.p (s, true).fst.len (s, true).fst.cap, Value.bool (s, true).snd] 155 (0, 0))) (by kernel_rfl)
    refine ⟨_, rfl, ?_⟩
    refine risesMore_ok (h.pick .n1) hz hy hr (by first | omega | (dsimp only; omega) | decide) (fun bv3 bΓ4 _ bg6 bf7 h => ?_)
    have hz := hz.mono bg6
    have hy := hy.mono bg6
    obtain ⟨lbf7, mbf7, cbf7⟩ := bf7.lens
    refine brF ?_
    refine putF_ok h (.nil _ _) hy (by first | omega | (dsimp only; omega) | decide) (fun bp10 => ?_) (fun bp11 bv12 bΓ13 _ bg15 bf16 h => ?_)
    refine joinI ?_
    refine brF ?_
    refine brT ?_
    refine ldA2 _ _ h .n1 ?_
    refine ⟨_, rfl, ?_⟩
    refine stNs h .n0 fun _ h => ?_
    have h := h.asA (B := blk x (.cells #[Value.pointer (some (Addr.mk a 0 none)), Value.slice ((s, true).fst, (s, true).snd).fst.p ((s, true).fst, (s, true).snd).fst.len ((s, true).fst, (s, true).snd).fst.cap, Value.bool ((s, true).fst, (s, true).snd).snd, Value.int IntKind.i64 n] 161 (0, 0))) (by kernel_rfl)
    refine ⟨_, rfl, ?_⟩
    (exfalso; omega)
    have bf7 := bf7.mono bg15
    have hz := hz.mono bg15
    have hy := hy.mono bg15
    obtain ⟨lbf16, mbf16, cbf16⟩ := bf16.lens
    refine joinI ?_
    refine brT ?_
    refine ⟨_, rfl, ?_⟩
    refine ld _ h .n0 ?_
    refine dAppend_ok (h.pick .n2) bf16 (by first | omega | (dsimp only; omega) | decide) (fun bΓ19 _ bg21 h => ?_)
    have bf16 := bf16.mono bg21
    have bf7 := bf7.mono bg21
    have hz := hz.mono bg21
    have hy := hy.mono bg21
    refine brN (fun bb23 => ?_) (fun bb23 => by exfalso; omega)
    refine ldA2 _ _ h .n2 ?_
    refine ⟨_, rfl, ?_⟩
    refine stNs h .n1 fun _ h => ?_
    have h := h.asA (B := blk x (.cells #[Value.pointer (some (Addr.mk a 0 none)), Value.slice ((s, true).fst, (s, true).snd).fst.p ((s, true).fst, (s, true).snd).fst.len ((s, true).fst, (s, true).snd).fst.cap, Value.bool ((s, true).fst, (s, true).snd).snd, Value.int IntKind.i64 n] 161 (0, 0))) (by kernel_rfl)
    refine ⟨_, rfl, ?_⟩
    refine k _ _ (bg6.trans (bg15.trans bg21)) (((h.pick .n2).drop.pick .n1).pick .n1)

/-- the first of all -/
theorem wAddStart_ok {x a : Nat} {m : DiskM} {t : Sl} {y : Str} {K : Int → World → Prop}
    (h : Sat Γ (blk x (.cells #[.pointer (some ⟨a, 0, none⟩), .slice none 0 0, .bool false, .int .i64 0] 161 (0, 0)) :: PDisk a m :: L) w) (hy : Bytes Γ t y) (hl : y.length ≤ 64) (hg : m.g < 10000000000)
    (k0 : (m.append tmpS (frameB y)).2 ≠ 0 → ∀ Γ' w', Γ.le Γ' → Sat Γ' (blk x (.cells #[.pointer (some ⟨a, 0, none⟩), .slice none 0 0, .bool false, .int .i64 0] 161 (0, 0)) :: PDisk a (m.append tmpS (frameB y)).1 :: L) w' → K (m.append tmpS (frameB y)).2 w')
    (k1 : (m.append tmpS (frameB y)).2 = 0 → ∀ s' Γ' w', Γ.le Γ' → Bytes Γ' s' y → Sat Γ' (blk x (.cells #[.pointer (some ⟨a, 0, none⟩), .slice s'.p s'.len s'.cap, .bool true, .int .i64 1] 161 (0, 0)) :: PDisk a (m.append tmpS (frameB y)).1 :: L) w' → K 0 w') :
    CallP Try.prog 47 [.pointer (some ⟨x, 0, none⟩), .slice t.p t.len t.cap] (.one (.s (.int .i64))) K w :=
  wAddFirst_ok (s := ⟨none, 0, 0⟩) (n := 0) h hy hl (by omega) hg k0 k1

theorem wAddLong_ok {x a : Nat} {m : DiskM} {s t : Sl} {b : Bool} {n : Int} {y : Str} {K : Int → World → Prop}
    (h : Sat Γ (blk x (.cells #[.pointer (some ⟨a, 0, none⟩), .slice s.p s.len s.cap, .bool b, .int .i64 n] 161 (0, 0)) :: PDisk a m :: L) w) (hl : 64 < y.length) (hy : Bytes Γ t y) (k : ∀ w', Sat Γ (blk x (.cells #[.pointer (some ⟨a, 0, none⟩), .slice s.p s.len s.cap, .bool b, .int .i64 n] 161 (0, 0)) :: PDisk a m :: L) w' → K 3 w') :
    CallP Try.prog 47 [.pointer (some ⟨x, 0, none⟩), .slice t.p t.len t.cap] (.one (.s (.int .i64))) K w := by
  refine callP (fn := Try.f47) [.s (.ptr (some ⟨x, 0, none⟩)), .s (.sl t)] (.p .n (.p .n (.p .n (.p .n (.p .n (.j [5, 0] [(7, .s (.int .i64))] .n .n)))))) nong mixed (by kernel_rfl) (by kernel_rfl) rfl rfl ?_
  obtain ⟨lhy, mhy, chy⟩ := hy.lens
  refine brF ?_
  refine brD (fun ab0 => ?_) (fun ab0 => by exfalso; omega)
  refine ⟨_, rfl, ?_⟩
  refine k _ ((h.pick .n1).pick .n1)

theorem wAddNever_ok {x a : Nat} {m : DiskM} {s t : Sl} {n : Int} {y z : Str} {K : Int → World → Prop}
    (h : Sat Γ (blk x (.cells #[.pointer (some ⟨a, 0, none⟩), .slice s.p s.len s.cap, .bool true, .int .i64 n] 161 (0, 0)) :: PDisk a m :: L) w) (hl : y.length ≤ 64) (hz : Bytes Γ s z) (hr : ¬ cmpB z y < 0) (hy : Bytes Γ t y) (k : ∀ w', Sat Γ (blk x (.cells #[.pointer (some ⟨a, 0, none⟩), .slice s.p s.len s.cap, .bool true, .int .i64 n] 161 (0, 0)) :: PDisk a m :: L) w' → K 130 w') :
    CallP Try.prog 47 [.pointer (some ⟨x, 0, none⟩), .slice t.p t.len t.cap] (.one (.s (.int .i64))) K w := by
  refine callP (fn := Try.f47) [.s (.ptr (some ⟨x, 0, none⟩)), .s (.sl t)] (.p .n (.p .n (.p .n (.p .n (.p .n (.j [5, 0] [(7, .s (.int .i64))] .n .n)))))) nong mixed (by kernel_rfl) (by kernel_rfl) rfl rfl ?_
  obtain ⟨lhz, mhz, chz⟩ := hz.lens
  obtain ⟨lhy, mhy, chy⟩ := hy.lens
  refine brF ?_
  refine brD (fun ab0 => by exfalso; omega) (fun ab0 => ?_)
  refine ⟨_, rfl, ?_⟩
  refine ldA2 _ _ h .n0 ?_
  refine new h fun ar1 _ h => ?_
  have h := h.asA (B := blk ar1 (.cells #[Value.slice none 0 0, Value.bool false] 155 (0, 0))) (by kernel_rfl)
  refine stNs h .n0 fun _ h => ?_
  have h := h.asA (B := blk ar1 (.cells #[Value.slice (s, true).fst.p (s, true).fst.len (s, true).fst.cap, Value.bool (s, true).snd] 155 (0, 0))) (by kernel_rfl)
  refine ⟨_, rfl, ?_⟩
  refine risesNever_ok (h.pick .n1) hz hy hr (fun _ h => ?_)
  refine brT ?_
  refine ⟨_, rfl, ?_⟩
  refine k _ (((h.pick .n1).drop.pick .n1).pick .n1)

/-- the last record that was added, as it lies -/
def LastAt (Γ : Mem) (s : Sl) (b : Bool) : Option Str → Prop
  | none => b = false
  | some z => b = true ∧ Bytes Γ s z

theorem LastAt.mono {s : Sl} {b : Bool} {l : Option Str} (h : LastAt Γ s b l) (g : Γ.le Γ') : LastAt Γ' s b l := by
  cases l with
  | none => exact h
  | some z => exact ⟨h.1, h.2.mono g⟩

theorem wAdd_ok {x a : Nat} {m : DiskM} {s t : Sl} {b : Bool} {n : Int} {last : Option Str} {y : Str} {K : Int → World → Prop}
    (h : Sat Γ (blk x (.cells #[.pointer (some ⟨a, 0, none⟩), .slice s.p s.len s.cap, .bool b, .int .i64 n] 161 (0, 0)) :: PDisk a m :: L) w) (hlast : LastAt Γ s b last) (hy : Bytes Γ t y) (hn : 0 ≤ n ∧ n < 1000000000) (hg : m.g < 10000000000)
    (k0 : (addM m last y).2 ≠ 0 → ∀ Γ' w', Γ.le Γ' → Sat Γ' (blk x (.cells #[.pointer (some ⟨a, 0, none⟩), .slice s.p s.len s.cap, .bool b, .int .i64 n] 161 (0, 0)) :: PDisk a (addM m last y).1 :: L) w' → K (addM m last y).2 w')
    (k1 : (addM m last y).2 = 0 → ∀ s' Γ' w', Γ.le Γ' → Bytes Γ' s' y → Sat Γ' (blk x (.cells #[.pointer (some ⟨a, 0, none⟩), .slice s'.p s'.len s'.cap, .bool true, .int .i64 (n + 1)] 161 (0, 0)) :: PDisk a (addM m last y).1 :: L) w' → K 0 w') :
    CallP Try.prog 47 [.pointer (some ⟨x, 0, none⟩), .slice t.p t.len t.cap] (.one (.s (.int .i64))) K w := by
  by_cases hl : y.length ≤ 64
  · cases last with
    | none =>
      have hb : b = false := hlast
      subst hb
      have e : addM m none y = m.append tmpS (frameB y) := by unfold addM; rw [if_neg (by omega), if_neg (by simp [risesB])]
      rw [e] at k0 k1
      exact wAddFirst_ok h hy hl hn hg k0 k1
    | some z =>
      obtain ⟨hb, hz⟩ := hlast
      subst hb
      by_cases hr : cmpB z y < 0
      · have e : addM m (some z) y = m.append tmpS (frameB y) := by unfold addM; rw [if_neg (by omega), if_neg (by intro h; exact h hr)]
        rw [e] at k0 k1
        exact wAddMore_ok h hz hr hy hl hn hg k0 k1
      · have e : addM m (some z) y = (m, 130) := by unfold addM; rw [if_neg (by omega), if_pos (by exact hr)]
        rw [e] at k0
        exact wAddNever_ok h hl hz hr hy fun w' h => k0 (by simp) Γ w' (.refl _) h
  · have e : addM m last y = (m, 3) := by unfold addM; rw [if_pos (by omega)]
    rw [e] at k0
    exact wAddLong_ok h (by omega) hy fun w' h => k0 (by simp) Γ w' (.refl _) h

theorem wAddFail_ok {x a : Nat} {m : DiskM} {s t : Sl} {b : Bool} {n : Int} {last : Option Str} {y : Str} {K : Int → World → Prop}
    (h : Sat Γ (blk x (.cells #[.pointer (some ⟨a, 0, none⟩), .slice s.p s.len s.cap, .bool b, .int .i64 n] 161 (0, 0)) :: PDisk a m :: L) w) (hlast : LastAt Γ s b last) (hy : Bytes Γ t y) (he : (addM m last y).2 ≠ 0) (hn : 0 ≤ n ∧ n < 1000000000) (hg : m.g < 10000000000)
    (k : ∀ Γ' w', Γ.le Γ' → Sat Γ' (blk x (.cells #[.pointer (some ⟨a, 0, none⟩), .slice s.p s.len s.cap, .bool b, .int .i64 n] 161 (0, 0)) :: PDisk a (addM m last y).1 :: L) w' → K (addM m last y).2 w') :
    CallP Try.prog 47 [.pointer (some ⟨x, 0, none⟩), .slice t.p t.len t.cap] (.one (.s (.int .i64))) K w :=
  wAdd_ok h hlast hy hn hg (fun _ => k) fun e => absurd e he

theorem wAddDone_ok {x a : Nat} {m : DiskM} {s t : Sl} {b : Bool} {n : Int} {last : Option Str} {y : Str} {K : Int → World → Prop}
    (h : Sat Γ (blk x (.cells #[.pointer (some ⟨a, 0, none⟩), .slice s.p s.len s.cap, .bool b, .int .i64 n] 161 (0, 0)) :: PDisk a m :: L) w) (hlast : LastAt Γ s b last) (hy : Bytes Γ t y) (he : (addM m last y).2 = 0) (hn : 0 ≤ n ∧ n < 1000000000) (hg : m.g < 10000000000)
    (k : ∀ s' Γ' w', Γ.le Γ' → LastAt Γ' s' true (some y) → Sat Γ' (blk x (.cells #[.pointer (some ⟨a, 0, none⟩), .slice s'.p s'.len s'.cap, .bool true, .int .i64 (n + 1)] 161 (0, 0)) :: PDisk a (addM m last y).1 :: L) w' → K 0 w') :
    CallP Try.prog 47 [.pointer (some ⟨x, 0, none⟩), .slice t.p t.len t.cap] (.one (.s (.int .i64))) K w :=
  wAdd_ok h hlast hy hn hg (fun e => absurd he e) fun _ s' Γ' w' g f h => k s' Γ' w' g ⟨rfl, f⟩ h

theorem addM_g (m : DiskM) (last : Option Str) (y : Str) : (addM m last y).1.g ≤ m.g + 72 := by
  unfold addM
  have := append_g m tmpS (frameB y)
  rw [frameB_len] at this
  repeat' split
  · show m.g ≤ _; omega
  · show m.g ≤ _; omega
  · omega

theorem startM_g (m : DiskM) : (startM m).1.g ≤ m.g + 3 := by
  unfold startM
  have h1 := remove_g m tmpS
  have h2 := create_g (m.remove tmpS).1 tmpS
  split <;> omega

theorem endM_g (m : DiskM) (name : Str) : (endM m name).1.g ≤ m.g + 3 := by
  have h : StepOK (runAll [fun m => m.sync tmpS, fun m => m.rename tmpS name, fun m => m.syncNames]) (1 * 3) := by
    refine StepOK.runAll fun f hf => ?_
    simp only [List.mem_cons, List.not_mem_nil, or_false] at hf
    rcases hf with rfl | rfl | rfl
    · exact (stepSync _).mono (by omega)
    · exact stepRename _ _
    · exact stepSyncNames.mono (by omega)
  unfold endM
  split
  · show m.g ≤ _; omega
  · have := h.g m; omega

theorem wMany_ok {x : Nat} {a : Nat} {s : Sl} {b : Bool} {n : Int} {K : Int → World → Prop} (h : Sat Γ (blk x (.cells #[.pointer (some ⟨a, 0, none⟩), .slice s.p s.len s.cap, .bool b, .int .i64 n] 161 (0, 0)) :: L) w)
    (k : ∀ w', Sat Γ (blk x (.cells #[.pointer (some ⟨a, 0, none⟩), .slice s.p s.len s.cap, .bool b, .int .i64 n] 161 (0, 0)) :: L) w' → K n w') :
    CallP Try.prog 49 [.pointer (some ⟨x, 0, none⟩)] (.one (.s (.int .i64))) K w := by
  refine callP (fn := Try.f49) [.s (.ptr (some ⟨x, 0, none⟩))] .n nong mixed (by kernel_rfl) (by kernel_rfl) rfl rfl ?_
  refine brF ?_
  refine ⟨_, rfl, ?_⟩
  refine ld _ h .n0 ?_
  refine ⟨_, rfl, ?_⟩
  refine k _ h

theorem wEnd_ok {x a : Nat} {m : DiskM} {s : Sl} {b : Bool} {n : Int} {name : Str} {K : Int → World → Prop}
    (h : Sat Γ (blk x (.cells #[.pointer (some ⟨a, 0, none⟩), .slice s.p s.len s.cap, .bool b, .int .i64 n] 161 (0, 0)) :: PDisk a m :: L) w) (hg : m.g < 10000000000)
    (k : ∀ w', Sat Γ (blk x (.cells #[.pointer (some ⟨a, 0, none⟩), .slice s.p s.len s.cap, .bool b, .int .i64 n] 161 (0, 0)) :: PDisk a (endM m name).1 :: L) w' → K (endM m name).2 w') :
    CallP Try.prog 48 [.pointer (some ⟨x, 0, none⟩), .string (str name)] (.one (.s (.int .i64))) K w := by
  have hz := str_size name
  have hsg := sync_g m tmpS
  have hrg := rename_g (m.sync tmpS).1 tmpS name
  refine callP (fn := Try.f48) [.s (.ptr (some ⟨x, 0, none⟩)), .s (.str (str name))] (.p .n (.p (.k [1, 0] [] .n) .n)) nong mixed (by kernel_rfl) (by kernel_rfl) rfl rfl ?_
  unfold endM at k
  by_cases hr : rightP name
  · rw [if_neg (by intro h; exact h hr)] at k
    obtain ⟨hr1, hr2⟩ := hr
    unfold rightN at hr2
    have hr3 := rightN_ne hr2
    by_cases h1 : (m.sync tmpS).2 = 0
    · rw [runAll_ok h1] at k
      by_cases h2 : ((m.sync tmpS).1.rename tmpS name).2 = 0
      · rw [runAll_ok h2, runAll_one] at k
        unfold tmpS at *
        refine joinI ?_
        refine brF ?_
        refine brS (fun ab0 => ?_) (fun ab0 => ?_)
        refine ⟨_, rfl, ?_⟩
        contradiction
        refine brS (fun ab1 => ?_) (fun ab1 => ?_)
        refine ⟨_, rfl, ?_⟩
        contradiction
        refine brD (fun ab2 => by exfalso; omega) (fun ab2 => ?_)
        refine ⟨_, rfl, ?_⟩
        refine ld _ h .n0 ?_
        refine dSync_ok (h.pick .n1) (fun _ h => ?_)
        refine brN (fun ab6 => by exfalso; omega) (fun ab6 => ?_)
        refine ⟨_, rfl, ?_⟩
        refine ld _ h .n1 ?_
        refine dRename_ok h (by first | omega | (dsimp only; omega) | decide) (fun _ h => ?_)
        refine brN (fun ab10 => by exfalso; omega) (fun ab10 => ?_)
        refine ⟨_, rfl, ?_⟩
        refine ld _ h .n1 ?_
        refine dSyncNames_ok h (by first | omega | (dsimp only; omega) | decide) (fun _ h => ?_)
        refine ⟨_, rfl, ?_⟩
        refine k _ (h.pick .n1)
      · rw [runAll_no h2] at k
        unfold tmpS at *
        refine joinI ?_
        refine brF ?_
        refine brS (fun bb0 => ?_) (fun bb0 => ?_)
        refine ⟨_, rfl, ?_⟩
        contradiction
        refine brS (fun bb1 => ?_) (fun bb1 => ?_)
        refine ⟨_, rfl, ?_⟩
        contradiction
        refine brD (fun bb2 => by exfalso; omega) (fun bb2 => ?_)
        refine ⟨_, rfl, ?_⟩
        refine ld _ h .n0 ?_
        refine dSync_ok (h.pick .n1) (fun _ h => ?_)
        refine brN (fun bb6 => by exfalso; omega) (fun bb6 => ?_)
        refine ⟨_, rfl, ?_⟩
        refine ld _ h .n1 ?_
        refine dRename_ok h (by first | omega | (dsimp only; omega) | decide) (fun _ h => ?_)
        refine brN (fun bb10 => ?_) (fun bb10 => by exfalso; omega)
        refine ⟨_, rfl, ?_⟩
        refine k _ (h.pick .n1)
    · rw [runAll_no h1] at k
      unfold tmpS at *
      refine joinI ?_
      refine brF ?_
      refine brS (fun cb0 => ?_) (fun cb0 => ?_)
      refine ⟨_, rfl, ?_⟩
      contradiction
      refine brS (fun cb1 => ?_) (fun cb1 => ?_)
      refine ⟨_, rfl, ?_⟩
      contradiction
      refine brD (fun cb2 => by exfalso; omega) (fun cb2 => ?_)
      refine ⟨_, rfl, ?_⟩
      refine ld _ h .n0 ?_
      refine dSync_ok (h.pick .n1) (fun _ h => ?_)
      refine brN (fun cb6 => ?_) (fun cb6 => by exfalso; omega)
      refine ⟨_, rfl, ?_⟩
      refine k _ (h.pick .n1)
  · rw [if_pos hr] at k
    unfold rightP rightN tmpS at hr
    by_cases e1 : name = [116, 109, 112]
    · refine joinI ?_
      refine brF ?_
      refine brS (fun db0 => ?_) (fun db0 => ?_)
      refine ⟨_, rfl, ?_⟩
      refine k _ ((h.pick .n1).pick .n1)
      refine brS (fun db2 => ?_) (fun db2 => ?_)
      refine ⟨_, rfl, ?_⟩
      refine k _ ((h.pick .n1).pick .n1)
      refine brD (fun db4 => ?_) (fun db4 => ?_)
      refine ⟨_, rfl, ?_⟩
      refine k _ ((h.pick .n1).pick .n1)
      refine ⟨_, rfl, ?_⟩
      refine ld _ h .n0 ?_
      refine dSync_ok (h.pick .n1) (fun _ h => ?_)
      refine brN (fun db9 => ?_) (fun db9 => ?_)
      refine ⟨_, rfl, ?_⟩
      contradiction
      refine ⟨_, rfl, ?_⟩
      refine ld _ h .n1 ?_
      refine dRename_ok h ?_ (fun _ h => ?_)
      contradiction
      refine brN (fun db13 => ?_) (fun db13 => ?_)
      refine ⟨_, rfl, ?_⟩
      contradiction
      refine ⟨_, rfl, ?_⟩
      refine ld _ h .n1 ?_
      refine dSyncNamesQuiet_ok h ?_ ?_ (fun _ h => ?_)
      contradiction
      contradiction
      refine ⟨_, rfl, ?_⟩
      contradiction
    · by_cases e2 : name = []
      · refine joinI ?_
        refine brF ?_
        refine brS (fun eb0 => ?_) (fun eb0 => ?_)
        refine ⟨_, rfl, ?_⟩
        refine k _ ((h.pick .n1).pick .n1)
        refine brS (fun eb2 => ?_) (fun eb2 => ?_)
        refine ⟨_, rfl, ?_⟩
        refine k _ ((h.pick .n1).pick .n1)
        refine brD (fun eb4 => ?_) (fun eb4 => ?_)
        refine ⟨_, rfl, ?_⟩
        refine k _ ((h.pick .n1).pick .n1)
        refine ⟨_, rfl, ?_⟩
        refine ld _ h .n0 ?_
        refine dSync_ok (h.pick .n1) (fun _ h => ?_)
        refine brN (fun eb9 => ?_) (fun eb9 => ?_)
        refine ⟨_, rfl, ?_⟩
        contradiction
        refine ⟨_, rfl, ?_⟩
        refine ld _ h .n1 ?_
        refine dRename_ok h ?_ (fun _ h => ?_)
        contradiction
        refine brN (fun eb13 => ?_) (fun eb13 => ?_)
        refine ⟨_, rfl, ?_⟩
        contradiction
        refine ⟨_, rfl, ?_⟩
        refine ld _ h .n1 ?_
        refine dSyncNamesQuiet_ok h ?_ ?_ (fun _ h => ?_)
        contradiction
        contradiction
        refine ⟨_, rfl, ?_⟩
        contradiction
      · have e3 : 32 < name.length := by
          apply Classical.byContradiction
          intro hc
          have : 1 ≤ name.length := Nat.pos_of_ne_zero fun e => e2 (List.eq_nil_of_length_eq_zero e)
          exact hr ⟨e1, this, by omega⟩
        refine joinI ?_
        refine brF ?_
        refine brS (fun fb0 => ?_) (fun fb0 => ?_)
        refine ⟨_, rfl, ?_⟩
        refine k _ ((h.pick .n1).pick .n1)
        refine brS (fun fb2 => ?_) (fun fb2 => ?_)
        refine ⟨_, rfl, ?_⟩
        refine k _ ((h.pick .n1).pick .n1)
        refine brD (fun fb4 => ?_) (fun fb4 => by exfalso; omega)
        refine ⟨_, rfl, ?_⟩
        refine k _ ((h.pick .n1).pick .n1)

end Go.Proofs.Ytohoimokfgfceaa.K
