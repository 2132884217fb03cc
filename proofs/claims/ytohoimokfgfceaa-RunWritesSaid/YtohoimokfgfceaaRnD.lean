/-
  run: the reference's writer.
-/
import Derived.Test.YtohoimokfgfceaaRnA
import Derived.Test.YtohoimokfgfceaaFrS
import Derived.Test.YtohoimokfgfceaaRdH
namespace Go.Proofs.Ytohoimokfgfceaa.K
open Go Go.Proofs
variable {Γ Γ' : Mem} {L L' L'' : List HP} {w w' : World} {A B : HP}
set_option maxRecDepth 100000
set_option maxHeartbeats 1000000

theorem rwStart_ok {a : Nat} {m : DiskM} {K : (Option Addr × Int) → World → Prop} (h : Sat Γ (RDisk a m :: L) w) (hg : m.g < 10000000000)
    (k0 : (startM m).2 ≠ 0 → ∀ Γ' w', Γ.le Γ' → Sat Γ' (RDisk a (startM m).1 :: L) w' → K (none, (startM m).2) w')
    (k1 : (startM m).2 = 0 → ∀ x Γ' w', Γ.le Γ' → Sat Γ' (blk x (.cells #[.pointer (some ⟨a, 0, none⟩), .slice none 0 0] 122 (0, 0)) :: RDisk a (startM m).1 :: L) w' → K (some ⟨x, 0, none⟩, 0) w') :
    CallP Try.prog 88 [.pointer (some ⟨a, 0, none⟩)] (.tup [.s .ptr, .s (.int .i64)]) K w := by
  have hrg := remove_g m tmpS
  refine callP (fn := Try.f88) [.s (.ptr (some ⟨a, 0, none⟩))] (.p .n (.p .n (.j [0] [(4, .s (.int .i64))] .n .n))) nong mixed (by kernel_rfl) (by kernel_rfl) rfl rfl ?_
  unfold startM at k0 k1
  by_cases h1 : (m.remove tmpS).2 ≠ 0 ∧ (m.remove tmpS).2 ≠ 2
  · rw [if_pos h1] at k0 k1
    have k := k0 h1.1
    obtain ⟨h2, h3⟩ := h1
    clear k0 k1
    unfold tmpS at *
    refine rRemove_ok h (by first | omega | (dsimp only; omega) | decide) (fun aΓ1 _ ag3 h => ?_)
    refine joinI ?_
    refine brE (fun ab5 => by exfalso; omega) (fun ab5 => ?_)
    refine brE (fun ab6 => by exfalso; omega) (fun ab6 => ?_)
    refine brN (fun ab7 => ?_) (fun ab7 => by exfalso; omega)
    refine ret2 _ _ ?_
    refine k _ _ ag3 h
  · rw [if_neg h1] at k0 k1
    by_cases h2 : ((m.remove tmpS).1.create tmpS).2 = 0
    · have k := k1 h2
      clear k0 k1
      unfold tmpS at *
      refine rRemove_ok h (by first | omega | (dsimp only; omega) | decide) (fun bΓ1 _ bg3 h => ?_)
      refine joinI ?_
      refine brE (fun bb5 => ?_) (fun bb5 => ?_)
      refine rCreate_ok h (by first | omega | (dsimp only; omega) | decide) (fun bΓ7 _ bg9 h => ?_)
      refine brN (fun bb11 => by exfalso; omega) (fun bb11 => ?_)
      refine new h fun br12 _ h => ?_
      have h := h.asA (B := blk br12 (.cells #[Value.pointer (some (Addr.mk a 0 none)), Value.slice (Sl.mk none 0 0).p (Sl.mk none 0 0).len (Sl.mk none 0 0).cap] 122 (0, 0))) (by kernel_rfl)
      refine ret2 _ _ ?_
      refine k _ _ _ (bg3.trans bg9) ((h.pick .n1).pick .n1)
      refine brE (fun bb14 => ?_) (fun bb14 => by exfalso; omega)
      refine rCreate_ok h (by first | omega | (dsimp only; omega) | decide) (fun bΓ16 _ bg18 h => ?_)
      refine brN (fun bb20 => by exfalso; omega) (fun bb20 => ?_)
      refine new h fun br21 _ h => ?_
      have h := h.asA (B := blk br21 (.cells #[Value.pointer (some (Addr.mk a 0 none)), Value.slice (Sl.mk none 0 0).p (Sl.mk none 0 0).len (Sl.mk none 0 0).cap] 122 (0, 0))) (by kernel_rfl)
      refine ret2 _ _ ?_
      refine k _ _ _ (bg3.trans bg18) ((h.pick .n1).pick .n1)
    · have k := k0 h2
      clear k0 k1
      unfold tmpS at *
      refine rRemove_ok h (by first | omega | (dsimp only; omega) | decide) (fun cΓ1 _ cg3 h => ?_)
      refine joinI ?_
      refine brE (fun cb5 => ?_) (fun cb5 => ?_)
      refine rCreate_ok h (by first | omega | (dsimp only; omega) | decide) (fun cΓ7 _ cg9 h => ?_)
      refine brN (fun cb11 => ?_) (fun cb11 => by exfalso; omega)
      refine ret2 _ _ ?_
      refine k _ _ (cg3.trans cg9) h
      refine brE (fun cb13 => ?_) (fun cb13 => by exfalso; omega)
      refine rCreate_ok h (by first | omega | (dsimp only; omega) | decide) (fun cΓ15 _ cg17 h => ?_)
      refine brN (fun cb19 => ?_) (fun cb19 => by exfalso; omega)
      refine ret2 _ _ ?_
      refine k _ _ (cg3.trans cg17) h

theorem rwAddLong_ok {x a : Nat} {m : DiskM} {s t : Sl} {l : List Str} {y : Str} {K : Int → World → Prop}
    (h : Sat Γ (blk x (.cells #[.pointer (some ⟨a, 0, none⟩), .slice s.p s.len s.cap] 122 (0, 0)) :: OL eBytes 32 s l :: RDisk a m :: L) w) (hy : Bytes Γ t y) (hl : 64 < y.length)
    (k : ∀ w', Sat Γ (blk x (.cells #[.pointer (some ⟨a, 0, none⟩), .slice s.p s.len s.cap] 122 (0, 0)) :: OL eBytes 32 s l :: RDisk a m :: L) w' → K 3 w') :
    CallP Try.prog 90 [.pointer (some ⟨x, 0, none⟩), .slice t.p t.len t.cap] (.one (.s (.int .i64))) K w := by
  refine callP (fn := Try.f90) [.s (.ptr (some ⟨x, 0, none⟩)), .s (.sl t)] (.p .n (.p .n (.j [1, 0] [] (.p .s .n) (.p .n (.p .n (.j [7] [] (.p .n (.p (.h [0, 1, 2, 3, 4, 6, 5, 7, 8, 9, 10, 11, 12] [12]) .n)) .n)))))) nong mixed (by kernel_rfl) (by kernel_rfl) rfl rfl ?_
  obtain ⟨lhy, mhy, chy⟩ := hy.lens
  refine brD (fun ab0 => ?_) (fun ab0 => by exfalso; omega)
  refine ⟨_, rfl, ?_⟩
  refine k _ (((h.pick .n2).pick .n2).pick .n2)

theorem rwAddNever_ok {x a : Nat} {m : DiskM} {s t : Sl} {l : List Str} {y z : Str} {K : Int → World → Prop}
    (h : Sat Γ (blk x (.cells #[.pointer (some ⟨a, 0, none⟩), .slice s.p s.len s.cap] 122 (0, 0)) :: OL eBytes 32 s l :: RDisk a m :: L) w) (hy : Bytes Γ t y) (hl : y.length ≤ 64) (hne : 0 < l.length ∧ l.length < 1000000000) (hz : l[l.length - 1]? = some z) (hr : ¬ cmpB z y < 0)
    (k : ∀ w', Sat Γ (blk x (.cells #[.pointer (some ⟨a, 0, none⟩), .slice s.p s.len s.cap] 122 (0, 0)) :: OL eBytes 32 s l :: RDisk a m :: L) w' → K 130 w') :
    CallP Try.prog 90 [.pointer (some ⟨x, 0, none⟩), .slice t.p t.len t.cap] (.one (.s (.int .i64))) K w := by
  have hol := h.olLen .n1
  have hz2 : l[s.len - 1]? = some z := by rw [hol]; exact hz
  refine callP (fn := Try.f90) [.s (.ptr (some ⟨x, 0, none⟩)), .s (.sl t)] (.p .n (.p .n (.j [1, 0] [] (.p .s .n) (.p .n (.p .n (.j [7] [] (.p .n (.p (.h [0, 1, 2, 3, 4, 6, 5, 7, 8, 9, 10, 11, 12] [12]) .n)) .n)))))) nong mixed (by kernel_rfl) (by kernel_rfl) rfl rfl ?_
  obtain ⟨lhy, mhy, chy⟩ := hy.lens
  refine brD (fun bb0 => by exfalso; omega) (fun bb0 => ?_)
  refine joinI ?_
  refine dr h fun _ h => ?_
  refine ⟨_, rfl, ?_⟩
  refine ld _ h .n0 ?_
  refine brD (fun bb1 => ?_) (fun bb1 => by exfalso; omega)
  refine ⟨_, rfl, ?_⟩
  refine ld _ h .n0 ?_
  refine ⟨_, rfl, ?_⟩
  refine ld _ h .n0 ?_
  refine wrN (s.len - 1) ?_
  refine ⟨by omega, ?_⟩
  refine nnO h .n1 (fun ba2 bha2 => ?_)
  refine ldO h .n1 bha2 hz2 (fun by3 bhy3 => ?_)
  have bhy3 : Bytes _ by3 z := bhy3
  obtain ⟨lbhy3, mbhy3, cbhy3⟩ := bhy3.lens
  refine btoS h bhy3 ?_
  refine btoS h hy ?_
  refine brSge (fun bb4 => ?_) (fun bb4 => by exfalso; omega)
  refine ⟨_, rfl, ?_⟩
  refine k _ (((h.pick .n2).pick .n2).pick .n2)

theorem rwAddFirst_ok {x a : Nat} {m : DiskM} {s t : Sl} {l : List Str} {y : Str} {K : Int → World → Prop}
    (h : Sat Γ (blk x (.cells #[.pointer (some ⟨a, 0, none⟩), .slice s.p s.len s.cap] 122 (0, 0)) :: OL eBytes 32 s l :: RDisk a m :: L) w) (hy : Bytes Γ t y) (hl : y.length ≤ 64) (hne : l.length = 0) (hg : m.g < 10000000000)
    (k0 : (m.append tmpS (frameB y)).2 ≠ 0 → ∀ Γ' w', Γ.le Γ' → Sat Γ' (blk x (.cells #[.pointer (some ⟨a, 0, none⟩), .slice s.p s.len s.cap] 122 (0, 0)) :: OL eBytes 32 s l :: RDisk a (m.append tmpS (frameB y)).1 :: L) w' → K (m.append tmpS (frameB y)).2 w')
    (k1 : (m.append tmpS (frameB y)).2 = 0 → ∀ s' Γ' w', Γ.le Γ' → Sat Γ' (blk x (.cells #[.pointer (some ⟨a, 0, none⟩), .slice s'.p s'.len s'.cap] 122 (0, 0)) :: OL eBytes 32 s' (l ++ [y]) :: RDisk a (m.append tmpS (frameB y)).1 :: L) w' → K 0 w') :
    CallP Try.prog 90 [.pointer (some ⟨x, 0, none⟩), .slice t.p t.len t.cap] (.one (.s (.int .i64))) K w := by
  have hol := h.olLen .n1
  have e : frameB y = [] ++ frameB y := rfl
  rw [e] at k0 k1
  have hfl : ([] ++ frameB y : Str).length = y.length + 8 := frameB_len y
  refine callP (fn := Try.f90) [.s (.ptr (some ⟨x, 0, none⟩)), .s (.sl t)] (.p .n (.p .n (.j [1, 0] [] (.p .s .n) (.p .n (.p .n (.j [7] [] (.p .n (.p (.h [0, 1, 2, 3, 4, 6, 5, 7, 8, 9, 10, 11, 12] [12]) .n)) .n)))))) nong mixed (by kernel_rfl) (by kernel_rfl) rfl rfl ?_
  by_cases h0 : (m.append tmpS ([] ++ frameB y)).2 = 0
  · have k : ∀ s' Γ' w', Γ.le Γ' → Sat Γ' (blk x (.cells #[.pointer (some ⟨a, 0, none⟩), .slice s'.p s'.len s'.cap] 122 (0, 0)) :: OL eBytes 32 s' (l ++ [y]) :: RDisk a (m.append tmpS ([] ++ frameB y)).1 :: L) w' → K (m.append tmpS ([] ++ frameB y)).2 w' := fun s' Γ' w' g h => by rw [h0]; exact k1 h0 s' Γ' w' g h
    clear k0 k1
    unfold tmpS at *
    obtain ⟨lhy, mhy, chy⟩ := hy.lens
    refine brD (fun hcb0 => by exfalso; omega) (fun hcb0 => ?_)
    refine joinI ?_
    refine dr h fun _ h => ?_
    refine ⟨_, rfl, ?_⟩
    refine ld _ h .n0 ?_
    refine brD (fun hcb1 => by exfalso; omega) (fun hcb1 => ?_)
    refine rput_ok h (.nil _ _) hy (by first | omega | (dsimp only; omega) | decide) (fun hcp3 => ?_) (fun hcp4 hcv5 hcΓ6 _ hcg8 hcf9 h => ?_)
    refine ⟨_, rfl, ?_⟩
    refine ld _ h .n0 ?_
    refine rAppend_ok (h.pick .n2) (.nil _ _) (by first | omega | (dsimp only; omega) | decide) (fun hcΓ12 _ hcg14 h => ?_)
    have hy := hy.mono hcg14
    refine joinI ?_
    refine brE (fun hcb16 => by exfalso; omega) (fun hcb16 => ?_)
    refine ⟨_, rfl, ?_⟩
    (exfalso; omega)
    have hy := hy.mono hcg8
    obtain ⟨lhcf9, mhcf9, chcf9⟩ := hcf9.lens
    refine ⟨_, rfl, ?_⟩
    refine ld _ h .n0 ?_
    refine rAppend_ok (h.pick .n2) hcf9 (by first | omega | (dsimp only; omega) | decide) (fun hcΓ18 _ hcg20 h => ?_)
    have hcf9 := hcf9.mono hcg20
    have hy := hy.mono hcg20
    refine joinI ?_
    refine brE (fun hcb22 => ?_) (fun hcb22 => by exfalso; omega)
    rotate_left
    refine heldS h (.cons .n1 .nil) ?_
    refine dr h fun _ h => ?_
    refine ⟨h.sxs (.cons .n1 .nil) (.refl _), ?_⟩
    refine ⟨_, rfl, ?_⟩
    refine ldH _ .n0 ?_
    refine new h fun cr0 _ h => ?_
    have h := h.asA (B := blk cr0 (.cells #[] 5 (0, 0))) (by kernel_rfl)
    refine ⟨h.sxs (.cons .n2 .nil) (.refl _), ?_⟩
    have h := (h.pick .n0).olEmpty (E := eByte)
    refine appL slBytes h .n0 hy.lst (fun cs1 _ cl1 h => ?_)
    dsimp only at cl1
    refine ⟨h.sxs (.cons .n2 .nil) (.refl _), ?_⟩
    refine new h fun cr2 _ h => ?_
    have h := h.asA (B := blk cr2 (.cells #[Value.slice cs1.p cs1.len cs1.cap] 32 (0, 0))) (by kernel_rfl)
    refine ⟨h.sxs (.cons .n3 .nil) (.refl _), ?_⟩
    rotate_left
    have hol2 := h.olLen .n1
    obtain ⟨Γ2, g2, f2, h⟩ := h.olFreeze .n1 (by rw [hol2, List.nil_append]; omega)
    have f2 := f2.bytes
    rw [List.nil_append] at f2
    have hcf9 := hcf9.mono g2
    have hy := hy.mono g2
    refine app1 _ _ slSlice h .n2 f2 (fun cs0 _ cl0 h => ?_)
    refine ⟨h.sxs (.cons .n2 .nil) g2, ?_⟩
    refine ⟨_, rfl, ?_⟩
    refine st h .n2 fun _ h => ?_
    have h := h.asA (B := blk x (.cells #[Value.pointer (some (Addr.mk a 0 none)), Value.slice cs0.p cs0.len cs0.cap] 122 (0, 0))) (by kernel_rfl)
    refine heldS h (.cons .n0 (.cons .n0 (.cons .n0 .nil))) ?_
    refine ⟨h.sxs (.cons .n0 (.cons .n0 (.cons .n0 .nil))) (.refl _), ?_⟩
    refine ⟨_, rfl, ?_⟩
    refine k _ _ _ (hcg8.trans (hcg20.trans g2)) (((h.pick .n2).pick .n2).pick .n2)
  · have k := k0 h0
    clear k0 k1
    unfold tmpS at *
    obtain ⟨lhy, mhy, chy⟩ := hy.lens
    refine brD (fun db0 => by exfalso; omega) (fun db0 => ?_)
    refine joinI ?_
    refine dr h fun _ h => ?_
    refine ⟨_, rfl, ?_⟩
    refine ld _ h .n0 ?_
    refine brD (fun db1 => by exfalso; omega) (fun db1 => ?_)
    refine rput_ok h (.nil _ _) hy (by first | omega | (dsimp only; omega) | decide) (fun dp3 => ?_) (fun dp4 dv5 dΓ6 _ dg8 df9 h => ?_)
    refine ⟨_, rfl, ?_⟩
    refine ld _ h .n0 ?_
    refine rAppend_ok (h.pick .n2) (.nil _ _) (by first | omega | (dsimp only; omega) | decide) (fun dΓ12 _ dg14 h => ?_)
    have hy := hy.mono dg14
    refine joinI ?_
    refine brE (fun db16 => by exfalso; omega) (fun db16 => ?_)
    refine ⟨_, rfl, ?_⟩
    (exfalso; omega)
    have hy := hy.mono dg8
    obtain ⟨ldf9, mdf9, cdf9⟩ := df9.lens
    refine ⟨_, rfl, ?_⟩
    refine ld _ h .n0 ?_
    refine rAppend_ok (h.pick .n2) df9 (by first | omega | (dsimp only; omega) | decide) (fun dΓ18 _ dg20 h => ?_)
    have df9 := df9.mono dg20
    have hy := hy.mono dg20
    refine joinI ?_
    refine brE (fun db22 => by exfalso; omega) (fun db22 => ?_)
    refine ⟨_, rfl, ?_⟩
    refine k _ _ (dg8.trans dg20) ((h.pick .n2).pick .n2)

theorem rwAddMore_ok {x a : Nat} {m : DiskM} {s t : Sl} {l : List Str} {y z : Str} {K : Int → World → Prop}
    (h : Sat Γ (blk x (.cells #[.pointer (some ⟨a, 0, none⟩), .slice s.p s.len s.cap] 122 (0, 0)) :: OL eBytes 32 s l :: RDisk a m :: L) w) (hy : Bytes Γ t y) (hl : y.length ≤ 64) (hne : 0 < l.length ∧ l.length < 1000000000) (hz : l[l.length - 1]? = some z) (hr : cmpB z y < 0) (hg : m.g < 10000000000)
    (k0 : (m.append tmpS (frameB y)).2 ≠ 0 → ∀ Γ' w', Γ.le Γ' → Sat Γ' (blk x (.cells #[.pointer (some ⟨a, 0, none⟩), .slice s.p s.len s.cap] 122 (0, 0)) :: OL eBytes 32 s l :: RDisk a (m.append tmpS (frameB y)).1 :: L) w' → K (m.append tmpS (frameB y)).2 w')
    (k1 : (m.append tmpS (frameB y)).2 = 0 → ∀ s' Γ' w', Γ.le Γ' → Sat Γ' (blk x (.cells #[.pointer (some ⟨a, 0, none⟩), .slice s'.p s'.len s'.cap] 122 (0, 0)) :: OL eBytes 32 s' (l ++ [y]) :: RDisk a (m.append tmpS (frameB y)).1 :: L) w' → K 0 w') :
    CallP Try.prog 90 [.pointer (some ⟨x, 0, none⟩), .slice t.p t.len t.cap] (.one (.s (.int .i64))) K w := by
  have hol := h.olLen .n1
  have hz2 : l[s.len - 1]? = some z := by rw [hol]; exact hz
  have e : frameB y = [] ++ frameB y := rfl
  rw [e] at k0 k1
  have hfl : ([] ++ frameB y : Str).length = y.length + 8 := frameB_len y
  refine callP (fn := Try.f90) [.s (.ptr (some ⟨x, 0, none⟩)), .s (.sl t)] (.p .n (.p .n (.j [1, 0] [] (.p .s .n) (.p .n (.p .n (.j [7] [] (.p .n (.p (.h [0, 1, 2, 3, 4, 6, 5, 7, 8, 9, 10, 11, 12] [12]) .n)) .n)))))) nong mixed (by kernel_rfl) (by kernel_rfl) rfl rfl ?_
  by_cases h0 : (m.append tmpS ([] ++ frameB y)).2 = 0
  · have k : ∀ s' Γ' w', Γ.le Γ' → Sat Γ' (blk x (.cells #[.pointer (some ⟨a, 0, none⟩), .slice s'.p s'.len s'.cap] 122 (0, 0)) :: OL eBytes 32 s' (l ++ [y]) :: RDisk a (m.append tmpS ([] ++ frameB y)).1 :: L) w' → K (m.append tmpS ([] ++ frameB y)).2 w' := fun s' Γ' w' g h => by rw [h0]; exact k1 h0 s' Γ' w' g h
    clear k0 k1
    unfold tmpS at *
    obtain ⟨lhy, mhy, chy⟩ := hy.lens
    refine brD (fun heb0 => by exfalso; omega) (fun heb0 => ?_)
    refine joinI ?_
    refine dr h fun _ h => ?_
    refine ⟨_, rfl, ?_⟩
    refine ld _ h .n0 ?_
    refine brD (fun heb1 => ?_) (fun heb1 => by exfalso; omega)
    refine ⟨_, rfl, ?_⟩
    refine ld _ h .n0 ?_
    refine ⟨_, rfl, ?_⟩
    refine ld _ h .n0 ?_
    refine wrN (s.len - 1) ?_
    refine ⟨by omega, ?_⟩
    refine nnO h .n1 (fun hea2 heha2 => ?_)
    refine ldO h .n1 heha2 hz2 (fun hey3 hehy3 => ?_)
    have hehy3 : Bytes _ hey3 z := hehy3
    obtain ⟨lhehy3, mhehy3, chehy3⟩ := hehy3.lens
    refine btoS h hehy3 ?_
    refine btoS h hy ?_
    refine brSge (fun heb4 => by exfalso; omega) (fun heb4 => ?_)
    refine rput_ok h (.nil _ _) hy (by first | omega | (dsimp only; omega) | decide) (fun hep6 => ?_) (fun hep7 hev8 heΓ9 _ heg11 hef12 h => ?_)
    refine ⟨_, rfl, ?_⟩
    refine ld _ h .n0 ?_
    refine rAppend_ok (h.pick .n2) (.nil _ _) (by first | omega | (dsimp only; omega) | decide) (fun heΓ15 _ heg17 h => ?_)
    have hy := hy.mono heg17
    have hehy3 := hehy3.mono heg17
    refine joinI ?_
    refine brE (fun heb19 => by exfalso; omega) (fun heb19 => ?_)
    refine ⟨_, rfl, ?_⟩
    (exfalso; omega)
    have hy := hy.mono heg11
    have hehy3 := hehy3.mono heg11
    obtain ⟨lhef12, mhef12, chef12⟩ := hef12.lens
    refine ⟨_, rfl, ?_⟩
    refine ld _ h .n0 ?_
    refine rAppend_ok (h.pick .n2) hef12 (by first | omega | (dsimp only; omega) | decide) (fun heΓ21 _ heg23 h => ?_)
    have hef12 := hef12.mono heg23
    have hy := hy.mono heg23
    have hehy3 := hehy3.mono heg23
    refine joinI ?_
    refine brE (fun heb25 => ?_) (fun heb25 => by exfalso; omega)
    rotate_left
    refine heldS h (.cons .n1 .nil) ?_
    refine dr h fun _ h => ?_
    refine ⟨h.sxs (.cons .n1 .nil) (.refl _), ?_⟩
    refine ⟨_, rfl, ?_⟩
    refine ldH _ .n0 ?_
    refine new h fun er0 _ h => ?_
    have h := h.asA (B := blk er0 (.cells #[] 5 (0, 0))) (by kernel_rfl)
    refine ⟨h.sxs (.cons .n2 .nil) (.refl _), ?_⟩
    have h := (h.pick .n0).olEmpty (E := eByte)
    refine appL slBytes h .n0 hy.lst (fun es1 _ el1 h => ?_)
    dsimp only at el1
    refine ⟨h.sxs (.cons .n2 .nil) (.refl _), ?_⟩
    refine new h fun er2 _ h => ?_
    have h := h.asA (B := blk er2 (.cells #[Value.slice es1.p es1.len es1.cap] 32 (0, 0))) (by kernel_rfl)
    refine ⟨h.sxs (.cons .n3 .nil) (.refl _), ?_⟩
    rotate_left
    have hol2 := h.olLen .n1
    obtain ⟨Γ2, g2, f2, h⟩ := h.olFreeze .n1 (by rw [hol2, List.nil_append]; omega)
    have f2 := f2.bytes
    rw [List.nil_append] at f2
    have hef12 := hef12.mono g2
    have hy := hy.mono g2
    have hehy3 := hehy3.mono g2
    refine app1 _ _ slSlice h .n2 f2 (fun es0 _ el0 h => ?_)
    refine ⟨h.sxs (.cons .n2 .nil) g2, ?_⟩
    refine ⟨_, rfl, ?_⟩
    refine st h .n2 fun _ h => ?_
    have h := h.asA (B := blk x (.cells #[Value.pointer (some (Addr.mk a 0 none)), Value.slice es0.p es0.len es0.cap] 122 (0, 0))) (by kernel_rfl)
    refine heldS h (.cons .n0 (.cons .n0 (.cons .n0 .nil))) ?_
    refine ⟨h.sxs (.cons .n0 (.cons .n0 (.cons .n0 .nil))) (.refl _), ?_⟩
    refine ⟨_, rfl, ?_⟩
    refine k _ _ _ (heg11.trans (heg23.trans g2)) (((h.pick .n2).pick .n2).pick .n2)
  · have k := k0 h0
    clear k0 k1
    unfold tmpS at *
    obtain ⟨lhy, mhy, chy⟩ := hy.lens
    refine brD (fun fb0 => by exfalso; omega) (fun fb0 => ?_)
    refine joinI ?_
    refine dr h fun _ h => ?_
    refine ⟨_, rfl, ?_⟩
    refine ld _ h .n0 ?_
    refine brD (fun fb1 => ?_) (fun fb1 => by exfalso; omega)
    refine ⟨_, rfl, ?_⟩
    refine ld _ h .n0 ?_
    refine ⟨_, rfl, ?_⟩
    refine ld _ h .n0 ?_
    refine wrN (s.len - 1) ?_
    refine ⟨by omega, ?_⟩
    refine nnO h .n1 (fun fa2 fha2 => ?_)
    refine ldO h .n1 fha2 hz2 (fun fy3 fhy3 => ?_)
    have fhy3 : Bytes _ fy3 z := fhy3
    obtain ⟨lfhy3, mfhy3, cfhy3⟩ := fhy3.lens
    refine btoS h fhy3 ?_
    refine btoS h hy ?_
    refine brSge (fun fb4 => by exfalso; omega) (fun fb4 => ?_)
    refine rput_ok h (.nil _ _) hy (by first | omega | (dsimp only; omega) | decide) (fun fp6 => ?_) (fun fp7 fv8 fΓ9 _ fg11 ff12 h => ?_)
    refine ⟨_, rfl, ?_⟩
    refine ld _ h .n0 ?_
    refine rAppend_ok (h.pick .n2) (.nil _ _) (by first | omega | (dsimp only; omega) | decide) (fun fΓ15 _ fg17 h => ?_)
    have hy := hy.mono fg17
    have fhy3 := fhy3.mono fg17
    refine joinI ?_
    refine brE (fun fb19 => by exfalso; omega) (fun fb19 => ?_)
    refine ⟨_, rfl, ?_⟩
    (exfalso; omega)
    have hy := hy.mono fg11
    have fhy3 := fhy3.mono fg11
    obtain ⟨lff12, mff12, cff12⟩ := ff12.lens
    refine ⟨_, rfl, ?_⟩
    refine ld _ h .n0 ?_
    refine rAppend_ok (h.pick .n2) ff12 (by first | omega | (dsimp only; omega) | decide) (fun fΓ21 _ fg23 h => ?_)
    have ff12 := ff12.mono fg23
    have hy := hy.mono fg23
    have fhy3 := fhy3.mono fg23
    refine joinI ?_
    refine brE (fun fb25 => by exfalso; omega) (fun fb25 => ?_)
    refine ⟨_, rfl, ?_⟩
    refine k _ _ (fg11.trans fg23) ((h.pick .n2).pick .n2)

theorem rwAdd_cases {l : List Str} : (l.getLast? = none ∧ l.length = 0) ∨ ∃ z, l.getLast? = some z ∧ 0 < l.length ∧ l[l.length - 1]? = some z := by
  cases l with
  | nil => exact .inl ⟨rfl, rfl⟩
  | cons a r =>
    right
    have : (a :: r).getLast? = (a :: r)[(a :: r).length - 1]? := List.getLast?_eq_getElem?
    rw [this]
    have hlt : (a :: r).length - 1 < (a :: r).length := by simp
    exact ⟨(a :: r)[(a :: r).length - 1], List.getElem?_eq_getElem hlt, by simp, List.getElem?_eq_getElem hlt⟩

theorem rwAddFail_ok {x a : Nat} {m : DiskM} {s t : Sl} {l : List Str} {y : Str} {K : Int → World → Prop}
    (h : Sat Γ (blk x (.cells #[.pointer (some ⟨a, 0, none⟩), .slice s.p s.len s.cap] 122 (0, 0)) :: OL eBytes 32 s l :: RDisk a m :: L) w) (hy : Bytes Γ t y) (he : (addM m l.getLast? y).2 ≠ 0) (hn : l.length < 1000000000) (hg : m.g < 10000000000)
    (k : ∀ Γ' w', Γ.le Γ' → Sat Γ' (blk x (.cells #[.pointer (some ⟨a, 0, none⟩), .slice s.p s.len s.cap] 122 (0, 0)) :: OL eBytes 32 s l :: RDisk a (addM m l.getLast? y).1 :: L) w' → K (addM m l.getLast? y).2 w') :
    CallP Try.prog 90 [.pointer (some ⟨x, 0, none⟩), .slice t.p t.len t.cap] (.one (.s (.int .i64))) K w := by
  by_cases hl : y.length ≤ 64
  · rcases rwAdd_cases (l := l) with ⟨e1, e2⟩ | ⟨z, e1, e2, e3⟩
    · rw [e1] at he k
      have e : addM m none y = m.append tmpS (frameB y) := by unfold addM; rw [if_neg (by omega), if_neg (by simp [risesB])]
      rw [e] at he k
      exact rwAddFirst_ok h hy hl e2 hg (fun _ => k) fun e => absurd e he
    · rw [e1] at he k
      by_cases hr : cmpB z y < 0
      · have e : addM m (some z) y = m.append tmpS (frameB y) := by unfold addM; rw [if_neg (by omega), if_neg (by intro h; exact h hr)]
        rw [e] at he k
        exact rwAddMore_ok h hy hl ⟨e2, hn⟩ e3 hr hg (fun _ => k) fun e => absurd e he
      · have e : addM m (some z) y = (m, 130) := by unfold addM; rw [if_neg (by omega), if_pos (by exact hr)]
        rw [e] at k
        exact rwAddNever_ok h hy hl ⟨e2, hn⟩ e3 hr fun w' h => k Γ w' (.refl _) h
  · have e : addM m l.getLast? y = (m, 3) := by unfold addM; rw [if_pos (by omega)]
    rw [e] at k
    exact rwAddLong_ok h hy (by omega) fun w' h => k Γ w' (.refl _) h

theorem rwAddDone_ok {x a : Nat} {m : DiskM} {s t : Sl} {l : List Str} {y : Str} {K : Int → World → Prop}
    (h : Sat Γ (blk x (.cells #[.pointer (some ⟨a, 0, none⟩), .slice s.p s.len s.cap] 122 (0, 0)) :: OL eBytes 32 s l :: RDisk a m :: L) w) (hy : Bytes Γ t y) (he : (addM m l.getLast? y).2 = 0) (hn : l.length < 1000000000) (hg : m.g < 10000000000)
    (k0 : ∀ s' Γ' w', Γ.le Γ' → s'.len = l.length + 1 → Sat Γ' (blk x (.cells #[.pointer (some ⟨a, 0, none⟩), .slice s'.p s'.len s'.cap] 122 (0, 0)) :: OL eBytes 32 s' (l ++ [y]) :: RDisk a (addM m l.getLast? y).1 :: L) w' → K 0 w') :
    CallP Try.prog 90 [.pointer (some ⟨x, 0, none⟩), .slice t.p t.len t.cap] (.one (.s (.int .i64))) K w := by
  have k : ∀ s' Γ' w', Γ.le Γ' → Sat Γ' (blk x (.cells #[.pointer (some ⟨a, 0, none⟩), .slice s'.p s'.len s'.cap] 122 (0, 0)) :: OL eBytes 32 s' (l ++ [y]) :: RDisk a (addM m l.getLast? y).1 :: L) w' → K 0 w' := fun s' Γ' w' g h => k0 s' Γ' w' g (by have := h.olLen .n1; rw [List.length_append, List.length_singleton] at this; exact this) h
  clear k0
  by_cases hl : y.length ≤ 64
  · rcases rwAdd_cases (l := l) with ⟨e1, e2⟩ | ⟨z, e1, e2, e3⟩
    · rw [e1] at he k
      have e : addM m none y = m.append tmpS (frameB y) := by unfold addM; rw [if_neg (by omega), if_neg (by simp [risesB])]
      rw [e] at he k
      exact rwAddFirst_ok h hy hl e2 hg (fun e => absurd he e) fun _ => k
    · rw [e1] at he k
      by_cases hr : cmpB z y < 0
      · have e : addM m (some z) y = m.append tmpS (frameB y) := by unfold addM; rw [if_neg (by omega), if_neg (by intro h; exact h hr)]
        rw [e] at he k
        exact rwAddMore_ok h hy hl ⟨e2, hn⟩ e3 hr hg (fun e => absurd he e) fun _ => k
      · have e : addM m (some z) y = (m, 130) := by unfold addM; rw [if_neg (by omega), if_pos (by exact hr)]
        rw [e] at he
        exact absurd he (by simp)
  · have e : addM m l.getLast? y = (m, 3) := by unfold addM; rw [if_pos (by omega)]
    rw [e] at he
    exact absurd he (by simp)

theorem rwEnd_ok {x a : Nat} {m : DiskM} {s : Sl} {name : Str} {K : Int → World → Prop}
    (h : Sat Γ (blk x (.cells #[.pointer (some ⟨a, 0, none⟩), .slice s.p s.len s.cap] 122 (0, 0)) :: RDisk a m :: L) w) (hg : m.g < 10000000000)
    (k : ∀ Γ' w', Γ.le Γ' → Sat Γ' (blk x (.cells #[.pointer (some ⟨a, 0, none⟩), .slice s.p s.len s.cap] 122 (0, 0)) :: RDisk a (endM m name).1 :: L) w' → K (endM m name).2 w') :
    CallP Try.prog 91 [.pointer (some ⟨x, 0, none⟩), .string (str name)] (.one (.s (.int .i64))) K w := by
  have hz := str_size name
  have hsg := sync_g m tmpS
  have hrg := rename_g (m.sync tmpS).1 tmpS name
  refine callP (fn := Try.f91) [.s (.ptr (some ⟨x, 0, none⟩)), .s (.str (str name))] (.p .n (.j [1, 0] [] .n (.p .n (.j [0] [(5, .s (.int .i64))] .n (.j [] [(5, .s (.int .i64))] .n .n))))) nong mixed (by kernel_rfl) (by kernel_rfl) rfl rfl ?_
  unfold endM at k
  by_cases hr : rightP name
  · rw [if_neg (by intro h; exact h hr)] at k
    obtain ⟨hr1, hr2⟩ := hr
    unfold rightN at hr2
    by_cases h1 : (m.sync tmpS).2 = 0
    · rw [runAll_ok h1] at k
      by_cases h2 : ((m.sync tmpS).1.rename tmpS name).2 = 0
      · rw [runAll_ok h2, runAll_one] at k
        unfold tmpS at *
        refine joinI ?_
        refine brS (fun ab0 => ?_) (fun ab0 => ?_)
        refine ⟨_, rfl, ?_⟩
        contradiction
        refine brD (fun ab1 => by exfalso; omega) (fun ab1 => ?_)
        refine brD (fun ab2 => by exfalso; omega) (fun ab2 => ?_)
        refine ⟨_, rfl, ?_⟩
        refine ld _ h .n0 ?_
        refine rSync_ok (h.pick .n1) (by first | omega | (dsimp only; omega) | decide) (fun _ h => ?_)
        refine joinI ?_
        refine brE (fun ab6 => ?_) (fun ab6 => by exfalso; omega)
        refine ⟨_, rfl, ?_⟩
        refine ld _ h .n1 ?_
        refine rRename_ok h (by first | omega | (dsimp only; omega) | decide) (fun aΓ8 _ ag10 h => ?_)
        refine joinI ?_
        refine brE (fun ab12 => ?_) (fun ab12 => by exfalso; omega)
        refine ⟨_, rfl, ?_⟩
        refine ld _ h .n1 ?_
        refine rSyncNames_ok h (by first | omega | (dsimp only; omega) | decide) (fun aΓ14 _ ag16 h => ?_)
        refine ⟨_, rfl, ?_⟩
        refine k _ _ (ag10.trans ag16) (h.pick .n1)
      · rw [runAll_no h2] at k
        unfold tmpS at *
        refine joinI ?_
        refine brS (fun bb0 => ?_) (fun bb0 => ?_)
        refine ⟨_, rfl, ?_⟩
        contradiction
        refine brD (fun bb1 => by exfalso; omega) (fun bb1 => ?_)
        refine brD (fun bb2 => by exfalso; omega) (fun bb2 => ?_)
        refine ⟨_, rfl, ?_⟩
        refine ld _ h .n0 ?_
        refine rSync_ok (h.pick .n1) (by first | omega | (dsimp only; omega) | decide) (fun _ h => ?_)
        refine joinI ?_
        refine brE (fun bb6 => ?_) (fun bb6 => by exfalso; omega)
        refine ⟨_, rfl, ?_⟩
        refine ld _ h .n1 ?_
        refine rRename_ok h (by first | omega | (dsimp only; omega) | decide) (fun bΓ8 _ bg10 h => ?_)
        refine joinI ?_
        refine brE (fun bb12 => by exfalso; omega) (fun bb12 => ?_)
        refine ⟨_, rfl, ?_⟩
        refine k _ _ bg10 (h.pick .n1)
    · rw [runAll_no h1] at k
      unfold tmpS at *
      refine joinI ?_
      refine brS (fun cb0 => ?_) (fun cb0 => ?_)
      refine ⟨_, rfl, ?_⟩
      contradiction
      refine brD (fun cb1 => by exfalso; omega) (fun cb1 => ?_)
      refine brD (fun cb2 => by exfalso; omega) (fun cb2 => ?_)
      refine ⟨_, rfl, ?_⟩
      refine ld _ h .n0 ?_
      refine rSync_ok (h.pick .n1) (by first | omega | (dsimp only; omega) | decide) (fun _ h => ?_)
      refine joinI ?_
      refine brE (fun cb6 => by exfalso; omega) (fun cb6 => ?_)
      refine joinI ?_
      refine brE (fun cb7 => by exfalso; omega) (fun cb7 => ?_)
      refine ⟨_, rfl, ?_⟩
      refine k _ _ (.refl _) (h.pick .n1)
  · rw [if_pos hr] at k
    unfold rightP rightN tmpS at hr
    by_cases e1 : name = [116, 109, 112]
    · refine joinI ?_
      refine brS (fun db0 => ?_) (fun db0 => ?_)
      refine ⟨_, rfl, ?_⟩
      refine k _ _ (.refl _) ((h.pick .n1).pick .n1)
      refine brD (fun db2 => ?_) (fun db2 => ?_)
      refine ⟨_, rfl, ?_⟩
      refine k _ _ (.refl _) ((h.pick .n1).pick .n1)
      refine brD (fun db4 => ?_) (fun db4 => ?_)
      refine ⟨_, rfl, ?_⟩
      refine k _ _ (.refl _) ((h.pick .n1).pick .n1)
      refine ⟨_, rfl, ?_⟩
      refine ld _ h .n0 ?_
      refine rSync_ok (h.pick .n1) (by first | omega | (dsimp only; omega) | decide) (fun _ h => ?_)
      refine joinI ?_
      refine brE (fun db9 => ?_) (fun db9 => ?_)
      refine ⟨_, rfl, ?_⟩
      refine ld _ h .n1 ?_
      refine rRename_ok h ?_ (fun dΓ11 _ dg13 h => ?_)
      contradiction
      refine joinI ?_
      refine brE (fun db15 => ?_) (fun db15 => ?_)
      refine ⟨_, rfl, ?_⟩
      refine ld _ h .n1 ?_
      refine rSyncNames_ok h ?_ (fun dΓ17 _ dg19 h => ?_)
      contradiction
      refine ⟨_, rfl, ?_⟩
      contradiction
      refine ⟨_, rfl, ?_⟩
      contradiction
      refine joinI ?_
      refine brE (fun db21 => by exfalso; omega) (fun db21 => ?_)
      refine ⟨_, rfl, ?_⟩
      contradiction
    · have e3 : name.length < 1 ∨ 32 < name.length := by
        apply Classical.byContradiction
        intro hc
        exact hr ⟨e1, by omega, by omega⟩
      refine joinI ?_
      refine brS (fun eb0 => ?_) (fun eb0 => ?_)
      refine ⟨_, rfl, ?_⟩
      refine k _ _ (.refl _) ((h.pick .n1).pick .n1)
      refine brD (fun eb2 => ?_) (fun eb2 => ?_)
      refine ⟨_, rfl, ?_⟩
      refine k _ _ (.refl _) ((h.pick .n1).pick .n1)
      refine brD (fun eb4 => ?_) (fun eb4 => by exfalso; omega)
      refine ⟨_, rfl, ?_⟩
      refine k _ _ (.refl _) ((h.pick .n1).pick .n1)

end Go.Proofs.Ytohoimokfgfceaa.K
