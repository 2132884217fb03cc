/-
  run: the program's reader.
-/
import Derived.Test.YtohoimokfgfceaaRnA
namespace Go.Proofs.Ytohoimokfgfceaa.K
open Go Go.Proofs
variable {Γ Γ' : Mem} {L L' L'' : List HP} {w w' : World} {A B : HP}
set_option maxRecDepth 100000
set_option maxHeartbeats 1000000

theorem takeTErr_ok {s : Sl} {b : Str} {e : Int} {K : (Sl × Sl × Int) → World → Prop} (h : Sat Γ L w) (hb : Bytes Γ s b) (hl : b.length < 1000000000000) (ht : takeF b = .error e)
    (k : ∀ Γ' w', Γ.le Γ' → Sat Γ' L w' → K (⟨none, 0, 0⟩, ⟨none, 0, 0⟩, e) w') :
    CallP Try.prog 112 [.slice s.p s.len s.cap] (.tup [.s .sl, .s .sl, .s (.int .i64)]) K w :=
  takeT_ok h hb hl (fun e' h' Γ' w' g h => by rw [ht] at h'; cases h'; exact k Γ' w' g h) fun x n h' => by rw [ht] at h'; cases h'

theorem takeTFirst_ok {s : Sl} {b x : Str} {n : Nat} {K : (Sl × Sl × Int) → World → Prop} (h : Sat Γ L w) (hb : Bytes Γ s b) (hl : b.length < 1000000000000) (ht : takeF b = .ok (x, n))
    (k : ∀ t r Γ' w', Γ.le Γ' → Bytes Γ' t x → Bytes Γ' r (b.drop n) → Sat Γ' L w' → K (t, r, 0) w') :
    CallP Try.prog 112 [.slice s.p s.len s.cap] (.tup [.s .sl, .s .sl, .s (.int .i64)]) K w :=
  takeT_ok h hb hl (fun e' h' => by rw [ht] at h'; cases h') fun x' n' h' t r Γ' w' g f f2 h => by rw [ht] at h'; cases h'; exact k t r Γ' w' g f f2 h

theorem rnOpenNo_ok {a : Nat} {m : DiskM} {name : Str} {K : (Option Addr × Int) → World → Prop} (h : Sat Γ (PDisk a m :: L) w) (hg : m.g < 10000000000) (h0 : (m.read name).2.2 ≠ 0)
    (k : ∀ Γ' w', Γ.le Γ' → Sat Γ' (PDisk a (m.read name).1 :: L) w' → K (none, (m.read name).2.2) w') :
    CallP Try.prog 59 [.pointer (some ⟨a, 0, none⟩), .string (str name)] (.tup [.s .ptr, .s (.int .i64)]) K w := by
  refine callP (fn := Try.f59) [.s (.ptr (some ⟨a, 0, none⟩)), .s (.str (str name))] .n nong mixed (by kernel_rfl) (by kernel_rfl) rfl rfl ?_
  refine dRead_ok h (by first | omega | (dsimp only; omega) | decide) (fun av1 aΓ2 _ ag4 af5 h => ?_)
  obtain ⟨laf5, maf5, caf5⟩ := af5.lens
  refine brN (fun ab7 => ?_) (fun ab7 => by exfalso; omega)
  dsimp only at ab7
  refine ret2 _ _ ?_
  refine k _ _ ag4 h

theorem rnOpenYes_ok {a : Nat} {m : DiskM} {name : Str} {K : (Option Addr × Int) → World → Prop} (h : Sat Γ (PDisk a m :: L) w) (hg : m.g < 10000000000) (h0 : (m.read name).2.2 = 0)
    (k : ∀ x r Γ' w', Γ.le Γ' → Bytes Γ' r (m.read name).2.1 → Sat Γ' (blk x (.cells #[.slice r.p r.len r.cap, .slice none 0 0, .bool false, .bool false] 157 (0, 0)) :: PDisk a (m.read name).1 :: L) w' → K (some ⟨x, 0, none⟩, 0) w') :
    CallP Try.prog 59 [.pointer (some ⟨a, 0, none⟩), .string (str name)] (.tup [.s .ptr, .s (.int .i64)]) K w := by
  refine callP (fn := Try.f59) [.s (.ptr (some ⟨a, 0, none⟩)), .s (.str (str name))] .n nong mixed (by kernel_rfl) (by kernel_rfl) rfl rfl ?_
  refine dRead_ok h (by first | omega | (dsimp only; omega) | decide) (fun bv1 bΓ2 _ bg4 bf5 h => ?_)
  obtain ⟨lbf5, mbf5, cbf5⟩ := bf5.lens
  refine brN (fun bb7 => by exfalso; omega) (fun bb7 => ?_)
  dsimp only at bb7
  refine new h fun br8 _ h => ?_
  have h := h.asA (B := blk br8 (.cells #[Value.slice (bv1, (m.read name).snd.snd).fst.p (bv1, (m.read name).snd.snd).fst.len (bv1, (m.read name).snd.snd).fst.cap, Value.slice (Sl.mk none 0 0).p (Sl.mk none 0 0).len (Sl.mk none 0 0).cap, Value.bool false, Value.bool false] 157 (0, 0))) (by kernel_rfl)
  refine ret2 _ _ ?_
  refine k _ _ _ _ bg4 bf5 ((h.pick .n1).pick .n1)

theorem rnNextBad_ok {x : Nat} {r s : Sl} {b : Bool} {rest y z : Str} {n : Nat} {e : Int} {K : (ScsT [.sl, .bool] × Int) → World → Prop} (h : Sat Γ (blk x (.cells #[.slice r.p r.len r.cap, .slice s.p s.len s.cap, .bool b, .bool true] 157 (0, 0)) :: L) w) (k : ∀ w', Sat Γ (blk x (.cells #[.slice r.p r.len r.cap, .slice s.p s.len s.cap, .bool b, .bool true] 157 (0, 0)) :: L) w' → K ((⟨none, 0, 0⟩, false), 6) w') :
    CallP Try.prog 46 [.pointer (some ⟨x, 0, none⟩)] (.tup [.agg [.sl, .bool], .s (.int .i64)]) K w := by
  refine callP (fn := Try.f46) [.s (.ptr (some ⟨x, 0, none⟩))] (.p .n (.p .n (.p .n (.j [0, 5, 4, 2] [] .n .n)))) nong mixed (by kernel_rfl) (by kernel_rfl) rfl rfl ?_
  refine new h fun ar0 _ h => ?_
  have h := h.asA (B := blk ar0 (.cells #[Value.slice none 0 0, Value.bool false] 34 (0, 0))) (by kernel_rfl)
  refine brF ?_
  refine ⟨_, rfl, ?_⟩
  refine ld _ h .n1 ?_
  refine brT ?_
  refine stNs h .n0 fun _ h => ?_
  have h := h.asA (B := blk ar0 (.cells #[Value.slice (Sl.mk none 0 0).p (Sl.mk none 0 0).len (Sl.mk none 0 0).cap, Value.bool false] 34 (0, 0))) (by kernel_rfl)
  refine ldA2 _ _ h .n0 ?_
  refine ret2 _ _ ?_
  refine k _ h.drop

theorem rnNextEnd_ok {x : Nat} {r s : Sl} {b : Bool} {rest y z : Str} {n : Nat} {e : Int} {K : (ScsT [.sl, .bool] × Int) → World → Prop} (h : Sat Γ (blk x (.cells #[.slice r.p r.len r.cap, .slice s.p s.len s.cap, .bool b, .bool false] 157 (0, 0)) :: L) w) (hr : Bytes Γ r []) (k : ∀ w', Sat Γ (blk x (.cells #[.slice r.p r.len r.cap, .slice s.p s.len s.cap, .bool b, .bool false] 157 (0, 0)) :: L) w' → K ((⟨none, 0, 0⟩, false), 0) w') :
    CallP Try.prog 46 [.pointer (some ⟨x, 0, none⟩)] (.tup [.agg [.sl, .bool], .s (.int .i64)]) K w := by
  refine callP (fn := Try.f46) [.s (.ptr (some ⟨x, 0, none⟩))] (.p .n (.p .n (.p .n (.j [0, 5, 4, 2] [] .n .n)))) nong mixed (by kernel_rfl) (by kernel_rfl) rfl rfl ?_
  have hrl : r.len = 0 := hr.len
  refine new h fun br0 _ h => ?_
  have h := h.asA (B := blk br0 (.cells #[Value.slice none 0 0, Value.bool false] 34 (0, 0))) (by kernel_rfl)
  refine brF ?_
  refine ⟨_, rfl, ?_⟩
  refine ld _ h .n1 ?_
  refine brF ?_
  refine ⟨_, rfl, ?_⟩
  refine ld _ h .n1 ?_
  refine brE (fun bb1 => ?_) (fun bb1 => by exfalso; omega)
  refine stNs h .n0 fun _ h => ?_
  have h := h.asA (B := blk br0 (.cells #[Value.slice (Sl.mk none 0 0).p (Sl.mk none 0 0).len (Sl.mk none 0 0).cap, Value.bool false] 34 (0, 0))) (by kernel_rfl)
  refine ldA2 _ _ h .n0 ?_
  refine ret2 _ _ ?_
  refine k _ h.drop

theorem rnNextErr_ok {x : Nat} {r s : Sl} {b : Bool} {rest y z : Str} {n : Nat} {e : Int} {K : (ScsT [.sl, .bool] × Int) → World → Prop} (h : Sat Γ (blk x (.cells #[.slice r.p r.len r.cap, .slice s.p s.len s.cap, .bool b, .bool false] 157 (0, 0)) :: L) w) (hr : Bytes Γ r rest) (h0 : rest ≠ []) (hl : rest.length < 1000000000) (ht : takeF rest = .error e) (k : ∀ Γ' w', Γ.le Γ' → Sat Γ' (blk x (.cells #[.slice r.p r.len r.cap, .slice s.p s.len s.cap, .bool b, .bool true] 157 (0, 0)) :: L) w' → K ((⟨none, 0, 0⟩, false), 6) w') :
    CallP Try.prog 46 [.pointer (some ⟨x, 0, none⟩)] (.tup [.agg [.sl, .bool], .s (.int .i64)]) K w := by
  have he := takeF_ne ht
  refine callP (fn := Try.f46) [.s (.ptr (some ⟨x, 0, none⟩))] (.p .n (.p .n (.p .n (.j [0, 5, 4, 2] [] .n .n)))) nong mixed (by kernel_rfl) (by kernel_rfl) rfl rfl ?_
  have hrl : rest.length ≠ 0 := fun e => h0 (List.eq_nil_of_length_eq_zero e)
  obtain ⟨lhr, mhr, chr⟩ := hr.lens
  refine new h fun cr0 _ h => ?_
  have h := h.asA (B := blk cr0 (.cells #[Value.slice none 0 0, Value.bool false] 34 (0, 0))) (by kernel_rfl)
  refine brF ?_
  refine ⟨_, rfl, ?_⟩
  refine ld _ h .n1 ?_
  refine brF ?_
  refine ⟨_, rfl, ?_⟩
  refine ld _ h .n1 ?_
  refine brE (fun cb1 => by exfalso; omega) (fun cb1 => ?_)
  refine ⟨_, rfl, ?_⟩
  refine ld _ h .n1 ?_
  refine takeTErr_ok h hr (by first | omega | (dsimp only; omega) | decide) ht (fun cΓ3 _ cg5 h => ?_)
  have hr := hr.mono cg5
  refine joinI ?_
  refine brN (fun cb7 => ?_) (fun cb7 => ?_)
  dsimp only at cb7
  refine ⟨_, rfl, ?_⟩
  refine st h .n1 fun _ h => ?_
  have h := h.asA (B := blk x (.cells #[Value.slice r.p r.len r.cap, Value.slice s.p s.len s.cap, Value.bool b, Value.bool true] 157 (0, 0))) (by kernel_rfl)
  refine stNs h .n1 fun _ h => ?_
  have h := h.asA (B := blk cr0 (.cells #[Value.slice (Sl.mk none 0 0).p (Sl.mk none 0 0).len (Sl.mk none 0 0).cap, Value.bool false] 34 (0, 0))) (by kernel_rfl)
  refine ldA2 _ _ h .n0 ?_
  refine ret2 _ _ ?_
  refine k _ _ cg5 h.drop
  dsimp only at cb7
  refine brF ?_
  refine ⟨_, rfl, ?_⟩
  (exfalso; omega)

theorem rnNextLong_ok {x : Nat} {r s : Sl} {b : Bool} {rest y z : Str} {n : Nat} {e : Int} {K : (ScsT [.sl, .bool] × Int) → World → Prop} (h : Sat Γ (blk x (.cells #[.slice r.p r.len r.cap, .slice s.p s.len s.cap, .bool b, .bool false] 157 (0, 0)) :: L) w) (hr : Bytes Γ r rest) (h0 : rest ≠ []) (hl : rest.length < 1000000000) (ht : takeF rest = .ok (y, n)) (hy : 64 < y.length) (k : ∀ Γ' w', Γ.le Γ' → Sat Γ' (blk x (.cells #[.slice r.p r.len r.cap, .slice s.p s.len s.cap, .bool b, .bool true] 157 (0, 0)) :: L) w' → K ((⟨none, 0, 0⟩, false), 6) w') :
    CallP Try.prog 46 [.pointer (some ⟨x, 0, none⟩)] (.tup [.agg [.sl, .bool], .s (.int .i64)]) K w := by
  refine callP (fn := Try.f46) [.s (.ptr (some ⟨x, 0, none⟩))] (.p .n (.p .n (.p .n (.j [0, 5, 4, 2] [] .n .n)))) nong mixed (by kernel_rfl) (by kernel_rfl) rfl rfl ?_
  have hrl : rest.length ≠ 0 := fun e => h0 (List.eq_nil_of_length_eq_zero e)
  obtain ⟨htn, htl, htm, _⟩ := takeF_ok ht
  obtain ⟨lhr, mhr, chr⟩ := hr.lens
  refine new h fun dr0 _ h => ?_
  have h := h.asA (B := blk dr0 (.cells #[Value.slice none 0 0, Value.bool false] 34 (0, 0))) (by kernel_rfl)
  refine brF ?_
  refine ⟨_, rfl, ?_⟩
  refine ld _ h .n1 ?_
  refine brF ?_
  refine ⟨_, rfl, ?_⟩
  refine ld _ h .n1 ?_
  refine brE (fun db1 => by exfalso; omega) (fun db1 => ?_)
  refine ⟨_, rfl, ?_⟩
  refine ld _ h .n1 ?_
  refine takeTFirst_ok h hr (by first | omega | (dsimp only; omega) | decide) ht (fun dv3 dv4 dΓ5 _ dg7 df8 df9 h => ?_)
  have hr := hr.mono dg7
  obtain ⟨ldf8, mdf8, cdf8⟩ := df8.lens
  obtain ⟨ldf9, mdf9, cdf9⟩ := df9.lens
  refine joinI ?_
  refine brF ?_
  refine brD (fun db11 => ?_) (fun db11 => ?_)
  dsimp only at db11
  refine ⟨_, rfl, ?_⟩
  refine st h .n1 fun _ h => ?_
  have h := h.asA (B := blk x (.cells #[Value.slice r.p r.len r.cap, Value.slice s.p s.len s.cap, Value.bool b, Value.bool true] 157 (0, 0))) (by kernel_rfl)
  refine stNs h .n1 fun _ h => ?_
  have h := h.asA (B := blk dr0 (.cells #[Value.slice (Sl.mk none 0 0).p (Sl.mk none 0 0).len (Sl.mk none 0 0).cap, Value.bool false] 34 (0, 0))) (by kernel_rfl)
  refine ldA2 _ _ h .n0 ?_
  refine ret2 _ _ ?_
  refine k _ _ dg7 h.drop
  dsimp only at db11
  refine ⟨_, rfl, ?_⟩
  (exfalso; omega)

theorem rnNextOrder_ok {x : Nat} {r s : Sl} {b : Bool} {rest y z : Str} {n : Nat} {e : Int} {K : (ScsT [.sl, .bool] × Int) → World → Prop} (h : Sat Γ (blk x (.cells #[.slice r.p r.len r.cap, .slice s.p s.len s.cap, .bool true, .bool false] 157 (0, 0)) :: L) w) (hr : Bytes Γ r rest) (hz : Bytes Γ s z) (h0 : rest ≠ []) (hl : rest.length < 1000000000) (ht : takeF rest = .ok (y, n)) (hy : y.length ≤ 64) (hc : ¬ cmpB z y < 0) (k : ∀ Γ' w', Γ.le Γ' → Sat Γ' (blk x (.cells #[.slice r.p r.len r.cap, .slice s.p s.len s.cap, .bool true, .bool true] 157 (0, 0)) :: L) w' → K ((⟨none, 0, 0⟩, false), 6) w') :
    CallP Try.prog 46 [.pointer (some ⟨x, 0, none⟩)] (.tup [.agg [.sl, .bool], .s (.int .i64)]) K w := by
  refine callP (fn := Try.f46) [.s (.ptr (some ⟨x, 0, none⟩))] (.p .n (.p .n (.p .n (.j [0, 5, 4, 2] [] .n .n)))) nong mixed (by kernel_rfl) (by kernel_rfl) rfl rfl ?_
  have hrl : rest.length ≠ 0 := fun e => h0 (List.eq_nil_of_length_eq_zero e)
  obtain ⟨htn, htl, htm, _⟩ := takeF_ok ht
  obtain ⟨lhr, mhr, chr⟩ := hr.lens
  obtain ⟨lhz, mhz, chz⟩ := hz.lens
  refine new h fun er0 _ h => ?_
  have h := h.asA (B := blk er0 (.cells #[Value.slice none 0 0, Value.bool false] 34 (0, 0))) (by kernel_rfl)
  refine brF ?_
  refine ⟨_, rfl, ?_⟩
  refine ld _ h .n1 ?_
  refine brF ?_
  refine ⟨_, rfl, ?_⟩
  refine ld _ h .n1 ?_
  refine brE (fun eb1 => by exfalso; omega) (fun eb1 => ?_)
  refine ⟨_, rfl, ?_⟩
  refine ld _ h .n1 ?_
  refine takeTFirst_ok h hr (by first | omega | (dsimp only; omega) | decide) ht (fun ev3 ev4 eΓ5 _ eg7 ef8 ef9 h => ?_)
  have hr := hr.mono eg7
  have hz := hz.mono eg7
  obtain ⟨lef8, mef8, cef8⟩ := ef8.lens
  obtain ⟨lef9, mef9, cef9⟩ := ef9.lens
  refine joinI ?_
  refine brF ?_
  refine brD (fun eb11 => ?_) (fun eb11 => ?_)
  dsimp only at eb11
  refine ⟨_, rfl, ?_⟩
  refine st h .n1 fun _ h => ?_
  have h := h.asA (B := blk x (.cells #[Value.slice r.p r.len r.cap, Value.slice s.p s.len s.cap, Value.bool true, Value.bool true] 157 (0, 0))) (by kernel_rfl)
  refine stNs h .n1 fun _ h => ?_
  have h := h.asA (B := blk er0 (.cells #[Value.slice (Sl.mk none 0 0).p (Sl.mk none 0 0).len (Sl.mk none 0 0).cap, Value.bool false] 34 (0, 0))) (by kernel_rfl)
  refine ldA2 _ _ h .n0 ?_
  refine ret2 _ _ ?_
  refine k _ _ eg7 h.drop
  dsimp only at eb11
  refine ⟨_, rfl, ?_⟩
  refine risesNever_ok (h.pick .n1) hz ef8 hc (fun _ h => ?_)
  refine brT ?_
  refine ⟨_, rfl, ?_⟩
  refine st h .n0 fun _ h => ?_
  have h := h.asA (B := blk x (.cells #[Value.slice r.p r.len r.cap, Value.slice s.p s.len s.cap, Value.bool true, Value.bool true] 157 (0, 0))) (by kernel_rfl)
  refine stNs h .n1 fun _ h => ?_
  have h := h.asA (B := blk er0 (.cells #[Value.slice (Sl.mk none 0 0).p (Sl.mk none 0 0).len (Sl.mk none 0 0).cap, Value.bool false] 34 (0, 0))) (by kernel_rfl)
  refine ldA2 _ _ h .n0 ?_
  refine ret2 _ _ ?_
  refine k _ _ eg7 h.drop

theorem rnNextFirst_ok {x : Nat} {r s : Sl} {b : Bool} {rest y z : Str} {n : Nat} {e : Int} {K : (ScsT [.sl, .bool] × Int) → World → Prop} (h : Sat Γ (blk x (.cells #[.slice r.p r.len r.cap, .slice s.p s.len s.cap, .bool false, .bool false] 157 (0, 0)) :: L) w) (hr : Bytes Γ r rest) (h0 : rest ≠ []) (hl : rest.length < 1000000000) (ht : takeF rest = .ok (y, n)) (hy : y.length ≤ 64)
    (k : ∀ t r' s' Γ' w', Γ.le Γ' → Bytes Γ' t y → Bytes Γ' s' y → Bytes Γ' r' (rest.drop n) → Sat Γ' (blk x (.cells #[.slice r'.p r'.len r'.cap, .slice s'.p s'.len s'.cap, .bool true, .bool false] 157 (0, 0)) :: L) w' → K ((t, true), 0) w') :
    CallP Try.prog 46 [.pointer (some ⟨x, 0, none⟩)] (.tup [.agg [.sl, .bool], .s (.int .i64)]) K w := by
  refine callP (fn := Try.f46) [.s (.ptr (some ⟨x, 0, none⟩))] (.p .n (.p .n (.p .n (.j [0, 5, 4, 2] [] .n .n)))) nong mixed (by kernel_rfl) (by kernel_rfl) rfl rfl ?_
  have hrl : rest.length ≠ 0 := fun e => h0 (List.eq_nil_of_length_eq_zero e)
  obtain ⟨htn, htl, htm, _⟩ := takeF_ok ht
  obtain ⟨lhr, mhr, chr⟩ := hr.lens
  refine new h fun fr0 _ h => ?_
  have h := h.asA (B := blk fr0 (.cells #[Value.slice none 0 0, Value.bool false] 34 (0, 0))) (by kernel_rfl)
  refine brF ?_
  refine ⟨_, rfl, ?_⟩
  refine ld _ h .n1 ?_
  refine brF ?_
  refine ⟨_, rfl, ?_⟩
  refine ld _ h .n1 ?_
  refine brE (fun fb1 => by exfalso; omega) (fun fb1 => ?_)
  refine ⟨_, rfl, ?_⟩
  refine ld _ h .n1 ?_
  refine takeTFirst_ok h hr (by first | omega | (dsimp only; omega) | decide) ht (fun fv3 fv4 fΓ5 _ fg7 ff8 ff9 h => ?_)
  have hr := hr.mono fg7
  obtain ⟨lff8, mff8, cff8⟩ := ff8.lens
  obtain ⟨lff9, mff9, cff9⟩ := ff9.lens
  refine joinI ?_
  refine brF ?_
  refine brD (fun fb11 => ?_) (fun fb11 => ?_)
  dsimp only at fb11
  refine ⟨_, rfl, ?_⟩
  refine st h .n1 fun _ h => ?_
  have h := h.asA (B := blk x (.cells #[Value.slice r.p r.len r.cap, Value.slice s.p s.len s.cap, Value.bool false, Value.bool true] 157 (0, 0))) (by kernel_rfl)
  refine stNs h .n1 fun _ h => ?_
  have h := h.asA (B := blk fr0 (.cells #[Value.slice (Sl.mk none 0 0).p (Sl.mk none 0 0).len (Sl.mk none 0 0).cap, Value.bool false] 34 (0, 0))) (by kernel_rfl)
  refine ldA2 _ _ h .n0 ?_
  refine ret2 _ _ ?_
  (exfalso; omega)
  dsimp only at fb11
  refine ⟨_, rfl, ?_⟩
  refine risesFirst_ok (h.pick .n1) ff8 (by first | omega | (dsimp only; omega) | decide) (fun fv13 fΓ14 _ fg16 ff17 h => ?_)
  have ff8 := ff8.mono fg16
  have ff9 := ff9.mono fg16
  have hr := hr.mono fg16
  obtain ⟨lff17, mff17, cff17⟩ := ff17.lens
  refine brF ?_
  refine ⟨_, rfl, ?_⟩
  refine st h .n0 fun _ h => ?_
  have h := h.asA (B := blk x (.cells #[Value.slice (fv3, fv4, 0).snd.fst.p (fv3, fv4, 0).snd.fst.len (fv3, fv4, 0).snd.fst.cap, Value.slice fv13.p fv13.len fv13.cap, Value.bool true, Value.bool false] 157 (0, 0))) (by kernel_rfl)
  refine stNs h .n1 fun _ h => ?_
  have h := h.asA (B := blk fr0 (.cells #[Value.slice (fv3, fv4, 0).fst.p (fv3, fv4, 0).fst.len (fv3, fv4, 0).fst.cap, Value.bool true] 34 (0, 0))) (by kernel_rfl)
  refine ldA2 _ _ h .n0 ?_
  refine ret2 _ _ ?_
  refine k _ _ _ _ _ (fg7.trans fg16) ff8 ff17 ff9 h.drop

theorem rnNextMore_ok {x : Nat} {r s : Sl} {b : Bool} {rest y z : Str} {n : Nat} {e : Int} {K : (ScsT [.sl, .bool] × Int) → World → Prop} (h : Sat Γ (blk x (.cells #[.slice r.p r.len r.cap, .slice s.p s.len s.cap, .bool true, .bool false] 157 (0, 0)) :: L) w) (hr : Bytes Γ r rest) (hz : Bytes Γ s z) (h0 : rest ≠ []) (hl : rest.length < 1000000000) (ht : takeF rest = .ok (y, n)) (hy : y.length ≤ 64) (hc : cmpB z y < 0)
    (k : ∀ t r' s' Γ' w', Γ.le Γ' → Bytes Γ' t y → Bytes Γ' s' y → Bytes Γ' r' (rest.drop n) → Sat Γ' (blk x (.cells #[.slice r'.p r'.len r'.cap, .slice s'.p s'.len s'.cap, .bool true, .bool false] 157 (0, 0)) :: L) w' → K ((t, true), 0) w') :
    CallP Try.prog 46 [.pointer (some ⟨x, 0, none⟩)] (.tup [.agg [.sl, .bool], .s (.int .i64)]) K w := by
  refine callP (fn := Try.f46) [.s (.ptr (some ⟨x, 0, none⟩))] (.p .n (.p .n (.p .n (.j [0, 5, 4, 2] [] .n .n)))) nong mixed (by kernel_rfl) (by kernel_rfl) rfl rfl ?_
  have hrl : rest.length ≠ 0 := fun e => h0 (List.eq_nil_of_length_eq_zero e)
  obtain ⟨htn, htl, htm, _⟩ := takeF_ok ht
  obtain ⟨lhr, mhr, chr⟩ := hr.lens
  obtain ⟨lhz, mhz, chz⟩ := hz.lens
  refine new h fun gr0 _ h => ?_
  have h := h.asA (B := blk gr0 (.cells #[Value.slice none 0 0, Value.bool false] 34 (0, 0))) (by kernel_rfl)
  refine brF ?_
  refine ⟨_, rfl, ?_⟩
  refine ld _ h .n1 ?_
  refine brF ?_
  refine ⟨_, rfl, ?_⟩
  refine ld _ h .n1 ?_
  refine brE (fun gb1 => by exfalso; omega) (fun gb1 => ?_)
  refine ⟨_, rfl, ?_⟩
  refine ld _ h .n1 ?_
  refine takeTFirst_ok h hr (by first | omega | (dsimp only; omega) | decide) ht (fun gv3 gv4 gΓ5 _ gg7 gf8 gf9 h => ?_)
  have hr := hr.mono gg7
  have hz := hz.mono gg7
  obtain ⟨lgf8, mgf8, cgf8⟩ := gf8.lens
  obtain ⟨lgf9, mgf9, cgf9⟩ := gf9.lens
  refine joinI ?_
  refine brF ?_
  refine brD (fun gb11 => ?_) (fun gb11 => ?_)
  dsimp only at gb11
  refine ⟨_, rfl, ?_⟩
  refine st h .n1 fun _ h => ?_
  have h := h.asA (B := blk x (.cells #[Value.slice r.p r.len r.cap, Value.slice s.p s.len s.cap, Value.bool true, Value.bool true] 157 (0, 0))) (by kernel_rfl)
  refine stNs h .n1 fun _ h => ?_
  have h := h.asA (B := blk gr0 (.cells #[Value.slice (Sl.mk none 0 0).p (Sl.mk none 0 0).len (Sl.mk none 0 0).cap, Value.bool false] 34 (0, 0))) (by kernel_rfl)
  refine ldA2 _ _ h .n0 ?_
  refine ret2 _ _ ?_
  (exfalso; omega)
  dsimp only at gb11
  refine ⟨_, rfl, ?_⟩
  refine risesMore_ok (h.pick .n1) hz gf8 hc (by first | omega | (dsimp only; omega) | decide) (fun gv13 gΓ14 _ gg16 gf17 h => ?_)
  have gf8 := gf8.mono gg16
  have gf9 := gf9.mono gg16
  have hr := hr.mono gg16
  have hz := hz.mono gg16
  obtain ⟨lgf17, mgf17, cgf17⟩ := gf17.lens
  refine brF ?_
  refine ⟨_, rfl, ?_⟩
  refine st h .n0 fun _ h => ?_
  have h := h.asA (B := blk x (.cells #[Value.slice (gv3, gv4, 0).snd.fst.p (gv3, gv4, 0).snd.fst.len (gv3, gv4, 0).snd.fst.cap, Value.slice gv13.p gv13.len gv13.cap, Value.bool true, Value.bool false] 157 (0, 0))) (by kernel_rfl)
  refine stNs h .n1 fun _ h => ?_
  have h := h.asA (B := blk gr0 (.cells #[Value.slice (gv3, gv4, 0).fst.p (gv3, gv4, 0).fst.len (gv3, gv4, 0).fst.cap, Value.bool true] 34 (0, 0))) (by kernel_rfl)
  refine ldA2 _ _ h .n0 ?_
  refine ret2 _ _ ?_
  refine k _ _ _ _ _ (gg7.trans gg16) gf8 gf17 gf9 h.drop

end Go.Proofs.Ytohoimokfgfceaa.K
