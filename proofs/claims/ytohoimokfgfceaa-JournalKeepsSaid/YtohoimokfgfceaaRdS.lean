/-
  Both disks: an act, and what can be seen of them.
-/
import Derived.Test.YtohoimokfgfceaaRdH
import Derived.Test.YtohoimokfgfceaaDkA
import Derived.Test.YtohoimokfgfceaaDkF
import Derived.Test.YtohoimokfgfceaaDkH
namespace Go.Proofs.Ytohoimokfgfceaa.K
open Go Go.Proofs
variable {Γ Γ' : Mem} {L L' L'' : List HP} {w w' : World} {A B : HP}
set_option maxRecDepth 100000
set_option maxHeartbeats 1000000

theorem did_ok {a : Nat} {m : DiskM} {x : ActM} {s t : Sl} {K : Int → World → Prop} (h : Sat Γ (RDisk a m :: L) w) (hg : m.g + x.b.length < 1000000000000) (hb : Bytes Γ s x.b) (ht : Lst eInt Γ t x.wb) (hn : i64B x.n)
    (k : ∀ Γ' w', Γ.le Γ' → Sat Γ' (RDisk a (m.act x).1 :: L) w' → K (m.act x).2 w') :
    CallP Try.prog 70 [.pointer (some ⟨a, 0, none⟩), .agg #[.int .u8 (x.kind.toNat : Int), .string (str x.name), .string (str x.to), .slice s.p s.len s.cap, .int .i64 x.n, .int .i64 x.wn, .slice t.p t.len t.cap]] (.one (.s (.int .i64))) K w := by
  have hg1 : m.g < 1000000000000 := by omega
  have hkl := x.kind.toNat_lt
  unfold i64B at hn
  have hn2 : x.n < 9223372036854775808 := by omega
  refine callP (fn := Try.f70) [.s (.ptr (some ⟨a, 0, none⟩)), .agg [.int .u8 (x.kind.toNat : Int), .str (str x.name), .str (str x.to), .sl s, .int .i64 x.n, .int .i64 x.wn, .sl t]] .n nong mixed (by kernel_rfl) (by kernel_rfl) rfl rfl ?_
  unfold DiskM.act at k
  by_cases h0 : x.kind.toNat % 13 = 0
  · rw [if_pos h0] at k
    obtain ⟨lhb, mhb, chb⟩ := hb.lens
    obtain ⟨lht, mht, cht⟩ := ht.lens
    refine new h fun ar0 _ h => ?_
    have h := h.asA (B := blk ar0 (.cells #[Value.int IntKind.u8 (↑x.kind.toNat : Int), Value.string (str x.name), Value.string (str x.to), Value.slice s.p s.len s.cap, Value.int IntKind.i64 x.n, Value.int IntKind.i64 x.wn, Value.slice t.p t.len t.cap] 85 (0, 0))) (by kernel_rfl)
    refine ld _ h .n0 ?_
    refine ⟨by omega, ?_⟩
    refine tmd ?_
    refine brE (fun ab1 => ?_) (fun ab1 => by exfalso; omega)
    refine ld _ h .n0 ?_
    refine rCreate_ok (h.pick .n1) hg1 (fun aΓ3 _ ag5 h => ?_)
    have hb := hb.mono ag5
    have ht := ht.mono ag5
    refine ⟨_, rfl, ?_⟩
    refine k _ _ ag5 (h.pick .n1).drop
  rw [if_neg h0] at k
  by_cases h4 : x.kind.toNat % 13 = 4
  · rw [if_pos h4] at k
    obtain ⟨lhb, mhb, chb⟩ := hb.lens
    obtain ⟨lht, mht, cht⟩ := ht.lens
    refine new h fun br0 _ h => ?_
    have h := h.asA (B := blk br0 (.cells #[Value.int IntKind.u8 (↑x.kind.toNat : Int), Value.string (str x.name), Value.string (str x.to), Value.slice s.p s.len s.cap, Value.int IntKind.i64 x.n, Value.int IntKind.i64 x.wn, Value.slice t.p t.len t.cap] 85 (0, 0))) (by kernel_rfl)
    refine ld _ h .n0 ?_
    refine ⟨by omega, ?_⟩
    refine tmd ?_
    refine brE (fun bb1 => by exfalso; omega) (fun bb1 => ?_)
    refine brE (fun bb2 => ?_) (fun bb2 => by exfalso; omega)
    refine ld _ h .n0 ?_
    refine rRead_ok (h.pick .n1) hg1 (fun bv4 bΓ5 _ bg7 bf8 h => ?_)
    have hb := hb.mono bg7
    have ht := ht.mono bg7
    obtain ⟨lbf8, mbf8, cbf8⟩ := bf8.lens
    refine ⟨_, rfl, ?_⟩
    refine k _ _ bg7 (h.pick .n1).drop
  rw [if_neg h4] at k
  by_cases h5 : x.kind.toNat % 13 = 5
  · rw [if_pos h5] at k
    obtain ⟨lhb, mhb, chb⟩ := hb.lens
    obtain ⟨lht, mht, cht⟩ := ht.lens
    refine new h fun cr0 _ h => ?_
    have h := h.asA (B := blk cr0 (.cells #[Value.int IntKind.u8 (↑x.kind.toNat : Int), Value.string (str x.name), Value.string (str x.to), Value.slice s.p s.len s.cap, Value.int IntKind.i64 x.n, Value.int IntKind.i64 x.wn, Value.slice t.p t.len t.cap] 85 (0, 0))) (by kernel_rfl)
    refine ld _ h .n0 ?_
    refine ⟨by omega, ?_⟩
    refine tmd ?_
    refine brE (fun cb1 => by exfalso; omega) (fun cb1 => ?_)
    refine brE (fun cb2 => by exfalso; omega) (fun cb2 => ?_)
    refine brE (fun cb3 => ?_) (fun cb3 => by exfalso; omega)
    refine ld _ h .n0 ?_
    refine rSync_ok (h.pick .n1) hg1 (fun _ h => ?_)
    refine ⟨_, rfl, ?_⟩
    refine k _ _ (.refl _) (h.pick .n1).drop
  rw [if_neg h5] at k
  by_cases h6 : x.kind.toNat % 13 = 6
  · rw [if_pos h6] at k
    obtain ⟨lhb, mhb, chb⟩ := hb.lens
    obtain ⟨lht, mht, cht⟩ := ht.lens
    refine new h fun dr0 _ h => ?_
    have h := h.asA (B := blk dr0 (.cells #[Value.int IntKind.u8 (↑x.kind.toNat : Int), Value.string (str x.name), Value.string (str x.to), Value.slice s.p s.len s.cap, Value.int IntKind.i64 x.n, Value.int IntKind.i64 x.wn, Value.slice t.p t.len t.cap] 85 (0, 0))) (by kernel_rfl)
    refine ld _ h .n0 ?_
    refine ⟨by omega, ?_⟩
    refine tmd ?_
    refine brE (fun db1 => by exfalso; omega) (fun db1 => ?_)
    refine brE (fun db2 => by exfalso; omega) (fun db2 => ?_)
    refine brE (fun db3 => by exfalso; omega) (fun db3 => ?_)
    refine brE (fun db4 => ?_) (fun db4 => by exfalso; omega)
    refine ld _ h .n0 ?_
    refine ld _ h .n0 ?_
    refine rRename_ok (h.pick .n1) hg1 (fun dΓ6 _ dg8 h => ?_)
    have hb := hb.mono dg8
    have ht := ht.mono dg8
    refine ⟨_, rfl, ?_⟩
    refine k _ _ dg8 (h.pick .n1).drop
  rw [if_neg h6] at k
  by_cases h7 : x.kind.toNat % 13 = 7
  · rw [if_pos h7] at k
    obtain ⟨lhb, mhb, chb⟩ := hb.lens
    obtain ⟨lht, mht, cht⟩ := ht.lens
    refine new h fun er0 _ h => ?_
    have h := h.asA (B := blk er0 (.cells #[Value.int IntKind.u8 (↑x.kind.toNat : Int), Value.string (str x.name), Value.string (str x.to), Value.slice s.p s.len s.cap, Value.int IntKind.i64 x.n, Value.int IntKind.i64 x.wn, Value.slice t.p t.len t.cap] 85 (0, 0))) (by kernel_rfl)
    refine ld _ h .n0 ?_
    refine ⟨by omega, ?_⟩
    refine tmd ?_
    refine brE (fun eb1 => by exfalso; omega) (fun eb1 => ?_)
    refine brE (fun eb2 => by exfalso; omega) (fun eb2 => ?_)
    refine brE (fun eb3 => by exfalso; omega) (fun eb3 => ?_)
    refine brE (fun eb4 => by exfalso; omega) (fun eb4 => ?_)
    refine brE (fun eb5 => ?_) (fun eb5 => by exfalso; omega)
    refine ld _ h .n0 ?_
    refine rRemove_ok (h.pick .n1) hg1 (fun eΓ7 _ eg9 h => ?_)
    have hb := hb.mono eg9
    have ht := ht.mono eg9
    refine ⟨_, rfl, ?_⟩
    refine k _ _ eg9 (h.pick .n1).drop
  rw [if_neg h7] at k
  by_cases h8 : x.kind.toNat % 13 = 8
  · rw [if_pos h8] at k
    obtain ⟨lhb, mhb, chb⟩ := hb.lens
    obtain ⟨lht, mht, cht⟩ := ht.lens
    refine new h fun fr0 _ h => ?_
    have h := h.asA (B := blk fr0 (.cells #[Value.int IntKind.u8 (↑x.kind.toNat : Int), Value.string (str x.name), Value.string (str x.to), Value.slice s.p s.len s.cap, Value.int IntKind.i64 x.n, Value.int IntKind.i64 x.wn, Value.slice t.p t.len t.cap] 85 (0, 0))) (by kernel_rfl)
    refine ld _ h .n0 ?_
    refine ⟨by omega, ?_⟩
    refine tmd ?_
    refine brE (fun fb1 => by exfalso; omega) (fun fb1 => ?_)
    refine brE (fun fb2 => by exfalso; omega) (fun fb2 => ?_)
    refine brE (fun fb3 => by exfalso; omega) (fun fb3 => ?_)
    refine brE (fun fb4 => by exfalso; omega) (fun fb4 => ?_)
    refine brE (fun fb5 => by exfalso; omega) (fun fb5 => ?_)
    refine brE (fun fb6 => ?_) (fun fb6 => by exfalso; omega)
    refine rSyncNames_ok (h.pick .n1) hg1 (fun fΓ8 _ fg10 h => ?_)
    have hb := hb.mono fg10
    have ht := ht.mono fg10
    refine ⟨_, rfl, ?_⟩
    refine k _ _ fg10 (h.pick .n1).drop
  rw [if_neg h8] at k
  by_cases h9 : x.kind.toNat % 13 = 9
  · rw [if_pos h9] at k
    obtain ⟨lhb, mhb, chb⟩ := hb.lens
    obtain ⟨lht, mht, cht⟩ := ht.lens
    refine new h fun gr0 _ h => ?_
    have h := h.asA (B := blk gr0 (.cells #[Value.int IntKind.u8 (↑x.kind.toNat : Int), Value.string (str x.name), Value.string (str x.to), Value.slice s.p s.len s.cap, Value.int IntKind.i64 x.n, Value.int IntKind.i64 x.wn, Value.slice t.p t.len t.cap] 85 (0, 0))) (by kernel_rfl)
    refine ld _ h .n0 ?_
    refine ⟨by omega, ?_⟩
    refine tmd ?_
    refine brE (fun gb1 => by exfalso; omega) (fun gb1 => ?_)
    refine brE (fun gb2 => by exfalso; omega) (fun gb2 => ?_)
    refine brE (fun gb3 => by exfalso; omega) (fun gb3 => ?_)
    refine brE (fun gb4 => by exfalso; omega) (fun gb4 => ?_)
    refine brE (fun gb5 => by exfalso; omega) (fun gb5 => ?_)
    refine brE (fun gb6 => by exfalso; omega) (fun gb6 => ?_)
    refine brE (fun gb7 => ?_) (fun gb7 => by exfalso; omega)
    refine rNames_ok (h.pick .n1) hg1 (fun gv9 gΓ10 _ gg12 gf13 h => ?_)
    have hb := hb.mono gg12
    have ht := ht.mono gg12
    obtain ⟨lgf13, mgf13, cgf13⟩ := gf13.lens
    refine ⟨_, rfl, ?_⟩
    refine k _ _ gg12 (h.pick .n1).drop
  rw [if_neg h9] at k
  by_cases h10 : x.kind.toNat % 13 = 10
  · rw [if_pos h10] at k
    obtain ⟨lhb, mhb, chb⟩ := hb.lens
    obtain ⟨lht, mht, cht⟩ := ht.lens
    refine new h fun hr0 _ h => ?_
    have h := h.asA (B := blk hr0 (.cells #[Value.int IntKind.u8 (↑x.kind.toNat : Int), Value.string (str x.name), Value.string (str x.to), Value.slice s.p s.len s.cap, Value.int IntKind.i64 x.n, Value.int IntKind.i64 x.wn, Value.slice t.p t.len t.cap] 85 (0, 0))) (by kernel_rfl)
    refine ld _ h .n0 ?_
    refine ⟨by omega, ?_⟩
    refine tmd ?_
    refine brE (fun hb1 => by exfalso; omega) (fun hb1 => ?_)
    refine brE (fun hb2 => by exfalso; omega) (fun hb2 => ?_)
    refine brE (fun hb3 => by exfalso; omega) (fun hb3 => ?_)
    refine brE (fun hb4 => by exfalso; omega) (fun hb4 => ?_)
    refine brE (fun hb5 => by exfalso; omega) (fun hb5 => ?_)
    refine brE (fun hb6 => by exfalso; omega) (fun hb6 => ?_)
    refine brE (fun hb7 => by exfalso; omega) (fun hb7 => ?_)
    refine brE (fun hb8 => ?_) (fun hb8 => by exfalso; omega)
    refine ld _ h .n0 ?_
    refine rDoom_ok (h.pick .n1) hn2 (fun _ h => ?_)
    refine ⟨_, rfl, ?_⟩
    refine k _ _ (.refl _) (h.pick .n1).drop
  rw [if_neg h10] at k
  by_cases h11 : x.kind.toNat % 13 = 11
  · rw [if_pos h11] at k
    obtain ⟨lhb, mhb, chb⟩ := hb.lens
    obtain ⟨lht, mht, cht⟩ := ht.lens
    refine new h fun ir0 _ h => ?_
    have h := h.asA (B := blk ir0 (.cells #[Value.int IntKind.u8 (↑x.kind.toNat : Int), Value.string (str x.name), Value.string (str x.to), Value.slice s.p s.len s.cap, Value.int IntKind.i64 x.n, Value.int IntKind.i64 x.wn, Value.slice t.p t.len t.cap] 85 (0, 0))) (by kernel_rfl)
    refine ld _ h .n0 ?_
    refine ⟨by omega, ?_⟩
    refine tmd ?_
    refine brE (fun ib1 => by exfalso; omega) (fun ib1 => ?_)
    refine brE (fun ib2 => by exfalso; omega) (fun ib2 => ?_)
    refine brE (fun ib3 => by exfalso; omega) (fun ib3 => ?_)
    refine brE (fun ib4 => by exfalso; omega) (fun ib4 => ?_)
    refine brE (fun ib5 => by exfalso; omega) (fun ib5 => ?_)
    refine brE (fun ib6 => by exfalso; omega) (fun ib6 => ?_)
    refine brE (fun ib7 => by exfalso; omega) (fun ib7 => ?_)
    refine brE (fun ib8 => by exfalso; omega) (fun ib8 => ?_)
    refine brE (fun ib9 => ?_) (fun ib9 => by exfalso; omega)
    refine ldA2 _ _ h .n0 ?_
    refine rCrash_ok (h.pick .n1) hg1 ht (fun iΓ11 _ ig13 h => ?_)
    have hb := hb.mono ig13
    have ht := ht.mono ig13
    refine ⟨_, rfl, ?_⟩
    refine k _ _ ig13 (h.pick .n1).drop
  rw [if_neg h11] at k
  by_cases h12 : x.kind.toNat % 13 = 12
  · rw [if_pos h12] at k
    obtain ⟨lhb, mhb, chb⟩ := hb.lens
    obtain ⟨lht, mht, cht⟩ := ht.lens
    refine new h fun jr0 _ h => ?_
    have h := h.asA (B := blk jr0 (.cells #[Value.int IntKind.u8 (↑x.kind.toNat : Int), Value.string (str x.name), Value.string (str x.to), Value.slice s.p s.len s.cap, Value.int IntKind.i64 x.n, Value.int IntKind.i64 x.wn, Value.slice t.p t.len t.cap] 85 (0, 0))) (by kernel_rfl)
    refine ld _ h .n0 ?_
    refine ⟨by omega, ?_⟩
    refine tmd ?_
    refine brE (fun jb1 => by exfalso; omega) (fun jb1 => ?_)
    refine brE (fun jb2 => by exfalso; omega) (fun jb2 => ?_)
    refine brE (fun jb3 => by exfalso; omega) (fun jb3 => ?_)
    refine brE (fun jb4 => by exfalso; omega) (fun jb4 => ?_)
    refine brE (fun jb5 => by exfalso; omega) (fun jb5 => ?_)
    refine brE (fun jb6 => by exfalso; omega) (fun jb6 => ?_)
    refine brE (fun jb7 => by exfalso; omega) (fun jb7 => ?_)
    refine brE (fun jb8 => by exfalso; omega) (fun jb8 => ?_)
    refine brE (fun jb9 => by exfalso; omega) (fun jb9 => ?_)
    refine brE (fun jb10 => ?_) (fun jb10 => by exfalso; omega)
    refine ld _ h .n0 ?_
    refine rGrow_ok (h.pick .n1) (fun _ h => ?_)
    refine ⟨_, rfl, ?_⟩
    refine k _ _ (.refl _) (h.pick .n1).drop
  rw [if_neg h12] at k
  obtain ⟨lhb, mhb, chb⟩ := hb.lens
  obtain ⟨lht, mht, cht⟩ := ht.lens
  refine new h fun kr0 _ h => ?_
  have h := h.asA (B := blk kr0 (.cells #[Value.int IntKind.u8 (↑x.kind.toNat : Int), Value.string (str x.name), Value.string (str x.to), Value.slice s.p s.len s.cap, Value.int IntKind.i64 x.n, Value.int IntKind.i64 x.wn, Value.slice t.p t.len t.cap] 85 (0, 0))) (by kernel_rfl)
  refine ld _ h .n0 ?_
  refine ⟨by omega, ?_⟩
  refine tmd ?_
  refine brE (fun kb1 => by exfalso; omega) (fun kb1 => ?_)
  refine brE (fun kb2 => by exfalso; omega) (fun kb2 => ?_)
  refine brE (fun kb3 => by exfalso; omega) (fun kb3 => ?_)
  refine brE (fun kb4 => by exfalso; omega) (fun kb4 => ?_)
  refine brE (fun kb5 => by exfalso; omega) (fun kb5 => ?_)
  refine brE (fun kb6 => by exfalso; omega) (fun kb6 => ?_)
  refine brE (fun kb7 => by exfalso; omega) (fun kb7 => ?_)
  refine brE (fun kb8 => by exfalso; omega) (fun kb8 => ?_)
  refine brE (fun kb9 => by exfalso; omega) (fun kb9 => ?_)
  refine brE (fun kb10 => by exfalso; omega) (fun kb10 => ?_)
  refine ld _ h .n0 ?_
  refine ld _ h .n0 ?_
  refine rAppend_ok (h.pick .n1) hb hg (fun kΓ12 _ kg14 h => ?_)
  have hb := hb.mono kg14
  have ht := ht.mono kg14
  refine ⟨_, rfl, ?_⟩
  refine k _ _ kg14 (h.pick .n1).drop

theorem texts_eq_ok {s t : Sl} {l : List Str} {K : Bool → World → Prop} (h : Sat Γ L w) (hl : Lst eStr Γ s l) (hm : Lst eStr Γ t l) (k1 : ∀ w', Sat Γ L w' → K true w') :
    CallP Try.prog 78 [.slice s.p s.len s.cap, .slice t.p t.len t.cap] (.one (.s .bool)) K w := texts_ok h hl hm (fun _ => k1) fun h => absurd rfl h

theorem dNamesFrozen_ok {a : Nat} {m : DiskM} {K : (Sl × Int) → World → Prop} (h : Sat Γ (PDisk a m :: L) w) (hg : m.g < 1000000000000)
    (k : ∀ s Γ' w', Γ.le Γ' → Lst eStr Γ' s m.names.2.1 → Sat Γ' (PDisk a m.names.1 :: L) w' → K (s, m.names.2.2) w') :
    CallP Try.prog 67 [.pointer (some ⟨a, 0, none⟩)] (.tup [.s .sl, .s (.int .i64)]) K w := by
  have hn : m.names.2.1.length ≤ m.g := by
    have hw : Wf m := by
      obtain ⟨ps, h⟩ := h.pd
      exact (Sat.pdOK (M := filesL ps m.files) h).wf
    cases hu : m.up with
    | false => rw [DiskM.names_down hu]; exact Nat.zero_le _
    | true => rw [DiskM.names_up hu, List.length_map]; exact hw.nowLen
  refine dNamesE_ok h hg fun s w' h => ?_
  have hl := h.olLen .n0
  obtain ⟨Γ', g, f, h⟩ := h.olFreeze .n0 (by omega)
  exact k s Γ' w' g f h

theorem same_ok {a b : Nat} {m : DiskM} {K : Bool → World → Prop} (h : Sat Γ (PDisk a m :: RDisk b m :: L) w) (hg : m.g < 1000000000000) (k : ∀ Γ' w', Γ.le Γ' → Sat Γ' L w' → K true w') :
    CallP Try.prog 73 [.pointer (some ⟨a, 0, none⟩), .pointer (some ⟨b, 0, none⟩)] (.one (.s .bool)) K w := by
  have hw : Wf m := (h.pick .n1).rdWf
  have hgn : m.names.1.g = m.g := by
    unfold DiskM.names
    dsimp only
    split <;> exact tick_g _
  have hnl : m.names.2.1.length ≤ m.g := by
    cases hu : m.up with
    | false => rw [DiskM.names_down hu]; exact Nat.zero_le _
    | true => rw [DiskM.names_up hu, List.length_map]; exact hw.nowLen
  refine callP (fn := Try.f73) [.s (.ptr (some ⟨a, 0, none⟩)), .s (.ptr (some ⟨b, 0, none⟩))] (.p .n (.p .n (.p .n (.j [7, 1, 0] [] .n (.p (.p .n (.b (.l [42, 1, 0, 41] [(43, .s (.int .i64))] (.p .n (.p .n (.p (.k [43, 42, 1, 0, 41] [] .n) .n)))))) .n))))) nong mixed (by kernel_rfl) (by kernel_rfl) rfl rfl ?_
  refine dNamesFrozen_ok h hg (fun av1 aΓ2 _ ag4 af5 h => ?_)
  obtain ⟨laf5, maf5, caf5⟩ := af5.lens
  refine rNames_ok (h.pick .n1) hg (fun av8 aΓ9 _ ag11 af12 h => ?_)
  have af5 := af5.mono ag11
  obtain ⟨laf12, maf12, caf12⟩ := af12.lens
  refine joinI ?_
  refine texts_eq_ok h af5 af12 (fun _ h => ?_)
  refine brF ?_
  refine brN (fun ab17 => by exfalso; omega) (fun ab17 => ?_)
  dsimp only at ab17
  refine dUsedD_ok (h.pick .n1) (by first | omega | (dsimp only; omega) | decide) (fun _ h => ?_)
  refine rUsed_ok (h.pick .n1) (by first | omega | (dsimp only; omega) | decide) (fun aΓ22 _ ag24 h => ?_)
  have af12 := af12.mono ag24
  have af5 := af5.mono ag24
  refine brN (fun ab26 => by exfalso; omega) (fun ab26 => ?_)
  rotate_left
  refine loop (σ := Int) (fun st w' n => ∃ (i : Nat) (m' : DiskM) (Γ' : Mem), st = (i : Int) ∧ i ≤ m.names.2.1.length ∧ n = m.names.2.1.length - i ∧ m'.g = m.g ∧ aΓ22.le Γ' ∧ Sat Γ' (RDisk b m' :: PDisk a m' :: L) w') m.names.2.1.length
    ⟨0, m.names.1, aΓ22, rfl, by omega, by omega, hgn, .refl _, h⟩ ?_
  clear h
  rintro _ w n ⟨i, m', Γ3, rfl, hi, hn2, hg', g3, h⟩
  have af12 := af12.mono g3
  have hg3 : m'.g < 1000000000000 := by omega
  by_cases hil : i < m.names.2.1.length
  · obtain ⟨s, es⟩ := get_lt hil
    have hgr : (m'.read s).1.g = m.g := by
      unfold DiskM.read
      dsimp only
      rw [← hg']
      repeat' split
      all_goals exact tick_g _
    have af5 := af5.mono g3
    refine brD (fun bb0 => ?_) (fun bb0 => by exfalso; dsimp only at bb0; omega)
    dsimp only at bb0
    refine joinI ?_
    refine ⟨by dsimp only; omega, ?_⟩
    refine nnL h af12 (fun ba1 bha1 => ?_)
    dsimp only at bha1
    refine ldL h af12 bha1 es (fun by2 bhy2 => ?_)
    have bhy2 : by2 = str s := bhy2
    subst bhy2
    refine dRead_ok (h.pick .n1) hg3 (fun bv4 bΓ5 _ bg7 bf8 h => ?_)
    have af12 := af12.mono bg7
    have af5 := af5.mono bg7
    obtain ⟨lbf8, mbf8, cbf8⟩ := bf8.lens
    refine rRead_ok (h.pick .n1) hg3 (fun bv11 bΓ12 _ bg14 bf15 h => ?_)
    have bf8 := bf8.mono bg14
    have af12 := af12.mono bg14
    have af5 := af5.mono bg14
    obtain ⟨lbf15, mbf15, cbf15⟩ := bf15.lens
    refine btoS h bf8 ?_
    refine btoS h bf15 ?_
    refine brSn (fun bb17 => absurd rfl bb17) (fun bb17 => ?_)
    refine brN (fun bb18 => by exfalso; omega) (fun bb18 => ?_)
    dsimp only at bb18
    refine wrN (i + 1) ?_
    refine ⟨_, (by first | omega | rfl | (dsimp only; omega)), _, _, _, rfl, (by first | omega | rfl | (dsimp only; omega)), rfl, hgr, (g3.trans (bg7.trans bg14)), ((h.pick .n1).pick .n1)⟩
  · have af5 := af5.mono g3
    refine brD (fun cb0 => by exfalso; dsimp only at cb0; omega) (fun cb0 => ?_)
    dsimp only at cb0
    refine ⟨_, rfl, ?_⟩
    refine k _ _ (ag4.trans (ag11.trans (ag24.trans g3))) h.drop.drop

end Go.Proofs.Ytohoimokfgfceaa.K
