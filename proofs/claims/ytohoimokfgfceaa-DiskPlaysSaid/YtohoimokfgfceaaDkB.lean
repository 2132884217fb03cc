/-
  What an act does of the program's disk.
-/
import Derived.Test.YtohoimokfgfceaaDkA
namespace Go.Proofs.Ytohoimokfgfceaa.K
open Go Go.Proofs
variable {Γ Γ' : Mem} {L L' L'' : List HP} {w w' : World} {A B : HP}
set_option maxRecDepth 100000
set_option maxHeartbeats 4000000

def DiskM.act (m : DiskM) (a : ActM) : DiskM × Int :=
  if a.kind.toNat % 13 = 0 then m.create a.name
  else if a.kind.toNat % 13 = 4 then ((m.read a.name).1, (m.read a.name).2.2)
  else if a.kind.toNat % 13 = 5 then m.sync a.name
  else if a.kind.toNat % 13 = 6 then m.rename a.name a.to
  else if a.kind.toNat % 13 = 7 then m.remove a.name
  else if a.kind.toNat % 13 = 8 then m.syncNames
  else if a.kind.toNat % 13 = 9 then (m.names.1, m.names.2.2)
  else if a.kind.toNat % 13 = 10 then m.doom a.n
  else if a.kind.toNat % 13 = 11 then (m.crash a.wn a.wb, 0)
  else if a.kind.toNat % 13 = 12 then m.grow a.n
  else m.append a.name a.b

theorem dNamesE_ok {a : Nat} {m : DiskM} {K : (Sl × Int) → World → Prop} (h : Sat Γ (PDisk a m :: L) w) (hg : m.g < 1000000000000)
    (k : ∀ s w', Sat Γ (OL eStr TStr s m.names.2.1 :: PDisk a m.names.1 :: L) w' → K (s, m.names.2.2) w') :
    CallP Try.prog 67 [.pointer (some ⟨a, 0, none⟩)] (.tup [.s .sl, .s (.int .i64)]) K w := by
  refine dNames_ok h hg (fun hu w' h => ?_) fun hu s w' h => ?_
  · rw [DiskM.names_down hu] at k
    exact k _ _ h.olNil
  · rw [DiskM.names_up hu] at k
    exact k _ _ h

theorem actA_ok {a : Nat} {m : DiskM} {x : ActM} {s t : Sl} {K : Int → World → Prop} (h : Sat Γ (PDisk a m :: L) w) (hg : m.g + x.b.length < 1000000000000) (hb : Bytes Γ s x.b) (ht : Lst eInt Γ t x.wb) (hn : i64B x.n)
    (k : ∀ Γ' w', Γ.le Γ' → Sat Γ' (PDisk a (m.act x).1 :: L) w' → K (m.act x).2 w') :
    CallP Try.prog 63 [.pointer (some ⟨a, 0, none⟩), .agg #[.int .u8 (x.kind.toNat : Int), .string (str x.name), .string (str x.to), .slice s.p s.len s.cap, .int .i64 x.n, .int .i64 x.wn, .slice t.p t.len t.cap]] (.one (.s (.int .i64))) K w := by
  have hg1 : m.g < 1000000000000 := by omega
  have hkl := x.kind.toNat_lt
  unfold i64B at hn
  have hn2 : x.n < 9223372036854775808 := by omega
  refine callP (fn := Try.f63) [.s (.ptr (some ⟨a, 0, none⟩)), .agg [.int .u8 (x.kind.toNat : Int), .str (str x.name), .str (str x.to), .sl s, .int .i64 x.n, .int .i64 x.wn, .sl t]] .n nong mixed (by kernel_rfl) (by kernel_rfl) rfl rfl ?_
  unfold DiskM.act at k
  by_cases h0 : x.kind.toNat % 13 = 0
  · rw [if_pos h0] at k
    obtain ⟨lhb, mhb, chb⟩ := hb.lens
    obtain ⟨lht, mht, cht⟩ := ht.lens
    refine new h fun ar0 _ h => ?_
    refine ld _ h .n0 ?_
    refine ⟨by omega, ?_⟩
    refine tmd ?_
    refine brE (fun ab1 => ?_) (fun ab1 => by exfalso; omega)
    refine ld _ h .n0 ?_
    refine dCreate_ok (h.pick .n1) hg1 (fun _ h => ?_)
    refine ⟨_, rfl, ?_⟩
    refine k _ _ (.refl _) (h.pick .n1).drop
  rw [if_neg h0] at k
  by_cases h4 : x.kind.toNat % 13 = 4
  · rw [if_pos h4] at k
    obtain ⟨lhb, mhb, chb⟩ := hb.lens
    obtain ⟨lht, mht, cht⟩ := ht.lens
    refine new h fun br0 _ h => ?_
    refine ld _ h .n0 ?_
    refine ⟨by omega, ?_⟩
    refine tmd ?_
    refine brE (fun bb1 => by exfalso; omega) (fun bb1 => ?_)
    refine brE (fun bb2 => ?_) (fun bb2 => by exfalso; omega)
    refine ld _ h .n0 ?_
    refine dRead_ok (h.pick .n1) hg1 (fun bv4 bΓ5 _ bg7 bf8 h => ?_)
    have hb := hb.mono bg7
    have ht := ht.mono bg7
    obtain ⟨lbf8, mbf8, cbf8⟩ := bf8.lens
    refine ⟨_, rfl, ?_⟩
    refine k _ _ bg7 (h.pick .n1).drop
  rw [if_neg h4] at k
  by_cases h5 : x.kind.toNat % 13 = 5
  · rw [if_pos h5] at k
    obtain ⟨lhb, mhb, chb⟩ := hb.lens
    obtain ⟨lht, mht, cht⟩ := ht.lens
    refine new h fun cr0 _ h => ?_
    refine ld _ h .n0 ?_
    refine ⟨by omega, ?_⟩
    refine tmd ?_
    refine brE (fun cb1 => by exfalso; omega) (fun cb1 => ?_)
    refine brE (fun cb2 => by exfalso; omega) (fun cb2 => ?_)
    refine brE (fun cb3 => ?_) (fun cb3 => by exfalso; omega)
    refine ld _ h .n0 ?_
    refine dSync_ok (h.pick .n1) (fun _ h => ?_)
    refine ⟨_, rfl, ?_⟩
    refine k _ _ (.refl _) (h.pick .n1).drop
  rw [if_neg h5] at k
  by_cases h6 : x.kind.toNat % 13 = 6
  · rw [if_pos h6] at k
    obtain ⟨lhb, mhb, chb⟩ := hb.lens
    obtain ⟨lht, mht, cht⟩ := ht.lens
    refine new h fun dr0 _ h => ?_
    refine ld _ h .n0 ?_
    refine ⟨by omega, ?_⟩
    refine tmd ?_
    refine brE (fun db1 => by exfalso; omega) (fun db1 => ?_)
    refine brE (fun db2 => by exfalso; omega) (fun db2 => ?_)
    refine brE (fun db3 => by exfalso; omega) (fun db3 => ?_)
    refine brE (fun db4 => ?_) (fun db4 => by exfalso; omega)
    refine ld _ h .n0 ?_
    refine ld _ h .n0 ?_
    refine dRename_ok (h.pick .n1) hg1 (fun _ h => ?_)
    refine ⟨_, rfl, ?_⟩
    refine k _ _ (.refl _) (h.pick .n1).drop
  rw [if_neg h6] at k
  by_cases h7 : x.kind.toNat % 13 = 7
  · rw [if_pos h7] at k
    obtain ⟨lhb, mhb, chb⟩ := hb.lens
    obtain ⟨lht, mht, cht⟩ := ht.lens
    refine new h fun er0 _ h => ?_
    refine ld _ h .n0 ?_
    refine ⟨by omega, ?_⟩
    refine tmd ?_
    refine brE (fun eb1 => by exfalso; omega) (fun eb1 => ?_)
    refine brE (fun eb2 => by exfalso; omega) (fun eb2 => ?_)
    refine brE (fun eb3 => by exfalso; omega) (fun eb3 => ?_)
    refine brE (fun eb4 => by exfalso; omega) (fun eb4 => ?_)
    refine brE (fun eb5 => ?_) (fun eb5 => by exfalso; omega)
    refine ld _ h .n0 ?_
    refine dRemove_ok (h.pick .n1) hg1 (fun _ h => ?_)
    refine ⟨_, rfl, ?_⟩
    refine k _ _ (.refl _) (h.pick .n1).drop
  rw [if_neg h7] at k
  by_cases h8 : x.kind.toNat % 13 = 8
  · rw [if_pos h8] at k
    obtain ⟨lhb, mhb, chb⟩ := hb.lens
    obtain ⟨lht, mht, cht⟩ := ht.lens
    refine new h fun fr0 _ h => ?_
    refine ld _ h .n0 ?_
    refine ⟨by omega, ?_⟩
    refine tmd ?_
    refine brE (fun fb1 => by exfalso; omega) (fun fb1 => ?_)
    refine brE (fun fb2 => by exfalso; omega) (fun fb2 => ?_)
    refine brE (fun fb3 => by exfalso; omega) (fun fb3 => ?_)
    refine brE (fun fb4 => by exfalso; omega) (fun fb4 => ?_)
    refine brE (fun fb5 => by exfalso; omega) (fun fb5 => ?_)
    refine brE (fun fb6 => ?_) (fun fb6 => by exfalso; omega)
    refine dSyncNames_ok (h.pick .n1) hg1 (fun _ h => ?_)
    refine ⟨_, rfl, ?_⟩
    refine k _ _ (.refl _) (h.pick .n1).drop
  rw [if_neg h8] at k
  by_cases h9 : x.kind.toNat % 13 = 9
  · rw [if_pos h9] at k
    obtain ⟨lhb, mhb, chb⟩ := hb.lens
    obtain ⟨lht, mht, cht⟩ := ht.lens
    refine new h fun gr0 _ h => ?_
    refine ld _ h .n0 ?_
    refine ⟨by omega, ?_⟩
    refine tmd ?_
    refine brE (fun gb1 => by exfalso; omega) (fun gb1 => ?_)
    refine brE (fun gb2 => by exfalso; omega) (fun gb2 => ?_)
    refine brE (fun gb3 => by exfalso; omega) (fun gb3 => ?_)
    refine brE (fun gb4 => by exfalso; omega) (fun gb4 => ?_)
    refine brE (fun gb5 => by exfalso; omega) (fun gb5 => ?_)
    refine brE (fun gb6 => by exfalso; omega) (fun gb6 => ?_)
    refine brE (fun gb7 => ?_) (fun gb7 => by exfalso; omega)
    refine dNamesE_ok (h.pick .n1) hg1 (fun gv9 _ h => ?_)
    refine ⟨_, rfl, ?_⟩
    refine k _ _ (.refl _) (h.drop.pick .n1).drop
  rw [if_neg h9] at k
  by_cases h10 : x.kind.toNat % 13 = 10
  · rw [if_pos h10] at k
    obtain ⟨lhb, mhb, chb⟩ := hb.lens
    obtain ⟨lht, mht, cht⟩ := ht.lens
    refine new h fun ir0 _ h => ?_
    refine ld _ h .n0 ?_
    refine ⟨by omega, ?_⟩
    refine tmd ?_
    refine brE (fun ib1 => by exfalso; omega) (fun ib1 => ?_)
    refine brE (fun ib2 => by exfalso; omega) (fun ib2 => ?_)
    refine brE (fun ib3 => by exfalso; omega) (fun ib3 => ?_)
    refine brE (fun ib4 => by exfalso; omega) (fun ib4 => ?_)
    refine brE (fun ib5 => by exfalso; omega) (fun ib5 => ?_)
    refine brE (fun ib6 => by exfalso; omega) (fun ib6 => ?_)
    refine brE (fun ib7 => by exfalso; omega) (fun ib7 => ?_)
    refine brE (fun ib8 => ?_) (fun ib8 => by exfalso; omega)
    refine ld _ h .n0 ?_
    refine dDoom_ok (h.pick .n1) hn2 (fun _ h => ?_)
    refine ⟨_, rfl, ?_⟩
    refine k _ _ (.refl _) (h.pick .n1).drop
  rw [if_neg h10] at k
  by_cases h11 : x.kind.toNat % 13 = 11
  · rw [if_pos h11] at k
    obtain ⟨lhb, mhb, chb⟩ := hb.lens
    obtain ⟨lht, mht, cht⟩ := ht.lens
    refine new h fun jr0 _ h => ?_
    refine ld _ h .n0 ?_
    refine ⟨by omega, ?_⟩
    refine tmd ?_
    refine brE (fun jb1 => by exfalso; omega) (fun jb1 => ?_)
    refine brE (fun jb2 => by exfalso; omega) (fun jb2 => ?_)
    refine brE (fun jb3 => by exfalso; omega) (fun jb3 => ?_)
    refine brE (fun jb4 => by exfalso; omega) (fun jb4 => ?_)
    refine brE (fun jb5 => by exfalso; omega) (fun jb5 => ?_)
    refine brE (fun jb6 => by exfalso; omega) (fun jb6 => ?_)
    refine brE (fun jb7 => by exfalso; omega) (fun jb7 => ?_)
    refine brE (fun jb8 => by exfalso; omega) (fun jb8 => ?_)
    refine brE (fun jb9 => ?_) (fun jb9 => by exfalso; omega)
    refine ldA2 _ _ h .n0 ?_
    refine dCrash_ok (h.pick .n1) hg1 ht (fun _ h => ?_)
    refine ⟨_, rfl, ?_⟩
    refine k _ _ (.refl _) (h.pick .n1).drop
  rw [if_neg h11] at k
  by_cases h12 : x.kind.toNat % 13 = 12
  · rw [if_pos h12] at k
    obtain ⟨lhb, mhb, chb⟩ := hb.lens
    obtain ⟨lht, mht, cht⟩ := ht.lens
    refine new h fun lr0 _ h => ?_
    refine ld _ h .n0 ?_
    refine ⟨by omega, ?_⟩
    refine tmd ?_
    refine brE (fun lb1 => by exfalso; omega) (fun lb1 => ?_)
    refine brE (fun lb2 => by exfalso; omega) (fun lb2 => ?_)
    refine brE (fun lb3 => by exfalso; omega) (fun lb3 => ?_)
    refine brE (fun lb4 => by exfalso; omega) (fun lb4 => ?_)
    refine brE (fun lb5 => by exfalso; omega) (fun lb5 => ?_)
    refine brE (fun lb6 => by exfalso; omega) (fun lb6 => ?_)
    refine brE (fun lb7 => by exfalso; omega) (fun lb7 => ?_)
    refine brE (fun lb8 => by exfalso; omega) (fun lb8 => ?_)
    refine brE (fun lb9 => by exfalso; omega) (fun lb9 => ?_)
    refine brE (fun lb10 => ?_) (fun lb10 => by exfalso; omega)
    refine ld _ h .n0 ?_
    refine dGrow_ok (h.pick .n1) (fun _ h => ?_)
    refine ⟨_, rfl, ?_⟩
    refine k _ _ (.refl _) (h.pick .n1).drop
  rw [if_neg h12] at k
  obtain ⟨lhb, mhb, chb⟩ := hb.lens
  obtain ⟨lht, mht, cht⟩ := ht.lens
  refine new h fun mr0 _ h => ?_
  refine ld _ h .n0 ?_
  refine ⟨by omega, ?_⟩
  refine tmd ?_
  refine brE (fun mb1 => by exfalso; omega) (fun mb1 => ?_)
  refine brE (fun mb2 => by exfalso; omega) (fun mb2 => ?_)
  refine brE (fun mb3 => by exfalso; omega) (fun mb3 => ?_)
  refine brE (fun mb4 => by exfalso; omega) (fun mb4 => ?_)
  refine brE (fun mb5 => by exfalso; omega) (fun mb5 => ?_)
  refine brE (fun mb6 => by exfalso; omega) (fun mb6 => ?_)
  refine brE (fun mb7 => by exfalso; omega) (fun mb7 => ?_)
  refine brE (fun mb8 => by exfalso; omega) (fun mb8 => ?_)
  refine brE (fun mb9 => by exfalso; omega) (fun mb9 => ?_)
  refine brE (fun mb10 => by exfalso; omega) (fun mb10 => ?_)
  refine ld _ h .n0 ?_
  refine ld _ h .n0 ?_
  refine dAppend_ok (h.pick .n1) hb hg (fun mΓ12 _ mg14 h => ?_)
  have hb := hb.mono mg14
  have ht := ht.mono mg14
  refine ⟨_, rfl, ?_⟩
  refine k _ _ mg14 (h.pick .n1).drop

end Go.Proofs.Ytohoimokfgfceaa.K
