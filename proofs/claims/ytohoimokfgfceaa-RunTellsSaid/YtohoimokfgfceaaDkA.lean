/-
  Acts of the disk's statements: what they are, the first hundred, what each does.
-/
import Derived.Test.YtohoimokfgfceaaDkX
namespace Go.Proofs.Ytohoimokfgfceaa.K
open Go Go.Proofs
variable {Γ Γ' : Mem} {L L' L'' : List HP} {w w' : World} {A B : HP}
set_option maxRecDepth 100000
set_option maxHeartbeats 4000000

structure ActM where
  kind : UInt8
  name : Str
  to : Str
  b : Str
  n : Int
  wn : Int
  wb : List Int

def i64B (n : Int) : Prop := -9223372036854775808 ≤ n ∧ n ≤ 9223372036854775807

/-- an act, as it lies -/
def eAct : Enc ActM := ⟨.agg [.int .u8, .str, .str, .sl, .int .i64, .int .i64, .sl],
  fun Γ y a => (y.1 = (a.kind.toNat : Int) ∧ y.2.1 = str a.name ∧ y.2.2.1 = str a.to ∧ y.2.2.2.2.1 = a.n ∧ y.2.2.2.2.2.1 = a.wn) ∧ (i64B a.n ∧ i64B a.wn ∧ (∀ x ∈ a.wb, i64B x) ∧ a.name.length ≤ 9223372036854775807 ∧ a.to.length ≤ 9223372036854775807) ∧
    Bytes Γ y.2.2.2.1 a.b ∧ Lst eInt Γ y.2.2.2.2.2.2 a.wb, fun h hl => ⟨h.1, h.2.1, Bytes.mono h.2.2.1 hl, Lst.mono h.2.2.2 hl⟩, fun _ v hv => by
  simp [Sh.cells, ScsV] at hv
  rcases hv with rfl | rfl | rfl | rfl | rfl | rfl | rfl <;> rfl⟩

theorem eAct_after {Γ : Mem} {y : eAct.sh.T} {a : ActM} (h : eAct.r Γ y a) : ∃ s t : Sl, Bytes Γ s a.b ∧ Lst eInt Γ t a.wb ∧ i64B a.n ∧ y = ((a.kind.toNat : Int), str a.name, str a.to, s, a.n, a.wn, t) := by
  obtain ⟨y1, y2, y3, y4, y5, y6, y7⟩ := y
  obtain ⟨⟨h1, h2, h3, h5, h6⟩, ⟨h8, _⟩, h4, h7⟩ := h
  refine ⟨y4, y7, h4, h7, h8, ?_⟩
  dsimp only at h1 h2 h3 h5 h6 ⊢
  rw [h1, h2, h3, h5, h6]

abbrev TAct : Nat := 85
theorem slAct : SlT Try.prog 78 TAct 7 104 [.int .u8 0, .string (str []), .string (str []), .slice none 0 0, .int .i64 0, .int .i64 0, .slice none 0 0] := .of (by kernel_rfl) (by kernel_rfl) (by decide)

def smallA (a : ActM) : Prop := a.b.length ≤ 50 ∧ a.name.length ≤ 40 ∧ a.to.length ≤ 40 ∧ a.wb.length ≤ 50
instance (a : ActM) : Decidable (smallA a) := inferInstanceAs (Decidable (_ ∧ _))
def fewA (l : List ActM) : List ActM := (l.take 100).filter fun x => decide (smallA x)

theorem fewA_succ {l : List ActM} {i : Nat} {x : ActM} (h : l[i]? = some x) (hi : i < 100) : fewA (l.take (i + 1)) = fewA (l.take i) ++ if smallA x then [x] else [] := by
  unfold fewA
  rw [List.take_take, List.take_take, Nat.min_eq_right (by omega), Nat.min_eq_right (by omega), List.take_add_one, h, List.filter_append]
  by_cases hx : smallA x <;> simp [hx]

theorem fewA_over {l : List ActM} {i : Nat} (hi : 100 ≤ i) : fewA (l.take (i + 1)) = fewA (l.take i) := by
  unfold fewA
  rw [List.take_take, List.take_take, Nat.min_eq_left (by omega), Nat.min_eq_left (by omega)]

theorem fewA_len (l : List ActM) : (fewA l).length ≤ 100 := by
  unfold fewA
  exact Nat.le_trans (List.length_filter_le _ _) (by rw [List.length_take]; omega)

theorem fewA_small {l : List ActM} : ∀ x ∈ fewA l, smallA x := fun x hx => by
  unfold fewA at hx
  simpa using (List.mem_filter.1 hx).2

theorem fewA_ok {s : Sl} {l : List ActM} {K : Sl → World → Prop} (h : Sat Γ L w) (hl : Lst eAct Γ s l) (k : ∀ s' Γ' w', Γ.le Γ' → Lst eAct Γ' s' (fewA l) → Sat Γ' L w' → K s' w') :
    CallP Try.prog 62 [.slice s.p s.len s.cap] (.one (.s .sl)) K w := by
  obtain ⟨hlen, hsm, _⟩ := hl.lens
  refine callP (fn := Try.f62) [.s (.sl s)] (.p .n (.p .n (.p (.p .n (.b (.l [7, 6] [(3, .s .sl), (8, .s (.int .i64))] (.p .n (.p .n (.p (.k [8, 7, 6] [(3, .s .sl)] .n) .n)))))) .n))) nong mixed (by kernel_rfl) (by kernel_rfl) rfl rfl ?_
  rotate_left
  refine loop (σ := Sl × Int) (fun st w' n => ∃ (out : Sl) (i : Nat), st = (out, (i : Int)) ∧ i ≤ l.length ∧ n = l.length - i ∧ Sat Γ (OL eAct TAct out (fewA (l.take i)) :: L) w') l.length ⟨_, 0, rfl, by omega, by omega, by simpa [fewA] using h.olNil⟩ ?_
  clear h
  rintro _ w n ⟨out, i, rfl, hi, hn, h⟩
  have hol := h.olLen .n0
  have hfl := fewA_len (l.take i)
  by_cases hil : i < l.length
  · obtain ⟨x, ex⟩ := get_lt hil
    by_cases h100 : i < 100
    · have hsu := fewA_succ ex h100
      by_cases hx : smallA x
      · rw [if_pos hx] at hsu
        have hx' := hx
        unfold smallA at hx'
        obtain ⟨hx1, hx2, hx3, hx4⟩ := hx'
        have hz1 := str_size x.name
        have hz2 := str_size x.to
        refine brD (fun bb0 => ?_) (fun bb0 => by exfalso; omega)
        dsimp only at bb0
        refine joinI ?_
        refine ⟨by omega, ?_⟩
        refine nnL h hl (fun ba1 bha1 => ?_)
        refine ldL h hl bha1 ex (fun by2 bhy2 => ?_)
        obtain ⟨by2s, by2t, bhy2a, bhy2b, bhy2c, bhy2e⟩ := eAct_after bhy2
        subst bhy2e
        obtain ⟨lbhy2a, mbhy2a, cbhy2a⟩ := bhy2a.lens
        obtain ⟨lbhy2b, mbhy2b, cbhy2b⟩ := bhy2b.lens
        refine new h fun br3 _ h => ?_
        refine stNs h .n0 fun _ h => ?_
        refine brD (fun bb4 => ?_) (fun bb4 => by exfalso; omega)
        dsimp only at bb4
        refine ld _ h .n0 ?_
        refine brD (fun bb5 => ?_) (fun bb5 => ?_)
        dsimp only at bb5
        refine ld _ h .n0 ?_
        refine brD (fun bb6 => ?_) (fun bb6 => ?_)
        dsimp only at bb6
        refine ld _ h .n0 ?_
        refine brD (fun bb7 => ?_) (fun bb7 => ?_)
        dsimp only at bb7
        refine ld _ h .n0 ?_
        refine brD (fun bb8 => ?_) (fun bb8 => ?_)
        dsimp only at bb8
        refine ldA7 _ _ _ _ _ _ _ h .n0 ?_
        refine new h fun br9 _ h => ?_
        refine app1 _ _ slAct h .n1 (by assumption) (fun bs10 _ bl10 h => ?_)
        dsimp only at bl10
        refine wrN (i + 1) ?_
        refine ⟨_, (by first | omega | rfl | (dsimp only; omega)), _, _, rfl, (by first | omega | rfl | (dsimp only; omega)), rfl, (Sat.eqs (h.pick .n1).drop ?_)⟩
        rotate_left
        dsimp only at bb8
        refine wrN (i + 1) ?_
        refine ⟨_, (by first | omega | rfl | (dsimp only; omega)), _, _, rfl, (by first | omega | rfl | (dsimp only; omega)), rfl, (Sat.eqs h.drop ?_)⟩
        (exfalso; omega)
        dsimp only at bb7
        refine wrN (i + 1) ?_
        refine ⟨_, (by first | omega | rfl | (dsimp only; omega)), _, _, rfl, (by first | omega | rfl | (dsimp only; omega)), rfl, (Sat.eqs h.drop ?_)⟩
        (exfalso; omega)
        dsimp only at bb6
        refine wrN (i + 1) ?_
        refine ⟨_, (by first | omega | rfl | (dsimp only; omega)), _, _, rfl, (by first | omega | rfl | (dsimp only; omega)), rfl, (Sat.eqs h.drop ?_)⟩
        (exfalso; omega)
        dsimp only at bb5
        refine wrN (i + 1) ?_
        refine ⟨_, (by first | omega | rfl | (dsimp only; omega)), _, _, rfl, (by first | omega | rfl | (dsimp only; omega)), rfl, (Sat.eqs h.drop ?_)⟩
        (exfalso; omega)
        all_goals rw [hsu]
      · rw [if_neg hx, List.append_nil] at hsu
        unfold smallA at hx
        have hz1 := str_size x.name
        have hz2 := str_size x.to
        refine brD (fun cb0 => ?_) (fun cb0 => by exfalso; omega)
        dsimp only at cb0
        refine joinI ?_
        refine ⟨by omega, ?_⟩
        refine nnL h hl (fun ca1 cha1 => ?_)
        refine ldL h hl cha1 ex (fun cy2 chy2 => ?_)
        obtain ⟨cy2s, cy2t, chy2a, chy2b, chy2c, chy2e⟩ := eAct_after chy2
        subst chy2e
        obtain ⟨lchy2a, mchy2a, cchy2a⟩ := chy2a.lens
        obtain ⟨lchy2b, mchy2b, cchy2b⟩ := chy2b.lens
        refine new h fun cr3 _ h => ?_
        refine stNs h .n0 fun _ h => ?_
        refine brD (fun cb4 => ?_) (fun cb4 => by exfalso; omega)
        dsimp only at cb4
        refine ld _ h .n0 ?_
        refine brD (fun cb5 => ?_) (fun cb5 => ?_)
        dsimp only at cb5
        refine ld _ h .n0 ?_
        refine brD (fun cb6 => ?_) (fun cb6 => ?_)
        dsimp only at cb6
        refine ld _ h .n0 ?_
        refine brD (fun cb7 => ?_) (fun cb7 => ?_)
        dsimp only at cb7
        refine ld _ h .n0 ?_
        refine brD (fun cb8 => ?_) (fun cb8 => ?_)
        dsimp only at cb8
        refine ldA7 _ _ _ _ _ _ _ h .n0 ?_
        refine new h fun cr9 _ h => ?_
        refine app1 _ _ slAct h .n1 (by assumption) (fun cs10 _ cl10 h => ?_)
        dsimp only at cl10
        refine wrN (i + 1) ?_
        refine ⟨_, (by first | omega | rfl | (dsimp only; omega)), _, _, rfl, (by first | omega | rfl | (dsimp only; omega)), rfl, (Sat.eqs (h.pick .n1).drop ?_)⟩
        (exfalso; omega)
        dsimp only at cb8
        refine wrN (i + 1) ?_
        refine ⟨_, (by first | omega | rfl | (dsimp only; omega)), _, _, rfl, (by first | omega | rfl | (dsimp only; omega)), rfl, (Sat.eqs h.drop ?_)⟩
        rotate_left
        dsimp only at cb7
        refine wrN (i + 1) ?_
        refine ⟨_, (by first | omega | rfl | (dsimp only; omega)), _, _, rfl, (by first | omega | rfl | (dsimp only; omega)), rfl, (Sat.eqs h.drop ?_)⟩
        rotate_left
        dsimp only at cb6
        refine wrN (i + 1) ?_
        refine ⟨_, (by first | omega | rfl | (dsimp only; omega)), _, _, rfl, (by first | omega | rfl | (dsimp only; omega)), rfl, (Sat.eqs h.drop ?_)⟩
        rotate_left
        dsimp only at cb5
        refine wrN (i + 1) ?_
        refine ⟨_, (by first | omega | rfl | (dsimp only; omega)), _, _, rfl, (by first | omega | rfl | (dsimp only; omega)), rfl, (Sat.eqs h.drop ?_)⟩
        rotate_left
        all_goals rw [hsu]
    · have hov := fewA_over (l := l) (i := i) (by omega)
      refine brD (fun db0 => ?_) (fun db0 => by exfalso; omega)
      dsimp only at db0
      refine joinI ?_
      refine ⟨by omega, ?_⟩
      refine nnL h hl (fun da1 dha1 => ?_)
      refine ldL h hl dha1 ex (fun dy2 dhy2 => ?_)
      obtain ⟨dy2s, dy2t, dhy2a, dhy2b, dhy2c, dhy2e⟩ := eAct_after dhy2
      subst dhy2e
      obtain ⟨ldhy2a, mdhy2a, cdhy2a⟩ := dhy2a.lens
      obtain ⟨ldhy2b, mdhy2b, cdhy2b⟩ := dhy2b.lens
      refine new h fun dr3 _ h => ?_
      refine stNs h .n0 fun _ h => ?_
      refine brD (fun db4 => by exfalso; omega) (fun db4 => ?_)
      dsimp only at db4
      refine wrN (i + 1) ?_
      refine ⟨_, (by first | omega | rfl | (dsimp only; omega)), _, _, rfl, (by first | omega | rfl | (dsimp only; omega)), rfl, (Sat.eqs h.drop ?_)⟩
      rotate_left
      all_goals rw [hov]
  · have : i = l.length := by omega
    subst this
    rw [List.take_length] at h
    refine brD (fun eb0 => by exfalso; omega) (fun eb0 => ?_)
    dsimp only at eb0
    refine ⟨_, rfl, ?_⟩
    obtain ⟨eΓ1, eg1, ef1, h⟩ := h.olFreeze .n0 (by first | omega | (dsimp only; omega))
    have hl := hl.mono eg1
    refine k _ _ _ eg1 ef1 h

end Go.Proofs.Ytohoimokfgfceaa.K

/-
  What an act does of the program's disk.
-/
namespace Go.Proofs.Ytohoimokfgfceaa.K
open Go Go.Proofs
variable {Γ Γ' : Mem} {L L' L'' : List HP} {w w' : World} {A B : HP}
set_option maxRecDepth 100000
set_option maxHeartbeats 4000000

def DiskM.act (m : DiskM) (a : ActM) : DiskM × Int :=
  if a.kind.toNat % 13 = 0 then m.create a.name
  else if a.kind.toNat % 13 = 4 then ((m.read a.name).1, (m.read a.name).2.2)
  else if a.kind.toNat % 13 = 5 then m.sync a.name
  else if a.kind.toNat % 13 = 6 then m.rename a.name a.to
  else if a.kind.toNat % 13 = 7 then m.remove a.name
  else if a.kind.toNat % 13 = 8 then m.syncNames
  else if a.kind.toNat % 13 = 9 then (m.names.1, m.names.2.2)
  else if a.kind.toNat % 13 = 10 then m.doom a.n
  else if a.kind.toNat % 13 = 11 then (m.crash a.wn a.wb, 0)
  else if a.kind.toNat % 13 = 12 then m.grow a.n
  else m.append a.name a.b

theorem dNamesE_ok {a : Nat} {m : DiskM} {K : (Sl × Int) → World → Prop} (h : Sat Γ (PDisk a m :: L) w) (hg : m.g < 1000000000000)
    (k : ∀ s w', Sat Γ (OL eStr TStr s m.names.2.1 :: PDisk a m.names.1 :: L) w' → K (s, m.names.2.2) w') :
    CallP Try.prog 67 [.pointer (some ⟨a, 0, none⟩)] (.tup [.s .sl, .s (.int .i64)]) K w := by
  refine dNames_ok h hg (fun hu w' h => ?_) fun hu s w' h => ?_
  · rw [DiskM.names_down hu] at k
    exact k _ _ h.olNil
  · rw [DiskM.names_up hu] at k
    exact k _ _ h

theorem actA_ok {a : Nat} {m : DiskM} {x : ActM} {s t : Sl} {K : Int → World → Prop} (h : Sat Γ (PDisk a m :: L) w) (hg : m.g + x.b.length < 1000000000000) (hb : Bytes Γ s x.b) (ht : Lst eInt Γ t x.wb) (hn : i64B x.n)
    (k : ∀ Γ' w', Γ.le Γ' → Sat Γ' (PDisk a (m.act x).1 :: L) w' → K (m.act x).2 w') :
    CallP Try.prog 63 [.pointer (some ⟨a, 0, none⟩), .agg #[.int .u8 (x.kind.toNat : Int), .string (str x.name), .string (str x.to), .slice s.p s.len s.cap, .int .i64 x.n, .int .i64 x.wn, .slice t.p t.len t.cap]] (.one (.s (.int .i64))) K w := by
  have hg1 : m.g < 1000000000000 := by omega
  have hkl := x.kind.toNat_lt
  unfold i64B at hn
  have hn2 : x.n < 9223372036854775808 := by omega
  refine callP (fn := Try.f63) [.s (.ptr (some ⟨a, 0, none⟩)), .agg [.int .u8 (x.kind.toNat : Int), .str (str x.name), .str (str x.to), .sl s, .int .i64 x.n, .int .i64 x.wn, .sl t]] .n nong mixed (by kernel_rfl) (by kernel_rfl) rfl rfl ?_
  unfold DiskM.act at k
  by_cases h0 : x.kind.toNat % 13 = 0
  · rw [if_pos h0] at k
    obtain ⟨lhb, mhb, chb⟩ := hb.lens
    obtain ⟨lht, mht, cht⟩ := ht.lens
    refine new h fun ar0 _ h => ?_
    refine ld _ h .n0 ?_
    refine ⟨by omega, ?_⟩
    refine tmd ?_
    refine brE (fun ab1 => ?_) (fun ab1 => by exfalso; omega)
    refine ld _ h .n0 ?_
    refine dCreate_ok (h.pick .n1) hg1 (fun _ h => ?_)
    refine ⟨_, rfl, ?_⟩
    refine k _ _ (.refl _) (h.pick .n1).drop
  rw [if_neg h0] at k
  by_cases h4 : x.kind.toNat % 13 = 4
  · rw [if_pos h4] at k
    obtain ⟨lhb, mhb, chb⟩ := hb.lens
    obtain ⟨lht, mht, cht⟩ := ht.lens
    refine new h fun br0 _ h => ?_
    refine ld _ h .n0 ?_
    refine ⟨by omega, ?_⟩
    refine tmd ?_
    refine brE (fun bb1 => by exfalso; omega) (fun bb1 => ?_)
    refine brE (fun bb2 => ?_) (fun bb2 => by exfalso; omega)
    refine ld _ h .n0 ?_
    refine dRead_ok (h.pick .n1) hg1 (fun bv4 bΓ5 _ bg7 bf8 h => ?_)
    have hb := hb.mono bg7
    have ht := ht.mono bg7
    obtain ⟨lbf8, mbf8, cbf8⟩ := bf8.lens
    refine ⟨_, rfl, ?_⟩
    refine k _ _ bg7 (h.pick .n1).drop
  rw [if_neg h4] at k
  by_cases h5 : x.kind.toNat % 13 = 5
  · rw [if_pos h5] at k
    obtain ⟨lhb, mhb, chb⟩ := hb.lens
    obtain ⟨lht, mht, cht⟩ := ht.lens
    refine new h fun cr0 _ h => ?_
    refine ld _ h .n0 ?_
    refine ⟨by omega, ?_⟩
    refine tmd ?_
    refine brE (fun cb1 => by exfalso; omega) (fun cb1 => ?_)
    refine brE (fun cb2 => by exfalso; omega) (fun cb2 => ?_)
    refine brE (fun cb3 => ?_) (fun cb3 => by exfalso; omega)
    refine ld _ h .n0 ?_
    refine dSync_ok (h.pick .n1) (fun _ h => ?_)
    refine ⟨_, rfl, ?_⟩
    refine k _ _ (.refl _) (h.pick .n1).drop
  rw [if_neg h5] at k
  by_cases h6 : x.kind.toNat % 13 = 6
  · rw [if_pos h6] at k
    obtain ⟨lhb, mhb, chb⟩ := hb.lens
    obtain ⟨lht, mht, cht⟩ := ht.lens
    refine new h fun dr0 _ h => ?_
    refine ld _ h .n0 ?_
    refine ⟨by omega, ?_⟩
    refine tmd ?_
    refine brE (fun db1 => by exfalso; omega) (fun db1 => ?_)
    refine brE (fun db2 => by exfalso; omega) (fun db2 => ?_)
    refine brE (fun db3 => by exfalso; omega) (fun db3 => ?_)
    refine brE (fun db4 => ?_) (fun db4 => by exfalso; omega)
    refine ld _ h .n0 ?_
    refine ld _ h .n0 ?_
    refine dRename_ok (h.pick .n1) hg1 (fun _ h => ?_)
    refine ⟨_, rfl, ?_⟩
    refine k _ _ (.refl _) (h.pick .n1).drop
  rw [if_neg h6] at k
  by_cases h7 : x.kind.toNat % 13 = 7
  · rw [if_pos h7] at k
    obtain ⟨lhb, mhb, chb⟩ := hb.lens
    obtain ⟨lht, mht, cht⟩ := ht.lens
    refine new h fun er0 _ h => ?_
    refine ld _ h .n0 ?_
    refine ⟨by omega, ?_⟩
    refine tmd ?_
    refine brE (fun eb1 => by exfalso; omega) (fun eb1 => ?_)
    refine brE (fun eb2 => by exfalso; omega) (fun eb2 => ?_)
    refine brE (fun eb3 => by exfalso; omega) (fun eb3 => ?_)
    refine brE (fun eb4 => by exfalso; omega) (fun eb4 => ?_)
    refine brE (fun eb5 => ?_) (fun eb5 => by exfalso; omega)
    refine ld _ h .n0 ?_
    refine dRemove_ok (h.pick .n1) hg1 (fun _ h => ?_)
    refine ⟨_, rfl, ?_⟩
    refine k _ _ (.refl _) (h.pick .n1).drop
  rw [if_neg h7] at k
  by_cases h8 : x.kind.toNat % 13 = 8
  · rw [if_pos h8] at k
    obtain ⟨lhb, mhb, chb⟩ := hb.lens
    obtain ⟨lht, mht, cht⟩ := ht.lens
    refine new h fun fr0 _ h => ?_
    refine ld _ h .n0 ?_
    refine ⟨by omega, ?_⟩
    refine tmd ?_
    refine brE (fun fb1 => by exfalso; omega) (fun fb1 => ?_)
    refine brE (fun fb2 => by exfalso; omega) (fun fb2 => ?_)
    refine brE (fun fb3 => by exfalso; omega) (fun fb3 => ?_)
    refine brE (fun fb4 => by exfalso; omega) (fun fb4 => ?_)
    refine brE (fun fb5 => by exfalso; omega) (fun fb5 => ?_)
    refine brE (fun fb6 => ?_) (fun fb6 => by exfalso; omega)
    refine dSyncNames_ok (h.pick .n1) hg1 (fun _ h => ?_)
    refine ⟨_, rfl, ?_⟩
    refine k _ _ (.refl _) (h.pick .n1).drop
  rw [if_neg h8] at k
  by_cases h9 : x.kind.toNat % 13 = 9
  · rw [if_pos h9] at k
    obtain ⟨lhb, mhb, chb⟩ := hb.lens
    obtain ⟨lht, mht, cht⟩ := ht.lens
    refine new h fun gr0 _ h => ?_
    refine ld _ h .n0 ?_
    refine ⟨by omega, ?_⟩
    refine tmd ?_
    refine brE (fun gb1 => by exfalso; omega) (fun gb1 => ?_)
    refine brE (fun gb2 => by exfalso; omega) (fun gb2 => ?_)
    refine brE (fun gb3 => by exfalso; omega) (fun gb3 => ?_)
    refine brE (fun gb4 => by exfalso; omega) (fun gb4 => ?_)
    refine brE (fun gb5 => by exfalso; omega) (fun gb5 => ?_)
    refine brE (fun gb6 => by exfalso; omega) (fun gb6 => ?_)
    refine brE (fun gb7 => ?_) (fun gb7 => by exfalso; omega)
    refine dNamesE_ok (h.pick .n1) hg1 (fun gv9 _ h => ?_)
    refine ⟨_, rfl, ?_⟩
    refine k _ _ (.refl _) (h.drop.pick .n1).drop
  rw [if_neg h9] at k
  by_cases h10 : x.kind.toNat % 13 = 10
  · rw [if_pos h10] at k
    obtain ⟨lhb, mhb, chb⟩ := hb.lens
    obtain ⟨lht, mht, cht⟩ := ht.lens
    refine new h fun ir0 _ h => ?_
    refine ld _ h .n0 ?_
    refine ⟨by omega, ?_⟩
    refine tmd ?_
    refine brE (fun ib1 => by exfalso; omega) (fun ib1 => ?_)
    refine brE (fun ib2 => by exfalso; omega) (fun ib2 => ?_)
    refine brE (fun ib3 => by exfalso; omega) (fun ib3 => ?_)
    refine brE (fun ib4 => by exfalso; omega) (fun ib4 => ?_)
    refine brE (fun ib5 => by exfalso; omega) (fun ib5 => ?_)
    refine brE (fun ib6 => by exfalso; omega) (fun ib6 => ?_)
    refine brE (fun ib7 => by exfalso; omega) (fun ib7 => ?_)
    refine brE (fun ib8 => ?_) (fun ib8 => by exfalso; omega)
    refine ld _ h .n0 ?_
    refine dDoom_ok (h.pick .n1) hn2 (fun _ h => ?_)
    refine ⟨_, rfl, ?_⟩
    refine k _ _ (.refl _) (h.pick .n1).drop
  rw [if_neg h10] at k
  by_cases h11 : x.kind.toNat % 13 = 11
  · rw [if_pos h11] at k
    obtain ⟨lhb, mhb, chb⟩ := hb.lens
    obtain ⟨lht, mht, cht⟩ := ht.lens
    refine new h fun jr0 _ h => ?_
    refine ld _ h .n0 ?_
    refine ⟨by omega, ?_⟩
    refine tmd ?_
    refine brE (fun jb1 => by exfalso; omega) (fun jb1 => ?_)
    refine brE (fun jb2 => by exfalso; omega) (fun jb2 => ?_)
    refine brE (fun jb3 => by exfalso; omega) (fun jb3 => ?_)
    refine brE (fun jb4 => by exfalso; omega) (fun jb4 => ?_)
    refine brE (fun jb5 => by exfalso; omega) (fun jb5 => ?_)
    refine brE (fun jb6 => by exfalso; omega) (fun jb6 => ?_)
    refine brE (fun jb7 => by exfalso; omega) (fun jb7 => ?_)
    refine brE (fun jb8 => by exfalso; omega) (fun jb8 => ?_)
    refine brE (fun jb9 => ?_) (fun jb9 => by exfalso; omega)
    refine ldA2 _ _ h .n0 ?_
    refine dCrash_ok (h.pick .n1) hg1 ht (fun _ h => ?_)
    refine ⟨_, rfl, ?_⟩
    refine k _ _ (.refl _) (h.pick .n1).drop
  rw [if_neg h11] at k
  by_cases h12 : x.kind.toNat % 13 = 12
  · rw [if_pos h12] at k
    obtain ⟨lhb, mhb, chb⟩ := hb.lens
    obtain ⟨lht, mht, cht⟩ := ht.lens
    refine new h fun lr0 _ h => ?_
    refine ld _ h .n0 ?_
    refine ⟨by omega, ?_⟩
    refine tmd ?_
    refine brE (fun lb1 => by exfalso; omega) (fun lb1 => ?_)
    refine brE (fun lb2 => by exfalso; omega) (fun lb2 => ?_)
    refine brE (fun lb3 => by exfalso; omega) (fun lb3 => ?_)
    refine brE (fun lb4 => by exfalso; omega) (fun lb4 => ?_)
    refine brE (fun lb5 => by exfalso; omega) (fun lb5 => ?_)
    refine brE (fun lb6 => by exfalso; omega) (fun lb6 => ?_)
    refine brE (fun lb7 => by exfalso; omega) (fun lb7 => ?_)
    refine brE (fun lb8 => by exfalso; omega) (fun lb8 => ?_)
    refine brE (fun lb9 => by exfalso; omega) (fun lb9 => ?_)
    refine brE (fun lb10 => ?_) (fun lb10 => by exfalso; omega)
    refine ld _ h .n0 ?_
    refine dGrow_ok (h.pick .n1) (fun _ h => ?_)
    refine ⟨_, rfl, ?_⟩
    refine k _ _ (.refl _) (h.pick .n1).drop
  rw [if_neg h12] at k
  obtain ⟨lhb, mhb, chb⟩ := hb.lens
  obtain ⟨lht, mht, cht⟩ := ht.lens
  refine new h fun mr0 _ h => ?_
  refine ld _ h .n0 ?_
  refine ⟨by omega, ?_⟩
  refine tmd ?_
  refine brE (fun mb1 => by exfalso; omega) (fun mb1 => ?_)
  refine brE (fun mb2 => by exfalso; omega) (fun mb2 => ?_)
  refine brE (fun mb3 => by exfalso; omega) (fun mb3 => ?_)
  refine brE (fun mb4 => by exfalso; omega) (fun mb4 => ?_)
  refine brE (fun mb5 => by exfalso; omega) (fun mb5 => ?_)
  refine brE (fun mb6 => by exfalso; omega) (fun mb6 => ?_)
  refine brE (fun mb7 => by exfalso; omega) (fun mb7 => ?_)
  refine brE (fun mb8 => by exfalso; omega) (fun mb8 => ?_)
  refine brE (fun mb9 => by exfalso; omega) (fun mb9 => ?_)
  refine brE (fun mb10 => by exfalso; omega) (fun mb10 => ?_)
  refine ld _ h .n0 ?_
  refine ld _ h .n0 ?_
  refine dAppend_ok (h.pick .n1) hb hg (fun mΓ12 _ mg14 h => ?_)
  have hb := hb.mono mg14
  have ht := ht.mono mg14
  refine ⟨_, rfl, ?_⟩
  refine k _ _ mg14 (h.pick .n1).drop

end Go.Proofs.Ytohoimokfgfceaa.K

/-
  What acts leave as it was (plain laws of DiskM).
-/
namespace Go.Proofs.Ytohoimokfgfceaa.K

namespace DiskM
variable {m : DiskM} {x : ActM}

theorem act_wf (h : Wf m) (hn : i64B x.n) : Wf (m.act x).1 := by
  unfold act
  unfold i64B at hn
  repeat' split
  · exact h.create _
  · exact h.read _
  · exact h.sync _
  · exact h.rename _ _
  · exact h.remove _
  · exact h.syncNames
  · exact h.names
  · exact h.doom (by omega)
  · exact h.crash _ _
  · exact h.grow _
  · exact h.append _ _

theorem does_g {c : ChM} : (m.does c).g = m.g + 1 := rfl

theorem act_g : (m.act x).1.g ≤ m.g + (2 + x.b.length) := by
  unfold act
  repeat' split
  · unfold create; dsimp only; repeat' split
    all_goals first | (simp only [does_g, tick_g]; omega) | (rw [tick_g]; omega)
  · unfold read; dsimp only; repeat' split
    all_goals (rw [tick_g]; omega)
  · unfold sync; dsimp only; repeat' split
    all_goals (simp only [tick_g]; omega)
  · unfold rename; dsimp only; repeat' split
    all_goals first | (simp only [does_g, tick_g]; omega) | (rw [tick_g]; omega)
  · unfold remove; dsimp only; repeat' split
    all_goals first | (simp only [does_g, tick_g]; omega) | (rw [tick_g]; omega)
  · unfold syncNames; dsimp only; repeat' split
    all_goals (simp only [tick_g]; omega)
  · unfold names; dsimp only; repeat' split
    all_goals (simp only [tick_g]; omega)
  · unfold doom; repeat' split
    all_goals (dsimp only; omega)
  · unfold crash; dsimp only; omega
  · unfold grow; repeat' split
    all_goals (dsimp only; omega)
  · unfold append; dsimp only; repeat' split
    all_goals (simp only [tick_g]; omega)

theorem act_room (hk : x.kind.toNat % 13 ≠ 12) : (m.act x).1.room = m.room := by
  unfold act
  rw [if_neg hk]
  repeat' split
  · unfold create does; dsimp only; repeat' split
    all_goals simp only [tick_room]
  · unfold read; dsimp only; repeat' split
    all_goals simp only [tick_room]
  · unfold sync; dsimp only; repeat' split
    all_goals simp only [tick_room]
  · unfold rename does; dsimp only; repeat' split
    all_goals simp only [tick_room]
  · unfold remove does; dsimp only; repeat' split
    all_goals simp only [tick_room]
  · unfold syncNames; dsimp only; repeat' split
    all_goals simp only [tick_room]
  · unfold names; dsimp only; repeat' split
    all_goals simp only [tick_room]
  · unfold doom; repeat' split
    all_goals rfl
  · rfl
  · unfold append; dsimp only; repeat' split
    all_goals simp only [tick_room]

end DiskM

/-- a part of other numbers -/
theorem sum_sub {f : Nat → Nat} : ∀ {l1 l2 : List Nat}, l1.Nodup → (∀ i ∈ l1, i ∈ l2) → (l1.map f).sum ≤ (l2.map f).sum
  | [], _, _, _ => Nat.zero_le _
  | a :: l, l2, hn, hs => by
    have ha : a ∈ l2 := hs a (.head _)
    obtain ⟨p, q, e⟩ := List.append_of_mem ha
    obtain ⟨h1, h2⟩ := List.nodup_cons.1 hn
    have := sum_sub (f := f) (l1 := l) (l2 := p ++ q) h2 fun i hi => by
      have h3 := hs i (.tail _ hi)
      rw [e] at h3
      rcases List.mem_append.1 h3 with h | h
      · exact List.mem_append_left _ h
      · rcases List.mem_cons.1 h with rfl | h
        · exact absurd hi h1
        · exact List.mem_append_right _ h
    rw [e]
    simp only [List.map_append, List.map_cons, List.sum_append, List.sum_cons] at this ⊢
    omega

end Go.Proofs.Ytohoimokfgfceaa.K

/-
  What the disk's statements hold against each other, and the document's examples.
-/
namespace Go.Proofs.Ytohoimokfgfceaa.K
open Go Go.Proofs
variable {Γ Γ' : Mem} {L L' L'' : List HP} {w w' : World} {A B : HP}
set_option maxRecDepth 100000
set_option maxHeartbeats 4000000

theorem texts_ok {s t : Sl} {l m : List Str} {K : Bool → World → Prop} (h : Sat Γ L w) (hl : Lst eStr Γ s l) (hm : Lst eStr Γ t m) (k1 : l = m → ∀ w', Sat Γ L w' → K true w') (k2 : l ≠ m → ∀ w', Sat Γ L w' → K false w') :
    CallP Try.prog 78 [.slice s.p s.len s.cap, .slice t.p t.len t.cap] (.one (.s .bool)) K w := by
  obtain ⟨hlen, hsm, _⟩ := hl.lens
  obtain ⟨hlen2, hsm2, _⟩ := hm.lens
  refine callP (fn := Try.f78) [.s (.sl s), .s (.sl t)] (.p .n (.p .n (.p (.p .n (.b (.l [12, 1, 0] [(13, .s (.int .i64))] (.p .n (.p .n (.p (.b (.p .n (.p .s .n))) .n)))))) .n))) nong mixed (by kernel_rfl) (by kernel_rfl) rfl rfl ?_
  by_cases hne : l.length = m.length
  · refine brN (fun ab0 => by exfalso; omega) (fun ab0 => ?_)
    rotate_left
    refine loop (σ := Int) (fun st w' n => ∃ i : Nat, st = (i : Int) ∧ i ≤ l.length ∧ n = l.length - i ∧ l.take i = m.take i ∧ Sat Γ L w') l.length ⟨0, rfl, by omega, by omega, rfl, h⟩ ?_
    clear h
    rintro _ w n ⟨i, rfl, hi, hn, he, h⟩
    by_cases hil : i < l.length
    · obtain ⟨x, ex⟩ := get_lt hil
      obtain ⟨y, ey⟩ := get_lt (xs := m) (i := i) (by omega)
      have htl : l.take (i + 1) = l.take i ++ [x] := by rw [List.take_add_one, ex]; rfl
      have htm : m.take (i + 1) = m.take i ++ [y] := by rw [List.take_add_one, ey]; rfl
      by_cases hxy : x = y
      · have he2 : l.take (i + 1) = m.take (i + 1) := by rw [htl, htm, he, hxy]
        refine brD (fun bb0 => ?_) (fun bb0 => by exfalso; omega)
        refine dr h fun _ h => ?_
        refine ⟨by omega, ?_⟩
        refine nnL h hl (fun ba1 bha1 => ?_)
        refine ldL' h hl bha1 (i := i) (fun bx2 be2 by2 bhy2 => ?_)
        have bhy2 : by2 = str bx2 := bhy2
        subst bhy2
        refine ⟨by omega, ?_⟩
        refine nnL h hm (fun ba3 bha3 => ?_)
        refine ldL' h hm bha3 (i := i) (fun bx4 be4 by4 bhy4 => ?_)
        have bhy4 : by4 = str bx4 := bhy4
        subst bhy4
        refine brSn (fun bb5 => ?_) (fun bb5 => ?_)
        refine ⟨_, rfl, ?_⟩
        refine k2 ?_ _ h
        rotate_left
        refine wrN (i + 1) ?_
        refine ⟨_, (by first | omega | rfl | (dsimp only; omega)), _, rfl, (by first | omega | rfl | (dsimp only; omega)), rfl, he2, h⟩
        exact fun _ => bb5 (by rw [← Option.some.inj (ex.symm.trans be2), ← Option.some.inj (ey.symm.trans be4), hxy])
      · have hlm : l ≠ m := fun e => by rw [e, ey] at ex; exact hxy (Option.some.inj ex).symm
        refine brD (fun cb0 => ?_) (fun cb0 => by exfalso; omega)
        refine dr h fun _ h => ?_
        refine ⟨by omega, ?_⟩
        refine nnL h hl (fun ca1 cha1 => ?_)
        refine ldL' h hl cha1 (i := i) (fun cx2 ce2 cy2 chy2 => ?_)
        have chy2 : cy2 = str cx2 := chy2
        subst chy2
        refine ⟨by omega, ?_⟩
        refine nnL h hm (fun ca3 cha3 => ?_)
        refine ldL' h hm cha3 (i := i) (fun cx4 ce4 cy4 chy4 => ?_)
        have chy4 : cy4 = str cx4 := chy4
        subst chy4
        refine brSn (fun cb5 => ?_) (fun cb5 => ?_)
        refine ⟨_, rfl, ?_⟩
        refine k2 hlm _ h
        refine wrN (i + 1) ?_
        refine ⟨_, (by first | omega | rfl | (dsimp only; omega)), _, rfl, (by first | omega | rfl | (dsimp only; omega)), rfl, ?_, h⟩
        rotate_left
        exact absurd ((Option.some.inj (ex.symm.trans ce2)).trans (cb5.trans (Option.some.inj (ce4.symm.trans ey)))) hxy
    · have : i = l.length := by omega
      subst this
      have hlm : l = m := by rw [List.take_length, hne, List.take_length] at he; exact he
      refine brD (fun db0 => by exfalso; omega) (fun db0 => ?_)
      refine ⟨_, rfl, ?_⟩
      refine k1 hlm _ h
  · have hlm : l ≠ m := fun e => hne (by rw [e])
    refine brN (fun eb0 => ?_) (fun eb0 => by exfalso; omega)
    refine ⟨_, rfl, ?_⟩
    refine k2 hlm _ h

def quiet (m : DiskM) : Prop := m.down = false ∧ m.doomed = false
theorem quiet.up {m : DiskM} (h : quiet m) : m.up = true := by simp [DiskM.up, h.1, h.2]
theorem quiet.tick {m : DiskM} (h : quiet m) : m.tick = m := by simp [DiskM.tick, h.1, h.2]

theorem mk5_pr {K : Sl → World → Prop} (h : Sat Γ L w) (k : ∀ s Γ' w', Γ.le Γ' → Bytes Γ' s [0, 0, 0, 0, 0] → Sat Γ' L w' → K s w') :
    Prim Try.prog (Instr.makeSlice 32 (.int .i64 5) (.int .i64 5)) (.one (.s .sl)) K w := mkO (E := eByte) (n := 5) (c := 5) (0 : Int) (0 : UInt8) slBytes h (by decide) rfl (by decide) fun s w' e _ h => by
    obtain ⟨Γ', g, f, h⟩ := h.olFreeze .n0 (by omega)
    exact k s Γ' w' g f.bytes h

theorem mk8_pr {K : Sl → World → Prop} (h : Sat Γ L w) (k : ∀ s Γ' w', Γ.le Γ' → Bytes Γ' s [0, 0, 0, 0, 0, 0, 0, 0] → Sat Γ' L w' → K s w') :
    Prim Try.prog (Instr.makeSlice 32 (.int .i64 8) (.int .i64 8)) (.one (.s .sl)) K w := mkO (E := eByte) (n := 8) (c := 8) (0 : Int) (0 : UInt8) slBytes h (by decide) rfl (by decide) fun s w' e _ h => by
    obtain ⟨Γ', g, f, h⟩ := h.olFreeze .n0 (by omega)
    exact k s Γ' w' g f.bytes h

theorem shown_ok {K : Bool → World → Prop} (h : Sat Γ L w) (k : ∀ Γ' w', Γ.le Γ' → Sat Γ' L w' → K true w') :
    CallP Try.prog 60 [] (.one (.s .bool)) K w := by
  refine callP (fn := Try.f60) [] (.p .n (.p .n (.j [1] [] .n (.p .n (.j [1] [] .n .n))))) nong mixed (by kernel_rfl) (by kernel_rfl) rfl rfl ?_
  refine dNew_ok h (fun av1 _ h => ?_)
  refine joinI ?_
  refine brF ?_
  refine dCreate_ok h (by first | omega | decide) (fun _ h => ?_)
  refine brF ?_
  refine mk5_pr h (fun av8 aΓ9 _ ag11 af12 h => ?_)
  obtain ⟨laf12, maf12, caf12⟩ := af12.lens
  refine dAppend_ok h af12 (by first | omega | decide) (fun aΓ15 _ ag17 h => ?_)
  have af12 := af12.mono ag17
  refine brF ?_
  refine dCrash_ok h (by first | omega | decide) (.nil _ _) (fun _ h => ?_)
  refine brF ?_
  refine dNamesE_ok h (by first | omega | decide) (fun av23 _ h => ?_)
  refine joinI ?_
  refine brN (fun ab26 => ?_) (fun ab26 => ?_)
  dsimp only at ab26
  refine ⟨_, rfl, ?_⟩
  rotate_left
  dsimp only at ab26
  refine brF ?_
  refine dCreate_ok (h.pick .n1) (by first | omega | decide) (fun _ h => ?_)
  refine brF ?_
  refine dSyncNames_ok h (by first | omega | decide) (fun _ h => ?_)
  refine brF ?_
  refine mk5_pr h (fun av34 aΓ35 _ ag37 af38 h => ?_)
  have af12 := af12.mono ag37
  obtain ⟨laf38, maf38, caf38⟩ := af38.lens
  refine dAppend_ok h af38 (by first | omega | decide) (fun aΓ41 _ ag43 h => ?_)
  have af38 := af38.mono ag43
  have af12 := af12.mono ag43
  refine brF ?_
  refine new h fun ar45 _ h => ?_
  rotate_left
  · have e := h.olLen .n0
    exact absurd (by rw [e]; rfl) ab26
  · have h2 := Sat.whole (n := 1) (sz := 1) h rfl
    have h3 := Sat.toOl (E := eInt) (ys := [(2 : Int)]) (xs := [(2 : Int)]) h2 (.cons rfl .nil)
    obtain ⟨Γ2, g2, f2, h⟩ := h3.olFreeze .n0 (by dsimp only; omega)
    have e0 := h.olLen .n1
    refine dCrash_ok (n := 0) (h.pick .n0) (by decide) f2 fun _ h => ?_
    have af38 := af38.mono g2
    have af12 := af12.mono g2
    refine brF ?_
    refine dRead_ok h (by first | omega | decide) (fun bv1 bΓ2 _ bg4 bf5 h => ?_)
    have f2 := f2.mono bg4
    have af38 := af38.mono bg4
    have af12 := af12.mono bg4
    obtain ⟨lbf5, mbf5, cbf5⟩ := bf5.lens
    refine brE (fun bb7 => ?_) (fun bb7 => ?_)
    dsimp only at bb7
    refine brT ?_
    refine mk8_pr h (fun bv9 bΓ10 _ bg12 bf13 h => ?_)
    have bf5 := bf5.mono bg12
    have f2 := f2.mono bg12
    have af38 := af38.mono bg12
    have af12 := af12.mono bg12
    obtain ⟨lbf13, mbf13, cbf13⟩ := bf13.lens
    refine dAppend_ok h bf13 (by first | omega | decide) (fun bΓ16 _ bg18 h => ?_)
    have bf13 := bf13.mono bg18
    have bf5 := bf5.mono bg18
    have f2 := f2.mono bg18
    have af38 := af38.mono bg18
    have af12 := af12.mono bg18
    refine ⟨_, rfl, ?_⟩
    refine k _ _ (ag11.trans (ag17.trans (ag37.trans (ag43.trans (g2.trans (bg4.trans (bg12.trans bg18))))))) h.drop.drop
    dsimp only at bb7
    refine ⟨_, rfl, ?_⟩
    rotate_left
    exact absurd (by rw [bf5.len]; rfl) bb7

theorem dNamesQuiet_ok {a : Nat} {m : DiskM} {K : (Sl × Int) → World → Prop} (h : Sat Γ (PDisk a m :: L) w) (hq : quiet m) (hg : m.g < 1000000000000)
    (k : ∀ s Γ' w', Γ.le Γ' → Lst eStr Γ' s (m.now.map Prod.fst) → Sat Γ' (PDisk a m :: L) w' → K (s, 0) w') :
    CallP Try.prog 67 [.pointer (some ⟨a, 0, none⟩)] (.tup [.s .sl, .s (.int .i64)]) K w := by
  obtain ⟨ps, h0⟩ := h.pd
  have hw := (Sat.pdOK (M := filesL ps m.files) h0).wf
  have hl := hw.nowLen
  refine dNames_ok h hg (fun hu _ _ => ?_) fun hu s w' h => ?_
  · rw [hq.up] at hu; cases hu
  · rw [hq.tick] at h
    have e := h.olLen .n0
    rw [List.length_map] at e
    obtain ⟨Γ', g, f, h⟩ := h.olFreeze .n0 (by omega)
    exact k s Γ' w' g f h

theorem dReadQuiet_ok {a : Nat} {m : DiskM} {s : Str} {K : (Sl × Int) → World → Prop} (h : Sat Γ (PDisk a m :: L) w) (hq : quiet m) (hg : m.g < 1000000000000)
    (k : ∀ t Γ' w', Γ.le Γ' → Bytes Γ' t (m.read s).2.1 → Sat Γ' (PDisk a m :: L) w' → K (t, (m.read s).2.2) w') :
    CallP Try.prog 53 [.pointer (some ⟨a, 0, none⟩), .string (str s)] (.tup [.s .sl, .s (.int .i64)]) K w :=
  dRead_ok h hg fun t Γ' w' g f h => k t Γ' w' g f (by
    have e : (m.read s).1 = m := by
      unfold DiskM.read
      rw [hq.up, hq.tick]
      dsimp only
      split
      · rfl
      · split <;> rfl
    rw [e] at h
    exact h)

theorem alike_ok {a b : Nat} {m1 m2 : DiskM} {K : Bool → World → Prop} (h : Sat Γ (PDisk a m1 :: PDisk b m2 :: L) w) (hq1 : quiet m1) (hq2 : quiet m2) (hg1 : m1.g < 1000000000000) (hg2 : m2.g < 1000000000000)
    (hn : m1.now.map Prod.fst = m2.now.map Prod.fst) (hr : ∀ s ∈ m2.now.map Prod.fst, (m1.read s).2 = (m2.read s).2) (k : ∀ Γ' w', Γ.le Γ' → Sat Γ' (PDisk a m1 :: PDisk b m2 :: L) w' → K true w') :
    CallP Try.prog 65 [.pointer (some ⟨a, 0, none⟩), .pointer (some ⟨b, 0, none⟩)] (.one (.s .bool)) K w := by
  refine callP (fn := Try.f65) [.s (.ptr (some ⟨a, 0, none⟩)), .s (.ptr (some ⟨b, 0, none⟩))] (.p .n (.p .n (.p .n (.j [7, 1, 0] [] .n (.p (.p .n (.b (.l [35, 1, 0, 34] [(36, .s (.int .i64))] (.p .n (.p .n (.p (.k [36, 35, 1, 0, 34] [] .n) .n)))))) .n))))) nong mixed (by kernel_rfl) (by kernel_rfl) rfl rfl ?_
  refine dNamesQuiet_ok h hq1 hg1 (fun av1 aΓ2 _ ag4 af5 h => ?_)
  obtain ⟨laf5, maf5, caf5⟩ := af5.lens
  refine dNamesQuiet_ok (h.pick .n1) hq2 hg2 (fun av8 aΓ9 _ ag11 af12 h => ?_)
  have af5 := af5.mono ag11
  obtain ⟨laf12, maf12, caf12⟩ := af12.lens
  refine joinI ?_
  refine texts_ok h af5 af12 (fun ap15 _ h => ?_) (fun ap18 _ h => ?_)
  refine brF ?_
  refine brF ?_
  rotate_left
  refine brT ?_
  refine ⟨_, rfl, ?_⟩
  contradiction
  refine loop (σ := Int) (fun st w' n => ∃ (i : Nat) (Γ' : Mem), st = (i : Int) ∧ i ≤ (m2.now.map Prod.fst).length ∧ n = (m2.now.map Prod.fst).length - i ∧ aΓ9.le Γ' ∧ Sat Γ' (PDisk a m1 :: PDisk b m2 :: L) w') (m2.now.map Prod.fst).length ⟨0, aΓ9, rfl, by omega, by omega, .refl _, h.pick .n1⟩ ?_
  clear h
  rintro _ w n ⟨i, Γ3, rfl, hi, hn2, g3, h⟩
  have af13 := af12.mono g3
  by_cases hil : i < (m2.now.map Prod.fst).length
  · obtain ⟨s, es⟩ := get_lt hil
    have hrs := hr s (List.mem_of_getElem? es)
    have hr1 : (m1.read s).2.1 = (m2.read s).2.1 := congrArg Prod.fst hrs
    have hr2 : (m1.read s).2.2 = (m2.read s).2.2 := congrArg Prod.snd hrs
    have af12 := af12.mono g3
    have af5 := af5.mono g3
    refine brD (fun bb0 => ?_) (fun bb0 => ?_)
    dsimp only at bb0
    refine joinI ?_
    refine ⟨by dsimp only; omega, ?_⟩
    refine nnL h af12 (fun ba1 bha1 => ?_)
    dsimp only at bha1
    refine ldL h af12 bha1 es (fun by2 bhy2 => ?_)
    have bhy2 : by2 = str s := bhy2
    subst bhy2
    refine dReadQuiet_ok h hq1 hg1 (fun bv4 bΓ5 _ bg7 bf8 h => ?_)
    have af13 := af13.mono bg7
    have af12 := af12.mono bg7
    have af5 := af5.mono bg7
    obtain ⟨lbf8, mbf8, cbf8⟩ := bf8.lens
    refine dReadQuiet_ok (h.pick .n1) hq2 hg2 (fun bv11 bΓ12 _ bg14 bf15 h => ?_)
    have bf8 := bf8.mono bg14
    have af13 := af13.mono bg14
    have af12 := af12.mono bg14
    have af5 := af5.mono bg14
    obtain ⟨lbf15, mbf15, cbf15⟩ := bf15.lens
    refine btoS h bf8 ?_
    refine btoS h bf15 ?_
    refine brSn (fun bb17 => ?_) (fun bb17 => ?_)
    refine ⟨_, rfl, ?_⟩
    contradiction
    refine brN (fun bb18 => by exfalso; omega) (fun bb18 => ?_)
    dsimp only at bb18
    refine wrN (i + 1) ?_
    refine ⟨_, (by first | omega | rfl | (dsimp only; omega)), _, _, rfl, (by first | omega | rfl | (dsimp only; omega)), rfl, (g3.trans (bg7.trans bg14)), (h.pick .n1)⟩
    dsimp only at bb0
    refine ⟨_, rfl, ?_⟩
    refine k _ _ (ag4.trans (ag11.trans g3)) ((h.pick .n1).pick .n1)
  · have af12 := af12.mono g3
    have af5 := af5.mono g3
    refine brD (fun cb0 => ?_) (fun cb0 => ?_)
    dsimp only at cb0
    refine joinI ?_
    refine ⟨by omega, ?_⟩
    refine nnL h af12 (fun ca1 cha1 => ?_)
    dsimp only at cha1
    refine ldL' h af12 cha1 (i := i) (fun cx2 ce2 cy2 chy2 => ?_)
    have chy2 : cy2 = str cx2 := chy2
    subst chy2
    refine dReadQuiet_ok h hq1 hg1 (fun cv4 cΓ5 _ cg7 cf8 h => ?_)
    have af13 := af13.mono cg7
    have af12 := af12.mono cg7
    have af5 := af5.mono cg7
    obtain ⟨lcf8, mcf8, ccf8⟩ := cf8.lens
    refine dReadQuiet_ok (h.pick .n1) hq2 hg2 (fun cv11 cΓ12 _ cg14 cf15 h => ?_)
    have cf8 := cf8.mono cg14
    have af13 := af13.mono cg14
    have af12 := af12.mono cg14
    have af5 := af5.mono cg14
    obtain ⟨lcf15, mcf15, ccf15⟩ := cf15.lens
    refine btoS h cf8 ?_
    refine btoS h cf15 ?_
    refine brSn (fun cb17 => ?_) (fun cb17 => ?_)
    refine ⟨_, rfl, ?_⟩
    (exfalso; omega)
    refine brN (fun cb18 => by exfalso; omega) (fun cb18 => ?_)
    dsimp only at cb18
    refine wrN (i + 1) ?_
    refine ⟨_, (by first | omega | rfl | (dsimp only; omega)), _, _, rfl, (by first | omega | rfl | (dsimp only; omega)), rfl, (g3.trans (cg7.trans cg14)), (h.pick .n1)⟩
    dsimp only at cb0
    refine ⟨_, rfl, ?_⟩
    refine k _ _ (ag4.trans (ag11.trans g3)) ((h.pick .n1).pick .n1)

theorem pd_wf {a : Nat} {m : DiskM} (h : Sat Γ (PDisk a m :: L) w) : Wf m := by
  obtain ⟨ps, h0⟩ := h.pd
  exact (Sat.pdOK (M := filesL ps m.files) h0).wf

theorem dReadQuietIs_ok {a : Nat} {m : DiskM} {s b : Str} {c : Int} {K : (Sl × Int) → World → Prop} (h : Sat Γ (PDisk a m :: L) w) (hq : quiet m) (e : (m.read s).2 = (b, c)) (hg : m.g < 1000000000000)
    (k : ∀ t Γ' w', Γ.le Γ' → Bytes Γ' t b → Sat Γ' (PDisk a m :: L) w' → K (t, c) w') :
    CallP Try.prog 53 [.pointer (some ⟨a, 0, none⟩), .string (str s)] (.tup [.s .sl, .s (.int .i64)]) K w :=
  dReadQuiet_ok h hq hg fun t Γ' w' g f h => by
    rw [e] at f ⊢
    exact k t Γ' w' g f h

theorem dSyncNamesQuiet_ok {a : Nat} {m : DiskM} {K : Int → World → Prop} (h : Sat Γ (PDisk a m :: L) w) (hq : quiet m) (hg : m.g < 1000000000000) (k : ∀ w', Sat Γ (PDisk a m.syncNames.1 :: L) w' → K 0 w') :
    CallP Try.prog 77 [.pointer (some ⟨a, 0, none⟩)] (.one (.s (.int .i64))) K w :=
  dSyncNames_ok h hg fun w' h => by
    have e : m.syncNames.2 = 0 := by rw [DiskM.syncNames_up hq.up]
    rw [e]
    exact k w' h

theorem DiskM.read_len {m : DiskM} (hw : Wf m) (s : Str) : (m.read s).2.1.length ≤ m.g := by
  cases hu : m.up with
  | false => rw [DiskM.read_down hu]; exact Nat.zero_le _
  | true =>
    cases hf : findN m.now s with
    | none => rw [DiskM.read_none hu hf]; exact Nat.zero_le _
    | some i => rw [DiskM.read_some hu hf]; exact hw.fileAt_len i

end Go.Proofs.Ytohoimokfgfceaa.K
