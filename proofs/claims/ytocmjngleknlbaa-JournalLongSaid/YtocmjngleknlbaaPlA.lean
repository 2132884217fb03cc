/-
  place, the program's: one thing behind the other, bytes in parts.
-/
import Derived.Test.YtocmjngleknlbaaPlM
import Derived.Test.YtocmjngleknlbaaDkX
import Derived.Test.YtocmjngleknlbaaDkV
namespace Go.Proofs.Ytocmjngleknlbaa.K
open Go Go.Proofs
variable {Γ Γ' : Mem} {L L' L'' : List HP} {w w' : World} {A B : HP}
set_option maxRecDepth 100000
set_option maxHeartbeats 1000000

/-- function values in a row -/
def eFn : Enc Value := ⟨.s .val, fun _ y v => y = v ∧ One v, fun h _ => h, fun h v hv => by
  simp [Sh.cells] at hv
  subst hv
  obtain ⟨h1, h2⟩ := h
  rw [h1]
  exact h2⟩

theorem eFn_after {Γ : Mem} {y : eFn.sh.T} {x : Value} (h : eFn.r Γ y x) : y = x := h.1

/-- a function value that does something to a disk -/
def StepV (Γ : Mem) (a : Nat) (v : Value) (f : DiskM → DiskM × Int) (c : Nat) : Prop :=
  ∀ (Γ' : Mem) (L : List HP) (w : World) (m : DiskM) (K : Int → World → Prop), Γ.le Γ' → Sat Γ' (PDisk a m :: L) w → m.g + c < 1000000000000 →
    (∀ Γ'' w', Γ'.le Γ'' → Sat Γ'' (PDisk a (f m).1 :: L) w' → K (f m).2 w') → CallV Try.prog v [] (.one (.s (.int .i64))) K w

theorem all_ok {a : Nat} {m : DiskM} {s : Sl} {vs : List Value} {fs : List (DiskM → DiskM × Int)} {c : Nat} {K : Int → World → Prop} (h : Sat Γ (PDisk a m :: L) w) (hl : Lst eFn Γ s vs) (hn : vs.length = fs.length) (hfs : ∀ f ∈ fs, StepOK f c)
    (hv : ∀ (i : Nat) (v : Value) (f : DiskM → DiskM × Int), vs[i]? = some v → fs[i]? = some f → StepV Γ a v f c) (hg : m.g + c * (fs.length + 1) < 1000000000000)
    (k : ∀ Γ' w', Γ.le Γ' → Sat Γ' (PDisk a (runAll fs m).1 :: L) w' → K (runAll fs m).2 w') :
    CallP Try.prog 39 [.slice s.p s.len s.cap] (.one (.s (.int .i64))) K w := by
  refine callP (fn := Try.f39) [.s (.sl s)] (.p .n (.p (.p .n (.b (.l [7, 6] [(8, .s (.int .i64))] .n))) .n)) nong mixed (by kernel_rfl) (by kernel_rfl) rfl rfl ?_
  obtain ⟨lhl, mhl, chl⟩ := hl.lens
  rotate_left
  refine loop (σ := Int) (fun st w' u => ∃ (i : Nat) (m' : DiskM) (Γ' : Mem), st = (i : Int) ∧ i ≤ fs.length ∧ u = fs.length - i ∧ m'.g ≤ m.g + c * i ∧ runAll fs m = runAll (fs.drop i) m' ∧ Γ.le Γ' ∧ Sat Γ' (PDisk a m' :: L) w') fs.length
    ⟨0, m, Γ, rfl, by omega, by omega, by omega, rfl, .refl _, h⟩ ?_
  clear h
  rintro _ w u ⟨i, m', Γ3, rfl, hi, hu, hg', he, g3, h⟩
  have hl3 := hl.mono g3
  by_cases hil : i < fs.length
  · obtain ⟨f, ef⟩ := get_lt hil
    obtain ⟨v, ev⟩ := get_lt (xs := vs) (i := i) (by omega)
    have hd : fs.drop i = f :: fs.drop (i + 1) := by
      rw [List.drop_eq_getElem_cons hil]
      rw [List.getElem?_eq_getElem hil] at ef
      cases ef
      rfl
    rw [hd] at he
    have step := hv i v f ev ef
    have hsg := (hfs f (List.mem_of_getElem? ef)).g m'
    have hm1 : c * (i + 1) ≤ c * fs.length := Nat.mul_le_mul_left _ hil
    have hm2 : c * (i + 1) = c * i + c := Nat.mul_succ _ _
    have hm3 : c * (fs.length + 1) = c * fs.length + c := Nat.mul_succ _ _
    have step2 : ∀ (L : List HP) (w : World) (K : Int → World → Prop), Sat Γ3 (PDisk a m' :: L) w →
      (∀ Γ'' w', Γ3.le Γ'' → Sat Γ'' (PDisk a (f m').1 :: L) w' → K (f m').2 w') → CallV Try.prog v [] (.one (.s (.int .i64))) K w := fun L w K h k => step Γ3 L w m' K g3 h (by omega) k
    by_cases h0 : (f m').2 = 0
    · rw [runAll_ok h0] at he
      have hl := hl.mono g3
      refine brD (fun bb0 => ?_) (fun bb0 => by exfalso; omega)
      refine ⟨by omega, ?_⟩
      refine nnL h hl (fun ba1 bha1 => ?_)
      refine ldL h hl bha1 ev (fun by2 bhy2 => ?_)
      have bhy2 := eFn_after bhy2
      subst bhy2
      refine step2 _ _ _ h (fun bΓ4 _ bg6 h => ?_)
      have hl3 := hl3.mono bg6
      have hl := hl.mono bg6
      refine brN (fun bb8 => by exfalso; omega) (fun bb8 => ?_)
      refine wrN (i + 1) ?_
      refine ⟨_, (by first | omega | rfl | (dsimp only; omega)), _, _, _, rfl, (by first | omega | rfl | (dsimp only; omega)), rfl, (by first | omega | rfl | (dsimp only; omega)), he, (g3.trans bg6), h⟩
    · rw [runAll_no h0] at he
      rw [he] at k
      have hl := hl.mono g3
      refine brD (fun cb0 => ?_) (fun cb0 => by exfalso; omega)
      refine ⟨by omega, ?_⟩
      refine nnL h hl (fun ca1 cha1 => ?_)
      refine ldL h hl cha1 ev (fun cy2 chy2 => ?_)
      have chy2 := eFn_after chy2
      subst chy2
      refine step2 _ _ _ h (fun cΓ4 _ cg6 h => ?_)
      have hl3 := hl3.mono cg6
      have hl := hl.mono cg6
      refine brN (fun cb8 => ?_) (fun cb8 => by exfalso; omega)
      refine ⟨_, rfl, ?_⟩
      refine k _ _ (g3.trans cg6) h
  · have : i = fs.length := by omega
    subst this
    rw [List.drop_length, runAll_nil] at he
    rw [he] at k
    have hl := hl.mono g3
    refine brD (fun db0 => by exfalso; omega) (fun db0 => ?_)
    refine ⟨_, rfl, ?_⟩
    refine k _ _ g3 h

theorem rightP_ok {s : Str} {K : Bool → World → Prop} (h : Sat Γ L w) (k1 : rightP s → K true w) (k2 : ¬ rightP s → K false w) :
    CallP Try.prog 38 [.string (str s)] (.one (.s .bool)) K w := by
  have hz := str_size s
  unfold rightP rightN tmpS at k1 k2
  refine callP (fn := Try.f38) [.s (.str (str s))] .n nong mixed (by kernel_rfl) (by kernel_rfl) rfl rfl ?_
  refine brSn (fun ab0 => ?_) (fun ab0 => ?_)
  refine brSn (fun ab1 => ?_) (fun ab1 => ?_)
  refine ⟨_, rfl, ?_⟩
  refine kDec (fun ab2 => ?_) (fun ab2 => ?_)
  refine k1 ?_
  rotate_left
  refine k2 (by first | omega | (dsimp only; omega) | decide)
  refine ⟨_, rfl, ?_⟩
  refine k2 ?_
  rotate_left
  refine ⟨_, rfl, ?_⟩
  refine k2 ?_
  rotate_left
  all_goals (first | exact ⟨by assumption, List.length_pos_iff.2 (by assumption), by omega⟩ | (rintro ⟨h1, h2, h3⟩; first | omega | exact absurd (by assumption) h1 | (subst_vars; simp at h2)))

theorem dMade_ok {a : Nat} {m : DiskM} {s : Str} {K : Int → World → Prop} (h : Sat Γ (PDisk a m :: L) w) (hg : m.g + 2 < 1000000000000) (k : ∀ w', Sat Γ (PDisk a (madeM s m).1 :: L) w' → K (madeM s m).2 w') :
    CallP Try.prog 41 [.pointer (some ⟨a, 0, none⟩), .string (str s)] (.one (.s (.int .i64))) K w := by
  have hcg := create_g m s
  refine callP (fn := Try.f41) [.s (.ptr (some ⟨a, 0, none⟩)), .s (.str (str s))] .n nong mixed (by kernel_rfl) (by kernel_rfl) rfl rfl ?_
  unfold madeM at k
  by_cases h0 : (m.create s).2 = 0
  · rw [if_pos h0] at k
    refine dCreate_ok h (by first | omega | (dsimp only; omega) | decide) (fun _ h => ?_)
    refine brE (fun ab3 => ?_) (fun ab3 => by exfalso; omega)
    refine dSyncNames_ok h (by first | omega | (dsimp only; omega) | decide) (fun _ h => ?_)
    refine ⟨_, rfl, ?_⟩
    refine k _ h
  · rw [if_neg h0] at k
    by_cases h4 : (m.create s).2 = 4
    · rw [if_pos h4] at k
      refine dCreate_ok h (by first | omega | (dsimp only; omega) | decide) (fun _ h => ?_)
      refine brE (fun bb3 => by exfalso; omega) (fun bb3 => ?_)
      refine brE (fun bb4 => ?_) (fun bb4 => by exfalso; omega)
      refine ⟨_, rfl, ?_⟩
      refine k _ h
    · rw [if_neg h4] at k
      refine dCreate_ok h (by first | omega | (dsimp only; omega) | decide) (fun _ h => ?_)
      refine brE (fun cb3 => by exfalso; omega) (fun cb3 => ?_)
      refine brE (fun cb4 => by exfalso; omega) (fun cb4 => ?_)
      refine ⟨_, rfl, ?_⟩
      refine k _ h

end Go.Proofs.Ytocmjngleknlbaa.K

/-
  place, the program's: bytes in parts; a file put; bytes put behind a file's.
-/
namespace Go.Proofs.Ytocmjngleknlbaa.K
open Go Go.Proofs
variable {Γ Γ' : Mem} {L L' L'' : List HP} {w w' : World} {A B : HP}
set_option maxRecDepth 100000
set_option maxHeartbeats 1000000

theorem Fz.sub3 {s : Sl} {sz : Nat} {cells : List Value} (h : Fz Γ s sz cells) {l n m : Nat} (hl : l ≤ n) (hn : n ≤ s.len) (hm : n ≤ m) : Fz Γ (s.sub sz l n m) sz ((cells.drop (l * sz)).take ((n - l) * sz)) := by
  have hlen := h.len
  have hc := h.cap
  have h3 : (n - l) * sz ≤ (s.len - l) * sz := Nat.mul_le_mul_right _ (by omega)
  have h4 : (s.len - l) * sz = s.len * sz - l * sz := Nat.sub_mul _ _ _
  refine ⟨?_, ?_, ?_, fun h0 => ?_⟩
  · simp only [List.length_take, List.length_drop, Sl.sub, Int.toNat_natCast]
    omega
  · simp only [Sl.sub, Int.toNat_natCast]
    omega
  · have := h.small
    simp only [Sl.sub, Int.toNat_natCast]
    omega
  · simp only [Sl.sub, Int.toNat_natCast] at h0
    obtain ⟨b, o, c, T, z, h1, h2, h5⟩ := h.at_ (by omega)
    refine ⟨b, o + l * sz, c, T, z, ?_, h2, fun i v hv => ?_⟩
    · simp only [Sl.sub, Int.toNat_natCast]
      rw [if_neg (by omega), h1]
      simp [add_plain]
    · rw [List.getElem?_take] at hv
      split at hv
      · rw [List.getElem?_drop] at hv
        rw [Nat.add_assoc]
        exact h5 _ _ hv
      · cases hv

theorem Bytes.sub3 {s : Sl} {bs : List UInt8} (h : Bytes Γ s bs) {l n m : Nat} (hl : l ≤ n) (hn : n ≤ s.len) (hm : n ≤ m) : Bytes Γ (s.sub 1 l n m) ((bs.drop l).take (n - l)) := by
  have := Fz.sub3 h hl hn hm
  rw [Nat.mul_one, Nat.mul_one, ← List.map_drop, ← List.map_take] at this
  exact this

/-- what a function that tells bytes in parts has: it is frozen -/
def ChA (sb nb : Nat) (s : Sl) (b : Str) : HP :=
  HP.fz (fun Γ => (∃ T z, Γ sb = some (.cells #[slv s] T z)) ∧ (∃ T z, Γ nb = some (.cells #[.int .i64 64] T z)) ∧ Bytes Γ s b) (fun _ _ hl ⟨⟨T, z, h1⟩, ⟨T', z', h2⟩, h3⟩ => ⟨⟨T, z, hl.at_ _ _ h1⟩, ⟨T', z', hl.at_ _ _ h2⟩, h3.mono hl⟩) HP.emp

theorem chunk_seq {sb nb : Nat} {s : Sl} {b : Str} (hlen : b.length < 1000000000000) :
    SeqV Try.prog (.func (.func 79) #[] #[.pointer (some ⟨sb, 0, none⟩), .pointer (some ⟨nb, 0, none⟩)]) (ChA sb nb s b) (chunks b) (fun Γ svs x => ∃ t : Sl, svs = [.s (.sl t)] ∧ Bytes Γ t x) := by
  refine ⟨79, [], [.pointer (some ⟨sb, 0, none⟩), .pointer (some ⟨nb, 0, none⟩)], rfl, by kernel_rfl, fun Γ L w y K Q Qx hy h hround hdone hstop => ?_⟩
  obtain ⟨⟨⟨T1, z1, hsb⟩, ⟨T2, z2, hnb⟩, hb⟩, _⟩ := Sat.fz.1 h
  have hcl := chunks_len b
  obtain ⟨hbl, hbm, hbc⟩ := hb.lens
  refine callP (fn := Try.f79) [.s (.val y), .s (.addr ⟨sb, 0, none⟩), .s (.addr ⟨nb, 0, none⟩)] (.p .n (.b (.l [2, 1, 0] [(4, .s (.int .i64))] (.p .n (.p (.b (.p .s .n)) .n))))) nong mixed (by kernel_rfl) (by kernel_rfl) rfl rfl ?_
  rotate_left
  refine loop (σ := Int) (fun st w' u => ∃ (j : Nat) (Γ' : Mem), st = ((64 * j : Nat) : Int) ∧ j ≤ (chunks b).length ∧ u = (chunks b).length - j ∧ Γ.le Γ' ∧ Sat Γ' (ChA sb nb s b :: Q j :: L) w') (chunks b).length ⟨0, Γ, rfl, by omega, by omega, .refl _, h⟩ ?_
  clear h
  rintro _ w u ⟨j, Γ3, rfl, hj, hu, g3, h⟩
  obtain ⟨⟨⟨T3, z3, hsb3⟩, ⟨T4, z4, hnb3⟩, hb3⟩, _⟩ := Sat.fz.1 h
  have hge := chunks_get b j
  by_cases hjl : j < (chunks b).length
  · have hlt : 64 * j < b.length := by
      apply Classical.byContradiction
      intro hn
      rw [if_neg hn, List.getElem?_eq_getElem hjl] at hge
      cases hge
    rw [if_pos hlt] at hge
    have hsub := hb3.sub (l := 64 * j) (n := s.len) (by omega) (Nat.le_refl _)
    have hb := hb.mono g3
    refine ldF _ h hsb3 ?_
    refine brD (fun bb0 => ?_) (fun bb0 => by exfalso; omega)
    refine dr h fun _ h => ?_
    refine ldF _ h hnb3 ?_
    refine ldF _ h hsb3 ?_
    refine ⟨by omega, ?_⟩
    refine mnN _ _ ?_
    refine ldF _ h hsb3 ?_
    refine wrN ((64 * j) + (min 64 (s.sub Try.prog.types[5].size (↑(64 * j) : Int) (↑s.len : Int) (↑s.cap : Int)).len)) ?_
    refine wrN ((64 * j) + (min 64 (s.sub Try.prog.types[5].size (↑(64 * j) : Int) (↑s.len : Int) (↑s.cap : Int)).len)) ?_
    refine ⟨by dsimp only [Sl.sub]; omega, ?_⟩
    rotate_left
    have hn : (s.sub 1 ((64 * j : Nat) : Int) (s.len : Int) (s.cap : Int)).len = s.len - 64 * j := by simp only [Sl.sub, Int.toNat_natCast]
    have hs3 := hb3.sub3 (l := 64 * j) (n := 64 * j + min 64 (s.sub 1 ((64 * j : Nat) : Int) (s.len : Int) (s.cap : Int)).len) (m := 64 * j + min 64 (s.sub 1 ((64 * j : Nat) : Int) (s.len : Int) (s.cap : Int)).len) (by omega) (by omega) (Nat.le_refl _)
    have e3 : (b.drop (64 * j)).take (64 * j + min 64 (s.sub 1 ((64 * j : Nat) : Int) (s.len : Int) (s.cap : Int)).len - 64 * j) = (b.drop (64 * j)).take 64 := by
      rw [Nat.add_sub_cancel_left, hn]
      by_cases h64 : 64 ≤ s.len - 64 * j
      · rw [Nat.min_eq_left h64]
      · rw [Nat.min_eq_right (by omega), List.take_of_length_le (by rw [List.length_drop]; omega), List.take_of_length_le (by rw [List.length_drop]; omega)]
    rw [e3] at hs3
    refine hround j ((b.drop (64 * j)).take 64) [.s (.sl (s.sub 1 ((64 * j : Nat) : Int) ((64 * j + min 64 (s.sub 1 ((64 * j : Nat) : Int) (s.len : Int) (s.cap : Int)).len : Nat) : Int) ((64 * j + min 64 (s.sub 1 ((64 * j : Nat) : Int) (s.len : Int) (s.cap : Int)).len : Nat) : Int)))]
      Γ3 (ChA sb nb s b :: L) _ _ hge g3 ⟨_, rfl, hs3⟩ (h.pick .n1) (fun Γ4 w4 g4 h => ?_) (fun Γ4 w4 g4 h => ?_)
    · have h := h.pick .n1
      obtain ⟨⟨⟨T5, z5, hsb5⟩, ⟨T6, z6, hnb5⟩, hb5⟩, _⟩ := Sat.fz.1 h
      have hb3 := hb3.mono g4
      have hsub := hsub.mono g4
      have hb := hb.mono g4
      have hs3 := hs3.mono g4
      dsimp only [Sl.sub] at hn
      refine brF ?_
      refine ldF _ h hnb5 ?_
      refine wrN ((64 * j) + 64) ?_
      refine ⟨_, (by first | omega | rfl | (dsimp only; omega)), _, _, (by first | omega | rfl | (dsimp only; omega)), (by first | omega | rfl | (dsimp only; omega)), rfl, (g3.trans g4), ((h.pick .n1).pick .n1)⟩
    · have h := h.pick .n1
      have hb3 := hb3.mono g4
      have hsub := hsub.mono g4
      have hb := hb.mono g4
      have hs3 := hs3.mono g4
      dsimp only [Sl.sub] at hn
      refine brT ?_
      refine ⟨⟨⟩, rfl, ?_⟩
      rotate_left
      exact hstop j Γ4 _ hjl (g3.trans g4) h
  · have hlt : ¬ 64 * j < b.length := by
      intro hn
      rw [if_pos hn, List.getElem?_eq_none (by omega)] at hge
      cases hge
    have : j = (chunks b).length := by omega
    subst this
    have hb := hb.mono g3
    refine ldF _ h hsb3 ?_
    refine brD (fun cb0 => by exfalso; omega) (fun cb0 => ?_)
    refine ⟨⟨⟩, rfl, ?_⟩
    rotate_left
    exact hdone Γ3 _ g3 h

theorem chunk_ok {s : Sl} {b : Str} {K : Value → World → Prop} (h : Sat Γ L w) (hb : Bytes Γ s b) (k : ∀ sb nb Γ' w', Γ.le Γ' → Sat Γ' (ChA sb nb s b :: L) w' → K (.func (.func 79) #[] #[.pointer (some ⟨sb, 0, none⟩), .pointer (some ⟨nb, 0, none⟩)]) w') :
    CallP Try.prog 70 [.slice s.p s.len s.cap, .int .i64 64] (.one (.s .val)) K w := by
  refine callP (fn := Try.f70) [.s (.sl s), .s (.int .i64 64)] (.p .n (.j [3, 2] [] .n .n)) nong mixed (by kernel_rfl) (by kernel_rfl) rfl rfl ?_
  obtain ⟨lhb, mhb, chb⟩ := hb.lens
  refine new h fun ar0 _ h => ?_
  have h := h.asC (c' := #[Value.slice s.p s.len s.cap]) (by kernel_rfl)
  refine new h fun ar1 _ h => ?_
  have h := h.asC (c' := #[Value.int IntKind.i64 64]) (by kernel_rfl)
  refine joinI ?_
  refine ld _ h .n0 ?_
  refine brF ?_
  refine ⟨_, rfl, ?_⟩
  rotate_left
  obtain ⟨Γ1, g1, f1, h⟩ := h.freeze
  obtain ⟨Γ2, g2, f2, h⟩ := h.freeze
  exact k ar0 ar1 Γ2 _ (g1.trans g2) (Sat.fz.2 ⟨⟨⟨_, _, f2⟩, ⟨_, _, g2.at_ _ _ f1⟩, (hb.mono g1).mono g2⟩, h.emp⟩)

/-- ahead of a part: a disk, what is told, and where the disk stands -/
def QF (a r d : Nat) (m : DiskM) (cs : List Str) (i : Nat) : HP :=
  HP.ex fun m' : DiskM => HP.also (m'.g ≤ m.g + 64 * i ∧ fillM cs m = fillM (cs.drop i) m') (HP.all [PDisk a m', blk r (.cells #[.int .i64 0] 27 (0, 0)), blk d (.cells #[.pointer (some ⟨a, 0, none⟩)] 32 (0, 0))])
def QX (a r d : Nat) (m : DiskM) (cs : List Str) (wy : Way) : HP :=
  HP.ex fun p : DiskM × Int => HP.also (wy = .ret ∧ fillM cs m = p) (HP.all [PDisk a p.1, blk r (.cells #[.int .i64 p.2] 27 (0, 0)), blk d (.cells #[.pointer (some ⟨a, 0, none⟩)] 32 (0, 0))])

theorem Sat.qf {a r d i : Nat} {m : DiskM} {cs : List Str} : Sat Γ (QF a r d m cs i :: L) w ↔ ∃ m' : DiskM, (m'.g ≤ m.g + 64 * i ∧ fillM cs m = fillM (cs.drop i) m') ∧ Sat Γ (PDisk a m' :: blk r (.cells #[.int .i64 0] 27 (0, 0)) :: blk d (.cells #[.pointer (some ⟨a, 0, none⟩)] 32 (0, 0)) :: L) w := by
  unfold QF
  rw [Sat.ex]
  constructor
  · rintro ⟨m', h⟩
    obtain ⟨h1, h2⟩ := Sat.also.1 h
    exact ⟨m', h1, Sat.all.1 h2⟩
  · rintro ⟨m', h1, h2⟩
    exact ⟨m', Sat.also.2 ⟨h1, Sat.all.2 h2⟩⟩

theorem Sat.qx {a r d : Nat} {m : DiskM} {cs : List Str} {wy : Way} : Sat Γ (QX a r d m cs wy :: L) w ↔ ∃ p : DiskM × Int, (wy = .ret ∧ fillM cs m = p) ∧ Sat Γ (PDisk a p.1 :: blk r (.cells #[.int .i64 p.2] 27 (0, 0)) :: blk d (.cells #[.pointer (some ⟨a, 0, none⟩)] 32 (0, 0)) :: L) w := by
  unfold QX
  rw [Sat.ex]
  constructor
  · rintro ⟨m', h⟩
    obtain ⟨h1, h2⟩ := Sat.also.1 h
    exact ⟨m', h1, Sat.all.1 h2⟩
  · rintro ⟨m', h1, h2⟩
    exact ⟨m', Sat.also.2 ⟨h1, Sat.all.2 h2⟩⟩

theorem fill_ok {a : Nat} {m : DiskM} {s : Sl} {b : Str} {K : Int → World → Prop} (h : Sat Γ (PDisk a m :: L) w) (hb : Bytes Γ s b) (hg : m.g + b.length + 64 < 1000000000000) (k : ∀ Γ' w', Γ.le Γ' → Sat Γ' (PDisk a (fillM (chunks b) m).1 :: L) w' → K (fillM (chunks b) m).2 w') :
    CallP Try.prog 52 [.pointer (some ⟨a, 0, none⟩), .slice s.p s.len s.cap] (.one (.s (.int .i64))) K w := by
  refine callP (fn := Try.f52) [.s (.ptr (some ⟨a, 0, none⟩)), .s (.sl s)] (.p .n (.p (.p .n (.b (.p .n .n))) .n)) nong mixed (by kernel_rfl) (by kernel_rfl) rfl rfl ?_
  obtain ⟨lhb, mhb, chb⟩ := hb.lens
  refine new h fun ar0 _ h => ?_
  have h := h.asC (c' := #[Value.pointer (some (Addr.mk a 0 none))]) (by kernel_rfl)
  refine new h fun ar1 _ h => ?_
  have h := h.asC (c' := #[Value.int IntKind.i64 0]) (by kernel_rfl)
  refine chunk_ok h hb (fun av3 av4 aΓ5 _ ag7 h => ?_)
  have hb := hb.mono ag7
  rotate_left
  have hlen : b.length < 1000000000000 := by omega
  have hcl := chunks_len b
  refine rangeSeq (Γ := aΓ5) (L := L) (chunk_seq (sb := av3) (nb := av4) (s := s) hlen) (QF a ar1 ar0 m (chunks b)) (fun _ wy => QX a ar1 ar0 m (chunks b) wy) ?_ ?_ ?_ ?_
  · have h1 : Sat aΓ5 (PDisk a m :: blk ar1 (.cells #[.int .i64 0] 27 (0, 0)) :: blk ar0 (.cells #[.pointer (some ⟨a, 0, none⟩)] 32 (0, 0)) :: ChA av3 av4 s b :: L) _ := ((h.pick (A := blk ar0 _) .n2).pick (A := blk ar1 _) .n2).pick (A := PDisk a m) .n3
    exact (Sat.qf.2 ⟨m, ⟨by omega, rfl⟩, h1⟩).pick .n1
  · intro i x l lo svs Γ' M w' K' hx hg he hq k1 k2
    obtain ⟨t, rfl, ht⟩ := he
    obtain ⟨m', ⟨hg', heq⟩, h⟩ := Sat.qf.1 (hq.pick .n1)
    have hil := (List.getElem?_eq_some_iff.1 hx).1
    have hx64 := chunks_le (List.mem_of_getElem? hx)
    have hd : (chunks b).drop i = x :: (chunks b).drop (i + 1) := by
      rw [List.drop_eq_getElem_cons hil]
      rw [List.getElem?_eq_getElem hil] at hx
      cases hx
      rfl
    rw [hd] at heq
    have hag := append_g m' tmpS x
    unfold tmpS at hag
    have hb := hb.mono hg
    obtain ⟨lht, mht, cht⟩ := ht.lens
    refine turn h .n3 fun _ h => ?_
    refine ld _ h .n3 ?_
    refine dAppend_ok (h.pick .n1) ht (by first | omega | (dsimp only; omega) | decide) (fun bΓ1 _ bg3 h => ?_)
    have ht := ht.mono bg3
    have hb := hb.mono bg3
    refine brN (fun bb5 => ?_) (fun bb5 => ?_)
    refine st h .n2 fun _ h => ?_
    have h := h.asC (c' := #[Value.int IntKind.i64 (m'.append [116, 109, 112] x).snd]) (by kernel_rfl)
    rotate_left
    rotate_left
    · have e2 : fillM (chunks b) m = ((m'.append [116, 109, 112] x).1, (m'.append [116, 109, 112] x).2) := by
        rw [heq]; unfold fillM; rw [List.map_cons, runAll_no (by assumption)]
      refine k2 .ret bΓ1 _ (by intro h; cases h) (by assumption) ?_
      exact (Sat.qx.2 ⟨((m'.append [116, 109, 112] x).1, (m'.append [116, 109, 112] x).2), ⟨rfl, e2⟩, ((h.pick (A := blk ar0 _) .n3).pick (A := blk ar1 _) .n1).pick (A := PDisk a _) .n2⟩).pick .n1
    · have e2 : fillM (chunks b) m = fillM ((chunks b).drop (i + 1)) (m'.append [116, 109, 112] x).1 := by
        rw [heq]; unfold fillM; rw [List.map_cons, runAll_ok (by assumption)]
      refine k1 bΓ1 _ (by assumption) ?_
      exact (Sat.qf.2 ⟨(m'.append [116, 109, 112] x).1, ⟨by omega, e2⟩, ((h.pick (A := blk ar0 _) .n3).pick (A := blk ar1 _) .n3).pick (A := PDisk a _) .n2⟩).pick .n1
  · intro d Γ' w' hg hq
    obtain ⟨m', ⟨hg', heq⟩, h⟩ := Sat.qf.1 (hq.pick .n2)
    have e2 : fillM (chunks b) m = (m', 0) := by
      rw [heq, List.drop_length]; rfl
    rw [e2] at k
    have hb := hb.mono hg
    refine st h .n1 fun _ h => ?_
    have h := h.asC (c' := #[Value.int IntKind.i64 0]) (by kernel_rfl)
    refine turn h .n3 fun _ h => ?_
    refine ld _ h .n1 ?_
    refine ⟨_, rfl, ?_⟩
    refine k _ _ (ag7.trans hg) ((h.drop.drop.pick .n1).drop.pick .n1).drop
  · intro d i wy Γ' w' hne hi hg hq
    obtain ⟨⟨m', e⟩, ⟨rfl, heq⟩, h⟩ := Sat.qx.1 (hq.pick .n2)
    rw [heq] at k
    have hb := hb.mono hg
    refine turn h .n3 fun _ h => ?_
    refine ld _ h .n2 ?_
    refine ⟨_, rfl, ?_⟩
    refine k _ _ (ag7.trans hg) (((h.drop.pick .n1).drop.pick .n1).drop.pick .n1).drop

end Go.Proofs.Ytocmjngleknlbaa.K
