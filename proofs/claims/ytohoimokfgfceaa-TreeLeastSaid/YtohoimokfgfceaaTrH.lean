/-
  The reference's functions.
-/
import Derived.Test.YtohoimokfgfceaaTrG
namespace Go.Proofs.Ytohoimokfgfceaa.K
open Go Go.Proofs
variable {Γ Γ' : Mem} {L L' L'' : List HP} {w w' : World} {A B : HP}
set_option maxRecDepth 100000
set_option maxHeartbeats 4000000

abbrev TR : Nat := 39
def rcells (l : Sl) (g : Int) : Array Value := #[.slice l.p l.len l.cap, .int .i64 g]

/-- the reference's tree -/
abbrev rlay (b : Nat) (l : Sl) (rs : List (Sl × Bool)) (g : Int) (L : List HP) : List HP := blk b (.cells (rcells l g) TR (0, 0)) :: Own l TH 2 (rs.flatMap hcell) :: L

def RefP (b : Nat) (hs : List Hd) (g : Int) : HP := ⟨fun Γ m => ∃ l rs, HeadsOK Γ rs hs ∧ l.len = hs.length ∧ (HP.all (rlay b l rs g [])).p Γ m, by
  rintro Γ Γ' m hl ⟨l, rs, h1, h2, h5⟩
  exact ⟨l, rs, h1.mono hl, h2, (HP.all _).mono _ _ _ hl h5⟩⟩

theorem Sat.refP {b : Nat} {hs : List Hd} {g : Int} (h : Sat Γ (RefP b hs g :: L) w) : ∃ l rs, HeadsOK Γ rs hs ∧ l.len = hs.length ∧ Sat Γ (rlay b l rs g L) w := by
  obtain ⟨m, ⟨m1, m2, ha, he, ⟨l, rs, h1, h2, h5⟩, hL⟩, hm, hw⟩ := h
  have : Sat Γ (HP.all (rlay b l rs g []) :: L) w := ⟨m, ⟨m1, m2, ha, he, h5, hL⟩, hm, hw⟩
  exact ⟨l, rs, h1, h2, Sat.all.1 this⟩

theorem Sat.toRefP {b : Nat} {g : Int} {hs : List Hd} {l : Sl} {rs : List (Sl × Bool)} (h : Sat Γ (rlay b l rs g L) w) (h1 : HeadsOK Γ rs hs) (h2 : l.len = hs.length) : Sat Γ (RefP b hs g :: L) w := by
  have h5 : Sat Γ (HP.all (rlay b l rs g []) :: L) w := Sat.all.2 h
  obtain ⟨m, ⟨m1, m2, ha, he, h6, hL⟩, hm, hw⟩ := h5
  exact ⟨m, ⟨m1, m2, ha, he, ⟨l, rs, h1, h2, h6⟩, hL⟩, hm, hw⟩

theorem rnew_ok {s : Sl} {hs : List Hd} {K : (Option Addr × Int) → World → Prop} (h : Sat Γ L w) (hh : HeadsS Γ s hs) (hb : hs.length ≤ 1000000)
    (k0 : (hs.length < 1 ∨ 16 < hs.length) → K (none, 1) w) (k : 1 ≤ hs.length → hs.length ≤ 16 → ∀ b w', Sat Γ (RefP b hs ((hs.length : Int) - 1) :: L) w' → K (some ⟨b, 0, none⟩, 0) w') :
    CallP Try.prog 34 [.slice s.p s.len s.cap] (.tup [.s .ptr, .s (.int .i64)]) K w := by
  have hl := hh.len
  refine callP (fn := Try.f34) [.s (.sl s)] (.p .n (.j [0] [] .n .n)) nong mixed (by kernel_rfl) (by kernel_rfl) rfl rfl ?_
  refine join (σ := PUnit) (fun _ w' => 1 ≤ hs.length ∧ hs.length ≤ 16 ∧ Sat Γ L w') ?_ ?_
  · refine br (fun hb1 => ?_) (fun hb1 => ?_)
    · have : (s.len : Int) = 0 := by simpa using hb1
      exact ⟨(none, 1), rfl, k0 (by omega)⟩
    · have hb1 : ((s.len : Int) == 0) = false := hb1
      simp at hb1
      refine br (fun hb2 => ?_) (fun hb2 => ?_)
      · have := of_decide_eq_true hb2
        exact ⟨(none, 1), rfl, k0 (by omega)⟩
      · have := of_decide_eq_false hb2
        exact ⟨by omega, by omega, h⟩
  · rintro _ w3 ⟨h1, h16, h3⟩
    obtain ⟨rs, hf, hok⟩ := hh
    have hrl := hok.len
    refine new h3 fun r4 w4 h4 => ?_
    have h4' := Sat.whole (n := 0) (sz := 2) h4 rfl
    refine append slHead slHead.self h4' .here (hf.src h4') hf.len (hcell_one rs) (by simp; omega) fun s5 w6 hl6 h6 => ?_
    refine wr ?_
    refine new h6 fun r7 w7 h7 => ?_
    have h7 : Sat Γ (blk r7 (.cells (rcells s5 ((s.len : Int) - 1)) TR (0, 0)) :: Own s5 TH 2 (rs.flatMap hcell) :: L) w7 := h7
    rw [hl] at h7
    exact ⟨(some ⟨r7, 0, none⟩, 0), rfl, k h1 h16 _ _ (h7.toRefP hok (by rw [hl6]; simp; omega))⟩

theorem bytesLess_lt (x y : List UInt8) : Op.bytesLess x y = decide (cmpB x y < 0) := bytesLess_cmpB x y

theorem less_ok {s t : Sl} {x y : Hd} {K : Bool → World → Prop} (h : Sat Γ L w) (hx : Bytes Γ s x.1) (hy : Bytes Γ t y.1) (k : ∀ w', Sat Γ L w' → K (decide (cmpH x y < 0)) w') :
    CallP Try.prog 159 [.agg #[.slice s.p s.len s.cap, .bool x.2], .agg #[.slice t.p t.len t.cap, .bool y.2]] (.one (.s .bool)) K w := by
  obtain ⟨x, xb⟩ := x
  obtain ⟨y, yb⟩ := y
  refine callP (fn := Try.f159) [.agg [.sl s, .bool xb], .agg [.sl t, .bool yb]] (.p .n (.j [2, 3] [] .n .n)) nong mixed (by kernel_rfl) (by kernel_rfl) rfl rfl ?_
  refine new h fun r0 w0 h0 => ?_
  refine new h0 fun r1 w1 h1 => ?_
  have k' := k w1 h1.drop.drop
  refine joinI ?_
  refine ld xb h1 (by repeat (first | with_reducible exact Pick.here | apply Pick.there)) ?_
  cases xb
  · refine br (fun hb3 => ?_) (fun hb3 => by cases hb3)
    refine ld false h1 (by repeat (first | with_reducible exact Pick.here | apply Pick.there)) ?_
    refine br (fun hb4 => by cases hb4) (fun hb4 => ?_)
    refine ⟨_, rfl, ?_⟩
    have e : decide (cmpH (x, false) (y, yb) < 0) = false := by cases yb <;> rfl
    rw [e] at k'
    exact k'
  · refine br (fun hb3 => by cases hb3) (fun hb3 => ?_)
    refine ld yb h1 (by repeat (first | with_reducible exact Pick.here | apply Pick.there)) ?_
    cases yb
    · refine br (fun hb5 => ?_) (fun hb5 => by cases hb5)
      refine ld true h1 (by repeat (first | with_reducible exact Pick.here | apply Pick.there)) ?_
      refine br (fun hb4 => ?_) (fun hb4 => by cases hb4)
      refine ld false h1 (by repeat (first | with_reducible exact Pick.here | apply Pick.there)) ?_
      exact ⟨_, rfl, k'⟩
    · refine br (fun hb5 => by cases hb5) (fun hb5 => ?_)
      refine ld s h1 (by repeat (first | with_reducible exact Pick.here | apply Pick.there)) ?_
      refine btoS h1 hx ?_
      refine ld t h1 (by repeat (first | with_reducible exact Pick.here | apply Pick.there)) ?_
      refine btoS h1 hy ?_
      refine ⟨Op.bytesLess (str x).toList (str y).toList, rfl, ?_⟩
      rw [str_toList, str_toList, bytesLess_cmpB]
      exact k'

/-- the least of the first rows -/
def bestN (hs : List Hd) (n : Nat) : Nat := (List.range n).foldl (fun k i => if cmpH (hd hs i) (hd hs k) < 0 then i else k) 0
theorem bestN_succ (hs : List Hd) (n : Nat) : bestN hs (n + 1) = if cmpH (hd hs n) (hd hs (bestN hs n)) < 0 then n else bestN hs n := by
  unfold bestN
  rw [List.range_succ, List.foldl_append]
  rfl
theorem cmpH_self (x : Hd) : cmpH x x = 0 := by
  obtain ⟨x, b⟩ := x
  cases b
  · rfl
  · exact cmpB_eq_zero.2 rfl
theorem bestN_one (hs : List Hd) : bestN hs 1 = 0 := by
  rw [bestN_succ]
  have : bestN hs 0 = 0 := rfl
  rw [this, cmpH_self]
  rfl
theorem bestN_all (hs : List Hd) : bestN hs hs.length = best hs := rfl
theorem bestN_lt (hs : List Hd) : ∀ n, 0 < n → bestN hs n < n := by
  intro n hn
  have := (best_fold hs n).1
  unfold bestN
  omega

theorem rleast_ok {b : Nat} {hs : List Hd} {g : Int} {K : Int → World → Prop} (h : Sat Γ (RefP b hs g :: L) w) (h0 : 0 < hs.length) (hn : hs.length ≤ 1000000) (k : ∀ w', Sat Γ (RefP b hs g :: L) w' → K (best hs : Int) w') :
    CallP Try.prog 107 [.pointer (some ⟨b, 0, none⟩)] (.one (.s (.int .i64))) K w := by
  obtain ⟨l, rs, hok, hl, h1⟩ := h.refP
  have k' : ∀ w', Sat Γ (rlay b l rs g L) w' → K (best hs : Int) w' := fun w' h' => k w' (h'.toRefP hok hl)
  have hrl := hok.len
  refine callP (fn := Try.f107) [.s (.ptr (some ⟨b, 0, none⟩))] (.p .n (.p .n (.p (.p .n (.b (.l [0] [(3, .s (.int .i64)), (4, .s (.int .i64))] (.p .n (.p (.k [4, 0] [(3, .s (.int .i64))] (.p .s .n)) .n))))) .n))) nong mixed (by kernel_rfl) (by kernel_rfl) rfl rfl ?_
  refine loop (σ := Int × Int) (fun st w' n => ∃ i : Nat, st = ((bestN hs i : Int), (i : Int)) ∧ 1 ≤ i ∧ i ≤ hs.length ∧ n = hs.length - i ∧ Sat Γ (rlay b l rs g L) w') (hs.length - 1) ⟨1, by rw [bestN_one]; rfl, by omega, by omega, rfl, h1⟩ ?_
  rintro _ w3 m3 ⟨i, rfl, hi1, hi2, hm, h3⟩
  have hbl := bestN_lt hs i (by omega)
  refine ⟨_, rfl, ?_⟩
  refine ld l h3 (by repeat (first | with_reducible exact Pick.here | apply Pick.there)) ?_
  refine br (fun hb6 => ?_) (fun hb6 => ?_)
  · have hi := of_decide_eq_true hb6
    refine join (σ := Int) (fun v w' => v = (bestN hs (i + 1) : Int) ∧ Sat Γ (rlay b l rs g L) w') ?_ ?_
    · refine dr h3 fun w8 h8 => ?_
      refine ⟨_, rfl, ?_⟩
      refine ld l h8 (by repeat (first | with_reducible exact Pick.here | apply Pick.there)) ?_
      have hi' : i < hs.length := by have : (i : Int) < (l.len : Int) := hi
                                     omega
      refine ⟨⟨by omega, hi⟩, ?_⟩
      obtain ⟨s12, e12, b12, _⟩ := hok.get hi'
      refine nnOwn h8 (s := l) (T := TH) (sz := 2) (cells := rs.flatMap hcell) (by repeat (first | with_reducible exact Pick.here | apply Pick.there)) (by omega) fun a11 ha11 hrd => ?_
      refine ldAt (s12, (hd hs i).2) (hrd _ _ _ (rd_head e12)) ?_
      refine ⟨_, rfl, ?_⟩
      refine ld l h8 (by repeat (first | with_reducible exact Pick.here | apply Pick.there)) ?_
      refine ⟨⟨by omega, by show (bestN hs i : Int) < (l.len : Int); omega⟩, ?_⟩
      obtain ⟨s17, e17, b17, _⟩ := hok.get (i := bestN hs i) (by omega)
      refine ⟨a11, ha11, ?_⟩
      refine ldAt (s17, (hd hs (bestN hs i)).2) (hrd _ _ _ (rd_head e17)) ?_
      refine less_ok (x := hd hs i) (y := hd hs (bestN hs i)) h8 b12 b17 fun w20 h20 => ?_
      refine br (fun hb21 => ?_) (fun hb21 => ?_)
      · have := of_decide_eq_true hb21
        exact ⟨by rw [bestN_succ, if_pos this], h20⟩
      · have := of_decide_eq_false hb21
        exact ⟨by rw [bestN_succ, if_neg this], h20⟩
    · rintro _ w23 ⟨rfl, h23⟩
      have hi' : i < hs.length := by have : (i : Int) < (l.len : Int) := hi
                                     omega
      refine wrN (i + 1) ?_
      exact ⟨hs.length - (i + 1), by omega, i + 1, rfl, by omega, by omega, rfl, h23⟩
  · have hi : ¬ (i : Int) < (l.len : Int) := of_decide_eq_false hb6
    have : i = hs.length := by omega
    subst this
    exact ⟨_, rfl, k' _ h3⟩

theorem rLeast_ok {b : Nat} {hs : List Hd} {g : Int} {K : (Int × Sl × Bool) → World → Prop} (h : Sat Γ (RefP b hs g :: L) w) (h0 : 0 < hs.length) (hn : hs.length ≤ 1000000)
    (k0 : ∀ w', (hd hs (best hs)).2 = false → Sat Γ (RefP b hs g :: L) w' → K (0, ⟨none, 0, 0⟩, false) w')
    (k : ∀ s Γ' w', (hd hs (best hs)).2 = true → Γ.le Γ' → Bytes Γ' s (hd hs (best hs)).1 → Sat Γ' (RefP b hs g :: L) w' → K ((best hs : Int), s, true) w') :
    CallP Try.prog 37 [.pointer (some ⟨b, 0, none⟩)] (.tup [.s (.int .i64), .s .sl, .s .bool]) K w := by
  refine callP (fn := Try.f37) [.s (.ptr (some ⟨b, 0, none⟩))] .n nong mixed (by kernel_rfl) (by kernel_rfl) rfl rfl ?_
  refine rleast_ok h h0 hn fun w1 h1' => ?_
  obtain ⟨l, rs, hok, hl, h1⟩ := h1'.refP
  have hb := best_lt h0
  have hrl := hok.len
  obtain ⟨s10, e10, b10, l10⟩ := hok.get hb
  refine ⟨_, rfl, ?_⟩
  refine ld l h1 (by repeat (first | with_reducible exact Pick.here | apply Pick.there)) ?_
  refine ⟨⟨by omega, by omega⟩, ?_⟩
  refine nnOwn h1 (s := l) (T := TH) (sz := 2) (cells := rs.flatMap hcell) (by repeat (first | with_reducible exact Pick.here | apply Pick.there)) (by omega) fun a4 ha4 hrd => ?_
  have hsp := Own.spot h1 (s := l) (T := TH) (sz := 2) (cells := rs.flatMap hcell) (by repeat (first | with_reducible exact Pick.here | apply Pick.there)) ha4
  refine ldAt2 hsp (hd hs (best hs)).2 (hrd _ _ _ (rd_head e10 1 _ rfl)) ?_
  refine br (fun hb6 => ?_) (fun hb6 => ?_)
  · exact ⟨(0, ⟨none, 0, 0⟩, false), rfl, k0 _ (by simpa using hb6) h1'⟩
  · refine new h1 fun r7 w7 h7 => ?_
    refine ⟨_, rfl, ?_⟩
    refine ld l h7 (by repeat (first | with_reducible exact Pick.here | apply Pick.there)) ?_
    refine ⟨⟨by omega, by omega⟩, ?_⟩
    refine nnOwn h7 (s := l) (T := TH) (sz := 2) (cells := rs.flatMap hcell) (by repeat (first | with_reducible exact Pick.here | apply Pick.there)) (by omega) fun a10 ha10 hrd7 => ?_
    have hsp := Own.spot h7 (s := l) (T := TH) (sz := 2) (cells := rs.flatMap hcell) (by repeat (first | with_reducible exact Pick.here | apply Pick.there)) ha10
    refine ldAt2 hsp s10 (hrd7 _ _ _ (rd_head e10 0 _ rfl)) ?_
    have h2 := Sat.whole (n := 0) (sz := 1) h7 rfl
    refine append slBytes slBytes.self h2 .here (b10.src h2) (by simp) (map_bv_one _) (by simpa using l10) fun s' w2 hl' h3 => ?_
    obtain ⟨Γ', g1, g2, g3⟩ := h3.freezeOwn (by rw [hl']; simp; omega)
    exact ⟨((best hs : Int), s', true), rfl, k s' Γ' _ (by simpa using hb6) g1 (by simpa [Bytes] using g2) (g3.toRefP (hok.mono g1) hl)⟩

theorem rNext_ok {b : Nat} {hs : List Hd} {g : Int} {s : Sl} {x : Hd} {K : Int → World → Prop} (h : Sat Γ (RefP b hs g :: L) w) (h0 : 0 < hs.length) (h16 : hs.length ≤ 16) (hg0 : 0 ≤ g) (hg1 : g < 1000000000)
    (hx : Bytes Γ s x.1) (hxl : x.1.length ≤ 70368744177664)
    (k0 : ∀ w', (hd hs (best hs)).2 = false → Sat Γ (RefP b hs g :: L) w' → K 2 w')
    (k : ∀ w', (hd hs (best hs)).2 = true → Sat Γ (RefP b (hs.set (best hs) x) (g + (steps (hs.length + best hs) : Int)) :: L) w' → K 0 w') :
    CallP Try.prog 40 [.pointer (some ⟨b, 0, none⟩), .agg #[.slice s.p s.len s.cap, .bool x.2]] (.one (.s (.int .i64))) K w := by
  refine callP (fn := Try.f40) [.s (.ptr (some ⟨b, 0, none⟩)), .agg [.sl s, .bool x.2]] (.p .n (.p .n (.p .n (.p (.p .n (.b (.l [0, 5, 3] [(6, .s (.int .i64))] .n))) (.p .s .n))))) nong mixed (by kernel_rfl) (by kernel_rfl) rfl rfl ?_
  refine new h fun r0 w0 h0' => ?_
  have h0' : Sat Γ (RefP b hs g :: blk r0 (.cells #[.slice s.p s.len s.cap, .bool x.2] TH (0, 0)) :: L) w0 := h0'.pick (by repeat (first | with_reducible exact Pick.here | apply Pick.there))
  refine rleast_ok h0' h0 (by omega) fun w1 h1' => ?_
  obtain ⟨l, rs, hok, hl, h1⟩ := h1'.refP
  have hb := best_lt h0
  have hrl := hok.len
  obtain ⟨s10, e10, b10, l10⟩ := hok.get hb
  refine ⟨_, rfl, ?_⟩
  refine ld l h1 (by repeat (first | with_reducible exact Pick.here | apply Pick.there)) ?_
  refine ⟨⟨by omega, by omega⟩, ?_⟩
  refine nnOwn h1 (s := l) (T := TH) (sz := 2) (cells := rs.flatMap hcell) (by repeat (first | with_reducible exact Pick.here | apply Pick.there)) (by omega) fun a4 ha4 hrd => ?_
  have hsp := Own.spot h1 (s := l) (T := TH) (sz := 2) (cells := rs.flatMap hcell) (by repeat (first | with_reducible exact Pick.here | apply Pick.there)) ha4
  refine ldAt2 hsp (hd hs (best hs)).2 (hrd _ _ _ (rd_head e10 1 _ rfl)) ?_
  refine br (fun hb7 => ?_) (fun hb7 => ?_)
  · exact ⟨2, rfl, k0 _ (by simpa using hb7) (h1'.pick (A := blk r0 _) (by repeat (first | with_reducible exact Pick.here | apply Pick.there))).drop⟩
  · refine ⟨_, rfl, ?_⟩
    refine ld l h1 (by repeat (first | with_reducible exact Pick.here | apply Pick.there)) ?_
    refine wrN (hs.length + best hs) ?_
    refine ⟨by omega, ?_⟩
    refine tdvN (hs.length + best hs) 2 ?_
    refine loop (σ := Int) (fun st w' m => st = ((m / 2 : Nat) : Int) ∧ 0 < m ∧ m ≤ hs.length + best hs ∧
      Sat Γ (rlay b l rs (g + (steps (hs.length + best hs) : Int) - (steps m : Int)) (blk r0 (.cells #[.slice s.p s.len s.cap, .bool x.2] TH (0, 0)) :: L)) w') (hs.length + best hs) ⟨?_, by omega, Nat.le_refl _, ?_⟩ ?_
    · rfl
    · rw [show g + (steps (hs.length + best hs) : Int) - (steps (hs.length + best hs) : Int) = g by omega]
      exact h1
    rintro _ w12 m12 ⟨rfl, hm0, hm1, h12⟩
    have hs1 : steps m12 ≤ steps (hs.length + best hs) := steps_mono _ _ hm1
    have hs2 : steps (hs.length + best hs) ≤ 4 := steps_small (by omega)
    refine br (fun hb13 => ?_) (fun hb13 => ?_)
    · have hc1 : 1 < m12 := by have : ((m12 / 2 : Nat) : Int) ≥ 1 := of_decide_eq_true hb13
                               omega
      have hst : steps m12 = steps (m12 / 2) + 1 := by rw [steps, if_neg (by omega)]
      refine ⟨_, rfl, ?_⟩
      refine ld (g + (steps (hs.length + best hs) : Int) - (steps m12 : Int)) h12 (by repeat (first | with_reducible exact Pick.here | apply Pick.there)) ?_
      refine wr ?_
      refine ⟨_, rfl, ?_⟩
      refine st h12 (by repeat (first | with_reducible exact Pick.here | apply Pick.there)) fun w17 h17 => ?_
      have h17 : Sat Γ (rlay b l rs (g + (steps (hs.length + best hs) : Int) - (steps m12 : Int) + 1) (blk r0 (.cells #[.slice s.p s.len s.cap, .bool x.2] TH (0, 0)) :: L)) w17 := h17
      rw [show g + (steps (hs.length + best hs) : Int) - (steps m12 : Int) + 1 = g + (steps (hs.length + best hs) : Int) - (steps (m12 / 2) : Int) by omega] at h17
      refine ⟨by omega, ?_⟩
      refine tdvN (m12 / 2) 2 ?_
      exact ⟨m12 / 2, by omega, rfl, by omega, by omega, h17⟩
    · have hc1 : m12 = 1 := by have : ¬ ((m12 / 2 : Nat) : Int) ≥ 1 := of_decide_eq_false hb13
                               omega
      subst hc1
      have e2 : steps 1 = 0 := by rw [steps]; rfl
      rw [e2, show g + (steps (hs.length + best hs) : Int) - ((0 : Nat) : Int) = g + (steps (hs.length + best hs) : Int) by omega] at h12
      refine dr h12 fun w18 h18 => ?_
      refine ⟨_, rfl, ?_⟩
      refine ld l h18 (by repeat (first | with_reducible exact Pick.here | apply Pick.there)) ?_
      refine ld (s, x.2) h18 (by repeat (first | with_reducible exact Pick.here | apply Pick.there)) ?_ (hc := rd2 s x.2)
      refine ⟨⟨by omega, by omega⟩, ?_⟩
      refine nnOwn h18 (s := l) (T := TH) (sz := 2) (cells := rs.flatMap hcell) (by repeat (first | with_reducible exact Pick.here | apply Pick.there)) (by omega) fun a21 ha21 _ => ?_
      refine stNOwn h18 (s := l) (T := TH) (sz := 2) (cells := rs.flatMap hcell) (vs := [.slice s.p s.len s.cap, .bool x.2]) (by repeat (first | with_reducible exact Pick.here | apply Pick.there)) ha21 (by show best hs * 2 + 2 ≤ _; rw [flatMap_length hcell_len]; omega) (by omega) (by intro v hv; simp at hv; rcases hv with rfl | rfl <;> rfl) fun w22 h22 => ?_
      have h22 : Sat Γ (Own l TH 2 (setL (rs.flatMap hcell) (best hs * 2) [.slice s.p s.len s.cap, .bool x.2]) :: blk b (.cells (rcells l (g + (steps (hs.length + best hs) : Int))) TR (0, 0)) :: blk r0 (.cells #[.slice s.p s.len s.cap, .bool x.2] TH (0, 0)) :: L) w22 := h22
      rw [flat_set (by omega)] at h22
      have h23 : Sat Γ (rlay b l (rs.set (best hs) (s, x.2)) (g + (steps (hs.length + best hs) : Int)) L) w22 := ((h22.pick (A := blk r0 _) (by repeat (first | with_reducible exact Pick.here | apply Pick.there))).drop).pick (by repeat (first | with_reducible exact Pick.here | apply Pick.there))
      exact ⟨0, rfl, k _ (by simpa using hb7) (h23.toRefP (hok.set hx hxl) (by simpa using hl))⟩

theorem same_ok {s t : Sl} {x y : BL} {K : Bool → World → Prop} (h : Sat Γ L w) (hx : BB Γ s x) (hy : BB Γ t y) (hn : x.length ≤ 1000000) (k : ∀ w', Sat Γ L w' → K (decide (x = y)) w') :
    CallP Try.prog 44 [.slice s.p s.len s.cap, .slice t.p t.len t.cap] (.one (.s .bool)) K w := by
  have hsl := hx.len
  have htl := hy.len
  obtain ⟨ss, hf, he⟩ := hx
  obtain ⟨ts, hf', he'⟩ := hy
  refine callP (fn := Try.f44) [.s (.sl s), .s (.sl t)] (.p .n (.p .n (.p (.p .n (.b (.l [1, 0] [(5, .s (.int .i64))] (.p .n (.p (.b (.p .s .n)) .n))))) .n))) nong mixed (by kernel_rfl) (by kernel_rfl) rfl rfl ?_
  refine br (fun hb0 => ?_) (fun hb0 => ?_)
  · have hne : (s.len : Int) ≠ (t.len : Int) := by simpa using hb0
    have : x ≠ y := by intro e; subst e; omega
    refine ⟨false, rfl, ?_⟩
    have k' := k _ h
    rw [decide_eq_false this] at k'
    exact k'
  · have hln : x.length = y.length := by
      have : ((s.len : Int) != (t.len : Int)) = false := hb0
      simp at this
      omega
    refine loop (σ := Int) (fun i w' n => ∃ j : Nat, i = (j : Int) ∧ j ≤ x.length ∧ n = x.length - j ∧ x.take j = y.take j ∧ Sat Γ L w') x.length ⟨0, rfl, by omega, rfl, by simp, h⟩ ?_
    rintro _ w3 m3 ⟨j, rfl, hj, hm, htk, h3⟩
    refine br (fun hb4 => ?_) (fun hb4 => ?_)
    · have hj4 : (j : Int) < (s.len : Int) := of_decide_eq_true hb4
      have ex : x[j]? = some x[j] := List.getElem?_eq_getElem (by omega)
      have ey : y[j]? = some y[j] := List.getElem?_eq_getElem (by omega)
      obtain ⟨s7, e7, b7⟩ := he.get ex
      obtain ⟨s10, e10, b10⟩ := he'.get ey
      refine dr h3 fun w5 h5 => ?_
      refine ⟨⟨by omega, by omega⟩, ?_⟩
      refine nnFz h5 hf (by omega) fun a6 ha6 hrd6 => ?_
      refine ldAt s7 (hrd6 _ _ _ (rd_slv e7)) ?_
      refine btoS h5 b7 ?_
      refine ⟨⟨by omega, by omega⟩, ?_⟩
      refine nnFz h5 hf' (by omega) fun a9 ha9 hrd9 => ?_
      refine ldAt s10 (hrd9 _ _ _ (rd_slv e10)) ?_
      refine btoS h5 b10 ?_
      refine br (fun hb12 => ?_) (fun hb12 => ?_)
      · have hb12 : (!((str x[j]).toList == (str y[j]).toList)) = true := hb12
        rw [str_toList, str_toList] at hb12
        have hne : x[j] ≠ y[j] := by simpa using hb12
        have : x ≠ y := by
          intro e
          subst e
          exact hne rfl
        refine ⟨false, rfl, ?_⟩
        have k' := k _ h5
        rw [decide_eq_false this] at k'
        exact k'
      · have hb12 : (!((str x[j]).toList == (str y[j]).toList)) = false := hb12
        rw [str_toList, str_toList] at hb12
        have heq : x[j] = y[j] := by simpa using hb12
        refine wrN (j + 1) ?_
        refine ⟨x.length - (j + 1), by omega, j + 1, rfl, by omega, rfl, ?_, h5⟩
        · rw [List.take_add_one, List.take_add_one, htk, ex, ey, heq]
    · have hj4 : ¬ (j : Int) < (s.len : Int) := of_decide_eq_false hb4
      have hje : j = x.length := by omega
      rw [hje, List.take_length, hln, List.take_length] at htk
      refine ⟨true, rfl, ?_⟩
      have k' := k _ h3
      rw [decide_eq_true htk] at k'
      exact k'

end Go.Proofs.Ytohoimokfgfceaa.K
