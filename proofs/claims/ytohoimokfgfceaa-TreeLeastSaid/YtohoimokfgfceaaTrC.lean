/-
  The tree's functions: what holds heads against each other.
-/
import Derived.Test.YtohoimokfgfceaaTrB
import Derived.Test.YtohoimokfgfceaaTrP
namespace Go.Proofs.Ytohoimokfgfceaa.K
open Go Go.Proofs
variable {Γ Γ' : Mem} {L L' L'' : List HP} {w w' : World} {A B : HP}
set_option maxRecDepth 100000

theorem bcmp_ok {s t : Sl} {x y : List UInt8} {K : Int → World → Prop} (h : Sat Γ L w) (hx : Bytes Γ s x) (hy : Bytes Γ t y) (k : K (cmpB x y) w) :
    CallP Try.prog 158 [.slice s.p s.len s.cap, .slice t.p t.len t.cap] (.one (.s (.int .i64))) K w := by
  refine callP (fn := Try.f158) [.s (.sl s), .s (.sl t)] .n nong mixed (by kernel_rfl) (by kernel_rfl) rfl rfl ?_
  refine prim_extern (f := 176) (fn := Try.f176) (e := Extern.BytealgCompare.compare) (x := cmpB x y) nong (by kernel_rfl) (by kernel_rfl) (by kernel_rfl) (by kernel_rfl) (compare_run hx hy h) ?_
  exact ⟨_, rfl, k⟩

/-- cmp.Or of two -/
theorem or_ok {r : Nat} {T : TypeId} {a b : Int} {K : Int → World → Prop} (h : Sat Γ L w) (pk : Pick (blk r (.cells #[.int .i64 a, .int .i64 b] T (0, 0))) L L') (k : K (if a ≠ 0 then a else b) w) :
    CallP Try.prog 177 [.slice (some ⟨r, 0, none⟩) 2 2] (.one (.s (.int .i64))) K w := by
  refine callP (fn := Try.f177) [.s (.sl ⟨some ⟨r, 0, none⟩, 2, 2⟩)] (.p .n (.p .n (.p (.p .n (.b (.l [7, 6, 3] [(8, .s (.int .i64))] .n))) .n))) nong mixed (by kernel_rfl) (by kernel_rfl) rfl rfl ?_
  refine loop (σ := Int) (fun i w' n => w' = w ∧ ((i = 0 ∧ n = 2) ∨ (i = 1 ∧ a = 0 ∧ n = 1) ∨ (i = 2 ∧ a = 0 ∧ b = 0 ∧ n = 0))) 2 ⟨rfl, .inl ⟨rfl, rfl⟩⟩ ?_
  rintro i w' n ⟨rfl, hI⟩
  refine br (fun hi => ?_) (fun hi => ?_)
  · have hi2 : i < 2 := of_decide_eq_true hi
    refine ⟨⟨by omega, hi2⟩, ⟨_, rfl, ?_⟩⟩
    rcases hI with ⟨rfl, rfl⟩ | ⟨rfl, ha, rfl⟩ | ⟨rfl, _⟩
    · refine ld a h pk ?_
      refine br (fun hne => ?_) (fun hne => ?_)
      · have : a ≠ 0 := by simpa using hne
        rw [if_pos this] at k
        exact ⟨_, rfl, k⟩
      · have : a = 0 := by simpa using hne
        exact ⟨1, by omega, rfl, .inr (.inl ⟨rfl, this, rfl⟩)⟩
    · refine ld b h pk ?_
      rw [if_neg (by simp [ha])] at k
      refine br (fun hne => ?_) (fun hne => ?_)
      · exact ⟨_, rfl, k⟩
      · have : b = 0 := by simpa using hne
        exact ⟨0, by omega, rfl, .inr (.inr ⟨rfl, ha, this, rfl⟩)⟩
    · omega
  · have hi2 : ¬ i < 2 := of_decide_eq_false hi
    rcases hI with ⟨rfl, rfl⟩ | ⟨rfl, ha, rfl⟩ | ⟨rfl, ha, hb, rfl⟩
    · omega
    · omega
    · rw [if_neg (by simp [ha]), hb] at k
      exact ⟨_, rfl, k⟩

/-- two heads held against each other -/
theorem cmpHd_ok {s t : Sl} {x y : Hd} {K : Int → World → Prop} (h : Sat Γ L w) (hx : Bytes Γ s x.1) (hy : Bytes Γ t y.1) (k : ∀ w', Sat Γ L w' → K (cmpH x y) w') :
    CallP Try.prog 105 [.agg #[.slice s.p s.len s.cap, .bool x.2], .agg #[.slice t.p t.len t.cap, .bool y.2]] (.one (.s (.int .i64))) K w := by
  obtain ⟨x, xb⟩ := x
  obtain ⟨y, yb⟩ := y
  refine callP (fn := Try.f105) [.agg [.sl s, .bool xb], .agg [.sl t, .bool yb]] (.p .n (.p (.k [] [] .n) .n)) nong mixed (by kernel_rfl) (by kernel_rfl) rfl rfl ?_
  refine new h fun r1 w1 h1 => ?_
  refine new h1 fun r2 w2 h2 => ?_
  have k' := k w2 h2.drop.drop
  refine joinI ?_
  refine ld xb h2 (by repeat (first | with_reducible exact Pick.here | apply Pick.there)) ?_
  cases xb
  · refine br (fun hb => (by cases hb)) (fun _ => ?_)
    refine ld false h2 (by repeat (first | with_reducible exact Pick.here | apply Pick.there)) ?_
    refine br (fun hb => (by cases hb)) (fun _ => ?_)
    refine ld yb h2 (by repeat (first | with_reducible exact Pick.here | apply Pick.there)) ?_
    cases yb
    · refine br (fun hb => (by cases hb)) (fun _ => ?_)
      exact ⟨_, rfl, k'⟩
    · refine br (fun _ => ?_) (fun hb => (by cases hb))
      exact ⟨_, rfl, k'⟩
  · refine br (fun _ => ?_) (fun hb => (by cases hb))
    refine ld yb h2 (by repeat (first | with_reducible exact Pick.here | apply Pick.there)) ?_
    cases yb
    · refine br (fun hb => (by cases hb)) (fun _ => ?_)
      refine ld true h2 (by repeat (first | with_reducible exact Pick.here | apply Pick.there)) ?_
      refine br (fun _ => ?_) (fun hb => (by cases hb))
      exact ⟨_, rfl, k'⟩
    · refine br (fun _ => ?_) (fun hb => (by cases hb))
      refine ld s h2 (by repeat (first | with_reducible exact Pick.here | apply Pick.there)) ?_
      refine ld t h2 (by repeat (first | with_reducible exact Pick.here | apply Pick.there)) ?_
      refine bcmp_ok h2 hx hy ?_
      exact ⟨_, rfl, k'⟩

/-- heads as they lie in memory -/
def hcell (r : Sl × Bool) : List Value := [.slice r.1.p r.1.len r.1.cap, .bool r.2]
theorem hcell_len (r : Sl × Bool) : (hcell r).length = 2 := rfl

structure HeadsOK (Γ : Mem) (rs : List (Sl × Bool)) (hs : List Hd) : Prop where
  len : rs.length = hs.length
  at_ : ∀ (i : Nat) (r : Sl × Bool) (x : Hd), rs[i]? = some r → hs[i]? = some x → Bytes Γ r.1 x.1 ∧ r.2 = x.2 ∧ x.1.length ≤ 70368744177664

theorem HeadsOK.mono {rs : List (Sl × Bool)} {hs : List Hd} (h : HeadsOK Γ rs hs) (hl : Γ.le Γ') : HeadsOK Γ' rs hs :=
  ⟨h.len, fun i r x h1 h2 => let ⟨a, b, c⟩ := h.at_ i r x h1 h2; ⟨a.mono hl, b, c⟩⟩

theorem HeadsOK.get {rs : List (Sl × Bool)} {hs : List Hd} (h : HeadsOK Γ rs hs) {i : Nat} (hi : i < hs.length) :
    ∃ s, rs[i]? = some (s, (hd hs i).2) ∧ Bytes Γ s (hd hs i).1 ∧ (hd hs i).1.length ≤ 70368744177664 := by
  have h1 : i < rs.length := by rw [h.len]; exact hi
  have e1 := List.getElem?_eq_getElem h1
  have e2 := List.getElem?_eq_getElem hi
  have e3 : hd hs i = hs[i] := by unfold hd; rw [List.getD_eq_getElem?_getD, e2]; rfl
  obtain ⟨a, b, c⟩ := h.at_ i _ _ e1 e2
  rw [e3]
  exact ⟨rs[i].1, by rw [e1, ← b], a, c⟩

theorem HeadsOK.set {rs : List (Sl × Bool)} {hs : List Hd} (h : HeadsOK Γ rs hs) {i : Nat} {s : Sl} {x : Hd} (hb : Bytes Γ s x.1) (hx : x.1.length ≤ 70368744177664) : HeadsOK Γ (rs.set i (s, x.2)) (hs.set i x) := by
  refine ⟨by simp [h.len], fun j r y h1 h2 => ?_⟩
  rw [List.getElem?_set] at h1 h2
  by_cases hij : i = j
  · subst hij
    rw [if_pos rfl] at h1 h2
    split at h1
    · split at h2
      · cases h1; cases h2; exact ⟨hb, rfl, hx⟩
      · cases h2
    · cases h1
  · rw [if_neg hij] at h1 h2
    exact h.at_ j r y h1 h2

theorem rd_head {rs : List (Sl × Bool)} {i : Nat} {s : Sl} {b : Bool} (h : rs[i]? = some (s, b)) : rdL (rs.flatMap hcell) (i * 2) (.agg [.sl, .bool]) (s, b) := by
  intro j v hv
  have hj : j < 2 := (List.getElem?_eq_some_iff.1 hv).1
  rw [flatMap_get hcell_len rs i j _ h hj]
  exact hv

theorem rd2 (s : Sl) (b : Bool) : rdC #[.slice s.p s.len s.cap, .bool b] 0 (.agg [.sl, .bool]) (s, b) := by
  intro i v hv
  rcases i with _ | _ | i
  · exact hv
  · exact hv
  · exact absurd hv (by simp [ScsV])

def iv (n : Nat) : Value := .int .i64 (n : Int)

theorem rd_int {l : List Nat} {i n : Nat} (h : l[i]? = some n) : rdL (l.map iv) (i * 1) (.s (.int .i64)) (n : Int) := by
  show (l.map iv)[i * 1]? = some (.int .i64 (n : Int))
  rw [Nat.mul_one, List.getElem?_map, h]
  rfl

/-- the cells of a tree of losers -/
def lcells (rows lst : Sl) (g : Int) : Array Value := #[.slice rows.p rows.len rows.cap, .slice lst.p lst.len lst.cap, .func (.func 105) #[] #[], .int .i64 g]

abbrev TL : Nat := 149
abbrev TH : Nat := 34
abbrev TI : Nat := 3

theorem beats_ok {b : Nat} {rows lst : Sl} {g : Int} {rs : List (Sl × Bool)} {hs : List Hd} {m n : Nat} {K : Bool → World → Prop}
    (h : Sat Γ (blk b (.cells (lcells rows lst g) TL (0, 0)) :: Own rows TH 2 (rs.flatMap hcell) :: L) w) (hh : HeadsOK Γ rs hs) (hr : rows.len = hs.length) (hm : m < hs.length) (hn : n < hs.length)
    (hs0 : hs.length ≤ 1000000) (hg : 0 ≤ g ∧ g < 4611686018427387904)
    (k : ∀ w', Sat Γ (blk b (.cells (lcells rows lst (g + 1)) TL (0, 0)) :: Own rows TH 2 (rs.flatMap hcell) :: L) w' → K (beats hs m n) w') :
    CallP Try.prog 160 [.pointer (some ⟨b, 0, none⟩), .int .i64 (m : Int), .int .i64 (n : Int)] (.one (.s .bool)) K w := by
  refine callP (fn := Try.f160) [.s (.addr ⟨b, 0, none⟩), .s (.int .i64 (m : Int)), .s (.int .i64 (n : Int))] (.p .n (.p .n (.p (.h [0, 1, 2, 3, 4, 5, 6, 7, 8, 9, 10, 11, 12, 13, 14, 15, 16, 17, 19, 20, 18, 21, 22, 23, 24, 25] []) .n))) nong mixed (by kernel_rfl) (by kernel_rfl) rfl rfl ?_
  refine ld g h (by repeat (first | with_reducible exact Pick.here | apply Pick.there)) ?_
  refine wr ?_
  refine st h (by repeat (first | with_reducible exact Pick.here | apply Pick.there)) fun w1 h1 => ?_
  have h1 : Sat Γ (blk b (.cells (lcells rows lst (g + 1)) TL (0, 0)) :: Own rows TH 2 (rs.flatMap hcell) :: L) w1 := h1
  obtain ⟨sm, em, bm, lm⟩ := hh.get hm
  obtain ⟨sn, en, bn, ln⟩ := hh.get hn
  have hne : rows.len ≠ 0 := by omega
  refine held Γ [blk b (.cells (lcells rows lst (g + 1)) TL (0, 0)), Own rows TH 2 (rs.flatMap hcell)] ?_
  refine dr h1 fun w2 h2 => ?_
  refine ⟨h2.sx (.refl _), ?_⟩
  refine ldH (.func (.func 105) #[] #[]) (by repeat (first | with_reducible exact Pick.here | apply Pick.there)) ?_
  refine ldH rows (by repeat (first | with_reducible exact Pick.here | apply Pick.there)) ?_
  refine ⟨⟨by omega, by omega⟩, ?_⟩
  refine nnOwn h2 (by repeat (first | with_reducible exact Pick.here | apply Pick.there)) hne fun a ha _ => ?_
  refine ldOwnH (sm, (hd hs m).2) (by repeat (first | with_reducible exact Pick.here | apply Pick.there)) ha hne (rd_head em) ?_
  refine ldH rows (by repeat (first | with_reducible exact Pick.here | apply Pick.there)) ?_
  refine ⟨⟨by omega, by omega⟩, ?_⟩
  refine ⟨a, ha, ?_⟩
  refine ldOwnH (sn, (hd hs n).2) (by repeat (first | with_reducible exact Pick.here | apply Pick.there)) ha hne (rd_head en) ?_
  refine ⟨105, [], [], rfl, by kernel_rfl, ?_⟩
  refine cmpHd_ok (x := hd hs m) (y := hd hs n) h2 bm bn fun w3 h3 => ?_
  refine ⟨h3.sx (.refl _), ?_⟩
  refine compareInt_ok (a := (m : Int)) (b := (n : Int)) ?_
  refine ⟨h3.sx (.refl _), ?_⟩
  refine new h3 fun r w4 h4 => ?_
  have h4 : Sat Γ (blk r (.cells #[.int .i64 (cmpH (hd hs m) (hd hs n)), .int .i64 (cmpInt (m : Int) (n : Int))] TI (0, 0)) :: blk b (.cells (lcells rows lst (g + 1)) TL (0, 0)) :: Own rows TH 2 (rs.flatMap hcell) :: L) w4 := h4
  refine ⟨h4.drop.sx (L0 := [_, _]) (.refl _), ?_⟩
  refine or_ok h4 (by repeat (first | with_reducible exact Pick.here | apply Pick.there)) ?_
  refine ⟨h4.drop.sx (L0 := [_, _]) (.refl _), ?_⟩
  refine ⟨_, rfl, ?_⟩
  have k' := k w4 h4.drop
  have e : beats hs m n = decide ((if cmpH (hd hs m) (hd hs n) ≠ 0 then cmpH (hd hs m) (hd hs n) else cmpInt (m : Int) (n : Int)) < 0) := by
    unfold beats cmpInt
    by_cases h0 : cmpH (hd hs m) (hd hs n) = 0
    · simp only [h0, if_true, ne_eq, not_true, if_false]
      by_cases hmn : m < n
      · have : (m : Int) < n := by omega
        simp [hmn, this]
      · have : ¬ (m : Int) < n := by omega
        simp only [hmn, this, if_false, decide_false]
        split <;> simp
    · simp [h0]
  rw [e] at k'
  exact k'

end Go.Proofs.Ytohoimokfgfceaa.K
