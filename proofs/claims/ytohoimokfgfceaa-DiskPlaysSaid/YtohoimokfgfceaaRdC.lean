/-
  The reference's disk: a change of names.
-/
import Derived.Test.YtohoimokfgfceaaRdA
namespace Go.Proofs.Ytohoimokfgfceaa.K
open Go Go.Proofs
variable {Γ Γ' : Mem} {L L' L'' : List HP} {w w' : World} {A B : HP}
set_option maxRecDepth 100000
set_option maxHeartbeats 4000000

theorem eChgR_after {Γ : Mem} {y : eChgR.sh.T} {x : ChM} (h : eChgR.r Γ y x) : ∃ s : Int, (x.gone = [] → s = (x.file : Int)) ∧ y = (str x.gone, str x.new, s) := by
  obtain ⟨y1, y2, y3⟩ := y
  obtain ⟨h1, h2, h3⟩ := h
  exact ⟨y3, h3, by rw [show y1 = str x.gone from h1, show y2 = str x.new from h2]⟩

theorem NamesOK.find_nil {n : Nat} {l : List (Str × Nat)} (h : NamesOK n l) : findN l [] = none :=
  findN_none.2 fun p hp e => rightN_ne (h.right p hp) e

theorem NamesOK.without_nil {n : Nat} {l : List (Str × Nat)} (h : NamesOK n l) : K.without l [] = l := by
  unfold K.without
  rw [List.filter_eq_self]
  intro p hp
  have := rightN_ne (h.right p hp)
  simp [this]

/-- a change's file is told where it is a new one -/
def chI (c : ChM) (f : Int) : Prop := c.gone = [] → f = (c.file : Int)

theorem rfindSome_ok {s : Sl} {l : List (Str × Nat)} {t : Str} {i : Nat} {K : Int → World → Prop} (h : Sat Γ L w) (hl : Lst eNameR Γ s l) (hn : l.length ≤ 1000000000000) (hf : findN l t = some i) (k : ∀ w', Sat Γ L w' → K (i : Int) w') :
    CallP Try.prog 136 [.slice s.p s.len s.cap, .string (str t)] (.one (.s (.int .i64))) K w := rfind_ok h hl hn fun w' h => by rw [hf]; exact k w' h
theorem rfindNone_ok {s : Sl} {l : List (Str × Nat)} {t : Str} {K : Int → World → Prop} (h : Sat Γ L w) (hl : Lst eNameR Γ s l) (hn : l.length ≤ 1000000000000) (hf : findN l t = none) (k : ∀ w', Sat Γ L w' → K (-1) w') :
    CallP Try.prog 136 [.slice s.p s.len s.cap, .string (str t)] (.one (.s (.int .i64))) K w := rfind_ok h hl hn fun w' h => by rw [hf]; exact k w' h

theorem rchange_ok {s : Sl} {l : List (Str × Nat)} {c : ChM} {n : Nat} {f : Int} {K : Sl → World → Prop} (h : Sat Γ L w) (hl : Lst eNameR Γ s l) (hn : NamesOK n l) (hll : l.length ≤ 1000000000000) (hnn : n ≤ 1000000000000) (hc : FitC l c) (hf : c.file < n) (hff : c.gone = [] → f = (c.file : Int))
    (k : ∀ r Γ' w', Γ.le Γ' → Lst eNameR Γ' r (chg l c) → Sat Γ' L w' → K r w') :
    CallP Try.prog 135 [.slice s.p s.len s.cap, .agg #[.string (str c.gone), .string (str c.new), .int .i64 f]] (.one (.s .sl)) K w := by
  have hw0 := hn.without_nil
  have hwl := (without_sub l c.gone).length_le
  refine callP (fn := Try.f135) [.s (.sl s), .agg [.str (str c.gone), .str (str c.new), .int .i64 f]] .n nong mixed (by kernel_rfl) (by kernel_rfl) rfl rfl ?_
  obtain ⟨gone, nw, file⟩ := c
  dsimp only at hf hff hwl ⊢
  by_cases hg : gone = []
  · subst hg
    have e1 : f = (file : Int) := hff rfl
    subst e1
    have e2 : chg l ⟨[], nw, file⟩ = withN l nw file := by
      have hne : nw ≠ [] := by
        rcases hc with ⟨_, h2, _⟩ | ⟨h1, _⟩
        · exact rightN_ne h2
        · exact absurd rfl (rightN_ne h1)
      unfold chg
      rw [if_neg hne]
      dsimp only
      rw [hw0]
    rw [e2] at k
    obtain ⟨lhl, mhl, chl⟩ := hl.lens
    refine new h fun ar0 _ h => ?_
    refine ld _ h .n0 ?_
    refine brS (fun ab1 => ?_) (fun ab1 => absurd rfl ab1)
    refine ld _ h .n0 ?_
    refine ld _ h .n0 ?_
    refine rwith_ok h hl hll (by first | omega | (dsimp only; omega) | decide) (fun av3 aΓ4 _ ag6 af7 h => ?_)
    have hl := hl.mono ag6
    obtain ⟨laf7, maf7, caf7⟩ := af7.lens
    refine ⟨_, rfl, ?_⟩
    refine k _ _ _ ag6 af7 h.drop
  · have hfi : findN l gone = some file := by
      rcases hc with ⟨h1, _⟩ | ⟨_, h2, _⟩
      · exact absurd h1 hg
      · exact h2
    unfold chg at k
    dsimp only at k
    by_cases hne : nw = []
    · rw [if_pos hne] at k
      subst hne
      obtain ⟨lhl, mhl, chl⟩ := hl.lens
      refine new h fun br0 _ h => ?_
      refine ld _ h .n0 ?_
      refine brS (fun bb1 => ?_) (fun bb1 => ?_)
      refine ld _ h .n0 ?_
      refine ld _ h .n0 ?_
      contradiction
      refine ld _ h .n0 ?_
      refine rfindSome_ok h hl hll hfi (fun _ h => ?_)
      refine ld _ h .n0 ?_
      refine rwithout_ok h hl hll (fun bv6 bΓ7 _ bg9 bf10 h => ?_)
      have hl := hl.mono bg9
      obtain ⟨lbf10, mbf10, cbf10⟩ := bf10.lens
      refine ld _ h .n0 ?_
      refine brS (fun bb12 => ?_) (fun bb12 => absurd rfl bb12)
      refine ⟨_, rfl, ?_⟩
      refine k _ _ _ bg9 bf10 h.drop
    · rw [if_neg hne] at k
      obtain ⟨lhl, mhl, chl⟩ := hl.lens
      refine new h fun cr0 _ h => ?_
      refine ld _ h .n0 ?_
      refine brS (fun cb1 => ?_) (fun cb1 => ?_)
      refine ld _ h .n0 ?_
      refine ld _ h .n0 ?_
      contradiction
      refine ld _ h .n0 ?_
      refine rfindSome_ok h hl hll hfi (fun _ h => ?_)
      refine ld _ h .n0 ?_
      refine rwithout_ok h hl hll (fun cv6 cΓ7 _ cg9 cf10 h => ?_)
      have hl := hl.mono cg9
      obtain ⟨lcf10, mcf10, ccf10⟩ := cf10.lens
      refine ld _ h .n0 ?_
      refine brS (fun cb12 => ?_) (fun cb12 => ?_)
      refine ⟨_, rfl, ?_⟩
      refine k _ _ _ cg9 ?_ h.drop
      contradiction
      refine ld _ h .n0 ?_
      refine rwith_ok h cf10 (by first | omega | (dsimp only; omega) | decide) (by first | omega | (dsimp only; omega) | decide) (fun cv15 cΓ16 _ cg18 cf19 h => ?_)
      have cf10 := cf10.mono cg18
      have hl := hl.mono cg18
      obtain ⟨lcf19, mcf19, ccf19⟩ := cf19.lens
      refine ⟨_, rfl, ?_⟩
      refine k _ _ _ (cg9.trans cg18) cf19 h.drop

end Go.Proofs.Ytohoimokfgfceaa.K
