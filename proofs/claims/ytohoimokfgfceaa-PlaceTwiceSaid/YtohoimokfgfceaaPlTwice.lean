/-
  PlaceTwice: a file that is put again is as it was put last, and each Put is as many things as its bytes have parts, and five. No condition.
-/
import Derived.Test.YtohoimokfgfceaaPlK
namespace Go.Proofs.Ytohoimokfgfceaa.K
open Go Go.Proofs Go.ChangeShapes Go.WideShapes Go.ChangeAt Go.RowKit
variable {Γ Γ' : Mem} {L L' L'' : List HP} {w w' : World} {A B : HP}
set_option maxRecDepth 100000
set_option maxHeartbeats 4000000

theorem law_ptwice {s t : Sl} {name a b : Str} {K : Bool → World → Prop} (h : Sat Γ L w) (ha : Bytes Γ s a) (hb : Bytes Γ t b) (k : ∀ Γ' w', Γ.le Γ' → Sat Γ' L w' → K true w') :
    CallP Try.prog 20 [.string (str name), .slice s.p s.len s.cap, .slice t.p t.len t.cap] (.one (.s .bool)) K w := by
  refine callP (fn := Try.f20) [.s (.str (str name)), .s (.sl s), .s (.sl t)] (.p .n (.p .n (.p .s (.p .n (.j [0, 10, 7, 9] [] .n (.p .n (.p .n (.j [0, 10, 7, 9] [] .n .n)))))))) nong mixed (by kernel_rfl) (by kernel_rfl) rfl rfl ?_
  obtain ⟨hsl, _, _⟩ := ha.lens
  obtain ⟨htl, _, _⟩ := hb.lens
  have hsa := ha.sub (l := 0) (n := min s.len 300) (Nat.zero_le _) (by omega)
  have e0 : (a.drop 0).take (min s.len 300 - 0) = a.take 300 := by
    rw [List.drop_zero, Nat.sub_zero, hsl]
    by_cases h3 : a.length ≤ 300
    · rw [Nat.min_eq_left h3, List.take_of_length_le (Nat.le_refl _), List.take_of_length_le h3]
    · rw [Nat.min_eq_right (by omega)]
  rw [e0] at hsa
  have hsb := hb.sub (l := 0) (n := min t.len 300) (Nat.zero_le _) (by omega)
  have e1 : (b.drop 0).take (min t.len 300 - 0) = b.take 300 := by
    rw [List.drop_zero, Nat.sub_zero, htl]
    by_cases h3 : b.length ≤ 300
    · rw [Nat.min_eq_left h3, List.take_of_length_le (Nat.le_refl _), List.take_of_length_le h3]
    · rw [Nat.min_eq_right (by omega)]
  rw [e1] at hsb
  have hx : (a.take 300).length ≤ 300 := by rw [List.length_take]; omega
  have hy : (b.take 300).length ≤ 300 := by rw [List.length_take]; omega
  have hyn : (b.take 300).length = min t.len 300 := by rw [List.length_take]; omega
  generalize a.take 300 = x at hsa hx
  generalize b.take 300 = y at hsb hy hyn
  have hqn : quiet (.new 5000) := ⟨rfl, rfl⟩
  have hgn : (DiskM.new 5000).g = 0 := rfl
  by_cases hn : rightP name
  · obtain ⟨hp0, hp1, hpw, hp2, hpr⟩ := DiskM.twice_put (x := x) hn hx
    have hall : ∀ N : Nat, N = 5 + (y.length + 63) / 64 → (putP ((putP (.new 5000) name x).1.doom ((N - 1 : Nat) : Int)).1 name y).2 = 40 ∧ (putP ((putP (.new 5000) name x).1.doom (N : Int)).1 name y).2 = 0 ∧
        (((putP ((putP (.new 5000) name x).1.doom (N : Int)).1 name y).1.crash 0 []).read name).2 = (y, 0) ∧ ((putP ((putP (.new 5000) name x).1.doom (N : Int)).1 name y).1.crash 0 []).now.map Prod.fst = [name] ∧
        (putP ((putP (.new 5000) name x).1.doom (N : Int)).1 name y).1.g ≤ 10000 ∧ ((putP ((putP (.new 5000) name x).1.doom (N : Int)).1 name y).1.crash 0 []).g ≤ 10000 := fun N hN => by
      have h1 := DiskM.twice_again (x := x) (y := y) hn hx hy rfl (n := (N : Int)) (by rw [hN]; omega)
      rw [show ((N : Int) - 1) = ((N - 1 : Nat) : Int) by omega] at h1
      exact ⟨h1.1, h1.2.1, h1.2.2.1, h1.2.2.2.1, h1.2.2.2.2, h1.2.2.2.2⟩
    obtain ⟨q1, q2, q3, q4, q5, q6⟩ := hall (5 + ((((min t.len 300 : Nat) : Int)).toNat - Int.toNat 0 + 63) / 64) (by omega)
    have hdg := fun (n : Int) => doom_g (putP (.new 5000) name x).1 n
    refine shownP_ok h (fun aΓ1 _ ag3 h => ?_)
    have ha := ha.mono ag3
    have hb := hb.mono ag3
    have hsa := hsa.mono ag3
    have hsb := hsb.mono ag3
    refine dr h fun _ h => ?_
    refine mnN _ _ ?_
    refine ⟨by omega, ?_⟩
    refine mnN _ _ ?_
    refine ⟨by omega, ?_⟩
    refine dNew_ok h (fun av6 _ h => ?_)
    refine joinI ?_
    refine brF ?_
    refine dPut_ok h hsa (by first | omega | (dsimp only; omega) | decide) (fun aΓ10 _ ag12 h => ?_)
    have ha := ha.mono ag12
    have hb := hb.mono ag12
    have hsa := hsa.mono ag12
    have hsb := hsb.mono ag12
    refine brN (fun ab14 => by exfalso; omega) (fun ab14 => ?_)
    refine wrN (((t.sub Try.prog.types[5].size 0 (↑(min t.len 300) : Int) (↑t.cap : Int)).len) + 63) ?_
    refine ⟨by omega, ?_⟩
    refine tdv ?_
    refine wrN (5 + (((t.sub Try.prog.types[5].size 0 (↑(min t.len 300) : Int) (↑t.cap : Int)).len + 63) / 64)) ?_
    refine dClone_ok h (by first | omega | (dsimp only; omega) | decide) (fun av16 _ h => ?_)
    refine joinI ?_
    refine brF ?_
    refine wrN ((5 + ((t.sub Try.prog.types[5].size 0 (↑(min t.len 300) : Int) (↑t.cap : Int)).len + 63) / 64) - 1) ?_
    refine dDoom_ok h ?_ (fun _ h => ?_)
    rotate_left
    refine brF ?_
    refine dPut_ok h hsb ?_ (fun aΓ23 _ ag25 h => ?_)
    rotate_left
    have ha := ha.mono ag25
    have hb := hb.mono ag25
    have hsa := hsa.mono ag25
    have hsb := hsb.mono ag25
    refine brN (fun ab27 => by exfalso; dsimp only [Sl.sub] at ab27; omega) (fun ab27 => ?_)
    dsimp only [Sl.sub] at ab27
    refine dDoom_ok (h.pick .n1) ?_ (fun _ h => ?_)
    rotate_left
    refine brF ?_
    refine dPut_ok h hsb ?_ (fun aΓ32 _ ag34 h => ?_)
    rotate_left
    have ha := ha.mono ag34
    have hb := hb.mono ag34
    have hsa := hsa.mono ag34
    have hsb := hsb.mono ag34
    refine brN (fun ab36 => by exfalso; dsimp only [Sl.sub] at ab36; omega) (fun ab36 => ?_)
    dsimp only [Sl.sub] at ab36
    refine dCrash_ok h ?_ (.nil _ _) (fun _ h => ?_)
    rotate_left
    refine brF ?_
    refine dReadQuietIs_ok h hqn q3 ?_ (fun av41 aΓ42 _ ag44 af45 h => ?_)
    rotate_left
    have ha := ha.mono ag44
    have hb := hb.mono ag44
    have hsa := hsa.mono ag44
    have hsb := hsb.mono ag44
    obtain ⟨laf45, maf45, caf45⟩ := af45.lens
    refine dNamesFrozenQuiet_ok h hqn ?_ (fun av48 aΓ49 _ ag51 af52 h => ?_)
    rotate_left
    have af45 := af45.mono ag51
    have ha := ha.mono ag51
    have hb := hb.mono ag51
    have hsa := hsa.mono ag51
    have hsb := hsb.mono ag51
    obtain ⟨laf52, maf52, caf52⟩ := af52.lens
    refine brT ?_
    dsimp only [Sl.sub] at maf52
    dsimp only [Sl.sub] at laf52
    refine brT ?_
    refine brT ?_
    refine btoS h af45 ?_
    refine btoS h hsb ?_
    refine brS (fun ab54 => ?_) (fun ab54 => absurd rfl ab54)
    refine ⟨_, rfl, ?_⟩
    refine kDec (fun ab55 => ?_) (fun ab55 => ?_)
    dsimp only at ab55
    refine k _ _ (ag3.trans (ag12.trans (ag25.trans (ag34.trans (ag44.trans ag51))))) h.drop.drop
    dsimp only at ab55
    rotate_left
    · dsimp only [Sl.sub]
      exact (show ((_ : Nat) : Int) < 9223372036854775808 by omega)
    · exact Nat.lt_of_le_of_lt (Nat.add_le_add_right (Nat.le_of_eq (hdg _)) _) (by omega)
    · dsimp only [Sl.sub]
      exact (show ((_ : Nat) : Int) < 9223372036854775808 by omega)
    · exact Nat.lt_of_le_of_lt (Nat.add_le_add_right (Nat.le_of_eq (hdg _)) _) (by omega)
    · exact Nat.lt_of_le_of_lt (hall _ (by dsimp only [Sl.sub]; omega)).2.2.2.2.1 (by decide)
    · exact Nat.lt_of_le_of_lt (hall _ (by dsimp only [Sl.sub]; omega)).2.2.2.2.2 (by decide)
    · exact Nat.lt_of_le_of_lt (hall _ (by dsimp only [Sl.sub]; omega)).2.2.2.2.2 (by decide)
    · rw [q4] at laf52
      exact absurd (by rw [laf52]; rfl) ab55
  · have hp0 : (putP (.new 5000) name x).2 = 1 := by unfold putP; rw [if_pos hn]
    unfold rightP rightN tmpS at hn
    by_cases e1 : name = [116, 109, 112]
    · refine shownP_ok h (fun bΓ1 _ bg3 h => ?_)
      have ha := ha.mono bg3
      have hb := hb.mono bg3
      have hsa := hsa.mono bg3
      have hsb := hsb.mono bg3
      refine dr h fun _ h => ?_
      refine mnN _ _ ?_
      refine ⟨by omega, ?_⟩
      refine mnN _ _ ?_
      refine ⟨by omega, ?_⟩
      refine dNew_ok h (fun bv6 _ h => ?_)
      refine joinI ?_
      refine brF ?_
      refine dPut_ok h hsa (by first | omega | (dsimp only; omega) | decide) (fun bΓ10 _ bg12 h => ?_)
      have ha := ha.mono bg12
      have hb := hb.mono bg12
      have hsa := hsa.mono bg12
      have hsb := hsb.mono bg12
      refine brN (fun bb14 => ?_) (fun bb14 => by exfalso; omega)
      refine brT ?_
      refine brT ?_
      refine brS (fun bb15 => ?_) (fun bb15 => ?_)
      refine ⟨_, rfl, ?_⟩
      refine k _ _ (bg3.trans bg12) h.drop
      refine brS (fun bb17 => ?_) (fun bb17 => ?_)
      refine ⟨_, rfl, ?_⟩
      refine k _ _ (bg3.trans bg12) h.drop
      refine ⟨_, rfl, ?_⟩
      refine kDec (fun bb19 => ?_) (fun bb19 => ?_)
      refine k _ _ (bg3.trans bg12) h.drop
      contradiction
    · by_cases e2 : name = []
      · refine shownP_ok h (fun cΓ1 _ cg3 h => ?_)
        have ha := ha.mono cg3
        have hb := hb.mono cg3
        have hsa := hsa.mono cg3
        have hsb := hsb.mono cg3
        refine dr h fun _ h => ?_
        refine mnN _ _ ?_
        refine ⟨by omega, ?_⟩
        refine mnN _ _ ?_
        refine ⟨by omega, ?_⟩
        refine dNew_ok h (fun cv6 _ h => ?_)
        refine joinI ?_
        refine brF ?_
        refine dPut_ok h hsa (by first | omega | (dsimp only; omega) | decide) (fun cΓ10 _ cg12 h => ?_)
        have ha := ha.mono cg12
        have hb := hb.mono cg12
        have hsa := hsa.mono cg12
        have hsb := hsb.mono cg12
        refine brN (fun cb14 => ?_) (fun cb14 => by exfalso; omega)
        refine brT ?_
        refine brT ?_
        refine brS (fun cb15 => ?_) (fun cb15 => ?_)
        refine ⟨_, rfl, ?_⟩
        refine k _ _ (cg3.trans cg12) h.drop
        refine brS (fun cb17 => ?_) (fun cb17 => ?_)
        refine ⟨_, rfl, ?_⟩
        refine k _ _ (cg3.trans cg12) h.drop
        refine ⟨_, rfl, ?_⟩
        refine kDec (fun cb19 => ?_) (fun cb19 => ?_)
        refine k _ _ (cg3.trans cg12) h.drop
        contradiction
      · have e3 : 32 < name.length := by
          apply Classical.byContradiction
          intro hc
          have : 1 ≤ name.length := Nat.pos_of_ne_zero fun e => e2 (List.eq_nil_of_length_eq_zero e)
          exact hn ⟨e1, this, by omega⟩
        have hz := str_size name
        refine shownP_ok h (fun dΓ1 _ dg3 h => ?_)
        have ha := ha.mono dg3
        have hb := hb.mono dg3
        have hsa := hsa.mono dg3
        have hsb := hsb.mono dg3
        refine dr h fun _ h => ?_
        refine mnN _ _ ?_
        refine ⟨by omega, ?_⟩
        refine mnN _ _ ?_
        refine ⟨by omega, ?_⟩
        refine dNew_ok h (fun dv6 _ h => ?_)
        refine joinI ?_
        refine brF ?_
        refine dPut_ok h hsa (by first | omega | (dsimp only; omega) | decide) (fun dΓ10 _ dg12 h => ?_)
        have ha := ha.mono dg12
        have hb := hb.mono dg12
        have hsa := hsa.mono dg12
        have hsb := hsb.mono dg12
        refine brN (fun db14 => ?_) (fun db14 => by exfalso; omega)
        refine brT ?_
        refine brT ?_
        refine brS (fun db15 => ?_) (fun db15 => ?_)
        refine ⟨_, rfl, ?_⟩
        refine k _ _ (dg3.trans dg12) h.drop
        refine brS (fun db17 => ?_) (fun db17 => ?_)
        refine ⟨_, rfl, ?_⟩
        refine k _ _ (dg3.trans dg12) h.drop
        refine ⟨_, rfl, ?_⟩
        refine kDec (fun db19 => ?_) (fun db19 => ?_)
        refine k _ _ (dg3.trans dg12) h.drop
        (exfalso; omega)

theorem placeTwice_walk {H : Type} {enc : TypeId × Value → H} {W : World} {base : Nat} {vs : List Value} {ds : List (DataW H)} {ps : List MemPlace} (hok : ∀ (j : Nat) (t : TypeId) (v : Value), [9, 32, 32][j]? = some t → vs[j]? = some v → Value.okWide Try.prog W .any base t v)
    (hA : DataW.TrodAll enc Try.prog W 0 (fun _ => true) true [9, 32, 32] vs ds ps) : CallP Try.prog 20 vs (.one (.s .bool)) (fun b w' => b = true ∧ Kept W w') W := by
  obtain ⟨v0, vs0, d0, ds0, p0, q0, rfl, rfl, rfl, h0, r0⟩ := trodAll_cons hA
  obtain ⟨v1, vs1, d1, ds1, p1, q1, rfl, rfl, rfl, h1, r1⟩ := trodAll_cons r0
  obtain ⟨v2, vs2, d2, ds2, p2, q2, rfl, rfl, rfl, h2, r2⟩ := trodAll_cons r1
  obtain ⟨rfl, rfl, rfl⟩ := trodAll_nil r2
  obtain ⟨y0, x0, e0, f0⟩ := argS rStr (hok 0 _ _ rfl rfl) h0
  obtain ⟨y1, x1, e1, f1⟩ := argS rBytes (hok 1 _ _ rfl rfl) h1
  obtain ⟨y2, x2, e2, f2⟩ := argS rBytes (hok 2 _ _ rfl rfl) h2
  cases e0
  cases e1
  cases e2
  obtain ⟨rfl, g0⟩ := f0
  exact law_walk fun k => law_ptwice (Sat.start W) f1 f2 k

theorem placeTwice_lifted (os : Os) (started : os.Started) (H : Type) (enc : TypeId × Value → H) :
    ReturnsInHanded {} Try.checked os 20 .any (Rows.placeTwiceSpec.pre6 enc Try.prog Try.f20 Rows.placeTwiceRow.domain false) (Rows.placeTwiceSpec.post enc Try.prog Try.f20 false true false false) := by
  have e : Try.f20.params.toList = [9, 32, 32] := by kernel_rfl
  refine law_lifted (s := Rows.placeTwiceSpec) started Try.func20 (by kernel_rfl) rfl (fun ds h => ?_) (by kernel_rfl) (fun t ht => ?_)
    (ChangeSpec.witness6 (enc := enc) (C := Try.checked) false ⟨#[], #[.string (str []), .slice none 0 0, .slice none 0 0], []⟩ 8 (by kernel_rfl) (by kernel_rfl) (by kernel_rfl) (by kernel_rfl)) fun W base vs ds ps hok hA => ?_
  · have hl : ds.length = 3 := h
    match ds, hl with
    | [_, _, _], _ => rfl
  · rw [e] at ht
    have hall : ([9, 32, 32].all fun t => Try.prog.readableRec t && decide (t < Try.prog.types.size)) = true := by kernel_rfl
    simpa using List.all_eq_true.1 hall t ht
  · rw [e] at hA hok
    exact placeTwice_walk hok hA

theorem placeTwice_facts : joinedFacts Try.pinned.checked.prog 20 Try.f20 Rows.placeTwiceSpec Rows.placeTwiceRow = true := by
  show joinedFacts Try.prog 20 Try.f20 Rows.placeTwiceSpec Rows.placeTwiceRow = true
  unfold joinedFacts
  rw [make_, enter_, lifts_]
  kernel_rfl

theorem PlaceTwice_holds : Rows.PlaceTwiceSaid :=
  OpenClaim.holds_of_wide 20 Try.f20 rfl rfl rfl rfl rfl rfl rfl ⟨rfl, rfl, rfl, rfl, rfl⟩ rfl rfl rfl rfl rfl (by kernel_rfl) Try.func20 placeTwice_facts
    (of_decide_eq_true (by kernel_rfl)) (by unfold Func.isWrapper; first | (rw [if_pos (by decide +kernel)]; kernel_rfl) | (rw [if_neg (by decide +kernel)]; exact ⟨rfl, rfl⟩))
    (fun os started H enc _ => placeTwice_lifted os started H enc)


end Go.Proofs.Ytohoimokfgfceaa.K
