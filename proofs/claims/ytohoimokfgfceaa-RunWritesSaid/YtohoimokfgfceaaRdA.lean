/-
  The reference's disk: names as lists: find, without, with, change.
-/
import Derived.Test.YtohoimokfgfceaaDkR
import Derived.Test.YtohoimokfgfceaaEngP
namespace Go.Proofs.Ytohoimokfgfceaa.K
open Go Go.Proofs
variable {Γ Γ' : Mem} {L L' L'' : List HP} {w w' : World} {A B : HP}
set_option maxRecDepth 100000
set_option maxHeartbeats 4000000

theorem eNameR_after {Γ : Mem} {y : eNameR.sh.T} {x : Str × Nat} (h : eNameR.r Γ y x) : y = (str x.1, (x.2 : Int)) := by
  obtain ⟨y1, y2⟩ := y
  obtain ⟨h1, h2⟩ := h
  exact Prod.ext h1 h2

def foundI (o : Option Nat) : Int := match o with
  | some i => (i : Int)
  | none => -1

theorem rfind_ok {s : Sl} {l : List (Str × Nat)} {t : Str} {K : Int → World → Prop} (h : Sat Γ L w) (hl : Lst eNameR Γ s l) (hn : l.length ≤ 1000000000000) (k : ∀ w', Sat Γ L w' → K (foundI (findN l t)) w') :
    CallP Try.prog 136 [.slice s.p s.len s.cap, .string (str t)] (.one (.s (.int .i64))) K w := by
  refine callP (fn := Try.f136) [.s (.sl s), .s (.str (str t))] (.p .n (.p (.p .n (.b (.l [0, 1] [(5, .s (.int .i64))] .n))) .n)) nong mixed (by kernel_rfl) (by kernel_rfl) rfl rfl ?_
  obtain ⟨lhl, mhl, chl⟩ := hl.lens
  rotate_left
  refine loop (σ := Int) (fun st w' u => ∃ i : Nat, st = (i : Int) ∧ i ≤ l.length ∧ u = l.length - i ∧ findN l t = findN (l.drop i) t ∧ Sat Γ L w') l.length ⟨0, rfl, by omega, by omega, rfl, h⟩ ?_
  clear h
  rintro _ w u ⟨i, rfl, hi, hu, he, h⟩
  by_cases hil : i < l.length
  · obtain ⟨p, ep⟩ := get_lt hil
    have hd : l.drop i = p :: l.drop (i + 1) := by
      rw [List.drop_eq_getElem_cons hil]
      rw [List.getElem?_eq_getElem hil] at ep
      cases ep
      rfl
    rw [hd] at he
    have hfd : findN (p :: l.drop (i + 1)) t = if p.1 = t then some p.2 else findN (l.drop (i + 1)) t := rfl
    rw [hfd] at he
    by_cases hp : p.1 = t
    · rw [if_pos hp] at he
      rw [he] at k
      subst hp
      refine brD (fun bb0 => ?_) (fun bb0 => by exfalso; omega)
      refine ⟨by omega, ?_⟩
      refine nnL h hl (fun ba1 bha1 => ?_)
      refine ldLf h hl (·.1) bha1 ep (fun by2 bhy2 => ?_)
      have bhy2 := eNameR_after bhy2
      subst bhy2
      refine brS (fun bb3 => ?_) (fun bb3 => absurd rfl bb3)
      refine ⟨by omega, ?_⟩
      refine ⟨_, bha1, ?_⟩
      refine ldLf h hl (·.2) bha1 ep (fun by4 bhy4 => ?_)
      have bhy4 := eNameR_after bhy4
      subst bhy4
      refine ⟨_, rfl, ?_⟩
      refine k _ h
    · rw [if_neg hp] at he
      refine brD (fun cb0 => ?_) (fun cb0 => by exfalso; omega)
      refine ⟨by omega, ?_⟩
      refine nnL h hl (fun ca1 cha1 => ?_)
      refine ldLf h hl (·.1) cha1 ep (fun cy2 chy2 => ?_)
      have chy2 := eNameR_after chy2
      subst chy2
      refine brS (fun cb3 => ?_) (fun cb3 => ?_)
      refine ⟨by omega, ?_⟩
      refine ⟨_, cha1, ?_⟩
      refine ldLf h hl (·.2) cha1 ep (fun cy4 chy4 => ?_)
      have chy4 := eNameR_after chy4
      subst chy4
      refine ⟨_, rfl, ?_⟩
      contradiction
      refine wrN (i + 1) ?_
      refine ⟨_, (by first | omega | rfl | (dsimp only; omega)), _, rfl, (by first | omega | rfl | (dsimp only; omega)), rfl, he, h⟩
  · have : i = l.length := by omega
    subst this
    rw [List.drop_length] at he
    rw [he] at k
    refine brD (fun db0 => by exfalso; omega) (fun db0 => ?_)
    refine ⟨_, rfl, ?_⟩
    refine k _ h

theorem rwithout_ok {s : Sl} {l : List (Str × Nat)} {t : Str} {K : Sl → World → Prop} (h : Sat Γ L w) (hl : Lst eNameR Γ s l) (hn : l.length ≤ 1000000000000) (k : ∀ r Γ' w', Γ.le Γ' → Lst eNameR Γ' r (without l t) → Sat Γ' L w' → K r w') :
    CallP Try.prog 171 [.slice s.p s.len s.cap, .string (str t)] (.one (.s .sl)) K w := by
  refine callP (fn := Try.f171) [.s (.sl s), .s (.str (str t))] (.p .n (.p .n (.p (.p .n (.b (.l [0, 1] [(5, .s .sl), (6, .s (.int .i64))] (.p .n (.p (.k [6, 0, 1] [(5, .s .sl)] .n) .n))))) .n))) nong mixed (by kernel_rfl) (by kernel_rfl) rfl rfl ?_
  obtain ⟨lhl, mhl, chl⟩ := hl.lens
  rotate_left
  refine loop (σ := Sl × Int) (fun st w' u => ∃ (o : Sl) (i : Nat), st = (o, (i : Int)) ∧ i ≤ l.length ∧ u = l.length - i ∧ Sat Γ (OL eNameR TRName o (without (l.take i) t) :: L) w') l.length ⟨⟨none, 0, 0⟩, 0, rfl, by omega, by omega, h.olNil⟩ ?_
  clear h
  rintro _ w u ⟨o, i, rfl, hi, hu, h⟩
  have hol := h.olLen .n0
  have hwl : (without (l.take i) t).length ≤ i := by
    have := (without_sub (l.take i) t).length_le
    rw [List.length_take] at this
    omega
  by_cases hil : i < l.length
  · obtain ⟨p, ep⟩ := get_lt hil
    have htk : without (l.take (i + 1)) t = without (l.take i) t ++ (if p.1 = t then [] else [p]) := by
      rw [List.take_add_one, ep]
      unfold without
      rw [List.filter_append]
      congr 1
      show List.filter _ [p] = _
      by_cases hp : p.1 = t <;> simp [hp]
    by_cases hp : p.1 = t
    · rw [if_pos hp, List.append_nil] at htk
      refine brD (fun bb0 => ?_) (fun bb0 => by exfalso; omega)
      dsimp only at bb0
      refine joinI ?_
      refine ⟨by omega, ?_⟩
      refine nnL h hl (fun ba1 bha1 => ?_)
      refine ldLf h hl (·.1) bha1 ep (fun by2 bhy2 => ?_)
      have bhy2 := eNameR_after bhy2
      subst bhy2
      refine brSn (fun bb3 => ?_) (fun bb3 => ?_)
      refine ⟨by omega, ?_⟩
      refine ⟨_, bha1, ?_⟩
      refine ldL h hl bha1 ep (fun by4 bhy4 => ?_)
      have bhy4 := eNameR_after bhy4
      subst bhy4
      refine new h fun br5 _ h => ?_
      refine app1 _ _ slNameR h .n0 (by assumption) (fun bs6 _ bl6 h => ?_)
      dsimp only at bl6
      refine wrN (i + 1) ?_
      refine ⟨_, (by first | omega | rfl | (dsimp only; omega)), _, _, rfl, (by first | omega | rfl | (dsimp only; omega)), rfl, (Sat.eqs h ?_)⟩
      contradiction
      refine wrN (i + 1) ?_
      refine ⟨_, (by first | omega | rfl | (dsimp only; omega)), _, _, rfl, (by first | omega | rfl | (dsimp only; omega)), rfl, (Sat.eqs h ?_)⟩
      rotate_left
      rw [htk]
    · rw [if_neg hp] at htk
      refine brD (fun cb0 => ?_) (fun cb0 => by exfalso; omega)
      dsimp only at cb0
      refine joinI ?_
      refine ⟨by omega, ?_⟩
      refine nnL h hl (fun ca1 cha1 => ?_)
      refine ldLf h hl (·.1) cha1 ep (fun cy2 chy2 => ?_)
      have chy2 := eNameR_after chy2
      subst chy2
      refine brSn (fun cb3 => ?_) (fun cb3 => ?_)
      refine ⟨by omega, ?_⟩
      refine ⟨_, cha1, ?_⟩
      refine ldL h hl cha1 ep (fun cy4 chy4 => ?_)
      have chy4 := eNameR_after chy4
      subst chy4
      refine new h fun cr5 _ h => ?_
      refine app1 _ _ slNameR h .n0 (by assumption) (fun cs6 _ cl6 h => ?_)
      dsimp only at cl6
      refine wrN (i + 1) ?_
      refine ⟨_, (by first | omega | rfl | (dsimp only; omega)), _, _, rfl, (by first | omega | rfl | (dsimp only; omega)), rfl, (Sat.eqs h ?_)⟩
      rotate_left
      refine wrN (i + 1) ?_
      refine ⟨_, (by first | omega | rfl | (dsimp only; omega)), _, _, rfl, (by first | omega | rfl | (dsimp only; omega)), rfl, (Sat.eqs h ?_)⟩
      contradiction
      rw [htk]
  · have e : l.take i = l := List.take_of_length_le (by omega)
    rw [e] at h hwl hol
    refine brD (fun db0 => by exfalso; omega) (fun db0 => ?_)
    dsimp only at db0
    refine ⟨_, rfl, ?_⟩
    obtain ⟨dΓ1, dg1, df1, h⟩ := h.olFreeze .n0 (by first | omega | (dsimp only; omega))
    have hl := hl.mono dg1
    refine k _ _ _ dg1 df1 h

theorem appNameR_pr {T2 T3 r f : Nat} {z3 : Nat × Nat} {s : Sl} {xs : List (Str × Nat)} {t : Str} {K : Sl → World → Prop} (h : Sat Γ (blk r (.cells #[.string (str t), .int .i64 (f : Int)] T3 z3) :: L) w) (pk : Pick (OL eNameR TRName s xs) L L')
    (hb : (s.len + 1) * 24 ≤ 70368744177664) (k : ∀ s' w', s'.len = s.len + 1 → Sat Γ (OL eNameR TRName s' (xs ++ [(t, f)]) :: L') w' → K s' w') :
    Prim Try.prog (Builtin.append_ #[185, 185] T2 #[.slice s.p s.len s.cap, .slice (some ⟨r, 0, none⟩) 1 1]) (.one (.s .sl)) K w :=
  app1 (E := eNameR) (str t, (f : Int)) (t, f) slNameR h pk ⟨rfl, rfl⟩ k hb

theorem rwith_ok {s : Sl} {l : List (Str × Nat)} {t : Str} {f : Nat} {K : Sl → World → Prop} (h : Sat Γ L w) (hl : Lst eNameR Γ s l) (hn : l.length ≤ 1000000000000) (hf : f < 1000000000000) (k : ∀ r Γ' w', Γ.le Γ' → Lst eNameR Γ' r (withN l t f) → Sat Γ' L w' → K r w') :
    CallP Try.prog 170 [.slice s.p s.len s.cap, .string (str t), .int .i64 (f : Int)] (.one (.s .sl)) K w := by
  have hwl := (without_sub l t).length_le
  refine callP (fn := Try.f170) [.s (.sl s), .s (.str (str t)), .s (.int .i64 (f : Int))] (.p .n (.p .n (.p .n (.p .n (.p (.p .n (.b (.l [7, 2, 1] [(8, .s .sl), (9, .s .bool), (10, .s (.int .i64))] (.p .n (.p (.b (.j [10, 7, 2, 1] [(9, .s .bool), (8, .s .sl)] .n .n)) .n))))) (.j [] [(8, .s .sl)] .n .n)))))) nong mixed (by kernel_rfl) (by kernel_rfl) rfl rfl ?_
  refine rwithout_ok h hl hn fun rs Γ1 _ g1 f1 h => ?_
  have k : ∀ r Γ' w', Γ1.le Γ' → Lst eNameR Γ' r (withN l t f) → Sat Γ' L w' → K r w' := fun r Γ' w' g => k r Γ' w' (g1.trans g)
  have hwn : withN l t f = insN (without l t) t f := rfl
  rw [hwn] at k
  generalize without l t = l2 at *
  clear hl
  obtain ⟨lf1, mf1, cf1⟩ := f1.lens
  rotate_left
  refine loop (σ := Sl × Bool × Int) (fun st w' u => ∃ (o : Sl) (b : Bool) (i : Nat) (acc : List (Str × Nat)), st = (o, b, (i : Int)) ∧ i ≤ l2.length ∧ u = l2.length - i ∧ acc.length ≤ i + cond b 1 0 ∧
    insN l2 t f = (if b = true then acc ++ l2.drop i else acc ++ insN (l2.drop i) t f) ∧ Sat Γ1 (OL eNameR TRName o acc :: L) w') l2.length ⟨⟨none, 0, 0⟩, false, 0, [], rfl, by omega, by omega, by simp, by simp, h.olNil⟩ ?_
  clear h
  rintro _ w u ⟨o, b, i, acc, rfl, hi, hu, hal, he, h⟩
  have hol := h.olLen .n0
  by_cases hil : i < l2.length
  · obtain ⟨p, ep⟩ := get_lt hil
    have hd : l2.drop i = p :: l2.drop (i + 1) := by
      rw [List.drop_eq_getElem_cons hil]
      rw [List.getElem?_eq_getElem hil] at ep
      cases ep
      rfl
    rw [hd] at he
    have hin : insN (p :: l2.drop (i + 1)) t f = if cmpB t p.1 < 0 then (t, f) :: p :: l2.drop (i + 1) else p :: insN (l2.drop (i + 1)) t f := rfl
    rw [hin] at he
    cases b with
    | true =>
      have hal : acc.length ≤ i + 1 := hal
      rw [if_pos rfl] at he
      refine brD (fun bb0 => ?_) (fun bb0 => ?_)
      dsimp only at bb0
      refine joinI ?_
      refine brF ?_
      refine ⟨by dsimp only; omega, ?_⟩
      refine nnL h f1 (fun ba1 bha1 => ?_)
      refine ldL h f1 bha1 ep (fun by2 bhy2 => ?_)
      have bhy2 := eNameR_after bhy2
      subst bhy2
      refine new h fun br3 _ h => ?_
      refine app1 _ _ slNameR h .n0 (by assumption) (fun bs4 _ bl4 h => ?_)
      dsimp only at bl4
      refine wrN (i + 1) ?_
      refine ⟨_, (by first | omega | rfl | (dsimp only; omega)), _, _, _, _, rfl, (by first | omega | rfl | (dsimp only; omega)), rfl, ?_, ?_, h⟩
      rotate_left
      rotate_left
      dsimp only at bb0
      refine joinI ?_
      refine brF ?_
      refine ⟨_, rfl, ?_⟩
      obtain ⟨bΓ5, bg5, bf5, h⟩ := h.olFreeze .n0 (by first | omega | (dsimp only; omega))
      have f1 := f1.mono bg5
      refine k _ _ _ bg5 ?_ h
      (exfalso; omega)
      · show (acc ++ [p]).length ≤ i + 1 + 1; rw [List.length_append, List.length_singleton]; omega
      · show insN l2 t f = if true = true then _ else _
        rw [if_pos rfl, he]; simp
    | false =>
      have hal : acc.length ≤ i := hal
      rw [if_neg (by decide)] at he
      by_cases hc : cmpB t p.1 < 0
      · rw [if_pos hc] at he
        refine brD (fun cb0 => ?_) (fun cb0 => ?_)
        dsimp only at cb0
        refine joinI ?_
        refine brT ?_
        refine ⟨by dsimp only; omega, ?_⟩
        refine nnL h f1 (fun ca1 cha1 => ?_)
        refine ldLf h f1 (·.1) cha1 ep (fun cy2 chy2 => ?_)
        have chy2 := eNameR_after chy2
        subst chy2
        refine brSgt (fun cb3 => ?_) (fun cb3 => by exfalso; omega)
        refine new h fun cr4 _ h => ?_
        refine appNameR_pr h .n0 (by first | omega | (dsimp only; omega) | decide) (fun cv6 _ cp8 h => ?_)
        dsimp only at cp8
        refine ⟨by dsimp only; omega, ?_⟩
        refine ⟨_, cha1, ?_⟩
        refine ldL h f1 cha1 ep (fun cy10 chy10 => ?_)
        have chy10 := eNameR_after chy10
        subst chy10
        refine new h fun cr11 _ h => ?_
        refine appNameR_pr h .n0 (by first | omega | (dsimp only; omega) | decide) (fun cv13 _ cp15 h => ?_)
        dsimp only at cp15
        refine wrN (i + 1) ?_
        refine ⟨_, (by first | omega | rfl | (dsimp only; omega)), _, _, _, _, rfl, (by first | omega | rfl | (dsimp only; omega)), rfl, ?_, ?_, h⟩
        rotate_left
        rotate_left
        dsimp only at cb0
        refine joinI ?_
        refine brT ?_
        refine new h fun cr17 _ h => ?_
        refine appNameR_pr h .n0 (by first | omega | (dsimp only; omega) | decide) (fun cv19 _ cp21 h => ?_)
        dsimp only at cp21
        refine ⟨_, rfl, ?_⟩
        obtain ⟨cΓ23, cg23, cf23, h⟩ := h.olFreeze .n0 (by first | omega | (dsimp only; omega))
        have f1 := f1.mono cg23
        refine k _ _ _ cg23 ?_ h
        (exfalso; omega)
        · show (acc ++ [(t, f)] ++ [p]).length ≤ i + 1 + 1; simp only [List.length_append, List.length_singleton]; omega
        · show insN l2 t f = if true = true then _ else _
          rw [if_pos rfl, he]; simp
      · rw [if_neg hc] at he
        refine brD (fun db0 => ?_) (fun db0 => ?_)
        dsimp only at db0
        refine joinI ?_
        refine brT ?_
        refine ⟨by dsimp only; omega, ?_⟩
        refine nnL h f1 (fun da1 dha1 => ?_)
        refine ldLf h f1 (·.1) dha1 ep (fun dy2 dhy2 => ?_)
        have dhy2 := eNameR_after dhy2
        subst dhy2
        refine brSgt (fun db3 => by exfalso; omega) (fun db3 => ?_)
        refine ⟨by dsimp only; omega, ?_⟩
        refine ⟨_, dha1, ?_⟩
        refine ldL h f1 dha1 ep (fun dy4 dhy4 => ?_)
        have dhy4 := eNameR_after dhy4
        subst dhy4
        refine new h fun dr5 _ h => ?_
        refine app1 _ _ slNameR h .n0 (by assumption) (fun ds6 _ dl6 h => ?_)
        dsimp only at dl6
        refine wrN (i + 1) ?_
        refine ⟨_, (by first | omega | rfl | (dsimp only; omega)), _, _, _, _, rfl, (by first | omega | rfl | (dsimp only; omega)), rfl, ?_, ?_, h⟩
        rotate_left
        rotate_left
        dsimp only at db0
        refine joinI ?_
        refine brT ?_
        refine new h fun dr7 _ h => ?_
        (exfalso; omega)
        · show (acc ++ [p]).length ≤ i + 1; rw [List.length_append, List.length_singleton]; omega
        · show insN l2 t f = if false = true then _ else _
          rw [if_neg (by decide), he]; simp
  · have : i = l2.length := by omega
    subst this
    rw [List.drop_length, List.append_nil] at he
    cases b with
    | true =>
      have hal : acc.length ≤ l2.length + 1 := hal
      rw [if_pos rfl] at he
      rw [he] at k
      refine brD (fun eb0 => ?_) (fun eb0 => ?_)
      dsimp only at eb0
      refine joinI ?_
      refine brF ?_
      refine ⟨by omega, ?_⟩
      refine nnL h f1 (fun ea1 eha1 => ?_)
      refine ldL' h f1 eha1 (i := l2.length) (fun ex2 ee2 ey2 ehy2 => ?_)
      have ehy2 := eNameR_after ehy2
      subst ehy2
      refine new h fun er3 _ h => ?_
      refine appNameR_pr h .n0 (by first | omega | decide) (fun ev5 _ ep7 h => ?_)
      dsimp only at ep7
      refine wrN (l2.length + 1) ?_
      refine ⟨_, (by first | omega | rfl | (dsimp only; omega)), _, _, _, _, rfl, (by first | omega | rfl | (dsimp only; omega)), rfl, (by first | omega | rfl | (dsimp only; omega)), (by first | omega | rfl | (dsimp only; omega)), h⟩
      dsimp only at eb0
      refine joinI ?_
      refine brF ?_
      refine ⟨_, rfl, ?_⟩
      obtain ⟨eΓ9, eg9, ef9, h⟩ := h.olFreeze .n0 (by first | omega | (dsimp only; omega))
      have f1 := f1.mono eg9
      refine k _ _ _ eg9 ef9 h
    | false =>
      have hal : acc.length ≤ l2.length := hal
      rw [if_neg (by decide)] at he
      have hin : insN ([] : List (Str × Nat)) t f = [(t, f)] := rfl
      rw [hin] at he
      rw [he] at k
      refine brD (fun fb0 => ?_) (fun fb0 => ?_)
      dsimp only at fb0
      refine joinI ?_
      refine brT ?_
      refine ⟨by omega, ?_⟩
      refine nnL h f1 (fun fa1 fha1 => ?_)
      (exfalso; omega)
      dsimp only at fb0
      refine joinI ?_
      refine brT ?_
      refine new h fun fr3 _ h => ?_
      refine appNameR_pr h .n0 (by first | omega | (dsimp only; omega) | decide) (fun fv5 _ fp7 h => ?_)
      dsimp only at fp7
      refine ⟨_, rfl, ?_⟩
      obtain ⟨fΓ9, fg9, ff9, h⟩ := h.olFreeze .n0 (by first | omega | (dsimp only; omega))
      have f1 := f1.mono fg9
      refine k _ _ _ fg9 ff9 h

end Go.Proofs.Ytohoimokfgfceaa.K

/-
  The reference's disk: what is shared by its calls.
-/
namespace Go.Proofs.Ytohoimokfgfceaa.K
open Go Go.Proofs
variable {Γ Γ' : Mem} {L L' L'' : List HP} {w w' : World} {A B : HP}
set_option maxRecDepth 100000
set_option maxHeartbeats 4000000

theorem rdDown_ok {a : Nat} {m : DiskM} {K : Bool → World → Prop} (h : Sat Γ (RDisk a m :: L) w) (k : ∀ w', Sat Γ (RDisk a m.tick :: L) w' → K (!m.up) w') :
    CallP Try.prog 153 [.pointer (some ⟨a, 0, none⟩)] (.one (.s .bool)) K w := by
  obtain ⟨fl, nl, kl, cl, left, hr, h⟩ := h.rd
  have hlo := hr.left
  have hll := hr.wf.left
  have hlu := hr.wf.leftU
  have hwt := hr.wf.tick
  have hr2 : ∀ left', LeftOK m.tick left' → RdOK Γ nl kl cl m.tick left' := fun left' hl => ⟨tick_now (d := m) ▸ hr.now, tick_kept (d := m) ▸ hr.kept, tick_changes (d := m) ▸ hr.chs, hl, hwt⟩
  refine callP (fn := Try.f153) [.s (.ptr (some ⟨a, 0, none⟩))] (.p .n (.j [0] [] .n .n)) nong mixed (by kernel_rfl) (by kernel_rfl) rfl rfl ?_
  obtain ⟨fs, nw, kp, ch, room, down, doomed, leftm, g⟩ := m
  dsimp only at hll hlu
  cases down
  · cases doomed
    · have k : ∀ w', Sat Γ (rdlay a fl nl kl cl ⟨fs, nw, kp, ch, room, false, false, leftm, g⟩ left L) w' → K false w' := fun w' h => k w' (Sat.toRd h (hr2 left fun _ e => by cases e))
      refine joinI ?_
      refine ⟨_, rfl, ?_⟩
      refine ld _ h .n0 ?_
      refine brT ?_
      refine ⟨_, rfl, ?_⟩
      refine ld _ h .n0 ?_
      refine brF ?_
      refine ⟨_, rfl, ?_⟩
      refine ld _ h .n0 ?_
      refine ⟨_, rfl, ?_⟩
      refine k _ ((h.pick .n1).pick .n1)
    · have hleft : left = leftm := hlo rfl rfl
      subst hleft
      by_cases h0 : left = 0
      · subst h0
        have k : ∀ w', Sat Γ (rdlay a fl nl kl cl ⟨fs, nw, kp, ch, room, true, true, 0, g⟩ (-1) L) w' → K true w' := fun w' h => k w' (Sat.toRd h (hr2 (-1) fun e => by cases e))
        refine joinI ?_
        refine ⟨_, rfl, ?_⟩
        refine ld _ h .n0 ?_
        refine brT ?_
        refine ⟨_, rfl, ?_⟩
        refine ld _ h .n0 ?_
        refine brT ?_
        refine ⟨_, rfl, ?_⟩
        refine ld _ h .n0 ?_
        refine ⟨_, rfl, ?_⟩
        refine st h .n0 fun _ h => ?_
        refine ⟨_, rfl, ?_⟩
        refine ld _ h .n0 ?_
        refine wr ?_
        refine ⟨_, rfl, ?_⟩
        refine st h .n0 fun _ h => ?_
        refine ⟨_, rfl, ?_⟩
        refine ld _ h .n0 ?_
        refine ⟨_, rfl, ?_⟩
        refine k _ ((h.pick .n1).pick .n1)
      · have ht : DiskM.tick ⟨fs, nw, kp, ch, room, false, true, left, g⟩ = ⟨fs, nw, kp, ch, room, false, true, left - 1, g⟩ := by simp [DiskM.tick, h0]
        have hup : DiskM.up ⟨fs, nw, kp, ch, room, false, true, left, g⟩ = true := by simp [DiskM.up, h0]
        rw [ht] at k hr2
        rw [hup] at k
        have k : ∀ w', Sat Γ (rdlay a fl nl kl cl ⟨fs, nw, kp, ch, room, false, true, left - 1, g⟩ (left - 1) L) w' → K false w' := fun w' h => k w' (Sat.toRd h (hr2 (left - 1) fun _ _ => rfl))
        have e0 : (left == (0 : Int)) = false := by simpa using h0
        refine joinI ?_
        refine ⟨_, rfl, ?_⟩
        refine ld _ h .n0 ?_
        refine brT ?_
        refine ⟨_, rfl, ?_⟩
        refine ld _ h .n0 ?_
        refine brT ?_
        refine ⟨_, rfl, ?_⟩
        refine ld _ h .n0 ?_
        refine ⟨_, rfl, ?_⟩
        refine st h .n0 fun _ h => ?_
        refine ⟨_, rfl, ?_⟩
        refine ld _ h .n0 ?_
        refine wr ?_
        refine ⟨_, rfl, ?_⟩
        refine st h .n0 fun _ h => ?_
        refine ⟨_, rfl, ?_⟩
        refine ld _ h .n0 ?_
        refine ⟨_, rfl, ?_⟩
        refine kDec (fun cb0 => ?_) (fun cb0 => ?_)
        (exfalso; omega)
        refine k _ ?_
        rotate_left
        rw [e0] at h
        exact h
  · have k : ∀ w', Sat Γ (rdlay a fl nl kl cl ⟨fs, nw, kp, ch, room, true, doomed, leftm, g⟩ left L) w' → K true w' := fun w' h => k w' (Sat.toRd h (hr2 left fun e => by cases e))
    refine joinI ?_
    refine ⟨_, rfl, ?_⟩
    refine ld _ h .n0 ?_
    refine brF ?_
    refine ⟨_, rfl, ?_⟩
    refine ld _ h .n0 ?_
    refine ⟨_, rfl, ?_⟩
    refine k _ ((h.pick .n1).pick .n1)

end Go.Proofs.Ytohoimokfgfceaa.K

/-
  The reference's disk: a change of names.
-/
namespace Go.Proofs.Ytohoimokfgfceaa.K
open Go Go.Proofs
variable {Γ Γ' : Mem} {L L' L'' : List HP} {w w' : World} {A B : HP}
set_option maxRecDepth 100000
set_option maxHeartbeats 4000000

theorem eChgR_after {Γ : Mem} {y : eChgR.sh.T} {x : ChM} (h : eChgR.r Γ y x) : ∃ s : Int, (x.gone = [] → s = (x.file : Int)) ∧ y = (str x.gone, str x.new, s) := by
  obtain ⟨y1, y2, y3⟩ := y
  obtain ⟨h1, h2, h3⟩ := h
  exact ⟨y3, h3, by rw [show y1 = str x.gone from h1, show y2 = str x.new from h2]⟩

theorem NamesOK.find_nil {n : Nat} {l : List (Str × Nat)} (h : NamesOK n l) : findN l [] = none :=
  findN_none.2 fun p hp e => rightN_ne (h.right p hp) e

theorem NamesOK.without_nil {n : Nat} {l : List (Str × Nat)} (h : NamesOK n l) : K.without l [] = l := by
  unfold K.without
  rw [List.filter_eq_self]
  intro p hp
  have := rightN_ne (h.right p hp)
  simp [this]

/-- a change's file is told where it is a new one -/
def chI (c : ChM) (f : Int) : Prop := c.gone = [] → f = (c.file : Int)

theorem rfindSome_ok {s : Sl} {l : List (Str × Nat)} {t : Str} {i : Nat} {K : Int → World → Prop} (h : Sat Γ L w) (hl : Lst eNameR Γ s l) (hn : l.length ≤ 1000000000000) (hf : findN l t = some i) (k : ∀ w', Sat Γ L w' → K (i : Int) w') :
    CallP Try.prog 136 [.slice s.p s.len s.cap, .string (str t)] (.one (.s (.int .i64))) K w := rfind_ok h hl hn fun w' h => by rw [hf]; exact k w' h
theorem rfindNone_ok {s : Sl} {l : List (Str × Nat)} {t : Str} {K : Int → World → Prop} (h : Sat Γ L w) (hl : Lst eNameR Γ s l) (hn : l.length ≤ 1000000000000) (hf : findN l t = none) (k : ∀ w', Sat Γ L w' → K (-1) w') :
    CallP Try.prog 136 [.slice s.p s.len s.cap, .string (str t)] (.one (.s (.int .i64))) K w := rfind_ok h hl hn fun w' h => by rw [hf]; exact k w' h

theorem rchange_ok {s : Sl} {l : List (Str × Nat)} {c : ChM} {n : Nat} {f : Int} {K : Sl → World → Prop} (h : Sat Γ L w) (hl : Lst eNameR Γ s l) (hn : NamesOK n l) (hll : l.length ≤ 1000000000000) (hnn : n ≤ 1000000000000) (hc : FitC l c) (hf : c.file < n) (hff : c.gone = [] → f = (c.file : Int))
    (k : ∀ r Γ' w', Γ.le Γ' → Lst eNameR Γ' r (chg l c) → Sat Γ' L w' → K r w') :
    CallP Try.prog 135 [.slice s.p s.len s.cap, .agg #[.string (str c.gone), .string (str c.new), .int .i64 f]] (.one (.s .sl)) K w := by
  have hw0 := hn.without_nil
  have hwl := (without_sub l c.gone).length_le
  refine callP (fn := Try.f135) [.s (.sl s), .agg [.str (str c.gone), .str (str c.new), .int .i64 f]] .n nong mixed (by kernel_rfl) (by kernel_rfl) rfl rfl ?_
  obtain ⟨gone, nw, file⟩ := c
  dsimp only at hf hff hwl ⊢
  by_cases hg : gone = []
  · subst hg
    have e1 : f = (file : Int) := hff rfl
    subst e1
    have e2 : chg l ⟨[], nw, file⟩ = withN l nw file := by
      have hne : nw ≠ [] := by
        rcases hc with ⟨_, h2, _⟩ | ⟨h1, _⟩
        · exact rightN_ne h2
        · exact absurd rfl (rightN_ne h1)
      unfold chg
      rw [if_neg hne]
      dsimp only
      rw [hw0]
    rw [e2] at k
    obtain ⟨lhl, mhl, chl⟩ := hl.lens
    refine new h fun ar0 _ h => ?_
    refine ld _ h .n0 ?_
    refine brS (fun ab1 => ?_) (fun ab1 => absurd rfl ab1)
    refine ld _ h .n0 ?_
    refine ld _ h .n0 ?_
    refine rwith_ok h hl hll (by first | omega | (dsimp only; omega) | decide) (fun av3 aΓ4 _ ag6 af7 h => ?_)
    have hl := hl.mono ag6
    obtain ⟨laf7, maf7, caf7⟩ := af7.lens
    refine ⟨_, rfl, ?_⟩
    refine k _ _ _ ag6 af7 h.drop
  · have hfi : findN l gone = some file := by
      rcases hc with ⟨h1, _⟩ | ⟨_, h2, _⟩
      · exact absurd h1 hg
      · exact h2
    unfold chg at k
    dsimp only at k
    by_cases hne : nw = []
    · rw [if_pos hne] at k
      subst hne
      obtain ⟨lhl, mhl, chl⟩ := hl.lens
      refine new h fun br0 _ h => ?_
      refine ld _ h .n0 ?_
      refine brS (fun bb1 => ?_) (fun bb1 => ?_)
      refine ld _ h .n0 ?_
      refine ld _ h .n0 ?_
      contradiction
      refine ld _ h .n0 ?_
      refine rfindSome_ok h hl hll hfi (fun _ h => ?_)
      refine ld _ h .n0 ?_
      refine rwithout_ok h hl hll (fun bv6 bΓ7 _ bg9 bf10 h => ?_)
      have hl := hl.mono bg9
      obtain ⟨lbf10, mbf10, cbf10⟩ := bf10.lens
      refine ld _ h .n0 ?_
      refine brS (fun bb12 => ?_) (fun bb12 => absurd rfl bb12)
      refine ⟨_, rfl, ?_⟩
      refine k _ _ _ bg9 bf10 h.drop
    · rw [if_neg hne] at k
      obtain ⟨lhl, mhl, chl⟩ := hl.lens
      refine new h fun cr0 _ h => ?_
      refine ld _ h .n0 ?_
      refine brS (fun cb1 => ?_) (fun cb1 => ?_)
      refine ld _ h .n0 ?_
      refine ld _ h .n0 ?_
      contradiction
      refine ld _ h .n0 ?_
      refine rfindSome_ok h hl hll hfi (fun _ h => ?_)
      refine ld _ h .n0 ?_
      refine rwithout_ok h hl hll (fun cv6 cΓ7 _ cg9 cf10 h => ?_)
      have hl := hl.mono cg9
      obtain ⟨lcf10, mcf10, ccf10⟩ := cf10.lens
      refine ld _ h .n0 ?_
      refine brS (fun cb12 => ?_) (fun cb12 => ?_)
      refine ⟨_, rfl, ?_⟩
      refine k _ _ _ cg9 ?_ h.drop
      contradiction
      refine ld _ h .n0 ?_
      refine rwith_ok h cf10 (by first | omega | (dsimp only; omega) | decide) (by first | omega | (dsimp only; omega) | decide) (fun cv15 cΓ16 _ cg18 cf19 h => ?_)
      have cf10 := cf10.mono cg18
      have hl := hl.mono cg18
      obtain ⟨lcf19, mcf19, ccf19⟩ := cf19.lens
      refine ⟨_, rfl, ?_⟩
      refine k _ _ _ (cg9.trans cg18) cf19 h.drop

end Go.Proofs.Ytohoimokfgfceaa.K
