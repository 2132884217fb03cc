/-
  JournalLong: what is too long is not noted, and what is not is, one behind the other, on a disk with room. No condition.
-/
import Derived.Test.YtocmjngleknlbaaJnC
import Derived.Test.YtocmjngleknlbaaRnS
namespace Go.Proofs.Ytocmjngleknlbaa.K
open Go Go.Proofs Go.ChangeShapes Go.WideShapes Go.ChangeAt Go.RowKit
variable {Γ Γ' : Mem} {L L' L'' : List HP} {w w' : World} {A B : HP}
set_option maxRecDepth 100000
set_option maxHeartbeats 4000000

theorem mkAny_pr {m : Nat} {n : Int} {K : Sl → World → Prop} (h : Sat Γ L w) (hn : n = (m : Int)) (hm : m ≤ 1000000) (k : ∀ s Γ' w', Γ.le Γ' → Bytes Γ' s (List.replicate m 0) → Sat Γ' L w' → K s w') :
    Prim Try.prog (Instr.makeSlice 26 (.int .i64 n) (.int .i64 n)) (.one (.s .sl)) K w := by
  subst hn
  exact mkO (E := eByte) (n := m) (c := m) (0 : Int) (0 : UInt8) slBytes h (by omega) rfl (by omega) fun s w' e _ h => by
    obtain ⟨Γ', g, f, h⟩ := h.olFreeze .n0 (by omega)
    exact k s Γ' w' g f.bytes h

theorem eInt'_after {kd : IntKind} {Γ : Mem} {y : (eInt' kd).sh.T} {x : Int} (h : (eInt' kd).r Γ y x) : y = x := h.1

theorem Lst.shorts {s : Sl} {l : List Int} (h : Lst (eInt' .u16) Γ s l) : ∀ x ∈ l, 0 ≤ x ∧ x < 65536 := fun x hx => by
  obtain ⟨ys, _, h2⟩ := h
  obtain ⟨i, hi⟩ := List.mem_iff_getElem?.1 hx
  obtain ⟨y, _, hr⟩ := h2.get hi
  have h3 := short_of hr
  have h4 : y = x := hr.1
  rw [h4] at h3
  exact h3

/-- a journal on a disk with room -/
structure JL (l : List Str) (m : DiskM) : Prop where
  q : quiet m
  wf : Wf m
  room : m.room = 1048576
  is : DiskM.cont m jnS = (framesB l, 0) ∨ (l = [] ∧ DiskM.cont m jnS = ([], 2))
  small : ∀ x ∈ l, x.length ≤ 4096

theorem jl_new : JL [] (.new 1048576) := ⟨⟨rfl, rfl⟩, .new 1048576, rfl, .inr ⟨rfl, rfl⟩, fun x hx => by cases hx⟩

theorem jl_add {l : List Str} {m : DiskM} {x : Str} (h : JL l m) (hx : x.length ≤ 4096) (hg : m.g ≤ 400000) : (addJ m x).2 = 0 ∧ JL (l ++ [x]) (addJ m x).1 ∧ (addJ m x).1.g ≤ m.g + 20000 := by
  have hs := DiskM.add_step x (by omega)
  have hr := h.room
  have e : addJ m x = growM m jnS (frameB x) := by unfold addJ; rw [if_neg (by omega)]
  obtain ⟨h1, h2, h3⟩ := DiskM.grow_quiet (name := jnS) (x := frameB x) h.q h.wf DiskM.jn_right (by rw [hr, frameB_len]; push_cast; omega)
  have hq := DiskM.add_quiet (b := x) h.q
  have hw := hs.wf m h.wf
  have hgg := hs.g m
  rw [e] at hq hgg ⊢
  have hw : Wf (growM m jnS (frameB x)).1 := by have := hw; rw [e] at this; exact this
  have hc : (DiskM.cont m jnS).1 = framesB l := by
    rcases h.is with h5 | ⟨h5, h6⟩
    · rw [h5]
    · rw [h6, h5]; rfl
  refine ⟨h1, ⟨hq, hw, h3.trans hr, .inl ?_, fun y hy => ?_⟩, by have h7 := hs.g m; rw [e] at h7; exact h7⟩
  · rw [h2, hc, DiskM.framesB_more]
  · rcases List.mem_append.1 hy with hy | hy
    · exact h.small y hy
    · rw [List.mem_singleton] at hy; subst hy; exact hx

theorem jl_open {l : List Str} {m : DiskM} (h : JL l m) : openJ m = (m, l, 0) := by
  rcases h.is with h5 | ⟨h5, h6⟩
  · exact DiskM.open_whole h.q h.small h5
  · rw [h5]; exact DiskM.open_none h.q h6

theorem wrap5001 (z : Int) (h : 0 ≤ z ∧ z < 65536) : IntKind.i64.wrap (z % 5001) = ((z.toNat % 5001 : Nat) : Int) := by
  rw [wrap64_id (by omega) (by omega)]
  omega

theorem law_jlong {s : Sl} {l : List Int} {K : Bool → World → Prop} (h : Sat Γ L w) (hl : Lst (eInt' .u16) Γ s l) (k : ∀ Γ' w', Γ.le Γ' → Sat Γ' L w' → K true w') :
    CallP Try.prog 4 [.slice s.p s.len s.cap] (.one (.s .bool)) K w := by
  refine callP (fn := Try.f4) [.s (.sl s)] (.p .n (.p .n (.p .n (.p .n (.p .n (.p (.p .n (.k [4, 3] [(5, .s .sl)] (.l [17, 16, 4, 3] [(5, .s .sl), (18, .s (.int .i64))] (.p .n (.p .n (.p (.k [18, 17, 16, 4, 3] [(5, .s .sl)] (.p .n (.p .n (.p .n (.p .n (.j [9, 8, 18, 17, 16, 4, 3, 5] [] .n .n)))))) .n)))))) .n)))))) nong mixed (by kernel_rfl) (by kernel_rfl) rfl rfl ?_
  obtain ⟨lhl, mhl, chl⟩ := hl.lens
  refine shownJ_ok h (fun aΓ1 _ ag3 h => ?_)
  have hl := hl.mono ag3
  refine dNew_ok h (fun av6 _ h => ?_)
  refine brF ?_
  refine joinI ?_
  rotate_left
  refine loop (σ := Sl × Int) (fun st w' c => ∃ (o : Sl) (i : Nat) (m : DiskM) (inn : List Str) (Γ' : Mem), st = (o, (i : Int)) ∧ i ≤ l.length ∧ c = l.length - i ∧ JL inn m ∧ i ≤ 10 ∧ inn.length ≤ i ∧ m.g ≤ 20000 * i ∧ aΓ1.le Γ' ∧ Sat Γ' (OL eBytes 26 o inn :: PDisk av6 m :: L) w') l.length
    ⟨⟨none, 0, 0⟩, 0, .new 1048576, [], aΓ1, rfl, by omega, by omega, jl_new, by omega, Nat.le_refl _, Nat.zero_le _, .refl _, h.olNil⟩ ?_
  clear h
  rintro _ w c ⟨o, i, m, inn, Γ3, rfl, hi, hc, hJ, hi10, hil2, hg, g3, h⟩
  have hol := h.olLen .n0
  have hl3 := hl.mono g3
  by_cases hil : i < l.length
  · obtain ⟨x, ex⟩ := get_lt hil
    have hx := hl3.shorts x (List.mem_of_getElem? ex)
    by_cases h10 : i < 10
    · have hk : Int.tmod x 5001 = ((x.toNat % 5001 : Nat) : Int) := by
        obtain ⟨n, rfl⟩ : ∃ n : Nat, x = n := ⟨x.toNat, by omega⟩
        rfl
      have hrl : (List.replicate (x.toNat % 5001) (0 : UInt8)).length = x.toNat % 5001 := List.length_replicate
      by_cases h4 : x.toNat % 5001 ≤ 4096
      · obtain ⟨ha, hJ2, hg2⟩ := jl_add (x := List.replicate (x.toNat % 5001) (0 : UInt8)) hJ (by rw [hrl]; exact h4) (by omega)
        have hl := hl.mono g3
        refine brD (fun bb0 => ?_) (fun bb0 => by exfalso; omega)
        dsimp only at bb0
        refine joinI ?_
        refine ⟨by omega, ?_⟩
        refine nnL h hl (fun ba1 bha1 => ?_)
        refine ldL h hl bha1 ex (fun by2 bhy2 => ?_)
        have bhy2 := eInt'_after bhy2
        subst bhy2
        refine brD (fun bb3 => by exfalso; omega) (fun bb3 => ?_)
        dsimp only at bb3
        refine ⟨by omega, ?_⟩
        refine tmd ?_
        refine ari0 ?_
        rotate_left
        refine mkAny_pr (m := by2.toNat % 5001) h (wrap5001 _ hx) (by omega) (fun bs Γ4 _ g4 bf h => ?_)
        obtain ⟨lbf, _, _⟩ := bf.lens
        have hl3 := hl3.mono g4
        have hl := hl.mono g4
        refine jAdd_ok (h.pick .n1) bf (by first | omega | (dsimp only; omega) | decide) (fun bΓ1 _ bg3 h => ?_)
        have bf := bf.mono bg3
        have hl3 := hl3.mono bg3
        have hl := hl.mono bg3
        refine joinI ?_
        refine brNot ?_
        refine brKT (by first | (rw [beq_iff_eq, Bool.eq_iff_iff]; simp; done) | (rw [beq_iff_eq, Bool.eq_iff_iff]; simp; omega) | (simp; omega)) ?_
        refine brN (fun bb7 => by exfalso; omega) (fun bb7 => ?_)
        refine brE (fun bb8 => ?_) (fun bb8 => by exfalso; omega)
        refine new h fun br9 _ h => ?_
        have h := h.asC (c' := #[Value.slice bs.p bs.len bs.cap]) (by kernel_rfl)
        refine app1 _ _ slSlice h .n1 bf (fun bs10 _ bl10 h => ?_)
        dsimp only at bl10
        refine wrN (i + 1) ?_
        refine ⟨_, (by first | omega | rfl | (dsimp only; omega)), _, _, _, _, _, rfl, (by first | omega | rfl | (dsimp only; omega)), rfl, hJ2, (by first | omega | rfl | (dsimp only; omega)), ?_, (by first | omega | rfl | (dsimp only; omega)), (g3.trans (g4.trans bg3)), ((h.pick .n1).pick .n1)⟩
        rotate_left
        show List.length _ ≤ _
        rw [List.length_append, List.length_singleton]; omega
      · have ha : addJ m (List.replicate (x.toNat % 5001) (0 : UInt8)) = (m, 3) := by unfold addJ; rw [if_pos (by rw [hrl]; omega)]
        have ha1 : (addJ m (List.replicate (x.toNat % 5001) (0 : UInt8))).1 = m := by rw [ha]
        have ha2 : (addJ m (List.replicate (x.toNat % 5001) (0 : UInt8))).2 = 3 := by rw [ha]
        have hJ3 : JL inn (addJ m (List.replicate (x.toNat % 5001) (0 : UInt8))).1 := by rw [ha1]; exact hJ
        have hg3 : (addJ m (List.replicate (x.toNat % 5001) (0 : UInt8))).1.g = m.g := by rw [ha1]
        have hl := hl.mono g3
        refine brD (fun cb0 => ?_) (fun cb0 => by exfalso; omega)
        dsimp only at cb0
        refine joinI ?_
        refine ⟨by omega, ?_⟩
        refine nnL h hl (fun ca1 cha1 => ?_)
        refine ldL h hl cha1 ex (fun cy2 chy2 => ?_)
        have chy2 := eInt'_after chy2
        subst chy2
        refine brD (fun cb3 => by exfalso; omega) (fun cb3 => ?_)
        dsimp only at cb3
        refine ⟨by omega, ?_⟩
        refine tmd ?_
        refine ari0 ?_
        rotate_left
        refine mkAny_pr (m := cy2.toNat % 5001) h (wrap5001 _ hx) (by omega) (fun bs Γ4 _ g4 bf h => ?_)
        obtain ⟨lbf, _, _⟩ := bf.lens
        have hl3 := hl3.mono g4
        have hl := hl.mono g4
        refine jAdd_ok (h.pick .n1) bf (by first | omega | (dsimp only; omega) | decide) (fun cΓ1 _ cg3 h => ?_)
        have bf := bf.mono cg3
        have hl3 := hl3.mono cg3
        have hl := hl.mono cg3
        refine joinI ?_
        refine brNot ?_
        refine brKT (by first | (rw [beq_iff_eq, Bool.eq_iff_iff]; simp; done) | (rw [beq_iff_eq, Bool.eq_iff_iff]; simp; omega) | (simp; omega)) ?_
        refine brN (fun cb7 => ?_) (fun cb7 => by exfalso; omega)
        refine brN (fun cb8 => by exfalso; omega) (fun cb8 => ?_)
        refine brE (fun cb9 => by exfalso; omega) (fun cb9 => ?_)
        refine wrN (i + 1) ?_
        refine ⟨_, (by first | omega | rfl | (dsimp only; omega)), _, _, _, _, _, rfl, (by first | omega | rfl | (dsimp only; omega)), rfl, hJ3, (by first | omega | rfl | (dsimp only; omega)), (by first | omega | rfl | (dsimp only; omega)), (by first | omega | rfl | (dsimp only; omega)), (g3.trans (g4.trans cg3)), (h.pick .n1)⟩
    · have hop := jl_open hJ
      have hop1 : (openJ m).1 = m := by rw [hop]
      have hop2 : (openJ m).2.1 = inn := by rw [hop]
      have hop3 : (openJ m).2.2 = 0 := by rw [hop]
      have hl := hl.mono g3
      refine brD (fun db0 => ?_) (fun db0 => by exfalso; omega)
      dsimp only at db0
      refine joinI ?_
      refine ⟨by omega, ?_⟩
      refine nnL h hl (fun da1 dha1 => ?_)
      refine ldL h hl dha1 ex (fun dy2 dhy2 => ?_)
      have dhy2 := eInt'_after dhy2
      subst dhy2
      refine brD (fun db3 => ?_) (fun db3 => by exfalso; omega)
      dsimp only at db3
      refine jOpen_ok (h.pick .n1) (by first | omega | (dsimp only; omega) | decide) (fun dv5 dΓ6 _ dg8 df9 h => ?_)
      have hl3 := hl3.mono dg8
      have hl := hl.mono dg8
      obtain ⟨ldf9, mdf9, cdf9⟩ := df9.lens
      refine brT ?_
      refine brE (fun db11 => ?_) (fun db11 => by exfalso; omega)
      dsimp only at db11
      obtain ⟨dΓ12, dg12, df12, h⟩ := h.olFreeze .n1 (by have hol := h.olLen .n1; first | omega | (dsimp only; omega) | (simp at hol; omega))
      have df9 := df9.mono dg12
      have hl3 := hl3.mono dg12
      have hl := hl.mono dg12
      refine rsame_ok h df9 df12 hop2 (fun _ h => ?_)
      refine ⟨_, rfl, ?_⟩
      refine k _ _ (ag3.trans (g3.trans (dg8.trans dg12))) h.drop
  · have hop := jl_open hJ
    have hop1 : (openJ m).1 = m := by rw [hop]
    have hop2 : (openJ m).2.1 = inn := by rw [hop]
    have hop3 : (openJ m).2.2 = 0 := by rw [hop]
    have hl := hl.mono g3
    refine brD (fun eb0 => by exfalso; omega) (fun eb0 => ?_)
    dsimp only at eb0
    refine jOpen_ok (h.pick .n1) (by first | omega | (dsimp only; omega) | decide) (fun ev2 eΓ3 _ eg5 ef6 h => ?_)
    have hl3 := hl3.mono eg5
    have hl := hl.mono eg5
    obtain ⟨lef6, mef6, cef6⟩ := ef6.lens
    refine brT ?_
    refine brE (fun eb8 => ?_) (fun eb8 => by exfalso; omega)
    dsimp only at eb8
    obtain ⟨eΓ9, eg9, ef9, h⟩ := h.olFreeze .n1 (by have hol := h.olLen .n1; first | omega | (dsimp only; omega) | (simp at hol; omega))
    have ef6 := ef6.mono eg9
    have hl3 := hl3.mono eg9
    have hl := hl.mono eg9
    refine rsame_ok h ef6 ef9 hop2 (fun _ h => ?_)
    refine ⟨_, rfl, ?_⟩
    refine k _ _ (ag3.trans (g3.trans (eg5.trans eg9))) h.drop

theorem rShorts : Reads (eList (eInt' .u16)) 31 := .list (e := 34) rShort (by kernel_rfl) (by kernel_rfl)

theorem journalLong_walk {H : Type} {enc : TypeId × Value → H} {W : World} {base : Nat} {vs : List Value} {ds : List (DataW H)} {ps : List MemPlace} (hok : ∀ (j : Nat) (t : TypeId) (v : Value), [31][j]? = some t → vs[j]? = some v → Value.okWide Try.prog W .any base t v)
    (hA : DataW.TrodAll enc Try.prog W 0 (fun _ => true) true [31] vs ds ps) : CallP Try.prog 4 vs (.one (.s .bool)) (fun b w' => b = true ∧ Kept W w') W := by
  obtain ⟨v0, vs0, d0, ds0, p0, q0, rfl, rfl, rfl, h0, r0⟩ := trodAll_cons hA
  obtain ⟨rfl, rfl, rfl⟩ := trodAll_nil r0
  obtain ⟨y0, x0, e0, f0⟩ := argS rShorts (hok 0 _ _ rfl rfl) h0
  cases e0
  exact law_walk fun k => law_jlong (Sat.start W) f0 k

theorem journalLong_lifted (os : Os) (started : os.Started) (H : Type) (enc : TypeId × Value → H) :
    ReturnsInHanded {} Try.checked os 4 .any (Rows.journalLongSpec.pre6 enc Try.prog Try.f4 Rows.journalLongRow.domain false) (Rows.journalLongSpec.post enc Try.prog Try.f4 false true false false) := by
  have e : Try.f4.params.toList = [31] := by kernel_rfl
  refine law_lifted (s := Rows.journalLongSpec) started Try.func4 (by kernel_rfl) rfl (fun ds h => ?_) (by kernel_rfl) (fun t ht => ?_)
    (ChangeSpec.witness6 (enc := enc) (C := Try.checked) false ⟨#[], #[.slice none 0 0], []⟩ 8 (by kernel_rfl) (by kernel_rfl) (by kernel_rfl) (by kernel_rfl)) fun W base vs ds ps hok hA => ?_
  · have hl : ds.length = 1 := h
    match ds, hl with
    | [_], _ => rfl
  · rw [e] at ht
    have hall : ([31].all fun t => Try.prog.readableRec t && decide (t < Try.prog.types.size)) = true := by kernel_rfl
    simpa using List.all_eq_true.1 hall t ht
  · rw [e] at hA hok
    exact journalLong_walk hok hA

theorem journalLong_facts : joinedFacts Try.pinned.checked.prog 4 Try.f4 Rows.journalLongSpec Rows.journalLongRow = true := by
  show joinedFacts Try.prog 4 Try.f4 Rows.journalLongSpec Rows.journalLongRow = true
  unfold joinedFacts
  rw [make_, enter_, lifts_]
  kernel_rfl

theorem JournalLong_holds : Rows.JournalLongSaid :=
  OpenClaim.holds_of_wide 4 Try.f4 rfl rfl rfl rfl rfl rfl rfl ⟨rfl, rfl, rfl, rfl, rfl⟩ rfl rfl rfl rfl rfl (by kernel_rfl) Try.func4 journalLong_facts
    (of_decide_eq_true (by kernel_rfl)) (by unfold Func.isWrapper; first | (rw [if_pos (by decide +kernel)]; kernel_rfl) | (rw [if_neg (by decide +kernel)]; exact ⟨rfl, rfl⟩))
    (fun os started H enc _ => journalLong_lifted os started H enc)


end Go.Proofs.Ytocmjngleknlbaa.K
