/-
  DiskRoom: there are never more bytes than there is room, and what does not fit changes nothing. No condition.
-/
import Derived.Test.YtohoimokfgfceaaDkF
import Derived.Test.YtohoimokfgfceaaDkD
import Derived.Test.YtohoimokfgfceaaDkZ
namespace Go.Proofs.Ytohoimokfgfceaa.K
open Go Go.Proofs Go.ChangeShapes Go.WideShapes Go.ChangeAt Go.RowKit
variable {Γ Γ' : Mem} {L L' L'' : List HP} {w w' : World} {A B : HP}
set_option maxRecDepth 100000
set_option maxHeartbeats 4000000

theorem dUsedD_ok {a : Nat} {m : DiskM} {K : Int → World → Prop} (h : Sat Γ (PDisk a m :: L) w) (hg : m.g < 1000000000000) (k : ∀ w', Sat Γ (PDisk a m :: L) w' → K (m.used : Int) w') :
    CallP Try.prog 66 [.pointer (some ⟨a, 0, none⟩)] (.one (.s (.int .i64))) K w := by
  obtain ⟨ps, h⟩ := h.pd
  exact dUsed_ok h hg fun w' h => k w' h.toPd

theorem Lst.acts {s : Sl} {l : List ActM} (h : Lst eAct Γ s l) : ∀ x ∈ l, i64B x.n := fun x hx => by
  obtain ⟨ys, _, h2⟩ := h
  obtain ⟨i, hi⟩ := List.mem_iff_getElem?.1 hx
  obtain ⟨y, _, hr⟩ := h2.get hi
  exact hr.2.1.1

theorem law_room {r : Int} {s : Sl} {l : List ActM} {K : Bool → World → Prop} (h : Sat Γ L w) (hl : Lst eAct Γ s l) (k : ∀ Γ' w', Γ.le Γ' → Sat Γ' L w' → K true w') :
    CallP Try.prog 14 [.int .i64 r, .slice s.p s.len s.cap] (.one (.s .bool)) K w := by
  refine callP (fn := Try.f14) [.s (.int .i64 r), .s (.sl s)] (.p .n (.p .n (.p .n (.p .n (.p (.p .n (.b (.l [18, 0, 6, 17, 5] [(19, .s (.int .i64))] (.p .n (.p .n (.p (.k [19, 18, 0, 6, 17, 5] [] .n) .n)))))) .n))))) nong mixed (by kernel_rfl) (by kernel_rfl) rfl rfl ?_
  have hfl := fewA_len l
  obtain ⟨lhl, mhl, chl⟩ := hl.lens
  refine shown_ok h (fun aΓ1 _ ag3 h => ?_)
  have hl := hl.mono ag3
  refine dNew_ok h (fun av6 _ h => ?_)
  refine brF ?_
  refine fewA_ok h hl (fun av10 aΓ11 _ ag13 af14 h => ?_)
  have hl := hl.mono ag13
  obtain ⟨laf14, maf14, caf14⟩ := af14.lens
  rotate_left
  refine loop (σ := Int) (fun st w' n => ∃ (i : Nat) (m : DiskM) (Γ' : Mem), st = (i : Int) ∧ i ≤ (fewA l).length ∧ n = (fewA l).length - i ∧ Wf m ∧ m.room = max r 0 ∧ (m.used : Int) ≤ m.room ∧ m.g ≤ 100 * i ∧ aΓ11.le Γ' ∧ Sat Γ' (PDisk av6 m :: L) w') (fewA l).length
    ⟨0, .new r, aΓ11, rfl, by omega, by omega, .new r, rfl, by show (0 : Int) ≤ max r 0; omega, Nat.zero_le _, .refl _, h⟩ ?_
  clear h
  rintro _ w n ⟨i, m, Γ3, rfl, hi, hn, hw, hro, hus, hg, g3, h⟩
  have af15 := af14.mono g3
  by_cases hil : i < (fewA l).length
  · obtain ⟨x, ex⟩ := get_lt hil
    have hx64 := af14.acts x (List.mem_of_getElem? ex)
    have hsx := fewA_small x (List.mem_of_getElem? ex)
    unfold smallA at hsx
    have hw2 := DiskM.act_wf (x := x) hw hx64
    have hg2 := DiskM.act_g (m := m) (x := x)
    have hkl := x.kind.toNat_lt
    have hug := hw.used_le
    by_cases hk : x.kind.toNat % 13 = 12
    · have af14 := af14.mono g3
      have hl := hl.mono g3
      refine brD (fun bb0 => ?_) (fun bb0 => by exfalso; omega)
      refine joinI ?_
      refine ⟨by omega, ?_⟩
      refine nnL h af14 (fun ba1 bha1 => ?_)
      refine ldL h af14 bha1 ex (fun by2 bhy2 => ?_)
      obtain ⟨by2s, by2t, bhy2a, bhy2b, bhy2c, bhy2e⟩ := eAct_after bhy2
      subst bhy2e
      obtain ⟨lbhy2a, mbhy2a, cbhy2a⟩ := bhy2a.lens
      obtain ⟨lbhy2b, mbhy2b, cbhy2b⟩ := bhy2b.lens
      refine new h fun br3 _ h => ?_
      refine stNs h .n0 fun _ h => ?_
      refine ld _ h .n0 ?_
      refine ⟨by omega, ?_⟩
      refine tmd ?_
      refine brE (fun bb4 => ?_) (fun bb4 => by exfalso; omega)
      dsimp only at bb4
      refine wrN (i + 1) ?_
      refine ⟨_, (by first | omega | rfl | (dsimp only; omega)), _, _, _, rfl, (by first | omega | rfl | (dsimp only; omega)), rfl, hw, hro, hus, (by first | omega | rfl | (dsimp only; omega)), g3, h.drop⟩
    · have hr2 := DiskM.act_room (m := m) hk
      have hr3 : (m.act x).1.room = max r 0 := hr2.trans hro
      have hu2 := DiskM.act_used hw hk hus
      by_cases h41 : (m.act x).2 = 41
      · obtain ⟨hf1, hf2⟩ := DiskM.act_full h41
        have af14 := af14.mono g3
        have hl := hl.mono g3
        refine brD (fun cb0 => ?_) (fun cb0 => by exfalso; omega)
        refine joinI ?_
        refine ⟨by omega, ?_⟩
        refine nnL h af14 (fun ca1 cha1 => ?_)
        refine ldL h af14 cha1 ex (fun cy2 chy2 => ?_)
        obtain ⟨cy2s, cy2t, chy2a, chy2b, chy2c, chy2e⟩ := eAct_after chy2
        subst chy2e
        obtain ⟨lchy2a, mchy2a, cchy2a⟩ := chy2a.lens
        obtain ⟨lchy2b, mchy2b, cchy2b⟩ := chy2b.lens
        refine new h fun cr3 _ h => ?_
        refine stNs h .n0 fun _ h => ?_
        refine ld _ h .n0 ?_
        refine ⟨by omega, ?_⟩
        refine tmd ?_
        refine brE (fun cb4 => by exfalso; omega) (fun cb4 => ?_)
        dsimp only at cb4
        refine dUsedD_ok (h.pick .n1) (by first | omega | decide) (fun _ h => ?_)
        refine ldA7 _ _ _ _ _ _ _ h .n1 ?_
        refine actA_ok h (by first | omega | decide) chy2a chy2b chy2c (fun cΓ9 _ cg11 h => ?_)
        have af15 := af15.mono cg11
        have af14 := af14.mono cg11
        have hl := hl.mono cg11
        have chy2a := chy2a.mono cg11
        have chy2b := chy2b.mono cg11
        refine brE (fun cb13 => ?_) (fun cb13 => by exfalso; omega)
        refine dUsedD_ok h (by first | omega | decide) (fun _ h => ?_)
        refine brN (fun cb17 => by exfalso; omega) (fun cb17 => ?_)
        refine ld _ h .n1 ?_
        refine wrN (m.used + cy2s.len) ?_
        refine mxI ?_
        refine brD (fun cb18 => by exfalso; omega) (fun cb18 => ?_)
        refine dUsedD_ok h (by first | omega | decide) (fun _ h => ?_)
        refine mxI ?_
        refine brD (fun cb22 => by exfalso; omega) (fun cb22 => ?_)
        refine wrN (i + 1) ?_
        refine ⟨_, (by first | omega | rfl | (dsimp only; omega)), _, _, _, rfl, (by first | omega | rfl | (dsimp only; omega)), rfl, hw2, hr3, (by first | omega | rfl | (dsimp only; omega)), (by first | omega | rfl | (dsimp only; omega)), (g3.trans cg11), (h.pick .n1).drop⟩
      · have af14 := af14.mono g3
        have hl := hl.mono g3
        refine brD (fun db0 => ?_) (fun db0 => by exfalso; omega)
        refine joinI ?_
        refine ⟨by omega, ?_⟩
        refine nnL h af14 (fun da1 dha1 => ?_)
        refine ldL h af14 dha1 ex (fun dy2 dhy2 => ?_)
        obtain ⟨dy2s, dy2t, dhy2a, dhy2b, dhy2c, dhy2e⟩ := eAct_after dhy2
        subst dhy2e
        obtain ⟨ldhy2a, mdhy2a, cdhy2a⟩ := dhy2a.lens
        obtain ⟨ldhy2b, mdhy2b, cdhy2b⟩ := dhy2b.lens
        refine new h fun dr3 _ h => ?_
        refine stNs h .n0 fun _ h => ?_
        refine ld _ h .n0 ?_
        refine ⟨by omega, ?_⟩
        refine tmd ?_
        refine brE (fun db4 => by exfalso; omega) (fun db4 => ?_)
        dsimp only at db4
        refine dUsedD_ok (h.pick .n1) (by first | omega | decide) (fun _ h => ?_)
        refine ldA7 _ _ _ _ _ _ _ h .n1 ?_
        refine actA_ok h (by first | omega | decide) dhy2a dhy2b dhy2c (fun dΓ9 _ dg11 h => ?_)
        have af15 := af15.mono dg11
        have af14 := af14.mono dg11
        have hl := hl.mono dg11
        have dhy2a := dhy2a.mono dg11
        have dhy2b := dhy2b.mono dg11
        refine brE (fun db13 => by exfalso; omega) (fun db13 => ?_)
        refine dUsedD_ok h (by first | omega | decide) (fun _ h => ?_)
        refine mxI ?_
        refine brD (fun db17 => by exfalso; omega) (fun db17 => ?_)
        refine wrN (i + 1) ?_
        refine ⟨_, (by first | omega | rfl | (dsimp only; omega)), _, _, _, rfl, (by first | omega | rfl | (dsimp only; omega)), rfl, hw2, hr3, (by first | omega | rfl | (dsimp only; omega)), (by first | omega | rfl | (dsimp only; omega)), (g3.trans dg11), (h.pick .n1).drop⟩
  · have af14 := af14.mono g3
    have hl := hl.mono g3
    refine brD (fun eb0 => by exfalso; omega) (fun eb0 => ?_)
    refine ⟨_, rfl, ?_⟩
    refine k _ _ (ag3.trans (ag13.trans g3)) h.drop

theorem diskRoom_walk {H : Type} {enc : TypeId × Value → H} {W : World} {base : Nat} {vs : List Value} {ds : List (DataW H)} {ps : List MemPlace} (hok : ∀ (j : Nat) (t : TypeId) (v : Value), [3, 78][j]? = some t → vs[j]? = some v → Value.okWide Try.prog W .any base t v)
    (hA : DataW.TrodAll enc Try.prog W 0 (fun _ => true) true [3, 78] vs ds ps) : CallP Try.prog 14 vs (.one (.s .bool)) (fun b w' => b = true ∧ Kept W w') W := by
  obtain ⟨v0, vs0, d0, ds0, p0, q0, rfl, rfl, rfl, h0, r0⟩ := trodAll_cons hA
  obtain ⟨v1, vs1, d1, ds1, p1, q1, rfl, rfl, rfl, h1, r1⟩ := trodAll_cons r0
  obtain ⟨rfl, rfl, rfl⟩ := trodAll_nil r1
  obtain ⟨r, a, e0, f0⟩ := argS rInt (hok 0 _ _ rfl rfl) h0
  obtain ⟨s, l, e1, f1⟩ := argS rActs (hok 1 _ _ rfl rfl) h1
  cases e0
  cases e1
  exact law_walk fun k => law_room (Sat.start W) f1 k

theorem diskRoom_lifted (os : Os) (started : os.Started) (H : Type) (enc : TypeId × Value → H) :
    ReturnsInHanded {} Try.checked os 14 .any (Rows.diskRoomSpec.pre6 enc Try.prog Try.f14 Rows.diskRoomRow.domain false) (Rows.diskRoomSpec.post enc Try.prog Try.f14 false true false false) := by
  have e : Try.f14.params.toList = [3, 78] := by kernel_rfl
  refine law_lifted (s := Rows.diskRoomSpec) started Try.func14 (by kernel_rfl) rfl (fun ds h => ?_) (by kernel_rfl) (fun t ht => ?_)
    (ChangeSpec.witness6 (enc := enc) (C := Try.checked) false ⟨#[], #[.int .i64 0, .slice none 0 0], []⟩ 8 (by kernel_rfl) (by kernel_rfl) (by kernel_rfl) (by kernel_rfl)) fun W base vs ds ps hok hA => ?_
  · have hl : ds.length = 2 := h
    match ds, hl with
    | [_, _], _ => rfl
  · rw [e] at ht
    have hall : ([3, 78].all fun t => Try.prog.readableRec t && decide (t < Try.prog.types.size)) = true := by kernel_rfl
    simpa using List.all_eq_true.1 hall t ht
  · rw [e] at hA hok
    exact diskRoom_walk hok hA

theorem diskRoom_facts : joinedFacts Try.pinned.checked.prog 14 Try.f14 Rows.diskRoomSpec Rows.diskRoomRow = true := by
  show joinedFacts Try.prog 14 Try.f14 Rows.diskRoomSpec Rows.diskRoomRow = true
  unfold joinedFacts
  rw [make_, enter_, lifts_]
  kernel_rfl

theorem DiskRoom_holds : Rows.DiskRoomSaid :=
  OpenClaim.holds_of_wide 14 Try.f14 rfl rfl rfl rfl rfl rfl rfl ⟨rfl, rfl, rfl, rfl, rfl⟩ rfl rfl rfl rfl rfl (by kernel_rfl) Try.func14 diskRoom_facts
    (of_decide_eq_true (by kernel_rfl)) (by unfold Func.isWrapper; first | (rw [if_pos (by decide +kernel)]; kernel_rfl) | (rw [if_neg (by decide +kernel)]; exact ⟨rfl, rfl⟩))
    (fun os started H enc _ => diskRoom_lifted os started H enc)


end Go.Proofs.Ytohoimokfgfceaa.K
