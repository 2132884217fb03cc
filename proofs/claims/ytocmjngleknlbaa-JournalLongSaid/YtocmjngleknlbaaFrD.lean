/-
  Bytes put over others; bytes held against each other.
-/
import Derived.Test.YtocmjngleknlbaaFrC
import Derived.Test.YtocmjngleknlbaaDkC
namespace Go.Proofs.Ytocmjngleknlbaa.K
open Go Go.Proofs
variable {Γ Γ' : Mem} {L L' L'' : List HP} {w w' : World} {A B : HP}
set_option maxRecDepth 100000
set_option maxHeartbeats 4000000

theorem copyBytes {P : Program} {dT sT ty e : TypeId} {T : TypeId} {d s : Sl} {ds xs : Str} {K : Int → World → Prop} (hu : P.underlying dT = some (.slice e)) (hs : szOf P e = some 1) (h : Sat Γ L w) (pk : Pick (OL eByte T d ds) L L') (hx : Bytes Γ s xs) (hl : xs.length ≤ ds.length)
    (k : ∀ w', Sat Γ (OL eByte T d (xs ++ ds.drop xs.length) :: L') w' → K (xs.length : Int) w') :
    Prim P (Builtin.copy_ #[dT, sT] ty #[.slice d.p d.len d.cap, .slice s.p s.len s.cap]) (.one (.s (.int .i64))) K w := by
  have hdl := h.olLen pk
  have hxl := hx.len
  have hsrc := hx.src h
  rw [hxl] at hsrc
  obtain ⟨hf1, hf2⟩ := hsrc.firstCells (P := P)
  have hmin : Nat.min xs.length d.len = xs.length := by show min _ _ = _; omega
  have hrun : ∀ w', (match d.p with | some a => storeCells a (xs.map bv) | none => pure ()).run P w = .ok () w' → (Builtin.copy_ #[dT, sT] ty #[.slice d.p d.len d.cap, .slice s.p s.len s.cap]).run P w = .ok (.int .i64 (xs.length : Int)) w' := by
    intro w' hw
    rw [hxl]
    have h1 : (sizeOf e).run P w = .ok 1 w := run_sizeOf hs w
    simp only [Builtin.copy_, List.getElem?_toArray, List.getElem?_cons_zero, List.getElem?_cons_succ, Sem.run_bind, run_underlying hu, Result.andThen, hf2, hmin, h1, hf1]
    cases hp : d.p with
    | none =>
      rw [hp] at hw
      simp only [Sem.run_pure] at hw
      cases hw
      rfl
    | some a =>
      rw [hp] at hw
      have hw : (storeCells a (xs.map bv)).run P w = .ok () w' := hw
      simp only [Sem.run_bind, List.toList_toArray, hw, Result.andThen, Sem.run_pure]
      rfl
  by_cases h0 : xs = []
  · subst h0
    refine ⟨_, w, hrun w ?_, k w (by simpa using h.pick pk)⟩
    cases d.p with
    | none => rfl
    | some a => simp [storeCells]
  · have hx0 : 0 < xs.length := List.length_pos_iff.2 h0
    obtain ⟨ys, h1, h2⟩ := (h.pick pk).ol
    obtain ⟨b, spare, e1, _, _⟩ := Own.place h2 (by omega)
    have hyl : (ys.flatMap eByte.sh.cells).length = ds.length := by rw [flatMap_length eByte.sh.cells_len, h1.len]; exact Nat.mul_one _
    have hbl := byte_cells ys ds h1
    have hst : StN ((⟨b, 0, none⟩ : Addr).add 0) (xs.map bv) (fun w' => Sat Γ (OL eByte T d (xs ++ ds.drop xs.length) :: L') w') w := by
      refine stNOwn h2 .here e1 (by rw [hyl, List.length_map, Nat.zero_add]; exact hl) (by omega) (fun v hv => map_bv_one xs v hv) fun w' h3 => ?_
      rw [hbl] at h3
      have e2 : setL (ds.map bv) 0 (xs.map bv) = (xs ++ ds.drop xs.length).map bv := by
        have e3 : ds.map bv = (ds.map bv).take xs.length ++ (ds.map bv).drop xs.length := (List.take_append_drop _ _).symm
        rw [e3, setL_append_left _ _ _ _ (by simp; omega)]
        have e4 := setL_whole (xs.map bv) ((ds.map bv).take xs.length) [] (by simp; omega)
        rw [List.nil_append, List.length_nil, List.nil_append] at e4
        rw [e4, List.map_append, List.map_drop]
      have ha0 : All2 (fun (y : Int) (x : UInt8) => y = (x.toNat : Int)) ((xs ++ ds.drop xs.length).map fun b => (b.toNat : Int)) (xs ++ ds.drop xs.length) := by
        refine ⟨by simp, fun i y x h1 h2 => ?_⟩
        rw [List.getElem?_map, h2] at h1
        cases h1
        rfl
      have ha : All2 (eByte.r Γ) ((xs ++ ds.drop xs.length).map fun b => (b.toNat : Int)) (xs ++ ds.drop xs.length) := ha0
      refine Sat.toOl (ys := (xs ++ ds.drop xs.length).map fun b => (b.toNat : Int)) ?_ ha
      rw [byte_cells _ _ ha, ← e2]
      exact h3
    rw [add_zero'] at hst
    obtain ⟨g1, g2, g3⟩ := hst.out
    refine ⟨_, _, hrun _ ?_, k _ g3⟩
    rw [e1]
    exact run_storeCells (xs.map bv) 0 w (fun v hv => map_bv_one xs v hv) fun j hj => by simpa using g2 j hj

theorem copyB_pr {ty : Nat} {d s : Sl} {ds xs : Str} {K : Int → World → Prop} (h : Sat Γ L w) (pk : Pick (OL eByte 5 d ds) L L') (hx : Bytes Γ s xs) (hl : xs.length ≤ ds.length)
    (k : ∀ w', Sat Γ (OL eByte 5 d (xs ++ ds.drop xs.length) :: L') w' → K (xs.length : Int) w') :
    Prim Try.prog (Builtin.copy_ #[26, 26] ty #[.slice d.p d.len d.cap, .slice s.p s.len s.cap]) (.one (.s (.int .i64))) K w := copyBytes (e := 5) (by kernel_rfl) (by kernel_rfl) h pk hx hl k

theorem makeB_pr {n : Nat} {K : Sl → World → Prop} (h : Sat Γ L w) (hn : n ≤ 70368744177664) (k : ∀ s w', s.len = n → s.cap = n → Sat Γ (OL eByte 5 s (List.replicate n 0) :: L) w' → K s w') :
    Prim Try.prog (Instr.makeSlice 26 (.int .i64 (n : Int)) (.int .i64 (n : Int))) (.one (.s .sl)) K w :=
  mkO (E := eByte) (n := n) (c := n) (0 : Int) (0 : UInt8) slBytes h (Nat.le_refl _) rfl (by omega) fun s w' e e2 h => k s w' e e2 h

/-- slices.Equal of bytes -/
theorem equalB_ok {s t : Sl} {x y : Str} {K : Bool → World → Prop} (h : Sat Γ L w) (hx : Bytes Γ s x) (hy : Bytes Γ t y) (k : ∀ w', Sat Γ L w' → K (decide (x = y)) w') :
    CallP Try.prog 78 [.slice s.p s.len s.cap, .slice t.p t.len t.cap] (.one (.s .bool)) K w := by
  refine callP (fn := Try.f78) [.s (.sl s), .s (.sl t)] (.p .n (.p .n (.p (.p .n (.b (.l [12, 1, 0] [(13, .s (.int .i64))] (.p .n (.p .n (.p (.b (.p .n (.p .s .n))) .n)))))) .n))) nong mixed (by kernel_rfl) (by kernel_rfl) rfl rfl ?_
  by_cases hl : x.length = y.length
  · obtain ⟨lhx, mhx, chx⟩ := hx.lens
    obtain ⟨lhy, mhy, chy⟩ := hy.lens
    refine brN (fun ab0 => by exfalso; omega) (fun ab0 => ?_)
    rotate_left
    refine loop (σ := Int) (fun st w' u => ∃ i : Nat, st = (i : Int) ∧ i ≤ x.length ∧ u = x.length - i ∧ x.take i = y.take i ∧ Sat Γ L w') x.length ⟨0, rfl, by omega, by omega, rfl, h⟩ ?_
    clear h
    rintro _ w u ⟨i, rfl, hi, hu, he, h⟩
    by_cases hil : i < x.length
    · obtain ⟨a, ea⟩ := get_lt hil
      obtain ⟨b, eb⟩ := get_lt (xs := y) (i := i) (by omega)
      have htx : x.take (i + 1) = x.take i ++ [a] := by rw [List.take_add_one, ea]; rfl
      have hty : y.take (i + 1) = y.take i ++ [b] := by rw [List.take_add_one, eb]; rfl
      by_cases hab : a = b
      · have he2 : x.take (i + 1) = y.take (i + 1) := by rw [htx, hty, he, hab]
        have hab2 : (a.toNat : Int) = b.toNat := by rw [hab]
        refine brD (fun cb0 => ?_) (fun cb0 => by exfalso; omega)
        refine dr h fun _ h => ?_
        refine ⟨by omega, ?_⟩
        refine nnL h hx.lst (fun ca1 cha1 => ?_)
        refine ldL h hx.lst cha1 ea (fun cy2 chy2 => ?_)
        have chy2 : cy2 = (a.toNat : Int) := chy2
        subst chy2
        refine ⟨by omega, ?_⟩
        refine nnL h hy.lst (fun ca3 cha3 => ?_)
        refine ldL h hy.lst cha3 eb (fun cy4 chy4 => ?_)
        have chy4 : cy4 = (b.toNat : Int) := chy4
        subst chy4
        refine brN (fun cb5 => by exfalso; omega) (fun cb5 => ?_)
        refine wrN (i + 1) ?_
        refine ⟨_, (by first | omega | rfl | (dsimp only; omega)), _, rfl, (by first | omega | rfl | (dsimp only; omega)), rfl, he2, h⟩
      · have hne : x ≠ y := fun e => by rw [e, eb] at ea; exact hab (Option.some.inj ea).symm
        rw [decide_eq_false hne] at k
        have hab2 : (a.toNat : Int) ≠ b.toNat := fun e => hab (UInt8.toNat_inj.1 (by exact_mod_cast e))
        refine brD (fun db0 => ?_) (fun db0 => by exfalso; omega)
        refine dr h fun _ h => ?_
        refine ⟨by omega, ?_⟩
        refine nnL h hx.lst (fun da1 dha1 => ?_)
        refine ldL h hx.lst dha1 ea (fun dy2 dhy2 => ?_)
        have dhy2 : dy2 = (a.toNat : Int) := dhy2
        subst dhy2
        refine ⟨by omega, ?_⟩
        refine nnL h hy.lst (fun da3 dha3 => ?_)
        refine ldL h hy.lst dha3 eb (fun dy4 dhy4 => ?_)
        have dhy4 : dy4 = (b.toNat : Int) := dhy4
        subst dhy4
        refine brN (fun db5 => ?_) (fun db5 => by exfalso; omega)
        refine ⟨_, rfl, ?_⟩
        refine k _ h
    · have hxy : x = y := by
        have h1 : x.take i = x := List.take_of_length_le (by omega)
        have h2 : y.take i = y := List.take_of_length_le (by omega)
        rw [← h1, he, h2]
      rw [decide_eq_true hxy] at k
      refine brD (fun eb0 => by exfalso; omega) (fun eb0 => ?_)
      refine ⟨_, rfl, ?_⟩
      refine k _ h
  · have hne : x ≠ y := fun e => hl (by rw [e])
    rw [decide_eq_false hne] at k
    obtain ⟨lhx, mhx, chx⟩ := hx.lens
    obtain ⟨lhy, mhy, chy⟩ := hy.lens
    refine brN (fun bb0 => ?_) (fun bb0 => by exfalso; omega)
    refine ⟨_, rfl, ?_⟩
    refine k _ h

end Go.Proofs.Ytocmjngleknlbaa.K

/-
  Frames: the program's.
-/
namespace Go.Proofs.Ytocmjngleknlbaa.K
open Go Go.Proofs
variable {Γ Γ' : Mem} {L L' L'' : List HP} {w w' : World} {A B : HP}
set_option maxRecDepth 100000
set_option maxHeartbeats 4000000

theorem concatTwo_ok {r : Nat} {s t : Sl} {x y : Str} {T : TypeId} {K : Sl → World → Prop} (h : Sat Γ (blk r (.cells #[.slice s.p s.len s.cap, .slice t.p t.len t.cap] T (0, 0)) :: L) w) (hx : Bytes Γ s x) (hy : Bytes Γ t y) (hn : x.length + y.length ≤ 35184372088832)
    (k : ∀ q Γ' w', Γ.le Γ' → Bytes Γ' q (x ++ y) → Sat Γ' L w' → K q w') : CallP Try.prog 35 [.slice (some ⟨r, 0, none⟩) 2 2] (.one (.s .sl)) K w := by
  have h2 := Sat.whole (n := 2) (sz := 1) h rfl
  have h3 := Sat.toOl (E := eBytes) (ys := [s, t]) (xs := [x, y]) h2 (.cons hx (.cons hy .nil))
  obtain ⟨Γ2, g2, f2, h⟩ := h3.olFreeze .n0 (by dsimp only; omega)
  refine concat_ok h f2 (by simp; omega) fun q Γ3 w' g3 f3 h => ?_
  have e : [x, y].flatten = x ++ y := by simp
  rw [e] at f3
  exact k q Γ3 w' (g2.trans g3) f3 h

theorem seal_ok {s : Sl} {x : Str} {K : Sl → World → Prop} (h : Sat Γ L w) (hx : Bytes Γ s x) (hl : x.length < 1000000000000) (k : ∀ t Γ' w', Γ.le Γ' → Bytes Γ' t (sealB x) → Sat Γ' L w' → K t w') :
    CallP Try.prog 36 [.slice s.p s.len s.cap] (.one (.s .sl)) K w := by
  have hcl := crc_lt x
  have hrl : (List.replicate (s.len + 4) (0 : UInt8)).length = s.len + 4 := List.length_replicate
  refine callP (fn := Try.f36) [.s (.sl s)] (.p .n (.p .n (.p .n (.p .n (.p (.p .n (.b (.l [19, 4, 0, 3] [(20, .s (.int .i64))] .n))) .n))))) nong mixed (by kernel_rfl) (by kernel_rfl) rfl rfl ?_
  obtain ⟨lhx, mhx, chx⟩ := hx.lens
  refine wrN (s.len + 4) ?_
  refine makeB_pr h (by first | omega | decide) (fun av1 _ ap3 ap4 h => ?_)
  refine copyB_pr h .n0 hx (by first | omega | decide) (fun _ h => ?_)
  refine sum_ok h hx (fun _ h => ?_)
  refine ⟨by omega, ?_⟩
  rotate_left
  have e : (List.replicate (s.len + 4) (0 : UInt8)).drop x.length = List.replicate 4 0 := by
    rw [List.drop_replicate]; congr 1; omega
  rw [e] at h
  have h : Sat Γ (OL eByte 5 av1 (x ++ ((le4 (crc x)).take 0 ++ List.replicate (4 - 0) 0)) :: L) _ := h
  refine loop (σ := Int) (fun st w' u => ∃ i : Nat, st = (i : Int) ∧ i ≤ 4 ∧ u = 4 - i ∧ Sat Γ (OL eByte 5 av1 (x ++ ((le4 (crc x)).take i ++ List.replicate (4 - i) 0)) :: L) w') 4 ⟨0, rfl, by omega, by omega, h⟩ ?_
  clear h
  rintro _ w u ⟨i, rfl, hi, hu, h⟩
  have hl4 : (x ++ ((le4 (crc x)).take i ++ List.replicate (4 - i) 0)).length = x.length + 4 := by
    rw [List.length_append, List.length_append, List.length_take, le4_len, List.length_replicate]; omega
  by_cases hi4 : i < 4
  · have hb := byteOf (crc x / 2 ^ (8 * i))
    have hset : (x ++ ((le4 (crc x)).take i ++ List.replicate (4 - i) 0)).set (x.length + i) (UInt8.ofNat (crc x / 2 ^ (8 * i))) = x ++ ((le4 (crc x)).take (i + 1) ++ List.replicate (4 - (i + 1)) 0) := by
      rw [List.set_append, if_neg (by omega), Nat.add_sub_cancel_left]
      congr 1
      match i, hi4 with
      | 0, _ => simp [le4, List.replicate]
      | 1, _ => simp [le4, List.replicate]
      | 2, _ => simp [le4, List.replicate]
      | 3, _ => simp [le4, List.replicate]
    refine brD (fun bb0 => ?_) (fun bb0 => by exfalso; dsimp only [Sl.sub] at bb0; omega)
    dsimp only [Sl.sub] at bb0
    refine wrN (s.len + i) ?_
    refine wrN (8 * i) ?_
    refine ⟨by omega, ?_⟩
    refine ashr ((crc x)) ((8 * i)) ?_ (by first | rfl | omega) (by first | rfl | (show min _ 64 = _; omega) | (show min _ 32 = _; omega) | omega)
    refine wr8 ?_
    refine ⟨by omega, ?_⟩
    refine nnO h .n0 (fun ba1 bha1 => ?_)
    refine stO1 (i := (s.len + i)) _ _ h .n0 bha1 (by first | omega | (simp; omega)) hb rfl (fun _ h => ?_)
    refine wrN (i + 1) ?_
    refine ⟨_, (by first | omega | rfl | (dsimp only; omega)), _, rfl, (by first | omega | rfl | (dsimp only; omega)), rfl, (Sat.eqs h ?_)⟩
    rotate_left
    rw [lhx, hset]
  · have e : i = 4 := by omega
    subst e
    have e2 : x ++ ((le4 (crc x)).take 4 ++ List.replicate (4 - 4) 0) = sealB x := by simp [sealB, le4]
    rw [e2] at h
    refine brD (fun cb0 => by exfalso; dsimp only [Sl.sub] at cb0; omega) (fun cb0 => ?_)
    dsimp only [Sl.sub] at cb0
    refine ⟨_, rfl, ?_⟩
    obtain ⟨cΓ1, cg1, cf1, h⟩ := h.olFreeze .n0 (by first | omega | (dsimp only; omega))
    have cf1 := cf1.bytes
    have hx := hx.mono cg1
    refine k _ _ _ cg1 cf1 h

theorem sealed_ok {s : Sl} {x : Str} {K : Bool → World → Prop} (h : Sat Γ L w) (hx : Bytes Γ s x) (hl : x.length < 1000000000000) (h4 : 4 ≤ x.length) (k : ∀ Γ' w', Γ.le Γ' → Sat Γ' L w' → K (decide (sealB (x.take (x.length - 4)) = x)) w') :
    CallP Try.prog 67 [.slice s.p s.len s.cap] (.one (.s .bool)) K w := by
  obtain ⟨hlx, _, hcx⟩ := hx.lens
  have hsub := hx.sub (l := 0) (n := s.len - 4) (Nat.zero_le _) (by omega)
  have e0 : (x.drop 0).take (s.len - 4 - 0) = x.take (x.length - 4) := by rw [List.drop_zero, Nat.sub_zero, hlx]
  rw [e0] at hsub
  have htl : (x.take (x.length - 4)).length = x.length - 4 := by rw [List.length_take]; omega
  refine callP (fn := Try.f67) [.s (.sl s)] .n nong mixed (by kernel_rfl) (by kernel_rfl) rfl rfl ?_
  refine wrN (s.len - 4) ?_
  refine ⟨by omega, ?_⟩
  refine seal_ok h hsub (by first | omega | decide) (fun av1 aΓ2 _ ag4 af5 h => ?_)
  have hx := hx.mono ag4
  have hsub := hsub.mono ag4
  obtain ⟨laf5, maf5, caf5⟩ := af5.lens
  refine equalB_ok h af5 hx (fun _ h => ?_)
  refine ⟨_, rfl, ?_⟩
  refine k _ _ ag4 h

theorem putF_ok {s t : Sl} {b x : Str} {K : (Sl × Int) → World → Prop} (h : Sat Γ L w) (hb : Bytes Γ s b) (hx : Bytes Γ t x) (hl : b.length < 1000000000000)
    (k0 : 4096 < x.length → K (⟨none, 0, 0⟩, 3) w) (k1 : x.length ≤ 4096 → ∀ q Γ' w', Γ.le Γ' → Bytes Γ' q (b ++ frameB x) → Sat Γ' L w' → K (q, 0) w') :
    CallP Try.prog 21 [.slice s.p s.len s.cap, .slice t.p t.len t.cap] (.tup [.s .sl, .s (.int .i64)]) K w := by
  refine callP (fn := Try.f21) [.s (.sl s), .s (.sl t)] .n nong mixed (by kernel_rfl) (by kernel_rfl) rfl rfl ?_
  by_cases hx4 : x.length ≤ 4096
  · have hlx := hx.len
    have hfr : b ++ frameB x = b ++ sealB ([] ++ fixN t.len 4 ++ x) := by rw [hlx]; rfl
    rw [hfr] at k1
    have hz1 : ([] ++ fixN t.len 4 : Str).length = 4 := fixN_len _ _
    have hz2 : ([] ++ fixN t.len 4 ++ x : Str).length = 4 + x.length := by rw [List.length_append, hz1]
    have hz3 := sealB_len ([] ++ fixN t.len 4 ++ x)
    obtain ⟨lhb, mhb, chb⟩ := hb.lens
    refine brD (fun ab0 => by exfalso; omega) (fun ab0 => ?_)
    refine wrU ?_
    refine fixFour_ok h (.nil _ _) (by first | omega | decide) (by first | omega | decide) (fun av2 aΓ3 _ ag5 af6 h => ?_)
    have hb := hb.mono ag5
    have hx := hx.mono ag5
    obtain ⟨laf6, maf6, caf6⟩ := af6.lens
    refine new h fun ar8 _ h => ?_
    refine concatTwo_ok h af6 hx (by first | omega | decide) (fun av10 aΓ11 _ ag13 af14 h => ?_)
    have af6 := af6.mono ag13
    have hb := hb.mono ag13
    have hx := hx.mono ag13
    obtain ⟨laf14, maf14, caf14⟩ := af14.lens
    refine seal_ok h af14 (by first | omega | decide) (fun av17 aΓ18 _ ag20 af21 h => ?_)
    have af14 := af14.mono ag20
    have af6 := af6.mono ag20
    have hb := hb.mono ag20
    have hx := hx.mono ag20
    obtain ⟨laf21, maf21, caf21⟩ := af21.lens
    refine new h fun ar23 _ h => ?_
    refine concatTwo_ok h hb af21 (by first | omega | decide) (fun av25 aΓ26 _ ag28 af29 h => ?_)
    have af21 := af21.mono ag28
    have af14 := af14.mono ag28
    have af6 := af6.mono ag28
    have hb := hb.mono ag28
    have hx := hx.mono ag28
    obtain ⟨laf29, maf29, caf29⟩ := af29.lens
    refine ret2 _ _ ?_
    refine k1 hx4 _ _ _ (ag5.trans (ag13.trans (ag20.trans ag28))) af29 h
    all_goals (simp only [List.length_append, List.length_nil, fixN_len, sealB_len]; omega)
  · obtain ⟨lhb, mhb, chb⟩ := hb.lens
    obtain ⟨lhx, mhx, chx⟩ := hx.lens
    refine brD (fun bb0 => ?_) (fun bb0 => by exfalso; omega)
    refine ret2 _ _ ?_
    refine k0 (by first | omega | decide)

end Go.Proofs.Ytocmjngleknlbaa.K

/-
  Frames: the program's, taken.
-/
namespace Go.Proofs.Ytocmjngleknlbaa.K
open Go Go.Proofs
variable {Γ Γ' : Mem} {L L' L'' : List HP} {w w' : World} {A B : HP}
set_option maxRecDepth 100000
set_option maxHeartbeats 4000000

def spanF (b : Str) : Int × Int :=
  if b.length < 4 then (0, 5) else if unfix (b.take 4) > 4096 then (0, 6) else if b.length < 8 + unfix (b.take 4) then (0, 5) else ((4 + unfix (b.take 4) : Nat), 0)

theorem span_ok {s : Sl} {b : Str} {K : (Int × Int) → World → Prop} (h : Sat Γ L w) (hb : Bytes Γ s b) (hl : b.length < 1000000000000) (k : ∀ Γ' w', Γ.le Γ' → Sat Γ' L w' → K (spanF b) w') :
    CallP Try.prog 66 [.slice s.p s.len s.cap] (.tup [.s (.int .i64), .s (.int .i64)]) K w := by
  obtain ⟨hlb, _, hcb⟩ := hb.lens
  have hsub := hb.sub (l := 0) (n := min s.len 4) (Nat.zero_le _) (by omega)
  have e0 : (b.drop 0).take (min s.len 4 - 0) = b.take 4 := by
    rw [List.drop_zero, Nat.sub_zero, hlb]
    by_cases h4 : b.length ≤ 4
    · rw [Nat.min_eq_left h4, List.take_of_length_le (Nat.le_refl _), List.take_of_length_le h4]
    · rw [Nat.min_eq_right (by omega)]
  rw [e0] at hsub
  have htl : (b.take 4).length = min 4 b.length := List.length_take
  have hult := unfix_lt (b.take 4)
  have htt : (b.take 4).take 4 = b.take 4 := by rw [List.take_take, Nat.min_self]
  unfold spanF at k
  have hutt : unfix ((b.take 4).take 4) = unfix (b.take 4) := by rw [htt]
  rw [← hutt] at k
  refine callP (fn := Try.f66) [.s (.sl s)] .n nong mixed (by kernel_rfl) (by kernel_rfl) rfl rfl ?_
  by_cases h4 : b.length < 4
  · rw [if_pos h4] at k
    refine mnN _ _ ?_
    refine ⟨by omega, ?_⟩
    refine unfixFour_ok h hsub (by first | omega | decide) (fun ap1 => ?_) (fun ap2 av3 aΓ4 _ ag6 af7 h => ?_)
    refine brT ?_
    refine ret2 _ _ ?_
    refine k _ _ (.refl _) h
    have hb := hb.mono ag6
    have hsub := hsub.mono ag6
    obtain ⟨laf7, maf7, caf7⟩ := af7.lens
    refine brF ?_
    refine brD (fun ab10 => by exfalso; omega) (fun ab10 => ?_)
    dsimp only at ab10
    refine wrN (unfix (List.take 4 (List.take 4 b))) ?_
    refine wrN (8 + (unfix (List.take 4 (List.take 4 b)))) ?_
    refine brD (fun ab11 => by exfalso; omega) (fun ab11 => ?_)
    refine wrN (unfix (List.take 4 (List.take 4 b))) ?_
    refine wrN (4 + (unfix (List.take 4 (List.take 4 b)))) ?_
    refine ret2 _ _ ?_
    (exfalso; omega)
  · rw [if_neg h4] at k
    have hu2 : unfix ((b.take 4).take 4) < 4294967296 := by
      rw [hutt]
      rw [htl, Nat.min_eq_left (by omega)] at hult
      exact hult
    by_cases hu : unfix ((b.take 4).take 4) > 4096
    · rw [if_pos hu] at k
      refine mnN _ _ ?_
      refine ⟨by omega, ?_⟩
      refine unfixFour_ok h hsub (by first | omega | decide) (fun bp1 => ?_) (fun bp2 bv3 bΓ4 _ bg6 bf7 h => ?_)
      refine brT ?_
      refine ret2 _ _ ?_
      (exfalso; omega)
      have hb := hb.mono bg6
      have hsub := hsub.mono bg6
      obtain ⟨lbf7, mbf7, cbf7⟩ := bf7.lens
      refine brF ?_
      refine brD (fun bb9 => ?_) (fun bb9 => by exfalso; omega)
      dsimp only at bb9
      refine ret2 _ _ ?_
      refine k _ _ bg6 h
    · rw [if_neg hu] at k
      by_cases h8 : b.length < 8 + unfix ((b.take 4).take 4)
      · rw [if_pos h8] at k
        refine mnN _ _ ?_
        refine ⟨by omega, ?_⟩
        refine unfixFour_ok h hsub (by first | omega | decide) (fun cp1 => ?_) (fun cp2 cv3 cΓ4 _ cg6 cf7 h => ?_)
        refine brT ?_
        refine ret2 _ _ ?_
        refine k _ _ (.refl _) h
        have hb := hb.mono cg6
        have hsub := hsub.mono cg6
        obtain ⟨lcf7, mcf7, ccf7⟩ := cf7.lens
        refine brF ?_
        refine brD (fun cb10 => by exfalso; omega) (fun cb10 => ?_)
        dsimp only at cb10
        refine wrN (unfix (List.take 4 (List.take 4 b))) ?_
        refine wrN (8 + (unfix (List.take 4 (List.take 4 b)))) ?_
        refine brD (fun cb11 => ?_) (fun cb11 => by exfalso; omega)
        refine ret2 _ _ ?_
        refine k _ _ cg6 h
      · rw [if_neg h8] at k
        refine mnN _ _ ?_
        refine ⟨by omega, ?_⟩
        refine unfixFour_ok h hsub (by first | omega | decide) (fun dp1 => ?_) (fun dp2 dv3 dΓ4 _ dg6 df7 h => ?_)
        refine brT ?_
        refine ret2 _ _ ?_
        (exfalso; omega)
        have hb := hb.mono dg6
        have hsub := hsub.mono dg6
        obtain ⟨ldf7, mdf7, cdf7⟩ := df7.lens
        refine brF ?_
        refine brD (fun db9 => by exfalso; omega) (fun db9 => ?_)
        dsimp only at db9
        refine wrN (unfix (List.take 4 (List.take 4 b))) ?_
        refine wrN (8 + (unfix (List.take 4 (List.take 4 b)))) ?_
        refine brD (fun db10 => by exfalso; omega) (fun db10 => ?_)
        refine wrN (unfix (List.take 4 (List.take 4 b))) ?_
        refine wrN (4 + (unfix (List.take 4 (List.take 4 b)))) ?_
        refine ret2 _ _ ?_
        refine k _ _ dg6 h

end Go.Proofs.Ytocmjngleknlbaa.K
