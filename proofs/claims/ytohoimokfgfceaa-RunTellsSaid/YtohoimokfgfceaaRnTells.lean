/-
  RunTells: the records of any bytes are the document's: ranged over, and read one by one from a file. No condition.
-/
import Derived.Test.YtohoimokfgfceaaRnE
import Derived.Test.YtohoimokfgfceaaRnH
import Derived.Test.YtohoimokfgfceaaRnT
namespace Go.Proofs.Ytohoimokfgfceaa.K
open Go Go.Proofs Go.ChangeShapes Go.WideShapes Go.ChangeAt Go.RowKit
variable {Γ Γ' : Mem} {L L' L'' : List HP} {w w' : World} {A B : HP}
set_option maxRecDepth 100000
set_option maxHeartbeats 4000000

/-- Next, of which is known what it tells -/
theorem rnNextGoodOne_ok {x : Nat} {r s : Sl} {any : Bool} {last : Option Str} {rest y : Str} {R : List (Str × Int)} {K : (ScsT [.sl, .bool] × Int) → World → Prop}
    (h : Sat Γ (blk x (.cells #[.slice r.p r.len r.cap, .slice s.p s.len s.cap, .bool any, .bool false] 157 (0, 0)) :: L) w) (hrec : recsB last rest = (y, 0) :: R) (hr : Bytes Γ r rest) (hla : LastAt Γ s any last) (hl : rest.length < 1000000000)
    (k : ∀ (hs r' s' : Sl) (rest' : Str) Γ' w', Γ.le Γ' → rest'.length < 1000000000 → recsB (some y) rest' = R → Bytes Γ' hs y → Bytes Γ' r' rest' → LastAt Γ' s' true (some y) → Sat Γ' (blk x (.cells #[.slice r'.p r'.len r'.cap, .slice s'.p s'.len s'.cap, .bool true, .bool false] 157 (0, 0)) :: L) w' → K ((hs, true), 0) w') :
    CallP Try.prog 46 [.pointer (some ⟨x, 0, none⟩)] (.tup [.agg [.sl, .bool], .s (.int .i64)]) K w :=
  rnNextPend_ok h hr hla hl fun hs hb e r' s' any' bad' Γ' w' g hP h => by
    rw [hrec] at hP
    rcases hP with ⟨rfl, rfl, rfl, y1, rest1, hrl, f1, f2, f3, hd⟩ | ⟨rfl, rfl, rfl, rfl, hd⟩ | ⟨rfl, rfl, rfl, hd⟩
    · simp only [List.cons.injEq, Prod.mk.injEq] at hd
      obtain ⟨⟨rfl, _⟩, rfl⟩ := hd
      have hb := f3.1
      subst hb
      exact k hs r' s' rest1 Γ' w' g hrl rfl f1 f2 f3 h
    · simp at hd
    · cases hd

theorem rnNextEvilOne_ok {x : Nat} {r s : Sl} {any : Bool} {last : Option Str} {rest y : Str} {R : List (Str × Int)} {K : (ScsT [.sl, .bool] × Int) → World → Prop}
    (h : Sat Γ (blk x (.cells #[.slice r.p r.len r.cap, .slice s.p s.len s.cap, .bool any, .bool false] 157 (0, 0)) :: L) w) (hrec : recsB last rest = (y, 6) :: R) (hr : Bytes Γ r rest) (hla : LastAt Γ s any last) (hl : rest.length < 1000000000)
    (k : ∀ (r' s' : Sl) (any' : Bool) Γ' w', Γ.le Γ' → y = [] → R = [] → Sat Γ' (blk x (.cells #[.slice r'.p r'.len r'.cap, .slice s'.p s'.len s'.cap, .bool any', .bool true] 157 (0, 0)) :: L) w' → K ((⟨none, 0, 0⟩, false), 6) w') :
    CallP Try.prog 46 [.pointer (some ⟨x, 0, none⟩)] (.tup [.agg [.sl, .bool], .s (.int .i64)]) K w :=
  rnNextPend_ok h hr hla hl fun hs hb e r' s' any' bad' Γ' w' g hP h => by
    rw [hrec] at hP
    rcases hP with ⟨rfl, rfl, rfl, y1, rest1, hrl, f1, f2, f3, hd⟩ | ⟨rfl, rfl, rfl, rfl, hd⟩ | ⟨rfl, rfl, rfl, hd⟩
    · simp at hd
    · simp only [List.cons.injEq, Prod.mk.injEq] at hd
      exact k r' s' any' Γ' w' g hd.1.1 hd.2 h
    · cases hd

theorem rnNextStopAll_ok {x : Nat} {r s : Sl} {any : Bool} {last : Option Str} {rest : Str} {K : (ScsT [.sl, .bool] × Int) → World → Prop}
    (h : Sat Γ (blk x (.cells #[.slice r.p r.len r.cap, .slice s.p s.len s.cap, .bool any, .bool false] 157 (0, 0)) :: L) w) (hrec : recsB last rest = []) (hr : Bytes Γ r rest) (hla : LastAt Γ s any last) (hl : rest.length < 1000000000)
    (k : ∀ (r' s' : Sl) (any' bad' : Bool) Γ' w', Γ.le Γ' → Sat Γ' (blk x (.cells #[.slice r'.p r'.len r'.cap, .slice s'.p s'.len s'.cap, .bool any', .bool bad'] 157 (0, 0)) :: L) w' → K ((⟨none, 0, 0⟩, false), 0) w') :
    CallP Try.prog 46 [.pointer (some ⟨x, 0, none⟩)] (.tup [.agg [.sl, .bool], .s (.int .i64)]) K w :=
  rnNextPend_ok h hr hla hl fun hs hb e r' s' any' bad' Γ' w' g hP h => by
    rw [hrec] at hP
    rcases hP with ⟨rfl, rfl, rfl, y1, rest1, hrl, f1, f2, f3, hd⟩ | ⟨rfl, rfl, rfl, rfl, hd⟩ | ⟨rfl, rfl, rfl, hd⟩
    · cases hd
    · cases hd
    · exact k r' s' any' bad' Γ' w' g h

theorem rnNextBadOne_ok {x : Nat} {r s : Sl} {any : Bool} {K : (ScsT [.sl, .bool] × Int) → World → Prop}
    (h : Sat Γ (blk x (.cells #[.slice r.p r.len r.cap, .slice s.p s.len s.cap, .bool any, .bool true] 157 (0, 0)) :: L) w)
    (k : ∀ w', Sat Γ (blk x (.cells #[.slice r.p r.len r.cap, .slice s.p s.len s.cap, .bool any, .bool true] 157 (0, 0)) :: L) w' → K ((⟨none, 0, 0⟩, false), 6) w') :
    CallP Try.prog 46 [.pointer (some ⟨x, 0, none⟩)] (.tup [.agg [.sl, .bool], .s (.int .i64)]) K w :=
  rnNextBad_ok (rest := []) (y := []) (z := []) (n := 0) (e := 0) h k

theorem recsL_code (more : Bool) : ∀ (l : List Str) (last : Option Str), ∀ x ∈ recsL more last l, x.2 = 0 ∨ x.2 = 6
  | [], last, x, hx => by
    unfold recsL at hx
    split at hx
    · simp at hx; subst hx; exact .inr rfl
    · cases hx
  | y :: r, last, x, hx => by
    unfold recsL at hx
    split at hx
    · rcases List.mem_cons.1 hx with rfl | hx
      · exact .inl rfl
      · exact recsL_code more r (some y) x hx
    · simp at hx; subst hx; exact .inr rfl

theorem recsL_six (more : Bool) : ∀ (l : List Str) (last : Option Str), ∀ x ∈ recsL more last l, x.2 = 6 → x.1 = []
  | [], last, x, hx, h6 => by
    unfold recsL at hx
    split at hx
    · simp at hx; subst hx; rfl
    · cases hx
  | y :: r, last, x, hx, h6 => by
    unfold recsL at hx
    split at hx
    · rcases List.mem_cons.1 hx with rfl | hx
      · exact absurd h6 (by simp)
      · exact recsL_six more r (some y) x hx h6
    · simp at hx; subst hx; rfl

/-- what was told till now -/
def QT (r r2 : Nat) (q : Sl) (R : List (Str × Int)) (i : Nat) : HP :=
  HP.ex fun out : Sl => HP.all [blk r (.cells #[.slice out.p out.len out.cap] 70 (0, 0)), OL eRec 73 out (R.take i), blk r2 (.cells #[.slice q.p q.len q.cap] 32 (0, 0))]

theorem Sat.qt {r r2 i : Nat} {q : Sl} {R : List (Str × Int)} : Sat Γ (QT r r2 q R i :: L) w ↔ ∃ out : Sl, Sat Γ (blk r (.cells #[.slice out.p out.len out.cap] 70 (0, 0)) :: OL eRec 73 out (R.take i) :: blk r2 (.cells #[.slice q.p q.len q.cap] 32 (0, 0)) :: L) w := by
  unfold QT
  rw [Sat.ex]
  constructor
  · rintro ⟨m', h⟩
    exact ⟨m', Sat.all.1 h⟩
  · rintro ⟨m', h2⟩
    exact ⟨m', Sat.all.2 h2⟩

/-- a reader behind so many records -/
def RdS (Γ : Mem) (r s : Sl) (any bad : Bool) (R : List (Str × Int)) (i : Nat) : Prop :=
  (bad = false ∧ ∃ last rest, rest.length < 1000000000 ∧ LastAt Γ s any last ∧ Bytes Γ r rest ∧ recsB last rest = R.drop i ∧ (i = 0 ∨ ∃ y, R[i - 1]? = some (y, (0 : Int)))) ∨
  (bad = true ∧ 0 < i ∧ i = R.length ∧ ∃ y, R[i - 1]? = some (y, (6 : Int)))

/-- the file of these bytes -/
abbrev X1 : DiskM := ((DiskM.new 2000).create [120]).1
theorem x1_there {x : Str} (hx : x.length ≤ 1000) : ((DiskM.new 2000).create [120]).2 = 0 ∧ (X1.append [120] x).2 = 0 ∧ ((X1.append [120] x).1.read [120]).2 = (x, 0) ∧ (X1.append [120] x).1.g ≤ 1002 := by
  have hq : quiet X1 := ⟨rfl, rfl⟩
  have hu : X1.used = 0 := by decide
  have e1 := DiskM.append_some (b := x) (i := 0) hq.up (s := [120]) (by decide) (by rw [hu]; show ¬ ((0 : Nat) : Int) + x.length > 2000; omega)
  rw [hq.tick] at e1
  have hg := append_g X1 [120] x
  have hgj : X1.g = 2 := rfl
  refine ⟨by decide, by rw [e1], ?_, by omega⟩
  rw [e1]
  rfl

theorem law_rtells {s : Sl} {b : Str} {K : Bool → World → Prop} (h : Sat Γ L w) (hb : Bytes Γ s b) (k : ∀ Γ' w', Γ.le Γ' → Sat Γ' L w' → K true w') :
    CallP Try.prog 12 [.slice s.p s.len s.cap] (.one (.s .bool)) K w := by
  refine callP (fn := Try.f12) [.s (.sl s)] (.p .n (.p .n (.p .n (.p .n (.p .n (.p .n (.p .n (.p (.p .n (.b (.p .n .n))) (.p .n (.j [10, 6, 5, 3, 2] [] .n (.p .n (.j [6, 5, 11, 3, 2] [] .n (.p (.p .n (.b (.l [80, 6, 79, 5, 11, 3, 2] [(81, .s (.int .i64))] (.p .n (.p .n (.p (.k [81, 80, 6, 79, 5, 11, 3, 2] [] (.p .n (.p .n (.p .s .n)))) .n)))))) (.p .n (.j [11, 3, 2] [(17, .s (.int .i64))] .n .n))))))))))))))) nong mixed (by kernel_rfl) (by kernel_rfl) rfl rfl ?_
  obtain ⟨hsl, _, _⟩ := hb.lens
  have hsa := hb.sub (l := 0) (n := min s.len 1000) (Nat.zero_le _) (by omega)
  have e0 : (b.drop 0).take (min s.len 1000 - 0) = b.take 1000 := by
    rw [List.drop_zero, Nat.sub_zero, hsl]
    by_cases h3 : b.length ≤ 1000
    · rw [Nat.min_eq_left h3, List.take_of_length_le (Nat.le_refl _), List.take_of_length_le h3]
    · rw [Nat.min_eq_right (by omega)]
  rw [e0] at hsa
  have hx : (b.take 1000).length ≤ 1000 := by rw [List.length_take]; omega
  have hxn : (b.take 1000).length = min s.len 1000 := by rw [List.length_take]; omega
  generalize b.take 1000 = x at hsa hx hxn
  refine new h fun ar0 _ h => ?_
  have h := h.asA (B := blk ar0 (.cells #[Value.bool false] 4 (0, 0))) (by kernel_rfl)
  refine shownR_ok h (fun aΓ2 _ ag4 h => ?_)
  have hb := hb.mono ag4
  have hsa := hsa.mono ag4
  refine mnN _ _ ?_
  refine ⟨by omega, ?_⟩
  refine new h fun ar6 _ h => ?_
  have h := h.asA (B := blk ar6 (.cells #[Value.slice none 0 0] 32 (0, 0))) (by kernel_rfl)
  refine st h .n0 fun _ h => ?_
  have h := h.asA (B := blk ar6 (.cells #[Value.slice (s.sub Try.prog.types[5].size 0 (↑(min s.len 1000) : Int) (↑s.cap : Int)).p (s.sub Try.prog.types[5].size 0 (↑(min s.len 1000) : Int) (↑s.cap : Int)).len (s.sub Try.prog.types[5].size 0 (↑(min s.len 1000) : Int) (↑s.cap : Int)).cap] 32 (0, 0))) (by kernel_rfl)
  refine ld _ h .n0 ?_
  refine rList_ok h hsa (by first | omega | (dsimp only; omega) | decide) (fun av8 aΓ9 _ ag11 af12 h => ?_)
  have hb := hb.mono ag11
  have hsa := hsa.mono ag11
  obtain ⟨laf12, maf12, caf12⟩ := af12.lens
  refine new h fun ar14 _ h => ?_
  have h := h.asA (B := blk ar14 (.cells #[Value.slice none 0 0] 70 (0, 0))) (by kernel_rfl)
  refine ld _ h .n1 ?_
  refine allR_ok h hsa (fun av16 aΓ17 _ ag19 h => ?_)
  have af12 := af12.mono ag19
  have hb := hb.mono ag19
  have hsa := hsa.mono ag19
  rotate_left
  refine ⟨.inr ⟨_, _, _, rfl, ?_⟩⟩
  have hrl : (listM x).length ≤ x.length := recsB_len (last := none) x.length x none (Nat.le_refl _)
  refine brF ?_
  rotate_left
  refine rangeSeq (Γ := aΓ17) (all_seq (sb := av16) (b := x) (by omega)) (QT ar14 ar6 _ (listM x)) (fun _ _ => HP.also False HP.emp) ((Sat.qt.2 ⟨⟨none, 0, 0⟩, (((h.olNil (E := eRec) (T := 73)).pick (A := blk ar6 _) .n3).pick (A := OL eRec _ ⟨none, 0, 0⟩ []) .n1).pick (A := blk ar14 _) .n3⟩).pick .n1) ?_ ?_ ?_
  · clear h
    intro j xx ln lo svs Γ5 M w5 K' hx5 hg he hq k1 k2
    obtain ⟨t, rfl, ht⟩ := he
    obtain ⟨y, e⟩ := xx
    have ht : Bytes Γ5 t y := ht
    have hx5 : (listM x)[j]? = some (y, e) := hx5
    obtain ⟨out, h⟩ := Sat.qt.1 (hq.pick .n1)
    have hjl := (List.getElem?_eq_some_iff.1 hx5).1
    have hol : out.len = j := by
      have := h.olLen .n1
      rw [List.length_take] at this
      omega
    have htk : (listM x).take (j + 1) = (listM x).take j ++ [(y, e)] := by rw [List.take_add_one, hx5]; rfl
    have af12 := af12.mono hg
    have hb := hb.mono hg
    have hsa := hsa.mono hg
    obtain ⟨lht, mht, cht⟩ := ht.lens
    refine turn h .n3 fun _ h => ?_
    refine ld _ h .n1 ?_
    refine new h fun cr0 _ h => ?_
    have h := h.asA (B := blk cr0 (.cells #[Value.slice t.p t.len t.cap, Value.int IntKind.i64 (y, e).snd] 73 (0, 0))) (by kernel_rfl)
    refine appRec_pr ((h.pick .n3).pick .n1) ht (by first | omega | (dsimp only; omega) | decide) (fun cv2 _ cp4 h => ?_)
    refine st h .n2 fun _ h => ?_
    have h := h.asA (B := blk ar14 (.cells #[Value.slice cv2.p cv2.len cv2.cap] 70 (0, 0))) (by kernel_rfl)
    refine ld _ h .n0 ?_
    refine ld _ h .n3 ?_
    refine wrN (((s.sub Try.prog.types[5].size 0 (↑(min s.len 1000) : Int) (↑s.cap : Int)).len) + 1) ?_
    refine brD (fun cb6 => by exfalso; dsimp only [Sl.sub] at cb6; omega) (fun cb6 => ?_)
    dsimp only [Sl.sub] at cb6
    rotate_left
    have h : Sat Γ5 (blk ar14 _ :: OL eRec 73 cv2 ((listM x).take j ++ [(y, e)]) :: _) _ := h
    rw [← htk] at h
    exact k1 Γ5 _ (.refl _) ((Sat.qt.2 ⟨cv2, (((h.pick (A := blk ar6 _) .n3).pick (A := OL eRec _ cv2 _) .n2).pick (A := blk ar14 _) .n2)⟩).pick .n1)
  · clear h
    intro d Γ5 w5 hg hq
    obtain ⟨out, h⟩ := Sat.qt.1 (hq.pick .n2)
    have hq0 : (recsB none x).length = (listM x).length := rfl
    rw [hq0, List.take_length] at h
    have hol := h.olLen .n1
    obtain ⟨Γ6, g6, f6, h⟩ := h.olFreeze .n1 (by omega)
    have af12 := af12.mono (hg.trans g6)
    have hsa := hsa.mono (hg.trans g6)
    obtain ⟨c0, c1, c2, c3⟩ := x1_there hx
    have c2a := congrArg Prod.fst c2
    have c2b := congrArg Prod.snd c2
    dsimp only at c2a c2b
    have hcg : X1.g = 2 := rfl
    unfold X1 at *
    have hb := hb.mono (hg.trans g6)
    refine dNew_ok h (fun dv1 _ h => ?_)
    refine joinI ?_
    refine brF ?_
    refine dCreate_ok h (by first | omega | (dsimp only; omega) | decide) (fun _ h => ?_)
    refine brF ?_
    refine ld _ h .n2 ?_
    refine dAppend_ok h hsa (by first | omega | (dsimp only; omega) | decide) (fun dΓ8 _ dg10 h => ?_)
    have f6 := f6.mono dg10
    have af12 := af12.mono dg10
    have hsa := hsa.mono dg10
    have hb := hb.mono dg10
    refine brN (fun db12 => by exfalso; omega) (fun db12 => ?_)
    refine ld _ h .n1 ?_
    refine brN (fun db13 => by exfalso; omega) (fun db13 => ?_)
    refine rnOpenYes_ok h (by first | omega | (dsimp only; omega) | decide) c2b (fun dv15 dv16 dΓ17 _ dg19 df20 h => ?_)
    have f6 := f6.mono dg19
    have af12 := af12.mono dg19
    have hsa := hsa.mono dg19
    have hb := hb.mono dg19
    obtain ⟨ldf20, mdf20, cdf20⟩ := df20.lens
    refine joinI ?_
    refine brF ?_
    refine brF ?_
    rotate_left
    have h := (h.pick (A := blk ar6 _) .n3).drop
    have h := (h.pick (A := AllA _ _ _) .n4).drop
    have h := (h.pick (A := PDisk _ _) .n1).drop
    refine loop (σ := Int) (fun st w' c => ∃ (i : Nat) (r1 s1 : Sl) (any bad : Bool) (Γ' : Mem), st = (i : Int) ∧ i ≤ (listM x).length ∧ c = (listM x).length - i ∧ dΓ17.le Γ' ∧ RdS Γ' r1 s1 any bad (listM x) i ∧
        Sat Γ' (blk dv15 (.cells #[.slice r1.p r1.len r1.cap, .slice s1.p s1.len s1.cap, .bool any, .bool bad] 157 (0, 0)) :: blk ar14 (.cells #[.slice out.p out.len out.cap] 70 (0, 0)) :: blk d (.deferred (some [])) :: blk ar0 (.cells #[.bool false] 4 (0, 0)) :: L) w') (listM x).length
      ⟨0, dv16, ⟨none, 0, 0⟩, false, false, dΓ17, rfl, by omega, by omega, .refl _, .inl ⟨rfl, none, x, by omega, rfl, by rw [← c2a]; assumption, rfl, .inl rfl⟩, h⟩ ?_
    clear h
    rintro _ w c ⟨i, r1, s1, any, bad, Γ7, rfl, hi, hc, g7, hS, h⟩
    have f6 := f6.mono g7
    have af12 := af12.mono g7
    by_cases hil : i < (listM x).length
    · obtain ⟨⟨y, e⟩, ey⟩ := get_lt hil
      have hd : (listM x).drop i = (y, e) :: (listM x).drop (i + 1) := by
        rw [List.drop_eq_getElem_cons hil, (List.getElem?_eq_some_iff.1 ey).2]
      rcases hS with ⟨rfl, last, rest, hrl2, hla, hrb, hrec, _⟩ | ⟨_, _, h3, _⟩
      · rw [hd] at hrec
        rcases recsL_code _ _ none _ (List.mem_of_getElem? ey) with he | he
        · have he : e = 0 := he
          subst he
          have df20 := df20.mono g7
          have hsa := hsa.mono g7
          have hb := hb.mono g7
          dsimp only at he
          obtain ⟨lhrb, mhrb, chrb⟩ := hrb.lens
          refine brD (fun eb0 => ?_) (fun eb0 => by exfalso; omega)
          refine joinI ?_
          refine ⟨by omega, ?_⟩
          refine nnL h af12 (fun ea1 eha1 => ?_)
          refine ldL h af12 eha1 ey (fun ey2 ehy2 => ?_)
          obtain ⟨ey2s, ehy2a, ehy2e⟩ := eRec_after ehy2
          subst ehy2e
          dsimp only at ehy2a
          obtain ⟨lehy2a, mehy2a, cehy2a⟩ := ehy2a.lens
          refine new h fun er3 _ h => ?_
          have h := h.asA (B := blk er3 (.cells #[Value.slice none 0 0, Value.int IntKind.i64 0] 73 (0, 0))) (by kernel_rfl)
          refine stNs h .n0 fun _ h => ?_
          have h := h.asA (B := blk er3 (.cells #[Value.slice (ey2s, (y, 0).snd).fst.p (ey2s, (y, 0).snd).fst.len (ey2s, (y, 0).snd).fst.cap, Value.int IntKind.i64 (ey2s, (y, 0).snd).snd] 73 (0, 0))) (by kernel_rfl)
          refine rnNextGoodOne_ok (h.pick .n1) hrec hrb hla hrl2 (fun ev5 ev6 ev7 ev8 eΓ9 _ eg11 ep12 ep13 ef14 ef15 ep16 h => ?_)
          have f6 := f6.mono eg11
          have af12 := af12.mono eg11
          have hla := hla.mono eg11
          have hrb := hrb.mono eg11
          have df20 := df20.mono eg11
          have hsa := hsa.mono eg11
          have hb := hb.mono eg11
          have ehy2a := ehy2a.mono eg11
          obtain ⟨lef14, mef14, cef14⟩ := ef14.lens
          obtain ⟨lef15, mef15, cef15⟩ := ef15.lens
          refine new h fun er18 _ h => ?_
          have h := h.asA (B := blk er18 (.cells #[Value.slice none 0 0, Value.bool false] 34 (0, 0))) (by kernel_rfl)
          refine stNs h .n0 fun _ h => ?_
          have h := h.asA (B := blk er18 (.cells #[Value.slice ((ev5, true), 0).fst.fst.p ((ev5, true), 0).fst.fst.len ((ev5, true), 0).fst.fst.cap, Value.bool ((ev5, true), 0).fst.snd] 34 (0, 0))) (by kernel_rfl)
          refine dr h fun _ h => ?_
          refine ld _ h .n3 ?_
          refine ⟨by omega, ?_⟩
          refine nnL h f6 (fun ea19 eha19 => ?_)
          refine ldLf h f6 (·.2) eha19 ey (fun ey20 ehy20 => ?_)
          obtain ⟨ey20s, ehy20a, ehy20e⟩ := eRec_after ehy20
          subst ehy20e
          dsimp only at ehy20a
          obtain ⟨lehy20a, mehy20a, cehy20a⟩ := ehy20a.lens
          refine ld _ h .n2 ?_
          refine brF ?_
          refine ld _ h .n3 ?_
          refine ⟨by omega, ?_⟩
          refine ⟨_, eha19, ?_⟩
          refine ldLf h f6 (·.1) eha19 ey (fun ey21 ehy21 => ?_)
          obtain ⟨ey21s, ehy21a, ehy21e⟩ := eRec_after ehy21
          subst ehy21e
          dsimp only at ehy21a
          obtain ⟨lehy21a, mehy21a, cehy21a⟩ := ehy21a.lens
          refine btoS h ehy21a ?_
          refine ld _ h .n2 ?_
          refine btoS h ehy2a ?_
          refine brSn (fun eb22 => absurd rfl eb22) (fun eb22 => ?_)
          refine ld _ h .n2 ?_
          refine brF ?_
          refine ld _ h .n0 ?_
          refine ld _ h .n2 ?_
          refine brF ?_
          refine ld _ h .n0 ?_
          refine btoS h ef14 ?_
          refine ld _ h .n2 ?_
          refine btoS h ehy2a ?_
          refine brSn (fun eb23 => absurd rfl eb23) (fun eb23 => ?_)
          refine wrN (i + 1) ?_
          refine ⟨_, (by first | omega | rfl | (dsimp only; omega)), _, _, _, _, _, _, rfl, (by first | omega | rfl | (dsimp only; omega)), rfl, (g7.trans eg11), ?_, (((((h.drop.pick .n1).drop.pick .n3).pick .n3).pick .n3).pick .n3)⟩
          rotate_left
          exact .inl ⟨rfl, some y, ev8, by assumption, by assumption, by assumption, by assumption, .inr ⟨y, by rw [Nat.add_sub_cancel]; exact ey⟩⟩
        · have he : e = 6 := he
          subst he
          have hyn : y = [] := recsL_six _ _ none _ (List.mem_of_getElem? ey) rfl
          subst hyn
          have df20 := df20.mono g7
          have hsa := hsa.mono g7
          have hb := hb.mono g7
          dsimp only at he
          obtain ⟨lhrb, mhrb, chrb⟩ := hrb.lens
          refine brD (fun fb0 => ?_) (fun fb0 => by exfalso; omega)
          refine joinI ?_
          refine ⟨by omega, ?_⟩
          refine nnL h af12 (fun fa1 fha1 => ?_)
          refine ldL h af12 fha1 ey (fun fy2 fhy2 => ?_)
          obtain ⟨fy2s, fhy2a, fhy2e⟩ := eRec_after fhy2
          subst fhy2e
          dsimp only at fhy2a
          obtain ⟨lfhy2a, mfhy2a, cfhy2a⟩ := fhy2a.lens
          refine new h fun fr3 _ h => ?_
          have h := h.asA (B := blk fr3 (.cells #[Value.slice none 0 0, Value.int IntKind.i64 0] 73 (0, 0))) (by kernel_rfl)
          refine stNs h .n0 fun _ h => ?_
          refine rnNextEvilOne_ok (h.pick .n1) hrec hrb hla hrl2 (fun fv5 fv6 fv7 fΓ8 _ fg10 fp11 fp12 h => ?_)
          have f6 := f6.mono fg10
          have af12 := af12.mono fg10
          have hla := hla.mono fg10
          have hrb := hrb.mono fg10
          have df20 := df20.mono fg10
          have hsa := hsa.mono fg10
          have hb := hb.mono fg10
          have fhy2a := fhy2a.mono fg10
          refine new h fun fr14 _ h => ?_
          have h := h.asA (B := blk fr14 (.cells #[Value.slice none 0 0, Value.bool false] 34 (0, 0))) (by kernel_rfl)
          refine stNs h .n0 fun _ h => ?_
          have h := h.asA (B := blk fr14 (.cells #[Value.slice ((Sl.mk none 0 0, false), 6).fst.fst.p ((Sl.mk none 0 0, false), 6).fst.fst.len ((Sl.mk none 0 0, false), 6).fst.fst.cap, Value.bool ((Sl.mk none 0 0, false), 6).fst.snd] 34 (0, 0))) (by kernel_rfl)
          refine dr h fun _ h => ?_
          refine ld _ h .n3 ?_
          refine ⟨by omega, ?_⟩
          refine nnL h f6 (fun fa15 fha15 => ?_)
          refine ldLf h f6 (·.2) fha15 ey (fun fy16 fhy16 => ?_)
          obtain ⟨fy16s, fhy16a, fhy16e⟩ := eRec_after fhy16
          subst fhy16e
          dsimp only at fhy16a
          obtain ⟨lfhy16a, mfhy16a, cfhy16a⟩ := fhy16a.lens
          refine ld _ h .n2 ?_
          refine brF ?_
          refine ld _ h .n3 ?_
          refine ⟨by omega, ?_⟩
          refine ⟨_, fha15, ?_⟩
          refine ldLf h f6 (·.1) fha15 ey (fun fy17 fhy17 => ?_)
          obtain ⟨fy17s, fhy17a, fhy17e⟩ := eRec_after fhy17
          subst fhy17e
          dsimp only at fhy17a
          obtain ⟨lfhy17a, mfhy17a, cfhy17a⟩ := fhy17a.lens
          refine btoS h fhy17a ?_
          refine ld _ h .n2 ?_
          refine btoS h fhy2a ?_
          refine brSn (fun fb18 => absurd rfl fb18) (fun fb18 => ?_)
          refine ld _ h .n2 ?_
          refine brF ?_
          refine ld _ h .n0 ?_
          refine ld _ h .n2 ?_
          refine brF ?_
          refine ld _ h .n0 ?_
          refine btoS h (.nil _ _) ?_
          refine ld _ h .n2 ?_
          refine btoS h fhy2a ?_
          refine brSn (fun fb19 => absurd rfl fb19) (fun fb19 => ?_)
          refine wrN (i + 1) ?_
          refine ⟨_, (by first | omega | rfl | (dsimp only; omega)), _, _, _, _, _, _, rfl, (by first | omega | rfl | (dsimp only; omega)), rfl, (g7.trans fg10), ?_, (((((h.drop.pick .n1).drop.pick .n3).pick .n3).pick .n3).pick .n3)⟩
          rotate_left
          have hR : (listM x).drop (i + 1) = [] := by assumption
          have hR2 := congrArg List.length hR
          rw [List.length_drop, List.length_nil] at hR2
          exact .inr ⟨rfl, by omega, by omega, [], by rw [Nat.add_sub_cancel]; exact ey⟩
      · omega
    · rcases hS with ⟨rfl, last, rest, hrl2, hla, hrb, hrec, hz⟩ | ⟨rfl, h2, h3, y, hz⟩
      · rw [show i = (listM x).length by omega, List.drop_length] at hrec
        rcases hz with hz | ⟨y, hz⟩
        · have df20 := df20.mono g7
          have hsa := hsa.mono g7
          have hb := hb.mono g7
          obtain ⟨lhrb, mhrb, chrb⟩ := hrb.lens
          refine brD (fun gb0 => by exfalso; omega) (fun gb0 => ?_)
          refine joinI ?_
          refine brD (fun gb1 => by exfalso; omega) (fun gb1 => ?_)
          refine rnNextStopAll_ok h hrec hrb hla hrl2 (fun gv3 gv4 gv5 gv6 gΓ7 _ gg9 h => ?_)
          have f6 := f6.mono gg9
          have af12 := af12.mono gg9
          have hla := hla.mono gg9
          have hrb := hrb.mono gg9
          have df20 := df20.mono gg9
          have hsa := hsa.mono gg9
          have hb := hb.mono gg9
          refine new h fun gr11 _ h => ?_
          have h := h.asA (B := blk gr11 (.cells #[Value.slice none 0 0, Value.bool false] 34 (0, 0))) (by kernel_rfl)
          refine stNs h .n0 fun _ h => ?_
          have h := h.asA (B := blk gr11 (.cells #[Value.slice ((Sl.mk none 0 0, false), 0).fst.fst.p ((Sl.mk none 0 0, false), 0).fst.fst.len ((Sl.mk none 0 0, false), 0).fst.fst.cap, Value.bool ((Sl.mk none 0 0, false), 0).fst.snd] 34 (0, 0))) (by kernel_rfl)
          refine brT ?_
          refine ld _ h .n0 ?_
          refine brT ?_
          refine ld _ h .n0 ?_
          refine brT ?_
          refine st h .n4 fun _ h => ?_
          have h := h.asA (B := blk ar0 (.cells #[Value.bool (((Sl.mk none 0 0, false), 0).snd == 0)] 4 (0, 0))) (by kernel_rfl)
          refine turn h .n4 fun _ h => ?_
          refine ld _ h .n1 ?_
          refine ⟨_, rfl, ?_⟩
          refine k _ _ (ag4.trans (ag11.trans (ag19.trans (hg.trans (g6.trans (dg10.trans (dg19.trans (g7.trans gg9)))))))) h.drop.drop.drop.drop.drop
        · have hz2 : (listM x)[av8.len - 1]? = some (y, (0 : Int)) := by rw [← hz]; congr 1; omega
          have df20 := df20.mono g7
          have hsa := hsa.mono g7
          have hb := hb.mono g7
          obtain ⟨lhrb, mhrb, chrb⟩ := hrb.lens
          refine brD (fun ib0 => by exfalso; omega) (fun ib0 => ?_)
          refine joinI ?_
          refine brD (fun ib1 => ?_) (fun ib1 => ?_)
          refine wrN (av8.len - 1) ?_
          refine ⟨by omega, ?_⟩
          refine nnL h af12 (fun ia2 iha2 => ?_)
          refine ldLf h af12 (·.2) iha2 hz2 (fun iy3 ihy3 => ?_)
          obtain ⟨iy3s, ihy3a, ihy3e⟩ := eRec_after ihy3
          subst ihy3e
          dsimp only at ihy3a
          obtain ⟨lihy3a, mihy3a, cihy3a⟩ := ihy3a.lens
          refine rnNextStopAll_ok h hrec hrb hla hrl2 (fun iv5 iv6 iv7 iv8 iΓ9 _ ig11 h => ?_)
          have f6 := f6.mono ig11
          have af12 := af12.mono ig11
          have hla := hla.mono ig11
          have hrb := hrb.mono ig11
          have df20 := df20.mono ig11
          have hsa := hsa.mono ig11
          have hb := hb.mono ig11
          have ihy3a := ihy3a.mono ig11
          refine new h fun ir13 _ h => ?_
          have h := h.asA (B := blk ir13 (.cells #[Value.slice none 0 0, Value.bool false] 34 (0, 0))) (by kernel_rfl)
          refine stNs h .n0 fun _ h => ?_
          have h := h.asA (B := blk ir13 (.cells #[Value.slice ((Sl.mk none 0 0, false), 0).fst.fst.p ((Sl.mk none 0 0, false), 0).fst.fst.len ((Sl.mk none 0 0, false), 0).fst.fst.cap, Value.bool ((Sl.mk none 0 0, false), 0).fst.snd] 34 (0, 0))) (by kernel_rfl)
          refine brT ?_
          refine ld _ h .n0 ?_
          refine brT ?_
          refine ld _ h .n0 ?_
          refine brT ?_
          refine st h .n4 fun _ h => ?_
          have h := h.asA (B := blk ar0 (.cells #[Value.bool (((Sl.mk none 0 0, false), 0).snd == (iy3s, (y, 0).snd).snd)] 4 (0, 0))) (by kernel_rfl)
          refine turn h .n4 fun _ h => ?_
          refine ld _ h .n1 ?_
          refine ⟨_, rfl, ?_⟩
          refine k _ _ (ag4.trans (ag11.trans (ag19.trans (hg.trans (g6.trans (dg10.trans (dg19.trans (g7.trans ig11)))))))) h.drop.drop.drop.drop.drop
          refine rnNextStopAll_ok h hrec hrb hla hrl2 (fun iv16 iv17 iv18 iv19 iΓ20 _ ig22 h => ?_)
          have f6 := f6.mono ig22
          have af12 := af12.mono ig22
          have hla := hla.mono ig22
          have hrb := hrb.mono ig22
          have df20 := df20.mono ig22
          have hsa := hsa.mono ig22
          have hb := hb.mono ig22
          refine new h fun ir24 _ h => ?_
          have h := h.asA (B := blk ir24 (.cells #[Value.slice none 0 0, Value.bool false] 34 (0, 0))) (by kernel_rfl)
          refine stNs h .n0 fun _ h => ?_
          have h := h.asA (B := blk ir24 (.cells #[Value.slice ((Sl.mk none 0 0, false), 0).fst.fst.p ((Sl.mk none 0 0, false), 0).fst.fst.len ((Sl.mk none 0 0, false), 0).fst.fst.cap, Value.bool ((Sl.mk none 0 0, false), 0).fst.snd] 34 (0, 0))) (by kernel_rfl)
          refine brT ?_
          refine ld _ h .n0 ?_
          refine brT ?_
          refine ld _ h .n0 ?_
          refine brT ?_
          refine st h .n4 fun _ h => ?_
          have h := h.asA (B := blk ar0 (.cells #[Value.bool (((Sl.mk none 0 0, false), 0).snd == 0)] 4 (0, 0))) (by kernel_rfl)
          refine turn h .n4 fun _ h => ?_
          refine ld _ h .n1 ?_
          refine ⟨_, rfl, ?_⟩
          refine k _ _ (ag4.trans (ag11.trans (ag19.trans (hg.trans (g6.trans (dg10.trans (dg19.trans (g7.trans ig22)))))))) h.drop.drop.drop.drop.drop
      · have hz2 : (listM x)[av8.len - 1]? = some (y, (6 : Int)) := by rw [← hz]; congr 1; omega
        have df20 := df20.mono g7
        have hsa := hsa.mono g7
        have hb := hb.mono g7
        refine brD (fun jb0 => by exfalso; omega) (fun jb0 => ?_)
        refine joinI ?_
        refine brD (fun jb1 => ?_) (fun jb1 => by exfalso; omega)
        refine wrN (av8.len - 1) ?_
        refine ⟨by omega, ?_⟩
        refine nnL h af12 (fun ja2 jha2 => ?_)
        refine ldLf h af12 (·.2) jha2 hz2 (fun jy3 jhy3 => ?_)
        obtain ⟨jy3s, jhy3a, jhy3e⟩ := eRec_after jhy3
        subst jhy3e
        dsimp only at jhy3a
        obtain ⟨ljhy3a, mjhy3a, cjhy3a⟩ := jhy3a.lens
        refine rnNextBadOne_ok h (fun _ h => ?_)
        refine new h fun jr7 _ h => ?_
        have h := h.asA (B := blk jr7 (.cells #[Value.slice none 0 0, Value.bool false] 34 (0, 0))) (by kernel_rfl)
        refine stNs h .n0 fun _ h => ?_
        have h := h.asA (B := blk jr7 (.cells #[Value.slice ((Sl.mk none 0 0, false), 6).fst.fst.p ((Sl.mk none 0 0, false), 6).fst.fst.len ((Sl.mk none 0 0, false), 6).fst.fst.cap, Value.bool ((Sl.mk none 0 0, false), 6).fst.snd] 34 (0, 0))) (by kernel_rfl)
        refine brT ?_
        refine ld _ h .n0 ?_
        refine brT ?_
        refine ld _ h .n0 ?_
        refine brT ?_
        refine st h .n4 fun _ h => ?_
        have h := h.asA (B := blk ar0 (.cells #[Value.bool (((Sl.mk none 0 0, false), 6).snd == (jy3s, (y, 6).snd).snd)] 4 (0, 0))) (by kernel_rfl)
        refine turn h .n4 fun _ h => ?_
        refine ld _ h .n1 ?_
        refine ⟨_, rfl, ?_⟩
        refine k _ _ (ag4.trans (ag11.trans (ag19.trans (hg.trans (g6.trans (dg10.trans (dg19.trans g7))))))) h.drop.drop.drop.drop.drop
  · intro d j wy Γ5 w5 hne hj hg hq
    exact ((Sat.also.1 (hq.pick .n2)).1).elim

theorem runTells_walk {H : Type} {enc : TypeId × Value → H} {W : World} {base : Nat} {vs : List Value} {ds : List (DataW H)} {ps : List MemPlace} (hok : ∀ (j : Nat) (t : TypeId) (v : Value), [32][j]? = some t → vs[j]? = some v → Value.okWide Try.prog W .any base t v)
    (hA : DataW.TrodAll enc Try.prog W 0 (fun _ => true) true [32] vs ds ps) : CallP Try.prog 12 vs (.one (.s .bool)) (fun b w' => b = true ∧ Kept W w') W := by
  obtain ⟨v0, vs0, d0, ds0, p0, q0, rfl, rfl, rfl, h0, r0⟩ := trodAll_cons hA
  obtain ⟨rfl, rfl, rfl⟩ := trodAll_nil r0
  obtain ⟨y0, x0, e0, f0⟩ := argS rBytes (hok 0 _ _ rfl rfl) h0
  cases e0
  exact law_walk fun k => law_rtells (Sat.start W) f0 k

theorem runTells_lifted (os : Os) (started : os.Started) (H : Type) (enc : TypeId × Value → H) :
    ReturnsInHanded {} Try.checked os 12 .any (Rows.runTellsSpec.pre6 enc Try.prog Try.f12 Rows.runTellsRow.domain false) (Rows.runTellsSpec.post enc Try.prog Try.f12 false true false false) := by
  have e : Try.f12.params.toList = [32] := by kernel_rfl
  refine law_lifted (s := Rows.runTellsSpec) started Try.func12 (by kernel_rfl) rfl (fun ds h => ?_) (by kernel_rfl) (fun t ht => ?_)
    (ChangeSpec.witness6 (enc := enc) (C := Try.checked) false ⟨#[], #[.slice none 0 0], []⟩ 8 (by kernel_rfl) (by kernel_rfl) (by kernel_rfl) (by kernel_rfl)) fun W base vs ds ps hok hA => ?_
  · have hl : ds.length = 1 := h
    match ds, hl with
    | [_], _ => rfl
  · rw [e] at ht
    have hall : ([32].all fun t => Try.prog.readableRec t && decide (t < Try.prog.types.size)) = true := by kernel_rfl
    simpa using List.all_eq_true.1 hall t ht
  · rw [e] at hA hok
    exact runTells_walk hok hA

theorem runTells_facts : joinedFacts Try.pinned.checked.prog 12 Try.f12 Rows.runTellsSpec Rows.runTellsRow = true := by
  show joinedFacts Try.prog 12 Try.f12 Rows.runTellsSpec Rows.runTellsRow = true
  unfold joinedFacts
  rw [make_, enter_, lifts_]
  kernel_rfl

theorem RunTells_holds : Rows.RunTellsSaid :=
  OpenClaim.holds_of_wide 12 Try.f12 rfl rfl rfl rfl rfl rfl rfl ⟨rfl, rfl, rfl, rfl, rfl⟩ rfl rfl rfl rfl rfl (by kernel_rfl) Try.func12 runTells_facts
    (of_decide_eq_true (by kernel_rfl)) (by unfold Func.isWrapper; first | (rw [if_pos (by decide +kernel)]; kernel_rfl) | (rw [if_neg (by decide +kernel)]; exact ⟨rfl, rfl⟩))
    (fun os started H enc _ => runTells_lifted os started H enc)


end Go.Proofs.Ytohoimokfgfceaa.K
