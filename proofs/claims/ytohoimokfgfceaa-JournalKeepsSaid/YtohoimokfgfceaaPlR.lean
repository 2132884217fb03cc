/-
  place, the reference's.
-/
import Derived.Test.YtohoimokfgfceaaPlM
import Derived.Test.YtohoimokfgfceaaRdH
namespace Go.Proofs.Ytohoimokfgfceaa.K
open Go Go.Proofs
variable {Γ Γ' : Mem} {L L' L'' : List HP} {w w' : World} {A B : HP}
set_option maxRecDepth 100000
set_option maxHeartbeats 1000000

theorem rrightP_ok {s : Str} {K : Bool → World → Prop} (h : Sat Γ L w) (k1 : rightP s → K true w) (k2 : ¬ rightP s → K false w) :
    CallP Try.prog 173 [.string (str s)] (.one (.s .bool)) K w := by
  have hz := str_size s
  unfold rightP rightN tmpS at k1 k2
  refine callP (fn := Try.f173) [.s (.str (str s))] .n nong mixed (by kernel_rfl) (by kernel_rfl) rfl rfl ?_
  refine brSn (fun ab0 => ?_) (fun ab0 => ?_)
  refine brD (fun ab1 => ?_) (fun ab1 => ?_)
  refine ⟨_, rfl, ?_⟩
  refine kDec (fun ab2 => ?_) (fun ab2 => ?_)
  refine k1 ?_
  rotate_left
  refine k2 (by first | omega | (dsimp only; omega) | decide)
  refine ⟨_, rfl, ?_⟩
  refine k2 (by first | omega | (dsimp only; omega) | decide)
  refine ⟨_, rfl, ?_⟩
  refine k2 ?_
  rotate_left
  all_goals (first | exact ⟨by assumption, by omega, by omega⟩ | exact ⟨by assumption, List.length_pos_iff.2 (by assumption), by omega⟩ | (rintro ⟨h1, h2, h3⟩; first | omega | exact absurd (by assumption) h1 | (subst_vars; simp at h2)))

theorem rrightPY_ok {s : Str} {K : Bool → World → Prop} (h : Sat Γ L w) (hs : rightP s) (k1 : K true w) : CallP Try.prog 173 [.string (str s)] (.one (.s .bool)) K w := rrightP_ok h (fun _ => k1) fun h => absurd hs h
theorem rrightPN_ok {s : Str} {K : Bool → World → Prop} (h : Sat Γ L w) (hs : ¬ rightP s) (k1 : K false w) : CallP Try.prog 173 [.string (str s)] (.one (.s .bool)) K w := rrightP_ok h (fun h => absurd h hs) fun _ => k1

theorem rbutGen {e n : Int} {K : Int → World → Prop} (h : Sat Γ L w) (k1 : e = n → K 0 w) (k2 : e ≠ n → K e w) :
    CallP Try.prog 174 [.int .i64 e, .int .i64 n] (.one (.s (.int .i64))) K w := by
  refine callP (fn := Try.f174) [.s (.int .i64 e), .s (.int .i64 n)] .n nong mixed (by kernel_rfl) (by kernel_rfl) rfl rfl ?_
  refine brE (fun ab0 => ?_) (fun ab0 => ?_)
  refine ⟨_, rfl, ?_⟩
  refine k1 ab0
  refine ⟨_, rfl, ?_⟩
  refine k2 ab0

theorem rbutKnown_ok {e n : Int} {K : Int → World → Prop} (h : Sat Γ L w) (he : e = 0 ∨ e = n) (k1 : K 0 w) :
    CallP Try.prog 174 [.int .i64 e, .int .i64 n] (.one (.s (.int .i64))) K w :=
  rbutGen h (fun _ => k1) fun h2 => by
    rcases he with rfl | rfl
    · exact k1
    · exact absurd rfl h2

theorem rbutErr_ok {e n : Int} {K : Int → World → Prop} (h : Sat Γ L w) (he : e ≠ 0 ∧ e ≠ n) (k1 : K e w) :
    CallP Try.prog 174 [.int .i64 e, .int .i64 n] (.one (.s (.int .i64))) K w := rbutGen h (fun h => absurd h he.2) fun _ => k1

theorem rDrop_ok {a : Nat} {m : DiskM} {s : Sl} {l : List Str} {K : Int → World → Prop} (h : Sat Γ (RDisk a m :: L) w) (hl : Lst eStr Γ s l) (hg : m.g + l.length < 1000000000000) (k : ∀ Γ' w', Γ.le Γ' → Sat Γ' (RDisk a (dropM m l).1 :: L) w' → K (dropM m l).2 w') :
    CallP Try.prog 148 [.pointer (some ⟨a, 0, none⟩), .slice s.p s.len s.cap] (.one (.s (.int .i64))) K w := by
  refine callP (fn := Try.f148) [.s (.ptr (some ⟨a, 0, none⟩)), .s (.sl s)] (.p .n (.p .n (.p (.p .n (.b (.l [1, 0] [(5, .s .bool), (6, .s (.int .i64))] (.p .n (.p (.k [6, 1, 0] [(5, .s .bool)] (.p .n (.j [5, 7, 6, 1, 0] [] .n .n))) .n))))) .n))) nong mixed (by kernel_rfl) (by kernel_rfl) rfl rfl ?_
  obtain ⟨lhl, mhl, chl⟩ := hl.lens
  rotate_left
  refine loop (σ := Bool × Int) (fun st w' u => ∃ (b : Bool) (i : Nat) (m' : DiskM) (Γ' : Mem), st = (b, (i : Int)) ∧ i ≤ l.length ∧ u = l.length - i ∧ m'.g ≤ m.g + i ∧ dropM m l = dropF (l.drop i) b m' ∧ Γ.le Γ' ∧ Sat Γ' (RDisk a m' :: L) w') l.length
    ⟨false, 0, m, Γ, rfl, by omega, by omega, by omega, rfl, .refl _, h⟩ ?_
  clear h
  rintro _ w u ⟨b, i, m', Γ3, rfl, hi, hu, hg', he, g3, h⟩
  have hl3 := hl.mono g3
  by_cases hil : i < l.length
  · obtain ⟨x, ex⟩ := get_lt hil
    have hd : l.drop i = x :: l.drop (i + 1) := by
      rw [List.drop_eq_getElem_cons hil]
      rw [List.getElem?_eq_getElem hil] at ex
      cases ex
      rfl
    rw [hd, dropF] at he
    have hrg := remove_g m' x
    by_cases h0 : (m'.remove x).2 = 0
    · rw [if_pos h0] at he
      have hl := hl.mono g3
      refine brD (fun bb0 => ?_) (fun bb0 => by exfalso; omega)
      dsimp only at bb0
      refine joinI ?_
      refine ⟨by omega, ?_⟩
      refine nnL h hl (fun ba1 bha1 => ?_)
      refine ldL h hl bha1 ex (fun by2 bhy2 => ?_)
      have bhy2 : by2 = str x := bhy2
      subst bhy2
      refine rRemove_ok h (by first | omega | (dsimp only; omega) | decide) (fun bΓ4 _ bg6 h => ?_)
      have hl3 := hl3.mono bg6
      have hl := hl.mono bg6
      refine joinI ?_
      refine brN (fun bb8 => by exfalso; omega) (fun bb8 => ?_)
      refine brB (fun bb9 => ?_) (fun bb9 => ?_)
      dsimp only at bb9
      refine wrN (i + 1) ?_
      refine ⟨_, (by first | omega | rfl | (dsimp only; omega)), _, _, _, _, rfl, (by first | omega | rfl | (dsimp only; omega)), rfl, (by first | omega | rfl | (dsimp only; omega)), he, (g3.trans bg6), h⟩
      dsimp only at bb9
      refine wrN (i + 1) ?_
      refine ⟨_, (by first | omega | rfl | (dsimp only; omega)), _, _, _, _, rfl, (by first | omega | rfl | (dsimp only; omega)), rfl, (by first | omega | rfl | (dsimp only; omega)), ?_, (g3.trans bg6), h⟩
      rotate_left
      all_goals simp_all
    · rw [if_neg h0] at he
      by_cases h2 : (m'.remove x).2 = 2
      · rw [if_pos h2] at he
        have hl := hl.mono g3
        refine brD (fun cb0 => ?_) (fun cb0 => by exfalso; omega)
        dsimp only at cb0
        refine joinI ?_
        refine ⟨by omega, ?_⟩
        refine nnL h hl (fun ca1 cha1 => ?_)
        refine ldL h hl cha1 ex (fun cy2 chy2 => ?_)
        have chy2 : cy2 = str x := chy2
        subst chy2
        refine rRemove_ok h (by first | omega | (dsimp only; omega) | decide) (fun cΓ4 _ cg6 h => ?_)
        have hl3 := hl3.mono cg6
        have hl := hl.mono cg6
        refine joinI ?_
        refine brN (fun cb8 => ?_) (fun cb8 => by exfalso; omega)
        refine brN (fun cb9 => by exfalso; omega) (fun cb9 => ?_)
        refine brB (fun cb10 => ?_) (fun cb10 => ?_)
        dsimp only at cb10
        refine wrN (i + 1) ?_
        refine ⟨_, (by first | omega | rfl | (dsimp only; omega)), _, _, _, _, rfl, (by first | omega | rfl | (dsimp only; omega)), rfl, (by first | omega | rfl | (dsimp only; omega)), ?_, (g3.trans cg6), h⟩
        rotate_left
        dsimp only at cb10
        refine wrN (i + 1) ?_
        refine ⟨_, (by first | omega | rfl | (dsimp only; omega)), _, _, _, _, rfl, (by first | omega | rfl | (dsimp only; omega)), rfl, (by first | omega | rfl | (dsimp only; omega)), ?_, (g3.trans cg6), h⟩
        rotate_left
        all_goals simp_all
      · rw [if_neg h2] at he
        rw [he] at k
        have hl := hl.mono g3
        refine brD (fun db0 => ?_) (fun db0 => by exfalso; omega)
        dsimp only at db0
        refine joinI ?_
        refine ⟨by omega, ?_⟩
        refine nnL h hl (fun da1 dha1 => ?_)
        refine ldL h hl dha1 ex (fun dy2 dhy2 => ?_)
        have dhy2 : dy2 = str x := dhy2
        subst dhy2
        refine rRemove_ok h (by first | omega | (dsimp only; omega) | decide) (fun dΓ4 _ dg6 h => ?_)
        have hl3 := hl3.mono dg6
        have hl := hl.mono dg6
        refine joinI ?_
        refine brN (fun db8 => ?_) (fun db8 => by exfalso; omega)
        refine brN (fun db9 => ?_) (fun db9 => by exfalso; omega)
        refine ⟨_, rfl, ?_⟩
        refine k _ _ (g3.trans dg6) h
  · have : i = l.length := by omega
    subst this
    rw [List.drop_length, dropF] at he
    cases b with
    | true =>
      rw [if_pos rfl] at he
      rw [he] at k
      have hl := hl.mono g3
      refine brD (fun eb0 => by exfalso; omega) (fun eb0 => ?_)
      dsimp only at eb0
      refine brF ?_
      refine rSyncNames_ok h (by first | omega | (dsimp only; omega) | decide) (fun eΓ2 _ eg4 h => ?_)
      have hl3 := hl3.mono eg4
      have hl := hl.mono eg4
      refine ⟨_, rfl, ?_⟩
      refine k _ _ (g3.trans eg4) h
    | false =>
      rw [if_neg (by decide)] at he
      rw [he] at k
      have hl := hl.mono g3
      refine brD (fun fb0 => by exfalso; omega) (fun fb0 => ?_)
      dsimp only at fb0
      refine brT ?_
      refine ⟨_, rfl, ?_⟩
      refine k _ _ g3 h

theorem rPut_ok {a : Nat} {m : DiskM} {s : Str} {t : Sl} {b : Str} {K : Int → World → Prop} (h : Sat Γ (RDisk a m :: L) w) (hb : Bytes Γ t b) (hg : m.g + b.length + 100 < 1000000000000) (k : ∀ Γ' w', Γ.le Γ' → Sat Γ' (RDisk a (putP m s b).1 :: L) w' → K (putP m s b).2 w') :
    CallP Try.prog 146 [.pointer (some ⟨a, 0, none⟩), .string (str s), .slice t.p t.len t.cap] (.one (.s (.int .i64))) K w := by
  have hrg := remove_g m tmpS
  have hcg := create_g (m.remove tmpS).1 tmpS
  obtain ⟨hbl, hbm, hbc⟩ := hb.lens
  refine callP (fn := Try.f146) [.s (.ptr (some ⟨a, 0, none⟩)), .s (.str (str s)), .s (.sl t)] (.p .n (.p .n (.p .n (.j [2, 1, 0] [(7, .s (.int .i64))] .n (.p (.p .n (.b (.l [2, 1, 0] [(7, .s (.int .i64)), (8, .s (.int .i64))] (.j [8, 2, 1, 0] [] .n .n)))) (.j [1, 0] [(7, .s (.int .i64))] .n (.j [0] [(7, .s (.int .i64))] .n (.j [] [(7, .s (.int .i64))] .n .n)))))))) nong mixed (by kernel_rfl) (by kernel_rfl) rfl rfl ?_
  unfold putP at k
  by_cases hr : rightP s
  · rw [if_neg (by intro h; exact h hr)] at k
    by_cases h1 : (m.remove tmpS).2 ≠ 0 ∧ (m.remove tmpS).2 ≠ 2
    · rw [if_pos h1] at k
      unfold tmpS at hrg hcg h1 k
      refine rrightPY_ok h hr ?_
      refine brF ?_
      refine rRemove_ok h (by first | omega | (dsimp only; omega) | decide) (fun aΓ2 _ ag4 h => ?_)
      have hb := hb.mono ag4
      refine rbutErr_ok h h1 ?_
      refine joinI ?_
      refine brE (fun ab7 => by exfalso; omega) (fun ab7 => ?_)
      rotate_left
      refine loop (σ := Int × Int) (fun st w' u => ∃ Γ' : Mem, st = ((m.remove [116, 109, 112]).2, 0) ∧ u = 0 ∧ Γ.le Γ' ∧ Sat Γ' (RDisk a (m.remove [116, 109, 112]).1 :: L) w') 0 ⟨_, rfl, rfl, by assumption, h⟩ ?_
      clear h
      rintro _ w u ⟨Γ3, rfl, rfl, g3, h⟩
      refine joinI ?_
      refine brD (fun db0 => ?_) (fun db0 => ?_)
      dsimp only at db0
      refine brE (fun db1 => by exfalso; omega) (fun db1 => ?_)
      dsimp only at db1
      refine joinI ?_
      refine brE (fun db2 => by exfalso; omega) (fun db2 => ?_)
      dsimp only at db2
      refine joinI ?_
      refine brE (fun db3 => by exfalso; omega) (fun db3 => ?_)
      dsimp only at db3
      refine joinI ?_
      refine brE (fun db4 => by exfalso; omega) (fun db4 => ?_)
      dsimp only at db4
      refine ⟨_, rfl, ?_⟩
      refine k _ _ g3 h
      dsimp only at db0
      refine joinI ?_
      refine brE (fun db6 => by exfalso; omega) (fun db6 => ?_)
      dsimp only at db6
      refine joinI ?_
      refine brE (fun db7 => by exfalso; omega) (fun db7 => ?_)
      dsimp only at db7
      refine joinI ?_
      refine brE (fun db8 => by exfalso; omega) (fun db8 => ?_)
      dsimp only at db8
      refine ⟨_, rfl, ?_⟩
      refine k _ _ g3 h
    · rw [if_neg h1] at k
      have he : (m.remove tmpS).2 = 0 ∨ (m.remove tmpS).2 = 2 := by omega
      have hputs : putSteps s b = (fun m => m.create tmpS) :: fillM (chunks b) :: [fun m => m.sync tmpS, fun m => m.rename tmpS s, fun m => m.syncNames] := rfl
      rw [hputs] at k
      have hinv : ((m.remove tmpS).1.create tmpS).2 = 0 ∧ runAll ((fun m => m.create tmpS) :: fillM (chunks b) :: [fun m => m.sync tmpS, fun m => m.rename tmpS s, fun m => m.syncNames]) (m.remove tmpS).1 = runAll (fillM ((chunks b).drop 0) :: [fun m => m.sync tmpS, fun m => m.rename tmpS s, fun m => m.syncNames]) ((m.remove tmpS).1.create tmpS).1 ∨
          ((m.remove tmpS).1.create tmpS).2 ≠ 0 ∧ runAll ((fun m => m.create tmpS) :: fillM (chunks b) :: [fun m => m.sync tmpS, fun m => m.rename tmpS s, fun m => m.syncNames]) (m.remove tmpS).1 = (((m.remove tmpS).1.create tmpS).1, ((m.remove tmpS).1.create tmpS).2) := by
        by_cases h2 : ((m.remove tmpS).1.create tmpS).2 = 0
        · exact .inl ⟨h2, runAll_ok h2⟩
        · exact .inr ⟨h2, runAll_no h2⟩
      generalize hres : runAll ((fun m => m.create tmpS) :: fillM (chunks b) :: [fun m => m.sync tmpS, fun m => m.rename tmpS s, fun m => m.syncNames]) (m.remove tmpS).1 = res at *
      clear hputs hres h1
      have hcl := chunks_len b
      unfold tmpS at hrg hcg he
      refine rrightPY_ok h hr ?_
      refine brF ?_
      refine rRemove_ok h (by first | omega | (dsimp only; omega) | decide) (fun bΓ2 _ bg4 h => ?_)
      have hb := hb.mono bg4
      refine rbutKnown_ok h he ?_
      refine joinI ?_
      refine brT ?_
      refine rCreate_ok h (by first | omega | (dsimp only; omega) | decide) (fun bΓ8 _ bg10 h => ?_)
      have hb := hb.mono bg10
      rw [beq_self_eq_true]
      rotate_left
      refine loop (σ := Int × Int) (fun st w' u => ∃ (j : Nat) (m' : DiskM) (e : Int) (Γ' : Mem), st = (e, ((64 * j : Nat) : Int)) ∧ j ≤ (chunks b).length ∧ u = (chunks b).length - j ∧ m'.g ≤ m.g + 3 + 64 * j ∧ bΓ8.le Γ' ∧
        (e = 0 ∧ res = runAll (fillM ((chunks b).drop j) :: [fun m => m.sync tmpS, fun m => m.rename tmpS s, fun m => m.syncNames]) m' ∨ e ≠ 0 ∧ res = (m', e)) ∧ Sat Γ' (RDisk a m' :: L) w') (chunks b).length
        ⟨0, ((m.remove [116, 109, 112]).1.create [116, 109, 112]).1, _, _, rfl, by omega, by omega, by omega, .refl _, hinv, h⟩ ?_
      clear h hinv
      rintro _ w u ⟨j, m', e, Γ3, rfl, hj, hu, hg3, g3, hinv, h⟩
      have hb3 := hb.mono g3
      rcases hinv with ⟨he0, hres⟩ | ⟨he0, hres⟩
      · subst he0
        by_cases hjl : j < (chunks b).length
        · obtain ⟨c, ec⟩ := get_lt hjl
          have hd : (chunks b).drop j = c :: (chunks b).drop (j + 1) := by
            rw [List.drop_eq_getElem_cons hjl]
            rw [List.getElem?_eq_getElem hjl] at ec
            cases ec
            rfl
          have hc2 := chunks_get b j
          have hlt : 64 * j < b.length := by
            apply Classical.byContradiction
            intro hn
            rw [if_neg hn, ec] at hc2
            cases hc2
          rw [if_pos hlt, ec] at hc2
          simp only [Option.some.injEq] at hc2
          have hsub := hb3.sub (l := 64 * j) (n := min (64 * j + 64) t.len) (by omega) (by omega)
          have e0 : (b.drop (64 * j)).take (min (64 * j + 64) t.len - 64 * j) = c := by
            rw [hc2]
            by_cases h64 : 64 * j + 64 ≤ t.len
            · rw [Nat.min_eq_left h64]; congr 1; omega
            · rw [Nat.min_eq_right (by omega), List.take_of_length_le (by rw [List.length_drop]; omega), List.take_of_length_le (by rw [List.length_drop]; omega)]
          rw [e0] at hsub
          have hcl64 := chunks_le (List.mem_of_getElem? ec)
          have hag := append_g m' tmpS c
          rw [hd] at hres
          have hinv2 : (m'.append tmpS c).2 = 0 ∧ res = runAll (fillM ((chunks b).drop (j + 1)) :: [fun m => m.sync tmpS, fun m => m.rename tmpS s, fun m => m.syncNames]) (m'.append tmpS c).1 ∨ (m'.append tmpS c).2 ≠ 0 ∧ res = ((m'.append tmpS c).1, (m'.append tmpS c).2) := by
            by_cases h2 : (m'.append tmpS c).2 = 0
            · exact .inl ⟨h2, by rw [hres, fill_step h2]⟩
            · exact .inr ⟨h2, by rw [hres, fill_stop h2]⟩
          unfold tmpS at hag
          have hb := hb.mono g3
          refine joinI ?_
          refine brD (fun eb0 => ?_) (fun eb0 => by exfalso; omega)
          dsimp only at eb0
          refine brT ?_
          refine wrN ((64 * j) + 64) ?_
          refine mnN _ _ ?_
          refine ⟨by omega, ?_⟩
          refine rAppend_ok h hsub (by first | omega | (dsimp only; omega) | decide) (fun eΓ2 _ eg4 h => ?_)
          have hb3 := hb3.mono eg4
          have hsub := hsub.mono eg4
          have hb := hb.mono eg4
          refine wrN ((64 * j) + 64) ?_
          rotate_left
          exact ⟨(chunks b).length - (j + 1), by omega, j + 1, (m'.append [116, 109, 112] c).1, (m'.append [116, 109, 112] c).2, eΓ2, by rw [show 64 * (j + 1) = 64 * j + 64 by omega], by omega, rfl, by omega, Mem.le.trans ‹bΓ8.le Γ3› ‹Γ3.le eΓ2›, hinv2, h⟩
        · have hge : (chunks b).drop j = [] := List.drop_of_length_le (by omega)
          rw [hge, fill_end] at hres
          have hsg := sync_g m' tmpS
          have hrg2 := rename_g (m'.sync tmpS).1 tmpS s
          by_cases h5 : (m'.sync tmpS).2 = 0
          · rw [runAll_ok h5] at hres
            by_cases h6 : ((m'.sync tmpS).1.rename tmpS s).2 = 0
            · rw [runAll_ok h6, runAll_one] at hres
              rw [hres] at k
              unfold tmpS at hsg hrg2 h5 h6 k
              have hb := hb.mono g3
              refine joinI ?_
              refine brD (fun fb0 => by exfalso; omega) (fun fb0 => ?_)
              dsimp only at fb0
              refine joinI ?_
              refine brT ?_
              refine rSync_ok h (by first | omega | (dsimp only; omega) | decide) (fun _ h => ?_)
              refine joinI ?_
              refine brE (fun fb4 => ?_) (fun fb4 => by exfalso; omega)
              refine rRename_ok h (by first | omega | (dsimp only; omega) | decide) (fun fΓ6 _ fg8 h => ?_)
              have hb3 := hb3.mono fg8
              have hb := hb.mono fg8
              refine joinI ?_
              refine brE (fun fb10 => ?_) (fun fb10 => by exfalso; omega)
              refine rSyncNames_ok h (by first | omega | (dsimp only; omega) | decide) (fun fΓ12 _ fg14 h => ?_)
              have hb3 := hb3.mono fg14
              have hb := hb.mono fg14
              refine ⟨_, rfl, ?_⟩
              refine k _ _ (bg4.trans (bg10.trans (g3.trans (fg8.trans fg14)))) h
            · rw [runAll_no h6] at hres
              rw [hres] at k
              unfold tmpS at hsg hrg2 h5 h6 k
              have hb := hb.mono g3
              refine joinI ?_
              refine brD (fun hb0 => by exfalso; omega) (fun hb0 => ?_)
              dsimp only at hb0
              refine joinI ?_
              refine brT ?_
              refine rSync_ok h (by first | omega | (dsimp only; omega) | decide) (fun _ h => ?_)
              refine joinI ?_
              refine brE (fun hb4 => ?_) (fun hb4 => by exfalso; omega)
              refine rRename_ok h (by first | omega | (dsimp only; omega) | decide) (fun hΓ6 _ hg8 h => ?_)
              have hb3 := hb3.mono hg8
              have hb := hb.mono hg8
              refine joinI ?_
              refine brE (fun hb10 => by exfalso; omega) (fun hb10 => ?_)
              refine ⟨_, rfl, ?_⟩
              refine k _ _ (bg4.trans (bg10.trans (g3.trans hg8))) h
          · rw [runAll_no h5] at hres
            rw [hres] at k
            unfold tmpS at hsg hrg2 h5 k
            have hb := hb.mono g3
            refine joinI ?_
            refine brD (fun ib0 => by exfalso; omega) (fun ib0 => ?_)
            dsimp only at ib0
            refine joinI ?_
            refine brT ?_
            refine rSync_ok h (by first | omega | (dsimp only; omega) | decide) (fun _ h => ?_)
            refine joinI ?_
            refine brE (fun ib4 => by exfalso; omega) (fun ib4 => ?_)
            refine joinI ?_
            refine brE (fun ib5 => by exfalso; omega) (fun ib5 => ?_)
            refine ⟨_, rfl, ?_⟩
            refine k _ _ (bg4.trans (bg10.trans g3)) h
      · rw [hres] at k
        have hb := hb.mono g3
        refine joinI ?_
        refine brD (fun gb0 => ?_) (fun gb0 => ?_)
        dsimp only at gb0
        refine brE (fun gb1 => by exfalso; omega) (fun gb1 => ?_)
        dsimp only at gb1
        refine joinI ?_
        refine brE (fun gb2 => by exfalso; omega) (fun gb2 => ?_)
        dsimp only at gb2
        refine joinI ?_
        refine brE (fun gb3 => by exfalso; omega) (fun gb3 => ?_)
        dsimp only at gb3
        refine joinI ?_
        refine brE (fun gb4 => by exfalso; omega) (fun gb4 => ?_)
        dsimp only at gb4
        refine ⟨_, rfl, ?_⟩
        refine k _ _ (bg4.trans (bg10.trans g3)) h
        dsimp only at gb0
        refine joinI ?_
        refine brE (fun gb6 => by exfalso; omega) (fun gb6 => ?_)
        dsimp only at gb6
        refine joinI ?_
        refine brE (fun gb7 => by exfalso; omega) (fun gb7 => ?_)
        dsimp only at gb7
        refine joinI ?_
        refine brE (fun gb8 => by exfalso; omega) (fun gb8 => ?_)
        dsimp only at gb8
        refine ⟨_, rfl, ?_⟩
        refine k _ _ (bg4.trans (bg10.trans g3)) h
  · rw [if_pos hr] at k
    refine rrightPN_ok h hr ?_
    refine brT ?_
    refine ⟨_, rfl, ?_⟩
    refine k _ _ (.refl _) h

theorem rGrowP_ok {a : Nat} {m : DiskM} {s : Str} {t : Sl} {b : Str} {K : Int → World → Prop} (h : Sat Γ (RDisk a m :: L) w) (hb : Bytes Γ t b) (hg : m.g + b.length + 100 < 1000000000000) (k : ∀ Γ' w', Γ.le Γ' → Sat Γ' (RDisk a (growM m s b).1 :: L) w' → K (growM m s b).2 w') :
    CallP Try.prog 147 [.pointer (some ⟨a, 0, none⟩), .string (str s), .slice t.p t.len t.cap] (.one (.s (.int .i64))) K w := by
  have hcg := create_g m s
  have hng := syncNames_g (m.create s).1
  have hag := append_g (m.create s).1.syncNames.1 s b
  have hag2 := append_g (m.create s).1 s b
  refine callP (fn := Try.f147) [.s (.ptr (some ⟨a, 0, none⟩)), .s (.str (str s)), .s (.sl t)] (.p .n (.p .n (.p .n (.j [2, 1, 0] [(7, .s (.int .i64))] .n (.p .n (.j [1, 0] [(7, .s (.int .i64))] .n (.j [] [(7, .s (.int .i64))] .n .n))))))) nong mixed (by kernel_rfl) (by kernel_rfl) rfl rfl ?_
  unfold growM at k
  by_cases hr : rightP s
  · rw [if_neg (by intro h; exact h hr)] at k
    have hgs : growSteps s b = madeM s :: [fun m => m.append s b, fun m => m.sync s] := rfl
    rw [hgs] at k
    by_cases h0 : (m.create s).2 = 0
    · have hmd : madeM s m = (m.create s).1.syncNames := by unfold madeM; rw [if_pos h0]
      by_cases h1 : ((m.create s).1.syncNames).2 = 0
      · rw [runAll_ok (by rw [hmd]; exact h1), hmd] at k
        by_cases h2 : (((m.create s).1.syncNames).1.append s b).2 = 0
        · rw [runAll_ok h2, runAll_one] at k
          have he : ((m.create s).1.syncNames).2 = 0 ∨ ((m.create s).1.syncNames).2 = 4 := .inl h1
          obtain ⟨lhb, mhb, chb⟩ := hb.lens
          refine rrightPY_ok h hr ?_
          refine brF ?_
          refine rCreate_ok h (by first | omega | (dsimp only; omega) | decide) (fun aΓ2 _ ag4 h => ?_)
          have hb := hb.mono ag4
          refine joinI ?_
          refine brE (fun ab6 => ?_) (fun ab6 => by exfalso; omega)
          refine rSyncNames_ok h (by first | omega | (dsimp only; omega) | decide) (fun aΓ8 _ ag10 h => ?_)
          have hb := hb.mono ag10
          refine rbutKnown_ok h he ?_
          refine joinI ?_
          refine brT ?_
          refine rAppend_ok h hb (by first | omega | (dsimp only; omega) | decide) (fun aΓ14 _ ag16 h => ?_)
          have hb := hb.mono ag16
          refine joinI ?_
          refine brE (fun ab18 => ?_) (fun ab18 => by exfalso; omega)
          refine rSync_ok h (by first | omega | (dsimp only; omega) | decide) (fun _ h => ?_)
          refine ⟨_, rfl, ?_⟩
          refine k _ _ (ag4.trans (ag10.trans ag16)) h
        · rw [runAll_no h2] at k
          have he : ((m.create s).1.syncNames).2 = 0 ∨ ((m.create s).1.syncNames).2 = 4 := .inl h1
          obtain ⟨lhb, mhb, chb⟩ := hb.lens
          refine rrightPY_ok h hr ?_
          refine brF ?_
          refine rCreate_ok h (by first | omega | (dsimp only; omega) | decide) (fun bΓ2 _ bg4 h => ?_)
          have hb := hb.mono bg4
          refine joinI ?_
          refine brE (fun bb6 => ?_) (fun bb6 => by exfalso; omega)
          refine rSyncNames_ok h (by first | omega | (dsimp only; omega) | decide) (fun bΓ8 _ bg10 h => ?_)
          have hb := hb.mono bg10
          refine rbutKnown_ok h he ?_
          refine joinI ?_
          refine brT ?_
          refine rAppend_ok h hb (by first | omega | (dsimp only; omega) | decide) (fun bΓ14 _ bg16 h => ?_)
          have hb := hb.mono bg16
          refine joinI ?_
          refine brE (fun bb18 => by exfalso; omega) (fun bb18 => ?_)
          refine ⟨_, rfl, ?_⟩
          refine k _ _ (bg4.trans (bg10.trans bg16)) h
      · rw [runAll_no (by rw [hmd]; exact h1), hmd] at k
        have h14 : ((m.create s).1.syncNames).2 ≠ 0 ∧ ((m.create s).1.syncNames).2 ≠ 4 := by
          refine ⟨h1, ?_⟩
          unfold DiskM.syncNames
          dsimp only
          split
          · simp
          · simp
        obtain ⟨lhb, mhb, chb⟩ := hb.lens
        refine rrightPY_ok h hr ?_
        refine brF ?_
        refine rCreate_ok h (by first | omega | (dsimp only; omega) | decide) (fun cΓ2 _ cg4 h => ?_)
        have hb := hb.mono cg4
        refine joinI ?_
        refine brE (fun cb6 => ?_) (fun cb6 => by exfalso; omega)
        refine rSyncNames_ok h (by first | omega | (dsimp only; omega) | decide) (fun cΓ8 _ cg10 h => ?_)
        have hb := hb.mono cg10
        refine rbutErr_ok h h14 ?_
        refine joinI ?_
        refine brE (fun cb13 => by exfalso; omega) (fun cb13 => ?_)
        refine joinI ?_
        refine brE (fun cb14 => by exfalso; omega) (fun cb14 => ?_)
        refine ⟨_, rfl, ?_⟩
        refine k _ _ (cg4.trans cg10) h
    · by_cases h4 : (m.create s).2 = 4
      · have hmd : madeM s m = ((m.create s).1, 0) := by unfold madeM; rw [if_neg h0, if_pos h4]
        rw [runAll_ok (by rw [hmd]), hmd] at k
        have he : (m.create s).2 = 0 ∨ (m.create s).2 = 4 := .inr h4
        by_cases h2 : ((m.create s).1.append s b).2 = 0
        · rw [runAll_ok h2, runAll_one] at k
          obtain ⟨lhb, mhb, chb⟩ := hb.lens
          refine rrightPY_ok h hr ?_
          refine brF ?_
          refine rCreate_ok h (by first | omega | (dsimp only; omega) | decide) (fun dΓ2 _ dg4 h => ?_)
          have hb := hb.mono dg4
          refine joinI ?_
          refine brE (fun db6 => by exfalso; omega) (fun db6 => ?_)
          refine rbutKnown_ok h he ?_
          refine joinI ?_
          refine brT ?_
          refine rAppend_ok h hb (by first | omega | (dsimp only; omega) | decide) (fun dΓ9 _ dg11 h => ?_)
          have hb := hb.mono dg11
          refine joinI ?_
          refine brE (fun db13 => ?_) (fun db13 => by exfalso; omega)
          refine rSync_ok h (by first | omega | (dsimp only; omega) | decide) (fun _ h => ?_)
          refine ⟨_, rfl, ?_⟩
          refine k _ _ (dg4.trans dg11) h
        · rw [runAll_no h2] at k
          obtain ⟨lhb, mhb, chb⟩ := hb.lens
          refine rrightPY_ok h hr ?_
          refine brF ?_
          refine rCreate_ok h (by first | omega | (dsimp only; omega) | decide) (fun eΓ2 _ eg4 h => ?_)
          have hb := hb.mono eg4
          refine joinI ?_
          refine brE (fun eb6 => by exfalso; omega) (fun eb6 => ?_)
          refine rbutKnown_ok h he ?_
          refine joinI ?_
          refine brT ?_
          refine rAppend_ok h hb (by first | omega | (dsimp only; omega) | decide) (fun eΓ9 _ eg11 h => ?_)
          have hb := hb.mono eg11
          refine joinI ?_
          refine brE (fun eb13 => by exfalso; omega) (fun eb13 => ?_)
          refine ⟨_, rfl, ?_⟩
          refine k _ _ (eg4.trans eg11) h
      · have hmd : madeM s m = m.create s := by unfold madeM; rw [if_neg h0, if_neg h4]
        rw [runAll_no (by rw [hmd]; exact h0), hmd] at k
        have h14 : (m.create s).2 ≠ 0 ∧ (m.create s).2 ≠ 4 := ⟨h0, h4⟩
        obtain ⟨lhb, mhb, chb⟩ := hb.lens
        refine rrightPY_ok h hr ?_
        refine brF ?_
        refine rCreate_ok h (by first | omega | (dsimp only; omega) | decide) (fun fΓ2 _ fg4 h => ?_)
        have hb := hb.mono fg4
        refine joinI ?_
        refine brE (fun fb6 => by exfalso; omega) (fun fb6 => ?_)
        refine rbutErr_ok h h14 ?_
        refine joinI ?_
        refine brE (fun fb8 => by exfalso; omega) (fun fb8 => ?_)
        refine joinI ?_
        refine brE (fun fb9 => by exfalso; omega) (fun fb9 => ?_)
        refine ⟨_, rfl, ?_⟩
        refine k _ _ fg4 h
  · rw [if_pos hr] at k
    obtain ⟨lhb, mhb, chb⟩ := hb.lens
    refine rrightPN_ok h hr ?_
    refine brT ?_
    refine ⟨_, rfl, ?_⟩
    refine k _ _ (.refl _) h

end Go.Proofs.Ytohoimokfgfceaa.K
