/-
  The tree's functions: planted, and played on.
-/
import Derived.Test.YtohoimokfgfceaaTrD
namespace Go.Proofs.Ytohoimokfgfceaa.K
open Go Go.Proofs
variable {Γ Γ' : Mem} {L L' L'' : List HP} {w w' : World} {A B : HP}
set_option maxRecDepth 100000

theorem good_hd {hs : List Hd} {lost : List Nat} (h : Good hs lost) (h0 : 0 < hs.length) : lost[0]? = some (best hs) := by rw [h.top, win_best h0]

theorem plant_ok {rows : Sl} {rs : List (Sl × Bool)} {hs : List Hd} {K : Option Addr → World → Prop} (h : Sat Γ (Own rows TH 2 (rs.flatMap hcell) :: L) w) (hh : HeadsOK Γ rs hs) (hr : rows.len = hs.length) (h0 : 0 < hs.length) (hs0 : hs.length ≤ 16)
    (k : ∀ b lst lost w', lst.len = hs.length → Good hs lost → Sat Γ (lay b rows lst rs lost ((hs.length : Int) - 1) L) w' → K (some ⟨b, 0, none⟩) w') :
    CallP Try.prog 104 [.slice rows.p rows.len rows.cap, .func (.func 105) #[] #[]] (.one (.s .ptr)) K w := by
  refine callP (fn := Try.f104) [.s (.sl rows), .s (.fn (.func 105) [] [])] (.p .n (.p .n (.p (.h [0, 1, 2, 3, 4, 5, 6, 7] []) .n))) nong mixed (by kernel_rfl) (by kernel_rfl) rfl rfl ?_
  refine make slInt h (Nat.le_refl _) (by rw [hr]; omega) fun lst w1 hl1 hl2 h1 => ?_
  have e0 : (List.replicate rows.len [Value.int .i64 0]).flatten = (List.replicate hs.length 0).map iv := by
    rw [hr]; simp [iv]
  rw [e0] at h1
  refine new h1 fun b w2 h2 => ?_
  have h2 : Sat Γ (blk b (.cells (lcells rows lst 0) TL (0, 0)) :: Own lst TI 1 ((List.replicate hs.length 0).map iv) :: Own rows TH 2 (rs.flatMap hcell) :: L) w2 := h2
  have h3 : Sat Γ (lay b rows lst rs (List.replicate hs.length 0) 0 L) w2 := (h2.pick (A := Own rows TH 2 (rs.flatMap hcell)) (by repeat (first | with_reducible exact Pick.here | apply Pick.there))).pick (by repeat (first | with_reducible exact Pick.here | apply Pick.there))
  refine held Γ [cellAt b 1 (Sc.sl.v lst)] ?_
  refine dr h3 fun w3 h4 => ?_
  refine ⟨(h4.cell (o := 1) rfl).sx (L0 := [_]) (.refl _), ?_⟩
  refine ldHc (s := .sl) lst .here ?_
  have hc := cnt_root hs.length (by omega) h0
  refine play_ok hh hr (by omega) hs0 5 1 (by omega) (by omega) (by omega) (by simp; omega) h4 (by simp) (by omega) (by rw [hc]; omega) fun lost w5 a1 a2 a3 h5 => ?_
  refine ⟨(h5.cell (o := 1) rfl).sx (L0 := [_]) (.refl _), ?_⟩
  refine ⟨⟨by omega, by omega⟩, ?_⟩
  refine nnOwn h5 (s := lst) (T := TI) (sz := 1) (cells := lost.map iv) (by repeat (first | with_reducible exact Pick.here | apply Pick.there)) (by omega) fun a ha _ => ?_
  refine stOwn h5 (s := lst) (T := TI) (sz := 1) (cells := lost.map iv) (by repeat (first | with_reducible exact Pick.here | apply Pick.there)) ha (by show 0 * 1 < _; simp; omega) rfl fun w6 h6 => ?_
  have h6 : Sat Γ (Own lst TI 1 ((lost.map iv).set (0 * 1) (iv (win hs hs.length 1))) :: blk b (.cells (lcells rows lst (0 + (cnt 5 hs.length 1 : Int))) TL (0, 0)) :: Own rows TH 2 (rs.flatMap hcell) :: L) w6 := h6
  rw [map_iv_set, hc] at h6
  have h7 : Sat Γ (lay b rows lst rs (lost.set 0 (win hs hs.length 1)) (0 + ((hs.length - 1 : Nat) : Int)) L) w6 := (h6.pick (A := Own rows TH 2 (rs.flatMap hcell)) (by repeat (first | with_reducible exact Pick.here | apply Pick.there))).pick (by repeat (first | with_reducible exact Pick.here | apply Pick.there))
  rw [show (0 : Int) + ((hs.length - 1 : Nat) : Int) = (hs.length : Int) - 1 by omega] at h7
  refine ⟨(h7.cell (o := 1) rfl).sx (L0 := [_]) (.refl _), ?_⟩
  refine ⟨_, rfl, k b lst _ w6 (by omega) ⟨by simp [a1], ?_, fun m m0 m1 => ?_⟩ h7⟩
  · rw [List.getElem?_set_self (by omega)]
  · rw [List.getElem?_set_ne (by omega)]
    exact a2 m m0 m1 (below_one m0)

theorem least_ok {b : Nat} {rows lst : Sl} {rs : List (Sl × Bool)} {hs : List Hd} {lost : List Nat} {g : Int} {K : Int → World → Prop} (h : Sat Γ (lay b rows lst rs lost g L) w) (hl : lst.len = hs.length) (h0 : 0 < hs.length) (hg : Good hs lost)
    (k : K (best hs : Int) w) : CallP Try.prog 106 [.pointer (some ⟨b, 0, none⟩)] (.one (.s (.int .i64))) K w := by
  refine callP (fn := Try.f106) [.s (.addr ⟨b, 0, none⟩)] .n nong mixed (by kernel_rfl) (by kernel_rfl) rfl rfl ?_
  refine ld lst h (by repeat (first | with_reducible exact Pick.here | apply Pick.there)) ?_
  refine ⟨⟨by omega, by omega⟩, ?_⟩
  refine nnOwn h (s := lst) (T := TI) (sz := 1) (cells := lost.map iv) (by repeat (first | with_reducible exact Pick.here | apply Pick.there)) (by omega) fun a ha hrd => ?_
  refine ldAt (best hs : Int) (hrd _ _ _ (rd_int (i := 0) (good_hd hg h0))) ?_
  exact ⟨_, rfl, k⟩

theorem flat_set {rs : List (Sl × Bool)} {i : Nat} {s : Sl} {b : Bool} (hi : i < rs.length) : setL (rs.flatMap hcell) (i * 2) [.slice s.p s.len s.cap, .bool b] = (rs.set i (s, b)).flatMap hcell :=
  flatMap_set hcell_len rs i (s, b) hi

theorem hd_set_ne {hs : List Hd} {i j : Nat} {x : Hd} (h : j ≠ i) : hd (hs.set i x) j = hd hs j := by
  unfold hd
  rw [List.getD_eq_getElem?_getD, List.getD_eq_getElem?_getD, List.getElem?_set_ne (Ne.symm h)]

theorem steps_mono : ∀ d c : Nat, c ≤ d → steps c ≤ steps d := by
  intro d
  induction d using Nat.strongRecOn with
  | ind d ih =>
    intro c h
    rw [steps, steps.eq_def d]
    by_cases hd : d ≤ 1
    · rw [if_pos hd, if_pos (by omega)]; exact Nat.le_refl _
    · rw [if_neg hd]
      by_cases hc : c ≤ 1
      · rw [if_pos hc]; omega
      · rw [if_neg hc]
        have := ih (d / 2) (by omega) (c / 2) (by omega)
        omega

theorem next_ok {b : Nat} {rows lst : Sl} {rs : List (Sl × Bool)} {hs : List Hd} {lost : List Nat} {g : Int} {s : Sl} {x : Hd} {K : PUnit → World → Prop} (h : Sat Γ (lay b rows lst rs lost g L) w) (hh : HeadsOK Γ rs hs) (hr : rows.len = hs.length)
    (hl : lst.len = hs.length) (h0 : 0 < hs.length) (hs0 : hs.length ≤ 16) (hg : Good hs lost) (hg0 : 0 ≤ g) (hg1 : g < 1000000000) (hx : Bytes Γ s x.1) (hxl : x.1.length ≤ 70368744177664)
    (k : ∀ lost' w', HeadsOK Γ (rs.set (best hs) (s, x.2)) (hs.set (best hs) x) → Good (hs.set (best hs) x) lost' → Sat Γ (lay b rows lst (rs.set (best hs) (s, x.2)) lost' (g + (steps (hs.length + best hs) : Int)) L) w' → K ⟨⟩ w') :
    CallP Try.prog 108 [.pointer (some ⟨b, 0, none⟩), .agg #[.slice s.p s.len s.cap, .bool x.2]] (.tup []) K w := by
  have hb := best_lt h0
  have hrl := hh.len
  refine callP (fn := Try.f108) [.s (.addr ⟨b, 0, none⟩), .agg [.sl s, .bool x.2]] (.p .n (.p .n (.p .s (.p (.p .n (.b (.l [0] [(4, .s (.int .i64)), (5, .s (.int .i64))] (.p .n (.p (.k [5, 0] [(4, .s (.int .i64))] (.p .n (.p .s .n))) .n))))) .n)))) nong mixed (by kernel_rfl) (by kernel_rfl) rfl rfl ?_
  refine new h fun r0 w1 h1 => ?_
  have h1 : Sat Γ (blk r0 (.cells #[.slice s.p s.len s.cap, .bool x.2] TH (0, 0)) :: lay b rows lst rs lost g L) w1 := h1
  refine least_ok (L := blk r0 (.cells #[.slice s.p s.len s.cap, .bool x.2] TH (0, 0)) :: L) (((h1.pick (A := Own lst TI 1 (lost.map iv)) (by repeat (first | with_reducible exact Pick.here | apply Pick.there))).pick (A := Own rows TH 2 (rs.flatMap hcell)) (by repeat (first | with_reducible exact Pick.here | apply Pick.there))).pick (by repeat (first | with_reducible exact Pick.here | apply Pick.there))) hl h0 hg ?_
  refine dr h1 fun w2 h2 => ?_
  refine ld rows h2 (by repeat (first | with_reducible exact Pick.here | apply Pick.there)) ?_
  refine ld (s, x.2) h2 (by repeat (first | with_reducible exact Pick.here | apply Pick.there)) ?_ (hc := rd2 s x.2)
  refine ⟨⟨by omega, by omega⟩, ?_⟩
  refine nnOwn h2 (s := rows) (T := TH) (sz := 2) (cells := rs.flatMap hcell) (by repeat (first | with_reducible exact Pick.here | apply Pick.there)) (by omega) fun a ha _ => ?_
  refine stNOwn h2 (s := rows) (T := TH) (sz := 2) (cells := rs.flatMap hcell) (vs := [.slice s.p s.len s.cap, .bool x.2]) (by repeat (first | with_reducible exact Pick.here | apply Pick.there)) ha (by show best hs * 2 + 2 ≤ _; rw [flatMap_length hcell_len]; omega) (by omega) (by intro v hv; simp at hv; rcases hv with rfl | rfl <;> rfl) fun w3 h3 => ?_
  have h3 : Sat Γ (Own rows TH 2 (setL (rs.flatMap hcell) (best hs * 2) [.slice s.p s.len s.cap, .bool x.2]) :: blk r0 (.cells #[.slice s.p s.len s.cap, .bool x.2] TH (0, 0)) :: blk b (.cells (lcells rows lst g) TL (0, 0)) :: Own lst TI 1 (lost.map iv) :: L) w3 := h3
  rw [flat_set (by omega)] at h3
  have h4 : Sat Γ (lay b rows lst (rs.set (best hs) (s, x.2)) lost g L) w3 := by
    have := (h3.pick (A := blk r0 _) (by repeat (first | with_reducible exact Pick.here | apply Pick.there))).drop
    exact this.pick (by repeat (first | with_reducible exact Pick.here | apply Pick.there))
  have hh' : HeadsOK Γ (rs.set (best hs) (s, x.2)) (hs.set (best hs) x) := hh.set hx hxl
  have hlen' : (hs.set (best hs) x).length = hs.length := by simp
  refine ld rows h4 (by repeat (first | with_reducible exact Pick.here | apply Pick.there)) ?_
  have he : ∀ r, r ≠ best hs → hd (hs.set (best hs) x) r = hd hs r := fun r hr => hd_set_ne hr
  refine wrN (hs.length + best hs) ?_
  refine ⟨by omega, ?_⟩
  refine tdvN (hs.length + best hs) 2 ?_
  refine loop (σ := Int × Int) (fun st w' m => ∃ cur l, Mid hs (hs.set (best hs) x) hs.length (best hs) m cur l ∧ st = ((cur : Int), ((m / 2 : Nat) : Int)) ∧ m ≤ hs.length + best hs ∧ cur < hs.length ∧
    Sat Γ (lay b rows lst (rs.set (best hs) (s, x.2)) l (g + (steps (hs.length + best hs) : Int) - (steps m : Int)) L) w') (hs.length + best hs) ?_ ?_
  · refine ⟨best hs, lost, Mid.start hg he hb, ?_, Nat.le_refl _, hb, ?_⟩
    · rfl
    · rw [show g + (steps (hs.length + best hs) : Int) - (steps (hs.length + best hs) : Int) = g by omega]
      exact h4
  · rintro _ w4 c ⟨cur, l, hmid, rfl, hcb, hcur, h5⟩
    have hll := hmid.len
    refine br (fun hc => ?_) (fun hc => ?_)
    · have hc1 : 1 < c := by have : ((c / 2 : Nat) : Int) ≥ 1 := of_decide_eq_true hc; omega
      obtain ⟨y, hy, hyk, hyes, hno⟩ := hmid.step (by rw [← win_best h0]) hb he hc1
      have hst : steps c = steps (c / 2) + 1 := by rw [steps, if_neg (by omega)]
      have hs5 : steps (hs.length + best hs) ≤ 4 := steps_small (by omega)
      have hs6 : steps c ≤ 4 := steps_small (by omega)
      have hc2 := hmid.on.le
      have hsm : steps c ≤ steps (hs.length + best hs) := steps_mono _ _ (by omega)
      refine join (σ := Int) (fun v w' => ∃ cur' l', Mid hs (hs.set (best hs) x) hs.length (best hs) (c / 2) cur' l' ∧ v = (cur' : Int) ∧ cur' < hs.length ∧
        Sat Γ (lay b rows lst (rs.set (best hs) (s, x.2)) l' (g + (steps (hs.length + best hs) : Int) - (steps (c / 2) : Int)) L) w') ?_ ?_
      · refine ld lst h5 (by repeat (first | with_reducible exact Pick.here | apply Pick.there)) ?_
        refine ⟨⟨by omega, by omega⟩, ?_⟩
        refine nnOwn h5 (s := lst) (T := TI) (sz := 1) (cells := l.map iv) (by repeat (first | with_reducible exact Pick.here | apply Pick.there)) (by omega) fun a ha hrd => ?_
        refine ldAt (y : Int) (hrd _ _ _ (rd_int hy)) ?_
        refine beats_ok (L := Own lst TI 1 (l.map iv) :: L) h5 hh' (by omega) (by omega) (by omega) (by omega) (by omega) fun w5 h6 => ?_
        have e3 : g + (steps (hs.length + best hs) : Int) - (steps c : Int) + 1 = g + (steps (hs.length + best hs) : Int) - (steps (c / 2) : Int) := by omega
        rw [e3] at h6
        refine br (fun hbt => ?_) (fun hbf => ?_)
        · refine dr h6 fun w6 h7 => ?_
          refine ld lst h7 (by repeat (first | with_reducible exact Pick.here | apply Pick.there)) ?_
          refine ld lst h7 (by repeat (first | with_reducible exact Pick.here | apply Pick.there)) ?_
          refine ⟨⟨by omega, by omega⟩, ?_⟩
          refine nnOwn h7 (s := lst) (T := TI) (sz := 1) (cells := l.map iv) (by repeat (first | with_reducible exact Pick.here | apply Pick.there)) (by omega) fun a ha hrd => ?_
          refine ldAt (y : Int) (hrd _ _ _ (rd_int hy)) ?_
          refine ⟨⟨by omega, by omega⟩, ?_⟩
          refine ⟨a, ha, ?_⟩
          refine stOwn h7 (s := lst) (T := TI) (sz := 1) (cells := l.map iv) (by repeat (first | with_reducible exact Pick.here | apply Pick.there)) ha (by show c / 2 * 1 < _; simp; omega) rfl fun w7 h8 => ?_
          have h8 : Sat Γ (Own lst TI 1 ((l.map iv).set (c / 2 * 1) (iv cur)) :: blk b (.cells (lcells rows lst (g + (steps (hs.length + best hs) : Int) - (steps (c / 2) : Int))) TL (0, 0)) :: Own rows TH 2 ((rs.set (best hs) (s, x.2)).flatMap hcell) :: L) w7 := h8
          rw [map_iv_set] at h8
          exact ⟨y, _, hyes hbt, rfl, hyk, (h8.pick (A := Own rows TH 2 _) (by repeat (first | with_reducible exact Pick.here | apply Pick.there))).pick (by repeat (first | with_reducible exact Pick.here | apply Pick.there))⟩
        · exact ⟨cur, l, hno hbf, rfl, hcur, h6⟩
      · rintro _ w5 ⟨cur', l', hm', rfl, hcur', h6⟩
        refine ⟨by omega, ?_⟩
        refine tdvN (c / 2) 2 ?_
        exact ⟨c / 2, by omega, cur', l', hm', rfl, by omega, hcur', h6⟩
    · have hc1 : c = 1 := by have : ¬ ((c / 2 : Nat) : Int) ≥ 1 := of_decide_eq_false hc; have := hmid.pos; omega
      subst hc1
      refine ld lst h5 (by repeat (first | with_reducible exact Pick.here | apply Pick.there)) ?_
      refine ⟨⟨by omega, by omega⟩, ?_⟩
      refine nnOwn h5 (s := lst) (T := TI) (sz := 1) (cells := l.map iv) (by repeat (first | with_reducible exact Pick.here | apply Pick.there)) (by omega) fun a ha hrd => ?_
      refine stOwn h5 (s := lst) (T := TI) (sz := 1) (cells := l.map iv) (by repeat (first | with_reducible exact Pick.here | apply Pick.there)) ha (by show 0 * 1 < _; simp; omega) rfl fun w7 h8 => ?_
      have h8 : Sat Γ (Own lst TI 1 ((l.map iv).set (0 * 1) (iv cur)) :: blk b (.cells (lcells rows lst (g + (steps (hs.length + best hs) : Int) - (steps 1 : Int))) TL (0, 0)) :: Own rows TH 2 ((rs.set (best hs) (s, x.2)).flatMap hcell) :: L) w7 := h8
      have e1 : steps 1 = 0 := by rw [steps]; rfl
      rw [map_iv_set, e1, show g + (steps (hs.length + best hs) : Int) - ((0 : Nat) : Int) = g + (steps (hs.length + best hs) : Int) by omega] at h8
      refine ⟨⟨⟩, rfl, k _ w7 hh' ?_ ((h8.pick (A := Own rows TH 2 _) (by repeat (first | with_reducible exact Pick.here | apply Pick.there))).pick (by repeat (first | with_reducible exact Pick.here | apply Pick.there)))⟩
      have hm2 : Mid hs (hs.set (best hs) x) (hs.set (best hs) x).length (best hs) 1 cur l := by rw [hlen']; exact hmid
      exact hm2.done (by omega)

end Go.Proofs.Ytohoimokfgfceaa.K
