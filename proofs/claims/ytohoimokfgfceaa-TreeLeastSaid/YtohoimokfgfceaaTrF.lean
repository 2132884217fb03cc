/-
  The tree's doors: New, Least, Next, Games.
-/
import Derived.Test.YtohoimokfgfceaaTrE
import Derived.Test.YtohoimokfgfceaaEngN
namespace Go.Proofs.Ytohoimokfgfceaa.K
open Go Go.Proofs
variable {Γ Γ' : Mem} {L L' L'' : List HP} {w w' : World} {A B : HP}
set_option maxRecDepth 100000

/-- a frozen slice of heads -/
def HeadsS (Γ : Mem) (s : Sl) (hs : List Hd) : Prop := ∃ rs, Fz Γ s 2 (rs.flatMap hcell) ∧ HeadsOK Γ rs hs

theorem HeadsS.mono {s : Sl} {hs : List Hd} (h : HeadsS Γ s hs) (hl : Γ.le Γ') : HeadsS Γ' s hs := let ⟨rs, h1, h2⟩ := h; ⟨rs, h1.mono hl, h2.mono hl⟩

theorem HeadsS.len {s : Sl} {hs : List Hd} (h : HeadsS Γ s hs) : s.len = hs.length := by
  obtain ⟨rs, h1, h2⟩ := h
  have := h1.len
  rw [flatMap_length hcell_len, h2.len] at this
  omega

theorem hcell_one (rs : List (Sl × Bool)) : ∀ v ∈ rs.flatMap hcell, One v := by
  intro v hv
  obtain ⟨r, _, h⟩ := List.mem_flatMap.1 hv
  simp [hcell] at h
  rcases h with rfl | rfl <;> rfl

theorem cloneHeads_ok {s : Sl} {rs : List (Sl × Bool)} {K : Sl → World → Prop} (h : Sat Γ L w) (hf : Fz Γ s 2 (rs.flatMap hcell)) (hn : 0 < rs.length) (hb : rs.length ≤ 1000000)
    (k : ∀ s' w', s'.len = rs.length → Sat Γ (Own s' TH 2 (rs.flatMap hcell) :: L) w' → K s' w') :
    CallP Try.prog 102 [.slice s.p s.len s.cap] (.one (.s .sl)) K w := by
  have hl : s.len = rs.length := by have := hf.len; rw [flatMap_length hcell_len] at this; omega
  refine callP (fn := Try.f102) [.s (.sl s)] .n nong mixed (by kernel_rfl) (by kernel_rfl) rfl rfl ?_
  refine br (fun hb0 => ?_) (fun hb0 => ?_)
  · have hp : s.p = none := by simpa using hb0
    obtain ⟨a, h1, _⟩ := hf.place (L := L) (by omega)
    rw [hp] at h1; cases h1
  · refine new h fun r1 w1 h1 => ?_
    have h2 := Sat.whole (n := 0) (sz := 2) h1 rfl
    refine append slHead slHead.self h2 .here (hf.src h2) hf.len (hcell_one rs) (by simp; omega) fun s2 w3 hl3 h3 => ?_
    exact ⟨_, rfl, k _ _ (by rw [hl3]; simp; omega) h3⟩

/-- where a tree lies -/
def TreeAt (Γ : Mem) (tb b : Nat) : Prop := Γ tb = some (.cells #[.pointer (some ⟨b, 0, none⟩)] 147 (0, 0))
theorem TreeAt.mono {tb b : Nat} (h : TreeAt Γ tb b) (hl : Γ.le Γ') : TreeAt Γ' tb b := hl _ _ h

/-- a tree of heads, and how many games were played -/
def TreeP (b : Nat) (hs : List Hd) (g : Int) : HP := ⟨fun Γ m => ∃ rows lst rs lost, HeadsOK Γ rs hs ∧ rows.len = hs.length ∧ lst.len = hs.length ∧ Good hs lost ∧ (HP.all (lay b rows lst rs lost g [])).p Γ m,
  by
  rintro Γ Γ' m hl ⟨rows, lst, rs, lost, h1, h2, h3, h4, h5⟩
  exact ⟨rows, lst, rs, lost, h1.mono hl, h2, h3, h4, (HP.all _).mono _ _ _ hl h5⟩⟩

theorem Sat.treeP {b : Nat} {hs : List Hd} {g : Int} (h : Sat Γ (TreeP b hs g :: L) w) : ∃ rows lst rs lost, HeadsOK Γ rs hs ∧ rows.len = hs.length ∧ lst.len = hs.length ∧ Good hs lost ∧ Sat Γ (lay b rows lst rs lost g L) w := by
  obtain ⟨m, ⟨m1, m2, ha, he, ⟨rows, lst, rs, lost, h1, h2, h3, h4, h5⟩, hL⟩, hm, hw⟩ := h
  have : Sat Γ (HP.all (lay b rows lst rs lost g []) :: L) w := ⟨m, ⟨m1, m2, ha, he, h5, hL⟩, hm, hw⟩
  exact ⟨rows, lst, rs, lost, h1, h2, h3, h4, Sat.all.1 this⟩

theorem Sat.toTreeP {b : Nat} {g : Int} {hs : List Hd} {rows lst : Sl} {rs : List (Sl × Bool)} {lost : List Nat} (h : Sat Γ (lay b rows lst rs lost g L) w) (h1 : HeadsOK Γ rs hs) (h2 : rows.len = hs.length) (h3 : lst.len = hs.length) (h4 : Good hs lost) :
    Sat Γ (TreeP b hs g :: L) w := by
  have h5 : Sat Γ (HP.all (lay b rows lst rs lost g []) :: L) w := Sat.all.2 h
  obtain ⟨m, ⟨m1, m2, ha, he, h6, hL⟩, hm, hw⟩ := h5
  exact ⟨m, ⟨m1, m2, ha, he, ⟨rows, lst, rs, lost, h1, h2, h3, h4, h6⟩, hL⟩, hm, hw⟩

theorem new_ok {s : Sl} {hs : List Hd} {K : (Option Addr × Int) → World → Prop} (h : Sat Γ L w) (hh : HeadsS Γ s hs) (hb : hs.length ≤ 1000000)
    (k0 : (hs.length < 1 ∨ 16 < hs.length) → K (none, 1) w) (k : 1 ≤ hs.length → hs.length ≤ 16 → ∀ tb b Γ' w', Γ.le Γ' → TreeAt Γ' tb b → Sat Γ' (TreeP b hs ((hs.length : Int) - 1) :: L) w' → K (some ⟨tb, 0, none⟩, 0) w') :
    CallP Try.prog 32 [.slice s.p s.len s.cap] (.tup [.s .ptr, .s (.int .i64)]) K w := by
  have hl := hh.len
  refine callP (fn := Try.f32) [.s (.sl s)] (.p .n (.j [0] [] .n (.p .n (.p (.p .n (.b (.l [18, 17, 4] [(19, .s (.int .i64))] .n))) .n)))) nong mixed (by kernel_rfl) (by kernel_rfl) rfl rfl ?_
  refine join (σ := PUnit) (fun _ w' => 1 ≤ hs.length ∧ hs.length ≤ 16 ∧ Sat Γ L w') ?_ ?_
  · refine br (fun hb1 => ?_) (fun hb1 => ?_)
    · have := of_decide_eq_true hb1
      exact ⟨(none, 1), rfl, k0 (by omega)⟩
    · have h1 := of_decide_eq_false hb1
      refine br (fun hb2 => ?_) (fun hb2 => ?_)
      · have := of_decide_eq_true hb2
        exact ⟨(none, 1), rfl, k0 (by omega)⟩
      · have := of_decide_eq_false hb2
        exact ⟨by omega, by omega, h⟩
  · rintro _ w3 ⟨hn, hn2, h3⟩
    obtain ⟨rs, hf, hok⟩ := hh
    have hrl := hok.len
    refine cloneHeads_ok h3 hf (by omega) (by omega) fun s4 w5 hl4 h5 => ?_
    refine loop (σ := Int) (fun i w' n => ∃ Γ' rs', Γ.le Γ' ∧ HeadsOK Γ' rs' hs ∧ 0 ≤ i ∧ i ≤ hs.length ∧ (n : Int) = hs.length - i ∧ Sat Γ' (Own s4 TH 2 (rs'.flatMap hcell) :: L) w') hs.length ⟨Γ, rs, .refl Γ, hok, by omega, by omega, by omega, h5⟩ ?_
    rintro n7 w8 m8 ⟨Γ8, rs8, hle, hok8, hi0, hi1, hm8, h8⟩
    have hrl8 := hok8.len
    refine br (fun hb9 => ?_) (fun hb9 => ?_)
    · have h9 := of_decide_eq_true hb9
      obtain ⟨i, rfl⟩ := Int.eq_ofNat_of_zero_le hi0
      have hi : i < hs.length := by omega
      obtain ⟨s11, e11, b11, l11⟩ := hok8.get hi
      refine ⟨⟨by omega, by omega⟩, ?_⟩
      refine nnOwn h8 (s := s4) (T := TH) (sz := 2) (cells := rs8.flatMap hcell) .here (by omega) fun a ha hrd => ?_
      refine ldAt (s11, (hd hs i).2) (hrd _ _ _ (rd_head e11)) ?_
      refine new h8 fun r13 w13 h13 => ?_
      refine stNs h13 (by repeat (first | with_reducible exact Pick.here | apply Pick.there)) fun w14 h14 => ?_
      have h14 : Sat Γ8 (blk r13 (.cells #[.slice s11.p s11.len s11.cap, .bool (hd hs i).2] TH (0, 0)) :: Own s4 TH 2 (rs8.flatMap hcell) :: L) w14 := h14
      refine ld s11 h14 (by repeat (first | with_reducible exact Pick.here | apply Pick.there)) ?_
      refine clone_ok h14.drop b11 l11 fun s15 Γ16 w16 hle16 b16 h16 => ?_
      refine ⟨⟨by omega, by omega⟩, ?_⟩
      refine ⟨a, ha, ?_⟩
      refine stOwn2 h16 (s := s4) (T := TH) (sz := 2) (cells := rs8.flatMap hcell) .here ha (by show i * 2 + 0 < _; rw [flatMap_length hcell_len]; omega) rfl fun w18 h18 => ?_
      have h18 : Sat Γ16 (Own s4 TH 2 ((rs8.flatMap hcell).set (i * 2 + 0) (.slice s15.p s15.len s15.cap)) :: L) w18 := h18
      have e1 : (rs8.flatMap hcell).set (i * 2 + 0) (.slice s15.p s15.len s15.cap) = (rs8.set i (s15, (hd hs i).2)).flatMap hcell := by
        rw [← flatMap_set hcell_len rs8 i (s15, (hd hs i).2) (by omega)]
        apply List.ext_getElem?
        intro j
        show _ = (((rs8.flatMap hcell).set (i * 2) (.slice s15.p s15.len s15.cap)).set (i * 2 + 1) (.bool (hd hs i).2))[j]?
        rw [Nat.add_zero]
        by_cases hj : i * 2 + 1 = j
        · subst hj
          rw [List.getElem?_set_self (by simp [flatMap_length hcell_len]; omega), List.getElem?_set_ne (by omega), flatMap_get hcell_len rs8 i 1 _ e11 (by omega)]
          rfl
        · rw [List.getElem?_set_ne hj]
      rw [e1] at h18
      refine wr ?_
      refine ⟨m8 - 1, by omega, Γ16, rs8.set i (s15, (hd hs i).2), hle.trans hle16, ?_, ?_⟩
      · have hx : hs.set i (hd hs i) = hs := by
          apply List.ext_getElem?
          intro j
          by_cases hj : i = j
          · subst hj
            rw [List.getElem?_set_self hi]
            unfold hd
            rw [List.getD_eq_getElem?_getD, List.getElem?_eq_getElem hi]
            rfl
          · rw [List.getElem?_set_ne hj]
        have := (hok8.mono hle16).set (i := i) (s := s15) (x := hd hs i) b16 l11
        rw [hx] at this
        exact this
      · exact ⟨by omega, by omega, by omega, h18⟩
    · refine plant_ok h8 hok8 (by omega) (by omega) hn2 fun b lst lost w20 hll hg h20 => ?_
      refine new h20 fun r21 w21 h21 => ?_
      have h22 := Sat.freeze h21
      obtain ⟨Γ9, g1, g2, g3⟩ := h22
      exact ⟨(some ⟨r21, 0, none⟩, 0), rfl, k hn hn2 r21 b Γ9 w21 (hle.trans g1) g2 (g3.toTreeP (hok8.mono g1) (by omega) (by omega) hg)⟩

/-- what Least tells -/
theorem Least_ok {tb b : Nat} {hs : List Hd} {g : Int} {K : (Int × Sl × Bool) → World → Prop} (h : Sat Γ (TreeP b hs g :: L) w) (ht : TreeAt Γ tb b) (h0 : 0 < hs.length) (h16 : hs.length ≤ 16)
    (k0 : ∀ w', (hd hs (best hs)).2 = false → Sat Γ (TreeP b hs g :: L) w' → K (0, ⟨none, 0, 0⟩, false) w')
    (k : ∀ s Γ' w', (hd hs (best hs)).2 = true → Γ.le Γ' → Bytes Γ' s (hd hs (best hs)).1 → Sat Γ' (TreeP b hs g :: L) w' → K ((best hs : Int), s, true) w') :
    CallP Try.prog 36 [.pointer (some ⟨tb, 0, none⟩)] (.tup [.s (.int .i64), .s .sl, .s .bool]) K w := by
  obtain ⟨rows, lst, rs, lost, hok, hr, hl, hg, h1⟩ := h.treeP
  refine callP (fn := Try.f36) [.s (.ptr (some ⟨tb, 0, none⟩))] .n nong mixed (by kernel_rfl) (by kernel_rfl) rfl rfl ?_
  refine br (fun hb0 => by cases hb0) (fun hb0 => ?_)
  refine ⟨_, rfl, ?_⟩
  refine ldF (some ⟨b, 0, none⟩) h1 ht ?_
  refine least_ok h1 hl h0 hg ?_
  refine ⟨_, rfl, ?_⟩
  refine ldF (some ⟨b, 0, none⟩) h1 ht ?_
  refine ⟨_, rfl, ?_⟩
  refine ld rows h1 (by repeat (first | with_reducible exact Pick.here | apply Pick.there)) ?_
  have hb := best_lt h0
  refine ⟨⟨by omega, by omega⟩, ?_⟩
  obtain ⟨s10, e10, b10, l10⟩ := hok.get hb
  refine nnOwn h1 (s := rows) (T := TH) (sz := 2) (cells := rs.flatMap hcell) (by repeat (first | with_reducible exact Pick.here | apply Pick.there)) (by omega) fun a ha hrd => ?_
  refine ldAt (s10, (hd hs (best hs)).2) (hrd _ _ _ (rd_head e10)) ?_
  refine new h1 fun r12 w12 h12 => ?_
  refine stNs h12 (by repeat (first | with_reducible exact Pick.here | apply Pick.there)) fun w13 h13 => ?_
  have h13 : Sat Γ (blk r12 (.cells #[.slice s10.p s10.len s10.cap, .bool (hd hs (best hs)).2] TH (0, 0)) :: lay b rows lst rs lost g L) w13 := h13
  refine ld (hd hs (best hs)).2 h13 (by repeat (first | with_reducible exact Pick.here | apply Pick.there)) ?_
  refine br (fun hb14 => ?_) (fun hb14 => ?_)
  · exact ⟨(0, ⟨none, 0, 0⟩, false), rfl, k0 _ (by simpa using hb14) (h13.drop.toTreeP hok hr hl hg)⟩
  · refine ld s10 h13 (by repeat (first | with_reducible exact Pick.here | apply Pick.there)) ?_
    refine clone_ok h13 b10 l10 fun s15 Γ16 w16 hle b16 h16' => ?_
    exact ⟨((best hs : Int), s15, true), rfl, k _ _ _ (by simpa using hb14) hle b16 (h16'.drop.toTreeP (hok.mono hle) hr hl hg)⟩

theorem Games_ok {tb b : Nat} {hs : List Hd} {g : Int} {K : Int → World → Prop} (h : Sat Γ (TreeP b hs g :: L) w) (ht : TreeAt Γ tb b) (k : K g w) :
    CallP Try.prog 38 [.pointer (some ⟨tb, 0, none⟩)] (.one (.s (.int .i64))) K w := by
  obtain ⟨rows, lst, rs, lost, hok, hr, hl, hg, h1⟩ := h.treeP
  refine callP (fn := Try.f38) [.s (.ptr (some ⟨tb, 0, none⟩))] .n nong mixed (by kernel_rfl) (by kernel_rfl) rfl rfl ?_
  refine br (fun hb0 => by cases hb0) (fun hb0 => ?_)
  refine ⟨_, rfl, ?_⟩
  refine ldF (some ⟨b, 0, none⟩) h1 ht ?_
  refine ⟨_, rfl, ?_⟩
  refine ld g h1 (by repeat (first | with_reducible exact Pick.here | apply Pick.there)) ?_
  exact ⟨g, rfl, k⟩

theorem Next_ok {tb b : Nat} {hs : List Hd} {g : Int} {s : Sl} {x : Hd} {K : Int → World → Prop} (h : Sat Γ (TreeP b hs g :: L) w) (ht : TreeAt Γ tb b) (h0 : 0 < hs.length) (h16 : hs.length ≤ 16) (hg0 : 0 ≤ g) (hg1 : g < 1000000000)
    (hx : Bytes Γ s x.1) (hxl : x.1.length ≤ 70368744177664)
    (k0 : ∀ w', (hd hs (best hs)).2 = false → Sat Γ (TreeP b hs g :: L) w' → K 2 w')
    (k : ∀ Γ' w', (hd hs (best hs)).2 = true → Γ.le Γ' → Sat Γ' (TreeP b (hs.set (best hs) x) (g + (steps (hs.length + best hs) : Int)) :: L) w' → K 0 w') :
    CallP Try.prog 39 [.pointer (some ⟨tb, 0, none⟩), .agg #[.slice s.p s.len s.cap, .bool x.2]] (.one (.s (.int .i64))) K w := by
  refine callP (fn := Try.f39) [.s (.ptr (some ⟨tb, 0, none⟩)), .agg [.sl s, .bool x.2]] (.p .n (.p .n (.p (.h [0, 1, 2, 3, 4, 5, 7, 8, 6, 9, 10] []) .n))) nong mixed (by kernel_rfl) (by kernel_rfl) rfl rfl ?_
  refine new h fun r0 w0 h0' => ?_
  have h1 : Sat Γ (TreeP b hs g :: blk r0 (.cells #[.slice s.p s.len s.cap, .bool x.2] TH (0, 0)) :: L) w0 := Sat.pick (by repeat (first | with_reducible exact Pick.here | apply Pick.there)) h0'
  refine Least_ok h1 ht h0 h16 (fun w4 hb h4 => ?_) (fun s4 Γ4 w4 hb hle b4 h4 => ?_)
  · refine br (fun hb5 => ?_) (fun hb5 => by cases hb5)
    exact ⟨2, rfl, k0 _ hb (h4.pick (A := blk r0 _) (by repeat (first | with_reducible exact Pick.here | apply Pick.there))).drop⟩
  · refine br (fun hb5 => by cases hb5) (fun hb5 => ?_)
    refine held Γ4 [blk r0 (.cells #[.slice s.p s.len s.cap, .bool x.2] TH (0, 0))] ?_
    refine dr h4 fun w6 h6 => ?_
    have h7 := h6.pick (A := blk r0 _) (by repeat (first | with_reducible exact Pick.here | apply Pick.there))
    refine ⟨h7.sx (L0 := [_]) (.refl _), ?_⟩
    refine ⟨_, rfl, ?_⟩
    refine ldFH (some ⟨b, 0, none⟩) (hle _ _ ht) ?_
    refine ldH s (by repeat (first | with_reducible exact Pick.here | apply Pick.there)) ?_
    refine ldH x.2 (by repeat (first | with_reducible exact Pick.here | apply Pick.there)) ?_
    refine clone_ok h7 (hx.mono hle) hxl fun s9 Γ10 w10 hle10 b10 h10 => ?_
    refine ⟨h10.sx (L0 := [_]) hle10, ?_⟩
    have h10' : Sat Γ10 (TreeP b hs g :: blk r0 (.cells #[.slice s.p s.len s.cap, .bool x.2] TH (0, 0)) :: L) w10 := h10.pick (by repeat (first | with_reducible exact Pick.here | apply Pick.there))
    obtain ⟨rows, lst, rs, lost, hok, hr, hl, hg, h11⟩ := h10'.treeP
    refine next_ok (L := blk r0 (.cells #[.slice s.p s.len s.cap, .bool x.2] TH (0, 0)) :: L) h11 hok hr hl h0 h16 hg hg0 hg1 b10 hxl fun lost' w12 hok' hg' h12 => ?_
    have h13 := h12.toTreeP hok' (by simpa using hr) (by simpa using hl) hg'
    have h14 : Sat Γ10 (blk r0 (.cells #[.slice s.p s.len s.cap, .bool x.2] TH (0, 0)) :: TreeP b (hs.set (best hs) x) (g + (steps (hs.length + best hs) : Int)) :: L) w12 := h13.pick (by repeat (first | with_reducible exact Pick.here | apply Pick.there))
    refine ⟨h14.sx (L0 := [_]) hle10, ?_⟩
    exact ⟨0, rfl, k Γ10 w12 hb (hle.trans hle10) h14.drop⟩

end Go.Proofs.Ytohoimokfgfceaa.K
