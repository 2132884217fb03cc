/-
  The reference's disk: how many bytes there are.
-/
import Derived.Test.YtohoimokfgfceaaRdA
namespace Go.Proofs.Ytohoimokfgfceaa.K
open Go Go.Proofs
variable {Γ Γ' : Mem} {L L' L'' : List HP} {w w' : World} {A B : HP}
set_option maxRecDepth 100000
set_option maxHeartbeats 4000000

theorem makeBool_pr {n : Nat} {K : Sl → World → Prop} (h : Sat Γ L w) (hn : n ≤ 70368744177664) (k : ∀ s w', s.len = n → Sat Γ (OL eBool 4 s (List.replicate n false) :: L) w' → K s w') :
    Prim Try.prog (Instr.makeSlice 189 (.int .i64 (n : Int)) (.int .i64 (n : Int))) (.one (.s .sl)) K w :=
  mkO (E := eBool) false false slBool h (Nat.le_refl _) rfl (by omega) fun s w' e1 _ h => k s w' e1 h

def hasT (n : Nat) (P : Nat → Bool) : List Bool := (List.range n).map P
theorem hasT_len (n : Nat) (P : Nat → Bool) : (hasT n P).length = n := by simp [hasT]
theorem hasT_no (n : Nat) : List.replicate n false = hasT n fun _ => false := by
  unfold hasT
  rw [List.map_const', List.length_range]
theorem hasT_get {n i : Nat} {P : Nat → Bool} (h : i < n) : (hasT n P)[i]? = some (P i) := by simp [hasT, h]
theorem hasT_set {n i : Nat} {P : Nat → Bool} : (hasT n P).set i true = hasT n fun j => P j || i == j := by
  apply List.ext_getElem?
  intro j
  rw [List.getElem?_set, hasT_len]
  by_cases hij : i = j
  · subst hij
    rw [if_pos rfl]
    by_cases hi : i < n
    · rw [if_pos hi, hasT_get hi]; simp
    · rw [if_neg hi, List.getElem?_eq_none (by rw [hasT_len]; omega)]
  · rw [if_neg hij]
    by_cases hj : j < n
    · rw [hasT_get hj, hasT_get hj]; simp [hij]
    · rw [List.getElem?_eq_none (by rw [hasT_len]; omega), List.getElem?_eq_none (by rw [hasT_len]; omega)]
theorem eFileR_after {Γ : Mem} {y : eFileR.sh.T} {x : FileM} (h : eFileR.r Γ y x) : ∃ s : Sl, Bytes Γ s x.b ∧ y = (s, (x.kept : Int)) := by
  obtain ⟨y1, y2⟩ := y
  obtain ⟨h1, h2⟩ := h
  exact ⟨y1, h1, by rw [show y2 = (x.kept : Int) from h2]⟩
theorem hasT_congr {n : Nat} {P Q : Nat → Bool} (h : ∀ j, P j = Q j) : hasT n P = hasT n Q := by rw [show P = Q from funext h]

theorem any_snoc {α : Type} {l : List α} {i : Nat} {x : α} {p : α → Bool} (h : l[i]? = some x) : (l.take (i + 1)).any p = ((l.take i).any p || p x) := by
  rw [List.take_add_one, h, List.any_append]
  simp

theorem ChOK.at_ {n : Nat} {l : List (Str × Nat)} {cs : List ChM} (h : ChOK n l cs) : ∀ {i : Nat} {c : ChM}, cs[i]? = some c → FitC ((cs.take i).foldl K.chg l) c ∧ c.file < n := by
  induction h with
  | nil => intro i c e; simp at e
  | cons h1 h2 h3 ih =>
    intro i c e
    cases i with
    | zero =>
      simp only [List.getElem?_cons_zero, Option.some.injEq] at e
      subst e
      exact ⟨h1, h2⟩
    | succ i =>
      simp only [List.getElem?_cons_succ] at e
      have := ih e
      rwa [List.take_succ_cons, List.foldl_cons]

theorem usedOf_snoc (h : Nat → Bool) : ∀ (l : List FileM) (k : Nat) (f : FileM), DiskM.usedOf h k (l ++ [f]) = DiskM.usedOf h k l + (if h (k + l.length) then f.b.length else 0)
  | [], k, f => by simp [DiskM.usedOf]
  | x :: l, k, f => by
    rw [List.cons_append, DiskM.usedOf, usedOf_snoc h l (k + 1) f, DiskM.usedOf, List.length_cons, show k + 1 + l.length = k + (l.length + 1) by omega, Nat.add_assoc]

theorem rUsed_ok {a : Nat} {m : DiskM} {K : Int → World → Prop} (h : Sat Γ (RDisk a m :: L) w) (hg : m.g < 1000000000000) (k : ∀ Γ' w', Γ.le Γ' → Sat Γ' (RDisk a m :: L) w' → K (m.used : Int) w') :
    CallP Try.prog 71 [.pointer (some ⟨a, 0, none⟩)] (.one (.s (.int .i64))) K w := by
  obtain ⟨fl, nl, kl, cl, left, hr, h⟩ := h.rd
  obtain ⟨rn, rk, rc, rleft, hw⟩ := hr
  have k2 : ∀ Γ' w', Γ.le Γ' → Sat Γ' (rdlay a fl nl kl cl m left L) w' → K (m.used : Int) w' := fun Γ' w' g h => k Γ' w' g (h.toRd ⟨rn.mono g, rk.mono g, rc.mono g, rleft, hw⟩)
  clear k
  have hgn := hw.gn
  have hgl := hw.gl
  have hfl := h.olLen .n1
  have hkok := hw.kept
  refine callP (fn := Try.f71) [.s (.ptr (some ⟨a, 0, none⟩))] (.p .n (.p .n (.p .n (.p (.p .n (.b (.l [4, 0, 3] [(5, .s (.int .i64))] .n))) (.p (.p .n (.b (.l [0, 3] [(4, .s .sl), (6, .s (.int .i64))] (.p .n (.p (.k [6, 0, 3] [(4, .s .sl)] .n) .n))))) (.p .n (.p (.p .n (.b (.l [0, 3] [(8, .s (.int .i64)), (9, .s (.int .i64))] (.p .n (.p (.k [9, 0, 3] [(8, .s (.int .i64))] .n) .n))))) .n))))))) nong mixed (by kernel_rfl) (by kernel_rfl) rfl rfl ?_
  obtain ⟨lrn, mrn, crn⟩ := rn.lens
  obtain ⟨lrk, mrk, crk⟩ := rk.lens
  obtain ⟨lrc, mrc, crc⟩ := rc.lens
  refine ⟨_, rfl, ?_⟩
  refine ld _ h .n0 ?_
  refine makeBool_pr h (by first | omega | (dsimp only; omega) | decide) (fun av1 _ ap3 h => ?_)
  refine ⟨_, rfl, ?_⟩
  refine ld _ h .n1 ?_
  rotate_left
  rw [hfl, hasT_no] at h
  refine loop (σ := Int) (fun st w' u => ∃ i : Nat, st = (i : Int) ∧ i ≤ m.kept.length ∧ u = m.kept.length - i ∧
    Sat Γ (OL eBool 4 av1 (hasT m.files.length fun j => (m.kept.take i).any fun p => p.2 == j) :: rdlay a fl nl kl cl m left L) w') m.kept.length ⟨0, rfl, by omega, by omega, by simpa using h⟩ ?_
  clear h
  rintro _ w u ⟨i, rfl, hi, hu, h⟩
  have hhl := hasT_len m.files.length fun j => (m.kept.take i).any fun p => p.2 == j
  have hol := h.olLen .n0
  by_cases hil : i < m.kept.length
  · obtain ⟨p, ep⟩ := get_lt hil
    have hp2 := hkok.lt p (List.mem_of_getElem? ep)
    have hset : (hasT m.files.length fun j => (m.kept.take i).any fun p => p.2 == j).set p.2 true = hasT m.files.length fun j => (m.kept.take (i + 1)).any fun p => p.2 == j := by
      rw [hasT_set]; exact hasT_congr fun j => (any_snoc ep).symm
    refine brD (fun bb0 => ?_) (fun bb0 => by exfalso; omega)
    refine ⟨by omega, ?_⟩
    refine nnL h rk (fun ba1 bha1 => ?_)
    refine ldLf h rk (·.2) bha1 ep (fun by2 bhy2 => ?_)
    have bhy2 := eNameR_after bhy2
    subst bhy2
    refine ⟨by omega, ?_⟩
    refine nnO h .n0 (fun ba3 bha3 => ?_)
    refine stO1 (i := p.snd) _ _ h .n0 bha3 (by first | omega | (dsimp only; omega)) rfl rfl (fun _ h => ?_)
    refine wrN (i + 1) ?_
    refine ⟨_, (by first | omega | rfl | (dsimp only; omega)), _, rfl, (by first | omega | rfl | (dsimp only; omega)), rfl, (Sat.eqs (((h.pick .n2).pick .n2).pick .n2) ?_)⟩
    rotate_left
    rw [hset]
  · have e : m.kept.take i = m.kept := List.take_of_length_le (by omega)
    rw [e] at h
    refine brD (fun cb0 => by exfalso; omega) (fun cb0 => ?_)
    rotate_left
    refine loop (σ := Sl × Int) (fun st w' u => ∃ (s : Sl) (i : Nat) (Γ2 : Mem), st = (s, (i : Int)) ∧ i ≤ m.changes.length ∧ u = m.changes.length - i ∧ Γ.le Γ2 ∧ Lst eNameR Γ2 s ((m.changes.take i).foldl chg m.kept) ∧
      Sat Γ2 (OL eBool 4 av1 (hasT m.files.length fun j => (m.kept.any fun p => p.2 == j) || (m.changes.take i).any fun c => !decide (c.new = []) && c.file == j) :: rdlay a fl nl kl cl m left L) w') m.changes.length
      ⟨kl, 0, Γ, rfl, by omega, by omega, .refl _, rk, by simpa using h⟩ ?_
    clear h
    rintro _ w u ⟨s, i, Γ2, rfl, hi, hu, g2, hs, h⟩
    have rn2 := rn.mono g2
    have rk2 := rk.mono g2
    have rc2 := rc.mono g2
    have k3 : ∀ Γ' w', Γ2.le Γ' → Sat Γ' (rdlay a fl nl kl cl m left L) w' → K (m.used : Int) w' := fun Γ' w' g h => k2 Γ' w' (g2.trans g) h
    have hhl := hasT_len m.files.length fun j => (m.kept.any fun p => p.2 == j) || (m.changes.take i).any fun c => !decide (c.new = []) && c.file == j
    have hol := h.olLen .n0
    by_cases hil : i < m.changes.length
    · obtain ⟨c, ec⟩ := get_lt hil
      obtain ⟨hfit, hfl2⟩ := hw.chs.at_ ec
      have hno : NamesOK m.files.length ((m.changes.take i).foldl chg m.kept) := (hw.chs.take i).names hkok
      have hlen : ((m.changes.take i).foldl chg m.kept).length ≤ 1000000000000 := by
        have := fold_len (m.changes.take i) m.kept
        rw [List.length_take] at this
        omega
      have hstep : (m.changes.take (i + 1)).foldl chg m.kept = chg ((m.changes.take i).foldl chg m.kept) c := by
        rw [List.take_add_one, ec, List.foldl_append]; rfl
      have hno2 := hno.chg hfit hfl2
      have hlen2 := chg_len (l := (m.changes.take i).foldl chg m.kept) c
      have hfn := findN_chg hno.nodup c c.new
      have hany := fun j => any_snoc (p := fun c : ChM => !decide (c.new = []) && c.file == j) ec
      have hlen3 : (chg ((m.changes.take i).foldl chg m.kept) c).length ≤ 1000000000000 := by
        have := fold_len (m.changes.take i) m.kept
        rw [List.length_take] at this
        omega
      have hfl3 : m.files.length ≤ 1000000000000 := by omega
      by_cases hne : c.new = []
      · have hfn2 : findN (chg ((m.changes.take i).foldl chg m.kept) c) c.new = none := by rw [hne]; exact hno2.find_nil
        have hset : (hasT m.files.length fun j => (m.kept.any fun p => p.2 == j) || (m.changes.take i).any fun c => !decide (c.new = []) && c.file == j) = hasT m.files.length fun j => (m.kept.any fun p => p.2 == j) || (m.changes.take (i + 1)).any fun c => !decide (c.new = []) && c.file == j :=
          hasT_congr fun j => by rw [hany]; simp [hne]
        have rn := rn.mono g2
        have rk := rk.mono g2
        have rc := rc.mono g2
        obtain ⟨lhs, mhs, chs⟩ := hs.lens
        refine ⟨_, rfl, ?_⟩
        refine ld _ h .n1 ?_
        refine brD (fun db0 => ?_) (fun db0 => by exfalso; omega)
        dsimp only at db0
        refine joinI ?_
        refine ⟨_, rfl, ?_⟩
        refine ld _ h .n1 ?_
        refine ⟨by omega, ?_⟩
        refine nnL h rc (fun da1 dha1 => ?_)
        refine ldL h rc dha1 ec (fun dy2 dhy2 => ?_)
        obtain ⟨dy2s, dhy2a, dhy2e⟩ := eChgR_after dhy2
        subst dhy2e
        refine rchange_ok h hs hno hlen hfl3 hfit hfl2 dhy2a (fun dv4 dΓ5 _ dg7 df8 h => ?_)
        have hs := hs.mono dg7
        have rn2 := rn2.mono dg7
        have rk2 := rk2.mono dg7
        have rc2 := rc2.mono dg7
        have rn := rn.mono dg7
        have rk := rk.mono dg7
        have rc := rc.mono dg7
        obtain ⟨ldf8, mdf8, cdf8⟩ := df8.lens
        refine ⟨_, rfl, ?_⟩
        refine ld _ h .n1 ?_
        refine ⟨by omega, ?_⟩
        refine ⟨_, dha1, ?_⟩
        refine ldLf h rc (·.2.1) dha1 ec (fun dy10 dhy10 => ?_)
        obtain ⟨dy10s, dhy10a, dhy10e⟩ := eChgR_after dhy10
        subst dhy10e
        refine rfindNone_ok h df8 hlen3 hfn2 (fun _ h => ?_)
        refine brF ?_
        refine wrN (i + 1) ?_
        refine ⟨_, (by first | omega | rfl | (dsimp only; omega)), _, _, _, rfl, (by first | omega | rfl | (dsimp only; omega)), rfl, (g2.trans dg7), ?_, (Sat.eqs (((h.pick .n2).pick .n2).pick .n2) ?_)⟩
        rotate_left
        rotate_left
        · rw [hstep]; assumption
        · rw [hset]
      · have hfn2 : findN (chg ((m.changes.take i).foldl chg m.kept) c) c.new = some c.file := by rw [hfn, if_pos ⟨hne, rfl⟩]
        have hset : (hasT m.files.length fun j => (m.kept.any fun p => p.2 == j) || (m.changes.take i).any fun c => !decide (c.new = []) && c.file == j).set c.file true = hasT m.files.length fun j => (m.kept.any fun p => p.2 == j) || (m.changes.take (i + 1)).any fun c => !decide (c.new = []) && c.file == j := by
          rw [hasT_set]; exact hasT_congr fun j => by rw [hany]; simp [hne, Bool.or_assoc]
        have rn := rn.mono g2
        have rk := rk.mono g2
        have rc := rc.mono g2
        obtain ⟨lhs, mhs, chs⟩ := hs.lens
        refine ⟨_, rfl, ?_⟩
        refine ld _ h .n1 ?_
        refine brD (fun eb0 => ?_) (fun eb0 => by exfalso; omega)
        dsimp only at eb0
        refine joinI ?_
        refine ⟨_, rfl, ?_⟩
        refine ld _ h .n1 ?_
        refine ⟨by omega, ?_⟩
        refine nnL h rc (fun ea1 eha1 => ?_)
        refine ldL h rc eha1 ec (fun ey2 ehy2 => ?_)
        obtain ⟨ey2s, ehy2a, ehy2e⟩ := eChgR_after ehy2
        subst ehy2e
        refine rchange_ok h hs hno hlen hfl3 hfit hfl2 ehy2a (fun ev4 eΓ5 _ eg7 ef8 h => ?_)
        have hs := hs.mono eg7
        have rn2 := rn2.mono eg7
        have rk2 := rk2.mono eg7
        have rc2 := rc2.mono eg7
        have rn := rn.mono eg7
        have rk := rk.mono eg7
        have rc := rc.mono eg7
        obtain ⟨lef8, mef8, cef8⟩ := ef8.lens
        refine ⟨_, rfl, ?_⟩
        refine ld _ h .n1 ?_
        refine ⟨by omega, ?_⟩
        refine ⟨_, eha1, ?_⟩
        refine ldLf h rc (·.2.1) eha1 ec (fun ey10 ehy10 => ?_)
        obtain ⟨ey10s, ehy10a, ehy10e⟩ := eChgR_after ehy10
        subst ehy10e
        refine rfindSome_ok h ef8 hlen3 hfn2 (fun _ h => ?_)
        refine brT ?_
        refine ⟨by omega, ?_⟩
        refine nnO h .n0 (fun ea14 eha14 => ?_)
        refine stO1 (i := c.file) _ _ h .n0 eha14 (by first | omega | (dsimp only; omega)) rfl rfl (fun _ h => ?_)
        refine wrN (i + 1) ?_
        refine ⟨_, (by first | omega | rfl | (dsimp only; omega)), _, _, _, rfl, (by first | omega | rfl | (dsimp only; omega)), rfl, (g2.trans eg7), ?_, (Sat.eqs (((h.pick .n2).pick .n2).pick .n2) ?_)⟩
        rotate_left
        rotate_left
        · rw [hstep]; assumption
        · rw [hset]
    · have e : m.changes.take i = m.changes := List.take_of_length_le (by omega)
      rw [e] at h
      have h : Sat Γ2 (OL eBool 4 av1 (hasT m.files.length m.has) :: rdlay a fl nl kl cl m left L) w := h
      have hhl := hasT_len m.files.length m.has
      have hol := h.olLen .n0
      have rn := rn.mono g2
      have rk := rk.mono g2
      have rc := rc.mono g2
      obtain ⟨lhs, mhs, chs⟩ := hs.lens
      refine ⟨_, rfl, ?_⟩
      refine ld _ h .n1 ?_
      refine brD (fun fb0 => by exfalso; omega) (fun fb0 => ?_)
      dsimp only at fb0
      rotate_left
      refine loop (σ := Int × Int) (fun st w' u => ∃ (i : Nat), st = ((DiskM.usedOf m.has 0 (m.files.take i) : Int), (i : Int)) ∧ i ≤ m.files.length ∧ u = m.files.length - i ∧ Sat Γ2 (OL eBool 4 av1 (hasT m.files.length m.has) :: rdlay a fl nl kl cl m left L) w') m.files.length ⟨0, rfl, by omega, by omega, h⟩ ?_
      clear h
      rintro _ w u ⟨i, rfl, hi, hu, h⟩
      have hul := usedOf_le (h := m.has) (l := m.files.take i) (i := 0)
      by_cases hil : i < m.files.length
      · obtain ⟨x, ex⟩ := get_lt hil
        have eh := hasT_get (P := m.has) hil
        have hsn : DiskM.usedOf m.has 0 (m.files.take (i + 1)) = DiskM.usedOf m.has 0 (m.files.take i) + (if m.has i = true then x.b.length else 0) := by
          rw [List.take_add_one, ex]
          have := usedOf_snoc m.has (m.files.take i) 0 x
          rw [List.length_take, Nat.min_eq_left (by omega), Nat.zero_add] at this
          exact this
        have hul2 := usedOf_le (h := m.has) (l := m.files.take (i + 1)) (i := 0)
        have hsum : ∀ k, ((m.files.take k).map fun f => f.b.length).sum ≤ m.g := fun k => by
          have h1 : ((m.files.take k).map fun f => f.b.length).sum ≤ (m.files.map fun f => f.b.length).sum := by
            conv => rhs; rw [← List.take_append_drop k m.files]
            rw [List.map_append, List.sum_append]
            omega
          exact Nat.le_trans h1 hw.gf
        have hs1 := hsum i
        have hs2 := hsum (i + 1)
        cases hb : m.has i with
        | true =>
          rw [hb, if_pos rfl] at hsn
          rw [hb] at eh
          refine brD (fun gb0 => ?_) (fun gb0 => by exfalso; omega)
          dsimp only at gb0
          refine joinI ?_
          refine ⟨by omega, ?_⟩
          refine nnO h .n0 (fun ga1 gha1 => ?_)
          refine ldO h .n0 gha1 eh (fun gy2 ghy2 => ?_)
          have ghy2 : gy2 = (true) := ghy2
          subst ghy2
          refine brT ?_
          refine ⟨_, rfl, ?_⟩
          refine ld _ h .n1 ?_
          refine ⟨by omega, ?_⟩
          refine nnO h .n2 (fun ga3 gha3 => ?_)
          refine ldOf h .n2 (·.1) gha3 ex (fun gy4 ghy4 => ?_)
          obtain ⟨gy4s, ghy4a, ghy4e⟩ := eFileR_after ghy4
          subst ghy4e
          obtain ⟨lghy4a, mghy4a, cghy4a⟩ := ghy4a.lens
          refine wrN ((DiskM.usedOf m.has 0 (List.take i m.files)) + gy4s.len) ?_
          refine wrN (i + 1) ?_
          rotate_left
          refine ⟨m.files.length - (i + 1), by omega, i + 1, ?_, by omega, rfl, h⟩
          rw [hsn, lghy4a]
        | false =>
          rw [hb, if_neg (by decide), Nat.add_zero] at hsn
          rw [hb] at eh
          refine brD (fun ib0 => ?_) (fun ib0 => by exfalso; omega)
          dsimp only at ib0
          refine joinI ?_
          refine ⟨by omega, ?_⟩
          refine nnO h .n0 (fun ia1 iha1 => ?_)
          refine ldO h .n0 iha1 eh (fun iy2 ihy2 => ?_)
          have ihy2 : iy2 = (false) := ihy2
          subst ihy2
          refine brF ?_
          refine wrN (i + 1) ?_
          rotate_left
          refine ⟨m.files.length - (i + 1), by omega, i + 1, ?_, by omega, rfl, h⟩
          rw [hsn]
          rfl
      · have e : m.files.take i = m.files := List.take_of_length_le (by omega)
        rw [e]
        refine brD (fun hb0 => by exfalso; omega) (fun hb0 => ?_)
        dsimp only at hb0
        refine ⟨_, rfl, ?_⟩
        refine k3 _ _ (.refl _) ((h.drop.pick .n1).pick .n1)

end Go.Proofs.Ytohoimokfgfceaa.K

/-
  The reference's disk: its calls.
-/
namespace Go.Proofs.Ytohoimokfgfceaa.K
open Go Go.Proofs
variable {Γ Γ' : Mem} {L L' L'' : List HP} {w w' : World} {A B : HP}
set_option maxRecDepth 100000
set_option maxHeartbeats 1000000

theorem rright_ok {s : Str} {K : Bool → World → Prop} (k1 : rightN s → K true w) (k2 : ¬ rightN s → K false w) :
    CallP Try.prog 168 [.string (str s)] (.one (.s .bool)) K w := by
  have hz := str_size s
  unfold rightN at k1 k2
  refine callP (fn := Try.f168) [.s (.str (str s))] .n nong mixed (by kernel_rfl) (by kernel_rfl) rfl rfl ?_
  refine brD (fun ab0 => ?_) (fun ab0 => ?_)
  refine ⟨_, rfl, ?_⟩
  refine kDec (fun ab1 => ?_) (fun ab1 => ?_)
  refine k1 (by first | omega | (dsimp only; omega) | decide)
  refine k2 (by first | omega | (dsimp only; omega) | decide)
  refine ⟨_, rfl, ?_⟩
  refine k2 (by first | omega | (dsimp only; omega) | decide)

theorem rNew_ok {r : Int} {K : Option Addr → World → Prop} (h : Sat Γ L w) (k : ∀ a w', Sat Γ (RDisk a (.new r) :: L) w' → K (some ⟨a, 0, none⟩) w') :
    CallP Try.prog 69 [.int .i64 r] (.one (.s .ptr)) K w := by
  refine callP (fn := Try.f69) [.s (.int .i64 r)] .n nong mixed (by kernel_rfl) (by kernel_rfl) rfl rfl ?_
  refine mxI ?_
  refine new h fun ar0 _ h => ?_
  refine ⟨_, rfl, ?_⟩
  refine k _ _ ?_
  rotate_left
  have h1 := h.olNil (E := eFileR) (T := TRFile)
  have h2 := h1.pick (A := blk ar0 _) .n1
  exact Sat.toRd (fl := ⟨none, 0, 0⟩) (nl := ⟨none, 0, 0⟩) (kl := ⟨none, 0, 0⟩) (cl := ⟨none, 0, 0⟩) (left := 0) h2 ⟨.nil _ _, .nil _ _, .nil _ _, fun _ e => (by cases e), .new r⟩

theorem appChgR_pr {T2 T3 r : Nat} {z3 : Nat × Nat} {s : Sl} {xs : List ChM} {c : ChM} {f : Int} {K : Sl → World → Prop} (h : Sat Γ (blk r (.cells #[.string (str c.gone), .string (str c.new), .int .i64 f] T3 z3) :: L) w) (pk : Pick (OL eChgR TRChg s xs) L L')
    (hff : c.gone = [] → f = (c.file : Int)) (hb : (s.len + 1) * 40 ≤ 70368744177664) (k : ∀ s' w', s'.len = s.len + 1 → Sat Γ (OL eChgR TRChg s' (xs ++ [c]) :: L') w' → K s' w') :
    Prim Try.prog (Builtin.append_ #[186, 186] T2 #[.slice s.p s.len s.cap, .slice (some ⟨r, 0, none⟩) 1 1]) (.one (.s .sl)) K w :=
  app1 (E := eChgR) (str c.gone, str c.new, f) c slChgR h pk ⟨rfl, rfl, hff⟩ k hb

theorem rDoes_ok {a : Nat} {m : DiskM} {c : ChM} {f : Int} {K : PUnit → World → Prop} (h : Sat Γ (RDisk a m :: L) w) (hg : m.g < 1000000000001) (hc : FitC m.now c) (hf : c.file < m.files.length) (hff : c.gone = [] → f = (c.file : Int))
    (k : ∀ Γ' w', Γ.le Γ' → Sat Γ' (RDisk a (m.does c) :: L) w' → K ⟨⟩ w') :
    CallP Try.prog 169 [.pointer (some ⟨a, 0, none⟩), .agg #[.string (str c.gone), .string (str c.new), .int .i64 f]] (.tup []) K w := by
  obtain ⟨fl, nl, kl, cl, left, ⟨rn, rk, rc, rleft, hw⟩, h⟩ := h.rd
  have hgn := hw.gn
  have hgl := hw.gl
  have hnl := hw.nowLen
  have hnow := hw.nowOK
  have k2 : ∀ Γ' w' nl' cl', Γ.le Γ' → Lst eNameR Γ' nl' (chg m.now c) → Lst eNameR Γ' kl m.kept → Lst eChgR Γ' cl' (m.changes ++ [c]) →
      Sat Γ' (blk a (.cells #[slv fl, slv nl', slv kl, slv cl', .int .i64 m.room, .bool m.down, .bool m.doomed, .int .i64 left] TRDisk (0, 0)) :: OL eFileR TRFile fl m.files :: L) w' → K ⟨⟩ w' :=
    fun Γ' w' nl' cl' g a1 a2 a3 h => k Γ' w' g (Sat.toRd (m := m.does c) (left := left) h ⟨a1, a2, a3, rleft, hw.does hc hf⟩)
  clear k
  refine callP (fn := Try.f169) [.s (.ptr (some ⟨a, 0, none⟩)), .agg [.str (str c.gone), .str (str c.new), .int .i64 f]] (.p .n (.p (.h [0, 1, 2, 3, 4, 5, 6, 7, 8, 9] [9]) (.t (.n 0 (.n 2 (.n 3 (.n 4 (.n 5 (.n 7 (.o (.n 1 (.o (.n 6 (.n 8 (.n 9 (.n 10 (.n 11 (.n 12 .e)))))) (.n 8 (.n 6 (.n 9 (.n 10 (.n 11 (.n 12 .e)))))))) (.n 8 (.n 1 (.n 6 (.n 9 (.n 10 (.n 11 (.n 12 .e)))))))))))))) [12]))) nong mixed (by kernel_rfl) (by kernel_rfl) rfl rfl ?_
  obtain ⟨lrn, mrn, crn⟩ := rn.lens
  obtain ⟨lrk, mrk, crk⟩ := rk.lens
  obtain ⟨lrc, mrc, crc⟩ := rc.lens
  refine new h fun har0 _ h => ?_
  have h := h.asA (B := blk har0 (.cells #[Value.string (str c.gone), Value.string (str c.new), Value.int IntKind.i64 f] 194 (0, 0))) (by kernel_rfl)
  rotate_left
  refine heldS h (.cons .n0 (.cons .n0 .nil)) ?_
  refine dr h fun _ h => ?_
  refine ⟨h.sxs (.cons .n0 (.cons .n0 .nil)) (.refl _), ?_⟩
  refine ⟨_, rfl, ?_⟩
  refine ldH _ .n1 ?_
  refine ldHA3 _ _ _ .n0 ?_
  refine rchange_ok h rn hnow (by first | omega | (dsimp only; omega) | decide) (by first | omega | (dsimp only; omega) | decide) hc hf hff (fun hbv1 hbΓ2 _ hbg4 hbf5 h => ?_)
  have rn := rn.mono hbg4
  have rk := rk.mono hbg4
  have rc := rc.mono hbg4
  obtain ⟨lhbf5, mhbf5, chbf5⟩ := hbf5.lens
  refine ⟨h.sxs (.cons .n0 (.cons .n0 .nil)) hbg4, ?_⟩
  refine ⟨_, rfl, ?_⟩
  refine st h .n1 fun _ h => ?_
  have h := h.asA (B := blk a (.cells #[Value.slice fl.p fl.len fl.cap, Value.slice hbv1.p hbv1.len hbv1.cap, Value.slice kl.p kl.len kl.cap, Value.slice cl.p cl.len cl.cap, Value.int IntKind.i64 m.room, Value.bool m.down, Value.bool m.doomed, Value.int IntKind.i64 left] 188 (0, 0))) (by kernel_rfl)
  rotate_left
  refine heldS h .nil ?_
  refine ⟨h.sxs .nil (.refl _), ?_⟩
  rotate_left
  have h := h.asA (B := blk a (.cells (rdcells fl hbv1 kl cl { m with now := chg m.now c } left) TRDisk (0, 0))) (by kernel_rfl)
  refine heldS h (.cons .n0 (.cons .n0 .nil)) ?_
  refine dr h fun _ h => ?_
  refine ⟨h.sxs (.cons .n0 (.cons .n0 .nil)) (.refl _), ?_⟩
  refine ⟨_, rfl, ?_⟩
  refine ldH _ .n0 ?_
  refine ldHA3 _ _ _ .n1 ?_
  refine ⟨?_, ?_⟩
  refine new h fun hdr0 _ h => ?_
  have h := h.asA (B := blk hdr0 (.cells #[] 194 (0, 0))) (by kernel_rfl)
  refine ⟨h.sxs (.cons .n1 (.cons .n1 .nil)) (.refl _), ?_⟩
  refine ⟨?_, ?_⟩
  have h := (h.pick .n0).olEmpty (E := eChgR)
  refine appL slChgR h .n0 rc (fun hds1 _ hdl1 h => ?_)
  dsimp only at hdl1
  refine ⟨h.sxs (.cons .n1 (.cons .n1 .nil)) (.refl _), ?_⟩
  refine new h fun hdr2 _ h => ?_
  have h := h.asA (B := blk hdr2 (.cells #[Value.string (str c.gone, str c.new, f).fst, Value.string (str c.gone, str c.new, f).snd.fst, Value.int IntKind.i64 (str c.gone, str c.new, f).snd.snd] 194 (0, 0))) (by kernel_rfl)
  refine ⟨h.sxs (.cons .n2 (.cons .n2 .nil)) (.refl _), ?_⟩
  refine appChgR_pr h .n0 hff (by first | omega | (dsimp only; omega) | decide) (fun hdv4 _ hdp6 h => ?_)
  refine ⟨h.sxs (.cons .n1 (.cons .n1 .nil)) (.refl _), ?_⟩
  refine ⟨_, rfl, ?_⟩
  refine st h .n1 fun _ h => ?_
  have h := h.asA (B := blk a (.cells #[Value.slice fl.p fl.len fl.cap, Value.slice hbv1.p hbv1.len hbv1.cap, Value.slice kl.p kl.len kl.cap, Value.slice hdv4.p hdv4.len hdv4.cap, Value.int IntKind.i64 (DiskM.mk m.files (chg m.now c) m.kept m.changes m.room m.down m.doomed m.left m.g).room, Value.bool (DiskM.mk m.files (chg m.now c) m.kept m.changes m.room m.down m.doomed m.left m.g).down, Value.bool (DiskM.mk m.files (chg m.now c) m.kept m.changes m.room m.down m.doomed m.left m.g).doomed, Value.int IntKind.i64 left] 188 (0, 0))) (by kernel_rfl)
  rotate_left
  refine new h fun hdr8 _ h => ?_
  have h := h.asA (B := blk hdr8 (.cells #[Value.string (str c.gone, str c.new, f).fst, Value.string (str c.gone, str c.new, f).snd.fst, Value.int IntKind.i64 (str c.gone, str c.new, f).snd.snd] 194 (0, 0))) (by kernel_rfl)
  refine ⟨h.sxs (.cons .n2 (.cons .n2 .nil)) (.refl _), ?_⟩
  have h := (h.pick .n1).olEmpty (E := eChgR)
  refine appL slChgR h .n0 rc (fun hds9 _ hdl9 h => ?_)
  dsimp only at hdl9
  refine ⟨h.sxs (.cons .n2 (.cons .n2 .nil)) (.refl _), ?_⟩
  refine appChgR_pr (h.pick .n1) .n0 hff (by first | omega | (dsimp only; omega) | decide) (fun hdv11 _ hdp13 h => ?_)
  refine ⟨h.sxs (.cons .n1 (.cons .n1 .nil)) (.refl _), ?_⟩
  refine ⟨_, rfl, ?_⟩
  refine st h .n1 fun _ h => ?_
  have h := h.asA (B := blk a (.cells #[Value.slice fl.p fl.len fl.cap, Value.slice hbv1.p hbv1.len hbv1.cap, Value.slice kl.p kl.len kl.cap, Value.slice hdv11.p hdv11.len hdv11.cap, Value.int IntKind.i64 (DiskM.mk m.files (chg m.now c) m.kept m.changes m.room m.down m.doomed m.left m.g).room, Value.bool (DiskM.mk m.files (chg m.now c) m.kept m.changes m.room m.down m.doomed m.left m.g).down, Value.bool (DiskM.mk m.files (chg m.now c) m.kept m.changes m.room m.down m.doomed m.left m.g).doomed, Value.int IntKind.i64 left] 188 (0, 0))) (by kernel_rfl)
  rotate_left
  refine new h fun hdr15 _ h => ?_
  have h := h.asA (B := blk hdr15 (.cells #[Value.string (str c.gone, str c.new, f).fst, Value.string (str c.gone, str c.new, f).snd.fst, Value.int IntKind.i64 (str c.gone, str c.new, f).snd.snd] 194 (0, 0))) (by kernel_rfl)
  refine ⟨h.sxs (.cons .n1 (.cons .n1 .nil)) (.refl _), ?_⟩
  refine new h fun hdr16 _ h => ?_
  have h := h.asA (B := blk hdr16 (.cells #[] 194 (0, 0))) (by kernel_rfl)
  refine ⟨h.sxs (.cons .n2 (.cons .n2 .nil)) (.refl _), ?_⟩
  have h := (h.pick .n0).olEmpty (E := eChgR)
  refine appL slChgR h .n0 rc (fun hds17 _ hdl17 h => ?_)
  dsimp only at hdl17
  refine ⟨h.sxs (.cons .n2 (.cons .n2 .nil)) (.refl _), ?_⟩
  refine appChgR_pr (h.pick .n1) .n0 hff (by first | omega | (dsimp only; omega) | decide) (fun hdv19 _ hdp21 h => ?_)
  refine ⟨h.sxs (.cons .n1 (.cons .n1 .nil)) (.refl _), ?_⟩
  refine ⟨_, rfl, ?_⟩
  refine st h .n1 fun _ h => ?_
  have h := h.asA (B := blk a (.cells #[Value.slice fl.p fl.len fl.cap, Value.slice hbv1.p hbv1.len hbv1.cap, Value.slice kl.p kl.len kl.cap, Value.slice hdv19.p hdv19.len hdv19.cap, Value.int IntKind.i64 (DiskM.mk m.files (chg m.now c) m.kept m.changes m.room m.down m.doomed m.left m.g).room, Value.bool (DiskM.mk m.files (chg m.now c) m.kept m.changes m.room m.down m.doomed m.left m.g).down, Value.bool (DiskM.mk m.files (chg m.now c) m.kept m.changes m.room m.down m.doomed m.left m.g).doomed, Value.int IntKind.i64 left] 188 (0, 0))) (by kernel_rfl)
  rotate_left
  all_goals
    refine heldS h .nil ?_
    refine ⟨h.sxs .nil (.refl _), ?_⟩
    obtain ⟨Γ9, g9, f9, h⟩ := h.olFreeze (E := eChgR) (T := TRChg) (by repeat (first | with_reducible exact Pick.here | apply Pick.there)) (by omega)
    rw [List.nil_append] at f9
    have rn := hbf5.mono g9
    have rk := rk.mono g9
  · have hbf5 := hbf5.mono g9
    have rc := rc.mono g9
    refine ⟨⟨⟩, rfl, ?_⟩
    refine k2 _ _ _ _ (hbg4.trans g9) hbf5 rk f9 (((h.pick .n1).drop.pick .n1).pick .n1)
  · have hbf5 := hbf5.mono g9
    have rc := rc.mono g9
    refine ⟨⟨⟩, rfl, ?_⟩
    refine k2 _ _ _ _ (hbg4.trans g9) hbf5 rk f9 (((h.pick .n1).drop.pick .n1).pick .n1)
  · have hbf5 := hbf5.mono g9
    have rc := rc.mono g9
    refine ⟨⟨⟩, rfl, ?_⟩
    refine k2 _ _ _ _ (hbg4.trans g9) hbf5 rk f9 (((h.pick .n1).drop.pick .n1).pick .n1)

end Go.Proofs.Ytohoimokfgfceaa.K
