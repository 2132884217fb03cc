/-
  run's statements: things that rise.
-/
import Derived.Test.YtohoimokfgfceaaRnC
namespace Go.Proofs.Ytohoimokfgfceaa.K
open Go Go.Proofs Go.ChangeShapes Go.WideShapes Go.ChangeAt Go.RowKit
variable {Γ Γ' : Mem} {L L' L'' : List HP} {w w' : World} {A B : HP}
set_option maxRecDepth 100000
set_option maxHeartbeats 4000000

/-- where it belongs -/
def posR : List Str → Str → Nat
  | [], _ => 0
  | x :: r, b => if cmpB x b < 0 then posR r b + 1 else 0

theorem posR_le : ∀ (l : List Str) (b : Str), posR l b ≤ l.length
  | [], _ => Nat.le_refl _
  | x :: r, b => by
    unfold posR
    split
    · have := posR_le r b; simp; omega
    · simp

theorem posR_lt : ∀ (l : List Str) (b : Str) (j : Nat), j < posR l b → ∃ y, l[j]? = some y ∧ cmpB y b < 0
  | [], _, j, h => by simp [posR] at h
  | x :: r, b, j, h => by
    unfold posR at h
    split at h
    · rename_i hx
      cases j with
      | zero => exact ⟨x, rfl, hx⟩
      | succ j => exact posR_lt r b j (by omega)
    · omega

theorem posR_at : ∀ (l : List Str) (b y : Str), l[posR l b]? = some y → ¬ cmpB y b < 0
  | [], _, _, h => by simp [posR] at h
  | x :: r, b, y, h => by
    unfold posR at h
    split at h
    · exact posR_at r b y (by simpa using h)
    · rename_i hx
      simp at h
      subst h
      exact hx

/-- one more, if it may be, in its place -/
def insR (l : List Str) (b : Str) : List Str :=
  if 64 < b.length then l else if l[posR l b]? = some b then l else l.take (posR l b) ++ [b] ++ l.drop (posR l b)

def riseM (l : List Str) : List Str := (fewB l).foldl insR []

/-- in order, each once, none too long -/
structure Asc (l : List Str) : Prop where
  sorted : l.Pairwise fun a b => cmpB a b < 0
  small : ∀ x ∈ l, x.length ≤ 64

theorem Asc.ins {l : List Str} (h : Asc l) (b : Str) : Asc (insR l b) := by
  unfold insR
  split
  · exact h
  · rename_i hb
    split
    · exact h
    · rename_i hne
      have hlt : ∀ a ∈ l.take (posR l b), cmpB a b < 0 := fun a ha => by
        obtain ⟨j, hj⟩ := List.getElem?_of_mem ha
        rw [List.getElem?_take] at hj
        split at hj
        · rename_i hjp
          obtain ⟨y, h1, h2⟩ := posR_lt l b j hjp
          rw [h1] at hj
          cases hj
          exact h2
        · cases hj
      have hgt : ∀ a ∈ l.drop (posR l b), cmpB b a < 0 := by
        cases hd : l.drop (posR l b) with
        | nil => intro a ha; cases ha
        | cons y r =>
          have hy : l[posR l b]? = some y := by
            have := List.getElem?_drop (xs := l) (i := posR l b) (j := 0)
            rw [hd] at this
            simpa using this.symm
          have h1 := posR_at l b y hy
          have h2 : y ≠ b := fun e => hne (by rw [hy, e])
          have h3 : cmpB b y < 0 := cmpB_gt h1 h2
          have hp : (y :: r).Pairwise fun a b => cmpB a b < 0 := by rw [← hd]; exact h.sorted.sublist (List.drop_sublist _ _)
          intro a ha
          rcases List.mem_cons.1 ha with rfl | ha
          · exact h3
          · exact cmpB_trans h3 ((List.pairwise_cons.1 hp).1 a ha)
      refine ⟨?_, fun x hx => ?_⟩
      · rw [List.append_assoc]
        refine List.pairwise_append.2 ⟨h.sorted.sublist (List.take_sublist _ _), ?_, ?_⟩
        · exact List.pairwise_cons.2 ⟨hgt, h.sorted.sublist (List.drop_sublist _ _)⟩
        · intro a ha c hc
          rcases List.mem_cons.1 hc with rfl | hc
          · exact hlt a ha
          · exact cmpB_trans (hlt a ha) (hgt c hc)
      · rw [List.append_assoc] at hx
        rcases List.mem_append.1 hx with hx | hx
        · exact h.small x (List.mem_of_mem_take hx)
        · rcases List.mem_cons.1 hx with rfl | hx
          · omega
          · exact h.small x (List.mem_of_mem_drop hx)

theorem insR_len (l : List Str) (b : Str) : (insR l b).length ≤ l.length + 1 := by
  unfold insR
  have := posR_le l b
  repeat' split
  · omega
  · omega
  · simp; omega

theorem Asc.fold : ∀ (r l : List Str), Asc l → Asc (r.foldl insR l) ∧ (r.foldl insR l).length ≤ l.length + r.length
  | [], l, h => ⟨h, by simp⟩
  | b :: r, l, h => by
    obtain ⟨h1, h2⟩ := Asc.fold r (insR l b) (h.ins b)
    have := insR_len l b
    exact ⟨h1, by simp only [List.foldl_cons, List.length_cons]; omega⟩

theorem riseM_asc (l : List Str) : Asc (riseM l) := (Asc.fold (fewB l) [] ⟨.nil, fun x hx => by cases hx⟩).1
theorem riseM_len (l : List Str) : (riseM l).length ≤ 60 := by
  have := (Asc.fold (fewB l) [] ⟨.nil, fun x hx => by cases hx⟩).2
  have h2 := fewB_len l
  unfold riseM
  simp only [List.length_nil] at this
  omega

theorem Asc.rise {l : List Str} (h : Asc l) : RiseL none l := by
  have key : ∀ (l : List Str) (a : Option Str), Asc l → (∀ x ∈ l, risesB a x) → RiseL a l := by
    intro l
    induction l with
    | nil => intro a _ _; exact trivial
    | cons x r ih =>
      intro a h ha
      obtain ⟨h1, h2⟩ := List.pairwise_cons.1 h.sorted
      exact ⟨⟨h.small x (.head _), ha x (.head _)⟩, ih (some x) ⟨h2, fun y hy => h.small y (.tail _ hy)⟩ fun y hy => h1 y hy⟩
  exact key l none h fun x _ => trivial

theorem rise_ok {s : Sl} {l : List Str} {K : Sl → World → Prop} (h : Sat Γ L w) (hl : Lst eBytes Γ s l) (k : ∀ s' Γ' w', Γ.le Γ' → Lst eBytes Γ' s' (riseM l) → Sat Γ' L w' → K s' w') :
    CallP Try.prog 51 [.slice s.p s.len s.cap] (.one (.s .sl)) K w := by
  refine callP (fn := Try.f51) [.s (.sl s)] (.p .n (.p .n (.p (.p .n (.b (.l [9, 8] [(3, .s .sl), (10, .s (.int .i64))] (.p .n (.p .n (.p (.k [10, 9, 8] [(3, .s .sl)] (.p .n (.p .n (.p .n (.p (.b (.l [5, 3, 10, 9, 8] [(6, .s (.int .i64))] (.j [6, 5, 3, 10, 9, 8] [] (.p .s .n) .n))) (.j [5, 3, 6, 10, 9, 8] [] (.p .s .n) (.t (.n 1 (.n 2 (.n 3 (.n 5 (.n 8 (.n 9 (.n 10 (.o (.n 0 (.o (.n 4 (.n 6 (.n 7 (.n 11 (.n 12 .e))))) (.n 6 (.n 4 (.n 7 (.n 11 (.n 12 .e))))))) (.n 6 (.n 0 (.n 4 (.n 7 (.n 11 (.n 12 .e)))))))))))))) [11]))))))) .n)))))) .n))) nong mixed (by kernel_rfl) (by kernel_rfl) rfl rfl ?_
  have hfl := fewB_len l
  obtain ⟨lhl, mhl, chl⟩ := hl.lens
  refine fewB_ok h hl (fun av1 aΓ2 _ ag4 af5 h => ?_)
  have hl := hl.mono ag4
  obtain ⟨laf5, maf5, caf5⟩ := af5.lens
  rotate_left
  refine loop (σ := Sl × Int) (fun st w' n => ∃ (o : Sl) (i : Nat) (acc : List Str) (Γ' : Mem), st = (o, (i : Int)) ∧ i ≤ (fewB l).length ∧ n = (fewB l).length - i ∧ acc = ((fewB l).take i).foldl insR [] ∧ acc.length ≤ i ∧ aΓ2.le Γ' ∧ Lst eBytes Γ' o acc ∧ Sat Γ' L w') (fewB l).length
    ⟨⟨none, 0, 0⟩, 0, [], aΓ2, rfl, by omega, by omega, rfl, Nat.le_refl _, .refl _, .nil _ _, h⟩ ?_
  clear h
  rintro _ w n ⟨o, i, acc, Γ3, rfl, hi, hn, hacc, hal, g3, ho, h⟩
  have af5 := af5.mono g3
  by_cases hil : i < (fewB l).length
  · obtain ⟨b, eb⟩ := get_lt hil
    have htk : ((fewB l).take (i + 1)).foldl insR [] = insR acc b := by rw [List.take_add_one, eb, List.foldl_append, hacc]; rfl
    have hb80 := fewB_small b (List.mem_of_getElem? eb)
    by_cases hb : 64 < b.length
    · have hins : insR acc b = acc := by unfold insR; rw [if_pos hb]
      rw [hins] at htk
      have hl := hl.mono g3
      obtain ⟨lho, mho, cho⟩ := ho.lens
      refine brD (fun bb0 => ?_) (fun bb0 => by exfalso; omega)
      dsimp only at bb0
      refine joinI ?_
      refine ⟨by omega, ?_⟩
      refine nnL h af5 (fun ba1 bha1 => ?_)
      refine ldL h af5 bha1 eb (fun by2 bhy2 => ?_)
      have bhy2 : Bytes _ by2 b := bhy2
      obtain ⟨lbhy2, mbhy2, cbhy2⟩ := bhy2.lens
      refine brD (fun bb3 => ?_) (fun bb3 => by exfalso; omega)
      refine wrN (i + 1) ?_
      refine ⟨_, (by first | omega | rfl | (dsimp only; omega)), _, _, _, _, rfl, (by first | omega | rfl | (dsimp only; omega)), rfl, rfl, ?_, g3, ?_, h⟩
      rotate_left
      rotate_left
      · rw [htk]; exact Nat.le_succ_of_le hal
      · rw [htk]; exact ho
    · have hpl := posR_le acc b
      have hl := hl.mono g3
      obtain ⟨lho, mho, cho⟩ := ho.lens
      refine brD (fun cb0 => ?_) (fun cb0 => by exfalso; omega)
      dsimp only at cb0
      refine joinI ?_
      refine ⟨by omega, ?_⟩
      refine nnL h af5 (fun ca1 cha1 => ?_)
      refine ldL h af5 cha1 eb (fun cy2 chy2 => ?_)
      have chy2 : Bytes _ cy2 b := chy2
      obtain ⟨lchy2, mchy2, cchy2⟩ := chy2.lens
      refine brD (fun cb3 => by exfalso; omega) (fun cb3 => ?_)
      rotate_left
      obtain ⟨hol, _, _⟩ := ho.lens
      refine loop (σ := Int) (fun st w' c => ∃ j : Nat, st = (j : Int) ∧ j ≤ posR acc b ∧ c = posR acc b - j ∧ Sat Γ3 L w') (posR acc b) ⟨0, rfl, by omega, by omega, h⟩ ?_
      clear h
      rintro _ w c ⟨j, rfl, hj, hc, h⟩
      by_cases hjp : j < posR acc b
      · obtain ⟨y, ey, hy⟩ := posR_lt acc b j hjp
        refine joinI ?_
        refine dr h fun _ h => ?_
        refine brD (fun eb0 => ?_) (fun eb0 => ?_)
        dsimp only at eb0
        refine ⟨by dsimp only; omega, ?_⟩
        refine nnL h ho (fun ea1 eha1 => ?_)
        dsimp only at eha1
        refine ldL h ho eha1 ey (fun ey2 ehy2 => ?_)
        have ehy2 : Bytes _ ey2 y := ehy2
        obtain ⟨lehy2, mehy2, cehy2⟩ := ehy2.lens
        refine btoS h ehy2 ?_
        refine btoS h chy2 ?_
        refine brSl (fun eb3 => ?_) (fun eb3 => by exfalso; omega)
        refine wrN (j + 1) ?_
        refine ⟨_, (by first | omega | rfl | (dsimp only; omega)), _, rfl, (by first | omega | rfl | (dsimp only; omega)), rfl, h⟩
        dsimp only at eb0
        refine joinI ?_
        refine dr h fun _ h => ?_
        refine brD (fun eb4 => by exfalso; omega) (fun eb4 => ?_)
        dsimp only at eb4
        refine heldS h .nil ?_
        refine dr h fun _ h => ?_
        refine ⟨h.sxs .nil (.refl _), ?_⟩
        refine ⟨by omega, ?_⟩
        refine ⟨by omega, ?_⟩
        refine ⟨?_, ?_⟩
        refine new h fun er5 _ h => ?_
        have h := h.asA (B := blk er5 (.cells #[] 32 (0, 0))) (by kernel_rfl)
        refine ⟨h.sxs .nil (.refl _), ?_⟩
        refine ⟨?_, ?_⟩
        (exfalso; omega)
        refine new h fun er6 _ h => ?_
        have h := h.asA (B := blk er6 (.cells #[Value.slice cy2.p cy2.len cy2.cap] 32 (0, 0))) (by kernel_rfl)
        refine ⟨h.sxs .nil (.refl _), ?_⟩
        (exfalso; omega)
        refine new h fun er7 _ h => ?_
        have h := h.asA (B := blk er7 (.cells #[Value.slice cy2.p cy2.len cy2.cap] 32 (0, 0))) (by kernel_rfl)
        refine ⟨h.sxs .nil (.refl _), ?_⟩
        refine new h fun er8 _ h => ?_
        have h := h.asA (B := blk er8 (.cells #[] 32 (0, 0))) (by kernel_rfl)
        refine ⟨h.sxs .nil (.refl _), ?_⟩
        (exfalso; omega)
      · have hjj : j = posR acc b := by omega
        have hat := posR_at acc b
        have hs1 := ho.sub (l := 0) (n := posR acc b) (Nat.zero_le _) (by omega)
        rw [List.drop_zero, Nat.sub_zero] at hs1
        have hs2 := ho.sub (l := posR acc b) (n := o.len) (by omega) (Nat.le_refl _)
        have e2 : (acc.drop (posR acc b)).take (o.len - posR acc b) = acc.drop (posR acc b) := List.take_of_length_le (by rw [List.length_drop]; omega)
        rw [e2] at hs2
        have hi0 : ¬ acc[posR acc b]? = some b → insR acc b = acc.take (posR acc b) ++ [b] ++ acc.drop (posR acc b) := fun hne => by unfold insR; rw [if_neg hb, if_neg hne]
        have hi1 : acc[posR acc b]? = some b → insR acc b = acc := fun he => by unfold insR; rw [if_neg hb, if_pos he]
        have hl1 : (acc.take (posR acc b)).length = posR acc b := by rw [List.length_take]; omega
        have hl2 : (acc.drop (posR acc b)).length = acc.length - posR acc b := List.length_drop
        rw [hjj]
        generalize posR acc b = q at *
        subst hjj
        by_cases hlen : j < acc.length
        · obtain ⟨y, ey⟩ := get_lt hlen
          have hny := hat y ey
          by_cases hyb : y = b
          · subst hyb
            rw [hi1 ey] at htk
            refine joinI ?_
            refine dr h fun _ h => ?_
            refine brD (fun fb0 => ?_) (fun fb0 => ?_)
            dsimp only at fb0
            refine ⟨by dsimp only; omega, ?_⟩
            refine nnL h ho (fun fa1 fha1 => ?_)
            dsimp only at fha1
            refine ldL h ho fha1 ey (fun fy2 fhy2 => ?_)
            have fhy2 : Bytes _ fy2 y := fhy2
            obtain ⟨lfhy2, mfhy2, cfhy2⟩ := fhy2.lens
            refine btoS h fhy2 ?_
            refine btoS h chy2 ?_
            refine brSl (fun fb3 => by exfalso; omega) (fun fb3 => ?_)
            refine joinI ?_
            refine dr h fun _ h => ?_
            refine brD (fun fb4 => ?_) (fun fb4 => ?_)
            dsimp only at fb4
            refine ⟨by dsimp only; omega, ?_⟩
            refine ⟨_, fha1, ?_⟩
            refine ldL h ho fha1 ey (fun fy5 fhy5 => ?_)
            have fhy5 : Bytes _ fy5 y := fhy5
            obtain ⟨lfhy5, mfhy5, cfhy5⟩ := fhy5.lens
            refine btoS h fhy5 ?_
            refine btoS h chy2 ?_
            refine brS (fun fb6 => ?_) (fun fb6 => absurd rfl fb6)
            refine wrN (i + 1) ?_
            refine ⟨_, (by first | omega | rfl | (dsimp only; omega)), _, _, _, _, rfl, (by first | omega | rfl | (dsimp only; omega)), rfl, rfl, ?_, g3, ?_, h⟩
            rotate_left
            rotate_left
            dsimp only at fb4
            refine heldS h .nil ?_
            refine dr h fun _ h => ?_
            refine ⟨h.sxs .nil (.refl _), ?_⟩
            refine ⟨by omega, ?_⟩
            refine ⟨by omega, ?_⟩
            refine ⟨?_, ?_⟩
            refine new h fun fr7 _ h => ?_
            have h := h.asA (B := blk fr7 (.cells #[] 32 (0, 0))) (by kernel_rfl)
            refine ⟨h.sxs .nil (.refl _), ?_⟩
            refine ⟨?_, ?_⟩
            have h := (h.pick .n0).olEmpty (E := eBytes)
            refine appL slSlice h .n0 hs1 (fun fs8 _ fl8 h => ?_)
            dsimp only at fl8
            refine ⟨h.sxs .nil (.refl _), ?_⟩
            refine new h fun fr9 _ h => ?_
            have h := h.asA (B := blk fr9 (.cells #[Value.slice cy2.p cy2.len cy2.cap] 32 (0, 0))) (by kernel_rfl)
            refine ⟨h.sxs .nil (.refl _), ?_⟩
            refine app1 _ _ slSlice h .n0 chy2 (fun fs10 _ fl10 h => ?_)
            refine ⟨h.sxs .nil (.refl _), ?_⟩
            refine appL slSlice h .n0 hs2 (fun fs11 _ fl11 h => ?_)
            refine heldS h (.cons .n0 .nil) ?_
            refine ⟨h.sxs (.cons .n0 .nil) (.refl _), ?_⟩
            refine wrN (i + 1) ?_
            refine ⟨_, (by first | omega | rfl | (dsimp only; omega)), _, _, _, _, rfl, (by first | omega | rfl | (dsimp only; omega)), rfl, rfl, (by first | omega | rfl | (dsimp only; omega)), g3, (by first | omega | rfl | (dsimp only; omega)), h.drop⟩
            refine new h fun fr12 _ h => ?_
            have h := h.asA (B := blk fr12 (.cells #[Value.slice cy2.p cy2.len cy2.cap] 32 (0, 0))) (by kernel_rfl)
            refine ⟨h.sxs .nil (.refl _), ?_⟩
            have h := (h.pick .n1).olEmpty (E := eBytes)
            refine appL slSlice h .n0 hs1 (fun fs13 _ fl13 h => ?_)
            dsimp only at fl13
            refine ⟨h.sxs .nil (.refl _), ?_⟩
            (exfalso; omega)
            refine new h fun fr15 _ h => ?_
            have h := h.asA (B := blk fr15 (.cells #[Value.slice cy2.p cy2.len cy2.cap] 32 (0, 0))) (by kernel_rfl)
            refine ⟨h.sxs .nil (.refl _), ?_⟩
            refine new h fun fr16 _ h => ?_
            have h := h.asA (B := blk fr16 (.cells #[] 32 (0, 0))) (by kernel_rfl)
            refine ⟨h.sxs .nil (.refl _), ?_⟩
            have h := (h.pick .n0).olEmpty (E := eBytes)
            refine appL slSlice h .n0 hs1 (fun fs17 _ fl17 h => ?_)
            dsimp only at fl17
            refine ⟨h.sxs .nil (.refl _), ?_⟩
            (exfalso; omega)
            dsimp only at fb0
            refine joinI ?_
            refine dr h fun _ h => ?_
            refine brD (fun fb19 => by exfalso; omega) (fun fb19 => ?_)
            dsimp only at fb19
            refine heldS h .nil ?_
            refine dr h fun _ h => ?_
            refine ⟨h.sxs .nil (.refl _), ?_⟩
            refine ⟨by omega, ?_⟩
            refine ⟨by omega, ?_⟩
            refine ⟨?_, ?_⟩
            refine new h fun fr20 _ h => ?_
            have h := h.asA (B := blk fr20 (.cells #[] 32 (0, 0))) (by kernel_rfl)
            refine ⟨h.sxs .nil (.refl _), ?_⟩
            refine ⟨?_, ?_⟩
            have h := (h.pick .n0).olEmpty (E := eBytes)
            refine appL slSlice h .n0 hs1 (fun fs21 _ fl21 h => ?_)
            dsimp only at fl21
            refine ⟨h.sxs .nil (.refl _), ?_⟩
            refine new h fun fr22 _ h => ?_
            have h := h.asA (B := blk fr22 (.cells #[Value.slice cy2.p cy2.len cy2.cap] 32 (0, 0))) (by kernel_rfl)
            refine ⟨h.sxs .nil (.refl _), ?_⟩
            refine app1 _ _ slSlice h .n0 chy2 (fun fs23 _ fl23 h => ?_)
            refine ⟨h.sxs .nil (.refl _), ?_⟩
            refine appL slSlice h .n0 hs2 (fun fs24 _ fl24 h => ?_)
            refine heldS h (.cons .n0 .nil) ?_
            refine ⟨h.sxs (.cons .n0 .nil) (.refl _), ?_⟩
            refine wrN (i + 1) ?_
            refine ⟨_, (by first | omega | rfl | (dsimp only; omega)), _, _, _, _, rfl, (by first | omega | rfl | (dsimp only; omega)), rfl, rfl, (by first | omega | rfl | (dsimp only; omega)), g3, (by first | omega | rfl | (dsimp only; omega)), h.drop⟩
            refine new h fun fr25 _ h => ?_
            have h := h.asA (B := blk fr25 (.cells #[Value.slice cy2.p cy2.len cy2.cap] 32 (0, 0))) (by kernel_rfl)
            refine ⟨h.sxs .nil (.refl _), ?_⟩
            have h := (h.pick .n1).olEmpty (E := eBytes)
            refine appL slSlice h .n0 hs1 (fun fs26 _ fl26 h => ?_)
            dsimp only at fl26
            refine ⟨h.sxs .nil (.refl _), ?_⟩
            (exfalso; omega)
            refine new h fun fr28 _ h => ?_
            have h := h.asA (B := blk fr28 (.cells #[Value.slice cy2.p cy2.len cy2.cap] 32 (0, 0))) (by kernel_rfl)
            refine ⟨h.sxs .nil (.refl _), ?_⟩
            refine new h fun fr29 _ h => ?_
            have h := h.asA (B := blk fr29 (.cells #[] 32 (0, 0))) (by kernel_rfl)
            refine ⟨h.sxs .nil (.refl _), ?_⟩
            have h := (h.pick .n0).olEmpty (E := eBytes)
            refine appL slSlice h .n0 hs1 (fun fs30 _ fl30 h => ?_)
            dsimp only at fl30
            refine ⟨h.sxs .nil (.refl _), ?_⟩
            (exfalso; omega)
            · rw [htk]; exact Nat.le_succ_of_le hal
            · rw [htk]; exact ho
          · rw [hi0 (by rw [ey]; intro h; cases h; exact hyb rfl)] at htk
            have htk2 : ((fewB l).take (i + 1)).foldl insR [] = [] ++ acc.take j ++ [b] ++ acc.drop j := htk
            refine joinI ?_
            refine dr h fun _ h => ?_
            refine brD (fun gb0 => ?_) (fun gb0 => ?_)
            dsimp only at gb0
            refine ⟨by dsimp only; omega, ?_⟩
            refine nnL h ho (fun ga1 gha1 => ?_)
            dsimp only at gha1
            refine ldL h ho gha1 ey (fun gy2 ghy2 => ?_)
            have ghy2 : Bytes _ gy2 y := ghy2
            obtain ⟨lghy2, mghy2, cghy2⟩ := ghy2.lens
            refine btoS h ghy2 ?_
            refine btoS h chy2 ?_
            refine brSl (fun gb3 => by exfalso; omega) (fun gb3 => ?_)
            refine joinI ?_
            refine dr h fun _ h => ?_
            refine brD (fun gb4 => ?_) (fun gb4 => ?_)
            dsimp only at gb4
            refine ⟨by dsimp only; omega, ?_⟩
            refine ⟨_, gha1, ?_⟩
            refine ldL h ho gha1 ey (fun gy5 ghy5 => ?_)
            have ghy5 : Bytes _ gy5 y := ghy5
            obtain ⟨lghy5, mghy5, cghy5⟩ := ghy5.lens
            refine btoS h ghy5 ?_
            refine btoS h chy2 ?_
            refine brS (fun gb6 => ?_) (fun gb6 => ?_)
            refine wrN (i + 1) ?_
            refine ⟨_, (by first | omega | rfl | (dsimp only; omega)), _, _, _, _, rfl, (by first | omega | rfl | (dsimp only; omega)), rfl, rfl, ?_, g3, ?_, h⟩
            contradiction
            contradiction
            refine heldS h .nil ?_
            refine dr h fun _ h => ?_
            refine ⟨h.sxs .nil (.refl _), ?_⟩
            refine ⟨by dsimp only; omega, ?_⟩
            refine ⟨by dsimp only; omega, ?_⟩
            refine ⟨?_, ?_⟩
            refine new h fun gr7 _ h => ?_
            have h := h.asA (B := blk gr7 (.cells #[] 32 (0, 0))) (by kernel_rfl)
            refine ⟨h.sxs .nil (.refl _), ?_⟩
            refine ⟨?_, ?_⟩
            have h := (h.pick .n0).olEmpty (E := eBytes)
            refine appL slSlice h .n0 hs1 (fun gs8 _ gl8 h => ?_)
            dsimp only at gl8
            refine ⟨h.sxs .nil (.refl _), ?_⟩
            refine new h fun gr9 _ h => ?_
            have h := h.asA (B := blk gr9 (.cells #[Value.slice cy2.p cy2.len cy2.cap] 32 (0, 0))) (by kernel_rfl)
            refine ⟨h.sxs .nil (.refl _), ?_⟩
            refine app1 _ _ slSlice h .n0 chy2 (fun gs10 _ gl10 h => ?_)
            refine ⟨h.sxs .nil (.refl _), ?_⟩
            refine appL slSlice h .n0 hs2 (fun gs11 _ gl11 h => ?_)
            refine heldS h (.cons .n0 .nil) ?_
            refine ⟨h.sxs (.cons .n0 .nil) (.refl _), ?_⟩
            refine wrN (i + 1) ?_
            obtain ⟨gΓ12, gg12, gf12, h⟩ := h.olFreeze .n0 (by have hol := h.olLen .n0; first | omega | (dsimp only; omega) | (simp at hol; omega))
            have ho := ho.mono gg12
            have af5 := af5.mono gg12
            have hl := hl.mono gg12
            have chy2 := chy2.mono gg12
            have hs1 := hs1.mono gg12
            have hs2 := hs2.mono gg12
            have ghy2 := ghy2.mono gg12
            have ghy5 := ghy5.mono gg12
            refine ⟨_, (by first | omega | rfl | (dsimp only; omega)), _, _, _, _, rfl, (by first | omega | rfl | (dsimp only; omega)), rfl, rfl, ?_, (g3.trans gg12), ?_, h⟩
            rotate_left
            rotate_left
            refine new h fun gr13 _ h => ?_
            have h := h.asA (B := blk gr13 (.cells #[Value.slice cy2.p cy2.len cy2.cap] 32 (0, 0))) (by kernel_rfl)
            refine ⟨h.sxs .nil (.refl _), ?_⟩
            have h := (h.pick .n1).olEmpty (E := eBytes)
            refine appL slSlice h .n0 hs1 (fun gs14 _ gl14 h => ?_)
            dsimp only at gl14
            refine ⟨h.sxs .nil (.refl _), ?_⟩
            have h := h.pick .n1
            refine app1 _ _ slSlice h .n0 chy2 (fun gs16 _ gl16 h => ?_)
            refine ⟨h.sxs .nil (.refl _), ?_⟩
            refine appL slSlice h .n0 hs2 (fun gs17 _ gl17 h => ?_)
            refine heldS h (.cons .n0 .nil) ?_
            refine ⟨h.sxs (.cons .n0 .nil) (.refl _), ?_⟩
            refine wrN (i + 1) ?_
            obtain ⟨gΓ18, gg18, gf18, h⟩ := h.olFreeze .n0 (by have hol := h.olLen .n0; first | omega | (dsimp only; omega) | (simp at hol; omega))
            have ho := ho.mono gg18
            have af5 := af5.mono gg18
            have hl := hl.mono gg18
            have chy2 := chy2.mono gg18
            have hs1 := hs1.mono gg18
            have hs2 := hs2.mono gg18
            have ghy2 := ghy2.mono gg18
            have ghy5 := ghy5.mono gg18
            refine ⟨_, (by first | omega | rfl | (dsimp only; omega)), _, _, _, _, rfl, (by first | omega | rfl | (dsimp only; omega)), rfl, rfl, ?_, (g3.trans gg18), ?_, h⟩
            rotate_left
            rotate_left
            refine new h fun gr19 _ h => ?_
            have h := h.asA (B := blk gr19 (.cells #[Value.slice cy2.p cy2.len cy2.cap] 32 (0, 0))) (by kernel_rfl)
            refine ⟨h.sxs .nil (.refl _), ?_⟩
            refine new h fun gr20 _ h => ?_
            have h := h.asA (B := blk gr20 (.cells #[] 32 (0, 0))) (by kernel_rfl)
            refine ⟨h.sxs .nil (.refl _), ?_⟩
            have h := (h.pick .n0).olEmpty (E := eBytes)
            refine appL slSlice h .n0 hs1 (fun gs21 _ gl21 h => ?_)
            dsimp only at gl21
            refine ⟨h.sxs .nil (.refl _), ?_⟩
            have h := h.pick .n1
            refine app1 _ _ slSlice h .n0 chy2 (fun gs23 _ gl23 h => ?_)
            refine ⟨h.sxs .nil (.refl _), ?_⟩
            refine appL slSlice h .n0 hs2 (fun gs24 _ gl24 h => ?_)
            refine heldS h (.cons .n0 .nil) ?_
            refine ⟨h.sxs (.cons .n0 .nil) (.refl _), ?_⟩
            refine wrN (i + 1) ?_
            obtain ⟨gΓ25, gg25, gf25, h⟩ := h.olFreeze .n0 (by have hol := h.olLen .n0; first | omega | (dsimp only; omega) | (simp at hol; omega))
            have ho := ho.mono gg25
            have af5 := af5.mono gg25
            have hl := hl.mono gg25
            have chy2 := chy2.mono gg25
            have hs1 := hs1.mono gg25
            have hs2 := hs2.mono gg25
            have ghy2 := ghy2.mono gg25
            have ghy5 := ghy5.mono gg25
            refine ⟨_, (by first | omega | rfl | (dsimp only; omega)), _, _, _, _, rfl, (by first | omega | rfl | (dsimp only; omega)), rfl, rfl, ?_, (g3.trans gg25), ?_, h⟩
            rotate_left
            rotate_left
            dsimp only at gb4
            refine heldS h .nil ?_
            refine dr h fun _ h => ?_
            refine ⟨h.sxs .nil (.refl _), ?_⟩
            refine ⟨by omega, ?_⟩
            refine ⟨by omega, ?_⟩
            refine ⟨?_, ?_⟩
            refine new h fun gr26 _ h => ?_
            have h := h.asA (B := blk gr26 (.cells #[] 32 (0, 0))) (by kernel_rfl)
            refine ⟨h.sxs .nil (.refl _), ?_⟩
            refine ⟨?_, ?_⟩
            have h := (h.pick .n0).olEmpty (E := eBytes)
            refine appL slSlice h .n0 hs1 (fun gs27 _ gl27 h => ?_)
            dsimp only at gl27
            refine ⟨h.sxs .nil (.refl _), ?_⟩
            refine new h fun gr28 _ h => ?_
            have h := h.asA (B := blk gr28 (.cells #[Value.slice cy2.p cy2.len cy2.cap] 32 (0, 0))) (by kernel_rfl)
            refine ⟨h.sxs .nil (.refl _), ?_⟩
            refine app1 _ _ slSlice h .n0 chy2 (fun gs29 _ gl29 h => ?_)
            refine ⟨h.sxs .nil (.refl _), ?_⟩
            refine appL slSlice h .n0 hs2 (fun gs30 _ gl30 h => ?_)
            refine heldS h (.cons .n0 .nil) ?_
            refine ⟨h.sxs (.cons .n0 .nil) (.refl _), ?_⟩
            refine wrN (i + 1) ?_
            obtain ⟨gΓ31, gg31, gf31, h⟩ := h.olFreeze .n0 (by have hol := h.olLen .n0; first | omega | (dsimp only; omega) | (simp at hol; omega))
            have ho := ho.mono gg31
            have af5 := af5.mono gg31
            have hl := hl.mono gg31
            have chy2 := chy2.mono gg31
            have hs1 := hs1.mono gg31
            have hs2 := hs2.mono gg31
            have ghy2 := ghy2.mono gg31
            refine ⟨_, (by first | omega | rfl | (dsimp only; omega)), _, _, _, _, rfl, (by first | omega | rfl | (dsimp only; omega)), rfl, rfl, (by first | omega | rfl | (dsimp only; omega)), (g3.trans gg31), (by first | omega | rfl | (dsimp only; omega)), h⟩
            refine new h fun gr32 _ h => ?_
            have h := h.asA (B := blk gr32 (.cells #[Value.slice cy2.p cy2.len cy2.cap] 32 (0, 0))) (by kernel_rfl)
            refine ⟨h.sxs .nil (.refl _), ?_⟩
            have h := (h.pick .n1).olEmpty (E := eBytes)
            refine appL slSlice h .n0 hs1 (fun gs33 _ gl33 h => ?_)
            dsimp only at gl33
            refine ⟨h.sxs .nil (.refl _), ?_⟩
            have h := h.pick .n1
            refine app1 _ _ slSlice h .n0 chy2 (fun gs35 _ gl35 h => ?_)
            refine ⟨h.sxs .nil (.refl _), ?_⟩
            refine appL slSlice h .n0 hs2 (fun gs36 _ gl36 h => ?_)
            refine heldS h (.cons .n0 .nil) ?_
            refine ⟨h.sxs (.cons .n0 .nil) (.refl _), ?_⟩
            refine wrN (i + 1) ?_
            obtain ⟨gΓ37, gg37, gf37, h⟩ := h.olFreeze .n0 (by have hol := h.olLen .n0; first | omega | (dsimp only; omega) | (simp at hol; omega))
            have ho := ho.mono gg37
            have af5 := af5.mono gg37
            have hl := hl.mono gg37
            have chy2 := chy2.mono gg37
            have hs1 := hs1.mono gg37
            have hs2 := hs2.mono gg37
            have ghy2 := ghy2.mono gg37
            refine ⟨_, (by first | omega | rfl | (dsimp only; omega)), _, _, _, _, rfl, (by first | omega | rfl | (dsimp only; omega)), rfl, rfl, (by first | omega | rfl | (dsimp only; omega)), (g3.trans gg37), (by first | omega | rfl | (dsimp only; omega)), h⟩
            refine new h fun gr38 _ h => ?_
            have h := h.asA (B := blk gr38 (.cells #[Value.slice cy2.p cy2.len cy2.cap] 32 (0, 0))) (by kernel_rfl)
            refine ⟨h.sxs .nil (.refl _), ?_⟩
            refine new h fun gr39 _ h => ?_
            have h := h.asA (B := blk gr39 (.cells #[] 32 (0, 0))) (by kernel_rfl)
            refine ⟨h.sxs .nil (.refl _), ?_⟩
            have h := (h.pick .n0).olEmpty (E := eBytes)
            refine appL slSlice h .n0 hs1 (fun gs40 _ gl40 h => ?_)
            dsimp only at gl40
            refine ⟨h.sxs .nil (.refl _), ?_⟩
            have h := h.pick .n1
            refine app1 _ _ slSlice h .n0 chy2 (fun gs42 _ gl42 h => ?_)
            refine ⟨h.sxs .nil (.refl _), ?_⟩
            refine appL slSlice h .n0 hs2 (fun gs43 _ gl43 h => ?_)
            refine heldS h (.cons .n0 .nil) ?_
            refine ⟨h.sxs (.cons .n0 .nil) (.refl _), ?_⟩
            refine wrN (i + 1) ?_
            obtain ⟨gΓ44, gg44, gf44, h⟩ := h.olFreeze .n0 (by have hol := h.olLen .n0; first | omega | (dsimp only; omega) | (simp at hol; omega))
            have ho := ho.mono gg44
            have af5 := af5.mono gg44
            have hl := hl.mono gg44
            have chy2 := chy2.mono gg44
            have hs1 := hs1.mono gg44
            have hs2 := hs2.mono gg44
            have ghy2 := ghy2.mono gg44
            refine ⟨_, (by first | omega | rfl | (dsimp only; omega)), _, _, _, _, rfl, (by first | omega | rfl | (dsimp only; omega)), rfl, rfl, (by first | omega | rfl | (dsimp only; omega)), (g3.trans gg44), (by first | omega | rfl | (dsimp only; omega)), h⟩
            dsimp only at gb0
            refine joinI ?_
            refine dr h fun _ h => ?_
            refine brD (fun gb45 => by exfalso; omega) (fun gb45 => ?_)
            dsimp only at gb45
            refine heldS h .nil ?_
            refine dr h fun _ h => ?_
            refine ⟨h.sxs .nil (.refl _), ?_⟩
            refine ⟨by omega, ?_⟩
            refine ⟨by omega, ?_⟩
            refine ⟨?_, ?_⟩
            refine new h fun gr46 _ h => ?_
            have h := h.asA (B := blk gr46 (.cells #[] 32 (0, 0))) (by kernel_rfl)
            refine ⟨h.sxs .nil (.refl _), ?_⟩
            refine ⟨?_, ?_⟩
            have h := (h.pick .n0).olEmpty (E := eBytes)
            refine appL slSlice h .n0 hs1 (fun gs47 _ gl47 h => ?_)
            dsimp only at gl47
            refine ⟨h.sxs .nil (.refl _), ?_⟩
            refine new h fun gr48 _ h => ?_
            have h := h.asA (B := blk gr48 (.cells #[Value.slice cy2.p cy2.len cy2.cap] 32 (0, 0))) (by kernel_rfl)
            refine ⟨h.sxs .nil (.refl _), ?_⟩
            refine app1 _ _ slSlice h .n0 chy2 (fun gs49 _ gl49 h => ?_)
            refine ⟨h.sxs .nil (.refl _), ?_⟩
            refine appL slSlice h .n0 hs2 (fun gs50 _ gl50 h => ?_)
            refine heldS h (.cons .n0 .nil) ?_
            refine ⟨h.sxs (.cons .n0 .nil) (.refl _), ?_⟩
            refine wrN (i + 1) ?_
            obtain ⟨gΓ51, gg51, gf51, h⟩ := h.olFreeze .n0 (by have hol := h.olLen .n0; first | omega | (dsimp only; omega) | (simp at hol; omega))
            have ho := ho.mono gg51
            have af5 := af5.mono gg51
            have hl := hl.mono gg51
            have chy2 := chy2.mono gg51
            have hs1 := hs1.mono gg51
            have hs2 := hs2.mono gg51
            refine ⟨_, (by first | omega | rfl | (dsimp only; omega)), _, _, _, _, rfl, (by first | omega | rfl | (dsimp only; omega)), rfl, rfl, (by first | omega | rfl | (dsimp only; omega)), (g3.trans gg51), (by first | omega | rfl | (dsimp only; omega)), h⟩
            refine new h fun gr52 _ h => ?_
            have h := h.asA (B := blk gr52 (.cells #[Value.slice cy2.p cy2.len cy2.cap] 32 (0, 0))) (by kernel_rfl)
            refine ⟨h.sxs .nil (.refl _), ?_⟩
            have h := (h.pick .n1).olEmpty (E := eBytes)
            refine appL slSlice h .n0 hs1 (fun gs53 _ gl53 h => ?_)
            dsimp only at gl53
            refine ⟨h.sxs .nil (.refl _), ?_⟩
            have h := h.pick .n1
            refine app1 _ _ slSlice h .n0 chy2 (fun gs55 _ gl55 h => ?_)
            refine ⟨h.sxs .nil (.refl _), ?_⟩
            refine appL slSlice h .n0 hs2 (fun gs56 _ gl56 h => ?_)
            refine heldS h (.cons .n0 .nil) ?_
            refine ⟨h.sxs (.cons .n0 .nil) (.refl _), ?_⟩
            refine wrN (i + 1) ?_
            obtain ⟨gΓ57, gg57, gf57, h⟩ := h.olFreeze .n0 (by have hol := h.olLen .n0; first | omega | (dsimp only; omega) | (simp at hol; omega))
            have ho := ho.mono gg57
            have af5 := af5.mono gg57
            have hl := hl.mono gg57
            have chy2 := chy2.mono gg57
            have hs1 := hs1.mono gg57
            have hs2 := hs2.mono gg57
            refine ⟨_, (by first | omega | rfl | (dsimp only; omega)), _, _, _, _, rfl, (by first | omega | rfl | (dsimp only; omega)), rfl, rfl, (by first | omega | rfl | (dsimp only; omega)), (g3.trans gg57), (by first | omega | rfl | (dsimp only; omega)), h⟩
            refine new h fun gr58 _ h => ?_
            have h := h.asA (B := blk gr58 (.cells #[Value.slice cy2.p cy2.len cy2.cap] 32 (0, 0))) (by kernel_rfl)
            refine ⟨h.sxs .nil (.refl _), ?_⟩
            refine new h fun gr59 _ h => ?_
            have h := h.asA (B := blk gr59 (.cells #[] 32 (0, 0))) (by kernel_rfl)
            refine ⟨h.sxs .nil (.refl _), ?_⟩
            have h := (h.pick .n0).olEmpty (E := eBytes)
            refine appL slSlice h .n0 hs1 (fun gs60 _ gl60 h => ?_)
            dsimp only at gl60
            refine ⟨h.sxs .nil (.refl _), ?_⟩
            have h := h.pick .n1
            refine app1 _ _ slSlice h .n0 chy2 (fun gs62 _ gl62 h => ?_)
            refine ⟨h.sxs .nil (.refl _), ?_⟩
            refine appL slSlice h .n0 hs2 (fun gs63 _ gl63 h => ?_)
            refine heldS h (.cons .n0 .nil) ?_
            refine ⟨h.sxs (.cons .n0 .nil) (.refl _), ?_⟩
            refine wrN (i + 1) ?_
            obtain ⟨gΓ64, gg64, gf64, h⟩ := h.olFreeze .n0 (by have hol := h.olLen .n0; first | omega | (dsimp only; omega) | (simp at hol; omega))
            have ho := ho.mono gg64
            have af5 := af5.mono gg64
            have hl := hl.mono gg64
            have chy2 := chy2.mono gg64
            have hs1 := hs1.mono gg64
            have hs2 := hs2.mono gg64
            refine ⟨_, (by first | omega | rfl | (dsimp only; omega)), _, _, _, _, rfl, (by first | omega | rfl | (dsimp only; omega)), rfl, rfl, (by first | omega | rfl | (dsimp only; omega)), (g3.trans gg64), (by first | omega | rfl | (dsimp only; omega)), h⟩
            · show List.length _ ≤ _
              rw [htk]; simp only [List.length_append, List.length_singleton, hl1, hl2]; omega
            · show Lst eBytes _ _ _
              rw [htk2]; assumption
            · show List.length _ ≤ _
              rw [htk]; simp only [List.length_append, List.length_singleton, hl1, hl2]; omega
            · show Lst eBytes _ _ _
              rw [htk2]; assumption
            · show List.length _ ≤ _
              rw [htk]; simp only [List.length_append, List.length_singleton, hl1, hl2]; omega
            · show Lst eBytes _ _ _
              rw [htk2]; assumption
        · rw [hi0 (by rw [List.getElem?_eq_none (by omega)]; intro h; cases h)] at htk
          have htk2 : ((fewB l).take (i + 1)).foldl insR [] = [] ++ acc.take j ++ [b] ++ acc.drop j := htk
          refine joinI ?_
          refine dr h fun _ h => ?_
          refine brD (fun ib0 => ?_) (fun ib0 => ?_)
          dsimp only at ib0
          refine ⟨by omega, ?_⟩
          refine nnL h ho (fun ia1 iha1 => ?_)
          dsimp only at iha1
          refine ldL' h ho iha1 (i := j) (fun ix2 ie2 iy2 ihy2 => ?_)
          have ihy2 : Bytes _ iy2 ix2 := ihy2
          obtain ⟨lihy2, mihy2, cihy2⟩ := ihy2.lens
          refine btoS h ihy2 ?_
          refine btoS h chy2 ?_
          refine brSl (fun ib3 => by exfalso; omega) (fun ib3 => ?_)
          refine joinI ?_
          refine dr h fun _ h => ?_
          refine brD (fun ib4 => by exfalso; omega) (fun ib4 => ?_)
          dsimp only at ib4
          refine heldS h .nil ?_
          refine dr h fun _ h => ?_
          refine ⟨h.sxs .nil (.refl _), ?_⟩
          refine ⟨by omega, ?_⟩
          refine ⟨by omega, ?_⟩
          refine ⟨?_, ?_⟩
          refine new h fun ir5 _ h => ?_
          have h := h.asA (B := blk ir5 (.cells #[] 32 (0, 0))) (by kernel_rfl)
          refine ⟨h.sxs .nil (.refl _), ?_⟩
          refine ⟨?_, ?_⟩
          have h := (h.pick .n0).olEmpty (E := eBytes)
          refine appL slSlice h .n0 hs1 (fun is6 _ il6 h => ?_)
          dsimp only at il6
          refine ⟨h.sxs .nil (.refl _), ?_⟩
          refine new h fun ir7 _ h => ?_
          have h := h.asA (B := blk ir7 (.cells #[Value.slice cy2.p cy2.len cy2.cap] 32 (0, 0))) (by kernel_rfl)
          refine ⟨h.sxs .nil (.refl _), ?_⟩
          refine app1 _ _ slSlice h .n0 chy2 (fun is8 _ il8 h => ?_)
          refine ⟨h.sxs .nil (.refl _), ?_⟩
          refine appL slSlice h .n0 hs2 (fun is9 _ il9 h => ?_)
          refine heldS h (.cons .n0 .nil) ?_
          refine ⟨h.sxs (.cons .n0 .nil) (.refl _), ?_⟩
          refine wrN (i + 1) ?_
          obtain ⟨iΓ10, ig10, if10, h⟩ := h.olFreeze .n0 (by have hol := h.olLen .n0; first | omega | (dsimp only; omega) | (simp at hol; omega))
          have ho := ho.mono ig10
          have af5 := af5.mono ig10
          have hl := hl.mono ig10
          have chy2 := chy2.mono ig10
          have hs1 := hs1.mono ig10
          have hs2 := hs2.mono ig10
          have ihy2 := ihy2.mono ig10
          refine ⟨_, (by first | omega | rfl | (dsimp only; omega)), _, _, _, _, rfl, (by first | omega | rfl | (dsimp only; omega)), rfl, rfl, (by first | omega | rfl | (dsimp only; omega)), (g3.trans ig10), (by first | omega | rfl | (dsimp only; omega)), h⟩
          refine new h fun ir11 _ h => ?_
          have h := h.asA (B := blk ir11 (.cells #[Value.slice cy2.p cy2.len cy2.cap] 32 (0, 0))) (by kernel_rfl)
          refine ⟨h.sxs .nil (.refl _), ?_⟩
          have h := (h.pick .n1).olEmpty (E := eBytes)
          refine appL slSlice h .n0 hs1 (fun is12 _ il12 h => ?_)
          dsimp only at il12
          refine ⟨h.sxs .nil (.refl _), ?_⟩
          have h := h.pick .n1
          refine app1 _ _ slSlice h .n0 chy2 (fun is14 _ il14 h => ?_)
          refine ⟨h.sxs .nil (.refl _), ?_⟩
          refine appL slSlice h .n0 hs2 (fun is15 _ il15 h => ?_)
          refine heldS h (.cons .n0 .nil) ?_
          refine ⟨h.sxs (.cons .n0 .nil) (.refl _), ?_⟩
          refine wrN (i + 1) ?_
          obtain ⟨iΓ16, ig16, if16, h⟩ := h.olFreeze .n0 (by have hol := h.olLen .n0; first | omega | (dsimp only; omega) | (simp at hol; omega))
          have ho := ho.mono ig16
          have af5 := af5.mono ig16
          have hl := hl.mono ig16
          have chy2 := chy2.mono ig16
          have hs1 := hs1.mono ig16
          have hs2 := hs2.mono ig16
          have ihy2 := ihy2.mono ig16
          refine ⟨_, (by first | omega | rfl | (dsimp only; omega)), _, _, _, _, rfl, (by first | omega | rfl | (dsimp only; omega)), rfl, rfl, (by first | omega | rfl | (dsimp only; omega)), (g3.trans ig16), (by first | omega | rfl | (dsimp only; omega)), h⟩
          refine new h fun ir17 _ h => ?_
          have h := h.asA (B := blk ir17 (.cells #[Value.slice cy2.p cy2.len cy2.cap] 32 (0, 0))) (by kernel_rfl)
          refine ⟨h.sxs .nil (.refl _), ?_⟩
          refine new h fun ir18 _ h => ?_
          have h := h.asA (B := blk ir18 (.cells #[] 32 (0, 0))) (by kernel_rfl)
          refine ⟨h.sxs .nil (.refl _), ?_⟩
          have h := (h.pick .n0).olEmpty (E := eBytes)
          refine appL slSlice h .n0 hs1 (fun is19 _ il19 h => ?_)
          dsimp only at il19
          refine ⟨h.sxs .nil (.refl _), ?_⟩
          have h := h.pick .n1
          refine app1 _ _ slSlice h .n0 chy2 (fun is21 _ il21 h => ?_)
          refine ⟨h.sxs .nil (.refl _), ?_⟩
          refine appL slSlice h .n0 hs2 (fun is22 _ il22 h => ?_)
          refine heldS h (.cons .n0 .nil) ?_
          refine ⟨h.sxs (.cons .n0 .nil) (.refl _), ?_⟩
          refine wrN (i + 1) ?_
          obtain ⟨iΓ23, ig23, if23, h⟩ := h.olFreeze .n0 (by have hol := h.olLen .n0; first | omega | (dsimp only; omega) | (simp at hol; omega))
          have ho := ho.mono ig23
          have af5 := af5.mono ig23
          have hl := hl.mono ig23
          have chy2 := chy2.mono ig23
          have hs1 := hs1.mono ig23
          have hs2 := hs2.mono ig23
          have ihy2 := ihy2.mono ig23
          refine ⟨_, (by first | omega | rfl | (dsimp only; omega)), _, _, _, _, rfl, (by first | omega | rfl | (dsimp only; omega)), rfl, rfl, (by first | omega | rfl | (dsimp only; omega)), (g3.trans ig23), (by first | omega | rfl | (dsimp only; omega)), h⟩
          dsimp only at ib0
          refine joinI ?_
          refine dr h fun _ h => ?_
          refine brD (fun ib24 => ?_) (fun ib24 => ?_)
          dsimp only at ib24
          refine ⟨by omega, ?_⟩
          refine nnL h ho (fun ia25 iha25 => ?_)
          dsimp only at iha25
          refine ldL' h ho iha25 (i := j) (fun ix26 ie26 iy26 ihy26 => ?_)
          have ihy26 : Bytes _ iy26 ix26 := ihy26
          obtain ⟨lihy26, mihy26, cihy26⟩ := ihy26.lens
          refine btoS h ihy26 ?_
          refine btoS h chy2 ?_
          refine brS (fun ib27 => ?_) (fun ib27 => ?_)
          refine wrN (i + 1) ?_
          refine ⟨_, (by first | omega | rfl | (dsimp only; omega)), _, _, _, _, rfl, (by first | omega | rfl | (dsimp only; omega)), rfl, rfl, (by first | omega | rfl | (dsimp only; omega)), g3, (by first | omega | rfl | (dsimp only; omega)), h⟩
          refine heldS h .nil ?_
          refine dr h fun _ h => ?_
          refine ⟨h.sxs .nil (.refl _), ?_⟩
          refine ⟨by omega, ?_⟩
          refine ⟨by omega, ?_⟩
          refine ⟨?_, ?_⟩
          refine new h fun ir28 _ h => ?_
          have h := h.asA (B := blk ir28 (.cells #[] 32 (0, 0))) (by kernel_rfl)
          refine ⟨h.sxs .nil (.refl _), ?_⟩
          refine ⟨?_, ?_⟩
          have h := (h.pick .n0).olEmpty (E := eBytes)
          refine appL slSlice h .n0 hs1 (fun is29 _ il29 h => ?_)
          dsimp only at il29
          refine ⟨h.sxs .nil (.refl _), ?_⟩
          refine new h fun ir30 _ h => ?_
          have h := h.asA (B := blk ir30 (.cells #[Value.slice cy2.p cy2.len cy2.cap] 32 (0, 0))) (by kernel_rfl)
          refine ⟨h.sxs .nil (.refl _), ?_⟩
          refine app1 _ _ slSlice h .n0 chy2 (fun is31 _ il31 h => ?_)
          refine ⟨h.sxs .nil (.refl _), ?_⟩
          refine appL slSlice h .n0 hs2 (fun is32 _ il32 h => ?_)
          refine heldS h (.cons .n0 .nil) ?_
          refine ⟨h.sxs (.cons .n0 .nil) (.refl _), ?_⟩
          refine wrN (i + 1) ?_
          obtain ⟨iΓ33, ig33, if33, h⟩ := h.olFreeze .n0 (by have hol := h.olLen .n0; first | omega | (dsimp only; omega) | (simp at hol; omega))
          have ho := ho.mono ig33
          have af5 := af5.mono ig33
          have hl := hl.mono ig33
          have chy2 := chy2.mono ig33
          have hs1 := hs1.mono ig33
          have hs2 := hs2.mono ig33
          have ihy26 := ihy26.mono ig33
          refine ⟨_, (by first | omega | rfl | (dsimp only; omega)), _, _, _, _, rfl, (by first | omega | rfl | (dsimp only; omega)), rfl, rfl, (by first | omega | rfl | (dsimp only; omega)), (g3.trans ig33), (by first | omega | rfl | (dsimp only; omega)), h⟩
          refine new h fun ir34 _ h => ?_
          have h := h.asA (B := blk ir34 (.cells #[Value.slice cy2.p cy2.len cy2.cap] 32 (0, 0))) (by kernel_rfl)
          refine ⟨h.sxs .nil (.refl _), ?_⟩
          have h := (h.pick .n1).olEmpty (E := eBytes)
          refine appL slSlice h .n0 hs1 (fun is35 _ il35 h => ?_)
          dsimp only at il35
          refine ⟨h.sxs .nil (.refl _), ?_⟩
          have h := h.pick .n1
          refine app1 _ _ slSlice h .n0 chy2 (fun is37 _ il37 h => ?_)
          refine ⟨h.sxs .nil (.refl _), ?_⟩
          refine appL slSlice h .n0 hs2 (fun is38 _ il38 h => ?_)
          refine heldS h (.cons .n0 .nil) ?_
          refine ⟨h.sxs (.cons .n0 .nil) (.refl _), ?_⟩
          refine wrN (i + 1) ?_
          obtain ⟨iΓ39, ig39, if39, h⟩ := h.olFreeze .n0 (by have hol := h.olLen .n0; first | omega | (dsimp only; omega) | (simp at hol; omega))
          have ho := ho.mono ig39
          have af5 := af5.mono ig39
          have hl := hl.mono ig39
          have chy2 := chy2.mono ig39
          have hs1 := hs1.mono ig39
          have hs2 := hs2.mono ig39
          have ihy26 := ihy26.mono ig39
          refine ⟨_, (by first | omega | rfl | (dsimp only; omega)), _, _, _, _, rfl, (by first | omega | rfl | (dsimp only; omega)), rfl, rfl, (by first | omega | rfl | (dsimp only; omega)), (g3.trans ig39), (by first | omega | rfl | (dsimp only; omega)), h⟩
          refine new h fun ir40 _ h => ?_
          have h := h.asA (B := blk ir40 (.cells #[Value.slice cy2.p cy2.len cy2.cap] 32 (0, 0))) (by kernel_rfl)
          refine ⟨h.sxs .nil (.refl _), ?_⟩
          refine new h fun ir41 _ h => ?_
          have h := h.asA (B := blk ir41 (.cells #[] 32 (0, 0))) (by kernel_rfl)
          refine ⟨h.sxs .nil (.refl _), ?_⟩
          have h := (h.pick .n0).olEmpty (E := eBytes)
          refine appL slSlice h .n0 hs1 (fun is42 _ il42 h => ?_)
          dsimp only at il42
          refine ⟨h.sxs .nil (.refl _), ?_⟩
          have h := h.pick .n1
          refine app1 _ _ slSlice h .n0 chy2 (fun is44 _ il44 h => ?_)
          refine ⟨h.sxs .nil (.refl _), ?_⟩
          refine appL slSlice h .n0 hs2 (fun is45 _ il45 h => ?_)
          refine heldS h (.cons .n0 .nil) ?_
          refine ⟨h.sxs (.cons .n0 .nil) (.refl _), ?_⟩
          refine wrN (i + 1) ?_
          obtain ⟨iΓ46, ig46, if46, h⟩ := h.olFreeze .n0 (by have hol := h.olLen .n0; first | omega | (dsimp only; omega) | (simp at hol; omega))
          have ho := ho.mono ig46
          have af5 := af5.mono ig46
          have hl := hl.mono ig46
          have chy2 := chy2.mono ig46
          have hs1 := hs1.mono ig46
          have hs2 := hs2.mono ig46
          have ihy26 := ihy26.mono ig46
          refine ⟨_, (by first | omega | rfl | (dsimp only; omega)), _, _, _, _, rfl, (by first | omega | rfl | (dsimp only; omega)), rfl, rfl, (by first | omega | rfl | (dsimp only; omega)), (g3.trans ig46), (by first | omega | rfl | (dsimp only; omega)), h⟩
          dsimp only at ib24
          refine heldS h .nil ?_
          refine dr h fun _ h => ?_
          refine ⟨h.sxs .nil (.refl _), ?_⟩
          refine ⟨by dsimp only; omega, ?_⟩
          refine ⟨by dsimp only; omega, ?_⟩
          refine ⟨?_, ?_⟩
          refine new h fun ir47 _ h => ?_
          have h := h.asA (B := blk ir47 (.cells #[] 32 (0, 0))) (by kernel_rfl)
          refine ⟨h.sxs .nil (.refl _), ?_⟩
          refine ⟨?_, ?_⟩
          have h := (h.pick .n0).olEmpty (E := eBytes)
          refine appL slSlice h .n0 hs1 (fun is48 _ il48 h => ?_)
          dsimp only at il48
          refine ⟨h.sxs .nil (.refl _), ?_⟩
          refine new h fun ir49 _ h => ?_
          have h := h.asA (B := blk ir49 (.cells #[Value.slice cy2.p cy2.len cy2.cap] 32 (0, 0))) (by kernel_rfl)
          refine ⟨h.sxs .nil (.refl _), ?_⟩
          refine app1 _ _ slSlice h .n0 chy2 (fun is50 _ il50 h => ?_)
          refine ⟨h.sxs .nil (.refl _), ?_⟩
          refine appL slSlice h .n0 hs2 (fun is51 _ il51 h => ?_)
          refine heldS h (.cons .n0 .nil) ?_
          refine ⟨h.sxs (.cons .n0 .nil) (.refl _), ?_⟩
          refine wrN (i + 1) ?_
          obtain ⟨iΓ52, ig52, if52, h⟩ := h.olFreeze .n0 (by have hol := h.olLen .n0; first | omega | (dsimp only; omega) | (simp at hol; omega))
          have ho := ho.mono ig52
          have af5 := af5.mono ig52
          have hl := hl.mono ig52
          have chy2 := chy2.mono ig52
          have hs1 := hs1.mono ig52
          have hs2 := hs2.mono ig52
          refine ⟨_, (by first | omega | rfl | (dsimp only; omega)), _, _, _, _, rfl, (by first | omega | rfl | (dsimp only; omega)), rfl, rfl, ?_, (g3.trans ig52), ?_, h⟩
          rotate_left
          rotate_left
          refine new h fun ir53 _ h => ?_
          have h := h.asA (B := blk ir53 (.cells #[Value.slice cy2.p cy2.len cy2.cap] 32 (0, 0))) (by kernel_rfl)
          refine ⟨h.sxs .nil (.refl _), ?_⟩
          have h := (h.pick .n1).olEmpty (E := eBytes)
          refine appL slSlice h .n0 hs1 (fun is54 _ il54 h => ?_)
          dsimp only at il54
          refine ⟨h.sxs .nil (.refl _), ?_⟩
          have h := h.pick .n1
          refine app1 _ _ slSlice h .n0 chy2 (fun is56 _ il56 h => ?_)
          refine ⟨h.sxs .nil (.refl _), ?_⟩
          refine appL slSlice h .n0 hs2 (fun is57 _ il57 h => ?_)
          refine heldS h (.cons .n0 .nil) ?_
          refine ⟨h.sxs (.cons .n0 .nil) (.refl _), ?_⟩
          refine wrN (i + 1) ?_
          obtain ⟨iΓ58, ig58, if58, h⟩ := h.olFreeze .n0 (by have hol := h.olLen .n0; first | omega | (dsimp only; omega) | (simp at hol; omega))
          have ho := ho.mono ig58
          have af5 := af5.mono ig58
          have hl := hl.mono ig58
          have chy2 := chy2.mono ig58
          have hs1 := hs1.mono ig58
          have hs2 := hs2.mono ig58
          refine ⟨_, (by first | omega | rfl | (dsimp only; omega)), _, _, _, _, rfl, (by first | omega | rfl | (dsimp only; omega)), rfl, rfl, ?_, (g3.trans ig58), ?_, h⟩
          rotate_left
          rotate_left
          refine new h fun ir59 _ h => ?_
          have h := h.asA (B := blk ir59 (.cells #[Value.slice cy2.p cy2.len cy2.cap] 32 (0, 0))) (by kernel_rfl)
          refine ⟨h.sxs .nil (.refl _), ?_⟩
          refine new h fun ir60 _ h => ?_
          have h := h.asA (B := blk ir60 (.cells #[] 32 (0, 0))) (by kernel_rfl)
          refine ⟨h.sxs .nil (.refl _), ?_⟩
          have h := (h.pick .n0).olEmpty (E := eBytes)
          refine appL slSlice h .n0 hs1 (fun is61 _ il61 h => ?_)
          dsimp only at il61
          refine ⟨h.sxs .nil (.refl _), ?_⟩
          have h := h.pick .n1
          refine app1 _ _ slSlice h .n0 chy2 (fun is63 _ il63 h => ?_)
          refine ⟨h.sxs .nil (.refl _), ?_⟩
          refine appL slSlice h .n0 hs2 (fun is64 _ il64 h => ?_)
          refine heldS h (.cons .n0 .nil) ?_
          refine ⟨h.sxs (.cons .n0 .nil) (.refl _), ?_⟩
          refine wrN (i + 1) ?_
          obtain ⟨iΓ65, ig65, if65, h⟩ := h.olFreeze .n0 (by have hol := h.olLen .n0; first | omega | (dsimp only; omega) | (simp at hol; omega))
          have ho := ho.mono ig65
          have af5 := af5.mono ig65
          have hl := hl.mono ig65
          have chy2 := chy2.mono ig65
          have hs1 := hs1.mono ig65
          have hs2 := hs2.mono ig65
          refine ⟨_, (by first | omega | rfl | (dsimp only; omega)), _, _, _, _, rfl, (by first | omega | rfl | (dsimp only; omega)), rfl, rfl, ?_, (g3.trans ig65), ?_, h⟩
          rotate_left
          rotate_left
          · show List.length _ ≤ _
            rw [htk]; simp only [List.length_append, List.length_singleton, hl1, hl2]; omega
          · show Lst eBytes _ _ _
            rw [htk2]; assumption
          · show List.length _ ≤ _
            rw [htk]; simp only [List.length_append, List.length_singleton, hl1, hl2]; omega
          · show Lst eBytes _ _ _
            rw [htk2]; assumption
          · show List.length _ ≤ _
            rw [htk]; simp only [List.length_append, List.length_singleton, hl1, hl2]; omega
          · show Lst eBytes _ _ _
            rw [htk2]; assumption
  · have hin : i = (fewB l).length := by omega
    rw [hin, List.take_length] at hacc
    have hac2 : acc = riseM l := hacc
    subst hac2
    have hl := hl.mono g3
    obtain ⟨lho, mho, cho⟩ := ho.lens
    refine brD (fun db0 => by exfalso; omega) (fun db0 => ?_)
    dsimp only at db0
    refine ⟨_, rfl, ?_⟩
    refine k _ _ _ (ag4.trans g3) ho h

end Go.Proofs.Ytohoimokfgfceaa.K
