/-
  The program's disk: its calls that reckon with all files.
-/
import Derived.Test.YtocmjngleknlbaaDkU
import Derived.Test.YtocmjngleknlbaaDkS
import Derived.Test.YtocmjngleknlbaaDkC
namespace Go.Proofs.Ytocmjngleknlbaa.K
open Go Go.Proofs
variable {Γ Γ' : Mem} {L L' L'' : List HP} {w w' : World} {A B : HP}
set_option maxRecDepth 100000
set_option maxHeartbeats 4000000

theorem room_ld {a : Nat} {ps : List (Option Nat)} {m : DiskM} {Kp : Int → Prop} (h : Sat Γ L w) (pk : Pick (PDp a ps m) L L') (k : Kp m.room) : Ld (fun w' => w' = w) (.s (.int .i64)) (⟨a, 3, none⟩ : Addr) Kp := by
  obtain ⟨rn, rk, cs, ln, lk, hp, hn, hk, h⟩ := Sat.pdg (h.pick pk)
  exact ld m.room h .n0 k

theorem roomH_ld {L0 : List HP} {a : Nat} {ps : List (Option Nat)} {m : DiskM} {Kp : Int → Prop} (pk : Pick (PDp a ps m) L0 L') (k : Kp m.room) : Ld (Sx Γ L0) (.s (.int .i64)) (⟨a, 3, none⟩ : Addr) Kp := by
  refine ⟨m.room, ?_, k⟩
  rintro w' ⟨Γ', _, h⟩
  obtain ⟨rn, rk, cs, ln, lk, hp, hn, hk, h⟩ := Sat.pdg (h.pick pk)
  exact rd_of h.heap (s := .s (.int .i64)) (x := m.room) (o := 3) rfl

theorem dAppend_ok {a : Nat} {m : DiskM} {s b : Str} {t : Sl} {K : Int → World → Prop} (h : Sat Γ (PDisk a m :: L) w) (hb : Bytes Γ t b) (hg : m.g + b.length < 1000000000000) (k : ∀ Γ' w', Γ.le Γ' → Sat Γ' (PDisk a (m.append s b).1 :: L) w' → K (m.append s b).2 w') :
    CallP Try.prog 43 [.pointer (some ⟨a, 0, none⟩), .string (str s), .slice t.p t.len t.cap] (.one (.s (.int .i64))) K w := by
  obtain ⟨ps, h⟩ := h.pd
  refine callP (fn := Try.f43) [.s (.ptr (some ⟨a, 0, none⟩)), .s (.str (str s)), .s (.sl t)] (.p .n (.p .n (.p (.b (.p .n (.p .n (.p (.h [0, 2, 3, 5, 6, 7, 8, 1, 4, 9, 10] []) .n)))) .n))) nong mixed (by kernel_rfl) (by kernel_rfl) rfl rfl ?_
  refine find_ok h (fun _ hu h => ?_) (fun _ hu hf h => ?_) (fun i b' _ hu hf hi hil h => ?_)
  · rw [DiskM.append_down hu] at k
    have h := h.toPd
    obtain ⟨lhb, mhb, chb⟩ := hb.lens
    refine brT ?_
    refine ⟨_, rfl, ?_⟩
    refine k _ _ (.refl _) h
  · rw [DiskM.append_none hu hf] at k
    have h := h.toPd
    obtain ⟨lhb, mhb, chb⟩ := hb.lens
    refine brT ?_
    refine ⟨_, rfl, ?_⟩
    refine k _ _ (.refl _) h
  · have hg2 : m.tick.g < 1000000000000 := by rw [tick_g]; omega
    have hu2 : m.tick.used ≤ m.g := by
      have := (Sat.pdOK (M := filesL ps m.tick.files) h).wf.used_le
      rw [tick_g] at this
      exact this
    by_cases hr : (m.used : Int) + b.length > m.room
    · rw [DiskM.append_full hu hf hr] at k
      rw [← DiskM.tick_used, ← tick_room] at hr
      obtain ⟨lhb, mhb, chb⟩ := hb.lens
      refine brF ?_
      refine heldS h (.cons .n0 .nil) ?_
      refine dr h fun _ h => ?_
      refine ⟨h.sxs (.cons .n0 .nil) (.refl _), ?_⟩
      refine ⟨_, rfl, ?_⟩
      refine roomH_ld .n0 ?_
      refine dUsed_ok h hg2 (fun _ h => ?_)
      refine ⟨h.sxs (.cons .n0 .nil) (.refl _), ?_⟩
      refine wrN (m.tick.used + t.len) ?_
      refine brD (fun cb4 => ?_) (fun cb4 => by exfalso; omega)
      refine ⟨_, rfl, ?_⟩
      rotate_left
      exact k _ _ (.refl _) h.toPd
    · rw [DiskM.append_some hu hf hr] at k
      rw [← DiskM.tick_used, ← tick_room] at hr
      have hil' : i < m.tick.files.length := by rw [tick_files]; exact hil
      have hfl := (Sat.pdOK (M := filesL ps m.tick.files) h).wf.fileAt_len i
      rw [tick_g] at hfl
      obtain ⟨lhb, mhb, chb⟩ := hb.lens
      refine brF ?_
      refine heldS h (.cons .n0 .nil) ?_
      refine dr h fun _ h => ?_
      refine ⟨h.sxs (.cons .n0 .nil) (.refl _), ?_⟩
      refine ⟨_, rfl, ?_⟩
      refine roomH_ld .n0 ?_
      refine dUsed_ok h hg2 (fun _ h => ?_)
      refine ⟨h.sxs (.cons .n0 .nil) (.refl _), ?_⟩
      refine wrN (m.tick.used + t.len) ?_
      refine brD (fun db4 => by exfalso; omega) (fun db4 => ?_)
      refine ⟨_, rfl, ?_⟩
      rotate_left
      obtain ⟨sl, hs, h⟩ := Sat.fileOut h hi hil'
      obtain ⟨lhs, mhs, chs⟩ := hs.lens
      refine ld _ h .n0 ?_
      refine new h fun er0 _ h => ?_
      rotate_left
      have h2 := Sat.whole (n := 2) (sz := 1) h rfl
      have h3 := Sat.toOl (E := eBytes) (ys := [sl, t]) h2 (.cons hs (.cons hb .nil))
      obtain ⟨Γ2, g2, f2, h⟩ := h3.olFreeze .n0 (by dsimp only; omega)
      refine concat_ok h f2 (by simp; omega) fun s3 Γ3 w' g3 f3 h => ?_
      have hw := (h.pick .n1 |>.pdOK).wf
      have f4 : Bytes Γ3 s3 ((m.tick.fileAt i).b ++ b) := by simpa using f3
      have hfk := hw.fileAt_kept i
      have hb := hb.mono (g2.trans g3)
      have hs := hs.mono (g2.trans g3)
      have f2 := f2.mono g3
      obtain ⟨lf3, mf3, cf3⟩ := f3.lens
      obtain ⟨lf4, mf4, cf4⟩ := f4.lens
      refine ⟨_, rfl, ?_⟩
      refine st h .n0 fun _ h => ?_
      refine ⟨_, rfl, ?_⟩
      rotate_left
      refine k Γ3 _ (g2.trans g3) ?_
      rw [← tick_files (d := m), ← DiskM.tick_fileAt (m := m) (i := i), ← tick_g (d := m)]
      exact Sat.toPd (Sat.fileIn (m := m.tick) (g := m.tick.g + b.length) (f := ⟨(m.tick.fileAt i).b ++ b, (m.tick.fileAt i).kept⟩) h f4 hi hil' (hw.setF (n := b.length) hil' (by simp; omega) (by simp)))


end Go.Proofs.Ytocmjngleknlbaa.K
