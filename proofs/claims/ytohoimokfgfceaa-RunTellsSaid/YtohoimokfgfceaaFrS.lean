/-
  Frames: the reference's Put, Same.
-/
import Derived.Test.YtohoimokfgfceaaFrU
namespace Go.Proofs.Ytohoimokfgfceaa.K
open Go Go.Proofs
variable {Γ Γ' : Mem} {L L' L'' : List HP} {w w' : World} {A B : HP}
set_option maxRecDepth 100000
set_option maxHeartbeats 4000000

theorem rfixFour_ok {s : Sl} {bs : Str} {n : Nat} {K : Sl → World → Prop} (h : Sat Γ L w) (hs : Bytes Γ s bs) (hl : bs.length < 1000000000000) (hn : n < 18446744073709551616)
    (k : ∀ t w', t.len = bs.length + 4 → Sat Γ (OL eByte 5 t (bs ++ fixN n 4) :: L) w' → K t w') :
    CallP Try.prog 156 [.slice s.p s.len s.cap, .int .u64 (n : Int), .int .i64 4] (.one (.s .sl)) K w :=
  rfix_ok (size := 4) h hs hl hn (by omega) (by omega) fun t w' h => k t w' (by have := h.olLen .n0; rw [List.length_append, fixN_len] at this; exact this) h

theorem rput_ok {s t : Sl} {b x : Str} {K : (Sl × Int) → World → Prop} (h : Sat Γ L w) (hb : Bytes Γ s b) (hx : Bytes Γ t x) (hl : b.length < 1000000000000)
    (k0 : 4096 < x.length → K (⟨none, 0, 0⟩, 3) w) (k1 : x.length ≤ 4096 → ∀ q Γ' w', Γ.le Γ' → Bytes Γ' q (b ++ frameB x) → Sat Γ' L w' → K (q, 0) w') :
    CallP Try.prog 98 [.slice s.p s.len s.cap, .slice t.p t.len t.cap] (.tup [.s .sl, .s (.int .i64)]) K w := by
  refine callP (fn := Try.f98) [.s (.sl s), .s (.sl t)] .n nong mixed (by kernel_rfl) (by kernel_rfl) rfl rfl ?_
  by_cases hx4 : x.length ≤ 4096
  · have hlx := hx.len
    have hfr : b ++ frameB x = b ++ sealB ([] ++ fixN t.len 4 ++ x) := by rw [hlx]; rfl
    rw [hfr] at k1
    have hz0 : ([] : Str).length = 0 := rfl
    have hz1 : ([] ++ fixN t.len 4 : Str).length = 4 := fixN_len _ _
    have hz2 : ([] ++ fixN t.len 4 ++ x : Str).length = 4 + x.length := by rw [List.length_append, hz1]
    have hz3 := sealB_len ([] ++ fixN t.len 4 ++ x)
    obtain ⟨lhb, mhb, chb⟩ := hb.lens
    refine brD (fun ab0 => by exfalso; omega) (fun ab0 => ?_)
    refine wrU ?_
    refine rfixFour_ok h (.nil _ _) (by first | omega | (dsimp only; omega) | decide) (by first | omega | (dsimp only; omega) | decide) (fun av2 _ ap4 h => ?_)
    refine appL slBytes h .n0 hx.lst (fun as6 _ al6 h => ?_)
    rotate_left
    have hol := h.olLen .n0
    obtain ⟨Γ2, g2, f2, h⟩ := h.olFreeze .n0 (by rw [hol, hz2]; omega)
    have f2 := f2.bytes
    have hb2 := hb.mono g2
    have hb := hb.mono g2
    have hx := hx.mono g2
    refine rseal_ok h f2 (by first | omega | (dsimp only; omega) | decide) (fun cv1 cΓ2 _ cg4 cf5 h => ?_)
    have f2 := f2.mono cg4
    have hb2 := hb2.mono cg4
    have hb := hb.mono cg4
    have hx := hx.mono cg4
    obtain ⟨lcf5, mcf5, ccf5⟩ := cf5.lens
    refine new h fun cr7 _ h => ?_
    have h := h.asA (B := blk cr7 (.cells #[] 5 (0, 0))) (by kernel_rfl)
    have h := (h.pick .n0).olEmpty (E := eByte)
    refine appL slBytes h .n0 hb.lst (fun cs8 _ cl8 h => ?_)
    dsimp only at cl8
    refine appL slBytes h .n0 cf5.lst (fun cs9 _ cl9 h => ?_)
    refine ret2 _ _ ?_
    obtain ⟨cΓ10, cg10, cf10, h⟩ := h.olFreeze .n0 (by first | omega | (dsimp only; omega))
    have cf10 := cf10.bytes
    have cf5 := cf5.mono cg10
    have f2 := f2.mono cg10
    have hb2 := hb2.mono cg10
    have hb := hb.mono cg10
    have hx := hx.mono cg10
    refine k1 hx4 _ _ _ (g2.trans (cg4.trans cg10)) cf10 h
  · obtain ⟨lhb, mhb, chb⟩ := hb.lens
    obtain ⟨lhx, mhx, chx⟩ := hx.lens
    refine brD (fun bb0 => ?_) (fun bb0 => by exfalso; omega)
    refine ret2 _ _ ?_
    refine k0 (by first | omega | (dsimp only; omega) | decide)

theorem rsame_ok {s t : Sl} {l m : List Str} {K : Bool → World → Prop} (h : Sat Γ L w) (hl : Lst eBytes Γ s l) (hm : Lst eBytes Γ t m) (he : l = m) (k : ∀ w', Sat Γ L w' → K true w') :
    CallP Try.prog 55 [.slice s.p s.len s.cap, .slice t.p t.len t.cap] (.one (.s .bool)) K w := by
  subst he
  refine callP (fn := Try.f55) [.s (.sl s), .s (.sl t)] (.p .n (.p .n (.p (.p .n (.b (.l [1, 0] [(5, .s (.int .i64))] (.p .n (.p (.b (.p .s .n)) .n))))) .n))) nong mixed (by kernel_rfl) (by kernel_rfl) rfl rfl ?_
  obtain ⟨lhl, mhl, chl⟩ := hl.lens
  obtain ⟨lhm, mhm, chm⟩ := hm.lens
  refine brN (fun ab0 => by exfalso; omega) (fun ab0 => ?_)
  rotate_left
  refine loop (σ := Int) (fun st w' u => ∃ i : Nat, st = (i : Int) ∧ i ≤ l.length ∧ u = l.length - i ∧ Sat Γ L w') l.length ⟨0, rfl, by omega, by omega, h⟩ ?_
  clear h
  rintro _ w u ⟨i, rfl, hi, hu, h⟩
  by_cases hil : i < l.length
  · obtain ⟨x, ex⟩ := get_lt hil
    refine brD (fun bb0 => ?_) (fun bb0 => by exfalso; omega)
    refine dr h fun _ h => ?_
    refine ⟨by omega, ?_⟩
    refine nnL h hl (fun ba1 bha1 => ?_)
    refine ldL h hl bha1 ex (fun by2 bhy2 => ?_)
    have bhy2 : Bytes _ by2 x := bhy2
    obtain ⟨lbhy2, mbhy2, cbhy2⟩ := bhy2.lens
    refine btoS h bhy2 ?_
    refine ⟨by omega, ?_⟩
    refine nnL h hm (fun ba3 bha3 => ?_)
    refine ldL h hm bha3 ex (fun by4 bhy4 => ?_)
    have bhy4 : Bytes _ by4 x := bhy4
    obtain ⟨lbhy4, mbhy4, cbhy4⟩ := bhy4.lens
    refine btoS h bhy4 ?_
    refine brSn (fun bb5 => absurd rfl bb5) (fun bb5 => ?_)
    refine wrN (i + 1) ?_
    refine ⟨_, (by first | omega | rfl | (dsimp only; omega)), _, rfl, (by first | omega | rfl | (dsimp only; omega)), rfl, h⟩
  · refine brD (fun cb0 => by exfalso; omega) (fun cb0 => ?_)
    refine ⟨_, rfl, ?_⟩
    refine k _ h

theorem rsameLen_ok {s t : Sl} {l m : List Str} {K : Bool → World → Prop} (h : Sat Γ L w) (hl : Lst eBytes Γ s l) (hm : Lst eBytes Γ t m) (he : l.length ≠ m.length) (k : ∀ w', Sat Γ L w' → K false w') :
    CallP Try.prog 55 [.slice s.p s.len s.cap, .slice t.p t.len t.cap] (.one (.s .bool)) K w := by
  refine callP (fn := Try.f55) [.s (.sl s), .s (.sl t)] (.p .n (.p .n (.p (.p .n (.b (.l [1, 0] [(5, .s (.int .i64))] (.p .n (.p (.b (.p .s .n)) .n))))) .n))) nong mixed (by kernel_rfl) (by kernel_rfl) rfl rfl ?_
  obtain ⟨lhl, mhl, chl⟩ := hl.lens
  obtain ⟨lhm, mhm, chm⟩ := hm.lens
  refine brN (fun db0 => ?_) (fun db0 => by exfalso; omega)
  refine ⟨_, rfl, ?_⟩
  refine k _ h

theorem convA_pr {T : TypeId} {b : Nat} {K : Sl → World → Prop} (h : Sat Γ (blk b (.cells #[.int .u8 97] T (0, 0)) :: L) w)
    (k : ∀ Γ' w', Γ.le Γ' → Bytes Γ' ⟨some ⟨b, 0, none⟩, 1, 1⟩ [97] → Sat Γ' L w' → K ⟨some ⟨b, 0, none⟩, 1, 1⟩ w') :
    Prim Try.prog (convert 32 32 (.slice (some ⟨b, 0, none⟩) 1 1)) (.one (.s .sl)) K w :=
  convSl (t := 32) (e := 5) (by kernel_rfl) (by kernel_rfl) h rfl (by decide) k

theorem convB_pr {T : TypeId} {b : Nat} {K : Sl → World → Prop} (h : Sat Γ (blk b (.cells #[.int .u8 98] T (0, 0)) :: L) w)
    (k : ∀ Γ' w', Γ.le Γ' → Bytes Γ' ⟨some ⟨b, 0, none⟩, 1, 1⟩ [98] → Sat Γ' L w' → K ⟨some ⟨b, 0, none⟩, 1, 1⟩ w') :
    Prim Try.prog (convert 32 32 (.slice (some ⟨b, 0, none⟩) 1 1)) (.one (.s .sl)) K w :=
  convSl (t := 32) (e := 5) (by kernel_rfl) (by kernel_rfl) h rfl (by decide) k

end Go.Proofs.Ytohoimokfgfceaa.K
