/-
  Frames: the reference's Put, Same.
-/
import Derived.Test.YtocmjngleknlbaaFrU
namespace Go.Proofs.Ytocmjngleknlbaa.K
open Go Go.Proofs
variable {Γ Γ' : Mem} {L L' L'' : List HP} {w w' : World} {A B : HP}
set_option maxRecDepth 100000
set_option maxHeartbeats 4000000

theorem rsame_ok {s t : Sl} {l m : List Str} {K : Bool → World → Prop} (h : Sat Γ L w) (hl : Lst eBytes Γ s l) (hm : Lst eBytes Γ t m) (he : l = m) (k : ∀ w', Sat Γ L w' → K true w') :
    CallP Try.prog 11 [.slice s.p s.len s.cap, .slice t.p t.len t.cap] (.one (.s .bool)) K w := by
  subst he
  refine callP (fn := Try.f11) [.s (.sl s), .s (.sl t)] (.p .n (.p .n (.p (.p .n (.b (.l [1, 0] [(5, .s (.int .i64))] (.p .n (.p (.b (.p .s .n)) .n))))) .n))) nong mixed (by kernel_rfl) (by kernel_rfl) rfl rfl ?_
  obtain ⟨lhl, mhl, chl⟩ := hl.lens
  obtain ⟨lhm, mhm, chm⟩ := hm.lens
  refine brN (fun ab0 => by exfalso; omega) (fun ab0 => ?_)
  rotate_left
  refine loop (σ := Int) (fun st w' u => ∃ i : Nat, st = (i : Int) ∧ i ≤ l.length ∧ u = l.length - i ∧ Sat Γ L w') l.length ⟨0, rfl, by omega, by omega, h⟩ ?_
  clear h
  rintro _ w u ⟨i, rfl, hi, hu, h⟩
  by_cases hil : i < l.length
  · obtain ⟨x, ex⟩ := get_lt hil
    refine brD (fun bb0 => ?_) (fun bb0 => by exfalso; omega)
    refine dr h fun _ h => ?_
    refine ⟨by omega, ?_⟩
    refine nnL h hl (fun ba1 bha1 => ?_)
    refine ldL h hl bha1 ex (fun by2 bhy2 => ?_)
    have bhy2 : Bytes _ by2 x := bhy2
    obtain ⟨lbhy2, mbhy2, cbhy2⟩ := bhy2.lens
    refine btoS h bhy2 ?_
    refine ⟨by omega, ?_⟩
    refine nnL h hm (fun ba3 bha3 => ?_)
    refine ldL h hm bha3 ex (fun by4 bhy4 => ?_)
    have bhy4 : Bytes _ by4 x := bhy4
    obtain ⟨lbhy4, mbhy4, cbhy4⟩ := bhy4.lens
    refine btoS h bhy4 ?_
    refine brSn (fun bb5 => absurd rfl bb5) (fun bb5 => ?_)
    refine wrN (i + 1) ?_
    refine ⟨_, (by first | omega | rfl | (dsimp only; omega)), _, rfl, (by first | omega | rfl | (dsimp only; omega)), rfl, h⟩
  · refine brD (fun cb0 => by exfalso; omega) (fun cb0 => ?_)
    refine ⟨_, rfl, ?_⟩
    refine k _ h

theorem rsameLen_ok {s t : Sl} {l m : List Str} {K : Bool → World → Prop} (h : Sat Γ L w) (hl : Lst eBytes Γ s l) (hm : Lst eBytes Γ t m) (he : l.length ≠ m.length) (k : ∀ w', Sat Γ L w' → K false w') :
    CallP Try.prog 11 [.slice s.p s.len s.cap, .slice t.p t.len t.cap] (.one (.s .bool)) K w := by
  refine callP (fn := Try.f11) [.s (.sl s), .s (.sl t)] (.p .n (.p .n (.p (.p .n (.b (.l [1, 0] [(5, .s (.int .i64))] (.p .n (.p (.b (.p .s .n)) .n))))) .n))) nong mixed (by kernel_rfl) (by kernel_rfl) rfl rfl ?_
  obtain ⟨lhl, mhl, chl⟩ := hl.lens
  obtain ⟨lhm, mhm, chm⟩ := hm.lens
  refine brN (fun db0 => ?_) (fun db0 => by exfalso; omega)
  refine ⟨_, rfl, ?_⟩
  refine k _ h

theorem convA_pr {T : TypeId} {b : Nat} {K : Sl → World → Prop} (h : Sat Γ (blk b (.cells #[.int .u8 97] T (0, 0)) :: L) w)
    (k : ∀ Γ' w', Γ.le Γ' → Bytes Γ' ⟨some ⟨b, 0, none⟩, 1, 1⟩ [97] → Sat Γ' L w' → K ⟨some ⟨b, 0, none⟩, 1, 1⟩ w') :
    Prim Try.prog (convert 26 26 (.slice (some ⟨b, 0, none⟩) 1 1)) (.one (.s .sl)) K w :=
  convSl (t := 26) (e := 5) (by kernel_rfl) (by kernel_rfl) h rfl (by decide) k

theorem convB_pr {T : TypeId} {b : Nat} {K : Sl → World → Prop} (h : Sat Γ (blk b (.cells #[.int .u8 98] T (0, 0)) :: L) w)
    (k : ∀ Γ' w', Γ.le Γ' → Bytes Γ' ⟨some ⟨b, 0, none⟩, 1, 1⟩ [98] → Sat Γ' L w' → K ⟨some ⟨b, 0, none⟩, 1, 1⟩ w') :
    Prim Try.prog (convert 26 26 (.slice (some ⟨b, 0, none⟩) 1 1)) (.one (.s .sl)) K w :=
  convSl (t := 26) (e := 5) (by kernel_rfl) (by kernel_rfl) h rfl (by decide) k

end Go.Proofs.Ytocmjngleknlbaa.K
