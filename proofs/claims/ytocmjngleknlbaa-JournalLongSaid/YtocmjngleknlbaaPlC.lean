/-
  place, the program's: a file put; bytes put behind a file's.
-/
import Derived.Test.YtocmjngleknlbaaPlA
namespace Go.Proofs.Ytocmjngleknlbaa.K
open Go Go.Proofs
variable {Γ Γ' : Mem} {L L' L'' : List HP} {w w' : World} {A B : HP}
set_option maxRecDepth 100000
set_option maxHeartbeats 1000000

theorem put1_step {a d : Nat} {T : TypeId} {z : Nat × Nat} (hd : Γ d = some (.cells #[.pointer (some ⟨a, 0, none⟩)] T z)) :
    StepV Γ a (.func (.func 49) #[] #[.pointer (some ⟨d, 0, none⟩)]) (fun m => m.create tmpS) 2 := by
  intro Γ1 L w m K hg h hc k
  have hd := hg.at_ _ _ hd
  refine callV (by kernel_rfl) ?_
  refine callP (fn := Try.f49) [.s (.addr ⟨d, 0, none⟩)] .n nong mixed (by kernel_rfl) (by kernel_rfl) rfl rfl ?_
  refine ldF _ h hd ?_
  refine dCreate_ok h (by first | omega | (dsimp only; omega) | decide) (fun _ h => ?_)
  refine ⟨_, rfl, ?_⟩
  refine k _ _ (.refl _) h

theorem put2_step {a d e : Nat} {T T2 : TypeId} {z z2 : Nat × Nat} {s : Sl} {b : Str} (hd : Γ d = some (.cells #[.pointer (some ⟨a, 0, none⟩)] T z)) (he : Γ e = some (.cells #[slv s] T2 z2)) (hb : Bytes Γ s b) :
    StepV Γ a (.func (.func 51) #[] #[.pointer (some ⟨d, 0, none⟩), .pointer (some ⟨e, 0, none⟩)]) (fillM (chunks b)) (b.length + 64) := by
  intro Γ1 L w m K hg h hc k
  have hd := hg.at_ _ _ hd
  have he := hg.at_ _ _ he
  have hb := hb.mono hg
  refine callV (by kernel_rfl) ?_
  refine callP (fn := Try.f51) [.s (.addr ⟨d, 0, none⟩), .s (.addr ⟨e, 0, none⟩)] .n nong mixed (by kernel_rfl) (by kernel_rfl) rfl rfl ?_
  obtain ⟨lhb, mhb, chb⟩ := hb.lens
  refine ldF _ h hd ?_
  refine ldF _ h he ?_
  refine fill_ok h hb hc (fun aΓ1 _ ag3 h => ?_)
  have hb := hb.mono ag3
  refine ⟨_, rfl, ?_⟩
  refine k _ _ ag3 h

theorem put3_step {a d : Nat} {T : TypeId} {z : Nat × Nat} (hd : Γ d = some (.cells #[.pointer (some ⟨a, 0, none⟩)] T z)) :
    StepV Γ a (.func (.func 53) #[] #[.pointer (some ⟨d, 0, none⟩)]) (fun m => m.sync tmpS) 0 := by
  intro Γ1 L w m K hg h hc k
  have hd := hg.at_ _ _ hd
  refine callV (by kernel_rfl) ?_
  refine callP (fn := Try.f53) [.s (.addr ⟨d, 0, none⟩)] .n nong mixed (by kernel_rfl) (by kernel_rfl) rfl rfl ?_
  refine ldF _ h hd ?_
  refine dSync_ok h (fun _ h => ?_)
  refine ⟨_, rfl, ?_⟩
  refine k _ _ (.refl _) h

theorem put4_step {a d e : Nat} {T T2 : TypeId} {z z2 : Nat × Nat} {s : Str} (hd : Γ d = some (.cells #[.pointer (some ⟨a, 0, none⟩)] T z)) (he : Γ e = some (.cells #[.string (str s)] T2 z2)) :
    StepV Γ a (.func (.func 54) #[] #[.pointer (some ⟨d, 0, none⟩), .pointer (some ⟨e, 0, none⟩)]) (fun m => m.rename tmpS s) 1 := by
  intro Γ1 L w m K hg h hc k
  have hd := hg.at_ _ _ hd
  have he := hg.at_ _ _ he
  refine callV (by kernel_rfl) ?_
  refine callP (fn := Try.f54) [.s (.addr ⟨d, 0, none⟩), .s (.addr ⟨e, 0, none⟩)] .n nong mixed (by kernel_rfl) (by kernel_rfl) rfl rfl ?_
  refine ldF _ h hd ?_
  refine ldF _ h he ?_
  refine dRename_ok h (by first | omega | (dsimp only; omega) | decide) (fun _ h => ?_)
  refine ⟨_, rfl, ?_⟩
  refine k _ _ (.refl _) h

theorem grow1_step {a d e : Nat} {T T2 : TypeId} {z z2 : Nat × Nat} {s : Str} (hd : Γ d = some (.cells #[.pointer (some ⟨a, 0, none⟩)] T z)) (he : Γ e = some (.cells #[.string (str s)] T2 z2)) :
    StepV Γ a (.func (.func 40) #[] #[.pointer (some ⟨d, 0, none⟩), .pointer (some ⟨e, 0, none⟩)]) (madeM s) 2 := by
  intro Γ1 L w m K hg h hc k
  have hd := hg.at_ _ _ hd
  have he := hg.at_ _ _ he
  refine callV (by kernel_rfl) ?_
  refine callP (fn := Try.f40) [.s (.addr ⟨d, 0, none⟩), .s (.addr ⟨e, 0, none⟩)] .n nong mixed (by kernel_rfl) (by kernel_rfl) rfl rfl ?_
  refine ldF _ h hd ?_
  refine ldF _ h he ?_
  refine dMade_ok h hc (fun _ h => ?_)
  refine ⟨_, rfl, ?_⟩
  refine k _ _ (.refl _) h

theorem grow2_step {a d e f : Nat} {T T2 T3 : TypeId} {z z2 z3 : Nat × Nat} {s b : Str} {t : Sl} (hd : Γ d = some (.cells #[.pointer (some ⟨a, 0, none⟩)] T z)) (he : Γ e = some (.cells #[.string (str s)] T2 z2)) (hf : Γ f = some (.cells #[slv t] T3 z3)) (hb : Bytes Γ t b) :
    StepV Γ a (.func (.func 42) #[] #[.pointer (some ⟨d, 0, none⟩), .pointer (some ⟨e, 0, none⟩), .pointer (some ⟨f, 0, none⟩)]) (fun m => m.append s b) b.length := by
  intro Γ1 L w m K hg h hc k
  have hd := hg.at_ _ _ hd
  have he := hg.at_ _ _ he
  have hf := hg.at_ _ _ hf
  have hb := hb.mono hg
  refine callV (by kernel_rfl) ?_
  refine callP (fn := Try.f42) [.s (.addr ⟨d, 0, none⟩), .s (.addr ⟨e, 0, none⟩), .s (.addr ⟨f, 0, none⟩)] .n nong mixed (by kernel_rfl) (by kernel_rfl) rfl rfl ?_
  obtain ⟨lhb, mhb, chb⟩ := hb.lens
  refine ldF _ h hd ?_
  refine ldF _ h he ?_
  refine ldF _ h hf ?_
  refine dAppend_ok h hb hc (fun aΓ1 _ ag3 h => ?_)
  have hb := hb.mono ag3
  refine ⟨_, rfl, ?_⟩
  refine k _ _ ag3 h

theorem grow3_step {a d e : Nat} {T T2 : TypeId} {z z2 : Nat × Nat} {s : Str} (hd : Γ d = some (.cells #[.pointer (some ⟨a, 0, none⟩)] T z)) (he : Γ e = some (.cells #[.string (str s)] T2 z2)) :
    StepV Γ a (.func (.func 44) #[] #[.pointer (some ⟨d, 0, none⟩), .pointer (some ⟨e, 0, none⟩)]) (fun m => m.sync s) 0 := by
  intro Γ1 L w m K hg h hc k
  have hd := hg.at_ _ _ hd
  have he := hg.at_ _ _ he
  refine callV (by kernel_rfl) ?_
  refine callP (fn := Try.f44) [.s (.addr ⟨d, 0, none⟩), .s (.addr ⟨e, 0, none⟩)] .n nong mixed (by kernel_rfl) (by kernel_rfl) rfl rfl ?_
  refine ldF _ h hd ?_
  refine ldF _ h he ?_
  refine dSync_ok h (fun _ h => ?_)
  refine ⟨_, rfl, ?_⟩
  refine k _ _ (.refl _) h

theorem sync5_step {a : Nat} : StepV Γ a (.func (.func 56) #[.pointer (some ⟨a, 0, none⟩)] #[]) (fun m => m.syncNames) 0 := by
  intro Γ1 L w m K hg h hc k
  refine callV (first := [.pointer (some ⟨a, 0, none⟩)]) (cap := []) (by kernel_rfl) ?_
  exact dSyncNames_ok h (by omega) fun w' h => k Γ1 w' (.refl _) h

theorem all2_fn {l : List Value} (h : l.all (fun v => v.oneCell') = true) : All2 (eFn.r Γ) l l :=
  ⟨rfl, fun i y x h1 h2 => by
    have e : some y = some x := (show l[i]? = some y from h1).symm.trans h2
    cases e
    exact ⟨rfl, List.all_eq_true.1 h y (List.mem_of_getElem? h1)⟩⟩

set_option maxHeartbeats 400000 in
theorem put_tail {a r d e1 e2 : Nat} {m : DiskM} {s : Str} {t : Sl} {b : Str} {K : Int → World → Prop}
    (h : Sat Γ (blk r (.cells #[.func (.func 49) #[] #[.pointer (some ⟨d, 0, none⟩)], .func (.func 51) #[] #[.pointer (some ⟨d, 0, none⟩), .pointer (some ⟨e2, 0, none⟩)], .func (.func 53) #[] #[.pointer (some ⟨d, 0, none⟩)],
      .func (.func 54) #[] #[.pointer (some ⟨d, 0, none⟩), .pointer (some ⟨e1, 0, none⟩)], .func (.func 56) #[.pointer (some ⟨a, 0, none⟩)] #[]] 93 (0, 0)) ::
      blk e2 (.cells #[slv t] 26 (0, 0)) :: blk e1 (.cells #[.string (str s)] 9 (0, 0)) :: blk d (.cells #[.pointer (some ⟨a, 0, none⟩)] 32 (0, 0)) :: PDisk a m :: L) w)
    (hb : Bytes Γ t b) (hg : m.g + 6 * (b.length + 64) < 1000000000000) (k : ∀ Γ' w', Γ.le Γ' → Sat Γ' (PDisk a (runAll (putSteps s b) m).1 :: L) w' → K (runAll (putSteps s b) m).2 w') :
    CallP Try.prog 39 [.slice (some ⟨r, 0, none⟩) 5 5] (.one (.s (.int .i64))) K w := by
  obtain ⟨vs, hvs⟩ : ∃ vs : List Value, vs = [.func (.func 49) #[] #[.pointer (some ⟨d, 0, none⟩)], .func (.func 51) #[] #[.pointer (some ⟨d, 0, none⟩), .pointer (some ⟨e2, 0, none⟩)], .func (.func 53) #[] #[.pointer (some ⟨d, 0, none⟩)],
      .func (.func 54) #[] #[.pointer (some ⟨d, 0, none⟩), .pointer (some ⟨e1, 0, none⟩)], .func (.func 56) #[.pointer (some ⟨a, 0, none⟩)] #[]] := ⟨_, rfl⟩
  have h3 : Sat Γ (OL eFn 93 ⟨some ⟨r, 0, none⟩, 5, 5⟩ vs :: _) w := Sat.olWhole (ys := vs) h (by rw [hvs]; kernel_rfl) (all2_fn (by rw [hvs]; kernel_rfl)) (by rw [hvs]; rfl)
  obtain ⟨Γ1, g1, f1, h⟩ := h3.olFreeze .n0 (by dsimp only; omega)
  obtain ⟨Γ2, g2, f2, h⟩ := h.freeze
  obtain ⟨Γ3, g3, f3, h⟩ := h.freeze
  obtain ⟨Γ4, g4, f4, h⟩ := h.freeze
  have f3 := g4.at_ _ _ f3
  have f2 := g4.at_ _ _ (g3.at_ _ _ f2)
  have hb4 := (((hb.mono g1).mono g2).mono g3).mono g4
  have hvl : vs.length = (putSteps s b).length := by rw [hvs]; exact (rfl : 5 = 5)
  have hg2 : m.g + (b.length + 64) * ((putSteps s b).length + 1) < 1000000000000 := by
    have hps : (putSteps s b).length + 1 = 6 := rfl
    rw [hps, Nat.mul_comm]
    exact hg
  refine all_ok (c := b.length + 64) (fs := putSteps s b) h (((f1.mono g2).mono g3).mono g4) hvl (fun f hf => ?_) (fun i v f hv hf => ?_) hg2 fun Γ' w' g h => k Γ' w' (g1.trans (g2.trans (g3.trans (g4.trans g)))) h
  · simp only [putSteps, List.mem_cons, List.not_mem_nil, or_false] at hf
    have hcl := chunks_len b
    rcases hf with rfl | rfl | rfl | rfl | rfl
    · exact (stepCreate _).mono (by omega)
    · exact (stepFill _ fun c => chunks_le).mono (by omega)
    · exact (stepSync _).mono (by omega)
    · exact (stepRename _ _).mono (by omega)
    · exact stepSyncNames.mono (by omega)
  · have mono : ∀ {v : Value} {f : DiskM → DiskM × Int} {c : Nat}, c ≤ b.length + 64 → StepV Γ4 a v f c → StepV Γ4 a v f (b.length + 64) := fun hc h Γ' L w m K g hs hg k => h Γ' L w m K g hs (by omega) k
    rw [hvs] at hv
    match i, hv, hf with
    | 0, hv, hf => cases hv; cases hf; exact mono (by omega) (put1_step f4)
    | 1, hv, hf => cases hv; cases hf; exact mono (by omega) (put2_step f4 f2 hb4)
    | 2, hv, hf => cases hv; cases hf; exact mono (by omega) (put3_step f4)
    | 3, hv, hf => cases hv; cases hf; exact mono (by omega) (put4_step f4 f3)
    | 4, hv, hf => cases hv; cases hf; exact mono (by omega) sync5_step
    | n + 5, hv, hf => cases hv

theorem rightPYes_ok {s : Str} {K : Bool → World → Prop} (h : Sat Γ L w) (hs : rightP s) (k1 : K true w) : CallP Try.prog 38 [.string (str s)] (.one (.s .bool)) K w := rightP_ok h (fun _ => k1) fun h => absurd hs h
theorem rightPNot_ok {s : Str} {K : Bool → World → Prop} (h : Sat Γ L w) (hs : ¬ rightP s) (k1 : K false w) : CallP Try.prog 38 [.string (str s)] (.one (.s .bool)) K w := rightP_ok h (fun h => absurd h hs) fun _ => k1

theorem dPut_ok {a : Nat} {m : DiskM} {s : Str} {t : Sl} {b : Str} {K : Int → World → Prop} (h : Sat Γ (PDisk a m :: L) w) (hb : Bytes Γ t b) (hg : m.g + 10 * (b.length + 100) < 1000000000000) (k : ∀ Γ' w', Γ.le Γ' → Sat Γ' (PDisk a (putP m s b).1 :: L) w' → K (putP m s b).2 w') :
    CallP Try.prog 25 [.pointer (some ⟨a, 0, none⟩), .string (str s), .slice t.p t.len t.cap] (.one (.s (.int .i64))) K w := by
  have hrg := remove_g m tmpS
  refine callP (fn := Try.f25) [.s (.ptr (some ⟨a, 0, none⟩)), .s (.str (str s)), .s (.sl t)] (.p .n (.p .n (.j [5, 4, 3] [] .n .n))) nong mixed (by kernel_rfl) (by kernel_rfl) rfl rfl ?_
  unfold putP at k
  by_cases hr : rightP s
  · rw [if_neg (by intro h; exact h hr)] at k
    by_cases h1 : (m.remove tmpS).2 ≠ 0 ∧ (m.remove tmpS).2 ≠ 2
    · rw [if_pos h1] at k
      unfold tmpS at hrg h1 k
      obtain ⟨lhb, mhb, chb⟩ := hb.lens
      refine new h fun ar0 _ h => ?_
      have h := h.asC (c' := #[Value.pointer (some (Addr.mk a 0 none))]) (by kernel_rfl)
      refine new h fun ar1 _ h => ?_
      have h := h.asC (c' := #[Value.string (str s)]) (by kernel_rfl)
      refine new h fun ar2 _ h => ?_
      have h := h.asC (c' := #[Value.slice t.p t.len t.cap]) (by kernel_rfl)
      refine ld _ h .n1 ?_
      refine rightPYes_ok h hr ?_
      refine brF ?_
      refine joinI ?_
      refine ld _ h .n2 ?_
      refine dRemove_ok (h.pick .n3) (by first | omega | (dsimp only; omega) | decide) (fun _ h => ?_)
      refine brN (fun ab7 => ?_) (fun ab7 => by exfalso; omega)
      refine brN (fun ab8 => ?_) (fun ab8 => by exfalso; omega)
      refine ⟨_, rfl, ?_⟩
      refine k _ _ (.refl _) (((h.pick .n1).drop.pick .n1).drop.pick .n1).drop
    · rw [if_neg h1] at k
      have he : (m.remove tmpS).2 = 0 ∨ (m.remove tmpS).2 = 2 := by omega
      unfold tmpS at hrg h1 he k
      obtain ⟨lhb, mhb, chb⟩ := hb.lens
      refine new h fun hbr0 _ h => ?_
      have h := h.asC (c' := #[Value.pointer (some (Addr.mk a 0 none))]) (by kernel_rfl)
      refine new h fun hbr1 _ h => ?_
      have h := h.asC (c' := #[Value.string (str s)]) (by kernel_rfl)
      refine new h fun hbr2 _ h => ?_
      have h := h.asC (c' := #[Value.slice t.p t.len t.cap]) (by kernel_rfl)
      refine ld _ h .n1 ?_
      refine rightPYes_ok h hr ?_
      refine brF ?_
      refine joinI ?_
      refine ld _ h .n2 ?_
      refine dRemove_ok (h.pick .n3) (by first | omega | (dsimp only; omega) | decide) (fun _ h => ?_)
      refine brN (fun hbb7 => ?_) (fun hbb7 => ?_)
      refine brN (fun hbb8 => by exfalso; omega) (fun hbb8 => ?_)
      refine ld _ h .n3 ?_
      refine new h fun hbr9 _ h => ?_
      have h := h.asC (c' := #[Value.func (Fn.func 49) (List.map SV.v []).toArray (List.map SV.v [SV.s (S1.addr (Addr.mk hbr0 0 none))]).toArray, Value.func (Fn.func 51) (List.map SV.v []).toArray (List.map SV.v [SV.s (S1.addr (Addr.mk hbr0 0 none)), SV.s (S1.addr (Addr.mk hbr2 0 none))]).toArray, Value.func (Fn.func 53) (List.map SV.v []).toArray (List.map SV.v [SV.s (S1.addr (Addr.mk hbr0 0 none))]).toArray, Value.func (Fn.func 54) (List.map SV.v []).toArray (List.map SV.v [SV.s (S1.addr (Addr.mk hbr0 0 none)), SV.s (S1.addr (Addr.mk hbr1 0 none))]).toArray, Value.func (Fn.func 56) (List.map SV.v [((Sh.s Sc.ptr).mk (some (Addr.mk a 0 none))).sv]).toArray (List.map SV.v []).toArray]) (by kernel_rfl)
      rotate_left
      refine ld _ h .n3 ?_
      refine new h fun hbr10 _ h => ?_
      have h := h.asC (c' := #[Value.func (Fn.func 49) (List.map SV.v []).toArray (List.map SV.v [SV.s (S1.addr (Addr.mk hbr0 0 none))]).toArray, Value.func (Fn.func 51) (List.map SV.v []).toArray (List.map SV.v [SV.s (S1.addr (Addr.mk hbr0 0 none)), SV.s (S1.addr (Addr.mk hbr2 0 none))]).toArray, Value.func (Fn.func 53) (List.map SV.v []).toArray (List.map SV.v [SV.s (S1.addr (Addr.mk hbr0 0 none))]).toArray, Value.func (Fn.func 54) (List.map SV.v []).toArray (List.map SV.v [SV.s (S1.addr (Addr.mk hbr0 0 none)), SV.s (S1.addr (Addr.mk hbr1 0 none))]).toArray, Value.func (Fn.func 56) (List.map SV.v [((Sh.s Sc.ptr).mk (some (Addr.mk a 0 none))).sv]).toArray (List.map SV.v []).toArray]) (by kernel_rfl)
      rotate_left
      all_goals
        have h := ((((h.pick (A := PDisk a _) (by repeat (first | with_reducible exact Pick.here | apply Pick.there))).pick (A := blk hbr0 _) (by repeat (first | with_reducible exact Pick.here | apply Pick.there))).pick (A := blk hbr1 _) (by repeat (first | with_reducible exact Pick.here | apply Pick.there))).pick (A := blk hbr2 _) (by repeat (first | with_reducible exact Pick.here | apply Pick.there))).pick .n4
        refine put_tail (s := s) (b := b) h hb (by omega) fun Γ' w' g h => ?_
      · have hb := hb.mono g
        refine ⟨_, rfl, ?_⟩
        refine k _ _ g h
      · have hb := hb.mono g
        refine ⟨_, rfl, ?_⟩
        refine k _ _ g h
  · rw [if_pos hr] at k
    obtain ⟨lhb, mhb, chb⟩ := hb.lens
    refine new h fun cr0 _ h => ?_
    have h := h.asC (c' := #[Value.pointer (some (Addr.mk a 0 none))]) (by kernel_rfl)
    refine new h fun cr1 _ h => ?_
    have h := h.asC (c' := #[Value.string (str s)]) (by kernel_rfl)
    refine new h fun cr2 _ h => ?_
    have h := h.asC (c' := #[Value.slice t.p t.len t.cap]) (by kernel_rfl)
    refine ld _ h .n1 ?_
    refine rightPNot_ok h hr ?_
    refine brT ?_
    refine ⟨_, rfl, ?_⟩
    refine k _ _ (.refl _) h.drop.drop.drop

set_option maxHeartbeats 400000 in
theorem grow_tail {a r d e1 e2 : Nat} {m : DiskM} {s : Str} {t : Sl} {b : Str} {K : Int → World → Prop}
    (h : Sat Γ (blk r (.cells #[.func (.func 40) #[] #[.pointer (some ⟨d, 0, none⟩), .pointer (some ⟨e1, 0, none⟩)], .func (.func 42) #[] #[.pointer (some ⟨d, 0, none⟩), .pointer (some ⟨e1, 0, none⟩), .pointer (some ⟨e2, 0, none⟩)],
      .func (.func 44) #[] #[.pointer (some ⟨d, 0, none⟩), .pointer (some ⟨e1, 0, none⟩)]] 93 (0, 0)) ::
      blk e2 (.cells #[slv t] 26 (0, 0)) :: blk e1 (.cells #[.string (str s)] 9 (0, 0)) :: blk d (.cells #[.pointer (some ⟨a, 0, none⟩)] 32 (0, 0)) :: PDisk a m :: L) w)
    (hb : Bytes Γ t b) (hg : m.g + 6 * (b.length + 64) < 1000000000000) (k : ∀ Γ' w', Γ.le Γ' → Sat Γ' (PDisk a (runAll (growSteps s b) m).1 :: L) w' → K (runAll (growSteps s b) m).2 w') :
    CallP Try.prog 39 [.slice (some ⟨r, 0, none⟩) 3 3] (.one (.s (.int .i64))) K w := by
  obtain ⟨vs, hvs⟩ : ∃ vs : List Value, vs = [.func (.func 40) #[] #[.pointer (some ⟨d, 0, none⟩), .pointer (some ⟨e1, 0, none⟩)], .func (.func 42) #[] #[.pointer (some ⟨d, 0, none⟩), .pointer (some ⟨e1, 0, none⟩), .pointer (some ⟨e2, 0, none⟩)],
      .func (.func 44) #[] #[.pointer (some ⟨d, 0, none⟩), .pointer (some ⟨e1, 0, none⟩)]] := ⟨_, rfl⟩
  have h3 : Sat Γ (OL eFn 93 ⟨some ⟨r, 0, none⟩, 3, 3⟩ vs :: _) w := Sat.olWhole (ys := vs) h (by rw [hvs]; kernel_rfl) (all2_fn (by rw [hvs]; kernel_rfl)) (by rw [hvs]; rfl)
  obtain ⟨Γ1, g1, f1, h⟩ := h3.olFreeze .n0 (by dsimp only; omega)
  obtain ⟨Γ2, g2, f2, h⟩ := h.freeze
  obtain ⟨Γ3, g3, f3, h⟩ := h.freeze
  obtain ⟨Γ4, g4, f4, h⟩ := h.freeze
  have f3 := g4.at_ _ _ f3
  have f2 := g4.at_ _ _ (g3.at_ _ _ f2)
  have hb4 := (((hb.mono g1).mono g2).mono g3).mono g4
  have hvl : vs.length = (growSteps s b).length := by rw [hvs]; exact (rfl : 3 = 3)
  have hg2 : m.g + (b.length + 64) * ((growSteps s b).length + 1) < 1000000000000 := by
    have hps : (growSteps s b).length + 1 = 4 := rfl
    rw [hps, Nat.mul_comm]
    exact Nat.lt_of_le_of_lt (Nat.add_le_add_left (Nat.mul_le_mul_right _ (by decide)) _) hg
  refine all_ok (c := b.length + 64) (fs := growSteps s b) h (((f1.mono g2).mono g3).mono g4) hvl (fun f hf => ?_) (fun i v f hv hf => ?_) hg2 fun Γ' w' g h => k Γ' w' (g1.trans (g2.trans (g3.trans (g4.trans g)))) h
  · simp only [growSteps, List.mem_cons, List.not_mem_nil, or_false] at hf
    rcases hf with rfl | rfl | rfl
    · exact (stepMade _).mono (by omega)
    · exact (stepAppend _ _).mono (by omega)
    · exact (stepSync _).mono (by omega)
  · have mono : ∀ {v : Value} {f : DiskM → DiskM × Int} {c : Nat}, c ≤ b.length + 64 → StepV Γ4 a v f c → StepV Γ4 a v f (b.length + 64) := fun hc h Γ' L w m K g hs hg k => h Γ' L w m K g hs (by omega) k
    rw [hvs] at hv
    match i, hv, hf with
    | 0, hv, hf => cases hv; cases hf; exact mono (by omega) (grow1_step f4 f3)
    | 1, hv, hf => cases hv; cases hf; exact mono (by omega) (grow2_step f4 f3 f2 hb4)
    | 2, hv, hf => cases hv; cases hf; exact mono (by omega) (grow3_step f4 f3)
    | n + 3, hv, hf => cases hv

theorem dGrowP_ok {a : Nat} {m : DiskM} {s : Str} {t : Sl} {b : Str} {K : Int → World → Prop} (h : Sat Γ (PDisk a m :: L) w) (hb : Bytes Γ t b) (hg : m.g + 10 * (b.length + 100) < 1000000000000) (k : ∀ Γ' w', Γ.le Γ' → Sat Γ' (PDisk a (growM m s b).1 :: L) w' → K (growM m s b).2 w') :
    CallP Try.prog 22 [.pointer (some ⟨a, 0, none⟩), .string (str s), .slice t.p t.len t.cap] (.one (.s (.int .i64))) K w := by
  refine callP (fn := Try.f22) [.s (.ptr (some ⟨a, 0, none⟩)), .s (.str (str s)), .s (.sl t)] .n nong mixed (by kernel_rfl) (by kernel_rfl) rfl rfl ?_
  unfold growM at k
  by_cases hr : rightP s
  · rw [if_neg (by intro h; exact h hr)] at k
    obtain ⟨lhb, mhb, chb⟩ := hb.lens
    refine new h fun har0 _ h => ?_
    have h := h.asC (c' := #[Value.pointer (some (Addr.mk a 0 none))]) (by kernel_rfl)
    refine new h fun har1 _ h => ?_
    have h := h.asC (c' := #[Value.string (str s)]) (by kernel_rfl)
    refine new h fun har2 _ h => ?_
    have h := h.asC (c' := #[Value.slice t.p t.len t.cap]) (by kernel_rfl)
    refine ld _ h .n1 ?_
    refine rightPYes_ok h hr ?_
    refine brF ?_
    refine new h fun har4 _ h => ?_
    have h := h.asC (c' := #[Value.func (Fn.func 40) (List.map SV.v []).toArray (List.map SV.v [SV.s (S1.addr (Addr.mk har0 0 none)), SV.s (S1.addr (Addr.mk har1 0 none))]).toArray, Value.func (Fn.func 42) (List.map SV.v []).toArray (List.map SV.v [SV.s (S1.addr (Addr.mk har0 0 none)), SV.s (S1.addr (Addr.mk har1 0 none)), SV.s (S1.addr (Addr.mk har2 0 none))]).toArray, Value.func (Fn.func 44) (List.map SV.v []).toArray (List.map SV.v [SV.s (S1.addr (Addr.mk har0 0 none)), SV.s (S1.addr (Addr.mk har1 0 none))]).toArray]) (by kernel_rfl)
    rotate_left
    have h := ((((h.pick (A := PDisk a _) (by repeat (first | with_reducible exact Pick.here | apply Pick.there))).pick (A := blk har0 _) (by repeat (first | with_reducible exact Pick.here | apply Pick.there))).pick (A := blk har1 _) (by repeat (first | with_reducible exact Pick.here | apply Pick.there))).pick (A := blk har2 _) (by repeat (first | with_reducible exact Pick.here | apply Pick.there))).pick .n4
    refine grow_tail (s := s) (b := b) h hb (by omega) fun Γ' w' g h => ?_
    have hb := hb.mono g
    refine ⟨_, rfl, ?_⟩
    refine k _ _ g h
  · rw [if_pos hr] at k
    obtain ⟨lhb, mhb, chb⟩ := hb.lens
    refine new h fun cr0 _ h => ?_
    have h := h.asC (c' := #[Value.pointer (some (Addr.mk a 0 none))]) (by kernel_rfl)
    refine new h fun cr1 _ h => ?_
    have h := h.asC (c' := #[Value.string (str s)]) (by kernel_rfl)
    refine new h fun cr2 _ h => ?_
    have h := h.asC (c' := #[Value.slice t.p t.len t.cap]) (by kernel_rfl)
    refine ld _ h .n1 ?_
    refine rightPNot_ok h hr ?_
    refine brT ?_
    refine ⟨_, rfl, ?_⟩
    refine k _ _ (.refl _) h.drop.drop.drop

end Go.Proofs.Ytocmjngleknlbaa.K
