/-
  The reference's disk: its calls.
-/
import Derived.Test.YtohoimokfgfceaaRdD
namespace Go.Proofs.Ytohoimokfgfceaa.K
open Go Go.Proofs
variable {Γ Γ' : Mem} {L L' L'' : List HP} {w w' : World} {A B : HP}
set_option maxRecDepth 100000
set_option maxHeartbeats 1000000

theorem rright_ok {s : Str} {K : Bool → World → Prop} (k1 : rightN s → K true w) (k2 : ¬ rightN s → K false w) :
    CallP Try.prog 168 [.string (str s)] (.one (.s .bool)) K w := by
  have hz := str_size s
  unfold rightN at k1 k2
  refine callP (fn := Try.f168) [.s (.str (str s))] .n nong mixed (by kernel_rfl) (by kernel_rfl) rfl rfl ?_
  refine brD (fun ab0 => ?_) (fun ab0 => ?_)
  refine ⟨_, rfl, ?_⟩
  refine kDec (fun ab1 => ?_) (fun ab1 => ?_)
  refine k1 (by first | omega | (dsimp only; omega) | decide)
  refine k2 (by first | omega | (dsimp only; omega) | decide)
  refine ⟨_, rfl, ?_⟩
  refine k2 (by first | omega | (dsimp only; omega) | decide)

theorem rNew_ok {r : Int} {K : Option Addr → World → Prop} (h : Sat Γ L w) (k : ∀ a w', Sat Γ (RDisk a (.new r) :: L) w' → K (some ⟨a, 0, none⟩) w') :
    CallP Try.prog 69 [.int .i64 r] (.one (.s .ptr)) K w := by
  refine callP (fn := Try.f69) [.s (.int .i64 r)] .n nong mixed (by kernel_rfl) (by kernel_rfl) rfl rfl ?_
  refine mxI ?_
  refine new h fun ar0 _ h => ?_
  refine ⟨_, rfl, ?_⟩
  refine k _ _ ?_
  rotate_left
  have h1 := h.olNil (E := eFileR) (T := TRFile)
  have h2 := h1.pick (A := blk ar0 _) .n1
  exact Sat.toRd (fl := ⟨none, 0, 0⟩) (nl := ⟨none, 0, 0⟩) (kl := ⟨none, 0, 0⟩) (cl := ⟨none, 0, 0⟩) (left := 0) h2 ⟨.nil _ _, .nil _ _, .nil _ _, fun _ e => (by cases e), .new r⟩

theorem appChgR_pr {T2 T3 r : Nat} {z3 : Nat × Nat} {s : Sl} {xs : List ChM} {c : ChM} {f : Int} {K : Sl → World → Prop} (h : Sat Γ (blk r (.cells #[.string (str c.gone), .string (str c.new), .int .i64 f] T3 z3) :: L) w) (pk : Pick (OL eChgR TRChg s xs) L L')
    (hff : c.gone = [] → f = (c.file : Int)) (hb : (s.len + 1) * 40 ≤ 70368744177664) (k : ∀ s' w', s'.len = s.len + 1 → Sat Γ (OL eChgR TRChg s' (xs ++ [c]) :: L') w' → K s' w') :
    Prim Try.prog (Builtin.append_ #[186, 186] T2 #[.slice s.p s.len s.cap, .slice (some ⟨r, 0, none⟩) 1 1]) (.one (.s .sl)) K w :=
  app1 (E := eChgR) (str c.gone, str c.new, f) c slChgR h pk ⟨rfl, rfl, hff⟩ k hb

theorem rDoes_ok {a : Nat} {m : DiskM} {c : ChM} {f : Int} {K : PUnit → World → Prop} (h : Sat Γ (RDisk a m :: L) w) (hg : m.g < 1000000000001) (hc : FitC m.now c) (hf : c.file < m.files.length) (hff : c.gone = [] → f = (c.file : Int))
    (k : ∀ Γ' w', Γ.le Γ' → Sat Γ' (RDisk a (m.does c) :: L) w' → K ⟨⟩ w') :
    CallP Try.prog 169 [.pointer (some ⟨a, 0, none⟩), .agg #[.string (str c.gone), .string (str c.new), .int .i64 f]] (.tup []) K w := by
  obtain ⟨fl, nl, kl, cl, left, ⟨rn, rk, rc, rleft, hw⟩, h⟩ := h.rd
  have hgn := hw.gn
  have hgl := hw.gl
  have hnl := hw.nowLen
  have hnow := hw.nowOK
  have k2 : ∀ Γ' w' nl' cl', Γ.le Γ' → Lst eNameR Γ' nl' (chg m.now c) → Lst eNameR Γ' kl m.kept → Lst eChgR Γ' cl' (m.changes ++ [c]) →
      Sat Γ' (blk a (.cells #[slv fl, slv nl', slv kl, slv cl', .int .i64 m.room, .bool m.down, .bool m.doomed, .int .i64 left] TRDisk (0, 0)) :: OL eFileR TRFile fl m.files :: L) w' → K ⟨⟩ w' :=
    fun Γ' w' nl' cl' g a1 a2 a3 h => k Γ' w' g (Sat.toRd (m := m.does c) (left := left) h ⟨a1, a2, a3, rleft, hw.does hc hf⟩)
  clear k
  refine callP (fn := Try.f169) [.s (.ptr (some ⟨a, 0, none⟩)), .agg [.str (str c.gone), .str (str c.new), .int .i64 f]] (.p .n (.p (.h [0, 1, 2, 3, 4, 5, 6, 7, 8, 9] [9]) (.t (.n 0 (.n 2 (.n 3 (.n 4 (.n 5 (.n 7 (.o (.n 1 (.o (.n 6 (.n 8 (.n 9 (.n 10 (.n 11 (.n 12 .e)))))) (.n 8 (.n 6 (.n 9 (.n 10 (.n 11 (.n 12 .e)))))))) (.n 8 (.n 1 (.n 6 (.n 9 (.n 10 (.n 11 (.n 12 .e)))))))))))))) [12]))) nong mixed (by kernel_rfl) (by kernel_rfl) rfl rfl ?_
  obtain ⟨lrn, mrn, crn⟩ := rn.lens
  obtain ⟨lrk, mrk, crk⟩ := rk.lens
  obtain ⟨lrc, mrc, crc⟩ := rc.lens
  refine new h fun har0 _ h => ?_
  have h := h.asA (B := blk har0 (.cells #[Value.string (str c.gone), Value.string (str c.new), Value.int IntKind.i64 f] 194 (0, 0))) (by kernel_rfl)
  rotate_left
  refine heldS h (.cons .n0 (.cons .n0 .nil)) ?_
  refine dr h fun _ h => ?_
  refine ⟨h.sxs (.cons .n0 (.cons .n0 .nil)) (.refl _), ?_⟩
  refine ⟨_, rfl, ?_⟩
  refine ldH _ .n1 ?_
  refine ldHA3 _ _ _ .n0 ?_
  refine rchange_ok h rn hnow (by first | omega | (dsimp only; omega) | decide) (by first | omega | (dsimp only; omega) | decide) hc hf hff (fun hbv1 hbΓ2 _ hbg4 hbf5 h => ?_)
  have rn := rn.mono hbg4
  have rk := rk.mono hbg4
  have rc := rc.mono hbg4
  obtain ⟨lhbf5, mhbf5, chbf5⟩ := hbf5.lens
  refine ⟨h.sxs (.cons .n0 (.cons .n0 .nil)) hbg4, ?_⟩
  refine ⟨_, rfl, ?_⟩
  refine st h .n1 fun _ h => ?_
  have h := h.asA (B := blk a (.cells #[Value.slice fl.p fl.len fl.cap, Value.slice hbv1.p hbv1.len hbv1.cap, Value.slice kl.p kl.len kl.cap, Value.slice cl.p cl.len cl.cap, Value.int IntKind.i64 m.room, Value.bool m.down, Value.bool m.doomed, Value.int IntKind.i64 left] 188 (0, 0))) (by kernel_rfl)
  rotate_left
  refine heldS h .nil ?_
  refine ⟨h.sxs .nil (.refl _), ?_⟩
  rotate_left
  have h := h.asA (B := blk a (.cells (rdcells fl hbv1 kl cl { m with now := chg m.now c } left) TRDisk (0, 0))) (by kernel_rfl)
  refine heldS h (.cons .n0 (.cons .n0 .nil)) ?_
  refine dr h fun _ h => ?_
  refine ⟨h.sxs (.cons .n0 (.cons .n0 .nil)) (.refl _), ?_⟩
  refine ⟨_, rfl, ?_⟩
  refine ldH _ .n0 ?_
  refine ldHA3 _ _ _ .n1 ?_
  refine ⟨?_, ?_⟩
  refine new h fun hdr0 _ h => ?_
  have h := h.asA (B := blk hdr0 (.cells #[] 194 (0, 0))) (by kernel_rfl)
  refine ⟨h.sxs (.cons .n1 (.cons .n1 .nil)) (.refl _), ?_⟩
  refine ⟨?_, ?_⟩
  have h := (h.pick .n0).olEmpty (E := eChgR)
  refine appL slChgR h .n0 rc (fun hds1 _ hdl1 h => ?_)
  dsimp only at hdl1
  refine ⟨h.sxs (.cons .n1 (.cons .n1 .nil)) (.refl _), ?_⟩
  refine new h fun hdr2 _ h => ?_
  have h := h.asA (B := blk hdr2 (.cells #[Value.string (str c.gone, str c.new, f).fst, Value.string (str c.gone, str c.new, f).snd.fst, Value.int IntKind.i64 (str c.gone, str c.new, f).snd.snd] 194 (0, 0))) (by kernel_rfl)
  refine ⟨h.sxs (.cons .n2 (.cons .n2 .nil)) (.refl _), ?_⟩
  refine appChgR_pr h .n0 hff (by first | omega | (dsimp only; omega) | decide) (fun hdv4 _ hdp6 h => ?_)
  refine ⟨h.sxs (.cons .n1 (.cons .n1 .nil)) (.refl _), ?_⟩
  refine ⟨_, rfl, ?_⟩
  refine st h .n1 fun _ h => ?_
  have h := h.asA (B := blk a (.cells #[Value.slice fl.p fl.len fl.cap, Value.slice hbv1.p hbv1.len hbv1.cap, Value.slice kl.p kl.len kl.cap, Value.slice hdv4.p hdv4.len hdv4.cap, Value.int IntKind.i64 (DiskM.mk m.files (chg m.now c) m.kept m.changes m.room m.down m.doomed m.left m.g).room, Value.bool (DiskM.mk m.files (chg m.now c) m.kept m.changes m.room m.down m.doomed m.left m.g).down, Value.bool (DiskM.mk m.files (chg m.now c) m.kept m.changes m.room m.down m.doomed m.left m.g).doomed, Value.int IntKind.i64 left] 188 (0, 0))) (by kernel_rfl)
  rotate_left
  refine new h fun hdr8 _ h => ?_
  have h := h.asA (B := blk hdr8 (.cells #[Value.string (str c.gone, str c.new, f).fst, Value.string (str c.gone, str c.new, f).snd.fst, Value.int IntKind.i64 (str c.gone, str c.new, f).snd.snd] 194 (0, 0))) (by kernel_rfl)
  refine ⟨h.sxs (.cons .n2 (.cons .n2 .nil)) (.refl _), ?_⟩
  have h := (h.pick .n1).olEmpty (E := eChgR)
  refine appL slChgR h .n0 rc (fun hds9 _ hdl9 h => ?_)
  dsimp only at hdl9
  refine ⟨h.sxs (.cons .n2 (.cons .n2 .nil)) (.refl _), ?_⟩
  refine appChgR_pr (h.pick .n1) .n0 hff (by first | omega | (dsimp only; omega) | decide) (fun hdv11 _ hdp13 h => ?_)
  refine ⟨h.sxs (.cons .n1 (.cons .n1 .nil)) (.refl _), ?_⟩
  refine ⟨_, rfl, ?_⟩
  refine st h .n1 fun _ h => ?_
  have h := h.asA (B := blk a (.cells #[Value.slice fl.p fl.len fl.cap, Value.slice hbv1.p hbv1.len hbv1.cap, Value.slice kl.p kl.len kl.cap, Value.slice hdv11.p hdv11.len hdv11.cap, Value.int IntKind.i64 (DiskM.mk m.files (chg m.now c) m.kept m.changes m.room m.down m.doomed m.left m.g).room, Value.bool (DiskM.mk m.files (chg m.now c) m.kept m.changes m.room m.down m.doomed m.left m.g).down, Value.bool (DiskM.mk m.files (chg m.now c) m.kept m.changes m.room m.down m.doomed m.left m.g).doomed, Value.int IntKind.i64 left] 188 (0, 0))) (by kernel_rfl)
  rotate_left
  refine new h fun hdr15 _ h => ?_
  have h := h.asA (B := blk hdr15 (.cells #[Value.string (str c.gone, str c.new, f).fst, Value.string (str c.gone, str c.new, f).snd.fst, Value.int IntKind.i64 (str c.gone, str c.new, f).snd.snd] 194 (0, 0))) (by kernel_rfl)
  refine ⟨h.sxs (.cons .n1 (.cons .n1 .nil)) (.refl _), ?_⟩
  refine new h fun hdr16 _ h => ?_
  have h := h.asA (B := blk hdr16 (.cells #[] 194 (0, 0))) (by kernel_rfl)
  refine ⟨h.sxs (.cons .n2 (.cons .n2 .nil)) (.refl _), ?_⟩
  have h := (h.pick .n0).olEmpty (E := eChgR)
  refine appL slChgR h .n0 rc (fun hds17 _ hdl17 h => ?_)
  dsimp only at hdl17
  refine ⟨h.sxs (.cons .n2 (.cons .n2 .nil)) (.refl _), ?_⟩
  refine appChgR_pr (h.pick .n1) .n0 hff (by first | omega | (dsimp only; omega) | decide) (fun hdv19 _ hdp21 h => ?_)
  refine ⟨h.sxs (.cons .n1 (.cons .n1 .nil)) (.refl _), ?_⟩
  refine ⟨_, rfl, ?_⟩
  refine st h .n1 fun _ h => ?_
  have h := h.asA (B := blk a (.cells #[Value.slice fl.p fl.len fl.cap, Value.slice hbv1.p hbv1.len hbv1.cap, Value.slice kl.p kl.len kl.cap, Value.slice hdv19.p hdv19.len hdv19.cap, Value.int IntKind.i64 (DiskM.mk m.files (chg m.now c) m.kept m.changes m.room m.down m.doomed m.left m.g).room, Value.bool (DiskM.mk m.files (chg m.now c) m.kept m.changes m.room m.down m.doomed m.left m.g).down, Value.bool (DiskM.mk m.files (chg m.now c) m.kept m.changes m.room m.down m.doomed m.left m.g).doomed, Value.int IntKind.i64 left] 188 (0, 0))) (by kernel_rfl)
  rotate_left
  all_goals
    refine heldS h .nil ?_
    refine ⟨h.sxs .nil (.refl _), ?_⟩
    obtain ⟨Γ9, g9, f9, h⟩ := h.olFreeze (E := eChgR) (T := TRChg) (by repeat (first | with_reducible exact Pick.here | apply Pick.there)) (by omega)
    rw [List.nil_append] at f9
    have rn := hbf5.mono g9
    have rk := rk.mono g9
  · have hbf5 := hbf5.mono g9
    have rc := rc.mono g9
    refine ⟨⟨⟩, rfl, ?_⟩
    refine k2 _ _ _ _ (hbg4.trans g9) hbf5 rk f9 (((h.pick .n1).drop.pick .n1).pick .n1)
  · have hbf5 := hbf5.mono g9
    have rc := rc.mono g9
    refine ⟨⟨⟩, rfl, ?_⟩
    refine k2 _ _ _ _ (hbg4.trans g9) hbf5 rk f9 (((h.pick .n1).drop.pick .n1).pick .n1)
  · have hbf5 := hbf5.mono g9
    have rc := rc.mono g9
    refine ⟨⟨⟩, rfl, ?_⟩
    refine k2 _ _ _ _ (hbg4.trans g9) hbf5 rk f9 (((h.pick .n1).drop.pick .n1).pick .n1)

end Go.Proofs.Ytohoimokfgfceaa.K
