/-
  Small functions of Go's library that the tree calls.
-/
import Derived.Test.YtocmjngleknlbaaTrA
import Derived.Test.YtocmjngleknlbaaEngS
namespace Go.Proofs.Ytocmjngleknlbaa.K
open Go Go.Proofs
variable {Γ Γ' : Mem} {L L' L'' : List HP} {w w' : World} {A B : HP}
set_option maxRecDepth 100000

/-- slices.Clone of bytes -/
theorem clone_ok {s : Sl} {bs : List UInt8} {K : Sl → World → Prop} (h : Sat Γ L w) (hb : Bytes Γ s bs) (hs : bs.length ≤ 70368744177664)
    (k : ∀ s' Γ' w', Γ.le Γ' → Bytes Γ' s' bs → Sat Γ' L w' → K s' w') : CallP Try.prog 27 [.slice s.p s.len s.cap] (.one (.s .sl)) K w := by
  refine callP (fn := Try.f27) [.s (.sl s)] .n nong mixed (by kernel_rfl) (by kernel_rfl) rfl rfl ?_
  have hl := hb.len
  refine br (fun hn => ?_) (fun hn => ?_)
  · have hp : s.p = none := by simpa using hn
    have h0 : s.len = 0 := by
      apply Classical.byContradiction
      intro h0
      obtain ⟨b, o, c, T, z, h1, _⟩ := Fz.at_ hb h0
      rw [hp] at h1; cases h1
    have hb0 : bs = [] := List.eq_nil_of_length_eq_zero (by omega)
    subst hb0
    exact ⟨⟨none, 0, 0⟩, rfl, k _ Γ _ (.refl _) (.nil _ _) h⟩
  · refine new h fun r w1 h1 => ?_
    have h2 := Sat.whole (n := 0) (sz := 1) h1 rfl
    refine append slBytes slBytes.self h2 .here (hb.src h2) (by simp) (map_bv_one _) (by simpa using hs) fun s' w2 hl' h3 => ?_
    have hs' : s'.len ≤ 140737488355328 := by rw [hl']; simp; omega
    obtain ⟨Γ', g1, g2, g3⟩ := h3.freezeOwn hs'
    exact ⟨s', rfl, k s' Γ' w2 g1 (by simpa [Bytes] using g2) g3⟩

theorem isNaN_ok {a : Int} {K : Bool → World → Prop} (k : K false w) : CallP Try.prog 80 [.int .i64 a] (.one (.s .bool)) K w := by
  refine callP (fn := Try.f80) [.s (.int .i64 a)] .n nong mixed (by kernel_rfl) (by kernel_rfl) rfl rfl ?_
  refine ⟨a != a, rfl, ?_⟩
  rw [bne_self_eq_false]
  exact k

/-- cmp.Compare of integers -/
def cmpInt (a b : Int) : Int := if a < b then -1 else if a > b then 1 else 0

theorem compareInt_ok {a b : Int} {K : Int → World → Prop} (k : K (cmpInt a b) w) : CallP Try.prog 73 [.int .i64 a, .int .i64 b] (.one (.s (.int .i64))) K w := by
  refine callP (fn := Try.f73) [.s (.int .i64 a), .s (.int .i64 b)] .n nong mixed (by kernel_rfl) (by kernel_rfl) rfl rfl ?_
  refine isNaN_ok ?_
  refine isNaN_ok ?_
  refine br (fun hn => (by cases hn)) (fun _ => ?_)
  refine br (fun hn => (by cases hn)) (fun _ => ?_)
  unfold cmpInt at k
  refine br (fun hn => ?_) (fun hn => ?_)
  · rw [if_pos (of_decide_eq_true hn)] at k
    exact ⟨_, rfl, k⟩
  · rw [if_neg (of_decide_eq_false hn)] at k
    refine br (fun hm => ?_) (fun hm => ?_)
    · rw [if_pos (of_decide_eq_true hm)] at k
      exact ⟨_, rfl, k⟩
    · rw [if_neg (of_decide_eq_false hm)] at k
      exact ⟨_, rfl, k⟩

theorem bcmp_ok {s t : Sl} {x y : List UInt8} {K : Int → World → Prop} (h : Sat Γ L w) (hx : Bytes Γ s x) (hy : Bytes Γ t y) (k : K (cmpB x y) w) :
    CallP Try.prog 58 [.slice s.p s.len s.cap, .slice t.p t.len t.cap] (.one (.s (.int .i64))) K w := by
  refine callP (fn := Try.f58) [.s (.sl s), .s (.sl t)] .n nong mixed (by kernel_rfl) (by kernel_rfl) rfl rfl ?_
  refine prim_extern (f := 71) (fn := Try.f71) (e := Extern.BytealgCompare.compare) (x := cmpB x y) nong (by kernel_rfl) (by kernel_rfl) (by kernel_rfl) (by kernel_rfl) (compare_run hx hy h) ?_
  exact ⟨_, rfl, k⟩

end Go.Proofs.Ytocmjngleknlbaa.K
