/-
  Frames: the reference's Seal.
-/
import Derived.Test.YtocmjngleknlbaaFrR
namespace Go.Proofs.Ytocmjngleknlbaa.K
open Go Go.Proofs
variable {Γ Γ' : Mem} {L L' L'' : List HP} {w w' : World} {A B : HP}
set_option maxRecDepth 100000
set_option maxHeartbeats 8000000

/-- four bytes are appended -/
theorem appFour_pr {T2 T3 : TypeId} {r : Nat} {z3 : Nat × Nat} {n0 n1 n2 n3 : Int} {s : Sl} {xs : Str} {K : Sl → World → Prop}
    (h : Sat Γ (blk r (.cells #[.int .u8 n0, .int .u8 n1, .int .u8 n2, .int .u8 n3] T3 z3) :: OL eByte 5 s xs :: L) w) (hb : s.len + 4 ≤ 70368744177664)
    (h0 : 0 ≤ n0 ∧ n0 < 256) (h1 : 0 ≤ n1 ∧ n1 < 256) (h2 : 0 ≤ n2 ∧ n2 < 256) (h3 : 0 ≤ n3 ∧ n3 < 256)
    (k : ∀ s' w', s'.len = s.len + 4 → Sat Γ (OL eByte 5 s' (xs ++ [UInt8.ofNat n0.toNat, UInt8.ofNat n1.toNat, UInt8.ofNat n2.toNat, UInt8.ofNat n3.toNat]) :: L) w' → K s' w') :
    Prim Try.prog (Builtin.append_ #[26, 26] T2 #[.slice s.p s.len s.cap, .slice (some ⟨r, 0, none⟩) 4 4]) (.one (.s .sl)) K w := by
  have hv : ∀ n : Int, 0 ≤ n ∧ n < 256 → eByte.r Γ n (UInt8.ofNat n.toNat) := fun n hn => by
    show n = ((UInt8.ofNat n.toNat).toNat : Int)
    rw [UInt8.toNat_ofNat']
    have : n.toNat % 2 ^ 8 = n.toNat := Nat.mod_eq_of_lt (by omega)
    omega
  refine appN (E := eByte) (zs := [UInt8.ofNat n0.toNat, UInt8.ofNat n1.toNat, UInt8.ofNat n2.toNat, UInt8.ofNat n3.toNat]) (ys := [n0, n1, n2, n3]) slBytes slBytes.self h (.there .here) ?_
    (.cons (hv _ h0) (.cons (hv _ h1) (.cons (hv _ h2) (.cons (hv _ h3) .nil)))) (by show (s.len + 4) * 1 ≤ _; omega) fun s' w' hl h3 => k s' w' hl (h3.pick (.there .here)).drop
  exact Src.one (c := [.int .u8 n0, .int .u8 n1, .int .u8 n2, .int .u8 n3]) (n := 4) (sz := 1) (k := 4) h .here rfl

end Go.Proofs.Ytocmjngleknlbaa.K
