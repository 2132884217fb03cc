/-
  Frames: the reference's Seal.
-/
import Derived.Test.YtohoimokfgfceaaFrR
namespace Go.Proofs.Ytohoimokfgfceaa.K
open Go Go.Proofs
variable {Γ Γ' : Mem} {L L' L'' : List HP} {w w' : World} {A B : HP}
set_option maxRecDepth 100000
set_option maxHeartbeats 8000000

/-- four bytes are appended -/
theorem appFour_pr {T2 T3 : TypeId} {r : Nat} {z3 : Nat × Nat} {n0 n1 n2 n3 : Int} {s : Sl} {xs : Str} {K : Sl → World → Prop}
    (h : Sat Γ (blk r (.cells #[.int .u8 n0, .int .u8 n1, .int .u8 n2, .int .u8 n3] T3 z3) :: OL eByte 5 s xs :: L) w) (hb : s.len + 4 ≤ 70368744177664)
    (h0 : 0 ≤ n0 ∧ n0 < 256) (h1 : 0 ≤ n1 ∧ n1 < 256) (h2 : 0 ≤ n2 ∧ n2 < 256) (h3 : 0 ≤ n3 ∧ n3 < 256)
    (k : ∀ s' w', s'.len = s.len + 4 → Sat Γ (OL eByte 5 s' (xs ++ [UInt8.ofNat n0.toNat, UInt8.ofNat n1.toNat, UInt8.ofNat n2.toNat, UInt8.ofNat n3.toNat]) :: L) w' → K s' w') :
    Prim Try.prog (Builtin.append_ #[32, 32] T2 #[.slice s.p s.len s.cap, .slice (some ⟨r, 0, none⟩) 4 4]) (.one (.s .sl)) K w := by
  have hv : ∀ n : Int, 0 ≤ n ∧ n < 256 → eByte.r Γ n (UInt8.ofNat n.toNat) := fun n hn => by
    show n = ((UInt8.ofNat n.toNat).toNat : Int)
    rw [UInt8.toNat_ofNat']
    have : n.toNat % 2 ^ 8 = n.toNat := Nat.mod_eq_of_lt (by omega)
    omega
  refine appN (E := eByte) (zs := [UInt8.ofNat n0.toNat, UInt8.ofNat n1.toNat, UInt8.ofNat n2.toNat, UInt8.ofNat n3.toNat]) (ys := [n0, n1, n2, n3]) slBytes slBytes.self h (.there .here) ?_
    (.cons (hv _ h0) (.cons (hv _ h1) (.cons (hv _ h2) (.cons (hv _ h3) .nil)))) (by show (s.len + 4) * 1 ≤ _; omega) fun s' w' hl h3 => k s' w' hl (h3.pick (.there .here)).drop
  exact Src.one (c := [.int .u8 n0, .int .u8 n1, .int .u8 n2, .int .u8 n3]) (n := 4) (sz := 1) (k := 4) h .here rfl

theorem rseal_ok {s : Sl} {x : Str} {K : Sl → World → Prop} (h : Sat Γ L w) (hx : Bytes Γ s x) (hl : x.length < 1000000000000) (k : ∀ t Γ' w', Γ.le Γ' → Bytes Γ' t (sealB x) → Sat Γ' L w' → K t w') :
    CallP Try.prog 155 [.slice s.p s.len s.cap] (.one (.s .sl)) K w := by
  have hcl := crc_lt x
  have b0 := byteOf (crc x)
  have b1 := byteOf (crc x / 256)
  have b2 := byteOf (crc x / 65536)
  have b3 := byteOf (crc x / 16777216)
  refine callP (fn := Try.f155) [.s (.sl s)] .n nong mixed (by kernel_rfl) (by kernel_rfl) rfl rfl ?_
  obtain ⟨lhx, mhx, chx⟩ := hx.lens
  refine rsum_ok h hx (fun _ h => ?_)
  refine new h fun ar3 _ h => ?_
  have h := h.asA (B := blk ar3 (.cells #[] 5 (0, 0))) (by kernel_rfl)
  have h := (h.pick .n0).olEmpty (E := eByte)
  refine appL slBytes h .n0 hx.lst (fun as4 _ al4 h => ?_)
  dsimp only at al4
  refine ⟨by omega, ?_⟩
  refine tmd ?_
  refine wr8 ?_
  refine ⟨by omega, ?_⟩
  refine wr32 ?_
  refine ⟨by omega, ?_⟩
  refine tmd ?_
  refine wr8 ?_
  refine ⟨by omega, ?_⟩
  refine wr32 ?_
  refine ⟨by omega, ?_⟩
  refine tmd ?_
  refine wr8 ?_
  refine ⟨by omega, ?_⟩
  refine wr32 ?_
  refine wr8 ?_
  refine new h fun ar5 _ h => ?_
  have h := h.asA (B := blk ar5 (.cells #[Value.int IntKind.u8 ((↑(crc x) : Int) % 256 % 256), Value.int IntKind.u8 ((↑(crc x) : Int).tdiv 256 % 4294967296 % 256 % 256), Value.int IntKind.u8 ((↑(crc x) : Int).tdiv 65536 % 4294967296 % 256 % 256), Value.int IntKind.u8 ((↑(crc x) : Int).tdiv 16777216 % 4294967296 % 256)] 5 (0, 0))) (by kernel_rfl)
  refine appFour_pr ((h.pick .n1).pick .n1) (by first | omega | (dsimp only; omega) | decide) (by first | omega | (dsimp only; omega) | decide) (by first | omega | (dsimp only; omega) | decide) (by first | omega | (dsimp only; omega) | decide) (by first | omega | (dsimp only; omega) | decide) (fun av7 _ ap9 h => ?_)
  refine ⟨_, rfl, ?_⟩
  obtain ⟨aΓ11, ag11, af11, h⟩ := h.olFreeze .n0 (by first | omega | (dsimp only; omega))
  have af11 := af11.bytes
  have hx := hx.mono ag11
  rotate_left
  have hb : ∀ (a : Nat) (z : Int), z % 256 = (a : Int) % 256 → 0 ≤ z → UInt8.ofNat z.toNat = UInt8.ofNat a := fun a z h h0 => by
    apply UInt8.toNat_inj.1
    rw [UInt8.toNat_ofNat', UInt8.toNat_ofNat']
    show z.toNat % 256 = a % 256
    omega
  have t1 : Int.tdiv ((crc x : Nat) : Int) 256 = ((crc x / 256 : Nat) : Int) := rfl
  have t2 : Int.tdiv ((crc x : Nat) : Int) 65536 = ((crc x / 65536 : Nat) : Int) := rfl
  have t3 : Int.tdiv ((crc x : Nat) : Int) 16777216 = ((crc x / 16777216 : Nat) : Int) := rfl
  rw [t1, t2, t3, hb (crc x) (((crc x : Nat) : Int) % 256 % 256) (by omega) (by omega), hb (crc x / 256) (((crc x / 256 : Nat) : Int) % 4294967296 % 256 % 256) (by omega) (by omega),
    hb (crc x / 65536) (((crc x / 65536 : Nat) : Int) % 4294967296 % 256 % 256) (by omega) (by omega), hb (crc x / 16777216) (((crc x / 16777216 : Nat) : Int) % 4294967296 % 256) (by omega) (by omega)] at af11
  exact k av7 aΓ11 _ ag11 af11 h

end Go.Proofs.Ytohoimokfgfceaa.K
