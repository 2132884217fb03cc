/-
  Rules: numbers bit by bit.
-/
import Derived.Test.YtocmjngleknlbaaFrM
import Derived.Test.YtocmjngleknlbaaEngP
import Derived.Test.YtocmjngleknlbaaTrB
namespace Go.Proofs.Ytocmjngleknlbaa.K
open Go Go.Proofs
variable {P : Program} {Γ Γ' : Mem} {L L' L'' : List HP} {w w' : World} {A B : HP}

theorem ofInt_nat (n a : Nat) : BitVec.ofInt n (a : Int) = BitVec.ofNat n a := BitVec.ofInt_natCast n a

theorem wrap_small {kd : IntKind} {n : Nat} (hs : kd.signed = false) (h : n < 2 ^ kd.bits) : kd.wrap (n : Int) = (n : Int) := by
  unfold IntKind.wrap
  rw [hs]
  simp only [Bool.false_and, Bool.false_eq_true, if_false]
  have h2 : ((n : Int)) < ((2 ^ kd.bits : Nat) : Int) := by exact_mod_cast h
  have h3 : (2 : Int) ^ kd.bits = ((2 ^ kd.bits : Nat) : Int) := by simp
  rw [h3]
  exact Int.emod_eq_of_lt (by omega) h2

theorem axor {kd : IntKind} {x y : Int} {K : Int → Prop} {a b : Nat} (hs : kd.signed = false) (ha : x = a) (hb : y = b) (la : a < 2 ^ kd.bits) (lb : b < 2 ^ kd.bits) (k : K ((a ^^^ b : Nat) : Int)) :
    Ari (kd.wrap ((BitVec.ofInt kd.bits x ^^^ BitVec.ofInt kd.bits y).toNat : Nat)) K := by
  subst ha hb
  refine ⟨?_⟩
  rw [ofInt_nat, ofInt_nat, BitVec.toNat_xor, BitVec.toNat_ofNat, BitVec.toNat_ofNat, Nat.mod_eq_of_lt la, Nat.mod_eq_of_lt lb, wrap_small hs (Nat.xor_lt_two_pow la lb)]
  exact k

theorem aand {kd : IntKind} {x y : Int} {K : Int → Prop} {a b : Nat} (hs : kd.signed = false) (ha : x = a) (hb : y = b) (la : a < 2 ^ kd.bits) (lb : b < 2 ^ kd.bits) (k : K ((a &&& b : Nat) : Int)) :
    Ari (kd.wrap ((BitVec.ofInt kd.bits x &&& BitVec.ofInt kd.bits y).toNat : Nat)) K := by
  subst ha hb
  refine ⟨?_⟩
  rw [ofInt_nat, ofInt_nat, BitVec.toNat_and, BitVec.toNat_ofNat, BitVec.toNat_ofNat, Nat.mod_eq_of_lt la, Nat.mod_eq_of_lt lb, wrap_small hs (Nat.and_lt_two_pow _ lb)]
  exact k

theorem aor {kd : IntKind} {x y : Int} {K : Int → Prop} {a b : Nat} (hs : kd.signed = false) (ha : x = a) (hb : y = b) (la : a < 2 ^ kd.bits) (lb : b < 2 ^ kd.bits) (k : K ((a ||| b : Nat) : Int)) :
    Ari (kd.wrap ((BitVec.ofInt kd.bits x ||| BitVec.ofInt kd.bits y).toNat : Nat)) K := by
  subst ha hb
  refine ⟨?_⟩
  rw [ofInt_nat, ofInt_nat, BitVec.toNat_or, BitVec.toNat_ofNat, BitVec.toNat_ofNat, Nat.mod_eq_of_lt la, Nat.mod_eq_of_lt lb, wrap_small hs (Nat.or_lt_two_pow la lb)]
  exact k

theorem axor32 {x y : Int} {K : Int → Prop} (a b : Nat) (k : K ((a ^^^ b : Nat) : Int)) (ha : x = a := by omega) (hb : y = b := by omega) (la : a < 4294967296 := by omega) (lb : b < 4294967296 := by omega) :
    Ari (IntKind.u32.wrap ((BitVec.ofInt 32 x ^^^ BitVec.ofInt 32 y).toNat : Nat)) K := axor (kd := .u32) rfl ha hb la lb k
theorem axor8 {x y : Int} {K : Int → Prop} (a b : Nat) (k : K ((a ^^^ b : Nat) : Int)) (ha : x = a := by omega) (hb : y = b := by omega) (la : a < 256 := by omega) (lb : b < 256 := by omega) :
    Ari (IntKind.u8.wrap ((BitVec.ofInt 8 x ^^^ BitVec.ofInt 8 y).toNat : Nat)) K := axor (kd := .u8) rfl ha hb la lb k
theorem axor64 {x y : Int} {K : Int → Prop} (a b : Nat) (k : K ((a ^^^ b : Nat) : Int)) (ha : x = a := by omega) (hb : y = b := by omega) (la : a < 18446744073709551616 := by omega) (lb : b < 18446744073709551616 := by omega) :
    Ari (IntKind.u64.wrap ((BitVec.ofInt 64 x ^^^ BitVec.ofInt 64 y).toNat : Nat)) K := axor (kd := .u64) rfl ha hb la lb k
theorem aand32 {x y : Int} {K : Int → Prop} (a b : Nat) (k : K ((a &&& b : Nat) : Int)) (ha : x = a := by omega) (hb : y = b := by omega) (la : a < 4294967296 := by omega) (lb : b < 4294967296 := by omega) :
    Ari (IntKind.u32.wrap ((BitVec.ofInt 32 x &&& BitVec.ofInt 32 y).toNat : Nat)) K := aand (kd := .u32) rfl ha hb la lb k
theorem aand8 {x y : Int} {K : Int → Prop} (a b : Nat) (k : K ((a &&& b : Nat) : Int)) (ha : x = a := by omega) (hb : y = b := by omega) (la : a < 256 := by omega) (lb : b < 256 := by omega) :
    Ari (IntKind.u8.wrap ((BitVec.ofInt 8 x &&& BitVec.ofInt 8 y).toNat : Nat)) K := aand (kd := .u8) rfl ha hb la lb k
theorem aand64 {x y : Int} {K : Int → Prop} (a b : Nat) (k : K ((a &&& b : Nat) : Int)) (ha : x = a := by omega) (hb : y = b := by omega) (la : a < 18446744073709551616 := by omega) (lb : b < 18446744073709551616 := by omega) :
    Ari (IntKind.u64.wrap ((BitVec.ofInt 64 x &&& BitVec.ofInt 64 y).toNat : Nat)) K := aand (kd := .u64) rfl ha hb la lb k
theorem aor8 {x y : Int} {K : Int → Prop} (a b : Nat) (k : K ((a ||| b : Nat) : Int)) (ha : x = a := by omega) (hb : y = b := by omega) (la : a < 256 := by omega) (lb : b < 256 := by omega) :
    Ari (IntKind.u8.wrap ((BitVec.ofInt 8 x ||| BitVec.ofInt 8 y).toNat : Nat)) K := aor (kd := .u8) rfl ha hb la lb k
theorem aor64 {x y : Int} {K : Int → Prop} (a b : Nat) (k : K ((a ||| b : Nat) : Int)) (ha : x = a := by omega) (hb : y = b := by omega) (la : a < 18446744073709551616 := by omega) (lb : b < 18446744073709551616 := by omega) :
    Ari (IntKind.u64.wrap ((BitVec.ofInt 64 x ||| BitVec.ofInt 64 y).toNat : Nat)) K := aor (kd := .u64) rfl ha hb la lb k

/-- a number moved down -/
theorem ashr {x : Int} {m : Nat} {K : Int → Prop} (a s : Nat) (k : K ((a / 2 ^ s : Nat) : Int)) (ha : x = a := by omega) (hm : m = s := by first | rfl | omega) : Ari (x.fdiv (2 ^ m)) K := by
  subst ha hm
  refine ⟨?_⟩
  have e : (2 : Int) ^ m = ((2 ^ m : Nat) : Int) := by simp
  rw [e, Int.fdiv_eq_ediv_of_nonneg _ (Int.natCast_nonneg _), ← Int.natCast_ediv]
  exact k

/-- a number moved up -/
theorem ashl64 {x : Int} {m : Nat} {K : Int → Prop} (a s : Nat) (k : K ((a * 2 ^ s % 18446744073709551616 : Nat) : Int)) (ha : x = a := by omega) (hm : m = s := by first | rfl | omega) : Ari (IntKind.u64.wrap (x * 2 ^ m)) K := by
  subst ha hm
  refine ⟨?_⟩
  have e : (a : Int) * 2 ^ m = ((a * 2 ^ m : Nat) : Int) := by simp
  have h2 : IntKind.u64.wrap ((a : Int) * 2 ^ m) = ((a * 2 ^ m % 18446744073709551616 : Nat) : Int) := by
    rw [e]
    unfold IntKind.wrap
    simp [IntKind.signed, IntKind.bits]
  rw [h2]
  exact k

/-- less a number -/
theorem aneg32 {x : Int} {K : Int → Prop} (k : K ((0 - x) % 4294967296)) : Ari (IntKind.u32.wrap (0 - x)) K := wr32 k

end Go.Proofs.Ytocmjngleknlbaa.K

/-
  Numbers as bytes: the program's vary.Fix and vary.Unfix.
-/
namespace Go.Proofs.Ytocmjngleknlbaa.K
open Go Go.Proofs
variable {Γ Γ' : Mem} {L L' L'' : List HP} {w w' : World} {A B : HP}
set_option maxRecDepth 100000
set_option maxHeartbeats 4000000

theorem fixN_get {n : Nat} : ∀ {k j : Nat}, j < k → (fixN n k)[j]? = some (UInt8.ofNat (n / 256 ^ (k - 1 - j)))
  | k + 1, 0, _ => by simp [fixN]
  | k + 1, j + 1, h => by
    simp only [fixN, List.getElem?_cons_succ]
    rw [fixN_get (k := k) (by omega)]
    congr 4
    omega

theorem pow256 (k : Nat) : 2 ^ (8 * k) = 256 ^ k := by rw [Nat.pow_mul]

theorem byteOf (m : Nat) : ((m : Nat) : Int) % 256 = ((UInt8.ofNat m).toNat : Int) := by simp

/-- slices.Clone of bytes, one's own -/
theorem cloneOwn {s : Sl} {bs : List UInt8} {K : Sl → World → Prop} (h : Sat Γ L w) (hb : Bytes Γ s bs) (hs : bs.length ≤ 70368744177664)
    (k : ∀ s' w', Sat Γ (OL eByte 5 s' bs :: L) w' → K s' w') : CallP Try.prog 27 [.slice s.p s.len s.cap] (.one (.s .sl)) K w := by
  refine callP (fn := Try.f27) [.s (.sl s)] .n nong mixed (by kernel_rfl) (by kernel_rfl) rfl rfl ?_
  have hl := hb.len
  refine br (fun hn => ?_) (fun hn => ?_)
  · have hp : s.p = none := by simpa using hn
    have h0 : s.len = 0 := by
      apply Classical.byContradiction
      intro h0
      obtain ⟨b, o, c, T, z, h1, _⟩ := Fz.at_ hb h0
      rw [hp] at h1; cases h1
    have hb0 : bs = [] := List.eq_nil_of_length_eq_zero (by omega)
    subst hb0
    exact ⟨⟨none, 0, 0⟩, rfl, k _ _ h.olNil⟩
  · refine new h fun r w1 h1 => ?_
    have h2 := h1.olEmpty (E := eByte)
    exact appL slBytes h2 .n0 hb.lst (fun s' w2 hl' h3 => ⟨s', rfl, k s' w2 (by simpa using h3)⟩) (by dsimp only; omega)

theorem fix_ok {s : Sl} {bs : Str} {n size : Nat} {K : Sl → World → Prop} (h : Sat Γ L w) (hs : Bytes Γ s bs) (hl : bs.length < 1000000000000) (hn : n < 18446744073709551616) (h1 : 1 ≤ size) (h8 : size ≤ 8)
    (k : ∀ t Γ' w', Γ.le Γ' → Bytes Γ' t (bs ++ fixN n size) → Sat Γ' L w' → K t w') :
    CallP Try.prog 37 [.slice s.p s.len s.cap, .int .u64 (n : Int), .int .i64 (size : Int)] (.one (.s .sl)) K w := by
  have hfl := fixN_len n size
  refine callP (fn := Try.f37) [.s (.sl s), .s (.int .u64 (n : Int)), .s (.int .i64 (size : Int))] (.p .n (.p .n (.j [2, 1, 7] [] .n (.p (.p .n (.b (.l [1] [(7, .s .sl), (8, .s (.int .i64))] .n))) .n)))) nong mixed (by kernel_rfl) (by kernel_rfl) rfl rfl ?_
  refine cloneOwn h hs (by omega) fun o w h => ?_
  have hol := h.olLen .n0
  obtain ⟨lhs, mhs, chs⟩ := hs.lens
  refine joinI ?_
  refine brD (fun ab0 => by exfalso; omega) (fun ab0 => ?_)
  refine brD (fun ab1 => by exfalso; omega) (fun ab1 => ?_)
  refine wrN (size - 1) ?_
  rotate_left
  refine loop (σ := Sl × Int) (fun st w' u => ∃ (o : Sl) (j : Nat), st = (o, (size : Int) - 1 - j) ∧ j ≤ size ∧ u = size - j ∧ Sat Γ (OL eByte 5 o (bs ++ (fixN n size).take j) :: L) w') size ⟨o, 0, by rw [show ((size - 1 : Nat) : Int) = (size : Int) - 1 - (0 : Nat) by omega], by omega, by omega, by simpa using h⟩ ?_
  clear h
  rintro _ w u ⟨o, j, rfl, hj, hu, h⟩
  have hol := h.olLen .n0
  rw [List.length_append, List.length_take, hfl] at hol
  by_cases hjs : j < size
  · have hg := fixN_get (n := n) hjs
    rw [← pow256] at hg
    have htk : (fixN n size).take (j + 1) = (fixN n size).take j ++ [UInt8.ofNat (n / 2 ^ (8 * (size - 1 - j)))] := by rw [List.take_add_one, hg]; rfl
    have hb := byteOf (n / 2 ^ (8 * (size - 1 - j)))
    refine brD (fun bb0 => ?_) (fun bb0 => by exfalso; omega)
    dsimp only at bb0
    refine wrN (8 * ((size - 1) - j)) ?_
    refine ⟨by omega, ?_⟩
    refine ashr (n) (8 * (size - 1 - j)) ?_ (by first | rfl | omega) (by first | rfl | (show min _ 64 = _; omega) | (show min _ 32 = _; omega) | omega)
    refine wr8 ?_
    refine new h fun br1 _ h => ?_
    refine app1 _ _ slBytes h .n0 hb (fun bs2 _ bl2 h => ?_)
    dsimp only at bl2
    refine wr ?_
    rotate_left
    exact ⟨size - (j + 1), by omega, bs2, j + 1, by rw [show ((size : Int) - 1 - ((j + 1 : Nat) : Int)) = ((size : Int) - 1 - j) - 1 by omega], by omega, rfl, by rw [htk, ← List.append_assoc]; exact h⟩
  · have e : (fixN n size).take j = fixN n size := List.take_of_length_le (by omega)
    rw [e] at h
    refine brD (fun cb0 => by exfalso; omega) (fun cb0 => ?_)
    dsimp only at cb0
    refine ⟨_, rfl, ?_⟩
    obtain ⟨cΓ1, cg1, cf1, h⟩ := h.olFreeze .n0 (by first | omega | (dsimp only; omega))
    have cf1 := cf1.bytes
    have hs := hs.mono cg1
    refine k _ _ _ cg1 cf1 h

/-- the number that bytes are -/
theorem unfix_ok {s : Sl} {bs : Str} {size : Nat} {K : (Int × Sl × Int) → World → Prop} (h : Sat Γ L w) (hs : Bytes Γ s bs) (hl : bs.length < 1000000000000) (h1 : 1 ≤ size) (h8 : size ≤ 7)
    (k0 : bs.length < size → K (0, ⟨none, 0, 0⟩, 5) w) (k1 : size ≤ bs.length → ∀ t Γ' w', Γ.le Γ' → Bytes Γ' t (bs.drop size) → Sat Γ' L w' → K ((unfix (bs.take size) : Int), t, 0) w') :
    CallP Try.prog 77 [.slice s.p s.len s.cap, .int .i64 (size : Int)] (.tup [.s (.int .u64), .s .sl, .s (.int .i64)]) K w := by
  have hpw : 256 ^ size ≤ 256 ^ 7 := Nat.pow_le_pow_right (by decide) h8
  refine callP (fn := Try.f77) [.s (.sl s), .s (.int .i64 (size : Int))] (.p .n (.p (.k [0, 1] [] .n) (.p .n (.p (.p .n (.b (.l [25, 24, 0, 1] [(7, .s (.int .u64)), (26, .s (.int .i64))] .n))) .n)))) nong mixed (by kernel_rfl) (by kernel_rfl) rfl rfl ?_
  obtain ⟨lhs, mhs, chs⟩ := hs.lens
  refine joinI ?_
  refine brD (fun ab0 => by exfalso; omega) (fun ab0 => ?_)
  refine brD (fun ab1 => by exfalso; omega) (fun ab1 => ?_)
  refine brD (fun ab2 => ?_) (fun ab2 => ?_)
  refine ret3 _ _ _ ?_
  refine k0 (by first | omega | decide)
  refine ⟨by omega, ?_⟩
  rotate_left
  have hsub := hs.sub (l := 0) (n := size) (Nat.zero_le _) (by omega)
  have e0 : (bs.drop 0).take (size - 0) = bs.take size := by simp
  rw [e0] at hsub
  have hsl : (bs.take size).length = size := by rw [List.length_take]; omega
  refine loop (σ := Int × Int) (fun st w' u => ∃ i : Nat, st = ((unfix ((bs.take size).take i) : Int), (i : Int)) ∧ i ≤ size ∧ u = size - i ∧ Sat Γ L w') size ⟨0, rfl, by omega, by omega, h⟩ ?_
  clear h
  rintro _ w u ⟨i, rfl, hi, hu, h⟩
  have hlt := unfix_lt ((bs.take size).take i)
  rw [List.length_take, hsl] at hlt
  have hp2 : 256 ^ min i size ≤ 256 ^ 7 := Nat.pow_le_pow_right (by decide) (by omega)
  by_cases his : i < size
  · obtain ⟨c, ec⟩ := get_lt (xs := bs.take size) (i := i) (by omega)
    have hun : unfix ((bs.take size).take (i + 1)) = unfix ((bs.take size).take i) * 256 + c.toNat := by
      rw [List.take_add_one, ec]
      unfold unfix
      simp
    have hc := c.toNat_lt
    have hp3 : 256 ^ min i size ≤ 256 ^ 6 := Nat.pow_le_pow_right (by decide) (by omega)
    have hor : (unfix ((bs.take size).take i) * 2 ^ 8 % 18446744073709551616) ||| c.toNat = unfix ((bs.take size).take (i + 1)) := by
      rw [hun, Nat.mod_eq_of_lt (by omega), Nat.mul_comm, ← Nat.two_pow_add_eq_or_of_lt hc]
    refine brD (fun bb0 => ?_) (fun bb0 => by exfalso; dsimp only [Sl.sub] at bb0; omega)
    dsimp only at bb0
    dsimp only [Sl.sub] at bb0
    refine ⟨by dsimp only [Sl.sub]; omega, ?_⟩
    refine nnL h hsub.lst (fun ba1 bha1 => ?_)
    refine ldL h hsub.lst bha1 ec (fun by2 bhy2 => ?_)
    have bhy2 : by2 = (c.toNat : Int) := bhy2
    subst bhy2
    refine ⟨by omega, ?_⟩
    refine ashl64 (unfix (List.take i (List.take size bs))) (8) ?_ (by first | rfl | omega) (by first | rfl | (show min _ 64 = _; omega) | omega)
    refine wrU ?_
    refine aor64 (unfix (List.take i (List.take size bs)) * 2 ^ 8 % 18446744073709551616) (c.toNat) ?_ (by first | rfl | omega | (simp only [Int.toNat_natCast]; omega) | (push_cast; omega)) (by first | rfl | omega | (simp only [Int.toNat_natCast]; omega) | (push_cast; omega)) (by first | omega | assumption | decide | (simp; omega)) (by first | omega | assumption | decide | (simp; omega))
    refine wrN (i + 1) ?_
    rotate_left
    rw [hor]
    exact ⟨size - (i + 1), by omega, i + 1, rfl, by omega, rfl, h⟩
  · have e : (bs.take size).take i = bs.take size := List.take_of_length_le (by omega)
    rw [e]
    have hi2 : i = size := by omega
    subst hi2
    have hd := hs.sub (l := i) (n := s.len) (by omega) (Nat.le_refl _)
    have e1 : (bs.drop i).take (s.len - i) = bs.drop i := List.take_of_length_le (by rw [List.length_drop]; omega)
    rw [e1] at hd
    have hdl : (bs.drop i).length = bs.length - i := List.length_drop
    clear hpw hp2 hlt
    refine brD (fun cb0 => by exfalso; dsimp only [Sl.sub] at cb0; omega) (fun cb0 => ?_)
    dsimp only at cb0
    dsimp only [Sl.sub] at cb0
    refine ⟨by omega, ?_⟩
    refine clone_ok h hd (by first | omega | decide) (fun cv2 cΓ3 _ cg5 cf6 h => ?_)
    have hs := hs.mono cg5
    have hsub := hsub.mono cg5
    have hd := hd.mono cg5
    obtain ⟨lcf6, mcf6, ccf6⟩ := cf6.lens
    refine ret3 _ _ _ ?_
    refine k1 (by first | omega | decide) _ _ _ cg5 cf6 h

/-- .. of four -/
theorem fixFour_ok {s : Sl} {bs : Str} {n : Nat} {K : Sl → World → Prop} (h : Sat Γ L w) (hs : Bytes Γ s bs) (hl : bs.length < 1000000000000) (hn : n < 18446744073709551616)
    (k : ∀ t Γ' w', Γ.le Γ' → Bytes Γ' t (bs ++ fixN n 4) → Sat Γ' L w' → K t w') :
    CallP Try.prog 37 [.slice s.p s.len s.cap, .int .u64 (n : Int), .int .i64 4] (.one (.s .sl)) K w := fix_ok (size := 4) h hs hl hn (by omega) (by omega) k

theorem unfixFour_ok {s : Sl} {bs : Str} {K : (Int × Sl × Int) → World → Prop} (h : Sat Γ L w) (hs : Bytes Γ s bs) (hl : bs.length < 1000000000000)
    (k0 : bs.length < 4 → K (0, ⟨none, 0, 0⟩, 5) w) (k1 : 4 ≤ bs.length → ∀ t Γ' w', Γ.le Γ' → Bytes Γ' t (bs.drop 4) → Sat Γ' L w' → K ((unfix (bs.take 4) : Int), t, 0) w') :
    CallP Try.prog 77 [.slice s.p s.len s.cap, .int .i64 4] (.tup [.s (.int .u64), .s .sl, .s (.int .i64)]) K w := unfix_ok (size := 4) h hs hl (by omega) (by omega) k0 k1

end Go.Proofs.Ytocmjngleknlbaa.K
