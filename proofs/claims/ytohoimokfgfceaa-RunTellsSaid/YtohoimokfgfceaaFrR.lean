/-
  Numbers, sums, frames: the reference's.
-/
import Derived.Test.YtohoimokfgfceaaFrT
namespace Go.Proofs.Ytohoimokfgfceaa.K
open Go Go.Proofs
variable {Γ Γ' : Mem} {L L' L'' : List HP} {w w' : World} {A B : HP}
set_option maxRecDepth 100000
set_option maxHeartbeats 1000000

theorem rentry_ok {c : Nat} {K : Int → World → Prop} (h : Sat Γ L w) (hc : c < 4294967296) (k : ∀ w', Sat Γ L w' → K (crcE c : Int) w') :
    CallP Try.prog 203 [.int .u32 (c : Int)] (.one (.s (.int .u32))) K w := by
  refine callP (fn := Try.f203) [.s (.int .u32 (c : Int))] (.p .n (.p (.p .n (.b (.l [] [(0, .s (.int .u32)), (3, .s (.int .i64))] (.p .n (.p (.k [3] [(0, .s (.int .u32))] .n) .n))))) .n)) nong mixed (by kernel_rfl) (by kernel_rfl) rfl rfl ?_
  rotate_left
  refine loop (σ := Int × Int) (fun st w' u => ∃ j : Nat, st = (((crcN j c : Nat) : Int), (j : Int)) ∧ j ≤ 8 ∧ u = 8 - j ∧ Sat Γ L w') 8 ⟨0, rfl, by omega, by omega, h⟩ ?_
  clear h
  rintro _ w u ⟨j, rfl, hj, hu, h⟩
  have hcl := crcN_lt j hc
  by_cases hj8 : j < 8
  · have hs := crcN_succ j c
    unfold crcStep at hs
    have ht2 : (((crcN j c : Nat) : Int).tdiv 2 % 4294967296) = ((crcN j c / 2 : Nat) : Int) := by
      have e : ((crcN j c : Nat) : Int).tdiv 2 = ((crcN j c / 2 : Nat) : Int) := rfl
      rw [e]; omega
    by_cases ho : crcN j c % 2 = 1
    · rw [if_pos ho] at hs
      refine brD (fun bb0 => ?_) (fun bb0 => by exfalso; omega)
      dsimp only at bb0
      refine joinI ?_
      refine ⟨by omega, ?_⟩
      refine tmd ?_
      refine brE (fun bb1 => ?_) (fun bb1 => by exfalso; omega)
      dsimp only at bb1
      refine ⟨by omega, ?_⟩
      refine wr32 ?_
      refine axor32 ((((crcN j c) / 2) % 4294967296)) (2197175160) ?_ (by first | rfl | omega | (simp only [Int.toNat_natCast]; omega) | (push_cast; omega)) (by first | rfl | omega | (simp only [Int.toNat_natCast]; omega) | (push_cast; omega)) (by first | omega | assumption | (exact Nat.lt_of_le_of_lt Nat.and_le_left (by decide)) | decide) (by first | omega | assumption | (exact Nat.lt_of_le_of_lt Nat.and_le_left (by decide)) | decide)
      refine wrN (j + 1) ?_
      rotate_left
      rw [Nat.mod_eq_of_lt (show crcN j c / 2 < 4294967296 by omega), ← hs]
      exact ⟨8 - (j + 1), by omega, j + 1, rfl, by omega, rfl, h⟩
    · rw [if_neg ho] at hs
      refine brD (fun cb0 => ?_) (fun cb0 => by exfalso; omega)
      dsimp only at cb0
      refine joinI ?_
      refine ⟨by omega, ?_⟩
      refine tmd ?_
      refine brE (fun cb1 => by exfalso; omega) (fun cb1 => ?_)
      dsimp only at cb1
      refine ⟨by omega, ?_⟩
      refine wr32 ?_
      refine wrN (j + 1) ?_
      rotate_left
      try (first | (dsimp only; rw [ht2, ← hs]) | rw [← hs])
      exact ⟨8 - (j + 1), by omega, j + 1, rfl, by omega, rfl, h⟩
  · have : j = 8 := by omega
    subst this
    have he : crcN 8 c = crcE c := rfl
    refine brF ?_
    refine ⟨_, rfl, ?_⟩
    refine k _ h

theorem radd_ok {s : Sl} {bs : Str} {n : Nat} {K : Int → World → Prop} (h : Sat Γ L w) (hs : Bytes Γ s bs) (hn : n < 4294967296) (k : ∀ w', Sat Γ L w' → K (crcAdd n bs : Int) w') :
    CallP Try.prog 187 [.int .u32 (n : Int), .slice s.p s.len s.cap] (.one (.s (.int .u32))) K w := by
  refine callP (fn := Try.f187) [.s (.int .u32 (n : Int)), .s (.sl s)] (.p .n (.p .n (.p (.p .n (.b (.l [1] [(5, .s (.int .u32)), (6, .s (.int .i64))] .n))) .n))) nong mixed (by kernel_rfl) (by kernel_rfl) rfl rfl ?_
  obtain ⟨lhs, mhs, chs⟩ := hs.lens
  refine axor32 (4294967295) (n) ?_ (by first | rfl | omega | (simp only [Int.toNat_natCast]; omega) | (push_cast; omega)) (by first | rfl | omega | (simp only [Int.toNat_natCast]; omega) | (push_cast; omega)) (by first | omega | assumption | (exact Nat.lt_of_le_of_lt Nat.and_le_left (by decide)) | decide) (by first | omega | assumption | (exact Nat.lt_of_le_of_lt Nat.and_le_left (by decide)) | decide)
  rotate_left
  refine loop (σ := Int × Int) (fun st w' u => ∃ i : Nat, st = ((((bs.take i).foldl crcOn (4294967295 ^^^ n) : Nat) : Int), (i : Int)) ∧ i ≤ bs.length ∧ u = bs.length - i ∧ Sat Γ L w') bs.length ⟨0, rfl, by omega, by omega, h⟩ ?_
  clear h
  rintro _ w u ⟨i, rfl, hi, hu, h⟩
  have hcl := crcFold_lt (bs.take i) (xor_lt32 (a := 4294967295) (by decide) hn)
  by_cases hib : i < bs.length
  · obtain ⟨x, ex⟩ := get_lt hib
    have htk : (bs.take (i + 1)).foldl crcOn (4294967295 ^^^ n) = crcOn ((bs.take i).foldl crcOn (4294967295 ^^^ n)) x := by rw [List.take_add_one, ex, List.foldl_append]; rfl
    generalize hc : (bs.take i).foldl crcOn (4294967295 ^^^ n) = c at *
    have hxl := x.toNat_lt
    have hix : (c ^^^ x.toNat) % 256 < 256 := Nat.mod_lt _ (by decide)
    have hel := crcE_lt hix
    have hon : crcE ((c ^^^ x.toNat) % 256) ^^^ c / 256 = crcOn c x := rfl
    refine brD (fun bb0 => ?_) (fun bb0 => by exfalso; omega)
    dsimp only at bb0
    refine ⟨by omega, ?_⟩
    refine nnL h hs.lst (fun ba1 bha1 => ?_)
    refine ldL h hs.lst bha1 ex (fun by2 bhy2 => ?_)
    have bhy2 : by2 = (x.toNat : Int) := bhy2
    subst bhy2
    refine wr32 ?_
    refine axor32 (c) ((x.toNat % 4294967296)) ?_ (by first | rfl | omega | (simp only [Int.toNat_natCast]; omega) | (push_cast; omega)) (by first | rfl | omega | (simp only [Int.toNat_natCast]; omega) | (push_cast; omega)) (by first | omega | assumption | (exact Nat.lt_of_le_of_lt Nat.and_le_left (by decide)) | decide) (by first | omega | assumption | (exact Nat.lt_of_le_of_lt Nat.and_le_left (by decide)) | decide)
    refine ⟨by omega, ?_⟩
    refine tmd ?_
    refine rentry_ok h ?_ (fun _ h => ?_)
    rotate_left
    refine ⟨by omega, ?_⟩
    refine wr32 ?_
    refine wr32 ?_
    refine wrN (i + 1) ?_
    rotate_left
    · show (c ^^^ x.toNat % 4294967296) % 256 < 4294967296
      omega
    · have e1 : Int.tdiv (c : Int) 256 % 4294967296 = ((c / 256 : Nat) : Int) := by
        have e : ((c : Nat) : Int).tdiv 256 = ((c / 256 : Nat) : Int) := rfl
        rw [e]; omega
      have e2 : crcE ((c ^^^ x.toNat % 4294967296) % Int.natAbs 256) = crcE ((c ^^^ x.toNat) % 256) := by
        rw [Nat.mod_eq_of_lt (show x.toNat < 4294967296 by omega)]; rfl
      have e3 : (BitVec.ofInt 32 ((crcE ((c ^^^ x.toNat) % 256) : Nat) : Int) ^^^ BitVec.ofInt 32 ((c / 256 : Nat) : Int)).toNat = crcOn c x := by
        rw [ofInt_nat, ofInt_nat, BitVec.toNat_xor, BitVec.toNat_ofNat, BitVec.toNat_ofNat, Nat.mod_eq_of_lt hel, Nat.mod_eq_of_lt (show c / 256 < 2 ^ 32 by omega)]
        exact hon
      have hval : (((BitVec.ofInt IntKind.u32.bits ((crcE ((c ^^^ x.toNat % 4294967296) % Int.natAbs 256) : Nat) : Int) ^^^ BitVec.ofInt IntKind.u32.bits (Int.tdiv (c : Int) 256 % 4294967296)).toNat : Int) % 4294967296) = ((crcOn c x : Nat) : Int) := by
        rw [e2, e1]
        have e4 : (BitVec.ofInt IntKind.u32.bits ((crcE ((c ^^^ x.toNat) % 256) : Nat) : Int) ^^^ BitVec.ofInt IntKind.u32.bits ((c / 256 : Nat) : Int)).toNat = crcOn c x := e3
        rw [e4]
        have := crcOn_lt (b := x) hcl
        omega
      exact ⟨bs.length - (i + 1), by omega, i + 1, Prod.ext (hval.trans (congrArg (fun n : Nat => (n : Int)) htk.symm)) rfl, by omega, rfl, h⟩
  · have e : bs.take i = bs := List.take_of_length_le (by omega)
    rw [e]
    rw [e] at hcl
    have hkk : (4294967295 ^^^ bs.foldl crcOn (4294967295 ^^^ n) : Nat) = crcAdd n bs := rfl
    refine brD (fun cb0 => by exfalso; omega) (fun cb0 => ?_)
    dsimp only at cb0
    refine axor32 (4294967295) ((List.foldl crcOn (4294967295 ^^^ n) bs)) ?_ (by first | rfl | omega | (simp only [Int.toNat_natCast]; omega) | (push_cast; omega)) (by first | rfl | omega | (simp only [Int.toNat_natCast]; omega) | (push_cast; omega)) (by first | omega | assumption | (exact Nat.lt_of_le_of_lt Nat.and_le_left (by decide)) | decide) (by first | omega | assumption | (exact Nat.lt_of_le_of_lt Nat.and_le_left (by decide)) | decide)
    refine ⟨_, rfl, ?_⟩
    refine k _ h

theorem rsum_ok {s : Sl} {bs : Str} {K : Int → World → Prop} (h : Sat Γ L w) (hs : Bytes Γ s bs) (k : ∀ w', Sat Γ L w' → K (crc bs : Int) w') :
    CallP Try.prog 175 [.slice s.p s.len s.cap] (.one (.s (.int .u32))) K w := by
  refine callP (fn := Try.f175) [.s (.sl s)] .n nong mixed (by kernel_rfl) (by kernel_rfl) rfl rfl ?_
  exact radd_ok (n := 0) h hs (by decide) fun w' h => ⟨_, rfl, k w' h⟩

theorem rfix_ok {s : Sl} {bs : Str} {n size : Nat} {K : Sl → World → Prop} (h : Sat Γ L w) (hs : Bytes Γ s bs) (hl : bs.length < 1000000000000) (hn : n < 18446744073709551616) (h1 : 1 ≤ size) (h8 : size ≤ 8)
    (k : ∀ t w', Sat Γ (OL eByte 5 t (bs ++ fixN n size) :: L) w' → K t w') :
    CallP Try.prog 156 [.slice s.p s.len s.cap, .int .u64 (n : Int), .int .i64 (size : Int)] (.one (.s .sl)) K w := by
  have hfl := fixN_len n size
  refine callP (fn := Try.f156) [.s (.sl s), .s (.int .u64 (n : Int)), .s (.int .i64 (size : Int))] (.p .n (.p .n (.j [2, 1, 7] [] .n (.p (.p .n (.b (.l [1] [(7, .s .sl), (8, .s (.int .i64))] (.p .n (.p (.b (.p .n (.p (.p .n (.b (.l [7, 8, 1] [(9, .s (.int .u64)), (10, .s (.int .i64))] .n))) .n))) .n))))) .n)))) nong mixed (by kernel_rfl) (by kernel_rfl) rfl rfl ?_
  obtain ⟨lhs, mhs, chs⟩ := hs.lens
  refine new h fun ar0 _ h => ?_
  have h := h.asA (B := blk ar0 (.cells #[] 5 (0, 0))) (by kernel_rfl)
  have h := (h.pick .n0).olEmpty (E := eByte)
  refine appL slBytes h .n0 hs.lst (fun as1 _ al1 h => ?_)
  dsimp only at al1
  refine joinI ?_
  refine brD (fun ab2 => by exfalso; omega) (fun ab2 => ?_)
  refine brD (fun ab3 => by exfalso; omega) (fun ab3 => ?_)
  refine wrN (size - 1) ?_
  rotate_left
  refine loop (σ := Sl × Int) (fun st w' u => ∃ (o : Sl) (j : Nat), st = (o, (size : Int) - 1 - j) ∧ j ≤ size ∧ u = size - j ∧ Sat Γ (OL eByte 5 o (bs ++ (fixN n size).take j) :: L) w') size ⟨as1, 0, by rw [show ((size - 1 : Nat) : Int) = (size : Int) - 1 - (0 : Nat) by omega], by omega, by omega, by simpa using h⟩ ?_
  clear h
  rintro _ w u ⟨o, j, rfl, hj, hu, h⟩
  have hol := h.olLen .n0
  rw [List.length_append, List.length_take, hfl] at hol
  by_cases hjs : j < size
  · refine brD (fun bb0 => ?_) (fun bb0 => by exfalso; omega)
    dsimp only at bb0
    rotate_left
    refine loop (σ := Int × Int) (fun st w' u => ∃ i : Nat, st = (((n / 256 ^ i : Nat) : Int), (i : Int)) ∧ i ≤ size - 1 - j ∧ u = size - 1 - j - i ∧ Sat Γ (OL eByte 5 o (bs ++ (fixN n size).take j) :: L) w') (size - 1 - j) ⟨0, by simp, by omega, by omega, h⟩ ?_
    clear h
    rintro _ w u2 ⟨i, rfl, hi, hu2, h⟩
    have hlt : n / 256 ^ i ≤ n := Nat.div_le_self _ _
    have hdd : n / 256 ^ i / 256 = n / 256 ^ (i + 1) := by rw [Nat.div_div_eq_div_mul, Nat.pow_succ]
    by_cases hik : i < size - 1 - j
    · refine brD (fun cb0 => ?_) (fun cb0 => by exfalso; omega)
      dsimp only at cb0
      refine ⟨by omega, ?_⟩
      refine ari0 ?_
      refine wrN (i + 1) ?_
      rotate_left
      have hle : n / 256 ^ (i + 1) ≤ n := Nat.div_le_self _ _
      have hwr : IntKind.u64.wrap (Int.tdiv ((n / 256 ^ i : Nat) : Int) 256) = ((n / 256 ^ (i + 1) : Nat) : Int) := by
        have e : Int.tdiv ((n / 256 ^ i : Nat) : Int) 256 = ((n / 256 ^ i / 256 : Nat) : Int) := rfl
        rw [e, hdd]
        exact wrap_small (kd := .u64) rfl (by show _ < 2 ^ 64; omega)
      exact ⟨size - 1 - j - (i + 1), by omega, i + 1, Prod.ext hwr rfl, by omega, rfl, h⟩
    · have : i = size - 1 - j := by omega
      subst this
      have hg := fixN_get (n := n) hjs
      have htk : (fixN n size).take (j + 1) = (fixN n size).take j ++ [UInt8.ofNat (n / 256 ^ (size - 1 - j))] := by rw [List.take_add_one, hg]; rfl
      have hb := byteOf (n / 256 ^ (size - 1 - j))
      refine brD (fun db0 => by exfalso; omega) (fun db0 => ?_)
      dsimp only at db0
      refine ⟨by omega, ?_⟩
      refine ari0 ?_
      refine wr8 ?_
      refine new h fun dr1 _ h => ?_
      have h := h.asA (B := blk dr1 (.cells #[Value.int IntKind.u8 (Int.tmod ((↑(n / 256 ^ (size - 1 - j)) : Int), (↑(size - 1 - j) : Int)).fst 256 % 256)] 5 (0, 0))) (by kernel_rfl)
      rotate_left
      have hy : Int.tmod ((n / 256 ^ (size - 1 - j) : Nat) : Int) 256 % 256 = ((UInt8.ofNat (n / 256 ^ (size - 1 - j))).toNat : Int) := by
        have e : Int.tmod ((n / 256 ^ (size - 1 - j) : Nat) : Int) 256 = ((n / 256 ^ (size - 1 - j) % 256 : Nat) : Int) := rfl
        rw [e, ← hb]
        omega
      refine app1 (E := eByte) (Int.tmod ((n / 256 ^ (size - 1 - j) : Nat) : Int) 256 % 256) (UInt8.ofNat (n / 256 ^ (size - 1 - j))) slBytes h .n0 hy (fun ds2 _ dl2 h => ?_)
      rw [List.append_assoc, ← htk] at h
      dsimp only at dl2
      refine wr ?_
      refine ⟨_, (by first | omega | rfl | (dsimp only; omega)), _, _, ?_, (by first | omega | rfl | (dsimp only; omega)), rfl, h⟩
      rotate_left
      exact Prod.ext rfl (by show (size : Int) - 1 - j - 1 = (size : Int) - 1 - ((j + 1 : Nat) : Int); omega)
  · have e : (fixN n size).take j = fixN n size := List.take_of_length_le (by omega)
    rw [e] at h
    refine brD (fun eb0 => by exfalso; omega) (fun eb0 => ?_)
    dsimp only at eb0
    refine ⟨_, rfl, ?_⟩
    refine k _ _ h

end Go.Proofs.Ytohoimokfgfceaa.K
