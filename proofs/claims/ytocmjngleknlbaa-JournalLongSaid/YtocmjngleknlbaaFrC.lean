/-
  Sums: the program's crc.
-/
import Derived.Test.YtocmjngleknlbaaFrA
namespace Go.Proofs.Ytocmjngleknlbaa.K
open Go Go.Proofs
variable {Γ Γ' : Mem} {L L' L'' : List HP} {w w' : World} {A B : HP}
set_option maxRecDepth 100000
set_option maxHeartbeats 4000000

/-! ### an array of numbers -/

def u32v (n : Nat) : Value := .int .u32 (n : Int)

def ofL : (n : Nat) → List Nat → ScsT (List.replicate n (.int .u32))
  | 0, _ => ()
  | 1, xs => ((xs.getD 0 0 : Nat) : Int)
  | n + 2, xs => (((xs.getD 0 0 : Nat) : Int), ofL (n + 1) xs.tail)

theorem ofL_V : ∀ (n : Nat) (xs : List Nat), xs.length = n → ScsV (List.replicate n (.int .u32)) (ofL n xs) = xs.map u32v
  | 0, [], _ => rfl
  | 1, [x], _ => rfl
  | n + 2, x :: xs, h => by
    have := ofL_V (n + 1) xs (by simpa using h)
    show Value.int .u32 ((x : Nat) : Int) :: ScsV (List.replicate (n + 1) (.int .u32)) (ofL (n + 1) xs) = _
    rw [this]; rfl

theorem ofL_Mk : ∀ (n : Nat) (xs : List Nat), xs.length = n → (ScsMk (List.replicate n (.int .u32)) (ofL n xs)).map S1.v = xs.map u32v
  | 0, [], _ => rfl
  | 1, [x], _ => rfl
  | n + 2, x :: xs, h => by
    have := ofL_Mk (n + 1) xs (by simpa using h)
    show Value.int .u32 ((x : Nat) : Int) :: (ScsMk (List.replicate (n + 1) (.int .u32)) (ofL (n + 1) xs)).map S1.v = _
    rw [this]; rfl

/-- a block of such numbers -/
def Arr (b : Nat) (T : TypeId) (xs : List Nat) : HP := blk b (.cells (xs.map u32v).toArray T (0, 0))

theorem arr_ld {b i z : Nat} {T : TypeId} {xs : List Nat} {x : Nat} {Kp : Int → Prop} (h : Sat Γ L w) (pk : Pick (Arr b T xs) L L') (hx : xs[i]? = some x) (k : Kp (x : Int)) (hz : z = 1 := by rfl) :
    Ld (fun w' => w' = w) (.s (.int .u32)) ((⟨b, 0, none⟩ : Addr).add ((i : Int).toNat * z)) Kp := by
  subst hz
  rw [Int.toNat_natCast, Nat.mul_one, add_plain, Nat.zero_add]
  have h1 : Sat Γ (blk b (.cells (xs.map u32v).toArray T (0, 0)) :: L') w := h.pick pk
  exact ld (s := .s (.int .u32)) (x : Int) h1 .n0 k (by show (xs.map u32v).toArray[i]? = _; simp [hx]; rfl)

theorem arrSt_ld {b i z : Nat} {T : TypeId} {xs : List Nat} {x : Nat} {K : World → Prop} (h : Sat Γ L w) (pk : Pick (Arr b T xs) L L') (hi : i < xs.length) (k : ∀ w', Sat Γ (Arr b T (xs.set i x) :: L') w' → K w') (hz : z = 1 := by rfl) :
    St ((⟨b, 0, none⟩ : Addr).add ((i : Int).toNat * z)) (.int .u32 (x : Int)) K w := by
  subst hz
  rw [Int.toNat_natCast, Nat.mul_one, add_plain, Nat.zero_add]
  have h1 : Sat Γ (blk b (.cells (xs.map u32v).toArray T (0, 0)) :: L') w := h.pick pk
  refine st h1 .n0 (fun w' h2 => k w' ?_) (by show Nat.ble (i + 1) _ = true; exact Nat.ble_eq_true_of_le (by rw [List.size_toArray, List.length_map]; exact hi))
  have e : ((xs.map u32v).toArray.setIfInBounds i (.int .u32 (x : Int))) = ((xs.set i x).map u32v).toArray := by
    rw [List.map_set]
    simp [u32v]
  rw [e] at h2
  exact h2

theorem arrAll_ld {b n : Nat} {T : TypeId} {xs : List Nat} {Kp : ScsT (List.replicate n (.int .u32)) → Prop} (h : Sat Γ L w) (pk : Pick (Arr b T xs) L L') (hn : xs.length = n) (k : Kp (ofL n xs)) :
    Ld (fun w' => w' = w) (.agg (List.replicate n (.int .u32))) (⟨b, 0, none⟩ : Addr) Kp := by
  have h1 : Sat Γ (blk b (.cells (xs.map u32v).toArray T (0, 0)) :: L') w := h.pick pk
  refine ld (s := .agg (List.replicate n (.int .u32))) (ofL n xs) h1 .n0 k ?_
  intro i v hv
  rw [ofL_V n xs hn] at hv
  simpa using hv

theorem setN_all : ∀ (vs : List Value) (pre rest : List Value), rest.length = vs.length → setN (pre ++ rest).toArray pre.length vs = (pre ++ vs).toArray
  | [], pre, rest, h => by
    have : rest = [] := List.eq_nil_of_length_eq_zero (by simpa using h)
    subst this; rfl
  | v :: vs, pre, [], h => by simp at h
  | v :: vs, pre, r :: rest, h => by
    unfold setN
    have e : (pre ++ r :: rest).toArray.setIfInBounds pre.length v = ((pre ++ [v]) ++ rest).toArray := by
      apply Array.toList_inj.1
      simp
    rw [e]
    have := setN_all vs (pre ++ [v]) rest (by simpa using h)
    rw [List.length_append, List.length_singleton] at this
    rw [this]
    simp

theorem arrStN {b n : Nat} {T : TypeId} {xs ys : List Nat} {K : World → Prop} (h : Sat Γ L w) (pk : Pick (Arr b T ys) L L') (hn : xs.length = n) (hm : ys.length = n) (k : ∀ w', Sat Γ (Arr b T xs :: L') w' → K w') :
    StN (⟨b, 0, none⟩ : Addr) ((ScsMk (List.replicate n (.int .u32)) (ofL n xs)).map S1.v) K w := by
  rw [ofL_Mk n xs hn]
  have h1 : Sat Γ (blk b (.cells (ys.map u32v).toArray T (0, 0)) :: L') w := h.pick pk
  refine stN1 h1 .n0 (by simp; omega) (fun v hv => ?_) (fun _ _ => by simp [freeAt]) fun w' h2 => k w' ?_
  · obtain ⟨x, _, rfl⟩ := List.mem_map.1 hv
    rfl
  · have e := setN_all (xs.map u32v) [] (ys.map u32v) (by simp; omega)
    rw [List.nil_append, List.nil_append, List.length_nil] at e
    rw [e] at h2
    exact h2

theorem crc_step_eq {c : Nat} : c / 2 ^ 1 ^^^ (2197175160 &&& ((0 - ((c &&& 1 : Nat) : Int)) % 4294967296).toNat) = crcStep c := by
  rw [Nat.and_one_is_mod]
  unfold crcStep
  by_cases h : c % 2 = 1
  · rw [if_pos h, h]
    have e : ((0 - ((1 : Nat) : Int)) % 4294967296).toNat = 4294967295 := by decide
    have e2 : (2197175160 &&& 4294967295 : Nat) = 2197175160 := by decide
    rw [e, e2]
  · have h0 : c % 2 = 0 := by omega
    rw [if_neg h, h0]
    have e : ((0 - ((0 : Nat) : Int)) % 4294967296).toNat = 0 := by decide
    rw [e, Nat.and_zero, Nat.xor_zero]

def tblTo (k : Nat) : List Nat := (List.range k).map crcE ++ List.replicate (256 - k) 0
theorem tblTo_len {k : Nat} (h : k ≤ 256) : (tblTo k).length = 256 := by simp [tblTo]; omega
theorem tblTo_succ {k : Nat} (h : k < 256) : (tblTo k).set k (crcE k) = tblTo (k + 1) := by
  unfold tblTo
  rw [List.range_succ, List.map_append, List.set_append, if_neg (by simp)]
  simp only [List.length_map, List.length_range, Nat.sub_self, List.append_assoc]
  congr 1
  have : 256 - k = (256 - (k + 1)) + 1 := by omega
  rw [this, List.replicate_succ]
  rfl
theorem tblTo_get {i : Nat} (h : i < 256) : (tblTo 256)[i]? = some (crcE i) := by
  unfold tblTo
  simp [h]

theorem table_ok {K : ScsT (List.replicate 256 (.int .u32)) → World → Prop} (h : Sat Γ L w) (k : ∀ w', Sat Γ L w' → K (ofL 256 (tblTo 256)) w') : CallP Try.prog 92 [] (.one (.agg (List.replicate 256 (.int .u32)))) K w := by
  refine callP (fn := Try.f92) [] (.p .n (.p .n (.p (.p .n (.b (.l [1, 0] [(4, .s (.int .i64))] (.p .n (.p .n (.p (.b (.p .n (.p .n (.p (.p .n (.b (.l [2, 4, 1, 0] [(3, .s (.int .u32)), (9, .s (.int .i64))] .n))) .n)))) .n)))))) .n))) nong mixed (by kernel_rfl) (by kernel_rfl) rfl rfl ?_
  refine new h fun ar0 _ h => ?_
  refine new h fun ar1 _ h => ?_
  rotate_left
  obtain ⟨T0, hT⟩ : ∃ T0 : TypeId, T0 = 137 := ⟨_, rfl⟩
  have h : Sat Γ (Arr ar1 137 (tblTo 0) :: Arr ar0 137 (tblTo 0) :: L) _ := h
  refine loop (σ := Int) (fun st w' u => ∃ i : Nat, st = (i : Int) ∧ i ≤ 256 ∧ u = 256 - i ∧ Sat Γ (Arr ar1 137 (tblTo i) :: Arr ar0 137 (tblTo 0) :: L) w') 256 ⟨0, rfl, by omega, by omega, h⟩ ?_
  clear h
  rintro _ w u ⟨i, rfl, hi, hu, h⟩
  have htl := tblTo_len hi
  by_cases hi2 : i < 256
  · refine brD (fun bb0 => ?_) (fun bb0 => by exfalso; omega)
    refine wr32 ?_
    rotate_left
    refine loop (σ := Int × Int) (fun st w' u => ∃ j : Nat, st = (((crcN j i : Nat) : Int), (j : Int)) ∧ j ≤ 8 ∧ u = 8 - j ∧ Sat Γ (Arr ar1 137 (tblTo i) :: Arr ar0 137 (tblTo 0) :: L) w') 8 ⟨0, by rw [show ((i : Int) % 4294967296) = (i : Int) by omega]; rfl, by omega, by omega, h⟩ ?_
    clear h
    rintro _ w u2 ⟨j, rfl, hj, hu2, h⟩
    have hcl := crcN_lt j (c := i) (by omega)
    have hse := crc_step_eq (c := crcN j i)
    rw [← crcN_succ] at hse
    by_cases hj2 : j < 8
    · refine brD (fun db0 => ?_) (fun db0 => by exfalso; omega)
      dsimp only at db0
      refine ⟨by omega, ?_⟩
      refine ashr (crcN j i) (1) ?_ (by first | rfl | omega) (by first | rfl | (show min _ 64 = _; omega) | (show min _ 32 = _; omega) | omega)
      refine aand32 (crcN j i) (1) ?_ (by first | rfl | omega | (simp only [Int.toNat_natCast]; omega) | (push_cast; omega)) (by first | rfl | omega | (simp only [Int.toNat_natCast]; omega) | (push_cast; omega)) (by first | omega | assumption | (exact Nat.lt_of_le_of_lt Nat.and_le_left (by decide)) | decide) (by first | omega | assumption | (exact Nat.lt_of_le_of_lt Nat.and_le_left (by decide)) | decide)
      refine wr32 ?_
      refine aand32 (2197175160) ((Int.toNat ((0 - (↑(crcN j i &&& 1) : Int)) % 4294967296))) ?_ (by first | rfl | omega | (simp only [Int.toNat_natCast]; omega) | (push_cast; omega)) (by first | rfl | omega | (simp only [Int.toNat_natCast]; omega) | (push_cast; omega)) (by first | omega | assumption | (exact Nat.lt_of_le_of_lt Nat.and_le_left (by decide)) | decide) (by first | omega | assumption | (exact Nat.lt_of_le_of_lt Nat.and_le_left (by decide)) | decide)
      refine axor32 ((crcN j i / 2 ^ 1)) ((2197175160 &&& ((0 - (↑(crcN j i &&& 1) : Int)) % 4294967296).toNat)) ?_ (by first | rfl | omega | (simp only [Int.toNat_natCast]; omega) | (push_cast; omega)) (by first | rfl | omega | (simp only [Int.toNat_natCast]; omega) | (push_cast; omega)) (by first | omega | assumption | (exact Nat.lt_of_le_of_lt Nat.and_le_left (by decide)) | decide) (by first | omega | assumption | (exact Nat.lt_of_le_of_lt Nat.and_le_left (by decide)) | decide)
      refine wrN (j + 1) ?_
      rotate_left
      rw [hse]
      exact ⟨8 - (j + 1), by omega, j + 1, rfl, by omega, rfl, h⟩
    · have hj8 : j = 8 := by omega
      subst hj8
      have hts := tblTo_succ hi2
      refine brF ?_
      refine ⟨by omega, ?_⟩
      refine arrSt_ld h .n0 (by first | omega | decide) (fun _ h => ?_) (by first | omega | rfl)
      refine wrN (i + 1) ?_
      refine ⟨_, (by first | omega | rfl | (dsimp only; omega)), _, rfl, (by first | omega | rfl | (dsimp only; omega)), rfl, (Sat.eqs ((h.pick .n1).pick .n1) ?_)⟩
      rotate_left
      rw [show crcN 8 i = crcE i from rfl, hts]
  · have hi3 : i = 256 := by omega
    subst hi3
    refine brF ?_
    rotate_left
    refine arrAll_ld (n := 256) h .n0 htl ?_
    rotate_left
    refine arrStN (n := 256) h .n1 htl (tblTo_len (by omega)) fun w h => ?_
    rotate_left
    refine arrAll_ld (n := 256) h .n0 htl ?_
    refine ⟨_, rfl, ?_⟩
    refine k _ h.drop.drop

theorem add_ok {s : Sl} {bs : Str} {n : Nat} {K : Int → World → Prop} (h : Sat Γ L w) (hs : Bytes Γ s bs) (hn : n < 4294967296) (k : ∀ w', Sat Γ L w' → K (crcAdd n bs : Int) w') :
    CallP Try.prog 76 [.int .u32 (n : Int), .slice s.p s.len s.cap] (.one (.s (.int .u32))) K w := by
  refine callP (fn := Try.f76) [.s (.int .u32 (n : Int)), .s (.sl s)] (.p .n (.p .n (.p .n (.p (.p .n (.b (.l [13, 5, 12] [(6, .s (.int .u32)), (14, .s (.int .i64))] .n))) .n)))) nong mixed (by kernel_rfl) (by kernel_rfl) rfl rfl ?_
  refine table_ok h fun w h => ?_
  obtain ⟨lhs, mhs, chs⟩ := hs.lens
  refine new h fun ar0 _ h => ?_
  refine stNs h .n0 fun _ h => ?_
  refine axor32 (4294967295) (n) ?_ (by first | rfl | omega | (simp only [Int.toNat_natCast]; omega) | (push_cast; omega)) (by first | rfl | omega | (simp only [Int.toNat_natCast]; omega) | (push_cast; omega)) (by first | omega | assumption | (exact Nat.lt_of_le_of_lt Nat.and_le_left (by decide)) | decide) (by first | omega | assumption | (exact Nat.lt_of_le_of_lt Nat.and_le_left (by decide)) | decide)
  rotate_left
  have h2 : Sat Γ (blk ar0 (.cells (setN ([] ++ List.replicate 256 (u32v 0)).toArray ([] : List Value).length ((ScsMk (List.replicate 256 (.int .u32)) (ofL 256 (tblTo 256))).map S1.v)) 137 (0, 0)) :: L) _ := h
  rw [ofL_Mk 256 _ (tblTo_len (by omega)), setN_all _ _ _ (by rw [List.length_map, tblTo_len (by omega)]; simp), List.nil_append] at h2
  have h : Sat Γ (Arr ar0 137 (tblTo 256) :: L) _ := h2
  clear h2
  refine loop (σ := Int × Int) (fun st w' u => ∃ i : Nat, st = ((((bs.take i).foldl crcOn (4294967295 ^^^ n) : Nat) : Int), (i : Int)) ∧ i ≤ bs.length ∧ u = bs.length - i ∧ Sat Γ (Arr ar0 137 (tblTo 256) :: L) w') bs.length ⟨0, rfl, by omega, by omega, h⟩ ?_
  clear h
  rintro _ w u ⟨i, rfl, hi, hu, h⟩
  have hcl := crcFold_lt (bs.take i) (xor_lt32 (a := 4294967295) (by decide) hn)
  by_cases hib : i < bs.length
  · obtain ⟨x, ex⟩ := get_lt hib
    have htk : (bs.take (i + 1)).foldl crcOn (4294967295 ^^^ n) = crcOn ((bs.take i).foldl crcOn (4294967295 ^^^ n)) x := by rw [List.take_add_one, ex, List.foldl_append]; rfl
    generalize hc : (bs.take i).foldl crcOn (4294967295 ^^^ n) = c at *
    have hxl := x.toNat_lt
    have hix : c % 256 ^^^ x.toNat < 256 := Nat.xor_lt_two_pow (n := 8) (Nat.mod_lt _ (by decide)) hxl
    have hte := tblTo_get hix
    have hel := crcE_lt hix
    have hon : crcE (c % 256 ^^^ x.toNat) ^^^ c / 2 ^ 8 = crcOn c x := by
      unfold crcOn
      have e : (c ^^^ x.toNat) % 256 = c % 256 ^^^ x.toNat := by
        have := Nat.xor_mod_two_pow (a := c) (b := x.toNat) (n := 8)
        rw [show (2 : Nat) ^ 8 = 256 from rfl] at this
        rw [this, Nat.mod_eq_of_lt (a := x.toNat) hxl]
      rw [e]
    refine brD (fun bb0 => ?_) (fun bb0 => by exfalso; omega)
    dsimp only at bb0
    refine ⟨by omega, ?_⟩
    refine nnL h hs.lst (fun ba1 bha1 => ?_)
    refine ldL h hs.lst bha1 ex (fun by2 bhy2 => ?_)
    have bhy2 : by2 = (x.toNat : Int) := bhy2
    subst bhy2
    refine wr8 ?_
    refine axor8 ((c % 256)) (x.toNat) ?_ (by first | rfl | omega | (simp only [Int.toNat_natCast]; omega) | (push_cast; omega)) (by first | rfl | omega | (simp only [Int.toNat_natCast]; omega) | (push_cast; omega)) (by first | omega | assumption | (exact Nat.lt_of_le_of_lt Nat.and_le_left (by decide)) | decide) (by first | omega | assumption | (exact Nat.lt_of_le_of_lt Nat.and_le_left (by decide)) | decide)
    refine ⟨by omega, ?_⟩
    refine arr_ld h .n0 hte ?_ (by first | omega | rfl)
    refine ⟨by omega, ?_⟩
    refine ashr (c) (8) ?_ (by first | rfl | omega) (by first | rfl | (show min _ 64 = _; omega) | (show min _ 32 = _; omega) | omega)
    refine axor32 (crcE (c % 256 ^^^ x.toNat)) ((c / 2 ^ 8)) ?_ (by first | rfl | omega | (simp only [Int.toNat_natCast]; omega) | (push_cast; omega)) (by first | rfl | omega | (simp only [Int.toNat_natCast]; omega) | (push_cast; omega)) (by first | omega | assumption | (exact Nat.lt_of_le_of_lt Nat.and_le_left (by decide)) | decide) (by first | omega | assumption | (exact Nat.lt_of_le_of_lt Nat.and_le_left (by decide)) | decide)
    refine wrN (i + 1) ?_
    rotate_left
    rw [hon]
    exact ⟨bs.length - (i + 1), by omega, i + 1, by rw [htk], by omega, rfl, h⟩
  · have e : bs.take i = bs := List.take_of_length_le (by omega)
    rw [e]
    rw [e] at hcl
    have hkk : (4294967295 ^^^ bs.foldl crcOn (4294967295 ^^^ n) : Nat) = crcAdd n bs := rfl
    refine brD (fun cb0 => by exfalso; omega) (fun cb0 => ?_)
    dsimp only at cb0
    refine axor32 (4294967295) (List.foldl crcOn (4294967295 ^^^ n) bs) ?_ (by first | rfl | omega | (simp only [Int.toNat_natCast]; omega) | (push_cast; omega)) (by first | rfl | omega | (simp only [Int.toNat_natCast]; omega) | (push_cast; omega)) (by first | omega | assumption | (exact Nat.lt_of_le_of_lt Nat.and_le_left (by decide)) | decide) (by first | omega | assumption | (exact Nat.lt_of_le_of_lt Nat.and_le_left (by decide)) | decide)
    refine ⟨_, rfl, ?_⟩
    refine k _ h.drop

theorem sum_ok {s : Sl} {bs : Str} {K : Int → World → Prop} (h : Sat Γ L w) (hs : Bytes Γ s bs) (k : ∀ w', Sat Γ L w' → K (crc bs : Int) w') :
    CallP Try.prog 63 [.slice s.p s.len s.cap] (.one (.s (.int .u32))) K w := by
  refine callP (fn := Try.f63) [.s (.sl s)] .n nong mixed (by kernel_rfl) (by kernel_rfl) rfl rfl ?_
  exact add_ok (n := 0) h hs (by decide) fun w' h => ⟨_, rfl, k w' h⟩

end Go.Proofs.Ytocmjngleknlbaa.K
