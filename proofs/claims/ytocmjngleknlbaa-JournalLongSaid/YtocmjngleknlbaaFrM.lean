/-
  Numbers as bytes, sums, frames: what they are, and their laws.
-/
import Derived.Test.YtocmjngleknlbaaDkM
namespace Go.Proofs.Ytocmjngleknlbaa.K

/-- a number in so many bytes, the highest first -/
def fixN (n : Nat) : Nat → Str
  | 0 => []
  | k + 1 => UInt8.ofNat (n / 256 ^ k) :: fixN n k

theorem fixN_len (n : Nat) : ∀ k, (fixN n k).length = k
  | 0 => rfl
  | k + 1 => by simp [fixN, fixN_len n k]

def unfix (bs : Str) : Nat := bs.foldl (fun n c => n * 256 + c.toNat) 0

theorem unfix_from (bs : Str) : ∀ m, bs.foldl (fun n c => n * 256 + c.toNat) m = m * 256 ^ bs.length + unfix bs := by
  unfold unfix
  induction bs with
  | nil => intro m; simp
  | cons b r ih =>
    intro m
    simp only [List.foldl_cons, List.length_cons, Nat.zero_mul, Nat.zero_add]
    rw [ih, ih b.toNat, Nat.pow_succ, Nat.add_mul, Nat.mul_assoc, Nat.mul_comm 256, Nat.add_assoc]

theorem unfix_lt (bs : Str) : unfix bs < 256 ^ bs.length := by
  induction bs with
  | nil => simp [unfix]
  | cons b r ih =>
    have e : unfix (b :: r) = b.toNat * 256 ^ r.length + unfix r := by
      show (b :: r).foldl _ 0 = _
      rw [List.foldl_cons, Nat.zero_mul, Nat.zero_add, unfix_from]
    rw [e, List.length_cons, Nat.pow_succ]
    have := b.toNat_lt
    have h1 : b.toNat * 256 ^ r.length ≤ 255 * 256 ^ r.length := Nat.mul_le_mul_right _ (by omega)
    omega

theorem unfix_fixN (n : Nat) : ∀ k, unfix (fixN n k) = n % 256 ^ k
  | 0 => by simp [fixN, unfix, Nat.mod_one]
  | k + 1 => by
    have e : unfix (fixN n (k + 1)) = (UInt8.ofNat (n / 256 ^ k)).toNat * 256 ^ k + unfix (fixN n k) := by
      show (fixN n (k + 1)).foldl _ 0 = _
      simp only [fixN, List.foldl_cons, Nat.zero_mul, Nat.zero_add]
      rw [unfix_from, fixN_len]
    rw [e, unfix_fixN n k]
    have h1 : (UInt8.ofNat (n / 256 ^ k)).toNat = n / 256 ^ k % 256 := by simp
    rw [h1, Nat.pow_succ, Nat.mul_comm (256 ^ k) 256, Nat.mod_mul_left_div_self_aux n k]
where
  Nat.mod_mul_left_div_self_aux (n k : Nat) : n / 256 ^ k % 256 * 256 ^ k + n % 256 ^ k = n % (256 * 256 ^ k) := by
    rw [Nat.mul_comm 256, Nat.mod_mul]
    rw [Nat.add_comm, Nat.mul_comm]

/-! ### sums -/

def crcStep (c : Nat) : Nat := if c % 2 = 1 then (c / 2) ^^^ 2197175160 else c / 2
def crcN : Nat → Nat → Nat
  | 0, c => c
  | k + 1, c => crcN k (crcStep c)
def crcE (i : Nat) : Nat := crcN 8 i
def crcOn (c : Nat) (b : UInt8) : Nat := crcE ((c ^^^ b.toNat) % 256) ^^^ (c / 256)
def crcAdd (sum : Nat) (bs : Str) : Nat := 4294967295 ^^^ bs.foldl crcOn (4294967295 ^^^ sum)
def crc (bs : Str) : Nat := crcAdd 0 bs

theorem xor_lt32 {a b : Nat} (ha : a < 4294967296) (hb : b < 4294967296) : a ^^^ b < 4294967296 := Nat.xor_lt_two_pow (n := 32) ha hb

theorem crcStep_lt {c : Nat} (h : c < 4294967296) : crcStep c < 4294967296 := by
  unfold crcStep
  split
  · exact xor_lt32 (by omega) (by decide)
  · omega

theorem crcN_lt : ∀ (k : Nat) {c : Nat}, c < 4294967296 → crcN k c < 4294967296
  | 0, _, h => h
  | k + 1, _, h => crcN_lt k (crcStep_lt h)

theorem crcE_lt {i : Nat} (h : i < 256) : crcE i < 4294967296 := crcN_lt 8 (by omega)

theorem crcOn_lt {c : Nat} {b : UInt8} (h : c < 4294967296) : crcOn c b < 4294967296 := xor_lt32 (crcE_lt (Nat.mod_lt _ (by decide))) (by omega)

theorem crcFold_lt : ∀ (bs : Str) {c : Nat}, c < 4294967296 → bs.foldl crcOn c < 4294967296
  | [], _, h => h
  | _ :: r, _, h => crcFold_lt r (crcOn_lt h)

theorem crcAdd_lt {s : Nat} (h : s < 4294967296) (bs : Str) : crcAdd s bs < 4294967296 := xor_lt32 (by decide) (crcFold_lt bs (xor_lt32 (by decide) h))
theorem crc_lt (bs : Str) : crc bs < 4294967296 := crcAdd_lt (by decide) bs

theorem crcN_succ (k c : Nat) : crcN (k + 1) c = crcStep (crcN k c) := by
  induction k generalizing c with
  | zero => rfl
  | succ k ih => show crcN (k + 1) (crcStep c) = _; rw [ih]; rfl

/-! ### frames -/

/-- four bytes, the lowest first -/
def le4 (n : Nat) : Str := [UInt8.ofNat n, UInt8.ofNat (n / 256), UInt8.ofNat (n / 65536), UInt8.ofNat (n / 16777216)]
theorem le4_len (n : Nat) : (le4 n).length = 4 := rfl

def sealB (x : Str) : Str := x ++ le4 (crc x)
theorem sealB_len (x : Str) : (sealB x).length = x.length + 4 := by simp [sealB, le4_len]

def frameB (x : Str) : Str := sealB (fixN x.length 4 ++ x)
theorem frameB_len (x : Str) : (frameB x).length = x.length + 8 := by
  unfold frameB
  rw [sealB_len, List.length_append, fixN_len]
  omega

/-- the first frame: what it has, how many bytes; or what is wrong -/
def takeF (b : Str) : Except Int (Str × Nat) :=
  if b.length < 4 then .error 5
  else if unfix (b.take 4) > 4096 then .error 6
  else if b.length < 8 + unfix (b.take 4) then .error 5
  else if sealB (b.take (4 + unfix (b.take 4))) ≠ b.take (8 + unfix (b.take 4)) then .error 6
  else .ok ((b.drop 4).take (unfix (b.take 4)), unfix (b.take 4) + 8)

theorem takeF_frame {x : Str} (h : x.length ≤ 4096) (r : Str) : takeF (frameB x ++ r) = .ok (x, x.length + 8) := by
  have hf : frameB x ++ r = fixN x.length 4 ++ (x ++ (le4 (crc (fixN x.length 4 ++ x)) ++ r)) := by
    unfold frameB sealB
    simp
  have h4 : (frameB x ++ r).take 4 = fixN x.length 4 := by
    rw [hf]
    have := List.take_left (l₁ := fixN x.length 4) (l₂ := x ++ (le4 (crc (fixN x.length 4 ++ x)) ++ r))
    rwa [fixN_len] at this
  have hn : unfix ((frameB x ++ r).take 4) = x.length := by
    rw [h4, unfix_fixN]
    exact Nat.mod_eq_of_lt (by omega)
  have hlen : (frameB x ++ r).length = x.length + 8 + r.length := by rw [List.length_append, frameB_len]
  unfold takeF
  rw [hn]
  rw [if_neg (by omega), if_neg (by omega), if_neg (by omega)]
  have e1 : (frameB x ++ r).take (4 + x.length) = fixN x.length 4 ++ x := by
    have : frameB x ++ r = (fixN x.length 4 ++ x) ++ (le4 (crc (fixN x.length 4 ++ x)) ++ r) := by rw [hf]; simp
    rw [this]
    have h2 := List.take_left (l₁ := fixN x.length 4 ++ x) (l₂ := le4 (crc (fixN x.length 4 ++ x)) ++ r)
    rwa [List.length_append, fixN_len] at h2
  have e2 : (frameB x ++ r).take (8 + x.length) = frameB x := by
    have h2 := List.take_left (l₁ := frameB x) (l₂ := r)
    rwa [frameB_len, Nat.add_comm] at h2
  have e3 : ((frameB x ++ r).drop 4).take x.length = x := by
    rw [hf]
    have h2 := List.drop_left (l₁ := fixN x.length 4) (l₂ := x ++ (le4 (crc (fixN x.length 4 ++ x)) ++ r))
    rw [fixN_len] at h2
    rw [h2]
    exact List.take_left
  rw [e1, e2, e3]
  rw [if_neg (by intro h; exact h rfl)]

theorem takeF_ok {b x : Str} {n : Nat} (h : takeF b = .ok (x, n)) : n = x.length + 8 ∧ x.length ≤ 4096 ∧ n ≤ b.length ∧ b.take n = frameB x := by
  unfold takeF at h
  split at h
  · cases h
  · split at h
    · cases h
    · split at h
      · cases h
      · split at h
        · cases h
        · rename_i h1 h2 h3 h4
          cases h
          have hl : ((b.drop 4).take (unfix (b.take 4))).length = unfix (b.take 4) := by rw [List.length_take, List.length_drop]; omega
          have h4 := Decidable.not_not.1 h4
          refine ⟨by rw [hl], by rw [hl]; omega, by omega, ?_⟩
          rw [Nat.add_comm, ← h4]
          unfold frameB
          rw [hl]
          congr 1
          have e4 : (b.take 4).length = 4 := by rw [List.length_take]; omega
          have ef : fixN (unfix (b.take 4)) 4 = b.take 4 := by
            have : ∀ (l : Str), fixN (unfix l) l.length = l := by
              intro l
              induction l with
              | nil => rfl
              | cons c l ih =>
                have e : unfix (c :: l) = c.toNat * 256 ^ l.length + unfix l := by
                  show (c :: l).foldl _ 0 = _
                  rw [List.foldl_cons, Nat.zero_mul, Nat.zero_add, unfix_from]
                have hlt := unfix_lt l
                rw [List.length_cons]
                unfold fixN
                have h5 : unfix (c :: l) / 256 ^ l.length = c.toNat := by
                  rw [e, Nat.add_comm, Nat.add_mul_div_right _ _ (Nat.pow_pos (by decide)), Nat.div_eq_of_lt hlt, Nat.zero_add]
                rw [h5]
                have h6 : ∀ k, k ≤ l.length → fixN (unfix (c :: l)) k = fixN (unfix l) k := by
                  intro k
                  induction k with
                  | zero => intro _; rfl
                  | succ k ihk =>
                    intro hk
                    unfold fixN
                    rw [ihk (by omega)]
                    congr 1
                    apply UInt8.toNat_inj.1
                    simp only [UInt8.toNat_ofNat']
                    rw [e]
                    have : c.toNat * 256 ^ l.length = (c.toNat * 256 ^ (l.length - k - 1) * 256) * 256 ^ k := by
                      rw [Nat.mul_assoc, Nat.mul_assoc, ← Nat.pow_succ', ← Nat.pow_add]
                      congr 2
                      omega
                    rw [this, Nat.add_comm, Nat.add_mul_div_right _ _ (Nat.pow_pos (by decide))]
                    simp [Nat.add_mul_mod_self_right]
                rw [h6 _ (Nat.le_refl _), ih]
                simp
            have h5 := this (b.take 4)
            rwa [e4] at h5
          rw [ef]
          have : b.take (4 + unfix (b.take 4)) = b.take 4 ++ (b.drop 4).take (unfix (b.take 4)) := List.take_add
          exact this

/-- all frames up to the first that is none, and how many bytes they have -/
def allF : Nat → Str → List Str × Nat
  | 0, _ => ([], 0)
  | k + 1, b => match takeF b with
    | .ok (x, n) => (x :: (allF k (b.drop n)).1, n + (allF k (b.drop n)).2)
    | .error _ => ([], 0)

def allB (b : Str) : List Str × Nat := allF (b.length + 1) b

theorem allF_fuel : ∀ (k j : Nat) (b : Str), b.length < k → b.length < j → allF k b = allF j b
  | 0, _, _, h, _ => by omega
  | _, 0, _, _, h => by omega
  | k + 1, j + 1, b, hk, hj => by
    unfold allF
    cases h : takeF b with
    | error e => rfl
    | ok p =>
      obtain ⟨x, n⟩ := p
      obtain ⟨h1, _, h3, _⟩ := takeF_ok h
      have hl : (b.drop n).length = b.length - n := List.length_drop
      dsimp only
      rw [allF_fuel k j (b.drop n) (by omega) (by omega)]

theorem allB_ok {b x : Str} {n : Nat} (h : takeF b = .ok (x, n)) : allB b = (x :: (allB (b.drop n)).1, n + (allB (b.drop n)).2) := by
  obtain ⟨h1, _, h3, _⟩ := takeF_ok h
  have hl : (b.drop n).length = b.length - n := List.length_drop
  unfold allB
  rw [allF, h]
  dsimp only
  rw [allF_fuel b.length ((b.drop n).length + 1) (b.drop n) (by omega) (by omega)]

theorem allB_error {b : Str} {e : Int} (h : takeF b = .error e) : allB b = ([], 0) := by
  unfold allB
  rw [allF, h]

theorem allB_frame {x : Str} (h : x.length ≤ 4096) (r : Str) : allB (frameB x ++ r) = (x :: (allB r).1, x.length + 8 + (allB r).2) := by
  rw [allB_ok (takeF_frame h r)]
  have : (frameB x ++ r).drop (x.length + 8) = r := by
    rw [← frameB_len]
    exact List.drop_left
  rw [this]

end Go.Proofs.Ytocmjngleknlbaa.K
