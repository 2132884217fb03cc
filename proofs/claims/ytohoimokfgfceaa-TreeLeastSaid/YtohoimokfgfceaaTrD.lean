/-
  The tree's functions: planted, and played on.
-/
import Derived.Test.YtohoimokfgfceaaTrC
namespace Go.Proofs.Ytohoimokfgfceaa.K
open Go Go.Proofs
variable {Γ Γ' : Mem} {L L' L'' : List HP} {w w' : World} {A B : HP}
set_option maxRecDepth 100000

/-- how many games there are below a place -/
def cnt : Nat → Nat → Nat → Nat
  | 0, _, _ => 0
  | f + 1, k, n => if k ≤ n then 0 else cnt f k (2 * n) + cnt f k (2 * n + 1) + 1

theorem cnt_root : ∀ k, k < 17 → 0 < k → cnt 5 k 1 = k - 1 := by decide

/-- a tree of losers, laid out -/
abbrev lay (b : Nat) (rows lst : Sl) (rs : List (Sl × Bool)) (lost : List Nat) (g : Int) (L : List HP) : List HP :=
  blk b (.cells (lcells rows lst g) TL (0, 0)) :: Own rows TH 2 (rs.flatMap hcell) :: Own lst TI 1 (lost.map iv) :: L

theorem map_iv_set (lost : List Nat) (i v : Nat) : (lost.map iv).set (i * 1) (iv v) = (lost.set i v).map iv := by
  rw [Nat.mul_one, List.map_set]

theorem cnt_le : ∀ (f k n : Nat), cnt f k n < 2 ^ f
  | 0, _, _ => by simp [cnt]
  | f + 1, k, n => by
    have h1 := cnt_le f k (2 * n)
    have h2 := cnt_le f k (2 * n + 1)
    unfold cnt
    have : 2 ^ (f + 1) = 2 ^ f + 2 ^ f := by rw [Nat.pow_succ]; omega
    split
    · have := Nat.pow_pos (n := f + 1) (show 0 < 2 by omega); omega
    · omega

theorem play_ok {b : Nat} {rows lst : Sl} {rs : List (Sl × Bool)} {hs : List Hd} (hh : HeadsOK Γ rs hs) (hr : rows.len = hs.length) (hl : lst.len = hs.length) (hs0 : hs.length ≤ 16) :
    ∀ (f n : Nat), f ≤ 5 → 0 < n → n < 2 * hs.length → hs.length ≤ n * 2 ^ f → ∀ {lost : List Nat} {g : Int} {w : World} {K : Int → World → Prop}, Sat Γ (lay b rows lst rs lost g L) w → lost.length = hs.length → 0 ≤ g → g + (cnt f hs.length n : Int) < 1000000 →
      (∀ lost' w', lost'.length = hs.length → (∀ m, 0 < m → m < hs.length → Below' n m → lost'[m]? = some (lose hs hs.length m)) → (∀ m, ¬ Below' n m → lost'[m]? = lost[m]?) →
        Sat Γ (lay b rows lst rs lost' (g + (cnt f hs.length n : Int)) L) w' → K (win hs hs.length n : Int) w') →
      CallP Try.prog 157 [.pointer (some ⟨b, 0, none⟩), .int .i64 (n : Int)] (.one (.s (.int .i64))) K w := by
  intro f
  induction f with
  | zero =>
    intro n _ hn0 hn2 hk lost g w K h hlen hg hgc k
    rw [Nat.pow_zero, Nat.mul_one] at hk
    refine callP (fn := Try.f157) [.s (.addr ⟨b, 0, none⟩), .s (.int .i64 (n : Int))] (.p .n (.p .n (.p .n (.j [0, 1] [(6, .s (.int .i64)), (5, .s (.int .i64))] .n .n)))) nong mixed (by kernel_rfl) (by kernel_rfl) rfl rfl ?_
    refine ld rows h (by repeat (first | with_reducible exact Pick.here | apply Pick.there)) ?_
    refine br (fun hb => ?_) (fun hb => ?_)
    · refine ld rows h (by repeat (first | with_reducible exact Pick.here | apply Pick.there)) ?_
      have e : win hs hs.length n = n - hs.length := win_leaf hk
      refine wrN (win hs hs.length n) ?_
      refine ⟨_, rfl, ?_⟩
      refine k lost w hlen (fun m h0 h1 hb => ?_) (fun _ _ => rfl) (by simpa [cnt] using h)
      have := hb.le; omega
    · have : ¬ ((n : Int) ≥ rows.len) := of_decide_eq_false hb
      omega
  | succ f ih =>
    intro n hf hn0 hn2 hk lost g w K h hlen hg hgc k
    have hk2 : hs.length ≤ 2 * n * 2 ^ f := by rw [Nat.pow_succ] at hk; rw [Nat.mul_comm 2 n, Nat.mul_assoc, Nat.mul_comm 2]; exact hk
    have hk3 : hs.length ≤ (2 * n + 1) * 2 ^ f := by rw [Nat.add_mul]; omega
    refine callP (fn := Try.f157) [.s (.addr ⟨b, 0, none⟩), .s (.int .i64 (n : Int))] (.p .n (.p .n (.p .n (.j [0, 1] [(6, .s (.int .i64)), (5, .s (.int .i64))] .n .n)))) nong mixed (by kernel_rfl) (by kernel_rfl) rfl rfl ?_
    refine ld rows h (by repeat (first | with_reducible exact Pick.here | apply Pick.there)) ?_
    refine br (fun hb => ?_) (fun hb => ?_)
    · have hkn : hs.length ≤ n := by have : ((n : Int) ≥ rows.len) := of_decide_eq_true hb; omega
      refine ld rows h (by repeat (first | with_reducible exact Pick.here | apply Pick.there)) ?_
      have e : win hs hs.length n = n - hs.length := win_leaf hkn
      refine wrN (win hs hs.length n) ?_
      refine ⟨_, rfl, ?_⟩
      refine k lost w hlen (fun m h0 h1 hb => ?_) (fun _ _ => rfl) (by simpa [cnt, hkn] using h)
      have := hb.le; omega
    · have hkn : ¬ hs.length ≤ n := by have : ¬ ((n : Int) ≥ rows.len) := of_decide_eq_false hb; omega
      have hc : cnt (f + 1) hs.length n = cnt f hs.length (2 * n) + cnt f hs.length (2 * n + 1) + 1 := by rw [cnt, if_neg hkn]
      rw [hc] at hgc k
      have p1 := ih (2 * n) (by omega) (by omega) (by omega) hk2 (K := fun x w' => x = (win hs hs.length (2 * n) : Int) ∧ ∃ lost', lost'.length = hs.length ∧ (∀ m, 0 < m → m < hs.length → Below' (2 * n) m → lost'[m]? = some (lose hs hs.length m)) ∧ (∀ m, ¬ Below' (2 * n) m → lost'[m]? = lost[m]?) ∧
        Sat Γ (lay b rows lst rs lost' (g + (cnt f hs.length (2 * n) : Int)) L) w') h hlen hg (by omega) (fun lost' w' a1 a2 a3 a4 => ⟨rfl, lost', a1, a2, a3, a4⟩)
      refine wrN (2 * n) ?_
      refine callP_mono p1 ?_
      rintro _ w1 ⟨rfl, lost1, b1, b2, b3, b4⟩
      have p2 := ih (2 * n + 1) (by omega) (by omega) (by omega) hk3 (K := fun x w' => x = (win hs hs.length (2 * n + 1) : Int) ∧ ∃ lost', lost'.length = hs.length ∧ (∀ m, 0 < m → m < hs.length → Below' (2 * n + 1) m → lost'[m]? = some (lose hs hs.length m)) ∧ (∀ m, ¬ Below' (2 * n + 1) m → lost'[m]? = lost1[m]?) ∧
        Sat Γ (lay b rows lst rs lost' (g + (cnt f hs.length (2 * n) : Int) + (cnt f hs.length (2 * n + 1) : Int)) L) w') b4 b1 (by omega) (by omega) (fun lost' w' a1 a2 a3 a4 => ⟨rfl, lost', a1, a2, a3, a4⟩)
      refine wrN (2 * n) ?_
      refine wrN (2 * n + 1) ?_
      refine callP_mono p2 ?_
      rintro _ w2 ⟨rfl, lost2, c1, c2, c3, c4⟩
      have s1 := (win_spec hs hs.length _ (2 * n) rfl (by omega) (by omega)).1.2
      have s2 := (win_spec hs hs.length _ (2 * n + 1) rfl (by omega) (by omega)).1.2
      refine join (σ := Int × Int) (fun s w' => s = ((lose hs hs.length n : Int), (win hs hs.length n : Int)) ∧ Sat Γ (lay b rows lst rs lost2 (g + (cnt f hs.length (2 * n) : Int) + (cnt f hs.length (2 * n + 1) : Int) + 1) L) w') ?_ ?_
      · refine beats_ok (rs := rs) (hs := hs) (L := Own lst TI 1 (lost2.map iv) :: L) c4 hh hr s1 s2 (by omega) (by omega) fun w3 h3 => ?_
        have h3' : Sat Γ (lay b rows lst rs lost2 (g + (cnt f hs.length (2 * n) : Int) + (cnt f hs.length (2 * n + 1) : Int) + 1) L) w3 := h3
        refine br (fun hb => ?_) (fun hb => ?_)
        · have hb' : beats hs (win hs hs.length (2 * n)) (win hs hs.length (2 * n + 1)) = false := by simpa using hb
          refine ⟨?_, h3'⟩
          rw [win_node hn0 (by omega), lose, hb']
          rfl
        · have hb' : beats hs (win hs hs.length (2 * n)) (win hs hs.length (2 * n + 1)) = true := by simpa using hb
          refine ⟨?_, h3'⟩
          rw [win_node hn0 (by omega), lose, hb']
          rfl
      · rintro s w3 ⟨rfl, h3⟩
        refine ld lst h3 (by repeat (first | with_reducible exact Pick.here | apply Pick.there)) ?_
        refine ⟨⟨by omega, by omega⟩, ?_⟩
        refine nnOwn h3 (s := lst) (T := TI) (sz := 1) (cells := lost2.map iv) (by repeat (first | with_reducible exact Pick.here | apply Pick.there)) (by omega) fun a ha _ => ?_
        refine stOwn h3 (s := lst) (T := TI) (sz := 1) (cells := lost2.map iv) (by repeat (first | with_reducible exact Pick.here | apply Pick.there)) ha (by show n * 1 < _; simp; omega) rfl fun w4 h4 => ?_
        refine ⟨_, rfl, ?_⟩
        have h4' : Sat Γ (Own lst TI 1 ((lost2.map iv).set (n * 1) (iv (lose hs hs.length n))) :: blk b (.cells (lcells rows lst (g + (cnt f hs.length (2 * n) : Int) + (cnt f hs.length (2 * n + 1) : Int) + 1)) TL (0, 0)) :: Own rows TH 2 (rs.flatMap hcell) :: L) w4 := h4
        rw [map_iv_set] at h4'
        have h5 := (h4'.pick (A := Own rows TH 2 (rs.flatMap hcell)) (by repeat (first | with_reducible exact Pick.here | apply Pick.there))).pick (A := blk b (.cells (lcells rows lst (g + (cnt f hs.length (2 * n) : Int) + (cnt f hs.length (2 * n + 1) : Int) + 1)) TL (0, 0))) (by repeat (first | with_reducible exact Pick.here | apply Pick.there))
        have e3 : g + ((cnt f hs.length (2 * n) + cnt f hs.length (2 * n + 1) + 1 : Nat) : Int) = g + (cnt f hs.length (2 * n) : Int) + (cnt f hs.length (2 * n + 1) : Int) + 1 := by omega
        refine k (lost2.set n (lose hs hs.length n)) w4 (by simp [c1]) (fun m h0 h1 hb => ?_) (fun m hb => ?_) (by rw [e3]; exact h5)
        · by_cases hm : m = n
          · subst hm
            rw [List.getElem?_set_self (by omega)]
          · rw [List.getElem?_set_ne (Ne.symm hm)]
            rcases hb.cases' with hb | hb | hb
            · exact absurd hb hm
            · rw [c3 m (fun hb' => below_disjoint hn0 m hb hb')]
              exact b2 m h0 h1 hb
            · exact c2 m h0 h1 hb
        · have hm : m ≠ n := fun hm => hb (hm ▸ .refl _)
          rw [List.getElem?_set_ne (Ne.symm hm), c3 m (fun hb' => hb (by have := hb'.up (by omega); rwa [show (2 * n + 1) / 2 = n by omega] at this)),
            b3 m (fun hb' => hb (by have := hb'.up (by omega); rwa [show 2 * n / 2 = n by omega] at this))]

end Go.Proofs.Ytohoimokfgfceaa.K
