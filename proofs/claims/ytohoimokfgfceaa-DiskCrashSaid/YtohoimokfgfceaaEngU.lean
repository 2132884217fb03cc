/-
  More short rules: what is known of a test; zero values, made slices, maps of texts.
-/
import Derived.Test.YtohoimokfgfceaaEngP
namespace Go.Proofs.Ytohoimokfgfceaa.K
open Go Go.Proofs
variable {P : Program} {Γ Γ' : Mem} {L L' L'' : List HP} {w w' : World} {A B : HP}

theorem brKT {c : Bool} {X Y : Prop} (h : c = true) (x : X) : Br c X Y := ⟨fun _ => x, fun e => by rw [h] at e; cases e⟩
theorem brKF {c : Bool} {X Y : Prop} (h : c = false) (y : Y) : Br c X Y := ⟨fun e => (by rw [h] at e; cases e), fun _ => y⟩

/-- a truth that is told, part by part -/
theorem kDec {p : Prop} [Decidable p] {K : Bool → World → Prop} (a : p → K true w) (b : ¬ p → K false w) : K (decide p) w := by
  by_cases h : p
  · rw [decide_eq_true h]; exact a h
  · rw [decide_eq_false h]; exact b h
theorem kBeq {x y : Int} {K : Bool → World → Prop} (a : x = y → K true w) (b : x ≠ y → K false w) : K (x == y) w := by
  by_cases h : x = y
  · rw [show (x == y) = true by simpa using h]; exact a h
  · rw [show (x == y) = false by simpa using h]; exact b h
theorem kBne {x y : Int} {K : Bool → World → Prop} (a : x ≠ y → K true w) (b : x = y → K false w) : K (x != y) w := by
  by_cases h : x = y
  · rw [show (x != y) = false by simpa using h]; exact b h
  · rw [show (x != y) = true by simpa using h]; exact a h
theorem kStr {x y : List UInt8} {K : Bool → World → Prop} (a : x = y → K true w) (b : x ≠ y → K false w) : K ((str x).toList == (str y).toList) w := by
  rw [str_toList, str_toList]
  by_cases h : x = y
  · rw [show (x == y) = true by simpa using h]; exact a h
  · rw [show (x == y) = false by simpa using h]; exact b h
theorem kNot {c : Bool} {K : Bool → World → Prop} (a : c = false → K true w) (b : c = true → K false w) : K (!c) w := by
  cases h : c
  · exact a h
  · exact b h
theorem kBool {c : Bool} {K : Bool → World → Prop} (a : c = true → K true w) (b : c = false → K false w) : K c w := by
  cases h : c
  · exact b h
  · exact a h

/-- the parts as they are told otherwise -/
theorem Sat.eqs (h : Sat Γ L w) (e : L = L') : Sat Γ L' w := e ▸ h

/-! ### several cells, told one by one -/

section
variable {b : Nat} {c : Array Value} {T : TypeId} {z : Nat × Nat} {o : Nat}
theorem ldA2 {s0 s1 : Sc} {K : ScsT [s0, s1] → Prop} (x0 : s0.T) (x1 : s1.T) (h : Sat Γ L w) (pk : Pick (blk b (.cells c T z)) L L') (k : K (x0, x1)) (hc : (c.toList.drop o).take 2 = [s0.v x0, s1.v x1] := by rfl) : Ld (fun w' => w' = w) (.agg [s0, s1]) ⟨b, o, none⟩ K := ldA (l := [s0, s1]) (x0, x1) h pk k hc
theorem ldHA2 {s0 s1 : Sc} {L0 : List HP} {K : ScsT [s0, s1] → Prop} (x0 : s0.T) (x1 : s1.T) (pk : Pick (blk b (.cells c T z)) L0 L') (k : K (x0, x1)) (hc : (c.toList.drop o).take 2 = [s0.v x0, s1.v x1] := by rfl) : Ld (Sx Γ L0) (.agg [s0, s1]) ⟨b, o, none⟩ K := ldHA (l := [s0, s1]) (x0, x1) pk k hc
theorem ldFA2 {s0 s1 : Sc} {K : ScsT [s0, s1] → Prop} (x0 : s0.T) (x1 : s1.T) (h : Sat Γ L w) (hb : Γ b = some (.cells c T z)) (k : K (x0, x1)) (hc : (c.toList.drop o).take 2 = [s0.v x0, s1.v x1] := by rfl) : Ld (fun w' => w' = w) (.agg [s0, s1]) ⟨b, o, none⟩ K := ldFA (l := [s0, s1]) (x0, x1) h hb k hc
theorem ldA3 {s0 s1 s2 : Sc} {K : ScsT [s0, s1, s2] → Prop} (x0 : s0.T) (x1 : s1.T) (x2 : s2.T) (h : Sat Γ L w) (pk : Pick (blk b (.cells c T z)) L L') (k : K (x0, x1, x2)) (hc : (c.toList.drop o).take 3 = [s0.v x0, s1.v x1, s2.v x2] := by rfl) : Ld (fun w' => w' = w) (.agg [s0, s1, s2]) ⟨b, o, none⟩ K := ldA (l := [s0, s1, s2]) (x0, x1, x2) h pk k hc
theorem ldHA3 {s0 s1 s2 : Sc} {L0 : List HP} {K : ScsT [s0, s1, s2] → Prop} (x0 : s0.T) (x1 : s1.T) (x2 : s2.T) (pk : Pick (blk b (.cells c T z)) L0 L') (k : K (x0, x1, x2)) (hc : (c.toList.drop o).take 3 = [s0.v x0, s1.v x1, s2.v x2] := by rfl) : Ld (Sx Γ L0) (.agg [s0, s1, s2]) ⟨b, o, none⟩ K := ldHA (l := [s0, s1, s2]) (x0, x1, x2) pk k hc
theorem ldFA3 {s0 s1 s2 : Sc} {K : ScsT [s0, s1, s2] → Prop} (x0 : s0.T) (x1 : s1.T) (x2 : s2.T) (h : Sat Γ L w) (hb : Γ b = some (.cells c T z)) (k : K (x0, x1, x2)) (hc : (c.toList.drop o).take 3 = [s0.v x0, s1.v x1, s2.v x2] := by rfl) : Ld (fun w' => w' = w) (.agg [s0, s1, s2]) ⟨b, o, none⟩ K := ldFA (l := [s0, s1, s2]) (x0, x1, x2) h hb k hc
theorem ldA4 {s0 s1 s2 s3 : Sc} {K : ScsT [s0, s1, s2, s3] → Prop} (x0 : s0.T) (x1 : s1.T) (x2 : s2.T) (x3 : s3.T) (h : Sat Γ L w) (pk : Pick (blk b (.cells c T z)) L L') (k : K (x0, x1, x2, x3)) (hc : (c.toList.drop o).take 4 = [s0.v x0, s1.v x1, s2.v x2, s3.v x3] := by rfl) : Ld (fun w' => w' = w) (.agg [s0, s1, s2, s3]) ⟨b, o, none⟩ K := ldA (l := [s0, s1, s2, s3]) (x0, x1, x2, x3) h pk k hc
theorem ldHA4 {s0 s1 s2 s3 : Sc} {L0 : List HP} {K : ScsT [s0, s1, s2, s3] → Prop} (x0 : s0.T) (x1 : s1.T) (x2 : s2.T) (x3 : s3.T) (pk : Pick (blk b (.cells c T z)) L0 L') (k : K (x0, x1, x2, x3)) (hc : (c.toList.drop o).take 4 = [s0.v x0, s1.v x1, s2.v x2, s3.v x3] := by rfl) : Ld (Sx Γ L0) (.agg [s0, s1, s2, s3]) ⟨b, o, none⟩ K := ldHA (l := [s0, s1, s2, s3]) (x0, x1, x2, x3) pk k hc
theorem ldFA4 {s0 s1 s2 s3 : Sc} {K : ScsT [s0, s1, s2, s3] → Prop} (x0 : s0.T) (x1 : s1.T) (x2 : s2.T) (x3 : s3.T) (h : Sat Γ L w) (hb : Γ b = some (.cells c T z)) (k : K (x0, x1, x2, x3)) (hc : (c.toList.drop o).take 4 = [s0.v x0, s1.v x1, s2.v x2, s3.v x3] := by rfl) : Ld (fun w' => w' = w) (.agg [s0, s1, s2, s3]) ⟨b, o, none⟩ K := ldFA (l := [s0, s1, s2, s3]) (x0, x1, x2, x3) h hb k hc
theorem ldA5 {s0 s1 s2 s3 s4 : Sc} {K : ScsT [s0, s1, s2, s3, s4] → Prop} (x0 : s0.T) (x1 : s1.T) (x2 : s2.T) (x3 : s3.T) (x4 : s4.T) (h : Sat Γ L w) (pk : Pick (blk b (.cells c T z)) L L') (k : K (x0, x1, x2, x3, x4)) (hc : (c.toList.drop o).take 5 = [s0.v x0, s1.v x1, s2.v x2, s3.v x3, s4.v x4] := by rfl) : Ld (fun w' => w' = w) (.agg [s0, s1, s2, s3, s4]) ⟨b, o, none⟩ K := ldA (l := [s0, s1, s2, s3, s4]) (x0, x1, x2, x3, x4) h pk k hc
theorem ldHA5 {s0 s1 s2 s3 s4 : Sc} {L0 : List HP} {K : ScsT [s0, s1, s2, s3, s4] → Prop} (x0 : s0.T) (x1 : s1.T) (x2 : s2.T) (x3 : s3.T) (x4 : s4.T) (pk : Pick (blk b (.cells c T z)) L0 L') (k : K (x0, x1, x2, x3, x4)) (hc : (c.toList.drop o).take 5 = [s0.v x0, s1.v x1, s2.v x2, s3.v x3, s4.v x4] := by rfl) : Ld (Sx Γ L0) (.agg [s0, s1, s2, s3, s4]) ⟨b, o, none⟩ K := ldHA (l := [s0, s1, s2, s3, s4]) (x0, x1, x2, x3, x4) pk k hc
theorem ldFA5 {s0 s1 s2 s3 s4 : Sc} {K : ScsT [s0, s1, s2, s3, s4] → Prop} (x0 : s0.T) (x1 : s1.T) (x2 : s2.T) (x3 : s3.T) (x4 : s4.T) (h : Sat Γ L w) (hb : Γ b = some (.cells c T z)) (k : K (x0, x1, x2, x3, x4)) (hc : (c.toList.drop o).take 5 = [s0.v x0, s1.v x1, s2.v x2, s3.v x3, s4.v x4] := by rfl) : Ld (fun w' => w' = w) (.agg [s0, s1, s2, s3, s4]) ⟨b, o, none⟩ K := ldFA (l := [s0, s1, s2, s3, s4]) (x0, x1, x2, x3, x4) h hb k hc
theorem ldA6 {s0 s1 s2 s3 s4 s5 : Sc} {K : ScsT [s0, s1, s2, s3, s4, s5] → Prop} (x0 : s0.T) (x1 : s1.T) (x2 : s2.T) (x3 : s3.T) (x4 : s4.T) (x5 : s5.T) (h : Sat Γ L w) (pk : Pick (blk b (.cells c T z)) L L') (k : K (x0, x1, x2, x3, x4, x5)) (hc : (c.toList.drop o).take 6 = [s0.v x0, s1.v x1, s2.v x2, s3.v x3, s4.v x4, s5.v x5] := by rfl) : Ld (fun w' => w' = w) (.agg [s0, s1, s2, s3, s4, s5]) ⟨b, o, none⟩ K := ldA (l := [s0, s1, s2, s3, s4, s5]) (x0, x1, x2, x3, x4, x5) h pk k hc
theorem ldHA6 {s0 s1 s2 s3 s4 s5 : Sc} {L0 : List HP} {K : ScsT [s0, s1, s2, s3, s4, s5] → Prop} (x0 : s0.T) (x1 : s1.T) (x2 : s2.T) (x3 : s3.T) (x4 : s4.T) (x5 : s5.T) (pk : Pick (blk b (.cells c T z)) L0 L') (k : K (x0, x1, x2, x3, x4, x5)) (hc : (c.toList.drop o).take 6 = [s0.v x0, s1.v x1, s2.v x2, s3.v x3, s4.v x4, s5.v x5] := by rfl) : Ld (Sx Γ L0) (.agg [s0, s1, s2, s3, s4, s5]) ⟨b, o, none⟩ K := ldHA (l := [s0, s1, s2, s3, s4, s5]) (x0, x1, x2, x3, x4, x5) pk k hc
theorem ldFA6 {s0 s1 s2 s3 s4 s5 : Sc} {K : ScsT [s0, s1, s2, s3, s4, s5] → Prop} (x0 : s0.T) (x1 : s1.T) (x2 : s2.T) (x3 : s3.T) (x4 : s4.T) (x5 : s5.T) (h : Sat Γ L w) (hb : Γ b = some (.cells c T z)) (k : K (x0, x1, x2, x3, x4, x5)) (hc : (c.toList.drop o).take 6 = [s0.v x0, s1.v x1, s2.v x2, s3.v x3, s4.v x4, s5.v x5] := by rfl) : Ld (fun w' => w' = w) (.agg [s0, s1, s2, s3, s4, s5]) ⟨b, o, none⟩ K := ldFA (l := [s0, s1, s2, s3, s4, s5]) (x0, x1, x2, x3, x4, x5) h hb k hc
theorem ldA7 {s0 s1 s2 s3 s4 s5 s6 : Sc} {K : ScsT [s0, s1, s2, s3, s4, s5, s6] → Prop} (x0 : s0.T) (x1 : s1.T) (x2 : s2.T) (x3 : s3.T) (x4 : s4.T) (x5 : s5.T) (x6 : s6.T) (h : Sat Γ L w) (pk : Pick (blk b (.cells c T z)) L L') (k : K (x0, x1, x2, x3, x4, x5, x6)) (hc : (c.toList.drop o).take 7 = [s0.v x0, s1.v x1, s2.v x2, s3.v x3, s4.v x4, s5.v x5, s6.v x6] := by rfl) : Ld (fun w' => w' = w) (.agg [s0, s1, s2, s3, s4, s5, s6]) ⟨b, o, none⟩ K := ldA (l := [s0, s1, s2, s3, s4, s5, s6]) (x0, x1, x2, x3, x4, x5, x6) h pk k hc
theorem ldHA7 {s0 s1 s2 s3 s4 s5 s6 : Sc} {L0 : List HP} {K : ScsT [s0, s1, s2, s3, s4, s5, s6] → Prop} (x0 : s0.T) (x1 : s1.T) (x2 : s2.T) (x3 : s3.T) (x4 : s4.T) (x5 : s5.T) (x6 : s6.T) (pk : Pick (blk b (.cells c T z)) L0 L') (k : K (x0, x1, x2, x3, x4, x5, x6)) (hc : (c.toList.drop o).take 7 = [s0.v x0, s1.v x1, s2.v x2, s3.v x3, s4.v x4, s5.v x5, s6.v x6] := by rfl) : Ld (Sx Γ L0) (.agg [s0, s1, s2, s3, s4, s5, s6]) ⟨b, o, none⟩ K := ldHA (l := [s0, s1, s2, s3, s4, s5, s6]) (x0, x1, x2, x3, x4, x5, x6) pk k hc
theorem ldFA7 {s0 s1 s2 s3 s4 s5 s6 : Sc} {K : ScsT [s0, s1, s2, s3, s4, s5, s6] → Prop} (x0 : s0.T) (x1 : s1.T) (x2 : s2.T) (x3 : s3.T) (x4 : s4.T) (x5 : s5.T) (x6 : s6.T) (h : Sat Γ L w) (hb : Γ b = some (.cells c T z)) (k : K (x0, x1, x2, x3, x4, x5, x6)) (hc : (c.toList.drop o).take 7 = [s0.v x0, s1.v x1, s2.v x2, s3.v x3, s4.v x4, s5.v x5, s6.v x6] := by rfl) : Ld (fun w' => w' = w) (.agg [s0, s1, s2, s3, s4, s5, s6]) ⟨b, o, none⟩ K := ldFA (l := [s0, s1, s2, s3, s4, s5, s6]) (x0, x1, x2, x3, x4, x5, x6) h hb k hc
theorem ldA8 {s0 s1 s2 s3 s4 s5 s6 s7 : Sc} {K : ScsT [s0, s1, s2, s3, s4, s5, s6, s7] → Prop} (x0 : s0.T) (x1 : s1.T) (x2 : s2.T) (x3 : s3.T) (x4 : s4.T) (x5 : s5.T) (x6 : s6.T) (x7 : s7.T) (h : Sat Γ L w) (pk : Pick (blk b (.cells c T z)) L L') (k : K (x0, x1, x2, x3, x4, x5, x6, x7)) (hc : (c.toList.drop o).take 8 = [s0.v x0, s1.v x1, s2.v x2, s3.v x3, s4.v x4, s5.v x5, s6.v x6, s7.v x7] := by rfl) : Ld (fun w' => w' = w) (.agg [s0, s1, s2, s3, s4, s5, s6, s7]) ⟨b, o, none⟩ K := ldA (l := [s0, s1, s2, s3, s4, s5, s6, s7]) (x0, x1, x2, x3, x4, x5, x6, x7) h pk k hc
theorem ldHA8 {s0 s1 s2 s3 s4 s5 s6 s7 : Sc} {L0 : List HP} {K : ScsT [s0, s1, s2, s3, s4, s5, s6, s7] → Prop} (x0 : s0.T) (x1 : s1.T) (x2 : s2.T) (x3 : s3.T) (x4 : s4.T) (x5 : s5.T) (x6 : s6.T) (x7 : s7.T) (pk : Pick (blk b (.cells c T z)) L0 L') (k : K (x0, x1, x2, x3, x4, x5, x6, x7)) (hc : (c.toList.drop o).take 8 = [s0.v x0, s1.v x1, s2.v x2, s3.v x3, s4.v x4, s5.v x5, s6.v x6, s7.v x7] := by rfl) : Ld (Sx Γ L0) (.agg [s0, s1, s2, s3, s4, s5, s6, s7]) ⟨b, o, none⟩ K := ldHA (l := [s0, s1, s2, s3, s4, s5, s6, s7]) (x0, x1, x2, x3, x4, x5, x6, x7) pk k hc
theorem ldFA8 {s0 s1 s2 s3 s4 s5 s6 s7 : Sc} {K : ScsT [s0, s1, s2, s3, s4, s5, s6, s7] → Prop} (x0 : s0.T) (x1 : s1.T) (x2 : s2.T) (x3 : s3.T) (x4 : s4.T) (x5 : s5.T) (x6 : s6.T) (x7 : s7.T) (h : Sat Γ L w) (hb : Γ b = some (.cells c T z)) (k : K (x0, x1, x2, x3, x4, x5, x6, x7)) (hc : (c.toList.drop o).take 8 = [s0.v x0, s1.v x1, s2.v x2, s3.v x3, s4.v x4, s5.v x5, s6.v x6, s7.v x7] := by rfl) : Ld (fun w' => w' = w) (.agg [s0, s1, s2, s3, s4, s5, s6, s7]) ⟨b, o, none⟩ K := ldFA (l := [s0, s1, s2, s3, s4, s5, s6, s7]) (x0, x1, x2, x3, x4, x5, x6, x7) h hb k hc
theorem ldA9 {s0 s1 s2 s3 s4 s5 s6 s7 s8 : Sc} {K : ScsT [s0, s1, s2, s3, s4, s5, s6, s7, s8] → Prop} (x0 : s0.T) (x1 : s1.T) (x2 : s2.T) (x3 : s3.T) (x4 : s4.T) (x5 : s5.T) (x6 : s6.T) (x7 : s7.T) (x8 : s8.T) (h : Sat Γ L w) (pk : Pick (blk b (.cells c T z)) L L') (k : K (x0, x1, x2, x3, x4, x5, x6, x7, x8)) (hc : (c.toList.drop o).take 9 = [s0.v x0, s1.v x1, s2.v x2, s3.v x3, s4.v x4, s5.v x5, s6.v x6, s7.v x7, s8.v x8] := by rfl) : Ld (fun w' => w' = w) (.agg [s0, s1, s2, s3, s4, s5, s6, s7, s8]) ⟨b, o, none⟩ K := ldA (l := [s0, s1, s2, s3, s4, s5, s6, s7, s8]) (x0, x1, x2, x3, x4, x5, x6, x7, x8) h pk k hc
theorem ldHA9 {s0 s1 s2 s3 s4 s5 s6 s7 s8 : Sc} {L0 : List HP} {K : ScsT [s0, s1, s2, s3, s4, s5, s6, s7, s8] → Prop} (x0 : s0.T) (x1 : s1.T) (x2 : s2.T) (x3 : s3.T) (x4 : s4.T) (x5 : s5.T) (x6 : s6.T) (x7 : s7.T) (x8 : s8.T) (pk : Pick (blk b (.cells c T z)) L0 L') (k : K (x0, x1, x2, x3, x4, x5, x6, x7, x8)) (hc : (c.toList.drop o).take 9 = [s0.v x0, s1.v x1, s2.v x2, s3.v x3, s4.v x4, s5.v x5, s6.v x6, s7.v x7, s8.v x8] := by rfl) : Ld (Sx Γ L0) (.agg [s0, s1, s2, s3, s4, s5, s6, s7, s8]) ⟨b, o, none⟩ K := ldHA (l := [s0, s1, s2, s3, s4, s5, s6, s7, s8]) (x0, x1, x2, x3, x4, x5, x6, x7, x8) pk k hc
theorem ldFA9 {s0 s1 s2 s3 s4 s5 s6 s7 s8 : Sc} {K : ScsT [s0, s1, s2, s3, s4, s5, s6, s7, s8] → Prop} (x0 : s0.T) (x1 : s1.T) (x2 : s2.T) (x3 : s3.T) (x4 : s4.T) (x5 : s5.T) (x6 : s6.T) (x7 : s7.T) (x8 : s8.T) (h : Sat Γ L w) (hb : Γ b = some (.cells c T z)) (k : K (x0, x1, x2, x3, x4, x5, x6, x7, x8)) (hc : (c.toList.drop o).take 9 = [s0.v x0, s1.v x1, s2.v x2, s3.v x3, s4.v x4, s5.v x5, s6.v x6, s7.v x7, s8.v x8] := by rfl) : Ld (fun w' => w' = w) (.agg [s0, s1, s2, s3, s4, s5, s6, s7, s8]) ⟨b, o, none⟩ K := ldFA (l := [s0, s1, s2, s3, s4, s5, s6, s7, s8]) (x0, x1, x2, x3, x4, x5, x6, x7, x8) h hb k hc
theorem ldA10 {s0 s1 s2 s3 s4 s5 s6 s7 s8 s9 : Sc} {K : ScsT [s0, s1, s2, s3, s4, s5, s6, s7, s8, s9] → Prop} (x0 : s0.T) (x1 : s1.T) (x2 : s2.T) (x3 : s3.T) (x4 : s4.T) (x5 : s5.T) (x6 : s6.T) (x7 : s7.T) (x8 : s8.T) (x9 : s9.T) (h : Sat Γ L w) (pk : Pick (blk b (.cells c T z)) L L') (k : K (x0, x1, x2, x3, x4, x5, x6, x7, x8, x9)) (hc : (c.toList.drop o).take 10 = [s0.v x0, s1.v x1, s2.v x2, s3.v x3, s4.v x4, s5.v x5, s6.v x6, s7.v x7, s8.v x8, s9.v x9] := by rfl) : Ld (fun w' => w' = w) (.agg [s0, s1, s2, s3, s4, s5, s6, s7, s8, s9]) ⟨b, o, none⟩ K := ldA (l := [s0, s1, s2, s3, s4, s5, s6, s7, s8, s9]) (x0, x1, x2, x3, x4, x5, x6, x7, x8, x9) h pk k hc
theorem ldHA10 {s0 s1 s2 s3 s4 s5 s6 s7 s8 s9 : Sc} {L0 : List HP} {K : ScsT [s0, s1, s2, s3, s4, s5, s6, s7, s8, s9] → Prop} (x0 : s0.T) (x1 : s1.T) (x2 : s2.T) (x3 : s3.T) (x4 : s4.T) (x5 : s5.T) (x6 : s6.T) (x7 : s7.T) (x8 : s8.T) (x9 : s9.T) (pk : Pick (blk b (.cells c T z)) L0 L') (k : K (x0, x1, x2, x3, x4, x5, x6, x7, x8, x9)) (hc : (c.toList.drop o).take 10 = [s0.v x0, s1.v x1, s2.v x2, s3.v x3, s4.v x4, s5.v x5, s6.v x6, s7.v x7, s8.v x8, s9.v x9] := by rfl) : Ld (Sx Γ L0) (.agg [s0, s1, s2, s3, s4, s5, s6, s7, s8, s9]) ⟨b, o, none⟩ K := ldHA (l := [s0, s1, s2, s3, s4, s5, s6, s7, s8, s9]) (x0, x1, x2, x3, x4, x5, x6, x7, x8, x9) pk k hc
theorem ldFA10 {s0 s1 s2 s3 s4 s5 s6 s7 s8 s9 : Sc} {K : ScsT [s0, s1, s2, s3, s4, s5, s6, s7, s8, s9] → Prop} (x0 : s0.T) (x1 : s1.T) (x2 : s2.T) (x3 : s3.T) (x4 : s4.T) (x5 : s5.T) (x6 : s6.T) (x7 : s7.T) (x8 : s8.T) (x9 : s9.T) (h : Sat Γ L w) (hb : Γ b = some (.cells c T z)) (k : K (x0, x1, x2, x3, x4, x5, x6, x7, x8, x9)) (hc : (c.toList.drop o).take 10 = [s0.v x0, s1.v x1, s2.v x2, s3.v x3, s4.v x4, s5.v x5, s6.v x6, s7.v x7, s8.v x8, s9.v x9] := by rfl) : Ld (fun w' => w' = w) (.agg [s0, s1, s2, s3, s4, s5, s6, s7, s8, s9]) ⟨b, o, none⟩ K := ldFA (l := [s0, s1, s2, s3, s4, s5, s6, s7, s8, s9]) (x0, x1, x2, x3, x4, x5, x6, x7, x8, x9) h hb k hc
end

/-! ### what is answered, told one by one -/

theorem ret2 {h1 h2 : Sh} {v : Value} {K : ShsT [h1, h2] → World → Prop} (a : h1.T) (b : h2.T) (k : K (a, b) w) (hv : v = .tuple #[(h1.mk a).v, (h2.mk b).v] := by rfl) : ∃ x, v = (Rs.tup [h1, h2]).v x ∧ K x w := ⟨(a, b), hv, k⟩
theorem ret3 {h1 h2 h3 : Sh} {v : Value} {K : ShsT [h1, h2, h3] → World → Prop} (a : h1.T) (b : h2.T) (c : h3.T) (k : K (a, b, c) w) (hv : v = .tuple #[(h1.mk a).v, (h2.mk b).v, (h3.mk c).v] := by rfl) : ∃ x, v = (Rs.tup [h1, h2, h3]).v x ∧ K x w := ⟨(a, b, c), hv, k⟩

theorem btoSH {L0 : List HP} {s : Sl} {K : ByteArray → Prop} {bs : List UInt8} (h : Bytes Γ s bs) (k : K (str bs)) : BtoS P (Sx Γ L0) s K := by
  refine ⟨_, ?_, k⟩
  rintro w' ⟨Γ', hl, hw⟩
  exact (h.mono hl).toS hw

end Go.Proofs.Ytohoimokfgfceaa.K
