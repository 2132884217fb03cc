/-
  Calls of the tree and of its reference, as the statements make them.
-/
import Derived.Test.YtohoimokfgfceaaTrL
import Derived.Test.YtohoimokfgfceaaEngU
namespace Go.Proofs.Ytohoimokfgfceaa.K
open Go Go.Proofs
variable {Γ Γ' : Mem} {L L' L'' : List HP} {w w' : World} {A B : HP}
set_option maxRecDepth 100000
set_option maxHeartbeats 4000000

theorem fewL_heads {s : Sl} {n : Nat} {l : List Hd} (h : Lst eHead Γ s (fewL n l)) : HeadsS Γ s (fewL n l) := h.heads (fun x hx => by have := fewL_small x hx; omega)

theorem newF_ok {s : Sl} {l : List Hd} {K : (Option Addr × Int) → World → Prop} (h : Sat Γ L w) (hl : Lst eHead Γ s (fewL 20 l))
    (k0 : ((fewL 20 l).length < 1 ∨ 16 < (fewL 20 l).length) → K (none, 1) w) (k : 1 ≤ (fewL 20 l).length → (fewL 20 l).length ≤ 16 → ∀ tb b Γ' w', Γ.le Γ' → TreeAt Γ' tb b → Sat Γ' (TreeP b (fewL 20 l) (((fewL 20 l).length : Int) - 1) :: L) w' → K (some ⟨tb, 0, none⟩, 0) w') :
    CallP Try.prog 32 [.slice s.p s.len s.cap] (.tup [.s .ptr, .s (.int .i64)]) K w := new_ok h (fewL_heads hl) (by have := fewL_len 20 l; omega) k0 k

theorem rnewF_ok {s : Sl} {l : List Hd} {K : (Option Addr × Int) → World → Prop} (h : Sat Γ L w) (hl : Lst eHead Γ s (fewL 20 l))
    (k0 : ((fewL 20 l).length < 1 ∨ 16 < (fewL 20 l).length) → K (none, 1) w) (k : 1 ≤ (fewL 20 l).length → (fewL 20 l).length ≤ 16 → ∀ b w', Sat Γ (RefP b (fewL 20 l) (((fewL 20 l).length : Int) - 1) :: L) w' → K (some ⟨b, 0, none⟩, 0) w') :
    CallP Try.prog 34 [.slice s.p s.len s.cap] (.tup [.s .ptr, .s (.int .i64)]) K w := rnew_ok h (fewL_heads hl) (by have := fewL_len 20 l; omega) k0 k

theorem Least_t_ok {tb b : Nat} {hs : List Hd} {g : Int} {K : (Int × Sl × Bool) → World → Prop} (h : Sat Γ (TreeP b hs g :: L) w) (ht : TreeAt Γ tb b) (h0 : 0 < hs.length) (h16 : hs.length ≤ 16) (hb : (hd hs (best hs)).2 = true)
    (k : ∀ s Γ' w', Γ.le Γ' → Bytes Γ' s (hd hs (best hs)).1 → Sat Γ' (TreeP b hs g :: L) w' → K ((best hs : Int), s, true) w') :
    CallP Try.prog 36 [.pointer (some ⟨tb, 0, none⟩)] (.tup [.s (.int .i64), .s .sl, .s .bool]) K w :=
  Least_ok h ht h0 h16 (fun _ e => by rw [hb] at e; cases e) fun s Γ' w' _ => k s Γ' w'

theorem Least_f_ok {tb b : Nat} {hs : List Hd} {g : Int} {K : (Int × Sl × Bool) → World → Prop} (h : Sat Γ (TreeP b hs g :: L) w) (ht : TreeAt Γ tb b) (h0 : 0 < hs.length) (h16 : hs.length ≤ 16) (hb : (hd hs (best hs)).2 = false)
    (k : ∀ w', Sat Γ (TreeP b hs g :: L) w' → K (0, ⟨none, 0, 0⟩, false) w') :
    CallP Try.prog 36 [.pointer (some ⟨tb, 0, none⟩)] (.tup [.s (.int .i64), .s .sl, .s .bool]) K w :=
  Least_ok h ht h0 h16 (fun w' _ => k w') fun _ _ _ e => by rw [hb] at e; cases e

theorem rLeast_t_ok {b : Nat} {hs : List Hd} {g : Int} {K : (Int × Sl × Bool) → World → Prop} (h : Sat Γ (RefP b hs g :: L) w) (h0 : 0 < hs.length) (hn : hs.length ≤ 1000000) (hb : (hd hs (best hs)).2 = true)
    (k : ∀ s Γ' w', Γ.le Γ' → Bytes Γ' s (hd hs (best hs)).1 → Sat Γ' (RefP b hs g :: L) w' → K ((best hs : Int), s, true) w') :
    CallP Try.prog 37 [.pointer (some ⟨b, 0, none⟩)] (.tup [.s (.int .i64), .s .sl, .s .bool]) K w :=
  rLeast_ok h h0 hn (fun _ e => by rw [hb] at e; cases e) fun s Γ' w' _ => k s Γ' w'

theorem rLeast_f_ok {b : Nat} {hs : List Hd} {g : Int} {K : (Int × Sl × Bool) → World → Prop} (h : Sat Γ (RefP b hs g :: L) w) (h0 : 0 < hs.length) (hn : hs.length ≤ 1000000) (hb : (hd hs (best hs)).2 = false)
    (k : ∀ w', Sat Γ (RefP b hs g :: L) w' → K (0, ⟨none, 0, 0⟩, false) w') :
    CallP Try.prog 37 [.pointer (some ⟨b, 0, none⟩)] (.tup [.s (.int .i64), .s .sl, .s .bool]) K w :=
  rLeast_ok h h0 hn (fun w' _ => k w') fun _ _ _ e => by rw [hb] at e; cases e

theorem Next_t_ok {tb b : Nat} {hs : List Hd} {g : Int} {s : Sl} {x : Hd} {K : Int → World → Prop} (h : Sat Γ (TreeP b hs g :: L) w) (ht : TreeAt Γ tb b) (h0 : 0 < hs.length) (h16 : hs.length ≤ 16) (hg0 : 0 ≤ g) (hg1 : g < 1000000000)
    (hx : Bytes Γ s x.1) (hxl : x.1.length ≤ 70368744177664) (hb : (hd hs (best hs)).2 = true)
    (k : ∀ Γ' w', Γ.le Γ' → Sat Γ' (TreeP b (hs.set (best hs) x) (g + (steps (hs.length + best hs) : Int)) :: L) w' → K 0 w') :
    CallP Try.prog 39 [.pointer (some ⟨tb, 0, none⟩), .agg #[.slice s.p s.len s.cap, .bool x.2]] (.one (.s (.int .i64))) K w :=
  Next_ok h ht h0 h16 hg0 hg1 hx hxl (fun _ e => by rw [hb] at e; cases e) fun Γ' w' _ => k Γ' w'

theorem Next_f_ok {tb b : Nat} {hs : List Hd} {g : Int} {s : Sl} {x : Hd} {K : Int → World → Prop} (h : Sat Γ (TreeP b hs g :: L) w) (ht : TreeAt Γ tb b) (h0 : 0 < hs.length) (h16 : hs.length ≤ 16) (hg0 : 0 ≤ g) (hg1 : g < 1000000000)
    (hx : Bytes Γ s x.1) (hxl : x.1.length ≤ 70368744177664) (hb : (hd hs (best hs)).2 = false)
    (k : ∀ w', Sat Γ (TreeP b hs g :: L) w' → K 2 w') :
    CallP Try.prog 39 [.pointer (some ⟨tb, 0, none⟩), .agg #[.slice s.p s.len s.cap, .bool x.2]] (.one (.s (.int .i64))) K w :=
  Next_ok h ht h0 h16 hg0 hg1 hx hxl (fun w' _ => k w') fun _ _ e => by rw [hb] at e; cases e

theorem rNext_t_ok {b : Nat} {hs : List Hd} {g : Int} {s : Sl} {x : Hd} {K : Int → World → Prop} (h : Sat Γ (RefP b hs g :: L) w) (h0 : 0 < hs.length) (h16 : hs.length ≤ 16) (hg0 : 0 ≤ g) (hg1 : g < 1000000000)
    (hx : Bytes Γ s x.1) (hxl : x.1.length ≤ 70368744177664) (hb : (hd hs (best hs)).2 = true)
    (k : ∀ w', Sat Γ (RefP b (hs.set (best hs) x) (g + (steps (hs.length + best hs) : Int)) :: L) w' → K 0 w') :
    CallP Try.prog 40 [.pointer (some ⟨b, 0, none⟩), .agg #[.slice s.p s.len s.cap, .bool x.2]] (.one (.s (.int .i64))) K w :=
  rNext_ok h h0 h16 hg0 hg1 hx hxl (fun _ e => by rw [hb] at e; cases e) fun w' _ => k w'

theorem rNext_f_ok {b : Nat} {hs : List Hd} {g : Int} {s : Sl} {x : Hd} {K : Int → World → Prop} (h : Sat Γ (RefP b hs g :: L) w) (h0 : 0 < hs.length) (h16 : hs.length ≤ 16) (hg0 : 0 ≤ g) (hg1 : g < 1000000000)
    (hx : Bytes Γ s x.1) (hxl : x.1.length ≤ 70368744177664) (hb : (hd hs (best hs)).2 = false)
    (k : ∀ w', Sat Γ (RefP b hs g :: L) w' → K 2 w') :
    CallP Try.prog 40 [.pointer (some ⟨b, 0, none⟩), .agg #[.slice s.p s.len s.cap, .bool x.2]] (.one (.s (.int .i64))) K w :=
  rNext_ok h h0 h16 hg0 hg1 hx hxl (fun w' _ => k w') fun _ e => by rw [hb] at e; cases e

/-- what a reference counted -/
theorem refCount_ld {b : Nat} {hs : List Hd} {g : Int} {Kp : Int → Prop} (h : Sat Γ L w) (pk : Pick (RefP b hs g) L L') (k : Kp g) : Ld (fun w' => w' = w) (.s (.int .i64)) (⟨b, 1, none⟩ : Addr) Kp := by
  obtain ⟨l, rs, h1, h2, h3⟩ := (h.pick pk).refP
  exact ld g h3 (by repeat (first | with_reducible exact Pick.here | apply Pick.there)) k

theorem refCountH_ld {L0 : List HP} {b : Nat} {hs : List Hd} {g : Int} {Kp : Int → Prop} (pk : Pick (RefP b hs g) L0 L') (k : Kp g) : Ld (Sx Γ L0) (.s (.int .i64)) (⟨b, 1, none⟩ : Addr) Kp := by
  refine ⟨g, ?_, k⟩
  rintro w' ⟨Γ', _, h⟩
  obtain ⟨l, rs, h1, h2, h3⟩ := (h.pick pk).refP
  exact rd_of h3.heap (s := .s (.int .i64)) (x := g) (o := 1) rfl

end Go.Proofs.Ytohoimokfgfceaa.K
