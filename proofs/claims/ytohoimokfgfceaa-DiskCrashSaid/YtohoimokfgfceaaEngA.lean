/-
  A plain meaning of the model's code, over frames of typed parts: definitions alone.
-/
import Derived.Calls
import Derived.Orders
import Derived.OrdersHeld
import Derived.StillTail
import Derived.Laws.Sem
import Derived.KernelRfl
import Derived.RangeFuncRecord
import Derived.TacticsIn
import Derived.OrdersIn
namespace Go.Proofs.Ytohoimokfgfceaa.K
open Go

/-- a slice -/
structure Sl where
  p : Option Addr
  len : Nat
  cap : Nat

/-- kinds of one cell -/
inductive Sc where
  | bool | int (k : IntKind) | str | ptr | sl | mp | val

@[reducible] def Sc.T : Sc → Type
  | .bool => Bool | .int _ => Int | .str => ByteArray | .ptr => Option Addr | .sl => Sl | .mp => Option Nat | .val => Value

def Sc.v : (s : Sc) → s.T → Value
  | .bool, b => .bool b | .int k, n => .int k n | .str, s => .string s | .ptr, p => .pointer p
  | .sl, s => .slice s.p s.len s.cap | .mp, r => .map r | .val, v => v

@[reducible] def ScsT : List Sc → Type
  | [] => Unit
  | [s] => s.T
  | s :: t :: r => s.T × ScsT (t :: r)

def ScsV : (l : List Sc) → ScsT l → List Value
  | [], _ => []
  | [s], x => [s.v x]
  | s :: t :: r, x => s.v x.1 :: ScsV (t :: r) x.2

/-- a value of one cell, as far as it is known -/
inductive S1 where
  | undef | lit (b : Bool) | bool (b : Bool) | int (k : IntKind) (n : Int) | str (s : ByteArray) | ptr (p : Option Addr) | addr (a : Addr)
  | sl (s : Sl) | mp (r : Option Nat) | val (v : Value) | fn (f : Fn) (first cap : List Value)

def S1.v : S1 → Value
  | .undef => Go.undef | .lit b => .bool b | .bool b => .bool b | .int k n => .int k n | .str s => .string s | .ptr p => .pointer p | .addr a => .pointer (some a)
  | .sl s => .slice s.p s.len s.cap | .mp r => .map r | .val v => v | .fn f a c => .func f a.toArray c.toArray

def Sc.mk : (s : Sc) → s.T → S1
  | .bool, b => .bool b | .int k, n => .int k n | .str, s => .str s | .ptr, p => .ptr p | .sl, s => .sl s | .mp, r => .mp r | .val, v => .val v

def ScsMk : (l : List Sc) → ScsT l → List S1
  | [], _ => []
  | [s], x => [s.mk x]
  | s :: t :: r, x => s.mk x.1 :: ScsMk (t :: r) x.2

/-- one cell, or the cells of a struct -/
inductive Sh where
  | s (x : Sc) | agg (l : List Sc)

@[reducible] def Sh.T : Sh → Type
  | .s x => x.T
  | .agg l => ScsT l

inductive S2 where
  | s (x : S1) | agg (l : List S1)

def Sh.mk : (h : Sh) → h.T → S2
  | .s x, a => .s (x.mk a)
  | .agg l, a => .agg (ScsMk l a)

def S2.v : S2 → Value
  | .s x => x.v
  | .agg l => .agg (l.map S1.v).toArray

@[reducible] def ShsT : List Sh → Type
  | [] => Unit
  | [s] => s.T
  | s :: t :: r => s.T × ShsT (t :: r)

def ShsMk : (l : List Sh) → ShsT l → List S2
  | [], _ => []
  | [s], x => [s.mk x]
  | s :: t :: r, x => s.mk x.1 :: ShsMk (t :: r) x.2

/-- what a call answers: one value, or a tuple -/
inductive Rs where
  | one (h : Sh) | tup (l : List Sh)

@[reducible] def Rs.T : Rs → Type
  | .one h => h.T
  | .tup l => ShsT l

inductive SV where
  | s (x : S1) | agg (l : List S1) | tup (l : List S2)

def S2.sv : S2 → SV
  | .s x => .s x
  | .agg l => .agg l

def SV.v : SV → Value
  | .s x => x.v
  | .agg l => .agg (l.map S1.v).toArray
  | .tup l => .tuple (l.map S2.v).toArray

def Rs.mk : (r : Rs) → r.T → SV
  | .one h, x => (h.mk x).sv
  | .tup l, x => .tup (ShsMk l x)

def Rs.v (r : Rs) (x : r.T) : Value := (r.mk x).v

/-- a frame: what is known of slots, the latest first -/
abbrev Fr := List (Nat × Option SV)

def Fr.get (fr : Fr) (i : Nat) : Option SV := match fr with
  | [] => none
  | (j, v) :: t => match Nat.beq i j with
    | true => v
    | false => Fr.get t i

def Fr.set (fr : Fr) (i : Nat) (v : Option SV) : Fr := (i, v) :: fr

def Fr.put (fr : Fr) (d : Option Tmp) (v : SV) : Fr := match d with
  | none => fr
  | some d => (d, some v) :: fr

/-- of each slot that is known the frame's value is the model's -/
def Agrees (fr : Fr) (a : Array Value) : Prop := ∀ i sv, fr.get i = some sv → a[i]? = some sv.v

/-! ### What code may ask -/

/-- a value is of this kind -/
structure Cast (s : Sc) (v : Value) (K : s.T → Prop) : Prop where
  out : ∃ x, v = s.v x ∧ K x


/-- a number that is reckoned -/
structure Ari (n : Int) (K : Int → Prop) : Prop where
  out : K n

/-- a condition, and what follows -/
structure Req (p : Prop) (K : Prop) : Prop where
  cond : p
  next : K

/-- a way for each answer -/
structure Br (b : Bool) (X Y : Prop) : Prop where
  yes : b = true → X
  no : b = false → Y

/-- a pointer that is not nil -/
structure NN (p : Option Addr) (K : Addr → Prop) : Prop where
  out : ∃ a, p = some a ∧ K a

/-- a function value, or nil -/
structure NoF (v : Value) (K : Bool → Prop) : Prop where
  out : (v = .nilFunc ∧ K true) ∨ (∃ f a c, v = .func f a c ∧ K false)

/-- the fence that lets all in; in a round, or not -/
def wideAt (r : Option Nat) : Fence := { Fence.wide with round := r }

def rd1 (w : World) (a : Addr) (v : Value) : Prop := w.cell? a = some v

def rdN (w : World) (a : Addr) (vs : List Value) : Prop := ∀ i v, vs[i]? = some v → w.cell? (a.add i) = some v

def rdSh (w : World) (a : Addr) : (h : Sh) → h.T → Prop
  | .s x, y => w.cell? a = some (x.v y)
  | .agg l, y => rdN w a (ScsV l y)

/-- what stands in memory, in all worlds that are asked -/
structure Ld (S : World → Prop) (h : Sh) (a : Addr) (K : h.T → Prop) : Prop where
  out : ∃ x, (∀ w, S w → rdSh w a h x) ∧ K x

/-- bytes as a string -/
structure BtoS (P : Program) (S : World → Prop) (s : Sl) (K : ByteArray → Prop) : Prop where
  out : ∃ x, (∀ w, S w → (Conv.bytesToString (.slice s.p s.len s.cap)).run P w = .ok (.string x) w) ∧ K x

/-- how many entries a map has -/
structure LenM (S : World → Prop) (r : Option Nat) (K : Nat → Prop) : Prop where
  out : ∃ n, (∀ w, S w → match r with | none => n = 0 | some m => ∃ es c, w.heap[m]? = some (.map es c) ∧ es.size = n) ∧ K n

/-- an operation that reads alone -/
structure Soft (P : Program) (S : World → Prop) (s : Sem Value) (r : Rs) (K : r.T → Prop) : Prop where
  out : ∃ x, (∀ w, S w → s.run P w = .ok (r.v x) w) ∧ K x

/-- any other operation -/
structure Prim (P : Program) (s : Sem Value) (r : Rs) (K : r.T → World → Prop) (w : World) : Prop where
  out : ∃ x w', s.run P w = .ok (r.v x) w' ∧ K x w'

/-- an operation that answers a row of values -/
structure PrimN (P : Program) (s : Sem Value) (K : List Value → World → Prop) (w : World) : Prop where
  out : ∃ l w', s.run P w = .ok (.tuple l.toArray) w' ∧ K l w'

/-- any other operation that answers nothing -/
structure PrimU (P : Program) (s : Sem Unit) (K : World → Prop) (w : World) : Prop where
  out : ∃ w', s.run P w = .ok () w' ∧ K w'

structure St (a : Addr) (v : Value) (K : World → Prop) (w : World) : Prop where
  out : v.oneCell' = true ∧ (∃ o, w.cell? a = some o) ∧ w.frozen? a = false ∧ K (w.setCell a v)

/-- several cells, one behind the other -/
def stN (w : World) (a : Addr) : Nat → List Value → World
  | _, [] => w
  | i, v :: r => stN (w.setCell (a.add i) v) a (i + 1) r

structure StN (a : Addr) (vs : List Value) (K : World → Prop) (w : World) : Prop where
  out : (∀ v ∈ vs, v.oneCell' = true) ∧ (∀ i, i < vs.length → (∃ o, w.cell? (a.add i) = some o) ∧ w.frozen? (a.add i) = false) ∧ K (stN w a 0 vs)

structure New (o : Obj) (K : Nat → World → Prop) (w : World) : Prop where
  out : K w.heap.size { w with heap := w.heap.push o }

structure CallP (P : Program) (f : FuncId) (args : List Value) (r : Rs) (K : r.T → World → Prop) (w : World) : Prop where
  out : Calls P f args.toArray w fun e w' => ∃ x, e = .returned (r.v x) ∧ K x w'

def hasBody (P : Program) (f : FuncId) : Bool := match P.funcs[f]? with
  | some fn => fn.body.isSome
  | none => false

/-- a function -/
def IsF (v : Value) : Prop := (∃ f x c, v = .func (.func f) x c) ∨ ∃ l, v = .func (.yield l) #[] #[]

/-- a call of a function value: a function's, or of what a loop over a function hands out -/
structure CallV (P : Program) (v : Value) (args : List Value) (r : Rs) (K : r.T → World → Prop) (w : World) : Prop where
  out : (∃ f first cap, v = .func (.func f) (List.toArray first) (List.toArray cap) ∧ hasBody P f = true ∧ CallP P f (first ++ args ++ cap) r K w) ∨
    ∃ l fn tmps assign body, v = .func (.yield l) #[] #[] ∧ (Instr.yield l args.toArray).run P w = .ok (.round l fn tmps assign body) w ∧
      RoundIn Fence.wide 0 P l fn tmps assign body w fun e w' => ∃ x, e = .returned (r.v x) ∧ K x w'

/-- where it goes on behind a piece of code -/
inductive Way where
  | on | ret | exit (i : Nat)
  deriving DecidableEq

/-- how a loop over a function stands -/
inductive LS where
  | ready | busy | ret | exit (i : Nat) | out (y : Way)

def Way.ls (y : Way) : LS := match y with | .on => .ready | .ret => .ret | .exit i => .exit i
def Way.b (y : Way) : Bool := match y with | .on => true | _ => false

/-- the world in which a loop over a function begins: a block for what is deferred, and the loop's -/
def World.loop (w : World) (o : Obj) : World := { w with heap := (w.heap.push (.deferred (some []))).push o }

/-- a loop over a function: 'R': one round; 'next': what is behind it -/
structure RangeF (P : Program) (v : Value) (R : Nat → (LS → Obj) → List SV → (Way → World → Prop) → World → Prop) (next : Nat → Way → World → Prop) (w : World) : Prop where
  out : ∃ f first cap, v = .func (.func f) (List.toArray first) (List.toArray cap) ∧ hasBody P f = true ∧ ∀ (lo : LS → Obj) (y : Value), IsF y →
    (∀ (svs : List SV) (K : Bool → World → Prop) (w' : World), w'.heap[w.heap.size + 1]? = some (lo .ready) →
      R (w.heap.size + 1) lo svs (fun wy w'' => w''.heap[w.heap.size + 1]? = some (lo .busy) ∧ K wy.b (w''.putObj (w.heap.size + 1) (lo wy.ls))) w' → CallV P y (svs.map SV.v) (.one (.s .bool)) K w') →
    CallP P f (first ++ [y] ++ cap) (.tup []) (fun _ w2 => ∃ wy : Way, w2.heap[w.heap.size + 1]? = some (lo wy.ls) ∧ next w.heap.size wy (w2.putObj (w.heap.size + 1) (lo (.out wy)))) (World.loop w (lo .ready))

structure Dr (K : World → Prop) (w : World) : Prop where
  out : K { w with drawn := w.drawn + 1 }

structure Join (σ : Type) (F : (σ → World → Prop) → Prop) (G : σ → World → Prop) : Prop where
  out : ∃ J : σ → World → Prop, F J ∧ ∀ s w, J s w → G s w

structure Loop (σ : Type) (F : (σ → World → Prop) → σ → World → Prop) (s : σ) (w : World) : Prop where
  out : ∃ I : σ → World → Nat → Prop, (∃ n, I s w n) ∧ ∀ s w n, I s w n → F (fun s' w' => ∃ m, m < n ∧ I s' w' m) s w

structure Held (F : (World → Prop) → Prop) : Prop where
  out : ∃ S, F S

end Go.Proofs.Ytohoimokfgfceaa.K
