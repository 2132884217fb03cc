/-
  A plain meaning of the model's code, over frames of typed parts: definitions alone.
-/
import Derived.Calls
import Derived.Orders
import Derived.OrdersHeld
import Derived.StillTail
import Derived.Laws.Sem
import Derived.KernelRfl
import Derived.RangeFuncRecord
import Derived.TacticsIn
import Derived.OrdersIn
import Derived.Laws.Small
import Derived.Laws.Slices
import Derived.Laws.Pointers
import Derived.Laws.Cover3
import Derived.Laws.Strings
import Derived.Laws.Build
import Derived.WalkSpells
namespace Go.Proofs.Ytocmjngleknlbaa.K
open Go

/-- a slice -/
structure Sl where
  p : Option Addr
  len : Nat
  cap : Nat

/-- kinds of one cell -/
inductive Sc where
  | bool | int (k : IntKind) | str | ptr | sl | mp | val

@[reducible] def Sc.T : Sc → Type
  | .bool => Bool | .int _ => Int | .str => ByteArray | .ptr => Option Addr | .sl => Sl | .mp => Option Nat | .val => Value

def Sc.v : (s : Sc) → s.T → Value
  | .bool, b => .bool b | .int k, n => .int k n | .str, s => .string s | .ptr, p => .pointer p
  | .sl, s => .slice s.p s.len s.cap | .mp, r => .map r | .val, v => v

@[reducible] def ScsT : List Sc → Type
  | [] => Unit
  | [s] => s.T
  | s :: t :: r => s.T × ScsT (t :: r)

def ScsV : (l : List Sc) → ScsT l → List Value
  | [], _ => []
  | [s], x => [s.v x]
  | s :: t :: r, x => s.v x.1 :: ScsV (t :: r) x.2

/-- a value of one cell, as far as it is known -/
inductive S1 where
  | undef | lit (b : Bool) | bool (b : Bool) | int (k : IntKind) (n : Int) | str (s : ByteArray) | ptr (p : Option Addr) | addr (a : Addr)
  | sl (s : Sl) | mp (r : Option Nat) | val (v : Value) | fn (f : Fn) (first cap : List Value)

def S1.v : S1 → Value
  | .undef => Go.undef | .lit b => .bool b | .bool b => .bool b | .int k n => .int k n | .str s => .string s | .ptr p => .pointer p | .addr a => .pointer (some a)
  | .sl s => .slice s.p s.len s.cap | .mp r => .map r | .val v => v | .fn f a c => .func f a.toArray c.toArray

def Sc.mk : (s : Sc) → s.T → S1
  | .bool, b => .bool b | .int k, n => .int k n | .str, s => .str s | .ptr, p => .ptr p | .sl, s => .sl s | .mp, r => .mp r | .val, v => .val v

def ScsMk : (l : List Sc) → ScsT l → List S1
  | [], _ => []
  | [s], x => [s.mk x]
  | s :: t :: r, x => s.mk x.1 :: ScsMk (t :: r) x.2

/-- one cell, or the cells of a struct -/
inductive Sh where
  | s (x : Sc) | agg (l : List Sc)

@[reducible] def Sh.T : Sh → Type
  | .s x => x.T
  | .agg l => ScsT l

inductive S2 where
  | s (x : S1) | agg (l : List S1)

def Sh.mk : (h : Sh) → h.T → S2
  | .s x, a => .s (x.mk a)
  | .agg l, a => .agg (ScsMk l a)

def S2.v : S2 → Value
  | .s x => x.v
  | .agg l => .agg (l.map S1.v).toArray

@[reducible] def ShsT : List Sh → Type
  | [] => Unit
  | [s] => s.T
  | s :: t :: r => s.T × ShsT (t :: r)

def ShsMk : (l : List Sh) → ShsT l → List S2
  | [], _ => []
  | [s], x => [s.mk x]
  | s :: t :: r, x => s.mk x.1 :: ShsMk (t :: r) x.2

/-- what a call answers: one value, or a tuple -/
inductive Rs where
  | one (h : Sh) | tup (l : List Sh)

@[reducible] def Rs.T : Rs → Type
  | .one h => h.T
  | .tup l => ShsT l

inductive SV where
  | s (x : S1) | agg (l : List S1) | tup (l : List S2)

def S2.sv : S2 → SV
  | .s x => .s x
  | .agg l => .agg l

def SV.v : SV → Value
  | .s x => x.v
  | .agg l => .agg (l.map S1.v).toArray
  | .tup l => .tuple (l.map S2.v).toArray

def Rs.mk : (r : Rs) → r.T → SV
  | .one h, x => (h.mk x).sv
  | .tup l, x => .tup (ShsMk l x)

def Rs.v (r : Rs) (x : r.T) : Value := (r.mk x).v

/-- a frame: what is known of slots, the latest first -/
abbrev Fr := List (Nat × Option SV)

def Fr.get (fr : Fr) (i : Nat) : Option SV := match fr with
  | [] => none
  | (j, v) :: t => match Nat.beq i j with
    | true => v
    | false => Fr.get t i

def Fr.set (fr : Fr) (i : Nat) (v : Option SV) : Fr := (i, v) :: fr

def Fr.put (fr : Fr) (d : Option Tmp) (v : SV) : Fr := match d with
  | none => fr
  | some d => (d, some v) :: fr

/-- of each slot that is known the frame's value is the model's -/
def Agrees (fr : Fr) (a : Array Value) : Prop := ∀ i sv, fr.get i = some sv → a[i]? = some sv.v

/-! ### What code may ask -/

/-- a value is of this kind -/
structure Cast (s : Sc) (v : Value) (K : s.T → Prop) : Prop where
  out : ∃ x, v = s.v x ∧ K x


/-- a number that is reckoned -/
structure Ari (n : Int) (K : Int → Prop) : Prop where
  out : K n

/-- a condition, and what follows -/
structure Req (p : Prop) (K : Prop) : Prop where
  cond : p
  next : K

/-- what is held from here on tells what was held -/
structure Strong (p : Prop) (K : Prop) : Prop where
  le : p
  next : K

/-- a way for each answer -/
structure Br (b : Bool) (X Y : Prop) : Prop where
  yes : b = true → X
  no : b = false → Y

/-- a pointer that is not nil -/
structure NN (p : Option Addr) (K : Addr → Prop) : Prop where
  out : ∃ a, p = some a ∧ K a

/-- a function value, or nil -/
structure NoF (v : Value) (K : Bool → Prop) : Prop where
  out : (v = .nilFunc ∧ K true) ∨ (∃ f a c, v = .func f a c ∧ K false)

/-- the fence that lets all in; in a round, or not -/
def wideAt (r : Option Nat) : Fence := { Fence.wide with round := r }

def rd1 (w : World) (a : Addr) (v : Value) : Prop := w.cell? a = some v

def rdN (w : World) (a : Addr) (vs : List Value) : Prop := ∀ i v, vs[i]? = some v → w.cell? (a.add i) = some v

def rdSh (w : World) (a : Addr) : (h : Sh) → h.T → Prop
  | .s x, y => w.cell? a = some (x.v y)
  | .agg l, y => rdN w a (ScsV l y)

/-- what stands in memory, in all worlds that are asked -/
structure Ld (S : World → Prop) (h : Sh) (a : Addr) (K : h.T → Prop) : Prop where
  out : ∃ x, (∀ w, S w → rdSh w a h x) ∧ K x

/-- bytes as a string -/
structure BtoS (P : Program) (S : World → Prop) (s : Sl) (K : ByteArray → Prop) : Prop where
  out : ∃ x, (∀ w, S w → (Conv.bytesToString (.slice s.p s.len s.cap)).run P w = .ok (.string x) w) ∧ K x

/-- how many entries a map has -/
structure LenM (S : World → Prop) (r : Option Nat) (K : Nat → Prop) : Prop where
  out : ∃ n, (∀ w, S w → match r with | none => n = 0 | some m => ∃ es c, w.heap[m]? = some (.map es c) ∧ es.size = n) ∧ K n

/-- an operation that reads alone -/
structure Soft (P : Program) (S : World → Prop) (s : Sem Value) (r : Rs) (K : r.T → Prop) : Prop where
  out : ∃ x, (∀ w, S w → s.run P w = .ok (r.v x) w) ∧ K x

/-- any other operation -/
structure Prim (P : Program) (s : Sem Value) (r : Rs) (K : r.T → World → Prop) (w : World) : Prop where
  out : ∃ x w', s.run P w = .ok (r.v x) w' ∧ K x w'

/-- an operation that answers a row of values -/
structure PrimN (P : Program) (s : Sem Value) (K : List Value → World → Prop) (w : World) : Prop where
  out : ∃ l w', s.run P w = .ok (.tuple l.toArray) w' ∧ K l w'

/-- any other operation that answers nothing -/
structure PrimU (P : Program) (s : Sem Unit) (K : World → Prop) (w : World) : Prop where
  out : ∃ w', s.run P w = .ok () w' ∧ K w'

structure St (a : Addr) (v : Value) (K : World → Prop) (w : World) : Prop where
  out : v.oneCell' = true ∧ (∃ o, w.cell? a = some o) ∧ w.frozen? a = false ∧ K (w.setCell a v)

/-- several cells, one behind the other -/
def stN (w : World) (a : Addr) : Nat → List Value → World
  | _, [] => w
  | i, v :: r => stN (w.setCell (a.add i) v) a (i + 1) r

structure StN (a : Addr) (vs : List Value) (K : World → Prop) (w : World) : Prop where
  out : (∀ v ∈ vs, v.oneCell' = true) ∧ (∀ i, i < vs.length → (∃ o, w.cell? (a.add i) = some o) ∧ w.frozen? (a.add i) = false) ∧ K (stN w a 0 vs)

structure New (o : Obj) (K : Nat → World → Prop) (w : World) : Prop where
  out : K w.heap.size { w with heap := w.heap.push o }

structure CallP (P : Program) (f : FuncId) (args : List Value) (r : Rs) (K : r.T → World → Prop) (w : World) : Prop where
  out : Calls P f args.toArray w fun e w' => ∃ x, e = .returned (r.v x) ∧ K x w'

def hasBody (P : Program) (f : FuncId) : Bool := match P.funcs[f]? with
  | some fn => fn.body.isSome
  | none => false

/-- a function -/
def IsF (v : Value) : Prop := (∃ f x c, v = .func (.func f) x c) ∨ ∃ l, v = .func (.yield l) #[] #[]

/-- a call of a function value: a function's, or of what a loop over a function hands out -/
structure CallV (P : Program) (v : Value) (args : List Value) (r : Rs) (K : r.T → World → Prop) (w : World) : Prop where
  out : (∃ f first cap, v = .func (.func f) (List.toArray first) (List.toArray cap) ∧ hasBody P f = true ∧ CallP P f (first ++ args ++ cap) r K w) ∨
    ∃ l fn tmps assign body, v = .func (.yield l) #[] #[] ∧ (Instr.yield l args.toArray).run P w = .ok (.round l fn tmps assign body) w ∧
      RoundIn Fence.wide 0 P l fn tmps assign body w fun e w' => ∃ x, e = .returned (r.v x) ∧ K x w'

/-- where it goes on behind a piece of code -/
inductive Way where
  | on | ret | exit (i : Nat)
  deriving DecidableEq

/-- how a loop over a function stands -/
inductive LS where
  | ready | busy | ret | exit (i : Nat) | out (y : Way)

def Way.ls (y : Way) : LS := match y with | .on => .ready | .ret => .ret | .exit i => .exit i
def Way.b (y : Way) : Bool := match y with | .on => true | _ => false

/-- the world in which a loop over a function begins: a block for what is deferred, and the loop's -/
def World.loop (w : World) (o : Obj) : World := { w with heap := (w.heap.push (.deferred (some []))).push o }

/-- a loop over a function: 'R': one round; 'next': what is behind it -/
structure RangeF (P : Program) (v : Value) (R : Nat → (LS → Obj) → List SV → (Way → World → Prop) → World → Prop) (next : Nat → Way → World → Prop) (w : World) : Prop where
  out : ∃ f first cap, v = .func (.func f) (List.toArray first) (List.toArray cap) ∧ hasBody P f = true ∧ ∀ (lo : LS → Obj) (y : Value), IsF y →
    (∀ (svs : List SV) (K : Bool → World → Prop) (w' : World), w'.heap[w.heap.size + 1]? = some (lo .ready) →
      R (w.heap.size + 1) lo svs (fun wy w'' => w''.heap[w.heap.size + 1]? = some (lo .busy) ∧ K wy.b (w''.putObj (w.heap.size + 1) (lo wy.ls))) w' → CallV P y (svs.map SV.v) (.one (.s .bool)) K w') →
    CallP P f (first ++ [y] ++ cap) (.tup []) (fun _ w2 => ∃ wy : Way, w2.heap[w.heap.size + 1]? = some (lo wy.ls) ∧ next w.heap.size wy (w2.putObj (w.heap.size + 1) (lo (.out wy)))) (World.loop w (lo .ready))

structure Dr (K : World → Prop) (w : World) : Prop where
  out : K { w with drawn := w.drawn + 1 }

structure Join (σ : Type) (F : (σ → World → Prop) → Prop) (G : σ → World → Prop) : Prop where
  out : ∃ J : σ → World → Prop, F J ∧ ∀ s w, J s w → G s w

structure Loop (σ : Type) (F : (σ → World → Prop) → σ → World → Prop) (s : σ) (w : World) : Prop where
  out : ∃ I : σ → World → Nat → Prop, (∃ n, I s w n) ∧ ∀ s w n, I s w n → F (fun s' w' => ∃ m, m < n ∧ I s' w' m) s w

/-- one order, and another -/
structure Both (X Y : Prop) : Prop where
  fst : X
  snd : Y

structure Held (F : (World → Prop) → Prop) : Prop where
  out : ∃ S, F S

end Go.Proofs.Ytocmjngleknlbaa.K

/-
  A plain meaning of the model's code, over frames of typed parts: operations, regions, code.
-/
namespace Go.Proofs.Ytocmjngleknlbaa.K
open Go

/-- nothing is known of it -/
inductive Bad : Nat → Prop

def shF (P : Program) : Nat → TypeId → Option (List Sc)
  | 0, _ => none
  | n + 1, t => match P.underlying t with
    | some .bool => some [.bool]
    | some (.int k) => some [.int k]
    | some .string => some [.str]
    | some (.pointer _) => some [.ptr]
    | some (.slice _) => some [.sl]
    | some (.map _ _) => some [.mp]
    | some (.func _ _ _) => some [.val]
    | some (.interface _) => some [.val]
    | some (.struct fs) => fs.toList.foldr (fun f acc => match shF P n f.type, acc with | some a, some b => some (a ++ b) | _, _ => none) (some [])
    | some (.array k e) => match shF P n e with | some a => some ((List.replicate k a).flatten) | none => none
    | _ => none

def isAggB (P : Program) (t : TypeId) : Bool := match P.underlying t with
  | some (.struct _) => true
  | some (.array _ _) => true
  | _ => false

def shOf (P : Program) (t : TypeId) : Option Sh :=
  if isAggB P t then (match shF P 20 t with | some l => some (.agg l) | none => none)
  else match shF P 20 t with
    | some [x] => some (.s x)
    | _ => none

def shsOf (P : Program) : List TypeId → Option (List Sh)
  | [] => some []
  | t :: r => match shOf P t, shsOf P r with
    | some a, some b => some (a :: b)
    | _, _ => none

def rsOf (P : Program) (t : TypeId) : Option Rs := match P.underlying t with
  | some (.tuple ts) => (match shsOf P ts.toList with | some l => some (.tup l) | none => none)
  | _ => match shOf P t with | some h => some (.one h) | none => none

def szOf (P : Program) (t : TypeId) : Option Nat := match P.info? t with | some i => some i.size | none => none

def okSz : Sh → Option Nat → Bool
  | .s _, _ => true
  | .agg l, some n => n == l.length
  | .agg _, none => false

def ofV1 : Value → Option S1
  | .bool b => some (.lit b)
  | .int k n => some (.int k n)
  | .string s => some (.str s)
  | .pointer none => some (.ptr none)
  | .pointer (some a) => some (.addr a)
  | .slice p l c => some (.sl ⟨p, l, c⟩)
  | .map r => some (.mp r)
  | .func f a c => some (.fn f a.toList c.toList)
  | .nilFunc => some (.val .nilFunc)
  | .nilIface => some (.val .nilIface)
  | _ => none

def ofVs : List Value → Option (List S1)
  | [] => some []
  | v :: r => match ofV1 v, ofVs r with
    | some a, some b => some (a :: b)
    | _, _ => none

def ofV : Value → Option SV
  | .agg cs => match ofVs cs.toList with | some l => some (.agg l) | none => none
  | v => match ofV1 v with | some x => some (.s x) | none => none

def ev (fr : Fr) : Operand → Option SV
  | .tmp t => fr.get t
  | .const v => ofV v
  | .global g => some (.s (.addr ⟨g, 0, none⟩))
  | .func f => some (.s (.fn (.func f) [] []))

def evs (fr : Fr) : List Operand → Option (List SV)
  | [] => some []
  | x :: r => match ev fr x, evs fr r with
    | some a, some b => some (a :: b)
    | _, _ => none

def SV.cells : SV → Option (List S1)
  | .s x => match x with | .undef => none | x => some [x]
  | .agg l => some l
  | .tup _ => none

/-- a truth of two integers, told as Go's -/
def cmpI (op : BinOp) (x y : Int) : Option Bool := match op with
  | .eql => some (x == y)
  | .neq => some (x != y)
  | .lss => some (decide (x < y))
  | .leq => some (decide (x ≤ y))
  | .gtr => some (decide (x > y))
  | .geq => some (decide (x ≥ y))
  | _ => none

def bitI (op : BinOp) (k : IntKind) (x y : Int) : Option Int := match op with
  | .and => some (k.wrap ((BitVec.ofInt k.bits x &&& BitVec.ofInt k.bits y).toNat : Nat))
  | .or => some (k.wrap ((BitVec.ofInt k.bits x ||| BitVec.ofInt k.bits y).toNat : Nat))
  | .xor => some (k.wrap ((BitVec.ofInt k.bits x ^^^ BitVec.ofInt k.bits y).toNat : Nat))
  | .andNot => some (k.wrap ((BitVec.ofInt k.bits x &&& ~~~(BitVec.ofInt k.bits y)).toNat : Nat))
  | _ => none

def cmpS (op : BinOp) (x y : ByteArray) : Option Bool := match op with
  | .eql => some (x.toList == y.toList)
  | .neq => some (!(x.toList == y.toList))
  | .lss => some (Op.bytesLess x.toList y.toList)
  | .leq => some (Op.bytesLess x.toList y.toList || x.toList == y.toList)
  | .gtr => some (!(Op.bytesLess x.toList y.toList || x.toList == y.toList))
  | .geq => some (!(Op.bytesLess x.toList y.toList))
  | _ => none

/-- of eql and neq the one that is meant -/
def eqB (op : BinOp) (b : Bool) : Option Bool := match op with
  | .eql => some b
  | .neq => some (!b)
  | _ => none

def kB (K : SV → Prop) : Option Bool → Prop
  | some b => K (.s (.bool b))
  | none => (Bad 1)

def bOp (P : Program) (op : BinOp) (T : TypeId) (x y : S1) (K : SV → Prop) : Prop :=
  match x, y with
  | .int k a, .int k' b =>
    match op with
    | .shl => Req (0 ≤ b) (Ari (k.wrap (a * 2 ^ (min b.toNat k.bits))) fun n => K (.s (.int k n)))
    | .shr => Req (0 ≤ b) (Ari (a.fdiv (2 ^ (min b.toNat k.bits))) fun n => K (.s (.int k n)))
    | .add => if k = k' then Ari (k.wrap (a + b)) fun n => K (.s (.int k n)) else (Bad 2)
    | .sub => if k = k' then Ari (k.wrap (a - b)) fun n => K (.s (.int k n)) else (Bad 3)
    | .mul => if k = k' then Ari (k.wrap (a * b)) fun n => K (.s (.int k n)) else (Bad 4)
    | .quo => if k = k' then Req (b ≠ 0) (Ari (k.wrap (a.tdiv b)) fun n => K (.s (.int k n))) else (Bad 5)
    | .rem => if k = k' then Req (b ≠ 0) (Ari (a.tmod b) fun n => K (.s (.int k n))) else (Bad 6)
    | .and => if k = k' then (match bitI .and k a b with | some n => Ari n fun n => K (.s (.int k n)) | none => (Bad 7)) else (Bad 8)
    | .or => if k = k' then (match bitI .or k a b with | some n => Ari n fun n => K (.s (.int k n)) | none => (Bad 9)) else (Bad 10)
    | .xor => if k = k' then (match bitI .xor k a b with | some n => Ari n fun n => K (.s (.int k n)) | none => (Bad 11)) else (Bad 12)
    | .andNot => if k = k' then (match bitI .andNot k a b with | some n => Ari n fun n => K (.s (.int k n)) | none => (Bad 13)) else (Bad 14)
    | op => if k = k' then kB K (cmpI op a b) else (Bad 15)
  | .str a, .str b =>
    match op with
    | .add => Req (((a.size + b.size : Nat) : Int) ≤ IntKind.i64.max) (K (.s (.str (a ++ b))))
    | op => kB K (cmpS op a b)
  | .lit a, .lit b => match P.underlying T with | some .bool => kB K (eqB op (a == b)) | _ => (Bad 16)
  | .lit a, .bool b => match P.underlying T with | some .bool => kB K (eqB op (a == b)) | _ => (Bad 17)
  | .bool a, .lit b => match P.underlying T with | some .bool => kB K (eqB op (a == b)) | _ => (Bad 18)
  | .bool a, .bool b => match P.underlying T with | some .bool => kB K (eqB op (a == b)) | _ => (Bad 19)
  | _, _ => (Bad 20)

/-- is it nil, written out? -/
def isNil : Operand → Bool
  | .const (.pointer none) => true
  | .const (.slice none 0 0) => true
  | .const (.map none) => true
  | .const .nilFunc => true
  | _ => false

def litB (K : SV → Prop) : Option Bool → Prop
  | some true => K (.s (.lit true))
  | some false => K (.s (.lit false))
  | none => (Bad 21)

/-- what is held against nil -/
def nOp (P : Program) (op : BinOp) (T : TypeId) (x : S1) (y : Operand) (K : SV → Prop) : Prop :=
  match x, y, P.underlying T with
  | .ptr p, .const (.pointer none), some (.pointer _) => kB K (eqB op p.isNone)
  | .addr _, .const (.pointer none), some (.pointer _) => litB K (eqB op false)
  | .sl s, .const (.slice none 0 0), some (.slice _) => kB K (eqB op s.p.isNone)
  | .mp r, .const (.map none), some (.map _ _) => kB K (eqB op r.isNone)
  | .val v, .const .nilFunc, some (.func _ _ _) => NoF v fun b => kB K (eqB op b)
  | .fn _ _ _, .const .nilFunc, some (.func _ _ _) => litB K (eqB op false)
  | _, _, _ => (Bad 202)

/-- bounds of a slicing: from, to, and where the room ends -/
def loOf (fr : Fr) : Option Operand → Option Int
  | none => some 0
  | some x => match ev fr x with | some (.s (.int _ n)) => some n | _ => none

def hiOf (fr : Fr) (len : Nat) : Option Operand → Option Int
  | none => some (len : Int)
  | some x => match ev fr x with | some (.s (.int _ n)) => some n | _ => none

def Sl.sub (s : Sl) (sz : Nat) (l h m : Int) : Sl :=
  ⟨if m.toNat = l.toNat then s.p else s.p.map (·.add (l.toNat * sz)), h.toNat - l.toNat, m.toNat - l.toNat⟩

/-- a byte of a string -/
def bt (s : ByteArray) (i : Int) : Int := ((s.data[i.toNat]?).getD 0).toNat

def splice (cells : List S1) (off : Nat) : List S1 → List S1
  | [] => cells
  | v :: r => splice (cells.set off v) (off + 1) r

def fillL (place : Nat → Option (Nat × Nat)) (cells : List S1) : List (Nat × SV) → Option (List S1)
  | [] => some cells
  | (i, v) :: rest => match place i, v.cells with
    | some (off, size), some vs => if vs.length ≠ size || off + vs.length > cells.length then none else fillL place (splice cells off vs) rest
    | _, _ => none

def evP (fr : Fr) : List (Nat × Operand) → Option (List (Nat × SV))
  | [] => some []
  | (i, x) :: r => match ev fr x, evP fr r with
    | some a, some b => some ((i, a) :: b)
    | _, _ => none

/-- values of which nothing is known: they must be of one cell -/
def needOne : List (Nat × SV) → List Value
  | [] => []
  | (_, .s (.val v)) :: r => v :: needOne r
  | _ :: r => needOne r

def reqOne (l : List Value) (K : Prop) : Prop := match l with
  | [] => K
  | v :: r => Req (∀ x ∈ v :: r, x.oneCell' = true) K

def zeroOf (P : Program) (t : TypeId) : Option (List S1) := match P.info? t with
  | some i => match i.zero with
    | some v => ofVs v.cells.toList
    | none => none
  | none => none

def placesOf (P : Program) : List Field → Option (List (Nat × Nat))
  | [] => some []
  | f :: r => match szOf P f.type, placesOf P r with
    | some s, some l => some ((f.offset, s) :: l)
    | _, _ => none

def foldMn (mx : Bool) (k : IntKind) : Int → List SV → Option Int
  | n, [] => some n
  | n, .s (.int _ m) :: r => foldMn mx k (if mx then (if m > n then m else n) else (if m < n then m else n)) r
  | _, _ => none

/-- an operation that does nothing to the world -/
def sOp (P : Program) (S : World → Prop) (o : Oper) (fr : Fr) (K : SV → Prop) : Prop :=
  match o.op with
  | .move x => match ev fr x with | some v => K v | none => (Bad 23)
  | .assign x => match ev fr x with | some v => K v | none => (Bad 24)
  | .pick c a b => match ev fr c with
    | some (.s (.lit true)) => (match ev fr a with | some v => K v | none => (Bad 25))
    | some (.s (.lit false)) => (match ev fr b with | some v => K v | none => (Bad 26))
    | some (.s (.bool c')) => (match ev fr a, ev fr b with
      | some (.s (.bool x)), some (.s (.bool y)) => K (.s (.bool (bif c' then x else y)))
      | some (.s (.lit x)), some (.s (.bool y)) => K (.s (.bool (bif c' then x else y)))
      | some (.s (.bool x)), some (.s (.lit y)) => K (.s (.bool (bif c' then x else y)))
      | some (.s (.lit x)), some (.s (.lit y)) => K (.s (.bool (bif c' then x else y)))
      | _, _ => (Bad 27))
    | _ => (Bad 28)
  | .nilCheck x => match ev fr x with
    | some (.s (.addr a)) => K (.s (.addr a))
    | some (.s (.ptr p)) => NN p fun a => K (.s (.addr a))
    | some (.s (.val v)) => Req (IsF v) (K (.s (.val v)))
    | some (.s (.fn (.func f) a c)) => K (.s (.fn (.func f) a c))
    | _ => (Bad 29)
  | .binOp op T x y _ => if isNil y then (match ev fr x with | some (.s a) => nOp P op T a y K | _ => (Bad 30)) else (match ev fr x, ev fr y with
    | some (.s a), some (.s b) => bOp P op T a b K
    | _, _ => (Bad 31))
  | .unOp op _ x => match op, ev fr x with
    | .not, some (.s (.lit b)) => K (.s (.lit (!b)))
    | .not, some (.s (.bool b)) => K (.s (.bool (!b)))
    | .neg, some (.s (.int k n)) => Ari (k.wrap (0 - n)) fun n => K (.s (.int k n))
    | .xor, some (.s (.int k n)) => (match bitI .xor k (if k.signed then -1 else k.max) n with | some m => Ari m fun m => K (.s (.int k m)) | none => (Bad 32))
    | _, _ => (Bad 33)
  | .convert src dst x => match P.underlying src, P.underlying dst, ev fr x with
    | some _, some (.int k), some (.s (.int _ n)) => Ari (k.wrap n) fun n => K (.s (.int k n))
    | some .string, some .string, some (.s (.str s)) => K (.s (.str s))
    | some (.slice e), some .string, some (.s (.sl s)) => (match P.underlying e with
      | some (.int .u8) => BtoS P S s fun t => K (.s (.str t))
      | _ => (Bad 34))
    | _, _, _ => (Bad 35)
  | .makeInterface t x => match P.underlying t, ev fr x with
    | some (.interface _), _ => (Bad 36)
    | some _, some v => K (.s (.val (.iface t v.v)))
    | _, _ => (Bad 37)
  | .makeFunc f first cap => match evs fr first.toList, evs fr cap.toList with
    | some a, some b => K (.s (.fn f (a.map SV.v) (b.map SV.v)))
    | _, _ => (Bad 38)
  | .fieldAddr T x i => match P.underlying T, ev fr x with
    | some (.struct fs), some (.s (.addr a)) => (match fs[i]? with
      | some f => (match szOf P f.type with
        | some (_ + 1) => K (.s (.addr (a.add f.offset)))
        | _ => (Bad 39))
      | none => (Bad 40))
    | some (.struct fs), some (.s (.ptr p)) => (match fs[i]? with
      | some f => (match szOf P f.type with
        | some (_ + 1) => NN p fun a => K (.s (.addr (a.add f.offset)))
        | _ => (Bad 39))
      | none => (Bad 40))
    | _, _ => (Bad 41)
  | .load t x => match shOf P t, ev fr x with
    | some h, some (.s (.addr a)) => if okSz h (szOf P t) then Ld S h a fun y => K (h.mk y).sv else (Bad 42)
    | some h, some (.s (.ptr p)) => if okSz h (szOf P t) then NN p fun a => Ld S h a fun y => K (h.mk y).sv else (Bad 42)
    | _, _ => (Bad 43)
  | .indexAddr T x ix => match P.underlying T, ev fr x, ev fr ix with
    | some (.slice e), some (.s (.sl s)), some (.s (.int _ i)) => (match szOf P e with
      | some z => Req (0 ≤ i ∧ i < s.len) (NN s.p fun a => K (.s (.addr (a.add (i.toNat * z)))))
      | none => (Bad 44))
    | some (.array n e), some (.s (.addr a)), some (.s (.int _ i)) => (match szOf P e with
      | some z => Req (0 ≤ i ∧ i < n) (K (.s (.addr (a.add (i.toNat * z)))))
      | none => (Bad 45))
    | _, _, _ => (Bad 46)
  | .index T x ix => match P.underlying T, ev fr x, ev fr ix with
    | some .string, some (.s (.str s)), some (.s (.int _ i)) => Req (0 ≤ i ∧ i < s.size) (K (.s (.int .u8 (bt s i))))
    | _, _, _ => (Bad 47)
  | .slice T x lo hi mx => match P.underlying T, ev fr x with
    | some .string, some (.s (.str s)) => (match mx, loOf fr lo, hiOf fr s.size hi with
      | none, some l, some h => Req (0 ≤ l ∧ l ≤ h ∧ h ≤ s.size) (K (.s (.str (s.extract l.toNat h.toNat))))
      | _, _, _ => (Bad 48))
    | some (.slice e), some (.s (.sl s)) => (match szOf P e, mx, loOf fr lo, hiOf fr s.len hi with
      | some z, none, some l, some h => Req (0 ≤ l ∧ l ≤ h ∧ h ≤ s.cap) (K (.s (.sl (s.sub z l h s.cap))))
      | some z, some m, some l, some h => (match ev fr m with
        | some (.s (.int _ n)) => if hi.isSome then Req (0 ≤ l ∧ l ≤ h ∧ h ≤ n ∧ n ≤ s.cap) (K (.s (.sl (s.sub z l h n)))) else (Bad 49)
        | _ => (Bad 50))
      | _, _, _, _ => (Bad 51))
    | _, _ => (Bad 52)
  | .field T x i => match P.underlying T, ev fr x with
    | some (.struct fs), some (.agg l) => (match fs[i]? with
      | some f => (match isAggB P f.type, szOf P f.type, P.underlying f.type with
        | true, some z, _ => K (.agg ((l.drop f.offset).take z))
        | false, some _, some _ => (match l[f.offset]? with | some v => K (.s v) | none => (Bad 53))
        | _, _, _ => (Bad 54))
      | none => (Bad 55))
    | _, _ => (Bad 56)
  | .build t parts => match P.underlying t, zeroOf P t, evP fr parts.toList with
    | some (.struct fs), some z, some ps => (match placesOf P fs.toList with
      | some pl => (match fillL (fun i => pl[i]?) z ps with
        | some l => reqOne (needOne ps) (K (.agg l))
        | none => (Bad 57))
      | none => (Bad 58))
    | some (.array _ e), some z, some ps => (match szOf P e with
      | some size => (match fillL (fun i => some (i * size, size)) z ps with
        | some l => reqOne (needOne ps) (K (.agg l))
        | none => (Bad 59))
      | none => (Bad 60))
    | _, _, _ => (Bad 61)
  | .extract x i => match ev fr x with
    | some (.tup l) => (match l[i]? with
      | some v => (match v with
        | .s x => (match x with
          | .val u => (match shOf P o.type with
            | some (.s s) => Cast s u fun y => K (.s (s.mk y))
            | _ => (Bad 62))
          | x => K (.s x))
        | .agg l => K (.agg l))
      | none => (Bad 62))
    | _ => (Bad 63)
  | .call c => match c.callee with
    | .builtin .len => (match c.argTypes.toList, evs fr c.args.toList with
      | [t], some [.s (.sl s)] => (match P.underlying t with | some (.slice _) => K (.s (.int .i64 (s.len : Int))) | _ => (Bad 64))
      | [t], some [.s (.str s)] => (match P.underlying t with | some .string => K (.s (.int .i64 (s.size : Int))) | _ => (Bad 65))
      | [t], some [.s (.mp r)] => (match P.underlying t with | some (.map _ _) => LenM S r fun n => K (.s (.int .i64 (n : Int))) | _ => (Bad 66))
      | [t], some [.agg _] => (match P.underlying t with | some (.array n _) => K (.s (.int .i64 (n : Int))) | _ => (Bad 67))
      | _, _ => (Bad 68))
    | .builtin .cap => (match c.argTypes.toList, evs fr c.args.toList with
      | [t], some [.s (.sl s)] => (match P.underlying t with | some (.slice _) => K (.s (.int .i64 (s.cap : Int))) | _ => (Bad 69))
      | _, _ => (Bad 70))
    | .builtin .max => (match evs fr c.args.toList with
      | some (.s (.int k n) :: r) => (match foldMn true k n r with | some m => Ari m fun m => K (.s (.int k m)) | none => (Bad 71))
      | _ => (Bad 72))
    | .builtin .min => (match evs fr c.args.toList with
      | some (.s (.int k n) :: r) => (match foldMn false k n r with | some m => Ari m fun m => K (.s (.int k m)) | none => (Bad 73))
      | _ => (Bad 74))
    | _ => (Bad 75)
  | _ => (Bad 76)

/-- is it such an operation? -/
def softB (P : Program) (o : Oper) : Bool :=
  match o.op with
  | .move _ | .assign _ | .pick .. | .nilCheck _ | .binOp .. | .unOp .. | .makeInterface .. | .makeFunc .. | .fieldAddr .. | .load .. | .indexAddr .. | .index ..
  | .slice .. | .field .. | .build .. | .extract .. => true
  | .convert src dst _ => match P.underlying src, P.underlying dst with
    | some .string, some (.slice _) => false
    | some (.slice _), some (.slice _) => false
    | _, _ => true
  | .call c => match c.callee with
    | .builtin .len | .builtin .cap | .builtin .max | .builtin .min => true
    | _ => false
  | _ => false

/-- an operation that may do something to the world -/
def lOp (P : Program) (o : Oper) (fr : Fr) (K : SV → World → Prop) (w : World) : Prop :=
  match o.op with
  | .store t x y => match ev fr x, ev fr y, szOf P t with
    | some (.s (.addr a)), some (.s v), some 1 => St a v.v (K (.s .undef)) w
    | some (.s (.addr a)), some (.agg l), some n => if l.length = n then StN a (l.map S1.v) (K (.s .undef)) w else (Bad 77)
    | _, _, _ => (Bad 78)
  | .alloc t => match P.info? t with
    | some i => (match i.zero with
      | some z => New (.cells z.cells t) (fun r => K (.s (.addr ⟨r, 0, none⟩))) w
      | none => (Bad 79))
    | none => (Bad 80)
  | .box t x => match ev fr x with
    | some (.s v) => reqOne (needOne [(0, .s v)]) (New (.cells #[v.v] t) (fun r => K (.s (.addr ⟨r, 0, none⟩))) w)
    | some (.agg l) => New (.cells (l.map S1.v).toArray t) (fun r => K (.s (.addr ⟨r, 0, none⟩))) w
    | _ => (Bad 82)
  | .buildSlice t len parts => match P.underlying t, evP fr parts.toList with
    | some (.slice e), some ps => (match zeroOf P e, szOf P e with
      | some z, some (s + 1) => if len * (s + 1) ≤ 2 ^ 24 ∧ z.length = s + 1 then (match fillL (fun i => some (i * (s + 1), s + 1)) ((List.replicate len z).flatten) ps with
        | some l => reqOne (needOne ps) (New (.cells (l.map S1.v).toArray e) (fun r => K (.s (.sl ⟨some ⟨r, 0, none⟩, len, len⟩))) w)
        | none => (Bad 83)) else (Bad 84)
      | _, _ => (Bad 85))
    | _, _ => (Bad 86)
  | .makeMap _ none => New (.map #[] 0) (fun r => K (.s (.mp (some r)))) w
  | .makeSlice t l c => match ev fr l, ev fr c with
    | some (.s a), some (.s b) => Prim P (Instr.makeSlice t a.v b.v) (.one (.s .sl)) (fun x => K (.s (.sl x))) w
    | _, _ => (Bad 87)
  | .convert src dst x => match P.underlying src, P.underlying dst, ev fr x with
    | some .string, some (.slice e), some (.s (.str s)) => (match P.underlying e with
      | some (.int .u8) => Prim P (Conv.stringToBytes e s) (.one (.s .sl)) (fun x => K (.s (.sl x))) w
      | _ => (Bad 88))
    | some (.slice _), some (.slice _), some (.s (.sl s)) => Prim P (convert src dst (.slice s.p s.len s.cap)) (.one (.s .sl)) (fun x => K (.s (.sl x))) w
    | _, _, _ => (Bad 89)
  | .lookup t x ix ok => match ev fr x, ev fr ix, rsOf P o.type with
    | some (.s a), some (.s b), some r => Prim P (Instr.lookup t a.v b.v ok) r (fun x => K (r.mk x)) w
    | _, _, _ => (Bad 90)
  | .mapUpdate t m k x => match ev fr m, ev fr k, ev fr x with
    | some (.s a), some (.s b), some c => PrimU P (Instr.mapUpdate t a.v b.v c.v) (K (.s .undef)) w
    | _, _, _ => (Bad 91)
  | .insert t m k x => match ev fr m, ev fr k, ev fr x with
    | some (.s a), some (.s b), some c => PrimU P (Instr.mapUpdate t a.v b.v c.v) (K (.s .undef)) w
    | _, _, _ => (Bad 92)
  | .range t x => match ev fr x with
    | some (.s a) => Prim P (Instr.range t a.v) (.one (.s .ptr)) (fun x => K (.s (.ptr x))) w
    | _ => (Bad 93)
  | .next it isS => match ev fr it with
    | some (.s a) => PrimN P (Instr.next a.v isS o.type) (fun l => K (.tup (l.map fun v => .s (.val v)))) w
    | _ => (Bad 94)
  | .entry it => match ev fr it with
    | some (.s a) => PrimN P (Instr.entry a.v) (fun l => K (.tup (l.map fun v => .s (.val v)))) w
    | _ => (Bad 103)
  | .call c => match c.callee with
    | .value f => (match ev fr f, evs fr c.args.toList, rsOf P o.type with
      | some (.s (.fn (.func g) first cap)), some as, some r => (match P.funcs[g]? with
        | some fn => if fn.body.isNone then Prim P (callFunc g (first ++ as.map SV.v ++ cap).toArray >>= fun n => match n with | .value v => pure v | _ => stuck "no value") r (fun x => K (r.mk x)) w
          else CallP P g (first ++ as.map SV.v ++ cap) r (fun x => K (r.mk x)) w
        | none => (Bad 95))
      | some (.s (.val v)), some as, some r => CallV P v (as.map SV.v) r (fun x => K (r.mk x)) w
      | _, _, _ => (Bad 96))
    | .builtin .append => (match evs fr c.args.toList with
      | some [.s a, .s b] => Prim P (Builtin.append_ c.argTypes o.type #[a.v, b.v]) (.one (.s .sl)) (fun x => K (.s (.sl x))) w
      | _ => (Bad 97))
    | .builtin .copy => (match evs fr c.args.toList with
      | some [.s a, .s b] => Prim P (Builtin.copy_ c.argTypes o.type #[a.v, b.v]) (.one (.s (.int .i64))) (fun x => K (.s (.int .i64 x))) w
      | _ => (Bad 98))
    | .builtin .delete => (match evs fr c.args.toList with
      | some [.s a, .s b] => Prim P (Builtin.delete_ c.argTypes o.type #[a.v, b.v]) (.tup []) (fun _ => K (.tup [])) w
      | _ => (Bad 99))
    | .builtin .clear => (match evs fr c.args.toList with
      | some [.s a] => Prim P (Builtin.clear_ c.argTypes o.type #[a.v]) (.tup []) (fun _ => K (.tup [])) w
      | _ => (Bad 100))
    | _ => (Bad 101)
  | _ => (Bad 102)

/-- what a guard says: wanted, not, or either, by a Bool -/
inductive Wt where
  | yes | no | ask (b : Bool)

def wantF (ops : List Oper) (o : Oper) (fr : Fr) : Option Wt :=
  match o.guard with
  | none => some .yes
  | some (j, want) => match ops[j]? with
    | some g => (match g.dst with
      | some d => (match fr.get d with
        | some (.s (.lit b)) => (match b, want with | true, true => some .yes | false, false => some .yes | _, _ => some .no)
        | some (.s (.bool b)) => some (.ask b)
        | some (.s .undef) => some .no
        | _ => none)
      | none => none)
    | none => none

def guardSlot (ops : List Oper) (o : Oper) : Nat := match o.guard with
  | some (j, _) => (match ops[j]? with | some g => g.dst.getD 0 | none => 0)
  | none => 0

def guardWant (o : Oper) : Bool := match o.guard with
  | some (_, b) => b
  | none => true

/-- one operation, guarded or not -/
def dOp1 (P : Program) (S : World → Prop) (o : Oper) (fr : Fr) (K : Fr → World → Prop) (w : World) : Prop :=
  match softB P o with
  | true => sOp P S o fr fun v => K (fr.put o.dst v) w
  | false => lOp P o fr (fun v w => K (fr.put o.dst v) w) w

/-- one operation; 'K' where it is carried out, 'N' where its guard says no -/
def dOp (P : Program) (S : World → Prop) (ops : List Oper) (o : Oper) (fr : Fr) (K N : Fr → World → Prop) (w : World) : Prop :=
  match wantF ops o fr with
  | some .yes => dOp1 P S o fr K w
  | some .no => N (fr.put o.dst (.s .undef)) w
  | some (.ask b) => match guardWant o with
    | true => Br b (dOp1 P S o (fr.set (guardSlot ops o) (some (.s (.lit true)))) K w) (N ((fr.set (guardSlot ops o) (some (.s (.lit false)))).put o.dst (.s .undef)) w)
    | false => Br b (N ((fr.set (guardSlot ops o) (some (.s (.lit true)))).put o.dst (.s .undef)) w) (dOp1 P S o (fr.set (guardSlot ops o) (some (.s (.lit false)))) K w)
  | none => (Bad 200)

def dOpsS (P : Program) (ops : List Oper) (o : Oper) (ih : Fr → (Fr → World → Prop) → World → Prop) (fr : Fr) (K : Fr → World → Prop) (w : World) : Prop :=
  dOp P (fun w' => w' = w) ops o fr (fun fr w => ih fr K w) (fun fr w => ih fr K w) w

/-- operations in a row; what is read is read in the world at hand -/
def dOps (P : Program) (ops : List Oper) (l : List Oper) : Fr → (Fr → World → Prop) → World → Prop :=
  List.rec (motive := fun _ => Fr → (Fr → World → Prop) → World → Prop) (fun fr K w => K fr w) (fun o _ ih => dOpsS P ops o ih) l

theorem dOps_cons {P : Program} {ops : List Oper} {o : Oper} {r : List Oper} {fr : Fr} {K : Fr → World → Prop} {w : World} :
    dOps P ops (o :: r) fr K w = dOp P (fun w' => w' = w) ops o fr (fun fr w => dOps P ops r fr K w) (fun fr w => dOps P ops r fr K w) w := rfl

def memL (l : List Nat) (x : Nat) : Bool := match l with
  | [] => false
  | y :: r => bif Nat.beq x y then true else memL r x

def dHeldS (P : Program) (ops : List Oper) (ys zs : List Nat) (i : Nat) (ih : (World → Prop) → Fr → (Fr → World → Prop) → World → Prop) (S : World → Prop) (fr : Fr) (K : Fr → World → Prop) (w : World) : Prop :=
  match ops[i]? with
  | some o => dOp P S ops o fr (fun fr w => if softB P o then ih S fr K w else (match memL ys i with
    | true => Held fun S' => Req (S' w) (ih S' fr K w)
    | false => (match memL zs i with
      | true => Held fun S' => Strong (∀ w', S' w' → S w') (Req (S' w) (ih S' fr K w))
      | false => Req (S w) (ih S fr K w)))) (fun fr w => ih S fr K w) w
  | none => (Bad 201)

/-- operations by their numbers; what is read is read in all worlds that meet S, which holds behind each; behind those of 'ys' it is chosen anew -/
def dHeld (P : Program) (ops : List Oper) (ys zs : List Nat) (l : List Nat) : (World → Prop) → Fr → (Fr → World → Prop) → World → Prop :=
  List.rec (motive := fun _ => (World → Prop) → Fr → (Fr → World → Prop) → World → Prop) (fun _ fr K w => K fr w) (fun i _ ih => dHeldS P ops ys zs i ih) l

theorem dHeld_cons {P : Program} {S : World → Prop} {ops : List Oper} {ys zs : List Nat} {i : Nat} {r : List Nat} {fr : Fr} {K : Fr → World → Prop} {w : World} :
    dHeld P ops ys zs (i :: r) S fr K w = match ops[i]? with
    | some o => dOp P S ops o fr (fun fr w => if softB P o then dHeld P ops ys zs r S fr K w else (match memL ys i with
      | true => Held fun S' => Req (S' w) (dHeld P ops ys zs r S' fr K w)
      | false => (match memL zs i with
        | true => Held fun S' => Strong (∀ w', S' w' → S w') (Req (S' w) (dHeld P ops ys zs r S' fr K w))
        | false => Req (S w) (dHeld P ops ys zs r S fr K w)))) (fun fr w => dHeld P ops ys zs r S fr K w) w
    | none => (Bad 201) := rfl

/-- several orders in which a region's operations may come up -/
inductive Tr where
  | e
  | n (i : Nat) (t : Tr)
  | o (a b : Tr)

/-- operations in all these orders -/
def dHeldT (P : Program) (ops : List Oper) (ys zs : List Nat) (t : Tr) : (World → Prop) → Fr → (Fr → World → Prop) → World → Prop :=
  Tr.rec (motive := fun _ => (World → Prop) → Fr → (Fr → World → Prop) → World → Prop) (fun _ fr K w => K fr w) (fun i _ ih => dHeldS P ops ys zs i ih) (fun _ _ iha ihb S fr K w => Both (iha S fr K w) (ihb S fr K w)) t

theorem dHeldT_n {P : Program} {S : World → Prop} {ops : List Oper} {ys zs : List Nat} {i : Nat} {r : Tr} {fr : Fr} {K : Fr → World → Prop} {w : World} :
    dHeldT P ops ys zs (.n i r) S fr K w = match ops[i]? with
    | some o => dOp P S ops o fr (fun fr w => if softB P o then dHeldT P ops ys zs r S fr K w else (match memL ys i with
      | true => Held fun S' => Req (S' w) (dHeldT P ops ys zs r S' fr K w)
      | false => (match memL zs i with
        | true => Held fun S' => Strong (∀ w', S' w' → S w') (Req (S' w) (dHeldT P ops ys zs r S' fr K w))
        | false => Req (S w) (dHeldT P ops ys zs r S fr K w)))) (fun fr w => dHeldT P ops ys zs r S fr K w) w
    | none => (Bad 201) := rfl

def altsT (f : Nat → Option Tr) : List Nat → Option Tr
  | [] => none
  | i :: r => match f i with
    | some t => (match r with
      | [] => some (.n i t)
      | _ => (match altsT f r with | some u => some (.o (.n i t) u) | none => none))
    | none => none

/-- all orders, but that what reads alone comes first -/
def canonT (P : Program) (ops : Array Oper) : Nat → Array Bool → Option Tr
  | 0, listed => if (Region.ready .any ops listed).isEmpty then some .e else none
  | n + 1, listed =>
    match Region.ready .any ops listed with
    | [] => some .e
    | rs =>
      match rs.find? fun i => (match ops[i]? with | some o => softB P o && Region.free .any ops listed i | none => false) with
      | some i => (match canonT P ops n (listed.setIfInBounds i true) with | some l => some (.n i l) | none => none)
      | none => altsT (fun i => canonT P ops n (listed.setIfInBounds i true)) rs

/-- an order in which what reads alone comes first -/
def canon (P : Program) (ops : Array Oper) : Nat → Array Bool → Option (List Nat)
  | 0, listed => if (Region.ready .any ops listed).isEmpty then some [] else none
  | n + 1, listed =>
    match Region.ready .any ops listed with
    | [] => some []
    | rs =>
      match rs.find? fun i => (match ops[i]? with | some o => softB P o && Region.free .any ops listed i | none => false) with
      | some i => (match canon P ops n (listed.setIfInBounds i true) with | some l => some (i :: l) | none => none)
      | none => (match rs with
        | [i] => (match canon P ops n (listed.setIfInBounds i true) with | some l => some (i :: l) | none => none)
        | _ => none)

def softPre (P : Program) : List Oper → Nat
  | [] => 0
  | o :: r => if softB P o then softPre P r + 1 else 0

/-- how a function's text is gone through: where ways meet again, and at each loop, which slots are kept, which are told anew; how a region that draws its order is gone through: in the order of the text, or by these numbers with parts that stay -/
inductive An where
  | n
  | p (x y : An)
  | j (kp : List Nat) (sl : List (Nat × Sh)) (x y : An)
  | b (x : An)
  | k (kp : List Nat) (sl : List (Nat × Sh)) (x : An)
  | l (kp : List Nat) (sl : List (Nat × Sh)) (x : An)
  | s
  | h (o : List Nat) (ys : List Nat)
  | t (o : Tr) (ys : List Nat)
  | hz (o : List Nat) (ys zs : List Nat)
  | tz (o : Tr) (ys zs : List Nat)

def beqL : List Nat → List Nat → Bool
  | [], [] => true
  | a :: x, b :: y => Nat.beq a b && beqL x y
  | _, _ => false

def beqT : Tr → Tr → Bool
  | .e, .e => true
  | .n i t, .n j u => Nat.beq i j && beqT t u
  | .o a b, .o c d => beqT a c && beqT b d
  | _, _ => false

/-- what an operation waits for -/
def depsOf (ops : Array Oper) (i : Nat) : List Nat := match ops[i]? with
  | some o => (o.after.toList.filter (Region.binds .any ·)).map (·.on)
  | none => []

/-- .. and what these wait for -/
def ancs (ops : Array Oper) : Nat → List Nat → List Nat → List Nat
  | 0, _, seen => seen
  | _ + 1, [], seen => seen
  | n + 1, x :: r, seen => match memL seen x with
    | true => ancs ops n r seen
    | false => ancs ops n (depsOf ops x ++ r) (x :: seen)

/-- one waits for all that reads ahead of it -/
def syncY (P : Program) (ops : Array Oper) (A : List Nat) (y : Nat) : List Nat → Bool
  | [] => true
  | s :: r => match Nat.beq s y with
    | true => true
    | false => (match ops[s]? with
      | some o => (match softB P o with
        | true => memL A s
        | false => true)
      | none => false) && syncY P ops A y r

def syncOK (P : Program) (ops : Array Oper) (ys : List Nat) (l : List Nat) : Bool := ys.all fun y => syncY P ops (ancs ops (20 * ops.size) (depsOf ops y) []) y l

def syncT (P : Program) (ops : Array Oper) (A : List Nat) (y : Nat) : Tr → Bool
  | .e => true
  | .n s r => match Nat.beq s y with
    | true => true
    | false => (match ops[s]? with
      | some o => (match softB P o with
        | true => memL A s
        | false => true)
      | none => false) && syncT P ops A y r
  | .o a b => syncT P ops A y a && syncT P ops A y b

def syncTOK (P : Program) (ops : Array Oper) (ys : List Nat) (l : Tr) : Bool := ys.all fun y => syncT P ops (ancs ops (20 * ops.size) (depsOf ops y) []) y l

/-- may it be gone through so? -/
def planOK (P : Program) (ops : Array Oper) : An → Bool
  | .s => (ops.toList.all (softB P) && Region.lexB .any ops) || Region.lexTailB .any ops (softPre P ops.toList)
  | .h l ys => Region.noSelect ops && (match canon P ops ops.size (Array.replicate ops.size false) with | some l' => beqL l l' | none => false) && syncOK P ops ys l
  | .t l ys => Region.noSelect ops && (match canonT P ops ops.size (Array.replicate ops.size false) with | some l' => beqT l l' | none => false) && syncTOK P ops ys l
  | .hz l ys _ => Region.noSelect ops && (match canon P ops ops.size (Array.replicate ops.size false) with | some l' => beqL l l' | none => false) && syncOK P ops ys l
  | .tz l ys _ => Region.noSelect ops && (match canonT P ops ops.size (Array.replicate ops.size false) with | some l' => beqT l l' | none => false) && syncTOK P ops ys l
  | _ => false

def dRegion (P : Program) (an : An) (ops : Array Oper) (draw : Bool) (fr : Fr) (K : Fr → World → Prop) (w : World) : Prop :=
  match draw with
  | false => dOps P ops.toList ops.toList fr K w
  | true => match an with
    | .s => Dr (dOps P ops.toList ops.toList fr K) w
    | .h l ys => Held fun S => Dr (fun w => Req (S w) (dHeld P ops.toList ys [] l S fr K w)) w
    | .t l ys => Held fun S => Dr (fun w => Req (S w) (dHeldT P ops.toList ys [] l S fr K w)) w
    | .hz l ys zs => Held fun S => Dr (fun w => Req (S w) (dHeld P ops.toList ys zs l S fr K w)) w
    | .tz l ys zs => Held fun S => Dr (fun w => Req (S w) (dHeldT P ops.toList ys zs l S fr K w)) w
    | _ => (Bad 300)

/-! ### which slots are written, which are read -/

def addN (l : List Nat) (x : Nat) : List Nat := if l.contains x then l else x :: l
def uni (a b : List Nat) : List Nat := a.foldl addN b
def writesOps : List Oper → List Nat
  | [] => []
  | o :: r => match o.dst with | some d => addN (writesOps r) d | none => writesOps r

/-- slots whose truth is learnt -/
def writes : Code → List Nat
  | .region _ ops _ => writesOps ops.toList
  | .seq a b => uni (writes a) (writes b)
  | .cond _ a b => uni (writes a) (writes b)
  | .block _ c => writes c
  | .loop c => writes c
  | .scope c => writes c
  | .rangeFunc _ _ a b => uni (writes a) (writes b)
  | _ => []

/-- of the slots on a list what is known -/
def keepFr (fr : Fr) : List Nat → (Fr → Prop) → Prop
  | [], K => K []
  | s :: r, K => match fr.get s with
    | some v => keepFr fr r fun t => K ((s, some v) :: t)
    | none => keepFr fr r K

def rebuildK (fr : Fr) : (l : List (Nat × Sh)) → ShsT (l.map (·.2)) → (Fr → Prop) → Prop
  | [], _, K => K fr
  | [(s, h)], x, K => K ((s, some (h.mk x).sv) :: fr)
  | (s, h) :: (t, g) :: r, x, K => rebuildK ((s, some (h.mk x.1).sv) :: fr) ((t, g) :: r) x.2 K

def Sc.get (s : Sc) (v : S1) (K : s.T → Prop) : Prop := match s, v with
  | .bool, .lit b => K b
  | .bool, .bool b => K b
  | .int k, .int k' n => if k = k' then K n else (Bad 107)
  | .str, .str s => K s
  | .ptr, .ptr p => K p
  | .ptr, .addr a => K (some a)
  | .sl, .sl s => K s
  | .mp, .mp r => K r
  | .val, .val v => K v
  | .val, .fn f a c => K (.func f a.toArray c.toArray)
  | _, _ => (Bad 108)

def ScsGet : (l : List Sc) → List S1 → (ScsT l → Prop) → Prop
  | [], [], K => K ()
  | [s], [v], K => s.get v K
  | s :: t :: r, v :: u, K => s.get v fun x => ScsGet (t :: r) u fun y => K (x, y)
  | _, _, _ => (Bad 109)

def Sh.get (h : Sh) (v : SV) (K : h.T → Prop) : Prop := match h, v with
  | .s x, .s v => x.get v K
  | .agg l, .agg vs => ScsGet l vs K
  | _, _ => (Bad 110)

def gather (fr : Fr) : (l : List (Nat × Sh)) → (ShsT (l.map (·.2)) → Prop) → Prop
  | [], K => K ()
  | [(s, h)], K => match fr.get s with | some v => h.get v K | none => (Bad 111)
  | (s, h) :: (t, g) :: r, K => match fr.get s with
    | some v => h.get v fun x => gather fr ((t, g) :: r) fun y => K (x, y)
    | none => (Bad 112)

def dBranch (fr : Fr) (c : Operand) (X Y : Fr → Prop) : Prop := match ev fr c with
  | some (.s (.lit true)) => X fr
  | some (.s (.lit false)) => Y fr
  | some (.s (.bool b)) => (match c with
    | .tmp t => Br b (X (fr.set t (some (.s (.lit true))))) (Y (fr.set t (some (.s (.lit false)))))
    | _ => Br b (X fr) (Y fr))
  | _ => (Bad 113)

/-- no loop over a function stands here -/
def hasRF : Code → Bool
  | .seq a b => hasRF a || hasRF b
  | .cond _ a b => hasRF a || hasRF b
  | .block _ c => hasRF c
  | .loop c => hasRF c
  | .scope c => hasRF c
  | .rangeFunc _ _ _ _ => true
  | _ => false

def notDefer (o : Oper) : Bool := match o.op with
  | .defer _ => false
  | _ => true

/-- slots that are given values -/
def setPs (fr : Fr) : List Nat → List SV → (Fr → Prop) → Prop
  | [], [], K => K fr
  | s :: r, v :: vs, K => setPs (fr.set s (some v)) r vs K
  | _, _, _ => (Bad 130)

/-- behind a loop over a function: what it laid for deferred calls is taken at the function's end -/
def markK (d : Nat) (Ko : Way → Fr → World → Prop) (y : Way) (fr : Fr) (w : World) : Prop := w.heap[d]? = some (.deferred (some [])) ∧ Ko y fr (w.putObj d (.deferred none))

/-- what is still to be done behind a piece of code -/
inductive Kt where
  | seq (b : Code) (y : An)
  | blk (i : Nat)
  | blkJ (i : Nat) (sl : List (Nat × Sh)) (J : ShsT (sl.map (·.2)) → World → Prop)
  | fin (sl : List (Nat × Sh)) (K : ShsT (sl.map (·.2)) → World → Prop)

/-- what is to be done where a block is left -/
def unw (i : Nat) : List Kt → Option (List Kt)
  | [] => none
  | t :: st => match t with
    | .blk j => (match Nat.beq i j with | true => some (.blk j :: st) | false => unw i st)
    | .blkJ j sl J => (match Nat.beq i j with | true => some (.blkJ j sl J :: st) | false => unw i st)
    | _ => unw i st

/-- the ways on out of the text of a loop's round: assignments first, then the body -/
def roundK (ih : (Way → Fr → World → Prop) → Option (Code × An) → List Kt → Fr → World → Prop) (b : Code) (y : An) (l : Nat) (lo : LS → Obj) (K : Way → World → Prop) (wy : Way) (fr : Fr) (w : World) : Prop := match wy with
  | .on => w.heap[l]? = some (lo .ready) ∧ ih (fun wy _ w => K wy w) (some (b, y)) [] fr (w.putObj l (lo .busy))
  | _ => (Bad 131)

/-- where it goes on behind a loop over a function -/
def behindK (ih : (Way → Fr → World → Prop) → Option (Code × An) → List Kt → Fr → World → Prop) (Ko : Way → Fr → World → Prop) (st : List Kt) (fr : Fr) (d : Nat) (wy : Way) (w : World) : Prop := match wy with
  | .on => ih (markK d Ko) none st fr w
  | .ret => markK d Ko .ret fr w
  | .exit i => (match unw i st with
    | some st' => ih (markK d Ko) none st' fr w
    | none => markK d Ko (.exit i) fr w)

/-- one step: code (or none), and what is to be done behind it; 'Ko' at the end -/
def goStep (P : Program) (ih : (Way → Fr → World → Prop) → Option (Code × An) → List Kt → Fr → World → Prop) (Ko : Way → Fr → World → Prop) : Option (Code × An) → List Kt → Fr → World → Prop
  | some (c, an), st, fr, w => match c with
    | .skip => ih Ko none st fr w
    | .label _ => ih Ko none st fr w
    | .region _ ops dr => dRegion P an ops dr fr (fun fr w => ih Ko none st fr w) w
    | .seq a b => (match an with
      | .j kp sl x y => Join (ShsT (sl.map (·.2))) (fun J => ih Ko (some (a, x)) (.fin sl J :: st) fr w)
          (fun s w => keepFr fr kp fun base => rebuildK base sl s fun fr' => ih Ko (some (b, y)) st fr' w)
      | .p x y => ih Ko (some (a, x)) (.seq b y :: st) fr w
      | _ => ih Ko (some (a, .n)) (.seq b .n :: st) fr w)
    | .cond c a b => (match an with
      | .p x y => dBranch fr c (fun fr => ih Ko (some (a, x)) st fr w) (fun fr => ih Ko (some (b, y)) st fr w)
      | _ => dBranch fr c (fun fr => ih Ko (some (a, .n)) st fr w) (fun fr => ih Ko (some (b, .n)) st fr w))
    | .block i c => (match an with
      | .k kp sl x => Join (ShsT (sl.map (·.2))) (fun J => ih Ko (some (c, x)) (.blkJ i sl J :: st) fr w)
          (fun s w => keepFr fr kp fun base => rebuildK base sl s fun fr' => ih Ko none st fr' w)
      | .b x => ih Ko (some (c, x)) (.blk i :: st) fr w
      | _ => ih Ko (some (c, .n)) (.blk i :: st) fr w)
    | .loop c => (match an with
      | .l kp sl x => gather fr sl fun s0 =>
        Loop (ShsT (sl.map (·.2))) (fun K s w => keepFr fr kp fun base => rebuildK base sl s fun fr' => ih Ko (some (c, x)) (.fin sl K :: st) fr' w) s0 w
      | _ => (Bad 124))
    | .exit i => (match unw i st with
      | some st' => ih Ko none st' fr w
      | none => Ko (.exit i) fr w)
    | .ret => Ko .ret fr w
    | .rangeFunc g ps a b => (match an, ev fr g with
      | .p x y, some (.s v) => RangeF P v.v (fun l lo svs K w => setPs fr ps.toList svs fun fr' => ih (roundK ih b y l lo K) (some (a, x)) [] fr' w) (behindK ih Ko st fr) w
      | _, _ => (Bad 132))
    | _ => (Bad 114)
  | none, st, fr, w => match st with
    | [] => Ko .on fr w
    | t :: st => (match t with
      | .seq b y => ih Ko (some (b, y)) st fr w
      | .blk _ => ih Ko none st fr w
      | .blkJ _ sl J => gather fr sl fun s => J s w
      | .fin sl K => gather fr sl fun s => K s w)

def go (P : Program) (n : Nat) : (Way → Fr → World → Prop) → Option (Code × An) → List Kt → Fr → World → Prop :=
  Nat.rec (motive := fun _ => (Way → Fr → World → Prop) → Option (Code × An) → List Kt → Fr → World → Prop) (fun _ _ _ _ _ => (Bad 400)) (fun _ ih => goStep P ih) n

theorem go_succ {P : Program} {Ko : Way → Fr → World → Prop} {n : Nat} {x : Option (Code × An)} {st : List Kt} {fr : Fr} {w : World} : go P (n + 1) Ko x st fr w = goStep P (go P n) Ko x st fr w := rfl

/-! ### a function -/

def retK (P : Program) (fn : Func) (K : Value → World → Prop) (fr : Fr) (w : World) : Prop :=
  match fn.results.toList with
  | [.tmp t] => (match fr.get t with | some v => K v.v w | none => (Bad 115))
  | [.cell a t] => (match shOf P t, fr.get a with
    | some h, some (.s (.addr x)) => if okSz h (szOf P t) then Ld (fun w' => w' = w) h x (fun y => K (h.mk y).sv.v w) else (Bad 116)
    | _, _ => (Bad 117))
  | _ => (Bad 118)

def retsK (P : Program) : List ResultVar → Fr → World → (List Value → Prop) → Prop
  | [], _, _, K => K []
  | .tmp t :: r, fr, w, K => (match fr.get t with | some v => retsK P r fr w fun l => K (v.v :: l) | none => (Bad 119))
  | .cell a t :: r, fr, w, K => (match shOf P t, fr.get a with
    | some h, some (.s (.addr x)) => if okSz h (szOf P t) then Ld (fun w' => w' = w) h x (fun y => retsK P r fr w fun l => K ((h.mk y).sv.v :: l)) else (Bad 120)
    | _, _ => (Bad 121))

def retV : List Value → Value
  | [v] => v
  | l => .tuple l.toArray

def initK : Nat → List SV → (Fr → Prop) → Prop
  | _, [], K => K []
  | i, a :: r, K => initK (i + 1) r fun t => K ((i, some a) :: t)

def drOK (dr b : Bool) : Bool := match dr with
  | true => b
  | false => true

def apartL (kp ws : List Nat) : Bool := kp.all fun s => !ws.contains s

/-- all that is written lies in the frame, what is kept is not written, and the plans serve -/
def fits (P : Program) (n : Nat) : Code → An → Bool
  | .region _ ops dr, an => (ops.all fun o => (match o.dst with | some d => Nat.blt d n | none => true) && notDefer o) && drOK dr (planOK P ops an)
  | .seq a b, an => match an with
    | .j kp _ x y => apartL kp (writes a) && (!hasRF a && (fits P n a x && fits P n b y))
    | .p x y => fits P n a x && fits P n b y
    | _ => fits P n a .n && fits P n b .n
  | .cond _ a b, an => match an with
    | .p x y => fits P n a x && fits P n b y
    | _ => fits P n a .n && fits P n b .n
  | .block _ c, an => match an with
    | .k kp _ x => apartL kp (writes c) && (!hasRF c && fits P n c x)
    | .b x => fits P n c x
    | _ => fits P n c .n
  | .loop c, an => match an with
    | .l kp _ x => apartL kp (writes c) && (!hasRF c && fits P n c x)
    | _ => true
  | .rangeFunc _ ps a b, an => match an with
    | .p x y => (ps.all fun p => Nat.blt p n) && (!hasRF a && (!hasRF b && (fits P n a x && fits P n b y)))
    | _ => true
  | _, _ => true

def fitsFn (P : Program) (an : An) (fn : Func) : Bool := match fn.body with
  | some c => fits P fn.ntmps c an
  | none => true

/-- at a function's end -/
def finK (P : Program) (fn : Func) (K : Value → World → Prop) (y : Way) (fr : Fr) (w : World) : Prop := match y with
  | .exit _ => (Bad 122)
  | _ => retsK P fn.results.toList fr w fun l => K (retV l) w

/-- what a call of a function may do -/
def dFn (P : Program) (an : An) (fn : Func) (args : List SV) (K : Value → World → Prop) (w : World) : Prop :=
  match fn.body with
  | some c => initK 0 args fun fr => go P 2000 (finK P fn K) (some (c, an)) [] fr w
  | none => (Bad 123)

end Go.Proofs.Ytocmjngleknlbaa.K

/-
  What the plain meaning tells holds of the model's runs: operations that read alone.
-/
namespace Go.Proofs.Ytocmjngleknlbaa.K
open Go

theorem ofV1_v {v : Value} {x : S1} (h : ofV1 v = some x) : x.v = v := by
  cases v <;> simp only [ofV1] at h <;> first
    | (cases h; done)
    | (cases h; simp [S1.v]; done)
    | (rename_i a; cases a <;> simp only at h <;> cases h <;> rfl)

theorem ofVs_v : ∀ {l : List Value} {x : List S1}, ofVs l = some x → x.map S1.v = l
  | [], x, h => by simp only [ofVs] at h; cases h; rfl
  | v :: r, x, h => by
    simp only [ofVs] at h
    split at h
    · rename_i a b ha hb
      cases h
      simp [ofV1_v ha, ofVs_v hb]
    · cases h

theorem ofV_v {v : Value} {x : SV} (h : ofV v = some x) : x.v = v := by
  unfold ofV at h
  split at h
  · rename_i cs
    split at h
    · rename_i l hl
      cases h
      simp [SV.v, ofVs_v hl]
    · cases h
  · split at h
    · rename_i y hy
      cases h
      exact ofV1_v hy
    · cases h

theorem Fr.get_nil (i : Nat) : Fr.get [] i = none := rfl

theorem Fr.get_cons (fr : Fr) (i j : Nat) (v : Option SV) : Fr.get ((j, v) :: fr) i = if i = j then v else fr.get i := by
  show (match Nat.beq i j with | true => v | false => fr.get i) = _
  by_cases h : i = j
  · subst h; simp
  · have : Nat.beq i j = false := by
      cases hb : Nat.beq i j
      · rfl
      · exact absurd (Nat.eq_of_beq_eq_true hb) h
    rw [if_neg h, this]

theorem Agrees.cons {fr : Fr} {a : Array Value} (h : Agrees fr a) {i : Nat} {v : Option SV} (hv : ∀ sv, v = some sv → a[i]? = some sv.v) : Agrees ((i, v) :: fr) a := by
  intro j s hj
  rw [Fr.get_cons] at hj
  split at hj
  · rename_i hc; subst hc; exact hv s hj
  · exact h j s hj

theorem Agrees.put {fr : Fr} {a : Act} (h : Agrees fr a.tmps) (d : Option Tmp) (v : SV) (hd : ∀ x, d = some x → x < a.tmps.size) : Agrees (fr.put d v) (a.put d v.v).tmps := by
  cases d with
  | none => exact h
  | some d =>
    intro i sv hi
    simp only [Fr.put, Fr.get_cons] at hi
    simp only [Act.put]
    split at hi
    · rename_i hc
      cases hi
      subst hc
      rw [Array.getElem?_setIfInBounds_self_of_lt (hd _ rfl)]
    · rename_i hc
      rw [Array.getElem?_setIfInBounds_ne (by omega)]
      exact h i sv hi

theorem Agrees.set {fr : Fr} {a : Array Value} (h : Agrees fr a) (i : Nat) {sv sv' : SV} (hi : fr.get i = some sv) (hv : sv'.v = sv.v) : Agrees (fr.set i (some sv')) a :=
  h.cons fun s hs => by cases hs; rw [hv]; exact h i sv hi

theorem ev_eval {fr : Fr} {a : Act} (h : Agrees fr a.tmps) {x : Operand} {sv : SV} (hx : ev fr x = some sv) : a.eval x = sv.v := by
  cases x with
  | tmp t =>
    have := h t sv hx
    simp [Act.eval, this]
  | const v => exact (ofV_v hx).symm
  | global g => simp only [ev] at hx; cases hx; rfl
  | func f => simp only [ev] at hx; cases hx; rfl

theorem evs_eval {fr : Fr} {a : Act} (h : Agrees fr a.tmps) : ∀ {l : List Operand} {svs : List SV}, evs fr l = some svs → l.map a.eval = svs.map SV.v
  | [], _, hx => by simp only [evs] at hx; cases hx; rfl
  | x :: r, _, hx => by
    simp only [evs] at hx
    split at hx
    · rename_i s t hs ht
      cases hx
      simp [ev_eval h hs, evs_eval h ht]
    · cases hx

theorem evP_eval {fr : Fr} {a : Act} (h : Agrees fr a.tmps) : ∀ {l : List (Nat × Operand)} {svs : List (Nat × SV)}, evP fr l = some svs → l.map (fun p => (p.1, a.eval p.2)) = svs.map fun p => (p.1, p.2.v)
  | [], _, hx => by simp only [evP] at hx; cases hx; rfl
  | (i, x) :: r, _, hx => by
    simp only [evP] at hx
    split at hx
    · rename_i s t hs ht
      cases hx
      simp [ev_eval h hs, evP_eval h ht]
    · cases hx

theorem Sc.mk_v (s : Sc) (x : s.T) : (s.mk x).v = s.v x := by cases s <;> rfl

theorem ScsMk_v : ∀ (l : List Sc) (x : ScsT l), (ScsMk l x).map S1.v = ScsV l x
  | [], _ => rfl
  | [s], x => by simp [ScsMk, ScsV, Sc.mk_v]
  | s :: t :: r, x => by simp [ScsMk, ScsV, Sc.mk_v, ScsMk_v (t :: r) x.2]

theorem ScsV_length : ∀ (l : List Sc) (x : ScsT l), (ScsV l x).length = l.length
  | [], _ => rfl
  | [s], x => rfl
  | s :: t :: r, x => by simp [ScsV, ScsV_length (t :: r) x.2]

theorem S2.sv_v (x : S2) : x.sv.v = x.v := by cases x <;> rfl

/-- what an operation of this kind does -/
abbrev Runs (P : Program) (S : World → Prop) (o : Oper) (a : Act) (v : Value) : Prop := ∀ w, S w → (execOp a.eval o).run P w = .ok (.value v) w

theorem run_pureValue {P : Program} {w : World} {v : Value} {s : Sem Value} (h : s.run P w = .ok v w) : (do let x ← s; pure (Next.value x) : Sem Next).run P w = .ok (.value v) w := by
  simp [h, Result.andThen]

theorem kB_some {K : SV → Prop} {b : Option Bool} (h : kB K b) : ∃ c, b = some c ∧ K (.s (.bool c)) := by
  cases b with
  | none => cases h
  | some c => exact ⟨c, rfl, h⟩

theorem litB_some {K : SV → Prop} {b : Option Bool} (h : litB K b) : ∃ c, b = some c ∧ K (.s (.lit c)) := by
  rcases b with _ | ⟨_ | _⟩
  · cases h
  · exact ⟨_, rfl, h⟩
  · exact ⟨_, rfl, h⟩

section
variable {P : Program} {S : World → Prop} {K : SV → Prop}

theorem run_cmpI {op : BinOp} {k : IntKind} {a b : Int} {c : Bool} (hc : cmpI op a b = some c) (T : TypeId) (w : World) :
    (binOp op T (.int k a) (.int k b)).run P w = .ok (.bool c) w := by
  cases op <;> simp only [cmpI] at hc <;> cases hc <;> simp [binOp, Op.intCmp]

theorem run_cmpS {op : BinOp} {a b : ByteArray} {c : Bool} (hc : cmpS op a b = some c) (T : TypeId) (w : World) :
    (binOp op T (.string a) (.string b)).run P w = .ok (.bool c) w := by
  cases op <;> simp only [cmpS] at hc <;> cases hc <;> simp [binOp, Op.stringOp]

theorem run_eqB {op : BinOp} {a b c : Bool} {T : TypeId} (hT : P.underlying T = some .bool) (hc : eqB op (a == b) = some c) (w : World) :
    (binOp op T (.bool a) (.bool b)).run P w = .ok (.bool c) w := by
  cases op <;> simp only [eqB] at hc <;> cases hc
  · exact run_eql_bool w T a b hT
  · exact run_neq_bool w T a b hT

theorem bOp_run {op : BinOp} {T : TypeId} {x y : S1} (h : bOp P op T x y K) : ∃ sv, (∀ w, (binOp op T x.v y.v).run P w = .ok sv.v w) ∧ K sv := by
  unfold bOp at h
  split at h
  · rename_i k a k' b
    split at h
    · obtain ⟨hb, h⟩ := h
      refine ⟨_, fun w => ?_, h.out⟩
      have : ¬ b < 0 := by omega
      simp [S1.v, SV.v, binOp, Op.shift, this]
    · obtain ⟨hb, h⟩ := h
      refine ⟨_, fun w => ?_, h.out⟩
      have : ¬ b < 0 := by omega
      simp [S1.v, SV.v, binOp, Op.shift, this]
    all_goals (split at h <;> try (cases h; done))
    all_goals (rename_i hk; subst hk)
    · exact ⟨_, fun w => by simp [S1.v, SV.v, binOp, Op.intArith], h.out⟩
    · exact ⟨_, fun w => by simp [S1.v, SV.v, binOp, Op.intArith], h.out⟩
    · exact ⟨_, fun w => by simp [S1.v, SV.v, binOp, Op.intArith], h.out⟩
    · obtain ⟨hb, h⟩ := h
      exact ⟨_, fun w => by simp [S1.v, SV.v, binOp, Op.intDiv, hb], h.out⟩
    · obtain ⟨hb, h⟩ := h
      exact ⟨_, fun w => by simp [S1.v, SV.v, binOp, Op.intDiv, hb], h.out⟩
    · simp only [bitI] at h; exact ⟨_, fun w => by simp [S1.v, SV.v, binOp, Op.intBits], h.out⟩
    · simp only [bitI] at h; exact ⟨_, fun w => by simp [S1.v, SV.v, binOp, Op.intBits], h.out⟩
    · simp only [bitI] at h; exact ⟨_, fun w => by simp [S1.v, SV.v, binOp, Op.intBits], h.out⟩
    · simp only [bitI] at h; exact ⟨_, fun w => by simp [S1.v, SV.v, binOp, Op.intBits], h.out⟩
    · obtain ⟨c, hc, h⟩ := kB_some h
      exact ⟨_, run_cmpI hc T, h⟩
  · rename_i a b
    split at h
    · obtain ⟨hb, h⟩ := h
      refine ⟨_, fun w => ?_, h⟩
      have : ¬ (((a.size + b.size : Nat) : Int) > IntKind.i64.max) := by omega
      simp only [S1.v, SV.v, binOp, Op.stringOp, this, if_false, Sem.run_pure]
    · obtain ⟨c, hc, h⟩ := kB_some h
      exact ⟨_, run_cmpS hc T, h⟩
  all_goals first
    | (cases h; done)
    | (split at h <;> first
        | (cases h; done)
        | (rename_i hT; obtain ⟨c, hc, h⟩ := kB_some h; exact ⟨.s (.bool c), fun w => run_eqB hT hc w, h⟩))


theorem eqGuard_nil {op : BinOp} {T : TypeId} {x y : Operand} {a b : Value} (hy : b ≠ .nilIface) (ha : ∀ cs, b ≠ .agg cs) (w : World) :
    (eqGuard op T x y a b).run P w = .ok () w := by
  unfold eqGuard
  split
  all_goals first
    | rfl
    | (rw [if_neg (by simp)]
       split
       · exact absurd rfl hy
       · exact absurd rfl (ha _)
       · rfl)

theorem bOp_guard {op : BinOp} {T : TypeId} {x y : S1} {o1 o2 : Operand} (h : bOp P op T x y K) (w : World) : (eqGuard op T o1 o2 x.v y.v).run P w = .ok () w := by
  unfold bOp at h
  split at h <;> first
    | (cases h; done)
    | (exact eqGuard_nil (by simp [S1.v]) (by simp [S1.v]) w)

theorem run_eqB' {op : BinOp} {b c : Bool} {x y : Value} {T : TypeId} (he : ∀ w, (binOp .eql T x y).run P w = .ok (.bool b) w) (hn : ∀ w, (binOp .neq T x y).run P w = .ok (.bool !b) w)
    (hc : eqB op b = some c) (w : World) : (binOp op T x y).run P w = .ok (.bool c) w := by
  cases op <;> simp only [eqB] at hc <;> cases hc
  · exact he w
  · exact hn w

theorem pointee_of {T e : TypeId} (h : P.underlying T = some (.pointer e)) : P.underlying T = some (.pointer (P.pointee T)) := by
  rw [h]; simp [Program.pointee, h]

theorem run_equalIn_fn (d : Nat) {T : TypeId} {x : Value} {b : Bool} {ps rs : Array TypeId} {vr : Bool} (h : P.underlying T = some (.func ps rs vr)) (hx : (x = .nilFunc ∧ b = true) ∨ (∃ f a c, x = .func f a c ∧ b = false)) (w : World) :
    (Op.equalIn (d + 1) T x .nilFunc).run P w = .ok b w := by
  rcases hx with ⟨rfl, rfl⟩ | ⟨f, a, c, rfl, rfl⟩ <;> (unfold Op.equalIn; simp [underlying, h, Result.andThen])

theorem run_eql_fn {T : TypeId} {x : Value} {b : Bool} {ps rs : Array TypeId} {vr : Bool} (h : P.underlying T = some (.func ps rs vr)) (hx : (x = .nilFunc ∧ b = true) ∨ (∃ f a c, x = .func f a c ∧ b = false)) (w : World) :
    (Op.equal T x .nilFunc).run P w = .ok b w := run_equalIn_fn 9999 h hx w

theorem nOp_run {op : BinOp} {T : TypeId} {x : S1} {y y' : Operand} {a : Act} (h : nOp P op T x y K) :
    ∃ sv, (∀ w, (do eqGuard op T y' y x.v (a.eval y); binOp op T x.v (a.eval y) : Sem Value).run P w = .ok sv.v w) ∧ K sv := by
  suffices hs : ∃ sv, (∀ w, (eqGuard op T y' y x.v (a.eval y)).run P w = .ok () w) ∧ (∀ w, (binOp op T x.v (a.eval y)).run P w = .ok sv.v w) ∧ K sv by
    obtain ⟨sv, hg, h1, h2⟩ := hs
    exact ⟨sv, fun w => by simp only [Sem.run_bind, hg, Result.andThen, h1], h2⟩
  unfold nOp at h
  split at h
  · rename_i p e hT
    obtain ⟨c, hc, h⟩ := kB_some h
    exact ⟨.s (.bool c), fun w => eqGuard_nil (by simp [Act.eval]) (by simp [Act.eval]) w, fun w => run_eqB' (b := p.isNone) (fun w => run_eql_pointer_nil w T p (pointee_of hT)) (fun w => run_neq_pointer_nil w T p (pointee_of hT)) hc w, h⟩
  · rename_i p e hT
    obtain ⟨c, hc, h⟩ := litB_some h
    exact ⟨.s (.lit c), fun w => eqGuard_nil (by simp [Act.eval]) (by simp [Act.eval]) w, fun w => run_eqB' (b := (some p).isNone) (fun w => run_eql_pointer_nil w T (some p) (pointee_of hT)) (fun w => run_neq_pointer_nil w T (some p) (pointee_of hT)) hc w, h⟩
  · rename_i s e hT
    obtain ⟨c, hc, h⟩ := kB_some h
    refine ⟨.s (.bool c), fun w => eqGuard_nil (by simp [Act.eval]) (by simp [Act.eval]) w, fun w => run_eqB' (b := s.p.isNone) (fun w => ?_) (fun w => ?_) hc w, h⟩
    · have := run_equal_slice_nil w T e s.p s.len s.cap hT
      simp only [S1.v, Act.eval, binOp, Sem.run_bind, this, Result.andThen, Sem.run_pure]
    · exact run_neq_slice_nil w T e s.p s.len s.cap hT
  · rename_i r k e hT
    obtain ⟨c, hc, h⟩ := kB_some h
    refine ⟨.s (.bool c), fun w => eqGuard_nil (by simp [Act.eval]) (by simp [Act.eval]) w, fun w => run_eqB' (b := r.isNone) (fun w => ?_) (fun w => ?_) hc w, h⟩
    · have := run_equal_map_nil w T k e r hT
      simp only [S1.v, Act.eval, binOp, Sem.run_bind, this, Result.andThen, Sem.run_pure]
    · exact run_neq_map_nil w T k e r hT
  · rename_i v ps rs vr hT
    obtain ⟨hv⟩ := h
    have : ∃ b, ((v = .nilFunc ∧ b = true) ∨ (∃ f a c, v = .func f a c ∧ b = false)) ∧ kB K (eqB op b) := by
      rcases hv with ⟨h1, h2⟩ | ⟨f, a, c, h1, h2⟩
      · exact ⟨true, .inl ⟨h1, rfl⟩, h2⟩
      · exact ⟨false, .inr ⟨f, a, c, h1, rfl⟩, h2⟩
    obtain ⟨b, hb, h⟩ := this
    obtain ⟨c, hc, h⟩ := kB_some h
    have he := run_eql_fn hT hb
    refine ⟨.s (.bool c), fun w => eqGuard_nil (by simp [Act.eval]) (by simp [Act.eval]) w, fun w => run_eqB' (b := b) (fun w => ?_) (fun w => ?_) hc w, h⟩
    all_goals rcases hb with ⟨rfl, rfl⟩ | ⟨f, a, c, rfl, rfl⟩ <;> simp only [S1.v, Act.eval, binOp, Sem.run_bind, he, Result.andThen, Sem.run_pure]
  · rename_i f fa fc ps rs vr hT
    obtain ⟨c, hc, h⟩ := litB_some h
    have he := run_eql_fn hT (x := .func f fa.toArray fc.toArray) (b := false) (.inr ⟨_, _, _, rfl, rfl⟩)
    refine ⟨.s (.lit c), fun w => eqGuard_nil (by simp [Act.eval]) (by simp [Act.eval]) w, fun w => run_eqB' (b := false) (fun w => ?_) (fun w => ?_) hc w, h⟩
    all_goals simp only [S1.v, Act.eval, binOp, Sem.run_bind, he, Result.andThen, Sem.run_pure]
  · cases h

/-! ### struct literals -/

theorem splice_v : ∀ (vs : List S1) (cells : List S1) (off : Nat), ((splice cells off vs).map S1.v).toArray = (vs.map S1.v).toArray.zipIdx.foldl (fun cs (c, j) => cs.setIfInBounds (off + j) c) (cells.map S1.v).toArray := by
  intro vs
  suffices H : ∀ (vs : List S1) (k : Nat) (cells : List S1) (off : Nat), ((splice cells (off + k) vs).map S1.v).toArray = ((vs.map S1.v).zipIdx k).foldl (fun cs (c, j) => cs.setIfInBounds (off + j) c) (cells.map S1.v).toArray by
    intro cells off
    have := H vs 0 cells off
    simpa using this
  intro vs
  induction vs with
  | nil => intro k cells off; simp [splice]
  | cons v r ih =>
    intro k cells off
    have := ih (k + 1) (cells.set (off + k) v) off
    simp only [splice, List.map_cons, List.zipIdx_cons, List.foldl_cons]
    rw [show off + k + 1 = off + (k + 1) by omega, this]
    congr 1
    simp [List.map_set]

def One (v : Value) : Prop := v.oneCell' = true

theorem One.cells {v : Value} (h : One v) : v.cells = #[v] := by cases v <;> first | rfl | (cases h; done)

theorem S1.one {x : S1} (h : ∀ v, x = .val v → One v) (hu : x ≠ .undef) : One x.v := by
  cases x <;> first | rfl | exact h _ rfl | exact absurd rfl hu

theorem reqOne_iff {l : List Value} {K : Prop} (h : reqOne l K) : (∀ v ∈ l, One v) ∧ K := by
  cases l with
  | nil => exact ⟨fun v hv => (by cases hv), h⟩
  | cons v r => exact ⟨h.1, h.2⟩

theorem SV.cells_v {v : SV} {l : List S1} (h : v.cells = some l) (ho : ∀ x, v = .s (.val x) → One x) : v.v.cells = (l.map S1.v).toArray := by
  cases v with
  | s x =>
    simp only [SV.cells] at h
    split at h
    · cases h
    · cases h
      rename_i hu
      have : One x.v := S1.one (fun v hv => ho v (by rw [hv])) hu
      exact this.cells
  | agg m => simp only [SV.cells] at h; cases h; rfl
  | tup m => cases h

theorem fillL_v {place : Nat → Option (Nat × Nat)} : ∀ {parts : List (Nat × SV)} {cells l : List S1}, fillL place cells parts = some l → (∀ v ∈ needOne parts, One v) →
    Instr.fill place (cells.map S1.v).toArray (parts.map fun p => (p.1, p.2.v)) = some (l.map S1.v).toArray := by
  intro parts
  induction parts with
  | nil => intro cells l h _; simp only [fillL] at h; cases h; rfl
  | cons p rest ih =>
    obtain ⟨i, v⟩ := p
    intro cells l h ho
    simp only [fillL] at h
    split at h
    · rename_i off size vs hp hv
      split at h
      · cases h
      · rename_i hc
        simp only [Bool.or_eq_true, decide_eq_true_eq, not_or] at hc
        have h1 : v.v.cells = (vs.map S1.v).toArray := SV.cells_v hv fun x hx => ho x (by subst hx; exact List.mem_cons_self)
        have h2 : ∀ x ∈ needOne rest, One x := fun x hx => ho x (by
          unfold needOne
          split <;> simp_all)
        have := ih h h2
        simp only [List.map_cons, Instr.fill, hp, h1]
        rw [if_neg (by simp only [List.size_toArray, List.length_map, Bool.or_eq_true, decide_eq_true_eq, not_or]; exact hc), ← splice_v]
        exact this
    · cases h

end
end Go.Proofs.Ytocmjngleknlbaa.K

/-
  What the plain meaning tells holds of the model's runs: each operation that reads alone.
-/
namespace Go.Proofs.Ytocmjngleknlbaa.K
open Go
section
variable {P : Program} {S : World → Prop} {K : SV → Prop} {fr : Fr} {a : Act}

theorem run_underlying {t : TypeId} {d : TypeDesc} (h : P.underlying t = some d) (w : World) : (underlying t).run P w = .ok d w := by simp [underlying, h]

theorem run_typeInfo {t : TypeId} {i : TypeInfo} (h : P.info? t = some i) (w : World) : (typeInfo t).run P w = .ok i w := by simp [typeInfo, h]

theorem szOf_some {t : TypeId} {n : Nat} (h : szOf P t = some n) : ∃ i, P.info? t = some i ∧ i.size = n := by
  unfold szOf at h
  split at h
  · rename_i i hi; cases h; exact ⟨i, hi, rfl⟩
  · cases h

theorem run_sizeOf {t : TypeId} {n : Nat} (h : szOf P t = some n) (w : World) : (sizeOf t).run P w = .ok n w := by
  obtain ⟨i, hi, rfl⟩ := szOf_some h
  simp [sizeOf, run_typeInfo hi, Result.andThen]

theorem run_isAgg_true {t : TypeId} (h : isAggB P t = true) (w : World) : (isAgg t).run P w = .ok true w := by
  unfold isAggB at h
  split at h
  · rename_i fs hd; simp [isAgg, run_underlying hd, Result.andThen]
  · rename_i n e hd; simp [isAgg, run_underlying hd, Result.andThen]
  · cases h

theorem run_isAgg_false {t : TypeId} {n : Nat} (h : isAggB P t = false) (hs : ∃ d, P.underlying t = some d) (w : World) : (isAgg t).run P w = .ok false w := by
  obtain ⟨d, hd⟩ := hs
  unfold isAggB at h
  simp only [hd] at h
  cases d <;> simp_all [isAgg, underlying, Result.andThen]

theorem run_load_some {w : World} {x : Addr} {v : Value} (h : w.cell? x = some v) : (load x).run P w = .ok v w := by simp [h]

theorem run_loadCellsFrom {w : World} {x : Addr} : ∀ (vs : List Value) (i : Nat) (acc : Array Value), (∀ j v, vs[j]? = some v → w.cell? (x.add (i + j)) = some v) →
    (loadCellsFrom x i vs.length acc).run P w = .ok (acc ++ vs.toArray) w
  | [], i, acc, _ => by simp [loadCellsFrom]
  | v :: r, i, acc, h => by
    have h0 : w.cell? (x.add i) = some v := by simpa using h 0 v rfl
    have ih := run_loadCellsFrom r (i + 1) (acc.push v) (fun j u hj => by have := h (j + 1) u hj; rwa [show i + 1 + j = i + (j + 1) by omega])
    simp only [List.length_cons, loadCellsFrom, Sem.run_bind, run_load_some h0, Result.andThen, ih]
    simp

theorem run_loadCells {w : World} {x : Addr} {vs : List Value} (h : rdN w x vs) : (loadCells x vs.length).run P w = .ok vs.toArray w := by
  unfold loadCells
  rw [run_loadCellsFrom vs 0 #[] (fun j v hj => by simpa using h j v hj)]
  simp

theorem shOf_s {t : TypeId} {x : Sc} (h : shOf P t = some (.s x)) : isAggB P t = false ∧ ∃ d, P.underlying t = some d := by
  unfold shOf at h
  split at h
  · split at h <;> cases h
  · rename_i ha
    refine ⟨by simpa using ha, ?_⟩
    cases hd : P.underlying t with
    | none => simp [shF, hd] at h
    | some d => exact ⟨d, rfl⟩

theorem shOf_agg {t : TypeId} {l : List Sc} (h : shOf P t = some (.agg l)) : isAggB P t = true := by
  unfold shOf at h
  split at h
  · assumption
  · split at h <;> cases h

theorem run_loadVar {w : World} {t : TypeId} {h : Sh} {x : Addr} {y : h.T} (ht : shOf P t = some h)
    (hs : okSz h (szOf P t) = true) (hr : rdSh w x h y) : (loadVar t x).run P w = .ok (h.mk y).sv.v w := by
  cases h with
  | s s =>
    obtain ⟨h1, h2⟩ := shOf_s ht
    have hr' : w.cell? x = some (s.v y) := hr
    simp [loadVar, run_isAgg_false (n := 0) h1 h2, Result.andThen, Sh.mk, S2.sv, SV.v, Sc.mk_v, hr']
  | agg l =>
    have h1 := shOf_agg ht
    cases hn : szOf P t with
    | none => rw [hn] at hs; cases hs
    | some n =>
      rw [hn] at hs
      have hn' : n = (ScsV l y).length := by rw [ScsV_length]; simpa [okSz] using hs
      have hr' : rdN w x (ScsV l y) := hr
      simp only [loadVar, Sem.run_bind, run_isAgg_true h1, Result.andThen, if_true, run_sizeOf hn, hn', run_loadCells hr', Sem.run_pure]
      simp [Sh.mk, S2.sv, SV.v, ScsMk_v]

theorem placesOf_run : ∀ {fs : List Field} {pl : List (Nat × Nat)}, placesOf P fs = some pl → ∀ w, (fs.mapM fun f => do pure (f.offset, ← sizeOf f.type) : Sem (List (Nat × Nat))).run P w = .ok pl w
  | [], _, h, w => by simp only [placesOf] at h; cases h; simp
  | f :: r, _, h, w => by
    simp only [placesOf] at h
    split at h
    · rename_i s l hs hl
      cases h
      simp only [List.mapM_cons, Sem.run_bind, run_sizeOf hs, Result.andThen, Sem.run_pure, placesOf_run hl]
    · cases h

theorem zeroOf_some {t : TypeId} {z : List S1} (h : zeroOf P t = some z) : ∃ i v, P.info? t = some i ∧ i.zero = some v ∧ v.cells = (z.map S1.v).toArray := by
  unfold zeroOf at h
  split at h
  · rename_i i hi
    split at h
    · rename_i v hv
      exact ⟨i, v, hi, hv, by rw [ofVs_v h]⟩
    · cases h
  · cases h

theorem run_zeroValue {t : TypeId} {i : TypeInfo} {v : Value} (hi : P.info? t = some i) (hz : i.zero = some v) (w : World) : (zeroValue t).run P w = .ok v w := by
  simp [zeroValue, run_typeInfo hi, hz, Result.andThen]

theorem run_build_struct {t : TypeId} {fs : Array Field} {z : List S1} {ps : List (Nat × SV)} {pl : List (Nat × Nat)} {l : List S1} (ht : P.underlying t = some (.struct fs)) (hz : zeroOf P t = some z)
    (hp : placesOf P fs.toList = some pl) (hf : fillL (fun i => pl[i]?) z ps = some l) (ho : ∀ v ∈ needOne ps, One v) (w : World) :
    (Instr.build t (ps.map fun p => (p.1, p.2.v)).toArray).run P w = .ok (.agg (l.map S1.v).toArray) w := by
  obtain ⟨i, v, hi, hv, hc⟩ := zeroOf_some hz
  have h1 := fillL_v hf ho
  have h2 := placesOf_run hp
  have h3 : ∀ w, (fs.mapM fun f => do pure (f.offset, ← sizeOf f.type) : Sem (Array (Nat × Nat))).run P w = .ok pl.toArray w := fun w => by
    rw [Array.mapM_eq_mapM_toList, Sem.run_map, h2]; rfl
  have h4 : (fun (x : Nat) => pl.toArray[x]?) = fun x => pl[x]? := by funext x; simp
  simp only [Instr.build, Sem.run_bind, run_zeroValue hi hv, Result.andThen, run_underlying ht, h3, hc]
  simp only [h4, h1, List.toList_toArray]
  rfl

theorem run_build_array {t e : TypeId} {n size : Nat} {z : List S1} {ps : List (Nat × SV)} {l : List S1} (ht : P.underlying t = some (.array n e)) (hz : zeroOf P t = some z)
    (hs : szOf P e = some size) (hf : fillL (fun i => some (i * size, size)) z ps = some l) (ho : ∀ v ∈ needOne ps, One v) (w : World) :
    (Instr.build t (ps.map fun p => (p.1, p.2.v)).toArray).run P w = .ok (.agg (l.map S1.v).toArray) w := by
  obtain ⟨i, v, hi, hv, hc⟩ := zeroOf_some hz
  have h1 := fillL_v hf ho
  simp only [Instr.build, Sem.run_bind, run_zeroValue hi hv, Result.andThen, run_underlying ht, run_sizeOf hs, hc, List.toList_toArray, h1]
  rfl

theorem foldMn_run (mx : Bool) (k : IntKind) (w : World) : ∀ {r : List SV} {n m : Int}, foldMn mx k n r = some m →
    ((r.map SV.v).foldlM (if mx then Builtin.max2 else Builtin.min2) (.int k n)).run P w = .ok (.int k m) w := by
  intro r
  induction r with
  | nil => intro n m h; simp only [foldMn] at h; cases h; simp
  | cons x r ih =>
    intro n m h
    unfold foldMn at h
    split at h
    · rename_i hh; cases hh
    · rename_i k' m' r' hh
      cases hh
      have := ih h
      cases mx <;> simp only [List.map_cons, List.foldlM_cons, Sem.run_bind, SV.v, S1.v, Bool.false_eq_true, if_false, if_true, Builtin.max2, Builtin.min2, Sem.run_pure, Result.andThen] at this ⊢ <;> exact this
    · cases h

end
end Go.Proofs.Ytocmjngleknlbaa.K
