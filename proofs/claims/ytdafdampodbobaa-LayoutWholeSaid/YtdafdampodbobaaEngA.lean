/- The slim code, the abstract heap and the evaluator: definitions only. -/
import Derived.Calls
import Derived.Defers
import Derived.Recover
import Derived.OrdersHeld
namespace Go.Eng
set_option linter.unusedSimpArgs false
set_option linter.unusedVariables false

/-! ### Trees keyed by numbers -/
inductive T (α : Type) where
  | leaf
  | node (v : Option α) (l r : T α)

def T.get {α : Type} : T α → Nat → Option α
  | .leaf, _ => none
  | .node v l r, n => cond (Nat.beq n 0) v (cond (Nat.beq (n % 2) 1) (l.get (n / 2)) (r.get (n / 2 - 1)))

def T.setA {α : Type} : Nat → T α → Nat → α → T α
  | 0, t, _, _ => t
  | f + 1, t, n, x =>
    match t with
    | .leaf => cond (Nat.beq n 0) (.node (some x) .leaf .leaf)
        (cond (Nat.beq (n % 2) 1) (.node none (T.setA f .leaf (n / 2) x) .leaf) (.node none .leaf (T.setA f .leaf (n / 2 - 1) x)))
    | .node v l r => cond (Nat.beq n 0) (.node (some x) l r)
        (cond (Nat.beq (n % 2) 1) (.node v (T.setA f l (n / 2) x) r) (.node v l (T.setA f r (n / 2 - 1) x)))

def T.set {α : Type} (t : T α) (n : Nat) (x : α) : T α := T.setA (n + 1) t n x

/-! ### Slim code -/
inductive SArg where
  | t (i : Nat)
  | c (v : Value)
  deriving Inhabited

inductive SCallee where
  | fn (f : FuncId)
  | val (x : SArg)
  | inv (x : SArg) (tbl : List (TypeId × FuncId))
  deriving Inhabited

/-- How two values are held against one another. -/
inductive EqC where
  | prim | bl | ptr | slice | iface | fnc | map
  | flat (ks : List Nat)
  deriving Inhabited

inductive SOp where
  | mov (x : SArg)
  | pick (c a b : SArg)
  | new (cells : List Value)
  | box (x : SArg)
  | build (zero : List Value) (parts : List (Nat × Nat × SArg))
  | mkArr (sz : Nat) (zeros : List Value) (len : Nat) (parts : List (Nat × Nat × SArg))
  | load (agg : Option Nat) (a : SArg)
  | store (n : Nat) (a x : SArg)
  | nilck (x : SArg)
  | bin (op : BinOp) (cls : EqC) (x y : SArg)
  | un (op : UnOp) (x : SArg)
  | iface (t : TypeId) (x : SArg)
  | mkfn (f : FuncId) (first cap : List SArg)
  | slice (sz : Nat) (x : SArg) (lo hi mx : Option SArg)
  | faddr (off : Nat) (x : SArg)
  | field (agg : Option Nat) (off : Nat) (x : SArg)
  | iaddr (sz : Nat) (x i : SArg)
  | tyC (t : TypeId) (zero : Value) (ok : Bool) (x : SArg)
  | ext (i : Nat) (x : SArg)
  | call (c : SCallee) (args : List SArg)
  | append (sz bytes : Nat) (s x : SArg)
  | len (x : SArg)
  | min (l : List SArg)
  | max (l : List SArg)
  | clear (sz : Nat) (zero : List Value) (x : SArg)
  deriving Inhabited

structure SIns where
  dst : Option Nat
  op : SOp
  guard : Option (Nat × Bool)
  fz : Bool := false
  ix : Nat := 0
  bef : List Nat := []
  deriving Inhabited

inductive SCode where
  | skip
  | ops (l : List SIns)
  | draw (l : List SIns)
  | seq (a b : SCode)
  | cond (c : SArg) (a b : SCode)
  | block (id : Nat) (b : SCode)
  | loop (b : SCode)
  | exit (id : Nat)
  | ret
  deriving Inhabited

inductive SRes where
  | tmp (t : Nat)
  | cell (agg : Option Nat) (t : Nat)
  deriving Inhabited

structure SFunc where
  n : Nat
  body : SCode
  res : List SRes
  deriving Inhabited

/-! ### Values that bear no address -/
def closedV : Nat → Value → Bool
  | 0, _ => false
  | n + 1, v =>
    match v with
    | .bool _ | .int _ _ | .float _ _ | .string _ | .pointer none | .slice none 0 0 | .map none | .nilFunc | .nilIface => true
    | .iface _ v => closedV n v
    | .agg cs => cs.toList.all (closedV n)
    | .tuple cs => cs.toList.all (closedV n)
    | .func (.func _) a b => a.toList.all (closedV n) && b.toList.all (closedV n)
    | _ => false

def isClosed (v : Value) : Bool := closedV 4 v

/-- May the value stand in one cell? -/
def oneCell : Value → Bool
  | .agg _ | .tuple _ => false
  | _ => true

/-! ### The abstract heap -/
inductive AObj where
  | cells (c : List Value) (sz : Nat) (own : Bool)
  | dead
  deriving Inhabited

/-- 'fz': blocks that may not be written for now. -/
structure Hp where
  t : T AObj
  next : Nat
  fz : List Nat := []

def Hp.alloc (h : Hp) (c : List Value) (sz : Nat) : Nat × Hp := (h.next, ⟨h.t.set h.next (.cells c sz true), h.next + 1, h.fz⟩)

def Hp.put (h : Hp) (b : Nat) (o : AObj) : Hp := ⟨h.t.set b o, h.next, h.fz⟩

def Hp.held (h : Hp) (b : Nat) : Bool := h.fz.any (Nat.beq b)

abbrev Env := T Value

structure St where
  e : Env
  h : Hp

inductive Flow where
  | next
  | exit (id : Nat)
  | ret

/-- What a callee is to be entered with. -/
def arg (e : Env) : SArg → Option Value
  | .t i => e.get i
  | .c v => some v

def args (e : Env) : List SArg → Option (List Value)
  | [] => some []
  | x :: r =>
    match arg e x with
    | none => none
    | some v =>
      match args e r with
      | none => none
      | some l => some (v :: l)

def argO (e : Env) : Option SArg → Option (Option Value)
  | none => some none
  | some x =>
    match arg e x with
    | some v => some (some v)
    | none => none

def fillA (cells : List Value) : List (Nat × Nat × Value) → Option (List Value)
  | [] => some cells
  | (off, size, v) :: r =>
    let vs := v.cells.toList
    cond (Nat.beq vs.length size && Nat.ble (off + size) cells.length)
      (fillA (cells.take off ++ vs ++ cells.drop (off + size)) r)
      none

def parts (e : Env) : List (Nat × Nat × SArg) → Option (List (Nat × Nat × Value))
  | [] => some []
  | (o, s, x) :: r =>
    match arg e x with
    | none => none
    | some v =>
      match parts e r with
      | none => none
      | some l => some ((o, s, v) :: l)

/-- n cells of a live block from a place on. -/
def rd (h : Hp) (b o n : Nat) : Option (List Value) :=
  match h.t.get b with
  | some (.cells c _ _) => cond (Nat.ble (o + n) c.length) (some ((c.drop o).take n)) none
  | _ => none

def rd1 (h : Hp) (b o : Nat) : Option Value :=
  match h.t.get b with
  | some (.cells c _ _) => c[o]?
  | _ => none

/-- Cells are written: a live block of one's own. -/
def wr (h : Hp) (b o : Nat) (vs : List Value) : Option Hp :=
  match h.t.get b with
  | some (.cells c sz true) =>
    cond (Nat.ble (o + vs.length) c.length && vs.all oneCell && !h.held b)
      (some (h.put b (.cells (c.take o ++ vs ++ c.drop (o + vs.length)) sz true)))
      none
  | _ => none

def wr1 (h : Hp) (b o : Nat) (v : Value) : Option Hp :=
  match h.t.get b with
  | some (.cells c sz true) =>
    cond (Nat.blt o c.length && oneCell v && !h.held b) (some (h.put b (.cells (c.set o v) sz true))) none
  | _ => none

def sLoad (h : Hp) (agg : Option Nat) (a : Value) : Option Value :=
  match a with
  | .pointer (some ⟨b, o, none⟩) =>
    match agg with
    | none => rd1 h b o
    | some n =>
      match rd h b o n with
      | some l => some (.agg l.toArray)
      | none => none
  | _ => none

def sStore (h : Hp) (n : Nat) (a x : Value) : Option Hp :=
  match a with
  | .pointer (some ⟨b, o, none⟩) =>
    match x with
    | .agg cs => cond (Nat.beq cs.toList.length n) (wr h b o cs.toList) none
    | x => cond (Nat.beq n 1) (wr1 h b o x) none
  | _ => none

def primEq : Value → Value → Option Bool
  | .int k a, .int k' b => cond (decide (k = k')) (some (a == b)) none
  | .string a, .string b => some (a.data.toList == b.data.toList)
  | _, _ => none

/-- Are two values of a kind (0: bool, 1: a number, 2: a string) the same? -/
def kindEq : Nat → Value → Value → Option Bool
  | 0, .bool a, .bool b => some (a == b)
  | 1, .int k a, .int k' b => cond (decide (k = k')) (some (a == b)) none
  | 2, .string a, .string b => some (a.data.toList == b.data.toList)
  | _, _, _ => none

def primEqs : List Nat → List Value → List Value → Option Bool
  | [], [], [] => some true
  | k :: ks, a :: x, b :: y =>
    match kindEq k a b with
    | some true => primEqs ks x y
    | some false => some false
    | none => none
  | _, _, _ => none

def eqV (cls : EqC) (x y : Value) : Option Bool :=
  match cls with
  | .prim => primEq x y
  | .bl =>
    match x, y with
    | .bool a, .bool b => some (a == b)
    | _, _ => none
  | .flat ks =>
    match x, y with
    | .agg a, .agg b => cond (Nat.beq a.toList.length ks.length && Nat.beq b.toList.length ks.length) (primEqs ks a.toList b.toList) none
    | _, _ => none
  | .ptr =>
    match x, y with
    | .pointer none, .pointer none => some true
    | .pointer none, .pointer (some _) => some false
    | .pointer (some _), .pointer none => some false
    | _, _ => none
  | .slice =>
    match x, y with
    | .slice none _ _, .slice none _ _ => some true
    | .slice none _ _, .slice (some _) _ _ => some false
    | .slice (some _) _ _, .slice none _ _ => some false
    | _, _ => none
  | .iface =>
    match x, y with
    | .nilIface, .nilIface => some true
    | .nilIface, .iface _ _ => some false
    | .iface _ _, .nilIface => some false
    | _, _ => none
  | .fnc =>
    match x, y with
    | .nilFunc, .nilFunc => some true
    | .nilFunc, .func _ _ _ => some false
    | .func _ _ _, .nilFunc => some false
    | _, _ => none
  | .map =>
    match x, y with
    | .map none, .map none => some true
    | .map none, .map (some _) => some false
    | .map (some _), .map none => some false
    | _, _ => none

def pureV : Sem Value → Option Value
  | .pure v => cond (isClosed v) (some v) none
  | _ => none

def sArith (op : BinOp) (x y : Value) : Option Value :=
  match x, y with
  | .int _ _, .int _ _ => pureV (binOp op 0 x y)
  | _, _ => none

def sBin (op : BinOp) (cls : EqC) (x y : Value) : Option Value :=
  match op with
  | .eql =>
    match eqV cls x y with
    | some b => some (.bool b)
    | none => none
  | .neq =>
    match eqV cls x y with
    | some b => some (.bool (!b))
    | none => none
  | op => sArith op x y

def sUn (op : UnOp) (x : Value) : Option Value :=
  match x with
  | .int _ _ => pureV (Op.unary op x)
  | .bool _ => pureV (Op.unary op x)
  | _ => none

/-- A slice's elements' cells. -/
def sliceCells (h : Hp) (sz : Nat) : Value → Option (List Value)
  | .slice none 0 0 => some []
  | .slice (some ⟨b, o, none⟩) n _ => cond (Nat.beq n 0) (some []) (rd h b o (n * sz))
  | _ => none

def natOf : Value → Option Nat
  | .int _ (.ofNat n) => some n
  | _ => none

def optNat (d : Nat) : Option Value → Option Nat
  | none => some d
  | some v => natOf v

/-- How many elements a slice may surely have from its beginning on: with an exact capacity, that; else what its block shows. -/
def roomOf (n o sz cf : Nat) : Nat :=
  match cf with
  | k + 1 => k
  | 0 => (n - o) / sz

def sSlice (h : Hp) (sz : Nat) (x : Value) (lo hi mx : Option Value) : Option Value :=
  match x with
  | .slice base len cf =>
    match optNat 0 lo with
    | none => none
    | some l =>
      match optNat len hi with
      | none => none
      | some u =>
        match base with
        | none =>
          match optNat 0 mx with
          | some m => cond (Nat.beq l 0 && Nat.beq u 0 && Nat.beq m 0) (some (.slice none 0 0)) none
          | none => none
        | some ⟨b, o, none⟩ =>
          match h.t.get b with
          | some (.cells c s _) =>
            match mx with
            | none =>
              cond (Nat.beq s sz && Nat.ble 1 sz && Nat.ble l u && Nat.ble u (roomOf c.length o sz cf)) (some (.slice (some ⟨b, o + l * sz, none⟩) (u - l) (match cf with | k + 1 => k - l + 1 | 0 => 0))) none
            | some v =>
              match natOf v with
              | none => none
              | some m =>
                cond (Nat.beq s sz && Nat.ble 1 sz && Nat.ble l u && Nat.ble u m && Nat.ble m (roomOf c.length o sz cf)) (some (.slice (some ⟨b, o + l * sz, none⟩) (u - l) (m - l + 1))) none
          | _ => none
        | _ => none
  | _ => none

def sAppend (h : Hp) (sz bytes : Nat) (s x : Value) : Option (Value × Hp) :=
  match x with
  | .slice _ n _ =>
   match sliceCells h sz x with
   | none => none
   | some xs =>
    match s with
    | .slice base len cf =>
      cond (Nat.beq n 0) (some (s, h)) <|
      cond (Nat.ble ((len + n) * bytes) 140737488355328 && Nat.ble 1 bytes && xs.all oneCell) (
        match base with
        | none => cond (Nat.beq len 0 && Nat.beq cf 0) (some (.slice (some ⟨h.next, 0, none⟩) n 0, (h.alloc xs sz).2)) none
        | some ⟨b, o, none⟩ =>
          match cf with
          | k + 1 =>
            cond (Nat.ble (len + n) k)
              (match wr h b (o + len * sz) xs with
               | some h' => some (.slice base (len + n) cf, h')
               | none => none)
              (match sliceCells h sz s with
               | some old => some (.slice (some ⟨h.next, 0, none⟩) (len + n) 0, (h.alloc (old ++ xs) sz).2)
               | none => none)
          | 0 =>
            match h.t.get b with
            | some (.cells c s' true) =>
              cond (Nat.beq s' sz && Nat.ble 1 sz && Nat.ble (o + len * sz) c.length && (Nat.blt o c.length || Nat.beq c.length 0) && !h.held b)
                (cond (Nat.ble (o + (len + n) * sz) c.length)
                  (match wr h b (o + len * sz) xs with
                   | some h' => some (.slice base (len + n) 0, h')
                   | none => none)
                  (some (.slice (some ⟨h.next, 0, none⟩) (len + n) 0, ((h.put b .dead).alloc ((c.drop o).take (len * sz) ++ xs) sz).2)))
                none
            | _ => none
        | _ => none) none
    | _ => none
  | _ => none

def repl (l : List Value) : Nat → List Value
  | 0 => []
  | n + 1 => l ++ repl l n

def int2 (mx : Bool) (a b : Value) : Option Value :=
  match a, b with
  | .int k x, .int _ y => some (.int k (bif mx then (if y > x then y else x) else (if y < x then y else x)))
  | _, _ => none

def ints (mx : Bool) (a : Value) : List Value → Option Value
  | [] => some a
  | b :: r =>
    match int2 mx a b with
    | some c => ints mx c r
    | none => none

def minmax (mx : Bool) : List Value → Option Value
  | .int k x :: r => ints mx (.int k x) r
  | _ => none

def lookT (t : TypeId) : List (TypeId × FuncId) → Option FuncId
  | [] => none
  | (u, f) :: r => cond (Nat.beq t u) (some f) (lookT t r)

/-- Function and arguments of a call. -/
def target (e : Env) (c : SCallee) (xs : List SArg) : Option (FuncId × List Value) :=
  match args e xs with
  | none => none
  | some l =>
    match c with
    | .fn f => some (f, l)
    | .val x =>
      match arg e x with
      | some (.func (.func f) a b) => some (f, a.toList ++ l ++ b.toList)
      | _ => none
    | .inv x tbl =>
      match arg e x with
      | some (.iface t v) =>
        match lookT t tbl with
        | some f => some (f, v :: l)
        | none => none
      | _ => none

/-- The operations that call nothing. -/
def simple (op : SOp) (e : Env) (h : Hp) : Option (Value × Hp) :=
  match op with
  | .mov x =>
    match arg e x with
    | some v => some (v, h)
    | none => none
  | .pick c a b =>
    match arg e c with
    | some (.bool t) =>
      match arg e (bif t then a else b) with
      | some v => some (v, h)
      | none => none
    | _ => none
  | .new cells => some (.pointer (some ⟨h.next, 0, none⟩), (h.alloc cells 0).2)
  | .box x =>
    match arg e x with
    | some v => cond (v.cells.toList.all oneCell) (some (.pointer (some ⟨h.next, 0, none⟩), (h.alloc v.cells.toList 0).2)) none
    | none => none
  | .build zero ps =>
    match parts e ps with
    | some l =>
      match fillA zero l with
      | some c => some (.agg c.toArray, h)
      | none => none
    | none => none
  | .mkArr sz zeros len ps =>
    match parts e ps with
    | some l =>
      match fillA zeros l with
      | some c => some (.slice (some ⟨h.next, 0, none⟩) len 0, (h.alloc c sz).2)
      | none => none
    | none => none
  | .load agg a =>
    match arg e a with
    | some a =>
      match sLoad h agg a with
      | some v => some (v, h)
      | none => none
    | none => none
  | .store n a x =>
    match arg e a with
    | some a =>
      match arg e x with
      | some v =>
        match sStore h n a v with
        | some h' => some (undef, h')
        | none => none
      | none => none
    | none => none
  | .nilck x =>
    match arg e x with
    | some (.pointer (some a)) => some (.pointer (some a), h)
    | some (.iface t v) => some (.iface t v, h)
    | some (.func (.func f) a b) => some (.func (.func f) a b, h)
    | _ => none
  | .bin op cls x y =>
    match arg e x with
    | some a =>
      match arg e y with
      | some b =>
        match sBin op cls a b with
        | some v => some (v, h)
        | none => none
      | none => none
    | none => none
  | .un op x =>
    match arg e x with
    | some a =>
      match sUn op a with
      | some v => some (v, h)
      | none => none
    | none => none
  | .iface t x =>
    match arg e x with
    | some v => some (.iface t v, h)
    | none => none
  | .mkfn f first cap =>
    match args e first with
    | some a =>
      match args e cap with
      | some b => some (.func (.func f) a.toArray b.toArray, h)
      | none => none
    | none => none
  | .slice sz x lo hi mx =>
    match arg e x with
    | some v =>
      match argO e lo with
      | some lo =>
        match argO e hi with
        | some hi =>
          match argO e mx with
          | some mx =>
            match sSlice h sz v lo hi mx with
            | some v => some (v, h)
            | none => none
          | none => none
        | none => none
      | none => none
    | none => none
  | .faddr off x =>
    match arg e x with
    | some (.pointer (some ⟨b, o, none⟩)) => some (.pointer (some ⟨b, o + off, none⟩), h)
    | _ => none
  | .field agg off x =>
    match arg e x with
    | some (.agg cs) =>
      match agg with
      | none =>
        match cs.toList[off]? with
        | some v => some (v, h)
        | none => none
      | some n => cond (Nat.ble (off + n) cs.toList.length) (some (.agg ((cs.toList.drop off).take n).toArray, h)) none
    | _ => none
  | .iaddr sz x i =>
    match arg e x with
    | some (.slice (some ⟨b, o, none⟩) len _) =>
      match arg e i with
      | some (.int _ (.ofNat i)) => cond (Nat.blt i len) (some (.pointer (some ⟨b, o + i * sz, none⟩), h)) none
      | _ => none
    | _ => none
  | .tyC t zero ok x =>
    match arg e x with
    | some (.iface u v) =>
      cond (Nat.beq u t) (some (bif ok then .tuple #[v, .bool true] else v, h))
        (bif ok then some (.tuple #[zero, .bool false], h) else none)
    | some .nilIface => bif ok then some (.tuple #[zero, .bool false], h) else none
    | _ => none
  | .ext i x =>
    match arg e x with
    | some (.tuple vs) =>
      match vs.toList[i]? with
      | some v => some (v, h)
      | none => none
    | _ => none
  | .append sz bytes s x =>
    match arg e s with
    | some s =>
      match arg e x with
      | some x => sAppend h sz bytes s x
      | none => none
    | none => none
  | .len x =>
    match arg e x with
    | some (.slice _ n _) => some (goInt n, h)
    | _ => none
  | .min l =>
    match args e l with
    | some l =>
      match minmax false l with
      | some v => some (v, h)
      | none => none
    | none => none
  | .max l =>
    match args e l with
    | some l =>
      match minmax true l with
      | some v => some (v, h)
      | none => none
    | none => none
  | .clear sz zero x =>
    match arg e x with
    | some (.slice none _ _) => some (.tuple #[], h)
    | some (.slice (some ⟨b, o, none⟩) n _) =>
      cond (Nat.beq n 0) (some (.tuple #[], h))
        (cond (Nat.beq zero.length sz)
          (match wr h b o (repl zero n) with
           | some h' => some (.tuple #[], h')
           | none => none) none)
    | _ => none
  | _ => none

def putE (e : Env) (dst : Option Nat) (v : Value) : Env :=
  match dst with
  | some d => e.set d v
  | none => e

structure Ev where
  code : SCode → St → Option (Flow × St)
  call : FuncId → List Value → Hp → Option (Value × Hp)

/-- One instruction that is wanted. -/
def insV (r : Ev) (i : SIns) (s : St) : Option St :=
  match i.op with
  | .call c xs =>
    match target s.e c xs with
    | none => none
    | some (f, l) =>
      match r.call f l s.h with
      | some (v, h') => some ⟨putE s.e i.dst v, h'⟩
      | none => none
  | op =>
    match simple op s.e s.h with
    | some (v, h') => some ⟨putE s.e i.dst v, h'⟩
    | none => none

/-- Is it wanted? -/
def wantedS (i : SIns) (e : Env) : Option Bool :=
  match i.guard with
  | none => some true
  | some (t, w) =>
    match e.get t with
    | some (.bool b) => some (b == w)
    | some _ => some false
    | none => none

def runOps (r : Ev) : List SIns → St → Option St
  | [], s => some s
  | i :: l, s =>
    match wantedS i s.e with
    | none => none
    | some false => runOps r l ⟨putE s.e i.dst undef, s.h⟩
    | some true =>
      match insV r i s with
      | some s' => runOps r l s'
      | none => none

/-- The block of a load's address. -/
def loadB (i : SIns) (e : Env) : Option Nat :=
  match (match i.op with
    | .load _ a => arg e a
    | .slice _ x _ _ _ => arg e x
    | _ => none) with
  | some (.pointer (some ⟨b, _, none⟩)) => some b
  | some (.slice (some ⟨b, _, none⟩) _ _) => some b
  | _ => none

/-- A region that draws its order, by its plan. A block that a load has read may not be written till whoever may come ahead of the load has waited for it. -/
def runDraw (r : Ev) (base : List Nat) : List SIns → List (Nat × Nat) → St → Option St
  | [], _, s => some ⟨s.e, ⟨s.h.t, s.h.next, base⟩⟩
  | i :: l, fz, s =>
    match wantedS i s.e with
    | none => none
    | some false => runDraw r base l fz ⟨putE s.e i.dst undef, s.h⟩
    | some true =>
      let fz := fz.filter fun p => !(i.bef.any (Nat.beq p.1))
      match insV r i ⟨s.e, ⟨s.h.t, s.h.next, fz.map (·.2) ++ base⟩⟩ with
      | some s' =>
        bif i.fz then
          match loadB i s.e with
          | some b => runDraw r base l ((i.ix, b) :: fz) s'
          | none => runDraw r base l fz s'
        else runDraw r base l fz s'
      | none => none

def stepCode (r : Ev) (c : SCode) (s : St) : Option (Flow × St) :=
  match c with
  | .skip => some (.next, s)
  | .ops l =>
    match runOps r l s with
    | some s' => some (.next, s')
    | none => none
  | .draw l =>
    match runDraw r s.h.fz l [] s with
    | some s' => some (.next, s')
    | none => none
  | .seq a b =>
    match r.code a s with
    | some (.next, s') => r.code b s'
    | x => x
  | .cond c a b =>
    match arg s.e c with
    | some (.bool t) => r.code (bif t then a else b) s
    | _ => none
  | .block id b =>
    match r.code b s with
    | some (.exit i, s') => bif Nat.beq i id then some (.next, s') else some (.exit i, s')
    | x => x
  | .loop b =>
    match r.code b s with
    | some (.next, s') => r.code (.loop b) s'
    | x => x
  | .exit id => some (.exit id, s)
  | .ret => some (.ret, s)

def envOf : Nat → List Value → Env → Env
  | _, [], e => e
  | i, v :: l, e => envOf (i + 1) l (e.set i v)

def resV (e : Env) (h : Hp) : SRes → Option Value
  | .tmp t => e.get t
  | .cell agg t =>
    match e.get t with
    | some a => sLoad h agg a
    | none => none

def resVs (e : Env) (h : Hp) : List SRes → Option (List Value)
  | [] => some []
  | x :: r =>
    match resV e h x with
    | none => none
    | some v =>
      match resVs e h r with
      | some l => some (v :: l)
      | none => none

def pack : List Value → Value
  | [v] => v
  | l => .tuple l.toArray

def stepCall (F : FuncId → Option SFunc) (G : FuncId → List Value → Option Value) (r : Ev) (f : FuncId) (l : List Value) (h : Hp) : Option (Value × Hp) :=
  match G f l with
  | some v => some (v, h)
  | none =>
    match F f with
    | none => none
    | some fn =>
      cond (Nat.ble l.length fn.n)
        (match r.code fn.body ⟨envOf 0 l .leaf, h⟩ with
         | some (.next, s) | some (.ret, s) =>
           match resVs s.e s.h fn.res with
           | some vs => some (pack vs, s.h)
           | none => none
         | _ => none) none

/-- The evaluator. F: the functions' slim code; G: calls of which it is known that they answer a value, and turn nothing. -/
def ev (F : FuncId → Option SFunc) (G : FuncId → List Value → Option Value) : Nat → Ev
  | 0 => ⟨fun _ _ => none, fun _ _ _ => none⟩
  | n + 1 => ⟨stepCode (ev F G n), stepCall F G (ev F G n)⟩

end Go.Eng
