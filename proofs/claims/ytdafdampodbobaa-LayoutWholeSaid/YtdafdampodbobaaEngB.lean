/- From the model's code to slim code: a checked compiler. Definitions only. -/
import Derived.Test.YtdafdampodbobaaEngA
namespace Go.Eng
set_option linter.unusedSimpArgs false
set_option linter.unusedVariables false

def sArg : Operand → Option SArg
  | .tmp t => some (.t t)
  | .const v => bif isClosed v then some (.c v) else none
  | .func f => some (.c (.func (.func f) #[] #[]))
  | .global _ => none

def sArgs : List Operand → Option (List SArg)
  | [] => some []
  | x :: r =>
    match sArg x, sArgs r with
    | some a, some l => some (a :: l)
    | _, _ => none

def sArgO : Option Operand → Option (Option SArg)
  | none => some none
  | some x =>
    match sArg x with
    | some a => some (some a)
    | none => none

section
variable (P : Program)

/-- Cells of a type, and is it a struct or an array? -/
def aggOf (t : TypeId) : Option (Option Nat) :=
  match P.info? t, P.underlying t with
  | some i, some (.struct _) => some (some i.size)
  | some i, some (.array _ _) => some (some i.size)
  | some _, some _ => some none
  | _, _ => none

def sizeO (t : TypeId) : Option Nat := (P.info? t).map (·.size)

def zeroO (t : TypeId) : Option Value :=
  match P.info? t with
  | some i =>
    match i.zero with
    | some v => bif isClosed v && v.cells.toList.all oneCell && v.cells.toList.all isClosed then some v else none
    | none => none
  | none => none

def fieldsOf (t : TypeId) : Option (Array Field) :=
  match P.underlying t with
  | some (.struct fs) => some fs
  | _ => none

def sParts (place : Nat → Option (Nat × Nat)) : List (Nat × Operand) → Option (List (Nat × Nat × SArg))
  | [] => some []
  | (i, x) :: r =>
    match place i, sArg x, sParts place r with
    | some (o, s), some a, some l => some ((o, s, a) :: l)
    | _, _, _ => none

def sPlaces : List Field → Option (List (Nat × Nat))
  | [] => some []
  | f :: r =>
    match sizeO P f.type, sPlaces r with
    | some n, some l => some ((f.offset, n) :: l)
    | _, _ => none

def sStructParts (fs : Array Field) (ps : List (Nat × Operand)) : Option (List (Nat × Nat × SArg)) :=
  match sPlaces P fs.toList with
  | some l => sParts (fun i => l[i]?) ps
  | none => none

def primT (t : TypeId) : Option Nat :=
  match P.underlying t with
  | some .bool => some 0
  | some (.int _) => some 1
  | some .string => some 2
  | _ => none

def flatFs : Nat → List Field → Option (List Nat)
  | _, [] => some []
  | k, f :: r =>
    match primT P f.type, flatFs (k + 1) r with
    | some n, some l => bif Nat.beq f.offset k && f.name != "_" then some (n :: l) else none
    | _, _ => none

/-- A struct each of whose fields is a number, a bool or a string: their kinds. -/
def flatP (t : TypeId) : Option (List Nat) :=
  match P.underlying t with
  | some (.struct fs) => bif P.stoodInHeld t then none else flatFs P 0 fs.toList
  | _ => none

def eqOf (t : TypeId) : Option EqC :=
  match P.underlying t with
  | some .bool => some .bl
  | some (.int _) | some .string => some .prim
  | some (.pointer e) => (match P.info? e with | some i => bif Nat.beq i.size 0 then none else some .ptr | none => none)
  | some (.slice _) => some .slice
  | some (.interface _) => some .iface
  | some (.func ..) => some .fnc
  | some (.map ..) => some .map
  | some (.struct _) => none
  | _ => none

def isCmp : BinOp → Bool
  | .eql | .neq => true
  | _ => false

/-- Pointer methods of dynamic types by a name; other types with that name are left out. -/
def invTbl (name : String) : List (TypeId × FuncId) :=
  (List.range P.types.size).filterMap fun t =>
    match P.info? t with
    | some i =>
      match i.methods.find? (·.name == name) with
      | some m =>
        match m.path.toList, m.func, P.underlying t with
        | [], some (f, true), some (.pointer _) => some (t, f)
        | _, _, _ => none
      | none => none
    | none => none

def hasBody (f : FuncId) : Bool := match P.funcs[f]? with | some fn => fn.name != "runtime.NumGoroutine" && fn.body.isSome | none => false

def sCallee : Callee → Option SCallee
  | .value (.func f) => some (.fn f)
  | .value x => (sArg x).map .val
  | .invoke x name => (sArg x).map fun a => .inv a (invTbl P name)
  | .builtin _ => none

def sCall (c : Call) : Option SOp :=
  match c.callee with
  | .builtin b =>
    match b, sArgs c.args.toList, c.argTypes.toList with
    | .len, some [x], [t] =>
      match P.underlying t with
      | some (.slice _) => some (.len x)
      | _ => none
    | .min, some l, _ => some (.min l)
    | .max, some l, _ => some (.max l)
    | .append, some [s, x], [t, u] =>
      match P.underlying t, P.underlying u with
      | some (.slice e), some (.slice _) =>
        match P.info? e, zeroO P e with
        | some i, some z => bif Nat.beq z.cells.size i.size && Nat.ble 1 i.size then some (.append i.size i.bytes s x) else none
        | _, _ => none
      | _, _ => none
    | .clear, some [x], [t] =>
      match P.underlying t with
      | some (.slice e) =>
        match zeroO P e, sizeO P e with
        | some z, some n => bif Nat.beq z.cells.size n && Nat.ble 1 n then some (.clear n z.cells.toList x) else none
        | _, _ => none
      | _ => none
    | _, _, _ => none
  | k =>
    match sCallee P k, sArgs c.args.toList with
    | some k, some l => some (.call k l)
    | _, _ => none

def sOp (o : Oper) : Option SOp :=
  match o.op with
  | .move x | .assign x => (sArg x).map .mov
  | .pick c a b =>
    match sArg c, sArg a, sArg b with
    | some c, some a, some b => some (.pick c a b)
    | _, _, _ => none
  | .alloc t => (zeroO P t).map fun z => .new z.cells.toList
  | .box _ x => (sArg x).map .box
  | .build t ps =>
    match zeroO P t, fieldsOf P t with
    | some z, some fs => (sStructParts P fs ps.toList).map fun l => .build z.cells.toList l
    | _, _ => none
  | .buildSlice t len ps =>
    match P.underlying t with
    | some (.slice e) =>
      match zeroO P e, sizeO P e with
      | some z, some n =>
        bif Nat.ble (len * n) 16777216 && Nat.beq z.cells.size n && Nat.ble 1 n then
          (sParts (fun i => some (i * n, n)) ps.toList).map fun l => .mkArr n (repl z.cells.toList len) len l
        else none
      | _, _ => none
    | _ => none
  | .load t a =>
    match aggOf P t, sArg a with
    | some g, some a => some (.load g a)
    | _, _ => none
  | .store t a x =>
    match sizeO P t, sArg a, sArg x with
    | some n, some a, some x => some (.store n a x)
    | _, _, _ => none
  | .nilCheck x => (sArg x).map .nilck
  | .binOp op t x y _ =>
    match sArg x, sArg y with
    | some a, some b =>
      bif isCmp op then
        match eqOf P t with
        | some .iface =>
          match a, b with
          | .c .nilIface, _ | _, .c .nilIface => some (.bin op .iface a b)
          | _, _ => none
        | some k => some (.bin op k a b)
        | none =>
          match flatP P t with
          | some ks => bif P.eqGuardType P.depth t then none else some (.bin op (.flat ks) a b)
          | none => none
      else some (.bin op .prim a b)
    | _, _ => none
  | .unOp op _ x => (sArg x).map (.un op)
  | .makeInterface t x =>
    match P.underlying t, sArg x with
    | some (.interface _), _ => none
    | some _, some a => some (.iface t a)
    | _, _ => none
  | .makeFunc (.func f) first cap =>
    match sArgs first.toList, sArgs cap.toList with
    | some a, some b => some (.mkfn f a b)
    | _, _ => none
  | .slice t x lo hi mx =>
    match sArg x, sArgO lo, sArgO hi, sArgO mx with
    | some x, some lo, some hi, some mx =>
      match P.underlying t with
      | some (.slice e) =>
        match sizeO P e, mx, hi with
        | some n, some m, some h => some (.slice n x lo (some h) (some m))
        | some n, none, hi => some (.slice n x lo hi none)
        | _, _, _ => none
      | _ => none
    | _, _, _, _ => none
  | .fieldAddr s x f =>
    match fieldsOf P s, sArg x with
    | some fs, some a =>
      match fs[f]? with
      | some fd =>
        match sizeO P fd.type with
        | some (_ + 1) => some (.faddr fd.offset a)
        | _ => none
      | none => none
    | _, _ => none
  | .field s x f =>
    match fieldsOf P s, sArg x with
    | some fs, some a =>
      match fs[f]? with
      | some fd =>
        match aggOf P fd.type with
        | some g => some (.field g fd.offset a)
        | none => none
      | none => none
    | _, _ => none
  | .indexAddr t x i =>
    match P.underlying t, sArg x, sArg i with
    | some (.slice e), some a, some b => (sizeO P e).map fun n => .iaddr n a b
    | _, _, _ => none
  | .typeAssert x _ t ok =>
    match sArg x, P.underlying t with
    | some _, some (.interface _) => none
    | some a, some _ =>
      match zeroO P t with
      | some z => some (.tyC t z ok a)
      | none => none
    | _, _ => none
  | .extract x i => (sArg x).map (.ext i)
  | .call c => sCall P c
  | _ => none

def dstOk (n : Nat) : Option Tmp → Bool
  | some d => Nat.blt d n
  | none => true

/-- One operation; its guard by the slot of the operation that decides it. -/
def sIns (n : Nat) (ops : Array Oper) (o : Oper) : Option SIns :=
  bif dstOk n o.dst then
    match sOp P o with
    | none => none
    | some op =>
      match o.guard with
      | none => some { dst := o.dst, op, guard := none }
      | some (j, w) =>
        match (ops[j]?).bind (·.dst) with
        | some t => some { dst := o.dst, op, guard := some (t, w) }
        | none => none
  else none

def sInss (n : Nat) (ops : Array Oper) : List Oper → Option (List SIns)
  | [] => some []
  | o :: r =>
    match sIns P n ops o with
    | none => none
    | some a =>
      match sInss n ops r with
      | some l => some (a :: l)
      | none => none

/-- 0: it hangs on its operands alone · 1: it reads memory · 2: it makes memory and does nothing else · 3: whatever else. -/
def kindOf : SOp → Nat
  | .mov _ | .pick .. | .build .. | .nilck _ | .bin .. | .un .. | .iface .. | .mkfn ..
  | .faddr .. | .field .. | .iaddr .. | .tyC .. | .ext .. | .len _ | .min _ | .max _ => 0
  | .load .. | .slice .. => 1
  | .new _ | .box _ | .mkArr .. => 2
  | _ => 3

/-- Does an operation wait for another one by an edge of its own? -/
def waitsFor (ops : Array Oper) (j i : Nat) : Bool :=
  match ops[j]? with
  | some o => o.after.any fun e => Region.binds .any e && Nat.beq e.on i
  | none => false

/-- Each slot is written once, and whoever reads it waits for who writes it. -/
def ssaOk (ops : Array Oper) : Bool :=
  (List.range ops.size).all fun i => (List.range ops.size).all fun j =>
    match ops[i]?, ops[j]? with
    | some oi, some oj =>
      match oj.dst with
      | some t => (Nat.beq i j || oi.dst != some t) && (!(oi.looksAt ops).contains t || waitsFor ops i j)
      | none => true
    | _, _ => true

def kindAt (ks : List (Option SIns)) (i : Nat) : Nat :=
  match ks[i]? with
  | some (some a) => kindOf a.op
  | _ => 3

/-- The next one of a plan: one that writes nothing; else the only one that is ready. -/
def nextOf (ops : Array Oper) (ks : List (Option SIns)) (listed : Array Bool) : Option Nat :=
  let rs := Region.ready .any ops listed
  match rs.find? fun i => Nat.blt (kindAt ks i) 3 with
  | some i => some i
  | none =>
    match rs with
    | [i] => some i
    | _ => none

/-- Must a load's block be frozen? If another one that may write has not come up, and does not wait for it. -/
def mustFreeze (ops : Array Oper) (ks : List (Option SIns)) (listed : Array Bool) (i : Nat) : Bool :=
  (List.range ops.size).any fun j => !listed.getD j true && Nat.beq (kindAt ks j) 3 && !waitsFor ops j i

def befOf (ops : Array Oper) (i : Nat) : List Nat :=
  match ops[i]? with
  | some o => o.after.toList.filterMap fun e => bif Region.binds .any e then some e.on else none
  | none => []

def sPlan (ops : Array Oper) (ks : List (Option SIns)) : Nat → Array Bool → Option (List SIns)
  | 0, listed => bif (Region.ready .any ops listed).isEmpty then some [] else none
  | fuel + 1, listed =>
    match nextOf ops ks listed with
    | none => none
    | some i =>
      match ks[i]? with
      | some (some a) =>
        match sPlan ops ks fuel (listed.setIfInBounds i true) with
        | some l => some ({ a with fz := Nat.beq (kindOf a.op) 1 && mustFreeze ops ks listed i, ix := i, bef := bif Nat.beq (kindOf a.op) 3 then befOf ops i else [] } :: l)
        | none => none
      | _ => none

def slim (n : Nat) : Code → Option SCode
  | .skip => some .skip
  | .label _ => some .skip
  | .region _ ops false => (sInss P n ops ops.toList).map .ops
  | .region _ ops true =>
    bif ssaOk ops then (sPlan ops (ops.toList.map (sIns P n ops)) ops.size (Array.replicate ops.size false)).map .draw else none
  | .seq a b =>
    match slim n a, slim n b with
    | some a, some b => some (.seq a b)
    | _, _ => none
  | .cond c a b =>
    match sArg c, slim n a, slim n b with
    | some c, some a, some b => some (.cond c a b)
    | _, _, _ => none
  | .block id b => (slim n b).map (.block id)
  | .loop b => (slim n b).map .loop
  | .exit id => some (.exit id)
  | .scope b => slim n b
  | .ret => some .ret
  | _ => none

def sRess : List ResultVar → Option (List SRes)
  | [] => some []
  | .tmp t :: r => (sRess r).map (.tmp t :: ·)
  | .cell a t :: r =>
    match aggOf P t, sRess r with
    | some g, some l => some (.cell g a :: l)
    | _, _ => none

def slimF (fn : Func) : Option SFunc :=
  match fn.body with
  | none => none
  | some c =>
    match slim P fn.ntmps c, sRess P fn.results.toList with
    | some b, some r => some { n := fn.ntmps, body := b, res := r }
    | _, _ => none
end
end Go.Eng
