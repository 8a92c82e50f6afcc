/- The evaluator by rules: the instructions one by one, numbers, places in memory. -/
import Derived.Test.YtdafdampodbobaaEngQ
import Derived.Laws.BitsLemmas
namespace Go.Eng
set_option linter.unusedSimpArgs false
set_option linter.unusedVariables false
section
variable {F : FuncId → Option SFunc} {G : FuncId → List Value → Option Value} {e : Env} {h : Hp}

theorem ble_dec (a b : Nat) : Nat.ble a b = decide (a ≤ b) := by
  by_cases h : a ≤ b
  · rw [decide_eq_true h, Nat.ble_eq]; exact h
  · rw [decide_eq_false h]
    cases hb : Nat.ble a b with
    | false => rfl
    | true => exact absurd (Nat.le_of_ble_eq_true hb) h

theorem blt_dec (a b : Nat) : Nat.blt a b = decide (a < b) := by
  unfold Nat.blt
  rw [ble_dec]
  rfl

/-! ### One after the other -/
/-- A value that must be there. -/
def Bnd (o : Option Value) (Q : Value → Hp → Prop) (h : Hp) : Prop := ∃ v, o = some v ∧ Q v h

theorem Bnd.some {v : Value} {Q : Value → Hp → Prop} : Bnd (some v) Q h = Q v h := propext ⟨fun ⟨_, h1, h2⟩ => by cases h1; exact h2, fun h => ⟨v, rfl, h⟩⟩
theorem IfB.tt {A B : Prop} : IfB (some (.bool true)) true A B = A := propext ⟨fun h => by rcases h with ⟨_, h1, h2⟩ | ⟨h1, _⟩ <;> cases h1; exact h2, fun h => .inl ⟨_, rfl, h⟩⟩
theorem IfB.tf {A B : Prop} : IfB (some (.bool true)) false A B = B := propext ⟨fun h => by rcases h with ⟨_, h1, h2⟩ | ⟨h1, _⟩ <;> cases h1; exact h2, fun h => .inl ⟨_, rfl, h⟩⟩
theorem IfB.ft {A B : Prop} : IfB (some (.bool false)) true A B = B := propext ⟨fun h => by rcases h with ⟨_, h1, h2⟩ | ⟨h1, _⟩ <;> cases h1; exact h2, fun h => .inl ⟨_, rfl, h⟩⟩
theorem IfB.ff {A B : Prop} : IfB (some (.bool false)) false A B = A := propext ⟨fun h => by rcases h with ⟨_, h1, h2⟩ | ⟨h1, _⟩ <;> cases h1; exact h2, fun h => .inl ⟨_, rfl, h⟩⟩
theorem IfB.un {w : Bool} {A B : Prop} : IfB (some undef) w A B = B := propext ⟨fun h => by rcases h with ⟨_, h1, _⟩ | ⟨_, h2⟩; cases h1; exact h2, fun h => .inr ⟨rfl, h⟩⟩
@[congr] theorem IfB.cong {o o' : Option Value} {w : Bool} {A B : Prop} (ho : o = o') : IfB o w A B = IfB o' w A B := by rw [ho]
theorem CallQ.some {f : FuncId} {as : List Value} {R : Value → Hp → Prop} : CallQ F G (some (f, as)) h R = Call F G f as h R := propext ⟨fun ⟨_, _, h1, h2⟩ => by cases h1; exact h2, fun h => ⟨_, _, rfl, h⟩⟩

theorem Ops.nil {Q : Env → Hp → Prop} : Ops F G [] Q e h = Q e h := id rfl
theorem Ops.cons {d : Option Nat} {op : SOp} {g : Option (Nat × Bool)} {f : Bool} {ix : Nat} {bef : List Nat} {l : List SIns} {Q : Env → Hp → Prop} :
    Ops F G (⟨d, op, g, f, ix, bef⟩ :: l) Q e h = Want g e (InsQ F G d op (Ops F G l Q) e h) (Ops F G l Q (putE e d undef) h) := id rfl
theorem Draw.nil {base : List Nat} {fz : List (Nat × Nat)} {Q : Env → Hp → Prop} : Draw F G base fz [] Q e h = Q e ⟨h.t, h.next, base⟩ := id rfl
theorem Draw.cons {base : List Nat} {fz : List (Nat × Nat)} {d : Option Nat} {op : SOp} {g : Option (Nat × Bool)} {f : Bool} {ix : Nat} {bef : List Nat} {l : List SIns} {Q : Env → Hp → Prop} :
    Draw F G base fz (⟨d, op, g, f, ix, bef⟩ :: l) Q e h = Want g e (InsQ F G d op (Draw F G base (fzStep ⟨d, op, g, f, ix, bef⟩ e (fzKeep bef fz)) l Q) e ⟨h.t, h.next, (fzKeep bef fz).map (·.2) ++ base⟩) (Draw F G base fz l Q (putE e d undef) h) := id rfl
theorem Want.none {A B : Prop} : Want none e A B = A := id rfl
theorem Want.some {t : Nat} {w : Bool} {A B : Prop} : Want (some (t, w)) e A B = IfB (e.get t) w A B := id rfl
theorem PutK.eq {K : Env → Hp → Prop} {d : Option Nat} {v : Value} : PutK K d e v h = K (putE e d v) h := id rfl
theorem fzKeep_nil {bef : List Nat} : fzKeep bef [] = [] := id rfl
theorem fzKeep_cons {bef : List Nat} {p : Nat × Nat} {fz : List (Nat × Nat)} : fzKeep bef (p :: fz) = bif bef.any (Nat.beq p.1) then fzKeep bef fz else p :: fzKeep bef fz := by
  unfold fzKeep
  rw [List.filter_cons]
  cases bef.any (Nat.beq p.1) <;> rfl
theorem fzStep_false {d : Option Nat} {op : SOp} {g : Option (Nat × Bool)} {ix : Nat} {bef : List Nat} {fz : List (Nat × Nat)} : fzStep ⟨d, op, g, false, ix, bef⟩ e fz = fz := id rfl
theorem fzStep_load {d : Option Nat} {ag : Option Nat} {i : Nat} {g : Option (Nat × Bool)} {ix : Nat} {bef : List Nat} {fz : List (Nat × Nat)} : fzStep ⟨d, .load ag (.t i), g, true, ix, bef⟩ e fz = match e.get i with | some (.pointer (some ⟨b, _, none⟩)) => (ix, b) :: fz | some (.slice (some ⟨b, _, none⟩) _ _) => (ix, b) :: fz | _ => fz := by
  simp only [fzStep, loadB, arg, cond_true]
  cases e.get i with
  | none => rfl
  | some v =>
    cases v with
    | pointer p =>
      cases p with
      | none => rfl
      | some a => obtain ⟨b, o, s⟩ := a; cases s <;> rfl
    | slice p n c =>
      cases p with
      | none => rfl
      | some a => obtain ⟨b, o, s⟩ := a; cases s <;> rfl
    | _ => rfl
theorem any_nil {p : Nat → Bool} : ([] : List Nat).any p = false := id rfl
theorem any_cons {p : Nat → Bool} {a : Nat} {l : List Nat} : (a :: l).any p = (p a || l.any p) := id rfl

theorem argO_none : argO e none = some none := id rfl
theorem argO_some {x : SArg} : argO e (some x) = (arg e x).map some := by
  simp only [argO]
  cases arg e x <;> rfl

theorem InsQ.mov {d : Option Nat} {K : Env → Hp → Prop} (x : SArg) : InsQ F G d (.mov x) K e h = Sim (.mov x) e h (PutK K d e) := id rfl
theorem InsQ.pick {d : Option Nat} {K : Env → Hp → Prop} (c a b : SArg) : InsQ F G d (.pick c a b) K e h = Sim (.pick c a b) e h (PutK K d e) := id rfl
theorem InsQ.new {d : Option Nat} {K : Env → Hp → Prop} (c : List Value) : InsQ F G d (.new c) K e h = Sim (.new c) e h (PutK K d e) := id rfl
theorem InsQ.box {d : Option Nat} {K : Env → Hp → Prop} (x : SArg) : InsQ F G d (.box x) K e h = Sim (.box x) e h (PutK K d e) := id rfl
theorem InsQ.build {d : Option Nat} {K : Env → Hp → Prop} (z : List Value) (p : List (Nat × Nat × SArg)) : InsQ F G d (.build z p) K e h = Sim (.build z p) e h (PutK K d e) := id rfl
theorem InsQ.mkArr {d : Option Nat} {K : Env → Hp → Prop} (s : Nat) (z : List Value) (l : Nat) (p : List (Nat × Nat × SArg)) : InsQ F G d (.mkArr s z l p) K e h = Sim (.mkArr s z l p) e h (PutK K d e) := id rfl
theorem InsQ.load {d : Option Nat} {K : Env → Hp → Prop} (g : Option Nat) (a : SArg) : InsQ F G d (.load g a) K e h = Sim (.load g a) e h (PutK K d e) := id rfl
theorem InsQ.store {d : Option Nat} {K : Env → Hp → Prop} (n : Nat) (a x : SArg) : InsQ F G d (.store n a x) K e h = Sim (.store n a x) e h (PutK K d e) := id rfl
theorem InsQ.nilck {d : Option Nat} {K : Env → Hp → Prop} (x : SArg) : InsQ F G d (.nilck x) K e h = Sim (.nilck x) e h (PutK K d e) := id rfl
theorem InsQ.bin {d : Option Nat} {K : Env → Hp → Prop} (o : BinOp) (c : EqC) (x y : SArg) : InsQ F G d (.bin o c x y) K e h = Sim (.bin o c x y) e h (PutK K d e) := id rfl
theorem InsQ.un {d : Option Nat} {K : Env → Hp → Prop} (o : UnOp) (x : SArg) : InsQ F G d (.un o x) K e h = Sim (.un o x) e h (PutK K d e) := id rfl
theorem InsQ.iface {d : Option Nat} {K : Env → Hp → Prop} (t : TypeId) (x : SArg) : InsQ F G d (.iface t x) K e h = Sim (.iface t x) e h (PutK K d e) := id rfl
theorem InsQ.mkfn {d : Option Nat} {K : Env → Hp → Prop} (f : FuncId) (a b : List SArg) : InsQ F G d (.mkfn f a b) K e h = Sim (.mkfn f a b) e h (PutK K d e) := id rfl
theorem InsQ.slice {d : Option Nat} {K : Env → Hp → Prop} (s : Nat) (x : SArg) (l hh m : Option SArg) : InsQ F G d (.slice s x l hh m) K e h = Sim (.slice s x l hh m) e h (PutK K d e) := id rfl
theorem InsQ.faddr {d : Option Nat} {K : Env → Hp → Prop} (o : Nat) (x : SArg) : InsQ F G d (.faddr o x) K e h = Sim (.faddr o x) e h (PutK K d e) := id rfl
theorem InsQ.field {d : Option Nat} {K : Env → Hp → Prop} (g : Option Nat) (o : Nat) (x : SArg) : InsQ F G d (.field g o x) K e h = Sim (.field g o x) e h (PutK K d e) := id rfl
theorem InsQ.iaddr {d : Option Nat} {K : Env → Hp → Prop} (s : Nat) (x i : SArg) : InsQ F G d (.iaddr s x i) K e h = Sim (.iaddr s x i) e h (PutK K d e) := id rfl
theorem InsQ.tyC {d : Option Nat} {K : Env → Hp → Prop} (t : TypeId) (z : Value) (o : Bool) (x : SArg) : InsQ F G d (.tyC t z o x) K e h = Sim (.tyC t z o x) e h (PutK K d e) := id rfl
theorem InsQ.ext {d : Option Nat} {K : Env → Hp → Prop} (i : Nat) (x : SArg) : InsQ F G d (.ext i x) K e h = Sim (.ext i x) e h (PutK K d e) := id rfl
theorem InsQ.append {d : Option Nat} {K : Env → Hp → Prop} (s b : Nat) (x y : SArg) : InsQ F G d (.append s b x y) K e h = Sim (.append s b x y) e h (PutK K d e) := id rfl
theorem InsQ.len {d : Option Nat} {K : Env → Hp → Prop} (x : SArg) : InsQ F G d (.len x) K e h = Sim (.len x) e h (PutK K d e) := id rfl
theorem InsQ.min {d : Option Nat} {K : Env → Hp → Prop} (l : List SArg) : InsQ F G d (.min l) K e h = Sim (.min l) e h (PutK K d e) := id rfl
theorem InsQ.max {d : Option Nat} {K : Env → Hp → Prop} (l : List SArg) : InsQ F G d (.max l) K e h = Sim (.max l) e h (PutK K d e) := id rfl
theorem InsQ.clear {d : Option Nat} {K : Env → Hp → Prop} (s : Nat) (z : List Value) (x : SArg) : InsQ F G d (.clear s z x) K e h = Sim (.clear s z x) e h (PutK K d e) := id rfl
theorem InsQ.call {d : Option Nat} {K : Env → Hp → Prop} (k : SCallee) (ys : List SArg) : InsQ F G d (.call k ys) K e h = CallQ F G (target e k ys) h (PutK K d e) := id rfl

def fnT (f : FuncId) : Option (List Value) → Option (FuncId × List Value)
  | some as => some (f, as)
  | none => none
theorem fnT_s {f : FuncId} {as : List Value} : fnT f (some as) = some (f, as) := id rfl
theorem target_fn {f : FuncId} {ys : List SArg} : target e (.fn f) ys = fnT f (args e ys) := by
  unfold target
  cases args e ys <;> rfl
def valT : Option (List Value) → Option Value → Option (FuncId × List Value)
  | some as, some (.func (.func f) a b) => some (f, a.toList ++ (as ++ b.toList))
  | _, _ => none
theorem valT_f {as : List Value} {f : FuncId} {a b : Array Value} : valT (some as) (some (.func (.func f) a b)) = some (f, a.toList ++ (as ++ b.toList)) := id rfl
theorem target_val {x : SArg} {ys : List SArg} : target e (.val x) ys = valT (args e ys) (arg e x) := by
  unfold target
  cases args e ys with
  | none => rfl
  | some l =>
    cases hx : arg e x with
    | none => simp [hx, valT]
    | some v =>
      cases v with
      | func f a b => cases f <;> simp [hx, valT]
      | _ => simp [hx, valT]
def invT (tbl : List (TypeId × FuncId)) : Option (List Value) → Option Value → Option (FuncId × List Value)
  | some as, some (.iface t u) => (lookT t tbl).map fun f => (f, u :: as)
  | _, _ => none
theorem invT_i {tbl : List (TypeId × FuncId)} {as : List Value} {t : TypeId} {u : Value} : invT tbl (some as) (some (.iface t u)) = (lookT t tbl).map fun f => (f, u :: as) := id rfl
theorem target_inv {x : SArg} {tbl : List (TypeId × FuncId)} {ys : List SArg} : target e (.inv x tbl) ys = invT tbl (args e ys) (arg e x) := by
  unfold target
  cases args e ys with
  | none => rfl
  | some l =>
    cases hx : arg e x with
    | none => simp [hx, invT]
    | some v =>
      cases v with
      | iface t u => cases hl : lookT t tbl <;> simp [hx, hl, invT]
      | _ => simp [hx, invT]
theorem lookT_hit {t : TypeId} {f : FuncId} {r : List (TypeId × FuncId)} : lookT t ((t, f) :: r) = some f := by simp [lookT]
theorem lookT_cons {t u : TypeId} {f : FuncId} {r : List (TypeId × FuncId)} : lookT t ((u, f) :: r) = if t = u then some f else lookT t r := by
  simp only [lookT, beq_dec]
  by_cases h : t = u <;> simp [h]

theorem arg_t {i : Nat} : arg e (.t i) = e.get i := id rfl
theorem arg_c {v : Value} : arg e (.c v) = some v := id rfl
theorem args_nil : args e [] = some [] := id rfl
theorem args_cons {x : SArg} {r : List SArg} : args e (x :: r) = (arg e x).bind fun v => (args e r).map (v :: ·) := by
  simp only [args]
  cases arg e x <;> simp only [Option.bind_none, Option.bind_some]
  cases args e r <;> rfl
theorem parts_nil : parts e [] = some [] := id rfl
theorem parts_cons {o n : Nat} {x : SArg} {r : List (Nat × Nat × SArg)} : parts e ((o, n, x) :: r) = (arg e x).bind fun v => (parts e r).map ((o, n, v) :: ·) := by
  simp only [parts]
  cases arg e x <;> simp only [Option.bind_none, Option.bind_some]
  cases parts e r <;> rfl
theorem fillA_nil {c : List Value} : fillA c [] = some c := id rfl
theorem fillA_cons {c : List Value} {o n : Nat} {v : Value} {r : List (Nat × Nat × Value)} : fillA c ((o, n, v) :: r) = if v.cells.toList.length = n ∧ o + n ≤ c.length then fillA (c.take o ++ v.cells.toList ++ c.drop (o + n)) r else none := by
  simp only [fillA, beq_dec, ble_dec]
  by_cases h1 : v.cells.toList.length = n <;> by_cases h2 : o + n ≤ c.length <;> simp [h1, h2]
theorem cells_i {k : IntKind} {n : Int} : (Value.int k n).cells.toList = [.int k n] := id rfl
theorem cells_b {n : Bool} : (Value.bool n).cells.toList = [.bool n] := id rfl
theorem cells_p {a : Option Addr} : (Value.pointer a).cells.toList = [.pointer a] := id rfl
theorem cells_s {a : Option Addr} {n c : Nat} : (Value.slice a n c).cells.toList = [.slice a n c] := id rfl
theorem cells_f {t : TypeId} {v : Value} : (Value.iface t v).cells.toList = [.iface t v] := id rfl
theorem cells_n : Value.nilIface.cells.toList = [.nilIface] := id rfl
theorem cells_a {l : List Value} : (Value.agg l.toArray).cells.toList = l := id rfl
theorem fillA_agg {z l : List Value} {n : Nat} (h1 : l.length = n) (h2 : z.length = n) : fillA z [(0, n, .agg l.toArray)] = some l := by
  have hc : (Value.agg l.toArray).cells.toList = l := rfl
  rw [fillA_cons, hc, if_pos ⟨h1, by omega⟩, fillA_nil, Nat.zero_add, List.drop_of_length_le (by omega), List.take_zero]
  simp
theorem putE_some {d : Nat} {v : Value} : putE e (some d) v = e.set d v := id rfl
theorem putE_none {v : Value} : putE e none v = e := id rfl
theorem bind_some' {α β : Type} {a : α} {f : α → Option β} : (some a).bind f = f a := id rfl
theorem map_some' {α β : Type} {a : α} {f : α → β} : (some a).map f = some (f a) := id rfl

/-! ### What is made, written, appended -/
def NewQ (h : Hp) (c : Option (List Value)) (sz : Nat) (mk : Nat → Value) (Q : Value → Hp → Prop) : Prop := ∃ l, c = some l ∧ Q (mk h.next) (h.alloc l sz).2
def StoreQ (h : Hp) (n : Nat) (p v : Option Value) (Q : Value → Hp → Prop) : Prop := ∃ a x h', p = some a ∧ v = some x ∧ sStore h n a x = some h' ∧ Q undef h'
def AppendQ (h : Hp) (sz by' : Nat) (s x : Option Value) (Q : Value → Hp → Prop) : Prop := ∃ a b v h', s = some a ∧ x = some b ∧ sAppend h sz by' a b = some (v, h') ∧ Q v h'
def boxC : Option Value → Option (List Value)
  | some v => bif v.cells.toList.all oneCell then some v.cells.toList else none
  | none => none
def mkC (z : List Value) : Option (List (Nat × Nat × Value)) → Option (List Value)
  | some l => fillA z l
  | none => none
def aggC : Option (List Value) → Option Value
  | some c => some (.agg c.toArray)
  | none => none
def pickC (c a b : Option Value) : Option Value :=
  match c with
  | some (.bool true) => a
  | some (.bool false) => b
  | _ => none
theorem pickC_t {a b : Option Value} : pickC (some (.bool true)) a b = a := id rfl
theorem pickC_f {a b : Option Value} : pickC (some (.bool false)) a b = b := id rfl
theorem mkC_s {z : List Value} {l : List (Nat × Nat × Value)} : mkC z (some l) = fillA z l := id rfl
theorem aggC_s {c : List Value} : aggC (some c) = some (.agg c.toArray) := id rfl
theorem boxC_i {k : IntKind} {n : Int} : boxC (some (.int k n)) = some [.int k n] := id rfl
theorem boxC_p {a : Option Addr} : boxC (some (.pointer a)) = some [.pointer a] := id rfl
theorem boxC_a {c : List Value} : boxC (some (.agg c.toArray)) = bif c.all oneCell then some c else none := by
  simp only [boxC, Value.cells]

theorem one_i {k : IntKind} {n : Int} : oneCell (.int k n) = true := id rfl
theorem one_b {n : Bool} : oneCell (.bool n) = true := id rfl
theorem one_p {a : Option Addr} : oneCell (.pointer a) = true := id rfl
theorem one_s {a : Option Addr} {n c : Nat} : oneCell (.slice a n c) = true := id rfl
theorem one_f {t : TypeId} {v : Value} : oneCell (.iface t v) = true := id rfl
theorem one_n : oneCell .nilIface = true := id rfl

/-- Not nil. -/
def nilV : Option Value → Option Value
  | some (.pointer (some a)) => some (.pointer (some a))
  | some (.iface t v) => some (.iface t v)
  | some (.func (.func f) a b) => some (.func (.func f) a b)
  | _ => none
theorem nilV_p {a : Addr} : nilV (some (.pointer (some a))) = some (.pointer (some a)) := id rfl
theorem nilV_i {t : TypeId} {v : Value} : nilV (some (.iface t v)) = some (.iface t v) := id rfl

def addOff (off : Nat) : Option Value → Option Value
  | some (.pointer (some ⟨b, o, none⟩)) => some (pt b (o + off))
  | _ => none
theorem addOff_p {off b o : Nat} : addOff off (some (pt b o)) = some (pt b (o + off)) := id rfl
def elemAt (sz : Nat) (v i : Option Value) : Option Value :=
  match v with
  | some (.slice (some ⟨b, o, none⟩) len _) =>
    match i with
    | some (.int _ n) => if 0 ≤ n ∧ n < len then some (pt b (o + n.toNat * sz)) else none
    | _ => none
  | _ => none
theorem elemAt_s {sz b o len cf : Nat} {n : Int} : elemAt sz (some (sl b o len cf)) (some (i64 n)) = if 0 ≤ n ∧ n < len then some (pt b (o + n.toNat * sz)) else none := id rfl
def castTo (t : TypeId) (zero : Value) (ok : Bool) : Option Value → Option Value
  | some (.iface u v) => if u = t then some (bif ok then .tuple #[v, .bool true] else v) else (bif ok then some (.tuple #[zero, .bool false]) else none)
  | some .nilIface => bif ok then some (.tuple #[zero, .bool false]) else none
  | _ => none
theorem castTo_i {t u : TypeId} {zero v : Value} : castTo t zero true (some (.iface u v)) = if u = t then some (.tuple #[v, .bool true]) else some (.tuple #[zero, .bool false]) := by
  by_cases hu : u = t <;> simp [castTo, hu]
def compAt (i : Nat) : Option Value → Option Value
  | some (.tuple vs) => vs.toList[i]?
  | _ => none
theorem compAt_0 {a b : Value} : compAt 0 (some (.tuple #[a, b])) = some a := id rfl
theorem compAt_1 {a b : Value} : compAt 1 (some (.tuple #[a, b])) = some b := id rfl
def lenV : Option Value → Option Value
  | some (.slice _ n _) => some (i64 n)
  | _ => none
theorem lenV_s {a : Option Addr} {n c : Nat} : lenV (some (.slice a n c)) = some (i64 n) := id rfl
def ldV (h : Hp) (g : Option Nat) : Option Value → Option Value
  | some p => sLoad h g p
  | none => none
def rdT (t : T AObj) (b o : Nat) : Option Value :=
  match t.get b with
  | some (.cells c _ _) => c[o]?
  | _ => none
def rdN (t : T AObj) (b o n : Nat) : Option (List Value) :=
  match t.get b with
  | some (.cells c _ _) => if o + n ≤ c.length then some ((c.drop o).take n) else none
  | _ => none
theorem rdT_of {t : T AObj} {b o : Nat} {c : List Value} {sz : Nat} {own : Bool} (hb : t.get b = some (.cells c sz own)) : rdT t b o = c[o]? := by simp only [rdT, hb]
theorem rdN_of {t : T AObj} {b o n : Nat} {c : List Value} {sz : Nat} {own : Bool} (hb : t.get b = some (.cells c sz own)) (hn : o + n ≤ c.length) : rdN t b o n = some ((c.drop o).take n) := by
  simp only [rdN, hb, hn, if_true]
theorem ldV_1 {b o : Nat} : ldV h none (some (pt b o)) = rdT h.t b o := id rfl
def aggV : Option (List Value) → Option Value
  | some l => some (.agg l.toArray)
  | none => none
theorem aggV_s {l : List Value} : aggV (some l) = some (.agg l.toArray) := id rfl
theorem ldV_n {b o n : Nat} : ldV h (some n) (some (pt b o)) = aggV (rdN h.t b o n) := by
  have hr : rd h b o n = rdN h.t b o n := by
    unfold rd rdN
    cases h.t.get b with
    | none => rfl
    | some ob =>
      cases ob with
      | dead => rfl
      | cells c sz own => by_cases hn : o + n ≤ c.length <;> simp [ble_dec, hn]
  simp only [ldV, sLoad, hr]
  cases rdN h.t b o n <;> rfl
def binV (op : BinOp) (k : EqC) : Option Value → Option Value → Option Value
  | some a, some b => sBin op k a b
  | _, _ => none
theorem binV_s {op : BinOp} {k : EqC} {a b : Value} : binV op k (some a) (some b) = sBin op k a b := id rfl
def unV (op : UnOp) : Option Value → Option Value
  | some a => sUn op a
  | _ => none
theorem unV_s {op : UnOp} {a : Value} : unV op (some a) = sUn op a := id rfl
def ifcV (t : TypeId) : Option Value → Option Value
  | some v => some (.iface t v)
  | _ => none
theorem ifcV_s {t : TypeId} {v : Value} : ifcV t (some v) = some (.iface t v) := id rfl
def fnV (f : FuncId) : Option (List Value) → Option (List Value) → Option Value
  | some a, some b => some (.func (.func f) a.toArray b.toArray)
  | _, _ => none
theorem fnV_s {f : FuncId} {a b : List Value} : fnV f (some a) (some b) = some (.func (.func f) a.toArray b.toArray) := id rfl
def mmV (mx : Bool) : Option (List Value) → Option Value
  | some l => minmax mx l
  | _ => none
theorem mmV_s {mx : Bool} {l : List Value} : mmV mx (some l) = minmax mx l := id rfl
def slV (h : Hp) (sz : Nat) : Option Value → Option (Option Value) → Option (Option Value) → Option (Option Value) → Option Value
  | some v, some a, some b, some c => sSlice h sz v a b c
  | _, _, _, _ => none
theorem slV_s {sz : Nat} {v : Value} {a b c : Option Value} : slV h sz (some v) (some a) (some b) (some c) = sSlice h sz v a b c := id rfl

variable {Q : Value → Hp → Prop}

theorem ex2 {a : Value} {b : Hp} : (∃ v h', (a = v ∧ b = h') ∧ Q v h') ↔ Q a b :=
  ⟨fun ⟨_, _, ⟨h1, h2⟩, h3⟩ => by subst h1; subst h2; exact h3, fun h => ⟨a, b, ⟨rfl, rfl⟩, h⟩⟩

theorem Sim.mov {x : SArg} : Sim (.mov x) e h Q = Bnd (arg e x) Q h := by
  unfold Sim Bnd
  simp only [simple]
  cases arg e x <;> simp [ex2]
theorem Sim.pick {c a b : SArg} : Sim (.pick c a b) e h Q = Bnd (pickC (arg e c) (arg e a) (arg e b)) Q h := by
  unfold Sim Bnd
  simp only [simple]
  cases hc : arg e c with
  | none => simp [pickC]
  | some v =>
    cases v with
    | bool t =>
      cases t
      · cases hb : arg e b <;> simp [ex2, pickC, hb]
      · cases ha : arg e a <;> simp [ex2, pickC, ha]
    | _ => simp [pickC]
theorem Sim.new {cells : List Value} : Sim (.new cells) e h Q = NewQ h (some cells) 0 (fun b => pt b 0) Q := by
  unfold Sim NewQ
  simp [ex2, simple, pt]
theorem Sim.box {x : SArg} : Sim (.box x) e h Q = NewQ h (boxC (arg e x)) 0 (fun b => pt b 0) Q := by
  unfold Sim NewQ
  simp only [simple]
  cases arg e x with
  | none => simp [boxC]
  | some v =>
    simp only [boxC]
    cases hc : v.cells.toList.all oneCell
    · simp only [cond_false, Bool.false_eq_true, false_and, reduceCtorEq, exists_false]
    · simp only [cond_true, true_and, Option.some.injEq, Prod.mk.injEq, ex2, pt, exists_eq_left']
theorem Sim.build {z : List Value} {ps : List (Nat × Nat × SArg)} : Sim (.build z ps) e h Q = Bnd (aggC (mkC z (parts e ps))) Q h := by
  unfold Sim Bnd
  simp only [simple]
  cases parts e ps with
  | none => simp [mkC, aggC]
  | some l => cases hc : fillA z l <;> simp [ex2, hc, mkC, aggC]
theorem Sim.mkArr {sz : Nat} {z : List Value} {len : Nat} {ps : List (Nat × Nat × SArg)} : Sim (.mkArr sz z len ps) e h Q = NewQ h (mkC z (parts e ps)) sz (fun b => sl b 0 len 0) Q := by
  unfold Sim NewQ
  simp only [simple]
  cases parts e ps with
  | none => simp [mkC]
  | some l => cases hc : fillA z l <;> simp [ex2, hc, sl, mkC]
theorem Sim.load {g : Option Nat} {a : SArg} : Sim (.load g a) e h Q = Bnd (ldV h g (arg e a)) Q h := by
  unfold Sim Bnd
  simp only [simple]
  cases arg e a with
  | none => simp [ldV]
  | some p => cases hc : sLoad h g p <;> simp [ex2, hc, ldV]
theorem Sim.store {n : Nat} {a x : SArg} : Sim (.store n a x) e h Q = StoreQ h n (arg e a) (arg e x) Q := by
  unfold Sim StoreQ
  simp only [simple]
  cases arg e a with
  | none => simp
  | some p =>
    cases arg e x with
    | none => simp
    | some v => cases hc : sStore h n p v <;> simp [ex2, hc]
theorem Sim.nilck {x : SArg} : Sim (.nilck x) e h Q = Bnd (nilV (arg e x)) Q h := by
  unfold Sim Bnd
  simp only [simple]
  cases hx : arg e x with
  | none => simp [nilV]
  | some v =>
    cases v with
    | pointer p => cases p <;> simp [ex2, nilV]
    | func c a b => cases c <;> simp [ex2, nilV]
    | iface t u => simp [ex2, nilV]
    | _ => simp [nilV]
theorem Sim.bin {op : BinOp} {k : EqC} {x y : SArg} : Sim (.bin op k x y) e h Q = Bnd (binV op k (arg e x) (arg e y)) Q h := by
  unfold Sim Bnd
  simp only [simple]
  cases arg e x with
  | none => simp [binV]
  | some a =>
    cases arg e y with
    | none => simp [binV]
    | some b => cases hc : sBin op k a b <;> simp [ex2, hc, binV]
theorem Sim.un {op : UnOp} {x : SArg} : Sim (.un op x) e h Q = Bnd (unV op (arg e x)) Q h := by
  unfold Sim Bnd
  simp only [simple]
  cases arg e x with
  | none => simp [unV]
  | some a => cases hc : sUn op a <;> simp [ex2, hc, unV]
theorem Sim.iface {t : TypeId} {x : SArg} : Sim (.iface t x) e h Q = Bnd (ifcV t (arg e x)) Q h := by
  unfold Sim Bnd
  simp only [simple]
  cases arg e x <;> simp [ex2, ifcV]
theorem Sim.mkfn {f : FuncId} {x y : List SArg} : Sim (.mkfn f x y) e h Q = Bnd (fnV f (args e x) (args e y)) Q h := by
  unfold Sim Bnd
  simp only [simple]
  cases args e x with
  | none => simp [fnV]
  | some a => cases args e y <;> simp [ex2, fnV]
theorem Sim.faddr {off : Nat} {x : SArg} : Sim (.faddr off x) e h Q = Bnd (addOff off (arg e x)) Q h := by
  unfold Sim Bnd
  simp only [simple]
  cases hx : arg e x with
  | none => simp [addOff]
  | some v =>
    cases v with
    | pointer p =>
      cases p with
      | none => simp [addOff]
      | some a =>
        obtain ⟨b, o, s⟩ := a
        cases s <;> simp [ex2, addOff, pt]
    | _ => simp [addOff]
theorem Sim.iaddr {sz : Nat} {x i : SArg} : Sim (.iaddr sz x i) e h Q = Bnd (elemAt sz (arg e x) (arg e i)) Q h := by
  unfold Sim Bnd
  simp only [simple]
  cases hx : arg e x with
  | none => simp [elemAt]
  | some v =>
    cases v with
    | slice p len cf =>
      cases p with
      | none => simp [elemAt]
      | some a =>
        obtain ⟨b, o, s⟩ := a
        cases s with
        | some q => simp [elemAt]
        | none =>
          cases hi : arg e i with
          | none => simp [elemAt]
          | some j =>
            cases j with
            | int k n =>
              cases n with
              | ofNat n =>
                have h1 : (0 : Int) ≤ Int.ofNat n := Int.natCast_nonneg n
                have h2 : (Int.ofNat n < (len : Int)) ↔ n < len := by simp
                by_cases hlt : n < len
                · simp [ex2, elemAt, blt_dec, hlt, pt]
                · simp [elemAt, blt_dec, hlt]
              | negSucc n =>
                have h1 : ¬ (0 : Int) ≤ Int.negSucc n := by omega
                simp [elemAt]
            | _ => simp [elemAt]
    | _ => simp [elemAt]
theorem Sim.tyC {t : TypeId} {z : Value} {ok : Bool} {x : SArg} : Sim (.tyC t z ok x) e h Q = Bnd (castTo t z ok (arg e x)) Q h := by
  unfold Sim Bnd
  simp only [simple]
  cases hx : arg e x with
  | none => simp [castTo]
  | some v =>
    cases v with
    | iface u w =>
      simp only [beq_dec]
      by_cases hu : u = t
      · simp [ex2, castTo, hu]
      · cases ok <;> simp [ex2, castTo, hu]
    | nilIface => cases ok <;> simp [ex2, castTo]
    | _ => simp [castTo]
theorem Sim.ext {i : Nat} {x : SArg} : Sim (.ext i x) e h Q = Bnd (compAt i (arg e x)) Q h := by
  unfold Sim Bnd
  simp only [simple]
  cases hx : arg e x with
  | none => simp [compAt]
  | some v =>
    cases v with
    | tuple vs =>
      simp only [compAt]
      cases vs.toList[i]? <;> simp [ex2]
    | _ => simp [compAt]
theorem Sim.len {x : SArg} : Sim (.len x) e h Q = Bnd (lenV (arg e x)) Q h := by
  unfold Sim Bnd
  simp only [simple]
  cases hx : arg e x with
  | none => simp [lenV]
  | some v => cases v <;> simp [ex2, lenV, goInt]
theorem Sim.append {sz by' : Nat} {s x : SArg} : Sim (.append sz by' s x) e h Q = AppendQ h sz by' (arg e s) (arg e x) Q := by
  unfold Sim AppendQ
  simp only [simple]
  cases arg e s with
  | none => simp
  | some a =>
    cases arg e x with
    | none => simp
    | some b => simp
theorem Sim.min {l : List SArg} : Sim (.min l) e h Q = Bnd (mmV false (args e l)) Q h := by
  unfold Sim Bnd
  simp only [simple]
  cases args e l with
  | none => simp [mmV]
  | some vs => cases hc : minmax false vs <;> simp [ex2, hc, mmV]
theorem Sim.max {l : List SArg} : Sim (.max l) e h Q = Bnd (mmV true (args e l)) Q h := by
  unfold Sim Bnd
  simp only [simple]
  cases args e l with
  | none => simp [mmV]
  | some vs => cases hc : minmax true vs <;> simp [ex2, hc, mmV]
theorem Sim.slice {sz : Nat} {x : SArg} {lo hi mx : Option SArg} : Sim (.slice sz x lo hi mx) e h Q = Bnd (slV h sz (arg e x) (argO e lo) (argO e hi) (argO e mx)) Q h := by
  unfold Sim Bnd
  simp only [simple]
  cases arg e x with
  | none => simp [slV]
  | some v =>
    cases argO e lo with
    | none => simp [slV]
    | some a =>
      cases argO e hi with
      | none => simp [slV]
      | some b =>
        cases argO e mx with
        | none => simp [slV]
        | some c => cases hc : sSlice h sz v a b c <;> simp [ex2, hc, slV]

/-! ### Numbers -/
theorem bin_add {k : EqC} {a b : Int} : sBin .add k (i64 a) (i64 b) = some (i64 (w64 (a + b))) := rfl
theorem bin_sub {k : EqC} {a b : Int} : sBin .sub k (i64 a) (i64 b) = some (i64 (w64 (a - b))) := rfl
theorem bin_mul {k : EqC} {a b : Int} : sBin .mul k (i64 a) (i64 b) = some (i64 (w64 (a * b))) := rfl
theorem bin_quo {k : EqC} {a b : Int} (hb : b ≠ 0) : sBin .quo k (i64 a) (i64 b) = some (i64 (w64 (a.tdiv b))) := by
  have h : binOp .quo 0 (i64 a) (i64 b) = Sem.pure (i64 (w64 (a.tdiv b))) := by
    simp [binOp, Op.intDiv, hb]
    rfl
  show pureV (binOp .quo 0 (i64 a) (i64 b)) = _
  rw [h]
  rfl
theorem bin_rem {k : EqC} {a b : Int} (hb : b ≠ 0) : sBin .rem k (i64 a) (i64 b) = some (i64 (a.tmod b)) := by
  have h : binOp .rem 0 (i64 a) (i64 b) = Sem.pure (i64 (a.tmod b)) := by
    simp [binOp, Op.intDiv, hb]
    rfl
  show pureV (binOp .rem 0 (i64 a) (i64 b)) = _
  rw [h]
  rfl
theorem bin_lss {k : EqC} {a b : Int} : sBin .lss k (i64 a) (i64 b) = some (.bool (decide (a < b))) := rfl
theorem bin_leq {k : EqC} {a b : Int} : sBin .leq k (i64 a) (i64 b) = some (.bool (decide (a ≤ b))) := rfl
theorem bin_gtr {k : EqC} {a b : Int} : sBin .gtr k (i64 a) (i64 b) = some (.bool (decide (b < a))) := rfl
theorem bin_geq {k : EqC} {a b : Int} : sBin .geq k (i64 a) (i64 b) = some (.bool (decide (b ≤ a))) := rfl
theorem bin_eql {a b : Int} : sBin .eql .prim (i64 a) (i64 b) = some (.bool (decide (a = b))) := by
  have h : (a == b) = decide (a = b) := by rw [Bool.eq_iff_iff]; simp
  simp [sBin, eqV, primEq, h]
theorem bin_neq {a b : Int} : sBin .neq .prim (i64 a) (i64 b) = some (.bool (decide (a ≠ b))) := by
  by_cases hab : a = b <;> simp [sBin, eqV, primEq, hab]
theorem bin_eqb {a b : Bool} : sBin .eql .bl (.bool a) (.bool b) = some (.bool (a == b)) := rfl
theorem bin_eqp_nn : sBin .eql .ptr (.pointer none) (.pointer none) = some (.bool true) := rfl
theorem bin_eqp {a : Addr} : sBin .eql .ptr (.pointer (some a)) (.pointer none) = some (.bool false) := rfl
theorem bin_nep {a : Addr} : sBin .neq .ptr (.pointer (some a)) (.pointer none) = some (.bool true) := rfl
theorem un_not {a : Bool} : sUn .not (.bool a) = some (.bool (!a)) := rfl
theorem max2 {a b : Int} : minmax true [i64 a, i64 b] = some (i64 (if b > a then b else a)) := by
  simp [minmax, ints, int2, cond_eq_ite]
theorem min2 {a b : Int} : minmax false [i64 a, i64 b] = some (i64 (if b < a then b else a)) := by
  simp [minmax, ints, int2, cond_eq_ite]

theorem w64_eq (n : Int) : w64 n = (n + 9223372036854775808) % 18446744073709551616 - 9223372036854775808 := IntKind.wrap_i64 n
theorem w64_id {n : Int} (h1 : -9223372036854775808 ≤ n) (h2 : n < 9223372036854775808) : w64 n = n := by
  rw [w64_eq]
  omega

/-! ### Memory -/
theorem load_one {b o : Nat} : sLoad h none (pt b o) = rd1 h b o := rfl
theorem load_agg {b o n : Nat} : sLoad h (some n) (pt b o) = (rd h b o n).map fun l => .agg l.toArray := by
  simp only [sLoad]
  cases rd h b o n <;> rfl
theorem rd1_of {b o : Nat} {c : List Value} {sz : Nat} {own : Bool} (hb : h.t.get b = some (.cells c sz own)) : rd1 h b o = c[o]? := by simp only [rd1, hb]
theorem rd_of {b o n : Nat} {c : List Value} {sz : Nat} {own : Bool} (hb : h.t.get b = some (.cells c sz own)) (hn : o + n ≤ c.length) : rd h b o n = some ((c.drop o).take n) := by
  simp only [rd, hb, ble_dec, hn, decide_true, cond_true]
theorem store_one {b o : Nat} {v : Value} {c : List Value} {sz : Nat} (hv : oneCell v = true) (hb : h.t.get b = some (.cells c sz true)) (ho : o < c.length) (hf : b ∉ h.fz) : sStore h 1 (pt b o) v = some (h.put b (.cells (c.set o v) sz true)) := by
  have hh : h.held b = false := by
    unfold Hp.held
    rw [List.any_eq_false]
    intro x hx hxe
    rw [beq_dec, decide_eq_true_eq] at hxe
    subst hxe
    exact hf hx
  cases v with
  | agg cs => cases hv
  | tuple cs => cases hv
  | _ => simp only [sStore, Nat.beq_eq_true_eq, show Nat.beq 1 1 = true from rfl, cond_true, wr1, hb, blt_dec, ho, decide_true, hv, hh, Bool.not_false, Bool.and_true]
theorem store_agg {b o n : Nat} {l c : List Value} {sz : Nat} (hv : l.all oneCell = true) (hn : l.length = n) (hb : h.t.get b = some (.cells c sz true)) (ho : o + n ≤ c.length) (hf : b ∉ h.fz) :
    sStore h n (pt b o) (.agg l.toArray) = some (h.put b (.cells (c.take o ++ l ++ c.drop (o + n)) sz true)) := by
  have hh : h.held b = false := by
    unfold Hp.held
    rw [List.any_eq_false]
    intro x hx hxe
    rw [beq_dec, decide_eq_true_eq] at hxe
    subst hxe
    exact hf hx
  subst hn
  simp only [sStore, beq_dec, decide_true, cond_true, wr, hb, ble_dec, ho, hv, hh, Bool.not_false, Bool.and_true]
end
end Go.Eng
