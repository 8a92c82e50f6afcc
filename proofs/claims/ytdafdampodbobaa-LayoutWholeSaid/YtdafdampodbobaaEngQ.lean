/- The evaluator by rules: what a list of instructions, a piece of code, a call comes to, whatever the fuel, if there is enough. -/
import Derived.Test.YtdafdampodbobaaEngP
namespace Go.Eng
set_option linter.unusedSimpArgs false
set_option linter.unusedVariables false

abbrev w64 (n : Int) : Int := IntKind.i64.wrap n
abbrev i64 (n : Int) : Value := .int .i64 n
abbrev pt (b o : Nat) : Value := .pointer (some ⟨b, o, none⟩)
abbrev sl (b o n c : Nat) : Value := .slice (some ⟨b, o, none⟩) n c

section
variable {F : FuncId → Option SFunc} {G : FuncId → List Value → Option Value}

def OpsE (F : FuncId → Option SFunc) (G : FuncId → List Value → Option Value) (l : List SIns) (s : St) (Q : St → Prop) : Prop :=
  ∃ n s', (∀ m, n ≤ m → runOps (ev F G m) l s = some s') ∧ Q s'
def DrawE (F : FuncId → Option SFunc) (G : FuncId → List Value → Option Value) (base : List Nat) (fz : List (Nat × Nat)) (l : List SIns) (s : St) (Q : St → Prop) : Prop :=
  ∃ n s', (∀ m, n ≤ m → runDraw (ev F G m) base l fz s = some s') ∧ Q s'
def Code (F : FuncId → Option SFunc) (G : FuncId → List Value → Option Value) (c : SCode) (s : St) (Q : Flow → St → Prop) : Prop :=
  ∃ n fl s', (∀ m, n ≤ m → (ev F G m).code c s = some (fl, s')) ∧ Q fl s'
def Call (F : FuncId → Option SFunc) (G : FuncId → List Value → Option Value) (f : FuncId) (l : List Value) (h : Hp) (R : Value → Hp → Prop) : Prop :=
  ∃ n v h', (∀ m, n ≤ m → (ev F G m).call f l h = some (v, h')) ∧ R v h'

theorem Call.mono {f : FuncId} {l : List Value} {h : Hp} {R R' : Value → Hp → Prop} (hc : Call F G f l h R) (hr : ∀ v h', R v h' → R' v h') : Call F G f l h R' := by
  obtain ⟨n, v, h', h1, h2⟩ := hc
  exact ⟨n, v, h', h1, hr _ _ h2⟩

theorem Code.mono {c : SCode} {s : St} {Q Q' : Flow → St → Prop} (hc : Code F G c s Q) (hr : ∀ fl s', Q fl s' → Q' fl s') : Code F G c s Q' := by
  obtain ⟨n, v, h', h1, h2⟩ := hc
  exact ⟨n, v, h', h1, hr _ _ h2⟩

/-! ### Instructions -/
/-- A calm instruction's value and heap. -/
def Sim (op : SOp) (e : Env) (h : Hp) (Q : Value → Hp → Prop) : Prop := ∃ v h', simple op e h = some (v, h') ∧ Q v h'

/-- A call of a function that is told. -/
def CallQ (F : FuncId → Option SFunc) (G : FuncId → List Value → Option Value) (o : Option (FuncId × List Value)) (h : Hp) (R : Value → Hp → Prop) : Prop := ∃ f as, o = some (f, as) ∧ Call F G f as h R

/-- What comes when a value is put. -/
def PutK (K : Env → Hp → Prop) (d : Option Nat) (e : Env) (v : Value) (h : Hp) : Prop := K (putE e d v) h

/-- One instruction that is wanted. -/
def InsQ (F : FuncId → Option SFunc) (G : FuncId → List Value → Option Value) (d : Option Nat) (op : SOp) (K : Env → Hp → Prop) (e : Env) (h : Hp) : Prop :=
  match op with
  | .call k ys => CallQ F G (target e k ys) h (PutK K d e)
  | op => Sim op e h (PutK K d e)

/-- Two ways. -/
def IfB (o : Option Value) (w : Bool) (A B : Prop) : Prop := (∃ b, o = some (.bool b) ∧ (bif b == w then A else B)) ∨ (o = some undef ∧ B)

/-- Is it wanted? -/
def Want (g : Option (Nat × Bool)) (e : Env) (A B : Prop) : Prop :=
  match g with
  | none => A
  | some (t, w) => IfB (e.get t) w A B

/-- A list of instructions. -/
def Ops (F : FuncId → Option SFunc) (G : FuncId → List Value → Option Value) : List SIns → (Env → Hp → Prop) → Env → Hp → Prop
  | [], Q, e, h => Q e h
  | i :: l, Q, e, h => Want i.guard e (InsQ F G i.dst i.op (Ops F G l Q) e h) (Ops F G l Q (putE e i.dst undef) h)

def fzKeep (bef : List Nat) (fz : List (Nat × Nat)) : List (Nat × Nat) := fz.filter fun p => !(bef.any (Nat.beq p.1))

def fzStep (i : SIns) (e : Env) (fz : List (Nat × Nat)) : List (Nat × Nat) :=
  bif i.fz then (match loadB i e with | some b => (i.ix, b) :: fz | none => fz) else fz

/-- A region that draws, by its plan. -/
def Draw (F : FuncId → Option SFunc) (G : FuncId → List Value → Option Value) (base : List Nat) : List (Nat × Nat) → List SIns → (Env → Hp → Prop) → Env → Hp → Prop
  | _, [], Q, e, h => Q e ⟨h.t, h.next, base⟩
  | fz, i :: l, Q, e, h => Want i.guard e (InsQ F G i.dst i.op (Draw F G base (fzStep i e (fzKeep i.bef fz)) l Q) e ⟨h.t, h.next, (fzKeep i.bef fz).map (·.2) ++ base⟩) (Draw F G base fz l Q (putE e i.dst undef) h)

theorem insQ_out {i : SIns} {e : Env} {h : Hp} {K : Env → Hp → Prop} (hi : InsQ F G i.dst i.op K e h) : ∃ n s', (∀ m, n ≤ m → insV (ev F G m) i ⟨e, h⟩ = some s') ∧ K s'.e s'.h := by
  unfold InsQ at hi
  split at hi
  · rename_i k ys hop
    obtain ⟨f, as, ht, n, v, h', h1, h2⟩ := hi
    refine ⟨n, ⟨putE e i.dst v, h'⟩, fun m hm => ?_, h2⟩
    unfold insV
    rw [hop]
    simp only [ht, h1 m hm]
  · rename_i hop
    obtain ⟨v, h', hs, hk⟩ := hi
    refine ⟨0, ⟨putE e i.dst v, h'⟩, fun m _ => ?_, hk⟩
    unfold insV
    split
    · rename_i k ys hk'
      exact absurd hk' (hop k ys)
    · simp only [hs]

theorem want_out {i : SIns} {e : Env} {A B : Prop} (hw : Want i.guard e A B) : (wantedS i e = some true ∧ A) ∨ (wantedS i e = some false ∧ B) := by
  unfold Want at hw
  unfold wantedS
  split at hw
  · rename_i hg
    rw [hg]
    exact .inl ⟨rfl, hw⟩
  · rename_i t w hg
    rcases hw with ⟨b, hv, hk⟩ | ⟨hv, hk⟩
    rotate_left
    · rw [hg]
      simp only [hv, undef]
      exact .inr ⟨trivial, hk⟩
    rw [hg]
    simp only [hv]
    cases hb : b == w with
    | true => rw [hb] at hk; exact .inl ⟨rfl, hk⟩
    | false => rw [hb] at hk; exact .inr ⟨rfl, hk⟩

theorem Ops.out : ∀ (l : List SIns) (e : Env) (h : Hp) (Q : Env → Hp → Prop), Ops F G l Q e h → OpsE F G l ⟨e, h⟩ fun s => Q s.e s.h := by
  intro l
  induction l with
  | nil => intro e h Q hq; exact ⟨0, ⟨e, h⟩, fun _ _ => rfl, hq⟩
  | cons i l ih =>
    intro e h Q hq
    rcases want_out hq with ⟨hw, hk⟩ | ⟨hw, hk⟩
    · obtain ⟨n1, s1, h1, h2⟩ := insQ_out hk
      obtain ⟨n2, s2, h3, h4⟩ := ih _ _ _ h2
      refine ⟨max n1 n2, s2, fun m hm => ?_, h4⟩
      simp only [runOps, hw, h1 m (by omega)]
      exact h3 m (by omega)
    · obtain ⟨n, s', h1, h2⟩ := ih _ _ _ hk
      refine ⟨n, s', fun m hm => ?_, h2⟩
      simp only [runOps, hw]
      exact h1 m hm

theorem Draw.out {base : List Nat} : ∀ (l : List SIns) (fz : List (Nat × Nat)) (e : Env) (h : Hp) (Q : Env → Hp → Prop), Draw F G base fz l Q e h → DrawE F G base fz l ⟨e, h⟩ fun s => Q s.e s.h := by
  intro l
  induction l with
  | nil => intro fz e h Q hq; exact ⟨0, _, fun _ _ => rfl, hq⟩
  | cons i l ih =>
    intro fz e h Q hq
    rcases want_out hq with ⟨hw, hk⟩ | ⟨hw, hk⟩
    · obtain ⟨n1, s1, h1, h2⟩ := insQ_out hk
      obtain ⟨n2, s2, h3, h4⟩ := ih _ _ _ _ h2
      refine ⟨max n1 n2, s2, fun m hm => ?_, h4⟩
      have h5 := h1 m (by omega)
      have h6 := h3 m (by omega)
      unfold fzKeep at h5
      unfold fzStep fzKeep at h6
      simp only [runDraw, hw, h5]
      cases hf : i.fz with
      | false =>
        rw [hf] at h6
        exact h6
      | true =>
        rw [hf] at h6
        simp only [cond_true] at h6 ⊢
        split <;> rename_i hb <;> rw [hb] at h6 <;> exact h6
    · obtain ⟨n, s', h1, h2⟩ := ih _ _ _ _ hk
      refine ⟨n, s', fun m hm => ?_, h2⟩
      simp only [runDraw, hw]
      exact h1 m hm

/-! ### Code -/
theorem Code.skip {s : St} {Q : Flow → St → Prop} (h : Q .next s) : Code F G .skip s Q := ⟨1, .next, s, fun m hm => by obtain ⟨k, rfl⟩ := Nat.exists_eq_add_of_le hm; rw [Nat.add_comm]; rfl, h⟩
theorem Code.exit {s : St} {i : Nat} {Q : Flow → St → Prop} (h : Q (.exit i) s) : Code F G (.exit i) s Q := ⟨1, .exit i, s, fun m hm => by obtain ⟨k, rfl⟩ := Nat.exists_eq_add_of_le hm; rw [Nat.add_comm]; rfl, h⟩
theorem Code.ret {s : St} {Q : Flow → St → Prop} (h : Q .ret s) : Code F G .ret s Q := ⟨1, .ret, s, fun m hm => by obtain ⟨k, rfl⟩ := Nat.exists_eq_add_of_le hm; rw [Nat.add_comm]; rfl, h⟩

theorem code_succ {c : SCode} {s : St} {m : Nat} : (ev F G (m + 1)).code c s = stepCode (ev F G m) c s := rfl

theorem Code.ops {l : List SIns} {e : Env} {h : Hp} {Q : Flow → St → Prop} (hq : Ops F G l (fun e' h' => Q .next ⟨e', h'⟩) e h) : Code F G (.ops l) ⟨e, h⟩ Q := by
  obtain ⟨n, s', h1, h2⟩ := Ops.out _ _ _ _ hq
  refine ⟨n + 1, .next, s', fun m hm => ?_, h2⟩
  obtain ⟨k, rfl⟩ : ∃ k, m = k + 1 := ⟨m - 1, by omega⟩
  simp only [code_succ, stepCode, h1 k (by omega)]

theorem Code.draw {l : List SIns} {e : Env} {h : Hp} {Q : Flow → St → Prop} (hq : Draw F G h.fz [] l (fun e' h' => Q .next ⟨e', h'⟩) e h) : Code F G (.draw l) ⟨e, h⟩ Q := by
  obtain ⟨n, s', h1, h2⟩ := Draw.out _ _ _ _ _ hq
  refine ⟨n + 1, .next, s', fun m hm => ?_, h2⟩
  obtain ⟨k, rfl⟩ : ∃ k, m = k + 1 := ⟨m - 1, by omega⟩
  simp only [code_succ, stepCode, h1 k (by omega)]

theorem Code.seq {a b : SCode} {s : St} {Q : Flow → St → Prop} (h : Code F G a s fun fl s' => match fl with | .next => Code F G b s' Q | fl => Q fl s') : Code F G (.seq a b) s Q := by
  obtain ⟨n, fl, s1, h1, h2⟩ := h
  cases fl with
  | next =>
    obtain ⟨n2, fl2, s2, h3, h4⟩ := h2
    refine ⟨max n n2 + 1, fl2, s2, fun m hm => ?_, h4⟩
    obtain ⟨k, rfl⟩ : ∃ k, m = k + 1 := ⟨m - 1, by omega⟩
    simp only [code_succ, stepCode, h1 k (by omega), h3 k (by omega)]
  | exit i =>
    refine ⟨n + 1, .exit i, s1, fun m hm => ?_, h2⟩
    obtain ⟨k, rfl⟩ : ∃ k, m = k + 1 := ⟨m - 1, by omega⟩
    simp only [code_succ, stepCode, h1 k (by omega)]
  | ret =>
    refine ⟨n + 1, .ret, s1, fun m hm => ?_, h2⟩
    obtain ⟨k, rfl⟩ : ∃ k, m = k + 1 := ⟨m - 1, by omega⟩
    simp only [code_succ, stepCode, h1 k (by omega)]

theorem Code.cond {c : SArg} {a b : SCode} {s : St} {t : Bool} {Q : Flow → St → Prop} (hc : arg s.e c = some (.bool t)) (ht : t = true → Code F G a s Q) (hf : t = false → Code F G b s Q) : Code F G (.cond c a b) s Q := by
  cases t with
  | true =>
    obtain ⟨n, fl, s1, h1, h2⟩ := ht rfl
    refine ⟨n + 1, fl, s1, fun m hm => ?_, h2⟩
    obtain ⟨k, rfl⟩ : ∃ k, m = k + 1 := ⟨m - 1, by omega⟩
    simp only [code_succ, stepCode, hc, cond_true, h1 k (by omega)]
  | false =>
    obtain ⟨n, fl, s1, h1, h2⟩ := hf rfl
    refine ⟨n + 1, fl, s1, fun m hm => ?_, h2⟩
    obtain ⟨k, rfl⟩ : ∃ k, m = k + 1 := ⟨m - 1, by omega⟩
    simp only [code_succ, stepCode, hc, cond_false, h1 k (by omega)]

theorem Code.block {id : Nat} {b : SCode} {s : St} {Q : Flow → St → Prop} (h : Code F G b s fun fl s' => match fl with | .exit i => if i = id then Q .next s' else Q (.exit i) s' | fl => Q fl s') : Code F G (.block id b) s Q := by
  obtain ⟨n, fl, s1, h1, h2⟩ := h
  cases fl with
  | next =>
    refine ⟨n + 1, .next, s1, fun m hm => ?_, h2⟩
    obtain ⟨k, rfl⟩ : ∃ k, m = k + 1 := ⟨m - 1, by omega⟩
    simp only [code_succ, stepCode, h1 k (by omega)]
  | exit i =>
    by_cases hi : i = id
    · simp only [hi, if_true] at h2
      refine ⟨n + 1, .next, s1, fun m hm => ?_, h2⟩
      obtain ⟨k, rfl⟩ : ∃ k, m = k + 1 := ⟨m - 1, by omega⟩
      simp only [code_succ, stepCode, h1 k (by omega), hi, beq_dec, decide_true, cond_true]
    · simp only [hi, if_false] at h2
      refine ⟨n + 1, .exit i, s1, fun m hm => ?_, h2⟩
      obtain ⟨k, rfl⟩ : ∃ k, m = k + 1 := ⟨m - 1, by omega⟩
      simp only [code_succ, stepCode, h1 k (by omega), hi, beq_dec, decide_false, cond_false]
  | ret =>
    refine ⟨n + 1, .ret, s1, fun m hm => ?_, h2⟩
    obtain ⟨k, rfl⟩ : ∃ k, m = k + 1 := ⟨m - 1, by omega⟩
    simp only [code_succ, stepCode, h1 k (by omega)]

/-- A round of a loop. -/
theorem Code.loop {b : SCode} {s : St} {Q : Flow → St → Prop} (h : Code F G b s fun fl s' => match fl with | .next => Code F G (.loop b) s' Q | fl => Q fl s') : Code F G (.loop b) s Q := by
  obtain ⟨n, fl, s1, h1, h2⟩ := h
  cases fl with
  | next =>
    obtain ⟨n2, fl2, s2, h3, h4⟩ := h2
    refine ⟨max n n2 + 1, fl2, s2, fun m hm => ?_, h4⟩
    obtain ⟨k, rfl⟩ : ∃ k, m = k + 1 := ⟨m - 1, by omega⟩
    simp only [code_succ, stepCode, h1 k (by omega), h3 k (by omega)]
  | exit i =>
    refine ⟨n + 1, .exit i, s1, fun m hm => ?_, h2⟩
    obtain ⟨k, rfl⟩ : ∃ k, m = k + 1 := ⟨m - 1, by omega⟩
    simp only [code_succ, stepCode, h1 k (by omega)]
  | ret =>
    refine ⟨n + 1, .ret, s1, fun m hm => ?_, h2⟩
    obtain ⟨k, rfl⟩ : ∃ k, m = k + 1 := ⟨m - 1, by omega⟩
    simp only [code_succ, stepCode, h1 k (by omega)]

/-- A loop by a measure. -/
theorem Code.while {b : SCode} {Q : Flow → St → Prop} (I : Nat → St → Prop) (round : ∀ n s, I n s → Code F G b s fun fl s' => match fl with | .next => ∃ k, k < n ∧ I k s' | fl => Q fl s') :
    ∀ n s, I n s → Code F G (.loop b) s Q := by
  intro n
  induction n using Nat.strongRecOn with
  | _ n ih =>
    intro s hs
    refine Code.loop ((round n s hs).mono fun fl s' h => ?_)
    cases fl with
    | next => obtain ⟨k, hk, hi⟩ := h; exact ih k hk s' hi
    | exit i => exact h
    | ret => exact h

/-! ### Calls -/
theorem Call.enter {f : FuncId} {l : List Value} {h : Hp} {R : Value → Hp → Prop} {sf : SFunc} (hg : G f l = none) (hf : F f = some sf) (hn : l.length ≤ sf.n)
    (hb : Code F G sf.body ⟨envOf 0 l .leaf, h⟩ fun fl s => (match fl with | .exit _ => False | _ => True) ∧ ∃ vs, resVs s.e s.h sf.res = some vs ∧ R (pack vs) s.h) : Call F G f l h R := by
  obtain ⟨n, fl, s, h1, h2, vs, h3, h4⟩ := hb
  refine ⟨n + 1, pack vs, s.h, fun m hm => ?_, h4⟩
  obtain ⟨k, rfl⟩ : ∃ k, m = k + 1 := ⟨m - 1, by omega⟩
  have hble : Nat.ble l.length sf.n = true := by rw [Nat.ble_eq]; exact hn
  simp only [ev, stepCall, hg, hf, hble, cond_true, h1 k (by omega)]
  cases fl with
  | next => simp only [h3]
  | ret => simp only [h3]
  | exit i => exact h2.elim

theorem Call.known {f : FuncId} {l : List Value} {h : Hp} {R : Value → Hp → Prop} {v : Value} (hg : G f l = some v) (hr : R v h) : Call F G f l h R := by
  refine ⟨1, v, h, fun m hm => ?_, hr⟩
  obtain ⟨k, rfl⟩ : ∃ k, m = k + 1 := ⟨m - 1, by omega⟩
  simp only [ev, stepCall, hg]

/-- From the rules to an equation. -/
theorem Call.out {f : FuncId} {l : List Value} {h : Hp} {R : Value → Hp → Prop} (hc : Call F G f l h R) : ∃ m v h', (ev F G m).call f l h = some (v, h') ∧ R v h' := by
  obtain ⟨n, v, h', h1, h2⟩ := hc
  exact ⟨n, v, h', h1 n (Nat.le_refl n), h2⟩
end
end Go.Eng
