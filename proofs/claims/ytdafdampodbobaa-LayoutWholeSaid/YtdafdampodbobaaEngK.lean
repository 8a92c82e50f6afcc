/- Instructions, and regions that do not draw their order. -/
import Derived.Test.YtdafdampodbobaaEngJ
namespace Go.Eng
set_option linter.unusedSimpArgs false
set_option linter.unusedVariables false

def exitOf : Flow → Exit → Prop
  | .next, .normal => True
  | .exit i, .exit j => i = j
  | .ret, .ret => True
  | _, _ => False

structure SRel (K : Nat → Prop) (W : World) (ρ : Rho) (n : Nat) (s : St) (a : Act) (w : World) : Prop where
  heap : HRel K W ρ s.h w
  size : a.tmps.size = n
  dfs : a.defers = []
  env : ∀ t v, s.e.get t = some v → ∃ v', a.tmps[t]? = some v' ∧ VRel ρ v v'

def CallR (K : Nat → Prop) (W : World) (ρ : Rho) (h : Hp) (v : Value) (h' : Hp) (e : Ending) (w' : World) : Prop :=
  ∃ ρ' v', e = .returned v' ∧ VRel ρ' v v' ∧ Ext ρ ρ' h ∧ HRel K W ρ' h' w' ∧ Fr ρ h h'

structure CallSound (P : Program) (r : Ev) : Prop where
  calls : ∀ f l h v h', r.call f l h = some (v, h') → ∀ (K : Nat → Prop) (W : World) (ρ : Rho) (w : World) (l' : List Value), HRel K W ρ h w → LRel ρ l l' → Calls P f l'.toArray w (CallR K W ρ h v h')
  defs : ∀ f l h x, r.call f l h = some x → ∃ fn c, P.funcs[f]? = some fn ∧ fn.body = some c ∧ fn.name ≠ "runtime.NumGoroutine"

section
variable {P : Program} {K : Nat → Prop} {W w : World} {ρ : Rho} {h : Hp} {e : Env} {a : Act} {r : Ev}

theorem getD_of {t : Nat} {v : Value} (h : a.tmps[t]? = some v) : a.eval (.tmp t) = v := by
  simp only [Act.eval, Array.getD_eq_getD_getElem?, h, Option.getD_some]

theorem ar_of {xs : List Operand} (he : ∀ t, Operand.tmp t ∈ xs → ∀ v, e.get t = some v → ∃ v', a.tmps[t]? = some v' ∧ VRel ρ v v') : AR ρ e a.eval xs := by
  intro x hx y v hy hv
  cases x with
  | tmp t =>
    simp only [sArg, Option.some.injEq] at hy
    subst hy
    obtain ⟨v', h1, h2⟩ := he t hx v hv
    rw [getD_of h1]
    exact h2
  | const u =>
    simp only [sArg] at hy
    cases hc : isClosed u with
    | false => rw [hc] at hy; cases hy
    | true =>
      rw [hc] at hy
      cases hy
      simp only [arg, Option.some.injEq] at hv
      subst hv
      exact closed_self 4 _ hc
  | global g => cases hy
  | func f =>
    simp only [sArg, Option.some.injEq] at hy
    subst hy
    simp only [arg, Option.some.injEq] at hv
    subst hv
    exact VRel.mkFn f .nil .nil

theorem callFunc_run {f : FuncId} {as : Array Value} {fn : Func} {c : Code} (hf : P.funcs[f]? = some fn) (hb : fn.body = some c) (hn : fn.name ≠ "runtime.NumGoroutine") :
    (callFunc f as).run P w = .ok (.enter f as) w := by
  have hn' : (fn.name == "runtime.NumGoroutine") = false := by simpa using hn
  simp only [callFunc, Sem.run_bind, run_program, Result.andThen_ok, hf, hn', Bool.false_eq_true, if_false, hb, Option.isNone_some, Sem.run_pure]

theorem lookT_mem {t : TypeId} {f : FuncId} : ∀ (l : List (TypeId × FuncId)), lookT t l = some f → (t, f) ∈ l := by
  intro l
  induction l with
  | nil => intro h; cases h
  | cons x r ih =>
    intro h
    obtain ⟨u, g⟩ := x
    simp only [lookT] at h
    cases hc : Nat.beq t u with
    | true =>
      rw [hc] at h
      cases h
      rw [beq_dec, decide_eq_true_eq] at hc
      subst hc
      simp
    | false =>
      rw [hc, cond_false] at h
      exact List.mem_cons_of_mem _ (ih h)

theorem invTbl_spec {name : String} {t : TypeId} {f : FuncId} (h : (t, f) ∈ invTbl P name) :
    ∃ i m el, P.info? t = some i ∧ i.methods.find? (·.name == name) = some m ∧ m.path.toList = [] ∧ m.func = some (f, true) ∧ P.underlying t = some (.pointer el) := by
  unfold invTbl at h
  obtain ⟨u, _, hu⟩ := List.mem_filterMap.1 h
  split at hu
  · rename_i i hi
    split at hu
    · rename_i m hm
      split at hu
      · rename_i g el h1 h2 h3
        cases hu
        exact ⟨i, m, el, hi, hm, h1, h2, h3⟩
      · cases hu
    · cases hu
  · cases hu

theorem method_run {name : String} {t : TypeId} {f : FuncId} {v : Value} {n : Nat} (h : (t, f) ∈ invTbl P name) : (method (n + 1) t v name).run P w = .ok (f, v) w := by
  obtain ⟨i, m, el, h1, h2, h3, h4, h5⟩ := invTbl_spec h
  simp only [method, Sem.run_bind, run_typeInfo' h1, Result.andThen_ok, h2, h3, follow, Sem.run_pure, h4, receiverAt, run_underlying' h5, Place.get]

theorem builtin_not_call {dst : Option Tmp} {b : Builtin} {xs : Array Operand} {ts : Array TypeId} {ty : TypeId} {pos : String} {after : Array Edge} {g : Option (Nat × Bool)} {k : SCallee} {ys : List SArg}
    (hs : sOp P ⟨dst, .call ⟨.builtin b, xs, ts⟩, ty, pos, after, g⟩ = some (.call k ys)) : False := by
  simp only [sOp, sCall] at hs
  repeat' (split at hs)
  all_goals first
    | (cases hs; done)
    | (rw [Bool.cond_eq_ite] at hs; split at hs <;> cases hs)

/-- What a call enters, with what. -/
theorem exec_call {dst : Option Tmp} {c : Call} {ty : TypeId} {pos : String} {after : Array Edge} {g : Option (Nat × Bool)} {op : SOp} (hs : sOp P ⟨dst, .call c, ty, pos, after, g⟩ = some op) :
    (∀ (k : SCallee) (ys : List SArg), op = .call k ys → ∀ (f : FuncId) (l : List Value), target e k ys = some (f, l) → AR ρ e a.eval (Op.call c).operands.toList → (∃ fn b, P.funcs[f]? = some fn ∧ fn.body = some b ∧ fn.name ≠ "runtime.NumGoroutine") →
      ∃ l', LRel ρ l l' ∧ (execOp a.eval ⟨dst, .call c, ty, pos, after, g⟩).run P w = .ok (.enter f l'.toArray) w) := by
  intro k ys hop f l ht hA ⟨fn, b, hf, hb, hn⟩
  subst hop
  obtain ⟨callee, xs, ts⟩ := c
  have fin : ∀ as : Array Value, (callFunc f as).run P w = .ok (.enter f as) w := fun as => callFunc_run hf hb hn
  cases callee with
  | builtin bb =>
    exact (builtin_not_call hs).elim
  | value fv =>
    simp only [sOp, sCall] at hs
    split at hs
    · rename_i k' ys' hk hys
      cases hs
      unfold target at ht
      split at ht
      · cases ht
      · rename_i l0 hl0
        have hargs := args_rel (ev := a.eval) _ _ _ (fun x hx => hA x (by simp [Op.operands, Call.operands] at hx ⊢; exact .inr hx)) hys hl0
        have hmap : (xs.map a.eval) = (xs.toList.map a.eval).toArray := by apply Array.ext'; simp
        have gen : ∀ v, a.eval fv = v → ∀ (f1 : FuncId) (c1 c2 : Array Value), v = .func (.func f1) c1 c2 → f1 = f →
            (execOp a.eval ⟨dst, .call ⟨.value fv, xs, ts⟩, ty, pos, after, g⟩).run P w = .ok (.enter f (c1 ++ xs.map a.eval ++ c2)) w := by
          intro v hv f1 c1 c2 e1 e2
          subst e2
          simp only [execOp, resolve, hv, e1, Deferred.ofValue, Sem.run_bind, Sem.run_pure, Result.andThen_ok, invoke, fin]
        cases fv with
        | func f0 =>
          simp only [sCallee, Option.some.injEq] at hk
          subst hk
          simp only [Option.some.injEq, Prod.mk.injEq] at ht
          obtain ⟨rfl, rfl⟩ := ht
          refine ⟨_, hargs, ?_⟩
          rw [gen _ rfl f0 #[] #[] rfl rfl, hmap]
          simp
        | _ =>
          simp only [sCallee] at hk
          obtain ⟨y, hy, rfl⟩ := map_some hk
          simp only at ht
          split at ht
          · rename_i f1 c1 c2 hy2
            simp only [Option.some.injEq, Prod.mk.injEq] at ht
            obtain ⟨rfl, rfl⟩ := ht
            have hr := hA _ (by simp [Op.operands, Call.operands]) _ _ hy hy2
            generalize hx : a.eval _ = x0 at hr
            cases hr with
            | fn _ _ c1' _ c2' h1 h2 h3 h4 =>
              refine ⟨c1'.toList ++ xs.toList.map a.eval ++ c2'.toList, (LRel.append (LRel.append ⟨h1, h3⟩ hargs) ⟨h2, h4⟩), ?_⟩
              rw [gen _ hx f1 c1' c2' rfl rfl]
              congr 2
              apply Array.ext'
              simp
          · cases ht
    · cases hs
  | invoke rc m =>
    simp only [sOp, sCall] at hs
    split at hs
    · rename_i k' ys' hk hys
      cases hs
      simp only [sCallee] at hk
      obtain ⟨y, hy, rfl⟩ := map_some hk
      unfold target at ht
      split at ht
      · cases ht
      · rename_i l0 hl0
        have hargs := args_rel (ev := a.eval) _ _ _ (fun x hx => hA x (by simp [Op.operands, Call.operands] at hx ⊢; exact .inr hx)) hys hl0
        simp only at ht
        split at ht
        · rename_i t v hy2
          split at ht
          · rename_i f1 hlk
            simp only [Option.some.injEq, Prod.mk.injEq] at ht
            obtain ⟨rfl, rfl⟩ := ht
            have hr := hA rc (by simp [Op.operands, Call.operands]) _ _ hy hy2
            generalize hx : a.eval rc = x0 at hr
            cases hr with
            | iface _ _ v' hvv =>
              refine ⟨v' :: xs.toList.map a.eval, LRel.cons hvv hargs, ?_⟩
              obtain ⟨n, hn⟩ : ∃ n, P.types.size + Made.depth = n + 1 := ⟨P.types.size + (Made.depth - 1), by unfold Made.depth; omega⟩
              simp only [execOp, resolve, hx, Sem.run_bind, Sem.run_pure, Result.andThen_ok, invoke]
              have h0 : (#[Value.iface t v'] ++ Array.map a.eval xs)[0]? = some (Value.iface t v') := by
                rw [Array.getElem?_append_left (Nat.zero_lt_one)]; rfl
              rw [h0]
              simp only [callMethod, Sem.run_bind, run_program, Result.andThen_ok, hn, method_run (lookT_mem _ hlk), fin]
              congr 2
              apply Array.ext'
              simp only [Array.toList_append, Array.toList_extract, Array.size_append, Array.size_map]
              simp
              exact List.take_of_length_le (by simp)
          · cases ht
        · cases ht
    · cases hs
end

section
variable {P : Program} {K : Nat → Prop} {W w : World} {ρ : Rho} {h : Hp} {a : Act} {r : Ev}

theorem not_call {α : Type} {x : Option α} {f : α → SOp} {k : SCallee} {ys : List SArg} (hf : ∀ a, f a ≠ .call k ys) (h : x.map f = some (.call k ys)) : False := by
  obtain ⟨q, _, hq⟩ := map_some h
  exact hf q hq

theorem call_of_sOp {dst : Option Tmp} {op0 : Op} {ty : TypeId} {pos : String} {after : Array Edge} {g : Option (Nat × Bool)} {k : SCallee} {ys : List SArg}
    (hop : sOp P ⟨dst, op0, ty, pos, after, g⟩ = some (.call k ys)) : ∃ c, op0 = .call c := by
  cases op0 with
  | call c => exact ⟨c, rfl⟩
  | move x => exact (not_call (fun _ h => by cases h) hop).elim
  | assign x => exact (not_call (fun _ h => by cases h) hop).elim
  | alloc x => exact (not_call (fun _ h => by cases h) hop).elim
  | box t x => exact (not_call (fun _ h => by cases h) hop).elim
  | nilCheck x => exact (not_call (fun _ h => by cases h) hop).elim
  | unOp u t x => exact (not_call (fun _ h => by cases h) hop).elim
  | extract x i => exact (not_call (fun _ h => by cases h) hop).elim
  | makeFunc fn x y =>
    cases fn with
    | func f =>
      simp only [sOp] at hop
      split at hop <;> cases hop
    | _ => cases hop
  | build t ps =>
    simp only [sOp] at hop
    split at hop
    · exact (not_call (fun _ h => by cases h) hop).elim
    · cases hop
  | buildSlice t n ps =>
    simp only [sOp] at hop
    split at hop
    · split at hop
      · rw [Bool.cond_eq_ite] at hop
        split at hop
        · exact (not_call (fun _ h => by cases h) hop).elim
        · cases hop
      · cases hop
    · cases hop
  | indexAddr t x i =>
    simp only [sOp] at hop
    split at hop
    · exact (not_call (fun _ h => by cases h) hop).elim
    · cases hop
  | binOp o t x y u =>
    simp only [sOp] at hop
    split at hop
    · rw [Bool.cond_eq_ite] at hop
      split at hop
      · split at hop
        · split at hop <;> cases hop
        · cases hop
        · split at hop
          · rw [Bool.cond_eq_ite] at hop
            split at hop <;> cases hop
          · cases hop
      · cases hop
    · cases hop
  | slice t x lo hi mx =>
    simp only [sOp] at hop
    split at hop
    · split at hop
      · split at hop <;> cases hop
      · cases hop
    · cases hop
  | fieldAddr s x f =>
    simp only [sOp] at hop
    split at hop
    · split at hop
      · split at hop <;> cases hop
      · cases hop
    · cases hop
  | field s x f =>
    simp only [sOp] at hop
    split at hop
    · split at hop
      · split at hop <;> cases hop
      · cases hop
    · cases hop
  | typeAssert x t u ok =>
    simp only [sOp] at hop
    split at hop
    · cases hop
    · split at hop <;> cases hop
    · cases hop
  | load t x => simp only [sOp] at hop; split at hop <;> cases hop
  | store t x y => simp only [sOp] at hop; split at hop <;> cases hop
  | pick c x y => simp only [sOp] at hop; split at hop <;> cases hop
  | makeInterface t x => simp only [sOp] at hop; split at hop <;> cases hop
  | _ => cases hop

/-- One instruction: what follows is asked in every state that is related. -/
theorem insV_sim (hr : CallSound P r) {i : SIns} {o : Oper} {s s' : St} (hop : sOp P o = some i.op) (hR : HRel K W ρ s.h w) (hA : AR ρ s.e a.eval o.op.operands.toList) (hv : insV r i s = some s') :
    ∃ v, s'.e = putE s.e i.dst v ∧ ∀ (next : Act → World → Prop) (Q : Exit → Act → World → Prop),
      (∀ ρ' v' w', VRel ρ' v v' → Ext ρ ρ' s.h → HRel K W ρ' s'.h w' → Fr ρ s.h s'.h → next (a.put o.dst v') w') → o.wp P a w next Q := by
  have simp_case : ∀ (v : Value) (h' : Hp), simple i.op s.e s.h = some (v, h') → s' = ⟨putE s.e i.dst v, h'⟩ →
      ∃ v, s'.e = putE s.e i.dst v ∧ ∀ (next : Act → World → Prop) (Q : Exit → Act → World → Prop),
      (∀ ρ' v' w', VRel ρ' v v' → Ext ρ ρ' s.h → HRel K W ρ' s'.h w' → Fr ρ s.h s'.h → next (a.put o.dst v') w') → o.wp P a w next Q := by
    intro v h' hs he
    subst he
    obtain ⟨ρ', w', hy⟩ := simple_sim hR hop hA hs
    refine ⟨v, rfl, fun next Q hn => ?_⟩
    rcases hy.run with ⟨v', h1, h2⟩ | ⟨h1, h2⟩
    · simp only [Oper.wp, h1, Oper.upon_value]
      exact hn ρ' v' w' h2 hy.ext hy.rel hy.fr
    · simp only [Oper.wp, h1, Oper.upon_skip]
      exact hn ρ' undef w' (by rw [h2]; exact closed_self 4 _ rfl) hy.ext hy.rel hy.fr
  unfold insV at hv
  split at hv
  · rename_i k ys hk
    split at hv
    · cases hv
    · rename_i f l ht
      split at hv
      · rename_i v h' hc
        cases hv
        refine ⟨v, rfl, fun next Q hn => ?_⟩
        obtain ⟨dst, op0, ty, pos, after, g⟩ := o
        have hcall : ∃ c, op0 = .call c := call_of_sOp (hk ▸ hop)
        obtain ⟨c, rfl⟩ := hcall
        obtain ⟨l', hl, hrun⟩ := exec_call (P := P) (w := w) (e := s.e) (a := a) (ρ := ρ) hop k ys hk f l ht hA (hr.defs f l s.h _ hc)
        simp only [Oper.wp, hrun, Oper.upon_enter]
        refine (hr.calls f l s.h v h' hc K W ρ w l' hR hl).mono fun e w' ⟨ρ', v', he, h1, h2, h3, h4⟩ => ?_
        subst he
        exact hn ρ' v' w' h1 h2 h3 h4
      · cases hv
  · split at hv
    · rename_i v h' hs
      cases hv
      exact simp_case v h' hs rfl
    · cases hv

theorem put_env {ρ : Rho} {e : Env} {n : Nat} {dst : Option Nat} {v v' : Value} (hsz : a.tmps.size = n) (hlt : ∀ d, dst = some d → d < n)
    (he : ∀ t u, e.get t = some u → ∃ u', a.tmps[t]? = some u' ∧ VRel ρ u u') (hv : VRel ρ v v') :
    (∀ t u, (putE e dst v).get t = some u → ∃ u', (a.put dst v').tmps[t]? = some u' ∧ VRel ρ u u') ∧ (a.put dst v').tmps.size = n ∧ (a.put dst v').defers = a.defers := by
  cases dst with
  | none => exact ⟨he, hsz, rfl⟩
  | some d =>
    have hd := hlt d rfl
    refine ⟨fun t u hu => ?_, by simpa [Act.put] using hsz, rfl⟩
    simp only [putE] at hu
    rw [T.get_set] at hu
    by_cases ht : t = d
    · subst ht
      rw [if_pos rfl] at hu
      cases hu
      exact ⟨v', by simp [Act.put, hsz, hd], hv⟩
    · rw [if_neg ht] at hu
      obtain ⟨u', h1, h2⟩ := he t u hu
      exact ⟨u', by simp only [Act.put]; rw [Array.getElem?_setIfInBounds_ne (Ne.symm ht)]; exact h1, h2⟩

theorem env_mono {ρ ρ' : Rho} {e : Env} (hr : ρ.le ρ') (he : ∀ t u, e.get t = some u → ∃ u', a.tmps[t]? = some u' ∧ VRel ρ u u') : ∀ t u, e.get t = some u → ∃ u', a.tmps[t]? = some u' ∧ VRel ρ' u u' := by
  intro t u hu
  obtain ⟨u', h1, h2⟩ := he t u hu
  exact ⟨u', h1, h2.mono hr⟩

theorem sIns_spec {n : Nat} {ops : Array Oper} {o : Oper} {i : SIns} (h : sIns P n ops o = some i) :
    sOp P o = some i.op ∧ i.dst = o.dst ∧ (∀ d, i.dst = some d → d < n) ∧
    ((o.guard = none ∧ i.guard = none) ∨ ∃ j w t, o.guard = some (j, w) ∧ i.guard = some (t, w) ∧ (ops[j]?).bind (·.dst) = some t) := by
  unfold sIns at h
  cases hc : dstOk n o.dst with
  | false => rw [hc] at h; cases h
  | true =>
    rw [hc, cond_true] at h
    have hlt : ∀ d, o.dst = some d → d < n := by
      intro d hd
      rw [hd] at hc
      simpa [dstOk, Nat.blt_eq] using hc
    cases hop : sOp P o with
    | none => rw [hop] at h; cases h
    | some op =>
      rw [hop] at h
      simp only at h
      cases hg : o.guard with
      | none =>
        rw [hg] at h
        cases h
        exact ⟨rfl, rfl, hlt, .inl ⟨rfl, rfl⟩⟩
      | some jw =>
        obtain ⟨j, w⟩ := jw
        rw [hg] at h
        simp only at h
        cases ht : (ops[j]?).bind (·.dst) with
        | none => rw [ht] at h; cases h
        | some t =>
          rw [ht] at h
          cases h
          exact ⟨rfl, rfl, hlt, .inr ⟨j, w, t, rfl, rfl, ht⟩⟩

/-- Whether an operation is wanted. -/
theorem wanted_rel {ops : Array Oper} {o : Oper} {i : SIns} {e : Env} {b : Bool} (hg : (o.guard = none ∧ i.guard = none) ∨ ∃ j w t, o.guard = some (j, w) ∧ i.guard = some (t, w) ∧ (ops[j]?).bind (·.dst) = some t)
    (he : ∀ t w, i.guard = some (t, w) → ∀ u, e.get t = some u → ∃ u', a.tmps[t]? = some u' ∧ VRel ρ u u') (hb : wantedS i e = some b) : Region.wanted o (yielded ops a.tmps) = b := by
  rcases hg with ⟨h1, h2⟩ | ⟨j, w, t, h1, h2, h3⟩
  · unfold wantedS at hb
    rw [h2] at hb
    simp only [Option.some.injEq] at hb
    unfold Region.wanted
    rw [h1]
    exact hb
  · unfold wantedS at hb
    rw [h2] at hb
    simp only at hb
    unfold Region.wanted
    rw [h1]
    simp only
    split at hb
    · rename_i q hq
      cases hb
      obtain ⟨u', g1, g2⟩ := he t w h2 _ hq
      obtain rfl := bool_inv g2
      simp only [yielded, h3, Option.bind_some, g1]
      rw [Bool.eq_iff_iff]
      simp
    · rename_i q hnb hq
      cases hb
      obtain ⟨u', g1, g2⟩ := he t w h2 _ hq
      simp only [yielded, h3, Option.bind_some, g1]
      cases g2 <;> first | (exact absurd rfl (hnb _)) | rfl
    · cases hb

/-- A region in the order of its text. -/
theorem ops_sim (hr : CallSound P r) {n : Nat} {ops : Array Oper} {Q : Exit → Act → World → Prop} : ∀ (rest : List Oper) (k : Nat) (li : List SIns) (s s' : St) (ρ : Rho) (a : Act) (w : World), ops.toList.drop k = rest → sInss P n ops rest = some li → runOps r li s = some s' →
    SRel K W ρ n s a w → (∀ ρ' a' w', SRel K W ρ' n s' a' w' → Ext ρ ρ' s.h → Fr ρ s.h s'.h → Q .normal a' w') → wpOps P ops Q (List.range' k (ops.size - k)) a w := by
  intro rest
  induction rest with
  | nil =>
    intro k li s s' ρ a w hd hs hv hR hQ
    simp only [sInss, Option.some.injEq] at hs
    subst hs
    simp only [runOps, Option.some.injEq] at hv
    subst hv
    have hk : ops.size - k = 0 := by
      have := congrArg List.length hd
      simpa using this
    rw [hk]
    exact hQ ρ a w hR (Ext.refl _ _) (Fr.refl _ _)
  | cons o rest ih =>
    intro k li s s' ρ a w hd hs hv hR hQ
    simp only [sInss] at hs
    split at hs
    · cases hs
    · rename_i i hi
      split at hs
      · rename_i l hl
        cases hs
        have hlen : ops.toList.length - k = rest.length + 1 := by
          have := congrArg List.length hd
          simpa using this
        simp only [Array.length_toList] at hlen
        have hk : ops[k]? = some o := by
          have := congrArg (·[0]?) hd
          simpa using this
        have hd' : ops.toList.drop (k + 1) = rest := by
          have := congrArg (List.drop 1) hd
          simpa using this
        rw [show ops.size - k = (ops.size - (k + 1)) + 1 by omega, List.range'_succ, wpOps]
        simp only [hk]
        obtain ⟨g1, g2, g3, g4⟩ := sIns_spec hi
        simp only [runOps] at hv
        split at hv
        · cases hv
        · rename_i hw
          have hwt := wanted_rel (a := a) (ρ := ρ) (ops := ops) g4 (fun t _ _ u hu => hR.env t u hu) hw
          rw [hwt]
          simp only [Bool.false_eq_true, if_false]
          obtain ⟨p1, p2, p3⟩ := put_env (a := a) (v' := undef) hR.size g3 hR.env (closed_self (ρ := ρ) 4 undef rfl)
          rw [← g2]
          refine ih (k + 1) l ⟨putE s.e i.dst undef, s.h⟩ s' ρ _ w hd' hl hv ⟨hR.heap, p2, p3.trans hR.dfs, p1⟩ hQ
        · rename_i hw
          have hwt := wanted_rel (a := a) (ρ := ρ) (ops := ops) g4 (fun t _ _ u hu => hR.env t u hu) hw
          rw [hwt]
          simp only [if_true]
          split at hv
          · rename_i s1 hv1
            left
            obtain ⟨v, hev, hstep⟩ := insV_sim (a := a) hr g1 hR.heap (ar_of fun t _ u hu => hR.env t u hu) hv1
            refine hstep _ _ fun ρ' v' w' q1 q2 q3 q4 => ?_
            obtain ⟨p1, p2, p3⟩ := put_env (a := a) (v' := v') hR.size g3 (env_mono q2.1 hR.env) q1
            rw [← g2]
            refine ih (k + 1) l s1 s' ρ' _ w' hd' hl hv ⟨q3, p2, p3.trans hR.dfs, by rw [hev]; exact p1⟩ (fun ρ2 a2 w2 e1 e2 e3 => ?_)
            exact hQ ρ2 a2 w2 e1 (q2.trans q4.next e2) (q4.trans q2 e3)
          · cases hv
      · cases hs
end
end Go.Eng
