/- Regions that draw their order: the theorem. -/
import Derived.Test.YtdafdampodbobaaEngL
namespace Go.Eng
set_option linter.unusedSimpArgs false
set_option linter.unusedVariables false

/-- An operation that the evaluator has carried out, and the machine not yet. -/
structure Pd where
  ix : Nat
  ins : SIns
  e0 : Env
  v : Value
  skip : Bool
  bt : Option Nat

def GuardRel (ops : Array Oper) (o : Oper) (i : SIns) : Prop :=
  (o.guard = none ∧ i.guard = none) ∨ ∃ j w t, o.guard = some (j, w) ∧ i.guard = some (t, w) ∧ (ops[j]?).bind (·.dst) = some t

def Evid (P : Program) (ops : Array Oper) (ks : List (Option SIns)) (h : Hp) (n0 : Nat) (fz : List (Nat × Nat)) (ρ : Rho) (lp : Array Bool) (q : Pd) (o : Oper) : Prop :=
  (∀ h2, simple q.ins.op q.e0 h2 = some (q.v, h2)) ∨
  (∃ b, b < h.next ∧ (∀ h2 : Hp, h2.t.get b = h.t.get b → simple q.ins.op q.e0 h2 = some (q.v, h2)) ∧ ((q.ix, b) ∈ fz ∨ ∀ j, kindAt ks j = 3 → lp.getD j true = false → waitsFor ops j q.ix = true)) ∨
  (∃ β c sz, q.bt = some β ∧ h.t.get β = some (.cells c sz true) ∧ ρ β = none ∧ β < h.next ∧ n0 ≤ β ∧ MkOk P o q.e0 c sz β q.v)

def PdOk (P : Program) (n : Nat) (ops : Array Oper) (ks : List (Option SIns)) (e : Env) (h : Hp) (n0 : Nat) (fz : List (Nat × Nat)) (ρ : Rho) (lp : Array Bool) (q : Pd) : Prop :=
  ∃ o, ops[q.ix]? = some o ∧ sOp P o = some q.ins.op ∧ q.ins.dst = o.dst ∧ (∀ d, q.ins.dst = some d → d < n ∧ e.get d = some q.v) ∧ GuardRel ops o q.ins ∧
    (∀ t ∈ o.looksAt ops, e.get t = q.e0.get t) ∧ wantedS q.ins q.e0 = some (!q.skip) ∧ (q.skip = true → q.v = undef) ∧
    (∀ ed ∈ o.after, Region.binds .any ed = true → lp.getD ed.on false = true) ∧ lp.getD q.ix true = true ∧
    (q.skip = false → Evid P ops ks h n0 fz ρ lp q o)

def DepsOk (ops : Array Oper) : List Nat → Prop
  | [] => True
  | i :: r => (∀ o, ops[i]? = some o → ∀ ed ∈ o.after, Region.binds .any ed = true → ed.on ∉ i :: r) ∧ DepsOk ops r

structure DInv (P : Program) (K : Nat → Prop) (W : World) (n : Nat) (ops : Array Oper) (ks : List (Option SIns)) (base : List Nat) (ρ0 : Rho) (h0 : Hp)
    (rest : List SIns) (pend : List Pd) (lp listed : Array Bool) (e : Env) (h : Hp) (fz : List (Nat × Nat)) (ρ : Rho) (a : Act) (w : World) : Prop where
  plan : sPlan ops ks rest.length lp = some rest
  lpsz : lp.size = ops.size
  lsz : listed.size = ops.size
  ls : ∀ j, j < ops.size → (listed.getD j true = true ↔ (lp.getD j true = true ∧ ∀ q ∈ pend, q.ix ≠ j))
  order : DepsOk ops (pend.map (·.ix))
  nodup : (pend.map (·.ix)).Nodup
  heap : HRel K W ρ h w
  ext : Ext ρ0 ρ h0
  next : h0.next ≤ h.next
  frb : ∀ b, b < h0.next → (ρ0 b = none ∨ b ∈ base) → h.t.get b = h0.t.get b
  size : a.tmps.size = n
  dfs : a.defers = []
  env : ∀ t v, e.get t = some v → (∃ q ∈ pend, q.ins.dst = some t) ∨ ∃ v', a.tmps[t]? = some v' ∧ VRel ρ v v'
  pok : ∀ q ∈ pend, PdOk P n ops ks e h h0.next fz ρ lp q
  pbt : ∀ q ∈ pend, ∀ β, q.bt = some β → β < h.next
  phs : ∀ q ∈ pend, ∀ q' ∈ pend, q.ix ≠ q'.ix → ∀ β, q.bt = some β → q'.bt ≠ some β

section
variable {P : Program} {K : Nat → Prop} {W w : World} {ρ ρ0 : Rho} {h h0 : Hp} {a : Act} {r : Ev} {n : Nat} {ops : Array Oper} {ks : List (Option SIns)} {base : List Nat}

theorem ssa_spec (hs : ssaOk ops = true) {i j : Nat} {oi oj : Oper} (hi : ops[i]? = some oi) (hj : ops[j]? = some oj) {t : Nat} (ht : oj.dst = some t) :
    (i = j ∨ oi.dst ≠ some t) ∧ (t ∈ oi.looksAt ops → waitsFor ops i j = true) := by
  unfold ssaOk at hs
  rw [List.all_eq_true] at hs
  have hil := (Array.getElem?_eq_some_iff.1 hi).1
  have hjl := (Array.getElem?_eq_some_iff.1 hj).1
  have h1 := hs i (by simpa using hil)
  rw [List.all_eq_true] at h1
  have h2 := h1 j (by simpa using hjl)
  rw [hi, hj] at h2
  simp only [ht, Bool.and_eq_true, Bool.or_eq_true, beq_dec, decide_eq_true_eq, bne_iff_ne, ne_eq, Bool.not_eq_true', List.contains_eq_mem, decide_eq_false_iff_not] at h2
  exact ⟨h2.1, fun hm => h2.2.resolve_left (fun hn => hn hm)⟩

theorem waits_spec {i j : Nat} {o : Oper} (ho : ops[i]? = some o) (h : waitsFor ops i j = true) : ∃ ed ∈ o.after, Region.binds .any ed = true ∧ ed.on = j := by
  unfold waitsFor at h
  rw [ho] at h
  obtain ⟨k, hk, hb⟩ := Array.any_eq_true.1 h
  simp only [Bool.and_eq_true, beq_dec, decide_eq_true_eq] at hb
  exact ⟨_, Array.getElem_mem hk, hb.1, hb.2⟩

theorem getD_bool {l : Array Bool} {j : Nat} (hj : j < l.size) (d d' : Bool) : l.getD j d = l.getD j d' := by
  simp [Array.getD_eq_getD_getElem?, hj]

theorem set_getD {l : Array Bool} {i j : Nat} (hi : i < l.size) : (l.setIfInBounds i true).getD j true = (if j = i then true else l.getD j true) := by
  by_cases h : j = i
  · subst h; simp [hi]
  · rw [if_neg h]
    simp [Array.getD_eq_getD_getElem?, Array.getElem?_setIfInBounds_ne (Ne.symm h)]

theorem wanted_pd {o : Oper} {q : Pd} {e : Env} (hg : GuardRel ops o q.ins) (hl : ∀ t ∈ o.looksAt ops, e.get t = q.e0.get t)
    (hrel : ∀ t ∈ o.looksAt ops, ∀ u, e.get t = some u → ∃ u', a.tmps[t]? = some u' ∧ VRel ρ u u') (hw : wantedS q.ins q.e0 = some (!q.skip)) : Region.wanted o (yielded ops a.tmps) = !q.skip := by
  refine wanted_rel (a := a) (ρ := ρ) hg (fun t w hgt u hu => ?_) hw
  rcases hg with ⟨_, h2⟩ | ⟨j, w', t', h1, h2, h3⟩
  · rw [h2] at hgt; cases hgt
  · rw [h2] at hgt
    cases hgt
    have hm : t ∈ o.looksAt ops := by
      unfold Oper.looksAt
      rw [h1]
      simp [h3]
    exact hrel t hm u ((hl t hm).trans hu)

theorem looks_tmp {o : Oper} {t : Nat} (h : Operand.tmp t ∈ o.op.operands.toList) : t ∈ o.looksAt ops := by
  unfold Oper.looksAt
  refine List.mem_append_left _ (List.mem_filterMap.2 ⟨.tmp t, h, rfl⟩)

theorem looks_guard {o : Oper} {i : SIns} {t : Nat} {w : Bool} (hg : GuardRel ops o i) (h : i.guard = some (t, w)) : t ∈ o.looksAt ops := by
  rcases hg with ⟨_, h2⟩ | ⟨j, w', t', h1, h2, h3⟩
  · rw [h2] at h; cases h
  · rw [h2] at h
    cases h
    unfold Oper.looksAt
    rw [h1]
    simp [h3]

theorem deps_sub : ∀ (l : List Nat) (i : Nat), DepsOk ops l → DepsOk ops (l.filter (· != i))
  | [], _, h => h
  | j :: r, i, h => by
    by_cases hj : j = i
    · subst hj
      simp only [bne_self_eq_false, Bool.false_eq_true, not_false_eq_true, List.filter_cons_of_neg]
      exact deps_sub r j h.2
    · rw [List.filter_cons_of_pos (by simpa using hj)]
      refine ⟨fun o ho ed he hb hm => h.1 o ho ed he hb ?_, deps_sub r i h.2⟩
      rcases List.mem_cons.1 hm with hm | hm
      · exact hm ▸ List.mem_cons_self
      · exact List.mem_cons_of_mem _ (List.mem_filter.1 hm).1

theorem deps_add : ∀ (l : List Nat) (j : Nat), DepsOk ops l → (∀ i ∈ l, ∀ o, ops[i]? = some o → ∀ ed ∈ o.after, Region.binds .any ed = true → ed.on ≠ j) →
    (∀ o, ops[j]? = some o → ∀ ed ∈ o.after, Region.binds .any ed = true → ed.on ≠ j) → DepsOk ops (l ++ [j])
  | [], j, _, _, h3 => ⟨fun o ho ed he hb hm => h3 o ho ed he hb (by simpa using hm), trivial⟩
  | i :: r, j, h1, h2, h3 => by
    refine ⟨fun o ho ed he hb hm => ?_, deps_add r j h1.2 (fun k hk => h2 k (List.mem_cons_of_mem _ hk)) h3⟩
    have : ed.on ∈ i :: r ∨ ed.on = j := by simpa [or_assoc] using hm
    rcases this with hm | hm
    · exact h1.1 o ho ed he hb hm
    · exact h2 i List.mem_cons_self o ho ed he hb hm

/-- What the next row of a plan is. -/
theorem plan_cons {k : Nat} {lp : Array Bool} {I : SIns} {rest : List SIns} (hks : ks = ops.toList.map (sIns P n ops)) (h : sPlan ops ks k lp = some (I :: rest)) :
    ∃ k', k = k' + 1 ∧ ∃ j o i0, nextOf ops ks lp = some j ∧ ops[j]? = some o ∧ sIns P n ops o = some i0 ∧ kindAt ks j = kindOf i0.op ∧ I.op = i0.op ∧ I.dst = i0.dst ∧ I.guard = i0.guard ∧ I.ix = j ∧
      I.fz = (Nat.beq (kindOf i0.op) 1 && mustFreeze ops ks lp j) ∧ I.bef = (bif Nat.beq (kindOf i0.op) 3 then befOf ops j else []) ∧ sPlan ops ks k' (lp.setIfInBounds j true) = some rest := by
  cases k with
  | zero =>
    simp only [sPlan, Bool.cond_eq_ite] at h
    split at h <;> cases h
  | succ k =>
    refine ⟨k, rfl, ?_⟩
    simp only [sPlan] at h
    split at h
    · cases h
    · rename_i j hj
      split at h
      · rename_i i0 hi0
        split at h
        · rename_i l hl
          cases h
          have hjl : j < ops.toList.length := by
            have := (List.getElem?_eq_some_iff.1 hi0).1
            rw [hks] at this
            simpa using this
          have hoj : ops[j]? = some (ops.toList[j]) := by
            rw [← Array.getElem?_toList]
            exact List.getElem?_eq_getElem hjl
          refine ⟨j, ops.toList[j], i0, hj, hoj, ?_, by simp only [kindAt, hi0], rfl, rfl, rfl, rfl, rfl, rfl, hl⟩
          rw [hks, List.getElem?_map, List.getElem?_eq_getElem hjl] at hi0
          simpa using hi0
        · cases h
      · cases h

theorem next_ready {lp : Array Bool} {j : Nat} (h : nextOf ops ks lp = some j) : j ∈ Region.ready .any ops lp ∧ (kindAt ks j < 3 ∨ Region.ready .any ops lp = [j]) := by
  unfold nextOf at h
  simp only at h
  split at h
  · rename_i i hi
    cases h
    have h1 := List.find?_some hi
    exact ⟨List.mem_of_find?_eq_some hi, .inl (by simpa [Nat.blt_eq] using h1)⟩
  · split at h
    · rename_i i hi
      cases h
      exact ⟨by rw [hi]; simp, .inr hi⟩
    · cases h

theorem befOf_mem {j : Nat} {o : Oper} {ed : Edge} (ho : ops[j]? = some o) (he : ed ∈ o.after) (hb : Region.binds .any ed = true) : ed.on ∈ befOf ops j := by
  unfold befOf
  rw [ho]
  refine List.mem_filterMap.2 ⟨ed, by simpa using he, by rw [hb]; rfl⟩

theorem befOf_spec {j x : Nat} (h : x ∈ befOf ops j) : ∃ o ed, ops[j]? = some o ∧ ed ∈ o.after ∧ Region.binds .any ed = true ∧ ed.on = x := by
  unfold befOf at h
  split at h
  · rename_i o ho
    obtain ⟨ed, h1, h2⟩ := List.mem_filterMap.1 h
    cases hb : Region.binds .any ed with
    | true =>
      rw [hb] at h2
      simp only [cond_true, Option.some.injEq] at h2
      exact ⟨o, ed, ho, by simpa using h1, hb, h2⟩
    | false => rw [hb] at h2; cases h2
  · cases h
end
end Go.Eng
