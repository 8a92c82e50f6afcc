/- Regions that draw their order: whatever is drawn, the machine comes where the evaluator came. -/
import Derived.Test.YtdafdampodbobaaEngM
namespace Go.Eng
set_option linter.unusedSimpArgs false
set_option linter.unusedVariables false
section
variable {P : Program} {K : Nat → Prop} {W w : World} {ρ ρ0 : Rho} {h h0 : Hp} {a : Act} {r : Ev} {n : Nat} {ops : Array Oper} {ks : List (Option SIns)} {base : List Nat}
  {rest : List SIns} {pend : List Pd} {lp listed : Array Bool} {e : Env} {fz : List (Nat × Nat)}

theorem ready_spec {i : Nat} (h : i ∈ Region.ready .any ops listed) : ∃ o, ops[i]? = some o ∧ i < ops.size ∧ listed.getD i true = false ∧ ∀ ed ∈ o.after, Region.binds .any ed = true → listed.getD ed.on false = true := by
  unfold Region.ready at h
  obtain ⟨h1, h2⟩ := List.mem_filter.1 h
  have hi : i < ops.size := by simpa using h1
  have ho : ops[i]? = some ops[i] := Array.getElem?_eq_getElem hi
  rw [ho] at h2
  simp only [Option.map_some, Option.getD_some, Bool.and_eq_true, Bool.not_eq_true'] at h2
  refine ⟨_, ho, hi, h2.1, fun ed hed hb => ?_⟩
  have h3 := h2.2
  rw [Array.all_eq_true] at h3
  obtain ⟨k, hk, hke⟩ := Array.mem_iff_getElem.1 hed
  have h4 := h3 k hk
  rw [hke, hb] at h4
  simpa using h4

theorem ready_mem {i : Nat} {o : Oper} (ho : ops[i]? = some o) (hl : listed.getD i true = false) (he : ∀ ed ∈ o.after, Region.binds .any ed = true → listed.getD ed.on false = true) : i ∈ Region.ready .any ops listed := by
  have hi := (Array.getElem?_eq_some_iff.1 ho).1
  unfold Region.ready
  refine List.mem_filter.2 ⟨by simpa using hi, ?_⟩
  rw [ho]
  simp only [Option.map_some, Option.getD_some, Bool.and_eq_true, Bool.not_eq_true']
  refine ⟨hl, ?_⟩
  rw [Array.all_eq_true]
  intro k hk
  cases hb : Region.binds .any o.after[k] with
  | false => simp
  | true => simpa using he _ (Array.getElem_mem hk) hb

theorem getD_false_of {l : Array Bool} {j : Nat} (h : l.getD j false = true) : j < l.size ∧ l.getD j true = true := by
  by_cases hj : j < l.size
  · exact ⟨hj, by rw [getD_bool hj true false]; exact h⟩
  · simp [Array.getD_eq_getD_getElem?, hj] at h

theorem getD_true_of {l : Array Bool} {j : Nat} (h : l.getD j true = false) : j < l.size := by
  by_cases hj : j < l.size
  · exact hj
  · simp [Array.getD_eq_getD_getElem?, hj] at h

theorem set_getD' {l : Array Bool} {i j : Nat} (h : l.getD j false = true) : (l.setIfInBounds i true).getD j false = true := by
  obtain ⟨h1, h2⟩ := getD_false_of h
  rw [getD_bool (by simpa using h1) false true]
  by_cases hi : i < l.size
  · rw [set_getD hi, h2]; simp
  · rw [Array.setIfInBounds_eq_of_size_le (by omega)]; exact h2

theorem pok_step {q : Pd} {n0 : Nat} (hs : ssaOk ops = true) (hq : PdOk P n ops ks e h n0 fz ρ lp q) {j : Nat} {oj : Oper} {v : Value} {h' : Hp} {fz' : List (Nat × Nat)} {ρ' : Rho} (hj : ops[j]? = some oj) (hjl : lp.getD j true = false)
    (hev : ∀ o, ops[q.ix]? = some o → Evid P ops ks h n0 fz ρ lp q o → Evid P ops ks h' n0 fz' ρ' (lp.setIfInBounds j true) q o) : PdOk P n ops ks (putE e oj.dst v) h' n0 fz' ρ' (lp.setIfInBounds j true) q := by
  obtain ⟨o, a1, a2, a3, a4, a5, a6, a7, a8, a9, a10, a11⟩ := hq
  have hjs := getD_true_of hjl
  have hne : q.ix ≠ j := fun hx => by rw [hx, hjl] at a10; cases a10
  have hget : ∀ t, (t ∈ o.looksAt ops ∨ q.ins.dst = some t) → (putE e oj.dst v).get t = e.get t := by
    intro t ht
    cases hd : oj.dst with
    | none => rfl
    | some d =>
      simp only [putE]
      rw [T.get_set_ne]
      rintro rfl
      obtain ⟨s1, s2⟩ := ssa_spec hs a1 hj hd
      rcases ht with ht | ht
      · obtain ⟨ed, e1, e2, e3⟩ := waits_spec a1 (s2 ht)
        have := (getD_false_of (a9 ed e1 e2)).2
        rw [e3, hjl] at this
        cases this
      · rw [a3] at ht
        exact s1.elim (fun hx => hne hx) (fun hx => hx ht)
  refine ⟨o, a1, a2, a3, fun d hd => ⟨(a4 d hd).1, by rw [hget d (.inr hd)]; exact (a4 d hd).2⟩, a5, fun t ht => by rw [hget t (.inl ht)]; exact a6 t ht, a7, a8, fun ed e1 e2 => set_getD' (a9 ed e1 e2), ?_, fun hsk => hev o a1 (a11 hsk)⟩
  rw [set_getD hjs, a10]; simp

theorem kind_le (op : SOp) : kindOf op = 0 ∨ kindOf op = 1 ∨ kindOf op = 2 ∨ kindOf op = 3 := by
  cases op <;> simp [kindOf]

theorem insV_simple {i : SIns} {s s' : St} (hk : kindOf i.op ≠ 3) (hv : insV r i s = some s') : ∃ v h', simple i.op s.e s.h = some (v, h') ∧ s' = ⟨putE s.e i.dst v, h'⟩ := by
  unfold insV at hv
  split at hv
  · rename_i k ys hop
    rw [hop] at hk
    simp [kindOf] at hk
  · split at hv
    · rename_i v h' hs
      cases hv
      exact ⟨v, h', hs, rfl⟩
    · cases hv

/-- What the evaluator did ahead of the machine is kept as long as the heap is. -/
theorem evid_keep {q : Pd} {n0 j : Nat} {o : Oper} {h' : Hp} {fz' : List (Nat × Nat)} (hg : ∀ b, b < h.next → h'.t.get b = h.t.get b) (hn : h.next ≤ h'.next) (hf : ∀ x ∈ fz, x ∈ fz')
    (he : Evid P ops ks h n0 fz ρ lp q o) : Evid P ops ks h' n0 fz' ρ (lp.setIfInBounds j true) q o := by
  rcases he with he | ⟨b, b1, b2, b3⟩ | ⟨β, c, sz, b0, b1, b2, b3, b4, b5⟩
  · exact .inl he
  · refine .inr (.inl ⟨b, by omega, fun h2 hh => b2 h2 (hh.trans (hg b b1)), b3.imp (hf _) fun hx k hk hl => hx k hk ?_⟩)
    cases hx : lp.getD k true with
    | false => rfl
    | true =>
      by_cases hj : j < lp.size
      · rw [set_getD hj, hx] at hl
        simp at hl
      · rw [Array.setIfInBounds_eq_of_size_le (by omega), hx] at hl
        cases hl
  · exact .inr (.inr ⟨β, c, sz, b0, (hg β b3).trans b1, b2, by omega, b4, b5⟩)

theorem evid_new {I : SIns} {e : Env} {o : Oper} {v : Value} {j : Nat} {hb h' : Hp} (hh : ∀ b, hb.t.get b = h.t.get b) (hbn : hb.next = h.next) (hR : HRel K W ρ h w) (hop : sOp P o = some I.op) (hk : kindOf I.op ≠ 3)
    (hsv : simple I.op e hb = some (v, h')) (hfz : I.fz = (Nat.beq (kindOf I.op) 1 && mustFreeze ops ks lp j)) (hlsz : lp.size = ops.size) (hn0 : h0.next ≤ h.next)
    (hsk : ∀ j', kindAt ks j' = 3 → lp.getD j' true = false → j' < ops.size) :
    ∃ bt fz', (∀ b, b < h.next → h'.t.get b = h.t.get b) ∧ h.next ≤ h'.next ∧ (∀ x ∈ fz, x ∈ fz') ∧ HRel K W ρ h' w ∧ (∀ β, bt = some β → h.next ≤ β ∧ β < h'.next) ∧
      (bif I.fz then (match loadB I e with | some b => (j, b) :: fz | none => fz) else fz) = fz' ∧ Evid P ops ks h' h0.next fz' ρ (lp.setIfInBounds j true) ⟨j, I, e, v, false, bt⟩ o := by
  have hRb : HRel K W ρ hb w := by
    obtain ⟨a1, a2, a3, a4, a5, a6⟩ := hR
    exact ⟨a1, a2, by rw [hbn]; exact a3, fun b hb' => by rw [hh]; exact a4 b (by omega), fun b c sz own p hb' => a5 b c sz own p ((hh b).symm.trans hb'),
      fun b b' c sz c' sz' own' p p' hne q1 q2 => a6 b b' c sz c' sz' own' p p' hne ((hh b).symm.trans q1) ((hh b').symm.trans q2)⟩
  rcases kind_le I.op with hk0 | hk1 | hk2 | hk3
  · obtain ⟨e1, e2⟩ := simple_pure hk0 hsv
    have hF : I.fz = false := by rw [hfz, hk0]; rfl
    subst e1
    exact ⟨none, fz, fun b _ => hh b, by omega, fun _ hx => hx, hRb, fun _ hx => (by cases hx), by rw [hF]; rfl, .inl e2⟩
  · obtain ⟨e1, e2⟩ := simple_load hk1 hsv
    subst e1
    refine ⟨none, _, fun b _ => hh b, by omega, fun x hx => ?_, hRb, fun _ hx => (by cases hx), rfl, ?_⟩
    · cases I.fz with
      | false => exact hx
      | true =>
        simp only [cond_true]
        split
        · exact List.mem_cons_of_mem _ hx
        · exact hx
    · rcases e2 with e2 | ⟨b, f1, f2, f3⟩
      · exact .inl e2
      · refine .inr (.inl ⟨b, ?_, f3, ?_⟩)
        · refine Nat.lt_of_not_le fun hx => f2 ?_
          rw [hh]
          exact hR.fresh b (by omega)
        · cases hF : I.fz with
          | true =>
            left
            simp only [f1, cond_true]
            exact List.mem_cons_self
          | false =>
            right
            intro j' hk' hl'
            rw [hF, hk1] at hfz
            have hm : mustFreeze ops ks lp j = false := by simpa using hfz.symm
            have hlp : lp.getD j' true = false := by
              cases hx : lp.getD j' true with
              | false => rfl
              | true =>
                by_cases hj : j < lp.size
                · rw [set_getD hj, hx] at hl'
                  simp at hl'
                · rw [Array.setIfInBounds_eq_of_size_le (by omega), hx] at hl'
                  cases hl'
            unfold mustFreeze at hm
            rw [List.any_eq_false] at hm
            have h1 := hm j' (by simpa using hsk j' hk' hlp)
            simp only [hlp, hk', Bool.not_false, Bool.true_and, show Nat.beq 3 3 = true from rfl] at h1
            simpa using h1
  · obtain ⟨c, sz, e1, e2⟩ := simple_make hop hk2 hsv
    have hF : I.fz = false := by rw [hfz, hk2]; rfl
    obtain ⟨p1, p2⟩ := hRb.phantom c sz
    subst e1
    refine ⟨some hb.next, fz, fun b hb' => ?_, by simp [Hp.alloc]; omega, fun _ hx => hx, p1, fun β hx => ?_, by rw [hF]; rfl, .inr (.inr ⟨hb.next, c, sz, rfl, ?_, p2, by simp [Hp.alloc], by omega, e2⟩)⟩
    · simp only [Hp.alloc]
      rw [T.get_set_ne _ _ _ _ (by omega), hh]
    · cases hx
      simp [Hp.alloc]; omega
    · simp only [Hp.alloc]
      rw [T.get_set_self]
  · exact absurd hk3 hk


theorem putE_same {e : Env} {d : Nat} {v : Value} : (putE e (some d) v).get d = some v := by simp only [putE]; rw [T.get_set_self]

/-- Whatever writes nothing is carried out ahead, by the evaluator alone. -/
theorem saturate (hs : ssaOk ops = true) (hks : ks = ops.toList.map (sIns P n ops)) {sfin : St} : ∀ (rest : List SIns) (pend : List Pd) (lp : Array Bool) (e : Env) (h : Hp) (fz : List (Nat × Nat)), DInv P K W n ops ks base ρ0 h0 rest pend lp listed e h fz ρ a w →
    runDraw r base rest fz ⟨e, h⟩ = some sfin → ∃ rest' pend' lp' e' h' fz', DInv P K W n ops ks base ρ0 h0 rest' pend' lp' listed e' h' fz' ρ a w ∧ rest'.length + pend'.length = rest.length + pend.length ∧
      runDraw r base rest' fz' ⟨e', h'⟩ = some sfin ∧ ∀ I l, rest' = I :: l → kindOf I.op = 3 := by
  intro rest
  induction rest with
  | nil => intro pend lp e h fz hD hv; exact ⟨[], pend, lp, e, h, fz, hD, rfl, hv, fun _ _ hx => by cases hx⟩
  | cons I rest ih =>
    intro pend lp e h fz hD hv
    by_cases hk3 : kindOf I.op = 3
    · exact ⟨I :: rest, pend, lp, e, h, fz, hD, rfl, hv, fun _ _ hx => by cases hx; exact hk3⟩
    obtain ⟨k', hk', j, oj, i0, hnx, hoj, hi0, hkat, hIo, hId, hIg, hIx, hIf, hIb, hpl⟩ := plan_cons hks hD.plan
    obtain ⟨hrd, _⟩ := next_ready hnx
    obtain ⟨oj', hoj', hjl, hjn, hje⟩ := ready_spec hrd
    rw [hoj] at hoj'
    cases hoj'
    obtain ⟨g1, g2, g3, g4⟩ := sIns_spec hi0
    rw [← hIo] at g1 hkat hIf hIb
    rw [← hId] at g2 g3
    rw [← hIg] at g4
    have hb : I.bef = [] := by
      rw [hIb, beq_dec, decide_eq_false hk3]; rfl
    have hkl : k' = rest.length := by simp at hk'; omega
    subst hkl
    have hjs : j < lp.size := by rw [hD.lpsz]; exact hjl
    -- the list with this one in it
    have common : ∀ (v : Value) (skip : Bool) (bt : Option Nat) (h' : Hp) (fz' : List (Nat × Nat)), (∀ b, b < h.next → h'.t.get b = h.t.get b) → h.next ≤ h'.next → (∀ x ∈ fz, x ∈ fz') → HRel K W ρ h' w →
        (∀ β, bt = some β → h.next ≤ β ∧ β < h'.next) → wantedS I e = some (!skip) → (skip = true → v = undef) →
        (skip = false → Evid P ops ks h' h0.next fz' ρ (lp.setIfInBounds j true) ⟨j, I, e, v, skip, bt⟩ oj) →
        DInv P K W n ops ks base ρ0 h0 rest (pend ++ [⟨j, I, e, v, skip, bt⟩]) (lp.setIfInBounds j true) listed (putE e I.dst v) h' fz' ρ a w := by
      intro v skip bt h' fz' c1 c2 c3 c4 c5 c6 c7 c8
      have hpne : ∀ q ∈ pend, q.ix ≠ j := by
        intro q hq hx
        obtain ⟨o, _, _, _, _, _, _, _, _, _, a10, _⟩ := hD.pok q hq
        rw [hx, hjn] at a10
        cases a10
      refine ⟨hpl, by simpa using hD.lpsz, hD.lsz, fun k hk => ?_, ?_, ?_, c4, hD.ext, Nat.le_trans hD.next c2, fun b hb1 hb2 => ?_, hD.size, hD.dfs, fun t u hu => ?_, fun q hq => ?_, fun q hq β hβ => ?_, fun q hq q' hq' hne β hβ hβ' => ?_⟩
      · rw [set_getD hjs, hD.ls k hk]
        by_cases hkj : k = j
        · subst hkj
          simp only [if_true, true_and, hjn, Bool.false_eq_true, false_and, false_iff]
          intro hx
          exact hx ⟨k, I, e, v, skip, bt⟩ (by simp) rfl
        · simp only [if_neg hkj]
          constructor
          · rintro ⟨x1, x2⟩
            refine ⟨x1, fun q hq => ?_⟩
            rcases List.mem_append.1 hq with hq | hq
            · exact x2 q hq
            · simp at hq; subst hq; exact fun hx => hkj hx.symm
          · rintro ⟨x1, x2⟩
            exact ⟨x1, fun q hq => x2 q (List.mem_append_left _ hq)⟩
      · rw [List.map_append]
        refine deps_add _ _ hD.order (fun i hi o ho ed he hbi hx => ?_) (fun o ho ed he hbi hx => ?_)
        · obtain ⟨q, hq, rfl⟩ := List.mem_map.1 hi
          obtain ⟨o2, a1, _, _, _, _, _, _, _, a9, _, _⟩ := hD.pok q hq
          rw [ho] at a1
          cases a1
          have := (getD_false_of (a9 ed he hbi)).2
          rw [hx] at this
          simp only [hjn] at this
          cases this
        · simp only at ho hx
          rw [hoj] at ho
          cases ho
          have := (getD_false_of (hje ed he hbi)).2
          rw [hx, hjn] at this
          cases this
      · rw [List.map_append, List.nodup_append]
        refine ⟨hD.nodup, by simp, fun x hx y hy => ?_⟩
        obtain ⟨q, hq, rfl⟩ := List.mem_map.1 hx
        simp at hy
        subst hy
        exact hpne q hq
      · rw [c1 b (Nat.lt_of_lt_of_le hb1 hD.next)]
        exact hD.frb b hb1 hb2
      · by_cases hx : I.dst = some t
        · exact .inl ⟨⟨j, I, e, v, skip, bt⟩, by simp, hx⟩
        · have : (putE e I.dst v).get t = e.get t := by
            cases hd : I.dst with
            | none => rfl
            | some d =>
              simp only [putE]
              rw [T.get_set_ne]
              rintro rfl
              exact hx hd
          rw [this] at hu
          rcases hD.env t u hu with ⟨q, hq, hqd⟩ | hr
          · exact .inl ⟨q, List.mem_append_left _ hq, hqd⟩
          · exact .inr hr
      · rcases List.mem_append.1 hq with hq | hq
        · have := pok_step (v := v) hs (hD.pok q hq) hoj hjn (fun o _ he => evid_keep (j := j) c1 c2 c3 he)
          rw [g2]
          exact this
        · simp at hq
          subst hq
          have hne : ∀ t, t ∈ oj.looksAt ops → (putE e I.dst v).get t = e.get t := by
            intro t ht
            cases hd : I.dst with
            | none => rfl
            | some d =>
              simp only [putE]
              rw [T.get_set_ne]
              rintro rfl
              obtain ⟨s1, s2⟩ := ssa_spec hs hoj hoj (g2 ▸ hd)
              obtain ⟨ed, e1, e2, e3⟩ := waits_spec hoj (s2 ht)
              have := (getD_false_of (hje ed e1 e2)).2
              rw [e3, hjn] at this
              cases this
          refine ⟨oj, hoj, g1, g2, fun d hd => ⟨g3 d hd, ?_⟩, g4, hne, c6, c7, fun ed e1 e2 => set_getD' (hje ed e1 e2), ?_, c8⟩
          · simp only at hd ⊢
            rw [hd]
            exact putE_same
          · simp only
            rw [set_getD hjs]; simp
      · rcases List.mem_append.1 hq with hq | hq
        · exact Nat.lt_of_lt_of_le (hD.pbt q hq β hβ) c2
        · simp at hq
          subst hq
          exact (c5 β hβ).2
      · rcases List.mem_append.1 hq with hq | hq <;> rcases List.mem_append.1 hq' with hq' | hq'
        · exact hD.phs q hq q' hq' hne β hβ hβ'
        · simp at hq'
          subst hq'
          have := hD.pbt q hq β hβ
          have := (c5 β hβ').1
          omega
        · simp at hq
          subst hq
          have := hD.pbt q' hq' β hβ'
          have := (c5 β hβ).1
          omega
        · simp at hq hq'
          subst hq
          subst hq'
          exact hne rfl
    have fin : ∀ (v : Value) (skip : Bool) (bt : Option Nat) (h' : Hp) (fz' : List (Nat × Nat)), DInv P K W n ops ks base ρ0 h0 rest (pend ++ [⟨j, I, e, v, skip, bt⟩]) (lp.setIfInBounds j true) listed (putE e I.dst v) h' fz' ρ a w →
        runDraw r base rest fz' ⟨putE e I.dst v, h'⟩ = some sfin → ∃ rest' pend' lp' e' h' fz', DInv P K W n ops ks base ρ0 h0 rest' pend' lp' listed e' h' fz' ρ a w ∧ rest'.length + pend'.length = (I :: rest).length + pend.length ∧
        runDraw r base rest' fz' ⟨e', h'⟩ = some sfin ∧ ∀ I l, rest' = I :: l → kindOf I.op = 3 := by
      intro v skip bt h' fz' d1 d2
      obtain ⟨r1, r2, r3, r4, r5, r6, q1, q2, q3, q4⟩ := ih _ _ _ _ _ d1 d2
      exact ⟨r1, r2, r3, r4, r5, r6, q1, by rw [q2]; simp; omega, q3, q4⟩
    simp only [runDraw] at hv
    split at hv
    · cases hv
    · rename_i hw
      exact fin undef true none h fz (common undef true none h fz (fun _ _ => rfl) (Nat.le_refl _) (fun _ hx => hx) hD.heap (fun _ hx => by cases hx) hw (fun _ => rfl) (fun hx => by cases hx)) hv
    · rename_i hw
      have hfl : fz.filter (fun p => !(I.bef.any (Nat.beq p.1))) = fz := by
        rw [hb]; simp
      rw [hfl] at hv
      split at hv
      · rename_i s' hs'
        obtain ⟨v, h', hsv, rfl⟩ := insV_simple hk3 hs'
        obtain ⟨bt, fz', d1, d2, d3, d4, d5, d6, d7⟩ := evid_new (fz := fz) (lp := lp) (ks := ks) (j := j) (h := h) (h0 := h0) (hb := ⟨h.t, h.next, fz.map (·.2) ++ base⟩) (fun _ => rfl) rfl hD.heap g1 hk3 hsv hIf hD.lpsz hD.next
          (fun j' _ hl => by have := getD_true_of hl; have := hD.lpsz; omega)
        refine fin v false bt h' fz' (common v false bt h' fz' d1 d2 d3 d4 d5 hw (fun hx => by cases hx) (fun _ => d7)) ?_
        rw [← d6]
        cases hF : I.fz with
        | false =>
          rw [hF] at hv
          simpa using hv
        | true =>
          rw [hF] at hv
          simp only [cond_true] at hv ⊢
          cases hl : loadB I e with
          | none => rw [hl] at hv; simpa using hv
          | some b => rw [hl, hIx] at hv; simpa using hv
      · cases hv
end
end Go.Eng
