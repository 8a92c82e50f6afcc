/- Regions that draw their order: the theorem. -/
import Derived.Test.YtdafdampodbobaaEngN
namespace Go.Eng
set_option linter.unusedSimpArgs false
set_option linter.unusedVariables false
section
variable {P : Program} {K : Nat → Prop} {W w : World} {ρ ρ0 : Rho} {h h0 : Hp} {a : Act} {r : Ev} {n : Nat} {ops : Array Oper} {ks : List (Option SIns)} {base : List Nat}
  {rest : List SIns} {pend : List Pd} {lp listed : Array Bool} {e : Env} {fz : List (Nat × Nat)}

theorem filter_len : ∀ (pend : List Pd) (q : Pd), (pend.map (·.ix)).Nodup → q ∈ pend → (pend.filter (fun x => x.ix != q.ix)).length + 1 = pend.length
  | [], _, _, h => by cases h
  | x :: l, q, hn, hq => by
    rw [List.map_cons, List.nodup_cons] at hn
    by_cases hx : x.ix = q.ix
    · rw [List.filter_cons_of_neg (by simpa using hx)]
      have : l.filter (fun x => x.ix != q.ix) = l := by
        rw [List.filter_eq_self]
        intro y hy
        simp only [bne_iff_ne, ne_eq]
        intro hyq
        exact hn.1 (List.mem_map.2 ⟨y, hy, hyq.trans hx.symm⟩)
      rw [this]; rfl
    · rw [List.filter_cons_of_pos (by simpa using hx)]
      have hq' : q ∈ l := by
        rcases List.mem_cons.1 hq with hq | hq
        · subst hq; exact absurd rfl hx
        · exact hq
      simp only [List.length_cons]
      rw [filter_len l q hn.2 hq']

theorem filter_map_ix (l : List Pd) (i : Nat) : (l.filter (fun x => x.ix != i)).map (·.ix) = (l.map (·.ix)).filter (· != i) := by
  rw [List.filter_map]
  rfl

/-- The machine has carried out one that the evaluator had carried out before. -/
theorem pend_done (hD : DInv P K W n ops ks base ρ0 h0 rest pend lp listed e h fz ρ a w) {q : Pd} {o : Oper} (hq : q ∈ pend) (ho : ops[q.ix]? = some o) {ρ' : Rho} {v' : Value} {w' : World} (hle : ρ.le ρ') (hv : VRel ρ' q.v v') (hR : HRel K W ρ' h w') (hx : Ext ρ0 ρ' h0)
    (hb : ∀ q' ∈ pend, q'.ix ≠ q.ix → ∀ β, q'.bt = some β → β < h.next → ρ β = none → ρ' β = none) :
    DInv P K W n ops ks base ρ0 h0 rest (pend.filter (fun x => x.ix != q.ix)) lp (listed.setIfInBounds q.ix true) e h fz ρ' (a.put o.dst v') w' := by
  obtain ⟨o', a1, a2, a3, a4, a5, a6, a7, a8, a9, a10, a11⟩ := hD.pok q hq
  rw [ho] at a1
  cases a1
  have hix : q.ix < ops.size := (Array.getElem?_eq_some_iff.1 ho).1
  have hls : q.ix < listed.size := by rw [hD.lsz]; exact hix
  have hmem : ∀ x, x ∈ pend.filter (fun x => x.ix != q.ix) ↔ x ∈ pend ∧ x.ix ≠ q.ix := fun x => by simp [List.mem_filter]
  refine ⟨hD.plan, hD.lpsz, by simpa using hD.lsz, fun k hk => ?_, ?_, ?_, hR, hx, hD.next, hD.frb, ?_, ?_, fun t u hu => ?_, fun q' hq' => ?_, fun q' hq' => hD.pbt q' ((hmem q').1 hq').1, fun q1 h1 q2 h2 => hD.phs q1 ((hmem q1).1 h1).1 q2 ((hmem q2).1 h2).1⟩
  · rw [set_getD hls]
    by_cases hkj : k = q.ix
    · subst hkj
      simp only [if_true, true_iff]
      exact ⟨a10, fun x hx => ((hmem x).1 hx).2⟩
    · rw [if_neg hkj, hD.ls k hk]
      constructor
      · rintro ⟨x1, x2⟩
        exact ⟨x1, fun x hx => x2 x ((hmem x).1 hx).1⟩
      · rintro ⟨x1, x2⟩
        exact ⟨x1, fun x hx hxk => x2 x ((hmem x).2 ⟨hx, by rw [hxk]; exact hkj⟩) hxk⟩
  · rw [filter_map_ix]
    exact deps_sub _ _ hD.order
  · rw [filter_map_ix]
    exact List.Pairwise.filter _ hD.nodup
  · cases o.dst with
    | none => exact hD.size
    | some d => simpa [Act.put] using hD.size
  · cases o.dst with
    | none => exact hD.dfs
    | some d => exact hD.dfs
  · by_cases ht : q.ins.dst = some t
    · right
      obtain ⟨b1, b2⟩ := a4 t ht
      rw [b2] at hu
      cases hu
      refine ⟨v', ?_, hv⟩
      rw [← a3, ht]
      have := hD.size
      simp [Act.put, this, b1]
    · have hta : (a.put o.dst v').tmps[t]? = a.tmps[t]? := by
        rw [← a3]
        cases hd : q.ins.dst with
        | none => rfl
        | some d =>
          simp only [Act.put]
          rw [Array.getElem?_setIfInBounds_ne]
          rintro rfl
          exact ht hd
      rw [hta]
      rcases hD.env t u hu with ⟨x, hx1, hx2⟩ | ⟨u', h1, h2⟩
      · left
        refine ⟨x, (hmem x).2 ⟨hx1, fun hxi => ?_⟩, hx2⟩
        obtain ⟨ox, c1, _, c3, _⟩ := hD.pok x hx1
        rw [hxi, ho] at c1
        cases c1
        rw [a3, ← c3, hx2] at ht
        exact ht rfl
      · exact .inr ⟨u', h1, h2.mono hle⟩
  · obtain ⟨m1, m2⟩ := (hmem q').1 hq'
    obtain ⟨ox, c1, c2, c3, c4, c5, c6, c7, c8, c9, c10, c11⟩ := hD.pok q' m1
    refine ⟨ox, c1, c2, c3, c4, c5, c6, c7, c8, c9, c10, fun hs => ?_⟩
    rcases c11 hs with he | ⟨b, he⟩ | ⟨β, c, sz, b0, b1, b2, b3, b4, b5⟩
    · exact .inl he
    · exact .inr (.inl ⟨b, he⟩)
    · exact .inr (.inr ⟨β, c, sz, b0, b1, hb q' m1 m2 β b0 b3 b2, b3, b4, b5⟩)

/-- The head of what is carried out ahead is ready. -/
theorem head_ready (hD : DInv P K W n ops ks base ρ0 h0 rest pend lp listed e h fz ρ a w) {q : Pd} {l : List Pd} (hp : pend = q :: l) : q.ix ∈ Region.ready .any ops listed := by
  subst hp
  obtain ⟨o, a1, _, _, _, _, _, _, _, a9, _, _⟩ := hD.pok q List.mem_cons_self
  have hix : q.ix < ops.size := (Array.getElem?_eq_some_iff.1 a1).1
  refine ready_mem a1 ?_ fun ed he hb => ?_
  · cases hx : listed.getD q.ix true with
    | false => rfl
    | true => exact absurd rfl (((hD.ls _ hix).1 hx).2 q List.mem_cons_self)
  · obtain ⟨b1, b2⟩ := getD_false_of (a9 ed he hb)
    rw [hD.lpsz] at b1
    rw [getD_bool (by rw [hD.lsz]; exact b1) false true, hD.ls _ b1]
    refine ⟨b2, fun x hx hxe => ?_⟩
    have := hD.order
    rw [List.map_cons] at this
    exact this.1 o a1 ed he hb (by rw [← hxe]; exact List.mem_map.2 ⟨x, hx, rfl⟩)

theorem listed_eq (hD : DInv P K W n ops ks base ρ0 h0 rest [] lp listed e h fz ρ a w) : listed = lp := by
  apply Array.ext
  · rw [hD.lsz, hD.lpsz]
  · intro i h1 h2
    have h3 := hD.ls i (by rw [← hD.lsz]; exact h1)
    simp only [List.not_mem_nil, false_implies, implies_true, and_true] at h3
    have e1 : listed.getD i true = listed[i] := by simp [Array.getD_eq_getD_getElem?, h1]
    have e2 : lp.getD i true = lp[i] := by simp [Array.getD_eq_getD_getElem?, h2]
    rw [e1, e2] at h3
    exact Bool.eq_iff_iff.2 h3

/-- Whoever is ready has all that it looks at. -/
theorem sees (hs : ssaOk ops = true) (hD : DInv P K W n ops ks base ρ0 h0 rest pend lp listed e h fz ρ a w) {i : Nat} {o : Oper} (ho : ops[i]? = some o) (hr : i ∈ Region.ready .any ops listed) {t : Nat} (ht : t ∈ o.looksAt ops) {u : Value} (hu : e.get t = some u) :
    ∃ u', a.tmps[t]? = some u' ∧ VRel ρ u u' := by
  rcases hD.env t u hu with ⟨q, hq, hqd⟩ | hx
  · exfalso
    obtain ⟨oq, a1, _, a3, _⟩ := hD.pok q hq
    obtain ⟨_, s2⟩ := ssa_spec hs ho a1 (a3 ▸ hqd)
    obtain ⟨ed, e1, e2, e3⟩ := waits_spec ho (s2 ht)
    obtain ⟨o', b1, _, _, b4⟩ := ready_spec hr
    rw [ho] at b1
    cases b1
    obtain ⟨c1, c2⟩ := getD_false_of (b4 ed e1 e2)
    rw [e3] at c1 c2
    exact ((hD.ls _ (by rw [← hD.lsz]; exact c1)).1 c2).2 q hq rfl
  · exact hx

theorem draw_claim (hr : CallSound P r) (hs : ssaOk ops = true) (hks : ks = ops.toList.map (sIns P n ops)) (hbase : base = h0.fz) {sfin : St} {Q : Exit → Act → World → Prop}
    (hQ : ∀ ρ' a' w', SRel K W ρ' n sfin a' w' → Ext ρ0 ρ' h0 → Fr ρ0 h0 sfin.h → Q .normal a' w') :
    ∀ (fuel : Nat) (rest : List SIns) (pend : List Pd) (lp listed : Array Bool) (e : Env) (h : Hp) (fz : List (Nat × Nat)) (ρ : Rho) (a : Act) (w : World), DInv P K W n ops ks base ρ0 h0 rest pend lp listed e h fz ρ a w →
      fuel = rest.length + pend.length → runDraw r base rest fz ⟨e, h⟩ = some sfin → wpAny P .any ops Q fuel listed a w := by
  intro fuel
  induction fuel with
  | zero =>
    intro rest pend lp listed e h fz ρ a w hD hf hv
    have hr0 : rest = [] := List.eq_nil_of_length_eq_zero (by omega)
    have hp0 : pend = [] := List.eq_nil_of_length_eq_zero (by omega)
    subst hr0
    subst hp0
    have hle := listed_eq hD
    have hpl := hD.plan
    simp only [List.length_nil, sPlan, Bool.cond_eq_ite] at hpl
    split at hpl
    · rename_i hrd
      simp only [runDraw, Option.some.injEq] at hv
      subst hv
      refine ⟨by rw [hle]; simpa using hrd, hQ ρ a w ⟨hD.heap.fz _, hD.size, hD.dfs, fun t u hu => ?_⟩ hD.ext ⟨hbase, hD.next, fun b hb hc => hD.frb b hb (by rw [hbase]; exact hc)⟩⟩
      rcases hD.env t u hu with ⟨q, hq, _⟩ | hx
      · cases hq
      · exact hx
    · cases hpl
  | succ fuel ih =>
    intro rest0 pend0 lp0 listed e0 h0' fz0 ρ a w hD0 hf0 hv0
    obtain ⟨rest, pend, lp, e, h, fz, hD, hf, hv, hk⟩ := saturate hs hks _ _ _ _ _ _ hD0 hv0
    rw [← hf] at hf0
    clear hD0 hv0 hf
    refine ⟨fun hrd => ?_, fun i hi => ?_⟩
    · exfalso
      cases pend with
      | cons q l =>
        have := head_ready hD rfl
        rw [hrd] at this
        cases this
      | nil =>
        have hle := listed_eq hD
        cases rest with
        | nil => simp at hf0
        | cons I l =>
          obtain ⟨_, _, j, _, _, hnx, _⟩ := plan_cons hks hD.plan
          have := (next_ready hnx).1
          rw [← hle, hrd] at this
          cases this
    · obtain ⟨o, ho, his, hil, hie⟩ := ready_spec hi
      unfold wpOp
      rw [ho]
      simp only
      cases hlp : lp.getD i true with
      | true =>
        have hex : ∃ q ∈ pend, q.ix = i := by
          by_cases hx : ∃ q ∈ pend, q.ix = i
          · exact hx
          · exfalso
            have := (hD.ls i his).2 ⟨hlp, fun q hq hqi => hx ⟨q, hq, hqi⟩⟩
            rw [hil] at this
            cases this
        obtain ⟨q, hq, rfl⟩ := hex
        obtain ⟨o', a1, a2, a3, a4, a5, a6, a7, a8, a9, a10, a11⟩ := hD.pok q hq
        rw [ho] at a1
        cases a1
        have hsee : ∀ t ∈ o.looksAt ops, ∀ u, q.e0.get t = some u → ∃ u', a.tmps[t]? = some u' ∧ VRel ρ u u' := fun t ht u hu => sees hs hD ho hi ht ((a6 t ht).trans hu)
        have hwt := wanted_pd (a := a) (ρ := ρ) a5 a6 (fun t ht u hu => sees hs hD ho hi ht hu) a7
        have hlen := filter_len pend q hD.nodup hq
        rw [hwt]
        cases hsk : q.skip with
        | true =>
          simp only [Bool.not_true, Bool.false_eq_true, if_false]
          refine ih _ _ _ _ _ _ _ _ _ _ (pend_done hD hq ho (Rho.le_refl _) (by rw [a8 hsk]; exact closed_self 4 undef rfl) hD.heap hD.ext (fun _ _ _ _ _ _ hx => hx)) (by omega) hv
        | false =>
          simp only [Bool.not_false, if_true]
          left
          have hA : AR ρ q.e0 a.eval o.op.operands.toList := ar_of fun t ht u hu => hsee t (looks_tmp ht) u hu
          have go : simple q.ins.op q.e0 h = some (q.v, h) → o.wp P a w (wpAny P .any ops Q fuel (listed.setIfInBounds q.ix true)) Q := by
            intro hsv
            obtain ⟨ρ', w', hy⟩ := simple_sim hD.heap a2 hA hsv
            have fin : ∀ v', VRel ρ' q.v v' → wpAny P .any ops Q fuel (listed.setIfInBounds q.ix true) (a.put o.dst v') w' := fun v' hvr =>
              ih _ _ _ _ _ _ _ _ _ _ (pend_done hD hq ho hy.ext.1 hvr hy.rel (hD.ext.trans hD.next hy.ext) (fun q' _ _ β _ hb hx => hy.ext.2 β hb hx)) (by omega) hv
            rcases hy.run with ⟨v', h1, h2⟩ | ⟨h1, h2⟩
            · simp only [Oper.wp, h1, Oper.upon_value]
              exact fin v' h2
            · simp only [Oper.wp, h1, Oper.upon_skip]
              exact fin undef (by rw [h2]; exact closed_self 4 _ rfl)
          rcases a11 hsk with he | ⟨b, b1, b2, _⟩ | ⟨β, c, sz, b0, b1, b2, b3, b4, b5⟩
          · exact go (he h)
          · exact go (b2 h rfl)
          · obtain ⟨v', w', C, el, len, c1, c2, c3, c4, c5, c6, c7⟩ := b5 ρ a w hA
            obtain ⟨d1, d2⟩ := hD.heap.realize c2 b1 b2 b3 C el len c3 c4 c5 c6
            simp only [Oper.wp, c1, Oper.upon_value]
            refine ih _ _ _ _ _ _ _ _ _ _ (pend_done hD hq ho d2 c7 d1 ⟨Rho.le_trans hD.ext.1 d2, fun b hb hx => ?_⟩ (fun q' hq' hne β' hβ' _ hx => ?_)) (by omega) hv
            · unfold Rho.upd
              rw [if_neg (by omega)]
              exact hD.ext.2 b hb hx
            · unfold Rho.upd
              rw [if_neg]
              · exact hx
              · rintro rfl
                exact hD.phs q' hq' q hq hne β' hβ' b0
      | false =>
        cases rest with
        | nil =>
          exfalso
          have hpl := hD.plan
          simp only [List.length_nil, sPlan, Bool.cond_eq_ite] at hpl
          split at hpl
          · rename_i hrd
            have hm : i ∈ Region.ready .any ops lp := by
              refine ready_mem ho hlp fun ed he hb => ?_
              obtain ⟨c1, c2⟩ := getD_false_of (hie ed he hb)
              rw [getD_bool (by rw [hD.lpsz, ← hD.lsz]; exact c1) false true]
              exact ((hD.ls _ (by rw [← hD.lsz]; exact c1)).1 c2).1
            have : Region.ready .any ops lp = [] := by simpa using hrd
            rw [this] at hm
            cases hm
          · cases hpl
        | cons I l =>
          have hk3 := hk I l rfl
          obtain ⟨k', hk', j, oj, i0, hnx, hoj, hi0, hkat, hIo, hId, hIg, hIx, hIf, hIb, hpl⟩ := plan_cons hks hD.plan
          obtain ⟨hrd, hrd2⟩ := next_ready hnx
          have hm : i ∈ Region.ready .any ops lp := by
            refine ready_mem ho hlp fun ed he hb => ?_
            obtain ⟨c1, c2⟩ := getD_false_of (hie ed he hb)
            rw [getD_bool (by rw [hD.lpsz, ← hD.lsz]; exact c1) false true]
            exact ((hD.ls _ (by rw [← hD.lsz]; exact c1)).1 c2).1
          have hij : i = j := by
            rw [← hIo, hk3] at hkat
            rcases hrd2 with hx | hx
            · omega
            · rw [hx] at hm
              simpa using hm
          subst hij
          rw [ho] at hoj
          cases hoj
          obtain ⟨g1, g2, g3, g4⟩ := sIns_spec hi0
          rw [← hIo] at g1 hIf hIb
          rw [← hId] at g2 g3
          rw [← hIg] at g4
          have hkl : k' = l.length := by simp at hk'; omega
          subst hkl
          have hjs : i < lp.size := by rw [hD.lpsz]; exact his
          have hls : i < listed.size := by rw [hD.lsz]; exact his
          have hsee : ∀ t ∈ o.looksAt ops, ∀ u, e.get t = some u → ∃ u', a.tmps[t]? = some u' ∧ VRel ρ u u' := fun t ht u hu => sees hs hD ho hi ht hu
          have hpne : ∀ q ∈ pend, q.ix ≠ i := by
            intro q hq hx
            obtain ⟨o, _, _, _, _, _, _, _, _, _, a10, _⟩ := hD.pok q hq
            rw [hx, hlp] at a10
            cases a10
          -- those whom this one waits for are not ahead
          have hbef : ∀ q ∈ pend, waitsFor ops i q.ix = true → False := by
            intro q hq hwf
            obtain ⟨ed, e1, e2, e3⟩ := waits_spec ho hwf
            obtain ⟨c1, c2⟩ := getD_false_of (hie ed e1 e2)
            rw [e3] at c1 c2
            exact ((hD.ls _ (by rw [← hD.lsz]; exact c1)).1 c2).2 q hq rfl
          have step : ∀ (v v' : Value) (h' : Hp) (fz' : List (Nat × Nat)) (ρ' : Rho) (w' : World), VRel ρ' v v' → Ext ρ ρ' h → HRel K W ρ' h' w' → h.next ≤ h'.next →
              (∀ b, b < h.next → (ρ b = none ∨ b ∈ base) → h'.t.get b = h.t.get b) →
              (∀ q o', q ∈ pend → Evid P ops ks h h0.next fz ρ lp q o' → Evid P ops ks h' h0.next fz' ρ' (lp.setIfInBounds i true) q o') →
              DInv P K W n ops ks base ρ0 h0 l pend (lp.setIfInBounds i true) (listed.setIfInBounds i true) (putE e I.dst v) h' fz' ρ' (a.put o.dst v') w' := by
            intro v v' h' fz' ρ' w' s1 s2 s3 s4 s5 s6
            refine ⟨hpl, by simpa using hD.lpsz, by simpa using hD.lsz, fun k hk => ?_, hD.order, hD.nodup, s3, hD.ext.trans hD.next s2, Nat.le_trans hD.next s4, fun b hb1 hb2 => ?_, ?_, ?_, fun t u hu => ?_, fun q hq => ?_, fun q hq β hβ => Nat.lt_of_lt_of_le (hD.pbt q hq β hβ) s4, hD.phs⟩
            · rw [set_getD hls, set_getD hjs]
              by_cases hki : k = i
              · subst hki
                simp only [if_true, true_and, true_iff]
                exact hpne
              · simp only [if_neg hki]
                exact hD.ls k hk
            · rw [s5 b (Nat.lt_of_lt_of_le hb1 hD.next) (hb2.imp (hD.ext.2 b hb1) id)]
              exact hD.frb b hb1 hb2
            · cases o.dst with
              | none => exact hD.size
              | some d => simpa [Act.put] using hD.size
            · cases o.dst with
              | none => exact hD.dfs
              | some d => exact hD.dfs
            · by_cases ht : I.dst = some t
              · right
                rw [ht, putE_same] at hu
                cases hu
                refine ⟨v', ?_, s1⟩
                rw [← g2, ht]
                have := hD.size
                simp [Act.put, this, g3 t ht]
              · have h1 : (putE e I.dst v).get t = e.get t := by
                  cases hd : I.dst with
                  | none => rfl
                  | some d =>
                    simp only [putE]
                    rw [T.get_set_ne]
                    rintro rfl
                    exact ht hd
                have h2 : (a.put o.dst v').tmps[t]? = a.tmps[t]? := by
                  rw [← g2]
                  cases hd : I.dst with
                  | none => rfl
                  | some d =>
                    simp only [Act.put]
                    rw [Array.getElem?_setIfInBounds_ne]
                    rintro rfl
                    exact ht hd
                rw [h1] at hu
                rw [h2]
                rcases hD.env t u hu with hx | ⟨u', x1, x2⟩
                · exact .inl hx
                · exact .inr ⟨u', x1, x2.mono s2.1⟩
            · have := pok_step (v := v) hs (hD.pok q hq) ho hlp (h' := h') (fz' := fz') (ρ' := ρ') (fun o' _ he => s6 q o' hq he)
              rw [g2]
              exact this
          simp only [runDraw] at hv
          split at hv
          · cases hv
          · rename_i hw
            have hwt := wanted_rel (a := a) (ρ := ρ) (ops := ops) g4 (fun t _ hgt u hu => hsee t (looks_guard g4 hgt) u hu) hw
            rw [hwt]
            simp only [Bool.false_eq_true, if_false]
            exact ih _ _ _ _ _ _ _ _ _ _ (step undef undef h fz ρ w (closed_self 4 _ rfl) (Ext.refl _ _) hD.heap (Nat.le_refl _) (fun _ _ _ => rfl)
              (fun q o' _ he => evid_keep (j := i) (fun _ _ => rfl) (Nat.le_refl _) (fun _ hx => hx) he)) (by simp at hf0; omega) hv
          · rename_i hw
            have hwt := wanted_rel (a := a) (ρ := ρ) (ops := ops) g4 (fun t _ hgt u hu => hsee t (looks_guard g4 hgt) u hu) hw
            rw [hwt]
            simp only [if_true]
            left
            have hIff : I.fz = false := by rw [hIf, hk3]; rfl
            rw [hIff] at hv
            simp only [cond_false] at hv
            split at hv
            · rename_i s' hs'
              have hA : AR ρ e a.eval o.op.operands.toList := ar_of fun t ht u hu => hsee t (looks_tmp ht) u hu
              obtain ⟨v, hev, hstep⟩ := insV_sim (a := a) hr g1 (hD.heap.fz ((fz.filter fun p => !(I.bef.any (Nat.beq p.1))).map (·.2) ++ base)) hA hs'
              refine hstep _ _ fun ρ' v' w' q1 q2 q3 q4 => ?_
              refine ih _ _ _ _ _ _ _ _ _ _ (step v v' s'.h (fz.filter fun p => !(I.bef.any (Nat.beq p.1))) ρ' w' q1 q2 q3 q4.next (fun b hb hc => ?_) (fun q o' hq he => ?_)) (by simp at hf0; omega) (by rw [← hev]; exact hv)
              · exact q4.get b hb (hc.imp id fun hx => List.mem_append_right _ hx)
              · rcases he with he | ⟨b, b1, b2, b3⟩ | ⟨β, c, sz, b0, b1, b2, b3, b4, b5⟩
                · exact .inl he
                · rcases b3 with b3 | b3
                  · have hmem : (q.ix, b) ∈ fz.filter fun p => !(I.bef.any (Nat.beq p.1)) := by
                      refine List.mem_filter.2 ⟨b3, ?_⟩
                      simp only [Bool.not_eq_true', List.any_eq_false]
                      intro x hx hxe
                      rw [beq_dec, decide_eq_true_eq] at hxe
                      rw [hIb, hk3] at hx
                      simp only [show Nat.beq 3 3 = true from rfl, cond_true] at hx
                      obtain ⟨o2, ed, e1, e2, e3, e4⟩ := befOf_spec hx
                      rw [ho] at e1
                      cases e1
                      obtain ⟨c1, c2⟩ := getD_false_of (hie ed e2 e3)
                      rw [e4, ← hxe] at c1 c2
                      exact ((hD.ls _ (by rw [← hD.lsz]; exact c1)).1 c2).2 q hq rfl
                    refine .inr (.inl ⟨b, Nat.lt_of_lt_of_le b1 q4.next, fun h2 hh => b2 h2 (hh.trans (q4.get b b1 (.inr ?_))), .inl hmem⟩)
                    exact List.mem_append_left _ (List.mem_map.2 ⟨_, hmem, rfl⟩)
                  · exact absurd (b3 i (by rw [hkat, ← hIo]; exact hk3) hlp) (fun hx => hbef q hq hx)
                · exact .inr (.inr ⟨β, c, sz, b0, (q4.get β b3 (.inl b2)).trans b1, q2.2 β b3 b2, Nat.lt_of_lt_of_le b3 q4.next, b4, b5⟩)
            · cases hv

/-- A region that draws its order. -/
theorem draw_sim (hr : CallSound P r) (hmix : P.follows .mixedOrders = true) {id : Nat} {l : List SIns} {s s' : St} {Q : Exit → Act → World → Prop} (hs : ssaOk ops = true) (hpl : sPlan ops (ops.toList.map (sIns P n ops)) ops.size (Array.replicate ops.size false) = some l)
    (hv : runDraw r s.h.fz l [] s = some s') (hR : SRel K W ρ n s a w) (hQ : ∀ ρ' a' w', SRel K W ρ' n s' a' w' → Ext ρ ρ' s.h → Fr ρ s.h s'.h → Q .normal a' w') : (Code.region id ops true).wp P Q a w := by
  have hlen : ∀ (k : Nat) (lp : Array Bool) (l : List SIns), sPlan ops (ops.toList.map (sIns P n ops)) k lp = some l → l.length = k := by
    intro k
    induction k with
    | zero =>
      intro lp l h
      simp only [sPlan, Bool.cond_eq_ite] at h
      split at h <;> cases h
      rfl
    | succ k ih =>
      intro lp l h
      simp only [sPlan] at h
      split at h
      · cases h
      · split at h
        · split at h
          · rename_i l' hl'
            cases h
            simp [ih _ _ hl']
          · cases h
        · cases h
  have hl := hlen _ _ _ hpl
  refine wp_region_any hmix ?_
  refine draw_claim (K := K) (W := W) (ρ0 := ρ) (h0 := s.h) hr hs rfl rfl hQ ops.size l [] (Array.replicate ops.size false) _ s.e s.h [] ρ a _ ?_ (by simp [hl]) hv
  refine ⟨by rw [hl]; exact hpl, by simp, by simp, fun j hj => by simp, trivial, by simp, hR.heap.sameHeap ⟨rfl, rfl, rfl⟩ rfl, Ext.refl _ _, Nat.le_refl _, fun _ _ _ => rfl, hR.size, hR.dfs, fun t v hv => .inr (hR.env t v hv), fun q hq => (by cases hq), fun q hq => (by cases hq), fun q hq => (by cases hq)⟩
end
end Go.Eng
