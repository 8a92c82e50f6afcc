/- Code, bodies, calls: the evaluator is sound. -/
import Derived.Test.YtdafdampodbobaaEngO
import Derived.Scope
import Derived.LoopN
namespace Go.Eng
set_option linter.unusedSimpArgs false
set_option linter.unusedVariables false
section
variable {P : Program} {K : Nat → Prop} {W w : World} {ρ : Rho} {h : Hp} {a : Act} {r : Ev} {n : Nat}

/-- What is asked of a sound evaluation of code. -/
def CodeSound (P : Program) (r : Ev) : Prop :=
  ∀ (c : Code) (sc : SCode) (n : Nat) (s s' : St) (fl : Flow), slim P n c = some sc → r.code sc s = some (fl, s') →
    ∀ (K : Nat → Prop) (W : World) (ρ : Rho) (a : Act) (w : World), SRel K W ρ n s a w →
    ∀ Q : Exit → Act → World → Prop, (∀ e ρ' a' w', exitOf fl e → SRel K W ρ' n s' a' w' → Ext ρ ρ' s.h → Fr ρ s.h s'.h → Q e a' w') → c.wp P Q a w

def LoopSound (P : Program) (m : Nat) (r : Ev) : Prop :=
  ∀ (c : Code) (sc : SCode) (n : Nat) (s s' : St) (fl : Flow), slim P n c = some sc → r.code (.loop sc) s = some (fl, s') →
    ∀ (K : Nat → Prop) (W : World) (ρ : Rho) (a : Act) (w : World), SRel K W ρ n s a w →
    ∀ Q : Exit → Act → World → Prop, (∀ e ρ' a' w', exitOf fl e → SRel K W ρ' n s' a' w' → Ext ρ ρ' s.h → Fr ρ s.h s'.h → Q e a' w') → Code.rounds P c Q m a w

theorem flow_exit {fl : Flow} {e : Exit} (h : exitOf fl e) : (fl = .next ∧ e = .normal) ∨ (∃ i, fl = .exit i ∧ e = .exit i) ∨ (fl = .ret ∧ e = .ret) := by
  cases fl <;> cases e <;> simp_all [exitOf]

theorem loop_step {F : FuncId → Option SFunc} {G : FuncId → List Value → Option Value} {m : Nat} (hc : CodeSound P (ev F G m)) (hl : LoopSound P m (ev F G m)) : LoopSound P (m + 1) (ev F G (m + 1)) := by
  intro c sc n s s' fl hs hv K W ρ a w hR Q hQ
  rw [rounds_succ]
  simp only [ev, stepCode] at hv
  split at hv
  · rename_i s1 hv1
    refine hc c sc n s s1 .next hs hv1 K W ρ a w hR _ fun e ρ1 a1 w1 he hR1 hE1 hF1 => ?_
    rcases flow_exit he with ⟨_, rfl⟩ | ⟨_, hx, _⟩ | ⟨hx, _⟩
    · refine hl c sc n s1 s' fl hs hv K W ρ1 a1 w1 hR1 Q fun e ρ2 a2 w2 he2 hR2 hE2 hF2 => ?_
      exact hQ e ρ2 a2 w2 he2 hR2 (hE1.trans hF1.next hE2) (hF1.trans hE1 hF2)
    · cases hx
    · cases hx
  · rename_i hne
    refine hc c sc n s s' fl hs hv K W ρ a w hR _ fun e ρ1 a1 w1 he hR1 hE1 hF1 => ?_
    rcases flow_exit he with ⟨rfl, rfl⟩ | ⟨i, rfl, rfl⟩ | ⟨rfl, rfl⟩
    · exact absurd hv (hne s')
    · exact hQ _ ρ1 a1 w1 rfl hR1 hE1 hF1
    · exact hQ _ ρ1 a1 w1 trivial hR1 hE1 hF1

theorem code_step {F : FuncId → Option SFunc} {G : FuncId → List Value → Option Value} {m : Nat} (hmix : P.follows .mixedOrders = true) (hcall : CallSound P (ev F G m)) (hc : CodeSound P (ev F G m)) (hl : LoopSound P (m + 1) (ev F G (m + 1))) : CodeSound P (ev F G (m + 1)) := by
  intro c
  induction c with
  | skip =>
    intro sc n s s' fl hs hv K W ρ a w hR Q hQ
    cases hs
    simp only [ev, stepCode, Option.some.injEq, Prod.mk.injEq] at hv
    obtain ⟨rfl, rfl⟩ := hv
    exact wp_skip (hQ _ ρ a w trivial hR (Ext.refl _ _) (Fr.refl _ _))
  | label l =>
    intro sc n s s' fl hs hv K W ρ a w hR Q hQ
    cases hs
    simp only [ev, stepCode, Option.some.injEq, Prod.mk.injEq] at hv
    obtain ⟨rfl, rfl⟩ := hv
    exact wp_label (hQ _ ρ a w trivial hR (Ext.refl _ _) (Fr.refl _ _))
  | exit id =>
    intro sc n s s' fl hs hv K W ρ a w hR Q hQ
    cases hs
    simp only [ev, stepCode, Option.some.injEq, Prod.mk.injEq] at hv
    obtain ⟨rfl, rfl⟩ := hv
    exact wp_exit (hQ _ ρ a w rfl hR (Ext.refl _ _) (Fr.refl _ _))
  | ret =>
    intro sc n s s' fl hs hv K W ρ a w hR Q hQ
    cases hs
    simp only [ev, stepCode, Option.some.injEq, Prod.mk.injEq] at hv
    obtain ⟨rfl, rfl⟩ := hv
    exact wp_ret (hQ _ ρ a w trivial hR (Ext.refl _ _) (Fr.refl _ _))
  | region id ops draw =>
    intro sc n s s' fl hs hv K W ρ a w hR Q hQ
    cases draw with
    | false =>
      simp only [slim] at hs
      obtain ⟨l, hl, rfl⟩ := map_some hs
      simp only [ev, stepCode] at hv
      split at hv
      · rename_i s1 hv1
        cases hv
        refine wp_region ?_
        have := ops_sim (Q := Q) hcall ops.toList 0 l s s' ρ a w rfl hl hv1 hR (fun ρ' a' w' q1 q2 q3 => hQ _ ρ' a' w' trivial q1 q2 q3)
        rwa [Nat.sub_zero, ← List.range_eq_range'] at this
      · cases hv
    | true =>
      simp only [slim] at hs
      cases hso : ssaOk ops with
      | false => rw [hso] at hs; cases hs
      | true =>
        rw [hso, cond_true] at hs
        obtain ⟨l, hl, rfl⟩ := map_some hs
        simp only [ev, stepCode] at hv
        split at hv
        · rename_i s1 hv1
          cases hv
          exact draw_sim hcall hmix hso hl hv1 hR (fun ρ' a' w' q1 q2 q3 => hQ _ ρ' a' w' trivial q1 q2 q3)
        · cases hv
  | seq x y ihx ihy =>
    clear ihx ihy
    intro sc n s s' fl hs hv K W ρ a w hR Q hQ
    simp only [slim] at hs
    split at hs
    · rename_i sx sy hx hy
      cases hs
      simp only [ev, stepCode] at hv
      refine wp_seq ?_
      split at hv
      · rename_i s1 hv1
        refine hc x sx n s s1 .next hx hv1 K W ρ a w hR _ fun e ρ1 a1 w1 he hR1 hE1 hF1 => ?_
        rcases flow_exit he with ⟨_, rfl⟩ | ⟨_, hx, _⟩ | ⟨hx, _⟩
        · refine hc y sy n s1 s' fl hy hv K W ρ1 a1 w1 hR1 Q fun e ρ2 a2 w2 he2 hR2 hE2 hF2 => ?_
          exact hQ e ρ2 a2 w2 he2 hR2 (hE1.trans hF1.next hE2) (hF1.trans hE1 hF2)
        · cases hx
        · cases hx
      · rename_i hne
        refine hc x sx n s s' fl hx hv K W ρ a w hR _ fun e ρ1 a1 w1 he hR1 hE1 hF1 => ?_
        rcases flow_exit he with ⟨rfl, rfl⟩ | ⟨i, rfl, rfl⟩ | ⟨rfl, rfl⟩
        · exact absurd hv (hne s')
        · exact hQ _ ρ1 a1 w1 rfl hR1 hE1 hF1
        · exact hQ _ ρ1 a1 w1 trivial hR1 hE1 hF1
    · cases hs
  | cond x y z ihy ihz =>
    clear ihy ihz
    intro sc n s s' fl hs hv K W ρ a w hR Q hQ
    simp only [slim] at hs
    split at hs
    · rename_i sx sy sz hx hy hz
      cases hs
      simp only [ev, stepCode] at hv
      split at hv
      · rename_i t ht
        have hA : AR ρ s.e a.eval [x] := ar_of fun t _ u hu => hR.env t u hu
        have hxt := bool_inv (hA x (by simp) _ _ hx ht)
        refine wp_cond hxt ?_
        cases t with
        | true => exact hc y sy n s s' fl hy hv K W ρ a w hR Q hQ
        | false => exact hc z sz n s s' fl hz hv K W ρ a w hR Q hQ
      · cases hv
    · cases hs
  | block id b ih =>
    clear ih
    intro sc n s s' fl hs hv K W ρ a w hR Q hQ
    simp only [slim] at hs
    obtain ⟨sb, hb, rfl⟩ := map_some hs
    simp only [ev, stepCode] at hv
    refine wp_block ?_
    split at hv
    · rename_i i s1 hv1
      rw [beq_dec] at hv
      refine hc b sb n s s1 (.exit i) hb hv1 K W ρ a w hR _ fun e ρ1 a1 w1 he hR1 hE1 hF1 => ?_
      rcases flow_exit he with ⟨hx, _⟩ | ⟨i', hx, rfl⟩ | ⟨hx, _⟩
      · cases hx
      · cases hx
        by_cases hi : i = id
        · rw [decide_eq_true hi] at hv
          cases hv
          simp only [Exit.inBlock, hi, if_true]
          exact hQ _ ρ1 a1 w1 trivial hR1 hE1 hF1
        · rw [decide_eq_false hi] at hv
          cases hv
          simp only [Exit.inBlock, hi, if_false]
          exact hQ _ ρ1 a1 w1 rfl hR1 hE1 hF1
      · cases hx
    · rename_i hne
      refine hc b sb n s s' fl hb hv K W ρ a w hR _ fun e ρ1 a1 w1 he hR1 hE1 hF1 => ?_
      rcases flow_exit he with ⟨rfl, rfl⟩ | ⟨i, rfl, rfl⟩ | ⟨rfl, rfl⟩
      · exact hQ _ ρ1 a1 w1 trivial hR1 hE1 hF1
      · exact absurd hv (hne i s')
      · exact hQ _ ρ1 a1 w1 trivial hR1 hE1 hF1
  | loop b ih =>
    clear ih
    intro sc n s s' fl hs hv K W ρ a w hR Q hQ
    simp only [slim] at hs
    obtain ⟨sb, hb, rfl⟩ := map_some hs
    exact wp_loop_rounds (m + 1) (hl b sb n s s' fl hb hv K W ρ a w hR Q hQ)
  | scope b ih =>
    intro sc n s s' fl hs hv K W ρ a w hR Q hQ
    simp only [slim] at hs
    refine wp_scope_straight (ih sc n s s' fl hs hv K W ρ a w hR _ fun e ρ1 a1 w1 he hR1 hE1 hF1 => ?_)
    have hq := hQ e ρ1 a1 w1 he hR1 hE1 hF1
    rcases flow_exit he with ⟨rfl, rfl⟩ | ⟨i, rfl, rfl⟩ | ⟨rfl, rfl⟩
    · exact hq
    · exact hq
    · exact hq
  | rangeFunc f p x y => intro sc n s s' fl hs; cases hs
  | goto l => intro sc n s s' fl hs; cases hs
  | refuse y => intro sc n s s' fl hs; cases hs

theorem envOf_get : ∀ (l : List Value) (i : Nat) (e : Env) (t : Nat), (envOf i l e).get t = if i ≤ t ∧ t < i + l.length then l[t - i]? else e.get t := by
  intro l
  induction l with
  | nil => intro i e t; simp only [envOf, List.length_nil]; rw [if_neg (by omega)]
  | cons v l ih =>
    intro i e t
    simp only [envOf, List.length_cons]
    rw [ih, T.get_set]
    by_cases h1 : t = i
    · subst h1
      rw [if_neg (by omega), if_pos rfl, if_pos (by omega)]
      simp
    · by_cases h2 : i + 1 ≤ t ∧ t < i + 1 + l.length
      · rw [if_pos h2, if_pos (by omega), show t - i = (t - (i + 1)) + 1 by omega, List.getElem?_cons_succ]
      · rw [if_neg h2, if_neg h1, if_neg (by omega)]

def resQ (tmps : Array Value) : ResultVar → Sem Value
  | .tmp t => pure (tmps.getD t undef)
  | .cell a t => do loadVar t (← asAddr (tmps.getD a undef))

theorem results_eq (fn : Func) (tmps : Array Value) : results fn tmps = (do let vs ← fn.results.mapM (resQ tmps); pure (if h : vs.size = 1 then vs[0] else .tuple vs)) := rfl

theorem resV_rel {s : St} (hR : SRel K W ρ n s a w) {q : ResultVar} {x : SRes} {v : Value} (hq : sRess P [q] = some [x]) (hv : resV s.e s.h x = some v) :
    ∃ v', VRel ρ v v' ∧ (resQ a.tmps q).run P w = .ok v' w := by
  cases q with
  | tmp t =>
    simp only [sRess, Option.map_some, Option.some.injEq, List.cons.injEq, and_true] at hq
    subst hq
    simp only [resV] at hv
    obtain ⟨v', h1, h2⟩ := hR.env t v hv
    exact ⟨v', h2, by simp [resQ, Array.getD_eq_getD_getElem?, h1]⟩
  | cell b t =>
    simp only [sRess] at hq
    split at hq
    · rename_i g l hg hl
      cases hl
      simp only [Option.some.injEq, List.cons.injEq, and_true] at hq
      subst hq
      simp only [resV] at hv
      split at hv
      · rename_i ad had
        obtain ⟨v', h1, h2⟩ := hR.env b ad had
        obtain ⟨u, h3, h4⟩ := sim_load hR.heap hg h2 hv
        refine ⟨u, h3, ?_⟩
        have hpt : ∃ x, v' = .pointer (some x) := by
          unfold sLoad at hv
          split at hv
          · obtain ⟨p, _, rfl⟩ := ptr_inv h2
            exact ⟨_, rfl⟩
          · cases hv
        obtain ⟨x, rfl⟩ := hpt
        simp only [resQ, Array.getD_eq_getD_getElem?, h1, Option.getD_some]
        simpa [Instr.loadAt, Instr.sureAddr, asAddr] using h4
      · cases hv
    · cases hq

theorem resVs_rel {s : St} (hR : SRel K W ρ n s a w) : ∀ (qs : List ResultVar) (xs : List SRes) (vs : List Value), sRess P qs = some xs → resVs s.e s.h xs = some vs →
    ∃ vs', LRel ρ vs vs' ∧ (List.mapM (resQ a.tmps) qs).run P w = .ok vs' w := by
  intro qs
  induction qs with
  | nil =>
    intro xs vs h1 h2
    simp only [sRess, Option.some.injEq] at h1
    subst h1
    simp only [resVs, Option.some.injEq] at h2
    subst h2
    exact ⟨[], LRel.nil, by simp⟩
  | cons q qs ih =>
    intro xs vs h1 h2
    have hsplit : ∃ x l, sRess P [q] = some [x] ∧ sRess P qs = some l ∧ xs = x :: l := by
      cases q with
      | tmp t =>
        simp only [sRess] at h1 ⊢
        obtain ⟨l, hl, rfl⟩ := map_some h1
        exact ⟨_, l, rfl, hl, rfl⟩
      | cell b t =>
        simp only [sRess] at h1 ⊢
        split at h1
        · rename_i g l hg hl
          cases h1
          exact ⟨_, l, by rw [hg], hl, rfl⟩
        · cases h1
    obtain ⟨x, l, g1, g2, rfl⟩ := hsplit
    simp only [resVs] at h2
    split at h2
    · cases h2
    · rename_i v hv
      split at h2
      · rename_i l' hl'
        cases h2
        obtain ⟨v', k1, k2⟩ := resV_rel (P := P) hR g1 hv
        obtain ⟨vs', k3, k4⟩ := ih l l' g2 hl'
        refine ⟨v' :: vs', LRel.cons k1 k3, ?_⟩
        rw [List.mapM_cons, Sem.run_bind, k2, Result.andThen_ok, Sem.run_bind, k4, Result.andThen_ok, Sem.run_pure]
      · cases h2

theorem results_rel {s : St} (hR : SRel K W ρ n s a w) {fn : Func} {xs : List SRes} {vs : List Value} (h1 : sRess P fn.results.toList = some xs) (h2 : resVs s.e s.h xs = some vs) :
    ∃ v', VRel ρ (pack vs) v' ∧ (results fn a.tmps).run P w = .ok v' w := by
  obtain ⟨vs', k1, k2⟩ := resVs_rel (P := P) hR _ _ _ h1 h2
  refine ⟨pack vs', ?_, ?_⟩
  · cases vs with
    | nil => obtain rfl := k1.nil_inv; exact VRel.mkTuple .nil
    | cons v l =>
      obtain ⟨v', l', rfl, g1, g2⟩ := k1.cons_inv
      cases l with
      | nil => obtain rfl := g2.nil_inv; exact g1
      | cons u m =>
        obtain ⟨u', m', rfl, _, _⟩ := g2.cons_inv
        exact VRel.mkTuple k1
  · have hm : (fn.results.mapM (resQ a.tmps)).run P w = .ok vs'.toArray w := by
      rw [Array.mapM_eq_mapM_toList, Sem.run_map, k2]
      rfl
    rw [results_eq, Sem.run_bind, hm, Result.andThen_ok, Sem.run_pure]
    congr 1
    cases vs' with
    | nil => rfl
    | cons v l =>
      cases l with
      | nil => rfl
      | cons u m =>
        simp [pack]

theorem slimF_spec {fn : Func} {sf : SFunc} (h : slimF P fn = some sf) : ∃ c, fn.body = some c ∧ sf.n = fn.ntmps ∧ slim P fn.ntmps c = some sf.body ∧ sRess P fn.results.toList = some sf.res := by
  unfold slimF at h
  split at h
  · cases h
  · rename_i c hc
    split at h
    · rename_i b q hb hq
      cases h
      exact ⟨c, hc, rfl, hb, hq⟩
    · cases h

/-- Calls of which it is known that they answer a value, and turn nothing of what was there. -/
def KnownSound (P : Program) (G : FuncId → List Value → Option Value) : Prop :=
  ∀ f l v, G f l = some v → isClosed v = true ∧ (∃ fn c, P.funcs[f]? = some fn ∧ fn.body = some c ∧ fn.name ≠ "runtime.NumGoroutine") ∧
    ∀ (ρ : Rho) (l' : List Value) (w : World), LRel ρ l l' → Calls P f l'.toArray w fun e w' => e = .returned v ∧ SameIO w w' ∧ w.heap.size ≤ w'.heap.size ∧ ∀ k, k < w.heap.size → w'.heap[k]? = w.heap[k]?

theorem HRel.later {w' : World} (hr : HRel K W ρ h w) (io : SameIO w w') (hs : w.heap.size ≤ w'.heap.size) (hb : ∀ k, k < w.heap.size → w'.heap[k]? = w.heap[k]?) : HRel K W ρ h w' := by
  obtain ⟨p, kb, d, f, l, e⟩ := hr
  have hps := p.size
  refine ⟨⟨io.os.trans p.os, io.tape.trans p.tape, io.output.trans p.output, by omega, fun k hk => ?_⟩, kb, fun b q hq => ⟨(d b q hq).1, by have := (d b q hq).2; omega⟩, f, fun b c sz own q hb' hq => ?_, e⟩
  · have := kb k hk
    rw [hb k (by omega)]; exact p.blk k hk
  · obtain ⟨a1, a2, ⟨C, el, fr, b1, b2, b3, b4⟩, a4⟩ := l b c sz own q hb' hq
    exact ⟨a1, a2, ⟨C, el, fr, by rw [hb _ (d b q hq).2]; exact b1, b2, b3, b4⟩, a4⟩

theorem call_step {F : FuncId → Option SFunc} {G : FuncId → List Value → Option Value} {m : Nat} (hG : KnownSound P G) (hF : ∀ f sf, F f = some sf → ∃ fn, P.funcs[f]? = some fn ∧ slimF P fn = some sf ∧ fn.name ≠ "runtime.NumGoroutine") (hc : CodeSound P (ev F G m)) : CallSound P (ev F G (m + 1)) := by
  refine ⟨fun f l h v h' hv K W ρ w l' hR hl => ?_, fun f l h x hv => ?_⟩
  · simp only [ev, stepCall] at hv
    split at hv
    · rename_i u hu
      cases hv
      obtain ⟨g1, _, g3⟩ := hG f l v hu
      refine (g3 ρ l' w hl).mono fun e w' ⟨he, io, hs, hb⟩ => ?_
      exact ⟨ρ, v, he, closed_self 4 v g1, Ext.refl _ _, hR.later io hs hb, Fr.refl _ _⟩
    split at hv
    · cases hv
    · rename_i sf hsf
      obtain ⟨fn, hfn, hslim, hname⟩ := hF f sf hsf
      obtain ⟨c, hbody, hsn, hsb, hsr⟩ := slimF_spec hslim
      cases hble : Nat.ble l.length sf.n with
      | false => rw [hble] at hv; cases hv
      | true =>
        rw [hble, cond_true] at hv
        rw [Nat.ble_eq, hsn] at hble
        have hR0 : SRel K W ρ fn.ntmps ⟨envOf 0 l .leaf, h⟩ { tmps := l'.toArray ++ Array.replicate (fn.ntmps - l'.toArray.size) undef, defers := [] } w := by
          refine ⟨hR, ?_, rfl, fun t v hv => ?_⟩
          · have := hl.1
            simp; omega
          · simp only at hv
            rw [envOf_get] at hv
            split at hv
            · rename_i ht
              obtain ⟨v', h1, h2⟩ := hl.get hv
              refine ⟨v', ?_, h2⟩
              have := hl.1
              rw [Nat.sub_zero] at h1
              rw [Array.getElem?_append_left (by simp; omega)]
              simpa using h1
            · rw [T.get_leaf] at hv; cases hv
        have fin : ∀ (fl : Flow) (s : St), (fl = .next ∨ fl = .ret) → (ev F G m).code sf.body ⟨envOf 0 l .leaf, h⟩ = some (fl, s) → (match resVs s.e s.h sf.res with | some vs => some (pack vs, s.h) | none => none) = some (v, h') →
            Calls P f l'.toArray w (CallR K W ρ h v h') := by
          intro fl s hfl hrun hres
          split at hres
          · rename_i vs hvs
            cases hres
            refine calls_of_wp hfn hbody (hc c sf.body fn.ntmps _ s fl hsb hrun K W ρ _ w hR0 _ fun e ρ' a' w' he hR' hE hF => ?_)
            obtain ⟨v', g1, g2⟩ := results_rel (P := P) hR' hsr hvs
            rcases flow_exit he with ⟨_, rfl⟩ | ⟨i, hx, _⟩ | ⟨_, rfl⟩
            · exact ⟨hR'.dfs, v', g2, ρ', v', rfl, g1, hE, hR'.heap, hF⟩
            · subst hx
              rcases hfl with hx | hx <;> cases hx
            · exact ⟨hR'.dfs, v', g2, ρ', v', rfl, g1, hE, hR'.heap, hF⟩
          · cases hres
        split at hv
        · rename_i s hrun
          exact fin .next s (.inl rfl) hrun hv
        · rename_i s hrun
          exact fin .ret s (.inr rfl) hrun hv
        · cases hv
  · simp only [ev, stepCall] at hv
    split at hv
    · rename_i u hu
      exact (hG f l u hu).2.1
    split at hv
    · cases hv
    · rename_i sf hsf
      obtain ⟨fn, hfn, hslim, hname⟩ := hF f sf hsf
      obtain ⟨c, hbody, _⟩ := slimF_spec hslim
      exact ⟨fn, c, hfn, hbody, hname⟩

theorem ev_sound {F : FuncId → Option SFunc} {G : FuncId → List Value → Option Value} (hG : KnownSound P G) (hmix : P.follows .mixedOrders = true) (hF : ∀ f sf, F f = some sf → ∃ fn, P.funcs[f]? = some fn ∧ slimF P fn = some sf ∧ fn.name ≠ "runtime.NumGoroutine") :
    ∀ m, CallSound P (ev F G m) ∧ CodeSound P (ev F G m) ∧ LoopSound P m (ev F G m) := by
  intro m
  induction m with
  | zero =>
    refine ⟨⟨fun f l h v h' hv => ?_, fun f l h x hv => ?_⟩, fun c sc n s s' fl _ hv => ?_, fun c sc n s s' fl _ hv => ?_⟩ <;> simp [ev] at hv
  | succ m ih =>
    obtain ⟨h1, h2, h3⟩ := ih
    have hl := loop_step h2 h3
    exact ⟨call_step hG hF h2, code_step hmix h1 h2 hl, hl⟩
end
end Go.Eng
