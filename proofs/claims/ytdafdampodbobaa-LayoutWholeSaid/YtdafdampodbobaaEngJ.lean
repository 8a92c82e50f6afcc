/- All simple operations. -/
import Derived.Test.YtdafdampodbobaaEngI
namespace Go.Eng
set_option linter.unusedSimpArgs false
set_option linter.unusedVariables false
section
variable {P : Program} {K : Nat → Prop} {W w : World} {ρ : Rho} {h : Hp} {e : Env}

theorem sArgs_one {l : List Operand} {a : SArg} (h : sArgs l = some [a]) : ∃ x, l = [x] ∧ sArg x = some a := by
  cases l with
  | nil => simp [sArgs] at h
  | cons x r =>
    simp only [sArgs] at h
    split at h
    · rename_i a' l' ha hl
      cases h
      cases r with
      | nil => exact ⟨x, rfl, ha⟩
      | cons y r =>
        simp only [sArgs] at hl
        split at hl <;> cases hl
    · cases h

theorem sArgs_two {l : List Operand} {a b : SArg} (h : sArgs l = some [a, b]) : ∃ x y, l = [x, y] ∧ sArg x = some a ∧ sArg y = some b := by
  cases l with
  | nil => simp [sArgs] at h
  | cons x r =>
    simp only [sArgs] at h
    split at h
    · rename_i a' l' ha hl
      cases h
      obtain ⟨y, rfl, hy⟩ := sArgs_one hl
      exact ⟨x, y, rfl, ha, hy⟩
    · cases h

theorem arr_of {α : Type} {a : Array α} {l : List α} (h : a.toList = l) : a = l.toArray := by
  apply Array.ext'
  simpa using h

theorem run_ints {mx : Bool} : ∀ (l l' : List Value) (a r : Value), (∃ k n, a = .int k n) → LRel ρ l l' → ints mx a l = some r →
    (∃ k n, r = .int k n) ∧ (l'.foldlM (if mx then Builtin.max2 else Builtin.min2) a : Sem Value).run P w = .ok r w := by
  intro l
  induction l with
  | nil =>
    intro l' a r ha hl hr
    obtain rfl := hl.nil_inv
    simp only [ints, Option.some.injEq] at hr
    subst hr
    exact ⟨ha, by simp⟩
  | cons b l ih =>
    intro l' a r ha hl hr
    obtain ⟨b', l1, rfl, hb, hl1⟩ := hl.cons_inv
    obtain ⟨k, n, rfl⟩ := ha
    simp only [ints] at hr
    split at hr
    · rename_i c hc
      cases b with
      | int q y =>
        obtain rfl := int_inv hb
        simp only [int2, Option.some.injEq] at hc
        subst hc
        obtain ⟨g1, g2⟩ := ih l1 _ r ⟨_, _, rfl⟩ hl1 hr
        refine ⟨g1, ?_⟩
        rw [List.foldlM_cons, Sem.run_bind]
        cases mx with
        | true => simpa [Builtin.max2] using g2
        | false => simpa [Builtin.min2] using g2
      | _ => simp [int2] at hc
    · cases hr

theorem run_minmax {mx : Bool} {l l' : List Value} {r : Value} (hl : LRel ρ l l') (hr : minmax mx l = some r) :
    (∃ k n, r = .int k n) ∧ ∃ x rest, l' = x :: rest ∧ (rest.foldlM (if mx then Builtin.max2 else Builtin.min2) x : Sem Value).run P w = .ok r w := by
  unfold minmax at hr
  split at hr
  · obtain ⟨b', l1, rfl, hb, hl1⟩ := hl.cons_inv
    obtain rfl := int_inv hb
    obtain ⟨g1, g2⟩ := run_ints _ _ _ _ ⟨_, _, rfl⟩ hl1 hr
    exact ⟨g1, _, _, rfl, g2⟩
  · cases hr

theorem const_nil {x : Operand} (h : sArg x = some (.c .nilIface)) : ∃ z, x = .const z := by
  cases x with
  | tmp t => simp [sArg] at h
  | const v => exact ⟨v, rfl⟩
  | global g => simp [sArg] at h
  | func f => simp [sArg] at h

theorem run_builtin {ev : Operand → Value} {dst : Option Tmp} {b : Builtin} {xs : Array Operand} {ts : Array TypeId} {ty : TypeId} {pos : String} {after : Array Edge} {g : Option (Nat × Bool)} :
    execOp ev ⟨dst, .call ⟨.builtin b, xs, ts⟩, ty, pos, after, g⟩ = builtin b ts ty (xs.map fun | .const _ => true | _ => false) (xs.map ev) := by
  simp only [execOp, resolve, invoke]
  rfl

set_option maxHeartbeats 1000000 in
theorem simple_sim (hR : HRel K W ρ h w) {a : Act} {o : Oper} {op : SOp} {v : Value} {h' : Hp} (hs : sOp P o = some op) (hA : AR ρ e a.eval o.op.operands.toList) (hv : simple op e h = some (v, h')) :
    Yields P K W ρ h v h' (execOp a.eval o) w := by
  obtain ⟨dst, op0, ty, pos, after, guard⟩ := o
  cases op0 with
  | move x =>
    obtain ⟨y, hy, rfl⟩ := map_some hs
    simp only [simple] at hv
    split at hv
    · rename_i u hu
      cases hv
      exact yields_pure hR (by rfl) (hA x (by simp [Op.operands]) _ _ hy hu)
    · cases hv
  | assign x =>
    obtain ⟨y, hy, rfl⟩ := map_some hs
    simp only [simple] at hv
    split at hv
    · rename_i u hu
      cases hv
      exact yields_pure hR (by rfl) (hA x (by simp [Op.operands]) _ _ hy hu)
    · cases hv
  | pick c x y =>
    simp only [sOp] at hs
    split at hs
    · rename_i c' x' y' hc hx hy
      cases hs
      simp only [simple] at hv
      split at hv
      · rename_i t ht
        have hcb := bool_inv (hA c (by simp [Op.operands]) _ _ hc ht)
        split at hv
        · rename_i u hu
          cases hv
          refine yields_pure hR (v' := if t then a.eval x else a.eval y) ?_ ?_
          · show (do pure (Next.value (if ← asBool (a.eval c) then a.eval x else a.eval y)) : Sem Next).run P w = _
            rw [hcb]
            simp only [asBool, Sem.run_bind, Sem.run_pure, Result.andThen_ok]
          · cases t with
            | true => exact hA x (by simp [Op.operands]) _ _ hx hu
            | false => exact hA y (by simp [Op.operands]) _ _ hy hu
        · cases hv
      · cases hv
    · cases hs
  | alloc t =>
    obtain ⟨z, hz, rfl⟩ := map_some hs
    simp only [simple, Option.some.injEq, Prod.mk.injEq] at hv
    obtain ⟨rfl, rfl⟩ := hv
    exact sim_alloc hR hz
  | box t x =>
    obtain ⟨y, hy, rfl⟩ := map_some hs
    simp only [simple] at hv
    split at hv
    · rename_i u hu
      by_cases hc : u.cells.toList.all oneCell
      · rw [hc] at hv
        cases hv
        exact sim_box hR (hA x (by simp [Op.operands]) _ _ hy hu)
      · simp only [Bool.not_eq_true] at hc
        rw [hc] at hv
        cases hv
    · cases hv
  | build t ps =>
    simp only [sOp] at hs
    split at hs
    · rename_i z fs hz hf
      obtain ⟨qs, hq, rfl⟩ := map_some hs
      simp only [simple] at hv
      split at hv
      · rename_i l hl
        split at hv
        · rename_i c hc
          cases hv
          exact sim_build (e := e) (ev := a.eval) hR (by simpa [Op.operands] using hA) hz hf hq hl hc
        · cases hv
      · cases hv
    · cases hs
  | buildSlice t len ps =>
    simp only [sOp] at hs
    split at hs
    · rename_i el hu
      split at hs
      · rename_i z n hz hn
        by_cases hc : Nat.ble (len * n) 16777216 && Nat.beq z.cells.size n && Nat.ble 1 n
        · rw [hc, cond_true] at hs
          simp only [Bool.and_eq_true, beq_dec, decide_eq_true_eq, Nat.ble_eq] at hc
          obtain ⟨qs, hq, rfl⟩ := map_some hs
          simp only [simple] at hv
          split at hv
          · rename_i l hl
            split at hv
            · rename_i c hcc
              cases hv
              exact sim_mkArr (e := e) (ev := a.eval) hR (by simpa [Op.operands] using hA) hu hz hn hc.1.1 hc.1.2 hc.2 hq hl hcc
            · cases hv
          · cases hv
        · simp only [Bool.not_eq_true] at hc
          rw [hc] at hs
          cases hs
      · cases hs
    · cases hs
  | load t x =>
    simp only [sOp] at hs
    split at hs
    · rename_i g y hg hy
      cases hs
      simp only [simple] at hv
      split at hv
      · rename_i u hu
        split at hv
        · rename_i v0 hv0
          cases hv
          obtain ⟨v', h1, h2⟩ := sim_load (P := P) hR hg (hA x (by simp [Op.operands]) _ _ hy hu) hv0
          exact yields_pure hR (run_v h2) h1
        · cases hv
      · cases hv
    · cases hs
  | store t x y =>
    simp only [sOp] at hs
    split at hs
    · rename_i n x' y' hn hx hy
      cases hs
      simp only [simple] at hv
      split at hv
      · rename_i u hu
        split at hv
        · rename_i u2 hu2
          split at hv
          · rename_i h2 hh2
            cases hv
            obtain ⟨w', g1, g2, g3⟩ := sim_store (P := P) hR hn (hA x (by simp [Op.operands]) _ _ hx hu) (hA y (by simp [Op.operands]) _ _ hy hu2) hh2
            refine ⟨ρ, w', .inr ⟨?_, rfl⟩, Ext.refl _ _, g2, g3⟩
            show (do Instr.storeAt t (a.eval x) (a.eval y); pure Next.skip : Sem Next).run P w = _
            simp only [Sem.run_bind, g1, Result.andThen_ok, Sem.run_pure]
          · cases hv
        · cases hv
      · cases hv
    · cases hs
  | nilCheck x =>
    obtain ⟨y, hy, rfl⟩ := map_some hs
    simp only [simple] at hv
    split at hv
    · rename_i q hu
      cases hv
      have hr := hA x (by simp [Op.operands]) _ _ hy hu
      refine yields_pure hR (v' := a.eval x) ?_ hr
      generalize hx : a.eval x = x0 at hr
      simp only [execOp, hx]
      cases hr
      rfl
    · rename_i t u hu
      cases hv
      have hr := hA x (by simp [Op.operands]) _ _ hy hu
      refine yields_pure hR (v' := a.eval x) ?_ hr
      generalize hx : a.eval x = x0 at hr
      simp only [execOp, hx]
      cases hr
      rfl
    · rename_i f c1 c2 hu
      cases hv
      have hr := hA x (by simp [Op.operands]) _ _ hy hu
      refine yields_pure hR (v' := a.eval x) ?_ hr
      generalize hx : a.eval x = x0 at hr
      simp only [execOp, hx]
      cases hr
      rfl
    · cases hv
  | binOp bop t x y yt =>
    simp only [sOp] at hs
    split at hs
    · rename_i x' y' hx hy
      have fin : ∀ cls, op = .bin bop cls x' y' → (isCmp bop = true → EqOk P t cls) → (cls = .iface → isCmp bop = true → (∃ z, x = .const z) ∨ ∃ z, y = .const z) →
          Yields P K W ρ h v h' (execOp a.eval ⟨dst, .binOp bop t x y yt, ty, pos, after, guard⟩) w := by
        intro cls e1 e2 e3
        subst e1
        simp only [simple] at hv
        split at hv
        · rename_i u hu
          split at hv
          · rename_i u2 hu2
            split at hv
            · rename_i r hr
              cases hv
              obtain ⟨r', g1, g2⟩ := sim_bin (P := P) (w := w) (ev := a.eval) e2 e3 hr (hA x (by simp [Op.operands]) _ _ hx hu) (hA y (by simp [Op.operands]) _ _ hy hu2)
              exact yields_pure hR (run_v g2) g1
            · cases hv
          · cases hv
        · cases hv
      cases hcmp : isCmp bop with
      | false =>
        rw [hcmp, cond_false] at hs
        cases hs
        exact fin _ rfl (fun h => by rw [hcmp] at h; cases h) (fun _ h => by rw [hcmp] at h; cases h)
      | true =>
        rw [hcmp, cond_true] at hs
        split at hs
        · rename_i heq
          split at hs
          · cases hs
            exact fin _ rfl (fun _ => heq) (fun _ _ => .inl (const_nil hx))
          · cases hs
            exact fin _ rfl (fun _ => heq) (fun _ _ => .inr (const_nil hy))
          · cases hs
        · rename_i k hni heq
          cases hs
          refine fin k rfl (fun _ => ?_) (fun h => absurd h hni)
          have := eqOf_spec heq
          cases k <;> first | exact heq | exact this.elim
        · rename_i heq
          split at hs
          · rename_i ks hks
            cases hgt : P.eqGuardType P.depth t with
            | true => rw [hgt] at hs; cases hs
            | false =>
              rw [hgt] at hs
              cases hs
              exact fin _ rfl (fun _ => ⟨hks, hgt⟩) (fun h => by cases h)
          · cases hs
    · cases hs
  | unOp uop t x =>
    obtain ⟨y, hy, rfl⟩ := map_some hs
    simp only [simple] at hv
    split at hv
    · rename_i u hu
      split at hv
      · rename_i r hr
        cases hv
        obtain ⟨r', g1, g2⟩ := sim_un (P := P) (w := w) hr (hA x (by simp [Op.operands]) _ _ hy hu)
        exact yields_pure hR (run_v g2) g1
      · cases hv
    · cases hv
  | makeInterface t x =>
    simp only [sOp] at hs
    split at hs
    · cases hs
    · rename_i d y hni hd hy
      cases hs
      simp only [simple] at hv
      split at hv
      · rename_i u hu
        cases hv
        refine yields_pure hR (run_v (v := .iface t (a.eval x)) ?_) (.iface _ _ _ (hA x (by simp [Op.operands]) _ _ hy hu))
        simp only [Instr.makeInterface, Sem.run_bind, run_underlying' hd, Result.andThen_ok]
        cases d <;> first | rfl | (rename_i ms; exact absurd hd (hni ms))
      · cases hv
    · cases hs
  | makeFunc fn first cap =>
    cases fn with
    | func f =>
      simp only [sOp] at hs
      split at hs
      · rename_i xs ys hx hy
        cases hs
        simp only [simple] at hv
        split at hv
        · rename_i l1 h1
          split at hv
          · rename_i l2 h2
            cases hv
            have r1 := args_rel (ev := a.eval) _ _ _ (fun x hx' => hA x (by simp [Op.operands] at hx' ⊢; exact .inl hx')) hx h1
            have r2 := args_rel (ev := a.eval) _ _ _ (fun x hx' => hA x (by simp [Op.operands] at hx' ⊢; exact .inr hx')) hy h2
            refine yields_pure hR (v' := .func (.func f) (first.map a.eval) (cap.map a.eval)) ?_ ?_
            · simp only [execOp, Instr.makeFunc, Sem.run_bind, Sem.run_pure, Result.andThen_ok]
            · have e1 : first.map a.eval = (first.toList.map a.eval).toArray := by apply Array.ext'; simp
              have e2 : cap.map a.eval = (cap.toList.map a.eval).toArray := by apply Array.ext'; simp
              rw [e1, e2]
              exact VRel.mkFn f r1 r2
          · cases hv
        · cases hv
      · cases hs
    | _ => cases hs
  | slice t x lo hi mx =>
    simp only [sOp] at hs
    split at hs
    · rename_i x' lo' hi' mx' hx hlo hhi hmx
      split at hs
      · rename_i el hu
        have fin : ∀ n, sizeO P el = some n → op = .slice n x' lo' hi' mx' → (mx' ≠ none → hi' ≠ none) → Yields P K W ρ h v h' (execOp a.eval ⟨dst, .slice t x lo hi mx, ty, pos, after, guard⟩) w := by
          intro n hn e1 e2
          subst e1
          simp only [simple] at hv
          split at hv
          · rename_i u hu'
            split at hv
            · rename_i vlo hvlo
              split at hv
              · rename_i vhi hvhi
                split at hv
                · rename_i vmx hvmx
                  split at hv
                  · rename_i r hr
                    cases hv
                    have conv : ∀ {x : Option Operand} {y : Option SArg} {v : Option Value}, AR ρ e a.eval x.toList → sArgO x = some y → argO e y = some v → (v = none ∧ x.map a.eval = none) ∨ ∃ u u', v = some u ∧ x.map a.eval = some u' ∧ VRel ρ u u' := by
                      intro x y v h1 h2 h3
                      rcases argO_rel h1 h2 h3 with ⟨rfl, rfl, _⟩ | ⟨x0, v0, rfl, rfl, h4⟩
                      · exact .inl ⟨rfl, rfl⟩
                      · exact .inr ⟨v0, a.eval x0, rfl, rfl, h4⟩
                    have nn : vmx ≠ none → vhi ≠ none := by
                      intro h1 h2
                      subst h2
                      cases hi' with
                      | none =>
                        cases mx' with
                        | none => simp only [argO, Option.some.injEq] at hvmx; exact h1 hvmx.symm
                        | some m => exact e2 (by simp) rfl
                      | some q =>
                        simp only [argO] at hvhi
                        split at hvhi <;> cases hvhi
                    obtain ⟨r', g1, g2⟩ := sim_slice (P := P) hR (hA x (by simp [Op.operands]) _ _ hx hu') hu hn
                      (conv (fun y hy => hA y (by simp [Op.operands] at hy ⊢; exact .inr (.inl hy))) hlo hvlo) (conv (fun y hy => hA y (by simp [Op.operands] at hy ⊢; exact .inr (.inr (.inl hy)))) hhi hvhi) (conv (fun y hy => hA y (by simp [Op.operands] at hy ⊢; exact .inr (.inr (.inr hy)))) hmx hvmx) nn hr
                    exact yields_pure hR (run_v g2) g1
                  · cases hv
                · cases hv
              · cases hv
            · cases hv
          · cases hv
        split at hs
        · rename_i n m hh hn
          cases hs
          exact fin n hn rfl (fun _ h => by cases h)
        · rename_i n hn
          cases hs
          exact fin n hn rfl (fun h => absurd rfl h)
        · cases hs
      · cases hs
    · cases hs
  | fieldAddr s x f =>
    simp only [sOp] at hs
    split at hs
    · rename_i fs y hf hy
      split at hs
      · rename_i fd hfd
        split at hs
        · rename_i n hn
          cases hs
          simp only [simple] at hv
          split at hv
          · rename_i b off hu
            cases hv
            obtain ⟨p, hp, hx⟩ := ptr_inv (hA x (by simp [Op.operands]) _ _ hy hu)
            refine yields_pure hR (run_v (v := .pointer (some ⟨p.blk, p.off + (off + fd.offset), none⟩)) ?_) (.ptr b (off + fd.offset) p hp)
            simp only [Instr.fieldAt, Sem.run_bind, run_underlying' (fieldsOf_spec hf), Result.andThen_ok, hfd, hx, Instr.sureAddr, Sem.run_pure, fieldPlace, run_sizeOf' hn, add_none, Nat.add_assoc]
            rfl
          · cases hv
        · cases hs
      · cases hs
    · cases hs
  | field s x f =>
    simp only [sOp] at hs
    split at hs
    · rename_i fs y hf hy
      split at hs
      · rename_i fd hfd
        split at hs
        · rename_i g hg
          cases hs
          simp only [simple] at hv
          split at hv
          · rename_i cs hu
            have hr := hA x (by simp [Op.operands]) _ _ hy hu
            generalize hx : a.eval x = x0 at hr
            cases hr with
            | agg _ cs' hl hp =>
              have hlr : LRel ρ cs.toList cs'.toList := ⟨hl, hp⟩
              split at hv
              · split at hv
                · rename_i u hu2
                  cases hv
                  obtain ⟨u', g1, g2⟩ := hlr.get hu2
                  refine yields_pure hR (run_v (v := u') ?_) g2
                  simp only [Instr.field, Sem.run_bind, run_underlying' (fieldsOf_spec hf), Result.andThen_ok, hfd, hx, asAgg, Sem.run_pure, part, run_isAgg_none hg, Bool.false_eq_true, if_false]
                  rw [Array.getElem?_toList] at g1
                  rw [g1]
                  rfl
                · cases hv
              · rename_i n
                by_cases hc : Nat.ble (fd.offset + n) cs.toList.length
                · rw [hc] at hv
                  cases hv
                  obtain ⟨k1, k2⟩ := run_isAgg_some (w := w) hg
                  refine yields_pure hR (run_v (v := .agg (cs'.extract fd.offset (fd.offset + n))) ?_) ?_
                  · simp only [Instr.field, Sem.run_bind, run_underlying' (fieldsOf_spec hf), Result.andThen_ok, hfd, hx, asAgg, Sem.run_pure, part, k1, if_true, run_sizeOf' k2]
                  · have := VRel.mkAgg ((hlr.drop fd.offset).take n)
                    have e1 : cs'.extract fd.offset (fd.offset + n) = ((cs'.toList.drop fd.offset).take n).toArray := by
                      apply Array.ext'
                      simp [Nat.add_sub_cancel_left]
                    rw [e1]
                    exact this
                · simp only [Bool.not_eq_true] at hc
                  rw [hc] at hv
                  cases hv
          · cases hv
        · cases hs
      · cases hs
    · cases hs
  | indexAddr t x i =>
    simp only [sOp] at hs
    split at hs
    · rename_i el x' i' hu hx hi
      obtain ⟨n, hn, rfl⟩ := map_some hs
      simp only [simple] at hv
      split at hv
      · rename_i b off len cf hu1
        split at hv
        · rename_i k j hu2
          by_cases hc : Nat.blt j len
          · rw [hc] at hv
            cases hv
            simp only [Nat.blt_eq] at hc
            obtain ⟨p, a', cap, hp, hok, hxe⟩ := slice_inv (hA x (by simp [Op.operands]) _ _ hx hu1)
            have hie := int_inv (hA i (by simp [Op.operands]) _ _ hi hu2)
            have hpl : a' = ⟨p.blk, p.off + off, none⟩ := by
              rcases hok.place with h | h | h
              · exact h
              · have := hok.exact 0 h
                have := hok.lc
                omega
              · omega
            refine yields_pure hR (run_v (v := .pointer (some ⟨p.blk, p.off + (off + j * n), none⟩)) ?_) (.ptr b (off + j * n) p hp)
            have h1 : (0 : Int) ≤ Int.ofNat j ∧ Int.ofNat j < (len : Int) := ⟨Int.natCast_nonneg j, Int.ofNat_lt.2 hc⟩
            simp only [Instr.indexAt, hie, asIntOf, Sem.run_bind, Sem.run_pure, Result.andThen_ok, run_underlying' hu, hxe, h1, and_self, if_true, run_sizeOf' hn, hpl, add_none, Nat.add_assoc]
            rfl
          · simp only [Bool.not_eq_true] at hc
            rw [hc] at hv
            cases hv
        · cases hv
      · cases hv
    · cases hs
  | typeAssert x xt t ok =>
    simp only [sOp] at hs
    split at hs
    · cases hs
    · rename_i y d hni hy hd
      split at hs
      · rename_i z hz
        cases hs
        obtain ⟨_, _, _, hzc, _, _⟩ := zeroO_spec hz
        simp only [simple] at hv
        split at hv
        · rename_i u q hu
          have hr := hA x (by simp [Op.operands]) _ _ hy hu
          generalize hx : a.eval x = x0 at hr
          cases hr with
          | iface _ _ q' hq =>
            by_cases hc : Nat.beq u t
            · rw [hc] at hv
              cases hv
              simp only [beq_dec, decide_eq_true_eq] at hc
              subst hc
              cases ok with
              | true =>
                refine yields_pure hR (run_v (v := .tuple #[q', .bool true]) ?_) (VRel.mkTuple (LRel.cons hq (LRel.cons (.bool _) .nil)))
                simp only [Instr.typeAssert, hx, Sem.run_bind, run_underlying' hd, Result.andThen_ok]
                cases d <;> first | (simp; done) | (rename_i ms; exact absurd hd (hni _ ms hy))
              | false =>
                refine yields_pure hR (run_v (v := q') ?_) hq
                simp only [Instr.typeAssert, hx, Sem.run_bind, run_underlying' hd, Result.andThen_ok]
                cases d <;> first | (simp; done) | (rename_i ms; exact absurd hd (hni _ ms hy))
            · simp only [Bool.not_eq_true] at hc
              rw [hc] at hv
              simp only [beq_dec, decide_eq_false_iff_not] at hc
              cases ok with
              | false => cases hv
              | true =>
                cases hv
                refine yields_pure hR (run_v (v := .tuple #[z, .bool false]) ?_) (VRel.mkTuple (LRel.cons (closed_self 4 _ hzc) (LRel.cons (.bool _) .nil)))
                simp only [Instr.typeAssert, hx, Sem.run_bind, run_underlying' hd, Result.andThen_ok]
                cases d <;> first | (simp [hc, run_zeroValue' hz]; done) | (rename_i ms; exact absurd hd (hni _ ms hy))
        · rename_i hu
          have hr := hA x (by simp [Op.operands]) _ _ hy hu
          generalize hx : a.eval x = x0 at hr
          cases hr
          cases ok with
          | false => cases hv
          | true =>
            cases hv
            refine yields_pure hR (run_v (v := .tuple #[z, .bool false]) ?_) (VRel.mkTuple (LRel.cons (closed_self 4 _ hzc) (LRel.cons (.bool _) .nil)))
            simp only [Instr.typeAssert, hx, Sem.run_bind, run_underlying' hd, Result.andThen_ok]
            cases d <;> first | (simp [run_zeroValue' hz]; done) | (rename_i ms; exact absurd hd (hni _ ms hy))
        · cases hv
      · cases hs
    · cases hs
  | extract x i =>
    obtain ⟨y, hy, rfl⟩ := map_some hs
    simp only [simple] at hv
    split at hv
    · rename_i vs hu
      have hr := hA x (by simp [Op.operands]) _ _ hy hu
      generalize hx : a.eval x = x0 at hr
      cases hr with
      | tuple _ vs' hl hp =>
        split at hv
        · rename_i u hu2
          cases hv
          obtain ⟨u', g1, g2⟩ := LRel.get ⟨hl, hp⟩ hu2
          refine yields_pure hR (run_v (v := u') ?_) g2
          rw [Array.getElem?_toList] at g1
          simp only [Instr.extract, hx, g1, Sem.run_pure]
        · cases hv
    · cases hv
  | call c =>
    obtain ⟨callee, xs, ts⟩ := c
    simp only [sOp, sCall] at hs
    cases callee with
    | builtin b =>
      simp only at hs
      rw [run_builtin]
      split at hs
      · -- len
        rename_i y t hx ht
        split at hs
        · rename_i el hu
          cases hs
          obtain ⟨x, hx0, hxs⟩ := sArgs_one hx
          obtain rfl := arr_of hx0
          obtain rfl := arr_of ht
          simp only [simple] at hv
          split at hv
          · rename_i bs n cf hu1
            cases hv
            have hr := hA x (by simp [Op.operands, Call.operands]) _ _ hxs hu1
            refine yields_pure hR (run_v (v := goInt n) ?_) (.int _ _)
            generalize hx1 : a.eval x = x0 at hr
            cases hr <;> simp [Builtin.len_, hx1, run_underlying' hu]
          · cases hv
        · cases hs
      · -- min
        rename_i l hx
        cases hs
        simp only [simple] at hv
        split at hv
        · rename_i l2 hl2
          split at hv
          · rename_i r hr
            cases hv
            have hrel := args_rel (ev := a.eval) _ _ _ (fun x hx' => hA x (by simp [Op.operands, Call.operands] at hx' ⊢; exact hx')) hx hl2
            obtain ⟨⟨k, n, rfl⟩, x, rest, heq, g2⟩ := run_minmax (P := P) (w := w) hrel hr
            refine yields_pure hR (run_v (v := .int k n) ?_) (.int _ _)
            simp only [Builtin.min_, Array.toList_map, heq]
            exact g2
          · cases hv
        · cases hv
      · -- max
        rename_i l hx
        cases hs
        simp only [simple] at hv
        split at hv
        · rename_i l2 hl2
          split at hv
          · rename_i r hr
            cases hv
            have hrel := args_rel (ev := a.eval) _ _ _ (fun x hx' => hA x (by simp [Op.operands, Call.operands] at hx' ⊢; exact hx')) hx hl2
            obtain ⟨⟨k, n, rfl⟩, x, rest, heq, g2⟩ := run_minmax (P := P) (w := w) hrel hr
            refine yields_pure hR (run_v (v := .int k n) ?_) (.int _ _)
            simp only [Builtin.max_, Array.toList_map, heq]
            exact g2
          · cases hv
        · cases hv
      · -- append
        rename_i sx y t u hx ht
        split at hs
        · rename_i el e2 hu1 hu2
          split at hs
          · rename_i i z hi hz
            by_cases hc : Nat.beq z.cells.size i.size && Nat.ble 1 i.size
            · rw [hc] at hs
              cases hs
              simp only [Bool.and_eq_true, beq_dec, decide_eq_true_eq, Nat.ble_eq] at hc
              obtain ⟨x1, x2, hx0, hx1, hx2⟩ := sArgs_two hx
              obtain rfl := arr_of hx0
              obtain rfl := arr_of ht
              simp only [simple] at hv
              split at hv
              · rename_i s0 hs0
                split at hv
                · rename_i y0 hy0
                  rw [show Array.map a.eval [x1, x2].toArray = #[a.eval x1, a.eval x2] from by simp]
                  exact sim_append (P := P) hR hu1 ⟨_, hu2⟩ hi hz hc.1 hc.2 (hA x1 (by simp [Op.operands, Call.operands]) _ _ hx1 hs0) (hA x2 (by simp [Op.operands, Call.operands]) _ _ hx2 hy0) hv
                · cases hv
              · cases hv
            · simp only [Bool.not_eq_true] at hc
              rw [hc] at hs
              cases hs
          · cases hs
        · cases hs
      · -- clear
        rename_i y t hx ht
        split at hs
        · rename_i el hu
          split at hs
          · rename_i z n hz hn
            by_cases hc : Nat.beq z.cells.size n && Nat.ble 1 n
            · rw [hc] at hs
              cases hs
              simp only [Bool.and_eq_true, beq_dec, decide_eq_true_eq, Nat.ble_eq] at hc
              obtain ⟨x, hx0, hxs⟩ := sArgs_one hx
              obtain rfl := arr_of hx0
              obtain rfl := arr_of ht
              simp only [simple] at hv
              split at hv
              · rename_i m cf hu1
                cases hv
                have hr := hA x (by simp [Op.operands, Call.operands]) _ _ hxs hu1
                refine yields_pure hR (run_v (v := .tuple #[]) ?_) (VRel.mkTuple .nil)
                generalize hx1 : a.eval x = x0 at hr
                cases hr
                simp [Builtin.clear_, hx1, run_underlying' hu]
              · rename_i b off m cf hu1
                have hr := hA x (by simp [Op.operands, Call.operands]) _ _ hxs hu1
                by_cases hm : Nat.beq m 0
                · rw [hm] at hv
                  cases hv
                  simp only [beq_dec, decide_eq_true_eq] at hm
                  subst hm
                  refine yields_pure hR (run_v (v := .tuple #[]) ?_) (VRel.mkTuple .nil)
                  generalize hx1 : a.eval x = x0 at hr
                  cases hr
                  simp [Builtin.clear_, hx1, run_underlying' hu]
                · simp only [Bool.not_eq_true] at hm
                  rw [hm, cond_false] at hv
                  simp only [beq_dec, decide_eq_false_iff_not] at hm
                  by_cases hzl : Nat.beq z.cells.toList.length n
                  · rw [hzl, cond_true] at hv
                    split at hv
                    · rename_i h2 hw
                      cases hv
                      obtain ⟨w', g1, g2, g3⟩ := sim_clear (P := P) (ty := ty) hR hu hz hc.1 hc.2 rfl hr hm hw
                      rw [show Array.map a.eval [x].toArray = #[a.eval x] from by simp]
                      exact ⟨ρ, w', .inl ⟨.tuple #[], run_v g1, VRel.mkTuple .nil⟩, Ext.refl _ _, g2, g3⟩
                    · cases hv
                  · simp only [Bool.not_eq_true] at hzl
                    rw [hzl] at hv
                    cases hv
              · cases hv
            · simp only [Bool.not_eq_true] at hc
              rw [hc] at hs
              cases hs
          · cases hs
        · cases hs
      · cases hs
    | value f =>
      simp only at hs
      split at hs
      · cases hs; simp [simple] at hv
      · cases hs
    | invoke r m =>
      simp only at hs
      split at hs
      · cases hs; simp [simple] at hv
      · cases hs
  | _ => cases hs
end
end Go.Eng
