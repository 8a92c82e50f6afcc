/- The simple operations, one by one: operators, conversions. -/
import Derived.Test.YtdafdampodbobaaEngF
namespace Go.Eng
set_option linter.unusedSimpArgs false
set_option linter.unusedVariables false
section
variable {P : Program} {K : Nat → Prop} {W w : World} {ρ : Rho} {h : Hp} {e : Env} {ev : Operand → Value}

theorem pureV_spec {s : Sem Value} {v : Value} (h : pureV s = some v) : s = .pure v ∧ isClosed v = true := by
  unfold pureV at h
  split at h
  · rename_i u
    cases hc : isClosed u with
    | true => rw [hc] at h; cases h; exact ⟨rfl, hc⟩
    | false => rw [hc] at h; cases h
  · cases h

theorem int_inv {k : IntKind} {n : Int} {v' : Value} (hv : VRel ρ (.int k n) v') : v' = .int k n := by cases hv; rfl
theorem bool_inv {b : Bool} {v' : Value} (hv : VRel ρ (.bool b) v') : v' = .bool b := by cases hv; rfl
theorem str_inv {s : ByteArray} {v' : Value} (hv : VRel ρ (.string s) v') : v' = .string s := by cases hv; rfl

theorem binOp_type (op : BinOp) (t : TypeId) (k k' : IntKind) (a b : Int) : binOp op t (.int k a) (.int k' b) = binOp op 0 (.int k a) (.int k' b) := by
  cases op <;> rfl

theorem bin_plain {op : BinOp} {t : TypeId} {cls : EqC} {u v x' y' r : Value} (hop : isCmp op = false) (hb : sBin op cls u v = some r) (hu : VRel ρ u x') (hv : VRel ρ v y') :
    ∃ r', VRel ρ r r' ∧ (binOp op t x' y').run P w = .ok r' w := by
  have key : sArith op u v = some r := by
    cases op <;> first | (simp [isCmp] at hop; done) | exact hb
  clear hb
  unfold sArith at key
  split at key
  · rename_i k a k' b
    obtain rfl := int_inv hu
    obtain rfl := int_inv hv
    obtain ⟨h1, h2⟩ := pureV_spec key
    exact ⟨r, closed_self 4 _ h2, by rw [binOp_type, h1]; rfl⟩
  · cases key

theorem eq_prim {t : TypeId} {u v x' y' : Value} {b : Bool} (hb : primEq u v = some b) (hu : VRel ρ u x') (hv : VRel ρ v y') :
    (binOp .eql t x' y').run P w = .ok (.bool b) w ∧ (binOp .neq t x' y').run P w = .ok (.bool (!b)) w := by
  unfold primEq at hb
  split at hb
  · rename_i k a k' c
    obtain rfl := int_inv hu
    obtain rfl := int_inv hv
    by_cases hk : k = k'
    · subst hk
      simp only [decide_true, cond_true, Option.some.injEq] at hb
      subst hb
      constructor <;> simp [binOp, Op.intCmp, bne]
    · simp [hk] at hb
  · rename_i a c
    obtain rfl := str_inv hu
    obtain rfl := str_inv hv
    cases hb
    constructor <;> simp only [binOp, Op.stringOp, ByteArray.toList_eq, Sem.run_pure]
  · cases hb

theorem eqOf_spec {t : TypeId} {c : EqC} (h : eqOf P t = some c) : match c with
    | .prim => True
    | .bl => P.underlying t = some .bool
    | .ptr => ∃ el, P.underlying t = some (.pointer el)
    | .slice => ∃ el, P.underlying t = some (.slice el)
    | .iface => ∃ ms, P.underlying t = some (.interface ms)
    | .fnc => ∃ a b d, P.underlying t = some (.func a b d)
    | .map => ∃ a b, P.underlying t = some (.map a b)
    | .flat _ => False := by
  unfold eqOf at h
  split at h
  · rename_i hu; cases h; exact hu
  · cases h; trivial
  · cases h; trivial
  · rename_i el hu
    split at h
    · rename_i i hi
      cases hc : Nat.beq i.size 0 with
      | true => rw [hc] at h; cases h
      | false => rw [hc] at h; cases h; exact ⟨_, hu⟩
    · cases h
  · rename_i hu; cases h; exact ⟨_, hu⟩
  · rename_i hu; cases h; exact ⟨_, hu⟩
  · rename_i hu; cases h; exact ⟨_, _, _, hu⟩
  · rename_i hu; cases h; exact ⟨_, _, hu⟩
  · cases h
  · cases h

theorem depth_up {t : TypeId} {x y : Value} {b : Bool} (hd : ∀ d, (Op.equalIn (d + 1) t x y).run P w = .ok b w) : (Op.equal t x y).run P w = .ok b w := hd 9999
theorem depth_up2 {t : TypeId} {x y : Value} {b : Bool} (hd : ∀ d, (Op.equalIn (d + 1 + 1) t x y).run P w = .ok b w) : (Op.equal t x y).run P w = .ok b w := hd 9998

/-- What is asked of a type for a class of comparison. -/
def EqOk (P : Program) (t : TypeId) : EqC → Prop
  | .flat ks => flatP P t = some ks ∧ P.eqGuardType P.depth t = false
  | c => eqOf P t = some c

theorem eq_run {t : TypeId} {cls : EqC} {u v x' y' : Value} {b : Bool} (hok : EqOk P t cls) (hb : eqV cls u v = some b) (hu : VRel ρ u x') (hv : VRel ρ v y') :
    (binOp .eql t x' y').run P w = .ok (.bool b) w ∧ (binOp .neq t x' y').run P w = .ok (.bool (!b)) w := by
  cases cls with
  | prim => exact eq_prim hb hu hv
  | bl =>
    have hs := eqOf_spec hok
    simp only at hs
    simp only [eqV] at hb
    split at hb
    · obtain rfl := bool_inv hu
      obtain rfl := bool_inv hv
      cases hb
      exact run_equal (depth_up (fun d => by simp only [Op.equalIn, Sem.run_bind, run_underlying' hs, Result.andThen_ok, Sem.run_pure])) (by simp) (by simp) (by simp) (by simp)
    · cases hb
  | ptr =>
    obtain ⟨el, hs⟩ := eqOf_spec hok
    simp only [eqV] at hb
    split at hb <;> cases hb <;> cases hu <;> cases hv <;> exact run_equal (depth_up (fun d => by rw [Op.equalIn, Sem.run_bind, run_underlying' hs]; rfl)) (by simp) (by simp) (by simp) (by simp)
  | slice =>
    obtain ⟨el, hs⟩ := eqOf_spec hok
    simp only [eqV] at hb
    split at hb <;> cases hb <;> cases hu <;> cases hv <;> exact run_equal (depth_up (fun d => by rw [Op.equalIn, Sem.run_bind, run_underlying' hs]; rfl)) (by simp) (by simp) (by simp) (by simp)
  | iface =>
    obtain ⟨el, hs⟩ := eqOf_spec hok
    simp only [eqV] at hb
    split at hb <;> cases hb <;> cases hu <;> cases hv <;> exact run_equal (depth_up (fun d => by rw [Op.equalIn, Sem.run_bind, run_underlying' hs]; rfl)) (by simp) (by simp) (by simp) (by simp)
  | fnc =>
    obtain ⟨a, c, d, hs⟩ := eqOf_spec hok
    simp only [eqV] at hb
    split at hb <;> cases hb <;> cases hu <;> cases hv <;> exact run_equal (depth_up (fun d => by rw [Op.equalIn, Sem.run_bind, run_underlying' hs]; rfl)) (by simp) (by simp) (by simp) (by simp)
  | map =>
    obtain ⟨a, c, hs⟩ := eqOf_spec hok
    simp only [eqV] at hb
    split at hb <;> cases hb <;> cases hu <;> cases hv <;> exact run_equal (depth_up (fun d => by rw [Op.equalIn, Sem.run_bind, run_underlying' hs]; rfl)) (by simp) (by simp) (by simp) (by simp)
  | flat ks =>
    obtain ⟨h1, _⟩ := hok
    simp only [eqV] at hb
    split at hb
    · rename_i a c
      by_cases hc : Nat.beq a.toList.length ks.length && Nat.beq c.toList.length ks.length
      · rw [hc, cond_true] at hb
        cases hu with
        | agg _ a' ha hav =>
          cases hv with
          | agg _ c' hc' hcv =>
            unfold flatP at h1
            split at h1
            · rename_i fs hfs
              cases hst : P.stoodInHeld t with
              | true => rw [hst] at h1; cases h1
              | false =>
                rw [hst, cond_false] at h1
                refine run_equal (depth_up2 (fun d => ?_)) (by simp) (by simp) (by simp) (by simp)
                have hfl := flat_equal (P := P) (w := w) (d := d) (ax := a') (ay := c') fs.toList 0 ks _ _ _ _ b h1 (List.drop_zero ..) (List.drop_zero ..) ⟨ha, hav⟩ ⟨hc', hcv⟩ hb
                rw [Array.forIn_toList] at hfl
                rw [Op.equalIn]
                simp only [Sem.run_bind, run_underlying' hfs, Result.andThen_ok, run_program, hst, Bool.false_eq_true, if_false]
                rw [hfl]
                cases b <;> simp
            · cases h1
      · simp only [Bool.not_eq_true] at hc
        rw [hc] at hb
        cases hb
    · cases hb

theorem sim_bin {op : BinOp} {t : TypeId} {cls : EqC} {x y : Operand} {u v r : Value} (hok : isCmp op = true → EqOk P t cls) (hif : cls = .iface → isCmp op = true → (∃ z, x = .const z) ∨ ∃ z, y = .const z)
    (hb : sBin op cls u v = some r) (hu : VRel ρ u (ev x)) (hv : VRel ρ v (ev y)) :
    ∃ r', VRel ρ r r' ∧ (do eqGuard op t x y (ev x) (ev y); binOp op t (ev x) (ev y) : Sem Value).run P w = .ok r' w := by
  cases hop : isCmp op with
  | false =>
    obtain ⟨r', h1, h2⟩ := bin_plain (P := P) (w := w) (t := t) hop hb hu hv
    exact ⟨r', h1, by simp only [Sem.run_bind, guard_noncmp hop, Result.andThen_ok, h2]⟩
  | true =>
    have hok := hok hop
    have hb' : ∃ b, eqV cls u v = some b ∧ r = .bool (if op = .eql then b else !b) ∧ (op = .eql ∨ op = .neq) := by
      cases op <;> first | (simp [isCmp] at hop; done) | skip
      · simp only [sBin] at hb
        split at hb
        · rename_i b hbb; cases hb; exact ⟨b, hbb, by simp, .inl rfl⟩
        · cases hb
      · simp only [sBin] at hb
        split at hb
        · rename_i b hbb; cases hb; exact ⟨b, hbb, by simp, .inr rfl⟩
        · cases hb
    obtain ⟨b, hbb, rfl, hops⟩ := hb'
    obtain ⟨h1, h2⟩ := eq_run (P := P) (w := w) hok hbb hu hv
    have hg : (eqGuard op t x y (ev x) (ev y)).run P w = .ok () w := by
      by_cases hn : ev x = .nilIface ∧ ev y = .nilIface
      · have hcl : cls = .iface := by
          rw [hn.1] at hu
          rw [hn.2] at hv
          cases hu
          cases hv
          cases cls <;> simp [eqV, primEq] at hbb
          rfl
        rcases hif hcl hop with ⟨z, rfl⟩ | ⟨z, rfl⟩
        · rw [hn.1, hn.2]
          rcases hops with rfl | rfl <;> simp [eqGuard]
        · rw [hn.1, hn.2]
          rcases hops with rfl | rfl <;> simp [eqGuard]
      · by_cases ha : ∃ c d, ev x = .agg c ∧ ev y = .agg d
        · obtain ⟨c, d, e1, e2⟩ := ha
          rw [e1] at hu
          rw [e2] at hv
          have hgt : P.eqGuardType P.depth t = false := by
            cases hu
            cases hv
            cases cls <;> simp [eqV, primEq] at hbb
            exact hok.2
          rw [e1, e2]
          rcases hops with rfl | rfl <;> simp [eqGuard, hgt]
        · exact guard_plain hn ha
    refine ⟨_, .bool _, ?_⟩
    simp only [Sem.run_bind, hg, Result.andThen_ok]
    rcases hops with rfl | rfl
    · simpa using h1
    · simpa using h2

theorem sim_un {op : UnOp} {u v' r : Value} (hb : sUn op u = some r) (hu : VRel ρ u v') : ∃ r', VRel ρ r r' ∧ (Op.unary op v').run P w = .ok r' w := by
  unfold sUn at hb
  split at hb
  · obtain rfl := int_inv hu
    obtain ⟨h1, h2⟩ := pureV_spec hb
    exact ⟨r, closed_self 4 _ h2, by rw [h1]; rfl⟩
  · obtain rfl := bool_inv hu
    obtain ⟨h1, h2⟩ := pureV_spec hb
    exact ⟨r, closed_self 4 _ h2, by rw [h1]; rfl⟩
  · cases hb
end
end Go.Eng
