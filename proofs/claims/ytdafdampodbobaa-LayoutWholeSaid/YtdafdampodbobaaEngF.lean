/- The simple operations, one by one: memory, numbers, comparisons. -/
import Derived.Test.YtdafdampodbobaaEngE
namespace Go.Eng
set_option linter.unusedSimpArgs false
set_option linter.unusedVariables false
section
variable {P : Program} {K : Nat → Prop} {W w : World} {ρ : Rho} {h : Hp} {e : Env} {ev : Operand → Value}

theorem ptr_inv {b o : Nat} {v' : Value} (hv : VRel ρ (.pointer (some ⟨b, o, none⟩)) v') : ∃ p, ρ b = some p ∧ v' = .pointer (some ⟨p.blk, p.off + o, none⟩) := by
  cases hv with
  | ptr b o p hp => exact ⟨p, hp, rfl⟩

theorem slice_inv {b o len cf : Nat} {v' : Value} (hv : VRel ρ (.slice (some ⟨b, o, none⟩) len cf) v') : ∃ p a' cap, ρ b = some p ∧ SliceOk p o len cf a' cap ∧ v' = .slice (some a') len cap := by
  cases hv with
  | slice b o len cf p a' cap hp hs => exact ⟨p, a', cap, hp, hs, rfl⟩

theorem sim_load (hR : HRel K W ρ h w) {t : TypeId} {g : Option Nat} {a a' v : Value} (hg : aggOf P t = some g) (ha : VRel ρ a a') (hv : sLoad h g a = some v) :
    ∃ v', VRel ρ v v' ∧ (Instr.loadAt t a').run P w = .ok v' w := by
  unfold sLoad at hv
  split at hv
  · rename_i b o
    obtain ⟨p, hp, rfl⟩ := ptr_inv ha
    split at hv
    · obtain ⟨v', h1, h2⟩ := rd1_rel (P := P) hR hv hp
      exact ⟨v', h1, by simp only [Instr.loadAt, Instr.sureAddr, Sem.run_bind, Sem.run_pure, Result.andThen_ok, loadVar, run_isAgg_none hg, Bool.false_eq_true, if_false]; exact h2⟩
    · rename_i n
      split at hv
      · rename_i l hl
        cases hv
        obtain ⟨l', h1, h2⟩ := rd_rel (P := P) hR hl hp
        obtain ⟨h3, h4⟩ := run_isAgg_some (w := w) hg
        refine ⟨.agg l'.toArray, VRel.mkAgg h1, ?_⟩
        simp only [Instr.loadAt, Instr.sureAddr, Sem.run_bind, Sem.run_pure, Result.andThen_ok, loadVar, h3, if_true, run_sizeOf' h4, h2]
      · cases hv
  · cases hv

theorem sim_store (hR : HRel K W ρ h w) {t : TypeId} {n : Nat} {a a' x x' : Value} {h' : Hp} (hn : sizeO P t = some n) (ha : VRel ρ a a') (hx : VRel ρ x x') (hs : sStore h n a x = some h') :
    ∃ w', (Instr.storeAt t a' x').run P w = .ok () w' ∧ HRel K W ρ h' w' ∧ Fr ρ h h' := by
  have key : ∀ (b o : Nat) (vs vs' : List Value) (p : Pl), ρ b = some p → a' = .pointer (some ⟨p.blk, p.off + o, none⟩) → vs'.length = n → x'.cells.toList = vs' → LRel ρ vs vs' →
      (∃ w', (storeCells ⟨p.blk, p.off + o, none⟩ vs').run P w = .ok () w' ∧ HRel K W ρ h' w' ∧ Fr ρ h h') → ∃ w', (Instr.storeAt t a' x').run P w = .ok () w' ∧ HRel K W ρ h' w' ∧ Fr ρ h h' := by
    intro b o vs vs' p hp ha' hl hc _ ⟨w', h1, h2⟩
    refine ⟨w', ?_, h2⟩
    subst ha'
    have hsz : x'.cells.size = n := by rw [← hl, ← hc]; simp
    simp only [Instr.storeAt, Instr.sureAddr, Sem.run_bind, Sem.run_pure, Result.andThen_ok, storeVar, run_sizeOf' hn, hsz, ne_eq, not_true_eq_false, if_false, hc]
    exact h1
  unfold sStore at hs
  split at hs
  · rename_i b o
    obtain ⟨p, hp, rfl⟩ := ptr_inv ha
    split at hs
    · rename_i cs
      have hcr := cells_rel hx
      simp only [Value.cells] at hcr
      by_cases hc : Nat.beq cs.toList.length n
      · rw [hc] at hs
        simp only [beq_dec, decide_eq_true_eq] at hc
        exact key b o cs.toList x'.cells.toList p hp rfl (by have := hcr.1; simp only [Value.cells] at this ⊢; omega) rfl hcr (wr_rel hR hs hp hcr)
      · simp only [Bool.not_eq_true] at hc
        rw [hc] at hs
        cases hs
    · by_cases hc : Nat.beq n 1
      · rw [hc] at hs
        simp only [beq_dec, decide_eq_true_eq] at hc
        obtain ⟨_, _, _, _, hone, _⟩ := wr1_wr hs
        have hx1 : x'.cells.toList = [x'] := by
          have := oneCell_rel hx hone
          cases x' <;> first | rfl | (simp [Value.oneCell'] at this)
        exact key b o [_] [x'] p hp rfl (by simp [hc]) hx1 (LRel.cons hx .nil) (wr1_rel hR hs hp hx)
      · simp only [Bool.not_eq_true] at hc
        rw [hc] at hs
        cases hs
  · cases hs

/-! ### Comparisons -/
theorem bytes_beq (a c : ByteArray) : (a == c) = (a.data.toList == c.data.toList) := by
  cases a with
  | mk a =>
    cases c with
    | mk c =>
      show (a == c) = (a.toList == c.toList)
      rw [Bool.eq_iff_iff, beq_iff_eq, beq_iff_eq]
      exact ⟨fun h => by rw [h], fun h => Array.ext' h⟩

theorem guard_noncmp {op : BinOp} {t : TypeId} {x y : Operand} {a b : Value} (h : isCmp op = false) : (eqGuard op t x y a b).run P w = .ok () w := by
  cases op <;> first | rfl | cases h

theorem guard_plain {op : BinOp} {t : TypeId} {x y : Operand} {a b : Value} (h1 : ¬ (a = .nilIface ∧ b = .nilIface)) (h2 : ¬ ∃ c d, a = .agg c ∧ b = .agg d) : (eqGuard op t x y a b).run P w = .ok () w := by
  cases hc : isCmp op with
  | false => exact guard_noncmp hc
  | true =>
    cases op <;> first | (cases hc; done) | (cases a <;> cases b <;> first | rfl | exact absurd ⟨rfl, rfl⟩ h1 | exact absurd ⟨_, _, rfl, rfl⟩ h2)

theorem kindEq_run {d : Nat} {t : TypeId} {k : Nat} {u v x y : Value} {b : Bool} (ht : primT P t = some k) (hx : VRel ρ u x) (hy : VRel ρ v y) (hb : kindEq k u v = some b) :
    (Op.equalIn (d + 1) t x y).run P w = .ok b w ∧ (isAgg t).run P w = .ok false w := by
  have hd : ∃ dsc, P.underlying t = some dsc ∧ ((k = 0 ∧ dsc = .bool) ∨ (k = 1 ∧ ∃ q, dsc = .int q) ∨ (k = 2 ∧ dsc = .string)) := by
    unfold primT at ht
    split at ht
    · rename_i hu; cases ht; exact ⟨_, hu, .inl ⟨rfl, rfl⟩⟩
    · rename_i hu; cases ht; exact ⟨_, hu, .inr (.inl ⟨rfl, _, rfl⟩)⟩
    · rename_i hu; cases ht; exact ⟨_, hu, .inr (.inr ⟨rfl, rfl⟩)⟩
    · cases ht
  obtain ⟨dsc, hu, hd⟩ := hd
  unfold kindEq at hb
  split at hb
  · cases hx; cases hy; cases hb
    rcases hd with ⟨_, rfl⟩ | ⟨h, _⟩ | ⟨h, _⟩
    · exact ⟨by simp only [Op.equalIn, Sem.run_bind, run_underlying' hu, Result.andThen_ok, Sem.run_pure], by simp only [isAgg, Sem.run_bind, run_underlying' hu, Result.andThen_ok, Sem.run_pure]⟩
    · cases h
    · cases h
  · cases hx; cases hy
    rename_i q a q' c
    by_cases hk : q = q'
    · subst hk
      simp only [decide_true, cond_true, Option.some.injEq] at hb
      subst hb
      rcases hd with ⟨h, _⟩ | ⟨_, r, rfl⟩ | ⟨h, _⟩
      · cases h
      · exact ⟨by simp only [Op.equalIn, Sem.run_bind, run_underlying' hu, Result.andThen_ok, Sem.run_pure, if_true], by simp only [isAgg, Sem.run_bind, run_underlying' hu, Result.andThen_ok, Sem.run_pure]⟩
      · cases h
    · simp [hk] at hb
  · cases hx; cases hy; cases hb
    rcases hd with ⟨h, _⟩ | ⟨h, _⟩ | ⟨_, rfl⟩
    · cases h
    · cases h
    · exact ⟨by simp only [Op.equalIn, Sem.run_bind, run_underlying' hu, Result.andThen_ok, Sem.run_pure, bytes_beq], by simp only [isAgg, Sem.run_bind, run_underlying' hu, Result.andThen_ok, Sem.run_pure]⟩
  · cases hb

theorem flat_equal {d : Nat} {ax ay : Array Value} : ∀ (fl : List Field) (k : Nat) (ks : List Nat) (xs ys us vs : List Value) (b : Bool), flatFs P k fl = some ks → ax.toList.drop k = xs → ay.toList.drop k = ys →
    LRel ρ us xs → LRel ρ vs ys → primEqs ks us vs = some b →
    (forIn fl ((none, ()) : Option Bool × Unit) (fun (f : Field) (_ : Option Bool × Unit) =>
            if f.name ≠ "_" then do
              let __do_lift ← part f.type ax f.offset
              let __do_lift_1 ← part f.type ay f.offset
              let __do_lift ← Op.equalIn (d + 1) f.type __do_lift __do_lift_1
              if (!__do_lift) = true then pure (ForInStep.done ((some false, ()) : Option Bool × Unit)) else pure (ForInStep.yield ((none, ()) : Option Bool × Unit))
            else pure (ForInStep.yield ((none, ()) : Option Bool × Unit)))).run P w = .ok (if b then (none, ()) else (some false, ())) w := by
  intro fl
  induction fl with
  | nil =>
    intro k ks xs ys us vs b hf _ _ _ _ h3
    simp only [flatFs, Option.some.injEq] at hf
    subst hf
    unfold primEqs at h3
    split at h3
    · cases h3; simp
    · rename_i heq _ _; cases heq
    · cases h3
  | cons f fl ih =>
    intro k ks xs ys us vs b hf hx hy h1 h2 h3
    simp only [flatFs] at hf
    split at hf
    · rename_i n l hn hl
      by_cases hc : Nat.beq f.offset k && f.name != "_"
      · rw [hc, cond_true] at hf
        cases hf
        simp only [Bool.and_eq_true, beq_dec, decide_eq_true_eq, bne_iff_ne, ne_eq] at hc
        obtain ⟨ho, hnm⟩ := hc
        cases us with
        | nil => simp [primEqs] at h3
        | cons u us =>
          cases vs with
          | nil => simp [primEqs] at h3
          | cons v vs =>
            obtain ⟨x, xs', rfl, r1, rl1⟩ := h1.cons_inv
            obtain ⟨y, ys', rfl, r2, rl2⟩ := h2.cons_inv
            have hxk : ax[k]? = some x := by
              have := congrArg (·[0]?) hx
              simpa using this
            have hyk : ay[k]? = some y := by
              have := congrArg (·[0]?) hy
              simpa using this
            have hx' : ax.toList.drop (k + 1) = xs' := by
              have := congrArg (List.drop 1) hx
              simpa using this
            have hy' : ay.toList.drop (k + 1) = ys' := by
              have := congrArg (List.drop 1) hy
              simpa using this
            simp only [primEqs] at h3
            cases hke : kindEq n u v with
            | none => rw [hke] at h3; cases h3
            | some b0 =>
              obtain ⟨he, ha⟩ := kindEq_run (P := P) (w := w) (d := d) hn r1 r2 hke
              have hpx : (part f.type ax f.offset).run P w = .ok x w := by
                simp only [part, Sem.run_bind, ha, Result.andThen_ok, Bool.false_eq_true, if_false, ho, hxk, Sem.run_pure]
              have hpy : (part f.type ay f.offset).run P w = .ok y w := by
                simp only [part, Sem.run_bind, ha, Result.andThen_ok, Bool.false_eq_true, if_false, ho, hyk, Sem.run_pure]
              rw [List.forIn_cons]
              simp only [Sem.run_bind, ne_eq, hnm, not_false_eq_true, if_true, hpx, Result.andThen_ok, hpy, he]
              rw [hke] at h3
              cases b0 with
              | true =>
                simp only [Bool.not_true, Bool.false_eq_true, if_false, Sem.run_pure, Result.andThen_ok]
                exact ih (k + 1) l xs' ys' us vs b hl hx' hy' rl1 rl2 h3
              | false =>
                cases h3
                simp only [Bool.not_false, if_true, Sem.run_pure, Result.andThen_ok, Bool.false_eq_true, if_false]
      · simp only [Bool.not_eq_true] at hc
        rw [hc] at hf
        cases hf
    · cases hf

theorem run_equal {t : TypeId} {x y : Value} {b : Bool} (hb : (Op.equal t x y).run P w = .ok b w) (hnn : ∀ k a k' c, ¬ (x = .int k a ∧ y = .int k' c)) (hns : ∀ a c, ¬ (x = .string a ∧ y = .string c))
    (hnf : ∀ k a, x ≠ .float k a) (hnc : ∀ k a c, x ≠ .complex k a c) :
    (binOp .eql t x y).run P w = .ok (.bool b) w ∧ (binOp .neq t x y).run P w = .ok (.bool (!b)) w := by
  have h1 : binOp .eql t x y = (do pure (.bool (← Op.equal t x y))) := by
    cases x <;> first
      | rfl
      | exact absurd rfl (hnf _ _)
      | exact absurd rfl (hnc _ _ _)
      | (cases y <;> first | rfl | exact absurd ⟨rfl, rfl⟩ (hnn _ _ _ _) | exact absurd ⟨rfl, rfl⟩ (hns _ _))
  have h2 : binOp .neq t x y = (do pure (.bool (!(← Op.equal t x y)))) := by
    cases x <;> first
      | rfl
      | exact absurd rfl (hnf _ _)
      | exact absurd rfl (hnc _ _ _)
      | (cases y <;> first | rfl | exact absurd ⟨rfl, rfl⟩ (hnn _ _ _ _) | exact absurd ⟨rfl, rfl⟩ (hns _ _))
  rw [h1, h2]
  exact ⟨by simp only [Sem.run_bind, hb, Result.andThen_ok, Sem.run_pure], by simp only [Sem.run_bind, hb, Result.andThen_ok, Sem.run_pure]⟩
end
end Go.Eng
