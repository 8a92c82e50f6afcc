/- The simple operations, one by one: conversions, slices, append. -/
import Derived.Test.YtdafdampodbobaaEngG
namespace Go.Eng
set_option linter.unusedSimpArgs false
set_option linter.unusedVariables false
section
variable {P : Program} {K : Nat → Prop} {W w : World} {ρ : Rho} {h : Hp} {e : Env} {ev : Operand → Value}

theorem slice_cells (hR : HRel K W ρ h w) {sz : Nat} {x x' : Value} {l : List Value} (hx : VRel ρ x x') (hl : sliceCells h sz x = some l) :
    (x' = .slice none 0 0 ∧ l = []) ∨ ∃ a' n cap l', x' = .slice (some a') n cap ∧ LRel ρ l l' ∧ (loadCells a' (n * sz)).run P w = .ok l'.toArray w := by
  unfold sliceCells at hl
  split at hl
  · cases hx; cases hl; exact .inl ⟨rfl, rfl⟩
  · rename_i b o n cf
    obtain ⟨p, a', cap, hp, hs, rfl⟩ := slice_inv hx
    right
    by_cases hn : Nat.beq n 0
    · rw [hn] at hl
      cases hl
      simp only [beq_dec, decide_eq_true_eq] at hn
      subst hn
      exact ⟨a', 0, cap, [], rfl, .nil, by simp [loadCells, loadCellsFrom]⟩
    · simp only [Bool.not_eq_true] at hn
      rw [hn] at hl
      simp only [beq_dec, decide_eq_false_iff_not] at hn
      obtain ⟨l', h1, h2⟩ := rd_rel (P := P) hR hl hp
      refine ⟨a', n, cap, l', rfl, h1, ?_⟩
      have : a' = ⟨p.blk, p.off + o, none⟩ := by
        rcases hs.place with h | h | h
        · exact h
        · have := hs.exact 0 h
          have := hs.lc
          omega
        · omega
      rw [this]
      exact h2
  · cases hl


theorem nat_of {v v' : Value} {n : Nat} (h : natOf v = some n) (hv : VRel ρ v v') : ∃ k, v' = .int k (Int.ofNat n) := by
  unfold natOf at h
  split at h
  · cases h
    obtain rfl := int_inv hv
    exact ⟨_, rfl⟩
  · cases h

theorem run_bound {k : IntKind} {n y : Nat} {code : BoundsCode} (h : n ≤ y) : (Instr.sliceBound (.int k (Int.ofNat n)) y code).run P w = .ok n w := by
  have h1 : (0 : Int) ≤ Int.ofNat n ∧ Int.ofNat n ≤ (y : Int) := ⟨Int.natCast_nonneg n, Int.ofNat_le.2 h⟩
  simp only [Instr.sliceBound, asIntOf, Sem.run_bind, Sem.run_pure, Result.andThen_ok, h1, and_self, if_true]
  rfl

/-- The bounds of a slice expression. -/
theorem run_bounds {len cap l u m : Nat} {lo hi mx lo' hi' mx' : Option Value} (hl : optNat 0 lo = some l) (hu : optNat len hi = some u) (hm : optNat cap mx = some m) (h1 : l ≤ u) (h2 : u ≤ m) (h3 : m ≤ cap)
    (rl : (lo = none ∧ lo' = none) ∨ ∃ v v', lo = some v ∧ lo' = some v' ∧ VRel ρ v v') (rh : (hi = none ∧ hi' = none) ∨ ∃ v v', hi = some v ∧ hi' = some v' ∧ VRel ρ v v')
    (rm : (mx = none ∧ mx' = none) ∨ ∃ v v', mx = some v ∧ mx' = some v' ∧ VRel ρ v v') (hmh : mx ≠ none → hi ≠ none) :
    (Instr.sliceBounds true len cap lo' hi' mx').run P w = .ok (l, u, m) w := by
  rcases rm with ⟨rfl, rfl⟩ | ⟨v, v', rfl, rfl, rv⟩
  · simp only [optNat, Option.some.injEq] at hm
    subst hm
    rcases rh with ⟨rfl, rfl⟩ | ⟨y, y', rfl, rfl, ry⟩
    · simp only [optNat, Option.some.injEq] at hu
      subst hu
      rcases rl with ⟨rfl, rfl⟩ | ⟨x, x', rfl, rfl, rx⟩
      · simp only [optNat, Option.some.injEq] at hl
        subst hl
        simp [Instr.sliceBounds]
      · obtain ⟨k, rfl⟩ := nat_of hl rx
        simp only [Instr.sliceBounds, Sem.run_bind, Sem.run_pure, Result.andThen_ok, run_bound h1]
    · obtain ⟨k2, rfl⟩ := nat_of hu ry
      rcases rl with ⟨rfl, rfl⟩ | ⟨x, x', rfl, rfl, rx⟩
      · simp only [optNat, Option.some.injEq] at hl
        subst hl
        simp only [Instr.sliceBounds, Sem.run_bind, Sem.run_pure, Result.andThen_ok, run_bound h2]
      · obtain ⟨k, rfl⟩ := nat_of hl rx
        simp only [Instr.sliceBounds, Sem.run_bind, Sem.run_pure, Result.andThen_ok, run_bound h2, run_bound h1]
  · obtain ⟨k3, rfl⟩ := nat_of hm rv
    rcases rh with ⟨rfl, rfl⟩ | ⟨y, y', rfl, rfl, ry⟩
    · exact absurd rfl (hmh (by simp))
    · obtain ⟨k2, rfl⟩ := nat_of hu ry
      rcases rl with ⟨rfl, rfl⟩ | ⟨x, x', rfl, rfl, rx⟩
      · simp only [optNat, Option.some.injEq] at hl
        subst hl
        simp only [Instr.sliceBounds, Sem.run_bind, Sem.run_pure, Result.andThen_ok, run_bound h3, run_bound h2]
      · obtain ⟨k, rfl⟩ := nat_of hl rx
        simp only [Instr.sliceBounds, Sem.run_bind, Sem.run_pure, Result.andThen_ok, run_bound h3, run_bound h2, run_bound h1]

theorem div_mul (a s : Nat) : a / s * s ≤ a := Nat.div_mul_le_self a s

theorem sim_slice (hR : HRel K W ρ h w) {t el : TypeId} {sz : Nat} {x x' v : Value} {lo hi mx lo' hi' mx' : Option Value} (hx : VRel ρ x x') (hu : P.underlying t = some (.slice el)) (hn : sizeO P el = some sz)
    (rl : (lo = none ∧ lo' = none) ∨ ∃ v v', lo = some v ∧ lo' = some v' ∧ VRel ρ v v') (rh : (hi = none ∧ hi' = none) ∨ ∃ v v', hi = some v ∧ hi' = some v' ∧ VRel ρ v v')
    (rm : (mx = none ∧ mx' = none) ∨ ∃ v v', mx = some v ∧ mx' = some v' ∧ VRel ρ v v') (hmh : mx ≠ none → hi ≠ none) (hv : sSlice h sz x lo hi mx = some v) :
    ∃ v', VRel ρ v v' ∧ (Instr.sliceAt t x' lo' hi' mx').run P w = .ok v' w := by
  unfold sSlice at hv
  split at hv
  · rename_i base len cf
    split at hv
    · cases hv
    · rename_i l hl
      split at hv
      · cases hv
      · rename_i u hu'
        split at hv
        · -- nil
          split at hv
          · rename_i m hm
            by_cases hc : Nat.beq l 0 && Nat.beq u 0 && Nat.beq m 0
            · rw [hc] at hv
              cases hv
              simp only [Bool.and_eq_true, beq_dec, decide_eq_true_eq] at hc
              obtain ⟨⟨rfl, rfl⟩, rfl⟩ := hc
              cases hx
              have hb := run_bounds (P := P) (w := w) (cap := 0) hl hu' hm (Nat.le_refl _) (Nat.le_refl _) (Nat.le_refl _) rl rh rm hmh
              refine ⟨.slice none 0 0, .nils, ?_⟩
              simp only [Instr.sliceAt, Sem.run_bind, run_underlying' hu, Result.andThen_ok, Instr.slice, hb, run_sizeOf' hn]
              rfl
            · simp only [Bool.not_eq_true] at hc
              rw [hc] at hv
              cases hv
          · cases hv
        · rename_i b o
          obtain ⟨p, a', cap, hp, hs, rfl⟩ := slice_inv hx
          split at hv
          · rename_i c s own hb
            obtain ⟨q1, q2, _, _⟩ := hR.live b c s own p hb hp
            have hlc := hs.lc
            have hvis := hs.vis
            -- what both forms ask
            have key : ∀ (m cf' : Nat), s = sz → 1 ≤ sz → l ≤ u → u ≤ m → u ≤ roomOf c.length o sz cf → m ≤ cap → optNat cap mx = some m →
                ((cf' = 0 ∧ cf = 0 ∧ m = cap) ∨ (cf' = m - l + 1 ∧ m ≤ roomOf c.length o sz cf)) →
                ∃ v', VRel ρ (.slice (some ⟨b, o + l * sz, none⟩) (u - l) cf') v' ∧ (Instr.sliceAt t (.slice (some a') len cap) lo' hi' mx').run P w = .ok v' w := by
              intro m cf' e1 e2 e3 e4 e5 e6 hm e7
              subst e1
              have hb' := run_bounds (P := P) (w := w) (cap := cap) hl hu' hm e3 e4 e6 rl rh rm hmh
              have hroom : ∀ j, j ≤ roomOf c.length o s cf → o + j * s ≤ p.n ∧ j ≤ cap := by
                intro j hj
                cases cf with
                | zero =>
                  simp only [roomOf] at hj
                  have g := (hs.grow rfl).1
                  have h1 : j * s ≤ (c.length - o) / s * s := Nat.mul_le_mul_right s hj
                  have h2 := div_mul (c.length - o) s
                  have h3 : o ≤ p.n := by have := hs.vis; omega
                  refine ⟨by omega, ?_⟩
                  have h4 : j * s ≤ cap * s := by rw [q1] at g; omega
                  exact Nat.le_of_mul_le_mul_right h4 (by omega)
                | succ k =>
                  simp only [roomOf] at hj
                  obtain ⟨g1, g2⟩ := hs.exact k rfl
                  have h1 : j * s ≤ k * s := Nat.mul_le_mul_right s hj
                  rw [q1] at g2
                  exact ⟨by omega, by omega⟩
              have hu1 := hroom u e5
              have hsub : ∀ j, l ≤ j → o + l * s + (j - l) * s = o + j * s := fun j hj => by
                rw [Nat.sub_mul, Nat.add_assoc, Nat.add_sub_cancel' (Nat.mul_le_mul_right s hj)]
              have hlm : l ≤ m := Nat.le_trans e3 e4
              refine ⟨.slice (if m = l then some a' else some (a'.add (l * s))) (u - l) (m - l), ?_, ?_⟩
              · have : (if m = l then some a' else some (a'.add (l * s))) = some (if m = l then a' else a'.add (l * s)) := by split <;> rfl
                rw [this]
                refine .slice b (o + l * s) (u - l) cf' p _ _ hp ⟨by omega, ?_, fun h0 => ?_, fun k hk => ?_, ?_⟩
                · rw [q1, hsub u e3]; exact hu1.1
                · rcases e7 with ⟨_, rfl, rfl⟩ | ⟨h1, _⟩
                  · rw [q1, hsub m hlm]
                    have g := hs.grow rfl
                    rw [q1] at g
                    exact g
                  · omega
                · rcases e7 with ⟨h1, _, _⟩ | ⟨h1, h2⟩
                  · omega
                  · have hk' : k = m - l := by omega
                    subst hk'
                    rw [q1, hsub m hlm]
                    exact ⟨rfl, (hroom m h2).1⟩
                · by_cases hml : m = l
                  · rw [if_pos hml]
                    rcases e7 with ⟨h1, h2, h3⟩ | ⟨h1, h2⟩
                    · -- at the very end
                      subst h2
                      have g := (hs.grow rfl).1
                      rw [q1] at g
                      have hul : u = l := by omega
                      have hn : o + l * s = p.n := by
                        have := hu1.1
                        rw [hul] at this
                        rw [← hml, h3] at this ⊢
                        omega
                      by_cases hz : p.n = 0
                      · have hl0 : l = 0 := by
                          have : l * s = 0 := by omega
                          rcases Nat.mul_eq_zero.1 this with h | h
                          · exact h
                          · omega
                        rcases hs.place with h | h | h
                        · left; rw [h, hl0, Nat.zero_mul, Nat.add_zero]
                        · cases h
                        · omega
                      · exact .inr (.inr ⟨h1, by omega, hn, by omega⟩)
                    · exact .inr (.inl (by omega))
                  · rw [if_neg hml]
                    rcases hs.place with h | h | h
                    · left; rw [h, add_none, Nat.add_assoc]
                    · exfalso
                      subst h
                      have := hs.exact 0 rfl
                      omega
                    · obtain ⟨h1, h2, h3, h4⟩ := h
                      have hu0 : u = 0 := by
                        have := hu1.1
                        have h5 : u * s = 0 := by omega
                        rcases Nat.mul_eq_zero.1 h5 with h | h
                        · exact h
                        · omega
                      have hl0 : l = 0 := by omega
                      rcases e7 with ⟨g1, _, _⟩ | ⟨g1, g2⟩
                      · right; right; exact ⟨g1, by omega, by rw [hl0, Nat.zero_mul, Nat.add_zero]; exact h3, h4⟩
                      · exfalso
                        have := (hroom m g2).1
                        have h5 : m * s = 0 := by omega
                        rcases Nat.mul_eq_zero.1 h5 with h | h
                        · omega
                        · omega
              · simp only [Instr.sliceAt, Sem.run_bind, run_underlying' hu, Result.andThen_ok, Instr.slice, hb', run_sizeOf' hn]
                rfl
            split at hv
            · by_cases hc : Nat.beq s sz && Nat.ble 1 sz && Nat.ble l u && Nat.ble u (roomOf c.length o sz cf)
              · rw [hc] at hv
                cases hv
                simp only [Bool.and_eq_true, beq_dec, decide_eq_true_eq, Nat.ble_eq] at hc
                obtain ⟨⟨⟨e1, e2⟩, e3⟩, e4⟩ := hc
                cases cf with
                | zero =>
                  have hucap : u ≤ cap := by
                    have g := (hs.grow rfl).1
                    simp only [roomOf] at e4
                    have h1 : u * sz ≤ (c.length - o) / sz * sz := Nat.mul_le_mul_right sz e4
                    have h2 := div_mul (c.length - o) sz
                    rw [q1, e1] at g
                    have h3 : o ≤ p.n := by have := hs.vis; omega
                    exact Nat.le_of_mul_le_mul_right (show u * sz ≤ cap * sz by omega) (by omega)
                  exact key cap 0 e1 e2 e3 hucap e4 (Nat.le_refl _) rfl (.inl ⟨rfl, rfl, rfl⟩)
                | succ k =>
                  obtain ⟨rfl, _⟩ := hs.exact k rfl
                  exact key cap (cap - l + 1) e1 e2 e3 e4 e4 (Nat.le_refl _) rfl (.inr ⟨rfl, Nat.le_refl _⟩)
              · simp only [Bool.not_eq_true] at hc
                rw [hc] at hv
                cases hv
            · rename_i v0
              split at hv
              · cases hv
              · rename_i m hm
                by_cases hc : Nat.beq s sz && Nat.ble 1 sz && Nat.ble l u && Nat.ble u m && Nat.ble m (roomOf c.length o sz cf)
                · rw [hc] at hv
                  cases hv
                  simp only [Bool.and_eq_true, beq_dec, decide_eq_true_eq, Nat.ble_eq] at hc
                  obtain ⟨⟨⟨⟨e1, e2⟩, e3⟩, e4⟩, e5⟩ := hc
                  have hmcap : m ≤ cap := by
                    cases cf with
                    | zero =>
                      have g := (hs.grow rfl).1
                      simp only [roomOf] at e5
                      have h1 : m * sz ≤ (c.length - o) / sz * sz := Nat.mul_le_mul_right sz e5
                      have h2 := div_mul (c.length - o) sz
                      rw [q1, e1] at g
                      have h3 : o ≤ p.n := by have := hs.vis; omega
                      exact Nat.le_of_mul_le_mul_right (show m * sz ≤ cap * sz by omega) (by omega)
                    | succ k =>
                      obtain ⟨rfl, _⟩ := hs.exact k rfl
                      exact e5
                  exact key m (m - l + 1) e1 e2 e3 e4 (Nat.le_trans e4 e5) hmcap hm (.inr ⟨rfl, e5⟩)
                · simp only [Bool.not_eq_true] at hc
                  rw [hc] at hv
                  cases hv
          · cases hv
        · cases hv
  · cases hv
end
end Go.Eng
