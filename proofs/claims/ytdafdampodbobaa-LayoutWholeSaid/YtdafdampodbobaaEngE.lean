/- The simple operations, one by one. -/
import Derived.Test.YtdafdampodbobaaEngD
import Derived.Laws.Strings
namespace Go.Eng
set_option linter.unusedSimpArgs false
set_option linter.unusedVariables false

/-- The operation yields what the evaluator says, and keeps the relation. -/
structure Yld (P : Program) (K : Nat → Prop) (W : World) (ρ : Rho) (h : Hp) (v : Value) (h' : Hp) (s : Sem Next) (w : World) (ρ' : Rho) (w' : World) : Prop where
  run : (∃ v', s.run P w = .ok (.value v') w' ∧ VRel ρ' v v') ∨ (s.run P w = .ok .skip w' ∧ v = undef)
  ext : Ext ρ ρ' h
  rel : HRel K W ρ' h' w'
  fr : Fr ρ h h'

def Yields (P : Program) (K : Nat → Prop) (W : World) (ρ : Rho) (h : Hp) (v : Value) (h' : Hp) (s : Sem Next) (w : World) : Prop := ∃ ρ' w', Yld P K W ρ h v h' s w ρ' w'

section
variable {P : Program} {K : Nat → Prop} {W w : World} {ρ : Rho} {h : Hp} {e : Env} {ev : Operand → Value}

theorem yields_pure (hR : HRel K W ρ h w) {v v' : Value} {s : Sem Next} (hs : s.run P w = .ok (.value v') w) (hv : VRel ρ v v') : Yields P K W ρ h v h s w :=
  ⟨ρ, w, .inl ⟨v', hs, hv⟩, Ext.refl _ _, hR, Fr.refl _ _⟩

theorem run_v {s : Sem Value} {v : Value} {w' : World} (hs : s.run P w = .ok v w') : (do pure (Next.value (← s)) : Sem Next).run P w = .ok (.value v) w' := by
  simp [hs]

theorem map_some {α β : Type} {x : Option α} {f : α → β} {y : β} (h : x.map f = some y) : ∃ a, x = some a ∧ f a = y := by
  cases x with
  | none => cases h
  | some a => exact ⟨a, rfl, by simpa using h⟩

/-! ### A new block -/
theorem yields_new (hR : HRel K W ρ h w) {s : Sem Next} {w' : World} {c : List Value} {sz : Nat} {C : Array Value} {el : TypeId} {fr : Nat × Nat} {len : Nat} {v' : Value} (v : Value)
    (hs : s.run P w = .ok (.value v') w') (io : SameIO w w') (hh : w'.heap = w.heap.push (.cells C el fr)) (hl : c.length ≤ len) (hC : len ≤ C.size)
    (hv : ∀ (i : Nat) (v : Value), c[i]? = some v → ∃ v', C[i]? = some v' ∧ VRel ρ v v') (hfr : ∀ i, i < len → ¬ (fr.1 ≤ i ∧ i < fr.2))
    (hvv : ∀ p : Pl, p = ⟨w.heap.size, 0, c.length, len, sz⟩ → VRel (ρ.upd h.next p) v v') : Yields P K W ρ h v (h.alloc c sz).2 s w :=
  ⟨ρ.upd h.next ⟨w.heap.size, 0, c.length, len, sz⟩, w', .inl ⟨v', hs, hvv _ rfl⟩, Rho.upd_ext hR _, hR.alloc io c sz len C el fr hh hl hC hv hfr, Fr.alloc _ _ _ _⟩

theorem upd_self (ρ : Rho) (b : Nat) (p : Pl) : ρ.upd b p b = some p := by unfold Rho.upd; rw [if_pos rfl]

theorem ptr_new (ρ : Rho) (b k n len sz : Nat) : VRel (ρ.upd b ⟨k, 0, n, len, sz⟩) (.pointer (some ⟨b, 0, none⟩)) (.pointer (some ⟨k, 0, none⟩)) :=
  .ptr b 0 ⟨k, 0, n, len, sz⟩ (upd_self _ _ _)

theorem slice_new (ρ : Rho) (b k n len sz m cap : Nat) (hm : m ≤ cap) (hv : m * sz ≤ n) (h1 : n ≤ cap * sz) (h2 : cap * sz ≤ len) :
    VRel (ρ.upd b ⟨k, 0, n, len, sz⟩) (.slice (some ⟨b, 0, none⟩) m 0) (.slice (some ⟨k, 0, none⟩) m cap) :=
  .slice b 0 m 0 ⟨k, 0, n, len, sz⟩ _ _ (upd_self _ _ _)
    ⟨hm, by simpa using hv, fun _ => ⟨by simpa using h1, by simpa using h2⟩, fun k hk => by omega, .inl rfl⟩

theorem run_newVar {t : TypeId} {v : Value} : (newVar t v).run P w = .ok ⟨w.heap.size, 0, none⟩ { w with heap := w.heap.push (.cells v.cells t) } := by
  simp [newVar, newRow]

theorem list_arr {ρ : Rho} {l : List Value} {C : Array Value} (hl : LRel ρ l C.toList) : ∀ (i : Nat) (v : Value), l[i]? = some v → ∃ v', C[i]? = some v' ∧ VRel ρ v v' := by
  intro i v hi
  obtain ⟨v', h1, h2⟩ := hl.get hi
  exact ⟨v', by simpa using h1, h2⟩

theorem sim_alloc (hR : HRel K W ρ h w) {t : TypeId} {z : Value} (hz : zeroO P t = some z) :
    Yields P K W ρ h (.pointer (some ⟨h.next, 0, none⟩)) (h.alloc z.cells.toList 0).2 (do pure (Next.value (← Instr.alloc t true (.tuple #[])))) w := by
  obtain ⟨i, _, _, _, _, hc⟩ := zeroO_spec hz
  refine yields_new hR (el := t) (fr := (0, 0)) (C := z.cells) (len := z.cells.toList.length) _ (run_v (v := .pointer (some ⟨w.heap.size, 0, none⟩)) (w' := { w with heap := w.heap.push (.cells z.cells t) }) ?_) ⟨rfl, rfl, rfl⟩ rfl (Nat.le_refl _) (by simp) (list_arr (closedL_self _ hc)) (fun i _ => by simp) (fun p hp => by subst hp; exact ptr_new _ _ _ _ _ _)
  simp [Instr.alloc, run_zeroValue' hz, run_newVar]

theorem sim_box (hR : HRel K W ρ h w) {t : TypeId} {v v' : Value} (hv : VRel ρ v v') :
    Yields P K W ρ h (.pointer (some ⟨h.next, 0, none⟩)) (h.alloc v.cells.toList 0).2 (do pure (Next.value (← Instr.box t v'))) w := by
  have hc := cells_rel hv
  refine yields_new hR (el := t) (fr := (0, 0)) (C := v'.cells) (len := v.cells.toList.length) _ (run_v (v := .pointer (some ⟨w.heap.size, 0, none⟩)) (w' := { w with heap := w.heap.push (.cells v'.cells t) }) ?_) ⟨rfl, rfl, rfl⟩ rfl (Nat.le_refl _) (by have := hc.1; simp at this; simp; omega) (list_arr hc) (fun i _ => by simp) (fun p hp => by subst hp; exact ptr_new _ _ _ _ _ _)
  simp [Instr.box, run_newVar]

/-! ### Literals -/
theorem foldl_put : ∀ (l : List Value) (k off : Nat) (C : Array Value), (l.zipIdx k).foldl (fun cs (x : Value × Nat) => cs.setIfInBounds (off + x.2) x.1) C = putCells C (off + k) l
  | [], _, _, _ => rfl
  | v :: l, k, off, C => by
    rw [List.zipIdx_cons, List.foldl_cons, foldl_put l (k + 1) off, putCells]
    rfl

theorem fill_rel {place : Nat → Option (Nat × Nat)} : ∀ (l : List (Nat × Nat × Value)) (l' : List (Nat × Value)) (c : List Value) (C : Array Value) (r : List Value),
    l.length = l'.length → (∀ (i : Nat) (x : Nat × Nat × Value) (y : Nat × Value), l[i]? = some x → l'[i]? = some y → place y.1 = some (x.1, x.2.1) ∧ VRel ρ x.2.2 y.2) →
    LRel ρ c C.toList → fillA c l = some r → ∃ R, Instr.fill place C l' = some R ∧ LRel ρ r R.toList := by
  intro l
  induction l with
  | nil =>
    intro l' c C r hl _ hc hf
    cases l' with
    | nil =>
      simp only [fillA, Option.some.injEq] at hf
      subst hf
      exact ⟨C, rfl, hc⟩
    | cons y r => simp at hl
  | cons x l ih =>
    intro l' c C r hl hp hc hf
    cases l' with
    | nil => simp at hl
    | cons y l' =>
      obtain ⟨off, size, v⟩ := x
      obtain ⟨i, v'⟩ := y
      obtain ⟨h1, h2⟩ := hp 0 _ _ rfl rfl
      simp only at h1 h2
      have hcr := cells_rel h2
      have hcl := hcr.1
      have hCl := hc.1
      simp only [Array.length_toList] at hcl hCl
      simp only [fillA] at hf
      by_cases hcond : Nat.beq v.cells.toList.length size && Nat.ble (off + size) c.length
      · rw [hcond, cond_true] at hf
        simp only [Bool.and_eq_true, beq_dec, decide_eq_true_eq, Nat.ble_eq, Array.length_toList] at hcond
        obtain ⟨R, hR1, hR2⟩ := ih l' _ (putCells C (off + 0) v'.cells.toList) r (by simpa using hl) (fun j x y hx hy => hp (j + 1) x y (by simpa using hx) (by simpa using hy)) (by
          refine ⟨by simp [putCells_size]; omega, fun j u u' hu hu' => ?_⟩
          have hsz : v.cells.toList.length = size := by simpa using hcond.1
          rw [← hsz] at hu
          rw [splice_get c v.cells.toList off j (by simp; omega)] at hu
          rw [Array.getElem?_toList, putCells_get _ _ _ _ (by simp; omega)] at hu'
          simp only [Array.length_toList, Nat.add_zero] at hu hu'
          by_cases hin : off ≤ j ∧ j < off + v.cells.size
          · rw [if_pos hin] at hu
            rw [if_pos (by omega)] at hu'
            exact hcr.2 _ _ _ hu hu'
          · rw [if_neg hin] at hu
            rw [if_neg (by omega)] at hu'
            exact hc.2 j _ _ hu (by simpa using hu')) hf
        refine ⟨R, ?_, hR2⟩
        have hcond' : ¬ ((v'.cells.size != size || decide (off + v'.cells.size > C.size)) = true) := by simp; omega
        simp only [Instr.fill, h1]
        have hfold : v'.cells.zipIdx.foldl (fun cs (x : Value × Nat) => cs.setIfInBounds (off + x.2) x.1) C = putCells C (off + 0) v'.cells.toList := by
          rw [← foldl_put, ← Array.foldl_toList, Array.toList_zipIdx]
        rw [if_neg (by simp; omega)]
        rw [← hR1, ← hfold]
      · simp only [Bool.not_eq_true] at hcond
        rw [hcond] at hf
        cases hf

theorem parts_rel {place : Nat → Option (Nat × Nat)} : ∀ (ps : List (Nat × Operand)) (qs : List (Nat × Nat × SArg)) (l : List (Nat × Nat × Value)), AR ρ e ev (ps.map (·.2)) → sParts place ps = some qs → parts e qs = some l →
    l.length = (ps.map fun x => (x.1, ev x.2)).length ∧ ∀ (i : Nat) (x : Nat × Nat × Value) (y : Nat × Value), l[i]? = some x → (ps.map fun x => (x.1, ev x.2))[i]? = some y → place y.1 = some (x.1, x.2.1) ∧ VRel ρ x.2.2 y.2 := by
  intro ps
  induction ps with
  | nil =>
    intro qs l _ h1 h2
    simp only [sParts, Option.some.injEq] at h1
    subst h1
    simp only [parts, Option.some.injEq] at h2
    subst h2
    exact ⟨rfl, fun i x y hx => by simp at hx⟩
  | cons p r ih =>
    intro qs l hA h1 h2
    obtain ⟨i, x⟩ := p
    simp only [sParts] at h1
    split at h1
    · rename_i o s a l' hpl ha hl'
      cases h1
      simp only [parts] at h2
      split at h2
      · cases h2
      · rename_i v hv
        split at h2
        · cases h2
        · rename_i l2 hl2
          cases h2
          obtain ⟨g1, g2⟩ := ih _ _ (fun y hy => hA y (by simp at hy ⊢; exact .inr hy)) hl' hl2
          refine ⟨by simp [g1], fun j x' y' hx hy => ?_⟩
          cases j with
          | zero =>
            simp at hx hy
            subst hx
            subst hy
            exact ⟨hpl, hA x (by simp) _ _ ha hv⟩
          | succ j => exact g2 j x' y' (by simpa using hx) (by simpa using hy)
    · cases h1

theorem run_places {fs : Array Field} {l : List (Nat × Nat)} (hl : sPlaces P fs.toList = some l) :
    (fs.mapM fun f => do pure (f.offset, ← sizeOf f.type) : Sem (Array (Nat × Nat))).run P w = .ok l.toArray w := by
  have key : ∀ (fl : List Field) (l : List (Nat × Nat)), sPlaces P fl = some l → (fl.mapM fun f => do pure (f.offset, ← sizeOf f.type) : Sem (List (Nat × Nat))).run P w = .ok l w := by
    intro fl
    induction fl with
    | nil =>
      intro l hl
      simp only [sPlaces, Option.some.injEq] at hl
      subst hl
      simp
    | cons f r ih =>
      intro l hl
      simp only [sPlaces] at hl
      split at hl
      · rename_i n l' hn hl'
        cases hl
        simp only [List.mapM_cons, Sem.run_bind, run_sizeOf' hn, Result.andThen_ok, Sem.run_pure, ih _ hl']
      · cases hl
  rw [Array.mapM_eq_mapM_toList, Sem.run_map, key _ _ hl]
  rfl

theorem map_pairs (ps : Array (Nat × Operand)) (ev : Operand → Value) : (ps.map fun x => (x.1, ev x.2)).toList = ps.toList.map fun x => (x.1, ev x.2) := by simp

theorem sim_build (hR : HRel K W ρ h w) {t : TypeId} {z : Value} {fs : Array Field} {ps : Array (Nat × Operand)} {qs : List (Nat × Nat × SArg)} {l : List (Nat × Nat × Value)} {c : List Value}
    (hA : AR ρ e ev (ps.toList.map (·.2))) (hz : zeroO P t = some z) (hf : fieldsOf P t = some fs) (hq : sStructParts P fs ps.toList = some qs) (hl : parts e qs = some l) (hc : fillA z.cells.toList l = some c) :
    Yields P K W ρ h (.agg c.toArray) h (do pure (Next.value (← Instr.build t (ps.map fun (i, x) => (i, ev x))))) w := by
  obtain ⟨i, _, _, _, _, hcl⟩ := zeroO_spec hz
  unfold sStructParts at hq
  split at hq
  · rename_i pl hpl
    obtain ⟨g1, g2⟩ := parts_rel _ _ _ hA hq hl
    obtain ⟨R, r1, r2⟩ := fill_rel (place := fun i => pl[i]?) l _ _ z.cells c g1 g2 (closedL_self _ hcl) hc
    refine yields_pure hR (run_v (v := .agg R) ?_) ?_
    · have r1' : Instr.fill (fun i => pl.toArray[i]?) z.cells (ps.toList.map fun x => (x.1, ev x.2)) = some R := by simpa using r1
      simp only [Instr.build, Sem.run_bind, run_zeroValue' hz, Result.andThen_ok, run_underlying' (fieldsOf_spec hf), run_places hpl, map_pairs]
      rw [r1']
      simp
    · have := VRel.mkAgg r2
      simpa using this
  · cases hq

theorem repl_get : ∀ (n : Nat) (l : List Value) (i : Nat), i < n * l.length → (repl l n)[i]? = l[i % l.length]?
  | 0, l, i, h => by omega
  | n + 1, l, i, h => by
    rw [repl]
    by_cases hi : i < l.length
    · rw [List.getElem?_append_left hi, Nat.mod_eq_of_lt hi]
    · have hn : (n + 1) * l.length = n * l.length + l.length := Nat.succ_mul _ _
      rw [List.getElem?_append_right (by omega), repl_get n l _ (by omega)]
      congr 1
      rw [Nat.mod_eq_sub_mod (a := i) (by omega)]

theorem repl_length : ∀ (n : Nat) (l : List Value), (repl l n).length = n * l.length
  | 0, l => by simp [repl]
  | n + 1, l => by rw [repl, List.length_append, repl_length n l, Nat.succ_mul]; omega

theorem zeros_eq (z : Array Value) (n len : Nat) (hn : z.size = n) (h1 : 1 ≤ n) : ((Array.range (len * n)).map (fun i => z[i % z.size]!)).toList = repl z.toList len := by
  apply List.ext_getElem?
  intro i
  by_cases hi : i < len * n
  · rw [repl_get len z.toList i (by simpa [hn] using hi)]
    have hlt : i % z.size < z.size := Nat.mod_lt _ (by omega)
    simp [hi, hlt]
  · rw [List.getElem?_eq_none (by simp; omega), List.getElem?_eq_none (by rw [repl_length]; simp [hn]; omega)]

theorem repl_closed : ∀ (n : Nat) (l : List Value), l.all isClosed = true → (repl l n).all isClosed = true
  | 0, l, _ => rfl
  | n + 1, l, h => by rw [repl, List.all_append, h, repl_closed n l h]; rfl

theorem fillA_length : ∀ (l : List (Nat × Nat × Value)) (c r : List Value), fillA c l = some r → r.length = c.length
  | [], c, r, h => by simp only [fillA, Option.some.injEq] at h; rw [h]
  | (off, size, v) :: l, c, r, h => by
    simp only [fillA] at h
    by_cases hcond : Nat.beq v.cells.toList.length size && Nat.ble (off + size) c.length
    · rw [hcond, cond_true] at h
      simp only [Bool.and_eq_true, beq_dec, decide_eq_true_eq, Nat.ble_eq] at hcond
      rw [fillA_length l _ r h]
      simp
      have := hcond.1
      simp at this
      omega
    · simp only [Bool.not_eq_true] at hcond
      rw [hcond] at h
      cases h

theorem sim_mkArr (hR : HRel K W ρ h w) {t el : TypeId} {z : Value} {n len : Nat} {ps : Array (Nat × Operand)} {qs : List (Nat × Nat × SArg)} {l : List (Nat × Nat × Value)} {c : List Value}
    (hA : AR ρ e ev (ps.toList.map (·.2))) (hu : P.underlying t = some (.slice el)) (hz : zeroO P el = some z) (hn : sizeO P el = some n) (hle : len * n ≤ 16777216) (hzn : z.cells.size = n) (h1 : 1 ≤ n)
    (hq : sParts (fun i => some (i * n, n)) ps.toList = some qs) (hl : parts e qs = some l) (hc : fillA (repl z.cells.toList len) l = some c) :
    Yields P K W ρ h (.slice (some ⟨h.next, 0, none⟩) len 0) (h.alloc c n).2 (do pure (Next.value (← Instr.buildSlice t len (ps.map fun (i, x) => (i, ev x))))) w := by
  obtain ⟨i, _, _, _, _, hcl⟩ := zeroO_spec hz
  obtain ⟨g1, g2⟩ := parts_rel _ _ _ hA hq hl
  have hze := zeros_eq z.cells n len hzn h1
  obtain ⟨R, r1, r2⟩ := fill_rel (place := fun i => some (i * n, n)) l _ _ ((Array.range (len * n)).map (fun i => z.cells[i % z.cells.size]!)) c g1 g2
    (by rw [hze]; exact closedL_self _ (repl_closed _ _ hcl)) hc
  have hclen : c.length = len * n := by
    rw [fillA_length _ _ _ hc, repl_length]
    simp [hzn]
  have hRlen : R.size = len * n := by have := r2.1; simp at this; omega
  refine yields_new hR (el := el) (fr := (0, 0)) (C := R) (len := len * n) _ (run_v (v := .slice (some ⟨w.heap.size, 0, none⟩) len len) (w' := { w with heap := w.heap.push (.cells R el) }) ?_) ⟨rfl, rfl, rfl⟩ rfl (by omega) (by omega) (list_arr r2) (fun i _ => by simp) (fun p hp => by
    subst hp
    exact slice_new _ _ _ _ _ _ _ _ (Nat.le_refl _) (by omega) (by omega) (by omega))
  have hn24 : ¬ (len * n > 2 ^ 24) := by omega
  simp only [Instr.buildSlice, Sem.run_bind, run_underlying' hu, Result.andThen_ok, run_sizeOf' hn, hn24, if_false]
  by_cases h0 : len * n = 0
  · have hR0 : Instr.fill (fun i => some (i * n, n)) ((Array.range (len * n)).map (fun i => (#[] : Array Value)[i % (#[] : Array Value).size]!)) (ps.map fun x => (x.1, ev x.2)).toList = some R := by
      rw [map_pairs, ← r1]
      congr 1
      rw [h0]
      simp
    rw [h0] at hR0
    simp only [h0, if_true, Sem.run_bind, Sem.run_pure, Result.andThen_ok, hR0]
    simp [newRow]
  · simp only [h0, if_false, Sem.run_bind, run_zeroValue' hz, Result.andThen_ok, Sem.run_pure, map_pairs, r1]
    simp [newRow]
end
end Go.Eng
