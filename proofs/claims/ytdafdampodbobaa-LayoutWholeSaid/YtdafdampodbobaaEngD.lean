/- The simple operations: what the model does with them is what the evaluator says. -/
import Derived.Test.YtdafdampodbobaaEngC
namespace Go.Eng
set_option linter.unusedSimpArgs false
set_option linter.unusedVariables false

section
variable {P : Program} {w : World} {t : TypeId}

theorem run_typeInfo' {i : TypeInfo} (h : P.info? t = some i) : (typeInfo t).run P w = .ok i w := by simp [typeInfo, h]
theorem run_underlying' {d : TypeDesc} (h : P.underlying t = some d) : (underlying t).run P w = .ok d w := by simp [underlying, h]
theorem run_sizeOf' {n : Nat} (h : sizeO P t = some n) : (sizeOf t).run P w = .ok n w := by
  unfold sizeO at h
  cases hi : P.info? t with
  | none => rw [hi] at h; cases h
  | some i =>
    rw [hi] at h
    simp only [Option.map_some, Option.some.injEq] at h
    simp [sizeOf, run_typeInfo' hi, h]
theorem run_isAgg_some {n : Nat} (h : aggOf P t = some (some n)) : (isAgg t).run P w = .ok true w ∧ sizeO P t = some n := by
  unfold aggOf at h
  split at h
  · rename_i i fs hi hu
    cases h
    exact ⟨by simp [isAgg, run_underlying' hu], by simp [sizeO, hi]⟩
  · rename_i i m e hi hu
    cases h
    exact ⟨by simp [isAgg, run_underlying' hu], by simp [sizeO, hi]⟩
  · cases h
  · cases h
theorem run_isAgg_none (h : aggOf P t = some none) : (isAgg t).run P w = .ok false w := by
  unfold aggOf at h
  split at h
  · cases h
  · cases h
  · rename_i i d hn1 hn2 hi hu
    simp only [isAgg, Sem.run_bind, run_underlying' hu, Result.andThen_ok]
    cases d <;> simp_all
  · cases h
theorem zeroO_spec {v : Value} (h : zeroO P t = some v) : ∃ i, P.info? t = some i ∧ i.zero = some v ∧ isClosed v = true ∧ v.cells.toList.all oneCell = true ∧ v.cells.toList.all isClosed = true := by
  unfold zeroO at h
  split at h
  · rename_i i hi
    split at h
    · rename_i v' hv
      by_cases hc : isClosed v' && v'.cells.toList.all oneCell && v'.cells.toList.all isClosed
      · simp only [hc, cond_true] at h
        cases h
        simp only [Bool.and_eq_true] at hc
        exact ⟨i, hi, hv, hc.1.1, hc.1.2, hc.2⟩
      · simp only [Bool.not_eq_true] at hc
        simp only [hc, cond_false] at h
        cases h
    · cases h
  · cases h
theorem run_zeroValue' {v : Value} (h : zeroO P t = some v) : (zeroValue t).run P w = .ok v w := by
  obtain ⟨i, hi, hv, _⟩ := zeroO_spec h
  simp [zeroValue, run_typeInfo' hi, hv]
theorem fieldsOf_spec {fs : Array Field} (h : fieldsOf P t = some fs) : P.underlying t = some (.struct fs) := by
  unfold fieldsOf at h
  split at h
  · rename_i fs' hu; cases h; exact hu
  · cases h
end

/-! ### Operands -/
def AR (ρ : Rho) (e : Env) (ev : Operand → Value) (xs : List Operand) : Prop :=
  ∀ x ∈ xs, ∀ y v, sArg x = some y → arg e y = some v → VRel ρ v (ev x)

theorem args_rel {ρ : Rho} {e : Env} {ev : Operand → Value} : ∀ (xs : List Operand) (ys : List SArg) (l : List Value), AR ρ e ev xs → sArgs xs = some ys → args e ys = some l → LRel ρ l (xs.map ev) := by
  intro xs
  induction xs with
  | nil =>
    intro ys l _ h1 h2
    simp only [sArgs, Option.some.injEq] at h1
    subst h1
    simp only [args, Option.some.injEq] at h2
    subst h2
    exact .nil
  | cons x r ih =>
    intro ys l hA h1 h2
    simp only [sArgs] at h1
    split at h1
    · rename_i a l' ha hl'
      cases h1
      simp only [args] at h2
      split at h2
      · cases h2
      · rename_i v hv
        split at h2
        · cases h2
        · rename_i l2 hl2
          cases h2
          exact LRel.cons (hA x (by simp) _ _ ha hv) (ih _ _ (fun y hy => hA y (by simp [hy])) hl' hl2)
    · cases h1

theorem argO_rel {ρ : Rho} {e : Env} {ev : Operand → Value} {x : Option Operand} {y : Option SArg} {v : Option Value} (hA : AR ρ e ev x.toList) (h1 : sArgO x = some y) (h2 : argO e y = some v) :
    (x = none ∧ v = none ∧ y = none) ∨ ∃ x0 v0, x = some x0 ∧ v = some v0 ∧ VRel ρ v0 (ev x0) := by
  cases x with
  | none =>
    simp only [sArgO, Option.some.injEq] at h1
    subst h1
    simp only [argO, Option.some.injEq] at h2
    exact .inl ⟨rfl, h2.symm, rfl⟩
  | some x0 =>
    simp only [sArgO] at h1
    split at h1
    · rename_i a ha
      cases h1
      simp only [argO] at h2
      split at h2
      · rename_i v0 hv
        cases h2
        exact .inr ⟨x0, v0, rfl, rfl, hA x0 (by simp) _ _ ha hv⟩
      · cases h2
    · cases h1

/-! ### Reading and writing -/
theorem cell?_of {w : World} {k o : Nat} {C : Array Value} {el : TypeId} {fr : Nat × Nat} (h : w.heap[k]? = some (.cells C el fr)) : w.cell? ⟨k, o, none⟩ = C[o]? := by
  simp [World.cell?, h]

theorem frozen?_of {w : World} {k o : Nat} {C : Array Value} {el : TypeId} {fr : Nat × Nat} (h : w.heap[k]? = some (.cells C el fr)) (hf : ¬ (fr.1 ≤ o ∧ o < fr.2)) : w.frozen? ⟨k, o, none⟩ = false := by
  obtain ⟨lo, hi⟩ := fr
  simp only [World.frozen?, h]
  simpa using hf

theorem add_none (k o n : Nat) : (⟨k, o, none⟩ : Addr).add n = ⟨k, o + n, none⟩ := by
  unfold Addr.add
  split
  · simp_all
  · rfl

def putCells (C : Array Value) (o : Nat) : List Value → Array Value
  | [] => C
  | v :: l => putCells (C.setIfInBounds o v) (o + 1) l

theorem putCells_size : ∀ (l : List Value) (C : Array Value) (o : Nat), (putCells C o l).size = C.size
  | [], _, _ => rfl
  | v :: l, C, o => by rw [putCells, putCells_size l]; simp

theorem putCells_get : ∀ (l : List Value) (C : Array Value) (o i : Nat), o + l.length ≤ C.size → (putCells C o l)[i]? = if o ≤ i ∧ i < o + l.length then l[i - o]? else C[i]?
  | [], C, o, i, _ => by simp [putCells]; omega
  | v :: l, C, o, i, h => by
    simp only [List.length_cons] at h
    rw [putCells, putCells_get l _ _ _ (by simp; omega)]
    by_cases hi : i = o
    · subst hi
      rw [if_neg (by omega), if_pos (by simp)]
      simp [Array.getElem?_setIfInBounds]
      omega
    · rw [Array.getElem?_setIfInBounds_ne (Ne.symm hi)]
      by_cases h1 : o + 1 ≤ i ∧ i < o + 1 + l.length
      · rw [if_pos h1, if_pos (by simp; omega)]
        rw [show i - o = (i - (o + 1)) + 1 by omega, List.getElem?_cons_succ]
      · rw [if_neg h1, if_neg (by simp; omega)]

theorem run_storeCells' {P : Program} {k o : Nat} {el : TypeId} {fr : Nat × Nat} : ∀ (l : List Value) (i : Nat) (C : Array Value) (w : World), w.heap[k]? = some (.cells C el fr) → o + i + l.length ≤ C.size →
    (∀ j, o + i ≤ j → j < o + i + l.length → ¬ (fr.1 ≤ j ∧ j < fr.2)) → (∀ v ∈ l, v.oneCell' = true) →
    ∃ w', (storeCells ⟨k, o, none⟩ l i).run P w = .ok () w' ∧ SameIO w w' ∧ w'.heap = w.heap.setIfInBounds k (.cells (putCells C (o + i) l) el fr)
  | [], i, C, w, h, _, _, _ => by
    refine ⟨w, rfl, ⟨rfl, rfl, rfl⟩, ?_⟩
    obtain ⟨hk, hg⟩ := Array.getElem?_eq_some_iff.1 h
    apply Array.ext_getElem?
    intro j
    by_cases hj : k = j
    · subst hj; simp [putCells, hg, hk]
    · rw [Array.getElem?_setIfInBounds_ne hj]
  | v :: l, i, C, w, h, hs, hf, ho => by
    simp only [List.length_cons] at hs hf
    have hc : w.cell? ⟨k, o + i, none⟩ = some C[o + i] := by rw [cell?_of h]; exact Array.getElem?_eq_getElem (by omega)
    have hz := frozen?_of (o := o + i) h (hf (o + i) (Nat.le_refl _) (by omega))
    have hst : (store ((⟨k, o, none⟩ : Addr).add i) v).run P w = .ok () (w.setCell ⟨k, o + i, none⟩ v) := by
      rw [add_none, run_store P w _ v _ (ho v (by simp)), hc]
      simp [hz]
    have hheap : (w.setCell ⟨k, o + i, none⟩ v).heap = w.heap.setIfInBounds k (.cells (C.setIfInBounds (o + i) v) el fr) := by
      obtain ⟨hk, hg⟩ := Array.getElem?_eq_some_iff.1 h
      simp only [World.setCell]
      apply Array.ext_getElem?
      intro j
      rw [Array.getElem?_modify]
      by_cases hj : k = j
      · subst hj; simp [hg, hk]
      · rw [Array.getElem?_setIfInBounds_ne hj, if_neg hj]
    have hk := (Array.getElem?_eq_some_iff.1 h).1
    obtain ⟨w', h1, h2, h3⟩ := run_storeCells' (P := P) (k := k) (o := o) (el := el) (fr := fr) l (i + 1) (C.setIfInBounds (o + i) v) (w.setCell ⟨k, o + i, none⟩ v)
      (by rw [hheap]; simp [hk]) (by simp; omega) (fun j a b => hf j (by omega) (by omega)) (fun x hx => ho x (by simp [hx]))
    refine ⟨w', by simp only [storeCells, Sem.run_bind, hst, Result.andThen_ok]; exact h1, ⟨h2.os, h2.tape, h2.output⟩, ?_⟩
    rw [h3, hheap, putCells, show o + (i + 1) = o + i + 1 by omega]
    apply Array.ext_getElem?
    intro j
    by_cases hj : k = j
    · subst hj; simp [hk]
    · rw [Array.getElem?_setIfInBounds_ne hj, Array.getElem?_setIfInBounds_ne hj, Array.getElem?_setIfInBounds_ne hj]

section
variable {K : Nat → Prop} {W : World} {ρ : Rho} {h : Hp} {w : World} {P : Program}

theorem rd_spec {b o n : Nat} {l : List Value} (hr : rd h b o n = some l) : ∃ c sz own, h.t.get b = some (.cells c sz own) ∧ o + n ≤ c.length ∧ l = (c.drop o).take n := by
  unfold rd at hr
  split at hr
  · rename_i c sz own hb
    by_cases hle : Nat.ble (o + n) c.length
    · rw [hle] at hr
      cases hr
      exact ⟨c, sz, own, hb, by simpa using hle, rfl⟩
    · simp only [Bool.not_eq_true] at hle
      rw [hle] at hr
      cases hr
  · cases hr

/-- What a live block shows is there. -/
theorem read_rel (hR : HRel K W ρ h w) {b o n : Nat} {c : List Value} {sz : Nat} {own : Bool} {p : Pl} (hb : h.t.get b = some (.cells c sz own)) (hp : ρ b = some p) (hle : o + n ≤ c.length) :
    ∃ l', LRel ρ ((c.drop o).take n) l' ∧ l'.length = n ∧ ∀ j v, l'[j]? = some v → w.cell? ((⟨p.blk, p.off + o, none⟩ : Addr).add j) = some v := by
  obtain ⟨a1, a2, ⟨C, el, fr, b1, b2, b3, b4⟩, a4⟩ := hR.live b c sz own p hb hp
  refine ⟨((C.toList.drop (p.off + o)).take n), ⟨?_, ?_⟩, ?_, ?_⟩
  · simp; omega
  · intro i v v' hv hv'
    rw [List.getElem?_take] at hv hv'
    by_cases hi : i < n
    · simp only [hi, if_true, List.getElem?_drop] at hv hv'
      obtain ⟨u, hu1, hu2⟩ := b3 _ _ hv
      rw [Array.getElem?_toList, show p.off + o + i = p.off + (o + i) by omega, hu1] at hv'
      cases hv'
      exact hu2
    · simp [hi] at hv
  · simp; omega
  · intro j v hj
    rw [List.getElem?_take] at hj
    by_cases hi : j < n
    · simp only [hi, if_true, List.getElem?_drop] at hj
      rw [add_none, cell?_of b1]
      simpa using hj
    · simp [hi] at hj

theorem rd_rel (hR : HRel K W ρ h w) {b o n : Nat} {l : List Value} {p : Pl} (hr : rd h b o n = some l) (hp : ρ b = some p) :
    ∃ l', LRel ρ l l' ∧ (loadCells ⟨p.blk, p.off + o, none⟩ n).run P w = .ok l'.toArray w := by
  obtain ⟨c, sz, own, hb, hle, rfl⟩ := rd_spec hr
  obtain ⟨l', h1, h2, h3⟩ := read_rel hR hb hp hle
  refine ⟨l', h1, ?_⟩
  rw [← h2]
  exact run_loadCells_list w _ l' h3

theorem rd1_rel (hR : HRel K W ρ h w) {b o : Nat} {v : Value} {p : Pl} (hr : rd1 h b o = some v) (hp : ρ b = some p) :
    ∃ v', VRel ρ v v' ∧ (load ⟨p.blk, p.off + o, none⟩).run P w = .ok v' w := by
  unfold rd1 at hr
  split at hr
  · rename_i c sz own hb
    obtain ⟨a1, a2, ⟨C, el, fr, b1, b2, b3, b4⟩, a4⟩ := hR.live b c sz own p hb hp
    obtain ⟨v', h1, h2⟩ := b3 o v hr
    exact ⟨v', h2, by rw [run_load, cell?_of b1, h1]⟩
  · cases hr

theorem wr_spec {b o : Nat} {vs : List Value} {h' : Hp} (hr : wr h b o vs = some h') :
    ∃ c sz, h.t.get b = some (.cells c sz true) ∧ o + vs.length ≤ c.length ∧ vs.all oneCell = true ∧ h.held b = false ∧ h' = h.put b (.cells (c.take o ++ vs ++ c.drop (o + vs.length)) sz true) := by
  unfold wr at hr
  split at hr
  · rename_i c sz hb
    by_cases hc : Nat.ble (o + vs.length) c.length && vs.all oneCell && !h.held b
    · rw [hc] at hr
      cases hr
      simp only [Bool.and_eq_true, Bool.not_eq_true'] at hc
      exact ⟨c, sz, hb, by simpa using hc.1.1, hc.1.2, hc.2, rfl⟩
    · simp only [Bool.not_eq_true] at hc
      rw [hc] at hr
      cases hr
  · cases hr

theorem splice_get (c vs : List Value) (o i : Nat) (h : o + vs.length ≤ c.length) : (c.take o ++ vs ++ c.drop (o + vs.length))[i]? = if o ≤ i ∧ i < o + vs.length then vs[i - o]? else c[i]? := by
  have hl : (c.take o).length = o := by simp; omega
  by_cases h1 : i < o
  · rw [if_neg (by omega), List.append_assoc, List.getElem?_append_left (by omega), List.getElem?_take, if_pos h1]
  · by_cases h2 : i < o + vs.length
    · rw [if_pos (by omega), List.append_assoc, List.getElem?_append_right (by omega), List.getElem?_append_left (by omega), hl]
    · rw [if_neg (by omega), List.getElem?_append_right (by simp; omega), List.getElem?_drop]
      congr 1
      simp; omega

theorem splice_length (c vs : List Value) (o : Nat) (h : o + vs.length ≤ c.length) : (c.take o ++ vs ++ c.drop (o + vs.length)).length = c.length := by
  simp; omega

theorem wr_rel (hR : HRel K W ρ h w) {b o : Nat} {vs vs' : List Value} {h' : Hp} {p : Pl} (hr : wr h b o vs = some h') (hp : ρ b = some p) (hv : LRel ρ vs vs') :
    ∃ w', (storeCells ⟨p.blk, p.off + o, none⟩ vs').run P w = .ok () w' ∧ HRel K W ρ h' w' ∧ Fr ρ h h' := by
  obtain ⟨c, sz, hb, hle, hone, hheld, rfl⟩ := wr_spec hr
  obtain ⟨a1, a2, ⟨C, el, fr, b1, b2, b3, b4⟩, a4⟩ := hR.live b c sz true p hb hp
  obtain ⟨c1, c2, c3⟩ := b4 rfl
  have hlen := hv.1
  obtain ⟨w', h1, h2, h3⟩ := run_storeCells' (P := P) (k := p.blk) (o := p.off + o) (el := el) (fr := fr) vs' 0 C w b1 (by omega)
    (fun j x y => c3 j (by omega) (by omega)) (oneCells_rel hv hone)
  refine ⟨w', h1, hR.write h2 hb hp _ C _ el fr b1 (putCells_size _ _ _) (splice_length c vs o hle) h3 (fun i v hi => ?_), Fr.put hp hheld _⟩
  rw [splice_get c vs o i hle] at hi
  rw [putCells_get _ _ _ _ (by omega)]
  by_cases hin : o ≤ i ∧ i < o + vs.length
  · rw [if_pos hin] at hi
    rw [if_pos (by omega)]
    obtain ⟨v', g1, g2⟩ := hv.get hi
    exact ⟨v', by rw [show p.off + i - (p.off + o + 0) = i - o by omega]; exact g1, g2⟩
  · rw [if_neg hin] at hi
    rw [if_neg (by omega)]
    exact b3 i v hi

theorem wr1_wr {b o : Nat} {v : Value} {h' : Hp} (hr : wr1 h b o v = some h') : ∃ c sz, h.t.get b = some (.cells c sz true) ∧ o + 1 ≤ c.length ∧ oneCell v = true ∧ h.held b = false ∧ h' = h.put b (.cells (c.set o v) sz true) := by
  unfold wr1 at hr
  split at hr
  · rename_i c sz hb
    by_cases hc : Nat.blt o c.length && oneCell v && !h.held b
    · rw [hc] at hr
      cases hr
      simp only [Bool.and_eq_true, Bool.not_eq_true'] at hc
      refine ⟨c, sz, hb, ?_, hc.1.2, hc.2, rfl⟩
      have := hc.1.1
      unfold Nat.blt at this
      simpa using this
    · simp only [Bool.not_eq_true] at hc
      rw [hc] at hr
      cases hr
  · cases hr

theorem wr1_rel (hR : HRel K W ρ h w) {b o : Nat} {v v' : Value} {h' : Hp} {p : Pl} (hr : wr1 h b o v = some h') (hp : ρ b = some p) (hv : VRel ρ v v') :
    ∃ w', (storeCells ⟨p.blk, p.off + o, none⟩ [v']).run P w = .ok () w' ∧ HRel K W ρ h' w' ∧ Fr ρ h h' := by
  obtain ⟨c, sz, hb, hle, hone, hheld, rfl⟩ := wr1_wr hr
  have hw : wr h b o [v] = some (h.put b (.cells (c.set o v) sz true)) := by
    have hl : Nat.ble (o + 1) c.length = true := by simpa using hle
    simp only [wr, hb, List.length_singleton, hl, List.all_cons, List.all_nil, hone, hheld]
    simp only [Bool.and_true, Bool.not_false, cond_true]
    congr 4
    apply List.ext_getElem?
    intro i
    have hsg := splice_get c [v] o i (by simpa using hle)
    rw [List.length_singleton] at hsg
    rw [hsg, List.getElem?_set]
    by_cases hi : o = i
    · subst hi
      simp; omega
    · rw [if_neg (by simp; omega), if_neg hi]
  exact wr_rel hR hw hp (LRel.cons hv .nil)
end
end Go.Eng
