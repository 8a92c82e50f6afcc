/- Resize comes to an end, and both ways to the same one. -/
import Derived.Test.YtdafdampodbobaaSeatPureB
namespace Go.Eng
set_option linter.unusedSimpArgs false
set_option linter.unusedVariables false

theorem idAt_last (l : List Wn) (z : Wn) : idAt (l ++ [z]) ((l ++ [z]).length - 1) = z.id := by simp [idAt]
theorem idAt_last2 (l : List Wn) (y z : Wn) : idAt (l ++ [y] ++ [z]) ((l ++ [y] ++ [z]).length - 2) = y.id := by simp [idAt]

theorem last_other (l : List Wn) (here : Int) (hn : (l.map Wn.id).Nodup) (hh : here ∈ l.map Wn.id) (h2 : 2 ≤ l.length) :
    0 < (keepL (fun w => decide (w.id = here)) l).length ∧
    idAt (keepL (fun w => decide (w.id = here)) l) ((keepL (fun w => decide (w.id = here)) l).length - 1) = (if idAt l (l.length - 1) = here then idAt l (l.length - 2) else idAt l (l.length - 1)) ∧
    (if idAt l (l.length - 1) = here then idAt l (l.length - 2) else idAt l (l.length - 1)) ≠ here ∧
    (if idAt l (l.length - 1) = here then idAt l (l.length - 2) else idAt l (l.length - 1)) ∈ l.map Wn.id := by
  rcases List.eq_nil_or_concat l with rfl | ⟨init, z, rfl⟩
  · simp at h2
  simp only [List.concat_eq_append] at *
  rw [List.map_append, List.nodup_append] at hn
  rw [idAt_last]
  by_cases hz : z.id = here
  · simp only [hz, if_true]
    rcases List.eq_nil_or_concat init with rfl | ⟨init2, y, rfl⟩
    · simp at h2
    simp only [List.concat_eq_append] at *
    rw [idAt_last2]
    have hout : ∀ w ∈ init2 ++ [y], decide (w.id = here) = false := by
      intro w hw
      rw [decide_eq_false_iff_not]
      intro hx
      exact hn.2.2 w.id (List.mem_map.2 ⟨w, hw, rfl⟩) z.id (by simp) (hx.trans hz.symm)
    have hk : keepL (fun w => decide (w.id = here)) (init2 ++ [y] ++ [z]) = init2 ++ [y] := by
      unfold keepL
      rw [List.filter_append, List.filter_eq_self.2 (fun w hw => by show (!decide (w.id = here)) = true; rw [hout w hw]; rfl)]
      simp [hz]
    rw [hk, idAt_last]
    refine ⟨by simp, rfl, ?_, by simp⟩
    have := hout y (by simp)
    simpa using this
  · simp only [hz, if_false]
    have hk : keepL (fun w => decide (w.id = here)) (init ++ [z]) = keepL (fun w => decide (w.id = here)) init ++ [z] := by
      unfold keepL
      rw [List.filter_append]
      simp [hz]
    rw [hk, idAt_last]
    exact ⟨by simp, rfl, hz, by simp⟩

section
variable {k : Nat} {S : LS}

theorem Inv.last (h : Inv k S) (h2 : 2 ≤ (area S).length) : 0 < (others S).length ∧ lastId S = rlast S ∧ rlast S ≠ S.here ∧ rlast S ∈ ids S.tree := by
  have := last_other (area S) S.here (by rw [area_ids]; exact h.nd) (by rw [area_ids]; exact h.hr) h2
  rw [area_ids] at this
  exact this

theorem Inv.close_less (h : Inv k S) {id : Int} (hi : id ∈ ids S.tree) (hl : (ids S.tree).length ≠ 1) : (ids (rcloseS S id).tree).length + 1 = (ids S.tree).length := by
  obtain ⟨_, a, b, h1, h2⟩ := h.close_ids hi hl
  have hx : ¬ idxId (area S) id < 0 := by rw [idxId_neg]; simpa using hi
  have ht : (rcloseS S id).tree = rcloseT S id := by
    unfold rcloseS
    rw [h.alen]
    simp only [hx, hl, if_false]
    split <;> rfl
  rw [ht, h2, h1]
  simp only [List.length_append, List.length_cons]
  omega

theorem shrinks : ∀ (m : Nat) {S : LS}, Inv k S → (ids S.tree).length ≤ m → ∃ n S', n ≤ m ∧ RL n S S' ∧ RR n S S' ∧ Inv k S' := by
  intro m
  induction m with
  | zero =>
    intro S h hm
    have := ids_pos S.tree (nf_good _ h.nf)
    omega
  | succ m ih =>
    intro S h hm
    cases hf : fitsL (area S) with
    | true => exact ⟨0, S, by omega, .stop S h.ok hf, .stop S h.ok h.ic hf, h⟩
    | false =>
      have hne : (area S).length ≠ 1 := by
        intro h1
        simp [fitsL, h1] at hf
      have hpos := wins_pos h.ok
      have h2 : 2 ≤ (area S).length := by omega
      obtain ⟨l1, l2, l3, l4⟩ := h.last h2
      have hl : (ids S.tree).length ≠ 1 := by rw [← h.alen]; exact hne
      have hc := (h.close_same (rlast S)).1
      have hless := h.close_less l4 hl
      obtain ⟨n, S', hn, r1, r2, hi⟩ := ih (h.close (rlast S)) (by omega)
      refine ⟨n + 1, S', by omega, .step n S S' h.ok h.sm hf l1 (fun _ _ _ hh => absurd (l2 ▸ hh) l3) (by rw [l2, hc]; exact r1), .step n S S' h.ok h.ic h.sm hf h2 (fun hh => absurd hh l3) r2, hi⟩
end
end Go.Eng
