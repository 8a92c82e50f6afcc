/- What stays true behind each deed. -/
import Derived.Test.YtdafdampodbobaaSeatPureA
namespace Go.Eng
set_option linter.unusedSimpArgs false
set_option linter.unusedVariables false

structure Inv (k : Nat) (S : LS) : Prop where
  nf : Nf S.tree
  nd : (ids S.tree).Nodup
  lo : ∀ i ∈ ids S.tree, 0 < i ∧ i ≤ S.last
  lk : S.last ≤ k + 1
  hr : S.here ∈ ids S.tree
  le : (ids S.tree).length ≤ 16
  rr : 2 ≤ S.rows ∧ S.rows ≤ 500
  cc : 2 ≤ S.cols ∧ S.cols ≤ 1000

theorem clampR_range (n : Int) : 2 ≤ clampR n ∧ clampR n ≤ 500 := by unfold clampR; repeat' split <;> omega
theorem clampC_range (n : Int) : 2 ≤ clampC n ∧ clampC n ≤ 1000 := by unfold clampC; repeat' split <;> omega

section
variable {k : Nat} {S : LS}

theorem Inv.mono {k' : Nat} (h : Inv k S) (hk : k ≤ k') : Inv k' S := ⟨h.nf, h.nd, h.lo, by have := h.lk; omega, h.hr, h.le, h.rr, h.cc⟩
theorem Inv.ok (h : Inv k S) : LOk S := ⟨nf_good _ h.nf, by have := h.le; omega⟩
theorem Inv.sm (h : Inv k S) : (ids S.tree).length ≤ 500 := by have := h.le; omega
theorem Inv.ic (h : Inv k S) : InR S.cols := by have := h.cc; unfold InR; omega
theorem Inv.alen (h : Inv k S) : (area S).length = (ids S.tree).length := area_length S
theorem Inv.new (r c : Int) : Inv 0 ⟨.win 1, 1, 1, clampR r, clampC c⟩ :=
  ⟨by simp [Nf], by simp [ids], by simp [ids], by simp, by simp [ids], by simp [ids], clampR_range r, clampC_range c⟩
theorem Inv.size (h : Inv k S) (r c : Int) : Inv k { S with rows := clampR r, cols := clampC c } := ⟨h.nf, h.nd, h.lo, h.lk, h.hr, h.le, clampR_range r, clampC_range c⟩
theorem Inv.here (h : Inv k S) {i : Int} (hi : i ∈ ids S.tree) : Inv k { S with here := i } := ⟨h.nf, h.nd, h.lo, h.lk, hi, h.le, h.rr, h.cc⟩
theorem Inv.only (h : Inv k S) : Inv k (onlyS S) :=
  ⟨by simp [onlyS, Nf], by simp [onlyS, ids], by simp only [onlyS, ids, List.mem_singleton, forall_eq]; exact h.lo _ h.hr, h.lk, by simp [onlyS, ids], by simp [onlyS, ids], h.rr, h.cc⟩
theorem Inv.focus (h : Inv k S) (i : Int) : Inv k (focusS S i) := by
  unfold focusS
  split
  · exact h
  · rename_i hi
    exact h.here (by rw [idxId_neg] at hi; simpa using hi)

theorem rpl_out (id : Int) (by' : List Tr) (l : List Int) (h : id ∉ l) : l.flatMap (rpl id by') = l := by
  induction l with
  | nil => rfl
  | cons i l ih =>
    simp only [List.mem_cons, not_or] at h
    rw [List.flatMap_cons, ih h.2, rpl, if_neg (fun hx => h.1 hx.symm)]
    rfl
theorem rpl_at (id : Int) (by' : List Tr) {l : List Int} (hn : l.Nodup) (h : id ∈ l) : ∃ a b, l = a ++ id :: b ∧ id ∉ a ∧ id ∉ b ∧ l.flatMap (rpl id by') = a ++ idss by' ++ b := by
  obtain ⟨a, b, rfl⟩ := List.append_of_mem h
  rw [List.nodup_append, List.nodup_cons] at hn
  have ha : id ∉ a := fun hx => hn.2.2 id hx id (by simp) rfl
  have hb : id ∉ b := hn.2.1.1
  refine ⟨a, b, rfl, ha, hb, ?_⟩
  rw [List.flatMap_append, List.flatMap_cons, rpl_out id by' a ha, rpl_out id by' b hb, rpl, if_pos rfl, List.append_assoc]

theorem Inv.next (h : Inv k S) (hk : k ≤ 1000) : w64 (S.last + 1) = S.last + 1 := by
  have h1 := h.lk
  have h2 := h.lo _ h.hr
  exact w64_id (by omega) (by omega)

theorem Inv.pos (h : Inv k S) : ∀ i ∈ ids S.tree, 0 < i := fun i hi => (h.lo i hi).1

/-! ### Split -/
theorem Inv.split_tree (h : Inv k S) (hk : k ≤ 1000) (side : Bool) : splitTree S side = [rsplitT S side] := by
  have hn := h.next hk
  have h0 := h.lo _ h.hr
  have hb := put_wth (by_pair (side := side) (S := S) (h.pos _ h.hr) (by rw [hn]; omega)) S.here S.tree h.pos
  rcases hb with ⟨hb, _⟩ | ⟨hb, _⟩
  · exfalso
    have hi := wth_ids S.here [pairG S side] S.tree
    obtain ⟨a, b, _, _, _, he⟩ := rpl_at S.here [pairG S side] h.nd h.hr
    rw [hb, he] at hi
    simp [idss, ids, pairG] at hi
  · exact hb

theorem Inv.split_ids (h : Inv k S) (hk : k ≤ 1000) (side : Bool) : ∃ a b, ids S.tree = a ++ S.here :: b ∧ ids (rsplitT S side) = a ++ S.here :: (S.last + 1) :: b := by
  obtain ⟨a, b, h1, _, _, he⟩ := rpl_at S.here [pairG S side] h.nd h.hr
  refine ⟨a, b, h1, ?_⟩
  have hi := wth_ids S.here [pairG S side] S.tree
  have ht := h.split_tree hk side
  unfold splitTree at ht
  rw [ht, he] at hi
  simpa [idss, ids, pairG, h.next hk] using hi

theorem Inv.split (h : Inv k S) (hk : k ≤ 1000) (side : Bool) : Inv (k + 1) (rsplitS S side) := by
  unfold rsplitS
  split
  · rename_i hs
    have hn := h.next hk
    have ht := h.split_tree hk side
    obtain ⟨a, b, h1, h2⟩ := h.split_ids hk side
    have hnd := h.nd
    have hlo := h.lo
    have hk1 := h.lk
    rw [h1] at hnd hlo
    rw [List.nodup_append, List.nodup_cons] at hnd
    have ha : ∀ i ∈ a, 0 < i ∧ i ≤ S.last := fun i hi => hlo i (by simp [hi])
    have hb : ∀ i ∈ b, 0 < i ∧ i ≤ S.last := fun i hi => hlo i (by simp [hi])
    have hh : 0 < S.here ∧ S.here ≤ S.last := hlo _ (by simp)
    refine ⟨?_, ?_, ?_, ?_, ?_, ?_, h.rr, h.cc⟩
    · refine wth_nf S.here (by' := [pairG S side]) (fun v hv => ?_) S.tree h.nf _ (show rsplitT S side ∈ splitTree S side by rw [ht]; simp)
      rw [List.mem_singleton] at hv
      subst hv
      simp [pairG, Nf, Nfs, Other]
    · show (ids (rsplitT S side)).Nodup
      rw [h2, List.nodup_append, List.nodup_cons, List.nodup_cons]
      refine ⟨hnd.1, ⟨?_, ?_, hnd.2.1.2⟩, ?_⟩
      · rw [List.mem_cons, not_or]
        exact ⟨by omega, hnd.2.1.1⟩
      · exact fun hx => by have := hb _ hx; omega
      · intro i hi j hj
        rw [List.mem_cons, List.mem_cons] at hj
        have := ha i hi
        rcases hj with rfl | rfl | hj
        · exact hnd.2.2 i hi _ (by simp)
        · omega
        · exact hnd.2.2 i hi j (by simp [hj])
    · show ∀ i ∈ ids (rsplitT S side), 0 < i ∧ i ≤ w64 (S.last + 1)
      rw [h2, hn]
      intro i hi
      simp only [List.mem_append, List.mem_cons] at hi
      rcases hi with hi | rfl | rfl | hi
      · have := ha i hi; omega
      · omega
      · omega
      · have := hb i hi; omega
    · show w64 (S.last + 1) ≤ (k + 1 : Nat) + 1
      rw [hn]
      omega
    · show w64 (S.last + 1) ∈ ids (rsplitT S side)
      rw [h2, hn]
      simp
    · show (ids (rsplitT S side)).length ≤ 16
      rw [splitOk, area_length] at hs
      simp only [Bool.not_eq_true', Bool.or_eq_false_iff, decide_eq_false_iff_not] at hs
      have := hs.1
      simp only [setTree] at this
      omega
  · exact h.mono (by omega)

theorem Inv.split_same (h : Inv k S) (hk : k ≤ 1000) (side : Bool) : splitS S side = rsplitS S side ∧ splitA S side = rsplitA S side := by
  have ht := h.split_tree hk side
  simp only [splitS, splitA, rsplitS, rsplitA, ht, and_self]

/-! ### Close -/
theorem Inv.close_ids (h : Inv k S) {id : Int} (hi : id ∈ ids S.tree) (hl : (ids S.tree).length ≠ 1) : wth id [] S.tree = [rcloseT S id] ∧ ∃ a b, ids S.tree = a ++ id :: b ∧ ids (rcloseT S id) = a ++ b := by
  obtain ⟨a, b, h1, _, _, he⟩ := rpl_at id [] h.nd hi
  have hw := wth_ids id [] S.tree
  have hb := put_wth by_none id S.tree h.pos
  rw [he] at hw
  rcases hb with ⟨hb, _⟩ | ⟨hb, _⟩
  · exfalso
    rw [hb] at hw
    rw [h1] at hl
    have h0 := congrArg List.length hw
    simp only [idss, List.length_nil, List.length_append] at h0
    simp only [List.length_append, List.length_cons] at hl
    omega
  · refine ⟨hb, a, b, h1, ?_⟩
    rw [hb] at hw
    simpa [idss, rcloseT] using hw

theorem close_one (h : Inv k S) {id : Int} (hi : id ∈ ids S.tree) (hl : (ids S.tree).length = 1) : wth id [] S.tree = [] := by
  obtain ⟨a, b, h1, _, _, he⟩ := rpl_at id [] h.nd hi
  have hw := wth_ids id [] S.tree
  rw [h1] at hl
  have ha : a = [] := List.eq_nil_of_length_eq_zero (by simp at hl; omega)
  have hb : b = [] := List.eq_nil_of_length_eq_zero (by simp at hl; omega)
  subst ha
  subst hb
  rw [he] at hw
  have hg := wth_good id [] (by simp [Goods]) S.tree (nf_good _ h.nf)
  have h2 := idss_len _ hg
  rw [hw] at h2
  exact List.eq_nil_of_length_eq_zero (by simpa [idss] using h2)

theorem Inv.close_same (h : Inv k S) (id : Int) : closeS S id = rcloseS S id ∧ closeA S id = rcloseA S id := by
  unfold closeS rcloseS closeA rcloseA
  by_cases hx : idxId (area S) id < 0
  · simp only [hx, if_true, and_self]
  · simp only [hx, if_false]
    have hi : id ∈ ids S.tree := by rw [idxId_neg] at hx; simpa using hx
    by_cases hl : (ids S.tree).length = 1
    · have := close_one h hi hl
      rw [h.alen]
      simp only [this, hl, if_true, and_self]
    · have := (h.close_ids hi hl).1
      rw [h.alen]
      simp only [this, hl, if_false, and_self]

/-- There is one ahead, or the first one. -/
theorem Inv.close_ix (h : Inv k S) {id : Int} (hx : ¬ idxId (area S) id < 0) (hl : (area S).length ≠ 1) : (pred (idxId (area S) id)).toNat < (area (setTree S (rcloseT S id))).length := by
  have hi : id ∈ ids S.tree := by rw [idxId_neg] at hx; simpa using hx
  rw [h.alen] at hl
  obtain ⟨_, a, b, h1, h2⟩ := h.close_ids hi hl
  obtain ⟨j, hj, hjl, _⟩ := idxId_in hi
  have hle := h.le
  rw [h.alen, h1] at hjl
  rw [h1] at hl hle
  rw [hj, area_length]
  simp only [setTree, h2, List.length_append, List.length_cons] at *
  unfold pred
  rw [w64_id (by omega) (by omega)]
  split <;> omega

theorem Inv.close_tree (h : Inv k S) {id : Int} (hi : id ∈ ids S.tree) (hl : (ids S.tree).length ≠ 1) {hh : Int} (hm : hh ∈ ids (rcloseT S id)) : Inv k { S with tree := rcloseT S id, here := hh } := by
  obtain ⟨hw, a, b, h1, h2⟩ := h.close_ids hi hl
  have hnd := h.nd
  have hlo := h.lo
  have hle := h.le
  rw [h1] at hnd hlo hle
  rw [List.nodup_append, List.nodup_cons] at hnd
  refine ⟨?_, ?_, ?_, h.lk, hm, ?_, h.rr, h.cc⟩
  · exact wth_nf id (by' := []) (by simp) S.tree h.nf _ (show rcloseT S id ∈ wth id [] S.tree by rw [hw]; simp)
  · show (ids (rcloseT S id)).Nodup
    rw [h2, List.nodup_append]
    exact ⟨hnd.1, hnd.2.1.2, fun i hi j hj => hnd.2.2 i hi j (by simp [hj])⟩
  · show ∀ i ∈ ids (rcloseT S id), 0 < i ∧ i ≤ S.last
    rw [h2]
    intro i hi
    refine hlo i ?_
    simp only [List.mem_append, List.mem_cons] at hi ⊢
    rcases hi with hi | hi
    · exact .inl hi
    · exact .inr (.inr hi)
  · show (ids (rcloseT S id)).length ≤ 16
    rw [h2]
    simp only [List.length_append, List.length_cons] at hle ⊢
    omega

theorem Inv.close (h : Inv k S) (id : Int) : Inv k (rcloseS S id) := by
  unfold rcloseS
  by_cases hx : idxId (area S) id < 0
  · simp only [hx, if_true]; exact h
  by_cases hl : (area S).length = 1
  · simp only [hx, hl, if_true, if_false]; exact h
  have hix := h.close_ix hx hl
  have hi : id ∈ ids S.tree := by rw [idxId_neg] at hx; simpa using hx
  have hl' : (ids S.tree).length ≠ 1 := by rw [← h.alen]; exact hl
  obtain ⟨_, a, b, h1, h2⟩ := h.close_ids hi hl'
  simp only [hx, hl, if_false]
  split
  · exact h.close_tree hi hl' (idAt_mem hix)
  · rename_i hid
    refine h.close_tree hi hl' ?_
    have := h.hr
    rw [h1] at this
    rw [h2]
    simp only [List.mem_append, List.mem_cons] at this ⊢
    rcases this with h3 | h3 | h3
    · exact .inl h3
    · exact absurd h3.symm hid
    · exact .inr h3

/-! ### Go -/
theorem go_same {n : Nat} {a b : Int} (hn : 0 < n) (hn2 : n ≤ 1000) (h0 : 0 ≤ a) (h1 : a < n) : goI n a b = rgoI n a b ∧ 0 ≤ rgoI n a b ∧ rgoI n a b < n := by
  obtain ⟨r1, r2⟩ := tmod_range b n hn
  unfold goI rgoI
  generalize b.tmod ↑n = c at *
  have w1 : w64 (a + c) = a + c := w64_id (by omega) (by omega)
  have w2 : w64 (a + c + n) = a + c + n := w64_id (by omega) (by omega)
  rw [w1, w2]
  have e1 : (a + c + ↑n).tmod ↑n = (a + c + n) % n := Int.tmod_eq_emod_of_nonneg (by omega)
  have e2 : (a + c + ↑n) % ↑n = (a + c) % n := by rw [Int.add_emod_right]
  have e3 : 0 ≤ (a + c) % (n : Int) := Int.emod_nonneg _ (by omega)
  have e4 : (a + c) % (n : Int) < n := Int.emod_lt_of_pos _ (by omega)
  rw [e1, e2]
  refine ⟨?_, e3, e4⟩
  by_cases hneg : 0 ≤ a + c
  · rw [Int.tmod_eq_emod_of_nonneg hneg, if_neg (by omega)]
  · have e5 : (a + c).tmod ↑n = a + c := by
      rw [show a + c = -(-(a + c)) by omega, Int.neg_tmod, Int.tmod_eq_of_lt (by omega) (by omega)]
    rw [e5, if_pos (by omega), w2]
    rw [← e2, Int.emod_eq_of_lt (by omega) (by omega)]

theorem Inv.go_same (h : Inv k S) (b : Int) : goS S b = rgoS S b ∧ 0 ≤ rgoI (area S).length (idxId (area S) S.here) b ∧ rgoI (area S).length (idxId (area S) S.here) b < (area S).length := by
  obtain ⟨j, hj, hjl, _⟩ := idxId_in h.hr
  have := h.le
  have hl := h.alen
  have hg := Eng.go_same (n := (area S).length) (a := idxId (area S) S.here) (b := b) (by omega) (by omega) (by omega) (by omega)
  refine ⟨?_, hg.2⟩
  unfold goS rgoS
  rw [hg.1]

theorem Inv.go (h : Inv k S) (b : Int) : Inv k (rgoS S b) := by
  have hg := h.go_same b
  exact h.here (idAt_mem (by omega))
end
end Go.Eng
