/- Both ways to split and to close come to the same tree. -/
import Derived.Test.YtdafdampodbobaaSeatRefI
namespace Go.Eng
set_option linter.unusedSimpArgs false
set_option linter.unusedVariables false

theorem idss_mem (l : List Tr) (i : Int) : i ∈ idss l ↔ ∃ t ∈ l, i ∈ ids t := by
  induction l with
  | nil => simp [idss]
  | cons t l ih => simp only [idss, List.mem_append, ih, List.mem_cons, exists_eq_or_imp]

def rpl (id : Int) (by' : List Tr) (i : Int) : List Int := if i = id then idss by' else [i]

mutual
theorem wth_ids (id : Int) (by' : List Tr) : ∀ t, idss (wth id by' t) = (ids t).flatMap (rpl id by')
  | .win i => by
    rw [wth, ids]
    simp only [List.flatMap_cons, List.flatMap_nil, List.append_nil, rpl]
    split
    · rfl
    · simp [idss, ids]
  | .grp side ks => by
    rw [wth, ids_wrap, ids]
    exact wths_ids id by' side ks
theorem wths_ids (id : Int) (by' : List Tr) (side : Bool) : ∀ l, idss (wths id by' side l) = (idss l).flatMap (rpl id by')
  | [] => by simp [wths, idss]
  | t :: r => by rw [wths, idss_append, ids_flat, idss, List.flatMap_append, wth_ids id by' t, wths_ids id by' side r]
end

/-- All numbers are above 0. -/
def Pos (l : List Tr) : Prop := ∀ i ∈ idss l, 0 < i

theorem pos_one {t : Tr} : Pos [t] ↔ ∀ i ∈ ids t, 0 < i := by simp [Pos, idss]
theorem pos_app {a b : List Tr} : Pos (a ++ b) ↔ Pos a ∧ Pos b := by
  unfold Pos
  simp only [idss_append, List.mem_append]
  exact ⟨fun h => ⟨fun i hi => h i (.inl hi), fun i hi => h i (.inr hi)⟩, fun h i hi => hi.elim (h.1 i) (h.2 i)⟩
theorem pos_flat (side : Bool) {l : List Tr} : Pos (flat side l) ↔ Pos l := by unfold Pos; rw [ids_flat]
theorem pos_wrap (side : Bool) {l : List Tr} : Pos (wrap side l) ↔ Pos l := by unfold Pos; rw [ids_wrap]

theorem into_flat (side : Bool) {u : Tr} (hp : Pos [u]) : into side u = flat side [u] := by
  rw [pos_one] at hp
  cases u with
  | win i =>
    have : 0 < i := hp i (by simp [ids])
    simp [into, flat, flat1, this]
  | grp s ks => simp only [into, flat, flat1, List.append_nil]

/-- What is put, and by what. -/
def PutBy (x : Tr) (by' : List Tr) : Prop := (by' = [] ∧ plainT x = .win 0) ∨ (by' = [plainT x] ∧ Pos by')

/-- Both ways. -/
def Both (a : Tr) (l : List Tr) : Prop := (l = [] ∧ a = .win 0) ∨ (l = [a] ∧ Pos l)

theorem both_flat {a : Tr} {l : List Tr} (side : Bool) (h : Both a l) : into side a = flat side l := by
  rcases h with ⟨rfl, rfl⟩ | ⟨rfl, hp⟩
  · simp [into, flat]
  · exact into_flat side hp

theorem packT_wrap (side : Bool) (l : List Tr) (hp : Pos l) : Both (packT side l) (wrap side l) := by
  match l, hp with
  | [], _ => exact .inl ⟨rfl, rfl⟩
  | [x], hp => exact .inr ⟨by simp [wrap, packT], by simpa [wrap] using hp⟩
  | x :: y :: l, hp => exact .inr ⟨by simp [wrap, packT], by rw [pos_wrap]; exact hp⟩

mutual
theorem put_wth {x : Tr} {by' : List Tr} (hx : PutBy x by') (id : Int) : ∀ t, (∀ i ∈ ids t, 0 < i) → Both (plainT (putT id x t)) (wth id by' t)
  | .win i, hp => by
    rw [putT, wth]
    split
    · rcases hx with ⟨rfl, hx⟩ | ⟨hx, hp'⟩
      · exact .inl ⟨rfl, hx⟩
      · exact .inr ⟨hx, hp'⟩
    · exact .inr ⟨by rw [plainT], by rw [pos_one]; exact hp⟩
  | .grp side ks, hp => by
    rw [ids] at hp
    have h := puts_wths hx id side ks hp
    rw [putT, wth, plainT, h.1]
    exact packT_wrap side _ h.2
theorem puts_wths {x : Tr} {by' : List Tr} (hx : PutBy x by') (id : Int) (side : Bool) : ∀ l, (∀ i ∈ idss l, 0 < i) → plains side (putTs id x l) = wths id by' side l ∧ Pos (wths id by' side l)
  | [], _ => by simp [putTs, plains, wths, Pos, idss]
  | t :: r, hp => by
    rw [idss] at hp
    have h1 := put_wth hx id t (fun i hi => hp i (List.mem_append_left _ hi))
    have h2 := puts_wths hx id side r (fun i hi => hp i (List.mem_append_right _ hi))
    rw [putTs, plains, wths, both_flat side h1, h2.1]
    refine ⟨rfl, pos_app.2 ⟨(pos_flat side).2 ?_, h2.2⟩⟩
    rcases h1 with ⟨h1, _⟩ | ⟨_, h1⟩
    · rw [h1]; simp [Pos, idss]
    · exact h1
end

theorem by_none : PutBy (.win 0) [] := .inl ⟨rfl, by rw [plainT]⟩
theorem by_pair {S : LS} {side : Bool} (h1 : 0 < S.here) (h2 : 0 < w64 (S.last + 1)) : PutBy (pairG S side) [pairG S side] := by
  have hp : plainT (pairG S side) = pairG S side := by simp [pairG, plainT, plains, into, h1, h2, packT]
  refine .inr ⟨by rw [hp], ?_⟩
  rw [pos_one]
  simp only [pairG, ids, idss, List.append_nil, List.singleton_append, List.mem_cons, List.not_mem_nil, or_false]
  rintro i (rfl | rfl) <;> assumption

/-! ### The form of trees -/
def Other (side : Bool) : Tr → Prop
  | .win _ => True
  | .grp s _ => s ≠ side
mutual
/-- Groups have two trees or more, none of their own kind. -/
def Nf : Tr → Prop
  | .win _ => True
  | .grp side ks => 2 ≤ ks.length ∧ Nfs side ks
def Nfs (side : Bool) : List Tr → Prop
  | [] => True
  | t :: r => Nf t ∧ Other side t ∧ Nfs side r
end

theorem nfs_mem (side : Bool) (l : List Tr) : Nfs side l ↔ ∀ t ∈ l, Nf t ∧ Other side t := by
  induction l with
  | nil => simp [Nfs]
  | cons t l ih => simp only [Nfs, ih, List.mem_cons, forall_eq_or_imp, and_assoc]

mutual
theorem nf_good : ∀ t, Nf t → Good t
  | .win _, _ => by simp [Good]
  | .grp side ks, h => by
    rw [Nf] at h
    rw [Good]
    exact ⟨fun hx => by rw [hx] at h; simp at h, nfs_good side ks h.2⟩
theorem nfs_good (side : Bool) : ∀ l, Nfs side l → Goods l
  | [], _ => by simp [Goods]
  | t :: r, h => by
    rw [Nfs] at h
    rw [Goods]
    exact ⟨nf_good t h.1, nfs_good side r h.2.2⟩
end

theorem flat1_nf (side : Bool) {u : Tr} (h : Nf u) : ∀ v ∈ flat1 side u, Nf v ∧ Other side v := by
  cases u with
  | win i =>
    intro v hv
    simp only [flat1, List.mem_singleton] at hv
    subst hv
    exact ⟨h, trivial⟩
  | grp s ks =>
    intro v hv
    simp only [flat1] at hv
    split at hv
    · rename_i hs
      subst hs
      rw [Nf] at h
      exact (nfs_mem s ks).1 h.2 v hv
    · rename_i hs
      rw [List.mem_singleton] at hv
      subst hv
      exact ⟨h, hs⟩
theorem flat_mem (side : Bool) (l : List Tr) (v : Tr) : v ∈ flat side l ↔ ∃ u ∈ l, v ∈ flat1 side u := by
  induction l with
  | nil => simp [flat]
  | cons u l ih => simp only [flat, List.mem_append, ih, List.mem_cons, exists_eq_or_imp]

theorem wrap_nf (side : Bool) {l : List Tr} (h : ∀ v ∈ l, Nf v ∧ Other side v) : ∀ v ∈ wrap side l, Nf v := by
  unfold wrap
  split
  · exact fun v hv => (h v hv).1
  · intro v hv
    rw [List.mem_singleton] at hv
    subst hv
    rw [Nf]
    exact ⟨by omega, (nfs_mem side l).2 h⟩

mutual
theorem wth_nf (id : Int) {by' : List Tr} (hb : ∀ v ∈ by', Nf v) : ∀ t, Nf t → ∀ v ∈ wth id by' t, Nf v
  | .win i, h => by
    rw [wth]
    split
    · exact hb
    · intro v hv
      rw [List.mem_singleton] at hv
      subst hv
      exact h
  | .grp side ks, h => by
    rw [Nf] at h
    rw [wth]
    exact wrap_nf side (wths_nf id hb side ks h.2)
theorem wths_nf (id : Int) {by' : List Tr} (hb : ∀ v ∈ by', Nf v) (side : Bool) : ∀ l, Nfs side l → ∀ v ∈ wths id by' side l, Nf v ∧ Other side v
  | [], _ => by simp [wths]
  | t :: r, h => by
    rw [Nfs] at h
    rw [wths]
    intro v hv
    rw [List.mem_append, flat_mem] at hv
    rcases hv with ⟨u, hu, hv⟩ | hv
    · exact flat1_nf side (wth_nf id hb t h.1 u hu) v hv
    · exact wths_nf id hb side r h.2.2 v hv
end

/-! ### Places -/
mutual
theorem plc_ids : ∀ (t : Tr) (top left rows cols : Int), (plc t top left rows cols).map Wn.id = ids t
  | .win _, _, _, _, _ => by simp [plc, ids]
  | .grp side ks, top, left, rows, cols => by rw [plc, ids]; exact plcs_ids side ks.length ks 0 top left rows cols
theorem plcs_ids (side : Bool) (k : Nat) : ∀ (l : List Tr) (i : Nat) (top left rows cols : Int), (plcs side k l i top left rows cols).map Wn.id = idss l
  | [], _, _, _, _, _ => by simp [plcs, idss]
  | t :: r, i, top, left, rows, cols => by rw [plcs, idss, List.map_append, plc_ids t, plcs_ids side k r]
end
theorem area_ids (S : LS) : (area S).map Wn.id = ids S.tree := plc_ids _ _ _ _ _

theorem idAt_ids (l : List Wn) (i : Nat) (hi : i < l.length) : (l.map Wn.id)[i]? = some (idAt l i) := by
  rw [List.getElem?_map, List.getElem?_eq_getElem hi]
  simp only [idAt, List.getElem?_eq_getElem hi, Option.map_some]
theorem idAt_mem {S : LS} {i : Nat} (hi : i < (area S).length) : idAt (area S) i ∈ ids S.tree := by
  have := idAt_ids (area S) i hi
  rw [area_ids] at this
  exact List.mem_of_getElem? this

theorem idxFrom_some (p : Wn → Bool) : ∀ (l : List Wn) (i : Nat), (∃ w ∈ l, p w = true) → ∃ k w, l[k]? = some w ∧ p w = true ∧ idxFrom p l i = (i + k : Nat)
  | [], _, h => by simp at h
  | w :: r, i, h => by
    rw [idxFrom]
    split
    · rename_i hw
      exact ⟨0, w, rfl, hw, rfl⟩
    · rename_i hw
      obtain ⟨v, hv, hp⟩ := h
      rw [List.mem_cons] at hv
      rcases hv with rfl | hv
      · exact absurd hp hw
      · obtain ⟨k, u, h1, h2, h3⟩ := idxFrom_some p r (i + 1) ⟨v, hv, hp⟩
        exact ⟨k + 1, u, by simpa using h1, h2, by rw [h3]; omega⟩
theorem idxFrom_out (p : Wn → Bool) : ∀ (l : List Wn) (i : Nat), (∀ w ∈ l, p w = false) → idxFrom p l i = -1
  | [], _, _ => rfl
  | w :: r, i, h => by
    rw [idxFrom, if_neg (by rw [h w (by simp)]; simp)]
    exact idxFrom_out p r (i + 1) (fun v hv => h v (by simp [hv]))

theorem idxId_in {S : LS} {id : Int} (h : id ∈ ids S.tree) : ∃ k : Nat, idxId (area S) id = k ∧ k < (area S).length ∧ idAt (area S) k = id := by
  rw [← area_ids, List.mem_map] at h
  obtain ⟨w, hw, hi⟩ := h
  obtain ⟨k, v, h1, h2, h3⟩ := idxFrom_some (fun w => decide (w.id = id)) (area S) 0 ⟨w, hw, by simpa using hi⟩
  refine ⟨k, by rw [idxId, h3, Nat.zero_add], (List.getElem?_eq_some_iff.1 h1).1, ?_⟩
  simp only [idAt, h1]
  simpa using h2
theorem idxId_out {S : LS} {id : Int} (h : id ∉ ids S.tree) : idxId (area S) id = -1 := by
  refine idxFrom_out _ _ _ fun w hw => ?_
  rw [decide_eq_false_iff_not]
  rintro rfl
  exact h (by rw [← area_ids]; exact List.mem_map.2 ⟨w, hw, rfl⟩)
theorem idxId_neg {S : LS} {id : Int} : idxId (area S) id < 0 ↔ id ∉ ids S.tree := by
  constructor
  · intro h hm
    obtain ⟨k, hk, _⟩ := idxId_in hm
    omega
  · intro h
    rw [idxId_out h]
    omega
end Go.Eng
