/- Places of windows: no cell of the area is left. The plain law. -/
import Derived.Test.YtdafdampodbobaaSeatPureC
namespace Go.Eng
set_option linter.unusedSimpArgs false
set_option linter.unusedVariables false

/-! ### Shares -/
theorem mn_range {m i : Int} (hm : 0 ≤ m) (hi : 0 ≤ i) : 0 ≤ mn m i ∧ mn m i ≤ m ∧ mn m i ≤ i := by
  unfold mn
  by_cases h : m > 0
  · simp only [h, if_true]
    split <;> omega
  · simp only [h, if_false]
    split <;> omega

theorem share_form {room : Int} {k : Nat} (h1 : -(k : Int) < room) (h2 : room ≤ 1000) (hk : 0 < k) (hk2 : k ≤ 16) :
    ∃ q m : Int, 0 ≤ q ∧ q ≤ 1000 ∧ 0 ≤ m ∧ m < k ∧ q * k + m = max room 0 ∧ ∀ i : Nat, i ≤ k → shareW room k i = q * i + mn m i := by
  by_cases h0 : 0 ≤ room
  · have e1 : room.tdiv k = room / k := Int.tdiv_eq_ediv_of_nonneg h0
    have e2 : room.tmod k = room % k := Int.tmod_eq_emod_of_nonneg h0
    have a1 : 0 ≤ room / (k : Int) := Int.ediv_nonneg h0 (by omega)
    have a2 : room / (k : Int) ≤ room := Int.ediv_le_self _ h0
    have a3 : 0 ≤ room % (k : Int) := Int.emod_nonneg _ (by omega)
    have a4 : room % (k : Int) < k := Int.emod_lt_of_pos _ (by omega)
    have a5 : (k : Int) * (room / k) + room % k = room := Int.mul_ediv_add_emod room k
    refine ⟨room / k, room % k, a1, by omega, a3, a4, by rw [Int.mul_comm, a5]; omega, fun i hi => ?_⟩
    rw [share_mn, e1, e2]
    obtain ⟨b1, b2, b3⟩ := mn_range (m := room % (k : Int)) (i := i) a3 (by omega)
    generalize room / (k : Int) = q at *
    generalize room % (k : Int) = m at *
    have c1 : 0 ≤ q * (i : Int) := Int.mul_nonneg a1 (by omega)
    have c2 : q * (i : Int) ≤ 1000 * 16 := Int.mul_le_mul (by omega) (by omega) (by omega) (by omega)
    rw [w64_id (n := q) (by omega) (by omega), w64_id (n := q * i) (by omega) (by omega), w64_id (by omega) (by omega)]
  · have e1 : room.tdiv k = 0 := by
      rw [show room = -(-room) by omega, Int.neg_tdiv, Int.tdiv_eq_ediv_of_nonneg (by omega), Int.ediv_eq_zero_of_lt (by omega) (by omega)]
      rfl
    have e2 : room.tmod k = room := by rw [show room = -(-room) by omega, Int.neg_tmod, Int.tmod_eq_of_lt (by omega) (by omega)]
    refine ⟨0, 0, by omega, by omega, by omega, by omega, by omega, fun i hi => ?_⟩
    rw [share_mn, e1, e2]
    have hx : ∀ x : Int, x ≤ 0 → mn x i = 0 := fun x hx => by
      unfold mn
      simp only [show ¬ x > 0 by omega, if_false]
      split <;> omega
    have hm := hx room (by omega)
    have hm0 := hx 0 (by omega)
    rw [hm, hm0, Int.zero_mul]
    have w0 : w64 0 = 0 := rfl
    rw [w0, Int.zero_mul, w0, Int.add_zero, w0]

theorem share_facts {room : Int} {k : Nat} (h1 : -(k : Int) < room) (h2 : room ≤ 1000) (hk : 0 < k) (hk2 : k ≤ 16) :
    (∀ i : Nat, i < k → 0 ≤ shareW room k ((i : Int) + 1) - shareW room k i) ∧ shareW room k k = max room 0 ∧ ∀ i : Nat, i ≤ k → 0 ≤ shareW room k i ∧ shareW room k i ≤ max room 0 := by
  obtain ⟨q, m, a1, a2, a3, a4, a5, hf⟩ := share_form h1 h2 hk hk2
  refine ⟨fun i hi => ?_, ?_, fun i hi => ?_⟩
  · have e1 := hf (i + 1) (by omega)
    rw [Int.natCast_add, Int.natCast_one] at e1
    rw [e1, hf i (by omega), mn_next _ _ (by omega)]
    have : q * ((i : Int) + 1) = q * i + q := by rw [Int.mul_add, Int.mul_one]
    split <;> omega
  · rw [hf k (Nat.le_refl k), ← a5]
    have : mn m k = m := by unfold mn; by_cases h : m > 0 <;> simp only [h, if_true, if_false] <;> split <;> omega
    rw [this]
  · rw [hf i hi, ← a5]
    obtain ⟨b1, b2, b3⟩ := mn_range (m := m) (i := i) a3 (by omega)
    have c1 : 0 ≤ q * (i : Int) := Int.mul_nonneg a1 (by omega)
    have c2 : q * (i : Int) ≤ q * k := Int.mul_le_mul_of_nonneg_left (by omega) a1
    omega

/-! ### Sums -/
def areaOf : List Wn → Int
  | [] => 0
  | p :: l => p.rows * p.cols + areaOf l
def colsOf (c : Int) : List Wn → Int
  | [] => 0
  | p :: l => (if p.left + p.cols < c then p.rows else 0) + colsOf c l
theorem areaOf_app (a b : List Wn) : areaOf (a ++ b) = areaOf a + areaOf b := by
  induction a with
  | nil => simp [areaOf]
  | cons p a ih => rw [List.cons_append, areaOf, areaOf, ih]; omega
theorem colsOf_app (c : Int) (a b : List Wn) : colsOf c (a ++ b) = colsOf c a + colsOf c b := by
  induction a with
  | nil => simp [colsOf]
  | cons p a ih => rw [List.cons_append, colsOf, colsOf, ih]; omega

def Mid (p : Wn) : Prop := 0 ≤ p.rows ∧ p.rows ≤ 500 ∧ 0 ≤ p.cols ∧ p.cols ≤ 1000 ∧ 0 ≤ p.left ∧ p.left ≤ 100000

structure PL (c left rows cols : Int) (l : List Wn) : Prop where
  each : ∀ p ∈ l, Mid p
  le : areaOf l ≤ rows * cols
  ge : rows * (min c (left + cols + 1) - min c left) ≤ areaOf l + colsOf c l

theorem ids_rest (l : List Tr) (hg : Goods l) : ∀ t ∈ l, (ids t).length + l.length ≤ (idss l).length + 1 := by
  induction l with
  | nil => simp
  | cons u r ih =>
    rw [Goods] at hg
    intro t ht
    rw [idss, List.length_append, List.length_cons]
    rw [List.mem_cons] at ht
    have h1 := ids_pos u hg.1
    have h2 := idss_len r hg.2
    rcases ht with rfl | ht
    · omega
    · have := ih hg.2 t ht
      omega

mutual
theorem place_tree (c : Int) : ∀ t, Nf t → ∀ (top left rows cols : Int), 0 ≤ rows → rows ≤ 500 → 0 ≤ cols → cols ≤ 1000 → 0 ≤ left → left + 2000 * (ids t).length ≤ 100000 → (ids t).length ≤ 16 → PL c left rows cols (plc t top left rows cols)
  | .win i, _, top, left, rows, cols, r1, r2, c1, c2, l1, l2, _ => by
    simp only [ids, List.length_singleton] at l2
    rw [plc]
    refine ⟨fun p hp => ?_, ?_, ?_⟩
    · rw [List.mem_singleton] at hp
      subst hp
      exact ⟨r1, r2, c1, c2, l1, by simp only; omega⟩
    · simp only [areaOf]
      omega
    · simp only [areaOf, colsOf]
      by_cases h : left + cols < c
      · rw [if_pos h, Int.min_eq_right (by omega), Int.min_eq_right (by omega), show left + cols + 1 - left = cols + 1 by omega, Int.mul_add, Int.mul_one]
        omega
      · rw [if_neg h]
        have hb : min c (left + cols + 1) - min c left ≤ cols := by omega
        have := Int.mul_le_mul_of_nonneg_left hb r1
        omega
  | .grp false ks, hf, top, left, rows, cols, r1, r2, c1, c2, l1, l2, n16 => by
    rw [Nf] at hf
    rw [ids] at l2 n16
    have hg := nfs_good false ks hf.2
    have hlen := idss_len ks hg
    obtain ⟨s1, s2, s3⟩ := share_facts (room := rows) (k := ks.length) (by omega) (by omega) (by omega) (by omega)
    have h := place_pile c ks.length (idss ks).length (by omega) (by omega) n16 ks 0 hf.2 (by omega) (fun t ht => by have := ids_rest ks hg t ht; omega) top left rows cols r1 r2 c1 c2 l1 l2
    rw [Int.natCast_zero, share_zero, Int.sub_zero] at h
    rw [plc]
    exact h
  | .grp true ks, hf, top, left, rows, cols, r1, r2, c1, c2, l1, l2, n16 => by
    rw [Nf] at hf
    rw [ids] at l2 n16
    have hg := nfs_good true ks hf.2
    have hlen := idss_len ks hg
    have hk := hf.1
    obtain ⟨s1, s2, s3⟩ := share_facts (room := cols - ((ks.length : Int) - 1)) (k := ks.length) (by omega) (by omega) (by omega) (by omega)
    obtain ⟨h1, h2, h3⟩ := place_shelf c ks.length (idss ks).length (by omega) (by omega) n16 ks 0 hf.2 (by omega) (fun t ht => by have := ids_rest ks hg t ht; omega) top left rows cols r1 r2 c1 c2 l1 l2
    rw [Int.natCast_zero, share_zero, s2] at h2 h3
    rw [plc]
    refine ⟨h1, ?_, ?_⟩
    · have : max (cols - ((ks.length : Int) - 1)) 0 - 0 ≤ cols := by omega
      have := Int.mul_le_mul_of_nonneg_left this r1
      omega
    · have : min c (left + cols + 1) - min c left ≤ min c (left + ks.length + max (cols - ((ks.length : Int) - 1)) 0) - min c (left + 0 + 0) := by omega
      have := Int.mul_le_mul_of_nonneg_left this r1
      omega
theorem place_pile (c : Int) (k N : Nat) (hk : 2 ≤ k) (hk2 : k ≤ 16) (n16 : N ≤ 16) : ∀ (l : List Tr) (i : Nat), Nfs false l → i + l.length = k → (∀ t ∈ l, (ids t).length + 1 ≤ N) → ∀ (top left rows cols : Int), 0 ≤ rows → rows ≤ 500 → 0 ≤ cols → cols ≤ 1000 → 0 ≤ left → left + 2000 * N ≤ 100000 →
    PL c left (rows - shareW rows k i) cols (plcs false k l i top left rows cols)
  | [], i, _, hi, _, top, left, rows, cols, r1, r2, c1, c2, l1, l2 => by
    obtain rfl : i = k := by simpa using hi
    obtain ⟨s1, s2, s3⟩ := share_facts (room := rows) (k := i) (by omega) (by omega) (by omega) hk2
    rw [plcs, s2, show rows - max rows 0 = 0 by omega]
    exact ⟨fun p hp => by simp at hp, by simp [areaOf], by simp [areaOf, colsOf]⟩
  | t :: r, i, hf, hi, hN, top, left, rows, cols, r1, r2, c1, c2, l1, l2 => by
    rw [Nfs] at hf
    simp only [List.length_cons] at hi
    obtain ⟨s1, s2, s3⟩ := share_facts (room := rows) (k := k) (by omega) (by omega) (by omega) hk2
    have d1 := s1 i (by omega)
    have d2 := s3 i (by omega)
    have d3 := s3 (i + 1) (by omega)
    have ht := hN t (by simp)
    have h2 := place_pile c k N hk hk2 n16 r (i + 1) hf.2.2 (by omega) (fun u hu => hN u (by simp [hu])) top left rows cols r1 r2 c1 c2 l1 l2
    rw [Int.natCast_add, Int.natCast_one] at d3 h2
    have hd : kidRows false k i rows = shareW rows k ((i : Int) + 1) - shareW rows k i := by
      simp only [kidRows, Bool.false_eq_true, if_false]
      exact w64_id (by omega) (by omega)
    rw [plcs, show kidLeft false k i left cols = left from rfl, show kidCols false k i cols = cols from rfl, hd]
    have h1 := place_tree c t hf.1 (kidTop false k i top rows) left (shareW rows k ((i : Int) + 1) - shareW rows k i) cols d1 (by omega) c1 c2 l1 (by omega) (by omega)
    obtain ⟨g1, g2, g3⟩ := h1
    obtain ⟨e1, e2, e3⟩ := h2
    have hs : rows - shareW rows k i = (shareW rows k ((i : Int) + 1) - shareW rows k i) + (rows - shareW rows k ((i : Int) + 1)) := by omega
    rw [hs]
    refine ⟨fun p hp => ?_, ?_, ?_⟩
    · rw [List.mem_append] at hp
      exact hp.elim (g1 p) (e1 p)
    · rw [areaOf_app, Int.add_mul]
      omega
    · rw [areaOf_app, colsOf_app, Int.add_mul]
      omega
theorem place_shelf (c : Int) (k N : Nat) (hk : 2 ≤ k) (hk2 : k ≤ 16) (n16 : N ≤ 16) : ∀ (l : List Tr) (i : Nat), Nfs true l → i + l.length = k → (∀ t ∈ l, (ids t).length + 1 ≤ N) → ∀ (top left rows cols : Int), 0 ≤ rows → rows ≤ 500 → 0 ≤ cols → cols ≤ 1000 → 0 ≤ left → left + 2000 * N ≤ 100000 →
    (∀ p ∈ plcs true k l i top left rows cols, Mid p) ∧ areaOf (plcs true k l i top left rows cols) ≤ rows * (shareW (cols - ((k : Int) - 1)) k k - shareW (cols - ((k : Int) - 1)) k i) ∧
    rows * (min c (left + k + shareW (cols - ((k : Int) - 1)) k k) - min c (left + i + shareW (cols - ((k : Int) - 1)) k i)) ≤ areaOf (plcs true k l i top left rows cols) + colsOf c (plcs true k l i top left rows cols)
  | [], i, _, hi, _, top, left, rows, cols, r1, r2, c1, c2, l1, l2 => by
    obtain rfl : i = k := by simpa using hi
    rw [plcs]
    refine ⟨fun p hp => by simp at hp, ?_, ?_⟩
    · simp [areaOf]
    · simp [areaOf, colsOf]
  | t :: r, i, hf, hi, hN, top, left, rows, cols, r1, r2, c1, c2, l1, l2 => by
    rw [Nfs] at hf
    simp only [List.length_cons] at hi
    have hw : w64 (cols - ((k : Int) - 1)) = cols - ((k : Int) - 1) := w64_id (by omega) (by omega)
    obtain ⟨s1, s2, s3⟩ := share_facts (room := cols - ((k : Int) - 1)) (k := k) (by omega) (by omega) (by omega) hk2
    have d1 := s1 i (by omega)
    have d2 := s3 i (by omega)
    have d3 := s3 (i + 1) (by omega)
    have ht := hN t (by simp)
    obtain ⟨e1, e2, e3⟩ := place_shelf c k N hk hk2 n16 r (i + 1) hf.2.2 (by omega) (fun u hu => hN u (by simp [hu])) top left rows cols r1 r2 c1 c2 l1 l2
    rw [Int.natCast_add, Int.natCast_one] at d3 e2 e3
    have hl : kidLeft true k i left cols = left + i + shareW (cols - ((k : Int) - 1)) k i := by
      simp only [kidLeft, if_true, hw]
      rw [w64_id (n := (i : Int) + shareW (cols - ((k : Int) - 1)) k i) (by omega) (by omega), w64_id (by omega) (by omega)]
      omega
    have hd : kidCols true k i cols = shareW (cols - ((k : Int) - 1)) k ((i : Int) + 1) - shareW (cols - ((k : Int) - 1)) k i := by
      simp only [kidCols, if_true, hw]
      exact w64_id (by omega) (by omega)
    rw [plcs, show kidTop true k i top rows = top from rfl, show kidRows true k i rows = rows from rfl, hl, hd]
    generalize shareW (cols - ((k : Int) - 1)) k i = a at *
    generalize shareW (cols - ((k : Int) - 1)) k ((i : Int) + 1) = b at *
    generalize shareW (cols - ((k : Int) - 1)) k k = z at *
    obtain ⟨g1, g2, g3⟩ := place_tree c t hf.1 top (left + i + a) rows (b - a) r1 r2 d1 (by omega) (by omega) (by omega) (by omega)
    have hle : left + i + a + (b - a) + 1 = left + (i + 1) + b := by omega
    rw [hle] at g3
    refine ⟨fun p hp => ?_, ?_, ?_⟩
    · rw [List.mem_append] at hp
      exact hp.elim (g1 p) (e1 p)
    · have hs : z - a = (b - a) + (z - b) := by omega
      rw [areaOf_app, hs, Int.mul_add]
      omega
    · have hs : min c (left + k + z) - min c (left + i + a) = (min c (left + (i + 1) + b) - min c (left + i + a)) + (min c (left + k + z) - min c (left + (i + 1) + b)) := by omega
      rw [areaOf_app, colsOf_app, hs, Int.mul_add]
      omega
end
end Go.Eng
