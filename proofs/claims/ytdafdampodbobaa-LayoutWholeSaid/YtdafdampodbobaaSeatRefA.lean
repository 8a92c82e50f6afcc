/- The document's trees: what they are in memory; shares, step by step. -/
import Derived.Test.YtdafdampodbobaaSeatSize
namespace Go.Eng
set_option linter.unusedSimpArgs false
set_option linter.unusedVariables false

def kindV (side : Bool) : Int := if side then 2 else 1

/-- A node of the document's: three cells. -/
inductive NAt (Z : Nat → Prop) (h : Hp) : List Value → Tr → Prop where
  | win (id : Int) : NAt Z h [i64 0, i64 id, .slice none 0 0] (.win id)
  | grp (side : Bool) (kb sz : Nat) (own : Bool) (ns : List (List Value)) (ts : List Tr) (hk : kb < h.next) (hz : Z kb) (hg : h.t.get kb = some (.cells ns.flatten sz own)) (hl : ns.length = ts.length)
      (hkids : ∀ (i : Nat) (n : List Value) (t : Tr), ns[i]? = some n → ts[i]? = some t → NAt Z h n t) : NAt Z h [i64 (kindV side), i64 0, sl kb 0 ns.length 0] (.grp side ts)

theorem NAt.three {Z : Nat → Prop} {h : Hp} {n : List Value} {t : Tr} (a : NAt Z h n t) : n.length = 3 ∧ n.all oneCell = true := by
  cases a <;> exact ⟨rfl, rfl⟩

theorem NAt.move {Z Z' : Nat → Prop} {h h' : Hp} (hn : h.next ≤ h'.next) (hg : ∀ b, b < h.next → Z b → h'.t.get b = h.t.get b) (hz : ∀ b, b < h.next → Z b → Z' b) {n : List Value} {t : Tr} (a : NAt Z h n t) : NAt Z' h' n t := by
  induction a with
  | win id => exact .win id
  | grp side kb sz own ns ts hk hzk hgk hl _ ih => exact .grp side kb sz own ns ts (Nat.lt_of_lt_of_le hk hn) (hz kb hk hzk) ((hg kb hk hzk).trans hgk) hl ih
theorem NAt.mono {Z : Nat → Prop} {h h' : Hp} (o : Old h h') {n : List Value} {t : Tr} (a : NAt Z h n t) : NAt Z h' n t := a.move o.next (fun b hb _ => o.get b hb) (fun _ _ hz => hz)

/-! ### Numbers -/
def InR (n : Int) : Prop := -9223372036854775808 ≤ n ∧ n < 9223372036854775808
theorem w64_range (n : Int) : InR (w64 n) := by rw [w64_eq]; unfold InR; omega
theorem InR.w {n : Int} (h : InR n) : w64 n = n := w64_id h.1 h.2

/-- What one of k has. -/
def partW (room k i : Int) : Int := w64 (room.tdiv k + (if i < room.tmod k then 1 else 0))

def mn (m i : Int) : Int := if (if m > 0 then m else 0) < i then (if m > 0 then m else 0) else i
theorem mn_zero (m : Int) : mn m 0 = 0 := by unfold mn; by_cases h : m > 0 <;> simp [h] <;> omega
theorem mn_next (m i : Int) (hi : 0 ≤ i) : mn m (i + 1) = mn m i + (if i < m then 1 else 0) := by
  unfold mn
  by_cases h : m > 0
  · simp only [h, if_true]
    by_cases h1 : m < i <;> by_cases h2 : m < i + 1 <;> by_cases h3 : i < m <;> simp only [h1, h2, h3, if_true, if_false] <;> omega
  · simp only [h, if_false]
    have h3 : ¬ i < m := by omega
    by_cases h1 : 0 < i <;> by_cases h2 : 0 < i + 1 <;> simp only [h1, h2, h3, if_true, if_false] <;> omega
theorem share_mn (room k i : Int) : shareW room k i = w64 (w64 (w64 (room.tdiv k) * i) + mn (room.tmod k) i) := rfl

theorem share_zero (room : Int) (k : Nat) : shareW room k 0 = 0 := by
  rw [share_mn, mn_zero, Int.mul_zero]
  rfl

theorem share_next (room : Int) (k i : Nat) : w64 (shareW room k (i + 1) - shareW room k i) = partW room k i := by
  rw [share_mn, share_mn, mn_next _ _ (by omega)]
  unfold partW
  generalize room.tdiv ↑k = q
  generalize (if (i : Int) < room.tmod ↑k then (1 : Int) else 0) = d
  generalize mn (room.tmod ↑k) ↑i = m
  have e1 : w64 q * ((i : Int) + 1) = w64 q * i + w64 q := by rw [Int.mul_add, Int.mul_one]
  rw [e1]
  generalize w64 q * (i : Int) = x
  simp only [w64_eq]
  omega

theorem w64_add (a b : Int) : w64 (w64 a + b) = w64 (a + b) := by simp only [w64_eq]; omega
theorem w64_add' (a b : Int) : w64 (a + w64 b) = w64 (a + b) := by simp only [w64_eq]; omega
theorem w64_w64 (a : Int) : w64 (w64 a) = w64 a := by simp only [w64_eq]; omega

/-- The first row of the next one. -/
theorem top_next (top rows : Int) (k i : Nat) : w64 (w64 (top + shareW rows k i) + partW rows k i) = w64 (top + shareW rows k (i + 1)) := by
  rw [← share_next]
  generalize shareW rows k i = a
  generalize shareW rows k (i + 1) = b
  simp only [w64_eq]
  omega
/-- The first column of the next one. -/
theorem left_next (left room : Int) (k i : Nat) : w64 (w64 (left + w64 (i + shareW room k i)) + w64 (partW room k i + 1)) = w64 (left + w64 ((i + 1 : Nat) + shareW room k (i + 1 : Nat))) := by
  rw [← share_next]
  rw [Int.natCast_add, Int.natCast_one]
  generalize shareW room k i = a
  generalize shareW room k (i + 1) = b
  simp only [w64_eq]
  omega
end Go.Eng
