/- The relation between abstract and concrete values, heaps; how allocation and writing keep it. -/
import Derived.Test.YtdafdampodbobaaEngB
import Derived.Laws.Sem
import Derived.Laws.Cells
namespace Go.Eng
set_option linter.unusedSimpArgs false
set_option linter.unusedVariables false

/-! ### Trees -/
theorem beq_dec (a b : Nat) : Nat.beq a b = decide (a = b) := by
  by_cases h : a = b
  · subst h; simp
  · rw [decide_eq_false h]
    cases hb : Nat.beq a b with
    | false => rfl
    | true => exact absurd (Nat.eq_of_beq_eq_true hb) h

theorem T.get_leaf {α : Type} (n : Nat) : (T.leaf : T α).get n = none := by unfold T.get; rfl

theorem T.get_node {α : Type} (v : Option α) (l r : T α) (n : Nat) :
    (T.node v l r).get n = if n = 0 then v else if n % 2 = 1 then l.get (n / 2) else r.get (n / 2 - 1) := by
  rw [T.get, beq_dec, beq_dec]
  by_cases h : n = 0
  · simp [h]
  · by_cases h2 : n % 2 = 1 <;> simp [h, h2]

theorem T.get_setA {α : Type} : ∀ (f : Nat) (t : T α) (n : Nat) (x : α) (m : Nat), n < f → (T.setA f t n x).get m = if m = n then some x else t.get m := by
  intro f
  induction f with
  | zero => intro t n x m h; omega
  | succ f ih =>
    intro t n x m h
    cases t with
    | leaf =>
      rw [T.setA, beq_dec, beq_dec]
      by_cases h0 : n = 0
      · subst h0
        simp only [decide_true, cond_true, T.get_node, T.get_leaf]
        by_cases hm : m = 0 <;> simp [hm]
      · by_cases h1 : n % 2 = 1
        · simp only [h0, h1, decide_false, decide_true, cond_false, cond_true, T.get_node, T.get_leaf]
          by_cases hm : m = n
          · subst hm; simp [h0, h1, ih _ _ _ _ (show m / 2 < f by omega)]
          · by_cases hm0 : m = 0
            · simp [hm0]; omega
            · by_cases hm1 : m % 2 = 1
              · simp only [hm0, hm1, if_true, if_false, hm]
                rw [ih _ _ _ _ (show n / 2 < f by omega), if_neg (by omega), T.get_leaf]
              · simp [hm0, hm1, hm]
        · simp only [h0, h1, decide_false, cond_false, T.get_node, T.get_leaf]
          by_cases hm : m = n
          · subst hm; simp [h0, h1, ih _ _ _ _ (show m / 2 - 1 < f by omega)]
          · by_cases hm0 : m = 0
            · simp [hm0]; omega
            · by_cases hm1 : m % 2 = 1
              · simp [hm0, hm1, hm]
              · simp only [hm0, hm1, if_false, hm]
                rw [ih _ _ _ _ (show n / 2 - 1 < f by omega), if_neg (by omega), T.get_leaf]
    | node v l r =>
      rw [T.setA, beq_dec, beq_dec]
      by_cases h0 : n = 0
      · subst h0
        simp only [decide_true, cond_true, T.get_node]
        by_cases hm : m = 0 <;> simp [hm]
      · by_cases h1 : n % 2 = 1
        · simp only [h0, h1, decide_false, decide_true, cond_false, cond_true, T.get_node]
          by_cases hm : m = n
          · subst hm; simp [h0, h1, ih _ _ _ _ (show m / 2 < f by omega)]
          · by_cases hm0 : m = 0
            · have : ¬ (0 = n) := by omega
              simp [hm0, this]
            · by_cases hm1 : m % 2 = 1
              · simp only [hm0, hm1, if_true, if_false, hm]
                rw [ih _ _ _ _ (show n / 2 < f by omega), if_neg (by omega)]
              · simp [hm0, hm1, hm]
        · simp only [h0, h1, decide_false, cond_false, T.get_node]
          by_cases hm : m = n
          · subst hm; simp [h0, h1, ih _ _ _ _ (show m / 2 - 1 < f by omega)]
          · by_cases hm0 : m = 0
            · have : ¬ (0 = n) := by omega
              simp [hm0, this]
            · by_cases hm1 : m % 2 = 1
              · simp [hm0, hm1, hm]
              · simp only [hm0, hm1, if_false, hm]
                rw [ih _ _ _ _ (show n / 2 - 1 < f by omega), if_neg (by omega)]

theorem T.get_set {α : Type} (t : T α) (n : Nat) (x : α) (m : Nat) : (t.set n x).get m = if m = n then some x else t.get m :=
  T.get_setA (n + 1) t n x m (Nat.lt_succ_self n)

theorem T.get_set_self {α : Type} (t : T α) (n : Nat) (x : α) : (t.set n x).get n = some x := by rw [T.get_set, if_pos rfl]
theorem T.get_set_ne {α : Type} (t : T α) (n : Nat) (x : α) (m : Nat) (h : m ≠ n) : (t.set n x).get m = t.get m := by rw [T.get_set, if_neg h]

/-! ### Values -/
/-- Where an abstract block lies: the block, its first cell, the cells that it shows, the cells that are its own (spare ones included), the size of an element. -/
structure Pl where
  blk : Nat
  off : Nat
  n : Nat
  len : Nat
  sz : Nat

abbrev Rho := Nat → Option Pl

def Rho.le (ρ ρ' : Rho) : Prop := ∀ b p, ρ b = some p → ρ' b = some p

theorem Rho.le_refl (ρ : Rho) : ρ.le ρ := fun _ _ h => h
theorem Rho.le_trans {a b c : Rho} (h : a.le b) (k : b.le c) : a.le c := fun x p hp => k x p (h x p hp)

structure SliceOk (p : Pl) (o len cf : Nat) (a' : Addr) (cap : Nat) : Prop where
  lc : len ≤ cap
  vis : o + len * p.sz ≤ p.n
  grow : cf = 0 → p.n ≤ o + cap * p.sz ∧ o + cap * p.sz ≤ p.len
  exact : ∀ k, cf = k + 1 → cap = k ∧ o + k * p.sz ≤ p.n
  place : a' = ⟨p.blk, p.off + o, none⟩ ∨ cf = 1 ∨ (cf = 0 ∧ len = 0 ∧ o = p.n ∧ 0 < p.n)

inductive VRel (ρ : Rho) : Value → Value → Prop where
  | bool (b : Bool) : VRel ρ (.bool b) (.bool b)
  | int (k : IntKind) (n : Int) : VRel ρ (.int k n) (.int k n)
  | float (k : FloatKind) (n : Nat) : VRel ρ (.float k n) (.float k n)
  | string (s : ByteArray) : VRel ρ (.string s) (.string s)
  | nilp : VRel ρ (.pointer none) (.pointer none)
  | ptr (b o : Nat) (p : Pl) (h : ρ b = some p) : VRel ρ (.pointer (some ⟨b, o, none⟩)) (.pointer (some ⟨p.blk, p.off + o, none⟩))
  | nils : VRel ρ (.slice none 0 0) (.slice none 0 0)
  | slice (b o len cf : Nat) (p : Pl) (a' : Addr) (cap : Nat) (h : ρ b = some p) (hs : SliceOk p o len cf a' cap) :
      VRel ρ (.slice (some ⟨b, o, none⟩) len cf) (.slice (some a') len cap)
  | nilm : VRel ρ (.map none) (.map none)
  | fn (f : FuncId) (a a' b b' : Array Value) (ha : a.toList.length = a'.toList.length) (hb : b.toList.length = b'.toList.length)
      (hav : ∀ (i : Nat) (v v' : Value), a.toList[i]? = some v → a'.toList[i]? = some v' → VRel ρ v v')
      (hbv : ∀ (i : Nat) (v v' : Value), b.toList[i]? = some v → b'.toList[i]? = some v' → VRel ρ v v') :
      VRel ρ (.func (.func f) a b) (.func (.func f) a' b')
  | nilf : VRel ρ .nilFunc .nilFunc
  | iface (t : TypeId) (v v' : Value) (h : VRel ρ v v') : VRel ρ (.iface t v) (.iface t v')
  | nili : VRel ρ .nilIface .nilIface
  | agg (a a' : Array Value) (ha : a.toList.length = a'.toList.length)
      (hav : ∀ (i : Nat) (v v' : Value), a.toList[i]? = some v → a'.toList[i]? = some v' → VRel ρ v v') : VRel ρ (.agg a) (.agg a')
  | tuple (a a' : Array Value) (ha : a.toList.length = a'.toList.length)
      (hav : ∀ (i : Nat) (v v' : Value), a.toList[i]? = some v → a'.toList[i]? = some v' → VRel ρ v v') : VRel ρ (.tuple a) (.tuple a')

def LRel (ρ : Rho) (l l' : List Value) : Prop :=
  l.length = l'.length ∧ ∀ (i : Nat) (v v' : Value), l[i]? = some v → l'[i]? = some v' → VRel ρ v v'

theorem VRel.mono {ρ ρ' : Rho} (hr : ρ.le ρ') {v v' : Value} (h : VRel ρ v v') : VRel ρ' v v' := by
  induction h with
  | bool b => exact .bool b
  | int k n => exact .int k n
  | float k n => exact .float k n
  | string s => exact .string s
  | nilp => exact .nilp
  | ptr b o p h => exact .ptr b o p (hr _ _ h)
  | nils => exact .nils
  | slice b o len cf p a' cap h hs => exact .slice b o len cf p a' cap (hr _ _ h) hs
  | nilm => exact .nilm
  | fn f a a' b b' ha hb _ _ iha ihb => exact .fn f a a' b b' ha hb iha ihb
  | nilf => exact .nilf
  | iface t v v' _ ih => exact .iface t v v' ih
  | nili => exact .nili
  | agg a a' ha _ ih => exact .agg a a' ha ih
  | tuple a a' ha _ ih => exact .tuple a a' ha ih

theorem LRel.mono {ρ ρ' : Rho} (hr : ρ.le ρ') {l l' : List Value} (h : LRel ρ l l') : LRel ρ' l l' :=
  ⟨h.1, fun i v v' a b => (h.2 i v v' a b).mono hr⟩

theorem LRel.nil {ρ : Rho} : LRel ρ [] [] := ⟨rfl, fun i v v' h => by simp at h⟩

theorem LRel.cons {ρ : Rho} {v v' : Value} {l l' : List Value} (h : VRel ρ v v') (hl : LRel ρ l l') : LRel ρ (v :: l) (v' :: l') := by
  refine ⟨by simp [hl.1], fun i u u' hu hu' => ?_⟩
  cases i with
  | zero => simp at hu hu'; subst hu; subst hu'; exact h
  | succ i => simp at hu hu'; exact hl.2 i u u' hu hu'

theorem LRel.cons_inv {ρ : Rho} {v : Value} {l m : List Value} (h : LRel ρ (v :: l) m) : ∃ v' l', m = v' :: l' ∧ VRel ρ v v' ∧ LRel ρ l l' := by
  cases m with
  | nil => have := h.1; simp at this
  | cons v' l' =>
    refine ⟨v', l', rfl, h.2 0 v v' rfl rfl, by have := h.1; simpa using this, fun i u u' hu hu' => h.2 (i + 1) u u' (by simpa using hu) (by simpa using hu')⟩

theorem LRel.nil_inv {ρ : Rho} {m : List Value} (h : LRel ρ [] m) : m = [] := by
  have := h.1
  exact List.eq_nil_of_length_eq_zero this.symm

theorem LRel.append {ρ : Rho} {a a' b b' : List Value} (h : LRel ρ a a') (k : LRel ρ b b') : LRel ρ (a ++ b) (a' ++ b') := by
  refine ⟨by simp [h.1, k.1], fun i v v' hv hv' => ?_⟩
  by_cases hi : i < a.length
  · rw [List.getElem?_append_left hi] at hv
    rw [List.getElem?_append_left (h.1 ▸ hi)] at hv'
    exact h.2 i v v' hv hv'
  · rw [List.getElem?_append_right (by omega)] at hv
    rw [List.getElem?_append_right (by have := h.1; omega), ← h.1] at hv'
    exact k.2 _ v v' hv hv'

theorem LRel.take {ρ : Rho} {a a' : List Value} (h : LRel ρ a a') (n : Nat) : LRel ρ (a.take n) (a'.take n) := by
  refine ⟨by simp [h.1], fun i v v' hv hv' => ?_⟩
  rw [List.getElem?_take] at hv hv'
  by_cases hi : i < n <;> simp [hi] at hv hv'
  exact h.2 i v v' hv hv'

theorem LRel.drop {ρ : Rho} {a a' : List Value} (h : LRel ρ a a') (n : Nat) : LRel ρ (a.drop n) (a'.drop n) := by
  refine ⟨by simp [h.1], fun i v v' hv hv' => ?_⟩
  rw [List.getElem?_drop] at hv hv'
  exact h.2 _ v v' hv hv'

theorem LRel.get {ρ : Rho} {a a' : List Value} (h : LRel ρ a a') {i : Nat} {v : Value} (hv : a[i]? = some v) : ∃ v', a'[i]? = some v' ∧ VRel ρ v v' := by
  have hi : i < a'.length := by
    have := (List.getElem?_eq_some_iff.1 hv).1
    have := h.1
    omega
  exact ⟨a'[i], List.getElem?_eq_getElem hi, h.2 i v _ hv (List.getElem?_eq_getElem hi)⟩

theorem VRel.mkAgg {ρ : Rho} {l l' : List Value} (h : LRel ρ l l') : VRel ρ (.agg l.toArray) (.agg l'.toArray) :=
  .agg _ _ (by simpa using h.1) (by simpa using h.2)

theorem VRel.mkTuple {ρ : Rho} {l l' : List Value} (h : LRel ρ l l') : VRel ρ (.tuple l.toArray) (.tuple l'.toArray) :=
  .tuple _ _ (by simpa using h.1) (by simpa using h.2)

theorem VRel.mkFn {ρ : Rho} (f : FuncId) {a a' b b' : List Value} (h : LRel ρ a a') (k : LRel ρ b b') :
    VRel ρ (.func (.func f) a.toArray b.toArray) (.func (.func f) a'.toArray b'.toArray) :=
  .fn _ _ _ _ _ (by simpa using h.1) (by simpa using k.1) (by simpa using h.2) (by simpa using k.2)

/-- Values without addresses are the same on both sides. -/
theorem closed_self {ρ : Rho} : ∀ (n : Nat) (v : Value), closedV n v = true → VRel ρ v v := by
  intro n
  induction n with
  | zero => intro v h; simp [closedV] at h
  | succ n ih =>
    have ihl : ∀ (l : List Value), l.all (closedV n) = true → ∀ (i : Nat) (v v' : Value), l[i]? = some v → l[i]? = some v' → VRel ρ v v' := by
      intro l hl i v v' hv hv'
      rw [hv] at hv'
      cases hv'
      exact ih v (by rw [List.all_eq_true] at hl; exact hl v (List.mem_of_getElem? hv))
    intro v h
    unfold closedV at h
    split at h
    · exact .bool _
    · exact .int _ _
    · exact .float _ _
    · exact .string _
    · exact .nilp
    · exact .nils
    · exact .nilm
    · exact .nilf
    · exact .nili
    · exact .iface _ _ _ (ih _ h)
    · exact .agg _ _ rfl (ihl _ h)
    · exact .tuple _ _ rfl (ihl _ h)
    · simp only [Bool.and_eq_true] at h
      exact .fn _ _ _ _ _ rfl rfl (ihl _ h.1) (ihl _ h.2)
    · cases h

theorem closed_eq {ρ : Rho} : ∀ (n : Nat) (v v' : Value), closedV n v = true → VRel ρ v v' → v' = v := by
  intro n
  induction n with
  | zero => intro v v' h; simp [closedV] at h
  | succ n ih =>
    have ihl : ∀ (a a' : Array Value), a.toList.all (closedV n) = true → a.toList.length = a'.toList.length →
        (∀ (i : Nat) (v v' : Value), a.toList[i]? = some v → a'.toList[i]? = some v' → VRel ρ v v') → a' = a := by
      intro a a' h hl hp
      apply Array.ext'
      apply List.ext_getElem?
      intro i
      cases hv : a'.toList[i]? with
      | none =>
        rw [List.getElem?_eq_none_iff] at hv
        symm
        rw [List.getElem?_eq_none_iff]
        omega
      | some v' =>
        have hi : i < a.toList.length := by
          have := (List.getElem?_eq_some_iff.1 hv).1
          omega
        have hv0 := List.getElem?_eq_getElem hi
        have := ih _ _ (by rw [List.all_eq_true] at h; exact h _ (List.mem_of_getElem? hv0)) (hp i _ _ hv0 hv)
        rw [hv0, this]
    intro v v' h r
    cases r with
    | bool | int | float | string | nilp | nils | nilm | nilf | nili => rfl
    | ptr b o p hp => simp [closedV] at h
    | slice b o len cf p a' cap hp hs => simp [closedV] at h
    | fn f a a' b b' ha hb hav hbv =>
      simp only [closedV, Bool.and_eq_true] at h
      rw [ihl a a' h.1 ha hav, ihl b b' h.2 hb hbv]
    | iface t v v' hv =>
      simp only [closedV] at h
      rw [ih _ _ h hv]
    | agg a a' ha hav =>
      simp only [closedV] at h
      rw [ihl a a' h ha hav]
    | tuple a a' ha hav =>
      simp only [closedV] at h
      rw [ihl a a' h ha hav]

theorem closedL_self {ρ : Rho} (l : List Value) (h : l.all isClosed = true) : LRel ρ l l :=
  ⟨rfl, fun i v v' hv hv' => by
    rw [hv] at hv'
    cases hv'
    exact closed_self 4 v (by rw [List.all_eq_true] at h; exact h v (List.mem_of_getElem? hv))⟩

theorem oneCell_rel {ρ : Rho} {v v' : Value} (h : VRel ρ v v') (ho : oneCell v = true) : v'.oneCell' = true := by
  cases h <;> first | rfl | simp [oneCell] at ho

theorem oneCells_rel {ρ : Rho} {l l' : List Value} (h : LRel ρ l l') (ho : l.all oneCell = true) : ∀ v ∈ l', v.oneCell' = true := by
  intro v' hv'
  obtain ⟨i, hi⟩ := List.mem_iff_getElem?.1 hv'
  have hlt : i < l.length := by
    have := (List.getElem?_eq_some_iff.1 hi).1
    have := h.1
    omega
  have hg := List.getElem?_eq_getElem hlt
  exact oneCell_rel (h.2 i _ _ hg hi) (by rw [List.all_eq_true] at ho; exact ho _ (List.mem_of_getElem? hg))

theorem cells_rel {ρ : Rho} {v v' : Value} (h : VRel ρ v v') : LRel ρ v.cells.toList v'.cells.toList := by
  cases h with
  | agg a a' ha hav => exact ⟨ha, hav⟩
  | bool | int | float | string | nilp | nils | nilm | nilf | nili => exact LRel.cons (by constructor) .nil
  | ptr b o p hp => exact LRel.cons (.ptr b o p hp) .nil
  | slice b o len cf p a' cap hp hs => exact LRel.cons (.slice b o len cf p a' cap hp hs) .nil
  | fn f a a' b b' ha hb hav hbv => exact LRel.cons (.fn f a a' b b' ha hb hav hbv) .nil
  | iface t v v' hv => exact LRel.cons (.iface t v v' hv) .nil
  | tuple a a' ha hav => exact LRel.cons (.tuple a a' ha hav) .nil

/-! ### Heaps -/
/-- What is protected is as it was; the streams are as they were. -/
structure Prot (K : Nat → Prop) (W w : World) : Prop where
  os : w.os = W.os
  tape : w.tape = W.tape
  output : w.output = W.output
  size : W.heap.size ≤ w.heap.size
  blk : ∀ k, K k → w.heap[k]? = W.heap[k]?

structure Live (K : Nat → Prop) (ρ : Rho) (c : List Value) (sz : Nat) (own : Bool) (p : Pl) (w : World) : Prop where
  sz : p.sz = sz
  n : p.n = c.length
  cells : ∃ C el fr, w.heap[p.blk]? = some (.cells C el fr) ∧ p.off + p.n ≤ C.size ∧
    (∀ (i : Nat) (v : Value), c[i]? = some v → ∃ v', C[p.off + i]? = some v' ∧ VRel ρ v v') ∧
    (own = true → p.n ≤ p.len ∧ p.off + p.len ≤ C.size ∧ ∀ i, p.off ≤ i → i < p.off + p.len → ¬ (fr.1 ≤ i ∧ i < fr.2))
  own : own = true → ¬ K p.blk

structure HRel (K : Nat → Prop) (W : World) (ρ : Rho) (h : Hp) (w : World) : Prop where
  prot : Prot K W w
  kb : ∀ k, K k → k < W.heap.size
  dom : ∀ b p, ρ b = some p → b < h.next ∧ p.blk < w.heap.size
  fresh : ∀ b, h.next ≤ b → h.t.get b = none
  live : ∀ b c sz own p, h.t.get b = some (.cells c sz own) → ρ b = some p → Live K ρ c sz own p w
  excl : ∀ b b' c sz c' sz' own' p p', b ≠ b' → h.t.get b = some (.cells c sz true) → h.t.get b' = some (.cells c' sz' own') →
    ρ b = some p → ρ b' = some p' → p.blk ≠ p'.blk

/-- What a step leaves alone in the abstract heap: blocks that are not there on the other side, blocks that are held. -/
structure Fr (ρ : Rho) (h h' : Hp) : Prop where
  fz : h'.fz = h.fz
  next : h.next ≤ h'.next
  get : ∀ b, b < h.next → (ρ b = none ∨ b ∈ h.fz) → h'.t.get b = h.t.get b

theorem Fr.refl (ρ : Rho) (h : Hp) : Fr ρ h h := ⟨rfl, Nat.le_refl _, fun _ _ _ => rfl⟩

/-- ρ' says nothing of old numbers that ρ does not say. -/
def Ext (ρ ρ' : Rho) (h : Hp) : Prop := ρ.le ρ' ∧ ∀ b, b < h.next → ρ b = none → ρ' b = none

theorem Ext.refl (ρ : Rho) (h : Hp) : Ext ρ ρ h := ⟨ρ.le_refl, fun _ _ h => h⟩

theorem Ext.trans {ρ ρ' ρ'' : Rho} {h h' : Hp} (a : Ext ρ ρ' h) (hn : h.next ≤ h'.next) (b : Ext ρ' ρ'' h') : Ext ρ ρ'' h :=
  ⟨Rho.le_trans a.1 b.1, fun x hx hn' => b.2 x (Nat.lt_of_lt_of_le hx hn) (a.2 x hx hn')⟩

theorem Fr.trans {ρ ρ' : Rho} {h h' h'' : Hp} (a : Fr ρ h h') (e : Ext ρ ρ' h) (b : Fr ρ' h' h'') : Fr ρ h h'' :=
  ⟨b.fz.trans a.fz, Nat.le_trans a.next b.next, fun x hx hc => by
    rw [b.get x (Nat.lt_of_lt_of_le hx a.next) (hc.imp (e.2 x hx) (fun hm => by rw [a.fz]; exact hm)), a.get x hx hc]⟩

def Rho.upd (ρ : Rho) (b : Nat) (p : Pl) : Rho := fun x => if x = b then some p else ρ x

theorem Rho.upd_le {K : Nat → Prop} {W w : World} {ρ : Rho} {h : Hp} (hr : HRel K W ρ h w) (p : Pl) : ρ.le (ρ.upd h.next p) := by
  intro b q hb
  have := (hr.dom b q hb).1
  unfold Rho.upd
  rw [if_neg (by omega)]
  exact hb

theorem Rho.upd_ext {K : Nat → Prop} {W w : World} {ρ : Rho} {h : Hp} (hr : HRel K W ρ h w) (p : Pl) : Ext ρ (ρ.upd h.next p) h :=
  ⟨Rho.upd_le hr p, fun b hb hn => by unfold Rho.upd; rw [if_neg (by omega)]; exact hn⟩

/-- A world that differs in the count of draws alone, or in blocks that are new. -/
structure SameIO (w w' : World) : Prop where
  os : w'.os = w.os
  tape : w'.tape = w.tape
  output : w'.output = w.output

theorem HRel.sameHeap {K : Nat → Prop} {W w w' : World} {ρ : Rho} {h : Hp} (hr : HRel K W ρ h w) (io : SameIO w w') (hh : w'.heap = w.heap) : HRel K W ρ h w' := by
  obtain ⟨p, kb, d, f, l, e⟩ := hr
  refine ⟨⟨io.os.trans p.os, io.tape.trans p.tape, io.output.trans p.output, by rw [hh]; exact p.size, fun k hk => by rw [hh]; exact p.blk k hk⟩, kb, fun b q hb => by rw [hh]; exact d b q hb, f, fun b c sz own q hb hq => ?_, e⟩
  obtain ⟨a1, a2, a3, a4⟩ := l b c sz own q hb hq
  exact ⟨a1, a2, by rw [hh]; exact a3, a4⟩

theorem HRel.fz {K : Nat → Prop} {W w : World} {ρ : Rho} {h : Hp} (hr : HRel K W ρ h w) (l : List Nat) : HRel K W ρ ⟨h.t, h.next, l⟩ w :=
  ⟨hr.prot, hr.kb, hr.dom, hr.fresh, hr.live, hr.excl⟩

/-- A new block. -/
theorem HRel.alloc {K : Nat → Prop} {W w w' : World} {ρ : Rho} {h : Hp} (hr : HRel K W ρ h w) (io : SameIO w w') (c : List Value) (sz len : Nat) (C : Array Value) (el : TypeId) (fr : Nat × Nat)
    (hh : w'.heap = w.heap.push (.cells C el fr)) (hl : c.length ≤ len) (hC : len ≤ C.size)
    (hv : ∀ (i : Nat) (v : Value), c[i]? = some v → ∃ v', C[i]? = some v' ∧ VRel ρ v v') (hfr : ∀ i, i < len → ¬ (fr.1 ≤ i ∧ i < fr.2)) :
    HRel K W (ρ.upd h.next ⟨w.heap.size, 0, c.length, len, sz⟩) (h.alloc c sz).2 w' := by
  have hle := Rho.upd_le hr ⟨w.heap.size, 0, c.length, len, sz⟩
  have hold : ∀ k, k < w.heap.size → w'.heap[k]? = w.heap[k]? := fun k hk => by rw [hh, Array.getElem?_push, if_neg (by omega)]
  have hsz : w'.heap.size = w.heap.size + 1 := by rw [hh]; simp
  obtain ⟨p, kb, d, f, l, e⟩ := hr
  have hps := p.size
  refine ⟨⟨io.os.trans p.os, io.tape.trans p.tape, io.output.trans p.output, by omega, fun k hk => ?_⟩, kb, fun b q hb => ?_, fun b hb => ?_, fun b c' sz' own q hb hq => ?_, fun b b' c1 sz1 c2 sz2 own' p1 p2 hne h1 h2 hp1 hp2 => ?_⟩
  · have := kb k hk
    rw [hold k (by omega)]; exact p.blk k hk
  · unfold Rho.upd at hb
    split at hb
    · cases hb; rename_i hx; subst hx; exact ⟨by simp [Hp.alloc], by simp; omega⟩
    · have := d b q hb; exact ⟨by simp [Hp.alloc]; omega, by omega⟩
  · simp only [Hp.alloc] at hb ⊢
    rw [T.get_set_ne _ _ _ _ (by omega)]
    exact f b (by omega)
  · unfold Rho.upd at hq
    simp only [Hp.alloc] at hb
    split at hq
    · rename_i hx
      subst hx
      cases hq
      rw [T.get_set_self] at hb
      cases hb
      refine ⟨rfl, rfl, ⟨C, el, fr, by rw [hh, Array.getElem?_push, if_pos rfl], by simp; omega, fun i v hi => ?_, fun _ => ⟨by simpa using hl, by simpa using hC, fun i _ hi => hfr i (by simpa using hi)⟩⟩, fun _ hk => ?_⟩
      · obtain ⟨v', h1, h2⟩ := hv i v hi
        exact ⟨v', by simpa using h1, h2.mono hle⟩
      · have := kb _ hk
        simp at this
        omega
    · rename_i hx
      rw [T.get_set_ne _ _ _ _ hx] at hb
      obtain ⟨a1, a2, ⟨C', el', fr', b1, b2, b3, b4⟩, a4⟩ := l b c' sz' own q hb hq
      refine ⟨a1, a2, ⟨C', el', fr', by rw [hold _ (d b q hq).2]; exact b1, b2, fun i v hi => ?_, b4⟩, a4⟩
      obtain ⟨v', h1, h2⟩ := b3 i v hi
      exact ⟨v', h1, h2.mono hle⟩
  · unfold Rho.upd at hp1 hp2
    simp only [Hp.alloc] at h1 h2
    split at hp1
    · rename_i hx
      subst hx
      cases hp1
      rw [if_neg (Ne.symm hne)] at hp2
      have := (d b' p2 hp2).2
      simp; omega
    · rename_i hx
      rw [T.get_set_ne _ _ _ _ hx] at h1
      split at hp2
      · rename_i hy
        cases hp2
        have := (d b p1 hp1).2
        simp; omega
      · rename_i hy
        rw [T.get_set_ne _ _ _ _ hy] at h2
        exact e b b' _ _ _ _ _ p1 p2 hne h1 h2 hp1 hp2

theorem Fr.alloc (ρ : Rho) (h : Hp) (c : List Value) (sz : Nat) : Fr ρ h (h.alloc c sz).2 :=
  ⟨rfl, by simp [Hp.alloc], fun b hb _ => by simp only [Hp.alloc]; rw [T.get_set_ne _ _ _ _ (by omega)]⟩

/-- Cells of an own block are turned; the block may become another abstract one. -/
theorem HRel.write {K : Nat → Prop} {W w w' : World} {ρ : Rho} {h : Hp} (hr : HRel K W ρ h w) (io : SameIO w w') {b : Nat} {c : List Value} {sz : Nat} {p : Pl} (hb : h.t.get b = some (.cells c sz true)) (hp : ρ b = some p)
    (c' : List Value) (C C' : Array Value) (el : TypeId) (fr : Nat × Nat) (hC : w.heap[p.blk]? = some (.cells C el fr)) (hs : C'.size = C.size) (hn : c'.length = c.length)
    (hh : w'.heap = w.heap.setIfInBounds p.blk (.cells C' el fr))
    (hv : ∀ (i : Nat) (v : Value), c'[i]? = some v → ∃ v', C'[p.off + i]? = some v' ∧ VRel ρ v v') :
    HRel K W ρ (h.put b (.cells c' sz true)) w' := by
  have hlt := (hr.dom b p hp).2
  have hold : ∀ k, k ≠ p.blk → w'.heap[k]? = w.heap[k]? := fun k hk => by rw [hh, Array.getElem?_setIfInBounds_ne (Ne.symm hk)]
  have hnew : w'.heap[p.blk]? = some (.cells C' el fr) := by rw [hh]; simp [hlt]
  have hsz : w'.heap.size = w.heap.size := by rw [hh]; simp
  have hlv := hr.live b c sz true p hb hp
  obtain ⟨pr, kb, d, f, l, e⟩ := hr
  refine ⟨⟨io.os.trans pr.os, io.tape.trans pr.tape, io.output.trans pr.output, by have := pr.size; omega, fun k hk => ?_⟩, kb, fun b' q hq => by rw [hsz]; exact d b' q hq, fun b' hb' => ?_, fun b' c1 sz1 own q hb' hq => ?_, fun b1 b2 c1 sz1 c2 sz2 own' p1 p2 hne h1 h2 hp1 hp2 => ?_⟩
  · rw [hold k (fun hkk => by subst hkk; exact hlv.own rfl hk)]; exact pr.blk k hk
  · simp only [Hp.put] at hb' ⊢
    have : b' ≠ b := fun hx => by subst hx; have := (d b' p hp).1; omega
    rw [T.get_set_ne _ _ _ _ this]; exact f b' hb'
  · simp only [Hp.put] at hb'
    by_cases hx : b' = b
    · subst hx
      rw [T.get_set_self] at hb'
      cases hb'
      rw [hp] at hq
      cases hq
      obtain ⟨a1, a2, ⟨C0, el0, fr0, b1, b2, b3, b4⟩, a4⟩ := hlv
      rw [hC] at b1
      cases b1
      exact ⟨a1, by rw [a2, hn], ⟨C', el, fr, hnew, by rw [hs]; exact b2, hv, fun _ => by rw [hs]; exact b4 rfl⟩, a4⟩
    · rw [T.get_set_ne _ _ _ _ hx] at hb'
      obtain ⟨a1, a2, ⟨C0, el0, fr0, b1, b2, b3, b4⟩, a4⟩ := l b' c1 sz1 own q hb' hq
      have hne := e b b' _ _ _ _ _ p q (Ne.symm hx) hb hb' hp hq
      exact ⟨a1, a2, ⟨C0, el0, fr0, by rw [hold _ (Ne.symm hne)]; exact b1, b2, b3, b4⟩, a4⟩
  · simp only [Hp.put] at h1 h2
    by_cases hx : b1 = b
    · subst hx
      rw [T.get_set_ne _ _ _ _ (Ne.symm hne)] at h2
      exact e b1 b2 _ _ _ _ _ p1 p2 hne hb h2 hp1 hp2
    · rw [T.get_set_ne _ _ _ _ hx] at h1
      by_cases hy : b2 = b
      · subst hy
        exact e b1 b2 _ _ _ _ _ p1 p2 hne h1 hb hp1 hp2
      · rw [T.get_set_ne _ _ _ _ hy] at h2
        exact e b1 b2 _ _ _ _ _ p1 p2 hne h1 h2 hp1 hp2

theorem held_not_mem {h : Hp} {b : Nat} (hh : h.held b = false) : b ∉ h.fz := by
  intro hm
  unfold Hp.held at hh
  rw [List.any_eq_false] at hh
  exact hh b hm (by simp)

theorem Fr.put {ρ : Rho} {h : Hp} {b : Nat} {p : Pl} (hp : ρ b = some p) (hh : h.held b = false) (o : AObj) : Fr ρ h (h.put b o) :=
  ⟨rfl, Nat.le_refl _, fun x hx hc => by
    simp only [Hp.put]
    rw [T.get_set_ne]
    rintro rfl
    rcases hc with hc | hc
    · rw [hp] at hc; cases hc
    · exact held_not_mem hh hc⟩

/-- A block is given up. -/
theorem HRel.kill {K : Nat → Prop} {W w : World} {ρ : Rho} {h : Hp} (hr : HRel K W ρ h w) (b : Nat) (hb : b < h.next) : HRel K W ρ (h.put b .dead) w := by
  obtain ⟨pr, kb, d, f, l, e⟩ := hr
  refine ⟨pr, kb, d, fun b' hb' => ?_, fun b' c1 sz1 own q hb' hq => ?_, fun b1 b2 c1 sz1 c2 sz2 own' p1 p2 hne h1 h2 hp1 hp2 => ?_⟩
  · simp only [Hp.put] at hb' ⊢
    rw [T.get_set_ne _ _ _ _ (by omega)]; exact f b' hb'
  · simp only [Hp.put] at hb'
    by_cases hx : b' = b
    · subst hx; rw [T.get_set_self] at hb'; cases hb'
    · rw [T.get_set_ne _ _ _ _ hx] at hb'; exact l b' c1 sz1 own q hb' hq
  · simp only [Hp.put] at h1 h2
    by_cases hx : b1 = b
    · subst hx; rw [T.get_set_self] at h1; cases h1
    · by_cases hy : b2 = b
      · subst hy; rw [T.get_set_self] at h2; cases h2
      · rw [T.get_set_ne _ _ _ _ hx] at h1
        rw [T.get_set_ne _ _ _ _ hy] at h2
        exact e b1 b2 _ _ _ _ _ p1 p2 hne h1 h2 hp1 hp2

/-- A slice grows where it lies: its block is given up, a new abstract one has its place from 'o' on. -/
theorem HRel.grow {K : Nat → Prop} {W w w' : World} {ρ : Rho} {h : Hp} (hr : HRel K W ρ h w) (io : SameIO w w') {b : Nat} {c : List Value} {sz : Nat} {p : Pl} (hb : h.t.get b = some (.cells c sz true)) (hp : ρ b = some p)
    (o : Nat) (c' : List Value) (C C' : Array Value) (el : TypeId) (fr : Nat × Nat) (hC : w.heap[p.blk]? = some (.cells C el fr)) (hs : C'.size = C.size) (hn : o + c'.length ≤ p.len)
    (hh : w'.heap = w.heap.setIfInBounds p.blk (.cells C' el fr))
    (hv : ∀ (i : Nat) (v : Value), c'[i]? = some v → ∃ v', C'[p.off + o + i]? = some v' ∧ VRel ρ v v') :
    HRel K W (ρ.upd h.next ⟨p.blk, p.off + o, c'.length, p.len - o, sz⟩) ((h.put b .dead).alloc c' sz).2 w' := by
  have hle := Rho.upd_le hr ⟨p.blk, p.off + o, c'.length, p.len - o, sz⟩
  have hdom := hr.dom b p hp
  have hold : ∀ k, k ≠ p.blk → w'.heap[k]? = w.heap[k]? := fun k hk => by rw [hh, Array.getElem?_setIfInBounds_ne (Ne.symm hk)]
  have hnew : w'.heap[p.blk]? = some (.cells C' el fr) := by rw [hh]; simp [hdom.2]
  have hsz : w'.heap.size = w.heap.size := by rw [hh]; simp
  have hlv := hr.live b c sz true p hb hp
  obtain ⟨pr, kb, d, f, l, e⟩ := hr
  have hget : ∀ x, x ≠ h.next → x ≠ b → ((h.put b .dead).alloc c' sz).2.t.get x = h.t.get x := fun x h1 h2 => by
    simp only [Hp.put, Hp.alloc]
    rw [T.get_set_ne _ _ _ _ h1, T.get_set_ne _ _ _ _ h2]
  have hgb : ((h.put b .dead).alloc c' sz).2.t.get b = some .dead := by
    simp only [Hp.put, Hp.alloc]
    rw [T.get_set_ne _ _ _ _ (by omega), T.get_set_self]
  have hgn : ((h.put b .dead).alloc c' sz).2.t.get h.next = some (.cells c' sz true) := by
    simp only [Hp.put, Hp.alloc]
    rw [T.get_set_self]
  refine ⟨⟨io.os.trans pr.os, io.tape.trans pr.tape, io.output.trans pr.output, by have := pr.size; omega, fun k hk => ?_⟩, kb, fun b' q hq => ?_, fun b' hb' => ?_, fun b' c1 sz1 own q hb' hq => ?_, fun b1 b2 c1 sz1 c2 sz2 own' p1 p2 hne h1 h2 hp1 hp2 => ?_⟩
  · rw [hold k (fun hkk => by subst hkk; exact hlv.own rfl hk)]; exact pr.blk k hk
  · unfold Rho.upd at hq
    rw [hsz]
    split at hq
    · cases hq; rename_i hx; subst hx; exact ⟨by simp [Hp.alloc, Hp.put], hdom.2⟩
    · have := d b' q hq; exact ⟨by simp [Hp.alloc, Hp.put]; omega, this.2⟩
  · have hb'' : h.next + 1 ≤ b' := hb'
    rw [hget b' (by omega) (by omega)]
    exact f b' (by omega)
  · unfold Rho.upd at hq
    split at hq
    · rename_i hx
      subst hx
      cases hq
      rw [hgn] at hb'
      cases hb'
      obtain ⟨a1, a2, ⟨C0, el0, fr0, b1, b2, b3, b4⟩, a4⟩ := hlv
      rw [hC] at b1
      cases b1
      obtain ⟨c1, c2, c3⟩ := b4 rfl
      refine ⟨rfl, rfl, ⟨C', el, fr, hnew, by simp; omega, fun i v hi => ?_, fun _ => ⟨by simp; omega, by simp; omega, fun i hi1 hi2 => c3 i (by simp at hi1; omega) (by simp at hi2; omega)⟩⟩, fun _ => a4 rfl⟩
      obtain ⟨v', h1, h2⟩ := hv i v hi
      exact ⟨v', h1, h2.mono hle⟩
    · rename_i hx
      by_cases hy : b' = b
      · subst hy; rw [hgb] at hb'; cases hb'
      · rw [hget b' hx hy] at hb'
        obtain ⟨a1, a2, ⟨C0, el0, fr0, b1, b2, b3, b4⟩, a4⟩ := l b' c1 sz1 own q hb' hq
        have hne := e b b' _ _ _ _ _ p q (Ne.symm hy) hb hb' hp hq
        refine ⟨a1, a2, ⟨C0, el0, fr0, by rw [hold _ (Ne.symm hne)]; exact b1, b2, fun i v hi => ?_, b4⟩, a4⟩
        obtain ⟨v', h1, h2⟩ := b3 i v hi
        exact ⟨v', h1, h2.mono hle⟩
  · by_cases hx1 : b1 = b
    · subst hx1; rw [hgb] at h1; cases h1
    · by_cases hx2 : b2 = b
      · subst hx2; rw [hgb] at h2; cases h2
      · unfold Rho.upd at hp1 hp2
        split at hp1
        · rename_i hy
          subst hy
          cases hp1
          rw [if_neg (Ne.symm hne)] at hp2
          rw [hget b2 (Ne.symm hne) hx2] at h2
          exact e b b2 _ _ _ _ _ p p2 (Ne.symm hx2) hb h2 hp hp2
        · rename_i hy
          rw [hget b1 hy hx1] at h1
          split at hp2
          · cases hp2
            exact e b1 b _ _ _ _ _ p1 p hx1 h1 hb hp1 hp
          · rename_i hz
            rw [hget b2 hz hx2] at h2
            exact e b1 b2 _ _ _ _ _ p1 p2 hne h1 h2 hp1 hp2

end Go.Eng
