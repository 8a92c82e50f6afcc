/- Frames, lists that grow, windows' lists in memory. -/
import Derived.Test.YtdafdampodbobaaSeatCode
namespace Go.Eng
set_option linter.unusedSimpArgs false
set_option linter.unusedVariables false

/-- What a call leaves alone: all blocks of old but those of X. -/
structure Kp (X : Nat → Prop) (h h' : Hp) : Prop where
  next : h.next ≤ h'.next
  get : ∀ b, b < h.next → ¬ X b → h'.t.get b = h.t.get b
  fz : h'.fz = h.fz

abbrev K0 (h h' : Hp) : Prop := Kp (fun _ => False) h h'

def FzLt (h : Hp) : Prop := ∀ b, b ∈ h.fz → b < h.next

section
variable {X : Nat → Prop} {h h' h'' : Hp}

theorem Kp.refl : Kp X h h := ⟨Nat.le_refl _, fun _ _ _ => rfl, rfl⟩
theorem Kp.trans (a : Kp X h h') (b : Kp X h' h'') : Kp X h h'' :=
  ⟨Nat.le_trans a.next b.next, fun x hx hn => (b.get x (Nat.lt_of_lt_of_le hx a.next) hn).trans (a.get x hx hn), b.fz.trans a.fz⟩
theorem Kp.weaken {Y : Nat → Prop} (a : Kp X h h') (hy : ∀ b, b < h.next → X b → Y b) : Kp Y h h' :=
  ⟨a.next, fun x hx hn => a.get x hx (fun hx' => hn (hy x hx hx')), a.fz⟩
/-- A step that turns blocks that are new to the whole. -/
theorem Kp.andThen {Y : Nat → Prop} (a : Kp X h h') (b : Kp Y h' h'') (hy : ∀ x, Y x → x < h.next → X x) : Kp X h h'' :=
  ⟨Nat.le_trans a.next b.next, fun x hx hn => (b.get x (Nat.lt_of_lt_of_le hx a.next) (fun hyx => hn (hy x hyx hx))).trans (a.get x hx hn), b.fz.trans a.fz⟩
theorem Kp.fzLt (a : Kp X h h') (hf : FzLt h) : FzLt h' := fun b hb => Nat.lt_of_lt_of_le (hf b (a.fz ▸ hb)) a.next
theorem Kp.keep {b : Nat} {o : AObj} (a : Kp X h h') (hb : b < h.next) (hx : ¬ X b) (hg : h.t.get b = some o) : h'.t.get b = some o := (a.get b hb hx).trans hg

theorem FzLt.not_mem (hf : FzLt h) {b : Nat} (hb : h.next ≤ b) : b ∉ h.fz := fun hm => by have := hf b hm; omega

/-! ### New blocks -/
theorem K0.alloc (c : List Value) (sz : Nat) : K0 h (h.alloc c sz).2 :=
  ⟨by simp [Hp.alloc], fun b hb _ => by simp only [Hp.alloc]; rw [T.get_set_ne _ _ _ _ (by omega)], rfl⟩
theorem alloc_get (c : List Value) (sz : Nat) : (h.alloc c sz).2.t.get h.next = some (.cells c sz true) := by simp only [Hp.alloc]; rw [T.get_set_self]
theorem alloc_next (c : List Value) (sz : Nat) : (h.alloc c sz).2.next = h.next + 1 := rfl
theorem alloc_fz (c : List Value) (sz : Nat) : (h.alloc c sz).2.fz = h.fz := rfl
theorem put_get {b : Nat} {o : AObj} : (h.put b o).t.get b = some o := by simp only [Hp.put]; rw [T.get_set_self]
theorem put_get_ne {b x : Nat} {o : AObj} (hx : x ≠ b) : (h.put b o).t.get x = h.t.get x := by simp only [Hp.put]; rw [T.get_set_ne _ _ _ _ hx]
theorem Kp.put {b : Nat} {o : AObj} : Kp (· = b) h (h.put b o) := ⟨Nat.le_refl _, fun _ _ hx => put_get_ne hx, rfl⟩

/-! ### Lists that grow -/
/-- A list of n elements of sz cells, made since n0, or nil. -/
def Acc (h : Hp) (n0 sz n : Nat) (L : List Value) (v : Value) : Prop :=
  L.length = n * sz ∧ ((n = 0 ∧ v = .slice none 0 0) ∨ (0 < n ∧ ∃ b, v = sl b 0 n 0 ∧ n0 ≤ b ∧ b < h.next ∧ h.t.get b = some (.cells L sz true)))

/-- The block of a list. -/
def blkOf : Value → Option Nat
  | .slice (some ⟨b, _, _⟩) _ _ => some b
  | _ => none

theorem Acc.nil {n0 sz : Nat} : Acc h n0 sz 0 [] (.slice none 0 0) := ⟨by simp, .inl ⟨rfl, rfl⟩⟩

theorem Acc.keep {n0 sz n : Nat} {L : List Value} {v : Value} (a : Acc h n0 sz n L v) (hn : h.next ≤ h'.next) (hg : ∀ b, blkOf v = some b → h'.t.get b = h.t.get b) : Acc h' n0 sz n L v := by
  obtain ⟨hl, ⟨rfl, rfl⟩ | ⟨hp, b, rfl, h1, h2, h3⟩⟩ := a
  · exact ⟨hl, .inl ⟨rfl, rfl⟩⟩
  · exact ⟨hl, .inr ⟨hp, b, rfl, h1, by omega, (hg b rfl).trans h3⟩⟩

theorem Acc.blk {n0 sz n : Nat} {L : List Value} {v : Value} (a : Acc h n0 sz n L v) : ∀ b, blkOf v = some b → n0 ≤ b ∧ b < h.next := by
  obtain ⟨hl, ⟨rfl, rfl⟩ | ⟨hp, b, rfl, h1, h2, h3⟩⟩ := a
  · intro b hb; cases hb
  · intro b' hb'; cases hb'; exact ⟨h1, h2⟩

theorem cells_whole {b n sz : Nat} {c : List Value} {s : Nat} {own : Bool} {cf : Nat} (hb : h.t.get b = some (.cells c s own)) (hl : c.length = n * sz) : sliceCells h sz (sl b 0 n cf) = some c := by
  simp only [sliceCells, beq_dec]
  by_cases hn : n = 0
  · subst hn
    have : c = [] := List.eq_nil_of_length_eq_zero (by omega)
    simp [this]
  · rw [decide_eq_false hn, cond_false, rd_of hb (by omega), List.drop_zero, ← hl, List.take_length]

theorem held_false {b : Nat} (hb : b ∉ h.fz) : h.held b = false := by
  unfold Hp.held
  rw [List.any_eq_false]
  intro x hx hxe
  rw [beq_dec, decide_eq_true_eq] at hxe
  subst hxe
  exact hb hx

/-- A list grows by another one. -/
theorem append_acc {n0 sz by' n m : Nat} {L xs : List Value} {v x : Value} (a : Acc h n0 sz n L v) (hn0 : n0 ≤ h.next) (hsz : 1 ≤ sz) (hby : 1 ≤ by') (hlim : (n + m) * by' ≤ 140737488355328)
    (hx : ∃ base cf, x = .slice base m cf) (hxs : sliceCells h sz x = some xs) (hxl : xs.length = m * sz) (hone : xs.all oneCell = true) (hfz : ∀ b, blkOf v = some b → b ∉ h.fz) :
    ∃ v' h', sAppend h sz by' v x = some (v', h') ∧ Acc h' n0 sz (n + m) (L ++ xs) v' ∧ Kp (fun b => blkOf v = some b) h h' ∧ (∀ b, blkOf v' = some b → blkOf v = some b ∨ h.next ≤ b) := by
  obtain ⟨base, cf, rfl⟩ := hx
  obtain ⟨hl, ha⟩ := a
  by_cases hm : m = 0
  · subst hm
    have hxs0 : xs = [] := List.eq_nil_of_length_eq_zero (by omega)
    subst hxs0
    refine ⟨v, h, ?_, ?_, Kp.refl, fun b hb => .inl hb⟩
    · rcases ha with ⟨rfl, rfl⟩ | ⟨hp, b, rfl, h1, h2, h3⟩
      · simp only [sAppend, hxs, Nat.beq_eq_true_eq, beq_dec, decide_true, cond_true]
      · simp only [sAppend, hxs, beq_dec, decide_true, cond_true]
    · rw [Nat.add_zero, List.append_nil]
      exact ⟨hl, ha⟩
  · have hm' : Nat.beq m 0 = false := by rw [beq_dec]; exact decide_eq_false hm
    rcases ha with ⟨rfl, rfl⟩ | ⟨hp, b, rfl, h1, h2, h3⟩
    · have hL : L = [] := List.eq_nil_of_length_eq_zero (by omega)
      subst hL
      refine ⟨sl h.next 0 m 0, (h.alloc xs sz).2, ?_, ⟨by simpa using hxl, .inr ⟨by omega, h.next, by simp, ?_, by simp [Hp.alloc], by simpa using alloc_get xs sz⟩⟩, (K0.alloc xs sz).weaken (fun _ _ hx => hx.elim), fun b hb => .inr ?_⟩
      · have hlim' : (0 + m) * by' ≤ 140737488355328 := hlim
        simp only [sAppend, hxs, hm', cond_false, ble_dec, hlim', hby, hone, decide_true, Bool.and_self, cond_true, show Nat.beq 0 0 = true from rfl]
      · exact hn0
      · cases hb; exact Nat.le_refl _
    · have hhf : h.held b = false := held_false (hfz b rfl)
      have hlen : L.length = n * sz := hl
      have hpos : 0 < n * sz := Nat.mul_pos hp (by omega)
      have hmsz : 0 < m * sz := Nat.mul_pos (by omega) (by omega)
      have hgt : ¬ (0 + (n + m) * sz ≤ L.length) := by rw [hlen, Nat.add_mul]; omega
      refine ⟨sl h.next 0 (n + m) 0, ((h.put b .dead).alloc (L ++ xs) sz).2, ?_, ⟨by rw [List.length_append, hlen, hxl, Nat.add_mul], .inr ⟨by omega, h.next, rfl, by omega, by simp [Hp.alloc, Hp.put], ?_⟩⟩, ?_, fun b' hb' => .inr ?_⟩
      · have e1 : Nat.beq sz sz = true := by rw [beq_dec]; simp
        have e2 : 0 + n * sz ≤ L.length := by omega
        have e3 : 0 < L.length := by omega
        simp only [sAppend, hxs, hm', cond_false, ble_dec, blt_dec, hlim, hby, hone, decide_true, Bool.and_self, cond_true, h3, e1, hsz, e2, e3, Bool.true_or, hhf, Bool.not_false, hgt, decide_false, List.drop_zero]
        rw [← hlen, List.take_length]
      · simp only [Hp.alloc, Hp.put]
        rw [T.get_set_self]
      · refine ⟨by simp [Hp.alloc, Hp.put], fun x hx hn => ?_, rfl⟩
        simp only [Hp.alloc, Hp.put]
        rw [T.get_set_ne _ _ _ _ (by omega), T.get_set_ne]
        rintro rfl
        exact hn rfl
      · cases hb'
        exact Nat.le_refl _

/-! ### The steps that turn memory -/
theorem NewQ.intro {c : List Value} {sz : Nat} {mk : Nat → Value} {Q : Value → Hp → Prop} (hq : ∀ (b : Nat) (h' : Hp), b = h.next → h'.next = b + 1 → h'.t.get b = some (.cells c sz true) → K0 h h' → Q (mk b) h') : NewQ h (some c) sz mk Q :=
  ⟨c, rfl, hq h.next _ rfl rfl (alloc_get c sz) (K0.alloc c sz)⟩

theorem StoreQ.one {b o : Nat} {v : Value} {c : List Value} {sz : Nat} {Q : Value → Hp → Prop} (hv : oneCell v = true) (hb : h.t.get b = some (.cells c sz true)) (ho : o < c.length) (hf : b ∉ h.fz)
    (hq : ∀ h' : Hp, h'.next = h.next → h'.t.get b = some (.cells (c.set o v) sz true) → Kp (· = b) h h' → Q undef h') : StoreQ h 1 (some (pt b o)) (some v) Q :=
  ⟨_, _, _, rfl, rfl, store_one hv hb ho hf, hq _ rfl put_get Kp.put⟩

theorem StoreQ.agg {b o n : Nat} {l c : List Value} {sz : Nat} {Q : Value → Hp → Prop} (hv : l.all oneCell = true) (hn : l.length = n) (hb : h.t.get b = some (.cells c sz true)) (ho : o + n ≤ c.length) (hf : b ∉ h.fz)
    (hq : ∀ h' : Hp, h'.next = h.next → h'.t.get b = some (.cells (c.take o ++ l ++ c.drop (o + n)) sz true) → Kp (· = b) h h' → Q undef h') : StoreQ h n (some (pt b o)) (some (.agg l.toArray)) Q :=
  ⟨_, _, _, rfl, rfl, store_agg hv hn hb ho hf, hq _ rfl put_get Kp.put⟩

theorem AppendQ.acc {n0 sz by' n m : Nat} {L xs : List Value} {v x : Value} {Q : Value → Hp → Prop} (a : Acc h n0 sz n L v) (hn0 : n0 ≤ h.next) (hsz : 1 ≤ sz) (hby : 1 ≤ by') (hlim : (n + m) * by' ≤ 140737488355328)
    (hx : ∃ base cf, x = .slice base m cf) (hxs : sliceCells h sz x = some xs) (hxl : xs.length = m * sz) (hone : xs.all oneCell = true) (hfz : ∀ b, blkOf v = some b → b ∉ h.fz)
    (hq : ∀ (v' : Value) (h' : Hp), Acc h' n0 sz (n + m) (L ++ xs) v' → Kp (fun b => blkOf v = some b) h h' → (∀ b, blkOf v' = some b → blkOf v = some b ∨ h.next ≤ b) → Q v' h') : AppendQ h sz by' (some v) (some x) Q := by
  obtain ⟨v', h', h1, h2, h3, h4⟩ := append_acc a hn0 hsz hby hlim hx hxs hxl hone hfz
  exact ⟨_, _, v', h', rfl, rfl, h1, hq v' h' h2 h3 h4⟩
end
end Go.Eng
