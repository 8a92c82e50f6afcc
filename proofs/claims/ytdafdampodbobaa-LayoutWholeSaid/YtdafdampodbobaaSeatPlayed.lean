/- Trees behind deeds. -/
import Derived.Test.YtdafdampodbobaaSeatDo
namespace Go.Eng
set_option linter.unusedSimpArgs false
set_option linter.unusedVariables false

structure Deed where
  kind : Int
  a : Int
  b : Int
  side : Bool
def Deed.cells (d : Deed) : List Value := [i64 d.kind, i64 d.a, i64 d.b, .bool d.side]
def deedCells (l : List Deed) : List Value := l.flatMap Deed.cells

/-- The deeds that are handed in. -/
def ArgAt (h : Hp) (v : Value) (ds : List Deed) : Prop :=
  (v = .slice none 0 0 ∧ ds = []) ∨ ∃ b cf, v = sl b 0 ds.length cf ∧ b < h.next ∧ h.t.get b = some (.cells (deedCells ds) 4 false)

theorem deedCells_at (l : List Deed) (i : Nat) (d : Deed) (hd : l[i]? = some d) : ((deedCells l).drop (i * 4)).take 4 = d.cells ∧ i * 4 + 4 ≤ (deedCells l).length := by
  induction l generalizing i with
  | nil => simp at hd
  | cons x l ih =>
    have hx : x.cells.length = 4 := rfl
    cases i with
    | zero =>
      simp at hd
      subst hd
      simp [deedCells, Deed.cells]
    | succ i =>
      have := ih i (by simpa using hd)
      rw [show deedCells (x :: l) = x.cells ++ deedCells l by simp [deedCells], show (i + 1) * 4 = x.cells.length + i * 4 by omega, List.drop_append, List.drop_of_length_le (by omega), List.nil_append, Nat.add_sub_cancel_left, List.length_append]
      exact ⟨this.1, by omega⟩

theorem ArgAt.mono {h h' : Hp} (o : Old h h') {v : Value} {ds : List Deed} (a : ArgAt h v ds) : ArgAt h' v ds := by
  rcases a with ⟨h1, h2⟩ | ⟨b, cf, h1, h2, h3⟩
  · exact .inl ⟨h1, h2⟩
  · exact .inr ⟨b, cf, h1, Nat.lt_of_lt_of_le h2 o.next, (o.get b h2).trans h3⟩
theorem ArgAt.len {h : Hp} {v : Value} {ds : List Deed} (a : ArgAt h v ds) : lenV (some v) = some (i64 ds.length) := by
  rcases a with ⟨h1, h2⟩ | ⟨b, cf, h1, h2, h3⟩ <;> subst h1
  · subst h2; rfl
  · rfl
/-- One deed. -/
theorem ArgAt.elem {h : Hp} {v : Value} {ds : List Deed} (a : ArgAt h v ds) {i : Nat} {d : Deed} (hd : ds[i]? = some d) : ∃ b, elemAt 4 (some v) (some (i64 i)) = some (pt b (i * 4)) ∧ rdN h.t b (i * 4) 4 = some d.cells := by
  have hi := (List.getElem?_eq_some_iff.1 hd).1
  rcases a with ⟨h1, h2⟩ | ⟨b, cf, h1, h2, h3⟩
  · subst h2
    simp at hi
  · subst h1
    obtain ⟨q1, q2⟩ := deedCells_at _ _ _ hd
    have h1 : (i : Int) < (ds.length : Int) := by omega
    have h0 : (0 : Int) ≤ (i : Int) := by omega
    refine ⟨b, ?_, by rw [rdN_of h3 q2, q1]⟩
    simp only [elemAt_s, h1, h0, and_self, if_true, Int.toNat_natCast, Nat.zero_add]

section
variable {F : FuncId → Option SFunc} {G : FuncId → List Value → Option Value}

theorem news (TT : Tab F G) {h : Hp} (hf : FzLt h) {r c : Int} {R : Value → Hp → Prop} (hr : ∀ bt h', h.next ≤ bt → K0 h h' → (∀ (h2 : Hp) (R2 : Value → Hp → Prop), Old h' h2 → FzLt h2 → (∀ bx h3, h2.next ≤ bx → K0 h2 h3 → Duo h3 bt bx ⟨.win 1, 1, 1, clampR r, clampC c⟩ → R2 (pt bx 0) h3) → Call F G 18 [i64 r, i64 c] h2 R2) → R (pt bt 0) h') : Call F G 17 [i64 r, i64 c] h R := by
  refine new_call TT hf fun bt h1 hb1 k1 a1 => hr bt h1 hb1 k1 fun h2 R2 o2 hf2 hr2 => ?_
  refine ref_new TT hf2 fun bx h3 hb3 k3 x3 => hr2 bx h3 hb3 k3 ?_
  have lt1 := a1.lt
  have n2 := o2.next
  refine ⟨by omega, ?_, ?_⟩
  · obtain ⟨lt, nz, rv, hg, ht⟩ := a1.mono (o2.trans k3.old)
    obtain ⟨_, _, rv1, hg1, ht1⟩ := a1
    have hg1' := ((o2.trans k3.old).get bt lt1).trans hg1
    rw [hg] at hg1'
    cases hg1'
    refine ⟨lt, fun hx => hx.1 rfl, rv, hg, ht1.move (o2.trans k3.old).next (fun b hb _ => (o2.trans k3.old).get b hb) (fun b hb hz => ⟨hz.2, by omega⟩)⟩
  · obtain ⟨lt, nz, n, hg, ht⟩ := x3
    exact ⟨lt, fun hx => hx.2 rfl, n, hg, ht.move (Nat.le_refl _) (fun _ _ _ => rfl) (fun b hb hz => ⟨by omega, hz.2⟩)⟩

structure QI (h : Hp) (av : Value) (bt bx : Nat) (S : LS) (i : Nat) (s : St) : Prop where
  e2 : s.e.get 2 = some av
  e7 : s.e.get 7 = some (pt bt 0)
  e8 : s.e.get 8 = some (pt bx 0)
  e9 : s.e.get 9 = some (i64 i)
  inv : Inv i S
  duo : Duo s.h bt bx S
  heap : K0 h s.h
  lt : h.next ≤ bt
  lx : h.next ≤ bx

theorem played_loop (TT : Tab F G) {h : Hp} (hf : FzLt h) {av : Value} {ds : List Deed} (A : ArgAt h av ds) {bt bx : Nat} {Q : Flow → St → Prop} :
    ∀ (n i : Nat) (S : LS) (s : St), i + n = min ds.length 60 → QI h av bt bx S i s → (∀ S' s', Inv 60 S' → Duo s'.h bt bx S' → K0 h s'.h → s'.e.get 7 = some (pt bt 0) → Q (.exit 0) s') → Code F G (.loop b9_7) s Q := by
  intro n
  induction n with
  | zero =>
    intro i S s hn I hq
    obtain ⟨e, h2⟩ := s
    obtain ⟨e2, e7, e8, e9, inv, duo, hk, lt, lx⟩ := I
    simp only at e2 e7 e8 e9 duo hk
    refine Code.loop (Code.seq (Code.seq (Code.ops ?_)))
    by_cases hl : i < ds.length
    · have hl1 : (i : Int) < (ds.length : Int) := by omega
      have h60 : ¬ (i : Int) < 60 := by omega
      simp only [s9_4, ↓wP, wS, Nat.reduceEqDiff, reduceIte, Nat.reduceLeDiff, and_self, cond_true, cond_false, Nat.reduceAdd, Nat.reduceMul, e2, e7, e9, A.len, hl1, h60, decide_true, decide_false]
      refine Code.cond (t := false) (by simp only [↓wP, wS, Nat.reduceEqDiff, reduceIte, Nat.reduceLeDiff, and_self, cond_true, cond_false, Nat.reduceAdd, Nat.reduceMul]) (fun h => by cases h) (fun _ => Code.exit ?_)
      exact hq S _ (inv.mono (by omega)) duo hk (by simp only [↓wP, wS, Nat.reduceEqDiff, reduceIte, Nat.reduceLeDiff, and_self, cond_true, cond_false, Nat.reduceAdd, Nat.reduceMul, e7])
    · have hl1 : ¬ (i : Int) < (ds.length : Int) := by omega
      simp only [s9_4, ↓wP, wS, Nat.reduceEqDiff, reduceIte, Nat.reduceLeDiff, and_self, cond_true, cond_false, Nat.reduceAdd, Nat.reduceMul, e2, e7, e9, A.len, hl1, decide_false]
      refine Code.cond (t := false) (by simp only [↓wP, wS, Nat.reduceEqDiff, reduceIte, Nat.reduceLeDiff, and_self, cond_true, cond_false, Nat.reduceAdd, Nat.reduceMul]) (fun h => by cases h) (fun _ => Code.exit ?_)
      exact hq S _ (inv.mono (by omega)) duo hk (by simp only [↓wP, wS, Nat.reduceEqDiff, reduceIte, Nat.reduceLeDiff, and_self, cond_true, cond_false, Nat.reduceAdd, Nat.reduceMul, e7])
  | succ n ih =>
    intro i S s hn I hq
    obtain ⟨e, h2⟩ := s
    obtain ⟨e2, e7, e8, e9, inv, duo, hk, lt, lx⟩ := I
    simp only at e2 e7 e8 e9 duo hk
    have hil : i < ds.length := by omega
    have hl1 : (i : Int) < (ds.length : Int) := by omega
    have h60 : (i : Int) < 60 := by omega
    have hw2 : w64 ((i : Int) + 1) = i + 1 := w64_id (by omega) (by omega)
    obtain ⟨bd, q1, q2⟩ := (A.mono hk.old).elem (List.getElem?_eq_getElem hil)
    generalize ds[i] = d at q2
    refine Code.loop (Code.seq (Code.seq (Code.ops ?_)))
    simp only [s9_4, ↓wP, wS, Nat.reduceEqDiff, reduceIte, Nat.reduceLeDiff, and_self, cond_true, cond_false, Nat.reduceAdd, Nat.reduceMul, e2, e7, e9, A.len, hl1, h60, decide_true]
    refine Code.cond (t := true) (by simp only [↓wP, wS, Nat.reduceEqDiff, reduceIte, Nat.reduceLeDiff, and_self, cond_true, cond_false, Nat.reduceAdd, Nat.reduceMul]) (fun _ => Code.skip ?_) (fun h => by cases h)
    refine Code.seq (Code.block (Code.ops ?_))
    simp only [s9_5, ↓wP, wS, Nat.reduceEqDiff, reduceIte, Nat.reduceLeDiff, and_self, cond_true, cond_false, Nat.reduceAdd, Nat.reduceMul, e2, e7, e8, e9, q1, q2]
    refine do_call TT (hk.fzLt hf) duo inv (by omega) (by rw [hk.fz]; exact hf.not_mem lt) (by rw [hk.fz]; exact hf.not_mem lx) fun S' h3 I' D' k3 => ?_
    simp only [↓wP, wS, Nat.reduceEqDiff, reduceIte, Nat.reduceLeDiff, and_self, cond_true, cond_false, Nat.reduceAdd, Nat.reduceMul]
    refine Code.ops ?_
    simp only [s9_6, ↓wP, wS, Nat.reduceEqDiff, reduceIte, Nat.reduceLeDiff, and_self, cond_true, cond_false, Nat.reduceAdd, Nat.reduceMul, e9, hw2]
    refine ih (i + 1) S' _ (by omega) ⟨by simp only [↓wP, wS, Nat.reduceEqDiff, reduceIte, Nat.reduceLeDiff, and_self, cond_true, cond_false, Nat.reduceAdd, Nat.reduceMul, e2], by simp only [↓wP, wS, Nat.reduceEqDiff, reduceIte, Nat.reduceLeDiff, and_self, cond_true, cond_false, Nat.reduceAdd, Nat.reduceMul, e7], by simp only [↓wP, wS, Nat.reduceEqDiff, reduceIte, Nat.reduceLeDiff, and_self, cond_true, cond_false, Nat.reduceAdd, Nat.reduceMul, e8], by simp only [↓wP, wS, Nat.reduceEqDiff, reduceIte, Nat.reduceLeDiff, and_self, cond_true, cond_false, Nat.reduceAdd, Nat.reduceMul]; rfl, I', D', hk.andThen k3 (fun x hx hl => by omega), lt, lx⟩ hq

theorem played_call (TT : Tab F G) {h : Hp} (hf : FzLt h) {av : Value} {ds : List Deed} (A : ArgAt h av ds) {r c : Int} {R : Value → Hp → Prop}
    (hr : ∀ S bt bx h', Inv 60 S → Duo h' bt bx S → K0 h h' → h.next ≤ bt → R (pt bt 0) h') : Call F G 9 [i64 r, i64 c, av] h R := by
  refine Call.enter (TT.g _ _ (by decide)) TT.f9 (Nat.le_of_ble_eq_true rfl) ?_
  simp only [c9, envOf]
  refine Code.seq (Code.ops ?_)
  simp only [s9_0, ↓wP, wS, Nat.reduceEqDiff, reduceIte, Nat.reduceLeDiff, and_self, cond_true, cond_false, Nat.reduceAdd, Nat.reduceMul]
  refine Code.seq (Code.ops ?_)
  simp only [s9_1, ↓wP, wS, Nat.reduceEqDiff, reduceIte, Nat.reduceLeDiff, and_self, cond_true, cond_false, Nat.reduceAdd, Nat.reduceMul]
  refine news TT hf fun bt h1 hb1 k1 hx => ?_
  simp only [↓wP, wS, Nat.reduceEqDiff, reduceIte, Nat.reduceLeDiff, and_self, cond_true, cond_false, Nat.reduceAdd, Nat.reduceMul]
  refine Code.seq (Code.ops ?_)
  simp only [s9_2, ↓wP, wS, Nat.reduceEqDiff, reduceIte, Nat.reduceLeDiff, and_self, cond_true, cond_false, Nat.reduceAdd, Nat.reduceMul]
  refine hx h1 _ (Old.refl _) (k1.fzLt hf) fun bx h2 hb2 k2 D => ?_
  have n1 := k1.next
  simp only [↓wP, wS, Nat.reduceEqDiff, reduceIte, Nat.reduceLeDiff, and_self, cond_true, cond_false, Nat.reduceAdd, Nat.reduceMul]
  refine Code.seq (Code.seq (Code.ops ?_))
  simp only [s9_3, ↓wP, wS, Nat.reduceEqDiff, reduceIte, Nat.reduceLeDiff, and_self, cond_true, cond_false, Nat.reduceAdd, Nat.reduceMul]
  refine Code.block (played_loop TT hf A (bt := bt) (bx := bx) (min ds.length 60) 0 _ _ (by omega) ⟨by simp only [↓wP, wS, Nat.reduceEqDiff, reduceIte, Nat.reduceLeDiff, and_self, cond_true, cond_false, Nat.reduceAdd, Nat.reduceMul], by simp only [↓wP, wS, Nat.reduceEqDiff, reduceIte, Nat.reduceLeDiff, and_self, cond_true, cond_false, Nat.reduceAdd, Nat.reduceMul], by simp only [↓wP, wS, Nat.reduceEqDiff, reduceIte, Nat.reduceLeDiff, and_self, cond_true, cond_false, Nat.reduceAdd, Nat.reduceMul], by simp only [↓wP, wS, Nat.reduceEqDiff, reduceIte, Nat.reduceLeDiff, and_self, cond_true, cond_false, Nat.reduceAdd, Nat.reduceMul]; rfl, Inv.new r c, D, k1.trans k2, hb1, by omega⟩ fun S' s' I' D' k' q7 => ?_)
  simp only [if_true]
  obtain ⟨e, h3⟩ := s'
  simp only at D' k' q7
  refine Code.seq (Code.ops ?_)
  simp only [s9_8, ↓wP, wS, Nat.reduceEqDiff, reduceIte, Nat.reduceLeDiff, and_self, cond_true, cond_false, Nat.reduceAdd, Nat.reduceMul, q7]
  refine Code.ret ?_
  simp only [resVs, resV, pack, ↓wP, wS, Nat.reduceEqDiff, reduceIte, Nat.reduceLeDiff, and_self, cond_true, cond_false, Nat.reduceAdd, Nat.reduceMul]
  exact ⟨trivial, _, rfl, hr S' bt bx _ I' D' k' hb1⟩
end
end Go.Eng
