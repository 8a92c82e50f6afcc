/- The library's functions on lists of windows, and the functions that are handed to them. -/
import Derived.Test.YtdafdampodbobaaSeatLay
namespace Go.Eng
set_option linter.unusedSimpArgs false
set_option linter.unusedVariables false

def idxFrom (p : Wn → Bool) : List Wn → Nat → Int
  | [], _ => -1
  | w :: r, i => if p w = true then i else idxFrom p r (i + 1)

section
variable {F : FuncId → Option SFunc} {G : FuncId → List Value → Option Value}

theorem wcells_at (l : List Wn) (i : Nat) (w : Wn) (hw : l[i]? = some w) : ((wcells l).drop (i * 5)).take 5 = w.cells ∧ i * 5 + 5 ≤ (wcells l).length := by
  have hi := (List.getElem?_eq_some_iff.1 hw).1
  refine ⟨?_, by rw [wcells_length]; omega⟩
  induction l generalizing i with
  | nil => simp at hw
  | cons x l ih =>
    cases i with
    | zero =>
      simp at hw
      subst hw
      rw [wcells_cons]
      simp [Wn.cells]
    | succ i =>
      rw [wcells_cons, show (i + 1) * 5 = x.cells.length + i * 5 by simp [Wn.cells]; omega, List.drop_append, List.drop_of_length_le (by omega), List.nil_append]
      simp only [Nat.add_sub_cancel_left]
      exact ih i (by simpa using hw) (by simpa using hi)

theorem rdN_w {t : T AObj} {b : Nat} {l : List Wn} {own : Bool} {i : Nat} {w : Wn} (hb : t.get b = some (.cells (wcells l) 5 own)) (hw : l[i]? = some w) : rdN t b (i * 5) 5 = some w.cells := by
  obtain ⟨h1, h2⟩ := wcells_at l i w hw
  rw [rdN_of hb h2, h1]

/-- A function that is handed over answers p. -/
def PredOk (F : FuncId → Option SFunc) (G : FuncId → List Value → Option Value) (h0 : Hp) (fv : Value) (p : Wn → Bool) : Prop :=
  ∀ (h : Hp) (w : Wn) (R : Value → Hp → Prop), Old h0 h → FzLt h → (∀ h', K0 h h' → R (.bool (p w)) h') → CallQ F G (valT (some [.agg w.cells.toArray]) (some fv)) h R

structure FI (h : Hp) (b n c : Nat) (fv : Value) (i : Nat) (s : St) : Prop where
  e0 : s.e.get 0 = some (sl b 0 n c)
  e1 : s.e.get 1 = some fv
  e7 : s.e.get 7 = some (i64 n)
  e8 : s.e.get 8 = some (i64 i)
  heap : K0 h s.h

theorem index_loop (TT : Tab F G) {h : Hp} (hf : FzLt h) {b c : Nat} {own : Bool} {l : List Wn} {fv : Value} {p : Wn → Bool} (hb : b < h.next) (hg : h.t.get b = some (.cells (wcells l) 5 own)) (hl : l.length ≤ 1000000) (hp : PredOk F G h fv p) {Q : Flow → St → Prop} :
    ∀ (r : List Wn) (i : Nat) (s : St), l.drop i = r → i ≤ l.length → FI h b l.length c fv i s →
      (∀ s', K0 h s'.h → s'.e.get 4 = some (i64 (idxFrom p r i)) → idxFrom p r i ≠ -1 → Q .ret s') → (∀ s', K0 h s'.h → idxFrom p r i = -1 → Q (.exit 0) s') → Code F G (.loop b42_7) s Q := by
  intro r
  induction r with
  | nil =>
    intro i s hd hi I _ hq
    have hil : i = l.length := by
      have := congrArg List.length hd
      simp at this
      omega
    subst hil
    obtain ⟨e, h2⟩ := s
    obtain ⟨e0, e1, e7, e8, hk⟩ := I
    simp only at e0 e1 e7 e8 hk
    refine Code.loop (Code.seq (Code.ops ?_))
    simp only [s42_2, ↓wP, wS, Nat.reduceEqDiff, reduceIte, Nat.reduceLeDiff, and_self, cond_true, cond_false, Nat.reduceAdd, Nat.reduceMul, e7, e8, Int.lt_irrefl, decide_false]
    refine Code.seq (Code.cond (t := false) (by simp only [↓wP, wS, Nat.reduceEqDiff, reduceIte, Nat.reduceLeDiff, and_self, cond_true, cond_false, Nat.reduceAdd, Nat.reduceMul]) (fun h => by cases h) (fun _ => Code.exit ?_))
    exact hq _ hk rfl
  | cons w r ih =>
    intro i s hd hi I hq1 hq2
    have hw : l[i]? = some w := by
      have := congrArg (·[0]?) hd
      simpa using this
    have hil := (List.getElem?_eq_some_iff.1 hw).1
    have hd' : l.drop (i + 1) = r := by
      have := congrArg (List.drop 1) hd
      simpa using this
    obtain ⟨e, h2⟩ := s
    obtain ⟨e0, e1, e7, e8, hk⟩ := I
    simp only at e0 e1 e7 e8 hk
    have hlt : (i : Int) < (l.length : Int) := by omega
    have h0i : (0 : Int) ≤ (i : Int) := by omega
    refine Code.loop (Code.seq (Code.ops ?_))
    simp only [s42_2, ↓wP, wS, Nat.reduceEqDiff, reduceIte, Nat.reduceLeDiff, and_self, cond_true, cond_false, Nat.reduceAdd, Nat.reduceMul, e7, e8, hlt, decide_true]
    refine Code.seq (Code.cond (t := true) (by simp only [↓wP, wS, Nat.reduceEqDiff, reduceIte, Nat.reduceLeDiff, and_self, cond_true, cond_false, Nat.reduceAdd, Nat.reduceMul]) (fun _ => Code.skip ?_) (fun h => by cases h))
    refine Code.seq (Code.block (Code.seq (Code.ops ?_)))
    simp only [s42_3, ↓wP, wS, Nat.reduceEqDiff, reduceIte, Nat.reduceLeDiff, and_self, cond_true, cond_false, Nat.reduceAdd, Nat.reduceMul, e8]
    refine Code.seq (Code.ops ?_)
    have hg2 := hk.keep hb (fun x => x) hg
    simp only [s42_4, ↓wP, wS, Nat.reduceEqDiff, reduceIte, Nat.reduceLeDiff, and_self, cond_true, cond_false, Nat.reduceAdd, Nat.reduceMul, e0, e1, hlt, h0i, and_self, if_true, Int.toNat_natCast, rdN_w hg2 hw]
    refine hp h2 w _ hk.old (hk.fzLt hf) fun h3 k3 => ?_
    simp only [↓wP, wS, Nat.reduceEqDiff, reduceIte, Nat.reduceLeDiff, and_self, cond_true, cond_false, Nat.reduceAdd, Nat.reduceMul]
    refine Code.cond (t := p w) (by simp only [↓wP, wS, Nat.reduceEqDiff, reduceIte, Nat.reduceLeDiff, and_self, cond_true, cond_false, Nat.reduceAdd, Nat.reduceMul]) (fun ht => ?_) (fun hf' => ?_)
    · refine Code.seq (Code.ops ?_)
      simp only [s42_5, ↓wP, wS, Nat.reduceEqDiff, reduceIte, Nat.reduceLeDiff, and_self, cond_true, cond_false, Nat.reduceAdd, Nat.reduceMul]
      refine Code.ret ?_
      have hix : idxFrom p (w :: r) i = i := by simp only [idxFrom, ht, if_true]
      refine hq1 _ (hk.trans k3) (by simp only [↓wP, wS, Nat.reduceEqDiff, reduceIte, Nat.reduceLeDiff, and_self, cond_true, cond_false, Nat.reduceAdd, Nat.reduceMul, hix]) (by rw [hix]; omega)
    · refine Code.skip ?_
      refine Code.ops ?_
      have hw2 : w64 ((i : Int) + 1) = i + 1 := w64_id (by omega) (by omega)
      simp only [s42_6, ↓wP, wS, Nat.reduceEqDiff, reduceIte, Nat.reduceLeDiff, and_self, cond_true, cond_false, Nat.reduceAdd, Nat.reduceMul, e8]
      have hix : idxFrom p (w :: r) i = idxFrom p r (i + 1) := by simp only [idxFrom, hf', Bool.false_eq_true, if_false]
      rw [hix] at hq1 hq2
      exact ih (i + 1) _ hd' (by omega) ⟨by simp only [↓wP, wS, Nat.reduceEqDiff, reduceIte, Nat.reduceLeDiff, and_self, cond_true, cond_false, Nat.reduceAdd, Nat.reduceMul, e0], by simp only [↓wP, wS, Nat.reduceEqDiff, reduceIte, Nat.reduceLeDiff, and_self, cond_true, cond_false, Nat.reduceAdd, Nat.reduceMul, e1], by simp only [↓wP, wS, Nat.reduceEqDiff, reduceIte, Nat.reduceLeDiff, and_self, cond_true, cond_false, Nat.reduceAdd, Nat.reduceMul, e7], by simp only [↓wP, wS, Nat.reduceEqDiff, reduceIte, Nat.reduceLeDiff, and_self, cond_true, cond_false, Nat.reduceAdd, Nat.reduceMul, hw2]; rfl, hk.trans k3⟩ hq1 hq2

theorem index_func (TT : Tab F G) {h : Hp} (hf : FzLt h) {b c : Nat} {own : Bool} {l : List Wn} {fv : Value} {p : Wn → Bool} (hb : b < h.next) (hg : h.t.get b = some (.cells (wcells l) 5 own)) (hl : l.length ≤ 1000000) (hp : PredOk F G h fv p) {R : Value → Hp → Prop}
    (hr : ∀ h', K0 h h' → R (i64 (idxFrom p l 0)) h') : Call F G 42 [sl b 0 l.length c, fv] h R := by
  refine Call.enter (TT.g _ _ (by decide)) TT.f42 (Nat.le_of_ble_eq_true rfl) ?_
  simp only [c42, envOf]
  refine Code.seq (Code.ops ?_)
  simp only [s42_0, ↓wP, wS, Nat.reduceEqDiff, reduceIte, Nat.reduceLeDiff, and_self, cond_true, cond_false, Nat.reduceAdd, Nat.reduceMul]
  refine Code.seq (Code.seq (Code.ops ?_))
  simp only [s42_1, ↓wP, wS, Nat.reduceEqDiff, reduceIte, Nat.reduceLeDiff, and_self, cond_true, cond_false, Nat.reduceAdd, Nat.reduceMul]
  refine Code.block (index_loop TT (c := c) hf hb hg hl hp l 0 _ rfl (Nat.zero_le _) ⟨by simp only [↓wP, wS, Nat.reduceEqDiff, reduceIte, Nat.reduceLeDiff, and_self, cond_true, cond_false, Nat.reduceAdd, Nat.reduceMul], by simp only [↓wP, wS, Nat.reduceEqDiff, reduceIte, Nat.reduceLeDiff, and_self, cond_true, cond_false, Nat.reduceAdd, Nat.reduceMul], by simp only [↓wP, wS, Nat.reduceEqDiff, reduceIte, Nat.reduceLeDiff, and_self, cond_true, cond_false, Nat.reduceAdd, Nat.reduceMul], by simp only [↓wP, wS, Nat.reduceEqDiff, reduceIte, Nat.reduceLeDiff, and_self, cond_true, cond_false, Nat.reduceAdd, Nat.reduceMul]; rfl, Kp.refl⟩ (fun s' hk he _ => ?_) (fun s' hk he => ?_))
  · simp only [resVs, resV, pack, he]
    exact ⟨trivial, _, rfl, hr _ hk⟩
  · simp only [if_true]
    obtain ⟨e, h2⟩ := s'
    refine Code.seq (Code.ops ?_)
    simp only [s42_8, ↓wP, wS, Nat.reduceEqDiff, reduceIte, Nat.reduceLeDiff, and_self, cond_true, cond_false, Nat.reduceAdd, Nat.reduceMul]
    refine Code.ret ?_
    simp only [resVs, resV, pack, ↓wP, wS, Nat.reduceEqDiff, reduceIte, Nat.reduceLeDiff, and_self, cond_true, cond_false, Nat.reduceAdd, Nat.reduceMul]
    refine ⟨trivial, _, rfl, ?_⟩
    have := hr _ hk
    rw [he] at this
    exact this

theorem contains_func (TT : Tab F G) {h : Hp} (hf : FzLt h) {b c : Nat} {own : Bool} {l : List Wn} {fv : Value} {p : Wn → Bool} (hb : b < h.next) (hg : h.t.get b = some (.cells (wcells l) 5 own)) (hl : l.length ≤ 1000000) (hp : PredOk F G h fv p) {R : Value → Hp → Prop}
    (hr : ∀ h', K0 h h' → R (.bool (decide (0 ≤ idxFrom p l 0))) h') : Call F G 40 [sl b 0 l.length c, fv] h R := by
  refine Call.enter (TT.g _ _ (by decide)) TT.f40 (Nat.le_of_ble_eq_true rfl) ?_
  simp only [c40, envOf]
  refine Code.seq (Code.ops ?_)
  simp only [s40_0, ↓wP, wS, Nat.reduceEqDiff, reduceIte, Nat.reduceLeDiff, and_self, cond_true, cond_false, Nat.reduceAdd, Nat.reduceMul]
  refine Code.seq (Code.ops ?_)
  simp only [s40_1, ↓wP, wS, Nat.reduceEqDiff, reduceIte, Nat.reduceLeDiff, and_self, cond_true, cond_false, Nat.reduceAdd, Nat.reduceMul]
  refine index_func TT hf hb hg hl hp fun h' hk => ?_
  simp only [↓wP, wS, Nat.reduceEqDiff, reduceIte, Nat.reduceLeDiff, and_self, cond_true, cond_false, Nat.reduceAdd, Nat.reduceMul]
  refine Code.ret ?_
  simp only [resVs, resV, pack, ↓wP, wS, Nat.reduceEqDiff, reduceIte, Nat.reduceLeDiff, and_self, cond_true, cond_false, Nat.reduceAdd, Nat.reduceMul]
  exact ⟨trivial, _, rfl, hr _ hk⟩

/-! ### The functions that are handed over -/
theorem pred_index (TT : Tab F G) {h0 : Hp} {pb sz : Nat} {own : Bool} {id : Int} (hb : pb < h0.next) (hg : h0.t.get pb = some (.cells [i64 id] sz own)) :
    PredOk F G h0 (.func (.func 43) #[] #[pt pb 0]) fun w => decide (w.id = id) := by
  intro h w R ho hf hr
  simp only [↓wP, wS, Nat.reduceEqDiff, reduceIte, Nat.reduceLeDiff, and_self, cond_true, cond_false, Nat.reduceAdd, Nat.reduceMul, List.nil_append, List.cons_append]
  refine Call.enter (TT.g _ _ (by decide)) TT.f43 (Nat.le_of_ble_eq_true rfl) ?_
  simp only [c43, envOf]
  refine Code.seq (Code.ops ?_)
  simp only [s43_0, ↓wP, wS, Nat.reduceEqDiff, reduceIte, Nat.reduceLeDiff, and_self, cond_true, cond_false, Nat.reduceAdd, Nat.reduceMul, Wn.cells]
  refine NewQ.intro fun p1 h1 e1 n1 g1 k1 => ?_
  simp only [↓wP, wS, Nat.reduceEqDiff, reduceIte, Nat.reduceLeDiff, and_self, cond_true, cond_false, Nat.reduceAdd, Nat.reduceMul]
  refine Code.seq (Code.ops ?_)
  have hg1 := k1.keep (Nat.lt_of_lt_of_le hb ho.next) (fun x => x) ((ho.get pb hb).trans hg)
  simp only [s43_1, ↓wP, wS, Nat.reduceEqDiff, reduceIte, Nat.reduceLeDiff, and_self, cond_true, cond_false, Nat.reduceAdd, Nat.reduceMul, rdT_of g1, rdT_of hg1]
  refine Code.ret ?_
  simp only [resVs, resV, pack, ↓wP, wS, Nat.reduceEqDiff, reduceIte, Nat.reduceLeDiff, and_self, cond_true, cond_false, Nat.reduceAdd, Nat.reduceMul]
  exact ⟨trivial, _, rfl, hr _ k1⟩

theorem pred_fits (TT : Tab F G) {h0 : Hp} : PredOk F G h0 (.func (.func 41) #[] #[]) fun w => decide (w.rows < 2) || decide (w.cols < 2) := by
  intro h w R ho hf hr
  simp only [↓wP, wS, Nat.reduceEqDiff, reduceIte, Nat.reduceLeDiff, and_self, cond_true, cond_false, Nat.reduceAdd, Nat.reduceMul, List.nil_append, List.cons_append]
  refine Call.enter (TT.g _ _ (by decide)) TT.f41 (Nat.le_of_ble_eq_true rfl) ?_
  simp only [c41, envOf]
  refine Code.seq (Code.ops ?_)
  simp only [s41_0, ↓wP, wS, Nat.reduceEqDiff, reduceIte, Nat.reduceLeDiff, and_self, cond_true, cond_false, Nat.reduceAdd, Nat.reduceMul, Wn.cells]
  refine NewQ.intro fun p1 h1 e1 n1 g1 k1 => ?_
  simp only [↓wP, wS, Nat.reduceEqDiff, reduceIte, Nat.reduceLeDiff, and_self, cond_true, cond_false, Nat.reduceAdd, Nat.reduceMul]
  refine Code.seq (Code.ops ?_)
  have hr1 := hr _ k1
  by_cases hc : w.rows < 2
  · simp only [s41_1, ↓wP, wS, Nat.reduceEqDiff, reduceIte, Nat.reduceLeDiff, and_self, cond_true, cond_false, Nat.reduceAdd, Nat.reduceMul, rdT_of g1, hc, decide_true]
    refine Code.ret ?_
    simp only [resVs, resV, pack, ↓wP, wS, Nat.reduceEqDiff, reduceIte, Nat.reduceLeDiff, and_self, cond_true, cond_false, Nat.reduceAdd, Nat.reduceMul]
    simp only [hc, decide_true, Bool.true_or] at hr1
    exact ⟨trivial, _, rfl, hr1⟩
  · simp only [s41_1, ↓wP, wS, Nat.reduceEqDiff, reduceIte, Nat.reduceLeDiff, and_self, cond_true, cond_false, Nat.reduceAdd, Nat.reduceMul, rdT_of g1, hc, decide_false]
    refine Code.ret ?_
    simp only [resVs, resV, pack, ↓wP, wS, Nat.reduceEqDiff, reduceIte, Nat.reduceLeDiff, and_self, cond_true, cond_false, Nat.reduceAdd, Nat.reduceMul]
    simp only [hc, decide_false, Bool.false_or] at hr1
    exact ⟨trivial, _, rfl, hr1⟩

theorem pred_here (TT : Tab F G) {h0 : Hp} {pb bt sz sz2 : Nat} {own own2 : Bool} {r : Value} {last here rows cols : Int} (hb : pb < h0.next) (hg : h0.t.get pb = some (.cells [pt bt 0] sz own)) (hbt : bt < h0.next)
    (hgt : h0.t.get bt = some (.cells [r, i64 last, i64 here, i64 rows, i64 cols] sz2 own2)) : PredOk F G h0 (.func (.func 39) #[] #[pt pb 0]) fun w => decide (w.id = here) := by
  intro h w R ho hf hr
  simp only [↓wP, wS, Nat.reduceEqDiff, reduceIte, Nat.reduceLeDiff, and_self, cond_true, cond_false, Nat.reduceAdd, Nat.reduceMul, List.nil_append, List.cons_append]
  refine Call.enter (TT.g _ _ (by decide)) TT.f39 (Nat.le_of_ble_eq_true rfl) ?_
  simp only [c39, envOf]
  refine Code.seq (Code.ops ?_)
  simp only [s39_0, ↓wP, wS, Nat.reduceEqDiff, reduceIte, Nat.reduceLeDiff, and_self, cond_true, cond_false, Nat.reduceAdd, Nat.reduceMul, Wn.cells]
  refine NewQ.intro fun p1 h1 e1 n1 g1 k1 => ?_
  simp only [↓wP, wS, Nat.reduceEqDiff, reduceIte, Nat.reduceLeDiff, and_self, cond_true, cond_false, Nat.reduceAdd, Nat.reduceMul]
  refine Code.seq (Code.draw ?_)
  have hg1 := k1.keep (Nat.lt_of_lt_of_le hb ho.next) (fun x => x) ((ho.get pb hb).trans hg)
  have hgt1 := k1.keep (Nat.lt_of_lt_of_le hbt ho.next) (fun x => x) ((ho.get bt hbt).trans hgt)
  simp only [s39_1, ↓wP, wS, Nat.reduceEqDiff, reduceIte, Nat.reduceLeDiff, and_self, cond_true, cond_false, Nat.reduceAdd, Nat.reduceMul, ↓Draw.cons, dS, decide_true, decide_false, rdT_of g1, rdT_of hg1, rdT_of hgt1]
  refine Code.ret ?_
  simp only [resVs, resV, pack, ↓wP, wS, Nat.reduceEqDiff, reduceIte, Nat.reduceLeDiff, and_self, cond_true, cond_false, Nat.reduceAdd, Nat.reduceMul]
  exact ⟨trivial, _, rfl, hr _ k1⟩
end
end Go.Eng
