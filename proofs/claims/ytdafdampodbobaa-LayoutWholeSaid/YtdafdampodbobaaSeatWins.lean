/- Wins of the program's tree. -/
import Derived.Test.YtdafdampodbobaaSeatGo
namespace Go.Eng
set_option linter.unusedSimpArgs false
set_option linter.unusedVariables false

def dec (w : Wn) : Wn := { w with rows := w64 (w.rows - 1) }
def winsOf (l : List Wn) : List Wn := if 1 < l.length then l.map dec else l
/-- The first i have been turned. -/
def decs (l : List Wn) (i : Nat) : List Wn := (l.take i).map dec ++ l.drop i

theorem decs_length (l : List Wn) (i : Nat) : (decs l i).length = l.length := by
  simp [decs]
  omega
theorem decs_zero (l : List Wn) : decs l 0 = l := by simp [decs]
theorem decs_all (l : List Wn) : decs l l.length = l.map dec := by simp [decs]
theorem decs_at (l : List Wn) (i : Nat) (w : Wn) (hw : l[i]? = some w) : (decs l i)[i]? = some w := by
  have hi := (List.getElem?_eq_some_iff.1 hw).1
  unfold decs
  rw [List.getElem?_append_right (by simp; omega)]
  simp only [List.length_map, List.length_take, Nat.min_eq_left (Nat.le_of_lt hi), Nat.sub_self, List.getElem?_drop, Nat.add_zero]
  exact hw
theorem decs_succ (l : List Wn) (i : Nat) (w : Wn) (hw : l[i]? = some w) : (decs l i).set i (dec w) = decs l (i + 1) := by
  have hi := (List.getElem?_eq_some_iff.1 hw).1
  have hd : l.drop i = w :: l.drop (i + 1) := by
    rw [List.drop_eq_getElem_cons hi]
    rw [List.getElem?_eq_getElem hi] at hw
    cases hw
    rfl
  have ht : l.take (i + 1) = l.take i ++ [w] := by rw [List.take_add_one, hw]; rfl
  unfold decs
  rw [hd, ht, List.map_append, List.set_append_right _ _ (by simp; omega)]
  simp [Nat.min_eq_left (Nat.le_of_lt hi)]

/-- A window's rows, in a list's cells. -/
theorem wcells_rows (l : List Wn) (i : Nat) (w : Wn) (hw : l[i]? = some w) (r : Int) : (wcells l).set (i * 5 + 3) (i64 r) = wcells (l.set i { w with rows := r }) := by
  induction l generalizing i with
  | nil => simp at hw
  | cons x l ih =>
    cases i with
    | zero =>
      simp at hw
      subst hw
      simp [wcells_cons, Wn.cells]
    | succ i =>
      rw [wcells_cons, List.set_cons_succ, wcells_cons, ← ih i (by simpa using hw)]
      rw [List.set_append_right _ _ (by simp [Wn.cells]; omega)]
      congr 2
      simp [Wn.cells]
      omega

section
variable {F : FuncId → Option SFunc} {G : FuncId → List Value → Option Value}

structure WI (h : Hp) (rb n : Nat) (l : List Wn) (i : Nat) (s : St) : Prop where
  e3 : s.e.get 3 = some (sl rb 0 n 0)
  e13 : s.e.get 13 = some (i64 n)
  e14 : s.e.get 14 = some (i64 i)
  heap : K0 h s.h
  lt : rb < s.h.next
  g : s.h.t.get rb = some (.cells (wcells (decs l i)) 5 true)

theorem wins_loop (TT : Tab F G) {h : Hp} (hf : FzLt h) {rb : Nat} {l : List Wn} (hl : l.length ≤ 1000) (hrb : h.next ≤ rb) {Q : Flow → St → Prop} :
    ∀ (n i : Nat) (s : St), l.length = i + n → WI h rb l.length l i s → (∀ s', WI h rb l.length l l.length s' → Q (.exit 0) s') → Code F G (.loop b10_10) s Q := by
  intro n
  induction n with
  | zero =>
    intro i s hn I hq
    obtain rfl : i = l.length := by omega
    obtain ⟨e, h2⟩ := s
    obtain ⟨e3, e13, e14, hk, lt, g⟩ := I
    simp only at e3 e13 e14 hk lt g
    refine Code.loop (Code.seq (Code.ops ?_))
    simp only [s10_6, ↓wP, wS, Nat.reduceEqDiff, reduceIte, Nat.reduceLeDiff, and_self, cond_true, cond_false, Nat.reduceAdd, Nat.reduceMul, e13, e14, Int.lt_irrefl, decide_false]
    refine Code.seq (Code.cond (t := false) (by simp only [↓wP, wS, Nat.reduceEqDiff, reduceIte, Nat.reduceLeDiff, and_self, cond_true, cond_false, Nat.reduceAdd, Nat.reduceMul]) (fun h => by cases h) (fun _ => Code.exit ?_))
    exact hq _ ⟨by simp only [↓wP, wS, Nat.reduceEqDiff, reduceIte, Nat.reduceLeDiff, and_self, cond_true, cond_false, Nat.reduceAdd, Nat.reduceMul, e3], by simp only [↓wP, wS, Nat.reduceEqDiff, reduceIte, Nat.reduceLeDiff, and_self, cond_true, cond_false, Nat.reduceAdd, Nat.reduceMul, e13], by simp only [↓wP, wS, Nat.reduceEqDiff, reduceIte, Nat.reduceLeDiff, and_self, cond_true, cond_false, Nat.reduceAdd, Nat.reduceMul, e14], hk, lt, g⟩
  | succ n ih =>
    intro i s hn I hq
    have hil : i < l.length := by omega
    have hw := List.getElem?_eq_getElem hil
    obtain ⟨e, h2⟩ := s
    obtain ⟨e3, e13, e14, hk, lt, g⟩ := I
    simp only at e3 e13 e14 hk lt g
    have hlt : (i : Int) < (l.length : Int) := by omega
    have h0i : (0 : Int) ≤ (i : Int) := by omega
    have hw2 : w64 ((i : Int) + 1) = i + 1 := w64_id (by omega) (by omega)
    generalize l[i] = w at hw
    have hdw := decs_at l i w hw
    have hrd : rdT h2.t rb (i * 5 + 3) = some (i64 w.rows) := by
      obtain ⟨q1, q2⟩ := wcells_at _ _ _ hdw
      rw [rdT_of g]
      have := congrArg (·[3]?) q1
      simpa [Wn.cells] using this
    refine Code.loop (Code.seq (Code.ops ?_))
    simp only [s10_6, ↓wP, wS, Nat.reduceEqDiff, reduceIte, Nat.reduceLeDiff, and_self, cond_true, cond_false, Nat.reduceAdd, Nat.reduceMul, e13, e14, hlt, decide_true]
    refine Code.seq (Code.cond (t := true) (by simp only [↓wP, wS, Nat.reduceEqDiff, reduceIte, Nat.reduceLeDiff, and_self, cond_true, cond_false, Nat.reduceAdd, Nat.reduceMul]) (fun _ => Code.skip ?_) (fun h => by cases h))
    refine Code.seq (Code.block (Code.seq (Code.ops ?_)))
    simp only [s10_7, ↓wP, wS, Nat.reduceEqDiff, reduceIte, Nat.reduceLeDiff, and_self, cond_true, cond_false, Nat.reduceAdd, Nat.reduceMul, e14]
    refine Code.ops ?_
    simp only [s10_8, ↓wP, wS, Nat.reduceEqDiff, reduceIte, Nat.reduceLeDiff, and_self, cond_true, cond_false, Nat.reduceAdd, Nat.reduceMul, e3, hlt, h0i, and_self, if_true, Int.toNat_natCast, hrd]
    refine StoreQ.one rfl g (by rw [wcells_length, decs_length]; omega) (by rw [hk.fz]; exact hf.not_mem hrb) fun h3 n3 g3 k3 => ?_
    simp only [↓wP, wS, Nat.reduceEqDiff, reduceIte, Nat.reduceLeDiff, and_self, cond_true, cond_false, Nat.reduceAdd, Nat.reduceMul]
    refine Code.ops ?_
    simp only [s10_9, ↓wP, wS, Nat.reduceEqDiff, reduceIte, Nat.reduceLeDiff, and_self, cond_true, cond_false, Nat.reduceAdd, Nat.reduceMul, e14, hw2]
    refine ih (i + 1) _ (by omega) ⟨by simp only [↓wP, wS, Nat.reduceEqDiff, reduceIte, Nat.reduceLeDiff, and_self, cond_true, cond_false, Nat.reduceAdd, Nat.reduceMul, e3], by simp only [↓wP, wS, Nat.reduceEqDiff, reduceIte, Nat.reduceLeDiff, and_self, cond_true, cond_false, Nat.reduceAdd, Nat.reduceMul, e13], by simp only [↓wP, wS, Nat.reduceEqDiff, reduceIte, Nat.reduceLeDiff, and_self, cond_true, cond_false, Nat.reduceAdd, Nat.reduceMul]; rfl, hk.andThen k3 (fun x hx hl => by omega), by simp only; omega, ?_⟩ hq
    simp only
    rw [g3, wcells_rows _ _ _ hdw, ← decs_succ l i w hw]
    rfl

theorem wins_call (TT : Tab F G) {h : Hp} (hf : FzLt h) {Z : Nat → Prop} {bt : Nat} {S : LS} (a : LAt Z h bt S) (ok : LOk S) {R : Value → Hp → Prop} (hr : ∀ r h', K0 h h' → WAt h' h.next r (winsOf (area S)) → R r h') : Call F G 10 [pt bt 0] h R := by
  have hlen2 : (area S).length ≤ 1000 := by rw [area_length]; exact ok.small
  refine Call.enter (TT.g _ _ (by decide)) TT.f10 (Nat.le_of_ble_eq_true rfl) ?_
  simp only [c10, envOf]
  refine Code.seq (Code.ops ?_)
  simp only [s10_0, ↓wP, wS, Nat.reduceEqDiff, reduceIte, Nat.reduceLeDiff, and_self, cond_true, cond_false, Nat.reduceAdd, Nat.reduceMul]
  refine Code.seq (Code.seq (Code.ops ?_))
  simp only [s10_1, ↓wP, wS, Nat.reduceEqDiff, reduceIte, Nat.reduceLeDiff, and_self, cond_true, cond_false, Nat.reduceAdd, Nat.reduceMul]
  refine Code.cond (t := false) (by simp only [↓wP, wS, Nat.reduceEqDiff, reduceIte, Nat.reduceLeDiff, and_self, cond_true, cond_false, Nat.reduceAdd, Nat.reduceMul]) (fun hx => by cases hx) (fun _ => Code.skip ?_)
  refine Code.seq (Code.ops ?_)
  simp only [s10_3, ↓wP, wS, Nat.reduceEqDiff, reduceIte, Nat.reduceLeDiff, and_self, cond_true, cond_false, Nat.reduceAdd, Nat.reduceMul]
  refine places_call TT hf a ok fun r h1 k1 hw => ?_
  obtain ⟨rb, rfl, w1, w2, w3⟩ := hw
  simp only [↓wP, wS, Nat.reduceEqDiff, reduceIte, Nat.reduceLeDiff, and_self, cond_true, cond_false, Nat.reduceAdd, Nat.reduceMul]
  refine Code.seq (Code.seq (Code.ops ?_))
  simp only [s10_4, ↓wP, wS, Nat.reduceEqDiff, reduceIte, Nat.reduceLeDiff, and_self, cond_true, cond_false, Nat.reduceAdd, Nat.reduceMul]
  by_cases h1l : (1 : Int) < ((area S).length : Int)
  · have h1n : 1 < (area S).length := by omega
    simp only [winsOf, h1n, if_true] at hr
    refine Code.cond (t := true) (by simp only [↓wP, wS, Nat.reduceEqDiff, reduceIte, Nat.reduceLeDiff, and_self, cond_true, cond_false, Nat.reduceAdd, Nat.reduceMul, h1l, decide_true]) (fun _ => Code.seq (Code.ops ?_)) (fun h => by cases h)
    simp only [s10_5, ↓wP, wS, Nat.reduceEqDiff, reduceIte, Nat.reduceLeDiff, and_self, cond_true, cond_false, Nat.reduceAdd, Nat.reduceMul]
    refine Code.block (wins_loop TT (h := h) hf hlen2 w1 (area S).length 0 _ (by omega) ⟨by simp only [↓wP, wS, Nat.reduceEqDiff, reduceIte, Nat.reduceLeDiff, and_self, cond_true, cond_false, Nat.reduceAdd, Nat.reduceMul], by simp only [↓wP, wS, Nat.reduceEqDiff, reduceIte, Nat.reduceLeDiff, and_self, cond_true, cond_false, Nat.reduceAdd, Nat.reduceMul], by simp only [↓wP, wS, Nat.reduceEqDiff, reduceIte, Nat.reduceLeDiff, and_self, cond_true, cond_false, Nat.reduceAdd, Nat.reduceMul]; rfl, k1, w2, by rw [decs_zero]; exact w3⟩ fun s' I => ?_)
    simp only [if_true]
    obtain ⟨e, h2⟩ := s'
    obtain ⟨e3, e13, e14, hk, lt, g⟩ := I
    simp only at e3 hk lt g
    refine Code.seq (Code.ops ?_)
    simp only [s10_11, ↓wP, wS, Nat.reduceEqDiff, reduceIte, Nat.reduceLeDiff, and_self, cond_true, cond_false, Nat.reduceAdd, Nat.reduceMul, e3]
    refine Code.ret ?_
    simp only [resVs, resV, pack, ↓wP, wS, Nat.reduceEqDiff, reduceIte, Nat.reduceLeDiff, and_self, cond_true, cond_false, Nat.reduceAdd, Nat.reduceMul]
    rw [decs_all] at g
    exact ⟨trivial, _, rfl, hr _ _ hk ⟨rb, by rw [List.length_map], w1, lt, g⟩⟩
  · have h1n : ¬ 1 < (area S).length := by omega
    simp only [winsOf, h1n, if_false] at hr
    refine Code.cond (t := false) (by simp only [↓wP, wS, Nat.reduceEqDiff, reduceIte, Nat.reduceLeDiff, and_self, cond_true, cond_false, Nat.reduceAdd, Nat.reduceMul, h1l, decide_false]) (fun h => by cases h) (fun _ => Code.skip ?_)
    refine Code.seq (Code.ops ?_)
    simp only [s10_11, ↓wP, wS, Nat.reduceEqDiff, reduceIte, Nat.reduceLeDiff, and_self, cond_true, cond_false, Nat.reduceAdd, Nat.reduceMul]
    refine Code.ret ?_
    simp only [resVs, resV, pack, ↓wP, wS, Nat.reduceEqDiff, reduceIte, Nat.reduceLeDiff, and_self, cond_true, cond_false, Nat.reduceAdd, Nat.reduceMul]
    exact ⟨trivial, _, rfl, hr _ _ k1 ⟨rb, rfl, w1, w2, w3⟩⟩
end
end Go.Eng
