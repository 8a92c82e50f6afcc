/- The law of the whole area: what it walks through. -/
import Derived.Test.YtdafdampodbobaaSeatGoes
import Derived.Test.YtdafdampodbobaaSeatPlace
namespace Go.Eng
set_option linter.unusedSimpArgs false
set_option linter.unusedVariables false

/-- What the law adds up, over places as they are told. -/
def sumA (st : Int) : List Wn → Int
  | [] => 0
  | p :: l => (p.rows + st) * p.cols + sumA st l
def sumC (st c : Int) : List Wn → Int
  | [] => 0
  | p :: l => (if p.left + p.cols < c then p.rows + st else 0) + sumC st c l

theorem sumA_app (st : Int) (a b : List Wn) : sumA st (a ++ b) = sumA st a + sumA st b := by
  induction a with
  | nil => simp [sumA]
  | cons p a ih => rw [List.cons_append, sumA, sumA, ih]; omega
theorem sumC_app (st c : Int) (a b : List Wn) : sumC st c (a ++ b) = sumC st c a + sumC st c b := by
  induction a with
  | nil => simp [sumC]
  | cons p a ih => rw [List.cons_append, sumC, sumC, ih]; omega

/-- The windows are of middling size. -/
def Told (st : Int) (p : Wn) : Prop := 0 ≤ p.rows + st ∧ p.rows + st ≤ 500 ∧ -1 ≤ p.rows ∧ p.rows ≤ 500 ∧ 0 ≤ p.cols ∧ p.cols ≤ 1000 ∧ 0 ≤ p.left ∧ p.left ≤ 100000

theorem sum_range (st c : Int) : ∀ l : List Wn, (∀ p ∈ l, Told st p) → 0 ≤ sumA st l ∧ sumA st l ≤ 500000 * l.length ∧ 0 ≤ sumC st c l ∧ sumC st c l ≤ 500 * l.length := by
  intro l
  induction l with
  | nil => intro _; simp [sumA, sumC]
  | cons p l ih =>
    intro h
    obtain ⟨a1, a2, a3, a4⟩ := ih (fun q hq => h q (by simp [hq]))
    obtain ⟨b1, b2, _, _, b3, b4, _, _⟩ := h p (by simp)
    have c1 : 0 ≤ (p.rows + st) * p.cols := Int.mul_nonneg b1 b3
    have c2 : (p.rows + st) * p.cols ≤ 500 * 1000 := Int.mul_le_mul b2 b4 b3 (by omega)
    rw [sumA, sumC, List.length_cons, Int.natCast_add, Int.natCast_one]
    refine ⟨by omega, by omega, ?_, ?_⟩ <;> split <;> omega

def stOf (l : List Wn) : Int := if (l.length : Int) = 1 then 0 else 1

theorem dec_sums (c : Int) : ∀ l : List Wn, (∀ p ∈ l, Mid p) → sumA 1 (l.map dec) = areaOf l ∧ sumC 1 c (l.map dec) = colsOf c l ∧ ∀ p ∈ l.map dec, Told 1 p := by
  intro l
  induction l with
  | nil => intro _; simp [sumA, sumC, areaOf, colsOf]
  | cons p l ih =>
    intro h
    obtain ⟨a1, a2, a3⟩ := ih (fun q hq => h q (by simp [hq]))
    obtain ⟨b1, b2, b3, b4, b5, b6⟩ := h p (by simp)
    have hw : (dec p).rows = p.rows - 1 := by unfold dec; simp only; exact w64_id (by omega) (by omega)
    rw [List.map_cons, sumA, sumC, areaOf, colsOf, a1, a2, hw]
    have e1 : (dec p).cols = p.cols := rfl
    have e2 : (dec p).left = p.left := rfl
    rw [e1, e2, show p.rows - 1 + 1 = p.rows by omega]
    refine ⟨rfl, rfl, fun q hq => ?_⟩
    rw [List.mem_cons] at hq
    rcases hq with rfl | hq
    · unfold Told
      rw [hw, e1, e2]
      omega
    · exact a3 q hq
theorem plain_sums (c : Int) : ∀ l : List Wn, (∀ p ∈ l, Mid p) → sumA 0 l = areaOf l ∧ sumC 0 c l = colsOf c l ∧ ∀ p ∈ l, Told 0 p := by
  intro l
  induction l with
  | nil => intro _; simp [sumA, sumC, areaOf, colsOf]
  | cons p l ih =>
    intro h
    obtain ⟨a1, a2, a3⟩ := ih (fun q hq => h q (by simp [hq]))
    obtain ⟨b1, b2, b3, b4, b5, b6⟩ := h p (by simp)
    rw [sumA, sumC, areaOf, colsOf, a1, a2, Int.add_zero]
    refine ⟨rfl, rfl, fun q hq => ?_⟩
    rw [List.mem_cons] at hq
    rcases hq with rfl | hq
    · unfold Told
      omega
    · exact a3 q hq

theorem whole_law {k : Nat} {S : LS} (h : Inv k S) : (∀ p ∈ winsOf (area S), Told (stOf (winsOf (area S))) p) ∧ sumA (stOf (winsOf (area S))) (winsOf (area S)) ≤ (S.rows - 1) * S.cols ∧ (S.rows - 1) * S.cols ≤ sumA (stOf (winsOf (area S))) (winsOf (area S)) + sumC (stOf (winsOf (area S))) S.cols (winsOf (area S)) := by
  have hr := h.rr
  have hc := h.cc
  have hle := h.le
  have hw : w64 (S.rows - 1) = S.rows - 1 := w64_id (by omega) (by omega)
  have hp := place_tree S.cols S.tree h.nf 0 0 (S.rows - 1) S.cols (by omega) (by omega) (by omega) (by omega) (by omega) (by omega) hle
  have ha : area S = plc S.tree 0 0 (S.rows - 1) S.cols := by unfold area; rw [hw]
  rw [← ha] at hp
  obtain ⟨p1, p2, p3⟩ := hp
  rw [show min S.cols (0 + S.cols + 1) - min S.cols 0 = S.cols by omega] at p3
  have hpos := wins_pos h.ok
  by_cases h1 : 1 < (area S).length
  · have hst : stOf (winsOf (area S)) = 1 := by unfold stOf; rw [winsOf_len, if_neg (by omega)]
    rw [hst]
    have hwi : winsOf (area S) = (area S).map dec := by simp only [winsOf, h1, if_true]
    rw [hwi]
    obtain ⟨d1, d2, d3⟩ := dec_sums S.cols (area S) p1
    rw [d1, d2]
    exact ⟨d3, p2, p3⟩
  · have hst : stOf (winsOf (area S)) = 0 := by unfold stOf; rw [winsOf_len, if_pos (by omega)]
    rw [hst]
    have hwi : winsOf (area S) = area S := by simp only [winsOf, h1, if_false]
    rw [hwi]
    obtain ⟨d1, d2, d3⟩ := plain_sums S.cols (area S) p1
    rw [d1, d2]
    exact ⟨d3, p2, p3⟩

section
variable {F : FuncId → Option SFunc} {G : FuncId → List Value → Option Value}

structure HI (h : Hp) (rb : Nat) (l : List Wn) (R C st : Int) (i : Nat) (s : St) : Prop where
  e8 : s.e.get 8 = some (i64 R)
  e9 : s.e.get 9 = some (i64 C)
  e10 : s.e.get 10 = some (sl rb 0 l.length 0)
  e11 : s.e.get 11 = some (i64 st)
  e12 : s.e.get 12 = some (i64 (sumA st (l.take i)))
  e13 : s.e.get 13 = some (i64 (sumC st C (l.take i)))
  e14 : s.e.get 14 = some (i64 i)
  heap : K0 h s.h

theorem whole_loop (TT : Tab F G) {h : Hp} (hf : FzLt h) {rb : Nat} {l : List Wn} {own : Bool} {R C st : Int} (hst : 0 ≤ st ∧ st ≤ 1) (hC : 0 ≤ C ∧ C ≤ 1000) (hl : l.length ≤ 16) (ht : ∀ p ∈ l, Told st p) (hrb : rb < h.next) (hg : h.t.get rb = some (.cells (wcells l) 5 own)) {Q : Flow → St → Prop} :
    ∀ (n i : Nat) (s : St), l.length = i + n → HI h rb l R C st i s → (∀ s', HI h rb l R C st l.length s' → Q (.exit 0) s') → Code F G (.loop b7_17) s Q := by
  intro n
  induction n with
  | zero =>
    intro i s hn I hq
    obtain rfl : i = l.length := by omega
    obtain ⟨e, h2⟩ := s
    obtain ⟨e8, e9, e10, e11, e12, e13, e14, hk⟩ := I
    simp only at e8 e9 e10 e11 e12 e13 e14 hk
    refine Code.loop (Code.seq (Code.seq (Code.ops ?_)))
    simp only [s7_11, ↓wP, wS, Nat.reduceEqDiff, reduceIte, Nat.reduceLeDiff, and_self, cond_true, cond_false, Nat.reduceAdd, Nat.reduceMul, e10, e14, Int.lt_irrefl, decide_false]
    refine Code.cond (t := false) (by simp only [↓wP, wS, Nat.reduceEqDiff, reduceIte, Nat.reduceLeDiff, and_self, cond_true, cond_false, Nat.reduceAdd, Nat.reduceMul]) (fun h => by cases h) (fun _ => Code.exit ?_)
    exact hq _ ⟨by simp only [↓wP, wS, Nat.reduceEqDiff, reduceIte, Nat.reduceLeDiff, and_self, cond_true, cond_false, Nat.reduceAdd, Nat.reduceMul, e8], by simp only [↓wP, wS, Nat.reduceEqDiff, reduceIte, Nat.reduceLeDiff, and_self, cond_true, cond_false, Nat.reduceAdd, Nat.reduceMul, e9], by simp only [↓wP, wS, Nat.reduceEqDiff, reduceIte, Nat.reduceLeDiff, and_self, cond_true, cond_false, Nat.reduceAdd, Nat.reduceMul, e10], by simp only [↓wP, wS, Nat.reduceEqDiff, reduceIte, Nat.reduceLeDiff, and_self, cond_true, cond_false, Nat.reduceAdd, Nat.reduceMul, e11], by simp only [↓wP, wS, Nat.reduceEqDiff, reduceIte, Nat.reduceLeDiff, and_self, cond_true, cond_false, Nat.reduceAdd, Nat.reduceMul, e12], by simp only [↓wP, wS, Nat.reduceEqDiff, reduceIte, Nat.reduceLeDiff, and_self, cond_true, cond_false, Nat.reduceAdd, Nat.reduceMul, e13], by simp only [↓wP, wS, Nat.reduceEqDiff, reduceIte, Nat.reduceLeDiff, and_self, cond_true, cond_false, Nat.reduceAdd, Nat.reduceMul, e14], hk⟩
  | succ n ih =>
    intro i s hn I hq
    have hil : i < l.length := by omega
    have hw := List.getElem?_eq_getElem hil
    have htk : l.take (i + 1) = l.take i ++ [l[i]] := by rw [List.take_add_one, hw]; rfl
    have htp := ht l[i] (List.getElem_mem hil)
    obtain ⟨e, h2⟩ := s
    obtain ⟨e8, e9, e10, e11, e12, e13, e14, hk⟩ := I
    simp only at e8 e9 e10 e11 e12 e13 e14 hk
    generalize l[i] = w at hw htk htp
    have hlt : (i : Int) < (l.length : Int) := by omega
    have h0i : (0 : Int) ≤ (i : Int) := by omega
    have hw2 : w64 ((i : Int) + 1) = i + 1 := w64_id (by omega) (by omega)
    have hg2 := hk.keep hrb (fun x => x) hg
    obtain ⟨m1, m2, m3, m4, m5, m6, m7, m8⟩ := htp
    obtain ⟨r1, r2, r3, r4⟩ := sum_range st C (l.take i) (fun p hp => ht p (List.mem_of_mem_take hp))
    have hln : ((l.take i).length : Int) ≤ 16 := by rw [List.length_take]; omega
    have c1 : 0 ≤ (w.rows + st) * w.cols := Int.mul_nonneg m1 m5
    have c2 : (w.rows + st) * w.cols ≤ 500 * 1000 := Int.mul_le_mul m2 m6 m5 (by omega)
    have q1 : w64 (w.rows + st) = w.rows + st := w64_id (by omega) (by omega)
    have q2 : w64 ((w.rows + st) * w.cols) = (w.rows + st) * w.cols := w64_id (by omega) (by omega)
    have q3 : w64 (sumA st (l.take i) + (w.rows + st) * w.cols) = sumA st (l.take (i + 1)) := by
      rw [htk, sumA_app, sumA, sumA, Int.add_zero]
      exact w64_id (by omega) (by omega)
    have q4 : w64 (w.left + w.cols) = w.left + w.cols := w64_id (by omega) (by omega)
    have q5 : w64 (sumC st C (l.take i) + (w.rows + st)) = sumC st C (l.take i) + (w.rows + st) := w64_id (by omega) (by omega)
    have q6 : sumC st C (l.take (i + 1)) = sumC st C (l.take i) + (if w.left + w.cols < C then w.rows + st else 0) := by rw [htk, sumC_app, sumC, sumC, Int.add_zero]
    refine Code.loop (Code.seq (Code.seq (Code.ops ?_)))
    simp only [s7_11, ↓wP, wS, Nat.reduceEqDiff, reduceIte, Nat.reduceLeDiff, and_self, cond_true, cond_false, Nat.reduceAdd, Nat.reduceMul, e10, e14, hlt, decide_true]
    refine Code.cond (t := true) (by simp only [↓wP, wS, Nat.reduceEqDiff, reduceIte, Nat.reduceLeDiff, and_self, cond_true, cond_false, Nat.reduceAdd, Nat.reduceMul]) (fun _ => Code.skip ?_) (fun h => by cases h)
    refine Code.seq (Code.block (Code.seq (Code.ops ?_)))
    simp only [s7_12, ↓wP, wS, Nat.reduceEqDiff, reduceIte, Nat.reduceLeDiff, and_self, cond_true, cond_false, Nat.reduceAdd, Nat.reduceMul, e10, e14, hlt, h0i, and_self, if_true, Int.toNat_natCast, rdN_w hg2 hw]
    refine NewQ.intro fun p h3 e3 n3 g3 k3 => ?_
    simp only [↓wP, wS, Nat.reduceEqDiff, reduceIte, Nat.reduceLeDiff, and_self, cond_true, cond_false, Nat.reduceAdd, Nat.reduceMul]
    have hfp : p ∉ h3.fz := by rw [k3.fz, hk.fz]; exact hf.not_mem (by have := hk.next; omega)
    refine StoreQ.agg (l := w.cells) (by rfl) rfl g3 (by simp) hfp fun h4 n4 g4 k4 => ?_
    simp only [↓wP, wS, Nat.reduceEqDiff, reduceIte, Nat.reduceLeDiff, and_self, cond_true, cond_false, Nat.reduceAdd, Nat.reduceMul]
    have g4' : h4.t.get p = some (.cells w.cells 0 true) := by rw [g4]; rfl
    have k04 : K0 h h4 := (hk.trans k3).andThen k4 (fun x hx hl => by have := hk.next; omega)
    have f2 : rdT h4.t p 2 = some (i64 w.left) := by rw [rdT_of g4']; rfl
    have f3 : rdT h4.t p 3 = some (i64 w.rows) := by rw [rdT_of g4']; rfl
    have f4 : rdT h4.t p 4 = some (i64 w.cols) := by rw [rdT_of g4']; rfl
    refine Code.seq (Code.ops ?_)
    simp only [s7_13, ↓wP, wS, Nat.reduceEqDiff, reduceIte, Nat.reduceLeDiff, and_self, cond_true, cond_false, Nat.reduceAdd, Nat.reduceMul, e11, e12, f3, f4, q1, q2, q3]
    refine Code.seq (Code.ops ?_)
    simp only [s7_14, ↓wP, wS, Nat.reduceEqDiff, reduceIte, Nat.reduceLeDiff, and_self, cond_true, cond_false, Nat.reduceAdd, Nat.reduceMul, e9, f2, f4, q4]
    have fin : ∀ e' : Env, e'.get 8 = some (i64 R) → e'.get 9 = some (i64 C) → e'.get 10 = some (sl rb 0 l.length 0) → e'.get 11 = some (i64 st) → e'.get 12 = some (i64 (sumA st (l.take (i + 1)))) → e'.get 13 = some (i64 (sumC st C (l.take (i + 1)))) → e'.get 14 = some (i64 i) →
        Code F G (.ops s7_16) ⟨e', h4⟩ fun fl s' => fl = .next ∧ Code F G (.loop b7_17) s' Q := by
      intro e' w8 w9 w10 w11 w12 w13 w14
      refine Code.ops ?_
      simp only [s7_16, ↓wP, wS, Nat.reduceEqDiff, reduceIte, Nat.reduceLeDiff, and_self, cond_true, cond_false, Nat.reduceAdd, Nat.reduceMul, w14, hw2]
      refine ⟨trivial, ?_⟩
      exact ih (i + 1) _ (by omega) ⟨by simp only [↓wP, wS, Nat.reduceEqDiff, reduceIte, Nat.reduceLeDiff, and_self, cond_true, cond_false, Nat.reduceAdd, Nat.reduceMul, w8], by simp only [↓wP, wS, Nat.reduceEqDiff, reduceIte, Nat.reduceLeDiff, and_self, cond_true, cond_false, Nat.reduceAdd, Nat.reduceMul, w9], by simp only [↓wP, wS, Nat.reduceEqDiff, reduceIte, Nat.reduceLeDiff, and_self, cond_true, cond_false, Nat.reduceAdd, Nat.reduceMul, w10], by simp only [↓wP, wS, Nat.reduceEqDiff, reduceIte, Nat.reduceLeDiff, and_self, cond_true, cond_false, Nat.reduceAdd, Nat.reduceMul, w11], by simp only [↓wP, wS, Nat.reduceEqDiff, reduceIte, Nat.reduceLeDiff, and_self, cond_true, cond_false, Nat.reduceAdd, Nat.reduceMul, w12], by simp only [↓wP, wS, Nat.reduceEqDiff, reduceIte, Nat.reduceLeDiff, and_self, cond_true, cond_false, Nat.reduceAdd, Nat.reduceMul, w13], by simp only [↓wP, wS, Nat.reduceEqDiff, reduceIte, Nat.reduceLeDiff, and_self, cond_true, cond_false, Nat.reduceAdd, Nat.reduceMul]; rfl, k04⟩ hq
    by_cases hlc : w.left + w.cols < C
    · rw [if_pos hlc] at q6
      refine Code.cond (t := true) (by simp only [↓wP, wS, Nat.reduceEqDiff, reduceIte, Nat.reduceLeDiff, and_self, cond_true, cond_false, Nat.reduceAdd, Nat.reduceMul, hlc, decide_true]) (fun _ => Code.ops ?_) (fun h => by cases h)
      simp only [s7_15, ↓wP, wS, Nat.reduceEqDiff, reduceIte, Nat.reduceLeDiff, and_self, cond_true, cond_false, Nat.reduceAdd, Nat.reduceMul, e11, e13, f3, q1, q5]
      refine Code.mono (fin _ (by simp only [↓wP, wS, Nat.reduceEqDiff, reduceIte, Nat.reduceLeDiff, and_self, cond_true, cond_false, Nat.reduceAdd, Nat.reduceMul, e8]) (by simp only [↓wP, wS, Nat.reduceEqDiff, reduceIte, Nat.reduceLeDiff, and_self, cond_true, cond_false, Nat.reduceAdd, Nat.reduceMul, e9]) (by simp only [↓wP, wS, Nat.reduceEqDiff, reduceIte, Nat.reduceLeDiff, and_self, cond_true, cond_false, Nat.reduceAdd, Nat.reduceMul, e10]) (by simp only [↓wP, wS, Nat.reduceEqDiff, reduceIte, Nat.reduceLeDiff, and_self, cond_true, cond_false, Nat.reduceAdd, Nat.reduceMul, e11]) (by simp only [↓wP, wS, Nat.reduceEqDiff, reduceIte, Nat.reduceLeDiff, and_self, cond_true, cond_false, Nat.reduceAdd, Nat.reduceMul]) (by simp only [↓wP, wS, Nat.reduceEqDiff, reduceIte, Nat.reduceLeDiff, and_self, cond_true, cond_false, Nat.reduceAdd, Nat.reduceMul, q6]) (by simp only [↓wP, wS, Nat.reduceEqDiff, reduceIte, Nat.reduceLeDiff, and_self, cond_true, cond_false, Nat.reduceAdd, Nat.reduceMul, e14])) ?_
      intro fl s' ⟨hfl, hs⟩
      subst hfl
      exact hs
    · rw [if_neg hlc, Int.add_zero] at q6
      refine Code.cond (t := false) (by simp only [↓wP, wS, Nat.reduceEqDiff, reduceIte, Nat.reduceLeDiff, and_self, cond_true, cond_false, Nat.reduceAdd, Nat.reduceMul, hlc, decide_false]) (fun h => by cases h) (fun _ => Code.skip ?_)
      refine Code.mono (fin _ (by simp only [↓wP, wS, Nat.reduceEqDiff, reduceIte, Nat.reduceLeDiff, and_self, cond_true, cond_false, Nat.reduceAdd, Nat.reduceMul, e8]) (by simp only [↓wP, wS, Nat.reduceEqDiff, reduceIte, Nat.reduceLeDiff, and_self, cond_true, cond_false, Nat.reduceAdd, Nat.reduceMul, e9]) (by simp only [↓wP, wS, Nat.reduceEqDiff, reduceIte, Nat.reduceLeDiff, and_self, cond_true, cond_false, Nat.reduceAdd, Nat.reduceMul, e10]) (by simp only [↓wP, wS, Nat.reduceEqDiff, reduceIte, Nat.reduceLeDiff, and_self, cond_true, cond_false, Nat.reduceAdd, Nat.reduceMul, e11]) (by simp only [↓wP, wS, Nat.reduceEqDiff, reduceIte, Nat.reduceLeDiff, and_self, cond_true, cond_false, Nat.reduceAdd, Nat.reduceMul]) (by simp only [↓wP, wS, Nat.reduceEqDiff, reduceIte, Nat.reduceLeDiff, and_self, cond_true, cond_false, Nat.reduceAdd, Nat.reduceMul, e13, q6]) (by simp only [↓wP, wS, Nat.reduceEqDiff, reduceIte, Nat.reduceLeDiff, and_self, cond_true, cond_false, Nat.reduceAdd, Nat.reduceMul, e14])) ?_
      intro fl s' ⟨hfl, hs⟩
      subst hfl
      exact hs

theorem whole_call (TT : Tab F G) {h : Hp} (hf : FzLt h) {av : Value} {ds : List Deed} (A : ArgAt h av ds) {r c : Int} : Call F G 7 [i64 r, i64 c, av] h fun v _ => v = .bool true := by
  refine Call.enter (TT.g _ _ (by decide)) TT.f7 (Nat.le_of_ble_eq_true rfl) ?_
  simp only [c7, envOf]
  refine Code.seq (Code.ops ?_)
  simp only [s7_0, ↓wP, wS, Nat.reduceEqDiff, reduceIte, Nat.reduceLeDiff, and_self, cond_true, cond_false, Nat.reduceAdd, Nat.reduceMul]
  refine Code.seq (Code.ops ?_)
  simp only [s7_1, ↓wP, wS, Nat.reduceEqDiff, reduceIte, Nat.reduceLeDiff, and_self, cond_true, cond_false, Nat.reduceAdd, Nat.reduceMul]
  refine played_call TT hf A fun S bt bx h1 inv D k1 hb1 => ?_
  simp only [↓wP, wS, Nat.reduceEqDiff, reduceIte, Nat.reduceLeDiff, and_self, cond_true, cond_false, Nat.reduceAdd, Nat.reduceMul]
  have hf1 := k1.fzLt hf
  have hl16 := inv.le
  have hal := inv.alen
  have hwl := winsOf_len (area S)
  obtain ⟨p1, p2, p3⟩ := whole_law inv
  refine Code.seq (Code.seq (Code.ops ?_))
  simp only [s7_2, ↓wP, wS, Nat.reduceEqDiff, reduceIte, Nat.reduceLeDiff, and_self, cond_true, cond_false, Nat.reduceAdd, Nat.reduceMul]
  refine Code.cond (t := false) (by simp only [↓wP, wS, Nat.reduceEqDiff, reduceIte, Nat.reduceLeDiff, and_self, cond_true, cond_false, Nat.reduceAdd, Nat.reduceMul]) (fun h => by cases h) (fun _ => Code.skip ?_)
  refine Code.seq (Code.ops ?_)
  simp only [s7_4, ↓wP, wS, Nat.reduceEqDiff, reduceIte, Nat.reduceLeDiff, and_self, cond_true, cond_false, Nat.reduceAdd, Nat.reduceMul]
  refine size_call TT D.t ?_
  simp only [↓wP, wS, Nat.reduceEqDiff, reduceIte, Nat.reduceLeDiff, and_self, cond_true, cond_false, Nat.reduceAdd, Nat.reduceMul]
  refine Code.seq (Code.ops ?_)
  simp only [s7_5, ↓wP, wS, Nat.reduceEqDiff, reduceIte, Nat.reduceLeDiff, and_self, cond_true, cond_false, Nat.reduceAdd, Nat.reduceMul]
  refine wins_call TT hf1 D.t inv.ok fun rv h2 k2 w2 => ?_
  obtain ⟨rb, rfl, u1, u2, u3⟩ := w2
  have hf2 := k2.fzLt hf1
  simp only [↓wP, wS, Nat.reduceEqDiff, reduceIte, Nat.reduceLeDiff, and_self, cond_true, cond_false, Nat.reduceAdd, Nat.reduceMul]
  refine Code.seq (Code.ops ?_)
  simp only [s7_6, ↓wP, wS, Nat.reduceEqDiff, reduceIte, Nat.reduceLeDiff, and_self, cond_true, cond_false, Nat.reduceAdd, Nat.reduceMul]
  have hst : 0 ≤ stOf (winsOf (area S)) ∧ stOf (winsOf (area S)) ≤ 1 := by unfold stOf; split <;> omega
  have main : ∀ e : Env, e.get 8 = some (i64 S.rows) → e.get 9 = some (i64 S.cols) → e.get 10 = some (sl rb 0 (winsOf (area S)).length 0) → e.get 11 = some (i64 (stOf (winsOf (area S)))) →
      Code F G (.seq (.ops s7_9) (.seq (.seq (.ops s7_10) (.block 0 (.loop b7_17))) (.seq (.ops s7_18) (.ret)))) ⟨e, h2⟩ fun fl s => (match fl with | .exit _ => False | _ => True) ∧ ∃ vs, resVs s.e s.h [.tmp 6] = some vs ∧ pack vs = .bool true := by
    intro e w8 w9 w10 w11
    refine Code.seq (Code.ops ?_)
    simp only [s7_9, ↓wP, wS, Nat.reduceEqDiff, reduceIte, Nat.reduceLeDiff, and_self, cond_true, cond_false, Nat.reduceAdd, Nat.reduceMul]
    refine Code.seq (Code.seq (Code.ops ?_))
    simp only [s7_10, ↓wP, wS, Nat.reduceEqDiff, reduceIte, Nat.reduceLeDiff, and_self, cond_true, cond_false, Nat.reduceAdd, Nat.reduceMul]
    refine Code.block (whole_loop TT hf2 (R := S.rows) (C := S.cols) hst (by have := inv.cc; omega) (by omega) p1 u2 u3 (winsOf (area S)).length 0 _ (by omega) ⟨by simp only [↓wP, wS, Nat.reduceEqDiff, reduceIte, Nat.reduceLeDiff, and_self, cond_true, cond_false, Nat.reduceAdd, Nat.reduceMul, w8], by simp only [↓wP, wS, Nat.reduceEqDiff, reduceIte, Nat.reduceLeDiff, and_self, cond_true, cond_false, Nat.reduceAdd, Nat.reduceMul, w9], by simp only [↓wP, wS, Nat.reduceEqDiff, reduceIte, Nat.reduceLeDiff, and_self, cond_true, cond_false, Nat.reduceAdd, Nat.reduceMul, w10], by simp only [↓wP, wS, Nat.reduceEqDiff, reduceIte, Nat.reduceLeDiff, and_self, cond_true, cond_false, Nat.reduceAdd, Nat.reduceMul, w11], by simp only [↓wP, wS, Nat.reduceEqDiff, reduceIte, Nat.reduceLeDiff, and_self, cond_true, cond_false, Nat.reduceAdd, Nat.reduceMul]; rfl, by simp only [↓wP, wS, Nat.reduceEqDiff, reduceIte, Nat.reduceLeDiff, and_self, cond_true, cond_false, Nat.reduceAdd, Nat.reduceMul]; rfl, by simp only [↓wP, wS, Nat.reduceEqDiff, reduceIte, Nat.reduceLeDiff, and_self, cond_true, cond_false, Nat.reduceAdd, Nat.reduceMul]; rfl, Kp.refl⟩ fun s1 I1 => ?_)
    simp only [if_true]
    obtain ⟨e', h3⟩ := s1
    obtain ⟨q8, q9, q10, q11, q12, q13, _, _⟩ := I1
    simp only at q8 q9 q12 q13
    rw [List.take_length] at q12 q13
    obtain ⟨r1, r2, r3, r4⟩ := sum_range (stOf (winsOf (area S))) S.cols (winsOf (area S)) p1
    have hrr := inv.rr
    have hcc := inv.cc
    have c1 : 0 ≤ (S.rows - 1) * S.cols := Int.mul_nonneg (by omega) (by omega)
    have c2 : (S.rows - 1) * S.cols ≤ 500 * 1000 := Int.mul_le_mul (by omega) (by omega) (by omega) (by omega)
    have v1 : w64 (S.rows - 1) = S.rows - 1 := w64_id (by omega) (by omega)
    have v2 : w64 ((S.rows - 1) * S.cols) = (S.rows - 1) * S.cols := w64_id (by omega) (by omega)
    have v3 : w64 (sumA (stOf (winsOf (area S))) (winsOf (area S)) + sumC (stOf (winsOf (area S))) S.cols (winsOf (area S))) = sumA (stOf (winsOf (area S))) (winsOf (area S)) + sumC (stOf (winsOf (area S))) S.cols (winsOf (area S)) := w64_id (by omega) (by omega)
    refine Code.seq (Code.ops ?_)
    simp only [s7_18, ↓wP, wS, Nat.reduceEqDiff, reduceIte, Nat.reduceLeDiff, and_self, cond_true, cond_false, Nat.reduceAdd, Nat.reduceMul, q8, q9, q12, q13, v1, v2, v3, p2, p3, decide_true]
    refine Call.known TT.g14 ?_
    simp only [↓wP, wS, Nat.reduceEqDiff, reduceIte, Nat.reduceLeDiff, and_self, cond_true, cond_false, Nat.reduceAdd, Nat.reduceMul]
    refine Code.ret ?_
    simp only [resVs, resV, pack, ↓wP, wS, Nat.reduceEqDiff, reduceIte, Nat.reduceLeDiff, and_self, cond_true, cond_false, Nat.reduceAdd, Nat.reduceMul]
    exact ⟨trivial, _, rfl, rfl⟩
  refine Code.seq (Code.seq (Code.ops ?_))
  simp only [s7_7, ↓wP, wS, Nat.reduceEqDiff, reduceIte, Nat.reduceLeDiff, and_self, cond_true, cond_false, Nat.reduceAdd, Nat.reduceMul]
  by_cases h1l : ((winsOf (area S)).length : Int) = 1
  · have hs : stOf (winsOf (area S)) = 0 := by unfold stOf; rw [if_pos h1l]
    rw [hs] at main
    refine Code.cond (t := true) (by simp only [↓wP, wS, Nat.reduceEqDiff, reduceIte, Nat.reduceLeDiff, and_self, cond_true, cond_false, Nat.reduceAdd, Nat.reduceMul, h1l, decide_true]) (fun _ => Code.ops ?_) (fun h => by cases h)
    simp only [s7_8, ↓wP, wS, Nat.reduceEqDiff, reduceIte, Nat.reduceLeDiff, and_self, cond_true, cond_false, Nat.reduceAdd, Nat.reduceMul]
    exact main _ (by simp only [↓wP, wS, Nat.reduceEqDiff, reduceIte, Nat.reduceLeDiff, and_self, cond_true, cond_false, Nat.reduceAdd, Nat.reduceMul]) (by simp only [↓wP, wS, Nat.reduceEqDiff, reduceIte, Nat.reduceLeDiff, and_self, cond_true, cond_false, Nat.reduceAdd, Nat.reduceMul]) (by simp only [↓wP, wS, Nat.reduceEqDiff, reduceIte, Nat.reduceLeDiff, and_self, cond_true, cond_false, Nat.reduceAdd, Nat.reduceMul]) (by simp only [↓wP, wS, Nat.reduceEqDiff, reduceIte, Nat.reduceLeDiff, and_self, cond_true, cond_false, Nat.reduceAdd, Nat.reduceMul])
  · have hs : stOf (winsOf (area S)) = 1 := by unfold stOf; rw [if_neg h1l]
    rw [hs] at main
    refine Code.cond (t := false) (by simp only [↓wP, wS, Nat.reduceEqDiff, reduceIte, Nat.reduceLeDiff, and_self, cond_true, cond_false, Nat.reduceAdd, Nat.reduceMul, h1l, decide_false]) (fun h => by cases h) (fun _ => Code.skip ?_)
    exact main _ (by simp only [↓wP, wS, Nat.reduceEqDiff, reduceIte, Nat.reduceLeDiff, and_self, cond_true, cond_false, Nat.reduceAdd, Nat.reduceMul]) (by simp only [↓wP, wS, Nat.reduceEqDiff, reduceIte, Nat.reduceLeDiff, and_self, cond_true, cond_false, Nat.reduceAdd, Nat.reduceMul]) (by simp only [↓wP, wS, Nat.reduceEqDiff, reduceIte, Nat.reduceLeDiff, and_self, cond_true, cond_false, Nat.reduceAdd, Nat.reduceMul]) (by simp only [↓wP, wS, Nat.reduceEqDiff, reduceIte, Nat.reduceLeDiff, and_self, cond_true, cond_false, Nat.reduceAdd, Nat.reduceMul])
end
end Go.Eng
